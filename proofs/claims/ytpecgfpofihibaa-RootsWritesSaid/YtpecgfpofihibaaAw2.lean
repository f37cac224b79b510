/-
  nvm.Crash, by a choice of 0, over an empty queue; tumuluslaw02.Awake.
-/
import Derived.Test.YtpecgfpofihibaaAw1
import Derived.Test.YtpecgfpofihibaaFmd
namespace Go.Proofs.Ytpecgfpofihibaa
open Go Go.RowKit Go.MapKept

set_option maxHeartbeats 400000 in
theorem aw2_zero (i : Int) (w : World) : Calls Try.prog 111 #[.int .i64 i] w fun e w' => e = .returned (.int .u8 0) ∧ w = w' := by
  go_enter Try.func111, Try.ntmps111
  go_wp2
  go_ret
  exact ⟨rfl, rfl⟩

/-- Nothing of an empty queue. -/
theorem lookup_none {w : World} {q : Nat} {ck : Nat} (n : Int) (hq : Is w q (.map #[] ck)) :
    (Instr.lookup 129 (.map (some q)) (.int .i64 n) true).run Try.prog w = .ok (.tuple #[.agg #[.int .u64 0, .int .u64 0, .int .u64 0, .int .u64 0, .int .u64 0, .int .u64 0, .int .u64 0, .int .u64 0], .bool false]) w := by
  have hm : Try.prog.underlying 129 = some (.map 3 148) := Try.underlying129
  have hd : Try.prog.underlying 3 = some (.int .i64) := Try.underlying3
  have hk : IsKey (.int .i64) (.int .i64 n) := rfl
  have hz : ∀ w, (zeroValue 148).run Try.prog w = .ok (.agg #[.int .u64 0, .int .u64 0, .int .u64 0, .int .u64 0, .int .u64 0, .int .u64 0, .int .u64 0, .int .u64 0]) w := fun w => by kernel_rfl
  have hf : Instr.findNow (.int .i64) (.int .i64 n) [] 0 = some none := rfl
  simp [Instr.lookup, run_underlying hm, MapKept.run_getObj_map hq, run_checkKey hd hk, run_findKey hd hf, hz, Result.andThen]

theorem QRel.empty {es : Array MapEntry} {ck N : Nat} (h : QRel es ck N fun _ => none) : es = #[] := by
  apply Array.eq_empty_of_size_eq_zero
  rcases Nat.eq_zero_or_pos es.size with h0 | h0
  · exact h0
  · obtain ⟨n, l, _, hn, _⟩ := h.reads es[0] (by simp)
    cases hn

/-- The device behind a crash by a choice of 0, nothing in its queue. -/
def DevS.crash0 (D : DevS) : DevS := { D with now := D.kept }

theorem Dev.crash0 {w : World} {h : DevH} {D : DevS} (hd : Dev w h D) :
    ∃ w', (∀ ty, (Builtin.copy_ #[25, 25] ty #[.slice (some ⟨h.now, 0, none⟩) D.now.length D.now.length, .slice (some ⟨h.kept, 0, none⟩) D.now.length h.kc]).run Try.prog w = .ok (.int .i64 D.now.length) w') ∧
      Dev w' h D.crash0 ∧ Left h.lo h.hi w w' := by
  have hkl := hd.dok.len
  obtain ⟨rest, hk, hkc⟩ := hd.kept
  have hr1 : Row w h.now D.now.length D.now := ⟨[], by simpa using hd.now, by simp⟩
  have hr2 : Row w h.kept h.kc D.kept := ⟨rest, hk, by omega⟩
  obtain ⟨w', h1, h2, h3⟩ := copy_u64 w h.now D.now.length h.kept h.kc D.now D.kept hr1 hr2 (by omega)
  have hnil : D.now.drop D.kept.length = [] := by rw [hkl]; simp
  rw [hnil, List.append_nil, ← hkl] at h2
  have h2' := h2.exact
  rw [hkl] at h1
  unfold slv at h1
  have g := hd.hok
  have n1 := g.n1
  have n2 := g.n2
  have n3 := g.n3
  obtain ⟨d1, ⟨u, d2⟩, _, _, ⟨es, ck, d5, hq⟩, hh, hD, ht⟩ := hd
  refine ⟨w', h1, ⟨?_, ⟨u, d2.left h3 (by omega)⟩, h2', ⟨rest, hk.left h3 (by omega), ?_⟩, ⟨es, ck, d5.left h3 (by omega), ?_⟩, hh, ?_, Nat.le_trans ht h3.size⟩, h3.mono (by have := g.r3; omega) (by have := g.r3; omega)⟩
  · show Is w' h.d (.cells #[_, .slice _ D.kept.length D.kept.length, .slice _ D.kept.length h.kc, _] _ _)
    rw [hkl]
    exact d1.left h3 (by omega)
  · show D.kept.length + _ = _
    omega
  · show QRel es ck D.kept.length D.que
    rw [hkl]; exact hq
  · exact ⟨rfl, by show 8 ≤ D.kept.length; rw [hkl]; exact hD.pos, by show D.kept.length % 8 = 0; rw [hkl]; exact hD.line, by show D.kept.length ≤ _; rw [hkl]; exact hD.small, hD.wk, hD.wk⟩

set_option maxHeartbeats 2000000 in
theorem crash_zero (h : DevH) (now kept : List Int) (w : World) (hd : Dev w h ⟨now, kept, fun _ => none⟩) :
    Calls Try.prog 110 #[h.ptr, .func (.func 111) #[] #[]] w fun e w' => e = .returned (.tuple #[]) ∧ Dev w' h ⟨kept, kept, fun _ => none⟩ ∧ Left h.lo h.hi w w' := by
  have hsm := hd.dok.small
  have htop := hd.top
  obtain ⟨es, ck, hq, hQ⟩ := id hd.que
  have hes := hQ.empty
  subst hes
  clear hQ
  have c1 : w.cell? ⟨h.d, 1, none⟩ = some (.slice (some ⟨h.now, 0, none⟩) now.length now.length) := by rw [hd.dev.cell]; rfl
  simp only at hsm
  unfold DevH.ptr
  go_enter Try.func110, Try.ntmps110
  go_wp2
  clear c1
  go_loopw [12] (fun i wr => ∃ k : Nat, k ≤ now.length ∧ i = .int .i64 k ∧ Dev wr h ⟨now, kept, fun _ => none⟩ ∧ Is wr h.q (.map #[] ck) ∧ Left h.lo h.hi w wr)
    (fun i _ => now.length - (intOf i).toNat)
  case atStart => exact ⟨0, by omega, rfl, hd, hq, Left.refl _ _ _⟩
  case round =>
    obtain ⟨k, hk, rfl, hdr, hqr, hlr⟩ := hrel
    clear hd hq
    by_cases hlt : k < now.length
    · have c3 : wr.cell? ⟨h.d, 3, none⟩ = some (.map (some h.q)) := by rw [hdr.dev.cell]; rfl
      have hlk := lookup_none ((k : Int) / 8) hqr
      go_wp2_with fail
      refine (aw2_zero _ _).mono ?_
      rintro e w2 ⟨rfl, rfl⟩
      have hd2 := hdr.alloc (.cells #[.int .u64 0, .int .u64 0, .int .u64 0, .int .u64 0, .int .u64 0, .int .u64 0, .int .u64 0, .int .u64 0] 148)
      have hq2 := hqr.alloc (.cells #[.int .u64 0, .int .u64 0, .int .u64 0, .int .u64 0, .int .u64 0, .int .u64 0, .int .u64 0, .int .u64 0] 148)
      have hl2 := hlr.alloc (.cells #[.int .u64 0, .int .u64 0, .int .u64 0, .int .u64 0, .int .u64 0, .int .u64 0, .int .u64 0, .int .u64 0] 148)
      clear hlk c3 hdr hqr hlr
      generalize wr.alloc (.cells #[.int .u64 0, .int .u64 0, .int .u64 0, .int .u64 0, .int .u64 0, .int .u64 0, .int .u64 0, .int .u64 0] 148) = w2 at *
      generalize wr.heap.size = b at *
      go_wp2
      go_roundw
      case rel => exact ⟨k + 1, by omega, by go_num, hd2, hq2, hl2⟩
      case measure => simp [intOf]; omega
    · obtain rfl : k = now.length := by omega
      have c3 : wr.cell? ⟨h.d, 3, none⟩ = some (.map (some h.q)) := by rw [hdr.dev.cell]; rfl
      have hcl := fun ty => clear_q ty hqr
      obtain ⟨hd2, hl2⟩ := hdr.clear hqr
      simp only at hd2
      have hl3 := hlr.trans hl2
      clear hdr hqr hlr hl2 hlt hk
      go_wp2_with fail
      clear hcl c3
      generalize ({ wr with heap := wr.heap.setIfInBounds h.q (.map #[] ck) } : World) = w2 at *
      have g1 : w2.cell? ⟨h.d, 1, none⟩ = some (.slice (some ⟨h.now, 0, none⟩) now.length now.length) := by rw [hd2.dev.cell]; rfl
      have g2 : w2.cell? ⟨h.d, 2, none⟩ = some (.slice (some ⟨h.kept, 0, none⟩) now.length h.kc) := by rw [hd2.dev.cell]; rfl
      have G1 := GrW.cell g1
      have G2 := GrW.cell g2
      refine wp_gr_tail 8 (by kernel_rfl) (by kernel_rfl) ?_
      simp only [List.take_succ_cons, List.take_zero, List.drop_succ_cons, List.drop_zero]
      repeat (go_big_quiet_step (fail))
      refine wpQuiet_nil ?_
      rintro w3 ⟨⟨_, hw3⟩, rfl⟩
      have hd3 := hd2.grow hw3
      have hl4 := hl3.trans (Left.of_below hw3)
      obtain ⟨w4, hcp, hd4, hl5⟩ := hd3.crash0
      simp only at hcp
      have hl6 := hl4.trans hl5
      clear g1 g2 G1 G2 hd2 hl3 hw3 hd3 hl4 hl5
      go_wp2_with ((with_reducible refine wpList_copy_run (o := ⟨some 70, _, _, _, _, _⟩) ?z1g ?z1s ?z1x ?z1T ?z1U ?z1o ?z1v ?z1xv ?z1vv ?z1hs ?z1hx ?z1r ?_); case z1o => exact rfl; case z1g => exact rfl; case z1hs => exact rfl; case z1hx => exact rfl; case z1r => exact hcp)
      go_end0
      exact ⟨rfl, hd4, hl6⟩

theorem bel_dev {w w' : World} {h : DevH} {n : Nat} {a : World} (hb : Below n a w) (hl : Left h.lo h.hi w w') (hn : n ≤ h.lo) (hs : n ≤ w.heap.size) : Below n a w' :=
  hb.trans (hl.below hn hs)

set_option maxHeartbeats 1000000 in
theorem awake02 (w : World) :
    Calls Try.prog 108 #[] w fun e w' => e = .returned (.bool true) ∧ Below w.heap.size w w' := by
  go_enter Try.func108, Try.ntmps108
  go_wp2_with fail
  refine (awake01 _).mono ?_
  rintro e w1 ⟨rfl, hb1⟩
  go_wp2_with fail
  have hr : Row (w1.alloc (.cells #[.int .u64 1] 38)) w1.heap.size 1 [1] := ⟨[], Is.new _ _, rfl⟩
  have hb2 : Below w.heap.size w (w1.alloc (.cells #[.int .u64 1] 38)) := hb1.alloc hb1.size _
  have hN := law_new w1.heap.size 1 [1] _ hr (by simp) (by simp) (by simp [u64_1])
  unfold slv at hN
  simp only [List.length_cons, List.length_nil] at hN
  clear hr hb1
  generalize w1.alloc (.cells #[.int .u64 1] 38) = w2 at *
  generalize w1.heap.size = b at *
  refine hN.mono ?_
  rintro e w3 ⟨h, rfl, hd3, hlo, hhi, hb3⟩
  clear hN
  have hb4 := Below.grown_trans hb2 hb3
  have hlo' : w.heap.size ≤ h.lo := by rw [hlo]; exact hb2.size
  have hd3 : Dev w3 h ⟨[1, 0, 0, 0, 0, 0, 0, 0], [1, 0, 0, 0, 0, 0, 0, 0], fun _ => none⟩ := hd3
  clear hlo hhi hb2 hb3
  unfold DevH.ptr
  go_wp2_with fail
  refine (store_any h _ 0 5 _ hd3 (by decide) (by decide) ⟨by decide, by decide⟩).mono ?_
  rintro e w4 ⟨rfl, hd4, hl4⟩
  have hd4 : Dev w4 h ⟨[5, 0, 0, 0, 0, 0, 0, 0], [1, 0, 0, 0, 0, 0, 0, 0], fun _ => none⟩ := hd4
  have hb5 := bel_dev hb4 hl4 hlo' hb4.size
  clear hd3 hb4 hl4
  go_wp2_with fail
  refine (load_any h _ 0 _ hd4).mono ?_
  rintro e w5 ⟨rfl, rfl⟩
  have e1 : rd [5, 0, 0, 0, 0, 0, 0, 0] 0 = 5 := rfl
  simp only [e1]
  go_wp2_with fail
  refine (crash_zero h _ _ _ hd4).mono ?_
  rintro e w5 ⟨rfl, hd5, hl5⟩
  have hb6 := bel_dev hb5 hl5 hlo' hb5.size
  clear hd4 hb5 hl5 e1
  go_wp2_with fail
  refine (load_any h _ 0 _ hd5).mono ?_
  rintro e w6 ⟨rfl, rfl⟩
  have e1 : rd [1, 0, 0, 0, 0, 0, 0, 0] 0 = 1 := rfl
  simp only [e1]
  go_wp2_with fail
  refine (len_any h _ _ hd5).mono ?_
  rintro e w6 ⟨rfl, rfl⟩
  simp only [List.length_cons, List.length_nil]
  go_wp2_with fail
  go_ret
  exact ⟨rfl, hb6⟩
end Go.Proofs.Ytpecgfpofihibaa
