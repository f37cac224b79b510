import Derived.Test.YtpecgfpofihibaaNvm
import Derived.Test.YtpecgfpofihibaaMapQ
namespace Go.Proofs.Ytpecgfpofihibaa
open Go Go.RowKit Go.MapKept

/-- Line n of the words. -/
def lineOf (l : List Int) (n : Nat) : List Int := (l.drop (8 * n)).take 8

/-- The device behind a flush. -/
def DevS.flush (D : DevS) (i : Int) : DevS := { D with que := updQ D.que (i.toNat / 8) (lineOf D.now (i.toNat / 8)) }

theorem drop_take8 (l : List Int) (o : Nat) (h : o + 8 ≤ l.length) : ∃ a0 a1 a2 a3 a4 a5 a6 a7, (l.drop o).take 8 = [a0, a1, a2, a3, a4, a5, a6, a7] ∧
    (u64s l)[o]? = some (.int .u64 a0) ∧ (u64s l)[o + 1]? = some (.int .u64 a1) ∧ (u64s l)[o + 2]? = some (.int .u64 a2) ∧ (u64s l)[o + 3]? = some (.int .u64 a3) ∧
    (u64s l)[o + 4]? = some (.int .u64 a4) ∧ (u64s l)[o + 5]? = some (.int .u64 a5) ∧ (u64s l)[o + 6]? = some (.int .u64 a6) ∧ (u64s l)[o + 7]? = some (.int .u64 a7) := by
  refine ⟨l[o], l[o + 1], l[o + 2], l[o + 3], l[o + 4], l[o + 5], l[o + 6], l[o + 7], ?_, u64s_get _ _ _, u64s_get _ _ _, u64s_get _ _ _, u64s_get _ _ _, u64s_get _ _ _, u64s_get _ _ _, u64s_get _ _ _, u64s_get _ _ _⟩
  apply List.ext_getElem
  · simp; omega
  · intro i h1 h2
    simp only [List.length_cons, List.length_nil] at h2
    simp only [List.getElem_take, List.getElem_drop]
    match i, h2 with
    | 0, _ => rfl
    | 1, _ => rfl
    | 2, _ => rfl
    | 3, _ => rfl
    | 4, _ => rfl
    | 5, _ => rfl
    | 6, _ => rfl
    | 7, _ => rfl

theorem arrayAt8 (a : Addr) (c : Nat) (w : World) : (Instr.arrayAt 148 (.slice (some a) 8 c)).run Try.prog w = .ok (.pointer (some a)) w := by
  have hm : Try.prog.underlying 148 = some (.array 8 38) := Try.underlying148
  simp [Instr.arrayAt, run_underlying hm, Result.andThen]

theorem lineOf_wf {l : List Int} {n : Nat} (h : ∀ x ∈ l, U64 x) : ∀ x ∈ lineOf l n, U64 x :=
  fun x hx => h x (List.mem_of_mem_drop (List.mem_of_mem_take hx))

theorem Dev.flush {w : World} {h : DevH} {D : DevS} (hd : Dev w h D) (k : Nat) (hn : (k : Int) < D.now.length) :
    ∃ w', (Instr.mapUpdate 129 (.map (some h.q)) (.int .i64 ((k / 8 : Nat) : Int)) (.agg (u64s (lineOf D.now (k / 8))).toArray)).run Try.prog w = .ok () w' ∧ Dev w' h (D.flush k) ∧ Left h.lo h.hi w w' := by
  obtain ⟨es, ck, hq, hQ⟩ := hd.que
  have hmod := hd.dok.line
  have hlt : 8 * (k / 8) + 8 ≤ D.now.length := by omega
  obtain ⟨es', ck', hrun, hQ'⟩ := mapUpdate_q (k / 8) (lineOf D.now (k / 8)) hq hQ (by simp [lineOf]; omega) hlt (lineOf_wf hd.dok.wn)
  refine ⟨_, hrun, ?_⟩
  have hother : ∀ b o, b ≠ h.q → Is w b o → Is { w with heap := w.heap.setIfInBounds h.q (.map es' ck') } b o := fun b o hb ho => ((heap_set (w := w) hq).2 b hb).trans ho
  obtain ⟨h1, ⟨u0, h2⟩, h3, ⟨r, h4, hr⟩, _, hh, hD, ht⟩ := hd
  have g := hh
  obtain ⟨_, _, _, _, _, n1, n2, n3⟩ := g
  refine ⟨⟨hother _ _ n1.2.2.2 h1, ⟨u0, hother _ _ n2.2.2 h2⟩, hother _ _ n3.2.1 h3, ⟨r, hother _ _ n3.2.2 h4, hr⟩, ⟨es', ck', (heap_set (w := w) hq).1, hQ'⟩, hh, ⟨hD.len, hD.pos, hD.line, hD.small, hD.wn, hD.wk⟩, by simpa using ht⟩, ?_⟩
  exact ⟨rfl, rfl, rfl, by simp, fun b _ hb => (heap_set (w := w) hq).2 b (by have := hh.r5; omega)⟩

set_option maxHeartbeats 1000000 in
theorem flush_any (h : DevH) (D : DevS) (i : Int) (w : World) (hd : Dev w h D) (h0 : 0 ≤ i) (hn : i < D.now.length) :
    Calls Try.prog 77 #[h.ptr, .int .i64 i] w fun e w' => e = .returned (.int .i64 0) ∧ Dev w' h (D.flush i) ∧ Left h.lo h.hi w w' := by
  obtain ⟨k, rfl⟩ := Int.eq_ofNat_of_zero_le h0
  obtain ⟨u, hp⟩ := hd.pow
  have c0 : w.cell? ⟨h.d, 0, none⟩ = some (.pointer (some ⟨h.p, 0, none⟩)) := by rw [hd.dev.cell]; rfl
  have c1 : w.cell? ⟨h.d, 1, none⟩ = some (.slice (some ⟨h.now, 0, none⟩) D.now.length D.now.length) := by rw [hd.dev.cell]; rfl
  have hsm := hd.dok.small
  have Hh := has_yes h.d _ _ _ k w c1 h0 hn
  unfold DevH.ptr
  go_enter Try.func77, Try.ntmps77
  go_wp2_with fail
  refine Hh.mono ?_
  rintro e w' ⟨rfl, rfl⟩
  clear Hh
  go_wp2_with fail
  refine (tick_any h.p u w hp).mono ?_
  rintro e w1 ⟨rfl, m, u', rfl⟩
  have hd1 := hd.tick m u'
  have hl1 := hd.left_tick m u'
  clear c0 c1 hp
  generalize (w.drewN m).setCell ⟨h.p, 1, none⟩ (.int .i64 u') = w1 at *
  have c1 : w1.cell? ⟨h.d, 1, none⟩ = some (.slice (some ⟨h.now, 0, none⟩) D.now.length D.now.length) := by rw [hd1.dev.cell]; rfl
  have c3 : w1.cell? ⟨h.d, 3, none⟩ = some (.map (some h.q)) := by rw [hd1.dev.cell]; rfl
  have hmod := hd.dok.line
  have hlt : k / 8 * 8 + 8 ≤ D.now.length := by omega
  obtain ⟨a0, a1, a2, a3, a4, a5, a6, a7, hL, e0, e1, e2, e3, e4, e5, e6, e7⟩ := drop_take8 D.now (k / 8 * 8) hlt
  have hnow := hd1.now
  have d0 := (hnow.cell (i := k / 8 * 8)).trans (by rw [List.getElem?_toArray, e0])
  have d1 := (hnow.cell (i := k / 8 * 8 + 1)).trans (by rw [List.getElem?_toArray, e1])
  have d2 := (hnow.cell (i := k / 8 * 8 + 2)).trans (by rw [List.getElem?_toArray, e2])
  have d3 := (hnow.cell (i := k / 8 * 8 + 3)).trans (by rw [List.getElem?_toArray, e3])
  have d4 := (hnow.cell (i := k / 8 * 8 + 4)).trans (by rw [List.getElem?_toArray, e4])
  have d5 := (hnow.cell (i := k / 8 * 8 + 5)).trans (by rw [List.getElem?_toArray, e5])
  have d6 := (hnow.cell (i := k / 8 * 8 + 6)).trans (by rw [List.getElem?_toArray, e6])
  have d7 := (hnow.cell (i := k / 8 * 8 + 7)).trans (by rw [List.getElem?_toArray, e7])
  go_wp2_with fail
  have g1 := GrW.cell c1
  have g3 := GrW.cell c3
  have g := fun x : GrW w1 => And.intro (x.cell d0) (And.intro (x.cell d1) (And.intro (x.cell d2) (And.intro (x.cell d3) (And.intro (x.cell d4) (And.intro (x.cell d5) (And.intro (x.cell d6) (x.cell d7)))))))
  clear e0 e1 e2 e3 e4 e5 e6 e7 hnow hmod d0 d1 d2 d3 d4 d5 d6 d7
  have hl8 : (k / 8 + 1) * 8 - k / 8 * 8 = 8 := by omega
  have hA8 := arrayAt8
  refine wp_gr_tail 17 (by kernel_rfl) (by kernel_rfl) ?_
  simp only [List.take_succ_cons, List.take_zero, List.drop_succ_cons, List.drop_zero]
  repeat (go_big_quiet_step (fail))
  refine wpQuiet_nil ?_
  rintro w2 ⟨⟨_, hw2⟩, rfl⟩
  have hd2 := hd1.grow hw2
  have hl2 := hl1.trans (Left.of_below hw2)
  clear g g1 g3 c1 c3 hd1 hl1 hw2 hl8 hA8
  obtain ⟨w3, hrun, hd3, hl3⟩ := hd2.flush k hn
  have hl3 := hl2.trans hl3
  rw [lineOf, Nat.mul_comm 8, hL] at hrun
  simp only [Int.natCast_ediv, show ((8 : Nat) : Int) = 8 from rfl, u64s, List.map_cons, List.map_nil, u64v] at hrun
  clear hL hd2 hl2 hd hn hlt hsm
  go_wp2
  go_ret
  exact ⟨rfl, hd3, hl3⟩
end Go.Proofs.Ytpecgfpofihibaa
