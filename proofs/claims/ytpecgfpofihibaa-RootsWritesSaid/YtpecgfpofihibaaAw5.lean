/-
  super.Read; the fixed fact of law 5.
-/
import Derived.Test.YtpecgfpofihibaaAw3
import Derived.Test.YtpecgfpofihibaaSync
namespace Go.Proofs.Ytpecgfpofihibaa
open Go Go.RowKit Go.MapKept

set_option maxHeartbeats 1000000 in
/-- Read, of what is no heap. -/
theorem read_magic (h : DevH) (D : DevS) (w : World) (hd : Dev w h D) (hm : rd D.now 0 ≠ magic) :
    Calls Try.prog 99 #[h.ptr] w fun e w' => e = .returned (.tuple #[.agg #[.int .i64 0, .int .i64 0, .int .i64 0], .int .i64 7]) ∧ Below w.heap.size w w' := by
  have hm' : rd D.now 0 ≠ 6076848300954571569 := hm
  have hd1 := hd.alloc (.cells #[.int .i64 0, .int .i64 0, .int .i64 0] 29)
  have hl := load_any h D 0 _ hd1
  have i1 := Is.new w (.cells #[.int .i64 0, .int .i64 0, .int .i64 0] 29)
  have b1 : Below w.heap.size w (w.alloc (.cells #[.int .i64 0, .int .i64 0, .int .i64 0] 29)) := (Below.refl _ _).alloc (Nat.le_refl _) _
  generalize rd D.now 0 = x at *
  clear hd hm hd1
  unfold DevH.ptr at hl ⊢
  go_enter Try.func99, Try.ntmps99
  go_wp2_with fail
  generalize w.alloc (.cells #[.int .i64 0, .int .i64 0, .int .i64 0] 29) = w1 at *
  refine hl.mono ?_
  rintro e w2 ⟨rfl, rfl⟩
  clear hl
  obtain ⟨c0, c1, c2⟩ := i1.c3
  have q0 : w1.frozen? ⟨w.heap.size, 0, none⟩ = false := i1.free
  have q1 : w1.frozen? ⟨w.heap.size, 1, none⟩ = false := i1.free
  have q2 : w1.frozen? ⟨w.heap.size, 2, none⟩ = false := i1.free
  have s1 := ((i1.set (i := 0) (.int .i64 0)).set (i := 1) (.int .i64 0)).set (i := 2) (.int .i64 0)
  simp only [List.setIfInBounds_toArray, List.set_cons_zero, List.set_cons_succ] at s1
  have s2 := ((b1.setCell (p := ⟨w.heap.size, 0, none⟩) (Nat.le_refl _) (.int .i64 0)).setCell (p := ⟨w.heap.size, 1, none⟩) (Nat.le_refl _) (.int .i64 0)).setCell (p := ⟨w.heap.size, 2, none⟩) (Nat.le_refl _) (.int .i64 0)
  go_wp2_with fail
  ((try simp only [Exit.inBlock, Exit.then]); refine bodyPost_ret (results_cell2 rfl _ s1 rfl Try.underlying29 rfl (by kernel_rfl)) rfl ?_)
  exact ⟨rfl, s2⟩

def rdc (c : Cf) (k : Nat) : List Value :=
  match k with
  | 0 => [.int .i64 0, .int .i64 0, .int .i64 0]
  | 1 => [.int .i64 c.L, .int .i64 0, .int .i64 0]
  | 2 => [.int .i64 c.L, .int .i64 c.R, .int .i64 0]
  | _ => [.int .i64 c.L, .int .i64 c.R, .int .i64 c.S]

set_option maxHeartbeats 4000000 in
/-- Read, of a heap. -/
theorem read_any (h : DevH) (D : DevS) (c : Cf) (w : World) (hd : Dev w h D) (hc : c.ok) (h0 : rd D.now 0 = magic) (h1 : rd D.now 1 = c.L) (h2 : rd D.now 2 = c.R) (h3 : rd D.now 3 = c.S) (hn : (D.now.length : Int) = c.words) :
    Calls Try.prog 99 #[h.ptr] w fun e w' => e = .returned (.tuple #[c.val, .int .i64 0]) ∧ Below w.heap.size w w' := by
  have hd1 := hd.alloc (.cells #[.int .i64 0, .int .i64 0, .int .i64 0] 29)
  have k0 := load_any h D 0 _ hd1
  rw [h0] at k0
  have k0' : magic = 6076848300954571569 := rfl
  rw [k0'] at k0
  clear k0' h0
  have H1 := Lib.hid h1
  have H2 := Lib.hid h2
  have H3 := Lib.hid h3
  have HN := Lib.hid hn
  clear h1 h2 h3 hn
  have q1 := hc.l1
  have q2 := hc.l2
  have q3 := hc.r1
  have q4 := hc.r2
  have q5 := hc.s1
  have q6 := hc.s2
  have i1 := Is.new w (.cells #[.int .i64 0, .int .i64 0, .int .i64 0] 29)
  have b1 : Below w.heap.size w (w.alloc (.cells #[.int .i64 0, .int .i64 0, .int .i64 0] 29)) := (Below.refl _ _).alloc (Nat.le_refl _) _
  clear hd
  unfold DevH.ptr at k0 ⊢
  go_enter Try.func99, Try.ntmps99
  go_wp2_with fail
  generalize w.alloc (.cells #[.int .i64 0, .int .i64 0, .int .i64 0] 29) = w1 at *
  refine k0.mono ?_
  rintro e w2 ⟨rfl, rfl⟩
  clear k0
  go_wp2_with fail
  have hd2 := hd1.alloc (.cells #[.int .i64 0, .int .i64 0, .int .i64 0] 161)
  have i2 := i1.alloc (.cells #[.int .i64 0, .int .i64 0, .int .i64 0] 161)
  have l2 := Is.new w1 (.cells #[.int .i64 0, .int .i64 0, .int .i64 0] 161)
  have b2 : Below w.heap.size w (w1.alloc (.cells #[.int .i64 0, .int .i64 0, .int .i64 0] 161)) := b1.alloc b1.size _
  have hlt := i1.lt
  have htop := hd1.top
  clear hd1 i1 b1
  generalize w1.alloc (.cells #[.int .i64 0, .int .i64 0, .int .i64 0] 161) = w2 at *
  generalize w1.heap.size = lb at *
  go_loopw [12] (fun i wr => ∃ k : Nat, k ≤ 3 ∧ i = .int .i64 k ∧ Dev wr h D ∧ Is wr w.heap.size (.cells #[.int .i64 0, .int .i64 0, .int .i64 0] 29 (0, 0)) ∧ Is wr lb (.cells (rdc c k).toArray 161 (0, 0)) ∧ Below w.heap.size w wr)
    (fun i _ => 3 - (intOf i).toNat)
  case atStart => exact ⟨0, by omega, rfl, hd2, i2, l2, b2⟩
  case round =>
    obtain ⟨k, hk, rfl, hdr, ir, lr, br⟩ := hrel
    have hh : k = 0 ∨ k = 1 ∨ k = 2 ∨ k = 3 := by omega
    rcases hh with rfl | rfl | rfl | rfl
    · have ld := load_any h D 1 _ hdr
      rw [H1.out] at ld
      unfold DevH.ptr at ld
      have lc : wr.cell? ⟨lb, 0, none⟩ = some (.int .i64 0) := by rw [lr.cell]; rfl
      have lf : wr.frozen? ⟨lb, 0, none⟩ = false := lr.free
      go_wp2_with fail
      refine ld.mono ?_
      rintro e wx ⟨rfl, rfl⟩
      clear ld
      have hd3 := hdr.set (p := ⟨lb, 0, none⟩) (.inr htop) (.int .i64 c.L)
      have i3 := ir.set_other (p := ⟨lb, 0, none⟩) (by simp; omega) (.int .i64 c.L)
      have l3 := lr.set (i := 0) (.int .i64 c.L)
      have b3 := br.setCell (p := ⟨lb, 0, none⟩) (by simp; omega) (.int .i64 c.L)
      simp only [rdc, List.setIfInBounds_toArray, List.set_cons_zero, List.set_cons_succ] at l3
      clear hdr ir lr br
      go_wp2
      go_roundw
      case rel => exact ⟨1, by omega, by go_num, hd3, i3, l3, b3⟩
      case measure => simp [intOf]
    · have ld := load_any h D 2 _ hdr
      rw [H2.out] at ld
      unfold DevH.ptr at ld
      have lc : wr.cell? ⟨lb, 1, none⟩ = some (.int .i64 0) := by rw [lr.cell]; rfl
      have lf : wr.frozen? ⟨lb, 1, none⟩ = false := lr.free
      go_wp2_with fail
      refine ld.mono ?_
      rintro e wx ⟨rfl, rfl⟩
      clear ld
      have hd3 := hdr.set (p := ⟨lb, 1, none⟩) (.inr htop) (.int .i64 c.R)
      have i3 := ir.set_other (p := ⟨lb, 1, none⟩) (by simp; omega) (.int .i64 c.R)
      have l3 := lr.set (i := 1) (.int .i64 c.R)
      have b3 := br.setCell (p := ⟨lb, 1, none⟩) (by simp; omega) (.int .i64 c.R)
      simp only [rdc, List.setIfInBounds_toArray, List.set_cons_zero, List.set_cons_succ] at l3
      clear hdr ir lr br
      go_wp2
      go_roundw
      case rel => exact ⟨2, by omega, by go_num, hd3, i3, l3, b3⟩
      case measure => simp [intOf]
    · have ld := load_any h D 3 _ hdr
      rw [H3.out] at ld
      unfold DevH.ptr at ld
      have lc : wr.cell? ⟨lb, 2, none⟩ = some (.int .i64 0) := by rw [lr.cell]; rfl
      have lf : wr.frozen? ⟨lb, 2, none⟩ = false := lr.free
      go_wp2_with fail
      refine ld.mono ?_
      rintro e wx ⟨rfl, rfl⟩
      clear ld
      have hd3 := hdr.set (p := ⟨lb, 2, none⟩) (.inr htop) (.int .i64 c.S)
      have i3 := ir.set_other (p := ⟨lb, 2, none⟩) (by simp; omega) (.int .i64 c.S)
      have l3 := lr.set (i := 2) (.int .i64 c.S)
      have b3 := br.setCell (p := ⟨lb, 2, none⟩) (by simp; omega) (.int .i64 c.S)
      simp only [rdc, List.setIfInBounds_toArray, List.set_cons_zero, List.set_cons_succ] at l3
      clear hdr ir lr br
      go_wp2
      go_roundw
      case rel => exact ⟨3, by omega, by go_num, hd3, i3, l3, b3⟩
      case measure => simp [intOf]
    · have lr' : Is wr lb (.cells #[.int .i64 c.L, .int .i64 c.R, .int .i64 c.S] 161 (0, 0)) := lr
      obtain ⟨n0, n1, n2⟩ := lr'.c3
      clear hd2 i2 b2 l2 lr lr' H1 H2 H3
      go_wp2_with fail
      have hd3 := hdr.alloc (.cells #[.int .i64 c.L, .int .i64 c.R, .int .i64 c.S] 29)
      have i3 := ir.alloc (.cells #[.int .i64 c.L, .int .i64 c.R, .int .i64 c.S] 29)
      have b3 : Below w.heap.size w (wr.alloc (.cells #[.int .i64 c.L, .int .i64 c.R, .int .i64 c.S] 29)) := br.alloc br.size _
      have m3 := Is.new wr (.cells #[.int .i64 c.L, .int .i64 c.R, .int .i64 c.S] 29)
      clear hdr ir br n0 n1 n2
      generalize wr.alloc (.cells #[.int .i64 c.L, .int .i64 c.R, .int .i64 c.S] 29) = w3 at *
      generalize wr.heap.size = bb at *
      have G := GrW.c3 m3
      have hv : c.val = .agg #[.int .i64 c.L, .int .i64 c.R, .int .i64 c.S] := rfl
      have k1 := fun w => ccheck_any c w hc
      have k2 : ∀ x : GrW w3, Calls Try.prog 30 #[h.ptr] x.1 fun e w' => e = .returned (.int .i64 c.words) ∧ x.1 = w' := fun x => by have := len_any h D x.1 (hd3.grow x.2); rw [HN.out] at this; exact this
      have k3 := fun w => cwords_any c w hc
      rw [hv] at k1 k3
      unfold DevH.ptr at k2
      clear hv
      refine wp_gr (by kernel_rfl) (by kernel_rfl) ?_
      repeat (go_big_quiet_step (first | (go_at_call 100; exact gr_call (k1 _)) | (go_at_call 30; exact gr_call_same (k2 _)) | (go_at_call 69; exact gr_call (k3 _))))
      refine wpQuiet_nil ?_
      rintro w4 ⟨⟨_, hw4⟩, rfl⟩
      have i4 := i3.grow hw4
      have m4 := m3.grow hw4
      have b4 := Below.grown_trans b3 hw4
      clear G k1 k2 k3 hd3 i3 m3 b3 hw4
      obtain ⟨c0, c1, c2⟩ := m4.c3
      obtain ⟨d0, d1, d2⟩ := i4.c3
      have q0 : w4.frozen? ⟨w.heap.size, 0, none⟩ = false := i4.free
      have q1 : w4.frozen? ⟨w.heap.size, 1, none⟩ = false := i4.free
      have q2 : w4.frozen? ⟨w.heap.size, 2, none⟩ = false := i4.free
      have s1 := ((i4.set (i := 0) (.int .i64 c.L)).set (i := 1) (.int .i64 c.R)).set (i := 2) (.int .i64 c.S)
      simp only [List.setIfInBounds_toArray, List.set_cons_zero, List.set_cons_succ] at s1
      have s2 := ((b4.setCell (p := ⟨w.heap.size, 0, none⟩) (Nat.le_refl _) (.int .i64 c.L)).setCell (p := ⟨w.heap.size, 1, none⟩) (Nat.le_refl _) (.int .i64 c.R)).setCell (p := ⟨w.heap.size, 2, none⟩) (Nat.le_refl _) (.int .i64 c.S)
      clear i4 m4 b4
      go_wp2_with fail
      ((try simp only [Exit.inBlock, Exit.then]); refine bodyPost_ret (results_cell2 rfl _ s1 rfl Try.underlying29 rfl (by kernel_rfl)) rfl ?_)
      exact ⟨rfl, s2⟩

theorem aw5_fmt : (DevS.mk (pad (List.replicate 56 0)) (pad (List.replicate 56 0)) fun _ => none).format c3 = fmtD c3 [] := by
  unfold fmtD fw
  rw [fwk_nil]
  rfl

theorem c3_rd (i : Nat) : rd (fmtD c3 []).now i = fmtAt c3 [] i := by rw [rd_nat, fmtD_at _ _ c3_ok]

set_option maxHeartbeats 1000000 in
theorem awake05 (w : World) :
    Calls Try.prog 73 #[] w fun e w' => e = .returned (.bool true) ∧ Below w.heap.size w w' := by
  go_enter Try.func73, Try.ntmps73
  go_wp2_with fail
  refine (awake04 _).mono ?_
  rintro e w1 ⟨rfl, b1⟩
  obtain ⟨w2, hmk', hr, b2⟩ : ∃ w2, (Instr.makeSlice 25 (.int .i64 56) (.int .i64 56)).run Try.prog w1 = .ok (.slice (some ⟨w1.heap.size, 0, none⟩) 56 56) w2 ∧ Row w2 w1.heap.size 56 (List.replicate 56 0) ∧ Below w.heap.size w w2 :=
    ⟨_, make_u64 w1 56 (by decide), ⟨[], by simpa using Is.new w1 _, by simp⟩, b1.alloc b1.size _⟩
  go_wp2_with ((with_reducible refine wpList_make_run (o := ⟨some 9, _, _, _, _, _⟩) ?z3g ?z3s ?z3x ?z3T ?z3o ?z3v ?z3xv ?z3vv ?z3hs ?z3hx ?z3r ?_); case z3o => exact rfl; case z3g => exact rfl; case z3hs => exact rfl; case z3hx => exact rfl; case z3r => exact hmk')
  clear hmk' b1
  generalize w1.heap.size = b at *
  have hN := law_new b 56 (List.replicate 56 0) w2 hr (by simp) (by simp) (by intro x hx; rw [List.eq_of_mem_replicate hx]; exact u64_0)
  unfold slv at hN
  simp only [List.length_replicate] at hN
  refine hN.mono ?_
  rintro e w3 ⟨h, rfl, hd3, hlo, hhi, d3⟩
  have b3 := Below.grown_trans b2 d3
  have hlo' : w.heap.size ≤ h.lo := by rw [hlo]; exact b2.size
  clear hN hr b2 d3 hlo hhi
  have k1 := fun w (hd : Dev w h (DevS.mk (pad (List.replicate 56 0)) (pad (List.replicate 56 0)) fun _ => none)) => read_magic h _ w hd (show rd (pad (List.replicate 56 0)) 0 ≠ magic by decide)
  have k2 := fun w (hd : Dev w h (DevS.mk (pad (List.replicate 56 0)) (pad (List.replicate 56 0)) fun _ => none)) => format_any h _ c3 w hd c3_ok (by decide)
  have k3 := fun w (hd : Dev w h (fmtD c3 [])) => read_any h _ c3 w hd c3_ok (c3_rd 0) (c3_rd 1) (c3_rd 2) (c3_rd 3) (by rw [fmtD_len]; decide)
  have k4 := fun w => cwords_any c3 w c3_ok
  have hv : c3.val = .agg #[.int .i64 3, .int .i64 1, .int .i64 8] := rfl
  have hw : c3.words = 56 := rfl
  rw [hv] at k2 k3 k4
  rw [hw] at k4
  clear hv hw
  simp only [aw5_fmt] at k2
  unfold DevH.ptr at k1 k2 k3 ⊢
  go_wp2_with fail
  refine (k1 _ hd3).mono ?_
  rintro e w4 ⟨rfl, d4⟩
  have hd4 := hd3.grow d4
  have b4 := Below.grown_trans b3 d4
  clear k1 hd3 b3 d4
  go_wp2_with fail
  have hd5 := hd4.alloc (.cells #[.int .i64 0, .int .i64 0, .int .i64 0] 29)
  have b5 : Below w.heap.size w (w4.alloc (.cells #[.int .i64 0, .int .i64 0, .int .i64 0] 29)) := b4.alloc b4.size _
  clear hd4 b4
  generalize w4.alloc (.cells #[.int .i64 0, .int .i64 0, .int .i64 0] 29) = w5 at *
  generalize w4.heap.size = bb at *
  refine (k2 _ hd5).mono ?_
  rintro e w6 ⟨rfl, hd6, l6⟩
  have b6 := bel_dev b5 l6 hlo' b5.size
  clear k2 hd5 b5 l6
  go_wp2_with fail
  refine (k3 _ hd6).mono ?_
  rintro e w7 ⟨rfl, d7⟩
  have b7 := Below.grown_trans b6 d7
  clear k3 hd6 b6 d7
  go_wp2_with fail
  have b8 : Below w.heap.size w (w7.alloc (.cells #[.int .i64 3, .int .i64 1, .int .i64 8] 29)) := b7.alloc b7.size _
  have i8 := Is.new w7 (.cells #[.int .i64 3, .int .i64 1, .int .i64 8] 29)
  clear b7
  generalize w7.alloc (.cells #[.int .i64 3, .int .i64 1, .int .i64 8] 29) = w8 at *
  generalize w7.heap.size = b9 at *
  refine (k4 _).mono ?_
  rintro e w9 ⟨rfl, d9⟩
  have b10 := Below.grown_trans b8 d9
  go_wp2_with fail
  go_ret
  exact ⟨rfl, b10⟩
end Go.Proofs.Ytpecgfpofihibaa
