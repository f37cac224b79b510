/-
  roots.Read of no block; the fixed fact of law 8.
-/
import Derived.Test.YtpecgfpofihibaaRts
import Derived.Test.YtpecgfpofihibaaAw7
namespace Go.Proofs.Ytpecgfpofihibaa
open Go Go.RowKit Go.MapKept

set_option maxRecDepth 100000 in
set_option maxHeartbeats 1000000 in
theorem rread_bad (h : DevH) (D : DevS) (c : Cf) (a u : Int) (w : World) (hd : Dev w h D) (hc : c.ok) (ha : D.at c.act.toNat = a) (hu : D.at (c.act.toNat + 1) = u) (a0 : 0 ≤ a) (u0 : 0 ≤ u) (hbad : 1 < a ∨ c.S < u) :
    Calls Try.prog 49 #[.pointer (some ⟨h.d, 0, none⟩), .agg #[.int .i64 c.L, .int .i64 c.R, .int .i64 c.S]] w fun e w' => e = .returned (.tuple #[.agg #[.int .i64 0, .int .i64 0, .slice none 0 0], .int .i64 10]) ∧ Below w.heap.size w w' := by
  have nn := hc.nums
  obtain ⟨na0, na1, nf0, nf1, ns0, ns1, nw, nw0, nw1, nr0, nr1, nsp0, nsp1⟩ := nn
  have ka := fun W (hd : Dev W h D) => load_at h D c.act W hd (by omega)
  rw [ha] at ka
  have ku := fun W (hd : Dev W h D) => load_at h D (c.act + 1) W hd (by omega)
  rw [show (c.act + 1).toNat = c.act.toNat + 1 from by omega, hu] at ku
  clear ha hu nw
  have i1 := (Is.new w (.cells #[.int .i64 c.L, .int .i64 c.R, .int .i64 c.S] 29)).alloc (.cells #[.int .i64 0, .int .i64 0, .slice none 0 0] 57)
  have r1 := Is.new (w.alloc (.cells #[.int .i64 c.L, .int .i64 c.R, .int .i64 c.S] 29)) (.cells #[.int .i64 0, .int .i64 0, .slice none 0 0] 57)
  rw [World.size_alloc] at r1
  have b1 : Below w.heap.size w ((w.alloc (.cells #[.int .i64 c.L, .int .i64 c.R, .int .i64 c.S] 29)).alloc (.cells #[.int .i64 0, .int .i64 0, .slice none 0 0] 57)) := ((Below.refl _ _).alloc (Nat.le_refl _) _).alloc (by simp) _
  have hd1 := (hd.alloc (.cells #[.int .i64 c.L, .int .i64 c.R, .int .i64 c.S] 29)).alloc (.cells #[.int .i64 0, .int .i64 0, .slice none 0 0] 57)
  clear hd
  have hx : (1 < a) ∨ (a ≤ 1 ∧ c.S < u) := by omega
  clear hbad
  go_enter Try.func49, Try.ntmps49
  go_wp2_with fail
  generalize (w.alloc (.cells #[.int .i64 c.L, .int .i64 c.R, .int .i64 c.S] 29)).alloc (.cells #[.int .i64 0, .int .i64 0, .slice none 0 0] 57) = w1 at *
  have G := GrW.c3 i1
  have k1 := fun x : GrW w1 => ka x.1 (hd1.grow x.2)
  have k2 := fun x : GrW w1 => ku x.1 (hd1.grow x.2)
  refine wp_gr (by kernel_rfl) (by kernel_rfl) ?_
  repeat (go_big_quiet_step (first
    | (go_at_call 26; with_reducible exact gr_call_same (k1 _))
    | (go_at_call 26; with_reducible exact gr_call_same (k2 _))
    | (go_at_call 36; with_reducible exact gr_call (active_lit c _ hc))
    | (go_at_call 38; with_reducible exact gr_call (used_lit c _ hc))))
  refine wpQuiet_nil ?_
  rintro w2 ⟨⟨_, hw2⟩, rfl⟩
  have i2 := i1.grow hw2
  have r2 := r1.grow hw2
  have b2 := Below.grown_trans b1 hw2
  clear G k1 k2 ka ku hw2 i1 r1 hd1 b1
  obtain ⟨c0, c1, c2⟩ := i2.c3
  obtain ⟨e0, e1, e2⟩ := r2.c3
  have rf0 : w2.frozen? ⟨w.heap.size + 1, 0, none⟩ = false := r2.free
  have rf1 : w2.frozen? ⟨w.heap.size + 1, 1, none⟩ = false := r2.free
  have rf2 : w2.frozen? ⟨w.heap.size + 1, 2, none⟩ = false := r2.free
  have r4 := ((r2.set (i := 0) (.int .i64 0)).set (i := 1) (.int .i64 0)).set (i := 2) (.slice none 0 0)
  simp only [List.setIfInBounds_toArray, List.set_cons_zero, List.set_cons_succ] at r4
  have b4 := ((b2.setCell (p := ⟨w.heap.size + 1, 0, none⟩) (by simp) (.int .i64 0)).setCell (p := ⟨w.heap.size + 1, 1, none⟩) (by simp) (.int .i64 0)).setCell (p := ⟨w.heap.size + 1, 2, none⟩) (by simp) (.slice none 0 0)
  clear i2 r2 b2
  rcases hx with hx | ⟨hx1, hx2⟩
  · go_wp2
    ((try simp only [Exit.inBlock, Exit.then]); refine bodyPost_ret (results_cell2 rfl _ r4 rfl Try.underlying57 rfl (by kernel_rfl)) rfl ?_)
    exact ⟨rfl, b4⟩
  · go_wp2
    ((try simp only [Exit.inBlock, Exit.then]); refine bodyPost_ret (results_cell2 rfl _ r4 rfl Try.underlying57 rfl (by kernel_rfl)) rfl ?_)
    exact ⟨rfl, b4⟩

theorem c3_a : (fmtD c3 []).at c3.act.toNat = 0 := by decide +kernel
theorem c3_u : (fmtD c3 []).at (c3.act.toNat + 1) = 0 := by decide +kernel

set_option maxRecDepth 100000 in
set_option maxHeartbeats 2000000 in
theorem awake08 (w : World) :
    Calls Try.prog 37 #[] w fun e w' => e = .returned (.bool true) ∧ Below w.heap.size w w' := by
  have kp := fun ra rn rc w => bplace_any c3 0 0 3 ra rn rc w c3_ok (by decide) (by decide) (by decide) (by decide)
  have e43 : c3.fr 0 + 3 = 43 := by decide
  rw [e43] at kp
  clear e43
  go_enter Try.func37, Try.ntmps37
  go_wp2_with fail
  refine (awake07 _).mono ?_
  rintro e w1 ⟨rfl, b1⟩
  go_wp2_with fail
  have i2 := Is.new w1 (.cells #[.int .i64 3, .int .i64 1, .int .i64 8] 29)
  have b2 : Below w.heap.size w (w1.alloc (.cells #[.int .i64 3, .int .i64 1, .int .i64 8] 29)) := b1.alloc b1.size _
  clear b1
  generalize w1.alloc (.cells #[.int .i64 3, .int .i64 1, .int .i64 8] 29) = w2 at *
  generalize w1.heap.size = cb at *
  refine (formatted_lit c3 [] (.slice none 0 0) _ c3_ok (SlR.nil _) (by decide) (by simp)).mono ?_
  rintro e w3 ⟨h, rfl, hd3, hlo, d3⟩
  have i3 := i2.grow d3
  have b3 := Below.grown_trans b2 d3
  clear i2 b2 d3
  obtain ⟨c0, c1, c2⟩ := i3.c3
  go_wp2_with fail
  refine (rread_any h _ c3 0 0 _ hd3 c3_ok c3_a c3_u (by decide) (by decide) (by decide) (by decide)).mono ?_
  rintro e w4 ⟨ra, rn, rc, rfl, hsl, d4⟩
  have hn1 : rn = 1 := hsl.num
  clear hsl
  subst hn1
  have i4 := i3.grow d4
  have b4 := Below.grown_trans b3 d4
  have zi := i4.lt
  clear c0 c1 c2 i3 b3 d4 hd3
  obtain ⟨c0, c1, c2⟩ := i4.c3
  go_wp2_with fail
  refine (kp _ _ _ _).mono ?_
  rintro e w5 ⟨rfl, d5⟩
  go_wp2_with fail
  go_ret
  exact ⟨rfl, Below.grown_trans b4 (bel_alloc d5)⟩
end Go.Proofs.Ytpecgfpofihibaa
