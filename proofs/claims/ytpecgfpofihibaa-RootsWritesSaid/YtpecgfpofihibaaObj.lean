/-
  object: Of; tumuluslaw09.H.Make.
-/
import Derived.Test.YtpecgfpofihibaaAw9
namespace Go.Proofs.Ytpecgfpofihibaa
open Go Go.RowKit Go.MapKept Go.Shelf

/-- A small head. -/
def hW (x : Int × Int) : Int := x.2 % 9
def hR (x : Int × Int) : Int := x.1 % (hW x + 1)
theorem hW_bd (x : Int × Int) : 0 ≤ hW x ∧ hW x ≤ 8 := by unfold hW; omega
theorem hR_bd (x : Int × Int) : 0 ≤ hR x ∧ hR x ≤ hW x := by
  obtain ⟨h0, h1⟩ := hW_bd x
  unfold hR
  exact ⟨Int.emod_nonneg _ (by omega), by have := Int.emod_lt_of_pos x.1 (show 0 < hW x + 1 by omega); omega⟩
theorem h_ok (x : Int × Int) : headOk (hW x) (hR x) := by
  have := hW_bd x; have := hR_bd x; unfold headOk; omega

set_option maxHeartbeats 1000000 in
theorem hmake_any (x : Int × Int) (w : World) (h1 : 0 ≤ x.1 ∧ x.1 < 256) (h2 : 0 ≤ x.2 ∧ x.2 < 256) :
    Calls Try.prog 48 #[.agg #[.int .u8 x.1, .int .u8 x.2]] w fun e w' => e = .returned (.agg #[.int .i64 (hW x), .int .i64 (hR x)]) ∧ Below w.heap.size w w' := by
  obtain ⟨r0, r1⟩ := h1
  obtain ⟨s0, s1⟩ := h2
  have hw := hW_bd x
  have e1 : hW x = x.2 % 9 := rfl
  have e2 : hR x = x.1 % (x.2 % 9 + 1) := rfl
  have hr := hR_bd x
  rw [e2, e1] at hr
  rw [e2, e1]
  clear e1 e2
  obtain ⟨x1, x2⟩ := x
  simp only at *
  unfold hW at hw
  simp only at hw
  obtain ⟨hw0, hw1⟩ := hw
  obtain ⟨hr0, hr1⟩ := hr
  have i1 := Is.new (w.alloc (.cells #[.int .u8 x1, .int .u8 x2] 72)) (.cells #[.int .i64 (x2 % 9), .int .i64 (x1 % (x2 % 9 + 1))] 66)
  rw [World.size_alloc] at i1
  have b1 : Below w.heap.size w ((w.alloc (.cells #[.int .u8 x1, .int .u8 x2] 72)).alloc (.cells #[.int .i64 (x2 % 9), .int .i64 (x1 % (x2 % 9 + 1))] 66)) := ((Below.refl _ _).alloc (Nat.le_refl _) _).alloc (by simp) _
  go_enter Try.func48, Try.ntmps48
  go_wp2
  ((try simp only [Exit.inBlock, Exit.then]); refine bodyPost_ret (results_cell_row rfl _ _ _ _ _ _ _ rfl i1 Try.underlying66 rfl (by kernel_rfl)) rfl ?_)
  exact ⟨rfl, b1⟩

/-- What Of begins with. -/
structure OfS (c : Cf) (b0 : Nat) (a u : Int) (ra : Option Addr) (rn rc : Nat) (w : World) : Prop where
  cfg : Is w b0 (.cells #[.int .i64 c.L, .int .i64 c.R, .int .i64 c.S] 29 (0, 0))
  blk : Is w (b0 + 1) (.cells #[.int .i64 a, .int .i64 u, .slice ra rn rc] 57 (0, 0))
  res : Is w (b0 + 1 + 1) (.cells #[.int .i64 0, .int .i64 0, .int .i64 0] 81 (0, 0))
theorem OfS.grow {c : Cf} {b0 : Nat} {a u : Int} {ra : Option Addr} {rn rc : Nat} {w w' : World} (h : OfS c b0 a u ra rn rc w) (hl : Below w.heap.size w w') : OfS c b0 a u ra rn rc w' := ⟨h.cfg.grow hl, h.blk.grow hl, h.res.grow hl⟩
theorem OfS.cs {c : Cf} {b0 : Nat} {a u : Int} {ra : Option Addr} {rn rc : Nat} {w : World} (h : OfS c b0 a u ra rn rc w) :
    w.cell? ⟨b0, 0, none⟩ = some (.int .i64 c.L) ∧ w.cell? ⟨b0, 1, none⟩ = some (.int .i64 c.R) ∧ w.cell? ⟨b0, 2, none⟩ = some (.int .i64 c.S) ∧
    w.cell? ⟨b0 + 1, 0, none⟩ = some (.int .i64 a) ∧ w.cell? ⟨b0 + 1, 1, none⟩ = some (.int .i64 u) ∧ w.cell? ⟨b0 + 1, 2, none⟩ = some (.slice ra rn rc) ∧
    w.cell? ⟨b0 + 1 + 1, 0, none⟩ = some (.int .i64 0) ∧ w.cell? ⟨b0 + 1 + 1, 1, none⟩ = some (.int .i64 0) ∧ w.cell? ⟨b0 + 1 + 1, 2, none⟩ = some (.int .i64 0) ∧
    w.frozen? ⟨b0 + 1 + 1, 0, none⟩ = false ∧ w.frozen? ⟨b0 + 1 + 1, 1, none⟩ = false ∧ w.frozen? ⟨b0 + 1 + 1, 2, none⟩ = false := by
  obtain ⟨h1, h2, h3⟩ := h
  exact ⟨h1.cell, h1.cell, h1.cell, h2.cell, h2.cell, h2.cell, h3.cell, h3.cell, h3.cell, h3.free, h3.free, h3.free⟩

theorem ofS_new (c : Cf) (a u : Int) (ra : Option Addr) (rn rc : Nat) (w : World) : OfS c w.heap.size a u ra rn rc (((w.alloc (.cells #[.int .i64 c.L, .int .i64 c.R, .int .i64 c.S] 29)).alloc (.cells #[.int .i64 a, .int .i64 u, .slice ra rn rc] 57)).alloc (.cells #[.int .i64 0, .int .i64 0, .int .i64 0] 81)) := by
  have i1 := ((Is.new w (.cells #[.int .i64 c.L, .int .i64 c.R, .int .i64 c.S] 29)).alloc (.cells #[.int .i64 a, .int .i64 u, .slice ra rn rc] 57)).alloc (.cells #[.int .i64 0, .int .i64 0, .int .i64 0] 81)
  have i2 := (Is.new (w.alloc (.cells #[.int .i64 c.L, .int .i64 c.R, .int .i64 c.S] 29)) (.cells #[.int .i64 a, .int .i64 u, .slice ra rn rc] 57)).alloc (.cells #[.int .i64 0, .int .i64 0, .int .i64 0] 81)
  have i3 := Is.new ((w.alloc (.cells #[.int .i64 c.L, .int .i64 c.R, .int .i64 c.S] 29)).alloc (.cells #[.int .i64 a, .int .i64 u, .slice ra rn rc] 57)) (.cells #[.int .i64 0, .int .i64 0, .int .i64 0] 81)
  rw [World.size_alloc] at i2
  rw [World.size_alloc, World.size_alloc] at i3
  exact ⟨i1, i2, i3⟩
theorem below3 (w : World) (o1 o2 o3 : Obj) : Below w.heap.size w (((w.alloc o1).alloc o2).alloc o3) := (((Below.refl _ _).alloc (Nat.le_refl _) _).alloc (by simp) _).alloc (by simp; omega) _

/-- What Of writes at its end. -/
theorem of_fin {c : Cf} {b0 : Nat} {a u : Int} {ra : Option Addr} {rn rc : Nat} {w wx : World} (hs : OfS c b0 a u ra rn rc wx) (hb : Below w.heap.size w wx) (h0 : w.heap.size ≤ b0) (x y z : Int) :
    Is (((wx.setCell ⟨b0 + 1 + 1, 0, none⟩ (.int .i64 x)).setCell ⟨b0 + 1 + 1, 1, none⟩ (.int .i64 y)).setCell ⟨b0 + 1 + 1, 2, none⟩ (.int .i64 z)) (b0 + 1 + 1) (.cells #[.int .i64 x, .int .i64 y, .int .i64 z] 81 (0, 0)) ∧
      Below w.heap.size w (((wx.setCell ⟨b0 + 1 + 1, 0, none⟩ (.int .i64 x)).setCell ⟨b0 + 1 + 1, 1, none⟩ (.int .i64 y)).setCell ⟨b0 + 1 + 1, 2, none⟩ (.int .i64 z)) :=
    ⟨((hs.res.set (i := 0) (.int .i64 x)).set (i := 1) (.int .i64 y)).set (i := 2) (.int .i64 z), ((hb.setCell (p := ⟨b0 + 1 + 1, 0, none⟩) (by simp; omega) _).setCell (p := ⟨b0 + 1 + 1, 1, none⟩) (by simp; omega) _).setCell (p := ⟨b0 + 1 + 1, 2, none⟩) (by simp; omega) _⟩

set_option maxRecDepth 100000 in
set_option maxHeartbeats 2000000 in
/-- Of, of no word of the space. -/
theorem of_none (h : DevH) (c : Cf) (a u at' : Int) (ra : Option Addr) (rn rc : Nat) (w : World) (hc : c.ok) (a0 : 0 ≤ a) (a1 : a ≤ 1) (u0 : 0 ≤ u) (u1 : u ≤ c.S) (h1 : at' ≤ 9223372036854775807) (hn : at' < 0 ∨ hasB c a u at' = false) :
    Calls Try.prog 53 #[.pointer (some ⟨h.d, 0, none⟩), .agg #[.int .i64 c.L, .int .i64 c.R, .int .i64 c.S], .agg #[.int .i64 a, .int .i64 u, .slice ra rn rc], .int .i64 at'] w fun e w' => e = .returned (.tuple #[.agg #[.int .i64 0, .int .i64 0, .int .i64 0], .int .i64 6]) ∧ Below w.heap.size w w' := by
  have nS := hc.nums.sp1
  have s1 := ofS_new c a u ra rn rc w
  have b1 := below3 w (.cells #[.int .i64 c.L, .int .i64 c.R, .int .i64 c.S] 29) (.cells #[.int .i64 a, .int .i64 u, .slice ra rn rc] 57) (.cells #[.int .i64 0, .int .i64 0, .int .i64 0] 81)
  go_enter Try.func53, Try.ntmps53
  go_upto_region 1 with (fail)
  generalize ((w.alloc (.cells #[.int .i64 c.L, .int .i64 c.R, .int .i64 c.S] 29)).alloc (.cells #[.int .i64 a, .int .i64 u, .slice ra rn rc] 57)).alloc (.cells #[.int .i64 0, .int .i64 0, .int .i64 0] 81) = w1 at *
  obtain ⟨c0, c1, c2, c3, c4, c5, c6, c7, c8, f6, f7, f8⟩ := s1.cs
  by_cases hneg : at' < 0
  · clear hn
    obtain ⟨g1, g2⟩ := of_fin s1 b1 (Nat.le_refl _) 0 0 0
    clear s1 b1
    go_wp2
    ((try simp only [Exit.inBlock, Exit.then]); refine bodyPost_ret (results_cell2 rfl _ g1 rfl Try.underlying81 rfl (by kernel_rfl)) rfl ?_)
    exact ⟨rfl, g2⟩
  · have hn2 : hasB c a u at' = false := by rcases hn with h | h; exact absurd h hneg; exact h
    have hx0 : 0 ≤ at' := by omega
    have kb := fun w => bhas_any c a u at' ra rn rc w hc a0 a1 u0 (by omega) ⟨by omega, by omega⟩
    rw [hn2] at kb
    clear hn hneg hn2
    go_wp2_with fail
    refine (kb _).mono ?_
    rintro e w2 ⟨rfl, d2⟩
    have s2 := s1.grow d2
    obtain ⟨g1, g2⟩ := of_fin s2 (Below.grown_trans b1 d2) (Nat.le_refl _) 0 0 0
    clear c0 c1 c2 c3 c4 c5 c6 c7 c8 f6 f7 f8 s1 b1 d2 kb
    obtain ⟨c0, c1, c2, c3, c4, c5, c6, c7, c8, f6, f7, f8⟩ := s2.cs
    clear s2
    go_wp2
    ((try simp only [Exit.inBlock, Exit.then]); refine bodyPost_ret (results_cell2 rfl _ g1 rfl Try.underlying81 rfl (by kernel_rfl)) rfl ?_)
    exact ⟨rfl, g2⟩

set_option maxRecDepth 100000 in
set_option maxHeartbeats 2000000 in
theorem of_head (h : DevH) (D : DevS) (c : Cf) (a u at' x : Int) (ra : Option Addr) (rn rc : Nat) (w : World) (hd : Dev w h D) (hc : c.ok) (a0 : 0 ≤ a) (a1 : a ≤ 1) (u0 : 0 ≤ u) (u1 : u ≤ c.S) (x0 : 0 ≤ at') (hin : hasB c a u at' = true) (hx : D.at at'.toNat = x) (hxu : U64 x) (hbad : ¬ isHead x ∨ (isHead x ∧ c.fr a + u - at' < unW x + 1)) :
    Calls Try.prog 53 #[.pointer (some ⟨h.d, 0, none⟩), .agg #[.int .i64 c.L, .int .i64 c.R, .int .i64 c.S], .agg #[.int .i64 a, .int .i64 u, .slice ra rn rc], .int .i64 at'] w fun e w' => e = .returned (.tuple #[.agg #[.int .i64 0, .int .i64 0, .int .i64 0], .int .i64 8]) ∧ Below w.heap.size w w' := by
  obtain ⟨fb0, fb1, fb2⟩ := Cf.fr_bd hc a a0 a1
  have nS := hc.nums.sp1
  have nf := hc.nums.f0
  have na := hc.nums.a0
  have nr := hc.nums.r0
  have fb3 : 0 ≤ c.fr a := by omega
  have hat := hasB_iff.1 hin
  obtain ⟨hat0, hat1⟩ := hat
  have s1 := ofS_new c a u ra rn rc w
  have b1 := below3 w (.cells #[.int .i64 c.L, .int .i64 c.R, .int .i64 c.S] 29) (.cells #[.int .i64 a, .int .i64 u, .slice ra rn rc] 57) (.cells #[.int .i64 0, .int .i64 0, .int .i64 0] 81)
  have hd1 := hd.grow b1
  have kb := fun w => bhas_any c a u at' ra rn rc w hc a0 a1 u0 (by omega) ⟨x0, by omega⟩
  rw [hin] at kb
  have kl := load_at h D at'
  rw [hx] at kl
  have kp := fun w => hunpack x w hxu
  unfold headv at kp
  have kz := fun w => bplace_any c a u u ra rn rc w hc a0 a1 u0 (by omega)
  clear hd hin hx nf na nr fb0 fb1 hxu
  go_enter Try.func53, Try.ntmps53
  go_upto_region 1 with (fail)
  generalize ((w.alloc (.cells #[.int .i64 c.L, .int .i64 c.R, .int .i64 c.S] 29)).alloc (.cells #[.int .i64 a, .int .i64 u, .slice ra rn rc] 57)).alloc (.cells #[.int .i64 0, .int .i64 0, .int .i64 0] 81) = w1 at *
  obtain ⟨c0, c1, c2, c3, c4, c5, c6, c7, c8, f6, f7, f8⟩ := s1.cs
  go_wp2_with fail
  refine (kb _).mono ?_
  rintro e w2 ⟨rfl, d2⟩
  have s2 := s1.grow d2
  have b2 := Below.grown_trans b1 d2
  have hd2 := hd1.grow d2
  clear c0 c1 c2 c3 c4 c5 c6 c7 c8 f6 f7 f8 s1 b1 d2 hd1 kb
  obtain ⟨c0, c1, c2, c3, c4, c5, c6, c7, c8, f6, f7, f8⟩ := s2.cs
  go_wp2_with fail
  refine (kl _ hd2 x0).mono ?_
  rintro e w3 ⟨rfl, rfl⟩
  clear kl
  go_wp2_with fail
  by_cases hh : isHead x
  · have hbig : c.fr a + u - at' < unW x + 1 := by rcases hbad with h | h; exact absurd hh h; exact h.2
    have hW0 := hh.1.1
    have hW1 := hh.1.2.1
    have ks := fun w => hsize (unW x) (unR x) w (by omega) (by omega)
    unfold headv at ks
    refine (kp _).mono ?_
    rintro e w4 ⟨d4, he1, _⟩
    obtain rfl := he1 hh
    clear hbad hh kp he1
    have s4 := (s2.grow d4).grow (w' := w4.alloc (.cells #[.int .i64 (unW x), .int .i64 (unR x)] 66)) ((Below.refl _ _).alloc (Nat.le_refl _) _)
    have n4 := Is.new w4 (.cells #[.int .i64 (unW x), .int .i64 (unR x)] 66)
    have b4 := (Below.grown_trans b2 d4).alloc (Below.grown_trans b2 d4).size (.cells #[.int .i64 (unW x), .int .i64 (unR x)] 66)
    clear c0 c1 c2 c3 c4 c5 c6 c7 c8 f6 f7 f8 s2 b2 hd2 d4
    go_wp2_with fail
    generalize w4.alloc (.cells #[.int .i64 (unW x), .int .i64 (unR x)] 66) = w5 at *
    generalize w4.heap.size = hb at *
    have G := fun y : GrW w5 => (s4.grow y.2).cs
    have h0 : w5.cell? ⟨hb, 0, none⟩ = some (.int .i64 (unW x)) := by rw [n4.cell]; rfl
    have h1 : w5.cell? ⟨hb, 1, none⟩ = some (.int .i64 (unR x)) := by rw [n4.cell]; rfl
    have H0 := GrW.cell h0
    have H1 := GrW.cell h1
    refine wp_gr (by kernel_rfl) (by kernel_rfl) ?_
    repeat (go_big_quiet_step (first | (go_at_call 66; with_reducible exact gr_call (ks _)) | (go_at_call 65; with_reducible exact gr_call (kz _))))
    refine wpQuiet_nil ?_
    rintro w6 ⟨⟨_, hw6⟩, rfl⟩
    have s5 := s4.grow hw6
    have n5 := n4.grow hw6
    have b5 := Below.grown_trans b4 hw6
    clear G H0 H1 h0 h1 s4 n4 b4 hw6 kz
    obtain ⟨g1, g2⟩ := of_fin s5 b5 (Nat.le_refl _) 0 0 0
    obtain ⟨c0, c1, c2, c3, c4, c5, c6, c7, c8, f6, f7, f8⟩ := s5.cs
    clear s5 b5
    go_wp2
    ((try simp only [Exit.inBlock, Exit.then]); refine bodyPost_ret (results_cell2 rfl _ g1 rfl Try.underlying81 rfl (by kernel_rfl)) rfl ?_)
    exact ⟨rfl, g2⟩
  · have ks := fun w => hsize 0 0 w (by omega) (by omega)
    unfold headv at ks
    refine (kp _).mono ?_
    rintro e w4 ⟨d4, _, he1⟩
    obtain rfl := he1 hh
    clear hbad hh kp he1
    have s4 := (s2.grow d4).grow (w' := w4.alloc (.cells #[.int .i64 0, .int .i64 0] 66)) ((Below.refl _ _).alloc (Nat.le_refl _) _)
    have n4 := Is.new w4 (.cells #[.int .i64 0, .int .i64 0] 66)
    have b4 := (Below.grown_trans b2 d4).alloc (Below.grown_trans b2 d4).size (.cells #[.int .i64 0, .int .i64 0] 66)
    clear c0 c1 c2 c3 c4 c5 c6 c7 c8 f6 f7 f8 s2 b2 hd2 d4
    go_wp2_with fail
    generalize w4.alloc (.cells #[.int .i64 0, .int .i64 0] 66) = w5 at *
    generalize w4.heap.size = hb at *
    have G := fun y : GrW w5 => (s4.grow y.2).cs
    have h0 : w5.cell? ⟨hb, 0, none⟩ = some (.int .i64 0) := by rw [n4.cell]; rfl
    have h1 : w5.cell? ⟨hb, 1, none⟩ = some (.int .i64 0) := by rw [n4.cell]; rfl
    have H0 := GrW.cell h0
    have H1 := GrW.cell h1
    refine wp_gr (by kernel_rfl) (by kernel_rfl) ?_
    repeat (go_big_quiet_step (first | (go_at_call 66; with_reducible exact gr_call (ks _)) | (go_at_call 65; with_reducible exact gr_call (kz _))))
    refine wpQuiet_nil ?_
    rintro w6 ⟨⟨_, hw6⟩, rfl⟩
    have s5 := s4.grow hw6
    have n5 := n4.grow hw6
    have b5 := Below.grown_trans b4 hw6
    clear G H0 H1 h0 h1 s4 n4 b4 hw6 kz
    obtain ⟨g1, g2⟩ := of_fin s5 b5 (Nat.le_refl _) 0 0 0
    obtain ⟨c0, c1, c2, c3, c4, c5, c6, c7, c8, f6, f7, f8⟩ := s5.cs
    clear s5 b5
    go_wp2
    ((try simp only [Exit.inBlock, Exit.then]); refine bodyPost_ret (results_cell2 rfl _ g1 rfl Try.underlying81 rfl (by kernel_rfl)) rfl ?_)
    exact ⟨rfl, g2⟩

set_option maxRecDepth 100000 in
set_option maxHeartbeats 2000000 in
theorem of_ok (h : DevH) (D : DevS) (c : Cf) (a u at' x : Int) (ra : Option Addr) (rn rc : Nat) (w : World) (hd : Dev w h D) (hc : c.ok) (a0 : 0 ≤ a) (a1 : a ≤ 1) (u0 : 0 ≤ u) (u1 : u ≤ c.S) (x0 : 0 ≤ at') (hin : hasB c a u at' = true) (hx : D.at at'.toNat = x) (hxu : U64 x) (hh : isHead x) (hfit : unW x + 1 ≤ c.fr a + u - at') :
    Calls Try.prog 53 #[.pointer (some ⟨h.d, 0, none⟩), .agg #[.int .i64 c.L, .int .i64 c.R, .int .i64 c.S], .agg #[.int .i64 a, .int .i64 u, .slice ra rn rc], .int .i64 at'] w fun e w' => e = .returned (.tuple #[.agg #[.int .i64 (unW x), .int .i64 (unR x), .int .i64 at'], .int .i64 0]) ∧ Below w.heap.size w w' := by
  obtain ⟨fb0, fb1, fb2⟩ := Cf.fr_bd hc a a0 a1
  have nS := hc.nums.sp1
  have nf := hc.nums.f0
  have na := hc.nums.a0
  have nr := hc.nums.r0
  have fb3 : 0 ≤ c.fr a := by omega
  have hat := hasB_iff.1 hin
  obtain ⟨hat0, hat1⟩ := hat
  have s1 := ofS_new c a u ra rn rc w
  have b1 := below3 w (.cells #[.int .i64 c.L, .int .i64 c.R, .int .i64 c.S] 29) (.cells #[.int .i64 a, .int .i64 u, .slice ra rn rc] 57) (.cells #[.int .i64 0, .int .i64 0, .int .i64 0] 81)
  have hd1 := hd.grow b1
  have kb := fun w => bhas_any c a u at' ra rn rc w hc a0 a1 u0 (by omega) ⟨x0, by omega⟩
  rw [hin] at kb
  have kl := load_at h D at'
  rw [hx] at kl
  have kp := fun w => hunpack x w hxu
  unfold headv at kp
  have kz := fun w => bplace_any c a u u ra rn rc w hc a0 a1 u0 (by omega)
  clear hd hin hx nf na nr fb0 fb1 hxu
  go_enter Try.func53, Try.ntmps53
  go_upto_region 1 with (fail)
  generalize ((w.alloc (.cells #[.int .i64 c.L, .int .i64 c.R, .int .i64 c.S] 29)).alloc (.cells #[.int .i64 a, .int .i64 u, .slice ra rn rc] 57)).alloc (.cells #[.int .i64 0, .int .i64 0, .int .i64 0] 81) = w1 at *
  obtain ⟨c0, c1, c2, c3, c4, c5, c6, c7, c8, f6, f7, f8⟩ := s1.cs
  go_wp2_with fail
  refine (kb _).mono ?_
  rintro e w2 ⟨rfl, d2⟩
  have s2 := s1.grow d2
  have b2 := Below.grown_trans b1 d2
  have hd2 := hd1.grow d2
  clear c0 c1 c2 c3 c4 c5 c6 c7 c8 f6 f7 f8 s1 b1 d2 hd1 kb
  obtain ⟨c0, c1, c2, c3, c4, c5, c6, c7, c8, f6, f7, f8⟩ := s2.cs
  go_wp2_with fail
  refine (kl _ hd2 x0).mono ?_
  rintro e w3 ⟨rfl, rfl⟩
  clear kl
  go_wp2_with fail
  · have hW0 := hh.1.1
    have hW1 := hh.1.2.1
    have ks := fun w => hsize (unW x) (unR x) w (by omega) (by omega)
    unfold headv at ks
    refine (kp _).mono ?_
    rintro e w4 ⟨d4, he1, _⟩
    obtain rfl := he1 hh
    clear hh kp he1
    have s4 := (s2.grow d4).grow (w' := w4.alloc (.cells #[.int .i64 (unW x), .int .i64 (unR x)] 66)) ((Below.refl _ _).alloc (Nat.le_refl _) _)
    have n4 := Is.new w4 (.cells #[.int .i64 (unW x), .int .i64 (unR x)] 66)
    have b4 := (Below.grown_trans b2 d4).alloc (Below.grown_trans b2 d4).size (.cells #[.int .i64 (unW x), .int .i64 (unR x)] 66)
    clear c0 c1 c2 c3 c4 c5 c6 c7 c8 f6 f7 f8 s2 b2 hd2 d4
    go_wp2_with fail
    generalize w4.alloc (.cells #[.int .i64 (unW x), .int .i64 (unR x)] 66) = w5 at *
    generalize w4.heap.size = hb at *
    have G := fun y : GrW w5 => (s4.grow y.2).cs
    have h0 : w5.cell? ⟨hb, 0, none⟩ = some (.int .i64 (unW x)) := by rw [n4.cell]; rfl
    have h1 : w5.cell? ⟨hb, 1, none⟩ = some (.int .i64 (unR x)) := by rw [n4.cell]; rfl
    have H0 := GrW.cell h0
    have H1 := GrW.cell h1
    refine wp_gr (by kernel_rfl) (by kernel_rfl) ?_
    repeat (go_big_quiet_step (first | (go_at_call 66; with_reducible exact gr_call (ks _)) | (go_at_call 65; with_reducible exact gr_call (kz _))))
    refine wpQuiet_nil ?_
    rintro w6 ⟨⟨_, hw6⟩, rfl⟩
    have s5 := s4.grow hw6
    have n5 := n4.grow hw6
    have b5 := Below.grown_trans b4 hw6
    clear G H0 H1 h0 h1 s4 n4 b4 hw6 kz
    obtain ⟨g1, g2⟩ := of_fin s5 b5 (Nat.le_refl _) (unW x) (unR x) at'
    obtain ⟨c0, c1, c2, c3, c4, c5, c6, c7, c8, f6, f7, f8⟩ := s5.cs
    have h0 : w6.cell? ⟨hb, 0, none⟩ = some (.int .i64 (unW x)) := by rw [n5.cell]; rfl
    have h1 : w6.cell? ⟨hb, 1, none⟩ = some (.int .i64 (unR x)) := by rw [n5.cell]; rfl
    clear s5 b5 n5
    go_wp2
    ((try simp only [Exit.inBlock, Exit.then]); refine bodyPost_ret (results_cell2 rfl _ g1 rfl Try.underlying81 rfl (by kernel_rfl)) rfl ?_)
    exact ⟨rfl, g2⟩
end Go.Proofs.Ytpecgfpofihibaa
