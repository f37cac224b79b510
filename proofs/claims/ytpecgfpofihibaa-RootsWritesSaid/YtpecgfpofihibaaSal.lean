/-
  tumuluslaw07.Words, space.Fresh; what Alloc leaves, in either space.
-/
import Derived.Test.YtpecgfpofihibaaFi2
namespace Go.Proofs.Ytpecgfpofihibaa
open Go Go.RowKit Go.MapKept Go.Shelf

theorem DevS.at_alcA (D : DevS) (c : Cf) (a u W R : Int) (hc : c.ok) (a0 : 0 ≤ a) (a1 : a ≤ 1) (hN : (D.now.length : Int) = c.words) (hk : headOk W R) (u0 : 0 ≤ u) (u1 : u + (W + 1) ≤ c.S) (j : Nat) :
    (D.alc c a u W R).at j = if c.fr a + u ≤ j ∧ (j : Int) < c.fr a + u + (W + 1) then (if (j : Int) = c.fr a + u then packv W R else 0) else if j = (c.act + 1).toNat then u + (W + 1) else D.at j := by
  obtain ⟨q1, q2, q3, q4⟩ := hk
  obtain ⟨na0, na1, nf0, nf1, ns0, ns1, nw, nw0, nw1, nr0, nr1, nsp0, nsp1⟩ := hc.nums
  obtain ⟨f0, f1, f2⟩ := Cf.fr_bd hc a a0 a1
  unfold DevS.alc alcL
  rw [DevS.stores_cons, DevS.at_stores _ (c.fr a + u) (fun i => if i = 0 then packv W R else 0) _ (by omega) (by rw [DevS.store_len]; omega), DevS.at_store _ _ _ _ (by omega)]
  by_cases h1 : c.fr a + u ≤ j ∧ (j : Int) < c.fr a + u + (W + 1)
  · rw [if_pos h1, if_pos (by omega)]
    by_cases h2 : (j : Int) = c.fr a + u
    · rw [if_pos h2, if_pos (by omega)]
    · rw [if_neg h2, if_neg (by omega)]
  · rw [if_neg h1, if_neg (by omega)]

/-- Words set to nothing, from p on. -/
def zset (l : List Int) (p : Nat) : Nat → List Int
  | 0 => l
  | n + 1 => (zset l p n).set (p + n) 0
@[simp] theorem zset_len (l : List Int) (p n : Nat) : (zset l p n).length = l.length := by
  induction n with
  | zero => rfl
  | succ n ih => simp [zset, ih]
theorem zset_get (l : List Int) (p n j : Nat) (h : p + n ≤ l.length) : (zset l p n).getD j 0 = if p ≤ j ∧ j < p + n then 0 else l.getD j 0 := by
  induction n with
  | zero => rw [if_neg (by omega)]; rfl
  | succ n ih =>
    have ih := ih (by omega)
    rw [List.getD_eq_getElem?_getD] at ih ⊢
    simp only [zset, List.getElem?_set]
    by_cases h1 : p + n = j
    · rw [if_pos h1, if_pos (by simp; omega), if_pos (by omega)]; rfl
    · rw [if_neg h1, ih]
      by_cases h2 : p ≤ j ∧ j < p + n
      · rw [if_pos h2, if_pos (by omega)]
      · rw [if_neg h2, if_neg (by omega)]

theorem getD_set (l : List Int) (i j : Nat) (v : Int) (h : i < l.length) : (l.set i v).getD j 0 = if j = i then v else l.getD j 0 := by
  rw [List.getD_eq_getElem?_getD, List.getElem?_set]
  by_cases h1 : i = j
  · subst h1; rw [if_pos rfl, if_pos h, if_pos rfl]; rfl
  · rw [if_neg h1, if_neg (fun e => h1 e.symm), List.getD_eq_getElem?_getD]

theorem eq_of_getD {l m : List Int} (h : l.length = m.length) (hg : ∀ j, j < l.length → l.getD j 0 = m.getD j 0) : l = m := by
  refine List.ext_getElem h fun i h1 h2 => ?_
  have := hg i h1
  rw [List.getD_eq_getElem?_getD, List.getD_eq_getElem?_getD, List.getElem?_eq_getElem h1, List.getElem?_eq_getElem h2] at this
  exact this

/-- What Alloc leaves is what the law writes into its own words. -/
theorem DevS.alc_now (D : DevS) (c : Cf) (a u W R : Int) (hc : c.ok) (a0 : 0 ≤ a) (a1 : a ≤ 1) (hN : (D.now.length : Int) = c.words) (hk : headOk W R) (u0 : 0 ≤ u) (u1 : u + (W + 1) ≤ c.S) :
    (D.alc c a u W R).now = ((zset D.now (c.fr a + u).toNat (W + 1).toNat).set (c.fr a + u).toNat (packv W R)).set (c.act.toNat + 1) (u + (W + 1)) := by
  obtain ⟨q1, q2, q3, q4⟩ := id hk
  obtain ⟨na0, na1, nf0, nf1, ns0, ns1, nw, nw0, nw1, nr0, nr1, nsp0, nsp1⟩ := hc.nums
  obtain ⟨f0, f1, f2⟩ := Cf.fr_bd hc a a0 a1
  refine eq_of_getD (by simp) fun j hj => ?_
  have h1 := DevS.at_alcA D c a u W R hc a0 a1 hN hk u0 u1 j
  unfold DevS.at at h1
  rw [h1, getD_set _ _ _ _ (by simp; omega), getD_set _ _ _ _ (by simp; omega), zset_get _ _ _ _ (by omega)]
  by_cases g1 : j = c.act.toNat + 1
  · rw [if_neg (by omega), if_pos (by omega), if_pos g1]
  · rw [if_neg g1]
    by_cases g2 : c.fr a + u ≤ j ∧ (j : Int) < c.fr a + u + (W + 1)
    · rw [if_pos g2]
      by_cases g3 : j = (c.fr a + u).toNat
      · rw [if_pos g3, if_pos (by omega)]
      · rw [if_neg g3, if_neg (by omega), if_pos (by omega)]
    · rw [if_neg g2, if_neg (by omega), if_neg (by omega), if_neg (by omega)]

set_option maxHeartbeats 2000000 in
theorem lwords_any (h : DevH) (D : DevS) (c : Cf) (w : World) (hd : Dev w h D) (hc : c.ok) (hN : (D.now.length : Int) = c.words) :
    Calls Try.prog 40 #[.pointer (some ⟨h.d, 0, none⟩), .agg #[.int .i64 c.L, .int .i64 c.R, .int .i64 c.S]] w fun e w' => ∃ b cap, e = .returned (.slice (some ⟨b, c.act.toNat, none⟩) (D.now.length - c.act.toNat) (cap - c.act.toNat)) ∧ Row w' b cap D.now ∧ w.heap.size ≤ b ∧ Below w.heap.size w w' := by
  obtain ⟨na0, na1, nf0, nf1, ns0, ns1, nw, nw0, nw1, nr0, nr1, nsp0, nsp1⟩ := hc.nums
  have hact : ∃ a : Nat, c.act = a := ⟨c.act.toNat, by omega⟩
  obtain ⟨a, ha⟩ := hact
  have p3 : a + 16 ≤ D.now.length := by omega
  have p4 : D.now.length ≤ 100000 := hd.dok.small
  have k36 := fun w => active_lit c w hc
  have k69 := fun w => cwords_lit c w hc
  rw [ha] at k36 ⊢
  rw [← hN] at k69
  simp only [Int.toNat_natCast]
  clear ha hN nw
  have i1 := Is.new w (.cells #[.int .i64 c.L, .int .i64 c.R, .int .i64 c.S] 29)
  have b1 : Below w.heap.size w (w.alloc (.cells #[.int .i64 c.L, .int .i64 c.R, .int .i64 c.S] 29)) := (Below.refl _ _).alloc (Nat.le_refl _) _
  have hd1 := hd.alloc (.cells #[.int .i64 c.L, .int .i64 c.R, .int .i64 c.S] 29)
  have kw := words_any h D _ hd1
  clear hd hd1
  unfold slv at kw
  unfold DevH.ptr at *
  go_enter Try.func40, Try.ntmps40
  go_wp2_with fail
  generalize w.alloc (.cells #[.int .i64 c.L, .int .i64 c.R, .int .i64 c.S] 29) = w1 at *
  refine kw.mono ?_
  rintro e w2 ⟨b, cap, rfl, hb, hr, hb2⟩
  have i2 := i1.grow hb2
  have b2 := Below.grown_trans b1 hb2
  have hble : w.heap.size ≤ b := Nat.le_trans b1.size hb
  have hcap := hr.wf_new
  clear kw i1 b1 hb2 hb
  obtain ⟨c0, c1, c2⟩ := i2.c3
  go_wp2_with fail
  refine (k69 _).mono ?_
  rintro e w3 ⟨rfl, d3⟩
  have hr3 := hr.grow d3
  have i3 := i2.grow d3
  have b3 := Below.grown_trans b2 d3
  clear c0 c1 c2 i2 b2 d3 hr k69
  obtain ⟨c0, c1, c2⟩ := i3.c3
  go_wp2_with fail
  refine (k36 _).mono ?_
  rintro e w4 ⟨rfl, d4⟩
  have hr4 := hr3.grow d4
  have b4 := Below.grown_trans b3 d4
  clear c0 c1 c2 i3 b3 d4 hr3 k36
  go_wp2_with fail
  go_ret
  exact ⟨b, cap, rfl, hr4, hble, b4⟩

set_option maxRecDepth 100000 in
set_option maxHeartbeats 2000000 in
theorem fresh_any (c : Cf) (a u : Int) (ra : Option Addr) (rn rc : Nat) (w : World) (hc : c.ok) (a0 : 0 ≤ a) (a1 : a ≤ 1) (u0 : 0 ≤ u) (u1 : u ≤ c.S) :
    Calls Try.prog 50 #[.agg #[.int .i64 c.L, .int .i64 c.R, .int .i64 c.S], .agg #[.int .i64 a, .int .i64 u, .slice ra rn rc]] w fun e w' => e = .returned (.agg #[.int .i64 (c.fr a + u), .int .i64 (c.fr a + c.S)]) ∧ Below w.heap.size w w' := by
  have nS := hc.nums.sp1
  have nS0 := hc.nums.sp0
  have i1 := ((Is.new w (.cells #[.int .i64 c.L, .int .i64 c.R, .int .i64 c.S] 29)).alloc (.cells #[.int .i64 a, .int .i64 u, .slice ra rn rc] 57)).alloc (.cells #[.int .i64 0, .int .i64 0] 77)
  have r1 := (Is.new (w.alloc (.cells #[.int .i64 c.L, .int .i64 c.R, .int .i64 c.S] 29)) (.cells #[.int .i64 a, .int .i64 u, .slice ra rn rc] 57)).alloc (.cells #[.int .i64 0, .int .i64 0] 77)
  have q1 := Is.new ((w.alloc (.cells #[.int .i64 c.L, .int .i64 c.R, .int .i64 c.S] 29)).alloc (.cells #[.int .i64 a, .int .i64 u, .slice ra rn rc] 57)) (.cells #[.int .i64 0, .int .i64 0] 77)
  rw [World.size_alloc] at r1
  rw [World.size_alloc, World.size_alloc] at q1
  have b1 := below3 w (.cells #[.int .i64 c.L, .int .i64 c.R, .int .i64 c.S] 29) (.cells #[.int .i64 a, .int .i64 u, .slice ra rn rc] 57) (.cells #[.int .i64 0, .int .i64 0] 77)
  have k1 := fun w => bplace_any c a u u ra rn rc w hc a0 a1 u0 (by omega)
  have k2 := fun w => bplace_any c a u c.S ra rn rc w hc a0 a1 (by omega) (by omega)
  go_enter Try.func50, Try.ntmps50
  go_upto_region 1 with (fail)
  generalize ((w.alloc (.cells #[.int .i64 c.L, .int .i64 c.R, .int .i64 c.S] 29)).alloc (.cells #[.int .i64 a, .int .i64 u, .slice ra rn rc] 57)).alloc (.cells #[.int .i64 0, .int .i64 0] 77) = w1 at *
  have G := GrW.c3 i1
  have GB := GrW.c3 r1
  refine wp_gr_tail 10 (by kernel_rfl) (by kernel_rfl) ?_
  simp only [List.take_succ_cons, List.take_zero, List.drop_succ_cons, List.drop_zero]
  repeat (go_big_quiet_step (first | (go_at_call 65; with_reducible exact gr_call (k1 _)) | (go_at_call 65; with_reducible exact gr_call (k2 _))))
  refine wpQuiet_nil ?_
  rintro w2 ⟨⟨_, hw2⟩, rfl⟩
  have q2 := q1.grow hw2
  have b2 := Below.grown_trans b1 hw2
  have c0 : w2.cell? ⟨w.heap.size + 1 + 1, 0, none⟩ = some (.int .i64 0) := by rw [q2.cell]; rfl
  have c1 : w2.cell? ⟨w.heap.size + 1 + 1, 1, none⟩ = some (.int .i64 0) := by rw [q2.cell]; rfl
  have f0 : w2.frozen? ⟨w.heap.size + 1 + 1, 0, none⟩ = false := q2.free
  have f1 : w2.frozen? ⟨w.heap.size + 1 + 1, 1, none⟩ = false := q2.free
  have g1 := (q2.set (i := 0) (.int .i64 (c.fr a + u))).set (i := 1) (.int .i64 (c.fr a + c.S))
  simp only [List.setIfInBounds_toArray, List.set_cons_zero, List.set_cons_succ] at g1
  have g2 := ((b2.setCell (p := ⟨w.heap.size + 1 + 1, 0, none⟩) (by simp; omega) (.int .i64 (c.fr a + u))).setCell (p := ⟨w.heap.size + 1 + 1, 1, none⟩) (by simp; omega) (.int .i64 (c.fr a + c.S)))
  clear q1 q2 b1 b2 hw2 i1 r1 k1 k2 G GB
  go_wp2
  ((try simp only [Exit.inBlock, Exit.then]); refine bodyPost_ret (results_cell_row rfl _ _ _ _ _ _ _ rfl g1 Try.underlying77 rfl (by kernel_rfl)) rfl ?_)
  exact ⟨rfl, g2⟩

/-- Alloc by the device's own Store: there is room, or there is none. -/
theorem alloc_both (h : DevH) (D : DevS) (c : Cf) (a u W R : Int) (w : World) (hd : Dev w h D) (hc : c.ok) (hN : (D.now.length : Int) = c.words) (hk : headOk W R) (ha : D.at c.act.toNat = a) (hu : D.at (c.act.toNat + 1) = u) (a0 : 0 ≤ a) (a1 : a ≤ 1) (u0 : 0 ≤ u) (u1 : u ≤ c.S) :
    Calls Try.prog 45 #[.pointer (some ⟨h.d, 0, none⟩), .agg #[.int .i64 c.L, .int .i64 c.R, .int .i64 c.S], .agg #[.int .i64 W, .int .i64 R], .func (.func 27) #[.pointer (some ⟨h.d, 0, none⟩)] #[]] w fun e w' =>
      ∃ (p er : Int) (D' : DevS), e = .returned (.tuple #[.int .i64 p, .int .i64 er]) ∧ Dev w' h D' ∧ Lef (dS h) w w' ∧
        ((u + (W + 1) ≤ c.S ∧ p = c.fr a + u ∧ er = 0 ∧ D' = D.alc c a u W R) ∨ (c.S < u + (W + 1) ∧ p = 0 ∧ er = 4 ∧ D' = D)) := by
  by_cases hr : u + (W + 1) ≤ c.S
  · refine (alloc_dev h D c a u W R w hd hc hN hk ha hu a0 a1 u0 hr).mono ?_
    rintro e w' ⟨rfl, h2, h3⟩
    exact ⟨_, _, _, rfl, h2, h3, .inl ⟨hr, rfl, rfl, rfl⟩⟩
  · refine (alloc_space h D c a u W R _ _ _ w hd hc hk ha hu a0 a1 u0 u1 (by omega)).mono ?_
    rintro e w' ⟨rfl, h2⟩
    exact ⟨_, _, _, rfl, hd.grow h2, Lef.of_below h2, .inr ⟨by omega, rfl, rfl, rfl⟩⟩
end Go.Proofs.Ytpecgfpofihibaa
