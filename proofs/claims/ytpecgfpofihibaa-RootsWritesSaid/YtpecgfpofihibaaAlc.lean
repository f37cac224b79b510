/-
  space.Alloc, whatever function stores.
-/
import Derived.Test.YtpecgfpofihibaaAw8
namespace Go.Proofs.Ytpecgfpofihibaa
open Go Go.RowKit Go.MapKept

/-- A function that stores: J l holds when the stores l have been asked for; ans l is what the last of them answers. -/
structure StF (f : FuncId) (fst cap : Array Value) (h : DevH) (N : Int) (S : Nat → Prop) (DD : List (Int × Int) → DevS) (ans : List (Int × Int) → Int) (J : List (Int × Int) → World → Prop) : Prop where
  grow : ∀ l W W', J l W → Below W.heap.size W W' → J l W'
  dev : ∀ l W, J l W → Dev W h (DD l)
  ent : ∀ (args : Array Value) (w : World), (callFunc f args).run Try.prog w = .ok (.enter f args) w
  bd : ∀ l, 0 ≤ ans l ∧ ans l ≤ 100
  call : ∀ l W i v, l.length ≤ 1000 → J l W → 0 ≤ i → i < N → U64 v → Calls Try.prog f (fst ++ (#[.int .i64 i, .int .u64 v] ++ cap)) W fun e w' => e = .returned (.int .i64 (ans (l ++ [(i, v)]))) ∧ J (l ++ [(i, v)]) w' ∧ Lef S W w'

/-- What Alloc stores. -/
def alcL (c : Cf) (a u W R : Int) : List (Int × Int) := (c.act + 1, u + (W + 1)) :: (List.range (W + 1).toNat).map fun i => (c.fr a + u + (i : Nat), if i = 0 then packv W R else 0)

/-- How Alloc ends, once it stores. -/
def AlcP (c : Cf) (a u W R : Int) (S : Nat → Prop) (ans : List (Int × Int) → Int) (J : List (Int × Int) → World → Prop) (w : World) (e : Ending) (w' : World) : Prop :=
  ∃ j : Nat, 1 ≤ j ∧ j ≤ (W + 2).toNat ∧ (∀ i : Nat, 1 ≤ i → i < j → ans ((alcL c a u W R).take i) = 0) ∧ J ((alcL c a u W R).take j) w' ∧ Lef S w w' ∧
    ((ans ((alcL c a u W R).take j) ≠ 0 ∧ e = .returned (.tuple #[.int .i64 0, .int .i64 (ans ((alcL c a u W R).take j))])) ∨
     ((j : Int) = W + 2 ∧ ans ((alcL c a u W R).take j) = 0 ∧ e = .returned (.tuple #[.int .i64 (c.fr a + u), .int .i64 0])))

set_option maxRecDepth 100000 in
set_option maxHeartbeats 2000000 in
theorem alloc_kind (h : DevH) (c : Cf) (W R : Int) (f : FuncId) (fst cap : Array Value) (w : World) (hk : ¬ headOk W R) :
    Calls Try.prog 45 #[.pointer (some ⟨h.d, 0, none⟩), .agg #[.int .i64 c.L, .int .i64 c.R, .int .i64 c.S], .agg #[.int .i64 W, .int .i64 R], .func (.func f) fst cap] w fun e w' => e = .returned (.tuple #[.int .i64 0, .int .i64 5]) ∧ Below w.heap.size w w' := by
  have kh := fun w => hcheck_any W R w
  rw [hchk_bad hk] at kh
  unfold headv at kh
  clear hk
  go_enter Try.func45, Try.ntmps45
  go_wp2_with fail
  refine (kh _).mono ?_
  rintro e w1 ⟨rfl, d1⟩
  clear kh
  go_wp2_with fail
  go_ret2
  exact ⟨rfl, below2 d1⟩

set_option maxRecDepth 100000 in
set_option maxHeartbeats 2000000 in
theorem alloc_used (h : DevH) (D : DevS) (c : Cf) (a u W R : Int) (f : FuncId) (fst cap : Array Value) (w : World) (hd : Dev w h D) (hc : c.ok) (hk : headOk W R) (ha : D.at c.act.toNat = a) (hu : D.at (c.act.toNat + 1) = u) (a0 : 0 ≤ a) (u0 : 0 ≤ u) (hbad : 1 < a ∨ c.S < u) :
    Calls Try.prog 45 #[.pointer (some ⟨h.d, 0, none⟩), .agg #[.int .i64 c.L, .int .i64 c.R, .int .i64 c.S], .agg #[.int .i64 W, .int .i64 R], .func (.func f) fst cap] w fun e w' => e = .returned (.tuple #[.int .i64 0, .int .i64 10]) ∧ Below w.heap.size w w' := by
  have kh := fun w => hcheck_any W R w
  rw [hchk_ok hk] at kh
  unfold headv at kh
  have i1 := (Is.new w (.cells #[.int .i64 c.L, .int .i64 c.R, .int .i64 c.S] 29)).alloc (.cells #[.int .i64 W, .int .i64 R] 66)
  have b1 : Below w.heap.size w ((w.alloc (.cells #[.int .i64 c.L, .int .i64 c.R, .int .i64 c.S] 29)).alloc (.cells #[.int .i64 W, .int .i64 R] 66)) := ((Below.refl _ _).alloc (Nat.le_refl _) _).alloc (by simp) _
  have hd1 := (hd.alloc (.cells #[.int .i64 c.L, .int .i64 c.R, .int .i64 c.S] 29)).alloc (.cells #[.int .i64 W, .int .i64 R] 66)
  have kr := fun w hd => rread_bad h D c a u w hd hc ha hu a0 u0 hbad
  clear hk hd ha hu hbad
  go_enter Try.func45, Try.ntmps45
  go_wp2_with fail
  generalize (w.alloc (.cells #[.int .i64 c.L, .int .i64 c.R, .int .i64 c.S] 29)).alloc (.cells #[.int .i64 W, .int .i64 R] 66) = w1 at *
  refine (kh _).mono ?_
  rintro e w2 ⟨rfl, d2⟩
  have i2 := i1.grow d2
  have hd2 := hd1.grow d2
  have b2 := Below.grown_trans b1 d2
  clear kh i1 hd1 b1 d2
  obtain ⟨c0, c1, c2⟩ := i2.c3
  go_wp2_with fail
  refine (kr _ hd2).mono ?_
  rintro e w3 ⟨rfl, d3⟩
  have b3 := Below.grown_trans b2 d3
  clear kr c0 c1 c2 i2 hd2 b2 d3
  go_wp2_with fail
  go_ret2
  exact ⟨rfl, b3.alloc b3.size _⟩

set_option maxRecDepth 100000 in
set_option maxHeartbeats 2000000 in
theorem alloc_space (h : DevH) (D : DevS) (c : Cf) (a u W R : Int) (f : FuncId) (fst cap : Array Value) (w : World) (hd : Dev w h D) (hc : c.ok) (hk : headOk W R) (ha : D.at c.act.toNat = a) (hu : D.at (c.act.toNat + 1) = u) (a0 : 0 ≤ a) (a1 : a ≤ 1) (u0 : 0 ≤ u) (u1 : u ≤ c.S) (hbad : c.S < u + (W + 1)) :
    Calls Try.prog 45 #[.pointer (some ⟨h.d, 0, none⟩), .agg #[.int .i64 c.L, .int .i64 c.R, .int .i64 c.S], .agg #[.int .i64 W, .int .i64 R], .func (.func f) fst cap] w fun e w' => e = .returned (.tuple #[.int .i64 0, .int .i64 4]) ∧ Below w.heap.size w w' := by
  have kh := fun w => hcheck_any W R w
  rw [hchk_ok hk] at kh
  have hW0 := hk.1
  have hW1 := hk.2.1
  have ks := fun w => hsize W R w (by omega) (by omega)
  unfold headv at kh ks
  have nS0 := hc.nums.sp0
  have nS1 := hc.nums.sp1
  have i1 := (Is.new w (.cells #[.int .i64 c.L, .int .i64 c.R, .int .i64 c.S] 29)).alloc (.cells #[.int .i64 W, .int .i64 R] 66)
  have j1 := Is.new (w.alloc (.cells #[.int .i64 c.L, .int .i64 c.R, .int .i64 c.S] 29)) (.cells #[.int .i64 W, .int .i64 R] 66)
  rw [World.size_alloc] at j1
  have b1 : Below w.heap.size w ((w.alloc (.cells #[.int .i64 c.L, .int .i64 c.R, .int .i64 c.S] 29)).alloc (.cells #[.int .i64 W, .int .i64 R] 66)) := ((Below.refl _ _).alloc (Nat.le_refl _) _).alloc (by simp) _
  have hd1 := (hd.alloc (.cells #[.int .i64 c.L, .int .i64 c.R, .int .i64 c.S] 29)).alloc (.cells #[.int .i64 W, .int .i64 R] 66)
  have kr := fun w hd => rread_any h D c a u w hd hc ha hu a0 a1 u0 u1
  clear hk hd ha hu
  go_enter Try.func45, Try.ntmps45
  go_wp2_with fail
  generalize (w.alloc (.cells #[.int .i64 c.L, .int .i64 c.R, .int .i64 c.S] 29)).alloc (.cells #[.int .i64 W, .int .i64 R] 66) = w1 at *
  refine (kh _).mono ?_
  rintro e w2 ⟨rfl, d2⟩
  have i2 := i1.grow d2
  have j2 := j1.grow d2
  have hd2 := hd1.grow d2
  have b2 := Below.grown_trans b1 d2
  clear kh i1 j1 hd1 b1 d2
  obtain ⟨c0, c1, c2⟩ := i2.c3
  go_wp2_with fail
  refine (kr _ hd2).mono ?_
  rintro e w3 ⟨ra, rn, rc, rfl, hsl, d3⟩
  have i3 := (i2.grow d3).alloc (.cells #[.int .i64 a, .int .i64 u, .slice ra rn rc] 57)
  have j3 := (j2.grow d3).alloc (.cells #[.int .i64 a, .int .i64 u, .slice ra rn rc] 57)
  have n3 := Is.new w3 (.cells #[.int .i64 a, .int .i64 u, .slice ra rn rc] 57)
  have b3 := (Below.grown_trans b2 d3).alloc (Below.grown_trans b2 d3).size (.cells #[.int .i64 a, .int .i64 u, .slice ra rn rc] 57)
  clear kr c0 c1 c2 i2 j2 hd2 b2 d3 hsl
  go_wp2_with fail
  generalize w3.alloc (.cells #[.int .i64 a, .int .i64 u, .slice ra rn rc] 57) = w4 at *
  generalize w3.heap.size = bb at *
  have G := GrW.c3 i3
  have G2 := GrW.c3 n3
  have h0 : w4.cell? ⟨w.heap.size + 1, 0, none⟩ = some (.int .i64 W) := by rw [j3.cell]; rfl
  have h1 : w4.cell? ⟨w.heap.size + 1, 1, none⟩ = some (.int .i64 R) := by rw [j3.cell]; rfl
  have H0 := GrW.cell h0
  have H1 := GrW.cell h1
  refine wp_gr (by kernel_rfl) (by kernel_rfl) ?_
  repeat (go_big_quiet_step (first | (go_at_call 66; with_reducible exact gr_call (ks _))))
  refine wpQuiet_nil ?_
  rintro w5 ⟨⟨_, hw5⟩, rfl⟩
  have b5 := Below.grown_trans b3 hw5
  clear G G2 H0 H1 h0 h1 ks i3 j3 n3 b3 hw5
  go_wp2_with fail
  go_ret2
  exact ⟨rfl, b5⟩
end Go.Proofs.Ytpecgfpofihibaa
