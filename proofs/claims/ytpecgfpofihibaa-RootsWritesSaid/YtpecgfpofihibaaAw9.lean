/-
  space.Alloc by the device's own Store; the fixed fact of law 9.
-/
import Derived.Test.YtpecgfpofihibaaAl2
namespace Go.Proofs.Ytpecgfpofihibaa
open Go Go.RowKit Go.MapKept Go.Shelf

/-- The device behind stores. -/
def DevS.stores (D : DevS) (l : List (Int × Int)) : DevS := l.foldl (fun D x => D.store x.1 x.2) D
theorem DevS.stores_snoc (D : DevS) (l : List (Int × Int)) (i v : Int) : D.stores (l ++ [(i, v)]) = (D.stores l).store i v := by simp [DevS.stores]
@[simp] theorem DevS.stores_len (D : DevS) (l : List (Int × Int)) : (D.stores l).now.length = D.now.length := by
  induction l generalizing D with
  | nil => rfl
  | cons x l ih => show ((D.store x.1 x.2).stores l).now.length = _; rw [ih]; simp
theorem DevS.stores_cons (D : DevS) (x : Int × Int) (l : List (Int × Int)) : D.stores (x :: l) = (D.store x.1 x.2).stores l := rfl

/-- A device's own blocks. -/
def dS (h : DevH) (k : Nat) : Prop := h.lo ≤ k ∧ k < h.hi

theorem stF_dev (h : DevH) (D : DevS) (N : Int) (hN : N ≤ D.now.length) :
    StF 27 #[.pointer (some ⟨h.d, 0, none⟩)] #[] h N (dS h) D.stores (fun _ => 0) (fun l W => Dev W h (D.stores l)) where
  grow := fun l W W' hJ hb => hJ.grow hb
  dev := fun l W hJ => hJ
  ent := enters_of Try.func27 (by kernel_rfl) rfl
  bd := fun _ => ⟨by decide, by decide⟩
  call := fun l W i v _ hJ h0 h1 hv => by
    have e : (#[Value.pointer (some ⟨h.d, 0, none⟩)] ++ (#[.int .i64 i, .int .u64 v] ++ #[]) : Array Value) = #[.pointer (some ⟨h.d, 0, none⟩), .int .i64 i, .int .u64 v] := rfl
    rw [e]
    refine (store_lit h (D.stores l) i v W hJ h0 (by rw [DevS.stores_len]; omega) hv).mono ?_
    rintro e w' ⟨rfl, h2, h3⟩
    exact ⟨rfl, by rw [DevS.stores_snoc]; exact h2, Lef.of_left h3 (fun k q1 q2 => ⟨q1, q2⟩)⟩

/-- The device behind Alloc. -/
def DevS.alc (D : DevS) (c : Cf) (a u W R : Int) : DevS := D.stores (alcL c a u W R)
@[simp] theorem DevS.alc_len (D : DevS) (c : Cf) (a u W R : Int) : (D.alc c a u W R).now.length = D.now.length := DevS.stores_len _ _

theorem alloc_dev (h : DevH) (D : DevS) (c : Cf) (a u W R : Int) (w : World) (hd : Dev w h D) (hc : c.ok) (hN : (D.now.length : Int) = c.words) (hk : headOk W R) (ha : D.at c.act.toNat = a) (hu : D.at (c.act.toNat + 1) = u) (a0 : 0 ≤ a) (a1 : a ≤ 1) (u0 : 0 ≤ u) (u1 : u + (W + 1) ≤ c.S) :
    Calls Try.prog 45 #[.pointer (some ⟨h.d, 0, none⟩), .agg #[.int .i64 c.L, .int .i64 c.R, .int .i64 c.S], .agg #[.int .i64 W, .int .i64 R], .func (.func 27) #[.pointer (some ⟨h.d, 0, none⟩)] #[]] w fun e w' => e = .returned (.tuple #[.int .i64 (c.fr a + u), .int .i64 0]) ∧ Dev w' h (D.alc c a u W R) ∧ Lef (dS h) w w' := by
  refine (alloc_go (stF_dev h D c.words (by omega)) a u W R w hd (fun k hk => by have := hd.top; unfold dS at hk; omega) hc hk ha hu a0 a1 u0 u1).mono ?_
  rintro e w' ⟨j, h1, h2, h3, h4, h5, (⟨h6, _⟩ | ⟨h6, _, h7⟩)⟩
  · exact absurd rfl h6
  · refine ⟨h7, ?_, h5⟩
    rw [List.take_of_length_le (by rw [alcL_len]; omega)] at h4
    exact h4

theorem c3D2_a : ((fmtD c3 []).alc c3 0 0 2 0).at c3.act.toNat = 0 := by decide +kernel
theorem c3D2_u : ((fmtD c3 []).alc c3 0 0 2 0).at (c3.act.toNat + 1) = 3 := by decide +kernel

set_option maxRecDepth 100000 in
set_option maxHeartbeats 2000000 in
theorem awake09 (w : World) :
    Calls Try.prog 44 #[] w fun e w' => e = .returned (.bool true) ∧ Below w.heap.size w w' := by
  have hmf : ∀ (fn : Fn) (first cap : Array Value) (w : World), (Instr.makeFunc fn first cap).run Try.prog w = .ok (.func fn first cap) w := fun _ _ _ _ => rfl
  have kf := fun w => from_lit c3 0 w c3_ok (by decide) (by decide)
  have e40 : c3.fr 0 = 40 := by decide
  rw [e40] at kf
  have ka := fun h w hd => alloc_dev h (fmtD c3 []) c3 0 0 2 0 w hd c3_ok c3_words (by decide) c3_a c3_u (by decide) (by decide) (by decide) (by decide)
  rw [e40] at ka
  have kb := fun h fst w hd => alloc_space h ((fmtD c3 []).alc c3 0 0 2 0) c3 0 3 5 0 27 fst #[] w hd c3_ok (by decide) c3D2_a c3D2_u (by decide) (by decide) (by decide) (by decide) (by decide)
  clear e40
  go_enter Try.func44, Try.ntmps44
  go_wp2_with fail
  refine (awake08 _).mono ?_
  rintro e w1 ⟨rfl, b1⟩
  go_wp2_with fail
  have i2 := Is.new w1 (.cells #[.int .i64 3, .int .i64 1, .int .i64 8] 29)
  have b2 : Below w.heap.size w (w1.alloc (.cells #[.int .i64 3, .int .i64 1, .int .i64 8] 29)) := b1.alloc b1.size _
  clear b1
  generalize w1.alloc (.cells #[.int .i64 3, .int .i64 1, .int .i64 8] 29) = w2 at *
  generalize w1.heap.size = cb at *
  refine (formatted_lit c3 [] (.slice none 0 0) _ c3_ok (SlR.nil _) (by decide) (by simp)).mono ?_
  rintro e w3 ⟨h, rfl, hd3, hlo, d3⟩
  have i3 := i2.grow d3
  have b3 := Below.grown_trans b2 d3
  have hlo2 := b2.size
  have hcb : cb < h.lo := Nat.lt_of_lt_of_le i2.lt hlo
  clear i2 b2 d3
  obtain ⟨c0, c1, c2⟩ := i3.c3
  go_wp2_with fail
  refine (ka h _ hd3).mono ?_
  rintro e w4 ⟨rfl, hd4, lf4⟩
  have i4 := i3.lef lf4 (by unfold dS; omega)
  have b4 := b3.trans (lf4.below (fun k hk => by unfold dS at hk; omega) b3.size)
  clear ka c0 c1 c2 i3 b3 hd3 lf4
  obtain ⟨c0, c1, c2⟩ := i4.c3
  go_wp2_with fail
  refine (kb h _ _ hd4).mono ?_
  rintro e w5 ⟨rfl, d5⟩
  have i5 := i4.grow d5
  have b5 := Below.grown_trans b4 d5
  clear kb c0 c1 c2 i4 b4 hd4 d5
  obtain ⟨c0, c1, c2⟩ := i5.c3
  go_wp2_with fail
  refine (kf _).mono ?_
  rintro e w6 ⟨rfl, d6⟩
  have b6 := Below.grown_trans b5 d6
  clear kf c0 c1 c2 i5 b5 d6
  go_wp2_with fail
  go_ret
  exact ⟨rfl, b6⟩
end Go.Proofs.Ytpecgfpofihibaa
