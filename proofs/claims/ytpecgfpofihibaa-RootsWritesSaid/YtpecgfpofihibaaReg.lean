/-
  region: what its functions answer.
-/
import Derived.Test.YtpecgfpofihibaaProg
import Derived.Test.YtpecgfpofihibaaQ
import Derived.Test.YtpecgfpofihibaaPl
import Derived.WalkKit
import Derived.Lib.Hide
import Derived.WalkSpells
import Derived.WalkLawsBesides
namespace Go.Proofs.Ytpecgfpofihibaa
open Go Go.RowKit

/-- A config as a value. -/
def Cf.val (c : Cf) : Value := .agg #[.int .i64 c.L, .int .i64 c.R, .int .i64 c.S]

set_option maxHeartbeats 400000 in
theorem lines_any (n : Int) (w : World) (h0 : 0 ≤ n) (h1 : n ≤ 100000) :
    Calls Try.prog 84 #[.int .i64 n] w fun e w' => e = .returned (.int .i64 (ln n)) ∧ w = w' := by
  go_enter Try.func84, Try.ntmps84
  go_wp2
  go_ret
  exact ⟨by unfold ln; simp; omega, rfl⟩

set_option maxHeartbeats 400000 in
theorem record_any (c : Cf) (i : Int) (w : World) (h0 : 0 ≤ i) (h1 : i ≤ 100000) :
    Calls Try.prog 75 #[c.val, .int .i64 i] w fun e w' => e = .returned (.int .i64 (c.recd i)) ∧ Below w.heap.size w w' := by
  unfold Cf.val
  go_enter Try.func75, Try.ntmps75
  go_wp2
  go_ret
  exact ⟨by unfold Cf.recd; simp, (Below.refl _ _).alloc (Nat.le_refl _) _⟩

set_option maxHeartbeats 400000 in
theorem active_any (c : Cf) (w : World) (hc : c.ok) :
    Calls Try.prog 36 #[c.val] w fun e w' => e = .returned (.int .i64 c.act) ∧ Below w.heap.size w w' := by
  obtain ⟨L, R, S⟩ := c
  obtain ⟨r1, r2, l1, l2, s1, s2⟩ := hc
  simp only at r1 r2 l1 l2 s1 s2
  unfold Cf.val
  go_enter Try.func36, Try.ntmps36
  go_wp2_with fail
  refine (record_any ⟨L, R, S⟩ L _ (by omega) (by omega)).mono ?_
  rintro e w1 ⟨rfl, hb⟩
  go_wp2_with fail
  refine (lines_any _ _ (by unfold Cf.recd; omega) (by unfold Cf.recd; omega)).mono ?_
  rintro e w' ⟨rfl, rfl⟩
  go_wp2_with fail
  go_ret
  exact ⟨rfl, (((Below.refl _ _).alloc (Nat.le_refl _) _).trans (hb.mono (by simp)))⟩

theorem bel_alloc {w w1 : World} {o : Obj} (h : Below (w.alloc o).heap.size (w.alloc o) w1) : Below w.heap.size w w1 :=
  ((Below.refl _ _).alloc (Nat.le_refl _) _).trans (h.mono (by simp))

set_option maxHeartbeats 400000 in
theorem used_any (c : Cf) (w : World) (hc : c.ok) :
    Calls Try.prog 38 #[c.val] w fun e w' => e = .returned (.int .i64 (c.act + 1)) ∧ Below w.heap.size w w' := by
  have hb := c.bds
  have h1 : c.act + 1 ≤ 2000 := by have := hb.a2; have := hc.l2; omega
  have h0 : 0 ≤ c.act := by have := hb.a1; have := hc.l1; have := hc.r1; omega
  clear hb
  unfold Cf.val
  go_enter Try.func38, Try.ntmps38
  go_wp2_with fail
  refine (active_any c _ hc).mono ?_
  rintro e w1 ⟨rfl, hb⟩
  go_wp2_with fail
  go_ret
  exact ⟨rfl, bel_alloc hb⟩

set_option maxHeartbeats 400000 in
theorem root_any (c : Cf) (i : Int) (w : World) (hc : c.ok) (h0 : 0 ≤ i) (h1 : i ≤ 100000) :
    Calls Try.prog 39 #[c.val, .int .i64 i] w fun e w' => e = .returned (.int .i64 (c.root i)) ∧ Below w.heap.size w w' := by
  have hb := c.bds
  have h2 : c.act + 1 ≤ 2000 := by have := hb.a2; have := hc.l2; omega
  have h3 : 0 ≤ c.act := by have := hb.a1; have := hc.l1; have := hc.r1; omega
  clear hb
  unfold Cf.val
  go_enter Try.func39, Try.ntmps39
  go_wp2_with fail
  refine (active_any c _ hc).mono ?_
  rintro e w1 ⟨rfl, hb⟩
  go_wp2_with fail
  go_ret
  exact ⟨rfl, bel_alloc hb⟩

theorem Cf.ok.rt (c : Cf) (hc : c.ok) : 0 ≤ c.root c.R ∧ c.root c.R ≤ 2000 ∧ 0 ≤ c.R ∧ c.R ≤ 100 ∧ 0 ≤ c.S ∧ c.S ≤ 5000 := by
  obtain ⟨r1, r2, l1, l2, s1, s2⟩ := hc
  have hb := c.bds
  have := hb.a1
  have := hb.a2
  unfold Cf.root
  omega

set_option maxHeartbeats 400000 in
theorem from_any (c : Cf) (s : Int) (w : World) (hc : c.ok) (h0 : 0 ≤ s) (h1 : s ≤ 2) :
    Calls Try.prog 47 #[c.val, .int .i64 s] w fun e w' => e = .returned (.int .i64 (c.fr s)) ∧ Below w.heap.size w w' := by
  obtain ⟨q1, q2, q3, q4, q5, q6⟩ := hc.rt
  obtain ⟨b1, b2⟩ : 0 ≤ ln c.S ∧ ln c.S ≤ 6000 := by have := c.bds.s1; have := c.bds.s2; omega
  obtain ⟨b3, b4⟩ : 0 ≤ ln (c.root c.R) ∧ ln (c.root c.R) ≤ 6000 := by unfold ln; omega
  obtain ⟨b5, b6⟩ : 0 ≤ s * ln c.S ∧ s * ln c.S ≤ 12000 := ⟨Int.mul_nonneg h0 b1, by have := Int.mul_le_mul h1 b2 b1 (by omega); omega⟩
  unfold Cf.val
  go_enter Try.func47, Try.ntmps47
  go_wp2_with fail
  refine wp_gr (by kernel_rfl) (by kernel_rfl) ?_
  have hc0 : ∀ x : GrW (w.alloc (.cells #[.int .i64 c.L, .int .i64 c.R, .int .i64 c.S] 29)), x.1.cell? ⟨w.heap.size, 0, none⟩ = some (.int .i64 c.L) := fun x => x.cell (by simp)
  have hc1 : ∀ x : GrW (w.alloc (.cells #[.int .i64 c.L, .int .i64 c.R, .int .i64 c.S] 29)), x.1.cell? ⟨w.heap.size, 1, none⟩ = some (.int .i64 c.R) := fun x => x.cell (by simp)
  have hc2 : ∀ x : GrW (w.alloc (.cells #[.int .i64 c.L, .int .i64 c.R, .int .i64 c.S] 29)), x.1.cell? ⟨w.heap.size, 2, none⟩ = some (.int .i64 c.S) := fun x => x.cell (by simp)
  repeat (go_big_quiet_step (first
    | (go_at_call 39; exact gr_call (root_any c _ _ hc (by omega) (by omega)))
    | (go_at_call 84; exact gr_call_same (lines_any _ _ (by omega) (by omega)))))
  refine wpQuiet_nil ?_
  rintro _ ⟨⟨w1, hw1⟩, rfl⟩
  go_wp2
  go_ret
  exact ⟨rfl, bel_alloc hw1⟩

set_option maxHeartbeats 400000 in
theorem cwords_any (c : Cf) (w : World) (hc : c.ok) :
    Calls Try.prog 69 #[c.val] w fun e w' => e = .returned (.int .i64 c.words) ∧ Below w.heap.size w w' := by
  unfold Cf.val
  go_enter Try.func69, Try.ntmps69
  go_wp2_with fail
  refine (from_any c 2 _ hc (by omega) (by omega)).mono ?_
  rintro e w1 ⟨rfl, hb⟩
  go_wp2_with fail
  go_ret
  exact ⟨rfl, bel_alloc hb⟩

set_option maxHeartbeats 400000 in
theorem ccheck_any (c : Cf) (w : World) (hc : c.ok) :
    Calls Try.prog 100 #[c.val] w fun e w' => e = .returned (.int .i64 0) ∧ Below w.heap.size w w' := by
  obtain ⟨r1, r2, l1, l2, s1, s2⟩ := hc
  have hn : ¬ 9223372036854775807 < c.R + 2 := by omega
  clear hn
  unfold Cf.val
  go_enter Try.func100, Try.ntmps100
  go_wp2
  go_ret
  exact ⟨rfl, (Below.refl _ _).alloc (Nat.le_refl _) _⟩
end Go.Proofs.Ytpecgfpofihibaa
