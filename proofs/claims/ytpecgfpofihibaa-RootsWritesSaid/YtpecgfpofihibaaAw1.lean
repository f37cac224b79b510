/-
  tumuluslaw01.Awake: the power goes, by panic, up to the Run around it.
-/
import Derived.Test.YtpecgfpofihibaaNvm
import Derived.Defers
import Derived.Recover
namespace Go.Proofs.Ytpecgfpofihibaa
open Go Go.RowKit

set_option maxHeartbeats 400000 in
theorem tick_one (p : Nat) (w : World) (hp : Is w p (.cells #[.int .i64 1, .int .i64 0] 150 (0, 0))) :
    Calls Try.prog 80 #[.pointer (some ⟨p, 0, none⟩)] w fun e w' => e = .returned (.tuple #[]) ∧ ∃ n, w' = (w.drewN n).setCell ⟨p, 1, none⟩ (.int .i64 1) := by
  have c0 : w.cell? ⟨p, 0, none⟩ = some (.int .i64 1) := by rw [hp.cell]; rfl
  have c1 : w.cell? ⟨p, 1, none⟩ = some (.int .i64 0) := by rw [hp.cell]; rfl
  have f1 : w.frozen? ⟨p, 1, none⟩ = false := hp.free
  clear hp
  go_enter Try.func80, Try.ntmps80
  go_wp2_with fail
  go_quiet (fail)
  go_wp2
  go_end0
  exact ⟨rfl, _, rfl⟩

def offPanic : List PanicEntry := [{ v := .iface 152 (.agg #[]), recovered := false }]

set_option maxHeartbeats 400000 in
theorem tick_off (p : Nat) (w : World) (hp : Is w p (.cells #[.int .i64 1, .int .i64 1] 150 (0, 0))) :
    Calls Try.prog 80 #[.pointer (some ⟨p, 0, none⟩)] w fun e w' => e = .panicked offPanic ∧ ∃ n, w' = w.drewN n := by
  have c0 : w.cell? ⟨p, 0, none⟩ = some (.int .i64 1) := by rw [hp.cell]; rfl
  have c1 : w.cell? ⟨p, 1, none⟩ = some (.int .i64 1) := by rw [hp.cell]; rfl
  clear hp
  go_enter Try.func80, Try.ntmps80
  go_wp2_with fail
  go_quiet (fail)
  go_wp2
  exact ⟨rfl, rfl, _, rfl⟩

set_option maxHeartbeats 400000 in
/-- The first closure: a step, and another, at which the power goes. -/
theorem aw1_do (p bx : Nat) (w : World) (hp : Is w p (.cells #[.int .i64 1, .int .i64 0] 150 (0, 0))) (hb : Is w bx (.cells #[.pointer (some ⟨p, 0, none⟩)] 128 (0, 0))) (hne : bx ≠ p) :
    Calls Try.prog 113 #[.pointer (some ⟨bx, 0, none⟩)] w fun e w' => e = .panicked offPanic ∧ Is w' p (.cells #[.int .i64 1, .int .i64 1] 150 (0, 0)) ∧ Left p (p + 1) w w' := by
  have c0 : w.cell? ⟨bx, 0, none⟩ = some (.pointer (some ⟨p, 0, none⟩)) := by rw [hb.cell]; rfl
  go_enter Try.func113, Try.ntmps113
  go_wp2_with fail
  refine (tick_one p _ hp).mono ?_
  rintro e w1 ⟨rfl, n, rfl⟩
  have hp1 : Is ((w.drewN n).setCell ⟨p, 1, none⟩ (.int .i64 1)) p (.cells #[.int .i64 1, .int .i64 1] 150 (0, 0)) := Is.set (w := w.drewN n) (i := 1) hp _
  have hb1 : Is ((w.drewN n).setCell ⟨p, 1, none⟩ (.int .i64 1)) bx (.cells #[.pointer (some ⟨p, 0, none⟩)] 128 (0, 0)) := Is.set_other (w := w.drewN n) hb (Ne.symm hne) _
  have hl1 : Left p (p + 1) w ((w.drewN n).setCell ⟨p, 1, none⟩ (.int .i64 1)) := Left.setCell (a := w) (b := w.drewN n) (p := ⟨p, 1, none⟩) ⟨rfl, rfl, rfl, Nat.le_refl _, fun _ _ _ => rfl⟩ (Nat.le_refl _) (Nat.lt_succ_self _) _
  clear c0 hp hb
  generalize (w.drewN n).setCell ⟨p, 1, none⟩ (.int .i64 1) = w2 at *
  have c0 : w2.cell? ⟨bx, 0, none⟩ = some (.pointer (some ⟨p, 0, none⟩)) := by rw [hb1.cell]; rfl
  go_wp2_with fail
  refine (tick_off p _ hp1).mono ?_
  rintro e w3 ⟨rfl, n2, rfl⟩
  exact ⟨rfl, rfl, hp1, hl1.trans ⟨rfl, rfl, rfl, Nat.le_refl _, fun _ _ _ => rfl⟩⟩

set_option maxHeartbeats 400000 in
theorem aw1_nothing (w : World) : Calls Try.prog 115 #[] w fun e w' => e = .returned (.tuple #[]) ∧ w = w' := by
  go_enter Try.func115, Try.ntmps115
  go_wp2
  go_end0
  exact ⟨rfl, rfl⟩

/-- Run's deferred function, at a panic of the power's. -/
theorem run_catch (b : Nat) (x : Bool) (w : World) (hb : Is w b (.cells #[.bool x] 4 (0, 0))) :
    CallsD Try.prog 116 #[.pointer (some ⟨b, 0, none⟩)] (.panicking offPanic) w fun e u' w' =>
      e = .returned (.tuple #[]) ∧ u' = .panicking [{ v := .iface 152 (.agg #[]), recovered := true }] ∧ Is w' b (.cells #[.bool false] 4 (0, 0)) ∧ Left b (b + 1) w w' := by
  refine callsD_of_wpS Try.func116 rfl fun c₀ cs hu => ?_
  apply wpS_seq
  apply wpS_region
  simp [wpOpsS, go_sem, recoverD, hu, Try.ntmps116, Exit.thenS, offPanic]
  refine wpS_of_wp ?_
  simp only [Array.replicate_succ, Array.replicate_zero, List.push_toArray, List.append_toArray, List.nil_append, List.cons_append, List.setIfInBounds_toArray, List.set_cons_succ, List.set_cons_zero]
  have f0 : w.frozen? ⟨b, 0, none⟩ = false := hb.free
  have c0 : w.cell? ⟨b, 0, none⟩ = some (.bool x) := by rw [hb.cell]; rfl
  have hl := hb.lt
  clear hu
  have hta : ∀ w, (Instr.typeAssert (.iface 152 (.agg #[])) 20 152 true).run Try.prog w = .ok (.tuple #[.agg #[], .bool true]) w := fun w => by kernel_rfl
  go_wp2
  have h1 := (Is.set (i := 0) hb (.bool false)).alloc (.cells #[] 152)
  have h2 : Left b (b + 1) w ((w.setCell ⟨b, 0, none⟩ (.bool false)).alloc (.cells #[] 152)) := ((Left.refl _ _ _).setCell (p := ⟨b, 0, none⟩) (Nat.le_refl _) (Nat.lt_succ_self _) _).alloc _
  simp [bodyPostS, results, Try.results116]
  exact ⟨h1, h2⟩

theorem run_idle (b : Nat) (w : World) :
    CallsD Try.prog 116 #[.pointer (some ⟨b, 0, none⟩)] .returning w fun e u' w' => e = .returned (.tuple #[]) ∧ u' = .returning ∧ w' = w := by
  refine callsD_of_wpS Try.func116 rfl fun c₀ cs hu => ?_
  apply wpS_seq
  apply wpS_region
  simp [wpOpsS, go_sem, recoverD, hu, Try.ntmps116, Exit.thenS]
  refine wpS_of_wp ?_
  simp only [Array.replicate_succ, Array.replicate_zero, List.push_toArray, List.append_toArray, List.nil_append, List.cons_append, List.setIfInBounds_toArray, List.set_cons_succ, List.set_cons_zero]
  have Hu := Lib.hid hu
  clear hu
  go_wp2
  cases c₀
  have hu := Hu.out
  simp_all [bodyPostS, results, Try.results116]

set_option maxHeartbeats 400000 in
/-- Run of what the power's going ends. -/
theorem run_off (p bx : Nat) (w : World) (hp : Is w p (.cells #[.int .i64 1, .int .i64 0] 150 (0, 0))) (hb : Is w bx (.cells #[.pointer (some ⟨p, 0, none⟩)] 128 (0, 0))) (hne : bx ≠ p) :
    Calls Try.prog 112 #[.func (.func 113) #[] #[.pointer (some ⟨bx, 0, none⟩)]] w fun e w' => e = .returned (.bool false) ∧ Is w' p (.cells #[.int .i64 1, .int .i64 1] 150 (0, 0)) ∧ Left p (p + 1) w w' := by
  have hmf : ∀ (fn : Fn) (first cap : Array Value) (w : World), (Instr.makeFunc fn first cap).run Try.prog w = .ok (.func fn first cap) w := fun _ _ _ _ => rfl
  have hp1 := hp.alloc (.cells #[.bool false] 4)
  have hb1 := hb.alloc (.cells #[.bool false] 4)
  have hr1 := Is.new w (.cells #[.bool false] 4)
  have hl1 : Left p (p + 1) w (w.alloc (.cells #[.bool false] 4)) := (Left.refl _ _ _).alloc _
  have hplt := hp.lt
  clear hp hb
  go_enter_defers Try.func112, Try.ntmps112
  go_wp2_with fail
  refine (aw1_do p bx _ hp1 hb1 hne).mono ?_
  rintro e w1 ⟨rfl, hp2, hl2⟩
  have hr2 := hr1.left hl2 (by omega)
  have hl3 := hl1.trans hl2
  refine leaves_cons (f := 116) (args := #[.pointer (some ⟨w.heap.size, 0, none⟩)]) (by simp) (by simp [go_sem]) ?_
  refine (run_catch w.heap.size false _ hr2).mono ?_
  rintro e u' w2 ⟨rfl, rfl, hr3, hl4⟩
  have c0 : w2.cell? ⟨w.heap.size, 0, none⟩ = some (.bool false) := by rw [hr3.cell]; rfl
  have hfin := hp2.left hl4 (by omega)
  have hlf := hl3.andNew hl4 (Nat.le_refl _)
  simp [Leaves, settle, results, Try.results112, go_sem, c0]
  exact ⟨hfin, hlf⟩

set_option maxHeartbeats 400000 in
/-- Run of nothing. -/
theorem run_nothing (w : World) :
    Calls Try.prog 112 #[.func (.func 115) #[] #[]] w fun e w' => e = .returned (.bool true) ∧ Below w.heap.size w w' := by
  have hmf : ∀ (fn : Fn) (first cap : Array Value) (w : World), (Instr.makeFunc fn first cap).run Try.prog w = .ok (.func fn first cap) w := fun _ _ _ _ => rfl
  have hr1 := Is.new w (.cells #[.bool false] 4)
  have hl1 : Below w.heap.size w (w.alloc (.cells #[.bool false] 4)) := (Below.refl _ _).alloc (Nat.le_refl _) _
  go_enter_defers Try.func112, Try.ntmps112
  go_wp2_with fail
  refine (aw1_nothing _).mono ?_
  rintro e w1 ⟨rfl, rfl⟩
  generalize w.alloc (.cells #[.bool false] 4) = w1 at *
  have f0 : w1.frozen? ⟨w.heap.size, 0, none⟩ = false := hr1.free
  have c0 : w1.cell? ⟨w.heap.size, 0, none⟩ = some (.bool false) := by rw [hr1.cell]; rfl
  go_wp2_with fail
  refine leaves_cons (f := 116) (args := #[.pointer (some ⟨w.heap.size, 0, none⟩)]) (by simp) (by simp [go_sem]) ?_
  refine (run_idle w.heap.size _).mono ?_
  rintro e u' w2 ⟨rfl, rfl, rfl⟩
  have hr2 := Is.set (i := 0) hr1 (.bool true)
  have c1 : (w1.setCell ⟨w.heap.size, 0, none⟩ (.bool true)).cell? ⟨w.heap.size, 0, none⟩ = some (.bool true) := by rw [hr2.cell]; rfl
  have hb := hl1.setCell (p := ⟨w.heap.size, 0, none⟩) (Nat.le_refl _) (.bool true)
  simp [Leaves, settle, results, Try.results112, go_sem, c1]
  exact hb

set_option maxHeartbeats 400000 in
theorem used_any1 (p : Nat) (l u : Int) (w : World) (hp : Is w p (.cells #[.int .i64 l, .int .i64 u] 150 (0, 0))) :
    Calls Try.prog 114 #[.pointer (some ⟨p, 0, none⟩)] w fun e w' => e = .returned (.int .i64 u) ∧ w = w' := by
  have c1 : w.cell? ⟨p, 1, none⟩ = some (.int .i64 u) := by rw [hp.cell]; rfl
  clear hp
  go_enter Try.func114, Try.ntmps114
  go_wp2
  go_ret
  exact ⟨rfl, rfl⟩

theorem power_new1 (n : Int) (w : World) :
    Calls Try.prog 97 #[.int .i64 n] w fun e w' => e = .returned (.pointer (some ⟨w.heap.size, 0, none⟩)) ∧ w' = w.alloc (.cells #[.int .i64 n, .int .i64 0] 150) := by
  go_enter Try.func97, Try.ntmps97
  go_wp2
  go_ret
  exact ⟨rfl, rfl⟩

set_option maxHeartbeats 400000 in
theorem awake01 (w : World) :
    Calls Try.prog 109 #[] w fun e w' => e = .returned (.bool true) ∧ Below w.heap.size w w' := by
  have hmf : ∀ (fn : Fn) (first cap : Array Value) (w : World), (Instr.makeFunc fn first cap).run Try.prog w = .ok (.func fn first cap) w := fun _ _ _ _ => rfl
  go_enter Try.func109, Try.ntmps109
  go_wp2_with fail
  refine (power_new1 1 _).mono ?_
  rintro e w1 ⟨rfl, rfl⟩
  go_wp2_with fail
  have hp1 := (Is.new w (.cells #[.int .i64 1, .int .i64 0] 150)).alloc (.cells #[.pointer (some ⟨w.heap.size, 0, none⟩)] 128)
  have hb1 := Is.new (w.alloc (.cells #[.int .i64 1, .int .i64 0] 150)) (.cells #[.pointer (some ⟨w.heap.size, 0, none⟩)] 128)
  rw [World.size_alloc] at hb1
  have hl1 : Below w.heap.size w ((w.alloc (.cells #[.int .i64 1, .int .i64 0] 150)).alloc (.cells #[.pointer (some ⟨w.heap.size, 0, none⟩)] 128)) :=
    ((Below.refl _ _).alloc (Nat.le_refl _) _).alloc (by simp) _
  generalize (w.alloc (.cells #[.int .i64 1, .int .i64 0] 150)).alloc (.cells #[.pointer (some ⟨w.heap.size, 0, none⟩)] 128) = w2 at *
  refine (run_off w.heap.size (w.heap.size + 1) _ hp1 hb1 (by omega)).mono ?_
  rintro e w3 ⟨rfl, hp2, hl2⟩
  have hb2 := hb1.left hl2 (by omega)
  have hl3 : Below w.heap.size w w3 := hl1.trans (hl2.below (Nat.le_refl _) hl1.size)
  have c0 : w3.cell? ⟨w.heap.size + 1, 0, none⟩ = some (.pointer (some ⟨w.heap.size, 0, none⟩)) := by rw [hb2.cell]; rfl
  clear hp1 hb1 hl1 hl2
  go_wp2_with fail
  refine (used_any1 w.heap.size 1 1 _ hp2).mono ?_
  rintro e w4 ⟨rfl, rfl⟩
  go_wp2_with fail
  refine (run_nothing _).mono ?_
  rintro e w4 ⟨rfl, hl4⟩
  go_wp2_with fail
  go_ret
  exact ⟨rfl, Below.grown_trans hl3 hl4⟩
end Go.Proofs.Ytpecgfpofihibaa
