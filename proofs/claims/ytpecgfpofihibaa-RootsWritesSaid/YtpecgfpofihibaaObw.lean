/-
  object: Write, Point, Names.
-/
import Derived.Test.YtpecgfpofihibaaObm
namespace Go.Proofs.Ytpecgfpofihibaa
open Go Go.RowKit Go.MapKept Go.Shelf

set_option maxRecDepth 100000 in
set_option maxHeartbeats 2000000 in
theorem owrite_ok {f : FuncId} {fst cap : Array Value} {h : DevH} {N : Int} {S : Nat → Prop} {DD : List (Int × Int) → DevS} {ans : List (Int × Int) → Int} {J : List (Int × Int) → World → Prop} (hst : StF f fst cap h N S DD ans J)
    (l : List (Int × Int)) (W R a i v : Int) (w : World) (hJ : J l w) (hl : l.length ≤ 1000) (hb : ObB W R a i) (hN : a + 1 + W ≤ N) (hv : U64 v) (h0 : fldC W R i false = 0) :
    Calls Try.prog 57 #[.agg #[.int .i64 W, .int .i64 R, .int .i64 a], .int .i64 i, .int .u64 v, .func (.func f) fst cap] w fun e w' => e = .returned (.int .i64 (ans (l ++ [(a + 1 + i, v)]))) ∧ J (l ++ [(a + 1 + i, v)]) w' ∧ Lef S w w' := by
  have hent := hst.ent
  have kf := fun w => field_any W R a i false w hb.a0 hb.a1 hb.w0 hb.w1 hb.i1
  have b1 : Below w.heap.size w (w.alloc (.cells #[.int .i64 W, .int .i64 R, .int .i64 a] 81)) := (Below.refl _ _).alloc (Nat.le_refl _) _
  obtain ⟨a0, a1, w0, w1, i1⟩ := hb
  obtain ⟨e1, e2, e3⟩ := fldP_ok (a := a) h0
  rw [h0, e1] at kf
  clear h0 e1
  go_enter Try.func57, Try.ntmps57
  go_wp2_with fail
  refine (kf _).mono ?_
  rintro e w2 ⟨rfl, d2⟩
  have b2 := Below.grown_trans b1 d2
  have k1 := hst.call l w2 (a + 1 + i) v hl (hst.grow _ _ _ hJ b2) (by omega) (by omega) hv
  have hbd := hst.bd (l ++ [(a + 1 + i, v)])
  clear kf hJ d2 b1
  go_wp2_with fail
  refine k1.mono ?_
  rintro e w3 ⟨rfl, hJ3, lf3⟩
  have L3 : Lef S w w3 := (Lef.of_below b2).trans lf3
  clear k1 lf3 b2
  go_wp2_with fail
  go_ret
  exact ⟨rfl, hJ3, L3⟩

set_option maxRecDepth 100000 in
set_option maxHeartbeats 2000000 in
theorem owrite_bad (f : FuncId) (fst cap : Array Value) (W R a i v : Int) (w : World) (hb : ObB W R a i) (h0 : fldC W R i false ≠ 0) :
    Calls Try.prog 57 #[.agg #[.int .i64 W, .int .i64 R, .int .i64 a], .int .i64 i, .int .u64 v, .func (.func f) fst cap] w fun e w' => e = .returned (.int .i64 (fldC W R i false)) ∧ Below w.heap.size w w' := by
  have kf := fun w => field_any W R a i false w hb.a0 hb.a1 hb.w0 hb.w1 hb.i1
  have b1 : Below w.heap.size w (w.alloc (.cells #[.int .i64 W, .int .i64 R, .int .i64 a] 81)) := (Below.refl _ _).alloc (Nat.le_refl _) _
  obtain ⟨a0, a1, w0, w1, i1⟩ := hb
  obtain ⟨q0, q1⟩ := fldC_bd W R i false
  generalize fldC W R i false = q at *
  generalize fldP W R a i false = q2 at *
  go_enter Try.func57, Try.ntmps57
  go_wp2_with fail
  refine (kf _).mono ?_
  rintro e w2 ⟨rfl, d2⟩
  have b2 := Below.grown_trans b1 d2
  clear kf
  go_wp2_with fail
  go_ret
  exact ⟨rfl, b2⟩

set_option maxRecDepth 100000 in
set_option maxHeartbeats 2000000 in
theorem opoint_ok {f : FuncId} {fst cap : Array Value} {h : DevH} {N : Int} {S : Nat → Prop} {DD : List (Int × Int) → DevS} {ans : List (Int × Int) → Int} {J : List (Int × Int) → World → Prop} (hst : StF f fst cap h N S DD ans J)
    (l : List (Int × Int)) (W R a i v : Int) (w : World) (hJ : J l w) (hl : l.length ≤ 1000) (hb : ObB W R a i) (hN : a + 1 + W ≤ N) (hv0 : 0 ≤ v) (hv1 : v ≤ 9223372036854775807) (h0 : fldC W R i true = 0) :
    Calls Try.prog 55 #[.agg #[.int .i64 W, .int .i64 R, .int .i64 a], .int .i64 i, .int .i64 v, .func (.func f) fst cap] w fun e w' => e = .returned (.int .i64 (ans (l ++ [(a + 1 + i, v)]))) ∧ J (l ++ [(a + 1 + i, v)]) w' ∧ Lef S w w' := by
  have hent := hst.ent
  have kf := fun w => field_any W R a i true w hb.a0 hb.a1 hb.w0 hb.w1 hb.i1
  have b1 : Below w.heap.size w (w.alloc (.cells #[.int .i64 W, .int .i64 R, .int .i64 a] 81)) := (Below.refl _ _).alloc (Nat.le_refl _) _
  obtain ⟨a0, a1, w0, w1, i1⟩ := hb
  obtain ⟨e1, e2, e3⟩ := fldP_ok (a := a) h0
  rw [h0, e1] at kf
  clear h0 e1
  go_enter Try.func55, Try.ntmps55
  go_wp2_with fail
  refine (kf _).mono ?_
  rintro e w2 ⟨rfl, d2⟩
  have b2 := Below.grown_trans b1 d2
  have k1 := hst.call l w2 (a + 1 + i) v hl (hst.grow _ _ _ hJ b2) (by omega) (by omega) ⟨hv0, by omega⟩
  clear kf hJ d2 b1
  go_wp2_with fail
  refine k1.mono ?_
  rintro e w3 ⟨rfl, hJ3, lf3⟩
  have L3 : Lef S w w3 := (Lef.of_below b2).trans lf3
  clear k1 lf3 b2
  go_wp2_with fail
  go_ret
  exact ⟨rfl, hJ3, L3⟩

set_option maxRecDepth 100000 in
set_option maxHeartbeats 2000000 in
theorem opoint_bad (f : FuncId) (fst cap : Array Value) (W R a i v : Int) (w : World) (hb : ObB W R a i) (h0 : fldC W R i true ≠ 0) :
    Calls Try.prog 55 #[.agg #[.int .i64 W, .int .i64 R, .int .i64 a], .int .i64 i, .int .i64 v, .func (.func f) fst cap] w fun e w' => e = .returned (.int .i64 (fldC W R i true)) ∧ Below w.heap.size w w' := by
  have kf := fun w => field_any W R a i true w hb.a0 hb.a1 hb.w0 hb.w1 hb.i1
  have b1 : Below w.heap.size w (w.alloc (.cells #[.int .i64 W, .int .i64 R, .int .i64 a] 81)) := (Below.refl _ _).alloc (Nat.le_refl _) _
  obtain ⟨a0, a1, w0, w1, i1⟩ := hb
  obtain ⟨q0, q1⟩ := fldC_bd W R i true
  generalize fldC W R i true = q at *
  generalize fldP W R a i true = q2 at *
  go_enter Try.func55, Try.ntmps55
  go_wp2_with fail
  refine (kf _).mono ?_
  rintro e w2 ⟨rfl, d2⟩
  have b2 := Below.grown_trans b1 d2
  clear kf
  go_wp2_with fail
  go_ret
  exact ⟨rfl, b2⟩

set_option maxHeartbeats 400000 in
theorem onames_any (W R a : Int) (h : DevH) (w : World) :
    Calls Try.prog 56 #[.agg #[.int .i64 W, .int .i64 R, .int .i64 a], .pointer (some ⟨h.d, 0, none⟩)] w fun e w' => e = .returned (.func (.func 90) #[] #[.pointer (some ⟨w.heap.size, 0, none⟩), .pointer (some ⟨w.heap.size + 1, 0, none⟩)]) ∧
      w' = (w.alloc (.cells #[.int .i64 W, .int .i64 R, .int .i64 a] 81)).alloc (.cells #[.pointer (some ⟨h.d, 0, none⟩)] 31) := by
  have hmf : ∀ (fn : Fn) (first cap : Array Value) (w : World), (Instr.makeFunc fn first cap).run Try.prog w = .ok (.func fn first cap) w := fun _ _ _ _ => rfl
  go_enter Try.func56, Try.ntmps56
  go_wp2
  go_ret
  exact ⟨rfl, rfl⟩
end Go.Proofs.Ytpecgfpofihibaa
