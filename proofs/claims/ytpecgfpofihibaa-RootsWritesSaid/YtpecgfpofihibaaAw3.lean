/-
  The fixed facts of laws 3 and 4.
-/
import Derived.Test.YtpecgfpofihibaaAw2
import Derived.Test.YtpecgfpofihibaaHead
namespace Go.Proofs.Ytpecgfpofihibaa
open Go Go.RowKit Go.MapKept

/-- The config of the examples. -/
def c3 : Cf := ⟨3, 1, 8⟩
theorem c3_ok : c3.ok := ⟨by decide, by decide, by decide, by decide, by decide, by decide⟩

set_option maxHeartbeats 1000000 in
theorem awake03 (w : World) :
    Calls Try.prog 107 #[] w fun e w' => e = .returned (.bool true) ∧ Below w.heap.size w w' := by
  have hv : c3.val = .agg #[.int .i64 3, .int .i64 1, .int .i64 8] := rfl
  have k1 := fun w => ccheck_any c3 w c3_ok
  have k2 := fun w => active_any c3 w c3_ok
  have k3 := fun w => from_any c3 0 w c3_ok (by decide) (by decide)
  have k4 := fun w => cwords_any c3 w c3_ok
  rw [hv] at k1 k2 k3 k4
  have e2 : c3.act = 32 := rfl
  have e3 : c3.fr 0 = 40 := rfl
  have e4 : c3.words = 56 := rfl
  rw [e2] at k2
  rw [e3] at k3
  rw [e4] at k4
  clear hv e2 e3 e4
  go_enter Try.func107, Try.ntmps107
  go_wp2_with fail
  refine (awake02 _).mono ?_
  rintro e w1 ⟨rfl, b1⟩
  go_wp2_with fail
  have i1 := Is.new w1 (.cells #[.int .i64 3, .int .i64 1, .int .i64 8] 29)
  have b2 : Below w.heap.size w (w1.alloc (.cells #[.int .i64 3, .int .i64 1, .int .i64 8] 29)) := b1.alloc b1.size _
  clear b1
  generalize w1.alloc (.cells #[.int .i64 3, .int .i64 1, .int .i64 8] 29) = w2 at *
  generalize w1.heap.size = b at *
  refine (k1 _).mono ?_
  rintro e v0 ⟨rfl, d0⟩
  have iv0 := i1.grow d0
  have bv0 := Below.grown_trans b2 d0
  have cv0 := iv0.c3
  clear i1 b2 d0
  go_wp2_with fail
  refine (k2 _).mono ?_
  rintro e v1 ⟨rfl, d1⟩
  have iv1 := iv0.grow d1
  have bv1 := Below.grown_trans bv0 d1
  have cv1 := iv1.c3
  clear iv0 bv0 d1 cv0
  go_wp2_with fail
  refine (k3 _).mono ?_
  rintro e v2 ⟨rfl, d2⟩
  have iv2 := iv1.grow d2
  have bv2 := Below.grown_trans bv1 d2
  have cv2 := iv2.c3
  clear iv1 bv1 d2 cv1
  go_wp2_with fail
  refine (k4 _).mono ?_
  rintro e v3 ⟨rfl, d3⟩
  have iv3 := iv2.grow d3
  have bv3 := Below.grown_trans bv2 d3
  have cv3 := iv3.c3
  clear iv2 bv2 d3 cv2
  go_wp2_with fail
  go_ret
  exact ⟨rfl, bv3⟩

set_option maxHeartbeats 1000000 in
theorem awake04 (w : World) :
    Calls Try.prog 98 #[] w fun e w' => e = .returned (.bool true) ∧ Below w.heap.size w w' := by
  have k1 := fun w => hunpack 12754194149008211971 w ⟨by decide, by decide⟩
  have k2 := fun w => hsize 3 1 w (by decide) (by decide)
  have k3 := fun w => hpack 3 1 w (by decide)
  have ew : unW 12754194149008211971 = 3 := by decide
  have er : unR 12754194149008211971 = 1 := by decide
  have eh : isHead 12754194149008211971 := by decide
  have ep : packv 3 1 = 12754194149008211971 := by decide
  rw [ew, er] at k1
  rw [ep] at k3
  have k1' : ∀ w, Calls Try.prog 88 #[.int .u64 12754194149008211971] w fun e w' => e = .returned (.tuple #[headv 3 1, .bool true]) ∧ Below w.heap.size w w' :=
    fun w => (k1 w).mono fun e w' ⟨h1, h2, _⟩ => ⟨h2 eh, h1⟩
  clear k1 ew er eh ep
  unfold headv at k1' k2 k3
  go_enter Try.func98, Try.ntmps98
  go_wp2_with fail
  refine (awake03 _).mono ?_
  rintro e w1 ⟨rfl, b1⟩
  go_wp2_with fail
  refine (k1' _).mono ?_
  rintro e w2 ⟨rfl, d2⟩
  have b2 := Below.grown_trans b1 d2
  clear b1 d2 k1'
  go_wp2_with fail
  have i3 := Is.new w2 (.cells #[.int .i64 3, .int .i64 1] 66)
  have b3 : Below w.heap.size w (w2.alloc (.cells #[.int .i64 3, .int .i64 1] 66)) := b2.alloc b2.size _
  clear b2
  generalize w2.alloc (.cells #[.int .i64 3, .int .i64 1] 66) = w3 at *
  generalize w2.heap.size = b at *
  refine (k2 _).mono ?_
  rintro e w4 ⟨rfl, d4⟩
  have i4 := i3.grow d4
  have b4 := Below.grown_trans b3 d4
  clear d4 i3 b3 k2
  have c0 : w4.cell? ⟨b, 0, none⟩ = some (.int .i64 3) := by rw [i4.cell]; rfl
  have c1 : w4.cell? ⟨b, 1, none⟩ = some (.int .i64 1) := by rw [i4.cell]; rfl
  go_wp2_with fail
  refine (k3 _).mono ?_
  rintro e w5 ⟨rfl, d5⟩
  have b5 := Below.grown_trans b4 d5
  clear d5 i4 b4 k3 c0 c1
  go_wp2_with fail
  go_ret
  exact ⟨rfl, b5⟩
end Go.Proofs.Ytpecgfpofihibaa
