/-
  An argument of two small numbers, opened.
-/
import Derived.Test.YtpecgfpofihibaaOpn
namespace Go.Proofs.Ytpecgfpofihibaa
open Go Go.RowKit Go.ChangeShapes Go.WideShapes Go.ChangeAt Go.Joins Go.Deep

section
variable {H : Type} {enc : TypeId × Value → H} {W : World} {spare : Nat → Bool} {held : Bool}

set_option maxRecDepth 100000 in
theorem open_a2 {base : Nat} {r : Reach} {b0 : Nat} {v : Value} {d : DataW H} {p : List MemPlace} (hv : Value.okWide Try.prog W r b0 54 v) (h : DataW.Trod enc Try.prog W base spare held 54 v d p) :
    ∃ a b : Int, v = .agg #[.int .u16 a, .int .u16 b] ∧ (0 ≤ a ∧ a < 65536) ∧ (0 ≤ b ∧ b < 65536) := by
  have ht : Try.prog.underlying 54 = some (.array 2 22) := Try.underlying54
  simp only [Value.okWide, ht] at hv
  obtain ⟨cs, rfl, hsz, _⟩ := hv
  have hC : Try.prog.cellsOf 54 = 2 := by kernel_rfl
  have hce : Try.prog.cellsOf 22 = 1 := by kernel_rfl
  rw [hC] at hsz
  obtain ⟨l⟩ := cs
  match l, hsz with
  | [c0, c1], _ =>
    obtain ⟨fuel, hf⟩ := h
    obtain ⟨xs, m, _, _, _, hxl, hg⟩ := DataW.trod_array ht hf
    have g0 := hg 0 (by omega)
    have g1 := hg 1 (by omega)
    rw [hce] at g0 g1
    match xs, hxl with
    | [y0, y1], _ =>
      obtain ⟨m0, e0, _, w0⟩ := DataW.trod_int Try.underlying22 (by simpa [Value.cells] using g0)
      obtain ⟨m1, e1, _, w1⟩ := DataW.trod_int Try.underlying22 (by simpa [Value.cells] using g1)
      injection e0 with e0
      injection e1 with e1
      subst e0 e1
      exact ⟨m0, m1, rfl, wf_u16 w0, wf_u16 w1⟩
end
end Go.Proofs.Ytpecgfpofihibaa
