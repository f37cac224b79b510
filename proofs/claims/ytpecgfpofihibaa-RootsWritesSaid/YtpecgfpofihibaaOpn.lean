/-
  Arguments that came in, opened.
-/
import Derived.Test.YtpecgfpofihibaaRows
import Derived.Test.YtpecgfpofihibaaFmd
import Derived.WalkKit
import Derived.ProofKit
import Derived.OpenShut
import Derived.ChangeOld
import Derived.Below
import Derived.Carry
import Derived.Lib.SmallJoins
import Derived.Deep.Slices
import Derived.Deep.Fields
namespace Go.Proofs.Ytpecgfpofihibaa
open Go Go.RowKit Go.ChangeShapes Go.WideShapes Go.ChangeAt Go.Joins Go.Deep

/-- A slice of numbers of a kind that can be read. -/
def SlK (k : IntKind) (w : World) (v : Value) (l : List Int) : Prop :=
  ∃ a cap, v = .slice a l.length cap ∧ (l = [] ∨ ∃ b off, a = some ⟨b, off, none⟩ ∧ b < w.heap.size ∧ ∀ i (h : i < l.length), w.cell? ⟨b, off + i, none⟩ = some (.int k l[i]))

/-- A slice of pairs of numbers that can be read. -/
def Sl2 (k1 k2 : IntKind) (w : World) (v : Value) (l : List (Int × Int)) : Prop :=
  ∃ a cap, v = .slice a l.length cap ∧ (l = [] ∨ ∃ b off, a = some ⟨b, off, none⟩ ∧ b < w.heap.size ∧
    ∀ i (h : i < l.length), w.cell? ⟨b, off + i * 2, none⟩ = some (.int k1 l[i].1) ∧ w.cell? ⟨b, off + i * 2 + 1, none⟩ = some (.int k2 l[i].2))

theorem wf_u8 {x : Int} (h : (Lit.int .u8 x).wf = true) : 0 ≤ x ∧ x < 256 := by
  simp only [Lit.wf, Bool.and_eq_true, decide_eq_true_eq] at h
  have e1 : IntKind.min .u8 = 0 := rfl
  have e2 : IntKind.max .u8 = 255 := rfl
  omega
theorem wf_u16 {x : Int} (h : (Lit.int .u16 x).wf = true) : 0 ≤ x ∧ x < 65536 := by
  simp only [Lit.wf, Bool.and_eq_true, decide_eq_true_eq] at h
  have e1 : IntKind.min .u16 = 0 := rfl
  have e2 : IntKind.max .u16 = 65535 := rfl
  omega
theorem wf_u64 {x : Int} (h : (Lit.int .u64 x).wf = true) : U64 x := by
  simp only [Lit.wf, Bool.and_eq_true, decide_eq_true_eq] at h
  have e1 : IntKind.min .u64 = 0 := rfl
  have e2 : IntKind.max .u64 = 18446744073709551615 := rfl
  unfold U64
  omega
theorem wf_i64 {x : Int} (h : (Lit.int .i64 x).wf = true) : -9223372036854775808 ≤ x ∧ x ≤ 9223372036854775807 := by
  simp only [Lit.wf, Bool.and_eq_true, decide_eq_true_eq] at h
  have e1 : IntKind.min .i64 = -9223372036854775808 := rfl
  have e2 : IntKind.max .i64 = 9223372036854775807 := rfl
  omega

section
variable {H : Type} {enc : TypeId × Value → H} {W : World} {spare : Nat → Bool} {held : Bool}

theorem add_off (b o : Nat) (i : Nat) : (⟨b, o, none⟩ : Addr).add i = ⟨b, o + i, none⟩ := by
  simp only [Addr.add]
  split
  · rename_i h; subst h; rfl
  · rfl

set_option maxRecDepth 100000 in
/-- A slice of numbers. -/
theorem open_nums {k : IntKind} {t e : TypeId} {base : Nat} {r : Reach} {b0 : Nat} {v : Value} {d : DataW H} {p : List MemPlace} (ht : Try.prog.underlying t = some (.slice e)) (he : Try.prog.underlying e = some (.int k)) (hc : Try.prog.cellsOf e = 1)
    (hv : Value.okWide Try.prog W r b0 t v) (h : DataW.Trod enc Try.prog W base spare held t v d p) :
    ∃ l, SlK k W v l ∧ ∀ x ∈ l, (Lit.int k x).wf = true := by
  obtain ⟨a0, len0, cap0, rfl⟩ := okWide_slice ht hv
  obtain ⟨fuel, hf⟩ := h
  rcases open_ints ht he hc hf with ⟨hcs, _⟩ | ⟨x, l, c, zs, hcs, _, hl, hm, hz, _, hcell, hwz⟩
  · simp [Value.cells] at hcs
    obtain ⟨rfl, rfl, rfl⟩ := hcs
    exact ⟨[], ⟨none, 0, rfl, .inl rfl⟩, by simp⟩
  · simp [Value.cells] at hcs
    obtain ⟨rfl, rfl, rfl⟩ := hcs
    have hlz : len0 ≤ zs.length := by rw [hz]; split <;> omega
    refine ⟨zs.take len0, ⟨_, cap0, by rw [List.length_take, Nat.min_eq_left hlz], ?_⟩, fun y hy => hwz y (List.mem_of_mem_take hy)⟩
    rcases Nat.eq_zero_or_pos len0 with rfl | hpos
    · exact .inl (by simp)
    · right
      obtain ⟨b, off, spot⟩ := x
      have hc0 := hcell 0 (by omega)
      have hspot : spot = none := by simpa [Addr.add] using World.cell?_spot hc0
      subst hspot
      refine ⟨b, off, rfl, ?_, fun i hi => ?_⟩
      · have := World.block_lt_of_cell? W _ hc0
        simpa [Addr.add] using this
      · rw [List.length_take, Nat.min_eq_left hlz] at hi
        have := hcell i (by omega)
        rw [add_off] at this
        rw [this, List.getElem_take, List.getD_eq_getElem?_getD, List.getElem?_eq_getElem (by omega), Option.getD_some]

set_option maxRecDepth 100000 in
/-- A slice of pairs. -/
theorem open_pairs {k1 k2 : IntKind} {t e : TypeId} {f1 f2 : Field} {base : Nat} {r : Reach} {b0 : Nat} {v : Value} {d : DataW H} {p : List MemPlace} (ht : Try.prog.underlying t = some (.slice e)) (he : Try.prog.underlying e = some (.struct #[f1, f2]))
    (hone : oneCellFields Try.prog #[f1, f2] = true) (hC : Try.prog.cellsOf e = 2) (h1 : Try.prog.underlying f1.type = some (.int k1)) (h2 : Try.prog.underlying f2.type = some (.int k2))
    (hv : Value.okWide Try.prog W r b0 t v) (h : DataW.Trod enc Try.prog W base spare held t v d p) :
    ∃ l, Sl2 k1 k2 W v l ∧ ∀ x ∈ l, (Lit.int k1 x.1).wf = true ∧ (Lit.int k2 x.2).wf = true := by
  obtain ⟨a0, len0, cap0, rfl⟩ := okWide_slice ht hv
  obtain ⟨fuel, hf⟩ := h
  rcases open_slice ht hf with ⟨hcs, _⟩ | ⟨a, len, cap, m, n, D, Pl, hcs, hb, hl, hm, hmm, hx, hi⟩
  · simp [Value.cells] at hcs
    obtain ⟨rfl, rfl, rfl⟩ := hcs
    exact ⟨[], ⟨none, 0, rfl, .inl rfl⟩, by simp⟩
  · simp [Value.cells] at hcs
    obtain ⟨rfl, rfl, rfl⟩ := hcs
    have hlm : len0 ≤ m := by rw [hmm]; split <;> omega
    have key : ∀ i, i < len0 → ∃ x : Int × Int, W.cell? (a.add (i * 2)) = some (.int k1 x.1) ∧ W.cell? ((a.add (i * 2)).add 1) = some (.int k2 x.2) ∧ (Lit.int k1 x.1).wf = true ∧ (Lit.int k2 x.2).wf = true := by
      intro i hil
      obtain ⟨cs', hc, ht'⟩ := hi i (by omega)
      rw [hC] at hc
      obtain ⟨ys, n', hn', hy, hlen, hyl, hg⟩ := DataW.trod_struct he ht'
      obtain ⟨_, hcl, hat⟩ := World.cells?_some hc
      obtain ⟨o0, q0⟩ := hone_of hone 0 f1 rfl
      obtain ⟨o1, q1⟩ := hone_of hone 1 f2 rfl
      match cs', hcl with
      | [c0, c1], _ =>
        have g0 := hg 0 f1 rfl
        have g1 := hg 1 f2 rfl
        rw [o0, q0] at g0
        rw [o1, q1] at g1
        match ys, hyl with
        | [y0, y1], _ =>
          obtain ⟨m0, e0, _, w0⟩ := DataW.trod_int h1 (by simpa using g0)
          obtain ⟨m1, e1, _, w1⟩ := DataW.trod_int h2 (by simpa using g1)
          injection e0 with e0
          injection e1 with e1
          have a0 := hat 0 (by omega)
          have a1 := hat 1 (by omega)
          refine ⟨(m0, m1), ?_, ?_, w0, w1⟩
          · have : (a.add (i * 2)).add 0 = a.add (i * 2) := by simp [Addr.add]
            rw [this] at a0
            rw [a0]
            simp [e0]
          · rw [a1]
            simp [e1]
    obtain ⟨V, hV⟩ := choose_lt (α := Int × Int) (p := fun i (x : Int × Int) => W.cell? (a.add (i * 2)) = some (.int k1 x.1) ∧ W.cell? ((a.add (i * 2)).add 1) = some (.int k2 x.2) ∧ (Lit.int k1 x.1).wf = true ∧ (Lit.int k2 x.2).wf = true) key
    refine ⟨(List.range len0).map V, ⟨some a, cap0, by simp, ?_⟩, fun x hx => ?_⟩
    · rcases Nat.eq_zero_or_pos len0 with rfl | hpos
      · exact .inl (by simp)
      · right
        obtain ⟨b, off, spot⟩ := a
        have hc0 := (hV 0 hpos).1
        have hspot : spot = none := by simpa [Addr.add] using World.cell?_spot hc0
        subst hspot
        refine ⟨b, off, rfl, ?_, fun i hi => ?_⟩
        · have := World.block_lt_of_cell? W _ hc0
          simpa [Addr.add] using this
        · simp only [List.length_map, List.length_range] at hi
          obtain ⟨g1, g2, _, _⟩ := hV i hi
          rw [add_off] at g1 g2
          rw [add_off] at g2
          simp only [List.getElem_map, List.getElem_range]
          exact ⟨g1, g2⟩
    · simp only [List.mem_map, List.mem_range] at hx
      obtain ⟨i, hi, rfl⟩ := hx
      exact ⟨(hV i hi).2.2.1, (hV i hi).2.2.2⟩

set_option maxRecDepth 100000 in
/-- Small numbers of a config. -/
theorem open_C {base : Nat} {r : Reach} {b0 : Nat} {v : Value} {d : DataW H} {p : List MemPlace} (hv : Value.okWide Try.prog W r b0 24 v) (h : DataW.Trod enc Try.prog W base spare held 24 v d p) :
    ∃ a b c : Int, v = .agg #[.int .u16 a, .int .u16 b, .int .u16 c] ∧ (0 ≤ a ∧ a < 65536) ∧ (0 ≤ b ∧ b < 65536) ∧ (0 ≤ c ∧ c < 65536) := by
  obtain ⟨v0, v1, v2, y0, y1, y2, n, rfl, _, _, g0, g1, g2⟩ := open_agg3 Try.underlying24 (by kernel_rfl) (by kernel_rfl) hv h
  obtain ⟨m0, e0, _, w0⟩ := DataW.trod_int Try.underlying22 g0
  obtain ⟨m1, e1, _, w1⟩ := DataW.trod_int Try.underlying22 g1
  obtain ⟨m2, e2, _, w2⟩ := DataW.trod_int Try.underlying22 g2
  injection e0 with e0
  injection e1 with e1
  injection e2 with e2
  subst e0 e1 e2
  exact ⟨m0, m1, m2, rfl, wf_u16 w0, wf_u16 w1, wf_u16 w2⟩
end

theorem own : ownKnob Try.prog.godebug = none := by kernel_rfl
theorem laidOut : laidOutB Try.prog = true := by kernel_rfl
end Go.Proofs.Ytpecgfpofihibaa
