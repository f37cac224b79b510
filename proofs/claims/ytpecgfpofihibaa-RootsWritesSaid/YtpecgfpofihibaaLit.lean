/-
  Contracts in the walk's own spelling.
-/
import Derived.Test.YtpecgfpofihibaaUndo
import Derived.Test.YtpecgfpofihibaaMk
import Derived.Test.YtpecgfpofihibaaGood
namespace Go.Proofs.Ytpecgfpofihibaa
open Go Go.RowKit Go.MapKept

theorem load_lit (h : DevH) (D : DevS) (i : Int) (w : World) (hd : Dev w h D) :
    Calls Try.prog 26 #[.pointer (some ⟨h.d, 0, none⟩), .int .i64 i] w fun e w' => e = .returned (.int .u64 (rd D.now i)) ∧ w = w' := load_any h D i w hd
/-- .. at a place. -/
theorem load_at (h : DevH) (D : DevS) (i : Int) (w : World) (hd : Dev w h D) (h0 : 0 ≤ i) :
    Calls Try.prog 26 #[.pointer (some ⟨h.d, 0, none⟩), .int .i64 i] w fun e w' => e = .returned (.int .u64 (D.at i.toNat)) ∧ w = w' := by
  have := load_any h D i w hd
  rw [rd_at _ _ h0] at this
  exact this
theorem len_lit (h : DevH) (D : DevS) (w : World) (hd : Dev w h D) :
    Calls Try.prog 30 #[.pointer (some ⟨h.d, 0, none⟩)] w fun e w' => e = .returned (.int .i64 D.now.length) ∧ w = w' := len_any h D w hd
theorem store_lit (h : DevH) (D : DevS) (i v : Int) (w : World) (hd : Dev w h D) (h0 : 0 ≤ i) (hn : i < D.now.length) (hv : U64 v) :
    Calls Try.prog 27 #[.pointer (some ⟨h.d, 0, none⟩), .int .i64 i, .int .u64 v] w fun e w' => e = .returned (.int .i64 0) ∧ Dev w' h (D.store i v) ∧ Left h.lo h.hi w w' := store_any h D i v w hd h0 hn hv
theorem active_lit (c : Cf) (w : World) (hc : c.ok) :
    Calls Try.prog 36 #[.agg #[.int .i64 c.L, .int .i64 c.R, .int .i64 c.S]] w fun e w' => e = .returned (.int .i64 c.act) ∧ Below w.heap.size w w' := active_any c w hc
theorem used_lit (c : Cf) (w : World) (hc : c.ok) :
    Calls Try.prog 38 #[.agg #[.int .i64 c.L, .int .i64 c.R, .int .i64 c.S]] w fun e w' => e = .returned (.int .i64 (c.act + 1)) ∧ Below w.heap.size w w' := used_any c w hc
theorem root_lit (c : Cf) (i : Int) (w : World) (hc : c.ok) (h0 : 0 ≤ i) (h1 : i ≤ 100000) :
    Calls Try.prog 39 #[.agg #[.int .i64 c.L, .int .i64 c.R, .int .i64 c.S], .int .i64 i] w fun e w' => e = .returned (.int .i64 (c.act + 2 + i)) ∧ Below w.heap.size w w' := root_any c i w hc h0 h1
theorem from_lit (c : Cf) (s : Int) (w : World) (hc : c.ok) (h0 : 0 ≤ s) (h1 : s ≤ 2) :
    Calls Try.prog 47 #[.agg #[.int .i64 c.L, .int .i64 c.R, .int .i64 c.S], .int .i64 s] w fun e w' => e = .returned (.int .i64 (c.fr s)) ∧ Below w.heap.size w w' := from_any c s w hc h0 h1
theorem cwords_lit (c : Cf) (w : World) (hc : c.ok) :
    Calls Try.prog 69 #[.agg #[.int .i64 c.L, .int .i64 c.R, .int .i64 c.S]] w fun e w' => e = .returned (.int .i64 c.words) ∧ Below w.heap.size w w' := cwords_any c w hc
theorem append_lit (h : DevH) (D : DevS) (c : Cf) (lb : Nat) (ep i : Int) (n : Nat) (w : World) (hd : Dev w h D) (hl : Is w lb (lgc h c ep n)) (hlb : lb < h.lo ∨ h.hi ≤ lb) (hc : c.ok) (hN : (D.now.length : Int) = c.words)
    (he0 : 0 ≤ ep) (he1 : ep < 4294967296) (hn : (n : Int) < c.L) (h0 : 0 ≤ i) (h1 : i < D.now.length) :
    Calls Try.prog 25 #[.pointer (some ⟨lb, 0, none⟩), .int .i64 i] w fun e w' => e = .returned (.int .i64 0) ∧ Dev w' h (D.append (16 + 4 * (n : Int)) ep n i) ∧ Is w' lb (lgc h c ep (n + 1 : Nat)) ∧ Lef (dl h lb) w w' :=
  append_any h D c lb ep i n w hd hl hlb hc hN he0 he1 hn h0 h1
theorem make_lit (l r s : Int) (w : World) (h1 : 0 ≤ l ∧ l < 65536) (h2 : 0 ≤ r ∧ r < 65536) (h3 : 0 ≤ s ∧ s < 65536) :
    Calls Try.prog 20 #[.agg #[.int .u16 l, .int .u16 r, .int .u16 s]] w fun e w' => e = .returned (.agg #[.int .i64 (mkc l r s).L, .int .i64 (mkc l r s).R, .int .i64 (mkc l r s).S]) ∧ Below w.heap.size w w' := make_any l r s w h1 h2 h3
theorem formatted_lit (c : Cf) (old : List Int) (ov : Value) (w : World) (hc : c.ok) (ho : SlR w ov old) (hn : old.length ≤ 1000) (hwf : ∀ x ∈ old, U64 x) :
    Calls Try.prog 21 #[.agg #[.int .i64 c.L, .int .i64 c.R, .int .i64 c.S], ov] w fun e w' => ∃ h, e = .returned (.tuple #[.pointer (some ⟨h.d, 0, none⟩), .bool true]) ∧ Dev w' h (fmtD c old) ∧ w.heap.size ≤ h.lo ∧ Below w.heap.size w w' :=
  formatted_any c old ov w hc ho (by omega) hwf

/-- Where things lie, in numbers. -/
structure Cf.nums (c : Cf) : Prop where
  a0 : 24 ≤ c.act
  a1 : c.act ≤ 900
  f0 : c.act + 2 + c.R ≤ c.fr0
  f1 : c.fr0 ≤ 1000
  s0 : c.S ≤ ln c.S
  s1 : ln c.S ≤ c.S + 7
  w : c.words = c.fr0 + 2 * ln c.S
  w0 : 40 ≤ c.words
  w1 : c.words ≤ 9300
  r0 : 1 ≤ c.R
  r1 : c.R ≤ 16
  sp0 : 8 ≤ c.S
  sp1 : c.S ≤ 4096
theorem Cf.ok.nums {c : Cf} (hc : c.ok) : c.nums := by
  obtain ⟨r1, r2, l1, l2, s1, s2⟩ := hc
  obtain ⟨a1, a2, a3, f1, f2, f3, t1, t2, t3⟩ := c.bds
  have hw : c.words = c.fr0 + 2 * ln c.S := rfl
  constructor <;> omega
end Go.Proofs.Ytpecgfpofihibaa
