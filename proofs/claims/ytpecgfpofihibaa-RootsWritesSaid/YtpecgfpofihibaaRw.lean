/-
  RootsWrites: the function that notes what is stored; slices.Equal of such notes.
-/
import Derived.Test.YtpecgfpofihibaaWri
import Derived.Test.YtpecgfpofihibaaSpe
import Derived.Lib.SmallJoins
import Derived.Laws.StructEq
namespace Go.Proofs.Ytpecgfpofihibaa
open Go Go.RowKit Go.MapKept Go.Shelf

/-- Notes as cells. -/
def onev (x : Int × Int) : List Value := [.int .i64 x.1, .int .u64 x.2]
def ones (l : List (Int × Int)) : List Value := l.flatMap onev
@[simp] theorem ones_length (l : List (Int × Int)) : (ones l).length = l.length * 2 := by
  induction l with
  | nil => rfl
  | cons x l ih => simp only [ones, List.flatMap_cons, List.length_append, List.length_cons] at ih ⊢; rw [ih]; simp [onev]; omega
theorem ones_snoc (l : List (Int × Int)) (x : Int × Int) : ones (l ++ [x]) = ones l ++ [.int .i64 x.1, .int .u64 x.2] := by simp [ones, onev]
theorem ones_get (l : List (Int × Int)) (k : Nat) (h : k < l.length) : (ones l)[k * 2]? = some (.int .i64 l[k].1) ∧ (ones l)[k * 2 + 1]? = some (.int .u64 l[k].2) := by
  induction l generalizing k with
  | nil => cases h
  | cons x l ih =>
    match k with
    | 0 => exact ⟨rfl, rfl⟩
    | k + 1 =>
      have := ih k (by simpa using h)
      have e : ones (x :: l) = .int .i64 x.1 :: .int .u64 x.2 :: ones l := rfl
      rw [e, show (k + 1) * 2 = k * 2 + 1 + 1 from by omega]
      simpa using this

theorem elT_one : ElT 59 61 2 16 := elT_mk (z := .agg #[.int .i64 0, .int .u64 0]) Try.underlying59 (by kernel_rfl) rfl (by decide) (by decide)

/-- What the noting function has in memory. -/
structure RwJ (h : DevH) (D : DevS) (gb sb B : Nat) (stop : Int) (Av : Nat → Prop) (l : List (Int × Int)) (W : World) : Prop where
  dev : Dev W h D
  got : ∃ a cap, Is W gb (.cells #[.slice a l.length cap] 59 (0, 0)) ∧ Own W B 61 2 l.length (ones l) (.slice a l.length cap) ∧ ∀ q, (Value.slice a l.length cap).ownBlock = some q → ¬ Av q
  stop : Is W sb (.cells #[.int .u8 stop] 5 (0, 0))
  av : ∀ k, Av k → k < W.heap.size
  big : B ≤ W.heap.size
theorem RwJ.grow {h : DevH} {D : DevS} {gb sb B : Nat} {stop : Int} {Av : Nat → Prop} {l : List (Int × Int)} {W W' : World} (j : RwJ h D gb sb B stop Av l W) (hb : Below W.heap.size W W') : RwJ h D gb sb B stop Av l W' := by
  obtain ⟨h1, ⟨a, cap, h2, h3, h4⟩, h5, h6, h7⟩ := j
  exact ⟨h1.grow hb, ⟨a, cap, h2.grow hb, h3.grow hb, h4⟩, h5.grow hb, fun k hk => Nat.lt_of_lt_of_le (h6 k hk) hb.size, Nat.le_trans h7 hb.size⟩

def rwAns (stop : Int) (l : List (Int × Int)) : Int := if (l.length : Int) = 1 + stop % 6 then 3 else 0

set_option maxRecDepth 100000 in
set_option maxHeartbeats 2000000 in
theorem rwstore_any (h : DevH) (D : DevS) (gb sb B : Nat) (stop : Int) (Av : Nat → Prop) (l : List (Int × Int)) (i v : Int) (w : World) (hj : RwJ h D gb sb B stop Av l w) (hl : l.length ≤ 1000) (hs : 0 ≤ stop ∧ stop < 256) (hg : gb < B) (hsB : sb < B) (hne : gb ≠ sb) (hhB : h.hi ≤ B) (hgd : gb < h.lo ∨ h.hi ≤ gb) :
    Calls Try.prog 42 #[.int .i64 i, .int .u64 v, .pointer (some ⟨gb, 0, none⟩), .pointer (some ⟨sb, 0, none⟩)] w fun e w' => e = .returned (.int .i64 (rwAns stop (l ++ [(i, v)]))) ∧ RwJ h D gb sb B stop Av (l ++ [(i, v)]) w' ∧ Lef (SAv (fun k => k = gb) B Av) w w' := by
  obtain ⟨hd, ⟨a, cap, hgot, hown, hav⟩, hsb, hlt, hBw⟩ := hj
  obtain ⟨s0, s1⟩ := hs
  have c0 : w.cell? ⟨gb, 0, none⟩ = some (.slice a l.length cap) := by rw [hgot.cell]; rfl
  have n1 := Is.new w (.cells #[.int .i64 i, .int .u64 v] 61)
  have d1 : Below w.heap.size w (w.alloc (.cells #[.int .i64 i, .int .u64 v] 61)) := (Below.refl _ _).alloc (Nat.le_refl _) _
  have own1 := hown.grow d1
  obtain ⟨g, cap2, w2, hap, own2, lf2, hg2, hglt, hgb⟩ := own1.push elT_one ⟨w.heap.size, 0, none⟩ 1 [.int .i64 i, .int .u64 v] rfl (World.news_of_block n1) (by simp [Value.oneCell']) (by omega) (by have := d1.size; omega)
  have hnb : ∀ q, (Value.slice a l.length cap).ownBlock = some q → B ≤ q := fun q hq => (hown.lt q hq).1
  have hgav : ¬ Av g := by
    rcases hg2 with hg2 | rfl
    · exact hav g hg2
    · intro hq; have := hlt _ hq; have := d1.size; omega
  have hd2 := (hd.grow d1).lef lf2 (fun q q1 q2 hq => by have := hnb q hq; omega)
  have hgot2 := (hgot.grow d1).lef lf2 (fun hq => by have := hnb _ hq; omega)
  have hsb2 := (hsb.grow d1).lef lf2 (fun hq => by have := hnb _ hq; omega)
  have L2 : Lef (SAv (fun k => k = gb) B Av) w w2 := (Lef.of_below d1).trans (lf2.mono (fun q hq => .inr ⟨hnb q hq, hav q hq⟩))
  have f2 : w2.frozen? ⟨gb, 0, none⟩ = false := hgot2.free
  have c2 : w2.cell? ⟨gb, 0, none⟩ = some (.slice a l.length cap) := by rw [hgot2.cell]; rfl
  have L3 : Lef (fun k => k = gb) w2 (w2.setCell ⟨gb, 0, none⟩ (.slice (some ⟨g, 0, none⟩) (l.length + 1) cap2)) := Lef.setCell (S := fun r => r = gb) (p := ⟨gb, 0, none⟩) (Lef.refl _ _) rfl _
  have hd3 := hd2.lef L3 (fun q q1 q2 hq => by omega)
  have hgot3 : Is (w2.setCell ⟨gb, 0, none⟩ (.slice (some ⟨g, 0, none⟩) (l.length + 1) cap2)) gb (.cells #[.slice (some ⟨g, 0, none⟩) (l.length + 1) cap2] 59 (0, 0)) := hgot2.set (i := 0) _
  have hsb3 := hsb2.lef L3 (fun hq => hne hq.symm)
  have own3 := own2.lef L3 (fun q hq hq2 => by have := (own2.lt q hq).1; omega)
  have L4 := L2.trans (L3.mono (T := SAv (fun k => k = gb) B Av) (fun q hq => .inl hq))
  have c3 : (w2.setCell ⟨gb, 0, none⟩ (.slice (some ⟨g, 0, none⟩) (l.length + 1) cap2)).cell? ⟨gb, 0, none⟩ = some (.slice (some ⟨g, 0, none⟩) (l.length + 1) cap2) := by rw [hgot3.cell]; rfl
  have cs : (w2.setCell ⟨gb, 0, none⟩ (.slice (some ⟨g, 0, none⟩) (l.length + 1) cap2)).cell? ⟨sb, 0, none⟩ = some (.int .u8 stop) := by rw [hsb3.cell]; rfl
  have hlen : (l ++ [(i, v)]).length = l.length + 1 := by simp
  have hfin : RwJ h D gb sb B stop Av (l ++ [(i, v)]) (w2.setCell ⟨gb, 0, none⟩ (.slice (some ⟨g, 0, none⟩) (l.length + 1) cap2)) := by
    refine ⟨hd3, ⟨some ⟨g, 0, none⟩, cap2, by rw [hlen]; exact hgot3, by rw [hlen, ones_snoc]; exact own3, fun q hq => ?_⟩, hsb3, fun k hk => ?_, ?_⟩
    · have : q = g := by simpa [Value.ownBlock] using hq.symm
      subst this; exact hgav
    · have := hlt k hk; have := L4.size; omega
    · have := L4.size; omega
  have ha : rwAns stop (l ++ [(i, v)]) = if (l.length : Int) + 1 = 1 + stop % 6 then 3 else 0 := by unfold rwAns; rw [hlen]; simp
  have HFIN := Lib.hid hfin
  have HA := Lib.hid ha
  have HL := Lib.hid L4
  have HAP := Lib.hid hap
  clear hfin ha hlen L4 L3 L2 own3 own2 hsb3 hsb2 hsb hgot3 hgot2 hgot hd3 hd2 hd lf2 hg2 hglt hgb hnb hgav hav hown own1 hlt n1 d1 hap
  by_cases he : (l.length : Int) + 1 = 1 + stop % 6
  · have hb : ((l.length : Int) + 1 == 1 + stop % 6) = true := by simpa using he
    have hr : rwAns stop (l ++ [(i, v)]) = 3 := by rw [HA.out, if_pos he]
    have HR := Lib.hid hr
    clear hr he
    go_enter Try.func42, Try.ntmps42
    go_wp2_with (at_builtin; refine wpList_append_run rfl _ _ _ rfl _ _ _ rfl rfl HAP.out ?_)
    go_ret
    exact ⟨ret_int HR.out.symm, HFIN.out, HL.out⟩
  · have hb : ((l.length : Int) + 1 == 1 + stop % 6) = false := by simpa using he
    have hr : rwAns stop (l ++ [(i, v)]) = 0 := by rw [HA.out, if_neg he]
    have HR := Lib.hid hr
    clear hr he
    go_enter Try.func42, Try.ntmps42
    go_wp2_with (at_builtin; refine wpList_append_run rfl _ _ _ rfl _ _ _ rfl rfl HAP.out ?_)
    go_ret
    exact ⟨ret_int HR.out.symm, HFIN.out, HL.out⟩

theorem stF_rw (h : DevH) (D : DevS) (gb sb B : Nat) (stop : Int) (N : Int) (hs : 0 ≤ stop ∧ stop < 256) (hg : gb < B) (hsB : sb < B) (hne : gb ≠ sb) (hhB : h.hi ≤ B) (hgd : gb < h.lo ∨ h.hi ≤ gb) (Av : Nat → Prop) :
    StF 42 #[] #[.pointer (some ⟨gb, 0, none⟩), .pointer (some ⟨sb, 0, none⟩)] h N (SAv (fun k => k = gb) B Av) (fun _ => D) (rwAns stop) (RwJ h D gb sb B stop Av) where
  grow := fun l W W' hJ hb => hJ.grow hb
  dev := fun l W hJ => hJ.dev
  ent := enters_of Try.func42 (by kernel_rfl) rfl
  bd := fun l => by unfold rwAns; split <;> decide
  call := fun l W i v hl hJ h0 h1 hv => by
    have e : (#[] ++ (#[.int .i64 i, .int .u64 v] ++ #[.pointer (some ⟨gb, 0, none⟩), .pointer (some ⟨sb, 0, none⟩)]) : Array Value) = #[.int .i64 i, .int .u64 v, .pointer (some ⟨gb, 0, none⟩), .pointer (some ⟨sb, 0, none⟩)] := rfl
    rw [e]
    exact rwstore_any h D gb sb B stop Av l i v W hJ hl hs hg hsB hne hhB hgd

theorem neq_one (x y x' y' : Int) (w : World) : (binOp .neq 61 (.agg #[.int .i64 x, .int .u64 y]) (.agg #[.int .i64 x', .int .u64 y'])).run Try.prog w = .ok (.bool (!(x == x' && y == y'))) w := by
  rw [run_neq_struct, run_equalIn_agg w 9999 _ _ _ (by kernel_rfl) (by kernel_rfl)]
  have hu := Try.underlying61
  have hi := Try.underlying3
  have h6 := Try.underlying38
  simp only [Program.fieldsOf, hu, Op.eqFields]
  simp [go_sem]
  by_cases h1 : x = x' <;> by_cases h2 : y = y' <;> simp [h1, h2]

set_option maxRecDepth 100000 in
set_option maxHeartbeats 2000000 in
/-- Equal, of the same notes. -/
theorem equal_ones (l : List (Int × Int)) (b1 b2 : Nat) (a1 a2 : Option Addr) (c1 c2 : Nat) (w : World) (h1 : Own w b1 61 2 l.length (ones l) (.slice a1 l.length c1)) (h2 : Own w b2 61 2 l.length (ones l) (.slice a2 l.length c2)) (hm : l.length ≤ 200000) :
    Calls Try.prog 43 #[.slice a1 l.length c1, .slice a2 l.length c2] w fun e w' => e = .returned (.bool true) ∧ Below w.heap.size w w' := by
  have heq : ∀ (x y : Int) (w : World), (binOp .neq 61 (.agg #[.int .i64 x, .int .u64 y]) (.agg #[.int .i64 x, .int .u64 y])).run Try.prog w = .ok (.bool false) w := fun x y w => by rw [neq_one]; simp
  go_enter Try.func43, Try.ntmps43
  go_wp2
  go_loopw [13] (fun i wr => ∃ k : Nat, k ≤ l.length ∧ i = .int .i64 k ∧ Below w.heap.size w wr)
    (fun i _ => l.length - (intOf i).toNat)
  case atStart => exact ⟨0, by omega, rfl, Below.refl _ _⟩
  case round =>
    obtain ⟨k, hk, rfl, br⟩ := hrel
    by_cases hlt : k < l.length
    · obtain ⟨g1, rfl, _, hg1, hc0⟩ := h1.cell (k * 2) (by simp; omega)
      obtain ⟨g1', he1, _, _, hc1⟩ := h1.cell (k * 2 + 1) (by simp; omega)
      obtain ⟨g2, rfl, _, hg2, hd0⟩ := h2.cell (k * 2) (by simp; omega)
      obtain ⟨g2', he2, _, _, hd1⟩ := h2.cell (k * 2 + 1) (by simp; omega)
      cases he1
      cases he2
      have gg := ones_get l k hlt
      rw [List.getElem?_eq_getElem (by simp; omega), List.getElem?_eq_getElem (by simp; omega)] at gg
      obtain ⟨gg0, gg1⟩ := gg
      rw [Option.some.inj gg0] at hc0 hd0
      rw [Option.some.inj gg1] at hc1 hd1
      generalize l[k] = x at *
      have e0 := (br.cell (p := ⟨g1, k * 2, none⟩) hg1).trans hc0
      have e1 := (br.cell (p := ⟨g1, k * 2 + 1, none⟩) hg1).trans hc1
      have f0 := (br.cell (p := ⟨g2, k * 2, none⟩) hg2).trans hd0
      have f1 := (br.cell (p := ⟨g2, k * 2 + 1, none⟩) hg2).trans hd1
      clear hc0 hc1 hd0 hd1 gg0 gg1 h1 h2
      go_wp2_with fail
      go_quiet (fail)
      go_wp2_with fail
      go_roundw
      case rel => exact ⟨k + 1, by omega, by go_num, ⟨br.os, br.tape, br.output, br.size, br.block⟩⟩
      case measure => simp [intOf]; omega
    · go_wp2
      go_ret
      exact ⟨rfl, br⟩
end Go.Proofs.Ytpecgfpofihibaa
