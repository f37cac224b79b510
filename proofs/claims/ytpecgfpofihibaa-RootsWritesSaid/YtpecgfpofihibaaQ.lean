/-
  A region, drawn or not, whose operations read what stays or make memory, walked once in the order of the text; the last operations may be a chain that does anything. The class of worlds: those that have grown out of the one in which the region begins (GrW). After the kit's Derived.Deep.Quiet and Derived.StillTail, whose lemmas it uses.
-/
import Derived.StillTail
import Derived.Deep.Quiet
import Derived.Deep.QuietTactic
import Derived.BigQuiet
import Derived.Below
import Derived.KernelRfl
namespace Go.Proofs.Ytpecgfpofihibaa
open Go Go.RowKit

/-- The worlds that have grown out of w: what was there is as it was. -/
def GrW (w : World) := { w' : World // Below w.heap.size w w' }

def GrW.here (w : World) : GrW w := ⟨w, Below.refl _ _⟩
instance (w : World) : Nonempty (GrW w) := ⟨GrW.here w⟩

theorem Below.grown_trans {a b c : World} (h : Below a.heap.size a b) (k : Below b.heap.size b c) : Below a.heap.size a c :=
  h.trans (k.mono h.size)

section
variable {P : Program} {ops : Array Oper} {md : Region.Mode} {C : World → Prop}

/-- A plain region of quiet operations. -/
theorem wpList_of_quiet {Q : Exit → Act → World → Prop} : ∀ (l : List Oper) (a : Act) (w' : World), C w' →
    wpQuiet P ops C (fun a' => ∀ w', C w' → Q .normal a' w') l a → wpList P ops Q l a w'
  | [], a, w', hw', h => h w' hw'
  | o :: l, a, w', hw', h => by
    unfold wpList
    unfold wpQuiet at h
    split
    · rename_i hw; rw [if_pos hw] at h
      exact .inl (Oper.wp_of_quiet hw' (fun a' w2 h2 hk => wpList_of_quiet l a' w2 h2 hk) h)
    · rename_i hw; rw [if_neg hw] at h
      exact wpList_of_quiet l _ w' hw' h

/-- .. quiet operations ahead, whatever behind. -/
theorem wpList_of_quiet_then {Q : Exit → Act → World → Prop} {t : List Oper} : ∀ (l : List Oper) (a : Act) (w' : World), C w' →
    wpQuiet P ops C (fun a' => ∀ w', C w' → wpList P ops Q t a' w') l a → wpList P ops Q (l ++ t) a w'
  | [], a, w', hw', h => h w' hw'
  | o :: l, a, w', hw', h => by
    rw [List.cons_append]
    unfold wpList
    unfold wpQuiet at h
    split
    · rename_i hw; rw [if_pos hw] at h
      exact .inl (Oper.wp_of_quiet hw' (fun a' w2 h2 hk => wpList_of_quiet_then l a' w2 h2 hk) h)
    · rename_i hw; rw [if_neg hw] at h
      exact wpList_of_quiet_then l _ w' hw' h

def wpAnyLU (P : Program) (C : World → Prop) (md : Region.Mode) (ops : Array Oper) (n : Nat) (L : Array Bool → Act → Prop) : Nat → Array Bool → Act → Prop
  | 0, listed, a => L listed a
  | f + 1, listed, a =>
    Region.ready md ops listed ≠ [] ∧ ∀ i ∈ Region.ready md ops listed, i < n ∧ qOp P ops C i (wpAnyLU P C md ops n L f (listed.setIfInBounds i true)) a

theorem wpAny_of_headU {n g : Nat} {L : Array Bool → Act → Prop} {Q' : Exit → Act → World → Prop} (hL : ∀ listed a w', C w' → L listed a → wpAny P md ops Q' g listed a w') :
    ∀ (f : Nat) (listed : Array Bool) (a : Act) (w' : World), C w' → wpAnyLU P C md ops n L f listed a → wpAny P md ops Q' (f + g) listed a w'
  | 0, listed, a, w', hw', h => by rw [Nat.zero_add]; exact hL _ _ _ hw' h
  | f + 1, listed, a, w', hw', h => by
    rw [show f + 1 + g = (f + g) + 1 by omega]
    exact ⟨fun h0 => absurd h0 h.1, fun i hi => wpOp_of_qOp hw' (fun a' w2 h2 h' => wpAny_of_headU hL f _ a' w2 h2 h') (h.2 i hi).2⟩

theorem wpAnyLU_first {n i : Nat} {oi : Oper} {v : Value} {L : Array Bool → Act → Prop} (hi : ops[i]? = some oi) (hsel : ∀ (j : Nat) (o : Oper) cs b, ops[j]? = some o → o.op ≠ .select cs b)
    (hs : Region.sinkB md ops n = true) (hc : Region.chainB md ops n = true) (hn : n < ops.size) (hin : i < n)
    (hdone : ∀ listed a, L listed a → ∀ j ∈ Region.ready md ops listed, n ≤ j) :
    ∀ (f : Nat) (listed : Array Bool) (a : Act), HeadInv md ops n listed →
      (∀ j oj, ops[j]? = some oj → j ≠ i → listed.getD j true = false → (∀ e ∈ oj.after, Region.binds md e = true → e.on ≠ i) → oi.apart ops oj = true) →
      i ∈ Region.ready md ops listed → YieldsIn P ops C oi v a →
      wpAnyLU P C md ops n L f (listed.setIfInBounds i true) (a.put oi.dst v) → wpAnyLU P C md ops n L (f + 1) listed a := by
  intro f
  induction f with
  | zero =>
    intro listed a inv _ hr hy H
    have hun := (mem_ready.1 hr).1
    refine ⟨fun h => (by rw [h] at hr; cases hr), fun j hj => ?_⟩
    have hjn : j < n := by
      rcases Nat.lt_or_ge j n with h | h
      · exact h
      · exact absurd hj (tail_waits hs hc hn inv _ i rfl hin hun j h)
    refine ⟨hjn, ?_⟩
    by_cases hji : j = i
    · subst hji; exact hy.qOp hi H
    · have := hdone _ _ H j (ready_mono hj hji)
      omega
  | succ f ih =>
    intro listed a inv hfree hr hy H
    have hun := (mem_ready.1 hr).1
    refine ⟨fun h => (by rw [h] at hr; cases hr), fun j hj => ?_⟩
    have hjn : j < n := by
      rcases Nat.lt_or_ge j n with h | h
      · exact h
      · exact absurd hj (tail_waits hs hc hn inv _ i rfl hin hun j h)
    refine ⟨hjn, ?_⟩
    by_cases hji : j = i
    · subst hji; exact hy.qOp hi H
    · have h1 := (H.2 j (ready_mono hj hji)).2
      obtain ⟨hjun, oj, hoj, hall⟩ := mem_ready.1 hj
      have hnot : ∀ e ∈ oj.after, Region.binds md e = true → e.on ≠ i := fun e he hb heq => by
        have h1 := hall e he hb
        rw [heq, getD_both hun] at h1
        cases h1
      have h2 := qOp_put hoj (hfree j oj hoj hji hjun hnot) (fun cs b => hsel i oi cs b hi) (fun cs b => hsel j oj cs b hoj) hy h1
      have hfree' : ∀ k ok, ops[k]? = some ok → k ≠ i → (listed.setIfInBounds j true).getD k true = false →
          (∀ e ∈ ok.after, Region.binds md e = true → e.on ≠ i) → oi.apart ops ok = true := fun k ok hk hki hun hno => by
        refine hfree k ok hk hki ?_ hno
        by_cases hjk : j = k
        · subst hjk; exact hjun
        · rw [getD_set_ne true hjk] at hun; exact hun
      refine qOp_mono (fun a' h3 => ih (listed.setIfInBounds j true) a' (inv.set hj hjn) hfree' (ready_mono hr (Ne.symm hji)) h3.1 ?_) h2
      rw [Array.setIfInBounds_comm _ _ hji]
      exact h3.2

theorem wpAnyLU_lex {n g : Nat} {Lq : Act → Prop} (hsel : Region.noSelect ops = true) (hs : Region.sinkB md ops n = true) (hc : Region.chainB md ops n = true) (hn : n < ops.size) :
    ∀ (l : List Oper) (k : Nat) (listed : Array Bool) (a : Act), (∀ j, j < l.length → l[j]? = ops[k + j]?) → k + l.length = n → HeadInv md ops n listed →
    Region.lexHead md ops g l.length k listed = true → wpQuiet P ops C Lq l a →
    wpAnyLU P C md ops n (fun listed' a' => Region.seqB md ops g n listed' = true ∧ Lq a') l.length listed a
  | [], k, listed, a, _, hk, _, hB, h => by
    have : k = n := by simpa using hk
    subst this
    exact ⟨by simpa [Region.lexHead] using hB, h⟩
  | o :: l, k, listed, a, hl, hk, inv, hB, h => by
    have h0 : ops[k]? = some o := by simpa using (hl 0 (by simp)).symm
    simp only [List.length_cons, Region.lexHead, Bool.and_eq_true] at hB
    obtain ⟨⟨hr, hf⟩, hB'⟩ := hB
    have hkn : k < n := by simp only [List.length_cons] at hk; omega
    have hr' : k ∈ Region.ready md ops listed := by simpa using hr
    have hst : qOp P ops C k (wpQuiet P ops C Lq l) a := by unfold qOp; simp only [h0]; exact h
    obtain ⟨v, hy, hK⟩ := yieldsIn_of_qOp h0 hst
    exact wpAnyLU_first h0 (Region.noSelect_spec hsel) hs hc hn hkn (fun listed' a' hL => seqB_ready hL.1) l.length listed a inv (Region.free_spec h0 hf) hr' hy
      (wpAnyLU_lex hsel hs hc hn l (k + 1) _ _ (fun j hj => by have := hl (j + 1) (by simp; omega); simpa [Nat.add_assoc, Nat.add_comm 1 j] using this) (by simp only [List.length_cons] at hk; omega) (inv.set hr' hkn) hB' hK)

/-- A drawn region: the first n operations are quiet in C, the others are a chain behind them all. -/
theorem wp_region_quiet_tail {id : Nat} {Q : Exit → Act → World → Prop} {a : Act} {w : World} {l : List Oper} (n : Nat)
    (hC : C { w with drawn := w.drawn + 1 }) (hm : P.follows .mixedOrders = true) (hB : Region.lexTailB .any l.toArray n = true)
    (h : wpQuiet P l.toArray C (fun a' => ∀ w', C w' → wpList P l.toArray Q (l.drop n) a' w') (l.take n) a) : (Code.region id l.toArray true).wp P Q a w := by
  simp only [Region.lexTailB, Bool.and_eq_true, decide_eq_true_eq] at hB
  obtain ⟨⟨⟨⟨hsel, hn⟩, hs⟩, hc⟩, hlex⟩ := hB
  have hn' : n < l.length := by simpa using hn
  have htl : (l.take n).length = n := by simp; omega
  have hdl : (l.drop n).length = l.toArray.size - n := by simp
  have inv0 : HeadInv .any l.toArray n (Array.replicate l.toArray.size false) :=
    ⟨by simp, fun j oj _ hl => (by rw [getD_replicate_false] at hl; cases hl), fun t _ ht => getD_in (by simpa using ht) (getD_replicate_false _ _)⟩
  have H := wpAnyLU_lex (md := .any) (g := l.toArray.size - n) hsel hs hc hn (l.take n) 0 _ a (fun j hj => by
    have hj' : j < n := by rw [htl] at hj; exact hj
    simp [hj']) (by simpa using htl) inv0 (by rw [htl]; exact hlex) h
  refine wp_region_any hm ?_
  have := wpAny_of_headU (Q' := Q) (g := l.toArray.size - n) (fun listed a' w' hw' hL => by
    have := wpAny_of_seq (md := .any) (Q' := Q) (l.drop n) n listed a' w' (fun j => by simp [List.getElem?_drop]) (by rw [hdl]; exact hL.1) (hL.2 w' hw')
    rwa [hdl] at this) _ _ _ _ hC H
  rw [htl, show n + (l.toArray.size - n) = l.toArray.size by omega] at this
  exact this
end

section
variable {P : Program} {id : Nat} {Q : Exit → Act → World → Prop} {a : Act} {w : World} {l : List Oper}

theorem below_draw (w : World) : Below w.heap.size w { w with drawn := w.drawn + 1 } := ⟨rfl, rfl, rfl, Nat.le_refl _, fun _ _ => rfl⟩

/-- GR: a drawn region that only reads and grows. -/
theorem wp_gr (hm : P.follows .mixedOrders = true) (hB : Region.lexB .any l.toArray = true)
    (h : wpQuiet P l.toArray (fun w' => ∃ x : GrW w, w' = x.1) (fun a' => ∀ w', (∃ x : GrW w, w' = x.1) → Q .normal a' w') l a) : (Code.region id l.toArray true).wp P Q a w :=
  wp_region_quiet (C := fun w' => ∃ x : GrW w, w' = x.1) hm hB ⟨⟨_, below_draw w⟩, rfl⟩ (by simpa using h)

/-- GR: .. and then a chain. -/
theorem wp_gr_tail (n : Nat) (hm : P.follows .mixedOrders = true) (hB : Region.lexTailB .any l.toArray n = true)
    (h : wpQuiet P l.toArray (fun w' => ∃ x : GrW w, w' = x.1) (fun a' => ∀ w', (∃ x : GrW w, w' = x.1) → wpList P l.toArray Q (l.drop n) a' w') (l.take n) a) : (Code.region id l.toArray true).wp P Q a w :=
  wp_region_quiet_tail n ⟨⟨_, below_draw w⟩, rfl⟩ hm hB h

/-- GR: a plain region. -/
theorem wp_gr_plain (h : wpQuiet P l.toArray (fun w' => ∃ x : GrW w, w' = x.1) (fun a' => ∀ w', (∃ x : GrW w, w' = x.1) → Q .normal a' w') l a) : (Code.region id l.toArray false).wp P Q a w :=
  wp_region_lit (wpList_of_quiet _ _ _ ⟨GrW.here w, rfl⟩ h)

/-- GR: a plain region, and then a chain. -/
theorem wp_gr_plain_tail (n : Nat) (h : wpQuiet P l.toArray (fun w' => ∃ x : GrW w, w' = x.1) (fun a' => ∀ w', (∃ x : GrW w, w' = x.1) → wpList P l.toArray Q (l.drop n) a' w') (l.take n) a) : (Code.region id l.toArray false).wp P Q a w :=
  wp_region_lit (by
    have := wpList_of_quiet_then (t := l.drop n) (l.take n) a w ⟨GrW.here w, rfl⟩ h
    rwa [List.take_append_drop] at this)

/-- A callee that only grows, met in a world of the class. -/
theorem gr_call {f : FuncId} {args : Array Value} {x : GrW w} {v : Value} (h : Calls P f args x.1 fun e w' => e = .returned v ∧ Below x.1.heap.size x.1 w') :
    Calls P f args x.1 fun e w'' => e = .returned v ∧ ∃ y : GrW w, w'' = y.1 :=
  h.mono fun _ w'' ⟨he, hb⟩ => ⟨he, ⟨w'', Below.grown_trans x.2 hb⟩, rfl⟩

theorem gr_call_same {f : FuncId} {args : Array Value} {x : GrW w} {v : Value} (h : Calls P f args x.1 fun e w' => e = .returned v ∧ x.1 = w') :
    Calls P f args x.1 fun e w'' => e = .returned v ∧ ∃ y : GrW w, w'' = y.1 :=
  h.mono fun _ _ ⟨he, hb⟩ => ⟨he, x, hb.symm⟩

/-- A cell that lies in w lies in what has grown out of it. -/
theorem GrW.cell {ad : Addr} {v : Value} (h : w.cell? ad = some v) (x : GrW w) : x.1.cell? ad = some v :=
  (x.2.cell (World.block_lt_of_cell? w ad h)).trans h
theorem Below.keeps {ad : Addr} {v : Value} {w' : World} (hb : Below w.heap.size w w') (h : w.cell? ad = some v) : w'.cell? ad = some v :=
  (hb.cell (World.block_lt_of_cell? w ad h)).trans h
end
end Go.Proofs.Ytpecgfpofihibaa
