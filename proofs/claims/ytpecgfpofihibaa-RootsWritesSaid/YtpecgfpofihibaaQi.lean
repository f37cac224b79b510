/-
  A region, drawn or not, walked in the fenced layer (of the wide fence, in a round or not): first operations that read or grow, by the plain layer's contracts; then a chain.
-/
import Derived.Test.YtpecgfpofihibaaQ
import Derived.OrdersIn
import Derived.TacticsIn
import Derived.RangeFuncCalls
import Derived.OwnWalkIn
namespace Go.Proofs.Ytpecgfpofihibaa
open Go Go.RowKit

/-- A fence that lets all in. -/
structure Wid (F : Fence) : Prop where
  fn : ∀ f, F.fn f
  depth : F.depth = none
  calls : ∀ (n : Nat) (P : Program) (f : FuncId) (args : Array Value) (w : World) (R : Ending → World → Prop), Calls P f args w R → CallsIn F n P f args w R

theorem wid_wide : Wid Fence.wide := ⟨fun _ => trivial, rfl, fun _ _ _ _ _ _ h => callsIn_wide.2 h⟩
theorem wid_round (l : Nat) : Wid (Fence.wide.inRound l) := ⟨fun _ => trivial, rfl, fun _ _ _ _ _ _ h => CallsIn.inRound l (callsIn_wide.2 h)⟩

def Oper.isDefer (o : Oper) : Bool := match o.op with | .defer _ => true | _ => false
theorem Oper.not_defer {o : Oper} (h : Oper.isDefer o = false) : ∀ c, o.op ≠ .defer c := fun c hc => by simp [Oper.isDefer, hc] at h

section
variable {F : Fence} {m : Nat} {P : Program} {ops : Array Oper} {md : Region.Mode} {C : World → Prop}

theorem opIn_of_quiet {o : Oper} {a : Act} {K : Act → Prop} {K' : Act → World → Prop} {Q' : Exit → Act → World → Prop} {w : World} (hF : Wid F) (hd : Oper.isDefer o = false) (hw : C w) (h : ∀ a w', C w' → K a → K' a w')
    (hh : o.quiet P a C K) : o.wpIn F m P a w K' Q' := by
  obtain ⟨v, h1, h2⟩ := hh
  have h3 := h1 w hw
  unfold Oper.quietAt at h3
  unfold Oper.wpIn
  refine ⟨fun f _ => hF.fn f, ?_⟩
  rw [Oper.semAt_plain F _ _ (Oper.not_defer hd)]
  generalize (execOp a.eval o).run P w = r at *
  cases r with
  | ok x w' =>
    cases x <;> simp only [Oper.quietUpon] at h3 <;> simp only [Oper.uponIn]
    case value u =>
      obtain ⟨e1, e2⟩ := h3
      rw [e1, e2]
      exact h _ _ hw h2
    case skip =>
      obtain ⟨e1, e2⟩ := h3
      rw [e1, ← e2]
      exact h _ _ hw h2
    case enter f args =>
      obtain ⟨e1, hc⟩ := h3
      rw [e1]
      exact ⟨fun hs => (by rw [hF.depth] at hs; cases hs), hF.calls _ _ _ _ _ _ (hc.mono fun e w'' ⟨he, hw''⟩ => by subst he; exact h _ _ hw'' h2)⟩
  | halt x w' => simp only [Oper.quietUpon] at h3

theorem wpOpIn_of_qOp {i : Nat} {a : Act} {K : Act → Prop} {K' : Act → World → Prop} {Q' : Exit → Act → World → Prop} {w : World} (hF : Wid F) (hd : ∀ o, ops[i]? = some o → Oper.isDefer o = false) (hC : C w) (h : ∀ a w', C w' → K a → K' a w')
    (hh : qOp P ops C i K a) : wpOpIn F m P ops Q' i K' a w := by
  unfold qOp at hh
  unfold wpOpIn
  split
  · rename_i ho; simp only [ho] at hh; exact h _ _ hC hh
  · rename_i o ho
    simp only [ho] at hh
    split
    · rename_i hw; simp only [hw, if_true] at hh; exact opIn_of_quiet hF (hd o ho) hC h hh
    · rename_i hw; simp only [hw] at hh; exact ⟨fun f _ => hF.fn f, h _ _ hC hh⟩

theorem wpAnyIn_of_headU {n g : Nat} {L : Array Bool → Act → Prop} {Q' : Exit → Act → World → Prop} (hF : Wid F) (hd : ∀ (i : Nat) o, ops[i]? = some o → Oper.isDefer o = false)
    (hL : ∀ listed a w', C w' → L listed a → wpAnyIn F m P md ops Q' g listed a w') :
    ∀ (f : Nat) (listed : Array Bool) (a : Act) (w' : World), C w' → wpAnyLU P C md ops n L f listed a → wpAnyIn F m P md ops Q' (f + g) listed a w'
  | 0, listed, a, w', hw', h => by rw [Nat.zero_add]; exact hL _ _ _ hw' h
  | f + 1, listed, a, w', hw', h => by
    rw [show f + 1 + g = (f + g) + 1 by omega]
    exact ⟨fun h0 => absurd h0 h.1, fun i hi => wpOpIn_of_qOp hF (hd i) hw' (fun a' w2 h2 h' => wpAnyIn_of_headU hF hd hL f _ a' w2 h2 h') (h.2 i hi).2⟩

theorem wpAnyIn_of_seq {Q' : Exit → Act → World → Prop} : ∀ (l : List Oper) (k : Nat) (listed : Array Bool) (a : Act) (w : World), (∀ j, l[j]? = ops[k + j]?) →
    Region.seqB md ops l.length k listed = true → wpListIn F m P ops Q' l a w → wpAnyIn F m P md ops Q' l.length listed a w
  | [], _, _, _, _, _, hB, h => ⟨by simpa [Region.seqB] using hB, h⟩
  | o :: l, k, listed, a, w, hl, hB, h => by
    have h0 : ops[k]? = some o := by simpa using (hl 0).symm
    simp only [List.length_cons, Region.seqB, Bool.and_eq_true, decide_eq_true_eq] at hB
    refine ⟨fun h1 => (by rw [hB.1] at h1; cases h1), fun i hi => ?_⟩
    rw [hB.1] at hi
    have hik : i = k := by simpa using hi
    subst hik
    have hw : wpOpIn F m P ops Q' i (wpListIn F m P ops Q' l) a w := by unfold wpOpIn; simp only [h0]; exact h
    exact wpOpIn_mono (fun a' w' h' => wpAnyIn_of_seq l (i + 1) _ a' w' (fun j => by have := hl (j + 1); simpa [Nat.add_assoc, Nat.add_comm 1 j] using this) hB.2 h') hw

/-- A drawn region: the first n operations are quiet in C, the others are a chain behind them all. -/
theorem wpIn_region_quiet_tail {id : Nat} {Q : Exit → Act → World → Prop} {a : Act} {w : World} {l : List Oper} (n : Nat) (hF : Wid F) (hdf : (l.any Oper.isDefer) = false)
    (hC : C { w with drawn := w.drawn + 1 }) (hm : P.follows .mixedOrders = true) (hB : Region.lexTailB .any l.toArray n = true)
    (h : wpQuiet P l.toArray C (fun a' => ∀ w', C w' → wpListIn F m P l.toArray Q (l.drop n) a' w') (l.take n) a) : (Code.region id l.toArray true).wpIn F m P Q a w := by
  simp only [Region.lexTailB, Bool.and_eq_true, decide_eq_true_eq] at hB
  obtain ⟨⟨⟨⟨hsel, hn⟩, hs⟩, hc⟩, hlex⟩ := hB
  have hn' : n < l.length := by simpa using hn
  have htl : (l.take n).length = n := by simp; omega
  have hdl : (l.drop n).length = l.toArray.size - n := by simp
  have hdo : ∀ (i : Nat) o, l.toArray[i]? = some o → Oper.isDefer o = false := fun i o ho => by
    have hm' : o ∈ l := List.mem_of_getElem? (by simpa using ho)
    cases hx : Oper.isDefer o with
    | false => rfl
    | true => rw [List.any_eq_true.2 ⟨o, hm', hx⟩] at hdf; cases hdf
  have inv0 : HeadInv .any l.toArray n (Array.replicate l.toArray.size false) :=
    ⟨by simp, fun j oj _ hl => (by rw [getD_replicate_false] at hl; cases hl), fun t _ ht => getD_in (by simpa using ht) (getD_replicate_false _ _)⟩
  have H := wpAnyLU_lex (md := .any) (g := l.toArray.size - n) hsel hs hc hn (l.take n) 0 _ a (fun j hj => by
    have hj' : j < n := by rw [htl] at hj; exact hj
    simp [hj']) (by simpa using htl) inv0 (by rw [htl]; exact hlex) h
  refine wpIn_region_any hm ?_
  have := wpAnyIn_of_headU (Q' := Q) (g := l.toArray.size - n) hF hdo (fun listed a' w' hw' hL => by
    have := wpAnyIn_of_seq (md := .any) (Q' := Q) (l.drop n) n listed a' w' (fun j => by simp [List.getElem?_drop]) (by rw [hdl]; exact hL.1) (hL.2 w' hw')
    rwa [hdl] at this) _ _ _ _ hC H
  rw [htl, show n + (l.toArray.size - n) = l.toArray.size by omega] at this
  exact this

theorem wpListIn_of_quiet_then {Q : Exit → Act → World → Prop} {t : List Oper} (hF : Wid F) : ∀ (l : List Oper) (a : Act) (w' : World), (∀ o ∈ l, Oper.isDefer o = false) → C w' →
    wpQuiet P ops C (fun a' => ∀ w', C w' → wpListIn F m P ops Q t a' w') l a → wpListIn F m P ops Q (l ++ t) a w'
  | [], a, w', _, hw', h => h w' hw'
  | o :: l, a, w', hd, hw', h => by
    rw [List.cons_append]
    unfold wpListIn
    unfold wpQuiet at h
    split
    · rename_i hw; rw [if_pos hw] at h
      exact opIn_of_quiet hF (hd o (by simp)) hw' (fun a' w2 h2 hk => wpListIn_of_quiet_then hF l a' w2 (fun o' ho' => hd o' (by simp [ho'])) h2 hk) h
    · rename_i hw; rw [if_neg hw] at h
      exact ⟨fun f _ => hF.fn f, wpListIn_of_quiet_then hF l _ w' (fun o' ho' => hd o' (by simp [ho'])) hw' h⟩
end

section
variable {F : Fence} {m : Nat} {P : Program} {id : Nat} {Q : Exit → Act → World → Prop} {a : Act} {w : World} {l : List Oper}

/-- GR in the fenced layer: a drawn region that first only reads and grows, and then is a chain. -/
theorem wpIn_gr_tail (n : Nat) (hF : Wid F) (hdf : (l.any Oper.isDefer) = false) (hm : P.follows .mixedOrders = true) (hB : Region.lexTailB .any l.toArray n = true)
    (h : wpQuiet P l.toArray (fun w' => ∃ x : GrW w, w' = x.1) (fun a' => ∀ w', (∃ x : GrW w, w' = x.1) → wpListIn F m P l.toArray Q (l.drop n) a' w') (l.take n) a) : (Code.region id l.toArray true).wpIn F m P Q a w :=
  wpIn_region_quiet_tail n hF hdf ⟨⟨_, below_draw w⟩, rfl⟩ hm hB h

/-- GR in the fenced layer: a plain region that first only reads and grows, and then is a chain. -/
theorem wpIn_gr_plain_tail (n : Nat) (hF : Wid F) (hdf : (l.any Oper.isDefer) = false)
    (h : wpQuiet P l.toArray (fun w' => ∃ x : GrW w, w' = x.1) (fun a' => ∀ w', (∃ x : GrW w, w' = x.1) → wpListIn F m P l.toArray Q (l.drop n) a' w') (l.take n) a) : (Code.region id l.toArray false).wpIn F m P Q a w :=
  wpIn_region_lit (by
    have hdo : ∀ o ∈ l.take n, Oper.isDefer o = false := fun o ho => by
      cases hx : Oper.isDefer o with
      | false => rfl
      | true => rw [List.any_eq_true.2 ⟨o, List.mem_of_mem_take ho, hx⟩] at hdf; cases hdf
    have := wpListIn_of_quiet_then (t := l.drop n) hF (l.take n) a w hdo ⟨GrW.here w, rfl⟩ h
    rwa [List.take_append_drop] at this)
end
/-- GR in the fenced layer: a plain region that only reads and grows, what follows behind a letter. -/
theorem wpIn_gr_plain_k {F : Fence} {m : Nat} {P : Program} {id : Nat} {Q : Exit → Act → World → Prop} {a : Act} {w : World} {l : List Oper} (hF : Wid F) (hdf : (l.any Oper.isDefer) = false)
    (h : ∀ L : Act → Prop, (∀ a', (∀ w', (∃ x : GrW w, w' = x.1) → Q .normal a' w') → L a') → wpQuiet P l.toArray (fun w' => ∃ x : GrW w, w' = x.1) L l a) : (Code.region id l.toArray false).wpIn F m P Q a w := by
  refine wpIn_gr_plain_tail l.length hF hdf ?_
  rw [List.take_length, List.drop_length]
  exact h (fun a' => ∀ w', (∃ x : GrW w, w' = x.1) → wpListIn F m P l.toArray Q [] a' w') (fun a' h' w' hw' => h' w' hw')

/-- The post behind a letter. -/
theorem wpIn_hide {F : Fence} {m : Nat} {P : Program} {c : Code} {Q : Exit → Act → World → Prop} {a : Act} {w : World} (h : ∀ Q' : Exit → Act → World → Prop, (∀ e a w, Q e a w → Q' e a w) → c.wpIn F m P Q' a w) : c.wpIn F m P Q a w :=
  h Q (fun _ _ _ h => h)
end Go.Proofs.Ytpecgfpofihibaa
