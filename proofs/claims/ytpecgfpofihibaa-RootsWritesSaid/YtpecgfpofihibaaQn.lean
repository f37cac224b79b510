/-
  A drawn region: operations that, wherever S holds, yield a value and leave the world alone, are taken first (a call that only reads, too); the others in whatever order; the last ones are a chain behind all. S is asked behind the first n operations alone. After the kit's Derived.OrdersHeld and Derived.StillTail, whose lemmas it uses.
-/
import Derived.Test.YtpecgfpofihibaaQ
import Derived.OrdersHeld
import Derived.Deep.RegionHeld3
namespace Go.Proofs.Ytpecgfpofihibaa
open Go Go.RowKit

section
variable {P : Program} {ops : Array Oper} {Q : Exit → Act → World → Prop} {md : Region.Mode} {S : World → Prop} {n : Nat}

/-- Wherever S holds, o leaves v and the world as it is. -/
def YieldsC (P : Program) (ops : Array Oper) (S : World → Prop) (o : Oper) (v : Value) (a : Act) : Prop :=
  (Region.wanted o (yielded ops a.tmps) = true ∧ ∀ w, S w → o.quietAt P a (fun w'' => w'' = w) w v) ∨
  (Region.wanted o (yielded ops a.tmps) = false ∧ v = undef)

theorem YieldsC.wpOp {i : Nat} {o : Oper} {v : Value} {a : Act} (hi : ops[i]? = some o) (hy : YieldsC P ops S o v a)
    {K : Act → World → Prop} {w : World} (hS : S w) (h : K (a.put o.dst v) w) : wpOp P ops Q i K a w := by
  unfold Go.wpOp
  simp only [hi]
  rcases hy with ⟨hw, hv⟩ | ⟨hw, rfl⟩
  · simp only [hw, if_true]
    have h3 := hv w hS
    unfold Oper.quietAt at h3
    refine .inl ?_
    unfold Oper.wp
    generalize (execOp a.eval o).run P w = r at *
    cases r with
    | ok x w' =>
      cases x <;> simp only [Oper.quietUpon] at h3 <;> simp only [Oper.upon]
      case value u =>
        obtain ⟨e1, e2⟩ := h3
        rw [e1, e2]
        exact h
      case skip =>
        obtain ⟨e1, e2⟩ := h3
        rw [e1, ← e2]
        exact h
      case enter f args =>
        obtain ⟨e1, hc⟩ := h3
        rw [e1]
        exact hc.mono fun e w'' ⟨he, hw''⟩ => by subst he; subst hw''; exact h
    | halt x w' => simp only [Oper.quietUpon] at h3
  · simp only [hw, Bool.false_eq_true, if_false]; exact h

theorem YieldsC.of_same {o : Oper} {v : Value} {a a' : Act} (hy : YieldsC P ops S o v a) (he : execOp a'.eval o = execOp a.eval o)
    (hw : Region.wanted o (yielded ops a'.tmps) = Region.wanted o (yielded ops a.tmps)) : YieldsC P ops S o v a' := by
  unfold YieldsC Oper.quietAt at *
  rw [he, hw]
  exact hy

theorem wpOp_putC {j : Nat} {oi oj : Oper} {v : Value} (hj : ops[j]? = some oj) (hap : oi.apart ops oj = true)
    (hsi : ∀ cs b, oi.op ≠ .select cs b) (hsj : ∀ cs b, oj.op ≠ .select cs b)
    (hQ : ∀ c a w, Q (.panic c) (a.put oi.dst v) w → Q (.panic c) a w) {K : Act → World → Prop} {a : Act} {w : World}
    (hy : YieldsC P ops S oi v a) (h : wpOp P ops Q j K (a.put oi.dst v) w) :
    wpOp P ops Q j (fun a' w' => YieldsC P ops S oi v a' ∧ K (a'.put oi.dst v) w') a w := by
  obtain ⟨h1, h2, h3⟩ := Oper.apart_spec hap
  have keep : ∀ (a : Act), YieldsC P ops S oi v a → ∀ u, YieldsC P ops S oi v (a.put oj.dst u) := fun a hy u =>
    hy.of_same (execOp_put oi hsi a oj.dst u h3) (wanted_put oi a oj.dst u h3)
  have keepD : ∀ d, YieldsC P ops S oi v { a with defers := d :: a.defers } := fun d => hy.of_same rfl rfl
  unfold wpOp at *
  simp only [hj] at *
  rw [wanted_put oj a oi.dst v h1] at h
  split
  · rename_i hw
    simp only [hw, if_true] at h
    rcases h with h | ⟨hasks, hlets⟩
    case inr => exact .inr ⟨by unfold Oper.asks at *; rw [execOp_put oj hsj a oi.dst v h1] at hasks; exact hasks, hlets⟩
    refine .inl ?_
    unfold Oper.wp at *
    rw [execOp_put oj hsj a oi.dst v h1] at h
    generalize (execOp a.eval oj).run P w = r at *
    cases r with
    | ok n w' =>
      cases n <;> simp only [Oper.upon] at h ⊢
      case value u => exact ⟨keep a hy u, by rw [← Act.put_comm a v u h2]; exact h⟩
      case skip => exact ⟨keep a hy _, by rw [← Act.put_comm a v undef h2]; exact h⟩
      case defer d =>
        refine ⟨keep _ (keepD d) _, ?_⟩
        rw [← Act.put_comm _ v undef h2, ← Act.put_defers]
        exact h
      case enter f args =>
        refine Calls.mono h fun e w'' he => ?_
        cases e with
        | returned u => exact ⟨keep a hy u, by rw [← Act.put_comm a v u h2]; exact he⟩
        | panicked c => exact hQ _ _ _ he
        | outgrown => exact he
      case row row args => exact Rows.mono h fun u w'' he => ⟨keep a hy u, by rw [← Act.put_comm a v u h2]; exact he⟩
    | halt x w' =>
      cases x <;> simp only [Oper.upon] at h ⊢
      case panic u => exact hQ _ _ _ h
  · rename_i hw
    simp only [hw] at h
    exact ⟨keep a hy _, by rw [← Act.put_comm a v undef h2]; exact h⟩

/-- Whatever order is picked among the first n; S holds behind each; then L. -/
def wpAnyN (P : Program) (md : Region.Mode) (ops : Array Oper) (Q : Exit → Act → World → Prop) (S : World → Prop) (n : Nat) (L : Array Bool → Act → World → Prop) : Nat → Array Bool → Act → World → Prop
  | 0, listed, a, w => L listed a w
  | fuel + 1, listed, a, w => Region.ready md ops listed ≠ [] ∧ ∀ i ∈ Region.ready md ops listed, i < n ∧ wpOp P ops Q i (fun a' w' => S w' ∧ wpAnyN P md ops Q S n L fuel (listed.setIfInBounds i true) a' w') a w

theorem wpAny_of_N {g : Nat} {L : Array Bool → Act → World → Prop} (hL : ∀ listed a w, L listed a w → wpAny P md ops Q g listed a w) : ∀ (fuel : Nat) (listed : Array Bool) (a : Act) (w : World),
    wpAnyN P md ops Q S n L fuel listed a w → wpAny P md ops Q (fuel + g) listed a w
  | 0, _, _, _, h => by rw [Nat.zero_add]; exact hL _ _ _ h
  | fuel + 1, listed, a, w, h => by
    rw [show fuel + 1 + g = (fuel + g) + 1 by omega]
    exact ⟨fun h0 => absurd h0 h.1, fun i hi => wpOp_mono (fun a' w' h' => wpAny_of_N hL fuel _ a' w' h'.2) (h.2 i hi).2⟩

theorem wpAnyN_first {i : Nat} {oi : Oper} {v : Value} {L : Array Bool → Act → World → Prop} (hi : ops[i]? = some oi) (hsel : ∀ (j : Nat) (o : Oper) cs b, ops[j]? = some o → o.op ≠ .select cs b)
    (hQ : ∀ c a w, Q (.panic c) (a.put oi.dst v) w → Q (.panic c) a w)
    (hs : Region.sinkB md ops n = true) (hc : Region.chainB md ops n = true) (hn : n < ops.size) (hin : i < n) (hdone : ∀ listed a w, L listed a w → ∀ j ∈ Region.ready md ops listed, n ≤ j) :
    ∀ (fuel : Nat) (listed : Array Bool) (a : Act) (w : World), HeadInv md ops n listed →
      (∀ j oj, ops[j]? = some oj → j ≠ i → listed.getD j true = false → (∀ e ∈ oj.after, Region.binds md e = true → e.on ≠ i) → oi.apart ops oj = true) →
      i ∈ Region.ready md ops listed → YieldsC P ops S oi v a → S w →
      wpAnyN P md ops Q S n L fuel (listed.setIfInBounds i true) (a.put oi.dst v) w → wpAnyN P md ops Q S n L (fuel + 1) listed a w := by
  intro fuel
  induction fuel with
  | zero =>
    intro listed a w inv _ hr hy hS H
    have hun := (mem_ready.1 hr).1
    refine ⟨fun h => (by rw [h] at hr; cases hr), fun j hj => ?_⟩
    have hjn : j < n := by
      rcases Nat.lt_or_ge j n with h | h
      · exact h
      · exact absurd hj (tail_waits hs hc hn inv _ i rfl hin hun j h)
    refine ⟨hjn, ?_⟩
    by_cases hji : j = i
    · subst hji; exact hy.wpOp hi hS ⟨hS, H⟩
    · have := hdone _ _ _ H j (ready_mono hj hji)
      omega
  | succ fuel ih =>
    intro listed a w inv hfree hr hy hS H
    have hun := (mem_ready.1 hr).1
    refine ⟨fun h => (by rw [h] at hr; cases hr), fun j hj => ?_⟩
    have hjn : j < n := by
      rcases Nat.lt_or_ge j n with h | h
      · exact h
      · exact absurd hj (tail_waits hs hc hn inv _ i rfl hin hun j h)
    refine ⟨hjn, ?_⟩
    by_cases hji : j = i
    · subst hji; exact hy.wpOp hi hS ⟨hS, H⟩
    · have h1 := (H.2 j (ready_mono hj hji)).2
      obtain ⟨hjun, oj, hoj, hall⟩ := mem_ready.1 hj
      have hnot : ∀ e ∈ oj.after, Region.binds md e = true → e.on ≠ i := fun e he hb heq => by
        have h1 := hall e he hb
        rw [heq, getD_both hun] at h1
        cases h1
      have h2 := wpOp_putC hoj (hfree j oj hoj hji hjun hnot) (fun cs b => hsel i oi cs b hi) (fun cs b => hsel j oj cs b hoj) hQ hy h1
      have hfree' : ∀ k ok, ops[k]? = some ok → k ≠ i → (listed.setIfInBounds j true).getD k true = false →
          (∀ e ∈ ok.after, Region.binds md e = true → e.on ≠ i) → oi.apart ops ok = true := fun k ok hk hki hun hno => by
        refine hfree k ok hk hki ?_ hno
        by_cases hjk : j = k
        · subst hjk; exact hjun
        · rw [getD_set_ne true hjk] at hun; exact hun
      refine wpOp_mono (fun a' w' h3 => ⟨h3.2.1, ih (listed.setIfInBounds j true) a' w' (inv.set hj hjn) hfree' (ready_mono hr (Ne.symm hji)) h3.1 h3.2.1 ?_⟩) h2
      rw [Array.setIfInBounds_comm _ _ hji]
      exact h3.2.2

/-- What is asked when the first n have come up: the rest is a chain. -/
def chainL (P : Program) (md : Region.Mode) (ops : Array Oper) (Q : Exit → Act → World → Prop) (n : Nat) (listed : Array Bool) (a : Act) (w : World) : Prop :=
  Region.seqB md ops (ops.size - n) n listed = true ∧ wpList P ops Q (ops.toList.drop n) a w

theorem wpAnyN_take {i : Nat} {oi : Oper} {v : Value} {fuel : Nat} {listed : Array Bool} {a : Act} {w : World} (hi : ops[i]? = some oi)
    (hsel : Region.noSelect ops = true) (hs : Region.sinkB md ops n = true) (hc : Region.chainB md ops n = true) (hn : n < ops.size) (hin : i < n) (inv : HeadInv md ops n listed)
    (hf : Region.free md ops listed i = true) (hr : (Region.ready md ops listed).contains i = true)
    (hQ : ∀ c a w, Q (.panic c) (a.put oi.dst v) w → Q (.panic c) a w) (hy : YieldsC P ops S oi v a) (hS : S w)
    (h : wpAnyN P md ops Q S n (chainL P md ops Q n) fuel (listed.setIfInBounds i true) (a.put oi.dst v) w) : wpAnyN P md ops Q S n (chainL P md ops Q n) (fuel + 1) listed a w :=
  wpAnyN_first hi (Region.noSelect_spec hsel) hQ hs hc hn hin (fun listed' a' w' hL => seqB_ready hL.1) fuel listed a w inv (Region.free_spec hi hf) (by simpa using hr) hy hS h

theorem headInv_start (md : Region.Mode) (ops : Array Oper) (n : Nat) : HeadInv md ops n (Array.replicate ops.size false) :=
  ⟨by simp, fun j oj _ hl => (by rw [getD_replicate_false] at hl; cases hl), fun t _ ht => getD_in (by simpa using ht) (getD_replicate_false _ _)⟩

theorem headInv_set {i : Nat} {listed : Array Bool} (inv : HeadInv md ops n listed) (hr : (Region.ready md ops listed).contains i = true) (hin : i < n) : HeadInv md ops n (listed.setIfInBounds i true) :=
  inv.set (by simpa using hr) hin

/-- One operation alone may come up. -/
theorem wpAnyN_one {i : Nat} {oi : Oper} {L : Array Bool → Act → World → Prop} {fuel : Nat} {listed : Array Bool} {a : Act} {w : World} (hi : ops[i]? = some oi) (hg : oi.guard = none) (hin : i < n) (hr : Region.ready md ops listed = [i])
    (h : oi.wp P a w (fun a' w' => S w' ∧ wpAnyN P md ops Q S n L fuel (listed.setIfInBounds i true) a' w') Q) : wpAnyN P md ops Q S n L (fuel + 1) listed a w := by
  refine ⟨by rw [hr]; simp, fun j hj => ?_⟩
  rw [hr] at hj
  obtain rfl : j = i := by simpa using hj
  refine ⟨hin, ?_⟩
  unfold wpOp
  simp only [hi]
  rw [if_pos (by simp [Region.wanted, hg])]
  exact .inl h

/-- All of the first n have come up. -/
theorem wpAnyN_chain {listed : Array Bool} {a : Act} {w : World} (hr : Region.seqB md ops (ops.size - n) n listed = true) (h : wpList P ops Q (ops.toList.drop n) a w) : wpAnyN P md ops Q S n (chainL P md ops Q n) 0 listed a w := ⟨hr, h⟩

/-- The beginning. -/
theorem wp_region_N {id : Nat} {a : Act} {w : World} (n : Nat) (hm : P.follows .mixedOrders = true) (hn : n < ops.size)
    (h : wpAnyN P .any ops (NoPanic Q) S n (chainL P .any ops (NoPanic Q) n) n (Array.replicate ops.size false) a { w with drawn := w.drawn + 1 }) : (Code.region id ops true).wp P Q a w := by
  refine wp_region_noPanic (wp_region_any hm ?_)
  have := wpAny_of_N (g := ops.size - n) (fun listed a' w' hL => by
    have := wpAny_of_seq (md := .any) (Q' := NoPanic Q) (ops.toList.drop n) n listed a' w' (fun j => by simp [List.getElem?_drop]) (by simpa using hL.1) hL.2
    simpa using this) n _ a _ h
  rwa [show n + (ops.size - n) = ops.size by omega] at this

/-- wpAnyN, the listed operations' order closed. -/
def NI (P : Program) (md : Region.Mode) (ops : Array Oper) (Q : Exit → Act → World → Prop) (S : World → Prop) (n : Nat) (fuel : Nat) (listed : Array Bool) (a : Act) (w : World) : Prop :=
  HeadInv md ops n listed → wpAnyN P md ops Q S n (chainL P md ops Q n) fuel listed a w

theorem NI_take {i : Nat} {oi : Oper} {v : Value} {fuel : Nat} {listed : Array Bool} {a : Act} {w : World} (hi : ops[i]? = some oi)
    (hsel : Region.noSelect ops = true) (hs : Region.sinkB md ops n = true) (hc : Region.chainB md ops n = true) (hn : n < ops.size) (hin : i < n)
    (hf : Region.free md ops listed i = true) (hr : (Region.ready md ops listed).contains i = true)
    (hQ : ∀ c a w, Q (.panic c) (a.put oi.dst v) w → Q (.panic c) a w) (hy : YieldsC P ops S oi v a) (hS : S w)
    (h : NI P md ops Q S n fuel (listed.setIfInBounds i true) (a.put oi.dst v) w) : NI P md ops Q S n (fuel + 1) listed a w := fun inv =>
  wpAnyN_take hi hsel hs hc hn hin inv hf hr hQ hy hS (h (headInv_set inv hr hin))

theorem NI_one {i : Nat} {oi : Oper} {fuel : Nat} {listed : Array Bool} {a : Act} {w : World} (hi : ops[i]? = some oi) (hw : Region.wanted oi (yielded ops a.tmps) = true) (hin : i < n) (hr : Region.ready md ops listed = [i])
    (h : oi.wp P a w (fun a' w' => S w' ∧ NI P md ops Q S n fuel (listed.setIfInBounds i true) a' w') Q) : NI P md ops Q S n (fuel + 1) listed a w := fun inv => by
  refine ⟨by rw [hr]; simp, fun j hj => ?_⟩
  rw [hr] at hj
  obtain rfl : j = i := by simpa using hj
  refine ⟨hin, ?_⟩
  unfold wpOp
  simp only [hi]
  rw [if_pos hw]
  exact .inl (Oper.wp_mono (fun a' w' h' => ⟨h'.1, h'.2 (headInv_set inv (by rw [hr]; simp) hin)⟩) h)

theorem NI_chain {listed : Array Bool} {a : Act} {w : World} (hr : Region.seqB md ops (ops.size - n) n listed = true) (h : wpList P ops Q (ops.toList.drop n) a w) : NI P md ops Q S n 0 listed a w := fun _ => ⟨hr, h⟩

theorem wp_region_NI {id : Nat} {a : Act} {w : World} (n : Nat) (hm : P.follows .mixedOrders = true) (hn : n < ops.size)
    (h : NI P .any ops (NoPanic Q) S n n (Array.replicate ops.size false) a { w with drawn := w.drawn + 1 }) : (Code.region id ops true).wp P Q a w :=
  wp_region_N n hm hn (h (headInv_start _ _ _))

theorem noPanic_putC {v : Value} {d : Option Tmp} : ∀ c a w, NoPanic Q (.panic c) (a.put d v) w → NoPanic Q (.panic c) a w := fun _ _ _ h => h

/-- The order in which the operations are walked (true: one that reads, taken first): may it be so? -/
def ordB (md : Region.Mode) (ops : Array Oper) (n : Nat) : List (Nat × Bool) → Array Bool → Bool
  | [], listed => Region.seqB md ops (ops.size - n) n listed
  | (k, b) :: r, listed => decide (k < n) && (if b then (Region.ready md ops listed).contains k && Region.free md ops listed k else decide (Region.ready md ops listed = [k])) && ordB md ops n r (listed.setIfInBounds k true)

/-- The walk in that order. -/
def wpO (P : Program) (ops : Array Oper) (Q : Exit → Act → World → Prop) (S : World → Prop) (Q' : Act → World → Prop) : List (Nat × Bool) → Act → World → Prop
  | [], a, w => Q' a w
  | (k, b) :: r, a, w => match ops[k]? with
    | none => False
    | some o => if Region.wanted o (yielded ops a.tmps) = true then
        (if b = true then ∃ v, (∀ W, S W → o.quietAt P a (fun w'' => w'' = W) W v) ∧ wpO P ops Q S Q' r (a.put o.dst v) w else o.wp P a w (fun a' w' => S w' ∧ wpO P ops Q S Q' r a' w') Q)
      else wpO P ops Q S Q' r (a.put o.dst undef) w

theorem wpAnyN_of_O (hsel : Region.noSelect ops = true) (hs : Region.sinkB md ops n = true) (hc : Region.chainB md ops n = true) (hn : n < ops.size) (hQ : ∀ c a w d v, Q (.panic c) (Act.put a d v) w → Q (.panic c) a w) :
    ∀ (ord : List (Nat × Bool)) (listed : Array Bool) (a : Act) (w : World), HeadInv md ops n listed → ordB md ops n ord listed = true → S w → wpO P ops Q S (wpList P ops Q (ops.toList.drop n)) ord a w →
      wpAnyN P md ops Q S n (chainL P md ops Q n) ord.length listed a w
  | [], listed, a, w, _, hB, _, h => ⟨hB, h⟩
  | (k, b) :: r, listed, a, w, inv, hB, hS, h => by
    simp only [ordB, Bool.and_eq_true, decide_eq_true_eq] at hB
    obtain ⟨⟨hk, hb⟩, hr⟩ := hB
    unfold wpO at h
    cases ho : ops[k]? with
    | none => rw [ho] at h; exact h.elim
    | some o =>
      rw [ho] at h
      simp only at h
      cases b with
      | true =>
        simp only [if_true, Bool.and_eq_true] at hb h
        have hrc : (Region.ready md ops listed).contains k = true := hb.1
        by_cases hw : Region.wanted o (yielded ops a.tmps) = true
        · rw [if_pos hw] at h
          obtain ⟨v, hy, hK⟩ := h
          exact wpAnyN_take ho hsel hs hc hn hk inv hb.2 hrc (fun c a w => hQ c a w _ _) (.inl ⟨hw, hy⟩) hS (wpAnyN_of_O hsel hs hc hn hQ r _ _ w (headInv_set inv hrc hk) hr hS hK)
        · rw [if_neg hw] at h
          exact wpAnyN_take ho hsel hs hc hn hk inv hb.2 hrc (fun c a w => hQ c a w _ _) (.inr ⟨by simpa using hw, rfl⟩) hS (wpAnyN_of_O hsel hs hc hn hQ r _ _ w (headInv_set inv hrc hk) hr hS h)
      | false =>
        simp only [Bool.false_eq_true, if_false, decide_eq_true_eq] at hb h
        have hrc : (Region.ready md ops listed).contains k = true := by rw [hb]; simp
        refine ⟨by rw [hb]; simp, fun j hj => ?_⟩
        rw [hb] at hj
        obtain rfl : j = k := by simpa using hj
        refine ⟨hk, ?_⟩
        unfold wpOp
        simp only [ho]
        by_cases hw : Region.wanted o (yielded ops a.tmps) = true
        · rw [if_pos hw] at h ⊢
          exact .inl (Oper.wp_mono (fun a' w' h' => ⟨h'.1, wpAnyN_of_O hsel hs hc hn hQ r _ a' w' (headInv_set inv hrc hk) hr h'.1 h'.2⟩) h)
        · rw [if_neg hw] at h ⊢
          exact ⟨hS, wpAnyN_of_O hsel hs hc hn hQ r _ _ w (headInv_set inv hrc hk) hr hS h⟩

/-- A drawn region, walked in the order ord. -/
theorem wp_region_O {id : Nat} {a : Act} {w : World} (n : Nat) (ord : List (Nat × Bool)) (hm : P.follows .mixedOrders = true) (hsel : Region.noSelect ops = true) (hs : Region.sinkB .any ops n = true) (hc : Region.chainB .any ops n = true) (hn : n < ops.size) (hl : ord.length = n)
    (hB : ordB .any ops n ord (Array.replicate ops.size false) = true) (hS : S { w with drawn := w.drawn + 1 })
    (h : wpO P ops (NoPanic Q) S (wpList P ops (NoPanic Q) (ops.toList.drop n)) ord a { w with drawn := w.drawn + 1 }) : (Code.region id ops true).wp P Q a w := by
  refine wp_region_N (S := S) n hm hn ?_
  have := wpAnyN_of_O hsel hs hc hn (fun c a w d v h => h) ord _ a _ (headInv_start _ _ _) hB hS h
  rwa [hl] at this

/-- An operation that calls nothing. -/
def Oper.plainB (o : Oper) : Bool := match o.op with
  | .move _ | .assign _ | .load _ _ | .pick _ _ _ | .binOp _ _ _ _ _ | .unOp _ _ _ | .field _ _ _ | .fieldAddr _ _ _ | .index _ _ _ | .indexAddr _ _ _ | .slice _ _ _ _ _ | .convert _ _ _ | .makeFunc _ _ _ | .extract _ _ | .build _ _ => true
  | _ => false

theorem run_val_enter {s : Sem Value} {w w' : World} {f : FuncId} {args : Array Value} (h : (do pure (.value (← s)) : Sem Next).run P w = .ok (.enter f args) w') : False := by
  rw [Sem.run_bind] at h
  cases hs : s.run P w with
  | ok x w1 => rw [hs] at h; simp [Sem.run_pure] at h
  | halt x w1 => rw [hs] at h; simp at h

theorem Oper.plain_enter {o : Oper} (ho : Oper.plainB o = true) {ρ : Operand → Value} {w w' : World} {f : FuncId} {args : Array Value} (h : (execOp ρ o).run P w = .ok (.enter f args) w') : False := by
  obtain ⟨d, op, t, p, af, g⟩ := o
  cases op
  case pick c x y =>
    have h' : (do pure (.value (if ← asBool (ρ c) then ρ x else ρ y)) : Sem Next).run P w = .ok (.enter f args) w' := h
    rw [Sem.run_bind] at h'
    cases hs : (asBool (ρ c)).run P w with
    | ok b w1 => rw [hs] at h'; cases b <;> simp [Sem.run_pure] at h'
    | halt x w1 => rw [hs] at h'; simp at h'
  case move x => have h' : (pure (.value (ρ x)) : Sem Next).run P w = .ok (.enter f args) w' := h; rw [Sem.run_pure] at h'; cases h'
  case assign x => have h' : (pure (.value (ρ x)) : Sem Next).run P w = .ok (.enter f args) w' := h; rw [Sem.run_pure] at h'; cases h'
  all_goals first
    | exact run_val_enter h
    | (simp [Oper.plainB] at ho; done)

/-- The class of worlds where S holds. -/
def SW (S : World → Prop) := { w : World // S w }
def CS (S : World → Prop) (w : World) : Prop := ∃ x : SW S, w = x.1

theorem yields_of_quiet {o : Oper} {a : Act} {K : Act → Prop} (hp : Oper.plainB o = true) (h : o.quiet P a (CS S) K) : ∃ v, (∀ W, S W → o.quietAt P a (fun w'' => w'' = W) W v) ∧ K (a.put o.dst v) := by
  obtain ⟨v, h1, h2⟩ := h
  refine ⟨v, fun W hW => ?_, h2⟩
  have h3 := h1 W ⟨⟨W, hW⟩, rfl⟩
  unfold Oper.quietAt at h3 ⊢
  cases hr : (execOp a.eval o).run P W with
  | ok x w' =>
    rw [hr] at h3
    cases x with
    | enter f args => exact (Oper.plain_enter hp hr).elim
    | value u => exact h3
    | skip => exact h3
    | _ => exact h3
  | halt x w' => rw [hr] at h3; exact h3

/-- Operations, walked one behind the other: reads, then one that does anything; and so on. -/
def wpOL (P : Program) (ops : Array Oper) (Q : Exit → Act → World → Prop) (S : World → Prop) (Q' : Act → World → Prop) : List (List Oper × Option Oper) → Act → World → Prop
  | [], a, w => Q' a w
  | (rs, none) :: r, a, w => wpQuiet P ops (CS S) (fun a' => wpOL P ops Q S Q' r a' w) rs a
  | (rs, some o) :: r, a, w => wpQuiet P ops (CS S) (fun a' => if Region.wanted o (yielded ops a'.tmps) = true then o.wp P a' w (fun a'' w' => S w' ∧ wpOL P ops Q S Q' r a'' w') Q else wpOL P ops Q S Q' r (a'.put o.dst undef) w) rs a

def segOps (ops : Array Oper) (segs : List (List Nat × Option Nat)) : List (List Oper × Option Oper) := segs.map fun (rs, o) => (rs.filterMap (ops[·]?), o.bind (ops[·]?))
def segOrd : List (List Nat × Option Nat) → List (Nat × Bool)
  | [] => []
  | (rs, none) :: r => rs.map (·, true) ++ segOrd r
  | (rs, some o) :: r => rs.map (·, true) ++ (o, false) :: segOrd r
/-- All are there; those that are read call nothing. -/
def segB (ops : Array Oper) : List (List Nat × Option Nat) → Bool
  | [] => true
  | (rs, o) :: r => rs.all (fun k => match ops[k]? with | some o => Oper.plainB o | none => false) && (match o with | some k => decide (k < ops.size) | none => true) && segB ops r

theorem wpO_reads {Q' : Act → World → Prop} {r : List (Nat × Bool)} {w : World} {K : Act → Prop} (hK : ∀ a, K a → wpO P ops Q S Q' r a w) : ∀ (rs : List Nat) (a : Act), rs.all (fun k => match ops[k]? with | some o => Oper.plainB o | none => false) = true →
    wpQuiet P ops (CS S) K (rs.filterMap (ops[·]?)) a → wpO P ops Q S Q' (rs.map (·, true) ++ r) a w
  | [], a, _, h => hK a h
  | k :: rs, a, hB, h => by
    simp only [List.all_cons, Bool.and_eq_true] at hB
    obtain ⟨h1, h2⟩ := hB
    rw [List.map_cons, List.cons_append]
    unfold wpO
    cases ho : ops[k]? with
    | none => rw [ho] at h1; cases h1
    | some o =>
      rw [ho] at h1
      simp only at h1 ⊢
      rw [List.filterMap_cons, ho] at h
      simp only at h
      unfold wpQuiet at h
      by_cases hw : Region.wanted o (yielded ops a.tmps) = true
      · rw [if_pos hw] at h ⊢
        obtain ⟨v, h3, h4⟩ := yields_of_quiet h1 h
        simp only [if_true]
        exact ⟨v, h3, wpO_reads hK rs _ h2 h4⟩
      · rw [if_neg hw] at h ⊢
        exact wpO_reads hK rs _ h2 h

theorem wpO_of_OL {Q' : Act → World → Prop} : ∀ (segs : List (List Nat × Option Nat)) (a : Act) (w : World), segB ops segs = true → wpOL P ops Q S Q' (segOps ops segs) a w → wpO P ops Q S Q' (segOrd segs) a w
  | [], a, w, _, h => h
  | (rs, none) :: r, a, w, hB, h => by
    simp only [segB, Bool.and_eq_true] at hB
    exact wpO_reads (fun a' h' => wpO_of_OL r a' w hB.2 h') rs a hB.1.1 h
  | (rs, some k) :: r, a, w, hB, h => by
    simp only [segB, Bool.and_eq_true, decide_eq_true_eq] at hB
    obtain ⟨⟨h1, hk⟩, h2⟩ := hB
    have ho : ops[k]? = some ops[k] := Array.getElem?_eq_getElem hk
    have h' : wpQuiet P ops (CS S) (fun a' => if Region.wanted ops[k] (yielded ops a'.tmps) = true then ops[k].wp P a' w (fun a'' w' => S w' ∧ wpOL P ops Q S Q' (segOps ops r) a'' w') Q else wpOL P ops Q S Q' (segOps ops r) (a'.put ops[k].dst undef) w) (rs.filterMap (ops[·]?)) a := by
      have h0 : segOps ops ((rs, some k) :: r) = (rs.filterMap (ops[·]?), some ops[k]) :: segOps ops r := by simp [segOps, ho]
      rw [h0] at h
      exact h
    refine wpO_reads (fun a' h3 => ?_) rs a h1 h'
    unfold wpO
    rw [ho]
    simp only
    by_cases hw : Region.wanted ops[k] (yielded ops a'.tmps) = true
    · rw [if_pos hw] at h3 ⊢
      simp only [Bool.false_eq_true, if_false]
      exact Oper.wp_mono (fun a1 w1 h4 => ⟨h4.1, wpO_of_OL r a1 w1 h2 h4.2⟩) h3
    · rw [if_neg hw] at h3 ⊢
      exact wpO_of_OL r _ w h2 h3

/-- A drawn region, walked in the order segs. -/
theorem wp_region_OL {id : Nat} {a : Act} {w : World} (n : Nat) (segs : List (List Nat × Option Nat)) (hm : P.follows .mixedOrders = true) (hsel : Region.noSelect ops = true) (hs : Region.sinkB .any ops n = true) (hc : Region.chainB .any ops n = true) (hn : n < ops.size) (hl : (segOrd segs).length = n)
    (hB : ordB .any ops n (segOrd segs) (Array.replicate ops.size false) = true) (hB2 : segB ops segs = true) (hS : S { w with drawn := w.drawn + 1 })
    (h : ∀ Q' : Exit → Act → World → Prop, (∀ e a w, NoPanic Q e a w → Q' e a w) → ∀ Q1 : Act → World → Prop, (∀ a w, wpList P ops (NoPanic Q) (ops.toList.drop n) a w → Q1 a w) → wpOL P ops Q' S Q1 (segOps ops segs) a { w with drawn := w.drawn + 1 }) : (Code.region id ops true).wp P Q a w := by
  refine wp_region_O (S := S) n (segOrd segs) hm hsel hs hc hn hl hB hS (wpO_of_OL segs _ _ hB2 ?_)
  exact h (NoPanic Q) (fun _ _ _ h => h) _ (fun _ _ h => h)

theorem wpOL_reads {Q' : Act → World → Prop} {rs : List Oper} {r : List (List Oper × Option Oper)} {a : Act} {w : World} (h : ∀ K : Act → Prop, (∀ a', wpOL P ops Q S Q' r a' w → K a') → wpQuiet P ops (fun w' => ∃ x : SW S, w' = x.1) K rs a) : wpOL P ops Q S Q' ((rs, none) :: r) a w := h _ (fun _ h => h)
theorem wpOL_seg {Q' : Act → World → Prop} {rs : List Oper} {o : Oper} {r : List (List Oper × Option Oper)} {a : Act} {w : World} (h : ∀ K : Act → Prop, (∀ a', wpOL P ops Q S Q' (([], some o) :: r) a' w → K a') → wpQuiet P ops (fun w' => ∃ x : SW S, w' = x.1) K rs a) : wpOL P ops Q S Q' ((rs, some o) :: r) a w := h _ (fun _ h => h)
theorem wpOL_one {Q' : Act → World → Prop} {o : Oper} {r : List (List Oper × Option Oper)} {a : Act} {w : World} (hw : Region.wanted o (yielded ops a.tmps) = true)
    (h : ∀ K : Act → World → Prop, (∀ a' w', S w' → wpOL P ops Q S Q' r a' w' → K a' w') → o.wp P a w K Q) : wpOL P ops Q S Q' (([], some o) :: r) a w := by
  show (if Region.wanted o (yielded ops a.tmps) = true then _ else _)
  rw [if_pos hw]
  exact h _ (fun _ _ h1 h2 => ⟨h1, h2⟩)
theorem wpOL_nil {Q' : Act → World → Prop} {a : Act} {w : World} (h : Q' a w) : wpOL P ops Q S Q' [] a w := h

/-- One step, what follows behind a letter: a read. -/
theorem wpO_read {Q' : Act → World → Prop} {k : Nat} {r : List (Nat × Bool)} {o : Oper} {a : Act} {w : World} (ho : ops[k]? = some o) (hw : Region.wanted o (yielded ops a.tmps) = true) (v : Value)
    (hy : ∀ W, S W → o.quietAt P a (fun w'' => w'' = W) W v) (h : wpO P ops Q S Q' r (a.put o.dst v) w) : wpO P ops Q S Q' ((k, true) :: r) a w := by
  unfold wpO
  rw [ho]
  simp only [if_pos hw, if_true]
  exact ⟨v, hy, h⟩
/-- One step: any operation. -/
theorem wpO_one {Q' : Act → World → Prop} {k : Nat} {r : List (Nat × Bool)} {o : Oper} {a : Act} {w : World} (ho : ops[k]? = some o) (hw : Region.wanted o (yielded ops a.tmps) = true)
    (h : o.wp P a w (fun a' w' => S w' ∧ wpO P ops Q S Q' r a' w') Q) : wpO P ops Q S Q' ((k, false) :: r) a w := by
  unfold wpO
  rw [ho]
  simp only [if_pos hw, Bool.false_eq_true, if_false]
  exact h
end
end Go.Proofs.Ytpecgfpofihibaa
