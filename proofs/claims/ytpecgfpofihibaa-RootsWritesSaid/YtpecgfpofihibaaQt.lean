/-
  A drawn region in which, behind some reads, one of two operations may come up first: walked in both orders.
-/
import Derived.Test.YtpecgfpofihibaaQn
namespace Go.Proofs.Ytpecgfpofihibaa
open Go Go.RowKit

section
variable {P : Program} {ops : Array Oper} {Q : Exit → Act → World → Prop} {md : Region.Mode} {S : World → Prop} {n : Nat}

def ordTwo (md : Region.Mode) (ops : Array Oper) (n : Nat) (k1 : Nat) (rA : List (Nat × Bool)) (k2 : Nat) (rB : List (Nat × Bool)) : List Nat → Array Bool → Bool
  | [], listed => decide (k1 < n) && decide (k2 < n) && decide (Region.ready md ops listed = [k1, k2]) && ordB md ops n rA (listed.setIfInBounds k1 true) && ordB md ops n rB (listed.setIfInBounds k2 true)
  | k :: ks, listed => decide (k < n) && (Region.ready md ops listed).contains k && Region.free md ops listed k && ordTwo md ops n k1 rA k2 rB ks (listed.setIfInBounds k true)

theorem wpOp_of_one {k : Nat} {r : List (Nat × Bool)} {Q' : Act → World → Prop} {a : Act} {w : World} {K : Act → World → Prop} (h : wpO P ops Q S Q' ((k, false) :: r) a w) (hS : S w) (hK : ∀ a' w', S w' → wpO P ops Q S Q' r a' w' → K a' w') : wpOp P ops Q k (fun a' w' => S w' ∧ K a' w') a w := by
  unfold wpO at h
  unfold wpOp
  cases ho : ops[k]? with
  | none => rw [ho] at h; exact h.elim
  | some o =>
    rw [ho] at h
    simp only [Bool.false_eq_true, if_false] at h ⊢
    by_cases hw : Region.wanted o (yielded ops a.tmps) = true
    · rw [if_pos hw] at h ⊢
      exact .inl (Oper.wp_mono (fun a' w' h' => ⟨h'.1, hK a' w' h'.1 h'.2⟩) h)
    · rw [if_neg hw] at h ⊢
      exact ⟨hS, hK _ _ hS h⟩

theorem wpAnyN_two (hsel : Region.noSelect ops = true) (hs : Region.sinkB md ops n = true) (hc : Region.chainB md ops n = true) (hn : n < ops.size) (hQ : ∀ c a w d v, Q (.panic c) (Act.put a d v) w → Q (.panic c) a w) {k1 k2 : Nat} {rA rB : List (Nat × Bool)} (hlen : rA.length = rB.length) :
    ∀ (pre : List Nat) (listed : Array Bool) (a : Act) (w : World), HeadInv md ops n listed → ordTwo md ops n k1 rA k2 rB pre listed = true → S w →
      pre.all (fun k => match ops[k]? with | some o => Oper.plainB o | none => false) = true →
      wpQuiet P ops (CS S) (fun a' => wpO P ops Q S (wpList P ops Q (ops.toList.drop n)) ((k1, false) :: rA) a' w ∧ wpO P ops Q S (wpList P ops Q (ops.toList.drop n)) ((k2, false) :: rB) a' w) (pre.filterMap (ops[·]?)) a →
      wpAnyN P md ops Q S n (chainL P md ops Q n) (pre.length + (rA.length + 1)) listed a w
  | [], listed, a, w, inv, hB, hS, _, h => by
    simp only [ordTwo, Bool.and_eq_true, decide_eq_true_eq] at hB
    obtain ⟨⟨⟨⟨b1, b2⟩, b3⟩, b4⟩, b5⟩ := hB
    have h' : wpO P ops Q S (wpList P ops Q (ops.toList.drop n)) ((k1, false) :: rA) a w ∧ wpO P ops Q S (wpList P ops Q (ops.toList.drop n)) ((k2, false) :: rB) a w := h
    rw [List.length_nil, Nat.zero_add]
    have hr1 : (Region.ready md ops listed).contains k1 = true := by rw [b3]; simp
    have hr2 : (Region.ready md ops listed).contains k2 = true := by rw [b3]; simp
    refine ⟨by rw [b3]; simp, fun j hj => ?_⟩
    rw [b3] at hj
    simp only [List.mem_cons, List.not_mem_nil, or_false] at hj
    rcases hj with rfl | rfl
    · exact ⟨b1, wpOp_of_one h'.1 hS (fun a' w' hS' hr => wpAnyN_of_O hsel hs hc hn hQ rA _ a' w' (headInv_set inv hr1 b1) b4 hS' hr)⟩
    · refine ⟨b2, wpOp_of_one h'.2 hS (fun a' w' hS' hr => ?_)⟩
      rw [hlen]
      exact wpAnyN_of_O hsel hs hc hn hQ rB _ a' w' (headInv_set inv hr2 b2) b5 hS' hr
  | k :: ks, listed, a, w, inv, hB, hS, hp, h => by
    simp only [ordTwo, Bool.and_eq_true, decide_eq_true_eq] at hB
    obtain ⟨⟨⟨b1, b2⟩, b3⟩, b4⟩ := hB
    simp only [List.all_cons, Bool.and_eq_true] at hp
    obtain ⟨p1, p2⟩ := hp
    rw [show (k :: ks).length + (rA.length + 1) = (ks.length + (rA.length + 1)) + 1 by simp; omega]
    cases ho : ops[k]? with
    | none => rw [ho] at p1; cases p1
    | some o =>
      rw [ho] at p1
      simp only at p1
      rw [List.filterMap_cons, ho] at h
      simp only at h
      unfold wpQuiet at h
      by_cases hw : Region.wanted o (yielded ops a.tmps) = true
      · rw [if_pos hw] at h
        obtain ⟨v, h3, h4⟩ := yields_of_quiet p1 h
        exact wpAnyN_take ho hsel hs hc hn b1 inv b3 b2 (fun c a w => hQ c a w _ _) (.inl ⟨hw, h3⟩) hS (wpAnyN_two hsel hs hc hn hQ hlen ks _ _ w (headInv_set inv b2 b1) b4 hS p2 h4)
      · rw [if_neg hw] at h
        exact wpAnyN_take ho hsel hs hc hn b1 inv b3 b2 (fun c a w => hQ c a w _ _) (.inr ⟨by simpa using hw, rfl⟩) hS (wpAnyN_two hsel hs hc hn hQ hlen ks _ _ w (headInv_set inv b2 b1) b4 hS p2 h)

/-- A drawn region: reads, then either of two, and so on. -/
theorem wp_region_OT {id : Nat} {a : Act} {w : World} (n : Nat) (pre : List Nat) (k1 : Nat) (sA : List (List Nat × Option Nat)) (k2 : Nat) (sB : List (List Nat × Option Nat)) (hm : P.follows .mixedOrders = true) (hsel : Region.noSelect ops = true) (hs : Region.sinkB .any ops n = true) (hc : Region.chainB .any ops n = true) (hn : n < ops.size)
    (hl : pre.length + ((segOrd sA).length + 1) = n) (hl2 : (segOrd sA).length = (segOrd sB).length)
    (hB : ordTwo .any ops n k1 (segOrd sA) k2 (segOrd sB) pre (Array.replicate ops.size false) = true) (hp : pre.all (fun k => match ops[k]? with | some o => Oper.plainB o | none => false) = true) (hA2 : segB ops (([], some k1) :: sA) = true) (hB2 : segB ops (([], some k2) :: sB) = true) (hS : S { w with drawn := w.drawn + 1 })
    (h : ∀ Q' : Exit → Act → World → Prop, (∀ e a w, NoPanic Q e a w → Q' e a w) → ∀ Q1 : Act → World → Prop, (∀ a w, wpList P ops (NoPanic Q) (ops.toList.drop n) a w → Q1 a w) →
      wpQuiet P ops (fun w' => ∃ x : SW S, w' = x.1) (fun a' => wpOL P ops Q' S Q1 (segOps ops (([], some k1) :: sA)) a' { w with drawn := w.drawn + 1 } ∧ wpOL P ops Q' S Q1 (segOps ops (([], some k2) :: sB)) a' { w with drawn := w.drawn + 1 }) (pre.filterMap (ops[·]?)) a) : (Code.region id ops true).wp P Q a w := by
  refine wp_region_N (S := S) n hm hn ?_
  have hmono : ∀ (l : List Oper) (a : Act), wpQuiet P ops (CS S) (fun a' => wpOL P ops (NoPanic Q) S (wpList P ops (NoPanic Q) (ops.toList.drop n)) (segOps ops (([], some k1) :: sA)) a' { w with drawn := w.drawn + 1 } ∧ wpOL P ops (NoPanic Q) S (wpList P ops (NoPanic Q) (ops.toList.drop n)) (segOps ops (([], some k2) :: sB)) a' { w with drawn := w.drawn + 1 }) l a →
      wpQuiet P ops (CS S) (fun a' => wpO P ops (NoPanic Q) S (wpList P ops (NoPanic Q) (ops.toList.drop n)) ((k1, false) :: segOrd sA) a' { w with drawn := w.drawn + 1 } ∧ wpO P ops (NoPanic Q) S (wpList P ops (NoPanic Q) (ops.toList.drop n)) ((k2, false) :: segOrd sB) a' { w with drawn := w.drawn + 1 }) l a := by
    intro l
    induction l with
    | nil => exact fun a h => ⟨wpO_of_OL (([], some k1) :: sA) a _ hA2 h.1, wpO_of_OL (([], some k2) :: sB) a _ hB2 h.2⟩
    | cons o l ih =>
      intro a h
      unfold wpQuiet at h ⊢
      by_cases hw : Region.wanted o (yielded ops a.tmps) = true
      · rw [if_pos hw] at h ⊢; exact Oper.quiet_mono (fun a h => ih a h) h
      · rw [if_neg hw] at h ⊢; exact ih _ h
  have := wpAnyN_two (Q := NoPanic Q) hsel hs hc hn (fun c a w d v h => h) hl2 pre _ a _ (headInv_start _ _ _) hB hS hp (hmono _ a (h (NoPanic Q) (fun _ _ _ h => h) _ (fun _ _ h => h)))
  rwa [hl] at this

theorem wpQuiet_letter {C : World → Prop} {K0 : Act → Prop} {l : List Oper} {a : Act} (h : ∀ K : Act → Prop, (∀ a', K0 a' → K a') → wpQuiet P ops C K l a) : wpQuiet P ops C K0 l a := h _ (fun _ h => h)
end
end Go.Proofs.Ytpecgfpofihibaa
