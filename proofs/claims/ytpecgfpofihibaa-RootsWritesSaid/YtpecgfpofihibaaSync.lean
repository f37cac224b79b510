/-
  A device's words, by place: what stands (at), what a fence would keep (pend). What Format leaves.
-/
import Derived.Test.YtpecgfpofihibaaFmd
namespace Go.Proofs.Ytpecgfpofihibaa
open Go Go.RowKit Go.MapKept

def DevS.at (D : DevS) (j : Nat) : Int := D.now.getD j 0
def DevS.pend (D : DevS) (j : Nat) : Int := match D.que (j / 8) with | some l => l.getD (j % 8) 0 | none => D.kept.getD j 0

theorem rd_at (D : DevS) (i : Int) (h : 0 ≤ i) : rd D.now i = D.at i.toNat := by simp [rd, DevS.at, h]
theorem rd_nat (D : DevS) (i : Nat) : rd D.now i = D.at i := by simp [rd, DevS.at]

theorem DevS.at_store (D : DevS) (i v : Int) (j : Nat) (hi : i.toNat < D.now.length) : (D.store i v).at j = if j = i.toNat then v else D.at j := by
  unfold DevS.at DevS.store
  simp only [List.getD_eq_getElem?_getD, List.getElem?_set]
  by_cases h : i.toNat = j
  · subst h; simp [hi]
  · rw [if_neg h, if_neg (Ne.symm h)]
theorem DevS.at_flush (D : DevS) (i : Int) (j : Nat) : (D.flush i).at j = D.at j := rfl
theorem DevS.at_fence (D : DevS) (j : Nat) : D.fence.at j = D.at j := rfl
theorem DevS.at_sf (D : DevS) (i v : Int) (j : Nat) (hi : i.toNat < D.now.length) : (D.sf i v).at j = if j = i.toNat then v else D.at j := DevS.at_store D i v j hi

theorem DevS.pend_store (D : DevS) (i v : Int) (j : Nat) : (D.store i v).pend j = D.pend j := rfl
theorem DevS.pend_flush (D : DevS) (i : Int) (j : Nat) : (D.flush i).pend j = if j / 8 = i.toNat / 8 then D.at j else D.pend j := by
  unfold DevS.pend DevS.flush updQ DevS.at
  by_cases h : j / 8 = i.toNat / 8
  · simp only [h, if_true, lineOf]
    simp only [List.getD_eq_getElem?_getD, List.getElem?_take, List.getElem?_drop]
    rw [if_pos (Nat.mod_lt _ (by decide))]
    congr 2
    omega
  · simp only [h, if_false]
theorem DevS.pend_fence (D : DevS) (j : Nat) (hj : j < D.kept.length) : D.fence.pend j = D.pend j := by
  show D.fence.kept.getD j 0 = _
  unfold DevS.fence DevS.pend
  simp only [List.getD_eq_getElem?_getD, List.getElem?_map, List.getElem?_range hj, Option.map_some, Option.getD_some]
  cases D.que (j / 8) <;> rfl
theorem DevS.kept_fence (D : DevS) (j : Nat) (hj : j < D.kept.length) : D.fence.kept.getD j 0 = D.pend j := DevS.pend_fence D j hj
theorem DevS.pend_sf (D : DevS) (i v : Int) (j : Nat) (hi : i.toNat < D.now.length) : (D.sf i v).pend j = if j / 8 = i.toNat / 8 then (if j = i.toNat then v else D.at j) else D.pend j := by
  unfold DevS.sf
  rw [DevS.pend_flush, DevS.at_store _ _ _ _ hi, DevS.pend_store]
@[simp] theorem DevS.fence_kept_len (D : DevS) : D.fence.kept.length = D.kept.length := by simp [DevS.fence]
@[simp] theorem DevS.store_kept (D : DevS) (i v : Int) : (D.store i v).kept = D.kept := rfl
@[simp] theorem DevS.flush_kept (D : DevS) (i : Int) : (D.flush i).kept = D.kept := rfl
@[simp] theorem DevS.sf_kept (D : DevS) (i v : Int) : (D.sf i v).kept = D.kept := rfl

/-- Lines other than the first are as a fence would keep them. -/
def DevS.clean1 (D : DevS) : Prop := ∀ j, 8 ≤ j → j < D.kept.length → D.pend j = D.at j

theorem DevS.clean1_sf {D : DevS} (h : D.clean1) (i v : Int) (hi : i.toNat < D.now.length) : (D.sf i v).clean1 := by
  intro j hj hk
  rw [DevS.pend_sf _ _ _ _ hi, DevS.at_sf _ _ _ _ hi]
  by_cases h1 : j / 8 = i.toNat / 8
  · rw [if_pos h1]
  · rw [if_neg h1, if_neg (fun e => h1 (by rw [e])), h j hj hk]

theorem DevS.clean1_store {D : DevS} (h : D.clean1) (i v : Int) (hi : i.toNat < D.now.length) (h8 : i.toNat < 8) : (D.store i v).clean1 := by
  intro j hj hk
  rw [DevS.pend_store, DevS.at_store _ _ _ _ hi, if_neg (by omega), h j hj hk]

theorem DevS.clean1_fence {D : DevS} (h : D.clean1) : D.fence.clean1 := by
  intro j hj hk
  rw [DevS.fence_kept_len] at hk
  rw [DevS.pend_fence D j hk, h j hj hk]
  rfl
theorem DevS.clean1_flush {D : DevS} (h : D.clean1) (i : Int) : (D.flush i).clean1 := by
  intro j hj hk
  rw [DevS.pend_flush]
  split
  · rfl
  · exact h j hj hk

theorem DevS.fmtLog_kept (c : Cf) (D : DevS) (k : Nat) : (D.fmtLog c k).kept = D.kept := by
  induction k with
  | zero => rfl
  | succ k ih => rw [DevS.fmtLog_succ]; exact ih
theorem DevS.fmtRoot_kept (c : Cf) (D : DevS) (k : Nat) : (D.fmtRoot c k).kept = D.kept := by
  induction k with
  | zero => rfl
  | succ k ih => rw [DevS.fmtRoot_succ]; exact ih

theorem DevS.clean1_fmtLog {c : Cf} {D : DevS} (h : D.clean1) (k : Nat) (hk : 16 + 4 * k ≤ D.now.length + 3) : (D.fmtLog c k).clean1 := by
  induction k with
  | zero => exact h
  | succ k ih =>
    rw [DevS.fmtLog_succ]
    refine DevS.clean1_sf (ih (by omega)) _ _ ?_
    simp [Cf.recd]; omega
theorem DevS.clean1_fmtRoot {c : Cf} {D : DevS} (h : D.clean1) (h0 : 0 ≤ c.act) (k : Nat) (hk : c.act + k ≤ D.now.length) : (D.fmtRoot c k).clean1 := by
  induction k with
  | zero => exact h
  | succ k ih =>
    rw [DevS.fmtRoot_succ]
    refine DevS.clean1_sf (ih (by omega)) _ _ ?_
    simp; omega

theorem DevS.at_fmtLog (c : Cf) (D : DevS) (k : Nat) (hk : 16 + 4 * k ≤ D.now.length + 3) (j : Nat) : (D.fmtLog c k).at j = if 16 ≤ j ∧ j < 16 + 4 * k ∧ j % 4 = 0 then 0 else D.at j := by
  induction k with
  | zero => rw [if_neg (by omega)]; rfl
  | succ k ih =>
    rw [DevS.fmtLog_succ, DevS.at_sf _ _ _ _ (by simp [Cf.recd]; omega), ih (by omega)]
    have : (c.recd k).toNat = 16 + 4 * k := by simp [Cf.recd]; omega
    rw [this]
    by_cases h1 : j = 16 + 4 * k
    · rw [if_pos h1, if_pos (by omega)]
    · rw [if_neg h1]
      by_cases h2 : 16 ≤ j ∧ j < 16 + 4 * k ∧ j % 4 = 0
      · rw [if_pos h2, if_pos (by omega)]
      · rw [if_neg h2, if_neg (by omega)]
theorem DevS.at_fmtRoot (c : Cf) (D : DevS) (h0 : 0 ≤ c.act) (k : Nat) (hk : c.act + k ≤ D.now.length) (j : Nat) : (D.fmtRoot c k).at j = if c.act ≤ j ∧ (j : Int) < c.act + k then 0 else D.at j := by
  induction k with
  | zero => rw [if_neg (by omega)]; rfl
  | succ k ih =>
    rw [DevS.fmtRoot_succ, DevS.at_sf _ _ _ _ (by simp; omega), ih (by omega)]
    by_cases h1 : j = (c.act + (k : Int)).toNat
    · rw [if_pos h1, if_pos (by omega)]
    · rw [if_neg h1]
      by_cases h2 : c.act ≤ j ∧ (j : Int) < c.act + k
      · rw [if_pos h2, if_pos (by omega)]
      · rw [if_neg h2, if_neg (by omega)]

/-- What a new heap has at j. -/
def fmtAt (c : Cf) (old : List Int) (j : Nat) : Int :=
  if j = 0 then magic else if j = 1 then c.L else if j = 2 then c.R else if j = 3 then c.S else if j = 8 then 1
  else if 16 ≤ j ∧ (j : Int) < 16 + 4 * c.L ∧ j % 4 = 0 then 0
  else if c.act ≤ j ∧ (j : Int) < c.act + 2 + c.R then 0 else (fw c old).getD j 0

theorem fmtD_len (c : Cf) (old : List Int) : (fmtD c old).now.length = c.words.toNat := by
  simp [fmtD, DevS.format, fw]

theorem fmtD_at (c : Cf) (old : List Int) (hc : c.ok) (j : Nat) : (fmtD c old).at j = fmtAt c old j := by
  obtain ⟨r1, r2, l1, l2, s1, s2⟩ := hc
  obtain ⟨a1, a2, a3, f1, f2, f3, t1, t2, t3⟩ := c.bds
  have hw : c.words = c.fr0 + 2 * ln c.S := rfl
  have hlen : (fw c old).length = c.words.toNat := by simp [fw]
  have h0 : ∀ D : DevS, (D.flush 0).at j = D.at j := fun _ => rfl
  unfold fmtD DevS.format
  rw [DevS.at_fence, DevS.at_sf _ _ _ _ (by simp [fw]; omega), DevS.at_fence, h0, DevS.at_fmtRoot _ _ (by omega) _ (by simp [fw]; omega), DevS.at_fmtLog _ _ _ (by simp [fw]; omega),
    DevS.at_sf _ _ _ _ (by simp [fw]; omega)]
  have h3 : ∀ D : DevS, D.now.length = c.words.toNat → (D.fmt1 c 3).at j = if j = 3 then c.S else if j = 2 then c.R else if j = 1 then c.L else if j = 0 then 0 else D.at j := by
    intro D hD
    show ((((D.sf 0 0).fence.store 1 c.L).store 2 c.R).store 3 c.S).at j = _
    rw [DevS.at_store _ _ _ _ (by simp [hD]; omega), DevS.at_store _ _ _ _ (by simp [hD]; omega), DevS.at_store _ _ _ _ (by simp [hD]; omega), DevS.at_fence, DevS.at_sf _ _ _ _ (by simp [hD]; omega)]
    rfl
  rw [h3 _ hlen]
  have z0 : (0 : Int).toNat = 0 := rfl
  have z8 : (8 : Int).toNat = 8 := rfl
  rw [z0, z8]
  show _ = fmtAt c old j
  unfold fmtAt
  have hat : (DevS.mk (fw c old) (fw c old) fun _ => none).at j = (fw c old).getD j 0 := rfl
  rw [hat]
  repeat' split
  all_goals first | rfl | (exfalso; omega)

theorem fmtD_que (c : Cf) (old : List Int) : (fmtD c old).que = fun _ => none := rfl
theorem fmtD_klen (c : Cf) (old : List Int) : (fmtD c old).kept.length = c.words.toNat := by
  unfold fmtD DevS.format
  simp [DevS.fmtRoot_kept, DevS.fmtLog_kept, DevS.fmt1, fw]

/-- A new heap is kept as it stands. -/
theorem fmtD_pend (c : Cf) (old : List Int) (hc : c.ok) (j : Nat) (hj : 8 ≤ j) (hj2 : (j : Int) < c.words) : (fmtD c old).pend j = (fmtD c old).at j := by
  obtain ⟨r1, r2, l1, l2, s1, s2⟩ := hc
  obtain ⟨a1, a2, a3, f1, f2, f3, t1, t2, t3⟩ := c.bds
  have hw : c.words = c.fr0 + 2 * ln c.S := rfl
  have hlen : (fw c old).length = c.words.toNat := by simp [fw]
  have cl0 : (DevS.mk (fw c old) (fw c old) fun _ => none).clean1 := fun j _ _ => rfl
  have key : (fmtD c old).clean1 := by
    unfold fmtD DevS.format
    refine DevS.clean1_fence (DevS.clean1_sf (DevS.clean1_fence (DevS.clean1_flush (DevS.clean1_fmtRoot (DevS.clean1_fmtLog (DevS.clean1_sf ?_ _ _ ?_) _ ?_) ?_ _ ?_) _)) _ _ ?_)
    · show ((((DevS.sf _ 0 0).fence.store 1 c.L).store 2 c.R).store 3 c.S).clean1
      refine DevS.clean1_store (DevS.clean1_store (DevS.clean1_store (DevS.clean1_fence (DevS.clean1_sf cl0 _ _ ?_)) _ _ ?_ (by decide)) _ _ ?_ (by decide)) _ _ ?_ (by decide)
      all_goals (simp [fw]; omega)
    all_goals first | omega | (simp [fw]; omega) | (simp [fw]; done)
  exact key j hj (by rw [fmtD_klen]; omega)
end Go.Proofs.Ytpecgfpofihibaa
