/-
  What UlogPlays does to a device, in plain words.
-/
import Derived.Test.YtpecgfpofihibaaUndo
namespace Go.Proofs.Ytpecgfpofihibaa
open Go Go.RowKit Go.MapKept

theorem DevS.at_append (D : DevS) (a ep n i : Int) (j : Nat) (ha : 0 ≤ a) (hlt : a + 2 < D.now.length) (hi : a + 2 < i) :
    (D.append a ep n i).at j = if j = a.toNat then stampv ep n else if j = (a + 2).toNat then D.at i.toNat else if j = (a + 1).toNat then i else D.at j := by
  unfold DevS.append
  rw [DevS.at_fence, DevS.at_flush, DevS.at_store _ _ _ _ (by simp; omega), DevS.at_fence, DevS.at_flush, DevS.at_store _ _ _ _ (by simp; omega), DevS.at_store _ _ _ _ (by omega),
    rd_at _ _ (by omega), DevS.at_store _ _ _ _ (by omega), if_neg (by omega : ¬ i.toNat = (a + 1).toNat)]

@[simp] theorem DevS.append_len (D : DevS) (a ep n i : Int) : (D.append a ep n i).now.length = D.now.length := by simp [DevS.append]
@[simp] theorem DevS.append_klen (D : DevS) (a ep n i : Int) : (D.append a ep n i).kept.length = D.kept.length := by simp [DevS.append]

theorem DevS.pend_append (D : DevS) (a ep n i : Int) (j : Nat) (hj : j < D.kept.length) (hne : j / 8 ≠ a.toNat / 8) : (D.append a ep n i).pend j = D.pend j := by
  unfold DevS.append
  rw [DevS.pend_fence _ _ (by simpa using hj), DevS.pend_flush, if_neg hne, DevS.pend_store, DevS.pend_fence _ _ (by simpa using hj), DevS.pend_flush, if_neg hne, DevS.pend_store, DevS.pend_store]

theorem DevS.undo_cons (D : DevS) (pl wd : Nat → Int) (k : Nat) (l : List Nat) : D.undo pl wd (k :: l) = (D.sf (pl k) (wd k)).undo pl wd l := rfl

theorem DevS.undo_ext {pl wd pl' wd' : Nat → Int} (D : DevS) (l : List Nat) (h : ∀ k ∈ l, pl k = pl' k ∧ wd k = wd' k) : D.undo pl wd l = D.undo pl' wd' l := by
  induction l generalizing D with
  | nil => rfl
  | cons x l ih =>
    rw [DevS.undo_cons, DevS.undo_cons, (h x (by simp)).1, (h x (by simp)).2]
    exact ih _ (fun k hk => h k (by simp [hk]))

/-- What stands at j behind an undoing hangs on what stood there alone. -/
theorem DevS.undo_at {pl wd : Nat → Int} (j : Nat) : ∀ (l : List Nat) (D E : DevS), D.now.length = E.now.length → (∀ k ∈ l, 0 ≤ pl k ∧ pl k < D.now.length) → D.at j = E.at j → (D.undo pl wd l).at j = (E.undo pl wd l).at j
  | [], _, _, _, _, h => h
  | x :: l, D, E, hl, hp, h => by
    rw [DevS.undo_cons, DevS.undo_cons]
    have hx := hp x (by simp)
    refine DevS.undo_at j l _ _ (by simpa using hl) (fun k hk => by simpa using hp k (by simp [hk])) ?_
    rw [DevS.at_sf _ _ _ _ (by omega), DevS.at_sf _ _ _ _ (by omega), h]

theorem idx_succ (n : Nat) : idx (n + 1) = n :: idx n := by simp [idx, List.range_succ]
theorem idx_mem {n k : Nat} (h : k ∈ idx n) : k < n := by simpa [idx] using h

/-- What has been done. -/
structure PS where
  D : DevS
  pls : List Int
  wds : List Int

def plc (c : Cf) (x : Int) : Int := c.act + x % (c.words - c.act)
def PS.step (c : Cf) (s : PS) (x : Int × Int) : PS :=
  if (s.pls.length : Int) = c.L then s else ⟨(s.D.append (16 + 4 * (s.pls.length : Int)) 1 s.pls.length (plc c x.1)).store (plc c x.1) x.2, s.pls ++ [plc c x.1], s.wds ++ [s.D.at (plc c x.1).toNat]⟩

def pf (c : Cf) (l : List Int) (k : Nat) : Int := l.getD k c.act
def wf (l : List Int) (k : Nat) : Int := l.getD k 0

structure PInv (c : Cf) (old : List Int) (s : PS) : Prop where
  len : (s.D.now.length : Int) = c.words
  klen : s.D.kept.length = s.D.now.length
  le : (s.pls.length : Int) ≤ c.L
  wl : s.wds.length = s.pls.length
  ep : s.D.at 8 = 1
  recs : ∀ k, k < s.pls.length → s.D.at (16 + 4 * k) = stampv 1 k ∧ s.D.at (16 + 4 * k + 1) = pf c s.pls k ∧ s.D.at (16 + 4 * k + 2) = wf s.wds k
  free : ∀ k : Nat, s.pls.length ≤ k → (k : Int) < c.L → s.D.at (16 + 4 * k) = 0
  pl : ∀ x ∈ s.pls, c.act ≤ x ∧ x < c.words
  wd : ∀ x ∈ s.wds, U64 x
  back : ∀ j : Nat, c.act ≤ j → (s.D.undo (pf c s.pls) (wf s.wds) (idx s.pls.length)).at j = (fmtD c old).at j
  pend : ∀ j : Nat, c.act ≤ j → (j : Int) < c.words → s.D.pend j = (fmtD c old).at j
  nil : s.pls.length = 0 → s.D = fmtD c old

theorem plc_bd (c : Cf) (hc : c.ok) (x : Int) : c.act ≤ plc c x ∧ plc c x < c.words := by
  obtain ⟨r1, r2, l1, l2, s1, s2⟩ := hc
  obtain ⟨a1, a2, a3, f1, f2, f3, t1, t2, t3⟩ := c.bds
  have hw : c.words = c.fr0 + 2 * ln c.S := rfl
  unfold plc
  have q1 : 0 ≤ x % (c.words - c.act) := Int.emod_nonneg _ (by omega)
  have q2 : x % (c.words - c.act) < c.words - c.act := Int.emod_lt_of_pos _ (by omega)
  omega

theorem pf_bd {c : Cf} {old : List Int} {s : PS} (h : PInv c old s) (hc : c.ok) (k : Nat) : c.act ≤ pf c s.pls k ∧ pf c s.pls k < c.words := by
  have h0 := plc_bd c hc 0
  unfold pf
  rw [List.getD_eq_getElem?_getD]
  cases hg : s.pls[k]? with
  | none => simp; unfold plc at h0; omega
  | some y => exact h.pl y (List.mem_of_getElem? hg)
theorem wf_bd {c : Cf} {old : List Int} {s : PS} (h : PInv c old s) (k : Nat) : U64 (wf s.wds k) := by
  unfold wf
  rw [List.getD_eq_getElem?_getD]
  cases hg : s.wds[k]? with
  | none => exact u64_0
  | some y => exact h.wd y (List.mem_of_getElem? hg)

theorem PInv.start (c : Cf) (old : List Int) (hc : c.ok) : PInv c old ⟨fmtD c old, [], []⟩ := by
  obtain ⟨r1, r2, l1, l2, s1, s2⟩ := id hc
  obtain ⟨a1, a2, a3, f1, f2, f3, t1, t2, t3⟩ := c.bds
  have hw : c.words = c.fr0 + 2 * ln c.S := rfl
  have hlen := fmtD_len c old
  have hkl := fmtD_klen c old
  refine ⟨by simp only; omega, by simp only; omega, by simp; omega, rfl, ?_, by simp, ?_, by simp, by simp, fun j _ => rfl, fun j h1 h2 => fmtD_pend c old hc j (by omega) h2, fun _ => rfl⟩
  · simp only
    rw [fmtD_at _ _ hc]; rfl
  · intro k _ hk
    simp only
    rw [fmtD_at _ _ hc]
    unfold fmtAt
    rw [if_neg (by omega), if_neg (by omega), if_neg (by omega), if_neg (by omega), if_neg (by omega), if_pos (by omega)]

theorem PInv.step {c : Cf} {old : List Int} {s : PS} (h : PInv c old s) (hc : c.ok) (x : Int × Int) (hx : U64 x.2) (hwn : ∀ y ∈ s.D.now, U64 y) : PInv c old (s.step c x) := by
  obtain ⟨r1, r2, l1, l2, s1, s2⟩ := id hc
  obtain ⟨a1, a2, a3, f1, f2, f3, t1, t2, t3⟩ := c.bds
  have hw : c.words = c.fr0 + 2 * ln c.S := rfl
  unfold PS.step
  by_cases hf : (s.pls.length : Int) = c.L
  · rw [if_pos hf]; exact h
  rw [if_neg hf]
  obtain ⟨p1, p2⟩ := plc_bd c hc x.1
  generalize plc c x.1 = i at *
  obtain ⟨D, pls, wds⟩ := s
  obtain ⟨hlen, hkl, hle, hwl, hep, hrec, hfree, hpl, hwd, hback, hpend, hnil⟩ := id h
  simp only at *
  have hsl : (D.append (16 + 4 * (pls.length : Int)) 1 pls.length i).now.length = D.now.length := by simp
  have hat : ∀ j, ((D.append (16 + 4 * (pls.length : Int)) 1 pls.length i).store i x.2).at j =
      if j = i.toNat then x.2 else if j = 16 + 4 * pls.length then stampv 1 pls.length else if j = 16 + 4 * pls.length + 2 then D.at i.toNat else if j = 16 + 4 * pls.length + 1 then i else D.at j := by
    intro j
    rw [DevS.at_store _ _ _ _ (by rw [hsl]; omega), DevS.at_append _ _ _ _ _ _ (by omega) (by omega) (by omega)]
    rw [show (16 + 4 * (pls.length : Int)).toNat = 16 + 4 * pls.length by omega, show (16 + 4 * (pls.length : Int) + 2).toNat = 16 + 4 * pls.length + 2 by omega, show (16 + 4 * (pls.length : Int) + 1).toNat = 16 + 4 * pls.length + 1 by omega]
  have hpf : ∀ k, k < pls.length → pf c (pls ++ [i]) k = pf c pls k := fun k hk => by simp [pf, List.getD_eq_getElem?_getD, List.getElem?_append_left hk]
  have hwf : ∀ k, k < pls.length → wf (wds ++ [D.at i.toNat]) k = wf wds k := fun k hk => by simp [wf, List.getD_eq_getElem?_getD, List.getElem?_append_left (show k < wds.length by omega)]
  have hpl' : pf c (pls ++ [i]) pls.length = i := by simp [pf, List.getD_eq_getElem?_getD]
  have hwl' : wf (wds ++ [D.at i.toNat]) pls.length = D.at i.toNat := by simp [wf, List.getD_eq_getElem?_getD, ← hwl]
  refine ⟨?_, ?_, ?_, ?_, ?_, ?_, ?_, ?_, ?_, ?_, ?_, fun hz => by simp at hz⟩
  · simpa using hlen
  · simp [hkl]
  · simp only [List.length_append, List.length_cons, List.length_nil]; omega
  · simp [hwl]
  · simp only
    rw [hat, if_neg (by omega), if_neg (by omega), if_neg (by omega), if_neg (by omega), hep]
  · intro k hk
    simp only [List.length_append, List.length_cons, List.length_nil] at hk
    simp only
    rcases Nat.lt_or_ge k pls.length with hk' | hk'
    · obtain ⟨e1, e2, e3⟩ := hrec k hk'
      rw [hpf k hk', hwf k hk', ← e1, ← e2, ← e3]
      refine ⟨?_, ?_, ?_⟩ <;> rw [hat, if_neg (by omega), if_neg (by omega), if_neg (by omega), if_neg (by omega)]
    · obtain rfl : k = pls.length := by omega
      rw [hpl', hwl']
      refine ⟨?_, ?_, ?_⟩
      · rw [hat, if_neg (by omega), if_pos rfl]
      · rw [hat, if_neg (by omega), if_neg (by omega), if_neg (by omega), if_pos rfl]
      · rw [hat, if_neg (by omega), if_neg (by omega), if_pos rfl]
  · intro k hk hk2
    simp only [List.length_append, List.length_cons, List.length_nil] at hk
    simp only
    rw [hat, if_neg (by omega), if_neg (by omega), if_neg (by omega), if_neg (by omega), hfree k (by omega) hk2]
  · intro y hy
    simp only [List.mem_append, List.mem_singleton] at hy
    rcases hy with hy | rfl
    · exact hpl y hy
    · exact ⟨p1, p2⟩
  · intro y hy
    simp only [List.mem_append, List.mem_singleton] at hy
    rcases hy with hy | rfl
    · exact hwd y hy
    · have := rd_wf hwn i
      rw [rd_at _ _ (by omega)] at this
      exact this
  · intro j hj
    simp only [List.length_append, List.length_cons, List.length_nil]
    rw [Nat.zero_add, idx_succ, DevS.undo_cons, hpl', hwl']
    rw [DevS.undo_ext _ _ (fun k hk => ⟨hpf k (idx_mem hk), hwf k (idx_mem hk)⟩)]
    rw [← hback j hj]
    refine DevS.undo_at j _ _ _ (by simp) (fun k _ => ?_) ?_
    · have := pf_bd h hc k
      simp only at this
      simp
      omega
    · rw [DevS.at_sf _ _ _ _ (by simp; omega)]
      by_cases hji : j = i.toNat
      · rw [if_pos hji, hji]
      · rw [if_neg hji, hat, if_neg hji, if_neg (by omega), if_neg (by omega), if_neg (by omega)]
  · intro j hj hj2
    simp only
    rw [DevS.pend_store, DevS.pend_append _ _ _ _ _ _ (by omega) (by omega), hpend j hj hj2]

theorem PInv.logN {c : Cf} {old : List Int} {s : PS} (h : PInv c old s) : s.D.ep = 1 ∧ LogN s.D c s.pls.length := by
  have he : s.D.ep = 1 := by unfold DevS.ep; rw [h.ep]; rfl
  refine ⟨he, fun k hk => by rw [he]; exact (h.recs k hk).1, ?_, h.le⟩
  by_cases hf : (s.pls.length : Int) = c.L
  · exact .inl hf
  · right
    have := h.le
    rw [h.free _ (Nat.le_refl _) (by omega), he]
    unfold stampv
    omega

/-- The device behind Undo. -/
def PS.undone (c : Cf) (s : PS) : DevS := if s.pls.length = 0 then s.D else ((s.D.undo (pf c s.pls) (wf s.wds) (idx s.pls.length)).fence).trunc 1
def PS.ep (s : PS) : Int := if s.pls.length = 0 then 1 else 2

@[simp] theorem DevS.undo_klen (D : DevS) (pl wd : Nat → Int) (l : List Nat) : (D.undo pl wd l).kept.length = D.kept.length := by
  induction l generalizing D with
  | nil => rfl
  | cons x l ih => rw [DevS.undo_cons, ih]; simp

/-- Where undoing has come, a fence keeps what stands; elsewhere what it would have kept. -/
theorem DevS.undo_pend {pl wd : Nat → Int} (j : Nat) : ∀ (l : List Nat) (D : DevS), (∀ k ∈ l, 0 ≤ pl k ∧ pl k < D.now.length) → (D.undo pl wd l).pend j = (D.undo pl wd l).at j ∨ (D.undo pl wd l).pend j = D.pend j := by
  have key : ∀ (l : List Nat) (D : DevS) (p : Int), (∀ k ∈ l, 0 ≤ pl k ∧ pl k < D.now.length) → (D.pend j = D.at j ∨ D.pend j = p) → ((D.undo pl wd l).pend j = (D.undo pl wd l).at j ∨ (D.undo pl wd l).pend j = p) := by
    intro l
    induction l with
    | nil => intro D p _ h; exact h
    | cons x l ih =>
      intro D p hp h
      rw [DevS.undo_cons]
      have hx := hp x (by simp)
      refine ih _ p (fun k hk => by simpa using hp k (by simp [hk])) ?_
      rw [DevS.pend_sf _ _ _ _ (by omega), DevS.at_sf _ _ _ _ (by omega)]
      by_cases h1 : j / 8 = (pl x).toNat / 8
      · rw [if_pos h1]; exact .inl rfl
      · rw [if_neg h1, if_neg (fun e => h1 (by rw [e]))]; exact h
  exact fun l D hp => key l D _ hp (.inr rfl)

theorem DevS.drop_eq {l l' : List Int} (a n : Nat) (h1 : l.length = n) (h2 : l'.length = n) (h : ∀ j, a ≤ j → j < n → l.getD j 0 = l'.getD j 0) : l.drop a = l'.drop a := by
  apply List.ext_getElem
  · simp [h1, h2]
  · intro i hi1 hi2
    simp only [List.length_drop] at hi1 hi2
    have := h (a + i) (by omega) (by omega)
    simp only [List.getD_eq_getElem?_getD, List.getElem?_eq_getElem (show a + i < l.length by omega), List.getElem?_eq_getElem (show a + i < l'.length by omega), Option.getD_some] at this
    simpa using this

theorem DevS.at_trunc (D : DevS) (ep : Int) (j : Nat) (h8 : 8 < D.now.length) : (D.trunc ep).at j = if j = 8 then (ep + 1) % 4294967296 else D.at j := by
  unfold DevS.trunc
  rw [DevS.at_fence, DevS.at_flush, DevS.at_store _ _ _ _ (by simpa using h8)]
  rfl
theorem DevS.kept_trunc (D : DevS) (ep : Int) (j : Nat) (h8 : 16 ≤ j) (hj : j < D.kept.length) : (D.trunc ep).kept.getD j 0 = D.pend j := by
  unfold DevS.trunc
  rw [DevS.kept_fence _ _ (by simpa using hj), DevS.pend_flush, if_neg (by rw [show (8 : Int).toNat = 8 from rfl]; omega), DevS.pend_store]

structure PEnd (c : Cf) (old : List Int) (s : PS) : Prop where
  len : (s.undone c).now.length = (fmtD c old).now.length
  now : (s.undone c).now.drop c.act.toNat = (fmtD c old).now.drop c.act.toNat
  kept : (s.undone c).kept.drop c.act.toNat = (fmtD c old).now.drop c.act.toNat
  ep : (s.undone c).ep = s.ep
  log : LogN (s.undone c) c 0

theorem PInv.finish {c : Cf} {old : List Int} {s : PS} (h : PInv c old s) (hc : c.ok) : PEnd c old s := by
  obtain ⟨r1, r2, l1, l2, s1, s2⟩ := id hc
  obtain ⟨a1, a2, a3, f1, f2, f3, t1, t2, t3⟩ := c.bds
  have hw : c.words = c.fr0 + 2 * ln c.S := rfl
  have hl0 := fmtD_len c old
  have hlen := h.len
  have hkl := h.klen
  by_cases h0 : s.pls.length = 0
  · obtain ⟨he, hn⟩ := h.logN
    rw [h0] at hn
    have hk : ∀ j : Nat, c.act ≤ j → (j : Int) < c.words → s.D.kept.getD j 0 = (fmtD c old).at j := fun j h1 h2 => by
      rw [h.nil h0]
      exact fmtD_pend c old hc j (by omega) h2
    have e1 : s.undone c = s.D := by unfold PS.undone; rw [if_pos h0]
    have e2 : s.ep = 1 := by unfold PS.ep; rw [if_pos h0]
    have hb : ∀ j : Nat, c.act ≤ j → s.D.at j = (fmtD c old).at j := fun j hj => by have := h.back j hj; rw [h0] at this; exact this
    refine ⟨?_, ?_, ?_, ?_, ?_⟩
    · rw [e1]; omega
    · rw [e1]
      exact DevS.drop_eq _ c.words.toNat (by omega) hl0 (fun j h1 h2 => hb j (by omega))
    · rw [e1]
      exact DevS.drop_eq _ c.words.toNat (by omega) hl0 (fun j h1 h2 => hk j (by omega) (by omega))
    · rw [e1, e2, he]
    · rw [e1]; exact hn
  · have e1 : s.undone c = ((s.D.undo (pf c s.pls) (wf s.wds) (idx s.pls.length)).fence).trunc 1 := by unfold PS.undone; rw [if_neg h0]
    have e2 : s.ep = 2 := by unfold PS.ep; rw [if_neg h0]
    have hp : ∀ k ∈ idx s.pls.length, 0 ≤ pf c s.pls k ∧ pf c s.pls k < s.D.now.length := fun k _ => by have := pf_bd h hc k; omega
    have hlow : ∀ j : Nat, (j : Int) < c.act → (s.D.undo (pf c s.pls) (wf s.wds) (idx s.pls.length)).at j = s.D.at j := fun j hj =>
      DevS.undo_low _ _ _ c.act.toNat (fun k => by have := pf_bd h hc k; omega) j (by omega) _
    have hul : (s.D.undo (pf c s.pls) (wf s.wds) (idx s.pls.length)).fence.now.length = s.D.now.length := by simp
    have hep : ((s.D.undo (pf c s.pls) (wf s.wds) (idx s.pls.length)).fence.trunc 1).ep = 2 := by
      unfold DevS.ep
      rw [DevS.at_trunc _ _ _ (by omega), if_pos rfl]
      rfl
    refine ⟨?_, ?_, ?_, ?_, ?_⟩
    · rw [e1]; unfold DevS.trunc; simp; omega
    · rw [e1]
      refine DevS.drop_eq _ c.words.toNat (by unfold DevS.trunc; simp; omega) hl0 (fun j h1 h2 => ?_)
      have h3 := DevS.at_trunc (s.D.undo (pf c s.pls) (wf s.wds) (idx s.pls.length)).fence 1 j (by omega)
      rw [if_neg (by omega), DevS.at_fence, h.back j (by omega)] at h3
      exact h3
    · rw [e1]
      refine DevS.drop_eq _ c.words.toNat (by unfold DevS.trunc; simp; omega) hl0 (fun j h1 h2 => ?_)
      rw [DevS.kept_trunc _ _ _ (by omega) (by simp; omega), DevS.pend_fence _ _ (by simp; omega)]
      rcases DevS.undo_pend (pl := pf c s.pls) (wd := wf s.wds) j (idx s.pls.length) s.D hp with h3 | h3
      · rw [h3, h.back j (by omega)]; rfl
      · rw [h3, h.pend j (by omega) (by omega)]; rfl
    · rw [e1, e2, hep]
    · rw [e1]
      refine ⟨fun k hk => absurd hk (Nat.not_lt_zero _), .inr ?_, by simp; omega⟩
      rw [hep, DevS.at_trunc _ _ _ (by omega), if_neg (by omega), DevS.at_fence, hlow _ (by simp; omega), (h.recs 0 (by omega)).1]
      unfold stampv
      simp
end Go.Proofs.Ytpecgfpofihibaa
