/-
  tumuluslaw10.Filled: what it computes, in plain words.
-/
import Derived.Test.YtpecgfpofihibaaObw
namespace Go.Proofs.Ytpecgfpofihibaa
open Go Go.RowKit Go.MapKept Go.Shelf

theorem DevS.at_stores (D : DevS) (b : Int) (f : Nat → Int) (n : Nat) (hb : 0 ≤ b) (hn : b + n ≤ D.now.length) (j : Nat) :
    (D.stores ((List.range n).map fun (i : Nat) => (b + (i : Int), f i))).at j = if b ≤ j ∧ (j : Int) < b + n then f ((j : Int) - b).toNat else D.at j := by
  induction n with
  | zero => rw [if_neg (by omega)]; rfl
  | succ n ih =>
    rw [List.range_succ, List.map_append, List.map_singleton, DevS.stores_snoc, DevS.at_store _ _ _ _ (by rw [DevS.stores_len]; omega), ih (by omega)]
    by_cases h1 : j = (b + (n : Int)).toNat
    · rw [if_pos h1, if_pos (by omega)]
      congr 1
      omega
    · rw [if_neg h1]
      by_cases h2 : b ≤ j ∧ (j : Int) < b + n
      · rw [if_pos h2, if_pos (by omega)]
      · rw [if_neg h2, if_neg (by omega)]

theorem DevS.at_alc (D : DevS) (c : Cf) (u W R : Int) (hc : c.ok) (hN : (D.now.length : Int) = c.words) (hk : headOk W R) (u0 : 0 ≤ u) (u1 : u + (W + 1) ≤ c.S) (j : Nat) :
    (D.alc c 0 u W R).at j = if c.fr 0 + u ≤ j ∧ (j : Int) < c.fr 0 + u + (W + 1) then (if (j : Int) = c.fr 0 + u then packv W R else 0) else if j = (c.act + 1).toNat then u + (W + 1) else D.at j := by
  obtain ⟨q1, q2, q3, q4⟩ := hk
  obtain ⟨na0, na1, nf0, nf1, ns0, ns1, nw, nw0, nw1, nr0, nr1, nsp0, nsp1⟩ := hc.nums
  obtain ⟨f0, f1, f2⟩ := Cf.fr_bd hc 0 (by decide) (by decide)
  unfold DevS.alc alcL
  rw [DevS.stores_cons, DevS.at_stores _ (c.fr 0 + u) (fun i => if i = 0 then packv W R else 0) _ (by omega) (by rw [DevS.store_len]; omega), DevS.at_store _ _ _ _ (by omega)]
  by_cases h1 : c.fr 0 + u ≤ j ∧ (j : Int) < c.fr 0 + u + (W + 1)
  · rw [if_pos h1, if_pos (by omega)]
    by_cases h2 : (j : Int) = c.fr 0 + u
    · rw [if_pos h2, if_pos (by omega)]
    · rw [if_neg h2, if_neg (by omega)]
  · rw [if_neg h1, if_neg (by omega)]

/-- What Filled has made. -/
structure FS where
  D : DevS
  u : Int
  pl : List Int
def FS.step (c : Cf) (s : FS) (x : Int × Int) : FS := if s.u + (hW x + 1) ≤ c.S then ⟨s.D.alc c 0 s.u (hW x) (hR x), s.u + (hW x + 1), s.pl ++ [c.fr 0 + s.u]⟩ else s
def fillS (c : Cf) (l : List (Int × Int)) : FS := l.foldl (FS.step c) ⟨fmtD c [], 0, []⟩
theorem fillS_snoc (c : Cf) (l : List (Int × Int)) (x : Int × Int) : fillS c (l ++ [x]) = (fillS c l).step c x := by simp [fillS]

/-- Objects that lie one behind the other, from p on. -/
inductive Objs (at_ : Nat → Int) : Int → List Int → Int → Prop
  | nil (p : Int) : Objs at_ p [] p
  | cons (p : Int) (W R : Int) (l : List Int) (q : Int) (hk : headOk W R) (hp : at_ p.toNat = packv W R) (hr : Objs at_ (p + (W + 1)) l q) : Objs at_ p (p :: l) q

theorem Objs.snoc {at_ : Nat → Int} {p q : Int} {l : List Int} (h : Objs at_ p l q) {W R : Int} (hk : headOk W R) (hp : at_ q.toNat = packv W R) : Objs at_ p (l ++ [q]) (q + (W + 1)) := by
  induction h with
  | nil p => exact .cons p W R [] _ hk hp (.nil _)
  | cons p W' R' l q hk' hp' hr ih => exact .cons p W' R' _ _ hk' hp' (ih hp)
theorem Objs.congr {a b : Nat → Int} {p q : Int} {l : List Int} (h : Objs a p l q) (hp0 : 0 ≤ p) (he : ∀ j : Nat, p ≤ j → (j : Int) < q → a j = b j) : Objs b p l q := by
  induction h with
  | nil p => exact .nil p
  | cons p W R l q hk hp hr ih =>
    have hle : p + (W + 1) ≤ q := by
      clear ih he
      have : ∀ {p q : Int} {l : List Int}, Objs a p l q → p ≤ q := fun {p q l} h => by
        induction h with
        | nil p => omega
        | cons p W R l q hk hp hr ih => obtain ⟨q1, _⟩ := hk; omega
      exact this hr
    obtain ⟨q1, _⟩ := id hk
    exact .cons p W R l q hk (by rw [← he p.toNat (by omega) (by omega)]; exact hp) (ih (by omega) (fun j h1 h2 => he j (by omega) h2))
theorem Objs.le {a : Nat → Int} {p q : Int} {l : List Int} (h : Objs a p l q) : p ≤ q := by
  induction h with
  | nil p => omega
  | cons p W R l q hk hp hr ih => obtain ⟨q1, _⟩ := hk; omega
theorem Objs.mem {a : Nat → Int} {p q : Int} {l : List Int} (h : Objs a p l q) {x : Int} (hx : x ∈ l) : p ≤ x ∧ ∃ W R, headOk W R ∧ a x.toNat = packv W R ∧ x + (W + 1) ≤ q := by
  induction h with
  | nil p => cases hx
  | cons p W R l q hk hp hr ih =>
    rcases List.mem_cons.1 hx with rfl | hx
    · exact ⟨Int.le_refl _, W, R, hk, hp, hr.le⟩
    · obtain ⟨h1, h2⟩ := ih hx
      obtain ⟨q1, _⟩ := hk
      exact ⟨by omega, h2⟩

structure FInv (c : Cf) (s : FS) : Prop where
  len : (s.D.now.length : Int) = c.words
  a : s.D.at c.act.toNat = 0
  u : s.D.at (c.act.toNat + 1) = s.u
  u0 : 0 ≤ s.u
  u1 : s.u ≤ c.S
  objs : Objs s.D.at (c.fr 0) s.pl (c.fr 0 + s.u)
  body : ∀ j : Nat, c.fr 0 ≤ j → (j : Int) < c.fr 0 + s.u → (j : Int) ∉ s.pl → s.D.at j = 0
  low : ∀ j : Nat, (j : Int) < c.fr0 → j ≠ (c.act + 1).toNat → s.D.at j = (fmtD c []).at j

theorem fmt0_at (c : Cf) (hc : c.ok) (j : Nat) (h1 : c.act ≤ j) (h2 : (j : Int) < c.act + 2 + c.R) : (fmtD c []).at j = 0 := by
  have n := hc.nums
  obtain ⟨na0, na1, nf0, nf1, ns0, ns1, nw, nw0, nw1, nr0, nr1, nsp0, nsp1⟩ := n
  have := c.bds.a1
  rw [fmtD_at _ _ hc]
  unfold fmtAt
  rw [if_neg (by omega), if_neg (by omega), if_neg (by omega), if_neg (by omega), if_neg (by omega), if_neg (by omega), if_pos (by omega)]

theorem FInv.start (c : Cf) (hc : c.ok) : FInv c ⟨fmtD c [], 0, []⟩ := by
  have n := hc.nums
  obtain ⟨na0, na1, nf0, nf1, ns0, ns1, nw, nw0, nw1, nr0, nr1, nsp0, nsp1⟩ := n
  have hl := fmtD_len c []
  refine ⟨by simp only; omega, ?_, ?_, Int.le_refl _, by simp only; omega, ?_, ?_, fun j _ _ => rfl⟩
  · exact fmt0_at c hc _ (by omega) (by omega)
  · exact fmt0_at c hc _ (by omega) (by omega)
  · simp only [Int.add_zero]; exact .nil _
  · intro j h1 h2; simp only at h2; omega

theorem FInv.step {c : Cf} {s : FS} (h : FInv c s) (hc : c.ok) (x : Int × Int) : FInv c (s.step c x) := by
  unfold FS.step
  by_cases hr : s.u + (hW x + 1) ≤ c.S
  · rw [if_pos hr]
    obtain ⟨D, u, pl⟩ := s
    obtain ⟨h1, h2, h3, h4, h5, h6, h7, h8⟩ := h
    simp only at *
    obtain ⟨na0, na1, nf0, nf1, ns0, ns1, nw, nw0, nw1, nr0, nr1, nsp0, nsp1⟩ := hc.nums
    obtain ⟨f0, f1, f2⟩ := Cf.fr_bd hc 0 (by decide) (by decide)
    obtain ⟨w0, w1⟩ := hW_bd x
    have hat := DevS.at_alc D c u (hW x) (hR x) hc h1 (h_ok x) h4 hr
    refine ⟨by simpa using h1, ?_, ?_, by show 0 ≤ u + (hW x + 1); omega, hr, ?_, ?_, ?_⟩
    · rw [hat, if_neg (by omega), if_neg (by omega), h2]
    · rw [hat, if_neg (by omega), if_pos (by omega)]
    · rw [show c.fr 0 + (u + (hW x + 1)) = c.fr 0 + u + (hW x + 1) from by omega]
      refine (h6.congr (by omega) (fun j q1 q2 => ?_)).snoc (h_ok x) ?_
      · simp only
        rw [hat, if_neg (by omega), if_neg (by omega)]
      · simp only
        rw [hat, if_pos (by omega), if_pos (by omega)]
    · intro j q1 q2 q3
      have q2' : (j : Int) < c.fr 0 + (u + (hW x + 1)) := q2
      simp only [List.mem_append, List.mem_singleton, not_or] at q3
      rw [hat]
      by_cases hj : c.fr 0 + u ≤ j ∧ (j : Int) < c.fr 0 + u + (hW x + 1)
      · rw [if_pos hj, if_neg q3.2]
      · rw [if_neg hj, if_neg (by omega)]
        exact h7 j q1 (by omega) q3.1
    · intro j q1 q2
      rw [hat, if_neg (by omega), if_neg q2]
      exact h8 j q1 q2
  · rw [if_neg hr]; exact h

theorem FInv.all (c : Cf) (hc : c.ok) (l : List (Int × Int)) : FInv c (fillS c l) := by
  unfold fillS
  have : ∀ (l : List (Int × Int)) (s : FS), FInv c s → FInv c (l.foldl (FS.step c) s) := by
    intro l
    induction l with
    | nil => intro s h; exact h
    | cons x l ih => intro s h; exact ih _ (h.step hc x)
  exact this l _ (FInv.start c hc)
theorem fillS_pl_len (c : Cf) (l : List (Int × Int)) : (fillS c l).pl.length ≤ l.length := by
  unfold fillS
  have : ∀ (l : List (Int × Int)) (s : FS), (l.foldl (FS.step c) s).pl.length ≤ s.pl.length + l.length := by
    intro l
    induction l with
    | nil => intro s; simp
    | cons x l ih =>
      intro s
      have h1 := ih (s.step c x)
      have h2 : (s.step c x).pl.length ≤ s.pl.length + 1 := by unfold FS.step; split <;> simp
      simp only [List.foldl_cons, List.length_cons]
      omega
  simpa using this l ⟨fmtD c [], 0, []⟩
end Go.Proofs.Ytpecgfpofihibaa
