/-
  tumuluslaw09.SpaceErrors: the walk.
-/
import Derived.Test.YtpecgfpofihibaaAw9
import Derived.Deep.DeepCutAuto
namespace Go.Proofs.Ytpecgfpofihibaa
open Go Go.RowKit Go.MapKept Go.Shelf

/-- What the counting function has in memory. -/
structure SpJ (h : DevH) (D : DevS) (nb fb sb : Nat) (stop : Int) (l : List (Int × Int)) (W : World) : Prop where
  dev : Dev W h D
  n : Is W nb (.cells #[.int .i64 l.length] 3 (0, 0))
  first : Is W fb (.cells #[.int .i64 ((l.map (·.1)).headD 0)] 3 (0, 0))
  stop : Is W sb (.cells #[.int .u8 stop] 5 (0, 0))
theorem SpJ.grow {h : DevH} {D : DevS} {nb fb sb : Nat} {stop : Int} {l : List (Int × Int)} {W W' : World} (j : SpJ h D nb fb sb stop l W) (hb : Below W.heap.size W W') : SpJ h D nb fb sb stop l W' :=
  ⟨j.dev.grow hb, j.n.grow hb, j.first.grow hb, j.stop.grow hb⟩

theorem ret_int {a b : Int} (h : a = b) : Ending.returned (.int .i64 a) = .returned (.int .i64 b) := by rw [h]

def spAns (stop : Int) (l : List (Int × Int)) : Int := if (l.length : Int) = 1 + stop % 8 then 3 else 0

set_option maxHeartbeats 1000000 in
theorem spstore_any (h : DevH) (D : DevS) (nb fb sb : Nat) (stop : Int) (l : List (Int × Int)) (i v : Int) (w : World) (hj : SpJ h D nb fb sb stop l w) (hl : l.length ≤ 1000) (hs : 0 ≤ stop ∧ stop < 256) (h1 : nb ≠ fb) (h2 : nb ≠ sb) (h3 : fb ≠ sb) (d1 : h.hi ≤ nb) (d2 : h.hi ≤ fb) :
    Calls Try.prog 46 #[.int .i64 i, .int .u64 v, .pointer (some ⟨nb, 0, none⟩), .pointer (some ⟨fb, 0, none⟩), .pointer (some ⟨sb, 0, none⟩)] w fun e w' => e = .returned (.int .i64 (spAns stop (l ++ [(i, v)]))) ∧ SpJ h D nb fb sb stop (l ++ [(i, v)]) w' ∧ Lef (fun k => k = nb ∨ k = fb) w w' := by
  obtain ⟨hd, hn, hf, hsb⟩ := hj
  obtain ⟨s0, s1⟩ := hs
  have c0 : w.cell? ⟨nb, 0, none⟩ = some (.int .i64 l.length) := by rw [hn.cell]; rfl
  have f0 : w.frozen? ⟨nb, 0, none⟩ = false := hn.free
  have c1 : w.cell? ⟨fb, 0, none⟩ = some (.int .i64 ((l.map (·.1)).headD 0)) := by rw [hf.cell]; rfl
  have f1 : w.frozen? ⟨fb, 0, none⟩ = false := hf.free
  have c2 : w.cell? ⟨sb, 0, none⟩ = some (.int .u8 stop) := by rw [hsb.cell]; rfl
  have n1 := hn.set (i := 0) (.int .i64 ((l.length : Int) + 1))
  have hf1 := hf.set_other (p := ⟨nb, 0, none⟩) (by simp; omega) (.int .i64 ((l.length : Int) + 1))
  have hs1 := hsb.set_other (p := ⟨nb, 0, none⟩) (by simp; omega) (.int .i64 ((l.length : Int) + 1))
  have hd1 := hd.set (p := ⟨nb, 0, none⟩) (.inr d1) (.int .i64 ((l.length : Int) + 1))
  have L1 : Lef (fun k => k = nb ∨ k = fb) w (w.setCell ⟨nb, 0, none⟩ (.int .i64 ((l.length : Int) + 1))) := Lef.setCell (S := fun k => k = nb ∨ k = fb) (Lef.refl _ _) (p := ⟨nb, 0, none⟩) (.inl rfl) _
  have hlen : ((l ++ [(i, v)]).length : Int) = (l.length : Int) + 1 := by simp
  have ha : spAns stop (l ++ [(i, v)]) = if (l.length : Int) + 1 = 1 + stop % 8 then 3 else 0 := by unfold spAns; rw [hlen]
  have HLEN := Lib.hid hlen
  have HA := Lib.hid ha
  clear hlen ha
  by_cases h0 : l.length = 0
  · have hl0 : l = [] := List.length_eq_zero_iff.1 h0
    subst hl0
    have n2 : Is ((w.setCell ⟨nb, 0, none⟩ (.int .i64 1)).setCell ⟨fb, 0, none⟩ (.int .i64 i)) nb (.cells #[.int .i64 1] 3 (0, 0)) := n1.set_other (p := ⟨fb, 0, none⟩) (by simp; omega) _
    have f2 : Is ((w.setCell ⟨nb, 0, none⟩ (.int .i64 1)).setCell ⟨fb, 0, none⟩ (.int .i64 i)) fb (.cells #[.int .i64 i] 3 (0, 0)) := hf1.set (i := 0) (.int .i64 i)
    have s2 : Is ((w.setCell ⟨nb, 0, none⟩ (.int .i64 1)).setCell ⟨fb, 0, none⟩ (.int .i64 i)) sb (.cells #[.int .u8 stop] 5 (0, 0)) := hs1.set_other (p := ⟨fb, 0, none⟩) (by simp; omega) _
    have d2' : Dev ((w.setCell ⟨nb, 0, none⟩ (.int .i64 1)).setCell ⟨fb, 0, none⟩ (.int .i64 i)) h D := hd1.set (p := ⟨fb, 0, none⟩) (.inr d2) _
    have L2 : Lef (fun k => k = nb ∨ k = fb) w ((w.setCell ⟨nb, 0, none⟩ (.int .i64 1)).setCell ⟨fb, 0, none⟩ (.int .i64 i)) := L1.setCell (p := ⟨fb, 0, none⟩) (.inr rfl) _
    clear hn hf hsb n1 hf1 hs1 hd1 L1 hd h0
    simp only [List.length_nil, List.map_nil, List.headD_nil] at c0 c1
    by_cases he : (1 : Int) = 1 + stop % 8
    · have hb : ((1 : Int) == 1 + stop % 8) = true := by simpa using he
      have hr : spAns stop ([] ++ [(i, v)]) = 3 := by rw [HA.out]; exact if_pos (by simpa using he)
      have HR := Lib.hid hr
      clear hr he
      go_enter Try.func46, Try.ntmps46
      go_wp2
      go_ret
      exact ⟨ret_int HR.out.symm, ⟨d2', n2, f2, s2⟩, L2⟩
    · have hb : ((1 : Int) == 1 + stop % 8) = false := by simpa using he
      have hr : spAns stop ([] ++ [(i, v)]) = 0 := by rw [HA.out]; exact if_neg (by simpa using he)
      have HR := Lib.hid hr
      clear hr he
      go_enter Try.func46, Try.ntmps46
      go_wp2
      go_ret
      exact ⟨ret_int HR.out.symm, ⟨d2', n2, f2, s2⟩, L2⟩
  · obtain ⟨y, l', rfl⟩ : ∃ y l', l = y :: l' := by
      cases l with
      | nil => exact absurd rfl h0
      | cons y l' => exact ⟨y, l', rfl⟩
    have n2 : Is (w.setCell ⟨nb, 0, none⟩ (.int .i64 (((y :: l').length : Int) + 1))) nb (.cells #[.int .i64 ((y :: l' ++ [(i, v)]).length)] 3 (0, 0)) := by rw [HLEN.out]; exact n1
    have f2 : Is (w.setCell ⟨nb, 0, none⟩ (.int .i64 (((y :: l').length : Int) + 1))) fb (.cells #[.int .i64 (((y :: l' ++ [(i, v)]).map (·.1)).headD 0)] 3 (0, 0)) := hf1
    have hl2 : ((y :: l').length : Int) ≤ 1000 := by omega
    have hl3 : (1 : Int) ≤ ((y :: l').length : Int) := by simp; omega
    generalize hm : ((y :: l').length : Int) = m at *
    have HM := Lib.hid hm
    have hne : (m + 1 == 1) = false := by simp; omega
    clear hn hf hsb n1 hf1 hd h0 hl hm
    by_cases he : m + 1 = 1 + stop % 8
    · have hb : (m + 1 == 1 + stop % 8) = true := by simpa using he
      have hr : spAns stop (y :: l' ++ [(i, v)]) = 3 := by rw [HA.out]; exact if_pos he
      have HR := Lib.hid hr
      clear hr he
      go_enter Try.func46, Try.ntmps46
      go_wp2
      go_ret
      exact ⟨ret_int HR.out.symm, ⟨hd1, n2, f2, hs1⟩, L1⟩
    · have hb : (m + 1 == 1 + stop % 8) = false := by simpa using he
      have hr : spAns stop (y :: l' ++ [(i, v)]) = 0 := by rw [HA.out]; exact if_neg he
      have HR := Lib.hid hr
      clear hr he
      go_enter Try.func46, Try.ntmps46
      go_wp2
      go_ret
      exact ⟨ret_int HR.out.symm, ⟨hd1, n2, f2, hs1⟩, L1⟩

theorem stF_sp (h : DevH) (D : DevS) (nb fb sb : Nat) (stop : Int) (N : Int) (hs : 0 ≤ stop ∧ stop < 256) (h1 : nb ≠ fb) (h2 : nb ≠ sb) (h3 : fb ≠ sb) (d1 : h.hi ≤ nb) (d2 : h.hi ≤ fb) :
    StF 46 #[] #[.pointer (some ⟨nb, 0, none⟩), .pointer (some ⟨fb, 0, none⟩), .pointer (some ⟨sb, 0, none⟩)] h N (fun k => k = nb ∨ k = fb) (fun _ => D) (spAns stop) (SpJ h D nb fb sb stop) where
  grow := fun l W W' hJ hb => hJ.grow hb
  dev := fun l W hJ => hJ.dev
  ent := enters_of Try.func46 (by kernel_rfl) rfl
  bd := fun l => by unfold spAns; split <;> exact ⟨by decide, by decide⟩
  call := fun l W i v hl hJ _ _ _ => spstore_any h D nb fb sb stop l i v W hJ hl hs h1 h2 h3 d1 d2
end Go.Proofs.Ytpecgfpofihibaa
