/-
  section: Store (the first one), Abort; the fixed fact of law 7.
-/
import Derived.Test.YtpecgfpofihibaaSec
import Derived.Test.YtpecgfpofihibaaLit
import Derived.Test.YtpecgfpofihibaaUpp
namespace Go.Proofs.Ytpecgfpofihibaa
open Go Go.RowKit Go.MapKept

/-- The blocks of a section's things. -/
def sl (h : DevH) (lb sm dm : Nat) (k : Nat) : Prop := (h.lo ≤ k ∧ k < h.hi) ∨ k = lb ∨ k = sm ∨ k = dm

set_option maxRecDepth 100000 in
set_option maxHeartbeats 2000000 in
theorem secstore_first (h : DevH) (D : DevS) (c : Cf) (lb sb sm dm : Nat) (ep : Int) (n : Nat) (i v : Int) (w : World) (hd : Dev w h D) (hl : Is w lb (lgc h c ep n)) (hs : Is w sb (secc h c lb true 0 0 (.map (some sm)) (.map (some dm)))) (hsm : Is w sm (.map #[] 0)) (hdm : Is w dm (.map #[] 0))
    (x1 : lb < h.lo ∨ h.hi ≤ lb) (x2 : sb < h.lo ∨ h.hi ≤ sb) (x3 : sm < h.lo ∨ h.hi ≤ sm) (x4 : dm < h.lo ∨ h.hi ≤ dm) (y1 : sb ≠ lb) (y2 : sm ≠ lb) (y3 : dm ≠ lb) (y4 : sm ≠ sb) (y5 : dm ≠ sb) (y6 : sm ≠ dm)
    (hc : c.ok) (hN : (D.now.length : Int) = c.words) (he0 : 0 ≤ ep) (he1 : ep < 4294967296) (hn : (n : Int) < c.L) (h0 : c.act ≤ i) (h1 : i < D.now.length) (hv : U64 v) :
    Calls Try.prog 103 #[.pointer (some ⟨sb, 0, none⟩), .int .i64 i, .int .u64 v] w fun e w' => e = .returned (.int .i64 0) ∧ Dev w' h ((D.append (16 + 4 * (n : Int)) ep n i).store i v) ∧ Is w' lb (lgc h c ep (n + 1 : Nat)) ∧ Is w' sb (secc h c lb true 0 0 (.map (some sm)) (.map (some dm))) ∧ Lef (sl h lb sm dm) w w' := by
  have nn := hc.nums
  have ha0 := nn.a0
  have ha1 := nn.a1
  have hw1 := nn.w1
  have hsm9 := hd.dok.small
  have hi0 : 0 ≤ i := by omega
  clear nn
  obtain ⟨c0, c1, c2, c3, c4, c5, c6, c7, c8, c9⟩ := sec_cells hs
  have hlt : ¬ i < c.act := by omega
  have hge : ¬ (D.now.length : Int) ≤ i := by omega
  have HN := Lib.hid hN
  clear hN
  go_enter Try.func103, Try.ntmps103
  go_wp2_with fail
  refine (active_lit c _ hc).mono ?_
  rintro e w1 ⟨rfl, d1⟩
  have hd1 := hd.grow d1
  have hl1 := hl.grow d1
  have hs1 := hs.grow d1
  have hsm1 : Is w1 sm (.map #[] 0) := Is.grow (o := .map #[] 0) hsm d1
  have hdm1 : Is w1 dm (.map #[] 0) := Is.grow (o := .map #[] 0) hdm d1
  have L1 : Lef (sl h lb sm dm) w w1 := Lef.of_below d1
  clear c0 c1 c2 c3 c4 c5 c6 c7 c8 c9 hd hl hs hsm hdm d1
  obtain ⟨c0, c1, c2, c3, c4, c5, c6, c7, c8, c9⟩ := sec_cells hs1
  go_wp2_with fail
  refine (len_lit h D _ hd1).mono ?_
  rintro e w2 ⟨rfl, rfl⟩
  have hz : ∀ w, (zeroValue 151).run Try.prog w = .ok (.agg #[]) w := fun w => by kernel_rfl
  have hlk := lookup_any_l Try.underlying155 i (.agg #[]) (hz w1) hsm1 (MapL.empty 0) true
  simp only [if_true] at hlk
  have e1 : (lookL [] i).getD (.agg #[]) = .agg #[] := rfl
  have e2 : hasL [] i = false := rfl
  rw [e1, e2] at hlk
  clear hz e1 e2
  have zl := hs1.lt
  have zd : 0 ≤ i / 8 ∧ i / 8 ≤ 100000 := by omega
  go_wp2_with fail
  have bx : Below w1.heap.size w1 (w1.alloc (.cells #[] 151)) := (Below.refl _ _).alloc (Nat.le_refl _) _
  have hd2 := hd1.grow bx
  have hl2 := hl1.grow bx
  have hs2 := hs1.grow bx
  have hsm2 : Is (w1.alloc (.cells #[] 151)) sm (.map #[] 0) := Is.grow (o := .map #[] 0) hsm1 bx
  have hdm2 : Is (w1.alloc (.cells #[] 151)) dm (.map #[] 0) := Is.grow (o := .map #[] 0) hdm1 bx
  have L2 := L1.trans (Lef.of_below bx)
  clear c0 c1 c2 c3 c4 c5 c6 c7 c8 c9 hd1 hl1 hs1 hsm1 hdm1 L1 bx zl hlk
  generalize w1.alloc (.cells #[] 151) = w2 at *
  refine (append_lit h D c lb ep i n _ hd2 hl2 x1 hc HN.out he0 he1 hn hi0 h1).mono ?_
  rintro e w3 ⟨rfl, hd3, hl3, lf3⟩
  have hs3 := hs2.lef lf3 (by unfold dl; omega)
  have hsm3 : Is w3 sm (.map #[] 0) := Is.lef (o := .map #[] 0) hsm2 lf3 (by unfold dl; omega)
  have hdm3 : Is w3 dm (.map #[] 0) := Is.lef (o := .map #[] 0) hdm2 lf3 (by unfold dl; omega)
  have L3 := L2.trans (lf3.mono (T := sl h lb sm dm) (fun k hk => by unfold dl at hk; unfold sl; omega))
  clear hd2 hl2 hs2 hsm2 hdm2 L2 lf3
  have hi3 : i < ((D.append (16 + 4 * (n : Int)) ep n i).now.length : Int) := by rw [DevS.append_len]; exact h1
  generalize hD3 : D.append (16 + 4 * (n : Int)) ep n i = D3 at *
  have HD3 := Lib.hid hD3
  clear hD3
  obtain ⟨c0, c1, c2, c3, c4, c5, c6, c7, c8, c9⟩ := sec_cells hs3
  obtain ⟨w4, hup, lf4, _⟩ := mapUpdate_w Try.underlying155 i (.agg #[]) hsm3 (MapL.empty 0)
  have hd4 := hd3.lef lf4 (fun k _ h2 => by omega)
  have hl4 := hl3.lef lf4 (by omega)
  have hs4 := hs3.lef lf4 (by omega)
  have hdm4 : Is w4 dm (.map #[] 0) := Is.lef (o := .map #[] 0) hdm3 lf4 (by omega)
  have L4 := L3.trans (lf4.mono (T := sl h lb sm dm) (fun k hk => by unfold sl; omega))
  clear lf4 L3 hs3 hdm3 hl3 hd3
  obtain ⟨b0, b1, b2, b3, b4, b5, b6, b7, b8, b9⟩ := sec_cells hs4
  go_wp2_with fail
  refine (store_lit h D3 i v _ hd4 hi0 hi3 hv).mono ?_
  rintro e w5 ⟨rfl, hd5, lf5⟩
  have hs5 := hs4.left lf5 x2
  have hl5 := hl4.left lf5 x1
  have hdm5 : Is w5 dm (.map #[] 0) := Is.left (o := .map #[] 0) hdm4 lf5 x4
  have L5 := L4.trans (Lef.of_left lf5 (S := sl h lb sm dm) (fun k h1 h2 => .inl ⟨h1, h2⟩))
  clear c0 c1 c2 c3 c4 c5 c6 c7 c8 c9 b0 b1 b2 b3 b4 b5 b6 b7 b8 b9 hup hsm3 hd4 hl4 hs4 hdm4 L4 lf5
  obtain ⟨c0, c1, c2, c3, c4, c5, c6, c7, c8, c9⟩ := sec_cells hs5
  obtain ⟨w6, hup, lf6, _⟩ := mapUpdate_w Try.underlying155 (i / 8) (.agg #[]) hdm5 (MapL.empty 0)
  have hd6 := hd5.lef lf6 (fun k _ h2 => by omega)
  have hl6 := hl5.lef lf6 (by omega)
  have hs6 := hs5.lef lf6 (by omega)
  have L6 := L5.trans (lf6.mono (T := sl h lb sm dm) (fun k hk => by unfold sl; omega))
  clear lf6 L5 hs5 hl5 hd5
  go_wp2_with fail
  go_ret
  exact ⟨rfl, by rw [HD3.out]; exact hd6, hl6, hs6, L6⟩

set_option maxHeartbeats 1000000 in
/-- Abort, with records. -/
theorem secabort_any (h : DevH) (D : DevS) (c : Cf) (lb sb : Nat) (ep : Int) (n : Nat) (pl wd : Nat → Int) (f1 f2 : Int) (v1 v2 : Value) (w : World) (hd : Dev w h D) (hl : Is w lb (lgc h c ep n)) (hs : Is w sb (secc h c lb true f1 f2 v1 v2)) (hlb : lb < h.lo ∨ h.hi ≤ lb) (x2 : sb < h.lo ∨ h.hi ≤ sb) (y1 : sb ≠ lb) (hN : 40 ≤ D.now.length)
    (he0 : 0 ≤ ep) (he1 : ep < 4294967296) (hn : 0 < n) (hn2 : n ≤ 1000)
    (hpl : ∀ k, (16 + 4 * (n : Int)) ≤ pl k ∧ pl k < D.now.length) (hwd : ∀ k, U64 (wd k)) (hrec : ∀ k, k < n → D.at (16 + 4 * k + 1) = pl k ∧ D.at (16 + 4 * k + 2) = wd k) :
    Calls Try.prog 104 #[.pointer (some ⟨sb, 0, none⟩)] w fun e w' => e = .returned (.int .i64 0) ∧ Dev w' h (((D.undo pl wd (idx n)).fence).trunc ep) ∧ Is w' sb (secc h c lb false f1 f2 v1 v2) ∧ Lef (fun k => dl h lb k ∨ k = sb) w w' := by
  obtain ⟨c0, c1, c2, c3, c4, c5, c6, c7, c8, c9⟩ := sec_cells hs
  have ku := undo_any h D c lb ep n pl wd w hd hl hlb hN he0 he1 hn hn2 hpl hwd hrec
  clear hd hl hpl hwd hrec
  go_enter Try.func104, Try.ntmps104
  go_wp2_with fail
  refine ku.mono ?_
  rintro e w1 ⟨rfl, hd1, hl1, lf1⟩
  have hs1 := hs.lef lf1 (by unfold dl; omega)
  have f5 := sec_free hs1 5
  clear c0 c1 c2 c3 c4 c5 c6 c7 c8 c9 ku hs
  obtain ⟨c0, c1, c2, c3, c4, c5, c6, c7, c8, c9⟩ := sec_cells hs1
  have hs2 : Is (w1.setCell ⟨sb, 5, none⟩ (.bool false)) sb (secc h c lb false f1 f2 v1 v2) := hs1.set (i := 5) (.bool false)
  have hd2 := hd1.set (p := ⟨sb, 5, none⟩) x2 (.bool false)
  have L2 := (lf1.mono (T := fun k => dl h lb k ∨ k = sb) (fun k hk => .inl hk)).setCell (p := ⟨sb, 5, none⟩) (.inr rfl) (.bool false)
  clear hs1 hd1 lf1 hl1
  go_wp2_with fail
  go_ret
  exact ⟨rfl, hd2, hs2, L2⟩
end Go.Proofs.Ytpecgfpofihibaa
