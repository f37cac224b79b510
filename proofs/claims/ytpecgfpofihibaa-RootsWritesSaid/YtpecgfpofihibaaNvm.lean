/-
  nvm, power: what their functions do to a device (Dev).
-/
import Derived.Test.YtpecgfpofihibaaProg
import Derived.Test.YtpecgfpofihibaaDev
import Derived.WalkSpells
import Derived.WalkLawsBesides
import Derived.BigQuiet
import Derived.Deep.QuietTactic
import Derived.StillTailTactics
import Derived.Lib.Hide
namespace Go.Proofs.Ytpecgfpofihibaa
open Go Go.RowKit

set_option maxHeartbeats 400000 in
theorem has_yes (bd : Nat) (a : Addr) (n c : Nat) (i : Int) (w : World) (h1 : w.cell? ⟨bd, 1, none⟩ = some (.slice (some a) n c)) (h0 : 0 ≤ i) (hn : i < n) :
    Calls Try.prog 79 #[.pointer (some ⟨bd, 0, none⟩), .int .i64 i] w fun e w' => e = .returned (.bool true) ∧ w = w' := by
  go_enter Try.func79, Try.ntmps79
  go_wp2
  go_ret
  exact ⟨by simp, rfl⟩

set_option maxHeartbeats 400000 in
theorem has_no (bd : Nat) (a : Addr) (n c : Nat) (i : Int) (w : World) (h1 : w.cell? ⟨bd, 1, none⟩ = some (.slice (some a) n c)) (hn : i < 0 ∨ n ≤ i) :
    Calls Try.prog 79 #[.pointer (some ⟨bd, 0, none⟩), .int .i64 i] w fun e w' => e = .returned (.bool false) ∧ w = w' := by
  rcases hn with hn | hn
  · go_enter Try.func79, Try.ntmps79
    go_wp2
    go_ret
    exact ⟨by simp, rfl⟩
  · have h0 : 0 ≤ i := by omega
    go_enter Try.func79, Try.ntmps79
    go_wp2
    go_ret
    exact ⟨by simp [hn], rfl⟩

set_option maxHeartbeats 400000 in
theorem load_any (h : DevH) (D : DevS) (i : Int) (w : World) (hd : Dev w h D) :
    Calls Try.prog 26 #[h.ptr, .int .i64 i] w fun e w' => e = .returned (.int .u64 (rd D.now i)) ∧ w = w' := by
  obtain ⟨h1, ⟨u, h2⟩, h3, ⟨r, h4, hr⟩, ⟨es, ck, h5, hq⟩, hh, hD, ht⟩ := hd
  have c1 : w.cell? ⟨h.d, 1, none⟩ = some (.slice (some ⟨h.now, 0, none⟩) D.now.length D.now.length) := by rw [h1.cell]; rfl
  have c3 := h3.cell (i := i.toNat)
  have hsm := hD.small
  clear h1 h2 h4 hr h5 hq hh hD
  unfold DevH.ptr
  by_cases hi : 0 ≤ i ∧ i < D.now.length
  · obtain ⟨h0, hn⟩ := hi
    have c3' : w.cell? ⟨h.now, i.toNat, none⟩ = some (.int .u64 (rd D.now i)) := by
      have hlt : i.toNat < D.now.length := by omega
      rw [c3, List.getElem?_toArray, u64s_get _ _ hlt, rd, if_pos h0]
      simp [List.getD_eq_getElem?_getD, hlt]
    clear c3 h3
    have Hh := has_yes h.d _ _ _ i w c1 h0 hn
    go_enter Try.func26, Try.ntmps26
    go_wp2_with fail
    refine Hh.mono ?_
    rintro e w' ⟨rfl, rfl⟩
    clear Hh
    go_wp2_with fail
    go_ret
    exact ⟨rfl, rfl⟩
  · have hz : rd D.now i = 0 := by
      unfold rd
      split
      · simp [List.getD_eq_getElem?_getD, List.getElem?_eq_none (show D.now.length ≤ i.toNat by omega)]
      · rfl
    rw [hz]
    clear c3 hz h3
    have Hh := has_no h.d _ _ _ i w c1 (by omega)
    go_enter Try.func26, Try.ntmps26
    go_wp2_with fail
    refine Hh.mono ?_
    rintro e w' ⟨rfl, rfl⟩
    clear Hh
    go_wp2_with fail
    go_ret
    exact ⟨rfl, rfl⟩

set_option maxHeartbeats 400000 in
theorem len_any (h : DevH) (D : DevS) (w : World) (hd : Dev w h D) :
    Calls Try.prog 30 #[h.ptr] w fun e w' => e = .returned (.int .i64 D.now.length) ∧ w = w' := by
  obtain ⟨h1, ⟨u, h2⟩, h3, ⟨r, h4, hr⟩, ⟨es, ck, h5, hq⟩, hh, hD, ht⟩ := hd
  have c1 : w.cell? ⟨h.d, 1, none⟩ = some (.slice (some ⟨h.now, 0, none⟩) D.now.length D.now.length) := by rw [h1.cell]; rfl
  clear h1 h2 h3 h4 hr h5 hq hh hD
  unfold DevH.ptr
  go_enter Try.func30, Try.ntmps30
  go_wp2
  go_ret
  exact ⟨rfl, rfl⟩

set_option maxHeartbeats 400000 in
/-- A step of a power without end. -/
theorem tick_any (p : Nat) (u : Int) (w : World) (hp : Is w p (.cells #[.int .i64 (-1), .int .i64 u] 150 (0, 0))) :
    Calls Try.prog 80 #[.pointer (some ⟨p, 0, none⟩)] w fun e w' => e = .returned (.tuple #[]) ∧ ∃ n u', w' = (w.drewN n).setCell ⟨p, 1, none⟩ (.int .i64 u') := by
  have c0 : w.cell? ⟨p, 0, none⟩ = some (.int .i64 (-1)) := by rw [hp.cell]; rfl
  have c1 : w.cell? ⟨p, 1, none⟩ = some (.int .i64 u) := by rw [hp.cell]; rfl
  have f1 : w.frozen? ⟨p, 1, none⟩ = false := hp.free
  clear hp
  go_enter Try.func80, Try.ntmps80
  go_wp2_with fail
  go_quiet (fail)
  go_wp2
  go_end0
  exact ⟨rfl, _, _, rfl⟩

/-- The device behind a store. -/
def DevS.store (D : DevS) (i : Int) (v : Int) : DevS := { D with now := D.now.set i.toNat v }

theorem Dev.tick {w : World} {h : DevH} {D : DevS} (hd : Dev w h D) (n : Nat) (u : Int) : Dev ((w.drewN n).setCell ⟨h.p, 1, none⟩ (.int .i64 u)) h D := by
  obtain ⟨h1, ⟨u0, h2⟩, h3, ⟨r, h4, hr⟩, ⟨es, ck, h5, hq⟩, hh, hD, ht⟩ := hd
  have g := hh
  obtain ⟨_, _, _, _, _, n1, n2, n3⟩ := g
  refine ⟨Is.set_other (w := w.drewN n) h1 (Ne.symm n1.1) _, ⟨u, ?_⟩, Is.set_other (w := w.drewN n) h3 n2.1 _, ⟨r, Is.set_other (w := w.drewN n) h4 n2.2.1 _, hr⟩, ⟨es, ck, Is.set_other (w := w.drewN n) h5 n2.2.2 _, hq⟩, hh, hD, by simpa using ht⟩
  exact Is.set (w := w.drewN n) (i := 1) h2 _

theorem Dev.left_tick {w : World} {h : DevH} {D : DevS} (hd : Dev w h D) (n : Nat) (u : Int) : Left h.lo h.hi w ((w.drewN n).setCell ⟨h.p, 1, none⟩ (.int .i64 u)) := by
  have hh := hd.hok
  exact Left.setCell (a := w) (b := w.drewN n) (p := ⟨h.p, 1, none⟩) ⟨rfl, rfl, rfl, Nat.le_refl _, fun _ _ _ => rfl⟩ hh.r2.1 hh.r2.2 _

theorem Dev.put {w : World} {h : DevH} {D : DevS} (hd : Dev w h D) (i : Int) (v : Int) (hv : U64 v) : Dev (w.setCell ⟨h.now, i.toNat, none⟩ (.int .u64 v)) h (D.store i v) := by
  obtain ⟨h1, ⟨u0, h2⟩, h3, ⟨r, h4, hr⟩, ⟨es, ck, h5, hq⟩, hh, hD, ht⟩ := hd
  have g := hh
  obtain ⟨_, _, _, _, _, n1, n2, n3⟩ := g
  have hl : (D.store i v).now.length = D.now.length := by simp [DevS.store]
  refine ⟨?_, ⟨u0, Is.set_other h2 (Ne.symm n2.1) _⟩, ?_, ⟨r, Is.set_other h4 n3.1 _, by rw [hl]; exact hr⟩, ⟨es, ck, Is.set_other h5 n3.2.1 _, by rw [hl]; exact hq⟩, hh, ?_, by simpa using ht⟩
  · rw [hl]; exact Is.set_other h1 (Ne.symm n1.2.1) _
  · have := Is.set (i := i.toNat) h3 (.int .u64 v)
    simpa [DevS.store, u64s_set] using this
  · refine ⟨by simpa [DevS.store] using hD.len, by rw [hl]; exact hD.pos, by rw [hl]; exact hD.line, by rw [hl]; exact hD.small, fun x hx => ?_, hD.wk⟩
    rcases List.mem_or_eq_of_mem_set hx with hx | rfl
    · exact hD.wn x hx
    · exact hv

set_option maxHeartbeats 400000 in
theorem store_any (h : DevH) (D : DevS) (i v : Int) (w : World) (hd : Dev w h D) (h0 : 0 ≤ i) (hn : i < D.now.length) (hv : U64 v) :
    Calls Try.prog 27 #[h.ptr, .int .i64 i, .int .u64 v] w fun e w' => e = .returned (.int .i64 0) ∧ Dev w' h (D.store i v) ∧ Left h.lo h.hi w w' := by
  have hp := hd.pow
  obtain ⟨u, hp⟩ := hp
  have c0 : w.cell? ⟨h.d, 0, none⟩ = some (.pointer (some ⟨h.p, 0, none⟩)) := by rw [hd.dev.cell]; rfl
  have c1 : w.cell? ⟨h.d, 1, none⟩ = some (.slice (some ⟨h.now, 0, none⟩) D.now.length D.now.length) := by rw [hd.dev.cell]; rfl
  have hsm := hd.dok.small
  have Hh := has_yes h.d _ _ _ i w c1 h0 hn
  unfold DevH.ptr
  go_enter Try.func27, Try.ntmps27
  go_wp2_with fail
  refine Hh.mono ?_
  rintro e w' ⟨rfl, rfl⟩
  clear Hh
  go_wp2_with fail
  refine (tick_any h.p u w hp).mono ?_
  rintro e w1 ⟨rfl, n, u', rfl⟩
  have hd1 := hd.tick n u'
  have hl1 := hd.left_tick n u'
  clear c0 c1 hp
  generalize (w.drewN n).setCell ⟨h.p, 1, none⟩ (.int .i64 u') = w1 at *
  have c1 : w1.cell? ⟨h.d, 1, none⟩ = some (.slice (some ⟨h.now, 0, none⟩) D.now.length D.now.length) := by rw [hd1.dev.cell]; rfl
  have c2 : ∃ x, w1.cell? ⟨h.now, i.toNat, none⟩ = some x := by
    rw [hd1.now.cell]
    exact ⟨_, by rw [List.getElem?_toArray, u64s_get _ _ (show i.toNat < D.now.length by omega)]⟩
  obtain ⟨x, c2⟩ := c2
  have f2 : w1.frozen? ⟨h.now, i.toNat, none⟩ = false := hd1.now.free
  go_wp2_with fail
  go_ret
  exact ⟨rfl, hd1.put i v hv, hl1.setCell hd.hok.r3.1 hd.hok.r3.2 _⟩
end Go.Proofs.Ytpecgfpofihibaa
