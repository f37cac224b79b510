/-
  ulog.Records' function: going over the records, from behind.
-/
import Derived.Test.YtpecgfpofihibaaAw6
import Derived.Test.YtpecgfpofihibaaQi
import Derived.RangeFuncNested
import Derived.RangeFuncBound
import Derived.RangeFuncCalls
import Derived.RangeFuncLeaves
import Derived.Shelf.Abstract
import Derived.Shelf.RegionOpen
import Derived.OwnWalkIn
import Derived.TacticsInMore
import Derived.LoopNIn
import Derived.LoopIn
namespace Go.Proofs.Ytpecgfpofihibaa
open Go Go.RowKit Go.MapKept Go.Shelf
attribute [local go_sem] Oper.semAt_some

/-- What going over the records reads. -/
structure LP (h : DevH) (c : Cf) (lb bx : Nat) (ep : Int) (n : Nat) (pl wd : Nat → Int) (W : World) : Prop where
  dev : ∃ D, Dev W h D ∧ ∀ k, k < n → D.at (16 + 4 * k + 1) = pl k ∧ D.at (16 + 4 * k + 2) = wd k
  log : Is W lb (lgc h c ep n)
  box : Is W bx (.cells #[.pointer (some ⟨lb, 0, none⟩)] 35 (0, 0))

theorem LP.grow {h : DevH} {c : Cf} {lb bx : Nat} {ep : Int} {n : Nat} {pl wd : Nat → Int} {W W' : World} (p : LP h c lb bx ep n pl wd W) (hb : Below W.heap.size W W') : LP h c lb bx ep n pl wd W' := by
  obtain ⟨⟨D, hd, hr⟩, hl, hx⟩ := p
  exact ⟨⟨D, hd.grow hb, hr⟩, hl.grow hb, hx.grow hb⟩

/-- Records, from behind. -/
def idx (n : Nat) : List Nat := (List.range n).reverse
@[simp] theorem idx_len (n : Nat) : (idx n).length = n := by simp [idx]
theorem idx_get (n r : Nat) (h : r < n) : (idx n)[r]'(by simpa using h) = n - 1 - r := by simp [idx]
theorem idx_take_succ (n r : Nat) (h : r < n) : (idx n).take (r + 1) = (idx n).take r ++ [n - 1 - r] := by
  rw [List.take_add_one, List.getElem?_eq_getElem (by simpa using h), idx_get n r h]
  rfl

theorem grownBy_of_below {W W' : World} (hb : Below W.heap.size W W') : W.grownBy W' none :=
  ⟨hb.os, hb.tape, hb.output, hb.size, fun k hk _ => hb.block k hk⟩

set_option maxRecDepth 100000 in
set_option maxHeartbeats 4000000 in
theorem records_in (n' : Nat) (hn' : 1 ≤ n') (h : DevH) (c : Cf) (lb bx : Nat) (ep : Int) (n : Nat) (pl wd : Nat → Int) (hpl : ∀ k, 0 ≤ pl k ∧ pl k ≤ 200000) (hL : n ≤ 1000)
    (w0 : World) (h0 : LP h c lb bx ep n pl wd w0) :
    SeqStopsK Fence.wide n' Try.prog 81 #[.pointer (some ⟨bx, 0, none⟩)] (fun k : Nat => #[.int .i64 (pl k), .int .u64 (wd k)])
      (fun W W' => LP h c lb bx ep n pl wd W → LP h c lb bx ep n pl wd W') (fun xs => xs = idx n) (fun pre => pre <+: idx n) n w0 := fun l J Jx W hW hJ hJx hY hj0 => by
  have hp0 := h0.grow hW
  clear h0 hW
  refine callsIn_of_wp Try.func81 rfl trivial ?_ rfl
  simp only [Try.ntmps81, List.size_toArray, List.length_cons, List.length_nil, Nat.reduceAdd, Nat.reduceSub, Array.replicate_succ, Array.replicate_zero, List.push_toArray, List.append_toArray, List.nil_append, List.cons_append]
  obtain ⟨k0, k1, k2, k3, k4, k5⟩ := lgc_cells hp0.log
  have b0 : W.cell? ⟨bx, 0, none⟩ = some (.pointer (some ⟨lb, 0, none⟩)) := by rw [hp0.box.cell]; rfl
  gi_wp2
  clear k0 k1 k2 k3 k4 k5 b0
  gi_loopw [3] (fun p wr => ∃ s : Nat, s ≤ n ∧ p = .int .i64 ((s : Int) - 1) ∧ J ((idx n).take (n - s)) wr ∧ LP h c lb bx ep n pl wd wr)
    (fun p _ => (intOf p + 1).toNat)
  case atStart => exact ⟨n, by omega, rfl, by simpa using hj0, hp0⟩
  case round =>
    obtain ⟨s, hs, rfl, hj, hp⟩ := hrel
    clear hp0 hj0
    obtain ⟨k0, k1, k2, k3, k4, k5⟩ := lgc_cells hp.log
    have b0 : wr.cell? ⟨bx, 0, none⟩ = some (.pointer (some ⟨lb, 0, none⟩)) := by rw [hp.box.cell]; rfl
    rcases Nat.eq_zero_or_pos s with rfl | hpos
    · gi_wp2
      go_end0
      refine ⟨⟨_, rfl⟩, .inl ⟨_, rfl, ?_⟩⟩
      rw [Nat.sub_zero, List.take_of_length_le (by simp)] at hj
      exact hj
    · obtain ⟨k, rfl⟩ : ∃ k, s = k + 1 := ⟨s - 1, by omega⟩
      have e : ((k + 1 : Nat) : Int) - 1 = (k : Int) := by omega
      rw [e]
      clear e
      gi_wp2_with fail
      refine ⟨trivial, callsIn_wide.2 ((record_any c k _ (by omega) (by omega)).mono ?_)⟩
      rintro e w1 ⟨rfl, d1⟩
      have hp1 := hp.grow d1
      have hj1 := hJ _ _ _ none hj (grownBy_of_below d1) (fun r e => by cases e)
      clear hp hj k0 k1 k2 k3 k4 k5 b0 d1
      obtain ⟨k0, k1, k2, k3, k4, k5⟩ := lgc_cells hp1.log
      have b0 : w1.cell? ⟨bx, 0, none⟩ = some (.pointer (some ⟨lb, 0, none⟩)) := by rw [hp1.box.cell]; rfl
      obtain ⟨D, hD, hrec⟩ := hp1.dev
      obtain ⟨e1, e2⟩ := hrec k (by omega)
      have hr1 : ∀ x : GrW w1, Calls Try.prog 26 #[.pointer (some ⟨h.d, 0, none⟩), .int .i64 (c.recd k + 1)] x.1 fun e w' => e = .returned (.int .u64 (pl k)) ∧ x.1 = w' := fun x => by
        have := load_any h D (c.recd k + 1) x.1 (hD.grow x.2)
        rw [rd_at _ _ (by unfold Cf.recd; omega), show (c.recd k + 1).toNat = 16 + 4 * k + 1 from by unfold Cf.recd; omega, e1] at this
        exact this
      have hr2 : ∀ x : GrW w1, Calls Try.prog 26 #[.pointer (some ⟨h.d, 0, none⟩), .int .i64 (c.recd k + 2)] x.1 fun e w' => e = .returned (.int .u64 (wd k)) ∧ x.1 = w' := fun x => by
        have := load_any h D (c.recd k + 2) x.1 (hD.grow x.2)
        rw [rd_at _ _ (by unfold Cf.recd; omega), show (c.recd k + 2).toNat = 16 + 4 * k + 2 from by unfold Cf.recd; omega, e2] at this
        exact this
      obtain ⟨p0, p1⟩ := hpl k
      have ha0 : 0 ≤ c.recd k := by unfold Cf.recd; omega
      have ha1 : c.recd k ≤ 10000 := by unfold Cf.recd; omega
      clear e1 e2 hrec
      generalize c.recd k = a at *
      have G0 := GrW.cell k0
      have GB := GrW.cell b0
      gi_wp2_with fail
      refine wpIn_gr_tail 16 wid_wide (by kernel_rfl) (by kernel_rfl) (by kernel_rfl) ?_
      simp only [List.take_succ_cons, List.take_zero, List.drop_succ_cons, List.drop_zero]
      repeat (go_big_quiet_step (first | (go_at_call 26; with_reducible exact gr_call_same (hr1 _)) | (go_at_call 26; with_reducible exact gr_call_same (hr2 _))))
      refine wpQuiet_nil ?_
      rintro w2 ⟨⟨_, hw2⟩, rfl⟩
      have hp2 := hp1.grow hw2
      have hj2 := hJ _ _ _ none hj1 (grownBy_of_below hw2) (fun r e => by cases e)
      clear hr1 hr2 G0 GB k0 k1 k2 k3 k4 k5 b0 hD hp1 hj1 hw2
      obtain ⟨fn, tmps, assign, body, hy, hR⟩ := hY _ k w2 hj2 (by simp; omega)
      have ht : (idx n).take (n - (k + 1)) ++ [k] = (idx n).take (n - k) := by
        have := idx_take_succ n (n - (k + 1)) (by omega)
        rw [show n - (k + 1) + 1 = n - k by omega, show n - 1 - (n - (k + 1)) = k by omega] at this
        exact this.symm
      have HT := Lib.hid ht
      clear ht
      gi_wp2
      refine hR.mono ?_
      rintro e W3 (⟨rfl, hJ3, hk3⟩ | ⟨rfl, hJx3⟩)
      · have hp3 := hk3 hp2
        rw [HT.out] at hJ3
        gi_wp2
        go_roundw
        case rel => exact ⟨k, by omega, by go_num, hJ3, hp3⟩
        case measure => simp [intOf]; try omega
      · rw [HT.out] at hJx3
        gi_wp2
        refine bodyPost_ret (results_none rfl _ _ _) rfl ?_
        exact ⟨⟨_, rfl⟩, .inr ⟨_, List.take_prefix _ _, hJx3⟩⟩
end Go.Proofs.Ytpecgfpofihibaa
