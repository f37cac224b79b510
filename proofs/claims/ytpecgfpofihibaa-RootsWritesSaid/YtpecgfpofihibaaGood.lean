/-
  ulog.Good, where all records are good.
-/
import Derived.Test.YtpecgfpofihibaaApp
namespace Go.Proofs.Ytpecgfpofihibaa
open Go Go.RowKit Go.MapKept

set_option maxHeartbeats 2000000 in
theorem good_any (h : DevH) (D : DevS) (c : Cf) (lb : Nat) (ep : Int) (n : Nat) (w : World) (hd : Dev w h D) (hl : Is w lb (lgc h c ep n)) (hc : c.ok) (hnL : (n : Int) ≤ c.L)
    (hg : ∀ k, k < n → c.act ≤ D.at (16 + 4 * k + 1) ∧ D.at (16 + 4 * k + 1) < D.now.length) :
    Calls Try.prog 29 #[.pointer (some ⟨lb, 0, none⟩)] w fun e w' => e = .returned (.int .i64 (-1)) ∧ Below w.heap.size w w' := by
  have hsm := hd.dok.small
  have hL2 := hc.l2
  obtain ⟨c0, c1, c2, c3, c4, c5⟩ := lgc_cells hl
  go_enter Try.func29, Try.ntmps29
  go_wp2
  clear c0 c1 c2 c3 c4 c5
  go_loopw [9] (fun i wr => ∃ k : Nat, k ≤ n ∧ i = .int .i64 k ∧ Below w.heap.size w wr)
    (fun i _ => n - (intOf i).toNat)
  case atStart => exact ⟨0, by omega, rfl, Below.refl _ _⟩
  case round =>
    obtain ⟨k, hk, rfl, hb⟩ := hrel
    have hdr := hd.grow hb
    have hlr := hl.grow hb
    clear hd hl
    obtain ⟨c0, c1, c2, c3, c4, c5⟩ := lgc_cells hlr
    by_cases hlt : k < n
    · obtain ⟨g1, g2⟩ := hg k hlt
      have k75 := fun w => record_any c k w (by omega) (by omega)
      have kl : ∀ x : GrW wr, Calls Try.prog 26 #[.pointer (some ⟨h.d, 0, none⟩), .int .i64 (c.recd k + 1)] x.1 fun e w' => e = .returned (.int .u64 (D.at (16 + 4 * k + 1))) ∧ x.1 = w' := fun x => by
        have := load_any h D (c.recd k + 1) x.1 (hdr.grow x.2)
        rw [rd_at _ _ (by unfold Cf.recd; omega), show (c.recd k + 1).toNat = 16 + 4 * k + 1 from by unfold Cf.recd; omega] at this
        exact this
      have ha0 : 0 ≤ c.recd k := by unfold Cf.recd; omega
      have ha1 : c.recd k ≤ 10000 := by unfold Cf.recd; omega
      have hp0 : 0 ≤ c.act := by have := c.bds.a1; have := hc.r1; have := hc.l1; omega
      have hp1 : c.act ≤ 2000 := by have := c.bds.a2; omega
      have hv : c.val = .agg #[.int .i64 c.L, .int .i64 c.R, .int .i64 c.S] := rfl
      have k36 := fun w => active_any c w hc
      rw [hv] at k75 k36
      clear hv
      generalize c.recd k = a at *
      generalize D.at (16 + 4 * k + 1) = v at *
      have G0 := GrW.cell c0
      have G1 := GrW.cell c1
      have G2 := GrW.cell c2
      have G3 := GrW.cell c3
      go_wp2_with fail
      refine wp_gr (by kernel_rfl) (by kernel_rfl) ?_
      repeat (go_big_quiet_step (first | (go_at_call 26; exact gr_call_same (kl _)) | (go_at_call 75; exact gr_call (k75 _))))
      refine wpQuiet_nil ?_
      rintro w2 ⟨⟨_, hw2⟩, rfl⟩
      have hd2 := hdr.grow hw2
      have hl2 := hlr.grow hw2
      have b2 := Below.grown_trans hb hw2
      clear G0 G1 G2 G3 c0 c1 c2 c3 c4 c5 kl k75 hdr hlr hb hw2
      obtain ⟨c0, c1, c2, c3, c4, c5⟩ := lgc_cells hl2
      go_wp2_with fail
      refine (k36 _).mono ?_
      rintro e w3 ⟨rfl, d3⟩
      have hd3 := hd2.grow d3
      have hl3 := hl2.grow d3
      have b3 := Below.grown_trans b2 d3
      clear c0 c1 c2 c3 c4 c5 hd2 hl2 b2 d3 k36
      obtain ⟨c0, c1, c2, c3, c4, c5⟩ := lgc_cells hl3
      have k30 := len_any h D w3 hd3
      unfold DevH.ptr at k30
      go_wp2_with fail
      refine k30.mono ?_
      rintro e w4 ⟨rfl, rfl⟩
      clear k30
      go_wp2
      go_roundw
      case rel => exact ⟨k + 1, by omega, by go_num, b3⟩
      case measure => simp [intOf]; omega
    · obtain rfl : k = n := by omega
      go_wp2
      go_ret
      exact ⟨rfl, hb⟩
end Go.Proofs.Ytpecgfpofihibaa
