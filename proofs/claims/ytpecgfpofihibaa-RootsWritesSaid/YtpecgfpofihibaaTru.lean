/-
  ulog.Truncate.
-/
import Derived.Test.YtpecgfpofihibaaApp
namespace Go.Proofs.Ytpecgfpofihibaa
open Go Go.RowKit Go.MapKept

/-- The device behind Truncate, of a log that has records. -/
def DevS.trunc (D : DevS) (ep : Int) : DevS := (((D.store 8 ((ep + 1) % 4294967296)).flush 8).fence)

set_option maxHeartbeats 400000 in
theorem trunc_none (h : DevH) (c : Cf) (lb : Nat) (ep : Int) (w : World) (hl : Is w lb (lgc h c ep 0)) :
    Calls Try.prog 82 #[.pointer (some ⟨lb, 0, none⟩)] w fun e w' => e = .returned (.tuple #[]) ∧ w = w' := by
  obtain ⟨c0, c1, c2, c3, c4, c5⟩ := lgc_cells hl
  clear hl c1 c2 c3 c4
  go_enter Try.func82, Try.ntmps82
  go_wp2
  refine bodyPost_ret (results_none rfl _ _ _) rfl ?_
  exact ⟨rfl, rfl⟩

set_option maxHeartbeats 2000000 in
theorem trunc_any (h : DevH) (D : DevS) (c : Cf) (lb : Nat) (ep n : Int) (w : World) (hd : Dev w h D) (hl : Is w lb (lgc h c ep n)) (hlb : lb < h.lo ∨ h.hi ≤ lb) (hN : 40 ≤ D.now.length)
    (he0 : 0 ≤ ep) (he1 : ep < 4294967296) (hn : 0 < n) :
    Calls Try.prog 82 #[.pointer (some ⟨lb, 0, none⟩)] w fun e w' => e = .returned (.tuple #[]) ∧ Dev w' h (D.trunc ep) ∧ Is w' lb (lgc h c ((ep + 1) % 4294967296) 0) ∧ Lef (dl h lb) w w' := by
  obtain ⟨c0, c1, c2, c3, c4, c5⟩ := lgc_cells hl
  have hand : Go.bits .and .u64 (ep + 1) 4294967295 = (ep + 1) % 4294967296 := bits_and_low (ep + 1) 32 (by decide) (by omega) (by omega)
  have hep : U64 ((ep + 1) % 4294967296) := ⟨by omega, by omega⟩
  have Hand := Lib.hid hand
  clear hand
  have hne : (n == 0) = false := by simp; omega
  have Hne := Lib.hid hne
  clear hne
  have G0 := GrW.cell c0
  have G4 := GrW.cell c4
  go_enter Try.func82, Try.ntmps82
  go_wp2_with fail
  refine wp_gr_tail 10 (by kernel_rfl) (by kernel_rfl) ?_
  simp only [List.take_succ_cons, List.take_zero, List.drop_succ_cons, List.drop_zero]
  repeat (go_big_quiet_step (fail))
  refine wpQuiet_nil ?_
  rintro w1 ⟨⟨_, hw1⟩, rfl⟩
  have hd1 := hd.grow hw1
  have hl1 := hl.grow hw1
  have L1 : Lef (dl h lb) w w1 := Lef.of_below hw1
  clear c0 c1 c2 c3 c4 c5 hd hl hw1 G0 G4
  obtain ⟨c0, c1, c2, c3, c4, c5⟩ := lgc_cells hl1
  rw [Hand.out]
  unfold DevH.ptr at *
  go_wp2_with fail
  refine (store_any h _ 8 _ _ hd1 (by omega) (by omega) hep).mono ?_
  rintro e w2 ⟨rfl, hd2, lf2⟩
  have hl2 := hl1.left lf2 hlb
  have L2 := L1.trans (Lef.of_left lf2 (fun _ h1 h2 => .inl ⟨h1, h2⟩))
  clear c0 c1 c2 c3 c4 c5 hd1 hl1 L1 lf2 
  obtain ⟨c0, c1, c2, c3, c4, c5⟩ := lgc_cells hl2
  go_wp2_with fail
  refine (flush_any h _ 8 _ hd2 (by omega) (by simp; omega)).mono ?_
  rintro e w3 ⟨rfl, hd3, lf3⟩
  have hl3 := hl2.left lf3 hlb
  have L3 := L2.trans (Lef.of_left lf3 (fun _ h1 h2 => .inl ⟨h1, h2⟩))
  clear c0 c1 c2 c3 c4 c5 hd2 hl2 L2 lf3 
  obtain ⟨c0, c1, c2, c3, c4, c5⟩ := lgc_cells hl3
  go_wp2_with fail
  refine (fence_any h _ _ hd3).mono ?_
  rintro e w4 ⟨rfl, hd4, lf4⟩
  have hl4 := hl3.left lf4 hlb
  have L4 := L3.trans (Lef.of_left lf4 (fun _ h1 h2 => .inl ⟨h1, h2⟩))
  clear c0 c1 c2 c3 c4 c5 hd3 hl3 L3 lf4 
  obtain ⟨c0, c1, c2, c3, c4, c5⟩ := lgc_cells hl4
  have f4 : w4.frozen? ⟨lb, 4, none⟩ = false := hl4.free
  have f5 : w4.frozen? ⟨lb, 5, none⟩ = false := hl4.free
  have lf : Is ((w4.setCell ⟨lb, 4, none⟩ (.int .u64 ((ep + 1) % 4294967296))).setCell ⟨lb, 5, none⟩ (.int .i64 0)) lb (lgc h c ((ep + 1) % 4294967296) 0) := (hl4.set (i := 4) (.int .u64 ((ep + 1) % 4294967296))).set (i := 5) (.int .i64 0)
  have df := (hd4.set (p := ⟨lb, 4, none⟩) hlb (.int .u64 ((ep + 1) % 4294967296))).set (p := ⟨lb, 5, none⟩) hlb (.int .i64 0)
  have Lf := (L4.setCell (p := ⟨lb, 4, none⟩) (.inr rfl) (.int .u64 ((ep + 1) % 4294967296))).setCell (p := ⟨lb, 5, none⟩) (.inr rfl) (.int .i64 0)
  rw [← Hand.out] at df lf Lf
  have lf' : Is ((w4.setCell ⟨lb, 4, none⟩ (.int .u64 (Go.bits .and .u64 (ep + 1) 4294967295))).setCell ⟨lb, 5, none⟩ (.int .i64 0)) lb (lgc h c ((ep + 1) % 4294967296) 0) := by rw [← Hand.out]; exact lf
  have df' : Dev ((w4.setCell ⟨lb, 4, none⟩ (.int .u64 (Go.bits .and .u64 (ep + 1) 4294967295))).setCell ⟨lb, 5, none⟩ (.int .i64 0)) h (D.trunc ep) := by
    unfold DevS.trunc
    rw [← Hand.out]
    exact df
  clear c1 c2 c3 hd4 hl4 L4 Hand Hne df lf
  go_wp2
  go_end0
  exact ⟨rfl, df', lf', Lf⟩
end Go.Proofs.Ytpecgfpofihibaa
