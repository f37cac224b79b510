/-
  The fixed fact of law 7.
-/
import Derived.Test.YtpecgfpofihibaaSe2
namespace Go.Proofs.Ytpecgfpofihibaa
open Go Go.RowKit Go.MapKept

/-- The device behind the one store of the example. -/
def c3S : DevS := ((fmtD c3 []).append (16 + 4 * ((0 : Nat) : Int)) 1 ((0 : Nat) : Int) 40).store 40 5
def c3U : DevS := (((c3S.undo (fun _ => 40) (fun _ => 0) (idx 1)).fence).trunc 1)
theorem c3S_40 : rd c3S.now 40 = 5 := by decide +kernel
theorem c3U_40 : rd c3U.now 40 = 0 := by decide +kernel
theorem c3S_len : c3S.now.length = 56 := by decide +kernel
theorem c3S_rec : ∀ k : Nat, k < 1 → c3S.at (16 + 4 * k + 1) = 40 ∧ c3S.at (16 + 4 * k + 2) = 0 := by
  intro k hk
  obtain rfl : k = 0 := by omega
  decide +kernel

set_option maxRecDepth 100000 in
set_option maxHeartbeats 2000000 in
theorem awake07 (w : World) :
    Calls Try.prog 85 #[] w fun e w' => e = .returned (.bool true) ∧ Below w.heap.size w w' := by
  have k2 := fun h w (hd : Dev w h (fmtD c3 [])) => secnew_any h _ c3 0 w hd c3_ok (fmtD_logN _ _ c3_ok)
  rw [fmtD_ep _ _ c3_ok] at k2
  unfold DevH.ptr Cf.val at k2
  go_enter Try.func85, Try.ntmps85
  go_wp2_with fail
  refine (awake06 _).mono ?_
  rintro e w1 ⟨rfl, b1⟩
  go_wp2_with fail
  have i2 := Is.new w1 (.cells #[.int .i64 3, .int .i64 1, .int .i64 8] 29)
  have b2 : Below w.heap.size w (w1.alloc (.cells #[.int .i64 3, .int .i64 1, .int .i64 8] 29)) := b1.alloc b1.size _
  clear b1
  generalize w1.alloc (.cells #[.int .i64 3, .int .i64 1, .int .i64 8] 29) = w2 at *
  generalize w1.heap.size = cb at *
  refine (formatted_lit c3 [] (.slice none 0 0) _ c3_ok (SlR.nil _) (by decide) (by simp)).mono ?_
  rintro e w3 ⟨h, rfl, hd3, hlo, d3⟩
  have i3 := i2.grow d3
  have b3 := Below.grown_trans b2 d3
  have hlo' : w.heap.size ≤ h.lo := Nat.le_trans b2.size hlo
  clear i2 b2 d3
  obtain ⟨c0, c1, c2⟩ := i3.c3
  go_wp2_with fail
  refine (k2 h _ hd3).mono ?_
  rintro e w4 ⟨sb, lb, rfl, hs4, hl4, hlb, hls, d4⟩
  have hd4 := hd3.grow d4
  have b4 := Below.grown_trans b3 d4
  have htop := hd3.top
  have hsz := b3.size
  clear k2 c0 c1 c2 i3 b3 d4 hd3
  obtain ⟨c0, c1, _⟩ := sec_cells hs4
  go_wp2_with fail
  refine (secbegin_any h c3 lb sb 0 0 0 0 _ _ _ hs4).mono ?_
  rintro e w5 ⟨rfl, sm, dm, hs5, hsm5, hdm5, zs1, _, zs2, _, zsd, lf5⟩
  have hsl4 := hs4.lt
  have hll4 := hl4.lt
  have hd5 := hd4.lef lf5 (fun k _ h2 => by omega)
  have hl5 := hl4.lef lf5 (by omega)
  have b5 := b4.trans (lf5.below (fun k hk => by omega) b4.size)
  clear c0 c1 hs4 hd4 hl4 b4 lf5
  obtain ⟨c0, c1, _⟩ := sec_cells hs5
  go_wp2_with fail
  refine (secstore_first h _ c3 lb sb sm dm 1 0 40 5 _ hd5 hl5 hs5 hsm5 hdm5 (.inr (by omega)) (.inr (by omega)) (.inr (by omega)) (.inr (by omega)) (by omega) (by omega) (by omega) (by omega) (by omega) zsd c3_ok c3_words (by decide) (by decide) (by decide) (by decide) (by rw [c3_words]; decide) ⟨by decide, by decide⟩).mono ?_
  rintro e w6 ⟨rfl, hd6, hl6, hs6, lf6⟩
  have b6 := b5.trans (lf6.below (fun k hk => by unfold sl at hk; omega) b5.size)
  clear c0 c1 hs5 hd5 hl5 hsm5 hdm5 b5 lf6
  have hd6 : Dev w6 h c3S := hd6
  have k40 := load_lit h _ 40 _ hd6
  rw [c3S_40] at k40
  go_wp2_with fail
  refine k40.mono ?_
  rintro e w7 ⟨rfl, rfl⟩
  clear k40
  go_wp2_with fail
  refine (secabort_any h _ c3 lb sb 1 1 (fun _ => 40) (fun _ => 0) 0 0 _ _ _ hd6 hl6 hs6 (.inr (by omega)) (.inr (by omega)) (by omega) (by rw [c3S_len]; decide) (by decide) (by decide) (by decide) (by decide) (fun _ => by rw [c3S_len]; decide) (fun _ => u64_0) c3S_rec).mono ?_
  rintro e w8 ⟨rfl, hd8, hs8, lf8⟩
  have b8 := b6.trans (lf8.below (fun k hk => by unfold dl at hk; omega) b6.size)
  clear hs6 hd6 hl6 b6 lf8
  have hd8 : Dev w8 h c3U := hd8
  have k40 := load_lit h _ 40 _ hd8
  rw [c3U_40] at k40
  go_wp2_with fail
  refine k40.mono ?_
  rintro e w9 ⟨rfl, rfl⟩
  go_wp2_with fail
  refine (secopen_any h c3 lb sb false _ _ _ _ _ hs8).mono ?_
  rintro e w9 ⟨rfl, rfl⟩
  clear k40
  go_wp2_with fail
  go_ret
  exact ⟨rfl, b8⟩
end Go.Proofs.Ytpecgfpofihibaa
