/-
  ulog: Len, Epoch, Records; the fixed fact of law 6.
-/
import Derived.Test.YtpecgfpofihibaaApp
import Derived.Test.YtpecgfpofihibaaAw5
namespace Go.Proofs.Ytpecgfpofihibaa
open Go Go.RowKit Go.MapKept

set_option maxHeartbeats 400000 in
theorem llen_any (h : DevH) (c : Cf) (lb : Nat) (ep n : Int) (w : World) (hl : Is w lb (lgc h c ep n)) :
    Calls Try.prog 28 #[.pointer (some ⟨lb, 0, none⟩)] w fun e w' => e = .returned (.int .i64 n) ∧ w = w' := by
  obtain ⟨c0, c1, c2, c3, c4, c5⟩ := lgc_cells hl
  clear hl c0 c1 c2 c3 c4
  go_enter Try.func28, Try.ntmps28
  go_wp2
  go_ret
  exact ⟨rfl, rfl⟩

set_option maxHeartbeats 400000 in
theorem lepoch_any (h : DevH) (c : Cf) (lb : Nat) (ep n : Int) (w : World) (hl : Is w lb (lgc h c ep n)) :
    Calls Try.prog 34 #[.pointer (some ⟨lb, 0, none⟩)] w fun e w' => e = .returned (.int .u64 ep) ∧ w = w' := by
  obtain ⟨c0, c1, c2, c3, c4, c5⟩ := lgc_cells hl
  clear hl c0 c1 c2 c3 c5
  go_enter Try.func34, Try.ntmps34
  go_wp2
  go_ret
  exact ⟨rfl, rfl⟩

set_option maxHeartbeats 400000 in
theorem lrecords_any (lb : Nat) (w : World) :
    Calls Try.prog 31 #[.pointer (some ⟨lb, 0, none⟩)] w fun e w' => e = .returned (.func (.func 81) #[] #[.pointer (some ⟨w.heap.size, 0, none⟩)]) ∧ w' = w.alloc (.cells #[.pointer (some ⟨lb, 0, none⟩)] 35) := by
  have hmf : ∀ (fn : Fn) (first cap : Array Value) (w : World), (Instr.makeFunc fn first cap).run Try.prog w = .ok (.func fn first cap) w := fun _ _ _ _ => rfl
  go_enter Try.func31, Try.ntmps31
  go_wp2
  go_ret
  exact ⟨rfl, rfl⟩

/-- A function against nil. -/
theorem run_eql_func_nil {P : Program} (w : World) (t : TypeId) (f : Fn) (a b : Array Value) {ps rs : Array TypeId} {v : Bool} (h : P.underlying t = some (.func ps rs v)) :
    (binOp .eql t (.func f a b) .nilFunc).run P w = .ok (.bool false) w := by
  have h : ∀ d : Nat, (Op.equalIn (d + 1) t (.func f a b) .nilFunc).run P w = .ok false w := fun d => by
    simp [Op.equalIn, run_underlying h]
  simp only [binOp]
  simp [Op.equal, Op.maxDepth, h 9999]

theorem fmtD_logN (c : Cf) (old : List Int) (hc : c.ok) : LogN (fmtD c old) c 0 := by
  have he : (fmtD c old).ep = 1 := by
    unfold DevS.ep
    rw [fmtD_at _ _ hc]
    rfl
  refine ⟨fun k hk => absurd hk (Nat.not_lt_zero _), .inr ?_, by have := hc.l1; have := hc.r1; simp; omega⟩
  rw [he, fmtD_at _ _ hc]
  have : fmtAt c old (16 + 4 * 0) = 0 := by
    unfold fmtAt
    have := hc.l1
    have := hc.r1
    simp; omega
  rw [this]
  decide

theorem fmtD_ep (c : Cf) (old : List Int) (hc : c.ok) : (fmtD c old).ep = 1 := by
  unfold DevS.ep
  rw [fmtD_at _ _ hc]
  rfl

def c3D1 : DevS := (fmtD c3 []).append (16 + 4 * ((0 : Nat) : Int)) 1 ((0 : Nat) : Int) 40

theorem c3_logN : LogN c3D1 c3 1 := by
  refine ⟨fun k hk => ?_, .inr ?_, by decide⟩
  · obtain rfl : k = 0 := by omega
    decide +kernel
  · decide +kernel
theorem c3_ep : DevS.ep c3D1 = 1 := by decide +kernel

/-- The device that Formatted has made is a heap's. -/
theorem c3_words : ((fmtD c3 []).now.length : Int) = c3.words := by rw [fmtD_len]; decide

set_option maxHeartbeats 2000000 in
theorem awake06 (w : World) :
    Calls Try.prog 19 #[] w fun e w' => e = .returned (.bool true) ∧ Below w.heap.size w w' := by
  have hv : c3.val = .agg #[.int .i64 3, .int .i64 1, .int .i64 8] := rfl
  have hmf : ∀ (fn : Fn) (first cap : Array Value) (w : World), (Instr.makeFunc fn first cap).run Try.prog w = .ok (.func fn first cap) w := fun _ _ _ _ => rfl
  have k1 := fun w => formatted_any c3 [] (.slice none 0 0) w c3_ok (SlR.nil w) (by decide) (by simp)
  have k2 := fun h w (hd : Dev w h (fmtD c3 [])) => open_any h _ c3 0 w hd c3_ok (fmtD_logN _ _ c3_ok)
  rw [fmtD_ep _ _ c3_ok] at k2
  have k3 := fun h lb w (hd : Dev w h (fmtD c3 [])) (hl : Is w lb (lgc h c3 1 (0 : Nat))) (hlb : lb < h.lo ∨ h.hi ≤ lb) => append_any h _ c3 lb 1 40 0 w hd hl hlb c3_ok c3_words (by decide) (by decide) (by decide) (by decide) (by have := c3_words; have e : c3.words = 56 := rfl; omega)
  have k4 := fun h w (hd : Dev w h c3D1) => open_any h _ c3 1 w hd c3_ok c3_logN
  have e4 : c3D1.ep = 1 := c3_ep
  rw [e4] at k4
  rw [hv] at k1 k2 k4
  clear hv e4
  go_enter Try.func19, Try.ntmps19
  go_wp2_with fail
  refine (awake05 _).mono ?_
  rintro e w1 ⟨rfl, b1⟩
  go_wp2_with fail
  have i2 := Is.new w1 (.cells #[.int .i64 3, .int .i64 1, .int .i64 8] 29)
  have b2 : Below w.heap.size w (w1.alloc (.cells #[.int .i64 3, .int .i64 1, .int .i64 8] 29)) := b1.alloc b1.size _
  have hs := b1.size
  clear b1
  generalize w1.alloc (.cells #[.int .i64 3, .int .i64 1, .int .i64 8] 29) = w2 at *
  generalize w1.heap.size = cb at *
  refine (k1 _).mono ?_
  rintro e w3 ⟨h, rfl, hd3, hlo, d3⟩
  have i3 := i2.grow d3
  have b3 := Below.grown_trans b2 d3
  have hlo' : w.heap.size ≤ h.lo := Nat.le_trans b2.size hlo
  have hcb : cb < h.lo := Nat.lt_of_lt_of_le i2.lt hlo
  clear k1 i2 b2 d3 hlo
  unfold DevH.ptr
  obtain ⟨c0, c1, c2⟩ := i3.c3
  go_wp2_with fail
  have k2' := k2 h _ hd3
  clear k2
  unfold DevH.ptr at k2'
  refine k2'.mono ?_
  rintro e w4 ⟨lb, rfl, hl4, hlb, d4⟩
  have hd4 := hd3.grow d4
  have i4 := i3.grow d4
  have b4 := Below.grown_trans b3 d4
  have hlb' : lb < h.lo ∨ h.hi ≤ lb := .inr (Nat.le_trans hd3.top hlb)
  have hlc : cb < lb := Nat.lt_of_lt_of_le i3.lt hlb
  clear k2' i3 b3 d4 hd3 c0 c1 c2
  go_wp2_with fail
  have k3' := k3 h lb _ hd4 hl4 hlb'
  clear k3
  refine k3'.mono ?_
  rintro e w5 ⟨rfl, hd5, hl5, lf5⟩
  have hbl : w.heap.size ≤ lb := by have := hlb; have := b4.size; omega
  have i5 := i4.lef lf5 (by unfold dl; omega)
  have b5 : Below w.heap.size w w5 := b4.trans (lf5.below (fun k hk => by unfold dl at hk; omega) b4.size)
  clear k3' i4 b4 hd4 hl4 lf5
  go_wp2_with fail
  refine (lrecords_any lb _).mono ?_
  rintro e w6 ⟨rfl, rfl⟩
  have hd6 := hd5.alloc (.cells #[.pointer (some ⟨lb, 0, none⟩)] 35)
  have i6 := i5.alloc (.cells #[.pointer (some ⟨lb, 0, none⟩)] 35)
  have b6 : Below w.heap.size w (w5.alloc (.cells #[.pointer (some ⟨lb, 0, none⟩)] 35)) := b5.alloc b5.size _
  clear hd5 i5 b5
  generalize w5.alloc (.cells #[.pointer (some ⟨lb, 0, none⟩)] 35) = w6 at *
  generalize w5.heap.size = rb at *
  obtain ⟨c0, c1, c2⟩ := i6.c3
  have hfn := fun w => run_eql_func_nil (P := Try.prog) w 48 (.func 81) #[] #[.pointer (some ⟨rb, 0, none⟩)] Try.underlying48
  go_wp2_with fail
  have k4' := k4 h _ hd6
  clear k4
  unfold DevH.ptr at k4'
  refine k4'.mono ?_
  rintro e w7 ⟨lc, rfl, hl7, hlc7, d7⟩
  have b7 := Below.grown_trans b6 d7
  clear k4' hd6 i6 b6 d7
  go_wp2_with fail
  refine (llen_any h c3 lc 1 _ _ hl7).mono ?_
  rintro e w8 ⟨rfl, rfl⟩
  go_wp2_with fail
  refine (lepoch_any h c3 lc 1 _ _ hl7).mono ?_
  rintro e w8 ⟨rfl, rfl⟩
  go_wp2_with fail
  go_ret
  exact ⟨rfl, b7⟩
end Go.Proofs.Ytpecgfpofihibaa
