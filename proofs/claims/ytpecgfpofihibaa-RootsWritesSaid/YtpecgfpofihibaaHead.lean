/-
  head: Check, Size, Pack, Unpack.
-/
import Derived.Test.YtpecgfpofihibaaNvm
import Derived.Laws.Bits64
import Derived.Laws.ResultCell
import Derived.Laws.Rows
namespace Go.Proofs.Ytpecgfpofihibaa
open Go Go.RowKit

/-- May it be a head? -/
def headOk (W R : Int) : Prop := 0 ≤ W ∧ W ≤ 64 ∧ 0 ≤ R ∧ R ≤ W
instance (W R : Int) : Decidable (headOk W R) := by unfold headOk; infer_instance
def headv (W R : Int) : Value := .agg #[.int .i64 W, .int .i64 R]
def packv (W R : Int) : Int := 12754194144713244672 + R * 4294967296 + W
/-- What Check answers. -/
def hchk (W R : Int) : Int := if headOk W R then 0 else 5
theorem hchk_ok {W R : Int} (h : headOk W R) : hchk W R = 0 := if_pos h
theorem hchk_bad {W R : Int} (h : ¬ headOk W R) : hchk W R = 5 := if_neg h

set_option maxHeartbeats 1000000 in
theorem hcheck_any (W R : Int) (w : World) :
    Calls Try.prog 86 #[headv W R] w fun e w' => e = .returned (.int .i64 (hchk W R)) ∧ Below w.heap.size w w' := by
  unfold headv
  go_enter Try.func86, Try.ntmps86
  go_wp2
  all_goals (go_ret; refine ⟨?_, (Below.refl _ _).alloc (Nat.le_refl _) _⟩; first | (rw [hchk_ok (by unfold headOk; omega)]; rfl) | (rw [hchk_bad (by unfold headOk; omega)]; rfl))

theorem bits_or_u64_nat (a b : Nat) (ha : a < 18446744073709551616) (hb : b < 18446744073709551616) :
    Go.bits .or .u64 (a : Int) (b : Int) = ((a ||| b : Nat) : Int) := by
  have hx : a ||| b < 2 ^ 64 := Nat.or_lt_two_pow (by omega) (by omega)
  have h1 : (BitVec.ofInt 64 (a : Int)).toNat = a := by
    rw [BitVec.ofInt_natCast, BitVec.toNat_ofNat]; exact Nat.mod_eq_of_lt (by omega)
  have h2 : (BitVec.ofInt 64 (b : Int)).toNat = b := by
    rw [BitVec.ofInt_natCast, BitVec.toNat_ofNat]; exact Nat.mod_eq_of_lt (by omega)
  show IntKind.u64.wrap ((BitVec.ofInt 64 (a : Int) ||| BitVec.ofInt 64 (b : Int)).toNat : Int) = _
  rw [BitVec.toNat_or, h1, h2, IntKind.wrap_u64]
  omega

/-- Bits that lie apart: or is a sum. -/
theorem bits_or_apart (x y : Int) (k : Nat) (hk : k < 64) (hx : 0 ≤ x) (hx1 : x < 18446744073709551616) (hxm : x % (2 ^ k : Nat) = 0) (hy : 0 ≤ y) (hy1 : y < (2 ^ k : Nat)) :
    Go.bits .or .u64 x y = x + y := by
  obtain ⟨a, rfl⟩ := Int.eq_ofNat_of_zero_le hx
  obtain ⟨b, rfl⟩ := Int.eq_ofNat_of_zero_le hy
  have hp : 2 ^ k ≤ 2 ^ 64 := Nat.pow_le_pow_right (by decide) (by omega)
  rw [bits_or_u64_nat a b (by omega) (by omega)]
  have hm : a % 2 ^ k = 0 := by omega
  have ha : a = 2 ^ k * (a / 2 ^ k) := by have := Nat.div_add_mod a (2 ^ k); omega
  have := Nat.two_pow_add_eq_or_of_lt (i := k) (b := b) (by omega) (a / 2 ^ k)
  rw [← ha] at this
  rw [← this]
  omega

theorem or_pack (W R : Int) (h : headOk W R) : Go.bits BinOp.or IntKind.u64 (Go.bits BinOp.or IntKind.u64 12754194144713244672 (R * 4294967296)) W = packv W R := by
  obtain ⟨h1, h2, h3, h4⟩ := h
  rw [bits_or_apart 12754194144713244672 (R * 4294967296) 56 (by decide) (by decide) (by decide) (by decide) (by omega) (by omega)]
  rw [bits_or_apart _ W 32 (by decide) (by omega) (by omega) (by omega) h1 (by omega)]
  rfl

set_option maxHeartbeats 1000000 in
theorem hpack (W R : Int) (w : World) (h : headOk W R) :
    Calls Try.prog 51 #[headv W R] w fun e w' => e = .returned (.int .u64 (packv W R)) ∧ Below w.heap.size w w' := by
  rw [← or_pack W R h]
  obtain ⟨h1, h2, h3, h4⟩ := h
  unfold headv
  go_enter Try.func51, Try.ntmps51
  go_wp2
  go_ret
  exact ⟨rfl, (Below.refl _ _).alloc (Nat.le_refl _) _⟩

set_option maxHeartbeats 1000000 in
theorem hsize (W R : Int) (w : World) (h0 : 0 ≤ W) (h1 : W ≤ 100000) :
    Calls Try.prog 66 #[headv W R] w fun e w' => e = .returned (.int .i64 (W + 1)) ∧ Below w.heap.size w w' := by
  unfold headv
  go_enter Try.func66, Try.ntmps66
  go_wp2
  go_ret
  exact ⟨rfl, (Below.refl _ _).alloc (Nat.le_refl _) _⟩

/-- What a word says as a head. -/
def unW (x : Int) : Int := x % 4294967296
def unR (x : Int) : Int := x / 4294967296 % 16777216
def isHead (x : Int) : Prop := headOk (unW x) (unR x) ∧ x / 72057594037927936 = 177
instance (x : Int) : Decidable (isHead x) := by unfold isHead; infer_instance

theorem bits_and_u64_nat (a b : Nat) (ha : a < 18446744073709551616) (hb : b < 18446744073709551616) :
    Go.bits .and .u64 (a : Int) (b : Int) = ((a &&& b : Nat) : Int) := by
  have hx : a &&& b < 2 ^ 64 := Nat.and_lt_two_pow a (by omega)
  have h1 : (BitVec.ofInt 64 (a : Int)).toNat = a := by
    rw [BitVec.ofInt_natCast, BitVec.toNat_ofNat]; exact Nat.mod_eq_of_lt (by omega)
  have h2 : (BitVec.ofInt 64 (b : Int)).toNat = b := by
    rw [BitVec.ofInt_natCast, BitVec.toNat_ofNat]; exact Nat.mod_eq_of_lt (by omega)
  show IntKind.u64.wrap ((BitVec.ofInt 64 (a : Int) &&& BitVec.ofInt 64 (b : Int)).toNat : Int) = _
  rw [BitVec.toNat_and, h1, h2, IntKind.wrap_u64]
  omega

/-- The low bits. -/
theorem bits_and_low (x : Int) (k : Nat) (hk : k ≤ 63) (hx : 0 ≤ x) (hx1 : x < 18446744073709551616) :
    Go.bits .and .u64 x ((2 ^ k - 1 : Nat) : Int) = x % ((2 ^ k : Nat) : Int) := by
  obtain ⟨a, rfl⟩ := Int.eq_ofNat_of_zero_le hx
  have hp : 2 ^ k ≤ 2 ^ 63 := Nat.pow_le_pow_right (by decide) (by omega)
  rw [bits_and_u64_nat a (2 ^ k - 1) (by omega) (by omega), Nat.and_two_pow_sub_one_eq_mod]
  omega

theorem unR_and (x : Int) (hx : U64 x) : Go.bits .and .u64 (x / 4294967296) 16777215 = unR x := by
  obtain ⟨h0, h1⟩ := hx
  exact bits_and_low (x / 4294967296) 24 (by decide) (by omega) (by omega)

theorem pack_iff (x : Int) (hx : U64 x) (h : headOk (unW x) (unR x)) : packv (unW x) (unR x) = x ↔ x / 72057594037927936 = 177 := by
  obtain ⟨h0, h1⟩ := hx
  unfold packv unW unR at *
  constructor <;> intro h' <;> omega

/-- Results: a struct in a block of the call's, and a plain one. -/
theorem results_cell2 {P : Program} {fn : Func} {p u : Tmp} {ty : TypeId} (h : fn.results = #[.cell p ty, .tmp u]) {tmps : Array Value} {w : World} {g t : Nat} {cs : Array Value} {fr : Nat × Nat} (d : TypeDesc)
    (hg : Is w g (.cells cs t fr)) (hp : tmps.getD p undef = .pointer (some ⟨g, 0, none⟩))
    (hu : P.underlying ty = some d) (hd : (match d with | .struct _ | .array _ _ => true | _ => false) = true) (hi : (P.info? ty).map (·.size) = some cs.size) :
    (results fn tmps).run P w = .ok (.tuple #[.agg cs, tmps.getD u undef]) w := by
  rw [results_cell_tmp h, hp]
  simp [asAddr, run_loadVar_row w g t ty cs fr d hg hu hd hi, Result.andThen]

set_option maxHeartbeats 1000000 in
theorem hunpack (x : Int) (w : World) (hx : U64 x) :
    Calls Try.prog 88 #[.int .u64 x] w fun e w' => Below w.heap.size w w' ∧
      (isHead x → e = .returned (.tuple #[headv (unW x) (unR x), .bool true])) ∧ (¬ isHead x → e = .returned (.tuple #[headv 0 0, .bool false])) := by
  have hand := unR_and x hx
  have hW : x % 4294967296 = unW x := rfl
  have hR0 : 0 ≤ unR x := by unfold unR; omega
  have hR1 : unR x < 16777216 := by unfold unR; omega
  have hw64 := (show wrap64 (unR x) = unR x from by unfold wrap64; omega)
  have hpk := pack_iff x hx
  obtain ⟨hx0, hx1⟩ := id hx
  have hH : isHead x ↔ headOk (unW x) (unR x) ∧ x / 72057594037927936 = 177 := Iff.rfl
  have Hand := Lib.hid hand
  have HW := Lib.hid hW
  have H64 := Lib.hid hw64
  clear hand hW hw64
  have HH := Lib.hid hH
  have HP := Lib.hid hpk
  clear hH hpk
  go_enter Try.func88, Try.ntmps88
  go_wp2_with fail
  have hand := Hand.out
  rw [HW.out, Hand.out, H64.out]
  clear hand
  have i1 := (Is.new w (.cells #[.int .i64 0, .int .i64 0] 66)).alloc (.cells #[.int .i64 (unW x), .int .i64 (unR x)] 66)
  have i2 := Is.new (w.alloc (.cells #[.int .i64 0, .int .i64 0] 66)) (.cells #[.int .i64 (unW x), .int .i64 (unR x)] 66)
  rw [World.size_alloc] at i2
  have b1 : Below w.heap.size w ((w.alloc (.cells #[.int .i64 0, .int .i64 0] 66)).alloc (.cells #[.int .i64 (unW x), .int .i64 (unR x)] 66)) := ((Below.refl _ _).alloc (Nat.le_refl _) _).alloc (by simp) _
  have hc := hcheck_any (unW x) (unR x) ((w.alloc (.cells #[.int .i64 0, .int .i64 0] 66)).alloc (.cells #[.int .i64 (unW x), .int .i64 (unR x)] 66))
  unfold headv at hc
  generalize (w.alloc (.cells #[.int .i64 0, .int .i64 0] 66)).alloc (.cells #[.int .i64 (unW x), .int .i64 (unR x)] 66) = w1 at *
  refine hc.mono ?_
  rintro e w2 ⟨rfl, b2⟩
  clear hc
  have j1 := i1.grow b2
  have j2 := i2.grow b2
  have b3 := Below.grown_trans b1 b2
  clear i1 i2 b1 b2
  have c0 : w2.cell? ⟨w.heap.size + 1, 0, none⟩ = some (.int .i64 (unW x)) := by rw [j2.cell]; rfl
  have c1 : w2.cell? ⟨w.heap.size + 1, 1, none⟩ = some (.int .i64 (unR x)) := by rw [j2.cell]; rfl
  have r0 : w2.cell? ⟨w.heap.size, 0, none⟩ = some (.int .i64 0) := by rw [j1.cell]; rfl
  have r1 : w2.cell? ⟨w.heap.size, 1, none⟩ = some (.int .i64 0) := by rw [j1.cell]; rfl
  have q0 : w2.frozen? ⟨w.heap.size, 0, none⟩ = false := j1.free
  have q1 : w2.frozen? ⟨w.heap.size, 1, none⟩ = false := j1.free
  by_cases hok : headOk (unW x) (unR x)
  · have hW0 : 0 ≤ unW x := hok.1
    have hW1 : unW x ≤ 64 := hok.2.1
    have hcod := hchk_ok hok
    have hp := hpack (unW x) (unR x) w2 hok
    unfold headv at hp
    rw [hcod]
    clear hcod
    go_wp2_with fail
    refine hp.mono ?_
    rintro e w3 ⟨rfl, b4⟩
    clear hp
    have j3 := j2.grow b4
    have j4 := j1.grow b4
    have b5 := Below.grown_trans b3 b4
    clear c0 c1 r0 r1 q0 q1 b3 b4 j1 j2
    have c0 : w3.cell? ⟨w.heap.size + 1, 0, none⟩ = some (.int .i64 (unW x)) := by rw [j3.cell]; rfl
    have c1 : w3.cell? ⟨w.heap.size + 1, 1, none⟩ = some (.int .i64 (unR x)) := by rw [j3.cell]; rfl
    have r0 : w3.cell? ⟨w.heap.size, 0, none⟩ = some (.int .i64 0) := by rw [j4.cell]; rfl
    have r1 : w3.cell? ⟨w.heap.size, 1, none⟩ = some (.int .i64 0) := by rw [j4.cell]; rfl
    have q0 : w3.frozen? ⟨w.heap.size, 0, none⟩ = false := j4.free
    have q1 : w3.frozen? ⟨w.heap.size, 1, none⟩ = false := j4.free
    have hp := HP.out hok
    by_cases h177 : x / 72057594037927936 = 177
    · have hyes : isHead x := HH.out.2 ⟨hok, h177⟩
      rw [hp.2 h177]
      clear hp h177
      have s1 := ((j4.set (i := 0) (.int .i64 (unW x))).set (i := 1) (.int .i64 (unR x)))
      simp only [List.setIfInBounds_toArray, List.set_cons_zero, List.set_cons_succ] at s1
      have s2 := (b5.setCell (p := ⟨w.heap.size, 0, none⟩) (Nat.le_refl _) (.int .i64 (unW x))).setCell (p := ⟨w.heap.size, 1, none⟩) (Nat.le_refl _) (.int .i64 (unR x))
      clear j3 j4
      go_wp2_with fail
      ((try simp only [Exit.inBlock, Exit.then]); refine bodyPost_ret (results_cell2 rfl _ s1 rfl Try.underlying66 rfl (by kernel_rfl)) rfl ?_)
      exact ⟨s2, fun _ => rfl, fun h => absurd hyes h⟩
    · have hno : ¬ isHead x := fun h => h177 (HH.out.1 h).2
      have hne : packv (unW x) (unR x) ≠ x := fun h => h177 (hp.1 h)
      clear hp h177
      have s1 := ((j4.set (i := 0) (.int .i64 0)).set (i := 1) (.int .i64 0))
      simp only [List.setIfInBounds_toArray, List.set_cons_zero, List.set_cons_succ] at s1
      have s2 := (b5.setCell (p := ⟨w.heap.size, 0, none⟩) (Nat.le_refl _) (.int .i64 0)).setCell (p := ⟨w.heap.size, 1, none⟩) (Nat.le_refl _) (.int .i64 0)
      clear j3 j4
      generalize packv (unW x) (unR x) = px at *
      go_wp2_with fail
      ((try simp only [Exit.inBlock, Exit.then]); refine bodyPost_ret (results_cell2 rfl _ s1 rfl Try.underlying66 rfl (by kernel_rfl)) rfl ?_)
      exact ⟨s2, fun h => absurd h hno, fun _ => rfl⟩
  · simp only [hchk_bad hok]
    have s1 := ((j1.set (i := 0) (.int .i64 0)).set (i := 1) (.int .i64 0))
    simp only [List.setIfInBounds_toArray, List.set_cons_zero, List.set_cons_succ] at s1
    have s2 := (b3.setCell (p := ⟨w.heap.size, 0, none⟩) (Nat.le_refl _) (.int .i64 0)).setCell (p := ⟨w.heap.size, 1, none⟩) (Nat.le_refl _) (.int .i64 0)
    have hno : ¬ isHead x := fun h => hok (HH.out.1 h).1
    clear j1
    go_wp2_with fail
    ((try simp only [Exit.inBlock, Exit.then]); refine bodyPost_ret (results_cell2 rfl _ s1 rfl Try.underlying66 rfl (by kernel_rfl)) rfl ?_)
    exact ⟨s2, fun h => absurd h hno, fun _ => rfl⟩
end Go.Proofs.Ytpecgfpofihibaa
