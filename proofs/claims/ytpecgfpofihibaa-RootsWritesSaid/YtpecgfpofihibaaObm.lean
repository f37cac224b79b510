/-
  object: field, Read, Ref, Write, Point, Names.
-/
import Derived.Test.YtpecgfpofihibaaObj
namespace Go.Proofs.Ytpecgfpofihibaa
open Go Go.RowKit Go.MapKept Go.Shelf

/-- Which error a field has. -/
def fldC (W R i : Int) (ref : Bool) : Int := if i < 0 ∨ W ≤ i then 1 else if decide (i < R) = ref then 0 else 5
/-- Where it stands; 0 if it has an error. -/
def fldP (W R a i : Int) (ref : Bool) : Int := if fldC W R i ref = 0 then a + 1 + i else 0
theorem fldC_cases (W R i : Int) (ref : Bool) : (fldC W R i ref = 1 ∧ (i < 0 ∨ W ≤ i)) ∨ (fldC W R i ref = 0 ∧ 0 ≤ i ∧ i < W ∧ decide (i < R) = ref) ∨ (fldC W R i ref = 5 ∧ 0 ≤ i ∧ i < W ∧ decide (i < R) = !ref) := by
  unfold fldC
  by_cases h1 : i < 0 ∨ W ≤ i
  · rw [if_pos h1]; exact .inl ⟨rfl, h1⟩
  · rw [if_neg h1]
    by_cases h2 : decide (i < R) = ref
    · rw [if_pos h2]; exact .inr (.inl ⟨rfl, by omega, by omega, h2⟩)
    · rw [if_neg h2]; exact .inr (.inr ⟨rfl, by omega, by omega, by cases ref <;> simp_all⟩)

set_option maxRecDepth 100000 in
set_option maxHeartbeats 2000000 in
theorem field_any (W R a i : Int) (ref : Bool) (w : World) (a0 : 0 ≤ a) (a1 : a ≤ 100000) (w0 : 0 ≤ W) (w1 : W ≤ 100) (i1 : i ≤ 9223372036854775807) :
    Calls Try.prog 89 #[.agg #[.int .i64 W, .int .i64 R, .int .i64 a], .int .i64 i, .bool ref] w fun e w' => e = .returned (.tuple #[.int .i64 (fldP W R a i ref), .int .i64 (fldC W R i ref)]) ∧ Below w.heap.size w w' := by
  have b1 : Below w.heap.size w (w.alloc (.cells #[.int .i64 W, .int .i64 R, .int .i64 a] 81)) := (Below.refl _ _).alloc (Nat.le_refl _) _
  unfold fldP
  rcases fldC_cases W R i ref with ⟨h, h1 | ⟨h1⟩⟩ | ⟨h, h1, h2, h3⟩ | ⟨h, h1, h2, h3⟩
  · rw [h]
    clear h
    go_enter Try.func89, Try.ntmps89
    go_wp2
    go_ret2
    exact ⟨rfl, b1⟩
  · rw [h]
    clear h
    have h0 : 0 ≤ i := by omega
    go_enter Try.func89, Try.ntmps89
    go_wp2
    go_ret2
    exact ⟨rfl, b1⟩
  · rw [h]
    clear h
    subst h3
    by_cases h4 : i < R
    · have hb : decide (i < R) = true := by simpa using h4
      rw [hb]
      clear hb
      go_enter Try.func89, Try.ntmps89
      go_wp2
      go_ret2
      exact ⟨rfl, b1⟩
    · have hb : decide (i < R) = false := by simpa using h4
      have h5 : R ≤ i := by omega
      rw [hb]
      clear h4
      go_enter Try.func89, Try.ntmps89
      go_wp2
      go_ret2
      exact ⟨rfl, b1⟩
  · rw [h]
    clear h
    obtain rfl : ref = !decide (i < R) := by rw [h3]; simp
    clear h3
    by_cases h4 : i < R
    · have hb : decide (i < R) = true := by simpa using h4
      rw [hb]
      clear hb
      go_enter Try.func89, Try.ntmps89
      go_wp2
      go_ret2
      exact ⟨rfl, b1⟩
    · have hb : decide (i < R) = false := by simpa using h4
      have h5 : R ≤ i := by omega
      rw [hb]
      clear h4
      go_enter Try.func89, Try.ntmps89
      go_wp2
      go_ret2
      exact ⟨rfl, b1⟩

/-- Bounds of an object. -/
structure ObB (W R a i : Int) : Prop where
  a0 : 0 ≤ a
  a1 : a ≤ 100000
  w0 : 0 ≤ W
  w1 : W ≤ 100
  i1 : i ≤ 9223372036854775807

theorem fldP_ok {W R a i : Int} {ref : Bool} (h : fldC W R i ref = 0) : fldP W R a i ref = a + 1 + i ∧ 0 ≤ i ∧ i < W := by
  refine ⟨if_pos h, ?_⟩
  rcases fldC_cases W R i ref with ⟨h', _⟩ | ⟨_, h1, h2, _⟩ | ⟨h', _⟩
  · omega
  · exact ⟨h1, h2⟩
  · omega
theorem fldC_bd (W R i : Int) (ref : Bool) : 0 ≤ fldC W R i ref ∧ fldC W R i ref ≤ 10 := by
  rcases fldC_cases W R i ref with ⟨h', _⟩ | ⟨h', _⟩ | ⟨h', _⟩ <;> omega

set_option maxRecDepth 100000 in
set_option maxHeartbeats 2000000 in
theorem oread_any (h : DevH) (D : DevS) (W R a i : Int) (w : World) (hd : Dev w h D) (hb : ObB W R a i) :
    Calls Try.prog 58 #[.agg #[.int .i64 W, .int .i64 R, .int .i64 a], .pointer (some ⟨h.d, 0, none⟩), .int .i64 i] w fun e w' => e = .returned (.tuple #[.int .u64 (if fldC W R i false = 0 then D.at (a + 1 + i).toNat else 0), .int .i64 (fldC W R i false)]) ∧ Below w.heap.size w w' := by
  have kf := fun w => field_any W R a i false w hb.a0 hb.a1 hb.w0 hb.w1 hb.i1
  have b1 : Below w.heap.size w (w.alloc (.cells #[.int .i64 W, .int .i64 R, .int .i64 a] 81)) := (Below.refl _ _).alloc (Nat.le_refl _) _
  have hd1 := hd.grow b1
  obtain ⟨a0, a1, w0, w1, i1⟩ := hb
  obtain ⟨q0, q1⟩ := fldC_bd W R i false
  by_cases h0 : fldC W R i false = 0
  · obtain ⟨e1, e2, e3⟩ := fldP_ok (a := a) h0
    have kl := load_at h D (a + 1 + i)
    rw [if_pos h0, h0]
    rw [h0, e1] at kf
    clear h0 e1 q0 q1
    go_enter Try.func58, Try.ntmps58
    go_wp2_with fail
    generalize w.alloc (.cells #[.int .i64 W, .int .i64 R, .int .i64 a] 81) = wA at *
    refine (kf _).mono ?_
    rintro e w2 ⟨rfl, d2⟩
    have hd2 := hd1.grow d2
    have b2 := Below.grown_trans b1 d2
    clear kf
    go_wp2_with fail
    refine (kl _ hd2 (by omega)).mono ?_
    rintro e w3 ⟨rfl, rfl⟩
    clear kl
    go_wp2_with fail
    go_ret2
    exact ⟨rfl, b2⟩
  · rw [if_neg h0]
    generalize fldC W R i false = q at *
    generalize fldP W R a i false = q2 at *
    go_enter Try.func58, Try.ntmps58
    go_wp2_with fail
    refine (kf _).mono ?_
    rintro e w2 ⟨rfl, d2⟩
    have b2 := Below.grown_trans b1 d2
    clear kf
    go_wp2_with fail
    go_ret2
    exact ⟨rfl, b2⟩

set_option maxRecDepth 100000 in
set_option maxHeartbeats 2000000 in
theorem oref_any (h : DevH) (D : DevS) (W R a i : Int) (w : World) (hd : Dev w h D) (hb : ObB W R a i) :
    Calls Try.prog 59 #[.agg #[.int .i64 W, .int .i64 R, .int .i64 a], .pointer (some ⟨h.d, 0, none⟩), .int .i64 i] w fun e w' => e = .returned (.tuple #[.int .i64 (if fldC W R i true = 0 then wrap64 (D.at (a + 1 + i).toNat) else 0), .int .i64 (fldC W R i true)]) ∧ Below w.heap.size w w' := by
  have kf := fun w => field_any W R a i true w hb.a0 hb.a1 hb.w0 hb.w1 hb.i1
  have b1 : Below w.heap.size w (w.alloc (.cells #[.int .i64 W, .int .i64 R, .int .i64 a] 81)) := (Below.refl _ _).alloc (Nat.le_refl _) _
  have hd1 := hd.grow b1
  obtain ⟨a0, a1, w0, w1, i1⟩ := hb
  obtain ⟨q0, q1⟩ := fldC_bd W R i true
  by_cases h0 : fldC W R i true = 0
  · obtain ⟨e1, e2, e3⟩ := fldP_ok (a := a) h0
    have kl := load_at h D (a + 1 + i)
    rw [if_pos h0, h0]
    rw [h0, e1] at kf
    clear h0 e1 q0 q1
    generalize D.at (a + 1 + i).toNat = xv at *
    go_enter Try.func59, Try.ntmps59
    go_wp2_with fail
    generalize w.alloc (.cells #[.int .i64 W, .int .i64 R, .int .i64 a] 81) = wA at *
    refine (kf _).mono ?_
    rintro e w2 ⟨rfl, d2⟩
    have hd2 := hd1.grow d2
    have b2 := Below.grown_trans b1 d2
    clear kf
    go_wp2_with fail
    refine (kl _ hd2 (by omega)).mono ?_
    rintro e w3 ⟨rfl, rfl⟩
    clear kl
    go_wp2_with fail
    go_ret2
    exact ⟨rfl, b2⟩
  · rw [if_neg h0]
    generalize fldC W R i true = q at *
    generalize fldP W R a i true = q2 at *
    go_enter Try.func59, Try.ntmps59
    go_wp2_with fail
    refine (kf _).mono ?_
    rintro e w2 ⟨rfl, d2⟩
    have b2 := Below.grown_trans b1 d2
    clear kf
    go_wp2_with fail
    go_ret2
    exact ⟨rfl, b2⟩
end Go.Proofs.Ytpecgfpofihibaa
