/-
  ulog.Append; what a call leaves as it was, for any set of blocks.
-/
import Derived.Test.YtpecgfpofihibaaLog
namespace Go.Proofs.Ytpecgfpofihibaa
open Go Go.RowKit Go.MapKept

/-- Of the blocks that there were, those outside S are as they were. -/
structure Lef (S : Nat → Prop) (w w' : World) : Prop where
  os : w'.os = w.os
  tape : w'.tape = w.tape
  output : w'.output = w.output
  size : w.heap.size ≤ w'.heap.size
  block : ∀ k, k < w.heap.size → ¬ S k → w'.heap[k]? = w.heap[k]?

theorem Lef.refl (S : Nat → Prop) (w : World) : Lef S w w := ⟨rfl, rfl, rfl, Nat.le_refl _, fun _ _ _ => rfl⟩
theorem Lef.trans {S : Nat → Prop} {a b c : World} (h : Lef S a b) (k : Lef S b c) : Lef S a c :=
  ⟨k.os.trans h.os, k.tape.trans h.tape, k.output.trans h.output, Nat.le_trans h.size k.size,
   fun i hi ho => (k.block i (Nat.lt_of_lt_of_le hi h.size) ho).trans (h.block i hi ho)⟩
theorem Lef.mono {S T : Nat → Prop} {a b : World} (h : Lef S a b) (hS : ∀ k, S k → T k) : Lef T a b :=
  ⟨h.os, h.tape, h.output, h.size, fun k hk ho => h.block k hk (fun hs => ho (hS k hs))⟩
theorem Lef.of_left {S : Nat → Prop} {lo hi : Nat} {a b : World} (h : Left lo hi a b) (hS : ∀ k, lo ≤ k → k < hi → S k) : Lef S a b :=
  ⟨h.os, h.tape, h.output, h.size, fun k hk ho => h.block k hk (by
    rcases Nat.lt_or_ge k lo with h1 | h1
    · exact .inl h1
    · rcases Nat.lt_or_ge k hi with h2 | h2
      · exact absurd (hS k h1 h2) ho
      · exact .inr h2)⟩
theorem Lef.of_below {S : Nat → Prop} {a b : World} (h : Below a.heap.size a b) : Lef S a b := ⟨h.os, h.tape, h.output, h.size, fun k hk _ => h.block k hk⟩
theorem Lef.below {S : Nat → Prop} {B : Nat} {a b : World} (h : Lef S a b) (h1 : ∀ k, S k → B ≤ k) (h2 : B ≤ a.heap.size) : Below B a b :=
  ⟨h.os, h.tape, h.output, h.size, fun k hk => h.block k (by omega) (fun hs => by have := h1 k hs; omega)⟩
/-- What has been made since a may be turned. -/
theorem Lef.andNew {S T : Nat → Prop} {a b c : World} (h : Lef S a b) (k : Lef T b c) (hr : ∀ k, T k → a.heap.size ≤ k ∨ S k) : Lef S a c :=
  ⟨k.os.trans h.os, k.tape.trans h.tape, k.output.trans h.output, Nat.le_trans h.size k.size,
   fun i hi ho => (k.block i (Nat.lt_of_lt_of_le hi h.size) (fun ht => (hr i ht).elim (fun h1 => absurd hi (Nat.not_lt.2 h1)) ho)).trans (h.block i hi ho)⟩
theorem Lef.setCell {S : Nat → Prop} {a b : World} (h : Lef S a b) {p : Addr} (hp : S p.block) (v : Value) : Lef S a (b.setCell p v) :=
  h.trans ⟨rfl, rfl, rfl, by simp, fun k _ ho => Below.heap_setCell _ _ _ _ (fun he => ho (by rw [he]; exact hp))⟩
theorem Is.lef {S : Nat → Prop} {w w' : World} {b : Nat} {o : Obj} (h : Is w b o) (hl : Lef S w w') (hb : ¬ S b) : Is w' b o := (hl.block b h.lt hb).trans h
theorem Row.lef {S : Nat → Prop} {w w' : World} {b cap : Nat} {l : List Int} (h : Row w b cap l) (hl : Lef S w w') (hb : ¬ S b) : Row w' b cap l := by
  obtain ⟨r, h1, h2⟩ := h.is
  exact ⟨r, h1.lef hl hb, h2⟩
theorem Dev.lef {S : Nat → Prop} {w w' : World} {h : DevH} {D : DevS} (hd : Dev w h D) (hl : Lef S w w') (ho : ∀ k, h.lo ≤ k → k < h.hi → ¬ S k) : Dev w' h D := by
  obtain ⟨h1, ⟨u, h2⟩, h3, ⟨r, h4, hr⟩, ⟨es, ck, h5, hq⟩, hh, hD, ht⟩ := hd
  have g := hh
  obtain ⟨r1, r2, r3, r4, r5, _, _, _⟩ := g
  exact ⟨h1.lef hl (ho _ r1.1 r1.2), ⟨u, h2.lef hl (ho _ r2.1 r2.2)⟩, h3.lef hl (ho _ r3.1 r3.2), ⟨r, h4.lef hl (ho _ r4.1 r4.2), hr⟩, ⟨es, ck, h5.lef hl (ho _ r5.1 r5.2), hq⟩, hh, hD, Nat.le_trans ht hl.size⟩

/-- A device's blocks, and a log's. -/
def dl (h : DevH) (lb : Nat) (k : Nat) : Prop := (h.lo ≤ k ∧ k < h.hi) ∨ k = lb

theorem lgc_cells {w : World} {lb : Nat} {h : DevH} {c : Cf} {ep n : Int} (hl : Is w lb (lgc h c ep n)) :
    w.cell? ⟨lb, 0, none⟩ = some (.pointer (some ⟨h.d, 0, none⟩)) ∧ w.cell? ⟨lb, 1, none⟩ = some (.int .i64 c.L) ∧ w.cell? ⟨lb, 2, none⟩ = some (.int .i64 c.R) ∧ w.cell? ⟨lb, 3, none⟩ = some (.int .i64 c.S) ∧ w.cell? ⟨lb, 4, none⟩ = some (.int .u64 ep) ∧ w.cell? ⟨lb, 5, none⟩ = some (.int .i64 n) :=
  ⟨hl.cell, hl.cell, hl.cell, hl.cell, hl.cell, hl.cell⟩

/-- The device behind a record. -/
def DevS.append (D : DevS) (at' ep n i : Int) : DevS :=
  ((((((((D.store (at' + 1) i).store (at' + 2) (rd (D.store (at' + 1) i).now i)).flush at').fence).store at' (stampv ep n)).flush at').fence))

set_option maxHeartbeats 400000 in
theorem append_range (h : DevH) (D : DevS) (c : Cf) (lb : Nat) (ep n i : Int) (w : World) (hd : Dev w h D) (hl : Is w lb (lgc h c ep n)) (hi : i < 0 ∨ D.now.length ≤ i) :
    Calls Try.prog 25 #[.pointer (some ⟨lb, 0, none⟩), .int .i64 i] w fun e w' => e = .returned (.int .i64 1) ∧ w = w' := by
  obtain ⟨c0, _⟩ := lgc_cells hl
  have k := len_any h D w hd
  clear hd hl
  unfold DevH.ptr at k
  rcases hi with hi | hi
  · go_enter Try.func25, Try.ntmps25
    go_wp2_with fail
    go_ret
    exact ⟨rfl, rfl⟩
  · have h0 : 0 ≤ i := by omega
    go_enter Try.func25, Try.ntmps25
    go_wp2_with fail
    refine k.mono ?_
    rintro e w' ⟨rfl, rfl⟩
    clear k
    go_wp2_with fail
    go_ret
    exact ⟨rfl, rfl⟩

set_option maxHeartbeats 400000 in
theorem append_full (h : DevH) (D : DevS) (c : Cf) (lb : Nat) (ep i : Int) (w : World) (hd : Dev w h D) (hl : Is w lb (lgc h c ep c.L)) (h0 : 0 ≤ i) (h1 : i < D.now.length) :
    Calls Try.prog 25 #[.pointer (some ⟨lb, 0, none⟩), .int .i64 i] w fun e w' => e = .returned (.int .i64 3) ∧ Below w.heap.size w w' := by
  obtain ⟨c0, c1, c2, c3, c4, c5⟩ := lgc_cells hl
  have k := len_any h D w hd
  clear hd hl c2 c3 c4
  unfold DevH.ptr at k
  have G1 := GrW.cell c1
  have G5 := GrW.cell c5
  go_enter Try.func25, Try.ntmps25
  go_wp2_with fail
  refine k.mono ?_
  rintro e w' ⟨rfl, rfl⟩
  clear k
  go_wp2_with fail
  refine wp_gr (by kernel_rfl) (by kernel_rfl) ?_
  repeat (go_big_quiet_step (fail))
  refine wpQuiet_nil ?_
  rintro w4 ⟨⟨_, hw4⟩, rfl⟩
  clear G1 G5 c0 c1 c5
  go_wp2
  go_ret
  exact ⟨rfl, hw4⟩

theorem stampv_u64 {ep n : Int} (h0 : 0 ≤ ep) (h1 : ep < 4294967296) (h2 : 0 ≤ n) (h3 : n ≤ 100000) : U64 (stampv ep n) := by
  unfold stampv U64; omega

theorem rd_wf {l : List Int} (h : ∀ x ∈ l, U64 x) (i : Int) : U64 (rd l i) := by
  unfold rd
  split
  · rw [List.getD_eq_getElem?_getD]
    cases hg : l[i.toNat]? with
    | none => exact u64_0
    | some y => exact h y (List.mem_of_getElem? hg)
  · exact u64_0

set_option maxHeartbeats 4000000 in
theorem append_any (h : DevH) (D : DevS) (c : Cf) (lb : Nat) (ep i : Int) (n : Nat) (w : World) (hd : Dev w h D) (hl : Is w lb (lgc h c ep n)) (hlb : lb < h.lo ∨ h.hi ≤ lb) (hc : c.ok) (hN : (D.now.length : Int) = c.words)
    (he0 : 0 ≤ ep) (he1 : ep < 4294967296) (hn : (n : Int) < c.L) (h0 : 0 ≤ i) (h1 : i < D.now.length) :
    Calls Try.prog 25 #[.pointer (some ⟨lb, 0, none⟩), .int .i64 i] w fun e w' => e = .returned (.int .i64 0) ∧ Dev w' h (D.append (16 + 4 * (n : Int)) ep n i) ∧ Is w' lb (lgc h c ep (n + 1 : Nat)) ∧ Lef (dl h lb) w w' := by
  have hcb := c.bds
  have ha1 := hcb.a1
  have hf1 := hcb.f1
  have hs1 := hcb.s1
  have hw : c.words = c.fr0 + 2 * ln c.S := rfl
  obtain ⟨q3, q4, q1, q2, q5, q6⟩ := id hc
  have hat : 16 + 4 * (n : Int) + 3 < D.now.length := by omega
  have hsm := hd.dok.small
  clear hcb hw ha1 hf1 hs1 hN
  obtain ⟨c0, c1, c2, c3, c4, c5⟩ := lgc_cells hl
  have k := len_any h D w hd
  unfold DevH.ptr at k
  have G1 := GrW.cell c1
  have G5 := GrW.cell c5
  go_enter Try.func25, Try.ntmps25
  go_wp2_with fail
  refine k.mono ?_
  rintro e w' ⟨rfl, rfl⟩
  clear k
  go_wp2_with fail
  refine wp_gr (by kernel_rfl) (by kernel_rfl) ?_
  repeat (go_big_quiet_step (fail))
  rw [show ((n : Int) == c.L) = false from by simp; omega]
  refine wpQuiet_nil ?_
  rintro w1 ⟨⟨_, hw1⟩, rfl⟩
  have hd1 := hd.grow hw1
  have hl1 := hl.grow hw1
  have L1 : Lef (dl h lb) w w1 := Lef.of_below hw1
  clear G1 G5 c0 c1 c2 c3 c4 c5 hd hl hw1
  obtain ⟨c0, c1, c2, c3, c4, c5⟩ := lgc_cells hl1
  go_wp2_with fail
  have G1 := GrW.cell c1
  have G2 := GrW.cell c2
  have G3 := GrW.cell c3
  have G5 := GrW.cell c5
  have kr : ∀ x : GrW w1, Calls Try.prog 75 #[.agg #[.int .i64 c.L, .int .i64 c.R, .int .i64 c.S], .int .i64 n] x.1 fun e w' => e = .returned (.int .i64 (16 + 4 * (n : Int))) ∧ Below x.1.heap.size x.1 w' := fun x => record_any c n x.1 (by omega) (by omega)
  refine wp_gr (by kernel_rfl) (by kernel_rfl) ?_
  repeat (go_big_quiet_step (first | (go_at_call 75; exact gr_call (kr _))))
  refine wpQuiet_nil ?_
  rintro w2 ⟨⟨_, hw2⟩, rfl⟩
  have hd2 := hd1.grow hw2
  have hl2 := hl1.grow hw2
  have L2 := L1.trans (Lef.of_below hw2)
  clear c0 c1 c2 c3 c4 c5 hd1 hl1 L1 hw2 G1 G2 G3 G5 kr
  obtain ⟨c0, c1, c2, c3, c4, c5⟩ := lgc_cells hl2
  generalize ha : (16 : Int) + 4 * (n : Int) = a at *
  have ha0 : 0 ≤ a := by omega
  have ha1 : a ≤ 1000 := by omega
  have Ha := Lib.hid ha
  clear ha
  unfold DevH.ptr at *
  go_wp2_with fail
  refine (store_any h _ (a + 1) i _ hd2 (by omega) (by omega) ⟨by omega, by omega⟩).mono ?_
  rintro e w3 ⟨rfl, hd3, lf3⟩
  have hl3 := hl2.left lf3 hlb
  have L3 := L2.trans (Lef.of_left lf3 (fun _ h1 h2 => .inl ⟨h1, h2⟩))
  clear c0 c1 c2 c3 c4 c5 hd2 hl2 L2 lf3
  obtain ⟨c0, c1, c2, c3, c4, c5⟩ := lgc_cells hl3
  have hi1 : i < (D.store (a + 1) i).now.length := by simp; omega
  have hv1 : U64 (rd (D.store (a + 1) i).now i) := rd_wf hd3.dok.wn i
  generalize hxv : rd (D.store (a + 1) i).now i = xv at *
  have kl : ∀ x : GrW w3, Calls Try.prog 26 #[.pointer (some ⟨h.d, 0, none⟩), .int .i64 i] x.1 fun e w' => e = .returned (.int .u64 xv) ∧ x.1 = w' := fun x => by
    have := load_any h _ i x.1 (hd3.grow x.2)
    rw [hxv] at this
    exact this
  have Hxv := Lib.hid hxv
  clear hxv
  go_wp2_with fail
  have G0 := GrW.cell c0
  refine wp_gr_tail 12 (by kernel_rfl) (by kernel_rfl) ?_
  simp only [List.take_succ_cons, List.take_zero, List.drop_succ_cons, List.drop_zero]
  repeat (go_big_quiet_step (first | (go_at_call 26; exact gr_call_same (kl _))))
  refine wpQuiet_nil ?_
  rintro w4 ⟨⟨_, hw4⟩, rfl⟩
  have hd4 := hd3.grow hw4
  have hl4 := hl3.grow hw4
  have L4 := L3.trans (Lef.of_below hw4)
  clear c0 c1 c2 c3 c4 c5 hd3 hl3 L3 hw4 G0 kl
  obtain ⟨c0, c1, c2, c3, c4, c5⟩ := lgc_cells hl4
  go_wp2_with fail
  refine (store_any h _ (a + 2) xv _ hd4 (by omega) (by simp; omega) hv1).mono ?_
  rintro e w5 ⟨rfl, hd5, lf5⟩
  have hl5 := hl4.left lf5 hlb
  have L5 := L4.trans (Lef.of_left lf5 (fun _ h1 h2 => .inl ⟨h1, h2⟩))
  clear c0 c1 c2 c3 c4 c5 hd4 hl4 L4 lf5
  obtain ⟨c0, c1, c2, c3, c4, c5⟩ := lgc_cells hl5
  go_wp2_with fail
  refine (flush_any h _ a _ hd5 (by omega) (by simp; omega)).mono ?_
  rintro e w6 ⟨rfl, hd6, lf6⟩
  have hl6 := hl5.left lf6 hlb
  have L6 := L5.trans (Lef.of_left lf6 (fun _ h1 h2 => .inl ⟨h1, h2⟩))
  clear c0 c1 c2 c3 c4 c5 hd5 hl5 L5 lf6
  obtain ⟨c0, c1, c2, c3, c4, c5⟩ := lgc_cells hl6
  go_wp2_with fail
  refine (fence_any h _ _ hd6).mono ?_
  rintro e w7 ⟨rfl, hd7, lf7⟩
  have hl7 := hl6.left lf7 hlb
  have L7 := L6.trans (Lef.of_left lf7 (fun _ h1 h2 => .inl ⟨h1, h2⟩))
  clear c0 c1 c2 c3 c4 c5 hd6 hl6 L6 lf7
  obtain ⟨c0, c1, c2, c3, c4, c5⟩ := lgc_cells hl7
  have hsv : U64 (stampv ep n) := stampv_u64 he0 he1 (by omega) (by omega)
  have ks : ∀ x : GrW w7, Calls Try.prog 76 #[.int .u64 ep, .int .i64 n] x.1 fun e w' => e = .returned (.int .u64 (stampv ep n)) ∧ x.1 = w' := fun x => stamp_any _ _ _ he0 he1 (by omega) (by omega)
  go_wp2_with fail
  have G0 := GrW.cell c0
  have G4 := GrW.cell c4
  have G5 := GrW.cell c5
  refine wp_gr_tail 14 (by kernel_rfl) (by kernel_rfl) ?_
  simp only [List.take_succ_cons, List.take_zero, List.drop_succ_cons, List.drop_zero]
  repeat (go_big_quiet_step (first | (go_at_call 76; exact gr_call_same (ks _))))
  refine wpQuiet_nil ?_
  rintro w8 ⟨⟨_, hw8⟩, rfl⟩
  have hd8 := hd7.grow hw8
  have hl8 := hl7.grow hw8
  have L8 := L7.trans (Lef.of_below hw8)
  clear c0 c1 c2 c3 c4 c5 hd7 hl7 L7 hw8 G0 G4 G5 ks
  obtain ⟨c0, c1, c2, c3, c4, c5⟩ := lgc_cells hl8
  go_wp2_with fail
  refine (store_any h _ a (stampv ep n) _ hd8 (by omega) (by simp; omega) hsv).mono ?_
  rintro e w9 ⟨rfl, hd9, lf9⟩
  have hl9 := hl8.left lf9 hlb
  have L9 := L8.trans (Lef.of_left lf9 (fun _ h1 h2 => .inl ⟨h1, h2⟩))
  clear c0 c1 c2 c3 c4 c5 hd8 hl8 L8 lf9
  obtain ⟨c0, c1, c2, c3, c4, c5⟩ := lgc_cells hl9
  go_wp2_with fail
  refine (flush_any h _ a _ hd9 (by omega) (by simp; omega)).mono ?_
  rintro e w10 ⟨rfl, hd10, lf10⟩
  have hl10 := hl9.left lf10 hlb
  have L10 := L9.trans (Lef.of_left lf10 (fun _ h1 h2 => .inl ⟨h1, h2⟩))
  clear c0 c1 c2 c3 c4 c5 hd9 hl9 L9 lf10
  obtain ⟨c0, c1, c2, c3, c4, c5⟩ := lgc_cells hl10
  go_wp2_with fail
  refine (fence_any h _ _ hd10).mono ?_
  rintro e w11 ⟨rfl, hd11, lf11⟩
  have hl11 := hl10.left lf11 hlb
  have L11 := L10.trans (Lef.of_left lf11 (fun _ h1 h2 => .inl ⟨h1, h2⟩))
  clear c0 c1 c2 c3 c4 c5 hd10 hl10 L10 lf11
  obtain ⟨c0, c1, c2, c3, c4, c5⟩ := lgc_cells hl11
  have f5 : w11.frozen? ⟨lb, 5, none⟩ = false := hl11.free
  have lf : Is (w11.setCell ⟨lb, 5, none⟩ (.int .i64 ((n : Int) + 1))) lb (lgc h c ep (n + 1 : Nat)) := hl11.set (i := 5) (.int .i64 ((n : Int) + 1))
  have df := hd11.set (p := ⟨lb, 5, none⟩) hlb (.int .i64 ((n : Int) + 1))
  have Lf := L11.setCell (p := ⟨lb, 5, none⟩) (.inr rfl) (.int .i64 ((n : Int) + 1))
  rw [← Hxv.out, ← Ha.out] at df
  clear c0 c1 c2 c3 c4 hd11 hl11 L11 Hxv Ha
  go_wp2
  go_ret
  exact ⟨rfl, df, lf, Lf⟩
end Go.Proofs.Ytpecgfpofihibaa
