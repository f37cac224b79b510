/-
  ulog: Open, Len, Epoch.
-/
import Derived.Test.YtpecgfpofihibaaHead
import Derived.Test.YtpecgfpofihibaaSync
namespace Go.Proofs.Ytpecgfpofihibaa
open Go Go.RowKit Go.MapKept

/-- What stamps a record. -/
def stampv (ep i : Int) : Int := ep * 4294967296 + (i + 1)

/-- A log lies at b. -/
def lgc (h : DevH) (c : Cf) (ep n : Int) : Obj := .cells #[h.ptr, .int .i64 c.L, .int .i64 c.R, .int .i64 c.S, .int .u64 ep, .int .i64 n] 125 (0, 0)

theorem or_stamp (ep i : Int) (h0 : 0 ≤ ep) (h1 : ep < 4294967296) (h2 : 0 ≤ i) (h3 : i ≤ 100000) : Go.bits BinOp.or IntKind.u64 (ep * 4294967296) (i + 1) = stampv ep i :=
  bits_or_apart _ _ 32 (by decide) (by omega) (by omega) (by omega) (by omega) (by omega)

set_option maxHeartbeats 400000 in
theorem stamp_any (ep i : Int) (w : World) (h0 : 0 ≤ ep) (h1 : ep < 4294967296) (h2 : 0 ≤ i) (h3 : i ≤ 100000) :
    Calls Try.prog 76 #[.int .u64 ep, .int .i64 i] w fun e w' => e = .returned (.int .u64 (stampv ep i)) ∧ w = w' := by
  rw [← or_stamp ep i h0 h1 h2 h3]
  go_enter Try.func76, Try.ntmps76
  go_wp2
  go_ret
  exact ⟨by simp, rfl⟩

/-- A log's epoch. -/
def DevS.ep (D : DevS) : Int := D.at 8 % 4294967296

/-- How many records there are. -/
structure LogN (D : DevS) (c : Cf) (n : Nat) : Prop where
  all : ∀ k : Nat, k < n → D.at (16 + 4 * k) = stampv D.ep k
  last : (n : Int) = c.L ∨ D.at (16 + 4 * n) ≠ stampv D.ep n
  le : (n : Int) ≤ c.L

theorem Is.free6 {w : World} {b t : Nat} {cs : Array Value} (h : Is w b (.cells cs t (0, 0))) (i : Nat) : w.frozen? ⟨b, i, none⟩ = false := h.free

/-- The number in a cell. -/
def cellN (w : World) (a : Addr) : Nat := match w.cell? a with | some (.int _ x) => x.toNat | _ => 0

set_option maxHeartbeats 4000000 in
theorem open_any (h : DevH) (D : DevS) (c : Cf) (n : Nat) (w : World) (hd : Dev w h D) (hc : c.ok) (hn : LogN D c n) :
    Calls Try.prog 23 #[h.ptr, c.val] w fun e w' => ∃ b, e = .returned (.pointer (some ⟨b, 0, none⟩)) ∧ Is w' b (lgc h c D.ep n) ∧ w.heap.size ≤ b ∧ Below w.heap.size w w' := by
  have hv : c.val = .agg #[.int .i64 c.L, .int .i64 c.R, .int .i64 c.S] := rfl
  have i1 := Is.new w (.cells #[.int .i64 c.L, .int .i64 c.R, .int .i64 c.S] 29)
  have hd1 := hd.alloc (.cells #[.int .i64 c.L, .int .i64 c.R, .int .i64 c.S] 29)
  have b1 : Below w.heap.size w (w.alloc (.cells #[.int .i64 c.L, .int .i64 c.R, .int .i64 c.S] 29)) := (Below.refl _ _).alloc (Nat.le_refl _) _
  obtain ⟨q3, q4, q1, q2, q5, q6⟩ := hc
  have hx0 : U64 (D.at 8) := by
    unfold DevS.at
    rw [List.getD_eq_getElem?_getD]
    cases hg : D.now[8]? with
    | none => exact u64_0
    | some y => exact hd.dok.wn y (List.mem_of_getElem? hg)
  have hep0 : 0 ≤ D.ep := by unfold DevS.ep; omega
  have hep1 : D.ep < 4294967296 := by unfold DevS.ep; omega
  have hand : Go.bits .and .u64 (D.at 8) 4294967295 = D.ep := bits_and_low (D.at 8) 32 (by decide) hx0.1 hx0.2
  have HA := Lib.hid hand
  have e8 : rd D.now 8 = D.at 8 := rd_nat D 8
  have E8 := Lib.hid e8
  clear hand hx0 hd e8
  rw [hv]
  clear hv
  unfold DevH.ptr
  go_enter Try.func23, Try.ntmps23
  go_wp2_with fail
  generalize w.alloc (.cells #[.int .i64 c.L, .int .i64 c.R, .int .i64 c.S] 29) = w1 at *
  have G := GrW.c3 i1
  refine wp_gr_tail 6 (by kernel_rfl) (by kernel_rfl) ?_
  simp only [List.take_succ_cons, List.take_zero, List.drop_succ_cons, List.drop_zero]
  have k8 : ∀ x : GrW w1, Calls Try.prog 26 #[.pointer (some ⟨h.d, 0, none⟩), .int .i64 8] x.1 fun e w' => e = .returned (.int .u64 (D.at 8)) ∧ x.1 = w' := fun x => by
    have := load_any h D 8 x.1 (hd1.grow x.2)
    rw [E8.out] at this
    exact this
  repeat (go_big_quiet_step (first | (go_at_call 26; exact gr_call_same (k8 _))))
  refine wpQuiet_nil ?_
  rintro w2 ⟨⟨_, hw2⟩, rfl⟩
  have hd2 := hd1.grow hw2
  have i2 := i1.grow hw2
  have b2 := Below.grown_trans b1 hw2
  clear k8 G hd1 i1 b1 hw2 E8
  have hnew := Is.new w2 (.cells #[.pointer (some ⟨h.d, 0, none⟩), .int .i64 c.L, .int .i64 c.R, .int .i64 c.S, .int .u64 D.ep, .int .i64 0] 125)
  rw [HA.out]
  have l3 : Is (w2.alloc (.cells #[.pointer (some ⟨h.d, 0, none⟩), .int .i64 c.L, .int .i64 c.R, .int .i64 c.S, .int .u64 D.ep, .int .i64 0] 125)) w2.heap.size (lgc h c D.ep (0 : Nat)) := hnew
  have hd3 := hd2.alloc (.cells #[.pointer (some ⟨h.d, 0, none⟩), .int .i64 c.L, .int .i64 c.R, .int .i64 c.S, .int .u64 D.ep, .int .i64 0] 125)
  have i3 := i2.alloc (.cells #[.pointer (some ⟨h.d, 0, none⟩), .int .i64 c.L, .int .i64 c.R, .int .i64 c.S, .int .u64 D.ep, .int .i64 0] 125)
  have b3 : Below w.heap.size w (w2.alloc (.cells #[.pointer (some ⟨h.d, 0, none⟩), .int .i64 c.L, .int .i64 c.R, .int .i64 c.S, .int .u64 D.ep, .int .i64 0] 125)) := b2.alloc b2.size _
  have hlt := i2.lt
  have htop := hd2.top
  clear hnew hd2 i2
  go_wp2
  clear HA
  generalize w2.alloc (.cells #[.pointer (some ⟨h.d, 0, none⟩), .int .i64 c.L, .int .i64 c.R, .int .i64 c.S, .int .u64 D.ep, .int .i64 0] 125) = w3 at *
  have hbs := b2.size
  generalize w2.heap.size = lb at *
  clear b2
  go_loopw [13] (fun _ wr => ∃ k : Nat, k ≤ n ∧ Dev wr h D ∧ Is wr w.heap.size (.cells #[.int .i64 c.L, .int .i64 c.R, .int .i64 c.S] 29 (0, 0)) ∧ Is wr lb (lgc h c D.ep k) ∧ Below w.heap.size w wr)
    (fun _ wr => n - cellN wr ⟨lb, 5, none⟩)
  case atStart => exact ⟨0, by omega, hd3, i3, l3, b3⟩
  case round =>
    obtain ⟨k, hk, hdr, ir, lr, br⟩ := hrel
    clear hd3 i3 l3 b3
    have c4 : wr.cell? ⟨lb, 4, none⟩ = some (.int .u64 D.ep) := by rw [lr.cell]; rfl
    have c5 : wr.cell? ⟨lb, 5, none⟩ = some (.int .i64 k) := by rw [lr.cell]; rfl
    have G4 := GrW.cell c4
    have G5 := GrW.cell c5
    have G := GrW.c3 ir
    have hkL : (k : Int) ≤ c.L := by have := hn.le; omega
    have k27 : ∀ x : GrW wr, Calls Try.prog 75 #[.agg #[.int .i64 c.L, .int .i64 c.R, .int .i64 c.S], .int .i64 k] x.1 fun e w' => e = .returned (.int .i64 (16 + 4 * (k : Int))) ∧ Below x.1.heap.size x.1 w' := fun x => record_any c k x.1 (by omega) (by omega)
    have k28 : ∀ x : GrW wr, Calls Try.prog 26 #[.pointer (some ⟨h.d, 0, none⟩), .int .i64 (16 + 4 * (k : Int))] x.1 fun e w' => e = .returned (.int .u64 (D.at (16 + 4 * k))) ∧ x.1 = w' := fun x => by
      have := load_any h D (16 + 4 * (k : Int)) x.1 (hdr.grow x.2)
      rw [rd_at _ _ (by omega), show (16 + 4 * (k : Int)).toNat = 16 + 4 * k from by omega] at this
      exact this
    have k37 : ∀ x : GrW wr, Calls Try.prog 76 #[.int .u64 D.ep, .int .i64 k] x.1 fun e w' => e = .returned (.int .u64 (stampv D.ep k)) ∧ x.1 = w' := fun x => stamp_any _ _ _ hep0 hep1 (by omega) (by omega)
    have mcell : ∀ wx (m : Nat), Is wx lb (lgc h c D.ep m) → cellN wx ⟨lb, 5, none⟩ = m := fun wx m hx => by
      unfold cellN
      rw [show wx.cell? ⟨lb, 5, none⟩ = some (.int .i64 m) from by rw [hx.cell]; rfl]
      simp
    have hHn := Lib.hid hn
    clear hn
    by_cases hL : (k : Int) < c.L
    · by_cases heq : D.at (16 + 4 * k) = stampv D.ep k
      · have hkn : k < n := by
          rcases Nat.lt_or_ge k n with h' | h'
          · exact h'
          · exfalso
            obtain rfl : k = n := by omega
            rcases hHn.out.last with h1 | h1
            · omega
            · exact h1 heq
        rw [heq] at k28
        clear heq
        generalize stampv D.ep k = sv at *
        go_wp2_with fail
        refine wp_gr (by kernel_rfl) (by kernel_rfl) ?_
        repeat (go_big_quiet_step (first | (go_at_call 26; exact gr_call_same (k28 _)) | (go_at_call 75; exact gr_call (k27 _)) | (go_at_call 76; exact gr_call_same (k37 _))))
        refine wpQuiet_nil ?_
        rintro w4 ⟨⟨_, hw4⟩, rfl⟩
        have hd4 := hdr.grow hw4
        have i4 := ir.grow hw4
        have l4 := lr.grow hw4
        have b4 := Below.grown_trans br hw4
        have l5 : Is (w4.setCell ⟨lb, 5, none⟩ (.int .i64 ((k : Int) + 1))) lb (lgc h c D.ep (k + 1 : Nat)) := l4.set (i := 5) (.int .i64 ((k : Int) + 1))
        have hd5 := hd4.set (p := ⟨lb, 5, none⟩) (.inr htop) (.int .i64 ((k : Int) + 1))
        have i5 := i4.set_other (p := ⟨lb, 5, none⟩) (by simp; omega) (.int .i64 ((k : Int) + 1))
        have b5 := b4.setCell (p := ⟨lb, 5, none⟩) hbs (.int .i64 ((k : Int) + 1))
        have m5 := mcell _ _ l5
        have m0 := mcell _ _ lr
        have M5 := Lib.hid m5
        have M0 := Lib.hid m0
        have n5 : w4.cell? ⟨lb, 5, none⟩ = some (.int .i64 k) := by rw [l4.cell]; rfl
        have f5 : w4.frozen? ⟨lb, 5, none⟩ = false := l4.free
        clear k27 k28 k37 G G4 G5 c4 c5 hdr ir lr br hw4 hd4 i4 l4 b4 m5 m0 mcell
        go_wp2
        go_roundw
        case rel => exact ⟨k + 1, by omega, hd5, i5, l5, b5⟩
        case measure =>
          rw [M5.out, M0.out]
          omega
      · have hkn : k = n := by
          rcases Nat.lt_or_ge k n with h' | h'
          · exact absurd (hHn.out.all k h') heq
          · omega
        subst hkn
        generalize stampv D.ep k = sv at *
        generalize D.at (16 + 4 * k) = av at *
        go_wp2_with fail
        refine wp_gr (by kernel_rfl) (by kernel_rfl) ?_
        repeat (go_big_quiet_step (first | (go_at_call 26; exact gr_call_same (k28 _)) | (go_at_call 75; exact gr_call (k27 _)) | (go_at_call 76; exact gr_call_same (k37 _))))
        refine wpQuiet_nil ?_
        rintro w4 ⟨⟨_, hw4⟩, rfl⟩
        have l4 := lr.grow hw4
        have b4 := Below.grown_trans br hw4
        clear k27 k28 k37 G G4 G5 c4 c5 hdr ir lr br hw4 mcell
        go_wp2
        go_ret
        exact ⟨lb, rfl, l4, hbs, b4⟩
    · have hkn : k = n := by have := hHn.out.le; omega
      subst hkn
      go_wp2_with fail
      refine wp_gr (by kernel_rfl) (by kernel_rfl) ?_
      repeat (go_big_quiet_step (fail))
      rw [show decide ((k : Int) < c.L) = false from by simp; omega]
      repeat (go_big_quiet_step (fail))
      refine wpQuiet_nil ?_
      rintro w4 ⟨⟨_, hw4⟩, rfl⟩
      have l4 := lr.grow hw4
      have b4 := Below.grown_trans br hw4
      clear k27 k28 k37 G G4 G5 c4 c5 hdr ir lr br hw4 mcell
      go_wp2
      go_ret
      exact ⟨lb, rfl, l4, hbs, b4⟩
end Go.Proofs.Ytpecgfpofihibaa
