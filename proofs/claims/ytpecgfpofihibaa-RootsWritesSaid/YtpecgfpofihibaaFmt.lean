/-
  super.Format, and what a device holds behind it.
-/
import Derived.Test.YtpecgfpofihibaaNew
import Derived.Test.YtpecgfpofihibaaReg
namespace Go.Proofs.Ytpecgfpofihibaa
open Go Go.RowKit Go.MapKept

/-- A store, and its line flushed. -/
def DevS.sf (D : DevS) (i v : Int) : DevS := (D.store i v).flush i

def DevS.fmtLog (c : Cf) (D : DevS) (k : Nat) : DevS := (List.range k).foldl (fun D (i : Nat) => D.sf (c.recd i) 0) D
def DevS.fmtRoot (c : Cf) (D : DevS) (k : Nat) : DevS := (List.range k).foldl (fun D (i : Nat) => D.sf (c.act + i) 0) D
def magic : Int := 6076848300954571569

def DevS.fmt1 (c : Cf) (D : DevS) (k : Nat) : DevS :=
  match k with
  | 0 => (D.sf 0 0).fence
  | 1 => ((D.sf 0 0).fence).store 1 c.L
  | 2 => (((D.sf 0 0).fence).store 1 c.L).store 2 c.R
  | _ => ((((D.sf 0 0).fence).store 1 c.L).store 2 c.R).store 3 c.S

/-- The device behind Format. -/
def DevS.format (c : Cf) (D : DevS) : DevS :=
  ((((((D.fmt1 c 3).sf 8 1).fmtLog c c.L.toNat).fmtRoot c (2 + c.R).toNat).flush 0).fence.sf 0 magic).fence

@[simp] theorem DevS.store_len (D : DevS) (i v : Int) : (D.store i v).now.length = D.now.length := by simp [DevS.store]
@[simp] theorem DevS.flush_len (D : DevS) (i : Int) : (D.flush i).now.length = D.now.length := rfl
@[simp] theorem DevS.sf_len (D : DevS) (i v : Int) : (D.sf i v).now.length = D.now.length := by simp [DevS.sf]
@[simp] theorem DevS.fence_len (D : DevS) : D.fence.now.length = D.now.length := rfl
@[simp] theorem DevS.fmt1_len (c : Cf) (D : DevS) (k : Nat) : (D.fmt1 c k).now.length = D.now.length := by unfold DevS.fmt1; split <;> simp
@[simp] theorem DevS.fmtLog_len (c : Cf) (D : DevS) (k : Nat) : (D.fmtLog c k).now.length = D.now.length := by
  unfold DevS.fmtLog
  induction k with
  | zero => rfl
  | succ k ih => rw [List.range_succ, List.foldl_append]; simpa using ih
@[simp] theorem DevS.fmtRoot_len (c : Cf) (D : DevS) (k : Nat) : (D.fmtRoot c k).now.length = D.now.length := by
  unfold DevS.fmtRoot
  induction k with
  | zero => rfl
  | succ k ih => rw [List.range_succ, List.foldl_append]; simpa using ih
theorem DevS.fmtLog_succ (c : Cf) (D : DevS) (k : Nat) : D.fmtLog c (k + 1) = (D.fmtLog c k).sf (c.recd k) 0 := by
  unfold DevS.fmtLog; rw [List.range_succ, List.foldl_append]; rfl
theorem DevS.fmtRoot_succ (c : Cf) (D : DevS) (k : Nat) : D.fmtRoot c (k + 1) = (D.fmtRoot c k).sf (c.act + k) 0 := by
  unfold DevS.fmtRoot; rw [List.range_succ, List.foldl_append]; rfl

theorem Is.c3 {w : World} {b t : Nat} {v0 v1 v2 : Value} {f : Nat × Nat} (h : Is w b (.cells #[v0, v1, v2] t f)) :
    w.cell? ⟨b, 0, none⟩ = some v0 ∧ w.cell? ⟨b, 1, none⟩ = some v1 ∧ w.cell? ⟨b, 2, none⟩ = some v2 := ⟨h.cell, h.cell, h.cell⟩
theorem GrW.c3 {w : World} {b t : Nat} {v0 v1 v2 : Value} {f : Nat × Nat} (h : Is w b (.cells #[v0, v1, v2] t f)) : ∀ x : GrW w,
    x.1.cell? ⟨b, 0, none⟩ = some v0 ∧ x.1.cell? ⟨b, 1, none⟩ = some v1 ∧ x.1.cell? ⟨b, 2, none⟩ = some v2 := fun x => (h.grow x.2).c3
theorem GrW.dev {w : World} {h : DevH} {D : DevS} (hd : Dev w h D) (x : GrW w) : Dev x.1 h D := hd.grow x.2

theorem u64_0 : U64 0 := ⟨by decide, by decide⟩
theorem u64_1 : U64 1 := ⟨by decide, by decide⟩
theorem u64_magic : U64 magic := ⟨by decide, by decide⟩
theorem u64_small {x : Int} (h : 0 ≤ x) (h' : x ≤ 1000000) : U64 x := ⟨h, by omega⟩

set_option maxHeartbeats 4000000 in
theorem format_any (h : DevH) (D : DevS) (c : Cf) (w : World) (hd : Dev w h D) (hc : c.ok) (hn : (D.now.length : Int) = c.words) :
    Calls Try.prog 74 #[h.ptr, c.val] w fun e w' => e = .returned (.int .i64 0) ∧ Dev w' h (D.format c) ∧ Left h.lo h.hi w w' := by
  obtain ⟨r1, r2, l1, l2, s1, s2⟩ := id hc
  have htop := hd.top
  have hsm := hd.dok.small
  have hpos := hd.dok.pos
  have hb := c.bds
  obtain ⟨a1, a2, a3, f1, f2, f3, t1, t2, t3⟩ := hb
  have hw : c.words = c.fr0 + 2 * ln c.S := rfl
  have w1 : 16 + 4 * c.L < c.words := by omega
  have w2 : c.act + 2 + c.R < c.words := by omega
  have w3 : 0 ≤ c.act := by omega
  have w4 : c.words ≤ 100000 := by omega
  clear a3 f1 f2 f3 t1 t2 t3 hw
  have hbx := Is.new w (.cells #[.int .i64 c.L, .int .i64 c.R, .int .i64 c.S] 29)
  have hd0 := hd.alloc (.cells #[.int .i64 c.L, .int .i64 c.R, .int .i64 c.S] 29)
  have hl0 : Left h.lo h.hi w (w.alloc (.cells #[.int .i64 c.L, .int .i64 c.R, .int .i64 c.S] 29)) := (Left.refl _ _ _).alloc _
  unfold DevH.ptr
  have hv : c.val = .agg #[.int .i64 c.L, .int .i64 c.R, .int .i64 c.S] := rfl
  rw [hv]
  clear hv hd
  go_enter Try.func74, Try.ntmps74
  go_wp2_with fail
  generalize w.alloc (.cells #[.int .i64 c.L, .int .i64 c.R, .int .i64 c.S] 29) = wA at *
  obtain ⟨bx, hbxe⟩ : ∃ bx, bx = w.heap.size := ⟨_, rfl⟩
  rw [← hbxe] at hbx htop ⊢
  clear hbxe
  refine wp_gr (by kernel_rfl) (by kernel_rfl) ?_
  have hB := GrW.c3 hbx
  have hneq : ((D.now.length : Int) != c.words) = false := by rw [hn]; simp
  repeat (go_big_quiet_step (first
    | (go_at_call 100; exact gr_call (ccheck_any c _ hc))
    | (go_at_call 30; exact gr_call_same (len_any h D _ (GrW.dev hd0 _)))
    | (go_at_call 69; exact gr_call (cwords_any c _ hc))))
  refine wpQuiet_nil ?_
  rintro wB ⟨⟨_, hwB⟩, rfl⟩
  have hd1 := hd0.grow hwB
  have hl1 := hl0.trans (Left.of_below hwB)
  have hb1 := hbx.grow hwB
  clear hd0 hl0 hbx hB hwB
  go_wp2_with fail
  refine (store_any h _ 0 0 _ hd1 (by omega) (by omega) u64_0).mono ?_
  rintro e wC ⟨rfl, hd2, hl2⟩
  have hb2 := hb1.left hl2 (by omega)
  have hl2 := hl1.trans hl2
  clear hd1 hl1 hb1
  go_wp2_with fail
  refine (flush_any h _ 0 _ hd2 (by omega) (by simp; omega)).mono ?_
  rintro e wD ⟨rfl, hd3, hl3⟩
  have hb3 := hb2.left hl3 (by omega)
  have hl3 := hl2.trans hl3
  clear hd2 hl2 hb2
  go_wp2_with fail
  refine (fence_any h _ _ hd3).mono ?_
  rintro e wE ⟨rfl, hd4, hl4⟩
  have hb4 := hb3.left hl4 (by omega)
  have hl4 := hl3.trans hl4
  clear hd3 hl3 hb3
  have hd4' : Dev wE h (D.fmt1 c 0) := hd4
  clear hd4
  have cb4 := hb4.c3
  go_wp2_with fail
  have hb5 := hb4.alloc (.cells #[.int .i64 c.L, .int .i64 c.R, .int .i64 c.S] 3)
  have hd5 := hd4'.alloc (.cells #[.int .i64 c.L, .int .i64 c.R, .int .i64 c.S] 3)
  have hl5 := hl4.alloc (.cells #[.int .i64 c.L, .int .i64 c.R, .int .i64 c.S] 3)
  have hs5 := Is.new wE (.cells #[.int .i64 c.L, .int .i64 c.R, .int .i64 c.S] 3)
  have htE := hd4'.top
  clear hb4 hd4' hl4 cb4
  generalize wE.alloc (.cells #[.int .i64 c.L, .int .i64 c.R, .int .i64 c.S] 3) = wF at *
  generalize wE.heap.size = bs at *
  go_loopw [33] (fun i wr => ∃ D', ((i = .int .i64 0 ∧ D' = D.fmt1 c 0) ∨ (i = .int .i64 1 ∧ D' = D.fmt1 c 1) ∨ (i = .int .i64 2 ∧ D' = D.fmt1 c 2) ∨ (i = .int .i64 3 ∧ D' = D.fmt1 c 3)) ∧
      Dev wr h D' ∧ Is wr bx (.cells #[.int .i64 c.L, .int .i64 c.R, .int .i64 c.S] 29) ∧ Is wr bs (.cells #[.int .i64 c.L, .int .i64 c.R, .int .i64 c.S] 3) ∧ Left h.lo h.hi w wr)
    (fun i _ => (3 - intOf i).toNat)
  case atStart => exact ⟨_, .inl ⟨rfl, rfl⟩, hd5, hb5, hs5, hl5⟩
  case round =>
    obtain ⟨D', hcase, hdr, hbr, hsr, hlr⟩ := hrel
    clear hd5 hb5 hs5 hl5
    have cs := hsr.c3
    rcases hcase with ⟨rfl, rfl⟩ | ⟨rfl, rfl⟩ | ⟨rfl, rfl⟩ | ⟨rfl, rfl⟩
    · go_wp2_with fail
      refine (store_any h _ 1 c.L _ hdr (by omega) (by simp; omega) (u64_small (by omega) (by omega))).mono ?_
      rintro e wG ⟨rfl, hd6, hl6⟩
      go_wp2_with fail
      go_roundw
      case rel => exact ⟨_, .inr (.inl ⟨rfl, rfl⟩), hd6, hbr.left hl6 (by omega), hsr.left hl6 (by omega), hlr.trans hl6⟩
      case measure => simp [intOf]
    · go_wp2_with fail
      refine (store_any h _ 2 c.R _ hdr (by omega) (by simp; omega) (u64_small (by omega) (by omega))).mono ?_
      rintro e wG ⟨rfl, hd6, hl6⟩
      go_wp2_with fail
      go_roundw
      case rel => exact ⟨_, .inr (.inr (.inl ⟨rfl, rfl⟩)), hd6, hbr.left hl6 (by omega), hsr.left hl6 (by omega), hlr.trans hl6⟩
      case measure => simp [intOf]
    · go_wp2_with fail
      refine (store_any h _ 3 c.S _ hdr (by omega) (by simp; omega) (u64_small (by omega) (by omega))).mono ?_
      rintro e wG ⟨rfl, hd6, hl6⟩
      go_wp2_with fail
      go_roundw
      case rel => exact ⟨_, .inr (.inr (.inr ⟨rfl, rfl⟩)), hd6, hbr.left hl6 (by omega), hsr.left hl6 (by omega), hlr.trans hl6⟩
      case measure => simp [intOf]
    · clear hsr cs
      go_wp2_with fail
      refine (store_any h _ 8 1 _ hdr (by omega) (by simp; omega) u64_1).mono ?_
      rintro e wG ⟨rfl, hd6, hl6⟩
      have hb6 := hbr.left hl6 (by omega)
      have hl6 := hlr.trans hl6
      clear hdr hbr hlr
      go_wp2_with fail
      refine (flush_any h _ 8 _ hd6 (by omega) (by simp; omega)).mono ?_
      rintro e wH ⟨rfl, hd7, hl7⟩
      have hb7 := hb6.left hl7 (by omega)
      have hl7 := hl6.trans hl7
      clear hd6 hb6 hl6
      have hd7' : Dev wH h (((D.fmt1 c 3).sf 8 1).fmtLog c 0) := hd7
      clear hd7
      go_wp2_with fail
      go_loopw [7] (fun i wr => ∃ k : Nat, (k : Int) ≤ c.L ∧ i = .int .i64 k ∧ Dev wr h (((D.fmt1 c 3).sf 8 1).fmtLog c k) ∧ Is wr bx (.cells #[.int .i64 c.L, .int .i64 c.R, .int .i64 c.S] 29) ∧ Left h.lo h.hi w wr)
        (fun i _ => (c.L - intOf i).toNat)
      case atStart => exact ⟨0, by omega, rfl, hd7', hb7, hl7⟩
      case round =>
        obtain ⟨k, hk, rfl, hdr, hbr, hlr⟩ := hrel
        clear hd7' hb7 hl7
        have cb := hbr.c3
        by_cases hlt : (k : Int) < c.L
        · go_wp2_with fail
          refine (record_any c k _ (by omega) (by omega)).mono ?_
          rintro e wI ⟨rfl, hbI⟩
          have hd8 := hdr.grow hbI
          have hb8 := hbr.grow hbI
          have hl8 := hlr.trans (Left.of_below hbI)
          clear hdr hbr hlr cb hbI
          go_wp2_with fail
          refine (store_any h _ (c.recd k) 0 _ hd8 (by unfold Cf.recd; omega) (by unfold Cf.recd; simp; omega) u64_0).mono ?_
          rintro e wJ ⟨rfl, hd9, hl9⟩
          have hb9 := hb8.left hl9 (by omega)
          have hl9 := hl8.trans hl9
          clear hd8 hb8 hl8
          have cb := hb9.c3
          go_wp2_with fail
          refine (record_any c k _ (by omega) (by omega)).mono ?_
          rintro e wI ⟨rfl, hbI⟩
          have hd8 := hd9.grow hbI
          have hb8 := hb9.grow hbI
          have hl8 := hl9.trans (Left.of_below hbI)
          clear hd9 hb9 hl9 cb hbI
          go_wp2_with fail
          refine (flush_any h _ (c.recd k) _ hd8 (by unfold Cf.recd; omega) (by unfold Cf.recd; simp; omega)).mono ?_
          rintro e wK ⟨rfl, hd9, hl9⟩
          have hb9 := hb8.left hl9 (by omega)
          have hl9 := hl8.trans hl9
          clear hd8 hb8 hl8
          go_wp2_with fail
          go_roundw
          case rel => exact ⟨k + 1, by omega, by go_num, by rw [DevS.fmtLog_succ]; exact hd9, hb9, hl9⟩
          case measure => simp [intOf]; omega
        · have hkL : k = c.L.toNat := by omega
          have hdr' : Dev wr h (((D.fmt1 c 3).sf 8 1).fmtLog c c.L.toNat) := by rw [← hkL]; exact hdr
          clear hkL hdr
          go_wp2_with fail
          refine (active_any c _ hc).mono ?_
          rintro e wI ⟨rfl, hbI⟩
          have hd8' : Dev wI h ((((D.fmt1 c 3).sf 8 1).fmtLog c c.L.toNat).fmtRoot c 0) := hdr'.grow hbI
          have hb8 := hbr.grow hbI
          have hl8 := hlr.trans (Left.of_below hbI)
          clear hdr' hbr hlr cb hbI
          go_wp2_with fail
          go_loopw [8] (fun i wr => ∃ k : Nat, (k : Int) ≤ 2 + c.R ∧ i = .int .i64 (c.act + k) ∧ Dev wr h ((((D.fmt1 c 3).sf 8 1).fmtLog c c.L.toNat).fmtRoot c k) ∧ Is wr bx (.cells #[.int .i64 c.L, .int .i64 c.R, .int .i64 c.S] 29) ∧ Left h.lo h.hi w wr)
            (fun i _ => (c.act + 2 + c.R - intOf i).toNat)
          case atStart => exact ⟨0, by omega, by simp, hd8', hb8, hl8⟩
          case round =>
            obtain ⟨k2, hk2, rfl, hdr, hbr, hlr⟩ := hrel
            clear hd8' hb8 hl8
            have cb := hbr.c3
            go_wp2_with fail
            refine (root_any c c.R _ hc (by omega) (by omega)).mono ?_
            rintro e wI ⟨rfl, hbI⟩
            have hd8 := hdr.grow hbI
            have hb8 := hbr.grow hbI
            have hl8 := hlr.trans (Left.of_below hbI)
            clear hdr hbr hlr cb hbI
            by_cases hlt2 : (k2 : Int) < 2 + c.R
            · have hdec : decide (c.act + k2 < c.root c.R) = true := by unfold Cf.root; simp; omega
              go_wp2_with fail
              refine (store_any h _ (c.act + k2) 0 _ hd8 (by omega) (by simp; omega) u64_0).mono ?_
              rintro e wJ ⟨rfl, hd9, hl9⟩
              have hb9 := hb8.left hl9 (by omega)
              have hl9 := hl8.trans hl9
              clear hd8 hb8 hl8
              go_wp2_with fail
              refine (flush_any h _ (c.act + k2) _ hd9 (by omega) (by simp; omega)).mono ?_
              rintro e wK ⟨rfl, hd8, hl8⟩
              have hb8 := hb9.left hl8 (by omega)
              have hl8 := hl9.trans hl8
              clear hd9 hb9 hl9
              go_wp2_with fail
              go_roundw
              case rel => exact ⟨k2 + 1, by omega, by go_num, by rw [DevS.fmtRoot_succ]; exact hd8, hb8, hl8⟩
              case measure => simp [intOf]; omega
            · have hkL : k2 = (2 + c.R).toNat := by omega
              have hdr' : Dev wI h ((((D.fmt1 c 3).sf 8 1).fmtLog c c.L.toNat).fmtRoot c (2 + c.R).toNat) := by rw [← hkL]; exact hd8
              have hdec : decide (c.act + k2 < c.root c.R) = false := by unfold Cf.root; simp; omega
              clear hkL hd8
              go_wp2_with fail
              refine (flush_any h _ 0 _ hdr' (by omega) (by simp; omega)).mono ?_
              rintro e wK ⟨rfl, hd9, hl9⟩
              have hl9 := hl8.trans hl9
              clear hdr' hl8 hb8 hdec
              go_wp2_with fail
              refine (fence_any h _ _ hd9).mono ?_
              rintro e wL ⟨rfl, hd8, hl8⟩
              have hl8 := hl9.trans hl8
              clear hd9 hl9
              go_wp2_with fail
              refine (store_any h _ 0 magic _ hd8 (by omega) (by simp; omega) u64_magic).mono ?_
              rintro e wM ⟨rfl, hd9, hl9⟩
              have hl9 := hl8.trans hl9
              clear hd8 hl8
              go_wp2_with fail
              refine (flush_any h _ 0 _ hd9 (by omega) (by simp; omega)).mono ?_
              rintro e wO ⟨rfl, hd8, hl8⟩
              have hl8 := hl9.trans hl8
              clear hd9 hl9
              go_wp2_with fail
              refine (fence_any h _ _ hd8).mono ?_
              rintro e wP ⟨rfl, hd9, hl9⟩
              have hl9 := hl8.trans hl9
              clear hd8 hl8
              go_wp2_with fail
              go_ret
              exact ⟨rfl, hd9, hl9⟩
end Go.Proofs.Ytpecgfpofihibaa
