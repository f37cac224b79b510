/-
  ulog.Undo.
-/
import Derived.Test.YtpecgfpofihibaaRec
import Derived.Test.YtpecgfpofihibaaTru
namespace Go.Proofs.Ytpecgfpofihibaa
open Go Go.RowKit Go.MapKept Go.Shelf
attribute [local go_sem] Oper.semAt_some

/-- The device behind records undone. -/
def DevS.undo (D : DevS) (pl wd : Nat → Int) (l : List Nat) : DevS := l.foldl (fun D k => D.sf (pl k) (wd k)) D
theorem DevS.undo_snoc (D : DevS) (pl wd : Nat → Int) (l : List Nat) (k : Nat) : D.undo pl wd (l ++ [k]) = (D.undo pl wd l).sf (pl k) (wd k) := by simp [DevS.undo]
@[simp] theorem DevS.undo_len (D : DevS) (pl wd : Nat → Int) (l : List Nat) : (D.undo pl wd l).now.length = D.now.length := by
  unfold DevS.undo
  induction l generalizing D with
  | nil => rfl
  | cons x l ih => rw [List.foldl_cons, ih]; simp
theorem DevS.undo_low (D : DevS) (pl wd : Nat → Int) (A : Nat) (hpl : ∀ k, (A : Int) ≤ pl k ∧ pl k < D.now.length) (j : Nat) (hj : j < A) : ∀ l, (D.undo pl wd l).at j = D.at j := by
  intro l
  unfold DevS.undo
  induction l generalizing D with
  | nil => rfl
  | cons x l ih =>
    rw [List.foldl_cons, ih (D.sf (pl x) (wd x)) (by simpa using hpl), DevS.at_sf _ _ _ _ (by have := hpl x; omega), if_neg (by have := hpl x; omega)]

theorem lef_of_grownBy {B : Nat} {W W' : World} {row : Option Nat} (hg : W.grownBy W' row) (hr : ∀ r, row = some r → B ≤ r) : Lef (fun k => B ≤ k) W W' :=
  ⟨hg.os, hg.tape, hg.output, hg.size, fun k hk hn => hg.block k hk (fun e => hn (hr k e.symm))⟩

theorem keepsFrom_of_lef {B : Nat} {S : Nat → Prop} {W W' : World} (hl : Lef S W W') (hS : ∀ k, S k → k < B) : KeepsFrom B W W' :=
  ⟨hl.size, fun k o hB hk _ => (hl.block k (Array.getElem?_eq_some_iff.1 hk).1 (fun hs => by have := hS k hs; omega)).trans hk⟩

theorem LP.lef {S : Nat → Prop} {h : DevH} {c : Cf} {lb bx : Nat} {ep : Int} {n : Nat} {pl wd : Nat → Int} {W W' : World} (p : LP h c lb bx ep n pl wd W) (hl : Lef S W W')
    (h1 : ∀ k, h.lo ≤ k → k < h.hi → ¬ S k) (h2 : ¬ S lb) (h3 : ¬ S bx) : LP h c lb bx ep n pl wd W' := by
  obtain ⟨⟨D, hd, hr⟩, hg, hx⟩ := p
  exact ⟨⟨D, hd.lef hl h1, hr⟩, hg.lef hl h2, hx.lef hl h3⟩

set_option maxRecDepth 100000 in
set_option maxHeartbeats 4000000 in
theorem undo_any (h : DevH) (D : DevS) (c : Cf) (lb : Nat) (ep : Int) (n : Nat) (pl wd : Nat → Int) (w : World) (hd : Dev w h D) (hl : Is w lb (lgc h c ep n)) (hlb : lb < h.lo ∨ h.hi ≤ lb) (hN : 40 ≤ D.now.length)
    (he0 : 0 ≤ ep) (he1 : ep < 4294967296) (hn : 0 < n) (hn2 : n ≤ 1000)
    (hpl : ∀ k, (16 + 4 * (n : Int)) ≤ pl k ∧ pl k < D.now.length) (hwd : ∀ k, U64 (wd k)) (hrec : ∀ k, k < n → D.at (16 + 4 * k + 1) = pl k ∧ D.at (16 + 4 * k + 2) = wd k) :
    Calls Try.prog 32 #[.pointer (some ⟨lb, 0, none⟩)] w fun e w' => e = .returned (.tuple #[]) ∧ Dev w' h (((D.undo pl wd (idx n)).fence).trunc ep) ∧ Is w' lb (lgc h c ((ep + 1) % 4294967296) 0) ∧ Lef (dl h lb) w w' := by
  have hsm := hd.dok.small
  have htop := hd.top
  refine (callsIn_wide (n := 8)).1 ?_
  refine callsIn_of_wp_marks Try.func32 rfl trivial ?_ rfl
  simp only [Try.ntmps32, List.size_toArray, List.length_cons, List.length_nil, Nat.reduceAdd, Nat.reduceSub, Array.replicate_succ, Array.replicate_zero, List.push_toArray, List.append_toArray, List.nil_append, List.cons_append]
  have x1 := Is.new w (.cells #[.pointer (some ⟨lb, 0, none⟩)] 35)
  have hd1 := hd.alloc (.cells #[.pointer (some ⟨lb, 0, none⟩)] 35)
  have hl1 := hl.alloc (.cells #[.pointer (some ⟨lb, 0, none⟩)] 35)
  have b1 : Below w.heap.size w (w.alloc (.cells #[.pointer (some ⟨lb, 0, none⟩)] 35)) := (Below.refl _ _).alloc (Nat.le_refl _) _
  gi_wp2_with fail
  generalize w.alloc (.cells #[.pointer (some ⟨lb, 0, none⟩)] 35) = w1 at *
  refine ⟨trivial, callsIn_wide.2 ((lrecords_any lb _).mono ?_)⟩
  rintro e w2 ⟨rfl, rfl⟩
  have x2 := x1.alloc (.cells #[.pointer (some ⟨lb, 0, none⟩)] 35)
  have y2 := Is.new w1 (.cells #[.pointer (some ⟨lb, 0, none⟩)] 35)
  have hd2 := hd1.alloc (.cells #[.pointer (some ⟨lb, 0, none⟩)] 35)
  have hl2 := hl1.alloc (.cells #[.pointer (some ⟨lb, 0, none⟩)] 35)
  have b2 : Below w.heap.size w (w1.alloc (.cells #[.pointer (some ⟨lb, 0, none⟩)] 35)) := b1.alloc b1.size _
  have z1 : w.heap.size < w1.heap.size := x1.lt
  generalize w1.alloc (.cells #[.pointer (some ⟨lb, 0, none⟩)] 35) = w2 at *
  generalize w1.heap.size = bx at *
  clear x1 hd1 hl1 b1
  gi_wp2
  have hB1 := hd2.top
  have hB2 := hl2.lt
  have hB3 := y2.lt
  have hB4 := x2.lt
  have hL2 : Lef (dl h lb) w w2 := Lef.of_below b2
  have hN0 : ∀ l, (D.undo pl wd l).now.length = D.now.length := fun l => DevS.undo_len D pl wd l
  have hLP : ∀ l W, Dev W h (D.undo pl wd l) → Is W lb (lgc h c ep n) → Is W bx (.cells #[.pointer (some ⟨lb, 0, none⟩)] 35 (0, 0)) → LP h c lb bx ep n pl wd W := fun l W h1 h2 h3 =>
    ⟨⟨_, h1, fun k hk => by
      obtain ⟨e1, e2⟩ := hrec k hk
      have hq : ∀ k, ((16 + 4 * n : Nat) : Int) ≤ pl k ∧ pl k < D.now.length := fun k => by have := hpl k; omega
      exact ⟨by rw [DevS.undo_low D pl wd _ hq _ (by omega), e1], by rw [DevS.undo_low D pl wd _ hq _ (by omega), e2]⟩⟩, h2, h3⟩
  have hNr := Lib.hid hN0
  clear hN0 b2
  obtain ⟨B, hB⟩ : ∃ B, B = w2.heap.size := ⟨_, rfl⟩
  rw [← hB] at hB1 hB2 hB3 hB4
  have HB := Lib.hid hB
  clear hB
  refine wpIn_rangeFunc_ownG rfl (by decide) (gf := 81) (lb := #[.pointer (some ⟨bx, 0, none⟩)]) rfl trivial (enters_of Try.func81 (by kernel_rfl) rfl)
    (records_in 7 (by decide) h c lb bx ep n pl wd (fun k => by have := hpl k; omega) hn2 w2 (hLP [] w2 hd2 hl2 y2))
    (fun h1 h2 hp => h2 (h1 hp))
    (fun W l o o' hBl _ _ _ hp => hp.lef (lef_of_grownBy (B := B) (grownBy_putObj' W l o') (fun r e => by cases e; rw [HB.out]; exact hBl)) (fun k _ h2 => by omega) (by omega) (by omega))
    (Below.refl _ _) (fun _ => rfl)
    (fun pre W => Dev W h (D.undo pl wd pre) ∧ Is W lb (lgc h c ep n) ∧ Is W bx (.cells #[.pointer (some ⟨lb, 0, none⟩)] 35 (0, 0)) ∧ Is W w.heap.size (.cells #[.pointer (some ⟨lb, 0, none⟩)] 35 (0, 0)) ∧ Lef (dl h lb) w W)
    (fun _ _ _ => False)
    (fun s A A' row hs hg hr => by
      have hl := lef_of_grownBy (B := B) hg (fun r e => by rw [HB.out]; exact (hr r e).1)
      obtain ⟨s1, s2, s3, s4, s5⟩ := hs
      exact ⟨s1.lef hl (fun k _ h2 => by omega), s2.lef hl (by omega), s3.lef hl (by omega), s4.lef hl (by omega), s5.andNew hl (fun k hk => .inl (by omega))⟩)
    (fun _ _ _ _ _ hs _ _ => hs)
    ⟨hd2, hl2, y2, x2, hL2⟩
    (fun x => { tmps := #[.pointer (some ⟨lb, 0, none⟩), .pointer (some ⟨w.heap.size, 0, none⟩), .int .i64 (pl x), .int .u64 (wd x), .pointer (some ⟨lb, 0, none⟩), .func (.func 81) #[] #[.pointer (some ⟨bx, 0, none⟩)], .int .i64 (pl x), .int .u64 (wd x), undef, undef, undef, undef, undef, undef, undef, undef, undef, undef, undef, undef, undef, undef, undef, undef, undef, undef, undef, undef, undef, undef, undef, undef, undef], defers := [] }) ?assign ?body ?done ?stop
  case assign =>
    intro l x W K hK
    gi_wp2
    exact hK
  case body =>
    rintro l pre x W ⟨s1, s2, s3, s4, s5⟩ _
    obtain ⟨k0, _⟩ := lgc_cells s2
    have c0 : W.cell? ⟨w.heap.size, 0, none⟩ = some (.pointer (some ⟨lb, 0, none⟩)) := by rw [s4.cell]; rfl
    obtain ⟨p1, p2⟩ := hpl x
    have e1 := hNr.out pre
    have k1 := store_any h _ (pl x) (wd x) W s1 (by omega) (by omega) (hwd x)
    clear e1
    unfold DevH.ptr at k1
    gi_wp2_with fail
    refine ⟨trivial, CallsIn.inRound l (callsIn_wide.2 (k1.mono ?_))⟩
    rintro e W2 ⟨rfl, hd3, lf3⟩
    have t2 := s2.left lf3 hlb
    have t3 := s3.left lf3 (by omega)
    have t4 := s4.left lf3 (by omega)
    have L3 : Lef (dl h lb) W W2 := Lef.of_left lf3 (fun _ h1 h2 => .inl ⟨h1, h2⟩)
    have e1 := hNr.out pre
    have k2 := flush_any h _ (pl x) W2 hd3 (by omega) (by rw [DevS.store_len]; omega)
    clear k0 c0 k1 s1 s2 s3 s4 lf3 e1 hd3
    unfold DevH.ptr at k2
    obtain ⟨k0, _⟩ := lgc_cells t2
    have c0 : W2.cell? ⟨w.heap.size, 0, none⟩ = some (.pointer (some ⟨lb, 0, none⟩)) := by rw [t4.cell]; rfl
    gi_wp2_with fail
    refine ⟨trivial, CallsIn.inRound l (callsIn_wide.2 (k2.mono ?_))⟩
    rintro e W3 ⟨rfl, hd4, lf4⟩
    have r2 := t2.left lf4 hlb
    have r3 := t3.left lf4 (by omega)
    have r4 := t4.left lf4 (by omega)
    have L4 : Lef (dl h lb) W W3 := L3.trans (Lef.of_left lf4 (fun _ h1 h2 => .inl ⟨h1, h2⟩))
    have hd5 : Dev W3 h (D.undo pl wd (pre ++ [x])) := by rw [DevS.undo_snoc]; exact hd4
    clear k0 c0 k2 t2 t3 t4 lf4 L3 hd4
    gi_wp2
    exact ⟨keepsFrom_of_lef L4 (fun k hk => by rw [← HB.out]; unfold dl at hk; omega), fun _ => hLP _ _ hd5 r2 r3, hd5, r2, r3, r4, s5.trans L4⟩
  case done =>
    rintro D' xs W hD' rfl ⟨s1, s2, s3, s4, s5⟩ hK
    obtain ⟨k0, _, _, _, _, k5⟩ := lgc_cells s2
    have c0 : W.cell? ⟨w.heap.size, 0, none⟩ = some (.pointer (some ⟨lb, 0, none⟩)) := by rw [s4.cell]; rfl
    have k1 := fence_any h _ W s1
    unfold DevH.ptr at k1
    gi_wp2_with fail
    refine ⟨trivial, callsIn_wide.2 (k1.mono ?_)⟩
    rintro e W2 ⟨rfl, hd3, lf3⟩
    have hDB : B ≤ D' := by rw [HB.out]; exact hD'
    have t2 := s2.left lf3 hlb
    have t4 := s4.left lf3 (by omega)
    have tK : Is W2 D' (.deferred (some [])) := Is.left hK lf3 (by omega)
    have L3 : Lef (dl h lb) w W2 := s5.trans (Lef.of_left lf3 (fun _ h1 h2 => .inl ⟨h1, h2⟩))
    have e1 := hNr.out (idx n)
    have k2 := trunc_any h _ c lb ep n W2 hd3 t2 hlb (by rw [DevS.fence_len]; omega) he0 he1 (by omega)
    clear k0 k5 c0 k1 s1 s2 s3 s4 s5 lf3 hd3 hK e1 x2 y2 hd2 hl2 hL2
    have c0 : W2.cell? ⟨w.heap.size, 0, none⟩ = some (.pointer (some ⟨lb, 0, none⟩)) := by rw [t4.cell]; rfl
    clear t2 t4
    gi_wp2_with fail
    refine ⟨trivial, callsIn_wide.2 (k2.mono ?_)⟩
    rintro e W3 ⟨rfl, hd4, hl4, lf4⟩
    have rK : Is W3 D' (.deferred (some [])) := tK.lef lf4 (by unfold dl; omega)
    have L4 := L3.trans lf4
    clear k2 lf4 L3 tK c0
    gi_wp2
    have L5 := lef_of_grownBy (B := B) (grownBy_putObj' W3 D' (.deferred none)) (fun r e => by cases e; exact hDB)
    refine ⟨by simp, .inl ⟨_, _, rfl, run_takeDeferred rK, ?_⟩⟩
    exact ⟨_, results_none rfl _ _ _, rfl, hd4.lef L5 (fun k _ h2 => by omega), hl4.lef L5 (by omega), L4.andNew L5 (fun k hk => .inl (by omega))⟩
  case stop =>
    rintro D' c pre W _ _ h _
    exact h.elim
set_option maxRecDepth 100000 in
set_option maxHeartbeats 4000000 in
theorem undo_none (h : DevH) (D : DevS) (c : Cf) (lb : Nat) (ep : Int) (w : World) (hd : Dev w h D) (hl : Is w lb (lgc h c ep (0 : Nat))) (hlb : lb < h.lo ∨ h.hi ≤ lb) :
    Calls Try.prog 32 #[.pointer (some ⟨lb, 0, none⟩)] w fun e w' => e = .returned (.tuple #[]) ∧ Dev w' h D ∧ Is w' lb (lgc h c ep (0 : Nat)) ∧ Lef (dl h lb) w w' := by
  have htop := hd.top
  refine (callsIn_wide (n := 8)).1 ?_
  refine callsIn_of_wp_marks Try.func32 rfl trivial ?_ rfl
  simp only [Try.ntmps32, List.size_toArray, List.length_cons, List.length_nil, Nat.reduceAdd, Nat.reduceSub, Array.replicate_succ, Array.replicate_zero, List.push_toArray, List.append_toArray, List.nil_append, List.cons_append]
  have x1 := Is.new w (.cells #[.pointer (some ⟨lb, 0, none⟩)] 35)
  have hd1 := hd.alloc (.cells #[.pointer (some ⟨lb, 0, none⟩)] 35)
  have hl1 := hl.alloc (.cells #[.pointer (some ⟨lb, 0, none⟩)] 35)
  have b1 : Below w.heap.size w (w.alloc (.cells #[.pointer (some ⟨lb, 0, none⟩)] 35)) := (Below.refl _ _).alloc (Nat.le_refl _) _
  gi_wp2_with fail
  generalize w.alloc (.cells #[.pointer (some ⟨lb, 0, none⟩)] 35) = w1 at *
  refine ⟨trivial, callsIn_wide.2 ((lrecords_any lb _).mono ?_)⟩
  rintro e w2 ⟨rfl, rfl⟩
  have x2 := x1.alloc (.cells #[.pointer (some ⟨lb, 0, none⟩)] 35)
  have y2 := Is.new w1 (.cells #[.pointer (some ⟨lb, 0, none⟩)] 35)
  have hd2 := hd1.alloc (.cells #[.pointer (some ⟨lb, 0, none⟩)] 35)
  have hl2 := hl1.alloc (.cells #[.pointer (some ⟨lb, 0, none⟩)] 35)
  have b2 : Below w.heap.size w (w1.alloc (.cells #[.pointer (some ⟨lb, 0, none⟩)] 35)) := b1.alloc b1.size _
  have z1 : w.heap.size < w1.heap.size := x1.lt
  generalize w1.alloc (.cells #[.pointer (some ⟨lb, 0, none⟩)] 35) = w2 at *
  generalize w1.heap.size = bx at *
  clear x1 hd1 hl1 b1
  gi_wp2
  have hB1 := hd2.top
  have hB2 := hl2.lt
  have hB3 := y2.lt
  have hB4 := x2.lt
  have hL2 : Lef (dl h lb) w w2 := Lef.of_below b2
  have hLP : LP h c lb bx ep 0 (fun _ => 0) (fun _ => 0) w2 := ⟨⟨D, hd2, fun k hk => absurd hk (Nat.not_lt_zero _)⟩, hl2, y2⟩
  clear b2
  obtain ⟨B, hB⟩ : ∃ B, B = w2.heap.size := ⟨_, rfl⟩
  rw [← hB] at hB1 hB2 hB3 hB4
  have HB := Lib.hid hB
  clear hB
  refine wpIn_rangeFunc_ownG rfl (by decide) (gf := 81) (lb := #[.pointer (some ⟨bx, 0, none⟩)]) rfl trivial (enters_of Try.func81 (by kernel_rfl) rfl)
    (records_in 7 (by decide) h c lb bx ep 0 (fun _ => 0) (fun _ => 0) (fun _ => by omega) (by omega) w2 hLP)
    (fun h1 h2 hp => h2 (h1 hp))
    (fun W l o o' hBl _ _ _ hp => hp.lef (lef_of_grownBy (B := B) (grownBy_putObj' W l o') (fun r e => by cases e; rw [HB.out]; exact hBl)) (fun k _ h2 => by omega) (by omega) (by omega))
    (Below.refl _ _) (fun _ => rfl)
    (fun pre W => Dev W h D ∧ Is W lb (lgc h c ep (0 : Nat)) ∧ Is W bx (.cells #[.pointer (some ⟨lb, 0, none⟩)] 35 (0, 0)) ∧ Is W w.heap.size (.cells #[.pointer (some ⟨lb, 0, none⟩)] 35 (0, 0)) ∧ Lef (dl h lb) w W)
    (fun _ _ _ => False)
    (fun s A A' row hs hg hr => by
      have hl := lef_of_grownBy (B := B) hg (fun r e => by rw [HB.out]; exact (hr r e).1)
      obtain ⟨s1, s2, s3, s4, s5⟩ := hs
      exact ⟨s1.lef hl (fun k _ h2 => by omega), s2.lef hl (by omega), s3.lef hl (by omega), s4.lef hl (by omega), s5.andNew hl (fun k hk => .inl (by omega))⟩)
    (fun _ _ _ _ _ hs _ _ => hs)
    ⟨hd2, hl2, y2, x2, hL2⟩
    (fun x => { tmps := #[.pointer (some ⟨lb, 0, none⟩), .pointer (some ⟨w.heap.size, 0, none⟩), .int .i64 0, .int .u64 0, .pointer (some ⟨lb, 0, none⟩), .func (.func 81) #[] #[.pointer (some ⟨bx, 0, none⟩)], .int .i64 0, .int .u64 0, undef, undef, undef, undef, undef, undef, undef, undef, undef, undef, undef, undef, undef, undef, undef, undef, undef, undef, undef, undef, undef, undef, undef, undef, undef], defers := [] }) ?assign ?body ?done ?stop
  case assign =>
    intro l x W K hK
    gi_wp2
    exact hK
  case body =>
    intro l pre x W _ hlt
    exact absurd hlt (Nat.not_lt_zero _)
  case done =>
    rintro D' xs W hD' rfl ⟨s1, s2, s3, s4, s5⟩ hK
    obtain ⟨k0, _, _, _, _, k5⟩ := lgc_cells s2
    have c0 : W.cell? ⟨w.heap.size, 0, none⟩ = some (.pointer (some ⟨lb, 0, none⟩)) := by rw [s4.cell]; rfl
    have k2 := trunc_none h c lb ep W s2
    have hDB : B ≤ D' := by rw [HB.out]; exact hD'
    clear x2 y2 hd2 hl2 hL2
    gi_wp2_with fail
    refine ⟨trivial, callsIn_wide.2 (k2.mono ?_)⟩
    rintro e W3 ⟨rfl, rfl⟩
    clear k2 c0 k0 k5
    gi_wp2
    have L5 := lef_of_grownBy (B := B) (grownBy_putObj' W D' (.deferred none)) (fun r e => by cases e; exact hDB)
    refine ⟨by simp, .inl ⟨_, _, rfl, run_takeDeferred hK, ?_⟩⟩
    exact ⟨_, results_none rfl _ _ _, rfl, s1.lef L5 (fun k _ h2 => by omega), s2.lef L5 (by omega), s5.andNew L5 (fun k hk => .inl (by omega))⟩
  case stop =>
    rintro D' c pre W _ _ h _
    exact h.elim
end Go.Proofs.Ytpecgfpofihibaa
