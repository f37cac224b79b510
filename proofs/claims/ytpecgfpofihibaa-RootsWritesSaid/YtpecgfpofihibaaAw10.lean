/-
  The fixed fact of law 10.
-/
import Derived.Test.YtpecgfpofihibaaFi2
import Derived.Test.YtpecgfpofihibaaQt
namespace Go.Proofs.Ytpecgfpofihibaa
open Go Go.RowKit Go.MapKept Go.Shelf

def c10 : Cf := mkc 0 0 40
theorem c10_ok : c10.ok := mkc_ok 0 0 40
def s10 : FS := fillS c10 [(1, 2)]
theorem s10_pl : s10.pl = [40] := by decide +kernel
theorem s10_u : s10.u = 3 := by decide +kernel
theorem s10_at : s10.D.at 40 = packv 2 1 := by decide +kernel
theorem s10_42 : (s10.D.stores [(42, 9)]).at 42 = 9 := by decide +kernel

/-- A function against nil. -/
theorem run_neq_func_nil {P : Program} (w : World) (t : TypeId) (f : Fn) (a b : Array Value) {ps rs : Array TypeId} {v : Bool} (h : P.underlying t = some (.func ps rs v)) :
    (binOp .neq t (.func f a b) .nilFunc).run P w = .ok (.bool true) w := by
  have h : ∀ d : Nat, (Op.equalIn (d + 1) t (.func f a b) .nilFunc).run P w = .ok false w := fun d => by
    simp [Op.equalIn, run_underlying h]
  simp only [binOp]
  simp [Op.equal, Op.maxDepth, h 9999]

/-- What region 6 of law 10's fixed fact reads. -/
structure W10S (h : DevH) (b0 g : Nat) (u : Int) (ra : Option Addr) (rn rc : Nat) (W : World) : Prop where
  cfg : Is W b0 (.cells #[.int .i64 3, .int .i64 1, .int .i64 48] 29 (0, 0))
  blk : Is W (b0 + 1) (.cells #[.int .i64 0, .int .i64 u, .slice ra rn rc] 57 (0, 0))
  pl : W.cell? ⟨g, 0, none⟩ = some (.int .i64 40)
theorem W10S.grow {h : DevH} {b0 g : Nat} {u : Int} {ra : Option Addr} {rn rc : Nat} {W W' : World} (s : W10S h b0 g u ra rn rc W) (hb : Below W.heap.size W W') : W10S h b0 g u ra rn rc W' := ⟨s.cfg.grow hb, s.blk.grow hb, Below.keeps hb s.pl⟩
theorem s10_in : hasB c10 0 3 40 = true := by decide
theorem s10_un : unW (packv 2 1) = 2 ∧ unR (packv 2 1) = 1 ∧ isHead (packv 2 1) := by
  unfold isHead headOk unW unR packv
  decide

set_option maxRecDepth 100000 in
set_option maxHeartbeats 4000000 in
theorem awake10 (w : World) :
    Calls Try.prog 52 #[] w fun e w' => e = .returned (.bool true) ∧ Below w.heap.size w w' := by
  have hmf : ∀ (fn : Fn) (first cap : Array Value) (w : World), (Instr.makeFunc fn first cap).run Try.prog w = .ok (.func fn first cap) w := fun _ _ _ _ => rfl
  have kf := fun hv w hl => filled_any 0 0 40 [(1, 2)] hv w (by decide) (by decide) (by decide) hl (by decide) (by decide)
  have eu : (fillS (mkc 0 0 40) [(1, 2)]).u = 3 := s10_u
  have ep : (fillS (mkc 0 0 40) [(1, 2)]).pl.length = 1 := by have h := s10_pl; unfold s10 c10 at h; rw [h]; rfl
  rw [eu, ep] at kf
  have e1 : (mkc 0 0 40).L = 3 := by decide
  have e2 : (mkc 0 0 40).R = 1 := by decide
  have e3 : (mkc 0 0 40).S = 48 := by decide
  rw [e1, e2, e3] at kf
  clear e1 e2 e3 eu ep
  go_enter Try.func52, Try.ntmps52
  go_wp2_with fail
  refine (awake09 _).mono ?_
  rintro e w1 ⟨rfl, b1⟩
  go_wp2_with fail
  have x2 := Is.new w1 (.cells #[.int .u8 1, .int .u8 2] 72)
  have b2 := b1.alloc b1.size (.cells #[.int .u8 1, .int .u8 2] 72)
  clear b1
  have hl2 : HlR (w1.alloc (.cells #[.int .u8 1, .int .u8 2] 72)) (.slice (some ⟨w1.heap.size, 0, none⟩) 1 1) [(1, 2)] := ⟨_, _, rfl, .inr ⟨_, _, rfl, x2.lt, fun i hi => by
    obtain rfl : i = 0 := by simpa using hi
    exact ⟨by rw [x2.cell]; rfl, by rw [x2.cell]; rfl⟩⟩⟩
  generalize w1.alloc (.cells #[.int .u8 1, .int .u8 2] 72) = w2 at *
  refine (kf _ _ hl2).mono ?_
  rintro e w3 ⟨h, ra, rn, rc, va, vc, rfl, ⟨hd3, hro3, hpl3, hlo3, d3⟩⟩
  have b3 := Below.grown_trans b2 d3
  have hd3 : Dev w3 h s10.D := hd3
  have hlo : w.heap.size ≤ h.lo := Nat.le_trans b2.size hlo3
  have hpl3 : Own w3 h.hi 3 1 s10.pl.length (i64s s10.pl) (.slice va s10.pl.length vc) := hpl3
  rw [s10_pl] at hpl3
  obtain ⟨g, rfl, hg0, hg1, hgc⟩ := hpl3.cell 0 (by decide)
  have hgc : w3.cell? ⟨g, 0, none⟩ = some (.int .i64 40) := hgc
  clear kf x2 b2 hl2 hro3 hpl3 hlo3 d3
  have ko := fun ra rn rc w hd => of_ok h s10.D c10 0 3 40 (packv 2 1) ra rn rc w hd c10_ok (by decide) (by decide) (by decide) (by decide) (by decide) s10_in s10_at ⟨by decide, by decide⟩ s10_un.2.2 (by rw [s10_un.1]; decide)
  rw [s10_un.1, s10_un.2.1] at ko
  have e1 : c10.L = 3 := by decide
  have e2 : c10.R = 1 := by decide
  have e3 : c10.S = 48 := by decide
  rw [e1, e2, e3] at ko
  clear e1 e2 e3
  go_wp2_with fail
  have i4 := (Is.new w3 (.cells #[.int .i64 3, .int .i64 1, .int .i64 48] 29)).alloc (.cells #[.int .i64 0, .int .i64 3, .slice ra rn rc] 57)
  have j4 := Is.new (w3.alloc (.cells #[.int .i64 3, .int .i64 1, .int .i64 48] 29)) (.cells #[.int .i64 0, .int .i64 3, .slice ra rn rc] 57)
  rw [World.size_alloc] at j4
  have bz : Below w3.heap.size w3 ((w3.alloc (.cells #[.int .i64 3, .int .i64 1, .int .i64 48] 29)).alloc (.cells #[.int .i64 0, .int .i64 3, .slice ra rn rc] 57)) := ((Below.refl _ _).alloc (Nat.le_refl _) _).alloc (by simp) _
  have g4 := Below.keeps bz hgc
  have b4 := Below.grown_trans b3 bz
  have hd4 := hd3.grow bz
  clear b3 bz hd3 hgc
  generalize (w3.alloc (.cells #[.int .i64 3, .int .i64 1, .int .i64 48] 29)).alloc (.cells #[.int .i64 0, .int .i64 3, .slice ra rn rc] 57) = w4 at *
  generalize w3.heap.size = b0 at *
  have hS0 : W10S h b0 g 3 ra rn rc w4.drew := ⟨i4, j4, g4⟩
  have hd6 := hd4.drew
  have b6 := b4.drew
  have hne : Nonempty (SW (W10S h b0 g 3 ra rn rc)) := ⟨⟨_, hS0⟩⟩
  have GC : ∀ y : SW (W10S h b0 g 3 ra rn rc), y.1.cell? ⟨b0, 0, none⟩ = some (.int .i64 3) ∧ y.1.cell? ⟨b0, 1, none⟩ = some (.int .i64 1) ∧ y.1.cell? ⟨b0, 2, none⟩ = some (.int .i64 48) := fun y => Is.c3 y.2.cfg
  have GB : ∀ y : SW (W10S h b0 g 3 ra rn rc), y.1.cell? ⟨b0 + 1, 0, none⟩ = some (.int .i64 0) ∧ y.1.cell? ⟨b0 + 1, 1, none⟩ = some (.int .i64 3) ∧ y.1.cell? ⟨b0 + 1, 2, none⟩ = some (.slice ra rn rc) := fun y => Is.c3 y.2.blk
  have GP : ∀ y : SW (W10S h b0 g 3 ra rn rc), y.1.cell? ⟨g, 0, none⟩ = some (.int .i64 40) := fun y => y.2.pl
  refine wp_region_OT (S := W10S h b0 g 3 ra rn rc) 12 [0, 1, 2, 3, 4, 5] 6 [([7, 8, 9], some 10), ([], some 11)] 10 [([], some 6), ([7, 8, 9], some 11)] (by kernel_rfl) (by kernel_rfl) (by kernel_rfl) (by kernel_rfl) (by decide) rfl rfl (by kernel_rfl) (by kernel_rfl) (by kernel_rfl) (by kernel_rfl) hS0 fun Q4 hQ4 Q5 hQ5 => ?_
  have HQ5 := Lib.hid hQ5
  clear hQ4 hQ5 i4 j4 g4 hd4 b4
  simp only [segOps, List.map_cons, List.map_nil, List.filterMap_cons, List.filterMap_nil, Option.bind_some, Option.bind_none, List.getElem?_toArray, List.getElem?_cons_succ, List.getElem?_cons_zero]
  refine wpQuiet_letter fun K hK => ?_
  change wpQuiet _ _ _ _ [_, _, _, _, _, _] _
  repeat (go_big_quiet_step (fail))
  refine wpQuiet_nil (hK _ ?_)
  clear hK K
  change wpOL _ _ _ _ _ _ _ w4.drew ∧ wpOL _ _ _ _ _ _ _ w4.drew
  generalize w4.drew = w6 at *
  refine ⟨?_, ?_⟩
  case' refine_1 =>
    refine wpOL_one (by kernel_rfl) fun K hK => ?_
    go_wp2_with fail
    refine (ko ra rn rc w6 hd6).mono ?_
    rintro e w7 ⟨rfl, dd⟩
    have hS7 := hS0.grow dd
    have hd7 := hd6.grow dd
    have b7 := Below.grown_trans b6 dd
    refine hK _ _ hS7 ?_
    clear hK K dd
    refine wpOL_seg fun K hK => ?_
    change wpQuiet _ _ _ _ [_, _, _] _
    repeat (go_big_quiet_step (fail))
    refine wpQuiet_nil (hK _ ?_)
    clear hK K
    refine wpOL_one (by kernel_rfl) fun K hK => ?_
    go_wp2_with fail
    have bz : Below w7.heap.size w7 (w7.alloc (.cells #[.int .i64 0, .int .i64 0, .int .i64 0] 81)) := (Below.refl _ _).alloc (Nat.le_refl _) _
    have hS8 := hS7.grow bz
    have hd8 := hd7.grow bz
    have b8 := Below.grown_trans b7 bz
    have o8 := Is.new w7 (.cells #[.int .i64 0, .int .i64 0, .int .i64 0] 81)
    have zo : h.hi ≤ w7.heap.size := hd7.top
    have zw : w.heap.size ≤ w7.heap.size := b7.size
    have zg : w7.heap.size ≠ b0 ∧ w7.heap.size ≠ b0 + 1 ∧ w7.heap.size ≠ g := ⟨by have := hS7.cfg.lt; omega, by have := hS7.blk.lt; omega, by have hh : g < _ := World.block_lt_of_cell? _ _ hS7.pl; omega⟩
    refine hK _ _ hS8 ?_
    clear hK K bz
    generalize w7.alloc (.cells #[.int .i64 0, .int .i64 0, .int .i64 0] 81) = w8 at *
    generalize w7.heap.size = ob at *
    have zl := o8.lt
    obtain ⟨p0, p1, p2⟩ := Is.c3 o8
    have f0 : w8.frozen? ⟨ob, 0, none⟩ = false := o8.free
    have f1 : w8.frozen? ⟨ob, 1, none⟩ = false := o8.free
    have f2 : w8.frozen? ⟨ob, 2, none⟩ = false := o8.free
    refine wpOL_one (by kernel_rfl) fun K hK => ?_
    go_wp2_with fail
    have oE := ((o8.set (i := 0) (.int .i64 2)).set (i := 1) (.int .i64 1)).set (i := 2) (.int .i64 40)
    simp only [List.setIfInBounds_toArray, List.set_cons_zero, List.set_cons_succ] at oE
    have hdE := ((hd8.set (p := ⟨ob, 0, none⟩) (.inr zo) (.int .i64 2)).set (p := ⟨ob, 1, none⟩) (.inr zo) (.int .i64 1)).set (p := ⟨ob, 2, none⟩) (.inr zo) (.int .i64 40)
    have bE := ((b8.setCell (p := ⟨ob, 0, none⟩) zw (.int .i64 2)).setCell (p := ⟨ob, 1, none⟩) zw (.int .i64 1)).setCell (p := ⟨ob, 2, none⟩) zw (.int .i64 40)
    have hSE : W10S h b0 g 3 ra rn rc (((w8.setCell ⟨ob, 0, none⟩ (.int .i64 2)).setCell ⟨ob, 1, none⟩ (.int .i64 1)).setCell ⟨ob, 2, none⟩ (.int .i64 40)) :=
      ⟨Is.set_other (Is.set_other (Is.set_other hS8.cfg (by simp; omega) _) (by simp; omega) _) (by simp; omega) _, Is.set_other (Is.set_other (Is.set_other hS8.blk (by simp; omega) _) (by simp; omega) _) (by simp; omega) _, by
        rw [World.cell?_setCell_other _ _ _ _ (fun e => by injection e with e1 _ _; exact zg.2.2 e1), World.cell?_setCell_other _ _ _ _ (fun e => by injection e with e1 _ _; exact zg.2.2 e1), World.cell?_setCell_other _ _ _ _ (fun e => by injection e with e1 _ _; exact zg.2.2 e1)]
        exact hS8.pl⟩
    refine hK _ _ hSE ?_
    clear hK K p0 p1 p2 f0 f1 f2
    generalize ((w8.setCell ⟨ob, 0, none⟩ (.int .i64 2)).setCell ⟨ob, 1, none⟩ (.int .i64 1)).setCell ⟨ob, 2, none⟩ (.int .i64 40) = wE at *
  case' refine_2 =>
    refine wpOL_one (by kernel_rfl) fun K hK => ?_
    go_wp2_with fail
    have bz : Below w6.heap.size w6 (w6.alloc (.cells #[.int .i64 0, .int .i64 0, .int .i64 0] 81)) := (Below.refl _ _).alloc (Nat.le_refl _) _
    have hS8 := hS0.grow bz
    have hd8 := hd6.grow bz
    have b8 := Below.grown_trans b6 bz
    have o8 := Is.new w6 (.cells #[.int .i64 0, .int .i64 0, .int .i64 0] 81)
    have zo : h.hi ≤ w6.heap.size := hd6.top
    have zw : w.heap.size ≤ w6.heap.size := b6.size
    have zg : w6.heap.size ≠ b0 ∧ w6.heap.size ≠ b0 + 1 ∧ w6.heap.size ≠ g := ⟨by have := hS0.cfg.lt; omega, by have := hS0.blk.lt; omega, by have hh : g < _ := World.block_lt_of_cell? _ _ hS0.pl; omega⟩
    refine hK _ _ hS8 ?_
    clear hK K bz
    generalize w6.alloc (.cells #[.int .i64 0, .int .i64 0, .int .i64 0] 81) = w8 at *
    generalize w6.heap.size = ob at *
    refine wpOL_one (by kernel_rfl) fun K hK => ?_
    go_wp2_with fail
    refine (ko ra rn rc w8 hd8).mono ?_
    rintro e w7 ⟨rfl, dd⟩
    have hS7 := hS8.grow dd
    have hd7 := hd8.grow dd
    have b7 := Below.grown_trans b8 dd
    have o7 := o8.grow dd
    refine hK _ _ hS7 ?_
    clear hK K dd
    refine wpOL_seg fun K hK => ?_
    change wpQuiet _ _ _ _ [_, _, _] _
    repeat (go_big_quiet_step (fail))
    refine wpQuiet_nil (hK _ ?_)
    clear hK K
    have zl := o7.lt
    obtain ⟨p0, p1, p2⟩ := Is.c3 o7
    have f0 : w7.frozen? ⟨ob, 0, none⟩ = false := o7.free
    have f1 : w7.frozen? ⟨ob, 1, none⟩ = false := o7.free
    have f2 : w7.frozen? ⟨ob, 2, none⟩ = false := o7.free
    refine wpOL_one (by kernel_rfl) fun K hK => ?_
    go_wp2_with fail
    have oE := ((o7.set (i := 0) (.int .i64 2)).set (i := 1) (.int .i64 1)).set (i := 2) (.int .i64 40)
    simp only [List.setIfInBounds_toArray, List.set_cons_zero, List.set_cons_succ] at oE
    have hdE := ((hd7.set (p := ⟨ob, 0, none⟩) (.inr zo) (.int .i64 2)).set (p := ⟨ob, 1, none⟩) (.inr zo) (.int .i64 1)).set (p := ⟨ob, 2, none⟩) (.inr zo) (.int .i64 40)
    have bE := ((b7.setCell (p := ⟨ob, 0, none⟩) zw (.int .i64 2)).setCell (p := ⟨ob, 1, none⟩) zw (.int .i64 1)).setCell (p := ⟨ob, 2, none⟩) zw (.int .i64 40)
    have hSE : W10S h b0 g 3 ra rn rc (((w7.setCell ⟨ob, 0, none⟩ (.int .i64 2)).setCell ⟨ob, 1, none⟩ (.int .i64 1)).setCell ⟨ob, 2, none⟩ (.int .i64 40)) :=
      ⟨Is.set_other (Is.set_other (Is.set_other hS7.cfg (by simp; omega) _) (by simp; omega) _) (by simp; omega) _, Is.set_other (Is.set_other (Is.set_other hS7.blk (by simp; omega) _) (by simp; omega) _) (by simp; omega) _, by
        rw [World.cell?_setCell_other _ _ _ _ (fun e => by injection e with e1 _ _; exact zg.2.2 e1), World.cell?_setCell_other _ _ _ _ (fun e => by injection e with e1 _ _; exact zg.2.2 e1), World.cell?_setCell_other _ _ _ _ (fun e => by injection e with e1 _ _; exact zg.2.2 e1)]
        exact hS7.pl⟩
    refine hK _ _ hSE ?_
    clear hK K p0 p1 p2 f0 f1 f2
    generalize ((w7.setCell ⟨ob, 0, none⟩ (.int .i64 2)).setCell ⟨ob, 1, none⟩ (.int .i64 1)).setCell ⟨ob, 2, none⟩ (.int .i64 40) = wE at *
  all_goals
    refine wpOL_nil (HQ5.out _ _ ?_)
    simp only [List.toList_toArray, List.drop_succ_cons, List.drop_zero]
    clear HQ5 hS0 hd6 b6 hne GC GB GP hSE
    clear hS7 hS8 hd7 hd8 b7 b8 o8 ko hg0 hg1 zg zl
    have kr0 := fun w hd => oread_any h s10.D 2 1 40 0 w hd ⟨by decide, by decide, by decide, by decide, by decide⟩
    have e5 : fldC 2 1 0 false = 5 := by decide
    rw [e5, if_neg (by decide)] at kr0
    have kw := fun w (hd : Dev w h s10.D) => owrite_ok (stF_dev h s10.D c10.words (by have h := (FInv.all c10 c10_ok [(1, 2)]).len; have h2 : (s10.D.now.length : Int) = c10.words := h; omega)) [] 2 1 40 1 9 w hd (by decide) ⟨by decide, by decide, by decide, by decide, by decide⟩ (by decide) ⟨by decide, by decide⟩ (by decide)
    have kr1 := fun w (hd : Dev w h (s10.D.stores [(42, 9)])) => oread_any h (s10.D.stores [(42, 9)]) 2 1 40 1 w hd ⟨by decide, by decide, by decide, by decide, by decide⟩
    have e6 : fldC 2 1 1 false = 0 := by decide
    have e7 : (40 + 1 + 1 : Int).toNat = 42 := by decide
    rw [e6, if_pos rfl, e7, s10_42] at kr1
    clear e5 e6 e7
    have zl := oE.lt
    obtain ⟨p0, p1, p2⟩ := Is.c3 oE
    go_wp2
    refine NoPanic.normal ?_
    go_wp2_with fail
    refine (kr0 _ hdE).mono ?_
    rintro e wF ⟨rfl, dF⟩
    have oF := oE.grow dF
    have hdF := hdE.grow dF
    have bF := Below.grown_trans bE dF
    clear kr0 p0 p1 p2 oE hdE bE dF zl
    obtain ⟨p0, p1, p2⟩ := Is.c3 oF
    go_wp2_with fail
    refine (kw _ hdF).mono ?_
    rintro e wG ⟨rfl, hdG, lfG⟩
    have oG := oF.lef lfG (by unfold dS; omega)
    have bG := bF.trans (lfG.below (fun q hq => by unfold dS at hq; omega) bF.size)
    clear kw p0 p1 p2 oF hdF bF lfG
    obtain ⟨p0, p1, p2⟩ := Is.c3 oG
    have hdG : Dev wG h (s10.D.stores [(42, 9)]) := hdG
    go_wp2_with fail
    refine (kr1 _ hdG).mono ?_
    rintro e wH ⟨rfl, dH⟩
    have oH := oG.grow dH
    have bH := Below.grown_trans bG dH
    clear kr1 p0 p1 p2 oG hdG bG dH
    obtain ⟨p0, p1, p2⟩ := Is.c3 oH
    have hfn := fun w x y => run_neq_func_nil (P := Try.prog) w 92 (.func 90) #[] #[x, y] Try.underlying92
    go_wp2_with fail
    refine (onames_any 2 1 40 h _).mono ?_
    rintro e wI ⟨rfl, rfl⟩
    have bI : Below w.heap.size w ((wH.alloc (.cells #[.int .i64 2, .int .i64 1, .int .i64 40] 81)).alloc (.cells #[.pointer (some ⟨h.d, 0, none⟩)] 31)) := (bH.alloc bH.size _).alloc (by rw [World.size_alloc]; have := bH.size; omega) _
    go_wp2_with fail
    go_ret
    exact ⟨rfl, bI⟩
end Go.Proofs.Ytpecgfpofihibaa
