/-
  section: New, Begin, Store, Abort, Open.
-/
import Derived.Test.YtpecgfpofihibaaMapL
import Derived.Test.YtpecgfpofihibaaUndo
import Derived.Test.YtpecgfpofihibaaQn
import Derived.RegionTactic
import Derived.ChangeAlike
import Derived.BigRegion
namespace Go.Proofs.Ytpecgfpofihibaa
open Go Go.RowKit Go.MapKept

/-- A section lies at sb. -/
def secc (h : DevH) (c : Cf) (lb : Nat) (op : Bool) (f1 f2 : Int) (v1 v2 : Value) : Obj :=
  .cells #[.pointer (some ⟨lb, 0, none⟩), h.ptr, .int .i64 c.L, .int .i64 c.R, .int .i64 c.S, .bool op, .int .i64 f1, .int .i64 f2, v1, v2] 157 (0, 0)

/-- A config in a block. -/
def CfS (cb : Nat) (c : Cf) (W : World) : Prop := Is W cb (.cells #[.int .i64 c.L, .int .i64 c.R, .int .i64 c.S] 29 (0, 0))

set_option maxHeartbeats 2000000 in
set_option maxRecDepth 100000 in
theorem secnew_any (h : DevH) (D : DevS) (c : Cf) (n : Nat) (w : World) (hd : Dev w h D) (hc : c.ok) (hn : LogN D c n) :
    Calls Try.prog 101 #[h.ptr, c.val] w fun e w' => ∃ sb lb, e = .returned (.pointer (some ⟨sb, 0, none⟩)) ∧ Is w' sb (secc h c lb false 0 0 (.map none) (.map none)) ∧ Is w' lb (lgc h c D.ep n) ∧ w.heap.size ≤ lb ∧ lb < sb ∧ Below w.heap.size w w' := by
  have hv : c.val = .agg #[.int .i64 c.L, .int .i64 c.R, .int .i64 c.S] := rfl
  have i1 := Is.new w (.cells #[.int .i64 c.L, .int .i64 c.R, .int .i64 c.S] 29)
  have hd1 := hd.alloc (.cells #[.int .i64 c.L, .int .i64 c.R, .int .i64 c.S] 29)
  have b1 : Below w.heap.size w (w.alloc (.cells #[.int .i64 c.L, .int .i64 c.R, .int .i64 c.S] 29)) := (Below.refl _ _).alloc (Nat.le_refl _) _
  have ko := fun w hd => open_any h D c n w hd hc hn
  rw [hv] at ko ⊢
  unfold DevH.ptr at ko ⊢
  clear hd
  go_enter Try.func101, Try.ntmps101
  go_wp2_with fail
  generalize w.alloc (.cells #[.int .i64 c.L, .int .i64 c.R, .int .i64 c.S] 29) = w1 at *
  have hS0 : CfS w.heap.size c w1.drew := i1
  have hne : Nonempty (SW (CfS w.heap.size c)) := ⟨⟨_, hS0⟩⟩
  have GC0 : ∀ x : SW (CfS w.heap.size c), x.1.cell? ⟨w.heap.size, 0, none⟩ = some (.int .i64 c.L) := fun x => (Is.c3 x.2).1
  have GC1 : ∀ x : SW (CfS w.heap.size c), x.1.cell? ⟨w.heap.size, 1, none⟩ = some (.int .i64 c.R) := fun x => (Is.c3 x.2).2.1
  have GC2 : ∀ x : SW (CfS w.heap.size c), x.1.cell? ⟨w.heap.size, 2, none⟩ = some (.int .i64 c.S) := fun x => (Is.c3 x.2).2.2
  refine wp_region_OL (S := CfS w.heap.size c) 5 [([0, 1, 3, 4], some 2)] (by kernel_rfl) (by kernel_rfl) (by kernel_rfl) (by kernel_rfl) (by decide) rfl (by kernel_rfl) (by kernel_rfl) hS0 fun Q4 hQ4 Q5 hQ5 => ?_
  have HQ5 := Lib.hid hQ5
  clear hQ4 hQ5
  simp only [segOps, List.map_cons, List.map_nil, List.filterMap_cons, List.filterMap_nil, Option.bind_some, Option.bind_none, List.getElem?_toArray, List.getElem?_cons_succ, List.getElem?_cons_zero]
  change wpOL _ _ _ _ _ _ _ w1.drew
  refine wpOL_seg fun K hK => ?_
  change wpQuiet _ _ _ _ [_, _, _, _] _
  repeat (go_big_quiet_step (fail))
  refine wpQuiet_nil (hK _ ?_)
  clear hK K
  refine wpOL_one (by kernel_rfl) fun K hK => ?_
  go_wp2_with fail
  refine (ko _ hd1.drew).mono ?_
  rintro e w2 ⟨lb, rfl, hl2, hlb, d2⟩
  have hS2 : CfS w.heap.size c w2 := Is.grow (w := w1.drew) i1 d2
  refine hK _ _ hS2 ?_
  clear hK K
  refine wpOL_nil (HQ5.out _ _ ?_)
  have b2 := Below.grown_trans b1 (Below.grown_trans ((Below.refl _ _).drew) d2)
  have i2 := Is.new w2 (.cells #[.pointer (some ⟨lb, 0, none⟩), .pointer (some ⟨h.d, 0, none⟩), .int .i64 c.L, .int .i64 c.R, .int .i64 c.S, .bool false, .int .i64 0, .int .i64 0, .map none, .map none] 157)
  have l2 := hl2.alloc (.cells #[.pointer (some ⟨lb, 0, none⟩), .pointer (some ⟨h.d, 0, none⟩), .int .i64 c.L, .int .i64 c.R, .int .i64 c.S, .bool false, .int .i64 0, .int .i64 0, .map none, .map none] 157)
  have b3 := b2.alloc b2.size (.cells #[.pointer (some ⟨lb, 0, none⟩), .pointer (some ⟨h.d, 0, none⟩), .int .i64 c.L, .int .i64 c.R, .int .i64 c.S, .bool false, .int .i64 0, .int .i64 0, .map none, .map none] 157)
  simp only [List.toList_toArray, List.drop_succ_cons, List.drop_zero]
  go_wp2
  refine NoPanic.normal ?_
  go_wp2
  go_ret
  exact ⟨w2.heap.size, lb, rfl, i2, l2, Nat.le_trans b1.size hlb, hl2.lt, b3⟩

theorem sec_cells {w : World} {sb : Nat} {h : DevH} {c : Cf} {lb : Nat} {op : Bool} {f1 f2 : Int} {v1 v2 : Value} (hs : Is w sb (secc h c lb op f1 f2 v1 v2)) :
    w.cell? ⟨sb, 0, none⟩ = some (.pointer (some ⟨lb, 0, none⟩)) ∧ w.cell? ⟨sb, 1, none⟩ = some (.pointer (some ⟨h.d, 0, none⟩)) ∧ w.cell? ⟨sb, 2, none⟩ = some (.int .i64 c.L) ∧ w.cell? ⟨sb, 3, none⟩ = some (.int .i64 c.R) ∧ w.cell? ⟨sb, 4, none⟩ = some (.int .i64 c.S) ∧
    w.cell? ⟨sb, 5, none⟩ = some (.bool op) ∧ w.cell? ⟨sb, 6, none⟩ = some (.int .i64 f1) ∧ w.cell? ⟨sb, 7, none⟩ = some (.int .i64 f2) ∧ w.cell? ⟨sb, 8, none⟩ = some v1 ∧ w.cell? ⟨sb, 9, none⟩ = some v2 :=
  ⟨hs.cell, hs.cell, hs.cell, hs.cell, hs.cell, hs.cell, hs.cell, hs.cell, hs.cell, hs.cell⟩
theorem sec_free {w : World} {sb : Nat} {h : DevH} {c : Cf} {lb : Nat} {op : Bool} {f1 f2 : Int} {v1 v2 : Value} (hs : Is w sb (secc h c lb op f1 f2 v1 v2)) (i : Nat) : w.frozen? ⟨sb, i, none⟩ = false := hs.free

set_option maxHeartbeats 400000 in
theorem secopen_any (h : DevH) (c : Cf) (lb sb : Nat) (op : Bool) (f1 f2 : Int) (v1 v2 : Value) (w : World) (hs : Is w sb (secc h c lb op f1 f2 v1 v2)) :
    Calls Try.prog 105 #[.pointer (some ⟨sb, 0, none⟩)] w fun e w' => e = .returned (.bool op) ∧ w = w' := by
  obtain ⟨_, _, _, _, _, c5, _⟩ := sec_cells hs
  clear hs
  go_enter Try.func105, Try.ntmps105
  go_wp2
  go_ret
  exact ⟨rfl, rfl⟩

/-- What Begin leaves. -/
def BegP (h : DevH) (c : Cf) (lb sb : Nat) (g1 g2 : Int) (w w' : World) : Prop := ∃ sm dm, Is w' sb (secc h c lb true g1 g2 (.map (some sm)) (.map (some dm))) ∧ Is w' sm (.map #[] 0) ∧ Is w' dm (.map #[] 0) ∧ w.heap.size ≤ sm ∧ sm < w'.heap.size ∧ w.heap.size ≤ dm ∧ dm < w'.heap.size ∧ sm ≠ dm ∧ Lef (fun k => k = sb) w w'

theorem begP_mk {h : DevH} {c : Cf} {lb sb : Nat} {f1 f2 g1 g2 : Int} {v1 v2 : Value} {w w1 : World} (hs : Is w1 sb (secc h c lb false f1 f2 v1 v2)) (hl : Lef (fun k => k = sb) w w1) (a b : Nat) (hab : (a = w1.heap.size ∧ b = w1.heap.size + 1) ∨ (a = w1.heap.size + 1 ∧ b = w1.heap.size)) :
    BegP h c lb sb g1 g2 w (((((((w1.setCell ⟨sb, 5, none⟩ (.bool true)).setCell ⟨sb, 6, none⟩ (.int .i64 g1)).setCell ⟨sb, 7, none⟩ (.int .i64 g2)).setCell ⟨sb, 8, none⟩ (.map (some a))).setCell ⟨sb, 9, none⟩ (.map (some b))).alloc (.map #[] 0)).alloc (.map #[] 0)).drew := by
  have s : Is (((((w1.setCell ⟨sb, 5, none⟩ (.bool true)).setCell ⟨sb, 6, none⟩ (.int .i64 g1)).setCell ⟨sb, 7, none⟩ (.int .i64 g2)).setCell ⟨sb, 8, none⟩ (.map (some a))).setCell ⟨sb, 9, none⟩ (.map (some b))) sb (secc h c lb true g1 g2 (.map (some a)) (.map (some b))) :=
    ((((hs.set (i := 5) (.bool true)).set (i := 6) (.int .i64 g1)).set (i := 7) (.int .i64 g2)).set (i := 8) (.map (some a))).set (i := 9) (.map (some b))
  have l : Lef (fun k => k = sb) w (((((w1.setCell ⟨sb, 5, none⟩ (.bool true)).setCell ⟨sb, 6, none⟩ (.int .i64 g1)).setCell ⟨sb, 7, none⟩ (.int .i64 g2)).setCell ⟨sb, 8, none⟩ (.map (some a))).setCell ⟨sb, 9, none⟩ (.map (some b))) :=
    ((((hl.setCell (p := ⟨sb, 5, none⟩) rfl _).setCell (p := ⟨sb, 6, none⟩) rfl _).setCell (p := ⟨sb, 7, none⟩) rfl _).setCell (p := ⟨sb, 8, none⟩) rfl _).setCell (p := ⟨sb, 9, none⟩) rfl _
  have hz : (((((w1.setCell ⟨sb, 5, none⟩ (.bool true)).setCell ⟨sb, 6, none⟩ (.int .i64 g1)).setCell ⟨sb, 7, none⟩ (.int .i64 g2)).setCell ⟨sb, 8, none⟩ (.map (some a))).setCell ⟨sb, 9, none⟩ (.map (some b))).heap.size = w1.heap.size := by simp
  generalize ((((w1.setCell ⟨sb, 5, none⟩ (.bool true)).setCell ⟨sb, 6, none⟩ (.int .i64 g1)).setCell ⟨sb, 7, none⟩ (.int .i64 g2)).setCell ⟨sb, 8, none⟩ (.map (some a))).setCell ⟨sb, 9, none⟩ (.map (some b)) = w2 at *
  have n1 := (Is.new w2 (.map #[] 0)).alloc (.map #[] 0)
  have n2 := Is.new (w2.alloc (.map #[] 0)) (.map #[] 0)
  rw [World.size_alloc] at n2
  have hw := l.size
  have hA : Is ((w2.alloc (.map #[] 0)).alloc (.map #[] 0)).drew a (.map #[] 0) ∧ Is ((w2.alloc (.map #[] 0)).alloc (.map #[] 0)).drew b (.map #[] 0) := by
    rcases hab with ⟨rfl, rfl⟩ | ⟨rfl, rfl⟩
    · rw [← hz]; exact ⟨n1, n2⟩
    · rw [← hz]; exact ⟨n2, n1⟩
  refine ⟨a, b, (s.alloc (.map #[] 0)).alloc (.map #[] 0), hA.1, hA.2, by omega, hA.1.lt, by omega, hA.2.lt, by omega, ?_⟩
  exact l.trans (Lef.of_below (((Below.refl _ _).alloc (Nat.le_refl _) _).alloc (by simp) _).drew)

set_option maxRecDepth 100000 in
set_option maxHeartbeats 1000000 in
theorem secbegin_any (h : DevH) (c : Cf) (lb sb : Nat) (f1 f2 g1 g2 : Int) (v1 v2 : Value) (w : World) (hs : Is w sb (secc h c lb false f1 f2 v1 v2)) :
    Calls Try.prog 102 #[.pointer (some ⟨sb, 0, none⟩), .agg #[.int .i64 g1, .int .i64 g2]] w fun e w' => e = .returned (.int .i64 0) ∧ BegP h c lb sb g1 g2 w w' := by
  have hmm := @run_makeMap Try.prog
  have s1 := hs.alloc (.cells #[.int .i64 g1, .int .i64 g2] 77)
  have i1 := Is.new w (.cells #[.int .i64 g1, .int .i64 g2] 77)
  have l1 : Lef (fun k => k = sb) w (w.alloc (.cells #[.int .i64 g1, .int .i64 g2] 77)) := Lef.of_below ((Below.refl _ _).alloc (Nat.le_refl _) _)
  have hlt := hs.lt
  clear hs
  go_enter Try.func102, Try.ntmps102
  obtain ⟨_, _, _, _, _, c5, c6, c7, c8, c9⟩ := sec_cells s1
  have q0 : (w.alloc (.cells #[.int .i64 g1, .int .i64 g2] 77)).cell? ⟨w.heap.size, 0, none⟩ = some (.int .i64 g1) := by rw [i1.cell]; rfl
  have q1 : (w.alloc (.cells #[.int .i64 g1, .int .i64 g2] 77)).cell? ⟨w.heap.size, 1, none⟩ = some (.int .i64 g2) := by rw [i1.cell]; rfl
  have f5 := sec_free s1 5
  have f6 := sec_free s1 6
  have f7 := sec_free s1 7
  have f8 := sec_free s1 8
  have f9 := sec_free s1 9
  go_wp2_with fail
  have z1 := s1.lt
  have z2 := i1.lt
  have z3 : sb ≠ w.heap.size := by omega
  have z4 : w.heap.size ≠ sb := by omega
  generalize w.alloc (.cells #[.int .i64 g1, .int .i64 g2] 77) = w1 at *
  go_region
  · have fin := begP_mk (g1 := g1) (g2 := g2) s1 l1 w1.heap.size (w1.heap.size + 1) (.inl ⟨rfl, rfl⟩)
    clear c5 c6 c7 c8 c9 q0 q1 f5 f6 f7 f8 f9 z1 z2 z3 z4 hmm i1
    go_wp2
    go_ret
    exact ⟨rfl, fin⟩
  · have fin := begP_mk (g1 := g1) (g2 := g2) s1 l1 (w1.heap.size + 1) w1.heap.size (.inr ⟨rfl, rfl⟩)
    clear c5 c6 c7 c8 c9 q0 q1 f5 f6 f7 f8 f9 z1 z2 z3 z4 hmm i1
    go_wp2
    go_ret
    exact ⟨rfl, fin⟩

/-- A store into a map, the world behind it by a letter. -/
theorem mapUpdate_w {T E : TypeId} (hm : Try.prog.underlying T = some (.map 3 E)) {w : World} {b : Nat} {es : Array MapEntry} {clock : Nat} {q : List (Int × Value)} (k : Int) (v : Value) (hq : Is w b (.map es clock)) (hQ : MapL es clock q) :
    ∃ w', (Instr.mapUpdate T (.map (some b)) (.int .i64 k) v).run Try.prog w = .ok () w' ∧ Lef (fun r => r = b) w w' ∧ ∃ es' clock', Is w' b (.map es' clock') ∧ MapL es' clock' (putL q k v) := by
  obtain ⟨es', ck', h1, h2⟩ := mapUpdate_l hm k v hq hQ
  refine ⟨_, h1, ⟨rfl, rfl, rfl, by simp, fun r _ hr => ?_⟩, es', ck', (heap_set (w := w) hq).1, h2⟩
  exact (heap_set (w := w) hq).2 r hr
end Go.Proofs.Ytpecgfpofihibaa
