/-
  roots: Place, Has, Read.
-/
import Derived.Test.YtpecgfpofihibaaOwn
import Derived.Test.YtpecgfpofihibaaQn
namespace Go.Proofs.Ytpecgfpofihibaa
open Go Go.RowKit Go.MapKept

theorem Cf.fr_bd {c : Cf} (hc : c.ok) (s : Int) (h0 : 0 ≤ s) (h1 : s ≤ 1) : c.fr0 ≤ c.fr s ∧ c.fr s + c.S ≤ c.words ∧ c.fr s ≤ 6000 := by
  have n := hc.nums
  obtain ⟨a0, a1, f0, f1, s0, s1, w, w0, w1, r0, r1, sp0, sp1⟩ := n
  have : s = 0 ∨ s = 1 := by omega
  rcases this with rfl | rfl
  · rw [Cf.fr_zero]; omega
  · rw [Cf.fr_one]; omega

theorem below2 {w w2 : World} {o1 o2 : Obj} (h : Below ((w.alloc o1).alloc o2).heap.size ((w.alloc o1).alloc o2) w2) : Below w.heap.size w w2 := bel_alloc (bel_alloc h)

set_option maxHeartbeats 400000 in
theorem bplace_any (c : Cf) (a u i : Int) (ra : Option Addr) (rn rc : Nat) (w : World) (hc : c.ok) (a0 : 0 ≤ a) (a1 : a ≤ 1) (h0 : 0 ≤ i) (h1 : i ≤ 100000) :
    Calls Try.prog 65 #[.agg #[.int .i64 a, .int .i64 u, .slice ra rn rc], .agg #[.int .i64 c.L, .int .i64 c.R, .int .i64 c.S], .int .i64 i] w fun e w' => e = .returned (.int .i64 (c.fr a + i)) ∧ Below w.heap.size w w' := by
  obtain ⟨f1, f2, f3⟩ := Cf.fr_bd hc a a0 a1
  have nn := hc.nums.a0
  have nf := hc.nums.f0
  have nr := hc.nums.r0
  have f4 : 0 ≤ c.fr a := by omega
  clear f1 f2 nn nf nr
  go_enter Try.func65, Try.ntmps65
  go_wp2_with fail
  refine (from_lit c a _ hc a0 (by omega)).mono ?_
  rintro e w1 ⟨rfl, d1⟩
  go_wp2_with fail
  go_ret
  exact ⟨rfl, below2 d1⟩

theorem ret_bool {a b : Bool} (h : a = b) : Ending.returned (.bool a) = .returned (.bool b) := by rw [h]

/-- Is it a word of the block's space that is used? -/
def hasB (c : Cf) (a u x : Int) : Bool := decide (c.fr a ≤ x) && decide (x < c.fr a + u)
theorem hasB_iff {c : Cf} {a u x : Int} : hasB c a u x = true ↔ c.fr a ≤ x ∧ x < c.fr a + u := by simp [hasB]

set_option maxHeartbeats 1000000 in
theorem bhas_any (c : Cf) (a u x : Int) (ra : Option Addr) (rn rc : Nat) (w : World) (hc : c.ok) (a0 : 0 ≤ a) (a1 : a ≤ 1) (h0 : 0 ≤ u) (h1 : u ≤ 5000) (hx : U64 x) :
    Calls Try.prog 87 #[.agg #[.int .i64 a, .int .i64 u, .slice ra rn rc], .agg #[.int .i64 c.L, .int .i64 c.R, .int .i64 c.S], .int .u64 x] w fun e w' => e = .returned (.bool (hasB c a u x)) ∧ Below w.heap.size w w' := by
  obtain ⟨f1, f2, f3⟩ := Cf.fr_bd hc a a0 a1
  have nn := hc.nums.a0
  have nf := hc.nums.f0
  have nr := hc.nums.r0
  have f4 : 0 ≤ c.fr a := by omega
  obtain ⟨x0, x1⟩ := hx
  clear f1 f2 nn nf nr
  have i1 := (Is.new w (.cells #[.int .i64 a, .int .i64 u, .slice ra rn rc] 57)).alloc (.cells #[.int .i64 c.L, .int .i64 c.R, .int .i64 c.S] 29)
  go_enter Try.func87, Try.ntmps87
  go_wp2_with fail
  refine (from_lit c a _ hc a0 (by omega)).mono ?_
  rintro e w1 ⟨rfl, d1⟩
  have i2 := i1.grow d1
  have b1 := below2 d1
  have hB : hasB c a u x = (decide (c.fr a ≤ x) && decide (x < c.fr a + u)) := rfl
  have HB := Lib.hid hB
  clear i1 d1 hB
  have c1 : w1.cell? ⟨w.heap.size, 1, none⟩ = some (.int .i64 u) := by rw [i2.cell]; rfl
  generalize c.fr a = fa at *
  by_cases hge : fa ≤ x
  · have hd2 : 0 ≤ x - fa := by omega
    have hd3 : x - fa < 18446744073709551616 := by omega
    have hfin : decide (x - fa < u) = hasB c a u x := by rw [HB.out, decide_eq_true hge, Bool.true_and]; exact decide_eq_decide.2 (by omega)
    have HF := Lib.hid hfin
    clear hfin
    go_wp2_with fail
    go_ret
    exact ⟨ret_bool HF.out, b1⟩
  · have hd2 : x < fa := by omega
    have hfin : false = hasB c a u x := by rw [HB.out, decide_eq_false hge]; rfl
    have HF := Lib.hid hfin
    clear hfin
    go_wp2_with fail
    go_ret
    exact ⟨ret_bool HF.out, b1⟩

/-- A device's roots. -/
def rootsOf (D : DevS) (c : Cf) (k : Nat) : List Int := (List.range k).map fun i => D.at (c.act.toNat + 2 + i)
@[simp] theorem rootsOf_len (D : DevS) (c : Cf) (k : Nat) : (rootsOf D c k).length = k := by simp [rootsOf]
theorem rootsOf_succ (D : DevS) (c : Cf) (k : Nat) : rootsOf D c (k + 1) = rootsOf D c k ++ [D.at (c.act.toNat + 2 + k)] := by simp [rootsOf, List.range_succ]

/-- A block's cells. -/
def blc (a u : Int) (v : Value) : Obj := .cells #[.int .i64 a, .int .i64 u, v] 57 (0, 0)

/-- What the loop of Read reads. -/
structure RdS (c : Cf) (cb bb : Nat) (a u : Int) (v : Value) (W : World) : Prop where
  cfg : Is W cb (.cells #[.int .i64 c.L, .int .i64 c.R, .int .i64 c.S] 29 (0, 0))
  blk : Is W bb (blc a u v)

set_option maxRecDepth 100000 in
set_option maxHeartbeats 4000000 in
theorem rread_any (h : DevH) (D : DevS) (c : Cf) (a u : Int) (w : World) (hd : Dev w h D) (hc : c.ok) (ha : D.at c.act.toNat = a) (hu : D.at (c.act.toNat + 1) = u) (a0 : 0 ≤ a) (a1 : a ≤ 1) (u0 : 0 ≤ u) (u1 : u ≤ c.S) :
    Calls Try.prog 49 #[.pointer (some ⟨h.d, 0, none⟩), .agg #[.int .i64 c.L, .int .i64 c.R, .int .i64 c.S]] w fun e w' => ∃ ra rn rc, e = .returned (.tuple #[.agg #[.int .i64 a, .int .i64 u, .slice ra rn rc], .int .i64 0]) ∧ Own w' w.heap.size 38 1 c.R.toNat (u64s (rootsOf D c c.R.toNat)) (.slice ra rn rc) ∧ Below w.heap.size w w' := by
  have nn := hc.nums
  obtain ⟨na0, na1, nf0, nf1, ns0, ns1, nw, nw0, nw1, nr0, nr1, nsp0, nsp1⟩ := nn
  have ka := fun W (hd : Dev W h D) => load_at h D c.act W hd (by omega)
  rw [ha] at ka
  have ku := fun W (hd : Dev W h D) => load_at h D (c.act + 1) W hd (by omega)
  rw [show (c.act + 1).toNat = c.act.toNat + 1 from by omega, hu] at ku
  clear ha hu nw
  have i1 := (Is.new w (.cells #[.int .i64 c.L, .int .i64 c.R, .int .i64 c.S] 29)).alloc (.cells #[.int .i64 0, .int .i64 0, .slice none 0 0] 57)
  have r1 := Is.new (w.alloc (.cells #[.int .i64 c.L, .int .i64 c.R, .int .i64 c.S] 29)) (.cells #[.int .i64 0, .int .i64 0, .slice none 0 0] 57)
  rw [World.size_alloc] at r1
  have b1 : Below w.heap.size w ((w.alloc (.cells #[.int .i64 c.L, .int .i64 c.R, .int .i64 c.S] 29)).alloc (.cells #[.int .i64 0, .int .i64 0, .slice none 0 0] 57)) := ((Below.refl _ _).alloc (Nat.le_refl _) _).alloc (by simp) _
  have hd1 := (hd.alloc (.cells #[.int .i64 c.L, .int .i64 c.R, .int .i64 c.S] 29)).alloc (.cells #[.int .i64 0, .int .i64 0, .slice none 0 0] 57)
  clear hd
  go_enter Try.func49, Try.ntmps49
  go_wp2_with fail
  generalize (w.alloc (.cells #[.int .i64 c.L, .int .i64 c.R, .int .i64 c.S] 29)).alloc (.cells #[.int .i64 0, .int .i64 0, .slice none 0 0] 57) = w1 at *
  have G := GrW.c3 i1
  have k1 := fun x : GrW w1 => ka x.1 (hd1.grow x.2)
  have k2 := fun x : GrW w1 => ku x.1 (hd1.grow x.2)
  refine wp_gr (by kernel_rfl) (by kernel_rfl) ?_
  repeat (go_big_quiet_step (first
    | (go_at_call 26; with_reducible exact gr_call_same (k1 _))
    | (go_at_call 26; with_reducible exact gr_call_same (k2 _))
    | (go_at_call 36; with_reducible exact gr_call (active_lit c _ hc))
    | (go_at_call 38; with_reducible exact gr_call (used_lit c _ hc))))
  refine wpQuiet_nil ?_
  rintro w2 ⟨⟨_, hw2⟩, rfl⟩
  have i2 := i1.grow hw2
  have r2 := r1.grow hw2
  have hd2 := hd1.grow hw2
  have b2 := Below.grown_trans b1 hw2
  clear G k1 k2 ka ku hw2 i1 r1 hd1 b1
  obtain ⟨c0, c1, c2⟩ := i2.c3
  have zi := i2.lt
  have zr := r2.lt
  go_wp2
  have i3 := i2.alloc (.cells #[.int .i64 a, .int .i64 u, .slice none 0 0] 57)
  have r3 := r2.alloc (.cells #[.int .i64 a, .int .i64 u, .slice none 0 0] 57)
  have hd3 := hd2.alloc (.cells #[.int .i64 a, .int .i64 u, .slice none 0 0] 57)
  have b3 : Below w.heap.size w (w2.alloc (.cells #[.int .i64 a, .int .i64 u, .slice none 0 0] 57)) := b2.alloc b2.size _
  have bb3 : Is (w2.alloc (.cells #[.int .i64 a, .int .i64 u, .slice none 0 0] 57)) w2.heap.size (blc a u (.slice none 0 0)) := Is.new w2 _
  have htop := hd2.top
  have hsz2 : (w2.alloc (.cells #[.int .i64 a, .int .i64 u, .slice none 0 0] 57)).heap.size = w2.heap.size + 1 := by simp
  clear i2 r2 hd2 b2 c0 c1 c2
  have hR : ∃ R : Nat, c.R = R := ⟨c.R.toNat, by omega⟩
  obtain ⟨R, hR⟩ := hR
  have own0 : Own (w2.alloc (.cells #[.int .i64 a, .int .i64 u, .slice none 0 0] 57)) (w2.heap.size + 1) 38 1 0 (u64s (rootsOf D c 0)) (.slice none 0 0) := Own.nil _ _ _ _
  generalize w2.alloc (.cells #[.int .i64 a, .int .i64 u, .slice none 0 0] 57) = w3 at *
  generalize w2.heap.size = bb at *
  have HR := Lib.hid hR
  have hRle : (R : Int) ≤ 16 := by omega
  have hRR : c.R ≤ (R : Int) := by omega
  have hRR2 : (R : Int) ≤ c.R := by omega
  clear hsz2 hR
  go_loopw [35] (fun i wr => ∃ (k : Nat) (ra : Option Addr) (rc : Nat), k ≤ R ∧ i = .int .i64 k ∧ Dev wr h D ∧ RdS c w.heap.size bb a u (.slice ra k rc) wr ∧ Is wr (w.heap.size + 1) (.cells #[.int .i64 0, .int .i64 0, .slice none 0 0] 57 (0, 0)) ∧ Own wr (bb + 1) 38 1 k (u64s (rootsOf D c k)) (.slice ra k rc) ∧ Below w.heap.size w wr)
    (fun i _ => R - (intOf i).toNat)
  case atStart => exact ⟨0, none, 0, by omega, rfl, hd3, ⟨i3, bb3⟩, r3, own0, b3⟩
  case round =>
    obtain ⟨k, ra, rc, hk, rfl, hdr, hS, rr, hown, br⟩ := hrel
    clear hd3 i3 bb3 r3 own0 b3
    by_cases hlt : k < R
    · have hk2 : (k : Int) < R := by omega
      have hk3 : (k : Int) < c.R := by omega
      have kl := fun W (hd : Dev W h D) => load_at h D (c.act + 2 + k) W hd (by omega)
      rw [show (c.act + 2 + (k : Int)).toNat = c.act.toNat + 2 + k from by omega] at kl
      have hsu := rootsOf_succ D c k
      generalize D.at (c.act.toNat + 2 + k) = x at *
      have HSU := Lib.hid hsu
      clear hsu
      have GC0 : ∀ y : SW (RdS c w.heap.size bb a u (.slice ra k rc)), y.1.cell? ⟨w.heap.size, 0, none⟩ = some (.int .i64 c.L) := fun y => (Is.c3 y.2.cfg).1
      have GC1 : ∀ y : SW (RdS c w.heap.size bb a u (.slice ra k rc)), y.1.cell? ⟨w.heap.size, 1, none⟩ = some (.int .i64 c.R) := fun y => (Is.c3 y.2.cfg).2.1
      have GC2 : ∀ y : SW (RdS c w.heap.size bb a u (.slice ra k rc)), y.1.cell? ⟨w.heap.size, 2, none⟩ = some (.int .i64 c.S) := fun y => (Is.c3 y.2.cfg).2.2
      have GB : ∀ y : SW (RdS c w.heap.size bb a u (.slice ra k rc)), y.1.cell? ⟨bb, 2, none⟩ = some (.slice ra k rc) := fun y => (Is.c3 y.2.blk).2.2
      have hd0 := hdr.drew
      have hS0 : RdS c w.heap.size bb a u (.slice ra k rc) wr.drew := ⟨hS.cfg, hS.blk⟩
      have rr0 := rr.drew
      have hown0 := hown.grow (W' := wr.drew) (Below.refl _ _).drew
      have br0 : Below w.heap.size w wr.drew := br.drew
      have hbl := hS.blk.lt
      clear hdr rr hown
      go_wp2_with fail
      have hne : Nonempty (SW (RdS c w.heap.size bb a u (.slice ra k rc))) := ⟨⟨_, hS0⟩⟩
      refine wp_region_OL (S := RdS c w.heap.size bb a u (.slice ra k rc)) 8 [([0, 1, 2, 3, 4], some 5), ([], some 6), ([], some 7)] (by kernel_rfl) (by kernel_rfl) (by kernel_rfl) (by kernel_rfl) (by decide) rfl (by kernel_rfl) (by kernel_rfl) hS0 fun Q4 hQ4 Q5 hQ5 => ?_
      have HQ5 := Lib.hid hQ5
      clear hQ4 hQ5
      simp only [segOps, List.map_cons, List.map_nil, List.filterMap_cons, List.filterMap_nil, Option.bind_some, Option.bind_none, List.getElem?_toArray, List.getElem?_cons_succ, List.getElem?_cons_zero]
      change wpOL _ _ _ _ _ _ _ wr.drew
      generalize wr.drew = w4 at *
      clear hS br
      refine wpOL_seg fun K hK => ?_
      change wpQuiet _ _ _ _ [_, _, _, _, _] _
      repeat (go_big_quiet_step (fail))
      refine wpQuiet_nil (hK _ ?_)
      clear hK K
      refine wpOL_one (by kernel_rfl) fun K hK => ?_
      go_wp2_with fail
      refine (root_lit c k _ hc (by omega) (by omega)).mono ?_
      rintro e w5 ⟨rfl, d5⟩
      have hS5 : RdS c w.heap.size bb a u (.slice ra k rc) w5 := ⟨hS0.cfg.grow d5, hS0.blk.grow d5⟩
      have hd5 := hd0.grow d5
      refine hK _ _ hS5 ?_
      clear hK K
      refine wpOL_one (by kernel_rfl) fun K hK => ?_
      go_wp2_with fail
      refine (kl _ hd5).mono ?_
      rintro e w6 ⟨rfl, rfl⟩
      refine hK _ _ hS5 ?_
      clear hK K
      refine wpOL_one (by kernel_rfl) fun K hK => ?_
      go_wp2_with fail
      have d6 : Below w4.heap.size w4 (w5.alloc (.cells #[.int .u64 x] 38)) := d5.alloc d5.size _
      have n6 := Is.new w5 (.cells #[.int .u64 x] 38)
      have hS6 : RdS c w.heap.size bb a u (.slice ra k rc) (w5.alloc (.cells #[.int .u64 x] 38)) := ⟨hS0.cfg.grow d6, hS0.blk.grow d6⟩
      refine hK _ _ hS6 ?_
      clear hK K
      have hd6 := hd0.grow d6
      have rr6 := rr0.grow d6
      have own6 := hown0.grow d6
      have br6 := Below.grown_trans br0 d6
      have hz5 := d5.size
      refine wpOL_nil (HQ5.out _ _ ?_)
      simp only [List.toList_toArray, List.drop_succ_cons, List.drop_zero]
      generalize w5.alloc (.cells #[.int .u64 x] 38) = w6 at *
      generalize w5.heap.size = nb at *
      obtain ⟨g, cap, w7, hap, own7, lf7, hg7, hglt, hgb⟩ := own6.push elT_u64 ⟨nb, 0, none⟩ 1 [.int .u64 x] rfl (World.news_of_block n6) (by simp [Value.oneCell']) (by omega) (by have := hS6.blk.lt; omega)
      have hnb : ∀ q, (Value.slice ra k rc).ownBlock = some q → bb + 1 ≤ q := fun q hq => (own6.lt q hq).1
      have hd7 := hd6.lef lf7 (fun q h1 h2 hq => by have := hnb q hq; have := hd6.top; omega)
      have hS7c := hS6.cfg.lef lf7 (fun hq => by have := hnb _ hq; omega)
      have hS7b := hS6.blk.lef lf7 (fun hq => by have := hnb _ hq; omega)
      have rr7 := rr6.lef lf7 (fun hq => by have := hnb _ hq; omega)
      have br7 := br6.trans (lf7.below (fun q hq => by have := hnb q hq; omega) br6.size)
      have cb7 : w7.cell? ⟨bb, 2, none⟩ = some (.slice ra k rc) := (Is.c3 hS7b).2.2
      have fb7 : w7.frozen? ⟨bb, 2, none⟩ = false := hS7b.free
      have L8 : Lef (fun r => r = bb) w7 (w7.setCell ⟨bb, 2, none⟩ (.slice (some ⟨g, 0, none⟩) (k + 1) cap)) := Lef.setCell (S := fun r => r = bb) (p := ⟨bb, 2, none⟩) (Lef.refl _ _) rfl _
      have hd8 := hd7.lef L8 (fun q h1 h2 hq => by have := hd6.top; omega)
      have hS8c := hS7c.lef L8 (by omega)
      have hS8b : Is (w7.setCell ⟨bb, 2, none⟩ (.slice (some ⟨g, 0, none⟩) (k + 1) cap)) bb (blc a u (.slice (some ⟨g, 0, none⟩) (k + 1) cap)) := hS7b.set (i := 2) (.slice (some ⟨g, 0, none⟩) (k + 1) cap)
      have rr8 := rr7.lef L8 (by omega)
      have own8 := own7.lef L8 (fun q hq hq2 => by have := (own7.lt q hq).1; omega)
      have br8 := br7.trans (L8.below (fun q hq => by omega) br7.size)
      have e8 : u64s (rootsOf D c k) ++ [.int .u64 x] = u64s (rootsOf D c (k + 1)) := by rw [HSU.out]; simp [u64s, u64v]
      rw [e8] at own8
      clear GC0 GC1 GC2 GB hne hS0 hS5 hd5 kl n6 hd0 rr0 hown0 br0 own6 hd6 rr6 br6 hd7 hS7c hS7b rr7 br7 own7 L8 e8 lf7 hS6 d5 d6 HQ5 hnb hglt hgb hg7
      go_wp2_with (at_builtin; refine wpList_append_run rfl _ _ _ rfl _ _ _ rfl rfl hap ?_)
      refine NoPanic.normal ?_
      clear hap cb7 fb7
      go_wp2
      go_roundw
      case rel => exact ⟨k + 1, some ⟨g, 0, none⟩, cap, by omega, by go_num, hd8, ⟨hS8c, hS8b⟩, rr8, own8, br8⟩
      case measure => simp [intOf]; omega
    · obtain rfl : k = R := by omega
      obtain ⟨bi0, bi1, bi2⟩ := Is.c3 hS.blk
      obtain ⟨ri0, ri1, ri2⟩ := Is.c3 rr
      have rf0 : wr.frozen? ⟨w.heap.size + 1, 0, none⟩ = false := rr.free
      have rf1 : wr.frozen? ⟨w.heap.size + 1, 1, none⟩ = false := rr.free
      have rf2 : wr.frozen? ⟨w.heap.size + 1, 2, none⟩ = false := rr.free
      have r4 := ((rr.set (i := 0) (.int .i64 a)).set (i := 1) (.int .i64 u)).set (i := 2) (.slice ra k rc)
      simp only [List.setIfInBounds_toArray, List.set_cons_zero, List.set_cons_succ] at r4
      have L4 : Lef (fun r => r = w.heap.size + 1) wr (((wr.setCell ⟨w.heap.size + 1, 0, none⟩ (.int .i64 a)).setCell ⟨w.heap.size + 1, 1, none⟩ (.int .i64 u)).setCell ⟨w.heap.size + 1, 2, none⟩ (.slice ra k rc)) := Lef.setCell (S := fun r => r = w.heap.size + 1) (p := ⟨w.heap.size + 1, 2, none⟩) (Lef.setCell (S := fun r => r = w.heap.size + 1) (p := ⟨w.heap.size + 1, 1, none⟩) (Lef.setCell (S := fun r => r = w.heap.size + 1) (p := ⟨w.heap.size + 1, 0, none⟩) (Lef.refl _ _) rfl _) rfl _) rfl _
      have b4 := br.trans (L4.below (fun q hq => by omega) br.size)
      have own4 := hown.lef L4 (fun q hq hq2 => by have := (hown.lt q hq).1; omega)
      clear hlt hk hdr hS rr hown br L4
      have own5 := own4.base (base' := w.heap.size) (by omega)
      clear own4
      go_wp2
      ((try simp only [Exit.inBlock, Exit.then]); refine bodyPost_ret (results_cell2 rfl _ r4 rfl Try.underlying57 rfl (by kernel_rfl)) rfl ?_)
      exact ⟨ra, k, rc, rfl, by rw [HR.out, Int.toNat_natCast]; exact own5, b4⟩
end Go.Proofs.Ytpecgfpofihibaa
