/-
  space.Alloc where there is room.
-/
import Derived.Test.YtpecgfpofihibaaAlc
namespace Go.Proofs.Ytpecgfpofihibaa
open Go Go.RowKit Go.MapKept

theorem alcL_len (c : Cf) (a u W R : Int) : (alcL c a u W R).length = (W + 1).toNat + 1 := by simp [alcL]
theorem alcL_take1 (c : Cf) (a u W R : Int) : (alcL c a u W R).take 1 = [(c.act + 1, u + (W + 1))] := by simp [alcL]
theorem alcL_take (c : Cf) (a u W R : Int) (k : Nat) (hk : (k : Int) < W + 1) : (alcL c a u W R).take (k + 2) = (alcL c a u W R).take (k + 1) ++ [(c.fr a + u + (k : Nat), if k = 0 then packv W R else 0)] := by
  rw [List.take_add_one (i := k + 1)]
  congr 1
  simp only [alcL, List.getElem?_cons_succ, List.getElem?_map]
  rw [List.getElem?_range (by omega)]
  rfl

/-- All of them went well. -/
def allZ (ans : List (Int × Int) → Int) (L : List (Int × Int)) (n : Nat) : Prop := ∀ i : Nat, 1 ≤ i → i ≤ n → ans (L.take i) = 0
theorem allZ.succ {ans : List (Int × Int) → Int} {L : List (Int × Int)} {n : Nat} (h : allZ ans L n) (h1 : ans (L.take (n + 1)) = 0) : allZ ans L (n + 1) := fun i hi hn => by
  rcases Nat.lt_or_ge i (n + 1) with h2 | h2
  · exact h i hi (by omega)
  · obtain rfl : i = n + 1 := by omega
    exact h1

/-- What Alloc has in memory. -/
structure AlcS (c : Cf) (b0 bb : Nat) (a u W R : Int) (ra : Option Addr) (rn rc : Nat) (w : World) : Prop where
  cfg : Is w b0 (.cells #[.int .i64 c.L, .int .i64 c.R, .int .i64 c.S] 29 (0, 0))
  head : Is w (b0 + 1) (.cells #[.int .i64 W, .int .i64 R] 66 (0, 0))
  blk : Is w bb (.cells #[.int .i64 a, .int .i64 u, .slice ra rn rc] 57 (0, 0))
theorem AlcS.lef {c : Cf} {b0 bb : Nat} {a u W R : Int} {ra : Option Addr} {rn rc : Nat} {w w' : World} {S : Nat → Prop} (h : AlcS c b0 bb a u W R ra rn rc w) (hl : Lef S w w') (h0 : ¬ S b0) (h1 : ¬ S (b0 + 1)) (h2 : ¬ S bb) : AlcS c b0 bb a u W R ra rn rc w' :=
  ⟨h.cfg.lef hl h0, h.head.lef hl h1, h.blk.lef hl h2⟩
theorem AlcS.grow {c : Cf} {b0 bb : Nat} {a u W R : Int} {ra : Option Addr} {rn rc : Nat} {w w' : World} (h : AlcS c b0 bb a u W R ra rn rc w) (hl : Below w.heap.size w w') : AlcS c b0 bb a u W R ra rn rc w' :=
  ⟨h.cfg.grow hl, h.head.grow hl, h.blk.grow hl⟩
theorem AlcS.cs {c : Cf} {b0 bb : Nat} {a u W R : Int} {ra : Option Addr} {rn rc : Nat} {w : World} (h : AlcS c b0 bb a u W R ra rn rc w) :
    w.cell? ⟨b0, 0, none⟩ = some (.int .i64 c.L) ∧ w.cell? ⟨b0, 1, none⟩ = some (.int .i64 c.R) ∧ w.cell? ⟨b0, 2, none⟩ = some (.int .i64 c.S) ∧ w.cell? ⟨b0 + 1, 0, none⟩ = some (.int .i64 W) ∧ w.cell? ⟨b0 + 1, 1, none⟩ = some (.int .i64 R) ∧
    w.cell? ⟨bb, 0, none⟩ = some (.int .i64 a) ∧ w.cell? ⟨bb, 1, none⟩ = some (.int .i64 u) ∧ w.cell? ⟨bb, 2, none⟩ = some (.slice ra rn rc) := by
  obtain ⟨h1, h2, h3⟩ := h
  exact ⟨h1.cell, h1.cell, h1.cell, h2.cell, h2.cell, h3.cell, h3.cell, h3.cell⟩

set_option maxRecDepth 100000 in
set_option maxHeartbeats 4000000 in
theorem alloc_go {f : FuncId} {fst cap : Array Value} {h : DevH} {c : Cf} {S : Nat → Prop} {DD : List (Int × Int) → DevS} {ans : List (Int × Int) → Int} {J : List (Int × Int) → World → Prop} (hst : StF f fst cap h c.words S DD ans J)
    (a u W R : Int) (w : World) (hJ : J [] w) (hS : ∀ k, S k → k < w.heap.size) (hc : c.ok) (hk : headOk W R) (ha : (DD []).at c.act.toNat = a) (hu : (DD []).at (c.act.toNat + 1) = u) (a0 : 0 ≤ a) (a1 : a ≤ 1) (u0 : 0 ≤ u) (u1 : u + (W + 1) ≤ c.S) :
    Calls Try.prog 45 #[.pointer (some ⟨h.d, 0, none⟩), .agg #[.int .i64 c.L, .int .i64 c.R, .int .i64 c.S], .agg #[.int .i64 W, .int .i64 R], .func (.func f) fst cap] w fun e w' => AlcP c a u W R S ans J w e w' := by
  have hent := hst.ent
  have kh := fun w => hcheck_any W R w
  rw [hchk_ok hk] at kh
  have hW0 := hk.1
  have hW1 := hk.2.1
  have ks := fun w => hsize W R w (by omega) (by omega)
  have kp := fun w => hpack W R w hk
  unfold headv at kh ks kp
  obtain ⟨na0, na1, nf0, nf1, ns0, ns1, nw, nw0, nw1, nr0, nr1, nsp0, nsp1⟩ := hc.nums
  obtain ⟨fb0, fb1, fb2⟩ := Cf.fr_bd hc a a0 a1
  have i1 := (Is.new w (.cells #[.int .i64 c.L, .int .i64 c.R, .int .i64 c.S] 29)).alloc (.cells #[.int .i64 W, .int .i64 R] 66)
  have j1 := Is.new (w.alloc (.cells #[.int .i64 c.L, .int .i64 c.R, .int .i64 c.S] 29)) (.cells #[.int .i64 W, .int .i64 R] 66)
  rw [World.size_alloc] at j1
  have b1 : Below w.heap.size w ((w.alloc (.cells #[.int .i64 c.L, .int .i64 c.R, .int .i64 c.S] 29)).alloc (.cells #[.int .i64 W, .int .i64 R] 66)) := ((Below.refl _ _).alloc (Nat.le_refl _) _).alloc (by simp) _
  have hJ1 := hst.grow _ _ _ hJ b1
  have kr := fun w hd => rread_any h (DD []) c a u w hd hc ha hu a0 a1 u0 (by omega)
  have hpu : U64 (packv W R) := by obtain ⟨q1, q2, q3, q4⟩ := hk; unfold packv U64; omega
  clear hJ ha hu nw
  go_enter Try.func45, Try.ntmps45
  go_wp2_with fail
  generalize (w.alloc (.cells #[.int .i64 c.L, .int .i64 c.R, .int .i64 c.S] 29)).alloc (.cells #[.int .i64 W, .int .i64 R] 66) = w1 at *
  refine (kh _).mono ?_
  rintro e w2 ⟨rfl, d2⟩
  have i2 := i1.grow d2
  have j2 := j1.grow d2
  have hJ2 := hst.grow _ _ _ hJ1 d2
  have b2 := Below.grown_trans b1 d2
  clear kh i1 j1 hJ1 b1 d2
  obtain ⟨c0, c1, c2⟩ := i2.c3
  go_wp2_with fail
  refine (kr _ (hst.dev _ _ hJ2)).mono ?_
  rintro e w3 ⟨ra, rn, rc, rfl, hsl, d3⟩
  have dx : Below w2.heap.size w2 (w3.alloc (.cells #[.int .i64 a, .int .i64 u, .slice ra rn rc] 57)) := d3.alloc d3.size _
  have hA : AlcS c w.heap.size w3.heap.size a u W R ra rn rc (w3.alloc (.cells #[.int .i64 a, .int .i64 u, .slice ra rn rc] 57)) := ⟨i2.grow dx, j2.grow dx, Is.new w3 _⟩
  have hJ3 := hst.grow _ _ _ hJ2 dx
  have b3 := Below.grown_trans b2 dx
  have zb : w.heap.size + 1 < w3.heap.size := Nat.lt_of_lt_of_le j2.lt d3.size
  clear kr c0 c1 c2 i2 j2 hJ2 b2 d3 hsl dx
  go_wp2_with fail
  generalize w3.alloc (.cells #[.int .i64 a, .int .i64 u, .slice ra rn rc] 57) = w4 at *
  generalize w3.heap.size = bb at *
  have G := fun x : GrW w4 => (hA.grow x.2).cs
  refine wp_gr (by kernel_rfl) (by kernel_rfl) ?_
  repeat (go_big_quiet_step (first | (go_at_call 66; with_reducible exact gr_call (ks _))))
  refine wpQuiet_nil ?_
  rintro w5 ⟨⟨_, hw5⟩, rfl⟩
  have hA5 := hA.grow hw5
  have hJ5 := hst.grow _ _ _ hJ3 hw5
  have b5 := Below.grown_trans b3 hw5
  clear G hA hJ3 b3 hw5
  obtain ⟨c0, c1, c2, c3, c4, c5, c6, c7⟩ := hA5.cs
  go_wp2_with fail
  refine (bplace_any c a u u ra rn rc _ hc a0 a1 u0 (by omega)).mono ?_
  rintro e w6 ⟨rfl, d6⟩
  have hA6 := hA5.grow d6
  have hJ6 := hst.grow _ _ _ hJ5 d6
  have b6 := Below.grown_trans b5 d6
  clear c0 c1 c2 c3 c4 c5 c6 c7 hA5 hJ5 b5 d6
  go_wp2_with fail
  have G := fun x : GrW w6 => (hA6.grow x.2).cs
  refine wp_gr_tail 9 (by kernel_rfl) (by kernel_rfl) ?_
  simp only [List.take_succ_cons, List.take_zero, List.drop_succ_cons, List.drop_zero]
  repeat (go_big_quiet_step (first | (go_at_call 66; with_reducible exact gr_call (ks _)) | (go_at_call 38; with_reducible exact gr_call (used_lit c _ hc))))
  refine wpQuiet_nil ?_
  rintro w7 ⟨⟨_, hw7⟩, rfl⟩
  have hA7 := hA6.grow hw7
  have hJ7 := hst.grow _ _ _ hJ6 hw7
  have b7 := Below.grown_trans b6 hw7
  clear G hA6 hJ6 b6 hw7
  go_wp2_with fail
  have k1 := hst.call [] _ (c.act + 1) (u + (W + 1)) (by simp) hJ7 (by omega) (by omega) ⟨by omega, by omega⟩
  refine k1.mono ?_
  rintro e w8 ⟨rfl, hJ8, lf8⟩
  have hbase : w.heap.size + 1 < bb := zb
  have hA8 := hA7.lef lf8 (fun hq => by have := hS _ hq; omega) (fun hq => by have := hS _ hq; omega) (fun hq => by have := hS _ hq; omega)
  have L8 : Lef S w w8 := (Lef.of_below b7).trans lf8
  rw [List.nil_append, ← alcL_take1 c a u W R] at hJ8
  rw [List.nil_append, ← alcL_take1 c a u W R]
  clear k1 hA7 hJ7 b7 lf8
  have hb1 := hst.bd ((alcL c a u W R).take 1)
  generalize hr1 : ans ((alcL c a u W R).take 1) = r1 at *
  have HR1 := Lib.hid hr1
  clear hr1
  obtain ⟨r10, r11⟩ := hb1
  by_cases hz : r1 = 0
  · subst hz
    clear r10 r11
    obtain ⟨c0, c1, c2, c3, c4, c5, c6, c7⟩ := hA8.cs
    go_wp2_with fail
    refine (ks _).mono ?_
    rintro e w9 ⟨rfl, d9⟩
    have hA9 := hA8.grow d9
    have hJ9 := hst.grow _ _ _ hJ8 d9
    have L9 := L8.trans (Lef.of_below d9)
    clear c0 c1 c2 c3 c4 c5 c6 c7 hA8 hJ8 L8 d9
    go_wp2_with fail
    have hZ : allZ ans (alcL c a u W R) 1 := fun i h1 h2 => by obtain rfl : i = 1 := by omega
                                                               exact HR1.out
    clear HR1
    go_loopw [60] (fun i wr => ∃ k : Nat, (k : Int) ≤ W + 1 ∧ i = .int .i64 k ∧ J ((alcL c a u W R).take (k + 1)) wr ∧ allZ ans (alcL c a u W R) (k + 1) ∧ AlcS c w.heap.size bb a u W R ra rn rc wr ∧ Lef S w wr)
      (fun i _ => (W + 1).toNat - (intOf i).toNat)
    case atStart => exact ⟨0, by omega, rfl, hJ9, hZ, hA9, L9⟩
    case round =>
      obtain ⟨k, hk2, rfl, hJr, hZr, hAr, Lr⟩ := hrel
      clear hJ9 hZ hA9 L9
      by_cases hlt : (k : Int) < W + 1
      · have hstep : ∀ (v : Int) (wx : World), (if k = 0 then packv W R else 0) = v → U64 v → J ((alcL c a u W R).take (k + 1)) wx → AlcS c w.heap.size bb a u W R ra rn rc wx → Lef S w wx →
            Calls Try.prog f (fst ++ (#[.int .i64 (c.fr a + u + (k : Nat)), .int .u64 v] ++ cap)) wx fun e w' => e = .returned (.int .i64 (ans ((alcL c a u W R).take (k + 2)))) ∧ J ((alcL c a u W R).take (k + 2)) w' ∧ AlcS c w.heap.size bb a u W R ra rn rc w' ∧ Lef S w w' := fun v wx hv hu hJx hAx Lx => by
          have := hst.call _ _ (c.fr a + u + (k : Nat)) v (Nat.le_trans (List.length_take_le _ _) (by omega)) hJx (by omega) (by omega) hu
          rw [← hv, ← alcL_take c a u W R k hlt, hv] at this
          exact this.mono fun e w' ⟨h1, h2, h3⟩ => ⟨h1, h2, hAx.lef h3 (fun hq => by have := hS _ hq; omega) (fun hq => by have := hS _ hq; omega) (fun hq => by have := hS _ hq; omega), Lx.trans h3⟩
        have HST := Lib.hid hstep
        clear hstep
        have hb2 := hst.bd ((alcL c a u W R).take (k + 2))
        generalize hr2 : ans ((alcL c a u W R).take (k + 2)) = r2 at *
        have HR2 := Lib.hid hr2
        clear hr2
        obtain ⟨r20, r21⟩ := hb2
        obtain ⟨c0, c1, c2, c3, c4, c5, c6, c7⟩ := hAr.cs
        have hfin : ∀ wx, J ((alcL c a u W R).take (k + 2)) wx → Lef S w wx → r2 ≠ 0 → AlcP c a u W R S ans J w (.returned (.tuple #[.int .i64 0, .int .i64 r2])) wx := fun wx h1 h2 h3 =>
          ⟨k + 2, by omega, by omega, fun i hi hik => hZr i hi (by omega), h1, h2, .inl ⟨by rw [HR2.out]; exact h3, by rw [HR2.out]⟩⟩
        have HFIN := Lib.hid hfin
        clear hfin
        by_cases h0 : k = 0
        · subst h0
          go_wp2_with fail
          refine (kp _).mono ?_
          rintro e w10 ⟨rfl, d10⟩
          have hst2 := HST.out (packv W R) w10 rfl hpu (hst.grow _ _ _ hJr d10) (hAr.grow d10) (Lr.trans (Lef.of_below d10))
          rw [show c.fr a + u + ((0 : Nat) : Int) = c.fr a + u from by omega] at hst2
          clear c0 c1 c2 c3 c4 c5 c6 c7 hJr hAr Lr HST d10
          go_wp2_with fail
          refine hst2.mono ?_
          rintro e wx ⟨rfl, hJx, hAx, Lx⟩
          clear hst2
          by_cases hz : r2 = 0
          · subst hz
            clear r20 r21 HFIN
            go_wp2_with fail
            go_roundw
            case rel => exact ⟨1, by omega, by go_num, hJx, hZr.succ HR2.out, hAx, Lx⟩
            case measure => simp [intOf]; omega
          · go_wp2_with fail
            go_ret2
            exact HFIN.out _ hJx Lx hz
        · have hne : ((k : Int) == 0) = false := by simp; omega
          have hst2 := HST.out 0 wr (by rw [if_neg h0]) ⟨by decide, by decide⟩ hJr hAr Lr
          have HST2 := Lib.hid hst2
          clear hst2 HST
          go_wp2_with fail
          refine HST2.out.mono ?_
          rintro e wx ⟨rfl, hJx, hAx, Lx⟩
          clear HST2 hJr hAr Lr c0 c1 c2 c3 c4 c5 c6 c7 hne
          by_cases hz : r2 = 0
          · subst hz
            clear r20 r21 HFIN
            go_wp2_with fail
            go_roundw
            case rel => exact ⟨k + 1, by omega, by go_num, hJx, hZr.succ HR2.out, hAx, Lx⟩
            case measure => simp [intOf]; omega
          · go_wp2_with fail
            go_ret2
            exact HFIN.out _ hJx Lx hz
      · have hkW : (k : Int) = W + 1 := by omega
        have hfin : AlcP c a u W R S ans J w (.returned (.tuple #[.int .i64 (c.fr a + u), .int .i64 0])) wr := ⟨k + 1, by omega, by omega, fun i hi hik => hZr i hi (by omega), hJr, Lr, .inr ⟨by omega, hZr _ (by omega) (by omega), rfl⟩⟩
        have HFIN := Lib.hid hfin
        clear hfin hkW
        obtain ⟨c0, c1, c2, c3, c4, c5, c6, c7⟩ := hAr.cs
        go_wp2_with fail
        go_ret2
        exact HFIN.out
  · have hpre : ∀ i : Nat, 1 ≤ i → i < 1 → ans ((alcL c a u W R).take i) = 0 := fun i h1 h2 => by omega
    go_wp2_with fail
    go_ret2
    exact ⟨1, by omega, by omega, hpre, hJ8, L8, .inl ⟨by rw [HR1.out]; exact hz, by rw [HR1.out]; rfl⟩⟩
end Go.Proofs.Ytpecgfpofihibaa
