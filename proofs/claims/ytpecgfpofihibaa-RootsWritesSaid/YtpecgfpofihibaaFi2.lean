/-
  tumuluslaw10.Filled: the walk.
-/
import Derived.Test.YtpecgfpofihibaaFil
import Derived.RegionTactic
import Derived.ChangeAlike
import Derived.BigRegion
namespace Go.Proofs.Ytpecgfpofihibaa
open Go Go.RowKit Go.MapKept Go.Shelf

/-- Small heads, handed in. -/
def HlR (w : World) (v : Value) (l : List (Int × Int)) : Prop :=
  ∃ a cap, v = .slice a l.length cap ∧ (l = [] ∨ ∃ b off, a = some ⟨b, off, none⟩ ∧ b < w.heap.size ∧
    ∀ i (h : i < l.length), w.cell? ⟨b, off + i * 2, none⟩ = some (.int .u8 l[i].1) ∧ w.cell? ⟨b, off + i * 2 + 1, none⟩ = some (.int .u8 l[i].2))
theorem HlR.grow {w w' : World} {v : Value} {l : List (Int × Int)} (h : HlR w v l) (hb : Below w.heap.size w w') : HlR w' v l := by
  obtain ⟨a, cap, hv, h⟩ := h
  refine ⟨a, cap, hv, h.imp id ?_⟩
  rintro ⟨b, off, ha, hlt, hc⟩
  exact ⟨b, off, ha, Nat.lt_of_lt_of_le hlt hb.size, fun i hi => ⟨(hb.cell (p := ⟨b, off + i * 2, none⟩) hlt).trans (hc i hi).1, (hb.cell (p := ⟨b, off + i * 2 + 1, none⟩) hlt).trans (hc i hi).2⟩⟩

def i64s (l : List Int) : List Value := l.map (.int .i64)
@[simp] theorem i64s_len (l : List Int) : (i64s l).length = l.length := by simp [i64s]

/-- Results: a plain one, two structs in blocks of the call's, a plain one. -/
theorem results_fill {P : Program} {fn : Func} {p q r u : Tmp} {t1 t2 : TypeId} (h : fn.results = #[.tmp p, .cell q t1, .cell r t2, .tmp u]) {tmps : Array Value} {w : World} {g1 g2 tt1 tt2 : Nat} {cs1 cs2 : Array Value} {fr1 fr2 : Nat × Nat} (d1 d2 : TypeDesc)
    (hg1 : Is w g1 (.cells cs1 tt1 fr1)) (hp1 : tmps.getD q undef = .pointer (some ⟨g1, 0, none⟩)) (hu1 : P.underlying t1 = some d1) (hd1 : (match d1 with | .struct _ | .array _ _ => true | _ => false) = true) (hi1 : (P.info? t1).map (·.size) = some cs1.size)
    (hg2 : Is w g2 (.cells cs2 tt2 fr2)) (hp2 : tmps.getD r undef = .pointer (some ⟨g2, 0, none⟩)) (hu2 : P.underlying t2 = some d2) (hd2 : (match d2 with | .struct _ | .array _ _ => true | _ => false) = true) (hi2 : (P.info? t2).map (·.size) = some cs2.size) :
    (results fn tmps).run P w = .ok (.tuple #[tmps.getD p undef, .agg cs1, .agg cs2, tmps.getD u undef]) w := by
  have hq1 : tmps[q]?.getD undef = .pointer (some ⟨g1, 0, none⟩) := by simpa using hp1
  have hq2 : tmps[r]?.getD undef = .pointer (some ⟨g2, 0, none⟩) := by simpa using hp2
  simp [results, h, hq1, hq2, asAddr, run_loadVar_row w g1 tt1 t1 cs1 fr1 d1 hg1 hu1 hd1 hi1, run_loadVar_row w g2 tt2 t2 cs2 fr2 d2 hg2 hu2 hd2 hi2]

theorem FS.step_le (c : Cf) (s : FS) (x : Int × Int) (h : s.u + (hW x + 1) ≤ c.S) : s.step c x = ⟨s.D.alc c 0 s.u (hW x) (hR x), s.u + (hW x + 1), s.pl ++ [c.fr 0 + s.u]⟩ := if_pos h
theorem FS.step_gt (c : Cf) (s : FS) (x : Int × Int) (h : ¬ s.u + (hW x + 1) ≤ c.S) : s.step c x = s := if_neg h
theorem fillS_take (c : Cf) (l : List (Int × Int)) (k : Nat) (hk : k < l.length) : fillS c (l.take (k + 1)) = (fillS c (l.take k)).step c l[k] := by
  rw [List.take_succ_eq_append_getElem hk, fillS_snoc]

/-- What the loop of Filled reads. -/
structure FlS (c : Cf) (cb nb : Nat) (x : Int × Int) (W : World) : Prop where
  cfg : Is W cb (.cells #[.int .i64 c.L, .int .i64 c.R, .int .i64 c.S] 29 (0, 0))
  x : Is W nb (.cells #[.int .u8 x.1, .int .u8 x.2] 72 (0, 0))

/-- What Filled leaves. -/
structure FillP (c : Cf) (l : List (Int × Int)) (w : World) (h : DevH) (ra : Option Addr) (rn rc : Nat) (va : Option Addr) (vc : Nat) (w' : World) : Prop where
  dev : Dev w' h (fillS c l).D
  roots : Own w' h.hi 38 1 c.R.toNat (u64s (rootsOf (fillS c l).D c c.R.toNat)) (.slice ra rn rc)
  pl : Own w' h.hi 3 1 (fillS c l).pl.length (i64s (fillS c l).pl) (.slice va (fillS c l).pl.length vc)
  lo : w.heap.size ≤ h.lo
  bel : Below w.heap.size w w'

set_option maxRecDepth 100000 in
set_option maxHeartbeats 4000000 in
theorem filled_any (cl cr cs : Int) (l : List (Int × Int)) (hv : Value) (w : World) (h1 : 0 ≤ cl ∧ cl < 65536) (h2 : 0 ≤ cr ∧ cr < 65536) (h3 : 0 ≤ cs ∧ cs < 65536) (hl : HlR w hv l) (hlen : l.length ≤ 100) (hx : ∀ x ∈ l, (0 ≤ x.1 ∧ x.1 < 256) ∧ (0 ≤ x.2 ∧ x.2 < 256)) :
    Calls Try.prog 54 #[.agg #[.int .u16 cl, .int .u16 cr, .int .u16 cs], hv] w fun e w' => ∃ h ra rn rc va vc, e = .returned (.tuple #[.pointer (some ⟨h.d, 0, none⟩), .agg #[.int .i64 (mkc cl cr cs).L, .int .i64 (mkc cl cr cs).R, .int .i64 (mkc cl cr cs).S], .agg #[.int .i64 0, .int .i64 (fillS (mkc cl cr cs) l).u, .slice ra rn rc], .slice va (fillS (mkc cl cr cs) l).pl.length vc]) ∧
      FillP (mkc cl cr cs) l w h ra rn rc va vc w' := by
  obtain ⟨ha, hcap, rfl, hlc⟩ := id hl
  have hcok := mkc_ok cl cr cs
  have hm := fun w => make_lit cl cr cs w h1 h2 h3
  generalize mkc cl cr cs = c at *
  have hinv := fun k => FInv.all c hcok (l.take k)
  have HINV := Lib.hid hinv
  clear hinv
  have i1 := ((Is.new w (.cells #[.int .u16 cl, .int .u16 cr, .int .u16 cs] 24)).alloc (.cells #[.int .i64 0, .int .i64 0, .int .i64 0] 29)).alloc (.cells #[.int .i64 0, .int .i64 0, .slice none 0 0] 57)
  have r1 := (Is.new (w.alloc (.cells #[.int .u16 cl, .int .u16 cr, .int .u16 cs] 24)) (.cells #[.int .i64 0, .int .i64 0, .int .i64 0] 29)).alloc (.cells #[.int .i64 0, .int .i64 0, .slice none 0 0] 57)
  have q1 := Is.new ((w.alloc (.cells #[.int .u16 cl, .int .u16 cr, .int .u16 cs] 24)).alloc (.cells #[.int .i64 0, .int .i64 0, .int .i64 0] 29)) (.cells #[.int .i64 0, .int .i64 0, .slice none 0 0] 57)
  rw [World.size_alloc] at r1
  rw [World.size_alloc, World.size_alloc] at q1
  have b1 := below3 w (.cells #[.int .u16 cl, .int .u16 cr, .int .u16 cs] 24) (.cells #[.int .i64 0, .int .i64 0, .int .i64 0] 29) (.cells #[.int .i64 0, .int .i64 0, .slice none 0 0] 57)
  have HHX := Lib.hid hx
  clear hx
  go_enter Try.func54, Try.ntmps54
  go_upto_region 1 with (fail)
  generalize ((w.alloc (.cells #[.int .u16 cl, .int .u16 cr, .int .u16 cs] 24)).alloc (.cells #[.int .i64 0, .int .i64 0, .int .i64 0] 29)).alloc (.cells #[.int .i64 0, .int .i64 0, .slice none 0 0] 57) = w1 at *
  obtain ⟨c0, c1, c2⟩ := i1.c3
  go_wp2_with fail
  refine (hm _).mono ?_
  rintro e w3 ⟨rfl, d3⟩
  have i3 := Is.new w3 (.cells #[.int .i64 c.L, .int .i64 c.R, .int .i64 c.S] 29)
  have d3' : Below w1.heap.size w1 (w3.alloc (.cells #[.int .i64 c.L, .int .i64 c.R, .int .i64 c.S] 29)) := d3.alloc d3.size _
  have r3 := r1.grow d3'
  have q3 := q1.grow d3'
  have b3 := Below.grown_trans b1 d3'
  have zr3 : w.heap.size + 1 + 1 < w3.heap.size := Nat.lt_of_lt_of_le q1.lt d3.size
  clear hm c0 c1 c2 i1 r1 q1 b1 d3 d3'
  go_wp2_with fail
  generalize w3.alloc (.cells #[.int .i64 c.L, .int .i64 c.R, .int .i64 c.S] 29) = w4 at *
  generalize w3.heap.size = cb at *
  refine (formatted_lit c [] (.slice none 0 0) _ hcok (SlR.nil _) (by decide) (by simp)).mono ?_
  rintro e w5 ⟨h, rfl, hd5, hlo, d5⟩
  have i5 := i3.grow d5
  have r5 := r3.grow d5
  have q5 := q3.grow d5
  have b5 := Below.grown_trans b3 d5
  have zc : cb < h.lo := Nat.lt_of_lt_of_le i3.lt hlo
  have hlh := hd5.hok.r1
  clear i3 r3 q3 b3 d5 hlo
  have own5 : Own w5 h.hi 3 1 0 (i64s []) (.slice none 0 0) := Own.nil _ _ _ _
  go_wp2_with fail
  go_loopw [11, 31] (fun o i wr => ∃ (k n : Nat) (va : Option Addr) (vc : Nat), k ≤ l.length ∧ i = .int .i64 k ∧ o = .slice va n vc ∧ n = (fillS c (l.take k)).pl.length ∧ Dev wr h (fillS c (l.take k)).D ∧ Is wr cb (.cells #[.int .i64 c.L, .int .i64 c.R, .int .i64 c.S] 29 (0, 0)) ∧
      Is wr (w.heap.size + 1) (.cells #[.int .i64 0, .int .i64 0, .int .i64 0] 29 (0, 0)) ∧ Is wr (w.heap.size + 1 + 1) (.cells #[.int .i64 0, .int .i64 0, .slice none 0 0] 57 (0, 0)) ∧ Own wr h.hi 3 1 n (i64s (fillS c (l.take k)).pl) (.slice va n vc) ∧ Below w.heap.size w wr)
    (fun _ i _ => l.length - (intOf i).toNat)
  case atStart => exact ⟨0, 0, none, 0, by omega, rfl, rfl, rfl, hd5, i5, r5, q5, own5, b5⟩
  case round =>
    obtain ⟨k, n, va, vc, hk, rfl, rfl, hn, hdr, ir, rr, qr, ownr, br⟩ := hrel
    clear hd5 i5 r5 q5 own5 b5
    have hI := HINV.out k
    have hpl := fillS_pl_len c (l.take k)
    have hnk : n ≤ 100 := by rw [hn]; have := List.length_take_le k l; omega
    have HN := Lib.hid hn
    clear hpl hn
    by_cases hlt : k < l.length
    · have hst := fillS_take c l k hlt
      have hxx := HHX.out l[k] (List.getElem_mem _)
      obtain ⟨hb, ho, rfl, hbl, hce⟩ : ∃ hb ho, ha = some ⟨hb, ho, none⟩ ∧ hb < w.heap.size ∧ (w.cell? ⟨hb, ho + k * 2, none⟩ = some (.int .u8 l[k].1) ∧ w.cell? ⟨hb, ho + k * 2 + 1, none⟩ = some (.int .u8 l[k].2)) := by
        rcases hlc with h0 | ⟨b, o, q1, q2, q3⟩
        · rw [h0] at hlt; exact absurd hlt (Nat.not_lt_zero _)
        · exact ⟨b, o, q1, q2, q3 k hlt⟩
      have ce0 : wr.cell? ⟨hb, ho + k * 2, none⟩ = some (.int .u8 l[k].1) := (br.cell (p := ⟨hb, ho + k * 2, none⟩) hbl).trans hce.1
      have ce1 : wr.cell? ⟨hb, ho + k * 2 + 1, none⟩ = some (.int .u8 l[k].2) := (br.cell (p := ⟨hb, ho + k * 2 + 1, none⟩) hbl).trans hce.2
      have HST := Lib.hid hst
      clear hst hce
      generalize fillS c (l.take k) = s at *
      generalize l[k] = x at *
      have bx : Below wr.heap.size wr (wr.alloc (.cells #[.int .u8 x.1, .int .u8 x.2] 72)) := (Below.refl _ _).alloc (Nat.le_refl _) _
      have nn := hcok.nums
      obtain ⟨f0, f1, f2⟩ := Cf.fr_bd hcok 0 (by decide) (by decide)
      have fp : 0 ≤ c.fr 0 := by have := nn.a0; have := nn.f0; have := nn.r0; omega
      clear nn f0 f1
      have su0 := hI.u0
      have su1 := hI.u1
      have hW0 := (hW_bd x).1
      have hW1 := (hW_bd x).2
      go_wp2_with fail
      have i6 := ir.grow bx
      have x6 := Is.new wr (.cells #[.int .u8 x.1, .int .u8 x.2] 72)
      have b7 := (Below.grown_trans br bx).drew
      have hd7 := (hdr.grow bx).drew
      have r7 := (rr.grow bx).drew
      have q7 := (qr.grow bx).drew
      have own7 := (ownr.grow bx).grow (W' := (wr.alloc (.cells #[.int .u8 x.1, .int .u8 x.2] 72)).drew) (Below.refl _ _).drew
      have hS0 : FlS c cb wr.heap.size x (wr.alloc (.cells #[.int .u8 x.1, .int .u8 x.2] 72)).drew := ⟨i6, x6⟩
      have znb : h.hi ≤ wr.heap.size := hdr.top
      clear i6 x6 ce0 ce1 hdr ir rr qr ownr br bx
      generalize wr.alloc (.cells #[.int .u8 x.1, .int .u8 x.2] 72) = w6 at *
      generalize wr.heap.size = nb at *
      have hne : Nonempty (SW (FlS c cb nb x)) := ⟨⟨_, hS0⟩⟩
      have GC0 : ∀ y : SW (FlS c cb nb x), y.1.cell? ⟨cb, 0, none⟩ = some (.int .i64 c.L) := fun y => (Is.c3 y.2.cfg).1
      have GC1 : ∀ y : SW (FlS c cb nb x), y.1.cell? ⟨cb, 1, none⟩ = some (.int .i64 c.R) := fun y => (Is.c3 y.2.cfg).2.1
      have GC2 : ∀ y : SW (FlS c cb nb x), y.1.cell? ⟨cb, 2, none⟩ = some (.int .i64 c.S) := fun y => (Is.c3 y.2.cfg).2.2
      have GX0 : ∀ y : SW (FlS c cb nb x), y.1.cell? ⟨nb, 0, none⟩ = some (.int .u8 x.1) := fun y => by rw [y.2.x.cell]; rfl
      have GX1 : ∀ y : SW (FlS c cb nb x), y.1.cell? ⟨nb, 1, none⟩ = some (.int .u8 x.2) := fun y => by rw [y.2.x.cell]; rfl
      by_cases hroom : s.u + (hW x + 1) ≤ c.S
      · have hs2 := FS.step_le c s x hroom
        refine wp_region_OL (S := FlS c cb nb x) 11 [([0, 1, 2, 4, 5], some 3), ([], some 6), ([7, 8, 9, 10], none)] (by kernel_rfl) (by kernel_rfl) (by kernel_rfl) (by kernel_rfl) (by decide) rfl (by kernel_rfl) (by kernel_rfl) hS0 fun Q4 hQ4 Q5 hQ5 => ?_
        have HQ5 := Lib.hid hQ5
        clear hQ4 hQ5
        simp only [segOps, List.map_cons, List.map_nil, List.filterMap_cons, List.filterMap_nil, Option.bind_some, Option.bind_none, List.getElem?_toArray, List.getElem?_cons_succ, List.getElem?_cons_zero]
        change wpOL _ _ _ _ _ _ _ w6.drew
        generalize w6.drew = w7 at *
        refine wpOL_seg fun K hK => ?_
        change wpQuiet _ _ _ _ [_, _, _, _, _] _
        repeat (go_big_quiet_step (fail))
        refine wpQuiet_nil (hK _ ?_)
        clear hK K
        refine wpOL_one (by kernel_rfl) fun K hK => ?_
        go_wp2_with fail
        refine (hmake_any x _ hxx.1 hxx.2).mono ?_
        rintro e w8 ⟨rfl, d8⟩
        have hS8 : FlS c cb nb x w8 := ⟨hS0.cfg.grow d8, hS0.x.grow d8⟩
        have hd8 := hd7.grow d8
        have r8 := r7.grow d8
        have q8 := q7.grow d8
        have own8 := own7.grow d8
        have b8 := Below.grown_trans b7 d8
        refine hK _ _ hS8 ?_
        clear hK K
        refine wpOL_one (by kernel_rfl) fun K hK => ?_
        go_wp2_with fail
        refine (alloc_dev h s.D c 0 s.u (hW x) (hR x) _ hd8 hcok hI.len (h_ok x) hI.a hI.u (by decide) (by decide) su0 hroom).mono ?_
        rintro e w9 ⟨rfl, hd9, lf9⟩
        have hnd : ∀ q, dS h q → h.lo ≤ q ∧ q < h.hi := fun q hq => hq
        have hS9c := hS8.cfg.lef lf9 (fun hq => by have := hnd _ hq; omega)
        have hS9 : FlS c cb nb x w9 := ⟨hS9c, hS8.x.lef lf9 (fun hq => by have := hnd _ hq; omega)⟩
        have r9 := r8.lef lf9 (fun hq => by have := hnd _ hq; omega)
        have q9 := q8.lef lf9 (fun hq => by have := hnd _ hq; omega)
        have own9 := own8.lef lf9 (fun g hg hq => by have := hnd _ hq; have := (own8.lt g hg).1; omega)
        have b9 := b8.trans (lf9.below (fun q hq => by have := hnd _ hq; omega) b8.size)
        refine hK _ _ hS9 ?_
        clear hK K
        refine wpOL_reads fun K hK => ?_
        change wpQuiet _ _ _ _ [_, _, _, _] _
        repeat (go_big_quiet_step (fail))
        refine wpQuiet_nil (hK _ ?_)
        clear hK K
        refine wpOL_nil (HQ5.out _ _ ?_)
        simp only [List.toList_toArray, List.drop_succ_cons, List.drop_zero]
        clear HQ5 hS0 hd7 r7 q7 own7 b7 d8 hS8 hd8 r8 q8 own8 b8 GC0 GC1 GC2 GX0 GX1 hne
        go_wp2
        refine NoPanic.normal ?_
        have n10 := Is.new w9 (.cells #[.int .i64 (c.fr 0 + s.u)] 3)
        have bx10 : Below w9.heap.size w9 (w9.alloc (.cells #[.int .i64 (c.fr 0 + s.u)] 3)) := (Below.refl _ _).alloc (Nat.le_refl _) _
        have own10 := own9.grow bx10
        have hz9 : h.hi ≤ (w9.alloc (.cells #[.int .i64 (c.fr 0 + s.u)] 3)).heap.size := by rw [World.size_alloc]; have := hd9.top; omega
        obtain ⟨g, cap, w11, hap, own11, lf11, hg, hglt, hgb⟩ := own10.push elT_int ⟨w9.heap.size, 0, none⟩ 1 [.int .i64 (c.fr 0 + s.u)] rfl (World.news_of_block n10) (by simp [Value.oneCell']) (by omega) hz9
        have hnb : ∀ q, (Value.slice va n vc).ownBlock = some q → h.hi ≤ q := fun q hq => (own10.lt q hq).1
        have hd11 := (hd9.grow bx10).lef lf11 (fun q h1 h2 hq => by have := hnb q hq; omega)
        have hS11 := (hS9c.grow bx10).lef lf11 (fun hq => by have := hnb _ hq; omega)
        have r11 := (r9.grow bx10).lef lf11 (fun hq => by have := hnb _ hq; omega)
        have q11 := (q9.grow bx10).lef lf11 (fun hq => by have := hnb _ hq; omega)
        have b11 := (Below.grown_trans b9 bx10).trans (lf11.below (fun q hq => by have := hnb q hq; omega) (Below.grown_trans b9 bx10).size)
        clear n10 bx10 own10 hz9 lf11 hg hglt hgb hnb hd9 hS9 hS9c r9 q9 own9 b9 lf9 hnd
        go_wp2_with (at_builtin; refine wpList_append_run rfl _ _ _ rfl _ _ _ rfl rfl hap ?_)
        clear hap
        go_roundw
        case rel => exact ⟨k + 1, n + 1, some ⟨g, 0, none⟩, cap, by omega, by go_num, rfl, by rw [HST.out, hs2]; simp [HN.out], by rw [HST.out, hs2]; exact hd11, hS11, r11, q11, by rw [HST.out, hs2]; simpa [i64s] using own11, b11⟩
        case measure => simp [intOf]; omega
      · have hs2 := FS.step_gt c s x hroom
        refine wp_region_OL (S := FlS c cb nb x) 11 [([0, 1, 2, 4, 5], some 3), ([], some 6), ([7, 8, 9, 10], none)] (by kernel_rfl) (by kernel_rfl) (by kernel_rfl) (by kernel_rfl) (by decide) rfl (by kernel_rfl) (by kernel_rfl) hS0 fun Q4 hQ4 Q5 hQ5 => ?_
        have HQ5 := Lib.hid hQ5
        clear hQ4 hQ5
        simp only [segOps, List.map_cons, List.map_nil, List.filterMap_cons, List.filterMap_nil, Option.bind_some, Option.bind_none, List.getElem?_toArray, List.getElem?_cons_succ, List.getElem?_cons_zero]
        change wpOL _ _ _ _ _ _ _ w6.drew
        generalize w6.drew = w7 at *
        refine wpOL_seg fun K hK => ?_
        change wpQuiet _ _ _ _ [_, _, _, _, _] _
        repeat (go_big_quiet_step (fail))
        refine wpQuiet_nil (hK _ ?_)
        clear hK K
        refine wpOL_one (by kernel_rfl) fun K hK => ?_
        go_wp2_with fail
        refine (hmake_any x _ hxx.1 hxx.2).mono ?_
        rintro e w8 ⟨rfl, d8⟩
        have hS8 : FlS c cb nb x w8 := ⟨hS0.cfg.grow d8, hS0.x.grow d8⟩
        have hd8 := hd7.grow d8
        have r8 := r7.grow d8
        have q8 := q7.grow d8
        have own8 := own7.grow d8
        have b8 := Below.grown_trans b7 d8
        refine hK _ _ hS8 ?_
        clear hK K
        refine wpOL_one (by kernel_rfl) fun K hK => ?_
        go_wp2_with fail
        refine (alloc_space h s.D c 0 s.u (hW x) (hR x) _ _ _ _ hd8 hcok (h_ok x) hI.a hI.u (by decide) (by decide) su0 su1 (by omega)).mono ?_
        rintro e w9 ⟨rfl, d9⟩
        have hS9c := hS8.cfg.grow d9
        have hS9 : FlS c cb nb x w9 := ⟨hS9c, hS8.x.grow d9⟩
        have r9 := r8.grow d9
        have q9 := q8.grow d9
        have own9 := own8.grow d9
        have hd9 := hd8.grow d9
        have b9 := Below.grown_trans b8 d9
        refine hK _ _ hS9 ?_
        clear hK K
        refine wpOL_reads fun K hK => ?_
        change wpQuiet _ _ _ _ [_, _, _, _] _
        repeat (go_big_quiet_step (fail))
        refine wpQuiet_nil (hK _ ?_)
        clear hK K
        refine wpOL_nil (HQ5.out _ _ ?_)
        simp only [List.toList_toArray, List.drop_succ_cons, List.drop_zero]
        clear HQ5 hS0 hd7 r7 q7 own7 b7 d8 hS8 hd8 r8 q8 own8 b8 GC0 GC1 GC2 GX0 GX1 hne
        go_wp2
        refine NoPanic.normal ?_
        go_wp2
        go_roundw
        case rel => exact ⟨k + 1, n, va, vc, by omega, by go_num, rfl, by rw [HST.out, hs2]; exact HN.out, by rw [HST.out, hs2]; exact hd9, hS9c, r9, q9, by rw [HST.out, hs2]; exact own9, b9⟩
        case measure => simp [intOf]; omega
    · obtain rfl : k = l.length := by omega
      rw [List.take_of_length_le (Nat.le_refl _)] at hI hdr ownr HN
      obtain ⟨c0, c1, c2⟩ := ir.c3
      have zi := ir.lt
      have htop := hdr.top
      have hHN := HN.out
      clear hlt hk
      have kr := fun w hd => rread_any h (fillS c l).D c 0 (fillS c l).u w hd hcok hI.a hI.u (by decide) (by decide) hI.u0 hI.u1
      generalize hsE : fillS c l = s at *
      have HSE := Lib.hid hsE
      clear hsE
      subst hHN
      go_wp2_with fail
      refine (kr _ hdr).mono ?_
      rintro e w9 ⟨ra, rn, rc, rfl, ownR, d9⟩
      have i9 := ir.grow d9
      have r9 := rr.grow d9
      have q9 := qr.grow d9
      have hd9 := hdr.grow d9
      have own9 := ownr.grow d9
      have b9 := Below.grown_trans br d9
      have zl9 := d9.size
      clear kr c0 c1 c2 ir rr qr hdr ownr br d9
      go_wp2_with fail
      have dy : Below w9.heap.size w9 (w9.alloc (.cells #[.int .i64 0, .int .i64 s.u, .slice ra rn rc] 57)) := (Below.refl _ _).alloc (Nat.le_refl _) _
      have i10 := i9.grow dy
      have r10 := r9.grow dy
      have q10 := q9.grow dy
      have hd10 := hd9.grow dy
      have own10 := own9.grow dy
      have ownR10 := (ownR.base (Nat.le_trans htop (Nat.le_refl _))).grow dy
      have n10 := Is.new w9 (.cells #[.int .i64 0, .int .i64 s.u, .slice ra rn rc] 57)
      have b10 := Below.grown_trans b9 dy
      have zi10 := i10.lt
      have zq10 := q10.lt
      have zr10 := r10.lt
      have zn10 : w.heap.size + 1 + 1 < w9.heap.size := q9.lt
      have zn11 : cb < w9.heap.size := i9.lt
      have zn12 := n10.lt
      clear i9 r9 q9 hd9 own9 ownR b9 dy
      generalize w9.alloc (.cells #[.int .i64 0, .int .i64 s.u, .slice ra rn rc] 57) = w10 at *
      generalize w9.heap.size = bb at *
      obtain ⟨c0, c1, c2⟩ := i10.c3
      obtain ⟨d0, d1, d2⟩ := n10.c3
      obtain ⟨e0, e1, e2⟩ := r10.c3
      obtain ⟨g0, g1, g2⟩ := q10.c3
      have f0 : w10.frozen? ⟨w.heap.size + 1, 0, none⟩ = false := r10.free
      have f1 : w10.frozen? ⟨w.heap.size + 1, 1, none⟩ = false := r10.free
      have f2 : w10.frozen? ⟨w.heap.size + 1, 2, none⟩ = false := r10.free
      have f3 : w10.frozen? ⟨w.heap.size + 1 + 1, 0, none⟩ = false := q10.free
      have f4 : w10.frozen? ⟨w.heap.size + 1 + 1, 1, none⟩ = false := q10.free
      have f5 : w10.frozen? ⟨w.heap.size + 1 + 1, 2, none⟩ = false := q10.free
      have m1 : cb ≠ w.heap.size + 1 := by omega
      have m2 : cb ≠ w.heap.size + 1 + 1 := by omega
      have m3 : bb ≠ w.heap.size + 1 := by omega
      have m4 : bb ≠ w.heap.size + 1 + 1 := by omega
      have m5 := Ne.symm m1
      have m6 := Ne.symm m2
      have m7 := Ne.symm m3
      have m8 := Ne.symm m4
      have zd : w.heap.size < h.lo := by omega
      have zd2 : w.heap.size + 1 + 1 < h.lo := by omega
      clear zi zl9 zi10 zq10 zr10 zn10 zn11 zn12 htop zr3 zc
      go_region
      have L : Lef (fun k => k = w.heap.size + 1 ∨ k = w.heap.size + 1 + 1) w10 (((((((w10.setCell ⟨w.heap.size + 1, 0, none⟩ (.int .i64 c.L)).setCell ⟨w.heap.size + 1, 1, none⟩ (.int .i64 c.R)).setCell ⟨w.heap.size + 1, 2, none⟩ (.int .i64 c.S)).setCell ⟨w.heap.size + 1 + 1, 0, none⟩ (.int .i64 0)).setCell ⟨w.heap.size + 1 + 1, 1, none⟩ (.int .i64 s.u)).setCell ⟨w.heap.size + 1 + 1, 2, none⟩ (.slice ra rn rc)).drew) :=
        (((((((Lef.refl _ _).setCell (p := ⟨w.heap.size + 1, 0, none⟩) (.inl rfl) _).setCell (p := ⟨w.heap.size + 1, 1, none⟩) (.inl rfl) _).setCell (p := ⟨w.heap.size + 1, 2, none⟩) (.inl rfl) _).setCell (p := ⟨w.heap.size + 1 + 1, 0, none⟩) (.inr rfl) _).setCell (p := ⟨w.heap.size + 1 + 1, 1, none⟩) (.inr rfl) _).setCell (p := ⟨w.heap.size + 1 + 1, 2, none⟩) (.inr rfl) _).trans (Lef.of_below (Below.refl _ _).drew)
      have rE : Is (((((((w10.setCell ⟨w.heap.size + 1, 0, none⟩ (.int .i64 c.L)).setCell ⟨w.heap.size + 1, 1, none⟩ (.int .i64 c.R)).setCell ⟨w.heap.size + 1, 2, none⟩ (.int .i64 c.S)).setCell ⟨w.heap.size + 1 + 1, 0, none⟩ (.int .i64 0)).setCell ⟨w.heap.size + 1 + 1, 1, none⟩ (.int .i64 s.u)).setCell ⟨w.heap.size + 1 + 1, 2, none⟩ (.slice ra rn rc)).drew) (w.heap.size + 1) (.cells #[.int .i64 c.L, .int .i64 c.R, .int .i64 c.S] 29 (0, 0)) :=
        Is.drew (Is.set_other (Is.set_other (Is.set_other (((r10.set (i := 0) (.int .i64 c.L)).set (i := 1) (.int .i64 c.R)).set (i := 2) (.int .i64 c.S)) (by simp) _) (by simp) _) (by simp) _)
      have qE : Is (((((((w10.setCell ⟨w.heap.size + 1, 0, none⟩ (.int .i64 c.L)).setCell ⟨w.heap.size + 1, 1, none⟩ (.int .i64 c.R)).setCell ⟨w.heap.size + 1, 2, none⟩ (.int .i64 c.S)).setCell ⟨w.heap.size + 1 + 1, 0, none⟩ (.int .i64 0)).setCell ⟨w.heap.size + 1 + 1, 1, none⟩ (.int .i64 s.u)).setCell ⟨w.heap.size + 1 + 1, 2, none⟩ (.slice ra rn rc)).drew) (w.heap.size + 1 + 1) (.cells #[.int .i64 0, .int .i64 s.u, .slice ra rn rc] 57 (0, 0)) :=
        Is.drew ((((Is.set_other (Is.set_other (Is.set_other q10 (by simp) _) (by simp) _) (by simp) _).set (i := 0) (.int .i64 0)).set (i := 1) (.int .i64 s.u)).set (i := 2) (.slice ra rn rc))
      clear c0 c1 c2 d0 d1 d2 e0 e1 e2 g0 g1 g2 f0 f1 f2 f3 f4 f5 m1 m2 m3 m4 m5 m6 m7 m8 i10 n10 r10 q10
      generalize (((((((w10.setCell ⟨w.heap.size + 1, 0, none⟩ (.int .i64 c.L)).setCell ⟨w.heap.size + 1, 1, none⟩ (.int .i64 c.R)).setCell ⟨w.heap.size + 1, 2, none⟩ (.int .i64 c.S)).setCell ⟨w.heap.size + 1 + 1, 0, none⟩ (.int .i64 0)).setCell ⟨w.heap.size + 1 + 1, 1, none⟩ (.int .i64 s.u)).setCell ⟨w.heap.size + 1 + 1, 2, none⟩ (.slice ra rn rc)).drew) = wE at *
      have hdE := hd10.lef L (fun q h1 h2 hq => by omega)
      have ownE := own10.lef L (fun q hq hq2 => by have := (own10.lt q hq).1; omega)
      have ownRE := ownR10.lef L (fun q hq hq2 => by have := (ownR10.lt q hq).1; omega)
      have bE := b10.trans (L.below (fun q hq => by omega) b10.size)
      go_wp2
      refine bodyPost_ret (results_fill rfl _ _ rE rfl Try.underlying29 rfl (by kernel_rfl) qE rfl Try.underlying57 rfl (by kernel_rfl)) rfl ?_
      have hsE := HSE.out
      subst hsE
      exact ⟨h, ra, rn, rc, va, vc, rfl, hdE, ownRE, ownE, by omega, bE⟩
end Go.Proofs.Ytpecgfpofihibaa
