/-
  The walk of SpaceAllocs.
-/
import Derived.Test.YtpecgfpofihibaaSal
import Derived.Test.YtpecgfpofihibaaAw10
import Derived.Deep.DeepCutAuto
import Derived.RegionTactic
import Derived.ChangeAlike
import Derived.BigRegion
namespace Go.Proofs.Ytpecgfpofihibaa
open Go Go.RowKit Go.MapKept Go.Shelf

theorem bits1_u8 (x : Int) (h0 : 0 ≤ x) (h1 : x < 256) : 0 ≤ Go.bits .and .u8 x 1 ∧ Go.bits .and .u8 x 1 ≤ 1 := by
  have : ∀ n : Fin 256, 0 ≤ Go.bits .and .u8 (n.val : Int) 1 ∧ Go.bits .and .u8 (n.val : Int) 1 ≤ 1 := by decide +kernel
  have := this ⟨x.toNat, by omega⟩
  simp only at this
  rwa [show ((x.toNat : Nat) : Int) = x from by omega] at this

theorem Row.free {w : World} {b cap : Nat} {l : List Int} (h : Row w b cap l) (i : Nat) : w.frozen? ⟨b, i, none⟩ = false := by
  obtain ⟨r, h1, h2⟩ := h.is
  exact h1.free
theorem Row.some {w : World} {b cap : Nat} {l : List Int} (h : Row w b cap l) (i : Nat) (hi : i < l.length) : ∃ y, w.cell? ⟨b, i, none⟩ = Option.some (.int .u64 y) := ⟨_, h.cell i hi⟩

/-- What stands between two rounds. -/
structure SaI (c : Cf) (h : DevH) (a : Int) (cb wb wcap : Nat) (w0 : World) (D : DevS) (u : Int) (wr : World) : Prop where
  dev : Dev wr h D
  len : (D.now.length : Int) = c.words
  ha : D.at c.act.toNat = a
  hu : D.at (c.act.toNat + 1) = u
  u0 : 0 ≤ u
  u1 : u ≤ c.S
  row : Row wr wb wcap D.now
  cfg : Is wr cb (.cells #[.int .i64 c.L, .int .i64 c.R, .int .i64 c.S] 29 (0, 0))
  bel : Below w0.heap.size w0 wr
theorem SaI.grow {c : Cf} {h : DevH} {a : Int} {cb wb wcap : Nat} {w0 : World} {D : DevS} {u : Int} {wr w' : World} (s : SaI c h a cb wb wcap w0 D u wr) (hb : Below wr.heap.size wr w') : SaI c h a cb wb wcap w0 D u w' :=
  ⟨s.dev.grow hb, s.len, s.ha, s.hu, s.u0, s.u1, s.row.grow hb, s.cfg.grow hb, Below.grown_trans s.bel hb⟩

/-- Behind an object that is made. -/
theorem sa_step {c : Cf} {D : DevS} {a u : Int} {x : Int × Int} (hc : c.ok) (a0 : 0 ≤ a) (a1 : a ≤ 1) (hN : (D.now.length : Int) = c.words) (ha : D.at c.act.toNat = a) (u0 : 0 ≤ u) (u1 : u + (hW x + 1) ≤ c.S) :
    ((D.alc c a u (hW x) (hR x)).now.length : Int) = c.words ∧ (D.alc c a u (hW x) (hR x)).at c.act.toNat = a ∧ (D.alc c a u (hW x) (hR x)).at (c.act.toNat + 1) = u + (hW x + 1) := by
  obtain ⟨na0, na1, nf0, nf1, ns0, ns1, nw, nw0, nw1, nr0, nr1, nsp0, nsp1⟩ := hc.nums
  obtain ⟨f0, f1, f2⟩ := Cf.fr_bd hc a a0 a1
  have hat := DevS.at_alcA D c a u (hW x) (hR x) hc a0 a1 hN (h_ok x) u0 u1
  refine ⟨by rw [DevS.alc_len]; exact hN, ?_, ?_⟩
  · rw [hat, if_neg (by omega), if_neg (by omega), ha]
  · rw [hat, if_neg (by omega), if_pos (by omega)]

/-- What the region that writes two words reads. -/
structure SaS (c : Cf) (cb hb : Nat) (x : Int × Int) (W : World) : Prop where
  cfg : Is W cb (.cells #[.int .i64 c.L, .int .i64 c.R, .int .i64 c.S] 29 (0, 0))
  head : Is W hb (.cells #[.int .i64 (hW x), .int .i64 (hR x)] 66 (0, 0))
theorem SaS.grow {c : Cf} {cb hb : Nat} {x : Int × Int} {W W' : World} (s : SaS c cb hb x W) (hg : Below W.heap.size W W') : SaS c cb hb x W' := ⟨s.cfg.grow hg, s.head.grow hg⟩

set_option maxRecDepth 100000 in
set_option maxHeartbeats 8000000 in
theorem sa_walk (cl cr cs : Int) (old : List Int) (ov : Value) (l : List (Int × Int)) (hv : Value) (active : Int) (w : World) (h1 : 0 ≤ cl ∧ cl < 65536) (h2 : 0 ≤ cr ∧ cr < 65536) (h3 : 0 ≤ cs ∧ cs < 65536)
    (hov : SlR w ov old) (hwf : ∀ x ∈ old, U64 x) (hl : HlR w hv l) (hx : ∀ x ∈ l, (0 ≤ x.1 ∧ x.1 < 256) ∧ (0 ≤ x.2 ∧ x.2 < 256)) (hact : 0 ≤ active ∧ active < 256) :
    Calls Try.prog 6 #[.agg #[.int .u16 cl, .int .u16 cr, .int .u16 cs], ov, hv, .int .u8 active] w fun e w' => e = .returned (.bool true) ∧ Below w.heap.size w w' := by
  obtain ⟨oa, ocap, rfl, hoc⟩ := id hov
  obtain ⟨ha, hcap, rfl, hlc⟩ := id hl
  have x1 := Is.new w (.cells #[.int .u16 cl, .int .u16 cr, .int .u16 cs] 24)
  have b1 : Below w.heap.size w (w.alloc (.cells #[.int .u16 cl, .int .u16 cr, .int .u16 cs] 24)) := (Below.refl _ _).alloc (Nat.le_refl _) _
  have hcok := mkc_ok cl cr cs
  have hm := fun w => make_lit cl cr cs w h1 h2 h3
  generalize mkc cl cr cs = c at *
  obtain ⟨hz0, hz1⟩ := bits1_u8 active hact.1 hact.2
  obtain ⟨ha0, ha1⟩ := hact
  obtain ⟨na0, na1, nf0, nf1, ns0, ns1, nw, nw0, nw1, nr0, nr1, nsp0, nsp1⟩ := hcok.nums
  have HHX := Lib.hid hx
  have nw2 : c.fr0 + 2 * ln c.S ≤ c.words := by omega
  clear nw hx
  go_enter Try.func6, Try.ntmps6
  go_wp2_with fail
  generalize w.alloc (.cells #[.int .u16 cl, .int .u16 cr, .int .u16 cs] 24) = w1 at *
  refine (awake09 _).mono ?_
  rintro e w2 ⟨rfl, d2⟩
  have x2 := x1.grow d2
  have b2 := Below.grown_trans b1 d2
  clear x1 b1 d2
  obtain ⟨c0, c1, c2⟩ := x2.c3
  by_cases hlen : old.length ≤ 20
  · by_cases hlen2 : l.length ≤ 30
    · go_wp2_with fail
      refine (hm _).mono ?_
      rintro e w3 ⟨rfl, d3⟩
      have i3 := Is.new w3 (.cells #[.int .i64 c.L, .int .i64 c.R, .int .i64 c.S] 29)
      have b3 := (Below.grown_trans b2 d3).alloc (Below.grown_trans b2 d3).size (.cells #[.int .i64 c.L, .int .i64 c.R, .int .i64 c.S] 29)
      have hov3 := ((hov.grow b2).grow d3).grow (w' := w3.alloc (.cells #[.int .i64 c.L, .int .i64 c.R, .int .i64 c.S] 29)) ((Below.refl _ _).alloc (Nat.le_refl _) _)
      clear hm c0 c1 c2 x2 b2 d3 hov hoc
      go_wp2_with fail
      generalize w3.alloc (.cells #[.int .i64 c.L, .int .i64 c.R, .int .i64 c.S] 29) = w4 at *
      generalize w3.heap.size = cb at *
      have kf := formatted_lit c old _ w4 hcok hov3 (by omega) hwf
      clear hov3
      refine kf.mono ?_
      rintro e w5 ⟨h, rfl, hd5, hlo, d5⟩
      have i5 := i3.grow d5
      have b5 := Below.grown_trans b3 d5
      have zc : cb < h.lo := Nat.lt_of_lt_of_le i3.lt hlo
      have hlo2 : w.heap.size ≤ h.lo := Nat.le_trans b3.size hlo
      have hlh := hd5.hok.r1
      clear i3 b3 d5 hlo kf
      have hN : ((fmtD c old).now.length : Int) = c.words := by rw [fmtD_len]; omega
      have hA : ∀ v : Int, ((fmtD c old).store c.act v).at c.act.toNat = v ∧ ((fmtD c old).store c.act v).at (c.act.toNat + 1) = 0 := fun v => by
        rw [DevS.at_store _ _ _ _ (by omega), DevS.at_store _ _ _ _ (by omega), if_pos rfl, if_neg (by omega), fmtD_at _ _ hcok]
        refine ⟨rfl, ?_⟩
        have hb := c.bds.a1
        have hl1 := hcok
        unfold fmtAt
        rw [if_neg (by omega), if_neg (by omega), if_neg (by omega), if_neg (by omega), if_neg (by omega), if_neg (by omega), if_pos (by omega)]
      have HA := Lib.hid hA
      clear hA hwf
      obtain ⟨c0, c1, c2⟩ := i5.c3
      go_upto_region 10 with (fail)
      generalize Go.bits .and .u8 active 1 = a at *
      go_wp2_with fail
      refine (active_lit c _ hcok).mono ?_
      rintro e w6 ⟨rfl, d6⟩
      have hd6 := hd5.grow d6
      have i6 := i5.grow d6
      have b6 := Below.grown_trans b5 d6
      clear c0 c1 c2 i5 hd5 b5 d6
      go_wp2_with fail
      refine (store_lit h _ c.act a _ hd6 (by omega) (by omega) ⟨by omega, by omega⟩).mono ?_
      rintro e w7 ⟨rfl, hd7, lf7⟩
      have i7 := i6.left lf7 (by omega)
      have b7 := b6.trans (lf7.below hlo2 b6.size)
      obtain ⟨hA1, hA2⟩ := HA.out a
      have hN7 : (((fmtD c old).store c.act a).now.length : Int) = c.words := by rw [DevS.store_len]; exact hN
      clear i6 hd6 b6 lf7 HA hN
      generalize (fmtD c old).store c.act a = D0 at *
      have HA1 := Lib.hid hA1
      have HA2 := Lib.hid hA2
      have HN7 := Lib.hid hN7
      clear hA1 hA2 hN7
      obtain ⟨c0, c1, c2⟩ := i7.c3
      go_wp2_with fail
      refine (lwords_any h D0 c _ hd7 hcok HN7.out).mono ?_
      rintro e w8 ⟨wb, wcap, rfl, hrow, hwb, d8⟩
      have sa : SaI c h a cb wb wcap w D0 0 w8 := ⟨hd7.grow d8, HN7.out, HA1.out, HA2.out, Int.le_refl _, by omega, hrow, i7.grow d8, Below.grown_trans b7 d8⟩
      have zw : h.hi ≤ wb := by have := hd7.top; omega
      have zcw : cb < wb := by have := i7.lt; omega
      have hact : ∃ A : Nat, c.act = A := ⟨c.act.toNat, by omega⟩
      have hDl : D0.now.length = c.words.toNat := by have := HN7.out; omega
      rw [hDl]
      clear c0 c1 c2 i7 hd7 b7 d8 hrow hwb HA1 HA2 HN7 hDl
      go_wp2_with fail
      go_loopw [13, 57] (fun u i wr => ∃ (k : Nat) (U : Int) (D : DevS), k ≤ l.length ∧ i = .int .i64 k ∧ u = .int .i64 U ∧ SaI c h a cb wb wcap w D U wr)
        (fun _ i _ => l.length - (intOf i).toNat)
      case atStart => exact ⟨0, 0, D0, by omega, rfl, rfl, sa⟩
      case round =>
        obtain ⟨k, U, D, hk, rfl, rfl, sr⟩ := hrel
        clear sa
        by_cases hlt : k < l.length
        · have hxx := HHX.out l[k] (List.getElem_mem _)
          obtain ⟨hb, ho, rfl, hbl, hce⟩ : ∃ hb ho, ha = some ⟨hb, ho, none⟩ ∧ hb < w.heap.size ∧ (w.cell? ⟨hb, ho + k * 2, none⟩ = some (.int .u8 l[k].1) ∧ w.cell? ⟨hb, ho + k * 2 + 1, none⟩ = some (.int .u8 l[k].2)) := by
            rcases hlc with h0 | ⟨b, o, q1, q2, q3⟩
            · rw [h0] at hlt; exact absurd hlt (Nat.not_lt_zero _)
            · exact ⟨b, o, q1, q2, q3 k hlt⟩
          have ce0 : wr.cell? ⟨hb, ho + k * 2, none⟩ = some (.int .u8 l[k].1) := (sr.bel.cell (p := ⟨hb, ho + k * 2, none⟩) hbl).trans hce.1
          have ce1 : wr.cell? ⟨hb, ho + k * 2 + 1, none⟩ = some (.int .u8 l[k].2) := (sr.bel.cell (p := ⟨hb, ho + k * 2 + 1, none⟩) hbl).trans hce.2
          clear hce
          generalize l[k] = x at *
          have hhi : h.hi ≤ wr.heap.size := sr.dev.top
          have hwi : wb < wr.heap.size := sr.row.lt
          have s6 := sr.grow (w' := wr.alloc (.cells #[.int .u8 x.1, .int .u8 x.2] 72)) ((Below.refl _ _).alloc (Nat.le_refl _) _)
          have hsz6 : wr.heap.size ≤ (wr.alloc (.cells #[.int .u8 x.1, .int .u8 x.2] 72)).heap.size := by simp
          obtain ⟨f0, f1, f2⟩ := Cf.fr_bd hcok a hz0 hz1
          have fp : 0 ≤ c.fr a := by omega
          have su0 := sr.u0
          have su1 := sr.u1
          obtain ⟨hW0, hW1⟩ := hW_bd x
          clear sr
          go_wp2_with fail
          have h6 : h.hi ≤ (wr.alloc (.cells #[.int .u8 x.1, .int .u8 x.2] 72)).heap.size := Nat.le_trans hhi hsz6
          have g6 : wb < (wr.alloc (.cells #[.int .u8 x.1, .int .u8 x.2] 72)).heap.size := Nat.lt_of_lt_of_le hwi hsz6
          clear hhi hwi hsz6 ce0 ce1
          generalize wr.alloc (.cells #[.int .u8 x.1, .int .u8 x.2] 72) = w6 at *
          generalize wr.heap.size = xb at *
          refine (hmake_any x _ hxx.1 hxx.2).mono ?_
          rintro e w7 ⟨rfl, d7⟩
          clear hxx
          have bz : Below w6.heap.size w6 (w7.alloc (.cells #[.int .i64 (hW x), .int .i64 (hR x)] 66)) := d7.alloc d7.size _
          have s7 := s6.grow bz
          have n7 := Is.new w7 (.cells #[.int .i64 (hW x), .int .i64 (hR x)] 66)
          have h7 : h.hi ≤ w7.heap.size := Nat.le_trans h6 d7.size
          have g7 : wb < w7.heap.size := Nat.lt_of_lt_of_le g6 d7.size
          clear s6 h6 g6 bz d7
          obtain ⟨c0, c1, c2⟩ := s7.cfg.c3
          go_wp2_with fail
          generalize w7.alloc (.cells #[.int .i64 (hW x), .int .i64 (hR x)] 66) = w8 at *
          generalize w7.heap.size = hb2 at *
          have kr := rread_any h D c a U _ s7.dev hcok s7.ha s7.hu hz0 hz1 s7.u0 s7.u1
          refine kr.mono ?_
          rintro e w9 ⟨ra, rn, rc, rfl, ownR, d9⟩
          have bz : Below w8.heap.size w8 (w9.alloc (.cells #[.int .i64 a, .int .i64 U, .slice ra rn rc] 57)) := d9.alloc d9.size _
          have s9 := s7.grow bz
          have n9 := n7.grow bz
          have m9 := Is.new w9 (.cells #[.int .i64 a, .int .i64 U, .slice ra rn rc] 57)
          clear kr c0 c1 c2 s7 n7 bz d9 ownR
          obtain ⟨c0, c1, c2⟩ := s9.cfg.c3
          obtain ⟨c3, c4, c5⟩ := m9.c3
          go_wp2_with fail
          generalize w9.alloc (.cells #[.int .i64 a, .int .i64 U, .slice ra rn rc] 57) = w10 at *
          generalize w9.heap.size = bb at *
          have kfr := fresh_any c a U ra rn rc w10 hcok hz0 hz1 su0 su1
          refine kfr.mono ?_
          rintro e w11 ⟨rfl, d11⟩
          have bz : Below w10.heap.size w10 (w11.alloc (.cells #[.int .i64 (c.fr a + U), .int .i64 (c.fr a + c.S)] 77)) := d11.alloc d11.size _
          have s11 := s9.grow bz
          have n11 := n9.grow bz
          have g11 := Is.new w11 (.cells #[.int .i64 (c.fr a + U), .int .i64 (c.fr a + c.S)] 77)
          clear kfr c0 c1 c2 c3 c4 c5 s9 n9 m9 bz d11
          go_wp2_with fail
          generalize w11.alloc (.cells #[.int .i64 (c.fr a + U), .int .i64 (c.fr a + c.S)] 77) = w12 at *
          generalize w11.heap.size = gb at *
          have G := GrW.c3 s11.cfg
          have e0 : w12.cell? ⟨gb, 0, none⟩ = some (.int .i64 (c.fr a + U)) := by rw [g11.cell]; rfl
          have e1 : w12.cell? ⟨gb, 1, none⟩ = some (.int .i64 (c.fr a + c.S)) := by rw [g11.cell]; rfl
          have E0 := GrW.cell e0
          have E1 := GrW.cell e1
          refine wp_gr (by kernel_rfl) (by kernel_rfl) ?_
          repeat (go_big_quiet_step (first | (go_at_call 47; with_reducible exact gr_call (from_lit c a _ hcok hz0 (by omega)))))
          refine wpQuiet_nil ?_
          rintro w13 ⟨⟨_, hw13⟩, rfl⟩
          have s13 := s11.grow hw13
          have n13 := n11.grow hw13
          clear G E0 E1 e0 e1 s11 n11 g11 hw13
          obtain ⟨c0, c1, c2⟩ := s13.cfg.c3
          have c3 : w13.cell? ⟨hb2, 0, none⟩ = some (.int .i64 (hW x)) := by rw [n13.cell]; rfl
          have c4 : w13.cell? ⟨hb2, 1, none⟩ = some (.int .i64 (hR x)) := by rw [n13.cell]; rfl
          have kal := alloc_both h D c a U (hW x) (hR x) _ s13.dev hcok s13.len (h_ok x) s13.ha s13.hu hz0 hz1 su0 su1
          go_wp2_with fail
          refine kal.mono ?_
          rintro e w14 ⟨p, er, D', rfl, hd14, lf14, hcase⟩
          have HC := Lib.hid hcase
          have row14 := s13.row.lef lf14 (fun hq => by have := hq.2; omega)
          have cfg14 := s13.cfg.lef lf14 (fun hq => by have := hq.1; omega)
          have n14 := n13.lef lf14 (fun hq => by have := hq.2; omega)
          have bel14 := s13.bel.trans (lf14.below (fun q hq => Nat.le_trans hlo2 hq.1) s13.bel.size)
          have LN := Lib.hid s13.len
          have HA := Lib.hid s13.ha
          have HU := Lib.hid s13.hu
          have hpb : 0 ≤ p ∧ p ≤ 100000 := by rcases hcase with ⟨_, q, _⟩ | ⟨_, q, _⟩ <;> omega
          have hlw : D.now.length = c.words.toNat := by have := s13.len; omega
          obtain ⟨hpb0, hpb1⟩ := hpb
          clear kal c0 c1 c2 c3 c4 s13 n13 lf14 hcase
          obtain ⟨c0, c1, c2⟩ := cfg14.c3
          have c3 : w14.cell? ⟨hb2, 0, none⟩ = some (.int .i64 (hW x)) := by rw [n14.cell]; rfl
          have c4 : w14.cell? ⟨hb2, 1, none⟩ = some (.int .i64 (hR x)) := by rw [n14.cell]; rfl
          have HLW := Lib.hid hlw
          clear hlw
          go_upto_if 111 with (fail)
          go_cut [13] (fun s13 wx => ∃ (U' : Int) (D'' : DevS), s13 = .int .i64 U' ∧ SaI c h a cb wb wcap w D'' U' wx)
          case first =>
            rcases HC.out with ⟨hroom, rfl, rfl, rfl⟩ | ⟨hroom, rfl, rfl, rfl⟩
            · obtain ⟨hN2, hA2, hU2⟩ := sa_step (x := x) hcok hz0 hz1 LN.out HA.out su0 hroom
              have HN2 := Lib.hid hN2
              have HA2 := Lib.hid hA2
              have HU2 := Lib.hid hU2
              have hnow := DevS.alc_now D c a U (hW x) (hR x) hcok hz0 hz1 LN.out (h_ok x) su0 hroom
              have HNOW := Lib.hid hnow
              generalize D.alc c a U (hW x) (hR x) = D' at *
              clear hN2 hA2 hU2 hnow HC
              go_wp2_with fail
              refine (from_lit c a _ hcok hz0 (by omega)).mono ?_
              rintro e w15 ⟨rfl, d15⟩
              have hd15 := hd14.grow d15
              have row15 := row14.grow d15
              have cfg15 := cfg14.grow d15
              have n15 := n14.grow d15
              have bel15 := Below.grown_trans bel14 d15
              clear hd14 row14 cfg14 n14 bel14 c0 c1 c2 c3 c4 d15
              have c3 : w15.cell? ⟨hb2, 0, none⟩ = some (.int .i64 (hW x)) := by rw [n15.cell]; rfl
              have c4 : w15.cell? ⟨hb2, 1, none⟩ = some (.int .i64 (hR x)) := by rw [n15.cell]; rfl
              go_wp2_with fail
              go_loopw [132] (fun i wr => ∃ j : Nat, (j : Int) ≤ hW x + 1 ∧ i = .int .i64 j ∧ Dev wr h D' ∧ Row wr wb wcap (zset D.now (c.fr a + U).toNat j) ∧ SaS c cb hb2 x wr ∧ Below w.heap.size w wr)
                (fun i _ => (hW x + 1).toNat - (intOf i).toNat)
              case atStart => exact ⟨0, by omega, rfl, hd15, row15, ⟨cfg15, n15⟩, bel15⟩
              case round =>
                obtain ⟨j, hj, rfl, hdr, rowr, sr, belr⟩ := hrel
                clear hd15 row15 cfg15 n15 bel15 c3 c4
                obtain ⟨c0, c1, c2⟩ := sr.cfg.c3
                by_cases hjl : (j : Int) < hW x + 1
                · go_wp2_with fail
                  refine (active_lit c _ hcok).mono ?_
                  rintro e w16 ⟨rfl, d16⟩
                  have hd16 := hdr.grow d16
                  have row16 := rowr.grow d16
                  have s16 := sr.grow d16
                  have b16 := Below.grown_trans belr d16
                  clear hdr rowr sr belr d16 c0 c1 c2
                  have hlw := HLW.out
                  have hlen : (zset D.now (c.fr a + U).toNat j).length = c.words.toNat := by rw [zset_len, hlw]
                  have hadr : c.act.toNat + (c.fr a + U - c.act + (j : Int)).toNat = (c.fr a + U).toNat + j := by omega
                  have ce0 := row16.some ((c.fr a + U).toNat + j) (by rw [hlen]; omega)
                  rw [← hadr] at ce0
                  obtain ⟨y, ce⟩ := ce0
                  have fe : w16.frozen? ⟨wb, c.act.toNat + (c.fr a + U - c.act + (j : Int)).toNat, none⟩ = false := row16.free _
                  have row17 : Row (w16.setCell ⟨wb, c.act.toNat + (c.fr a + U - c.act + (j : Int)).toNat, none⟩ (.int .u64 0)) wb wcap (zset D.now (c.fr a + U).toNat (j + 1)) := by
                    rw [hadr]
                    exact row16.set ((c.fr a + U).toNat + j) (by rw [hlen]; omega) 0
                  clear hlw hlen hadr
                  have L17 : Lef (fun r => r = wb) w16 (w16.setCell ⟨wb, c.act.toNat + (c.fr a + U - c.act + (j : Int)).toNat, none⟩ (.int .u64 0)) := Lef.setCell (S := fun r => r = wb) (p := ⟨wb, c.act.toNat + (c.fr a + U - c.act + (j : Int)).toNat, none⟩) (Lef.refl _ _) rfl _
                  have hd17 := hd16.lef L17 (fun q q1 q2 hq => by omega)
                  have s17 : SaS c cb hb2 x _ := ⟨s16.cfg.lef L17 (by omega), s16.head.lef L17 (by omega)⟩
                  have b17 := b16.trans (L17.below (fun q hq => by omega) b16.size)
                  clear hd16 row16 s16 b16 L17
                  go_wp2_with fail
                  go_roundw
                  case rel => exact ⟨j + 1, by omega, by go_num, hd17, row17, s17, b17⟩
                  case measure => simp [intOf]; omega
                · have hjW : j = (hW x + 1).toNat := by omega
                  have HJ := Lib.hid hjW
                  clear hjW
                  have c3 : wr.cell? ⟨hb2, 0, none⟩ = some (.int .i64 (hW x)) := by rw [sr.head.cell]; rfl
                  have kpk := fun w => hpack (hW x) (hR x) w (h_ok x)
                  unfold headv at kpk
                  go_wp2_with fail
                  have GC0 : ∀ y : SW (SaS c cb hb2 x), y.1.cell? ⟨cb, 0, none⟩ = some (.int .i64 c.L) := fun y => (Is.c3 y.2.cfg).1
                  have GC1 : ∀ y : SW (SaS c cb hb2 x), y.1.cell? ⟨cb, 1, none⟩ = some (.int .i64 c.R) := fun y => (Is.c3 y.2.cfg).2.1
                  have GC2 : ∀ y : SW (SaS c cb hb2 x), y.1.cell? ⟨cb, 2, none⟩ = some (.int .i64 c.S) := fun y => (Is.c3 y.2.cfg).2.2
                  have GH0 : ∀ y : SW (SaS c cb hb2 x), y.1.cell? ⟨hb2, 0, none⟩ = some (.int .i64 (hW x)) := fun y => by rw [y.2.head.cell]; rfl
                  have GH1 : ∀ y : SW (SaS c cb hb2 x), y.1.cell? ⟨hb2, 1, none⟩ = some (.int .i64 (hR x)) := fun y => by rw [y.2.head.cell]; rfl
                  have hd18 := hdr.drew
                  have s18 : SaS c cb hb2 x wr.drew := ⟨sr.cfg, sr.head⟩
                  have row18 : Row wr.drew wb wcap (zset D.now (c.fr a + U).toNat j) := ⟨rowr.is⟩
                  have b18 : Below w.heap.size w wr.drew := belr.drew
                  clear hdr sr rowr belr c0 c1 c2 c3
                  have hne : Nonempty (SW (SaS c cb hb2 x)) := ⟨⟨_, s18⟩⟩
                  refine wp_region_OL (S := SaS c cb hb2 x) 12 [([0, 1, 2, 5, 6, 8, 9], some 3), ([4], some 7), ([10], some 11)] (by kernel_rfl) (by kernel_rfl) (by kernel_rfl) (by kernel_rfl) (by decide) rfl (by kernel_rfl) (by kernel_rfl) s18 fun Q4 hQ4 Q5 hQ5 => ?_
                  have HQ5 := Lib.hid hQ5
                  clear hQ4 hQ5
                  simp only [segOps, List.map_cons, List.map_nil, List.filterMap_cons, List.filterMap_nil, Option.bind_some, Option.bind_none, List.getElem?_toArray, List.getElem?_cons_succ, List.getElem?_cons_zero]
                  change wpOL _ _ _ _ _ _ _ wr.drew
                  generalize wr.drew = w18 at *
                  refine wpOL_seg fun K hK => ?_
                  change wpQuiet _ _ _ _ [_, _, _, _, _, _, _] _
                  repeat (go_big_quiet_step (fail))
                  refine wpQuiet_nil (hK _ ?_)
                  clear hK K
                  refine wpOL_one (by kernel_rfl) fun K hK => ?_
                  go_wp2_with fail
                  refine (active_lit c _ hcok).mono ?_
                  rintro e w19 ⟨rfl, d19⟩
                  have hd19 := hd18.grow d19
                  have s19 := s18.grow d19
                  have row19 := row18.grow d19
                  have b19 := Below.grown_trans b18 d19
                  clear hd18 s18 row18 b18 d19
                  refine hK _ _ s19 ?_
                  clear hK K
                  refine wpOL_seg fun K hK => ?_
                  change wpQuiet _ _ _ _ [_] _
                  repeat (go_big_quiet_step (fail))
                  refine wpQuiet_nil (hK _ ?_)
                  clear hK K
                  refine wpOL_one (by kernel_rfl) fun K hK => ?_
                  go_wp2_with fail
                  refine (kpk _).mono ?_
                  rintro e w20 ⟨rfl, d20⟩
                  have hd20 := hd19.grow d20
                  have s20 := s19.grow d20
                  have row20 := row19.grow d20
                  have b20 := Below.grown_trans b19 d20
                  clear hd19 s19 row19 b19 d20 kpk
                  refine hK _ _ s20 ?_
                  clear hK K
                  refine wpOL_seg fun K hK => ?_
                  change wpQuiet _ _ _ _ [_] _
                  repeat (go_big_quiet_step (fail))
                  refine wpQuiet_nil (hK _ ?_)
                  clear hK K
                  refine wpOL_one (by kernel_rfl) fun K hK => ?_
                  have hlw := HLW.out
                  have hlen : (zset D.now (c.fr a + U).toNat j).length = c.words.toNat := by rw [zset_len, hlw]
                  have hadr : c.act.toNat + (c.fr a + U - c.act).toNat = (c.fr a + U).toNat := by omega
                  have ce0 := row20.some (c.fr a + U).toNat (by rw [hlen]; omega)
                  rw [← hadr] at ce0
                  obtain ⟨y, ce⟩ := ce0
                  have fe : w20.frozen? ⟨wb, c.act.toNat + (c.fr a + U - c.act).toNat, none⟩ = false := row20.free _
                  have row21 : Row (w20.setCell ⟨wb, c.act.toNat + (c.fr a + U - c.act).toNat, none⟩ (.int .u64 (packv (hW x) (hR x)))) wb wcap ((zset D.now (c.fr a + U).toNat j).set (c.fr a + U).toNat (packv (hW x) (hR x))) := by
                    rw [hadr]
                    exact row20.set (c.fr a + U).toNat (by rw [hlen]; omega) _
                  have hlen2 : ((zset D.now (c.fr a + U).toNat j).set (c.fr a + U).toNat (packv (hW x) (hR x))).length = c.words.toNat := by rw [List.length_set, hlen]
                  have ce1 := row21.some (c.act.toNat + 1) (by rw [hlen2]; omega)
                  obtain ⟨y1, ce1⟩ := ce1
                  have fe1 : (w20.setCell ⟨wb, c.act.toNat + (c.fr a + U - c.act).toNat, none⟩ (.int .u64 (packv (hW x) (hR x)))).frozen? ⟨wb, c.act.toNat + 1, none⟩ = false := row21.free _
                  have row22 := row21.set (c.act.toNat + 1) (by rw [hlen2]; omega) (U + (hW x + 1))
                  clear hlw hlen hadr hlen2 row20
                  have L21 : Lef (fun r => r = wb) w20 (w20.setCell ⟨wb, c.act.toNat + (c.fr a + U - c.act).toNat, none⟩ (.int .u64 (packv (hW x) (hR x)))) := Lef.setCell (S := fun r => r = wb) (p := ⟨wb, c.act.toNat + (c.fr a + U - c.act).toNat, none⟩) (Lef.refl _ _) rfl _
                  have L22 : Lef (fun r => r = wb) w20 ((w20.setCell ⟨wb, c.act.toNat + (c.fr a + U - c.act).toNat, none⟩ (.int .u64 (packv (hW x) (hR x)))).setCell ⟨wb, c.act.toNat + 1, none⟩ (.int .u64 (U + (hW x + 1)))) := Lef.setCell (S := fun r => r = wb) (p := ⟨wb, c.act.toNat + 1, none⟩) L21 rfl _
                  have s21 : SaS c cb hb2 x _ := ⟨s20.cfg.lef L21 (by omega), s20.head.lef L21 (by omega)⟩
                  have hd22 := hd20.lef L22 (fun q q1 q2 hq => by omega)
                  have cfg22 := s20.cfg.lef L22 (by omega)
                  have b22 := b20.trans (L22.below (fun q hq => by omega) b20.size)
                  have hfin : SaI c h a cb wb wcap w D' (U + (hW x + 1)) _ := ⟨hd22, HN2.out, HA2.out, HU2.out, by omega, hroom, by rw [HNOW.out, ← HJ.out]; exact row22, cfg22, b22⟩
                  have HFIN := Lib.hid hfin
                  clear hd20 s20 b20 row21 row22 L21 L22 hd22 cfg22 b22 hfin
                  go_wp2_with fail
                  refine hK _ _ s21 ?_
                  clear hK K
                  refine wpOL_nil (HQ5.out _ _ ?_)
                  simp only [List.toList_toArray, List.drop_succ_cons, List.drop_zero]
                  clear GC0 GC1 GC2 GH0 GH1 hne s21 HQ5
                  go_wp2_with fail
                  refine NoPanic.normal ?_
                  go_wp2_with fail
                  go_meet
                  exact ⟨_, D', rfl, HFIN.out⟩
            · go_wp2_with fail
              go_meet
              exact ⟨U, _, rfl, ⟨hd14, LN.out, HA.out, HU.out, su0, su1, row14, cfg14, bel14⟩⟩
          case rest =>
            obtain ⟨U', D'', rfl, sx⟩ := hcut
            clear hd14 row14 cfg14 n14 bel14 c0 c1 c2 c3 c4 HC LN HA HU HLW
            have hlx : D''.now.length = c.words.toNat := by have := sx.len; omega
            have hll : (D''.now.drop c.act.toNat).length = c.words.toNat - c.act.toNat := by rw [List.length_drop, hlx]
            have kw := lwords_any h D'' c wc sx.dev hcok sx.len
            rw [hlx] at kw
            have keq := fun b2 k1 k2 w h1 h2 => equal_same b2 c.act.toNat k1 wb c.act.toNat k2 (D''.now.drop c.act.toNat) w h1 h2 (by omega)
            rw [hll] at keq
            have hoff : c.act.toNat ≤ D''.now.length := by omega
            clear hlx hll
            obtain ⟨c0, c1, c2⟩ := sx.cfg.c3
            go_wp2_with fail
            refine kw.mono ?_
            rintro e w15 ⟨b2, cap2, rfl, row2, hb2, d15⟩
            have s15 := sx.grow d15
            clear sx kw d15 c0 c1 c2
            have keq2 := keq b2 (cap2 - c.act.toNat) (wcap - c.act.toNat) w15 (Sl.of_row row2 _ hoff) (Sl.of_row s15.row _ hoff)
            clear keq row2 hoff
            go_wp2_with fail
            refine keq2.mono ?_
            rintro e w16 ⟨rfl, d16⟩
            have s16 := s15.grow d16
            clear s15 keq2 d16
            go_wp2_with fail
            go_roundw
            case rel => exact ⟨k + 1, U', D'', by omega, by go_num, rfl, s16⟩
            case measure => simp [intOf]; omega
        · go_wp2_with fail
          go_ret
          exact ⟨rfl, sr.bel⟩
    · go_wp2_with fail
      go_ret
      exact ⟨rfl, b2⟩
  · go_wp2_with fail
    go_ret
    exact ⟨rfl, b2⟩
end Go.Proofs.Ytpecgfpofihibaa
