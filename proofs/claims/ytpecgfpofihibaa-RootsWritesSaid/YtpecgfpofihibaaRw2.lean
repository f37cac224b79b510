/-
  The walk of RootsWrites.
-/
import Derived.Test.YtpecgfpofihibaaRw
import Derived.Test.YtpecgfpofihibaaSa2
namespace Go.Proofs.Ytpecgfpofihibaa
open Go Go.RowKit Go.MapKept Go.Shelf

/-- What stands between two rounds of the first loop. -/
structure RwI (c : Cf) (h : DevH) (cb bb : Nat) (a2 u2 stop : Int) (w0 : World) (k : Nat) (D : DevS) (rs : List Int) (rv wv : Value) (wr : World) : Prop where
  dev : Dev wr h D
  len : (D.now.length : Int) = c.words
  cfg : Is wr cb (.cells #[.int .i64 c.L, .int .i64 c.R, .int .i64 c.S] 29 (0, 0))
  blk : Is wr bb (.cells #[.int .i64 a2, .int .i64 u2, rv] 57 (0, 0))
  stop : Is wr (w0.heap.size + 1) (.cells #[.int .u8 stop] 5 (0, 0))
  rsl : rs.length = k
  rsu : ∀ x ∈ rs, U64 x
  rown : Own wr (bb + 1) 38 1 k (u64s rs) rv
  wown : Own wr (bb + 1) 38 1 (k + 2) (u64s (a2 :: u2 :: rs)) wv
  apart : ∀ q, wv.ownBlock = some q → rv.ownBlock ≠ some q
  bel : Below w0.heap.size w0 wr
theorem RwI.grow {c : Cf} {h : DevH} {cb bb : Nat} {a2 u2 stop : Int} {w0 : World} {k : Nat} {D : DevS} {rs : List Int} {rv wv : Value} {wr w' : World} (s : RwI c h cb bb a2 u2 stop w0 k D rs rv wv wr) (hb : Below wr.heap.size wr w') : RwI c h cb bb a2 u2 stop w0 k D rs rv wv w' :=
  ⟨s.dev.grow hb, s.len, s.cfg.grow hb, s.blk.grow hb, s.stop.grow hb, s.rsl, s.rsu, s.rown.grow hb, s.wown.grow hb, s.apart, Below.grown_trans s.bel hb⟩
theorem RwI.drew {c : Cf} {h : DevH} {cb bb : Nat} {a2 u2 stop : Int} {w0 : World} {k : Nat} {D : DevS} {rs : List Int} {rv wv : Value} {wr : World} (s : RwI c h cb bb a2 u2 stop w0 k D rs rv wv wr) : RwI c h cb bb a2 u2 stop w0 k D rs rv wv wr.drew := s.grow (Below.refl _ _).drew
theorem RwI.store {c : Cf} {h : DevH} {cb bb : Nat} {a2 u2 stop : Int} {w0 : World} {k : Nat} {D D' : DevS} {rs : List Int} {rv wv : Value} {wr w' : World} (s : RwI c h cb bb a2 u2 stop w0 k D rs rv wv wr) (hd : Dev w' h D') (hN : (D'.now.length : Int) = c.words) (hl : Left h.lo h.hi wr w') (h1 : cb < h.lo) (h2 : h.hi ≤ bb) (h3 : w0.heap.size + 1 < h.lo) : RwI c h cb bb a2 u2 stop w0 k D' rs rv wv w' := by
  have L := Lef.of_left hl (S := dS h) (fun k q1 q2 => ⟨q1, q2⟩)
  refine ⟨hd, hN, s.cfg.lef L (fun hq => by have := hq.1; omega), s.blk.lef L (fun hq => by have := hq.2; omega), s.stop.lef L (fun hq => by have := hq.1; omega), s.rsl, s.rsu, s.rown.lef L (fun q hq hq2 => by have := (s.rown.lt q hq).1; have := hq2.2; omega), s.wown.lef L (fun q hq hq2 => by have := (s.wown.lt q hq).1; have := hq2.2; omega), s.apart, s.bel.trans (L.below (fun q hq => by have := hq.1; omega) s.bel.size)⟩

/-- A root more. -/
theorem RwI.push {c : Cf} {h : DevH} {cb bb : Nat} {a2 u2 stop : Int} {w0 : World} {k : Nat} {D : DevS} {rs : List Int} {rv wv : Value} {W : World} (s : RwI c h cb bb a2 u2 stop w0 k D rs rv wv W) (r : Int) (hru : U64 r) (hk : k ≤ 100) (h1 : cb < h.lo) (h2 : h.hi ≤ bb) (h3 : w0.heap.size + 1 < h.lo) (h4 : h.lo ≤ h.hi) :
    ∃ ra rc wa wcp g1 cap1 w2 g2 cap2 w3, rv = .slice ra k rc ∧ wv = .slice wa (k + 2) wcp ∧
      (∀ ty, (Builtin.append_ #[25, 25] ty #[.slice ra k rc, .slice (some ⟨W.heap.size, 0, none⟩) 1 1]).run Try.prog (W.alloc (.cells #[.int .u64 r] 38)) = .ok (.slice (some ⟨g1, 0, none⟩) (k + 1) cap1) w2) ∧
      (∀ ty, (Builtin.append_ #[25, 25] ty #[.slice wa (k + 2) wcp, .slice (some ⟨w2.heap.size, 0, none⟩) 1 1]).run Try.prog (w2.alloc (.cells #[.int .u64 r] 38)) = .ok (.slice (some ⟨g2, 0, none⟩) (k + 2 + 1) cap2) w3) ∧
      RwI c h cb bb a2 u2 stop w0 (k + 1) D (rs ++ [r]) (.slice (some ⟨g1, 0, none⟩) (k + 1) cap1) (.slice (some ⟨g2, 0, none⟩) (k + 2 + 1) cap2) (w3.setCell ⟨bb, 2, none⟩ (.slice (some ⟨g1, 0, none⟩) (k + 1) cap1)) ∧
      w3.frozen? ⟨bb, 2, none⟩ = false ∧ bb < W.heap.size ∧ W.cell? ⟨bb, 2, none⟩ = some (.slice ra k rc) ∧ w3.cell? ⟨bb, 2, none⟩ = some (.slice ra k rc) := by
  obtain ⟨ra, rc, rfl⟩ := s.rown.form
  obtain ⟨wa, wcp, rfl⟩ := s.wown.form
  have hbb := s.blk.lt
  have d1 : Below W.heap.size W (W.alloc (.cells #[.int .u64 r] 38)) := (Below.refl _ _).alloc (Nat.le_refl _) _
  have n1 := Is.new W (.cells #[.int .u64 r] 38)
  have s1 := s.grow d1
  obtain ⟨g1, cap1, w2, hap1, own1, lf1, hg1, hglt1, hgb1⟩ := s1.rown.push elT_u64 ⟨W.heap.size, 0, none⟩ 1 [.int .u64 r] rfl (World.news_of_block n1) (by simp [Value.oneCell']) (by omega) (by have := d1.size; omega)
  have hr1 : ∀ q, (Value.slice ra k rc).ownBlock = some q → bb + 1 ≤ q := fun q hq => (s.rown.lt q hq).1
  have hw1 : ∀ q, (Value.slice wa (k + 2) wcp).ownBlock = some q → bb + 1 ≤ q ∧ q < W.heap.size := fun q hq => s.wown.lt q hq
  have hd2 := s1.dev.lef lf1 (fun q q1 q2 hq => by have := hr1 q hq; omega)
  have cfg2 := s1.cfg.lef lf1 (fun hq => by have := hr1 _ hq; omega)
  have blk2 := s1.blk.lef lf1 (fun hq => by have := hr1 _ hq; omega)
  have st2 := s1.stop.lef lf1 (fun hq => by have := hr1 _ hq; omega)
  have wown2 := s1.wown.lef lf1 (fun q hq hq2 => s.apart q hq hq2)
  have b2 := s1.bel.trans (lf1.below (fun q hq => by have := hr1 q hq; omega) s1.bel.size)
  have d2 : Below w2.heap.size w2 (w2.alloc (.cells #[.int .u64 r] 38)) := (Below.refl _ _).alloc (Nat.le_refl _) _
  have n2 := Is.new w2 (.cells #[.int .u64 r] 38)
  obtain ⟨g2, cap2, w3, hap2, own2, lf2, hg2, hglt2, hgb2⟩ := (wown2.grow d2).push elT_u64 ⟨w2.heap.size, 0, none⟩ 1 [.int .u64 r] rfl (World.news_of_block n2) (by simp [Value.oneCell']) (by omega) (by have := d2.size; have := lf1.size; have := d1.size; omega)
  have hg1w : ∀ q, (Value.slice wa (k + 2) wcp).ownBlock = some q → q ≠ g1 := fun q hq he => by
    subst he
    rcases hg1 with hg1 | hg1
    · exact s.apart q hq hg1
    · have := (hw1 q hq).2; have := d1.size; omega
  have hd3 := (hd2.grow d2).lef lf2 (fun q q1 q2 hq => by have := (hw1 q hq).1; omega)
  have cfg3 := (cfg2.grow d2).lef lf2 (fun hq => by have := (hw1 _ hq).1; omega)
  have blk3 := (blk2.grow d2).lef lf2 (fun hq => by have := (hw1 _ hq).1; omega)
  have st3 := (st2.grow d2).lef lf2 (fun hq => by have := (hw1 _ hq).1; omega)
  have rown3 := (own1.grow d2).lef lf2 (fun q hq hq2 => hg1w q hq2 (by simpa [Value.ownBlock] using hq.symm))
  have b3 := (Below.grown_trans b2 d2).trans (lf2.below (fun q hq => by have := (hw1 q hq).1; omega) (Below.grown_trans b2 d2).size)
  have L4 : Lef (fun q => q = bb) w3 (w3.setCell ⟨bb, 2, none⟩ (.slice (some ⟨g1, 0, none⟩) (k + 1) cap1)) := Lef.setCell (S := fun q => q = bb) (p := ⟨bb, 2, none⟩) (Lef.refl _ _) rfl _
  have hg12 : g2 ≠ g1 := by
    rcases hg2 with hg2 | hg2
    · exact hg1w g2 hg2
    · have := d2.size; omega
  refine ⟨ra, rc, wa, wcp, g1, cap1, w2, g2, cap2, w3, rfl, rfl, hap1, hap2, ⟨hd3.lef L4 (fun q q1 q2 hq => by omega), s.len, cfg3.lef L4 (by omega), blk3.set (i := 2) _, st3.lef L4 (by omega), by simp [s.rsl], ?_, ?_, ?_, ?_, ?_⟩, blk3.free, hbb, ?_, ?_⟩
  · intro x hx
    rcases List.mem_append.1 hx with hx | hx
    · exact s.rsu x hx
    · obtain rfl : x = r := by simpa using hx
      exact hru
  · have := rown3.lef L4 (fun q hq hq2 => by have := (rown3.lt q hq).1; omega)
    simpa [u64s, u64v] using this
  · have := own2.lef L4 (fun q hq hq2 => by have := (own2.lt q hq).1; omega)
    simpa [u64s, u64v] using this
  · intro q hq hq2
    have e1 : g2 = q := by simpa [Value.ownBlock] using hq
    have e2 : g1 = q := by simpa [Value.ownBlock] using hq2
    omega
  · exact b3.trans (L4.below (fun q hq => by have := h3; omega) b3.size)
  · rw [s.blk.cell]; rfl
  · rw [blk3.cell]; rfl

/-- What stands between two rounds of the second loop. -/
structure RwK (c : Cf) (h : DevH) (cb bb : Nat) (a2 u2 stop : Int) (w0 : World) (k : Nat) (D : DevS) (rs : List Int) (rv wv : Value) (wb wcap gb : Nat) (l : List (Int × Int)) (va : Option Addr) (vc : Nat) (wx : World) : Prop where
  i : RwI c h cb bb a2 u2 stop w0 k D rs rv wv wx
  row : Row wx wb wcap D.now
  got : Is wx gb (.cells #[.slice none 0 0] 59 (0, 0))
  want : Own wx (gb + 1) 61 2 l.length (ones l) (.slice va l.length vc)
theorem RwK.grow {c : Cf} {h : DevH} {cb bb : Nat} {a2 u2 stop : Int} {w0 : World} {k : Nat} {D : DevS} {rs : List Int} {rv wv : Value} {wb wcap gb : Nat} {l : List (Int × Int)} {va : Option Addr} {vc : Nat} {wx w' : World} (s : RwK c h cb bb a2 u2 stop w0 k D rs rv wv wb wcap gb l va vc wx) (hb : Below wx.heap.size wx w') : RwK c h cb bb a2 u2 stop w0 k D rs rv wv wb wcap gb l va vc w' :=
  ⟨s.i.grow hb, s.row.grow hb, s.got.grow hb, s.want.grow hb⟩
/-- Where the blocks of the second loop lie. -/
structure RwG (w0 : World) (h : DevH) (cb bb : Nat) (rv wv : Value) (wb gb : Nat) : Prop where
  g1 : cb < gb
  g2 : h.hi ≤ gb
  g3 : bb < gb
  g4 : wb < gb
  g5 : w0.heap.size + 1 < gb
  g6 : ∀ q, rv.ownBlock = some q → q < gb
  g7 : ∀ q, wv.ownBlock = some q → q < gb
theorem RwI.lef {c : Cf} {h : DevH} {cb bb : Nat} {a2 u2 stop : Int} {w0 : World} {k : Nat} {D : DevS} {rs : List Int} {rv wv : Value} {wx w' : World} {wb gb : Nat} (s : RwI c h cb bb a2 u2 stop w0 k D rs rv wv wx) (G : RwG w0 h cb bb rv wv wb gb) {S : Nat → Prop} (hl : Lef S wx w') (hS : ∀ q, S q → gb ≤ q) : RwI c h cb bb a2 u2 stop w0 k D rs rv wv w' := by
  obtain ⟨g1, g2, g3, g4, g5, g6, g7⟩ := G
  exact ⟨s.dev.lef hl (fun q q1 q2 hq => by have := hS q hq; omega), s.len, s.cfg.lef hl (fun hq => by have := hS _ hq; omega), s.blk.lef hl (fun hq => by have := hS _ hq; omega), s.stop.lef hl (fun hq => by have := hS _ hq; omega), s.rsl, s.rsu,
    s.rown.lef hl (fun q hq hq2 => by have := hS q hq2; have := g6 q hq; omega), s.wown.lef hl (fun q hq hq2 => by have := hS q hq2; have := g7 q hq; omega), s.apart, s.bel.trans (hl.below (fun q hq => by have := hS q hq; omega) s.bel.size)⟩

/-- A note more. -/
theorem RwK.push {c : Cf} {h : DevH} {cb bb : Nat} {a2 u2 stop : Int} {w0 : World} {k : Nat} {D : DevS} {rs : List Int} {rv wv : Value} {wb wcap gb : Nat} {l : List (Int × Int)} {va : Option Addr} {vc : Nat} {W : World} (s : RwK c h cb bb a2 u2 stop w0 k D rs rv wv wb wcap gb l va vc W) (G : RwG w0 h cb bb rv wv wb gb) (i v : Int) (hl : l.length ≤ 1000) :
    ∃ g cap w2, (∀ ty, (Builtin.append_ #[59, 59] ty #[.slice va l.length vc, .slice (some ⟨W.heap.size, 0, none⟩) 1 1]).run Try.prog (W.alloc (.cells #[.int .i64 i, .int .u64 v] 61)) = .ok (.slice (some ⟨g, 0, none⟩) (l.length + 1) cap) w2) ∧
      RwK c h cb bb a2 u2 stop w0 k D rs rv wv wb wcap gb (l ++ [(i, v)]) (some ⟨g, 0, none⟩) cap w2 := by
  have d1 : Below W.heap.size W (W.alloc (.cells #[.int .i64 i, .int .u64 v] 61)) := (Below.refl _ _).alloc (Nat.le_refl _) _
  have n1 := Is.new W (.cells #[.int .i64 i, .int .u64 v] 61)
  have s1 := s.grow d1
  have hgb := s.got.lt
  obtain ⟨g, cap, w2, hap, own, lf, hg, hglt, hgb2⟩ := s1.want.push elT_one ⟨W.heap.size, 0, none⟩ 1 [.int .i64 i, .int .u64 v] rfl (World.news_of_block n1) (by simp [Value.oneCell']) (by omega) (by have := d1.size; omega)
  have hS : ∀ q, (Value.slice va l.length vc).ownBlock = some q → gb + 1 ≤ q := fun q hq => (s.want.lt q hq).1
  refine ⟨g, cap, w2, hap, s1.i.lef G lf (fun q hq => by have := hS q hq; omega), s1.row.lef lf (fun hq => by have := hS _ hq; have := G.g4; omega), s1.got.lef lf (fun hq => by have := hS _ hq; omega), ?_⟩
  rw [ones_snoc, show (l ++ [(i, v)]).length = l.length + 1 by simp]
  exact own

theorem shr_and1 (x : Int) (h0 : 0 ≤ x) (h1 : x < 256) : 0 ≤ Go.bits .and .u8 (x / 2) 1 ∧ Go.bits .and .u8 (x / 2) 1 ≤ 1 := bits1_u8 (x / 2) (by omega) (by omega)

set_option maxRecDepth 100000 in
set_option maxHeartbeats 8000000 in
theorem rw_walk (cl cr cs : Int) (l m : List Int) (lv mv : Value) (active stop v0 v1 : Int) (w : World) (h1 : 0 ≤ cl ∧ cl < 65536) (h2 : 0 ≤ cr ∧ cr < 65536) (h3 : 0 ≤ cs ∧ cs < 65536)
    (hl : SlR w lv l) (hlu : ∀ x ∈ l, U64 x) (hm : SlR w mv m) (hmu : ∀ x ∈ m, U64 x) (hact : 0 ≤ active ∧ active < 256) (hstop : 0 ≤ stop ∧ stop < 256) (hv0 : 0 ≤ v0 ∧ v0 < 65536) (hv1 : 0 ≤ v1 ∧ v1 < 65536) :
    Calls Try.prog 4 #[.agg #[.int .u16 cl, .int .u16 cr, .int .u16 cs], lv, mv, .int .u8 active, .int .u8 stop, .agg #[.int .u16 v0, .int .u16 v1]] w fun e w' => e = .returned (.bool true) ∧ Below w.heap.size w w' := by
  obtain ⟨la, lcap, rfl, hlc⟩ := id hl
  obtain ⟨ma, mcap, rfl, hmc⟩ := id hm
  have hcok := mkc_ok cl cr cs
  have hmk := fun w => make_lit cl cr cs w h1 h2 h3
  generalize mkc cl cr cs = c at *
  obtain ⟨hz0, hz1⟩ := bits1_u8 active hact.1 hact.2
  obtain ⟨hy0, hy1⟩ := shr_and1 active hact.1 hact.2
  obtain ⟨ha0, ha1⟩ := hact
  obtain ⟨hs0, hs1⟩ := hstop
  obtain ⟨hv00, hv01⟩ := hv0
  obtain ⟨hv10, hv11⟩ := hv1
  obtain ⟨na0, na1, nf0, nf1, ns0, ns1, nw, nw0, nw1, nr0, nr1, nsp0, nsp1⟩ := hcok.nums
  have nw2 : c.fr0 + 2 * ln c.S ≤ c.words := by omega
  have HLU := Lib.hid hlu
  have HMU := Lib.hid hmu
  clear nw hlu hmu
  have x1 := ((Is.new w (.cells #[.int .u16 cl, .int .u16 cr, .int .u16 cs] 24)).alloc (.cells #[.int .u8 stop] 5)).alloc (.cells #[.int .u16 v0, .int .u16 v1] 54)
  have y1 := (Is.new (w.alloc (.cells #[.int .u16 cl, .int .u16 cr, .int .u16 cs] 24)) (.cells #[.int .u8 stop] 5)).alloc (.cells #[.int .u16 v0, .int .u16 v1] 54)
  have z1 := Is.new ((w.alloc (.cells #[.int .u16 cl, .int .u16 cr, .int .u16 cs] 24)).alloc (.cells #[.int .u8 stop] 5)) (.cells #[.int .u16 v0, .int .u16 v1] 54)
  rw [World.size_alloc] at y1
  rw [World.size_alloc, World.size_alloc] at z1
  have b1 := below3 w (.cells #[.int .u16 cl, .int .u16 cr, .int .u16 cs] 24) (.cells #[.int .u8 stop] 5) (.cells #[.int .u16 v0, .int .u16 v1] 54)
  go_enter Try.func4, Try.ntmps4
  go_upto_region 1 with (fail)
  generalize ((w.alloc (.cells #[.int .u16 cl, .int .u16 cr, .int .u16 cs] 24)).alloc (.cells #[.int .u8 stop] 5)).alloc (.cells #[.int .u16 v0, .int .u16 v1] 54) = w1 at *
  go_wp2_with fail
  refine (awake08 _).mono ?_
  rintro e w2 ⟨rfl, d2⟩
  have x2 := x1.grow d2
  have y2 := y1.grow d2
  have z2 := z1.grow d2
  have b2 := Below.grown_trans b1 d2
  clear x1 y1 z1 b1 d2
  obtain ⟨c0, c1, c2⟩ := x2.c3
  by_cases hlen : l.length ≤ 20
  · by_cases hlen2 : m.length ≤ 20
    · go_wp2_with fail
      refine (hmk _).mono ?_
      rintro e w3 ⟨rfl, d3⟩
      have i3 := Is.new w3 (.cells #[.int .i64 c.L, .int .i64 c.R, .int .i64 c.S] 29)
      have d3' : Below w2.heap.size w2 (w3.alloc (.cells #[.int .i64 c.L, .int .i64 c.R, .int .i64 c.S] 29)) := d3.alloc d3.size _
      have y3 := y2.grow d3'
      have z3 := z2.grow d3'
      have b3 := Below.grown_trans b2 d3'
      clear hmk c0 c1 c2 x2 y2 z2 b2 d3 d3'
      go_wp2_with fail
      generalize w3.alloc (.cells #[.int .i64 c.L, .int .i64 c.R, .int .i64 c.S] 29) = w4 at *
      generalize w3.heap.size = cb at *
      refine (formatted_lit c [] (.slice none 0 0) _ hcok (SlR.nil _) (by decide) (by simp)).mono ?_
      rintro e w5 ⟨h, rfl, hd5, hlo, d5⟩
      have i5 := i3.grow d5
      have y5 := y3.grow d5
      have z5 := z3.grow d5
      have b5 := Below.grown_trans b3 d5
      have zc : cb < h.lo := Nat.lt_of_lt_of_le i3.lt hlo
      have hlo2 : w.heap.size + 1 + 1 < h.lo := Nat.lt_of_lt_of_le z3.lt hlo
      have hlh := hd5.hok.r1
      clear i3 y3 z3 b3 d5 hlo
      have hN : ((fmtD c []).now.length : Int) = c.words := by rw [fmtD_len]; omega
      generalize fmtD c [] = D0 at *
      have HN := Lib.hid hN
      clear hN
      obtain ⟨c0, c1, c2⟩ := i5.c3
      go_wp2_with fail
      refine (active_lit c _ hcok).mono ?_
      rintro e w6 ⟨rfl, d6⟩
      have hd6 := hd5.grow d6
      have i6 := i5.grow d6
      have y6 := y5.grow d6
      have z6 := z5.grow d6
      have b6 := Below.grown_trans b5 d6
      clear c0 c1 c2 i5 y5 z5 hd5 b5 d6
      go_wp2_with fail
      generalize Go.bits .and .u8 active 1 = a1 at *
      have hN := HN.out
      refine (store_lit h _ c.act a1 _ hd6 (by omega) (by omega) ⟨by omega, by omega⟩).mono ?_
      rintro e w7 ⟨rfl, hd7, lf7⟩
      have i7 := i6.left lf7 (by omega)
      have y7 := y6.left lf7 (by omega)
      have z7 := z6.left lf7 (by omega)
      have b7 := b6.trans (lf7.below (by omega) b6.size)
      have hN7 : ((D0.store c.act a1).now.length : Int) = c.words := by rw [DevS.store_len]; exact hN
      clear i6 y6 z6 hd6 b6 lf7 hN HN
      generalize D0.store c.act a1 = D1 at *
      have HN7 := Lib.hid hN7
      clear hN7
      have G := GrW.c3 i7
      have GZ0 := GrW.cell (show w7.cell? ⟨w.heap.size + 1 + 1, 0, none⟩ = some (.int .u16 v0) by rw [z7.cell]; rfl)
      have hm1 : 0 ≤ v0 % (c.S + 1) ∧ v0 % (c.S + 1) < c.S + 1 := ⟨Int.emod_nonneg _ (by omega), Int.emod_lt_of_pos _ (by omega)⟩
      have hm2 : 0 ≤ v1 % (c.S + 1) ∧ v1 % (c.S + 1) < c.S + 1 := ⟨Int.emod_nonneg _ (by omega), Int.emod_lt_of_pos _ (by omega)⟩
      obtain ⟨hm10, hm11⟩ := hm1
      obtain ⟨hm20, hm21⟩ := hm2
      go_wp2_with fail
      refine wp_gr_tail 11 (by kernel_rfl) (by kernel_rfl) ?_
      simp only [List.take_succ_cons, List.take_zero, List.drop_succ_cons, List.drop_zero]
      repeat (go_big_quiet_step (first | (go_at_call 38; with_reducible exact gr_call (used_lit c _ hcok))))
      refine wpQuiet_nil ?_
      rintro w8 ⟨⟨_, hw8⟩, rfl⟩
      have hd8 := hd7.grow hw8
      have i8 := i7.grow hw8
      have y8 := y7.grow hw8
      have z8 := z7.grow hw8
      have b8 := Below.grown_trans b7 hw8
      clear G GZ0 i7 y7 z7 hd7 b7 hw8
      go_wp2_with fail
      have hN7 := HN7.out
      refine (store_lit h _ (c.act + 1) (v0 % (c.S + 1)) _ hd8 (by omega) (by omega) ⟨by omega, by omega⟩).mono ?_
      rintro e w9 ⟨rfl, hd9, lf9⟩
      have i9 := i8.left lf9 (by omega)
      have y9 := y8.left lf9 (by omega)
      have z9 := z8.left lf9 (by omega)
      have b9 := b8.trans (lf9.below (by omega) b8.size)
      have hN9 : ((D1.store (c.act + 1) (v0 % (c.S + 1))).now.length : Int) = c.words := by rw [DevS.store_len]; exact hN7
      clear i8 y8 z8 hd8 b8 lf9 hN7 HN7
      generalize D1.store (c.act + 1) (v0 % (c.S + 1)) = D2 at *
      have HN9 := Lib.hid hN9
      clear hN9
      obtain ⟨c0, c1, c2⟩ := i9.c3
      have cz : w9.cell? ⟨w.heap.size + 1 + 1, 1, none⟩ = some (.int .u16 v1) := by rw [z9.cell]; rfl
      go_upto_region 12 with (fail)
      generalize Go.bits .and .u8 (active / 2) 1 = a2 at *
      generalize v1 % (c.S + 1) = u2 at *
      have zb : h.hi ≤ w9.heap.size := hd9.top
      have bx : Below w9.heap.size w9 (w9.alloc (.cells #[.int .i64 a2, .int .i64 u2, .slice none 0 0] 57)) := (Below.refl _ _).alloc (Nat.le_refl _) _
      have q10 := Is.new w9 (.cells #[.int .i64 a2, .int .i64 u2, .slice none 0 0] 57)
      have hsz10 : (w9.alloc (.cells #[.int .i64 a2, .int .i64 u2, .slice none 0 0] 57)).heap.size = w9.heap.size + 1 := by simp
      have i10 := i9.grow bx
      have y10 := y9.grow bx
      have hd10 := hd9.grow bx
      have b10 := Below.grown_trans b9 bx
      clear c0 c1 c2 cz i9 y9 z9 hd9 b9 bx hm10 hm11
      generalize w9.alloc (.cells #[.int .i64 a2, .int .i64 u2, .slice none 0 0] 57) = w10 at *
      generalize w9.heap.size = bb at *
      have HSZ := Lib.hid hsz10
      clear hsz10
      obtain ⟨c0, c1, c2⟩ := i10.c3
      obtain ⟨c3, c4, c5⟩ := q10.c3
      have zz := i10.lt
      have bx : Below w10.heap.size w10 (w10.alloc (.cells #[.int .u64 a2, .int .u64 u2] 38)) := (Below.refl _ _).alloc (Nat.le_refl _) _
      have n11 := Is.new w10 (.cells #[.int .u64 a2, .int .u64 u2] 38)
      have hsz := HSZ.out
      have s11 : RwI c h cb bb a2 u2 stop w 0 D2 [] (.slice none 0 0) (.slice (some ⟨w10.heap.size, 0, none⟩) 2 2) (w10.alloc (.cells #[.int .u64 a2, .int .u64 u2] 38)) :=
        ⟨hd10.grow bx, HN9.out, i10.grow bx, q10.grow bx, y10.grow bx, rfl, by simp, Own.nil _ _ _ _, Own.of_new n11 (by omega) rfl (by decide), fun q hq hq2 => by simp [Value.ownBlock] at hq2, Below.grown_trans b10 bx⟩
      clear hsz i10 y10 hd10 b10 bx n11 HSZ HN9 q10
      have hR : ∃ R : Nat, c.R = R := ⟨c.R.toNat, by omega⟩
      obtain ⟨R, hR⟩ := hR
      have HR := Lib.hid hR
      have hRle : (R : Int) ≤ 16 := by omega
      have hR1 : 1 ≤ R := by omega
      have hRR : c.R ≤ (R : Int) := by omega
      have hRR2 : (R : Int) ≤ c.R := by omega
      clear hR
      go_wp2_with fail
      clear c0 c1 c2 c3 c4 c5 zz
      go_loopw [17, 86] (fun o i wr => ∃ (k : Nat) (D : DevS) (rs : List Int) (rv wv : Value), k ≤ R ∧ i = .int .i64 k ∧ wv = o ∧ RwI c h cb bb a2 u2 stop w k D rs rv wv wr)
        (fun _ i _ => R - (intOf i).toNat)
      case atStart => exact ⟨0, D2, [], _, _, by omega, rfl, rfl, s11⟩
      case round =>
        obtain ⟨k, D, rs, rv, wv, hk, rfl, rfl, sr⟩ := hrel
        clear s11
        by_cases hlt : k < R
        · go_upto_if 92 with (fail)
          go_cut [19] (fun s19 wx => s19 = .int .u64 0 ∧ ∃ D', RwI c h cb bb a2 u2 stop w k D' rs rv wv wx)
          case first =>
            by_cases hkl : k < l.length
            · obtain ⟨sb, so, rfl, hbl, hce⟩ : ∃ sb so, la = some ⟨sb, so, none⟩ ∧ sb < w.heap.size ∧ w.cell? ⟨sb, so + k, none⟩ = some (.int .u64 l[k]) := by
                rcases hlc with h0 | ⟨b, o, q1, q2, q3⟩
                · rw [h0] at hkl; exact absurd hkl (Nat.not_lt_zero _)
                · exact ⟨b, o, q1, q2, q3 k hkl⟩
              have hxu := HLU.out l[k] (List.getElem_mem _)
              have ce0 : wr.cell? ⟨sb, so + k, none⟩ = some (.int .u64 l[k]) := (sr.bel.cell (p := ⟨sb, so + k, none⟩) hbl).trans hce
              clear hce
              generalize l[k] = x at *
              have G := GrW.c3 sr.cfg
              have GX := GrW.cell ce0
              have hLN := sr.len
              have kst := fun W hd => store_lit h D (c.act + 2 + (k : Int)) x W hd (by omega) (by omega) hxu
              obtain ⟨hx0, hx1⟩ := hxu
              have hN2 : ((D.store (c.act + 2 + (k : Int)) x).now.length : Int) = c.words := by rw [DevS.store_len]; exact hLN
              have HN2 := Lib.hid hN2
              clear ce0 hLN hN2
              go_wp2_with fail
              refine wp_gr_tail 8 (by kernel_rfl) (by kernel_rfl) ?_
              simp only [List.take_succ_cons, List.take_zero, List.drop_succ_cons, List.drop_zero]
              repeat (go_big_quiet_step (first | (go_at_call 39; with_reducible exact gr_call (root_lit c k _ hcok (by omega) (by omega)))))
              refine wpQuiet_nil ?_
              rintro w12 ⟨⟨_, hw12⟩, rfl⟩
              have s12 := sr.grow hw12
              clear G GX sr hw12
              go_wp2_with fail
              refine (kst _ s12.dev).mono ?_
              rintro e w13 ⟨rfl, hd13, lf13⟩
              have s13 := s12.store hd13 HN2.out lf13 zc zb (by omega)
              go_wp2_with fail
              go_meet
              exact ⟨rfl, _, s13⟩
            · go_wp2_with fail
              go_meet
              exact ⟨rfl, D, sr⟩
          case rest =>
            obtain ⟨rfl, D', sx⟩ := hcut
            clear sr
            generalize wc = wy at *
            go_upto_if 105 with (fail)
            go_cut [19] (fun s19 wx => ∃ r, s19 = .int .u64 r ∧ U64 r ∧ wx = wy)
            case first =>
              by_cases hkl : k < m.length
              · obtain ⟨sb, so, rfl, hbl, hce⟩ : ∃ sb so, ma = some ⟨sb, so, none⟩ ∧ sb < w.heap.size ∧ w.cell? ⟨sb, so + k, none⟩ = some (.int .u64 m[k]) := by
                  rcases hmc with h0 | ⟨b, o, q1, q2, q3⟩
                  · rw [h0] at hkl; exact absurd hkl (Nat.not_lt_zero _)
                  · exact ⟨b, o, q1, q2, q3 k hkl⟩
                have hxu := HMU.out m[k] (List.getElem_mem _)
                have ce0 : wy.cell? ⟨sb, so + k, none⟩ = some (.int .u64 m[k]) := (sx.bel.cell (p := ⟨sb, so + k, none⟩) hbl).trans hce
                clear hce
                generalize m[k] = x at *
                go_wp2_with fail
                go_meet
                exact ⟨x, rfl, hxu, rfl⟩
              · go_wp2_with fail
                go_meet
                exact ⟨0, rfl, ⟨by decide, by decide⟩, rfl⟩
            case rest =>
              obtain ⟨r, rfl, hru, hwx⟩ := hcut
              subst hwx
              obtain ⟨ra, rc, wa, wcp, g1, cap1, w2, g2, cap2, w3, rfl, rfl, hap1, hap2, sn, fz, hbb, cb2, cb3⟩ := sx.push r hru (by omega) zc zb (by omega) (by omega)
              have HAP1 := Lib.hid hap1
              have HAP2 := Lib.hid hap2
              have HSN := Lib.hid sn
              have hbb2 : bb < wc.heap.size + 1 := by omega
              clear sx hap1 hap2 sn hru
              go_wp2_with (at_builtin; first | refine wpList_append_run rfl _ _ _ rfl _ _ _ rfl rfl HAP1.out ?_ | refine wpList_append_run rfl _ _ _ rfl _ _ _ rfl rfl HAP2.out ?_)
              go_roundw
              case rel => exact ⟨k + 1, D', _, _, _, by omega, by go_num, rfl, HSN.out⟩
              case measure => simp [intOf]; omega
        · obtain rfl : k = R := by omega
          obtain ⟨c0, c1, c2⟩ := sr.cfg.c3
          obtain ⟨wa, wcp, hwv⟩ := sr.wown.form
          obtain ⟨ra, rc, hrv⟩ := sr.rown.form
          subst hwv hrv
          have hrl := sr.rsl
          subst hrl
          have hDl : D.now.length = c.words.toNat := by have := sr.len; omega
          have kw := lwords_any h D c wr sr.dev hcok sr.len
          rw [hDl] at kw
          have HDL := Lib.hid hDl
          clear hDl hlt
          go_wp2_with fail
          refine kw.mono ?_
          rintro e w12 ⟨wb, wcap, rfl, hrow, hwb, d12⟩
          have s12 := sr.grow d12
          clear kw sr d12 c0 c1 c2
          have bx : Below w12.heap.size w12 (w12.alloc (.cells #[.slice none 0 0] 59)) := (Below.refl _ _).alloc (Nat.le_refl _) _
          have n13 := Is.new w12 (.cells #[.slice none 0 0] 59)
          have hG : RwG w h cb bb (.slice ra rs.length rc) (.slice wa (rs.length + 2) wcp) wb w12.heap.size := ⟨s12.cfg.lt, by have := s12.blk.lt; omega, s12.blk.lt, hrow.lt, s12.stop.lt, fun q hq => (s12.rown.lt q hq).2, fun q hq => (s12.wown.lt q hq).2⟩
          have s13 : RwK c h cb bb a2 u2 stop w rs.length D rs (.slice ra rs.length rc) (.slice wa (rs.length + 2) wcp) wb wcap w12.heap.size [] none 0 (w12.alloc (.cells #[.slice none 0 0] 59)) := ⟨s12.grow bx, hrow.grow bx, n13, Own.nil _ _ _ _⟩
          clear s12 bx n13 hrow hwb
          go_wp2_with fail
          generalize w12.alloc (.cells #[.slice none 0 0] 59) = w13 at *
          generalize w12.heap.size = gb at *
          go_loopw [21, 23, 126] (fun o e i wx => ∃ (k : Nat) (ll : List (Int × Int)) (va : Option Addr) (vc : Nat) (er : Int), k ≤ rs.length + 2 ∧ i = .int .i64 k ∧ .slice va ll.length vc = o ∧ .int .i64 er = e ∧ wst (rwAns stop) D c (a2 :: u2 :: rs) k = (ll, er) ∧ RwK c h cb bb a2 u2 stop w rs.length D rs (.slice ra rs.length rc) (.slice wa (rs.length + 2) wcp) wb wcap gb ll va vc wx)
            (fun _ _ i _ => rs.length + 2 - (intOf i).toNat)
          case atStart => exact ⟨0, [], none, 0, 0, by omega, rfl, rfl, rfl, rfl, s13⟩
          case round =>
            obtain ⟨k, ll, va, vc, er, hk2, rfl, rfl, rfl, hws, sk⟩ := hrel
            clear s13
            have hll := wst_len (ans := rwAns stop) (D := D) (c := c) (ws := a2 :: u2 :: rs) k
            rw [hws] at hll
            by_cases hlt2 : k < rs.length + 2
            · have hkw : k < (a2 :: u2 :: rs).length := by simp; omega
              have hstep : wst (rwAns stop) D c (a2 :: u2 :: rs) (k + 1) = if D.at (c.act.toNat + k) = (a2 :: u2 :: rs).getD k 0 ∨ er ≠ 0 then (ll, er) else (ll ++ [(c.act + (k : Nat), (a2 :: u2 :: rs).getD k 0)], rwAns stop (ll ++ [(c.act + (k : Nat), (a2 :: u2 :: rs).getD k 0)])) := by
                show (if D.at (c.act.toNat + k) = (a2 :: u2 :: rs).getD k 0 ∨ (wst (rwAns stop) D c (a2 :: u2 :: rs) k).2 ≠ 0 then wst (rwAns stop) D c (a2 :: u2 :: rs) k else _) = _
                rw [hws]
              have hcx : ∃ g, wa = some ⟨g, 0, none⟩ ∧ wr.cell? ⟨g, k, none⟩ = some (.int .u64 ((a2 :: u2 :: rs).getD k 0)) := by
                obtain ⟨g', he, _, _, hc⟩ := sk.i.wown.cell k (by simpa using hkw)
                refine ⟨g', he, ?_⟩
                rw [hc, List.getD_eq_getElem?_getD, List.getElem?_eq_getElem hkw]
                congr 1
                unfold u64s
                rw [List.getElem_map]
                rfl
              have hcy : wr.cell? ⟨wb, c.act.toNat + k, none⟩ = some (.int .u64 (D.at (c.act.toNat + k))) := by
                have hlx := HDL.out
                have hi : c.act.toNat + k < D.now.length := by omega
                rw [sk.row.cell _ hi]
                unfold DevS.at
                rw [List.getD_eq_getElem?_getD, List.getElem?_eq_getElem hi]
                rfl
              obtain ⟨g, rfl, hcx⟩ := hcx
              generalize (a2 :: u2 :: rs).getD k 0 = x at *
              generalize D.at (c.act.toNat + k) = y at *
              have HST := Lib.hid hstep
              clear hstep hws hkw
              by_cases hxy : y = x
              · have hb : (y != x) = false := by simpa using hxy
                have hw2 : wst (rwAns stop) D c (a2 :: u2 :: rs) (k + 1) = (ll, er) := by rw [HST.out, if_pos (.inl hxy)]
                have HW := Lib.hid hw2
                clear hw2 HST hxy
                go_wp2_with fail
                go_roundw
                case rel => exact ⟨k + 1, ll, va, vc, er, by omega, by go_num, rfl, rfl, HW.out, sk⟩
                case measure => simp [intOf]; omega
              · have hb : (y != x) = true := by simpa using hxy
                by_cases her : er = 0
                · subst her
                  have hw2 : wst (rwAns stop) D c (a2 :: u2 :: rs) (k + 1) = (ll ++ [(c.act + (k : Nat), x)], rwAns stop (ll ++ [(c.act + (k : Nat), x)])) := by rw [HST.out, if_neg (by intro hh; rcases hh with hh | hh; exact hxy hh; exact hh rfl)]
                  have hra : rwAns stop (ll ++ [(c.act + (k : Nat), x)]) = if (ll.length : Int) + 1 = 1 + stop % 6 then 3 else 0 := by unfold rwAns; simp
                  rw [hra] at hw2
                  have HW := Lib.hid hw2
                  clear hw2 hra HST hxy
                  obtain ⟨c0, c1, c2⟩ := sk.i.cfg.c3
                  go_wp2_with fail
                  refine (active_lit c _ hcok).mono ?_
                  rintro e w14 ⟨rfl, d14⟩
                  obtain ⟨g2, cap2, w15, hap, s15⟩ := (sk.grow d14).push hG (c.act + (k : Nat)) x (by omega)
                  have HAP := Lib.hid hap
                  have cst : w15.cell? ⟨w.heap.size + 1, 0, none⟩ = some (.int .u8 stop) := by rw [s15.i.stop.cell]; rfl
                  clear sk d14 c0 c1 c2 hap hcx hcy
                  by_cases hs : (ll.length : Int) + 1 = 1 + stop % 6
                  · have hb2 : ((ll.length : Int) + 1 == 1 + stop % 6) = true := by simpa using hs
                    have hw3 := HW.out
                    rw [if_pos hs] at hw3
                    have HW3 := Lib.hid hw3
                    clear hw3 hs HW
                    go_wp2_with (at_builtin; refine wpList_append_run rfl _ _ _ rfl _ _ _ rfl rfl HAP.out ?_)
                    go_roundw
                    case rel => exact ⟨k + 1, _, _, _, 3, by omega, by go_num, by rw [List.length_append]; rfl, rfl, HW3.out, s15⟩
                    case measure => simp [intOf]; omega
                  · have hb2 : ((ll.length : Int) + 1 == 1 + stop % 6) = false := by simpa using hs
                    have hw3 := HW.out
                    rw [if_neg hs] at hw3
                    have HW3 := Lib.hid hw3
                    clear hw3 hs HW
                    go_wp2_with (at_builtin; refine wpList_append_run rfl _ _ _ rfl _ _ _ rfl rfl HAP.out ?_)
                    go_roundw
                    case rel => exact ⟨k + 1, _, _, _, 0, by omega, by go_num, by rw [List.length_append]; rfl, rfl, HW3.out, s15⟩
                    case measure => simp [intOf]; omega
                · have hb2 : (er == 0) = false := by simpa using her
                  have hw2 : wst (rwAns stop) D c (a2 :: u2 :: rs) (k + 1) = (ll, er) := by rw [HST.out, if_pos (.inr her)]
                  have HW := Lib.hid hw2
                  clear hw2 HST hxy her
                  go_wp2_with fail
                  go_roundw
                  case rel => exact ⟨k + 1, ll, va, vc, er, by omega, by go_num, rfl, rfl, HW.out, sk⟩
                  case measure => simp [intOf]; omega
            · obtain rfl : k = rs.length + 2 := by omega
              have hws1 : (wst (rwAns stop) D c (a2 :: u2 :: rs) (rs.length + 2)).1 = ll := by rw [hws]
              have hws2 : (wst (rwAns stop) D c (a2 :: u2 :: rs) (rs.length + 2)).2 = er := by rw [hws]
              have hll2 : ll.length ≤ 1000 := by
                have : ll.length ≤ rs.length + 2 := hll
                omega
              obtain ⟨rb, hra, hrb0, hrb, _⟩ := sk.i.rown.cell 0 (by simp; omega)
              subst hra
              have hrc : ∀ i (hi : i < rs.length), wr.cell? ⟨rb, 0 + i, none⟩ = some (.int .u64 rs[i]) := fun i hi => by
                obtain ⟨g', he, _, _, hc⟩ := sk.i.rown.cell i (by simpa using hi)
                cases he
                rw [Nat.zero_add, hc]
                congr 1
                unfold u64s
                rw [List.getElem_map]
                rfl
              have hgl := sk.got.lt
              obtain ⟨g1, g2, g3, g4, g5, g6, g7⟩ := id hG
              have hhi := sk.i.dev.top
              have kwr := rwrite_any D a2 u2 rs rb 0 rc wr (fun Av => stF_rw h D gb (w.heap.size + 1) wr.heap.size stop c.words ⟨hs0, hs1⟩ hgl (by omega) (by omega) hhi (.inr g2) Av)
                (fun Av W hb hav => ⟨sk.i.dev.grow hb, ⟨none, 0, sk.got.grow hb, Own.nil _ _ _ _, fun q hq => by simp [Value.ownBlock] at hq⟩, sk.i.stop.grow hb, fun k hk => (hav k hk).2, hb.size⟩) (fun k hk => by subst hk; exact hgl) hcok (by omega) hrb hrc sk.i.rsu hy0 hy1 hm20 (by omega) (fun k hk => rfl)
              rw [hws1, hws2] at kwr
              have KWR := Lib.hid kwr
              clear kwr hws hws1 hws2 hrc hll hlt2
              obtain ⟨c0, c1, c2⟩ := sk.i.cfg.c3
              obtain ⟨c3, c4, c5⟩ := sk.i.blk.c3
              go_wp2_with fail
              refine KWR.out.mono ?_
              rintro e w14 ⟨rfl, ⟨Av, hj⟩, lf⟩
              have want14 := sk.want.lef lf (fun q hq hq2 => by have := (sk.want.lt q hq).1; omega)
              have b14 := sk.i.bel.trans (lf.below (fun q hq => by omega) sk.i.bel.size)
              obtain ⟨ga, gcap, hgot, hown, _⟩ := hj.got
              have cg : w14.cell? ⟨gb, 0, none⟩ = some (.slice ga ll.length gcap) := by rw [hgot.cell]; rfl
              have keq := fun w (hb : Below w14.heap.size w14 w) => equal_ones ll _ _ ga va gcap vc w (hown.grow hb) (want14.grow hb) (by omega)
              clear hj hgot hown want14 lf sk KWR c0 c1 c2 c3 c4 c5
              go_wp2_with fail
              refine (keq _ (Below.refl _ _)).mono ?_
              rintro e w15 ⟨rfl, d15⟩
              go_wp2_with fail
              go_ret
              exact ⟨rfl, Below.grown_trans b14 d15⟩
    · go_wp2_with fail
      go_ret
      exact ⟨rfl, b2⟩
  · go_wp2_with fail
    go_ret
    exact ⟨rfl, b2⟩
end Go.Proofs.Ytpecgfpofihibaa
