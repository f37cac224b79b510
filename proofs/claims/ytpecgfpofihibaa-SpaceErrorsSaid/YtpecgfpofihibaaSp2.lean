/-
  tumuluslaw09.SpaceErrors: the walk.
-/
import Derived.Test.YtpecgfpofihibaaSpe
namespace Go.Proofs.Ytpecgfpofihibaa
open Go Go.RowKit Go.MapKept Go.Shelf

theorem spD_a (c : Cf) (u : Int) (hc : c.ok) : ((fmtD c []).store (c.act + 1) u).at c.act.toNat = 0 ∧ ((fmtD c []).store (c.act + 1) u).at (c.act.toNat + 1) = u := by
  have n := hc.nums
  obtain ⟨na0, na1, nf0, nf1, ns0, ns1, nw, nw0, nw1, nr0, nr1, nsp0, nsp1⟩ := n
  have hl := fmtD_len c []
  rw [DevS.at_store _ _ _ _ (by omega), DevS.at_store _ _ _ _ (by omega), if_neg (by omega), if_pos (by omega), fmtD_at _ _ hc]
  refine ⟨?_, rfl⟩
  have := c.bds.a1
  unfold fmtAt
  rw [if_neg (by omega), if_neg (by omega), if_neg (by omega), if_neg (by omega), if_neg (by omega), if_neg (by omega), if_pos (by omega)]

theorem tmod12 (x : Int) : -12 ≤ x.tmod 12 ∧ x.tmod 12 ≤ 12 := by
  have h1 := Int.natAbs_tmod x 12
  have h2 := Nat.mod_lt x.natAbs (show 0 < (12 : Int).natAbs by decide)
  rw [← h1] at h2
  have h3 : (12 : Int).natAbs = 12 := rfl
  omega

/-- What is left when Alloc has stored. -/
structure SpE (h : DevH) (c : Cf) (nb fb sb : Nat) (stop n : Int) (w w' : World) : Prop where
  n : Is w' nb (.cells #[.int .i64 n] 3 (0, 0))
  first : Is w' fb (.cells #[.int .i64 (c.act + 1)] 3 (0, 0))
  stop : Is w' sb (.cells #[.int .u8 stop] 5 (0, 0))
  lef : Lef (fun k => k = nb ∨ k = fb) w w'

theorem sp_end {h : DevH} {D : DevS} {c : Cf} {nb fb sb : Nat} {u W R stop : Int} {w w' : World} {e : Ending} (hW : 0 ≤ W) (hs : 0 ≤ stop)
    (hp : AlcP c 0 u W R (fun k => k = nb ∨ k = fb) (spAns stop) (SpJ h D nb fb sb stop) w e w') :
    (1 + stop % 8 ≤ W + 2 → e = .returned (.tuple #[.int .i64 0, .int .i64 3]) ∧ SpE h c nb fb sb stop (1 + stop % 8) w w') ∧
    (W + 2 < 1 + stop % 8 → e = .returned (.tuple #[.int .i64 (c.fr 0 + u), .int .i64 0]) ∧ SpE h c nb fb sb stop (W + 2) w w') := by
  obtain ⟨j, j1, j2, hz, hJ, hl, hend⟩ := hp
  have hlen : ∀ i : Nat, i ≤ (W + 2).toNat → ((alcL c 0 u W R).take i).length = i := fun i hi => by
    rw [List.length_take, alcL_len]; omega
  have hans : ∀ i : Nat, i ≤ (W + 2).toNat → spAns stop ((alcL c 0 u W R).take i) = if (i : Int) = 1 + stop % 8 then 3 else 0 := fun i hi => by
    unfold spAns; rw [hlen i hi]
  have hfirst : (((alcL c 0 u W R).take j).map (·.1)).headD 0 = c.act + 1 := by
    obtain ⟨j', rfl⟩ : ∃ j', j = j' + 1 := ⟨j - 1, by omega⟩
    simp [alcL]
  obtain ⟨q1, q2, q3, q4⟩ := hJ
  rw [hlen j j2] at q2
  rw [hfirst] at q3
  rw [hans j j2] at hend
  rcases hend with ⟨h1, h2⟩ | ⟨h1, h2, h3⟩
  · by_cases hj : (j : Int) = 1 + stop % 8
    · rw [if_pos hj] at h2
      rw [hj] at q2
      exact ⟨fun _ => ⟨h2, q2, q3, q4, hl⟩, fun hlt => by omega⟩
    · rw [if_neg hj] at h1; exact absurd rfl h1
  · by_cases hj : (j : Int) = 1 + stop % 8
    · rw [if_pos hj] at h2; cases h2
    · rw [h1] at q2
      refine ⟨fun hle => ?_, fun _ => ⟨h3, q2, q3, q4, hl⟩⟩
      have := hz (1 + stop % 8).toNat (by omega) (by omega)
      rw [hans _ (by omega), if_pos (by omega)] at this
      cases this

set_option maxRecDepth 100000 in
set_option maxHeartbeats 4000000 in
theorem sperr_walk (cl cr cs words refs used stop : Int) (near : Bool) (w : World) (h1 : 0 ≤ cl ∧ cl < 65536) (h2 : 0 ≤ cr ∧ cr < 65536) (h3 : 0 ≤ cs ∧ cs < 65536)
    (hw : -9223372036854775808 ≤ words ∧ words ≤ 9223372036854775807) (hr : -9223372036854775808 ≤ refs ∧ refs ≤ 9223372036854775807) (hu : U64 used) (hs : 0 ≤ stop ∧ stop < 256) :
    Calls Try.prog 5 #[.agg #[.int .u16 cl, .int .u16 cr, .int .u16 cs], .int .i64 words, .int .i64 refs, .int .u64 used, .int .u8 stop, .bool near] w fun e w' => e = .returned (.bool true) ∧ Below w.heap.size w w' := by
  have x1 := (Is.new w (.cells #[.int .u16 cl, .int .u16 cr, .int .u16 cs] 24)).alloc (.cells #[.int .u8 stop] 5)
  have y1 := Is.new (w.alloc (.cells #[.int .u16 cl, .int .u16 cr, .int .u16 cs] 24)) (.cells #[.int .u8 stop] 5)
  rw [World.size_alloc] at y1
  have b1 : Below w.heap.size w ((w.alloc (.cells #[.int .u16 cl, .int .u16 cr, .int .u16 cs] 24)).alloc (.cells #[.int .u8 stop] 5)) := ((Below.refl _ _).alloc (Nat.le_refl _) _).alloc (by simp) _
  have hcok := mkc_ok cl cr cs
  have hm := fun w => make_lit cl cr cs w h1 h2 h3
  generalize mkc cl cr cs = c at *
  obtain ⟨hu0, hu1⟩ := hu
  obtain ⟨hw0, hw1⟩ := hw
  obtain ⟨hr0, hr1⟩ := hr
  obtain ⟨hs0, hs1⟩ := hs
  obtain ⟨na0, na1, nf0, nf1, ns0, ns1, nw, nw0, nw1, nr0, nr1, nsp0, nsp1⟩ := hcok.nums
  have nw2 : c.fr0 + 2 * ln c.S ≤ c.words := by omega
  clear nw
  go_enter Try.func5, Try.ntmps5
  go_wp2_with fail
  generalize (w.alloc (.cells #[.int .u16 cl, .int .u16 cr, .int .u16 cs] 24)).alloc (.cells #[.int .u8 stop] 5) = w1 at *
  refine (awake09 _).mono ?_
  rintro e w2 ⟨rfl, d2⟩
  have x2 := x1.grow d2
  have y2 := y1.grow d2
  have b2 := Below.grown_trans b1 d2
  clear x1 y1 b1 d2
  obtain ⟨c0, c1, c2⟩ := x2.c3
  go_wp2_with fail
  refine (hm _).mono ?_
  rintro e w3 ⟨rfl, d3⟩
  have i3 := Is.new w3 (.cells #[.int .i64 c.L, .int .i64 c.R, .int .i64 c.S] 29)
  have y3 := (y2.grow d3).alloc (.cells #[.int .i64 c.L, .int .i64 c.R, .int .i64 c.S] 29)
  have b3 := (Below.grown_trans b2 d3).alloc (Below.grown_trans b2 d3).size (.cells #[.int .i64 c.L, .int .i64 c.R, .int .i64 c.S] 29)
  clear hm c0 c1 c2 x2 y2 b2 d3
  go_wp2_with fail
  generalize w3.alloc (.cells #[.int .i64 c.L, .int .i64 c.R, .int .i64 c.S] 29) = w4 at *
  generalize w3.heap.size = cb at *
  refine (formatted_lit c [] (.slice none 0 0) _ hcok (SlR.nil _) (by decide) (by simp)).mono ?_
  rintro e w5 ⟨h, rfl, hd5, hlo, d5⟩
  have i5 := i3.grow d5
  have y5 := y3.grow d5
  have b5 := Below.grown_trans b3 d5
  have zc : cb < h.lo := Nat.lt_of_lt_of_le i3.lt hlo
  have zy : w.heap.size + 1 < h.lo := Nat.lt_of_lt_of_le y3.lt hlo
  clear i3 y3 b3 d5 hlo
  obtain ⟨c0, c1, c2⟩ := i5.c3
  go_upto_if 32 with (fail)
  go_cut [1, 2, 3] (fun s1 s2 s3 wx => ∃ W R u : Int, s1 = .int .i64 W ∧ s2 = .int .i64 R ∧ s3 = .int .u64 u ∧ (-9223372036854775808 ≤ W ∧ W ≤ 9223372036854775807) ∧ (-9223372036854775808 ≤ R ∧ R ≤ 9223372036854775807) ∧ U64 u ∧ Below w5.heap.size w5 wx)
  case first =>
    cases near with
    | false =>
      go_wp2_with fail
      go_meet
      exact ⟨words, refs, used, rfl, rfl, rfl, ⟨hw0, hw1⟩, ⟨hr0, hr1⟩, ⟨hu0, hu1⟩, Below.refl _ _⟩
    | true =>
      have G := GrW.c3 i5
      go_wp2_with fail
      refine wp_gr (by kernel_rfl) (by kernel_rfl) ?_
      repeat (go_big_quiet_step (fail))
      refine wpQuiet_nil ?_
      rintro w6 ⟨⟨_, hw6⟩, rfl⟩
      have m1 := tmod12 words
      have m2 := tmod12 refs
      have m3 : 0 ≤ used % (c.S + 3) ∧ used % (c.S + 3) < c.S + 3 := ⟨Int.emod_nonneg _ (by omega), Int.emod_lt_of_pos _ (by omega)⟩
      clear G
      generalize words.tmod 12 = W at *
      generalize refs.tmod 12 = R at *
      generalize used % (c.S + 3) = u at *
      go_wp2_with fail
      go_meet
      exact ⟨W, R, u, rfl, rfl, rfl, ⟨by omega, by omega⟩, ⟨by omega, by omega⟩, ⟨by omega, by omega⟩, hw6⟩
  case rest =>
    obtain ⟨W, R, u, rfl, rfl, rfl, ⟨hW0, hW1⟩, ⟨hR0, hR1⟩, ⟨hu0', hu1'⟩, d6⟩ := hcut
    have i6 := i5.grow d6
    have y6 := y5.grow d6
    have hd6 := hd5.grow d6
    have b6 := Below.grown_trans b5 d6
    clear c0 c1 c2 i5 y5 hd5 b5 d6 hw0 hw1 hr0 hr1 hu0 hu1
    obtain ⟨c0, c1, c2⟩ := i6.c3
    go_wp2_with fail
    refine (used_lit c _ hcok).mono ?_
    rintro e w7 ⟨rfl, d7⟩
    have i7 := i6.grow d7
    have y7 := y6.grow d7
    have hd7 := hd6.grow d7
    have b7 := Below.grown_trans b6 d7
    clear c0 c1 c2 i6 y6 hd6 b6 d7
    go_wp2_with fail
    have hlen := fmtD_len c []
    refine (store_lit h _ (c.act + 1) u _ hd7 (by omega) (by rw [hlen]; omega) ⟨hu0', hu1'⟩).mono ?_
    rintro e w8 ⟨rfl, hd8, lf8⟩
    have i8 := i7.left lf8 (by omega)
    have y8 := y7.left lf8 (by omega)
    have hlo : w.heap.size ≤ h.lo := by omega
    have b8 := b7.trans (lf8.below hlo b7.size)
    obtain ⟨sa, su⟩ := spD_a c u hcok
    have hlen2 : ((fmtD c []).store (c.act + 1) u).now.length = c.words.toNat := by rw [DevS.store_len, hlen]
    generalize (fmtD c []).store (c.act + 1) u = D at *
    have HL := Lib.hid hlen2
    have SA := Lib.hid sa
    have SU := Lib.hid su
    clear i7 y7 hd7 b7 lf8 hlen hlen2 sa su
    obtain ⟨c0, c1, c2⟩ := i8.c3
    have zi := i8.lt
    have zi2 : cb < w8.heap.size + 1 := by omega
    have zi3 : cb < w8.heap.size + 1 + 1 := by omega
    go_wp2_with fail
    have o1 : Below w8.heap.size w8 ((w8.alloc (.cells #[.int .i64 W, .int .i64 R] 66)).alloc (.cells #[.int .i64 0] 3)) := ((Below.refl _ _).alloc (Nat.le_refl _) _).alloc (by simp) _
    have o2 : Below w8.heap.size w8 (((w8.alloc (.cells #[.int .i64 W, .int .i64 R] 66)).alloc (.cells #[.int .i64 0] 3)).alloc (.cells #[.int .i64 0] 3)) := o1.alloc (by simp; omega) _
    have n9 := (Is.new (w8.alloc (.cells #[.int .i64 W, .int .i64 R] 66)) (.cells #[.int .i64 0] 3)).alloc (.cells #[.int .i64 0] 3)
    have f9 := Is.new ((w8.alloc (.cells #[.int .i64 W, .int .i64 R] 66)).alloc (.cells #[.int .i64 0] 3)) (.cells #[.int .i64 0] 3)
    rw [World.size_alloc] at n9 f9
    rw [World.size_alloc] at f9
    have i9 := i8.grow o2
    have y9 := y8.grow o2
    have hd9 := hd8.grow o2
    have b9 := Below.grown_trans b8 o2
    have htop := hd8.top
    have hlh := hd8.hok.r1
    have hb8 := b8.size
    clear c0 c1 c2 i8 y8 hd8 b8 o1 o2 zi zi2 zi3
    generalize ((w8.alloc (.cells #[.int .i64 W, .int .i64 R] 66)).alloc (.cells #[.int .i64 0] 3)).alloc (.cells #[.int .i64 0] 3) = w9 at *
    generalize w8.heap.size = pb at *
    have hj9 : SpJ h D (pb + 1) (pb + 1 + 1) (w.heap.size + 1) stop [] w9 := ⟨hd9, n9, f9, y9⟩
    clear n9 f9 y9
    by_cases hk : headOk W R
    · have hW : 0 ≤ W := hk.1
      have hW2 : W ≤ 64 := hk.2.1
      have hR : 0 ≤ R := hk.2.2.1
      have hRW : R ≤ W := hk.2.2.2
      by_cases hus : u ≤ c.S
      · by_cases hroom : u + (W + 1) ≤ c.S
        · have kg := alloc_go (stF_sp h D (pb + 1) (pb + 1 + 1) (w.heap.size + 1) stop c.words ⟨hs0, hs1⟩ (by omega) (by omega) (by omega) (by omega) (by omega)) 0 u W R w9 hj9 (fun k hk => by have := hj9.first.lt; omega) hcok hk SA.out SU.out (by decide) (by decide) hu0' hroom
          clear hk
          refine kg.mono ?_
          rintro e w10 hp
          obtain ⟨he1, he2⟩ := sp_end hW hs0 hp
          clear kg hp
          have hpbw : w.heap.size + 1 < pb := by omega
          by_cases hst : 1 + stop % 8 ≤ W + 2
          · obtain ⟨rfl, hE⟩ := he1 hst
            clear he1 he2
            have i10 := i9.lef hE.lef (by omega)
            have b10 := b9.trans (hE.lef.below (fun q hq => by omega) b9.size)
            have cn : w10.cell? ⟨pb + 1, 0, none⟩ = some (.int .i64 (1 + stop % 8)) := by rw [hE.n.cell]; rfl
            have cf : w10.cell? ⟨pb + 1 + 1, 0, none⟩ = some (.int .i64 (c.act + 1)) := by rw [hE.first.cell]; rfl
            have cst : w10.cell? ⟨w.heap.size + 1, 0, none⟩ = some (.int .u8 stop) := by rw [hE.stop.cell]; rfl
            clear hj9 i9 hd9 b9 hE
            obtain ⟨c0, c1, c2⟩ := i10.c3
            have G := GrW.c3 i10
            have GN := GrW.cell cn
            have GF := GrW.cell cf
            have GS := GrW.cell cst
            have q0 : 0 ≤ stop % 8 := by omega
            have q1 : stop % 8 < 8 := by omega
            go_wp2_with fail
            refine wp_gr (by kernel_rfl) (by kernel_rfl) ?_
            repeat (go_big_quiet_step (first | (go_at_call 38; with_reducible exact gr_call (used_lit c _ hcok))))
            refine wpQuiet_nil ?_
            rintro w11 ⟨⟨_, hw11⟩, rfl⟩
            have b11 := Below.grown_trans b10 hw11
            clear G GN GF GS cn cf cst c0 c1 c2 i10 b10 hw11
            go_wp2_with fail
            go_ret
            exact ⟨rfl, b11⟩
          · have hst2 : W + 2 < 1 + stop % 8 := by omega
            obtain ⟨rfl, hE⟩ := he2 hst2
            clear he1 he2 hst
            have i10 := i9.lef hE.lef (by omega)
            have b10 := b9.trans (hE.lef.below (fun q hq => by omega) b9.size)
            have cn : w10.cell? ⟨pb + 1, 0, none⟩ = some (.int .i64 (W + 2)) := by rw [hE.n.cell]; rfl
            have cf : w10.cell? ⟨pb + 1 + 1, 0, none⟩ = some (.int .i64 (c.act + 1)) := by rw [hE.first.cell]; rfl
            have cst : w10.cell? ⟨w.heap.size + 1, 0, none⟩ = some (.int .u8 stop) := by rw [hE.stop.cell]; rfl
            clear hj9 i9 hd9 b9 hE
            obtain ⟨c0, c1, c2⟩ := i10.c3
            have G := GrW.c3 i10
            have GN := GrW.cell cn
            have GF := GrW.cell cf
            have GS := GrW.cell cst
            have q0 : 0 ≤ stop % 8 := by omega
            have q1 : stop % 8 < 8 := by omega
            obtain ⟨fb0, fb1, fb2⟩ := Cf.fr_bd hcok 0 (by decide) (by decide)
            have fb3 : 0 ≤ c.fr 0 := by omega
            go_wp2_with fail
            refine wp_gr (by kernel_rfl) (by kernel_rfl) ?_
            repeat (go_big_quiet_step (first | (go_at_call 38; with_reducible exact gr_call (used_lit c _ hcok)) | (go_at_call 47; with_reducible exact gr_call (from_lit c 0 _ hcok (by decide) (by decide)))))
            refine wpQuiet_nil ?_
            rintro w11 ⟨⟨_, hw11⟩, rfl⟩
            have b11 := Below.grown_trans b10 hw11
            clear G GN GF GS cn cf cst c0 c1 c2 i10 b10 hw11
            go_wp2_with fail
            go_ret
            exact ⟨rfl, b11⟩
        · have kg := alloc_space h D c 0 u W R 46 #[] #[.pointer (some ⟨pb + 1, 0, none⟩), .pointer (some ⟨pb + 1 + 1, 0, none⟩), .pointer (some ⟨w.heap.size + 1, 0, none⟩)] w9 hd9 hcok hk SA.out SU.out (by decide) (by decide) hu0' hus (by omega)
          clear hk
          refine kg.mono ?_
          rintro e w10 ⟨rfl, d10⟩
          have hj10 := hj9.grow d10
          have i10 := i9.grow d10
          have b10 := Below.grown_trans b9 d10
          clear kg hj9 i9 hd9 b9 d10
          have cn : w10.cell? ⟨pb + 1, 0, none⟩ = some (.int .i64 0) := by rw [hj10.n.cell]; rfl
          obtain ⟨c0, c1, c2⟩ := i10.c3
          go_wp2_with fail
          go_ret
          exact ⟨rfl, b10⟩
      · have kg := alloc_used h D c 0 u W R 46 #[] #[.pointer (some ⟨pb + 1, 0, none⟩), .pointer (some ⟨pb + 1 + 1, 0, none⟩), .pointer (some ⟨w.heap.size + 1, 0, none⟩)] w9 hd9 hcok hk SA.out SU.out (by decide) hu0' (.inr (by omega))
        clear hk
        refine kg.mono ?_
        rintro e w10 ⟨rfl, d10⟩
        have hj10 := hj9.grow d10
        have i10 := i9.grow d10
        have b10 := Below.grown_trans b9 d10
        clear kg hj9 i9 hd9 b9 d10
        have cn : w10.cell? ⟨pb + 1, 0, none⟩ = some (.int .i64 0) := by rw [hj10.n.cell]; rfl
        obtain ⟨c0, c1, c2⟩ := i10.c3
        go_wp2_with fail
        go_ret
        exact ⟨rfl, b10⟩
    · have kg := alloc_kind h c W R 46 #[] #[.pointer (some ⟨pb + 1, 0, none⟩), .pointer (some ⟨pb + 1 + 1, 0, none⟩), .pointer (some ⟨w.heap.size + 1, 0, none⟩)] w9 hk
      have hbad : W < 0 ∨ (0 ≤ W ∧ 64 < W) ∨ (0 ≤ W ∧ W ≤ 64 ∧ R < 0) ∨ (0 ≤ W ∧ W ≤ 64 ∧ 0 ≤ R ∧ W < R) := by unfold headOk at hk; omega
      clear hk
      refine kg.mono ?_
      rintro e w10 ⟨rfl, d10⟩
      have hj10 := hj9.grow d10
      have i10 := i9.grow d10
      have b10 := Below.grown_trans b9 d10
      clear kg hj9 i9 hd9 b9 d10
      have cn : w10.cell? ⟨pb + 1, 0, none⟩ = some (.int .i64 0) := by rw [hj10.n.cell]; rfl
      obtain ⟨c0, c1, c2⟩ := i10.c3
      rcases hbad with q1 | ⟨q1, q2⟩ | ⟨q1, q2, q3⟩ | ⟨q1, q2, q3, q4⟩
      all_goals
        go_wp2_with fail
        go_ret
        exact ⟨rfl, b10⟩
end Go.Proofs.Ytpecgfpofihibaa
