/-
  tumuluslaw10.ObjectOf: the walk.
-/
import Derived.Test.YtpecgfpofihibaaAw10
import Derived.Deep.DeepCutAuto
namespace Go.Proofs.Ytpecgfpofihibaa
open Go Go.RowKit Go.MapKept Go.Shelf

theorem bits_or_u64 (x y : Int) : U64 (Go.bits .or .u64 x y) := by
  show U64 (IntKind.u64.wrap _)
  rw [IntKind.wrap_u64]
  exact ⟨Int.emod_nonneg _ (by decide), Int.emod_lt_of_pos _ (by decide)⟩

theorem wrap64_bd (x : Int) : -9223372036854775808 ≤ wrap64 x ∧ wrap64 x ≤ 9223372036854775807 := by unfold wrap64; omega

/-- What is known of a device in which words of a space are set. -/
structure LowD (c : Cf) (D : DevS) : Prop where
  len : (D.now.length : Int) = c.words
  a : D.at c.act.toNat = 0

theorem LowD.start (c : Cf) (hc : c.ok) : LowD c (fmtD c []) := by
  obtain ⟨na0, na1, nf0, nf1, ns0, ns1, nw, nw0, nw1, nr0, nr1, nsp0, nsp1⟩ := hc.nums
  have hl := fmtD_len c []
  exact ⟨by omega, fmt0_at c hc _ (by omega) (by omega)⟩
theorem LowD.store {c : Cf} {D : DevS} (h : LowD c D) (hc : c.ok) (i v : Int) (h0 : c.act < i) (h1 : i < c.words) : LowD c (D.store i v) := by
  obtain ⟨na0, na1, nf0, nf1, ns0, ns1, nw, nw0, nw1, nr0, nr1, nsp0, nsp1⟩ := hc.nums
  refine ⟨by rw [DevS.store_len]; exact h.len, ?_⟩
  rw [DevS.at_store _ _ _ _ (by have := h.len; omega), if_neg (by omega)]
  exact h.a

set_option maxRecDepth 100000 in
set_option maxHeartbeats 8000000 in
theorem oof_walk (cl cr cs : Int) (words : List Int) (wv : Value) (used at0 : Int) (near heads : Bool) (w : World) (h1 : 0 ≤ cl ∧ cl < 65536) (h2 : 0 ≤ cr ∧ cr < 65536) (h3 : 0 ≤ cs ∧ cs < 65536)
    (hwv : SlR w wv words) (hwf : ∀ x ∈ words, U64 x) (hu : 0 ≤ used ∧ used < 65536) (ha : -9223372036854775808 ≤ at0 ∧ at0 ≤ 9223372036854775807) :
    Calls Try.prog 7 #[.agg #[.int .u16 cl, .int .u16 cr, .int .u16 cs], wv, .int .u16 used, .int .i64 at0, .bool near, .bool heads] w fun e w' => e = .returned (.bool true) ∧ Below w.heap.size w w' := by
  obtain ⟨wa, wcap, rfl, hwc⟩ := id hwv
  have x1 := Is.new w (.cells #[.int .u16 cl, .int .u16 cr, .int .u16 cs] 24)
  have b1 : Below w.heap.size w (w.alloc (.cells #[.int .u16 cl, .int .u16 cr, .int .u16 cs] 24)) := (Below.refl _ _).alloc (Nat.le_refl _) _
  have hcok := mkc_ok cl cr cs
  have hm := fun w => make_lit cl cr cs w h1 h2 h3
  generalize mkc cl cr cs = c at *
  obtain ⟨hu0, hu1⟩ := hu
  obtain ⟨ha0, ha1⟩ := ha
  obtain ⟨na0, na1, nf0, nf1, ns0, ns1, nw, nw0, nw1, nr0, nr1, nsp0, nsp1⟩ := hcok.nums
  obtain ⟨fb0, fb1, fb2⟩ := Cf.fr_bd hcok 0 (by decide) (by decide)
  have fb3 : 0 ≤ c.fr 0 := by omega
  have nw2 : c.fr0 + 2 * ln c.S ≤ c.words := by omega
  have HWF := Lib.hid hwf
  clear nw hwf
  go_enter Try.func7, Try.ntmps7
  go_wp2_with fail
  generalize w.alloc (.cells #[.int .u16 cl, .int .u16 cr, .int .u16 cs] 24) = w1 at *
  refine (awake10 _).mono ?_
  rintro e w2 ⟨rfl, d2⟩
  have x2 := x1.grow d2
  have b2 := Below.grown_trans b1 d2
  clear x1 b1 d2
  obtain ⟨c0, c1, c2⟩ := x2.c3
  by_cases hlen : words.length ≤ 40
  · go_wp2_with fail
    refine (hm _).mono ?_
    rintro e w3 ⟨rfl, d3⟩
    have i3 := Is.new w3 (.cells #[.int .i64 c.L, .int .i64 c.R, .int .i64 c.S] 29)
    have b3 := (Below.grown_trans b2 d3).alloc (Below.grown_trans b2 d3).size (.cells #[.int .i64 c.L, .int .i64 c.R, .int .i64 c.S] 29)
    clear hm c0 c1 c2 x2 b2 d3
    go_wp2_with fail
    generalize w3.alloc (.cells #[.int .i64 c.L, .int .i64 c.R, .int .i64 c.S] 29) = w4 at *
    generalize w3.heap.size = cb at *
    refine (formatted_lit c [] (.slice none 0 0) _ hcok (SlR.nil _) (by decide) (by simp)).mono ?_
    rintro e w5 ⟨h, rfl, hd5, hlo, d5⟩
    have i5 := i3.grow d5
    have b5 := Below.grown_trans b3 d5
    have zc : cb < h.lo := Nat.lt_of_lt_of_le i3.lt hlo
    have hlo2 : w.heap.size ≤ h.lo := Nat.le_trans b3.size hlo
    have hlow := LowD.start c hcok
    clear i3 b3 d5 hlo
    go_wp2_with fail
    go_loopw [41] (fun i wr => ∃ (k : Nat) (D : DevS), k ≤ words.length ∧ i = .int .i64 k ∧ Dev wr h D ∧ LowD c D ∧ Is wr cb (.cells #[.int .i64 c.L, .int .i64 c.R, .int .i64 c.S] 29 (0, 0)) ∧ Below w.heap.size w wr)
      (fun i _ => words.length - (intOf i).toNat)
    case atStart => exact ⟨0, _, by omega, rfl, hd5, hlow, i5, b5⟩
    case round =>
      obtain ⟨k, D, hk, rfl, hdr, hL, ir, br⟩ := hrel
      clear hd5 hlow i5 b5
      by_cases hlt : k < words.length
      · obtain ⟨sb, so, rfl, hbl, hce⟩ : ∃ sb so, wa = some ⟨sb, so, none⟩ ∧ sb < w.heap.size ∧ w.cell? ⟨sb, so + k, none⟩ = some (.int .u64 words[k]) := by
          rcases hwc with h0 | ⟨b, o, q1, q2, q3⟩
          · rw [h0] at hlt; exact absurd hlt (Nat.not_lt_zero _)
          · exact ⟨b, o, q1, q2, q3 k hlt⟩
        have hxu := HWF.out words[k] (List.getElem_mem _)
        have ce0 : wr.cell? ⟨sb, so + k, none⟩ = some (.int .u64 words[k]) := (br.cell (p := ⟨sb, so + k, none⟩) hbl).trans hce
        clear hce
        generalize words[k] = x at *
        obtain ⟨hx0, hx1⟩ := hxu
        go_upto_if 46 with (fail)
        go_cut [17] (fun s17 wx => ∃ x' : Int, s17 = .int .u64 x' ∧ U64 x' ∧ wx = wr)
        case first =>
          cases heads with
          | false =>
            go_wp2_with fail
            go_meet
            exact ⟨x, rfl, ⟨hx0, hx1⟩, rfl⟩
          | true =>
            have hz := bits_or_u64 (Go.bits .or .u64 12754194144713244672 (x % 3 * 4294967296)) (x / 256 % 9)
            go_wp2_with fail
            go_meet
            exact ⟨_, rfl, hz, rfl⟩
        case rest =>
          obtain ⟨x', rfl, ⟨hy0, hy1⟩, rfl⟩ := hcut
          have G := GrW.c3 ir
          have hm1 : 0 ≤ (k : Int) % c.S ∧ (k : Int) % c.S < c.S := ⟨Int.emod_nonneg _ (by omega), Int.emod_lt_of_pos _ (by omega)⟩
          have kst := fun W hd => store_lit h D (c.fr 0 + (k : Int) % c.S) x' W hd (by omega) (by have := hL.len; omega) ⟨hy0, hy1⟩
          have hL2 := hL.store hcok (c.fr 0 + (k : Int) % c.S) x' (by omega) (by omega)
          obtain ⟨hm2, hm3⟩ := hm1
          clear ce0
          go_wp2_with fail
          refine wp_gr_tail 9 (by kernel_rfl) (by kernel_rfl) ?_
          simp only [List.take_succ_cons, List.take_zero, List.drop_succ_cons, List.drop_zero]
          repeat (go_big_quiet_step (first | (go_at_call 47; with_reducible exact gr_call (from_lit c 0 _ hcok (by decide) (by decide)))))
          refine wpQuiet_nil ?_
          rintro w7 ⟨⟨_, hw7⟩, rfl⟩
          have hd7 := hdr.grow hw7
          have i7 := ir.grow hw7
          have b7 := Below.grown_trans br hw7
          clear G hdr ir br hw7
          go_wp2_with fail
          refine (kst _ hd7).mono ?_
          rintro e w8 ⟨rfl, hd8, lf8⟩
          have i8 := i7.left lf8 (by omega)
          have b8 := b7.trans (lf8.below hlo2 b7.size)
          clear kst hd7 i7 b7 lf8 hL
          go_wp2_with fail
          go_roundw
          case rel => exact ⟨k + 1, _, by omega, by go_num, hd8, hL2, i8, b8⟩
          case measure => simp [intOf]; omega
      · obtain rfl : k = words.length := by omega
        clear hlt hk hwv hwc
        have hm1 : 0 ≤ used % (c.S + 1) ∧ used % (c.S + 1) < c.S + 1 := ⟨Int.emod_nonneg _ (by omega), Int.emod_lt_of_pos _ (by omega)⟩
        have kst := fun W hd => store_lit h D (c.act + 1) (used % (c.S + 1)) W hd (by omega) (by have := hL.len; omega) ⟨by omega, by omega⟩
        have hL2 := hL.store hcok (c.act + 1) (used % (c.S + 1)) (by omega) (by omega)
        have hu2 : (D.store (c.act + 1) (used % (c.S + 1))).at (c.act.toNat + 1) = used % (c.S + 1) := by
          rw [DevS.at_store _ _ _ _ (by have := hL.len; omega), if_pos (by omega)]
        obtain ⟨hm2, hm3⟩ := hm1
        have G := GrW.c3 ir
        go_wp2_with fail
        refine wp_gr_tail 10 (by kernel_rfl) (by kernel_rfl) ?_
        simp only [List.take_succ_cons, List.take_zero, List.drop_succ_cons, List.drop_zero]
        repeat (go_big_quiet_step (first | (go_at_call 38; with_reducible exact gr_call (used_lit c _ hcok))))
        refine wpQuiet_nil ?_
        rintro w7 ⟨⟨_, hw7⟩, rfl⟩
        have hd7 := hdr.grow hw7
        have i7 := ir.grow hw7
        have b7 := Below.grown_trans br hw7
        clear G hdr ir br hw7
        go_wp2_with fail
        refine (kst _ hd7).mono ?_
        rintro e w8 ⟨rfl, hd8, lf8⟩
        have i8 := i7.left lf8 (by omega)
        have b8 := b7.trans (lf8.below hlo2 b7.size)
        clear kst hd7 i7 b7 lf8 hL
        have hu2' := Lib.hid hu2
        clear hu2
        generalize D.store (c.act + 1) (used % (c.S + 1)) = D2 at *
        have kr := fun W hd => rread_any h D2 c 0 (used % (c.S + 1)) W hd hcok hL2.a hu2'.out (by decide) (by decide) hm2 (by omega)
        obtain ⟨c0, c1, c2⟩ := i8.c3
        go_wp2_with fail
        refine (kr _ hd8).mono ?_
        rintro e w9 ⟨ra, rn, rc, rfl, ownR, d9⟩
        have bz : Below w8.heap.size w8 (w9.alloc (.cells #[.int .i64 0, .int .i64 (used % (c.S + 1)), .slice ra rn rc] 57)) := d9.alloc d9.size _
        have i9 := i8.grow bz
        have n9 := Is.new w9 (.cells #[.int .i64 0, .int .i64 (used % (c.S + 1)), .slice ra rn rc] 57)
        have hd9 := hd8.grow bz
        have b9 := Below.grown_trans b8 bz
        clear kr c0 c1 c2 i8 hd8 b8 bz d9 ownR
        go_wp2_with fail
        generalize w9.alloc (.cells #[.int .i64 0, .int .i64 (used % (c.S + 1)), .slice ra rn rc] 57) = w10 at *
        generalize w9.heap.size = bb at *
        have G := GrW.c3 i9
        have GB := GrW.c3 n9
        refine wp_gr (by kernel_rfl) (by kernel_rfl) ?_
        repeat (go_big_quiet_step (fail))
        refine wpQuiet_nil ?_
        rintro w11 ⟨⟨_, hw11⟩, rfl⟩
        have hd11 := hd9.grow hw11
        have i11 := i9.grow hw11
        have n11 := n9.grow hw11
        have b11 := Below.grown_trans b9 hw11
        clear G GB hd9 i9 n9 b9 hw11
        have hu3 : c.fr 0 + used % (c.S + 1) ≤ 20000 := by omega
        generalize used % (c.S + 1) = u at *
        go_upto_if 96 with (fail)
        go_cut [3] (fun s3 wx => ∃ at' : Int, s3 = .int .i64 at' ∧ (-9223372036854775808 ≤ at' ∧ at' ≤ 9223372036854775807) ∧ Below w11.heap.size w11 wx)
        case first =>
          cases near with
          | false =>
            go_wp2_with fail
            go_meet
            exact ⟨at0, rfl, ⟨ha0, ha1⟩, Below.refl _ _⟩
          | true =>
            have G := GrW.c3 i11
            go_wp2_with fail
            refine wp_gr (by kernel_rfl) (by kernel_rfl) ?_
            repeat (go_big_quiet_step (first | (go_at_call 47; with_reducible exact gr_call (from_lit c 0 _ hcok (by decide) (by decide)))))
            refine wpQuiet_nil ?_
            rintro w12 ⟨⟨_, hw12⟩, rfl⟩
            clear G
            have hb := wrap64_bd (c.fr 0 - 2 + wrap64 ((IntKind.u64.wrap at0).tmod (c.S + 4)))
            generalize wrap64 (c.fr 0 - 2 + wrap64 ((IntKind.u64.wrap at0).tmod (c.S + 4))) = at' at *
            go_wp2_with fail
            go_meet
            exact ⟨at', rfl, hb, hw12⟩
        case rest =>
          obtain ⟨at', rfl, ⟨q0, q1⟩, d12⟩ := hcut
          have i12 := i11.grow d12
          have n12 := n11.grow d12
          have hd12 := hd11.grow d12
          have b12 := Below.grown_trans b11 d12
          clear i11 n11 hd11 b11 d12 ha0 ha1
          have heq : ∀ w, (binOp .eql 81 (.agg #[.int .i64 0, .int .i64 0, .int .i64 0]) (.agg #[.int .i64 0, .int .i64 0, .int .i64 0])).run Try.prog w = .ok (.bool true) w := fun w => by kernel_rfl
          obtain ⟨c0, c1, c2⟩ := i12.c3
          obtain ⟨c3, c4, c5⟩ := n12.c3
          by_cases hin : 0 ≤ at' ∧ hasB c 0 u at' = true
          · obtain ⟨hat, hin⟩ := hin
            obtain ⟨hin1, hin2⟩ := hasB_iff.1 hin
            have hxu : U64 (D2.at at'.toNat) := by have := rd_wf hd12.dok.wn at'; rw [rd_at _ _ hat] at this; exact this
            have kl := fun w hd => load_at h D2 at' w hd hat
            generalize hx : D2.at at'.toNat = x at *
            have HX := Lib.hid hx
            clear hx heq
            by_cases hok : isHead x ∧ unW x + 1 ≤ c.fr 0 + u - at'
            · obtain ⟨hh, hfit⟩ := hok
              have ko := fun w hd => of_ok h D2 c 0 u at' x ra rn rc w hd hcok (by decide) (by decide) hm2 (by omega) hat hin HX.out hxu hh hfit
              obtain ⟨⟨hW0, hW1, hR0, hR1⟩, h177⟩ := hh
              have a1 := unR_and x hxu
              have a2 : Go.bits .and .u64 x 4294967295 = unW x := bits_and_low x 32 (by decide) hxu.1 hxu.2
              have A1 := Lib.hid a1
              have A2 := Lib.hid a2
              have H177 := Lib.hid h177
              obtain ⟨hxu0, hxu1⟩ := hxu
              clear a1 a2 h177 hin
              go_wp2_with fail
              refine (ko _ hd12).mono ?_
              rintro e w13 ⟨rfl, d13⟩
              have bz : Below wc.heap.size wc (w13.alloc (.cells #[.int .i64 (unW x), .int .i64 (unR x), .int .i64 at'] 81)) := d13.alloc d13.size _
              have i14 := i12.grow bz
              have n14 := n12.grow bz
              have hd14 := hd12.grow bz
              have o14 := Is.new w13 (.cells #[.int .i64 (unW x), .int .i64 (unR x), .int .i64 at'] 81)
              have b14 := Below.grown_trans b12 bz
              clear c0 c1 c2 c3 c4 c5 i12 n12 hd12 b12 bz d13
              go_wp2_with fail
              generalize w13.alloc (.cells #[.int .i64 (unW x), .int .i64 (unR x), .int .i64 at'] 81) = w14 at *
              generalize w13.heap.size = ob at *
              have G := GrW.c3 i14
              have GB := GrW.c3 n14
              refine wp_gr (by kernel_rfl) (by kernel_rfl) ?_
              repeat (go_big_quiet_step (first | (go_at_call 47; with_reducible exact gr_call (from_lit c 0 _ hcok (by decide) (by decide)))))
              refine wpQuiet_nil ?_
              rintro w15 ⟨⟨_, hw15⟩, rfl⟩
              have i15 := i14.grow hw15
              have o15 := o14.grow hw15
              have hd15 := hd14.grow hw15
              have b15 := Below.grown_trans b14 hw15
              clear G GB i14 n14 hd14 o14 b14 hw15
              obtain ⟨c0, c1, c2⟩ := i15.c3
              go_wp2_with fail
              refine (from_lit c 0 _ hcok (by decide) (by decide)).mono ?_
              rintro e w16 ⟨rfl, d16⟩
              have o16 := o15.grow d16
              have hd16 := hd15.grow d16
              have b16 := Below.grown_trans b15 d16
              clear c0 c1 c2 i15 o15 hd15 b15 d16
              obtain ⟨p0, p1, p2⟩ := Is.c3 o16
              go_wp2_with fail
              refine (kl _ hd16).mono ?_
              rintro e w17 ⟨rfl, rfl⟩
              clear kl ko
              go_upto_region 28 with (fail)
              rw [A1.out, A2.out]
              have hb177 : (x / 72057594037927936 != 177) = false := by rw [H177.out]; rfl
              have hu64 : 0 ≤ x / 72057594037927936 := by omega
              clear A1 A2 H177
              generalize unW x = W at *
              generalize unR x = R at *
              go_wp2_with fail
              go_ret
              exact ⟨rfl, b16⟩
            · have hbad : ¬ isHead x ∨ (isHead x ∧ c.fr 0 + u - at' < unW x + 1) := by
                by_cases hh : isHead x
                · exact .inr ⟨hh, by have : ¬ unW x + 1 ≤ c.fr 0 + u - at' := fun h => hok ⟨hh, h⟩; omega⟩
                · exact .inl hh
              have ko := fun w hd => of_head h D2 c 0 u at' x ra rn rc w hd hcok (by decide) (by decide) hm2 (by omega) hat hin HX.out hxu hbad
              have hW0 : 0 ≤ unW x := by have := hxu.1; unfold unW; omega
              have hW1 : unW x < 4294967296 := by unfold unW; omega
              have hR0 : 0 ≤ unR x := by have := hxu.1; unfold unR; omega
              have hR1 : unR x < 16777216 := by unfold unR; omega
              have a1 := unR_and x hxu
              have a2 : Go.bits .and .u64 x 4294967295 = unW x := bits_and_low x 32 (by decide) hxu.1 hxu.2
              have hway : (x / 72057594037927936 != 177) = true ∨ ((x / 72057594037927936 != 177) = false ∧ 64 < unW x) ∨ ((x / 72057594037927936 != 177) = false ∧ unW x ≤ 64 ∧ unW x < unR x) ∨ ((x / 72057594037927936 != 177) = false ∧ unW x ≤ 64 ∧ unR x ≤ unW x ∧ c.fr 0 + u < at' + 1 + unW x) := by
                by_cases h177 : x / 72057594037927936 = 177
                · have hf : (x / 72057594037927936 != 177) = false := by rw [h177]; rfl
                  right
                  rw [hf]
                  simp only [true_and, eq_self]
                  rcases hbad with hb | ⟨_, hb⟩
                  · have hno : ¬ headOk (unW x) (unR x) := fun h => hb ⟨h, h177⟩
                    unfold headOk at hno
                    omega
                  · omega
                · exact .inl (by simpa using h177)
              have A1 := Lib.hid a1
              have A2 := Lib.hid a2
              have HWAY := Lib.hid hway
              obtain ⟨hxu0, hxu1⟩ := hxu
              have heq : ∀ w, (binOp .eql 81 (.agg #[.int .i64 0, .int .i64 0, .int .i64 0]) (.agg #[.int .i64 0, .int .i64 0, .int .i64 0])).run Try.prog w = .ok (.bool true) w := fun w => by kernel_rfl
              clear a1 a2 hway hin hbad hok
              go_wp2_with fail
              refine (ko _ hd12).mono ?_
              rintro e w13 ⟨rfl, d13⟩
              have bz : Below wc.heap.size wc (w13.alloc (.cells #[.int .i64 0, .int .i64 0, .int .i64 0] 81)) := d13.alloc d13.size _
              have i14 := i12.grow bz
              have n14 := n12.grow bz
              have hd14 := hd12.grow bz
              have o14 := Is.new w13 (.cells #[.int .i64 0, .int .i64 0, .int .i64 0] 81)
              have b14 := Below.grown_trans b12 bz
              clear c0 c1 c2 c3 c4 c5 i12 n12 hd12 b12 bz d13
              go_wp2_with fail
              generalize w13.alloc (.cells #[.int .i64 0, .int .i64 0, .int .i64 0] 81) = w14 at *
              generalize w13.heap.size = ob at *
              have G := GrW.c3 i14
              have GB := GrW.c3 n14
              refine wp_gr (by kernel_rfl) (by kernel_rfl) ?_
              repeat (go_big_quiet_step (first | (go_at_call 47; with_reducible exact gr_call (from_lit c 0 _ hcok (by decide) (by decide)))))
              refine wpQuiet_nil ?_
              rintro w15 ⟨⟨_, hw15⟩, rfl⟩
              have i15 := i14.grow hw15
              have o15 := o14.grow hw15
              have hd15 := hd14.grow hw15
              have b15 := Below.grown_trans b14 hw15
              clear G GB i14 n14 hd14 o14 b14 hw15
              obtain ⟨c0, c1, c2⟩ := i15.c3
              go_wp2_with fail
              refine (from_lit c 0 _ hcok (by decide) (by decide)).mono ?_
              rintro e w16 ⟨rfl, d16⟩
              have o16 := o15.grow d16
              have hd16 := hd15.grow d16
              have b16 := Below.grown_trans b15 d16
              clear c0 c1 c2 i15 o15 hd15 b15 d16
              obtain ⟨p0, p1, p2⟩ := Is.c3 o16
              go_wp2_with fail
              refine (kl _ hd16).mono ?_
              rintro e w17 ⟨rfl, rfl⟩
              clear kl ko
              go_upto_region 28 with (fail)
              rw [A1.out, A2.out]
              have hway := HWAY.out
              clear A1 A2 HWAY HX
              have hu64 : 0 ≤ x / 72057594037927936 := by omega
              generalize unW x = W at *
              generalize unR x = R at *
              rcases hway with hw | ⟨hw, hw2⟩ | ⟨hw, hw2, hw3⟩ | ⟨hw, hw2, hw3, hw4⟩
              all_goals
                go_wp2_with fail
                go_ret
                exact ⟨rfl, b16⟩
          · have ko := fun w => of_none h c 0 u at' ra rn rc w hcok (by decide) (by decide) hm2 (by omega) q1 (by
              by_cases h0 : at' < 0
              · exact .inl h0
              · right
                cases hh : hasB c 0 u at' with
                | false => rfl
                | true => exact absurd ⟨by omega, hh⟩ hin)
            have hway : at' < c.fr 0 ∨ (c.fr 0 ≤ at' ∧ c.fr 0 + u ≤ at') := by
              by_cases h0 : at' < c.fr 0
              · exact .inl h0
              · right
                refine ⟨by omega, ?_⟩
                by_cases h1 : c.fr 0 + u ≤ at'
                · exact h1
                · exact absurd ⟨by omega, hasB_iff.2 ⟨by omega, by omega⟩⟩ hin
            have HWAY := Lib.hid hway
            clear hin hway
            go_wp2_with fail
            refine (ko _).mono ?_
            rintro e w13 ⟨rfl, d13⟩
            have bz : Below wc.heap.size wc (w13.alloc (.cells #[.int .i64 0, .int .i64 0, .int .i64 0] 81)) := d13.alloc d13.size _
            have i14 := i12.grow bz
            have n14 := n12.grow bz
            have hd14 := hd12.grow bz
            have o14 := Is.new w13 (.cells #[.int .i64 0, .int .i64 0, .int .i64 0] 81)
            have b14 := Below.grown_trans b12 bz
            clear c0 c1 c2 c3 c4 c5 i12 n12 hd12 b12 bz d13
            go_wp2_with fail
            generalize w13.alloc (.cells #[.int .i64 0, .int .i64 0, .int .i64 0] 81) = w14 at *
            generalize w13.heap.size = ob at *
            have G := GrW.c3 i14
            have GB := GrW.c3 n14
            refine wp_gr (by kernel_rfl) (by kernel_rfl) ?_
            repeat (go_big_quiet_step (first | (go_at_call 47; with_reducible exact gr_call (from_lit c 0 _ hcok (by decide) (by decide)))))
            refine wpQuiet_nil ?_
            rintro w15 ⟨⟨_, hw15⟩, rfl⟩
            have i15 := i14.grow hw15
            have o15 := o14.grow hw15
            have hd15 := hd14.grow hw15
            have b15 := Below.grown_trans b14 hw15
            clear G GB i14 n14 hd14 o14 b14 hw15
            obtain ⟨c0, c1, c2⟩ := i15.c3
            go_wp2_with fail
            refine (from_lit c 0 _ hcok (by decide) (by decide)).mono ?_
            rintro e w16 ⟨rfl, d16⟩
            have o16 := o15.grow d16
            have hd16 := hd15.grow d16
            have b16 := Below.grown_trans b15 d16
            clear c0 c1 c2 i15 o15 hd15 b15 d16
            obtain ⟨p0, p1, p2⟩ := Is.c3 o16
            have hway := HWAY.out
            rcases hway with hw | ⟨hw, hw2⟩
            all_goals
              go_wp2_with fail
              go_ret
              exact ⟨rfl, b16⟩
  · go_wp2_with fail
    go_ret
    exact ⟨rfl, b2⟩
end Go.Proofs.Ytpecgfpofihibaa
