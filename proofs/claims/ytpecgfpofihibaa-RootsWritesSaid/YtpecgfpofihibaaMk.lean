/-
  tumuluslaw03.Make; tumuluslaw06's place, behind; slices.Equal.
-/
import Derived.Test.YtpecgfpofihibaaApp
namespace Go.Proofs.Ytpecgfpofihibaa
open Go Go.RowKit Go.MapKept

/-- The config that Make makes. -/
def mkc (l r s : Int) : Cf := ⟨1 + r % 6 + 2 + l % 12, 1 + r % 6, 8 + s % 90⟩

theorem mkc_ok (l r s : Int) : (mkc l r s).ok := by
  unfold mkc
  constructor <;> simp only <;> omega

set_option maxHeartbeats 1000000 in
theorem make_any (l r s : Int) (w : World) (h1 : 0 ≤ l ∧ l < 65536) (h2 : 0 ≤ r ∧ r < 65536) (h3 : 0 ≤ s ∧ s < 65536) :
    Calls Try.prog 20 #[.agg #[.int .u16 l, .int .u16 r, .int .u16 s]] w fun e w' => e = .returned (mkc l r s).val ∧ Below w.heap.size w w' := by
  obtain ⟨l0, l1⟩ := h1
  obtain ⟨r0, r1⟩ := h2
  obtain ⟨s0, s1⟩ := h3
  unfold Cf.val mkc
  simp only
  have i1 := (Is.new w (.cells #[.int .u16 l, .int .u16 r, .int .u16 s] 24)).alloc (.cells #[.int .i64 0, .int .i64 0, .int .i64 0] 29)
  have i2 := Is.new (w.alloc (.cells #[.int .u16 l, .int .u16 r, .int .u16 s] 24)) (.cells #[.int .i64 0, .int .i64 0, .int .i64 0] 29)
  rw [World.size_alloc] at i2
  have b1 : Below w.heap.size w ((w.alloc (.cells #[.int .u16 l, .int .u16 r, .int .u16 s] 24)).alloc (.cells #[.int .i64 0, .int .i64 0, .int .i64 0] 29)) := ((Below.refl _ _).alloc (Nat.le_refl _) _).alloc (by simp) _
  go_enter Try.func20, Try.ntmps20
  have i3 := Is.new (w.alloc (.cells #[.int .u16 l, .int .u16 r, .int .u16 s] 24)) (.cells #[.int .i64 (1 + r % 6 + 2 + l % 12), .int .i64 (1 + r % 6), .int .i64 (8 + s % 90)] 29)
  rw [World.size_alloc] at i3
  have b3 : Below w.heap.size w ((w.alloc (.cells #[.int .u16 l, .int .u16 r, .int .u16 s] 24)).alloc (.cells #[.int .i64 (1 + r % 6 + 2 + l % 12), .int .i64 (1 + r % 6), .int .i64 (8 + s % 90)] 29)) := ((Below.refl _ _).alloc (Nat.le_refl _) _).alloc (by simp) _
  go_wp2
  ((try simp only [Exit.inBlock, Exit.then]); refine bodyPost_ret (results_cell_row rfl _ _ _ _ _ _ _ rfl i3 Try.underlying29 rfl (by kernel_rfl)) rfl ?_)
  exact ⟨rfl, b3⟩

set_option maxHeartbeats 1000000 in
theorem place_any (c : Cf) (at' v : Int) (w : World) (hc : c.ok) (h1 : 0 ≤ at') (h2 : at' < 65536) :
    Calls Try.prog 24 #[.agg #[.int .u16 at', .int .u64 v], c.val] w fun e w' => e = .returned (.int .i64 (c.act + at' % (c.words - c.act))) ∧ Below w.heap.size w w' := by
  obtain ⟨r1, r2, l1, l2, s1, s2⟩ := id hc
  obtain ⟨a1, a2, a3, f1, f2, f3, t1, t2, t3⟩ := c.bds
  have hw : c.words = c.fr0 + 2 * ln c.S := rfl
  have p1 : 0 ≤ c.act := by omega
  have p2 : c.act ≤ 1000 := by omega
  have p3 : c.act + 16 ≤ c.words := by omega
  have p4 : c.words ≤ 100000 := by omega
  have q1 : 0 ≤ at' % (c.words - c.act) := Int.emod_nonneg _ (by omega)
  have q2 : at' % (c.words - c.act) < 100000 := Int.lt_of_lt_of_le (Int.emod_lt_of_pos _ (by omega)) (by omega)
  clear hw a1 a2 a3 f1 f2 f3 t1 t2 t3
  have hv : c.val = .agg #[.int .i64 c.L, .int .i64 c.R, .int .i64 c.S] := rfl
  have k36 := fun w => active_any c w hc
  have k69 := fun w => cwords_any c w hc
  have i1 := (Is.new w (.cells #[.int .u16 at', .int .u64 v] 40)).alloc (.cells #[.int .i64 c.L, .int .i64 c.R, .int .i64 c.S] 29)
  have i2 := Is.new (w.alloc (.cells #[.int .u16 at', .int .u64 v] 40)) (.cells #[.int .i64 c.L, .int .i64 c.R, .int .i64 c.S] 29)
  rw [World.size_alloc] at i2
  have b1 : Below w.heap.size w ((w.alloc (.cells #[.int .u16 at', .int .u64 v] 40)).alloc (.cells #[.int .i64 c.L, .int .i64 c.R, .int .i64 c.S] 29)) := ((Below.refl _ _).alloc (Nat.le_refl _) _).alloc (by simp) _
  rw [hv] at k36 k69 ⊢
  clear hv
  go_enter Try.func24, Try.ntmps24
  go_wp2_with fail
  generalize (w.alloc (.cells #[.int .u16 at', .int .u64 v] 40)).alloc (.cells #[.int .i64 c.L, .int .i64 c.R, .int .i64 c.S] 29) = w1 at *
  have c0 : w1.cell? ⟨w.heap.size, 0, none⟩ = some (.int .u16 at') := by rw [i1.cell]; rfl
  have G0 := GrW.cell c0
  have G := GrW.c3 i2
  refine wp_gr (by kernel_rfl) (by kernel_rfl) ?_
  repeat (go_big_quiet_step (first | (go_at_call 36; exact gr_call (k36 _)) | (go_at_call 69; exact gr_call (k69 _))))
  refine wpQuiet_nil ?_
  rintro w2 ⟨⟨_, hw2⟩, rfl⟩
  have b2 := Below.grown_trans b1 hw2
  go_wp2
  go_ret
  exact ⟨rfl, b2⟩

/-- A slice of numbers. -/
structure Sl (w : World) (b off : Nat) (l : List Int) : Prop where
  get : ∀ i (h : i < l.length), w.cell? ⟨b, off + i, none⟩ = some (.int .u64 l[i])
  lt : b < w.heap.size

theorem Sl.block {w w' : World} {b off : Nat} {l : List Int} (h : Sl w b off l) (hb : w'.heap[b]? = w.heap[b]?) (hs : w.heap.size ≤ w'.heap.size) : Sl w' b off l :=
  ⟨fun i hi => (World.cell?_of_block hb).trans (h.get i hi), Nat.lt_of_lt_of_le h.lt hs⟩
theorem Sl.grow {w w' : World} {b off : Nat} {l : List Int} (h : Sl w b off l) (hb : Below w.heap.size w w') : Sl w' b off l := h.block (hb.block b h.lt) hb.size
theorem Sl.lef {S : Nat → Prop} {w w' : World} {b off : Nat} {l : List Int} (h : Sl w b off l) (hl : Lef S w w') (hb : ¬ S b) : Sl w' b off l := h.block (hl.block b h.lt hb) hl.size
theorem Sl.of_row {w : World} {b cap : Nat} {l : List Int} (h : Row w b cap l) (o : Nat) (ho : o ≤ l.length) : Sl w b o (l.drop o) :=
  ⟨fun i hi => by
    simp only [List.length_drop] at hi
    rw [h.cell (o + i) (by omega)]
    simp, h.lt⟩

set_option maxHeartbeats 2000000 in
theorem behind_any (h : DevH) (D : DevS) (c : Cf) (w : World) (hd : Dev w h D) (hc : c.ok) (hN : (D.now.length : Int) = c.words) :
    Calls Try.prog 22 #[h.ptr, c.val] w fun e w' => ∃ b cap, e = .returned (.slice (some ⟨b, c.act.toNat, none⟩) (D.now.length - c.act.toNat) cap) ∧ Sl w' b c.act.toNat (D.now.drop c.act.toNat) ∧ w.heap.size ≤ b ∧ Below w.heap.size w w' := by
  obtain ⟨r1, r2, l1, l2, s1, s2⟩ := id hc
  obtain ⟨a1, a2, a3, f1, f2, f3, t1, t2, t3⟩ := c.bds
  have hw : c.words = c.fr0 + 2 * ln c.S := rfl
  have hact : ∃ a : Nat, c.act = a := ⟨c.act.toNat, by omega⟩
  obtain ⟨a, ha⟩ := hact
  have p3 : a + 16 ≤ D.now.length := by omega
  have p4 : D.now.length ≤ 100000 := hd.dok.small
  have k36 := fun w => active_any c w hc
  have k69 := fun w => cwords_any c w hc
  rw [ha] at k36 ⊢
  rw [← hN] at k69
  simp only [Int.toNat_natCast]
  clear hw a1 a2 a3 f1 f2 f3 t1 t2 t3 ha hN
  have hv : c.val = .agg #[.int .i64 c.L, .int .i64 c.R, .int .i64 c.S] := rfl
  have i1 := Is.new w (.cells #[.int .i64 c.L, .int .i64 c.R, .int .i64 c.S] 29)
  have b1 : Below w.heap.size w (w.alloc (.cells #[.int .i64 c.L, .int .i64 c.R, .int .i64 c.S] 29)) := (Below.refl _ _).alloc (Nat.le_refl _) _
  have hd1 := hd.alloc (.cells #[.int .i64 c.L, .int .i64 c.R, .int .i64 c.S] 29)
  have kw := words_any h D _ hd1
  rw [hv] at k36 k69 ⊢
  clear hv hd hd1
  unfold slv at kw
  unfold DevH.ptr at *
  go_enter Try.func22, Try.ntmps22
  go_wp2_with fail
  generalize w.alloc (.cells #[.int .i64 c.L, .int .i64 c.R, .int .i64 c.S] 29) = w1 at *
  refine kw.mono ?_
  rintro e w2 ⟨b, cap, rfl, hb, hr, hb2⟩
  have i2 := i1.grow hb2
  have b2 := Below.grown_trans b1 hb2
  have hble : w.heap.size ≤ b := Nat.le_trans b1.size hb
  have hcap := hr.wf_new
  clear kw i1 b1 hb2 hb
  obtain ⟨c0, c1, c2⟩ := i2.c3
  go_wp2_with fail
  refine (k69 _).mono ?_
  rintro e w3 ⟨rfl, d3⟩
  have hr3 := hr.grow d3
  have i3 := i2.grow d3
  have b3 := Below.grown_trans b2 d3
  clear c0 c1 c2 i2 b2 d3 hr k69
  obtain ⟨c0, c1, c2⟩ := i3.c3
  go_wp2_with fail
  refine (k36 _).mono ?_
  rintro e w4 ⟨rfl, d4⟩
  have hr4 := hr3.grow d4
  have b4 := Below.grown_trans b3 d4
  clear c0 c1 c2 i3 b3 d4 hr3 k36
  go_wp2_with fail
  go_ret
  exact ⟨b, cap - a, rfl, Sl.of_row hr4 a (by omega), hble, b4⟩

set_option maxHeartbeats 2000000 in
/-- Equal, of the same words. -/
theorem equal_same (b1 o1 k1 b2 o2 k2 : Nat) (l : List Int) (w : World) (h1 : Sl w b1 o1 l) (h2 : Sl w b2 o2 l) (hm : l.length ≤ 200000) :
    Calls Try.prog 33 #[.slice (some ⟨b1, o1, none⟩) l.length k1, .slice (some ⟨b2, o2, none⟩) l.length k2] w fun e w' => e = .returned (.bool true) ∧ Below w.heap.size w w' := by
  go_enter Try.func33, Try.ntmps33
  go_wp2
  go_loopw [13] (fun i wr => ∃ k : Nat, k ≤ l.length ∧ i = .int .i64 k ∧ Below w.heap.size w wr)
    (fun i _ => l.length - (intOf i).toNat)
  case atStart => exact ⟨0, by omega, rfl, Below.refl _ _⟩
  case round =>
    obtain ⟨k, hk, rfl, hb⟩ := hrel
    by_cases hlt : k < l.length
    · have c1 := (h1.grow hb).get k hlt
      have c2 := (h2.grow hb).get k hlt
      generalize l[k] = x at *
      have G1 := GrW.cell c1
      have G2 := GrW.cell c2
      clear h1 h2
      go_wp2_with fail
      refine wp_gr (by kernel_rfl) (by kernel_rfl) ?_
      repeat (go_big_quiet_step (fail))
      refine wpQuiet_nil ?_
      rintro w4 ⟨⟨_, hw4⟩, rfl⟩
      have b4 := Below.grown_trans hb hw4
      clear c1 c2 G1 G2 hb hw4
      go_wp2
      go_roundw
      case rel => exact ⟨k + 1, by omega, by go_num, b4⟩
      case measure => simp [intOf]; omega
    · obtain rfl : k = l.length := by omega
      clear h1 h2
      go_wp2
      go_ret
      exact ⟨rfl, hb⟩
end Go.Proofs.Ytpecgfpofihibaa
