/-
  tumuluslaw05.Formatted.
-/
import Derived.Test.YtpecgfpofihibaaFmt
namespace Go.Proofs.Ytpecgfpofihibaa
open Go Go.RowKit Go.MapKept

/-- A slice of numbers that can be read. -/
def SlR (w : World) (v : Value) (l : List Int) : Prop :=
  ∃ a cap, v = .slice a l.length cap ∧ (l = [] ∨ ∃ b off, a = some ⟨b, off, none⟩ ∧ b < w.heap.size ∧ ∀ i (h : i < l.length), w.cell? ⟨b, off + i, none⟩ = some (.int .u64 l[i]))

theorem SlR.grow {w w' : World} {v : Value} {l : List Int} (h : SlR w v l) (hb : Below w.heap.size w w') : SlR w' v l := by
  obtain ⟨a, cap, hv, h⟩ := h
  refine ⟨a, cap, hv, h.imp id ?_⟩
  rintro ⟨b, off, ha, hlt, hc⟩
  exact ⟨b, off, ha, Nat.lt_of_lt_of_le hlt hb.size, fun i hi => (hb.cell (p := ⟨b, off + i, none⟩) hlt).trans (hc i hi)⟩

theorem SlR.nil (w : World) : SlR w (.slice none 0 0) [] := ⟨none, 0, rfl, .inl rfl⟩

/-- The words that Formatted lays, after k rounds. -/
def fwk (old : List Int) (N k : Nat) : List Int := (List.range N).map fun i => if i < k then old.getD (i % old.length) 0 else 0
def fw (c : Cf) (old : List Int) : List Int := fwk old c.words.toNat c.words.toNat

@[simp] theorem fwk_len (old : List Int) (N k : Nat) : (fwk old N k).length = N := by simp [fwk]
theorem fwk_zero (old : List Int) (N : Nat) : fwk old N 0 = List.replicate N 0 := by
  apply List.ext_getElem
  · simp
  · intro i h1 h2; simp [fwk]
theorem fwk_nil (N k : Nat) : fwk [] N k = List.replicate N 0 := by
  apply List.ext_getElem
  · simp
  · intro i h1 h2; simp [fwk]
theorem fwk_succ (old : List Int) (N k : Nat) (hk : k < N) : (fwk old N k).set k (old.getD (k % old.length) 0) = fwk old N (k + 1) := by
  apply List.ext_getElem
  · simp
  · intro i h1 h2
    have hi : i < N := by simpa using h2
    rw [List.getElem_set]
    simp only [fwk, List.getElem_map, List.getElem_range]
    by_cases h : k = i
    · subst h; simp
    · rw [if_neg h]
      by_cases h' : i < k
      · rw [if_pos h', if_pos (by omega)]
      · rw [if_neg h', if_neg (by omega)]
theorem fwk_wf (old : List Int) (N k : Nat) (h : ∀ x ∈ old, U64 x) : ∀ x ∈ fwk old N k, U64 x := by
  intro x hx
  simp only [fwk, List.mem_map] at hx
  obtain ⟨i, _, rfl⟩ := hx
  split
  · rw [List.getD_eq_getElem?_getD]
    cases hg : old[i % old.length]? with
    | none => exact u64_0
    | some y => exact h y (List.mem_of_getElem? hg)
  · exact u64_0

theorem Row.set {w : World} {b cap : Nat} {l : List Int} (h : Row w b cap l) (i : Nat) (hi : i < l.length) (x : Int) : Row (w.setCell ⟨b, i, none⟩ (.int .u64 x)) b cap (l.set i x) := by
  obtain ⟨r, h1, h2⟩ := h.is
  refine ⟨r, ?_, by simpa using h2⟩
  have := Is.set (i := i) h1 (.int .u64 x)
  simp only [List.setIfInBounds_toArray] at this
  rw [List.set_append_left _ _ (by simpa using hi), u64s_set] at this
  exact this

theorem Cf.wb (c : Cf) (hc : c.ok) : 40 ≤ c.words ∧ c.words ≤ 90000 ∧ c.words % 8 = 0 := by
  obtain ⟨r1, r2, l1, l2, s1, s2⟩ := hc
  obtain ⟨a1, a2, a3, f1, f2, f3, t1, t2, t3⟩ := c.bds
  have hw : c.words = c.fr0 + 2 * ln c.S := rfl
  omega

theorem pad_id {l : List Int} (h : l.length % 8 = 0) : pad l = l := by
  unfold pad
  have : (l.length + 7) / 8 * 8 - l.length = 0 := by omega
  rw [this]
  simp

/-- The device that Formatted makes. -/
def fmtD (c : Cf) (old : List Int) : DevS := (DevS.mk (fw c old) (fw c old) fun _ => none).format c

set_option maxHeartbeats 2000000 in
theorem formatted_any (c : Cf) (old : List Int) (ov : Value) (w : World) (hc : c.ok) (ho : SlR w ov old) (hm : old.length ≤ 1000000) (hwf : ∀ x ∈ old, U64 x) :
    Calls Try.prog 21 #[c.val, ov] w fun e w' => ∃ h, e = .returned (.tuple #[h.ptr, .bool true]) ∧ Dev w' h (fmtD c old) ∧ w.heap.size ≤ h.lo ∧ Below w.heap.size w w' := by
  obtain ⟨W1, W2, W3⟩ := c.wb hc
  have hbx := Is.new w (.cells #[.int .i64 c.L, .int .i64 c.R, .int .i64 c.S] 29)
  have hbe0 : Below w.heap.size w (w.alloc (.cells #[.int .i64 c.L, .int .i64 c.R, .int .i64 c.S] 29)) := (Below.refl _ _).alloc (Nat.le_refl _) _
  have hv : c.val = .agg #[.int .i64 c.L, .int .i64 c.R, .int .i64 c.S] := rfl
  have ho1 := ho.grow hbe0
  obtain ⟨oa, ocap, rfl, _⟩ := id ho
  rw [hv]
  clear hv ho
  go_enter Try.func21, Try.ntmps21
  go_wp2_with fail
  refine (cwords_any c _ hc).mono ?_
  rintro e wA ⟨rfl, hbA⟩
  have hbxA := hbx.grow hbA
  have hoA := ho1.grow hbA
  have hbeA := Below.grown_trans hbe0 hbA
  obtain ⟨N, hN⟩ : ∃ N : Nat, c.words = (N : Int) := ⟨c.words.toNat, by omega⟩
  have hmk := make_u64 wA N (by omega)
  rw [← hN] at hmk
  clear hbx hbe0 ho1 hbA
  unfold slv at hmk
  have hHN := Lib.hid hN
  have hNb : N ≤ 90000 := by omega
  have hN0 : 40 ≤ N := by omega
  clear hN
  go_wp2_with ((with_reducible refine wpList_make_run (o := ⟨some 11, _, _, _, _, _⟩) ?z1g ?z1s ?z1x ?z1T ?z1o ?z1v ?z1xv ?z1vv ?z1hs ?z1hx ?z1r ?_); case z1o => exact rfl; case z1g => exact rfl; case z1hs => exact rfl; case z1hx => exact rfl; case z1r => exact hmk)
  have hrB : Row (wA.alloc (.cells (u64s (List.replicate N 0)).toArray 38)) wA.heap.size N (fwk old N 0) := ⟨[], by simpa [fwk_zero] using Is.new wA _, by simp⟩
  have hoB := hoA.grow (w' := wA.alloc (.cells (u64s (List.replicate N 0)).toArray 38)) ((Below.refl _ _).alloc (Nat.le_refl _) _)
  have hbeB : Below w.heap.size w (wA.alloc (.cells (u64s (List.replicate N 0)).toArray 38)) := hbeA.alloc hbeA.size _
  have hbxB := hbxA.alloc (.cells (u64s (List.replicate N 0)).toArray 38)
  have hlb : w.heap.size < wA.heap.size := hbxA.lt
  have hoz : ∀ b off, oa = some ⟨b, off, none⟩ → b < wA.heap.size → True := fun _ _ _ _ => trivial
  obtain ⟨oa', ocap', hov', hcells⟩ := hoA
  injection hov' with ho1 ho2 ho3
  subst ho1
  clear hoz ho2 ho3 hmk hbeA hbxA hoB
  have hoC : old = [] ∨ ∃ b off, oa = some ⟨b, off, none⟩ ∧ b < wA.heap.size ∧ ∀ i (h : i < old.length), (wA.alloc (.cells (u64s (List.replicate N 0)).toArray 38)).cell? ⟨b, off + i, none⟩ = some (.int .u64 old[i]) := by
    rcases hcells with h | ⟨b, off, h1, h2, h3⟩
    · exact .inl h
    · exact .inr ⟨b, off, h1, h2, fun i hi => (World.cell?_alloc_lt _ _ _ h2).trans (h3 i hi)⟩
  clear hcells
  generalize wA.alloc (.cells (u64s (List.replicate N 0)).toArray 38) = wB at *
  generalize wA.heap.size = lb at *
  go_loopw [14] (fun i wr => ∃ k : Nat, k ≤ N ∧ i = .int .i64 k ∧ Row wr lb N (fwk old N k) ∧ Is wr w.heap.size (.cells #[.int .i64 c.L, .int .i64 c.R, .int .i64 c.S] 29) ∧ Left lb (lb + 1) wB wr)
    (fun i _ => N - (intOf i).toNat)
  case atStart => exact ⟨0, by omega, rfl, hrB, hbxB, Left.refl _ _ _⟩
  case round =>
    obtain ⟨k, hk, rfl, hr, hbx, hl⟩ := hrel
    clear hrB hbxB
    by_cases hlt : k < N
    · rcases hoC with rfl | ⟨b, off, rfl, hb, hoc⟩
      · go_wp2
        go_roundw
        case rel => exact ⟨k + 1, by omega, by go_num, by rw [fwk_nil] at hr ⊢; exact hr, hbx, hl⟩
        case measure => simp [intOf]; omega
      · by_cases hol : old.length = 0
        · have : old = [] := List.eq_nil_of_length_eq_zero hol
          subst this
          go_wp2
          go_roundw
          case rel => exact ⟨k + 1, by omega, by go_num, by rw [fwk_nil] at hr ⊢; exact hr, hbx, hl⟩
          case measure => simp [intOf]; omega
        · have hpos : 0 < old.length := by omega
          have hmod : k % old.length < old.length := Nat.mod_lt _ hpos
          have hcr : wr.cell? ⟨b, off + k % old.length, none⟩ = some (.int .u64 (old.getD (k % old.length) 0)) := by
            have h1 := hoc _ hmod
            have h2 : wr.cell? ⟨b, off + k % old.length, none⟩ = wB.cell? ⟨b, off + k % old.length, none⟩ := World.cell?_of_block (hl.block b (World.block_lt_of_cell? _ _ h1) (by omega))
            rw [h2, h1]
            simp [List.getD_eq_getElem?_getD, hmod]
          have hcw : ∃ x, wr.cell? ⟨lb, k, none⟩ = some x := ⟨_, hr.cell k (by simpa using hlt)⟩
          obtain ⟨x, hcw⟩ := hcw
          have hfw : wr.frozen? ⟨lb, k, none⟩ = false := by obtain ⟨r, h1, _⟩ := hr.is; exact h1.free
          have p1 : (0 : Int) ≤ (k : Int) % (old.length : Int) := by omega
          have p2 : (k : Int) % (old.length : Int) < (old.length : Int) := by omega
          have hset := hr.set k (by simpa using hlt) (old.getD (k % old.length) 0)
          rw [fwk_succ old N k hlt] at hset
          have hge : old.getD (k % old.length) 0 = old[k % old.length] := by simp [List.getD_eq_getElem?_getD, hmod]
          rw [hge] at hset hcr
          clear hol hr hge
          go_wp2
          go_roundw
          case rel => exact ⟨k + 1, by omega, by go_num, hset, hbx.set_other (by simp; omega) _, hl.setCell (by simp) (by simp) _⟩
          case measure => simp [intOf]; omega
    · obtain rfl : k = N := by omega
      go_wp2_with fail
      have hL := law_new lb k (fwk old k k) wr hr (by simp; omega) (by simp; omega) (fwk_wf _ _ _ hwf)
      rw [fwk_len, pad_id (by simp; have := hHN.out; omega)] at hL
      unfold slv at hL
      have hbeR : Below w.heap.size w wr := hbeB.trans (hl.below (by omega) (by have := hbeB.size; omega))
      refine hL.mono ?_
      rintro e wC ⟨h, rfl, hdC, hlo, hhi, hbC⟩
      have hbxC := hbx.grow hbC
      have hbeC := Below.grown_trans hbeR hbC
      have hlo' : w.heap.size < h.lo := by rw [hlo]; have := hbx.lt; omega
      have hfm := format_any h _ c wC hdC hc (by simp; exact hHN.out.symm)
      have hfw : fwk old k k = fw c old := by unfold fw; rw [hHN.out]; simp
      have hfin : ∀ w', Dev w' h ((DevS.mk (fwk old k k) (fwk old k k) fun _ => none).format c) → Dev w' h (fmtD c old) := fun w' hd => by unfold fmtD; rw [← hfw]; exact hd
      have cbC := hbxC.c3
      have hv : c.val = .agg #[.int .i64 c.L, .int .i64 c.R, .int .i64 c.S] := rfl
      rw [hv] at hfm
      have hle := hbeC.size
      clear hL hr hbx hl hbeR hbC hlo hhi hbeB hoC hfw hdC hv
      unfold DevH.ptr at hfm ⊢
      go_wp2_with fail
      refine hfm.mono ?_
      rintro e wD ⟨rfl, hdD, hlD⟩
      clear hfm
      go_wp2_with fail
      go_ret2
      exact ⟨h, rfl, hfin _ hdD, by omega, hbeC.trans (hlD.below (by omega) hle)⟩
end Go.Proofs.Ytpecgfpofihibaa
