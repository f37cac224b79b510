/-
  nvm.Fence: what was to be kept is kept.
-/
import Derived.Test.YtpecgfpofihibaaFlush
import Derived.Laws.CopyRow
namespace Go.Proofs.Ytpecgfpofihibaa
open Go Go.RowKit Go.MapKept

/-- What is kept, the lines of ks over it. -/
def ov (kept : List Int) (que : Nat → Option (List Int)) (ks : List Nat) : List Int :=
  (List.range kept.length).map fun i => if i / 8 ∈ ks then ((que (i / 8)).getD []).getD (i % 8) 0 else kept.getD i 0

/-- The device behind a fence. -/
def DevS.fence (D : DevS) : DevS := { D with
  kept := (List.range D.kept.length).map fun i => match D.que (i / 8) with | some l => l.getD (i % 8) 0 | none => D.kept.getD i 0
  que := fun _ => none }

@[simp] theorem ov_length (kept : List Int) (que : Nat → Option (List Int)) (ks : List Nat) : (ov kept que ks).length = kept.length := by simp [ov]

theorem ov_get (kept : List Int) (que : Nat → Option (List Int)) (ks : List Nat) (i : Nat) (h : i < kept.length) :
    (ov kept que ks)[i]'(by simpa using h) = if i / 8 ∈ ks then ((que (i / 8)).getD []).getD (i % 8) 0 else kept.getD i 0 := by
  simp [ov]

theorem ov_nil (kept : List Int) (que : Nat → Option (List Int)) : ov kept que [] = kept := by
  apply List.ext_getElem
  · simp
  · intro i h1 h2
    rw [ov_get _ _ _ _ h2]
    simp [h2]

theorem ov_cons (kept : List Int) (que : Nat → Option (List Int)) (ks : List Nat) (n : Nat) (l : List Int) (hq : que n = some l) (hl : l.length = 8) (hn : 8 * n + 8 ≤ kept.length) :
    (ov kept que ks).take (8 * n) ++ l ++ (ov kept que ks).drop (8 * n + 8) = ov kept que (n :: ks) := by
  apply List.ext_getElem
  · simp; omega
  · intro i h1 h2
    have hi : i < kept.length := by simpa using h2
    rw [ov_get _ _ _ _ hi]
    by_cases c1 : i < 8 * n
    · rw [List.getElem_append_left (by simp; omega), List.getElem_append_left (by simp; omega), List.getElem_take, ov_get _ _ _ _ hi]
      have : ¬ i / 8 = n := by omega
      simp [this]
    · by_cases c2 : i < 8 * n + 8
      · rw [List.getElem_append_left (by simp; omega), List.getElem_append_right (by simp; omega)]
        have h3 : i / 8 = n := by omega
        have h4 : i - min (8 * n) kept.length = i % 8 := by omega
        simp only [List.length_take, ov_length, h4, h3, hq]
        simp only [List.mem_cons, true_or, if_true, Option.getD_some, List.getD_eq_getElem?_getD]
        rw [List.getElem?_eq_getElem (by omega)]
        rfl
      · rw [List.getElem_append_right (by simp; omega)]
        have : ¬ i / 8 = n := by omega
        simp only [List.getElem_drop]
        have e : 8 * n + 8 + (i - (List.take (8 * n) (ov kept que ks) ++ l).length) = i := by simp; omega
        simp only [e]
        rw [ov_get _ _ _ _ hi]
        simp [this]

theorem ov_all (D : DevS) (ks : List Nat) (h1 : ∀ n ∈ ks, D.que n ≠ none) (h2 : ∀ n, D.que n ≠ none → n ∈ ks) : ov D.kept D.que ks = D.fence.kept := by
  unfold ov DevS.fence
  apply List.map_congr_left
  intro i _
  cases hq : D.que (i / 8) with
  | none => rw [if_neg (fun h => h1 _ h hq)]
  | some l => rw [if_pos (h2 _ (by rw [hq]; simp))]; rfl

/-- Which entries have come: the lines ks. -/
structure Came (es : Array MapEntry) (que : Nat → Option (List Int)) (seen : Array Nat) (ks : List Nat) : Prop where
  yes : ∀ n ∈ ks, que n ≠ none
  all : ∀ e ∈ es.toList, seen.contains e.born = true → ∃ n ∈ ks, e.key = .int .i64 (n : Nat)

theorem leftOf_mem {es : Array MapEntry} {seen : Array Nat} {e : MapEntry} : e ∈ (leftOf es seen).toList ↔ e ∈ es.toList ∧ seen.contains e.born = false := by
  unfold leftOf
  simp

theorem leftOf_push {es : Array MapEntry} {seen : Array Nat} {e : MapEntry} (he : e ∈ (leftOf es seen).toList) : (leftOf es (seen.push e.born)).size < (leftOf es seen).size := by
  have h1 : leftOf es (seen.push e.born) = (leftOf es seen).filter (fun x => x.born != e.born) := by
    unfold leftOf
    rw [Array.filter_filter]
    congr 1
    funext x
    simp [Bool.beq_eq_decide_eq, Bool.not_or, Bool.and_comm]
    rfl
  rw [h1]
  have h2 : ((leftOf es seen).filter (fun x => x.born != e.born)).size = ((leftOf es seen).toList.filter (fun x => x.born != e.born)).length := by
    rw [← Array.toList_filter, Array.length_toList]
  rw [h2, ← Array.length_toList (xs := leftOf es seen)]
  apply List.length_filter_lt_length_iff_exists.2
  exact ⟨e, he, by simp⟩

/-- The device with other words kept, entries of its queue come. -/
theorem Dev.keep {w : World} {h : DevH} {D : DevS} (hd : Dev w h D) (K : List Int) (hK : K.length = D.kept.length) (hw : ∀ x ∈ K, U64 x) (rest : List Value) (hr : D.now.length + rest.length = h.kc) :
    Dev (w.setRow h.kept (u64s K ++ rest).toArray) h { D with kept := K } ∧ Left h.lo h.hi w (w.setRow h.kept (u64s K ++ rest).toArray) := by
  obtain ⟨h1, ⟨u0, h2⟩, h3, ⟨r, h4, _⟩, ⟨es, ck, h5, hq⟩, hh, hD, ht⟩ := hd
  have g := hh
  obtain ⟨_, _, _, r4, _, n1, n2, n3⟩ := g
  have hother : ∀ b o, b ≠ h.kept → Is w b o → Is (w.setRow h.kept (u64s K ++ rest).toArray) b o := fun b o hb ho => (setRow_other w h.kept b _ hb).trans ho
  refine ⟨⟨hother _ _ n1.2.2.1 h1, ⟨u0, hother _ _ n2.2.1 h2⟩, hother _ _ n3.1 h3, ⟨rest, setRow_heap w h.kept _ _ _ _ h4, hr⟩, ⟨es, ck, hother _ _ (Ne.symm n3.2.2) h5, hq⟩, hh, ⟨hK.trans hD.len, hD.pos, hD.line, hD.small, hD.wn, hw⟩, by simpa using ht⟩, ?_⟩
  exact ⟨rfl, rfl, rfl, by simp, fun b _ hb => setRow_other w h.kept b _ (by omega)⟩

theorem range_q {w : World} {q : Nat} {es : Array MapEntry} {ck : Nat} (hq : Is w q (.map es ck)) :
    (Instr.range 129 (.map (some q))).run Try.prog w = .ok (.pointer (some ⟨w.heap.size, 0, none⟩)) (w.alloc (.mapIter (some q) ck #[] ck)) := by
  have hm : Try.prog.underlying 129 = some (.map 3 148) := Try.underlying129
  simp [Instr.range, run_underlying hm, MapKept.run_getObj_map hq, Result.andThen]

theorem clear_q {w : World} {q : Nat} {es : Array MapEntry} {ck : Nat} (ty : TypeId) (hq : Is w q (.map es ck)) :
    (Builtin.clear_ #[129] ty #[.map (some q)]).run Try.prog w = .ok (.tuple #[]) { w with heap := w.heap.setIfInBounds q (.map #[] ck) } := by
  have hm : Try.prog.underlying 129 = some (.map 3 148) := Try.underlying129
  simp [Builtin.clear_, run_underlying hm, MapKept.run_getObj_map hq, MapKept.run_setObj_map _ hq, Result.andThen]

/-- How many entries an iterator has left. -/
def leftAt (w : World) (r q : Nat) : Nat :=
  match w.heap[r]?, w.heap[q]? with
  | some (.mapIter _ _ seen _), some (.map es _) => (leftOf es seen).size
  | _, _ => 0

theorem leftAt_eq {w : World} {r q : Nat} {m : Option Nat} {s c ck : Nat} {seen : Array Nat} {es : Array MapEntry} (h1 : Is w r (.mapIter m s seen c)) (h2 : Is w q (.map es ck)) : leftAt w r q = (leftOf es seen).size := by
  unfold leftAt
  rw [show w.heap[r]? = _ from h1, show w.heap[q]? = _ from h2]

theorem born_inj {es : Array MapEntry} {ck : Nat} (hs : Stamped es ck) {x e : MapEntry} (hx : x ∈ es.toList) (he : e ∈ es.toList) (h : x.born = e.born) : x = e := by
  obtain ⟨i, hi, rfl⟩ := List.getElem_of_mem hx
  obtain ⟨j, hj, rfl⟩ := List.getElem_of_mem he
  have := (List.getElem_inj (xs := es.toList.map (·.born)) (i := i) (j := j) (h₀ := by simpa using hi) (h₁ := by simpa using hj) hs.2.1).1 (by simpa using h)
  subst this
  rfl

/-- A line copied from the queue over what is kept. -/
theorem Dev.copied {w : World} {h : DevH} {D : DevS} {ks : List Nat} (hd : Dev w h { D with kept := ov D.kept D.que ks }) (n : Nat) (l : List Int) {b : Nat}
    (hb : Is w b (.cells (u64s l).toArray 148 (0, 0))) (hqn : D.que n = some l) (hl : l.length = 8) (hnN : 8 * n + 8 ≤ D.now.length) (hw : ∀ x ∈ l, U64 x) :
    ∃ w', (∀ ty, (Builtin.copy_ #[25, 25] ty #[.slice (some ⟨h.kept, n * 8, none⟩) (D.now.length - n * 8) (h.kc - n * 8), .slice (some ⟨b, 0, none⟩) 8 8]).run Try.prog w = .ok (.int .i64 8) w') ∧
      Dev w' h { D with kept := ov D.kept D.que (n :: ks) } ∧ Left h.kept (h.kept + 1) w w' := by
  obtain ⟨rest, hk, hkc⟩ := hd.kept
  have hkl : D.kept.length = D.now.length := by have := hd.dok.len; simpa using this
  have hu : Try.prog.underlying 25 = some (.slice 38) := Try.underlying25
  have hcp := fun ty => run_copy_row (P := Try.prog) w 25 25 ty 38 h.kept (n * 8) (D.now.length - n * 8) (h.kc - n * 8) ⟨b, 0, none⟩ 8 8 _ _ (u64s l) hu (by kernel_rfl) hk
    (by simp only [u64s_length, hl]; show 8 = min 8 _; omega) (fun j v hj => by
      have := hb.cell (i := j)
      simp only [Addr.add]
      split
      · rename_i h0; subst h0; rw [this]; simpa using hj
      · simp only [Nat.zero_add]; rw [this]; simpa using hj) (by simp [hl]; omega) (by simp [u64s, u64v, Value.oneCell'])
  have hrow : (u64s (ov D.kept D.que ks) ++ rest).toArray.toList.take (n * 8) ++ u64s l ++ (u64s (ov D.kept D.que ks) ++ rest).toArray.toList.drop (n * 8 + (u64s l).length) = u64s (ov D.kept D.que (n :: ks)) ++ rest := by
    rw [← ov_cons D.kept D.que ks n l hqn hl (by omega)]
    simp only [u64s_length, hl, Nat.mul_comm n 8]
    rw [List.take_append_of_le_length (by simp; omega), List.drop_append_of_le_length (by simp; omega)]
    simp [u64s, List.map_take, List.map_drop]
  rw [hrow] at hcp
  obtain ⟨g1, g2⟩ := hd.keep (ov D.kept D.que (n :: ks)) (by simp) (by
    obtain ⟨es, ck, _, hQ⟩ := hd.que
    have hwk : ∀ x ∈ ov D.kept D.que ks, U64 x := hd.dok.wk
    rw [← ov_cons D.kept D.que ks n l hqn hl (by omega)]
    intro x hx
    simp only [List.mem_append] at hx
    rcases hx with (hx | hx) | hx
    · exact hwk x (List.mem_of_mem_take hx)
    · exact hw x hx
    · exact hwk x (List.mem_of_mem_drop hx)) rest hkc
  refine ⟨_, fun ty => by rw [hcp ty]; simp [hl, goInt], g1, ⟨rfl, rfl, rfl, by simp, fun k _ hk => setRow_other w h.kept k _ (by omega)⟩⟩

theorem list8 (l : List Int) (h : l.length = 8) : ∃ a0 a1 a2 a3 a4 a5 a6 a7, l = [a0, a1, a2, a3, a4, a5, a6, a7] := by
  match l, h with
  | [a0, a1, a2, a3, a4, a5, a6, a7], _ => exact ⟨a0, a1, a2, a3, a4, a5, a6, a7, rfl⟩

/-- Another object in a block of the walk's own. -/
theorem Is.setBlock {w : World} {r b : Nat} {o o' o2 : Obj} (hr : Is w r o) (h : Is w b o2) (hb : b ≠ r) : Is (ChangeMaps.setBlock w r o') b o2 ∧ Is (ChangeMaps.setBlock w r o') r o' ∧ Left r (r + 1) w (ChangeMaps.setBlock w r o') := by
  refine ⟨((heap_set (w := w) hr).2 b hb).trans h, (heap_set (w := w) hr).1, ⟨rfl, rfl, rfl, by simp [ChangeMaps.setBlock], fun k _ hk => (heap_set (w := w) hr).2 k (by omega)⟩⟩

theorem Dev.clear {w : World} {h : DevH} {D : DevS} (hd : Dev w h D) {es : Array MapEntry} {ck : Nat} (hq : Is w h.q (.map es ck)) :
    Dev { w with heap := w.heap.setIfInBounds h.q (.map #[] ck) } h { D with que := fun _ => none } ∧ Left h.lo h.hi w { w with heap := w.heap.setIfInBounds h.q (.map #[] ck) } := by
  have hother : ∀ b o, b ≠ h.q → Is w b o → Is { w with heap := w.heap.setIfInBounds h.q (.map #[] ck) } b o := fun b o hb ho => ((heap_set (w := w) hq).2 b hb).trans ho
  obtain ⟨h1, ⟨u0, h2⟩, h3, ⟨r, h4, hr⟩, _, hh, hD, ht⟩ := hd
  have g := hh
  obtain ⟨_, _, _, _, _, n1, n2, n3⟩ := g
  refine ⟨⟨hother _ _ n1.2.2.2 h1, ⟨u0, hother _ _ n2.2.2 h2⟩, hother _ _ n3.2.1 h3, ⟨r, hother _ _ n3.2.2 h4, hr⟩, ⟨#[], ck, (heap_set (w := w) hq).1, ⟨stamped_empty _, by simp, by simp, by simp⟩⟩, hh, ⟨hD.len, hD.pos, hD.line, hD.small, hD.wn, hD.wk⟩, by simpa using ht⟩, ?_⟩
  exact ⟨rfl, rfl, rfl, by simp, fun b _ hb => (heap_set (w := w) hq).2 b (by have := hh.r5; omega)⟩

set_option maxHeartbeats 2000000 in
theorem fence_any (h : DevH) (D : DevS) (w : World) (hd : Dev w h D) :
    Calls Try.prog 78 #[h.ptr] w fun e w' => e = .returned (.tuple #[]) ∧ Dev w' h D.fence ∧ Left h.lo h.hi w w' := by
  obtain ⟨u, hp⟩ := hd.pow
  have c0 : w.cell? ⟨h.d, 0, none⟩ = some (.pointer (some ⟨h.p, 0, none⟩)) := by rw [hd.dev.cell]; rfl
  have hsm := hd.dok.small
  unfold DevH.ptr
  go_enter Try.func78, Try.ntmps78
  go_wp2_with fail
  refine (tick_any h.p u w hp).mono ?_
  rintro e w1 ⟨rfl, m, u', rfl⟩
  have hd1 := hd.tick m u'
  have hl1 := hd.left_tick m u'
  clear c0 hp hd
  generalize (w.drewN m).setCell ⟨h.p, 1, none⟩ (.int .i64 u') = w1 at *
  have c3 : w1.cell? ⟨h.d, 3, none⟩ = some (.map (some h.q)) := by rw [hd1.dev.cell]; rfl
  obtain ⟨es, ck, hq, hQ⟩ := hd1.que
  have hrg := range_q hq
  go_wp2_with fail
  have hd2 : Dev (w1.alloc (.mapIter (some h.q) ck #[] ck)) h { D with kept := D.kept } := hd1.alloc _
  have hl2 := hl1.alloc (.mapIter (some h.q) ck #[] ck)
  have hr0 := Is.new w1 (.mapIter (some h.q) ck #[] ck)
  have hq2 := hq.alloc (.mapIter (some h.q) ck #[] ck)
  have htop := hd1.top
  have hrw := hl1.size
  clear hrg c3 hq hd1 hl1
  obtain ⟨r, hr⟩ : ∃ r, r = w1.heap.size := ⟨_, rfl⟩
  rw [← hr] at hr0 htop hrw ⊢
  clear hr
  generalize w1.alloc (.mapIter (some h.q) ck #[] ck) = w2 at *
  go_loopw [2] (fun _ wr => ∃ (seen : Array Nat) (ks : List Nat), Dev wr h { D with kept := ov D.kept D.que ks } ∧ Is wr h.q (.map es ck) ∧ Is wr r (.mapIter (some h.q) ck seen ck) ∧ Came es D.que seen ks ∧ Left h.lo h.hi w wr)
    (fun _ wr => leftAt wr r h.q)
  case atStart => exact ⟨#[], [], by rw [ov_nil]; exact hd2, hq2, hr0, ⟨by simp, by simp⟩, hl2⟩
  case round =>
    obtain ⟨seen, ks, hdr, hqr, hrr, hcame, hlr⟩ := hrel
    clear hd2 hq2 hr0 hl2
    rcases run_next_at (P := Try.prog) wr 0 r h.q ck ck seen es ck hrr hqr hQ.stamped.1 (Nat.le_refl _) with ⟨h0, hrun⟩ | ⟨e, he, w3, hw3, hrun⟩
    · have hrun' : ∀ ty, (Instr.next (.pointer (some ⟨r, 0, none⟩)) false ty).run Try.prog wr = .ok (.tuple #[.bool false]) wr := fun _ => hrun
      clear hrun
      have c3 : wr.cell? ⟨h.d, 3, none⟩ = some (.map (some h.q)) := by rw [hdr.dev.cell]; rfl
      have hcl := fun ty => clear_q ty hqr
      go_wp2
      go_end0
      obtain ⟨hdc, hlc⟩ := hdr.clear hqr
      refine ⟨rfl, ?_, hlr.trans hlc⟩
      have hall : ov D.kept D.que ks = D.fence.kept := by
        refine ov_all D ks hcame.yes fun n hn => ?_
        cases hqn : D.que n with
        | none => exact absurd hqn hn
        | some l =>
          obtain ⟨x, hx, hxk⟩ := hQ.all n l hqn
          have hs : seen.contains x.born = true := by
            cases hc : seen.contains x.born with
            | true => rfl
            | false =>
              have := leftOf_mem.2 ⟨hx, hc⟩
              rw [Array.eq_empty_of_size_eq_zero h0] at this
              simp at this
          obtain ⟨m, hm, hmk⟩ := hcame.all x hx hs
          rw [hxk] at hmk
          rw [key_nat hmk]
          exact hm
      rw [hall] at hdc
      exact hdc
    · obtain ⟨heM, heS⟩ := leftOf_mem.1 he
      obtain ⟨n, l, hek, hqn, hev⟩ := hQ.reads e heM
      obtain ⟨hl8, hnN, hlw⟩ := hQ.lines n l hqn
      obtain ⟨w4, hrun', hd4, hq4, hr4, hl4⟩ : ∃ w4, (∀ ty, (Instr.next (.pointer (some ⟨r, 0, none⟩)) false ty).run Try.prog wr = .ok (.tuple #[.bool true, e.key, e.val]) w4) ∧
          Dev w4 h { D with kept := ov D.kept D.que ks } ∧ Is w4 h.q (.map es ck) ∧ Is w4 r (.mapIter (some h.q) ck (seen.push e.born) ck) ∧ Left h.lo h.hi w w4 := by
        have hw3' : Below wr.heap.size wr w3 := by
          rcases hw3 with rfl | rfl
          · exact Below.refl _ _
          · exact (Below.refl _ _).drew
        have hb := hdr.hok.r5
        obtain ⟨g1, g2, g3⟩ := Is.setBlock (o' := .mapIter (some h.q) ck (seen.push e.born) ck) (hrr.grow hw3') (hqr.grow hw3') (by omega)
        refine ⟨_, fun _ => hrun, (hdr.grow hw3').left g3 (by omega), g1, g2, (hlr.trans (Left.of_below hw3')).andNew g3 hrw⟩
      have hms := Lib.hid (leftAt_eq hrr hqr)
      clear hrun hrr hqr hdr hlr hw3
      have hent := run_entry_at (P := Try.prog) w4 r h.q ck seen es ck e hr4 hq4 heM hQ.stamped.2.1
      obtain ⟨a0, a1, a2, a3, a4, a5, a6, a7, rfl⟩ := list8 l hl8
      rw [hek, hev] at hrun' hent
      simp only [u64s, List.map_cons, List.map_nil, u64v] at hrun' hent
      go_wp2
      have hd5 := hd4.alloc (.cells #[.int .u64 a0, .int .u64 a1, .int .u64 a2, .int .u64 a3, .int .u64 a4, .int .u64 a5, .int .u64 a6, .int .u64 a7] 148)
      have hq5 := hq4.alloc (.cells #[.int .u64 a0, .int .u64 a1, .int .u64 a2, .int .u64 a3, .int .u64 a4, .int .u64 a5, .int .u64 a6, .int .u64 a7] 148)
      have hr5 := hr4.alloc (.cells #[.int .u64 a0, .int .u64 a1, .int .u64 a2, .int .u64 a3, .int .u64 a4, .int .u64 a5, .int .u64 a6, .int .u64 a7] 148)
      have hl5 := hl4.alloc (.cells #[.int .u64 a0, .int .u64 a1, .int .u64 a2, .int .u64 a3, .int .u64 a4, .int .u64 a5, .int .u64 a6, .int .u64 a7] 148)
      have hb5 := Is.new w4 (.cells #[.int .u64 a0, .int .u64 a1, .int .u64 a2, .int .u64 a3, .int .u64 a4, .int .u64 a5, .int .u64 a6, .int .u64 a7] 148)
      have htop4 := hd4.top
      clear hrun' hent hd4 hq4 hr4 hl4
      generalize w4.alloc (.cells #[.int .u64 a0, .int .u64 a1, .int .u64 a2, .int .u64 a3, .int .u64 a4, .int .u64 a5, .int .u64 a6, .int .u64 a7] 148) = w5 at *
      generalize w4.heap.size = b at *
      have c2 : w5.cell? ⟨h.d, 2, none⟩ = some (.slice (some ⟨h.kept, 0, none⟩) D.now.length h.kc) := by rw [hd5.dev.cell]; rfl
      have g2 := GrW.cell c2
      obtain ⟨rest, hk5, hkc⟩ := hd5.kept
      have hkn : n * 8 + 8 ≤ D.now.length := by omega
      have hkc' : D.now.length ≤ h.kc := by have : D.now.length + rest.length = h.kc := hkc; omega
      refine wp_gr_tail 8 (by kernel_rfl) (by kernel_rfl) ?_
      simp only [List.take_succ_cons, List.take_zero, List.drop_succ_cons, List.drop_zero]
      clear hk5 hkc
      repeat (go_big_quiet_step (fail))
      refine wpQuiet_nil ?_
      rintro w6 ⟨⟨_, hw6⟩, rfl⟩
      have hd6 := hd5.grow hw6
      have hq6 := hq5.grow hw6
      have hr6 := hr5.grow hw6
      have hl6 := hl5.trans (Left.of_below hw6)
      obtain ⟨w7, hcp, hd7, hl7⟩ := hd6.copied n [a0, a1, a2, a3, a4, a5, a6, a7] (hb5.grow hw6) hqn rfl hnN hlw
      have r4 := hd6.hok.r4
      have n3 := hd6.hok.n3
      have hq7 := hq6.left hl7 (by omega)
      have hr7 := hr6.left hl7 (by omega)
      clear g2 c2 hd5 hq5 hr5 hl5 hw6 hd6 hq6 hr6 hb5
      go_wp2
      go_roundw
      case rel =>
        refine ⟨seen.push e.born, n :: ks, hd7, hq7, hr7, ⟨?_, ?_⟩, hl6.trans (hl7.mono (by omega) (by omega))⟩
        · intro m hm
          rcases List.mem_cons.1 hm with rfl | hm
          · rw [hqn]; simp
          · exact hcame.yes m hm
        · intro x hx hs
          simp only [Array.contains_push, Bool.or_eq_true, beq_iff_eq] at hs
          rcases hs with hs | hs
          · obtain ⟨m, hm, hk⟩ := hcame.all x hx hs
            exact ⟨m, by simp [hm], hk⟩
          · have hxe : x = e := born_inj hQ.stamped hx heM hs
            exact ⟨n, by simp, by rw [hxe, hek]⟩
      case measure =>
        rw [leftAt_eq hr7 hq7, hms.out]
        exact leftOf_push he
end Go.Proofs.Ytpecgfpofihibaa
