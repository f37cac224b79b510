/-
  A map with keys of type int, as a list of its entries: a store into it, a lookup, how many there are.
-/
import Derived.Test.YtpecgfpofihibaaProg
import Derived.Test.YtpecgfpofihibaaDev
import Derived.Test.YtpecgfpofihibaaMapQ
namespace Go.Proofs.Ytpecgfpofihibaa
open Go Go.RowKit Go.MapKept

/-- Entries, by number and value, in the order in which they came. -/
structure MapL (es : Array MapEntry) (clock : Nat) (q : List (Int × Value)) : Prop where
  stamped : MapKept.Stamped es clock
  view : es.toList.map (fun e => (e.key, e.val)) = q.map (fun x => (Value.int .i64 x.1, x.2))

theorem MapL.empty (clock : Nat) : MapL #[] clock [] := ⟨stamped_empty _, rfl⟩
theorem MapL.size {es : Array MapEntry} {clock : Nat} {q : List (Int × Value)} (h : MapL es clock q) : es.size = q.length := by
  have := congrArg List.length h.view
  simpa using this
theorem MapL.at {es : Array MapEntry} {clock : Nat} {q : List (Int × Value)} (h : MapL es clock q) {i : Nat} {e : MapEntry} (he : es.toList[i]? = some e) : ∃ x, q[i]? = some x ∧ e.key = .int .i64 x.1 ∧ e.val = x.2 := by
  have := congrArg (fun l => l[i]?) h.view
  simp only [List.getElem?_map, he, Option.map_some] at this
  cases hq : q[i]? with
  | none => rw [hq] at this; cases this
  | some x =>
    rw [hq] at this
    simp only [Option.map_some, Option.some.injEq, Prod.mk.injEq] at this
    exact ⟨x, rfl, this.1, this.2⟩
theorem MapL.keys {es : Array MapEntry} {clock : Nat} {q : List (Int × Value)} (h : MapL es clock q) : ∀ x ∈ es.toList, IsKey (.int .i64) x.key := by
  intro x hx
  obtain ⟨i, hi⟩ := List.getElem?_of_mem hx
  obtain ⟨y, _, h1, _⟩ := h.at hi
  rw [h1]; rfl
theorem MapL.nodup {es : Array MapEntry} {clock : Nat} {q : List (Int × Value)} (h : MapL es clock q) : (q.map (·.1)).Nodup := by
  have h1 := h.stamped.2.2
  have h2 : es.toList.map (·.key) = (q.map (·.1)).map (Value.int .i64) := by
    have := congrArg (List.map (·.1)) h.view
    simpa [Function.comp_def] using this
  rw [h2] at h1
  unfold List.Nodup at h1 ⊢
  rw [List.pairwise_map] at h1
  exact h1.imp (fun hne he => hne (by rw [he]))

/-- The entry at a number. -/
def lookL (q : List (Int × Value)) (k : Int) : Option Value := (q.find? (fun x => decide (x.1 = k))).map (·.2)
def hasL (q : List (Int × Value)) (k : Int) : Bool := q.any (fun x => decide (x.1 = k))
/-- A store. -/
def putL (q : List (Int × Value)) (k : Int) (v : Value) : List (Int × Value) := if hasL q k = true then q.map (fun x => if x.1 = k then (k, v) else x) else q ++ [(k, v)]

theorem lookL_none {q : List (Int × Value)} {k : Int} (h : ∀ x ∈ q, x.1 ≠ k) : lookL q k = none := by
  unfold lookL
  rw [List.find?_eq_none.2 (fun x hx => by simpa using h x hx)]
  rfl
theorem hasL_false {q : List (Int × Value)} {k : Int} (h : ∀ x ∈ q, x.1 ≠ k) : hasL q k = false := by
  unfold hasL
  rw [List.any_eq_false]
  exact fun x hx => by simpa using h x hx
theorem lookL_at {q : List (Int × Value)} {k : Int} (hn : (q.map (·.1)).Nodup) {i : Nat} {v : Value} (h : q[i]? = some (k, v)) : lookL q k = some v := by
  induction q generalizing i with
  | nil => simp at h
  | cons x q ih =>
    unfold lookL
    simp only [List.map_cons, List.nodup_cons] at hn
    rw [List.find?_cons]
    cases i with
    | zero =>
      simp only [List.getElem?_cons_zero, Option.some.injEq] at h
      subst h
      simp
    | succ i =>
      simp only [List.getElem?_cons_succ] at h
      have hm : k ∈ q.map (·.1) := List.mem_map.2 ⟨_, List.mem_of_getElem? h, rfl⟩
      have hne : x.1 ≠ k := fun e => hn.1 (by rw [e]; exact hm)
      simp only [hne, decide_false]
      exact ih hn.2 h
theorem hasL_at {q : List (Int × Value)} {k : Int} {i : Nat} {v : Value} (h : q[i]? = some (k, v)) : hasL q k = true := by
  unfold hasL
  rw [List.any_eq_true]
  exact ⟨_, List.mem_of_getElem? h, by simp⟩

section
variable {T E : TypeId} (hm : Try.prog.underlying T = some (.map 3 E))
include hm

/-- A store into a map. -/
theorem mapUpdate_l {w : World} {b : Nat} {es : Array MapEntry} {clock : Nat} {q : List (Int × Value)} (k : Int) (v : Value) (hq : Is w b (.map es clock)) (hQ : MapL es clock q) :
    ∃ es' clock', (Instr.mapUpdate T (.map (some b)) (.int .i64 k) v).run Try.prog w = .ok () { w with heap := w.heap.setIfInBounds b (.map es' clock') } ∧ MapL es' clock' (putL q k v) := by
  have hd : Try.prog.underlying 3 = some (.int .i64) := Try.underlying3
  have hk : IsKey (.int .i64) (.int .i64 k) := rfl
  rcases findNow_spec hk es.toList 0 hQ.keys with ⟨h1, h2⟩ | ⟨j, e, h1, h2, h3⟩
  · have hno : ∀ x ∈ q, x.1 ≠ k := fun x hx hxk => by
      obtain ⟨i, hi⟩ := List.getElem?_of_mem hx
      have := congrArg (fun l => l[i]?) hQ.view
      simp only [List.getElem?_map, hi, Option.map_some] at this
      cases he : es.toList[i]? with
      | none => rw [he] at this; cases this
      | some e =>
        rw [he] at this
        simp only [Option.map_some, Option.some.injEq, Prod.mk.injEq] at this
        exact h2 e (List.mem_of_getElem? he) (by rw [this.1, hxk])
    refine ⟨es.push { key := .int .i64 k, val := v, born := clock }, clock + 1, ?_, stamped_push hQ.stamped h2, ?_⟩
    · simp [Instr.mapUpdate, run_underlying hm, MapKept.run_getObj_map hq, run_checkKey hd hk, run_findKey hd h1, MapKept.run_setObj_map _ hq, Result.andThen]
    · unfold putL
      rw [hasL_false hno]
      simp [hQ.view]
  · have hj : es[j]? = some e := by simpa using h2
    have hkey : ∀ e', es[j]? = some e' → ({ e' with key := .int .i64 k, val := v } : MapEntry).key = e'.key := fun e' he' => by rw [hj] at he'; cases he'; exact h3.symm
    obtain ⟨x, hx1, hx2, hx3⟩ := hQ.at h2
    have hxk : x.1 = k := by rw [hx2] at h3; injection h3
    refine ⟨es.modify j fun e => { e with key := .int .i64 k, val := v }, clock, ?_, stamped_modify hQ.stamped _ _ (fun _ _ => rfl) (fun e' _ he' => hkey e' he'), ?_⟩
    · simp [Instr.mapUpdate, run_underlying hm, MapKept.run_getObj_map hq, run_checkKey hd hk, run_findKey hd h1, hj, h3, run_keyThatStays hk, MapKept.run_setObj_map _ hq, Result.andThen]
    · have hhas : hasL q k = true := hasL_at (i := j) (v := x.2) (by rw [hx1, ← hxk])
      unfold putL
      rw [if_pos hhas]
      apply List.ext_getElem?
      intro i
      simp only [List.getElem?_map, Array.getElem?_toList, Array.getElem?_modify]
      by_cases hij : j = i
      · subst hij
        rw [if_pos rfl, hj, hx1]
        simp [hxk]
      · rw [if_neg hij]
        have hv := congrArg (fun l => l[i]?) hQ.view
        simp only [List.getElem?_map] at hv
        rw [← Array.getElem?_toList, hv]
        cases hqi : q[i]? with
        | none => rfl
        | some y =>
          have hyk : y.1 ≠ k := fun hyk => hij (by
            have hn := hQ.nodup
            obtain ⟨hj', hj2⟩ := List.getElem?_eq_some_iff.1 hx1
            obtain ⟨hi', hi2⟩ := List.getElem?_eq_some_iff.1 hqi
            exact (List.getElem_inj (xs := q.map (·.1)) (i := j) (j := i) (h₀ := by simpa using hj') (h₁ := by simpa using hi') hn).1 (by simp only [List.getElem_map]; rw [hj2, hi2, hxk, hyk]))
          simp [hyk]

/-- A lookup. -/
theorem lookup_any_l {w : World} {b : Nat} {es : Array MapEntry} {clock : Nat} {q : List (Int × Value)} (k : Int) (z : Value) (hz : (zeroValue E).run Try.prog w = .ok z w) (hq : Is w b (.map es clock)) (hQ : MapL es clock q) (ok : Bool) :
    (Instr.lookup T (.map (some b)) (.int .i64 k) ok).run Try.prog w = .ok (if ok = true then .tuple #[(lookL q k).getD z, .bool (hasL q k)] else (lookL q k).getD z) w := by
  have hd : Try.prog.underlying 3 = some (.int .i64) := Try.underlying3
  have hk : IsKey (.int .i64) (.int .i64 k) := rfl
  rcases findNow_spec hk es.toList 0 hQ.keys with ⟨h1, h2⟩ | ⟨j, e, h1, h2, h3⟩
  · have hno : ∀ x ∈ q, x.1 ≠ k := fun x hx hxk => by
      obtain ⟨i, hi⟩ := List.getElem?_of_mem hx
      have := congrArg (fun l => l[i]?) hQ.view
      simp only [List.getElem?_map, hi, Option.map_some] at this
      cases he : es.toList[i]? with
      | none => rw [he] at this; cases this
      | some e =>
        rw [he] at this
        simp only [Option.map_some, Option.some.injEq, Prod.mk.injEq] at this
        exact h2 e (List.mem_of_getElem? he) (by rw [this.1, hxk])
    rw [lookL_none hno, hasL_false hno]
    cases ok <;> simp [Instr.lookup, run_underlying hm, MapKept.run_getObj_map hq, run_checkKey hd hk, run_findKey hd h1, hz, Result.andThen]
  · obtain ⟨x, hx1, hx2, hx3⟩ := hQ.at h2
    have hxk : x.1 = k := by rw [hx2] at h3; injection h3
    have hx1' : q[j]? = some (k, x.2) := by rw [hx1, ← hxk]
    rw [lookL_at hQ.nodup hx1', hasL_at hx1']
    cases ok <;> simp [Instr.lookup, run_underlying hm, MapKept.run_getObj_map hq, run_checkKey hd hk, run_findKey hd h1, hx3, Result.andThen]

/-- How many entries. -/
theorem len_l {w : World} {b : Nat} {es : Array MapEntry} {clock : Nat} {q : List (Int × Value)} (ty : TypeId) (hq : Is w b (.map es clock)) (hQ : MapL es clock q) :
    (Builtin.len_ #[T] ty #[.map (some b)]).run Try.prog w = .ok (.int .i64 q.length) w := by
  simp [Builtin.len_, run_underlying hm, MapKept.run_getObj_map hq, hQ.size, goInt, Result.andThen]
end
end Go.Proofs.Ytpecgfpofihibaa
