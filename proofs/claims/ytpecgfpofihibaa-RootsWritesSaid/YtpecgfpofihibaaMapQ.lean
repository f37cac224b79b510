/-
  The map of a device's queue: a store into it, going over it, emptying it.
-/
import Derived.Test.YtpecgfpofihibaaProg
import Derived.Test.YtpecgfpofihibaaDev
import Derived.Maps.RangeRun
namespace Go.Proofs.Ytpecgfpofihibaa
open Go Go.RowKit Go.MapKept

theorem QRel.isKey {es : Array MapEntry} {clock N : Nat} {q : Nat → Option (List Int)} (h : QRel es clock N q) : ∀ x ∈ es.toList, IsKey (.int .i64) x.key := by
  intro x hx
  obtain ⟨n, l, hk, _⟩ := h.reads x hx
  rw [hk]; rfl

def updQ (q : Nat → Option (List Int)) (n : Nat) (l : List Int) : Nat → Option (List Int) := fun m => if m = n then some l else q m

theorem key_nat {n m : Nat} (h : (Value.int .i64 n) = .int .i64 m) : n = m := by injection h with _ h; exact Int.ofNat.inj h

/-- A store into the queue. -/
theorem mapUpdate_q {w : World} {q : Nat} {es : Array MapEntry} {clock N : Nat} {Q : Nat → Option (List Int)} (n : Nat) (l : List Int) (hq : Is w q (.map es clock)) (hQ : QRel es clock N Q)
    (hl : l.length = 8) (hn : 8 * n + 8 ≤ N) (hw : ∀ x ∈ l, U64 x) :
    ∃ es' clock', (Instr.mapUpdate 129 (.map (some q)) (.int .i64 n) (.agg (u64s l).toArray)).run Try.prog w = .ok () { w with heap := w.heap.setIfInBounds q (.map es' clock') } ∧
      QRel es' clock' N (updQ Q n l) := by
  have hm : Try.prog.underlying 129 = some (.map 3 148) := Try.underlying129
  have hd : Try.prog.underlying 3 = some (.int .i64) := Try.underlying3
  have hk : IsKey (.int .i64) (.int .i64 n) := rfl
  have hlines : ∀ m r, updQ Q n l m = some r → r.length = 8 ∧ 8 * m + 8 ≤ N ∧ ∀ x ∈ r, U64 x := by
    intro m r h
    unfold updQ at h
    split at h
    · rename_i hmn; subst hmn; cases h; exact ⟨hl, hn, hw⟩
    · exact hQ.lines m r h
  rcases findNow_spec hk es.toList 0 hQ.isKey with ⟨h1, h2⟩ | ⟨j, e, h1, h2, h3⟩
  · refine ⟨es.push { key := .int .i64 n, val := .agg (u64s l).toArray, born := clock }, clock + 1, ?_, stamped_push hQ.stamped h2, ?_, ?_, hlines⟩
    · simp [Instr.mapUpdate, run_underlying hm, MapKept.run_getObj_map hq, run_checkKey hd hk, run_findKey hd h1, MapKept.run_setObj_map _ hq, Result.andThen]
    · intro x hx
      simp only [Array.toList_push, List.mem_append, List.mem_singleton] at hx
      rcases hx with hx | rfl
      · obtain ⟨m, r, k1, k2, k3⟩ := hQ.reads x hx
        refine ⟨m, r, k1, ?_, k3⟩
        unfold updQ
        rw [if_neg (fun e => h2 x hx (by rw [k1, e])), k2]
      · exact ⟨n, l, rfl, by simp [updQ], rfl⟩
    · intro m r h
      unfold updQ at h
      split at h
      · rename_i hmn; subst hmn; exact ⟨{ key := .int .i64 m, val := .agg (u64s l).toArray, born := clock }, by simp, rfl⟩
      · obtain ⟨x, hx, hxk⟩ := hQ.all m r h
        exact ⟨x, by simp [hx], hxk⟩
  · have hj : es[j]? = some e := by simpa using h2
    have hkey : ∀ e', es[j]? = some e' → ({ e' with key := .int .i64 n, val := .agg (u64s l).toArray } : MapEntry).key = e'.key := fun e' he' => by rw [hj] at he'; cases he'; exact h3.symm
    have hjl : j < es.size := (Array.getElem?_eq_some_iff.1 hj).1
    have hej : es[j] = e := (Array.getElem?_eq_some_iff.1 hj).2
    have hmem : ∀ x, x ∈ (es.modify j fun e => { e with key := .int .i64 n, val := .agg (u64s l).toArray }).toList →
        (x ∈ es.toList ∧ x.key ≠ .int .i64 n) ∨ (x.key = .int .i64 n ∧ x.val = .agg (u64s l).toArray) := by
      intro x hx
      obtain ⟨i, hi, hxi⟩ := List.getElem_of_mem hx
      have hx' : (es.modify j fun e => { e with key := .int .i64 n, val := .agg (u64s l).toArray })[i]? = some x := by
        rw [← Array.getElem?_toList]; rw [List.getElem?_eq_getElem hi, hxi]
      rw [Array.getElem?_modify] at hx'
      by_cases hij : j = i
      · subst hij
        rw [if_pos rfl, hj] at hx'
        cases hx'
        exact .inr ⟨rfl, rfl⟩
      · rw [if_neg hij] at hx'
        have hxm : x ∈ es.toList := Array.mem_toList_iff.2 (Array.mem_of_getElem? hx')
        refine .inl ⟨hxm, fun hxk => ?_⟩
        have hnd := hQ.stamped.2.2
        have hi' : i < es.size := (Array.getElem?_eq_some_iff.1 hx').1
        have := (List.getElem_inj (xs := es.toList.map (·.key)) (i := i) (j := j) (h₀ := by simpa using hi') (h₁ := by simpa using hjl) hnd).1
          (by simp only [List.getElem_map, Array.getElem_toList]; rw [hej, h3]; rw [(Array.getElem?_eq_some_iff.1 hx').2]; exact hxk)
        exact hij this.symm
    refine ⟨es.modify j fun e => { e with key := .int .i64 n, val := .agg (u64s l).toArray }, clock, ?_, stamped_modify hQ.stamped _ _ (fun _ _ => rfl) (fun e' _ he' => hkey e' he'), ?_, ?_, hlines⟩
    · simp [Instr.mapUpdate, run_underlying hm, MapKept.run_getObj_map hq, run_checkKey hd hk, run_findKey hd h1, hj, h3, run_keyThatStays hk, MapKept.run_setObj_map _ hq, Result.andThen]
    · intro x hx
      rcases hmem x hx with ⟨hx1, hx2⟩ | ⟨hx1, hx2⟩
      · obtain ⟨m, r, k1, k2, k3⟩ := hQ.reads x hx1
        refine ⟨m, r, k1, ?_, k3⟩
        unfold updQ
        rw [if_neg (fun e => hx2 (by rw [k1, e])), k2]
      · exact ⟨n, l, hx1, by simp [updQ], hx2⟩
    · intro m r h
      have hks := modify_keys (es := es) j (fun e => { e with key := .int .i64 n, val := .agg (u64s l).toArray }) hkey
      have : (Value.int .i64 m) ∈ es.toList.map (·.key) := by
        unfold updQ at h
        split at h
        · rename_i hmn; subst hmn; exact List.mem_map.2 ⟨e, Array.mem_toList_iff.2 (Array.mem_of_getElem? hj), h3⟩
        · obtain ⟨x, hx, hxk⟩ := hQ.all m r h
          exact List.mem_map.2 ⟨x, hx, hxk⟩
      rw [← hks] at this
      obtain ⟨x, hx, hxk⟩ := List.mem_map.1 this
      exact ⟨x, hx, hxk⟩
end Go.Proofs.Ytpecgfpofihibaa
