/-
  Slices that a call makes itself, by appends; results in cells.
-/
import Derived.Test.YtpecgfpofihibaaLit
import Derived.Deep.AppendLies
import Derived.Deep.DrawnRows
namespace Go.Proofs.Ytpecgfpofihibaa
open Go Go.RowKit Go.MapKept

/-- A slice of a call's own, from base on: n elements of sz cells each. -/
structure Own (W : World) (base : Nat) (e : TypeId) (sz n : Nat) (xs : List Value) (v : Value) : Prop where
  form : ∃ a cap, v = .slice a n cap
  own : W.ownsRow base e sz v n xs

theorem Own.nil (W : World) (base : Nat) (e : TypeId) (sz : Nat) : Own W base e sz 0 [] (.slice none 0 0) := ⟨⟨none, 0, rfl⟩, by simp, .inl ⟨rfl, rfl⟩⟩
theorem Own.lt {W : World} {base : Nat} {e : TypeId} {sz n : Nat} {xs : List Value} {v : Value} (h : Own W base e sz n xs v) : ∀ k, v.ownBlock = some k → base ≤ k ∧ k < W.heap.size := h.own.lt
theorem Own.lef {W W' : World} {base : Nat} {e : TypeId} {sz n : Nat} {xs : List Value} {v : Value} {S : Nat → Prop} (h : Own W base e sz n xs v) (hl : Lef S W W') (hS : ∀ k, v.ownBlock = some k → ¬ S k) : Own W' base e sz n xs v := by
  refine ⟨h.form, h.own.1, ?_⟩
  rcases h.own.2 with h1 | ⟨g, cap, cur, hv, hg, hh, rest⟩
  · exact .inl h1
  · exact .inr ⟨g, cap, cur, hv, hg, Is.lef (o := .cells cur e (0, 0)) hh hl (hS g (by rw [hv]; rfl)), rest⟩
theorem Own.grow {W W' : World} {base : Nat} {e : TypeId} {sz n : Nat} {xs : List Value} {v : Value} (h : Own W base e sz n xs v) (hb : Below W.heap.size W W') : Own W' base e sz n xs v :=
  h.lef (Lef.of_below (S := fun _ => False) hb) (fun _ _ => id)
theorem Own.base {W : World} {base base' : Nat} {e : TypeId} {sz n : Nat} {xs : List Value} {v : Value} (h : Own W base e sz n xs v) (hb : base' ≤ base) : Own W base' e sz n xs v := by
  refine ⟨h.form, h.own.1, ?_⟩
  rcases h.own.2 with h1 | ⟨g, cap, cur, hv, hg, rest⟩
  · exact .inl h1
  · exact .inr ⟨g, cap, cur, hv, Nat.le_trans hb hg, rest⟩
theorem Own.num {W : World} {base : Nat} {e : TypeId} {sz n : Nat} {xs : List Value} {a : Option Addr} {m cap : Nat} (h : Own W base e sz n xs (.slice a m cap)) : m = n := by
  obtain ⟨a', cap', hv⟩ := h.form
  injection hv
theorem Own.cell {W : World} {base : Nat} {e : TypeId} {sz n : Nat} {xs : List Value} {a : Option Addr} {m cap : Nat} (h : Own W base e sz n xs (.slice a m cap)) (j : Nat) (hj : j < xs.length) : ∃ g, a = some ⟨g, 0, none⟩ ∧ base ≤ g ∧ g < W.heap.size ∧ W.cell? ⟨g, j, none⟩ = some xs[j] := by
  rcases h.own.2 with ⟨_, h2⟩ | ⟨g, cp, cur, hv, hg, hh, h1, h2, h3, h4⟩
  · have := h.own.1; rw [h2] at this; simp at this; subst this; simp at hj
  · injection hv with hv _ _
    refine ⟨g, hv, hg, (Array.getElem?_eq_some_iff.1 hh).1, ?_⟩
    have hc : W.cell? ⟨g, j, none⟩ = cur[j]? := by simp [World.cell?, hh]
    rw [hc]
    have : (cur.toList.take (n * sz))[j]? = xs[j]? := by rw [h4]
    rw [List.getElem?_take] at this
    split at this
    · rw [Array.getElem?_toList] at this; rw [this, List.getElem?_eq_getElem hj]
    · rename_i hlt; have := h.own.1; omega

theorem lef_grownBy {W W' : World} {row : Option Nat} (hg : W.grownBy W' row) : Lef (fun k => row = some k) W W' :=
  ⟨hg.os, hg.tape, hg.output, hg.size, fun k hk hn => hg.block k hk (fun e => hn e.symm)⟩

/-- What is known of an element's type. -/
structure ElT (T e : TypeId) (sz bytes : Nat) : Prop where
  under : Try.prog.underlying T = some (.slice e)
  info : ∃ i z, Try.prog.info? e = some i ∧ i.zero = some z ∧ i.size = sz ∧ i.bytes = bytes ∧ z.cells.size = sz
  pos : 0 < sz
  small : bytes ≤ 1000

/-- One element more. -/
theorem Own.push {T e : TypeId} {sz bytes : Nat} (ht : ElT T e sz bytes) {W : World} {base n : Nat} {xs : List Value} {v : Value} (h : Own W base e sz n xs v) (ad : Addr) (c : Nat) (news : List Value) (hl : news.length = sz)
    (hnews : ∀ j u, news[j]? = some u → W.cell? (ad.add j) = some u) (h1 : ∀ u ∈ news, u.oneCell' = true) (hn : n ≤ 100000) (hb : base ≤ W.heap.size) :
    ∃ g cap w', (∀ ty, (Builtin.append_ #[T, T] ty #[v, .slice (some ad) 1 c]).run Try.prog W = .ok (.slice (some ⟨g, 0, none⟩) (n + 1) cap) w') ∧ Own w' base e sz (n + 1) (xs ++ news) (.slice (some ⟨g, 0, none⟩) (n + 1) cap) ∧
      Lef (fun k => v.ownBlock = some k) W w' ∧ (v.ownBlock = some g ∨ g = W.heap.size) ∧ g < w'.heap.size ∧ base ≤ g := by
  obtain ⟨i, z, hi, hz, hs, hy, hzs⟩ := ht.info
  have hsm := ht.small
  have hbd : (n + 1) * bytes ≤ 140737488355328 := by
    have := Nat.mul_le_mul (show n + 1 ≤ 100001 by omega) hsm
    omega
  obtain ⟨g, cap, w', hr, h2, h3, h4, h5⟩ := run_append_lies (P := Try.prog) W T 0 base e i z sz bytes ht.under hi hz hs hy hzs ht.pos v n xs h.own ad 1 c news (by simpa using hl) hnews h1 (by decide) (by unfold maxLen; omega) hbd hb W.heap.size rfl
  refine ⟨g, cap, w', fun ty => hr, ⟨⟨_, _, rfl⟩, h2⟩, lef_grownBy h3, h4, h5, ?_⟩
  rcases h4 with h4 | h4
  · exact (h.own.lt g h4).1
  · omega

/-- An append whose run is known, at a single operation. -/
theorem wp_append_run {P : Program} {w w' : World} {o : Oper} {a : Act} {K : Act → World → Prop} {Q : Exit → Act → World → Prop} (s x : Operand) (T : TypeId)
    (ho : o.op = .call { callee := .builtin .append, args := #[s, x], argTypes := #[T, T] }) (v xv v' : Value) (hs : a.eval s = v) (hx : a.eval x = xv)
    (hrun : ∀ ty, (Builtin.append_ #[T, T] ty #[v, xv]).run P w = .ok v' w') (h : K (a.put o.dst v') w') : o.wp P a w K Q := by
  unfold Oper.wp execOp
  simp only [ho, resolve, invoke, builtin, Sem.run_bind, Sem.run_pure, Result.andThen_ok, List.map_toArray, List.map_cons, List.map_nil, hs, hx, hrun]
  exact h

/-- Numbers, as a slice that can be read. -/
theorem Own.slR {W : World} {base : Nat} {l : List Int} {v : Value} (h : Own W base 38 1 l.length (u64s l) v) : SlR W v l := by
  obtain ⟨a, cap, rfl⟩ := h.form
  refine ⟨a, cap, rfl, ?_⟩
  rcases Nat.eq_zero_or_pos l.length with h0 | h0
  · exact .inl (List.length_eq_zero_iff.1 h0)
  · right
    obtain ⟨g, rfl, _, hlt, _⟩ := h.cell 0 (by simpa using h0)
    refine ⟨g, 0, rfl, hlt, fun i hi => ?_⟩
    obtain ⟨g', he, _, _, hc⟩ := h.cell i (by simpa using hi)
    cases he
    rw [Nat.zero_add, hc]
    simp [u64s, u64v]

theorem elT_mk {T e : TypeId} {sz bytes : Nat} {z : Value} (hu : Try.prog.underlying T = some (.slice e)) (hi : (Try.prog.info? e).map (fun i => (i.zero, i.size, i.bytes)) = some (some z, sz, bytes)) (hz : z.cells.size = sz) (hp : 0 < sz) (hs : bytes ≤ 1000) : ElT T e sz bytes := by
  obtain ⟨i0, h0, h1, h2, h3⟩ := info_parts hi
  exact ⟨hu, ⟨i0, z, h0, h1, h2, h3, hz⟩, hp, hs⟩
theorem elT_u64 : ElT 25 38 1 8 := elT_mk (z := .int .u64 0) Try.underlying25 (by kernel_rfl) rfl (by decide) (by decide)
theorem elT_int : ElT 37 3 1 8 := elT_mk (z := .int .i64 0) Try.underlying37 (by kernel_rfl) rfl (by decide) (by decide)

theorem results_bool {fn : Func} {p : Tmp} (h : fn.results = #[.cell p 4]) (tmps : Array Value) (w : World) (g : Nat) {b : Bool} (hp : tmps.getD p undef = .pointer (some ⟨g, 0, none⟩)) (hc : w.cell? ⟨g, 0, none⟩ = some (.bool b)) :
    (results fn tmps).run Try.prog w = .ok (.bool b) w := by
  have hp' : tmps[p]?.getD undef = .pointer (some ⟨g, 0, none⟩) := by simpa using hp
  simp [results, h, hp', asAddr, go_sem, hc]
end Go.Proofs.Ytpecgfpofihibaa
