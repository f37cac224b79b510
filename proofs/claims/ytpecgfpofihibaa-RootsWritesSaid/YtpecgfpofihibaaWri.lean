/-
  roots.Write, whatever function stores.
-/
import Derived.Test.YtpecgfpofihibaaSal
import Derived.Deep.DeepCutAuto
namespace Go.Proofs.Ytpecgfpofihibaa
open Go Go.RowKit Go.MapKept Go.Shelf

/-- Some elements more. -/
theorem Own.pushN {T e : TypeId} {sz bytes : Nat} (ht : ElT T e sz bytes) {W : World} {base n m : Nat} {xs : List Value} {v : Value} (h : Own W base e sz n xs v) (ad : Addr) (c : Nat) (news : List Value) (hm : 0 < m) (hl : news.length = m * sz)
    (hnews : ∀ j u, news[j]? = some u → W.cell? (ad.add j) = some u) (h1 : ∀ u ∈ news, u.oneCell' = true) (hn : n + m ≤ 100001) (hb : base ≤ W.heap.size) :
    ∃ g cap w', (∀ ty, (Builtin.append_ #[T, T] ty #[v, .slice (some ad) m c]).run Try.prog W = .ok (.slice (some ⟨g, 0, none⟩) (n + m) cap) w') ∧ Own w' base e sz (n + m) (xs ++ news) (.slice (some ⟨g, 0, none⟩) (n + m) cap) ∧
      Lef (fun k => v.ownBlock = some k) W w' ∧ (v.ownBlock = some g ∨ g = W.heap.size) ∧ g < w'.heap.size ∧ base ≤ g := by
  obtain ⟨i, z, hi, hz, hs, hy, hzs⟩ := ht.info
  have hsm := ht.small
  have hbd : (n + m) * bytes ≤ 140737488355328 := by
    have := Nat.mul_le_mul hn hsm
    omega
  obtain ⟨g, cap, w', hr, h2, h3, h4, h5⟩ := run_append_lies (P := Try.prog) W T 0 base e i z sz bytes ht.under hi hz hs hy hzs ht.pos v n xs h.own ad m c news hl hnews h1 hm (by unfold maxLen; omega) hbd hb W.heap.size rfl
  refine ⟨g, cap, w', fun ty => hr, ⟨⟨_, _, rfl⟩, h2⟩, lef_grownBy h3, h4, h5, ?_⟩
  rcases h4 with h4 | h4
  · exact (h.own.lt g h4).1
  · omega

/-- A slice that was just built. -/
theorem Own.of_new {W : World} {base g : Nat} {e : TypeId} {sz n : Nat} {cur : Array Value} (h : Is W g (.cells cur e (0, 0))) (hb : base ≤ g) (hs : cur.size = n * sz) (hn : n ≤ 100000) : Own W base e sz n cur.toList (.slice (some ⟨g, 0, none⟩) n n) := by
  refine ⟨⟨_, _, rfl⟩, by simpa using hs, .inr ⟨g, n, cur, rfl, hb, h, Nat.le_refl _, by unfold maxLen; omega, hs, ?_⟩⟩
  rw [List.take_of_length_le (by simpa using Nat.le_of_eq hs)]

/-- What is stored, word by word; the answer of the last. -/
def wst (ans : List (Int × Int) → Int) (D : DevS) (c : Cf) (ws : List Int) : Nat → List (Int × Int) × Int
  | 0 => ([], 0)
  | k + 1 => if D.at (c.act.toNat + k) = ws.getD k 0 ∨ (wst ans D c ws k).2 ≠ 0 then wst ans D c ws k
    else ((wst ans D c ws k).1 ++ [(c.act + (k : Nat), ws.getD k 0)], ans ((wst ans D c ws k).1 ++ [(c.act + (k : Nat), ws.getD k 0)]))
section
variable {ans : List (Int × Int) → Int} {D : DevS} {c : Cf} {ws : List Int}
theorem wst_skip {k : Nat} (h : D.at (c.act.toNat + k) = ws.getD k 0) : wst ans D c ws (k + 1) = wst ans D c ws k := if_pos (.inl h)
theorem wst_put {k : Nat} (h : D.at (c.act.toNat + k) ≠ ws.getD k 0) (h0 : (wst ans D c ws k).2 = 0) : wst ans D c ws (k + 1) = ((wst ans D c ws k).1 ++ [(c.act + (k : Nat), ws.getD k 0)], ans ((wst ans D c ws k).1 ++ [(c.act + (k : Nat), ws.getD k 0)])) :=
  if_neg (fun hh => by rcases hh with hh | hh; exact h hh; exact hh h0)
theorem wst_stop {k n : Nat} (h : (wst ans D c ws k).2 ≠ 0) (hk : k ≤ n) : wst ans D c ws n = wst ans D c ws k := by
  induction n with
  | zero => obtain rfl : k = 0 := by omega
            rfl
  | succ n ih =>
    by_cases hn : k = n + 1
    · rw [hn]
    · have ih := ih (by omega)
      rw [← ih]
      exact if_pos (.inr (by rw [ih]; exact h))
theorem wst_len (k : Nat) : (wst ans D c ws k).1.length ≤ k := by
  induction k with
  | zero => exact Nat.le_refl _
  | succ k ih =>
    by_cases h : D.at (c.act.toNat + k) = ws.getD k 0 ∨ (wst ans D c ws k).2 ≠ 0
    · rw [show wst ans D c ws (k + 1) = wst ans D c ws k from if_pos h]; omega
    · rw [show wst ans D c ws (k + 1) = _ from if_neg h]; simp; omega
end

/-- What Write has in memory. -/
structure WrS (c : Cf) (b0 base n : Nat) (ws : List Int) (sv : Value) (W : World) : Prop where
  cfg : Is W b0 (.cells #[.int .i64 c.L, .int .i64 c.R, .int .i64 c.S] 29 (0, 0))
  row : Own W base 38 1 n (u64s ws) sv
theorem WrS.lef {c : Cf} {b0 base n : Nat} {ws : List Int} {sv : Value} {W W' : World} {S : Nat → Prop} (s : WrS c b0 base n ws sv W) (hl : Lef S W W') (h0 : ¬ S b0) (h1 : ∀ k, sv.ownBlock = some k → ¬ S k) : WrS c b0 base n ws sv W' := ⟨s.cfg.lef hl h0, s.row.lef hl h1⟩
theorem WrS.grow {c : Cf} {b0 base n : Nat} {ws : List Int} {sv : Value} {W W' : World} (s : WrS c b0 base n ws sv W) (hl : Below W.heap.size W W') : WrS c b0 base n ws sv W' := ⟨s.cfg.grow hl, s.row.grow hl⟩

/-- The blocks that a store function may write: its own, and such as are made later, but those to be left. -/
def SAv (S0 : Nat → Prop) (B : Nat) (Av : Nat → Prop) (k : Nat) : Prop := S0 k ∨ (B ≤ k ∧ ¬ Av k)

theorem SlR.src {w : World} {b off : Nat} {l : List Int} (h : ∀ i (h : i < l.length), w.cell? ⟨b, off + i, none⟩ = some (.int .u64 l[i])) : ∀ j u, (u64s l)[j]? = some u → w.cell? ((⟨b, off, none⟩ : Addr).add j) = some u := by
  intro j u hj
  obtain ⟨hj1, hj2⟩ := List.getElem?_eq_some_iff.1 hj
  have hj1' : j < l.length := by simpa [u64s] using hj1
  have e : (⟨b, off, none⟩ : Addr).add j = ⟨b, off + j, none⟩ := by
    simp only [Addr.add]
    split
    · rename_i h; subst h; rfl
    · rfl
  rw [e, h j hj1', ← hj2]
  simp [u64s, u64v]

set_option maxRecDepth 100000 in
set_option maxHeartbeats 4000000 in
theorem rwrite_any {f : FuncId} {fst cap : Array Value} {h : DevH} {c : Cf} {S0 : Nat → Prop} {DD : List (Int × Int) → DevS} {ans : List (Int × Int) → Int} {J : (Nat → Prop) → List (Int × Int) → World → Prop} (D : DevS) (a u : Int) (roots : List Int) (rb ro rc : Nat) (w : World)
    (hst : ∀ Av, StF f fst cap h c.words (SAv S0 w.heap.size Av) DD ans (J Av)) (hJ : ∀ Av W, Below w.heap.size w W → (∀ k, Av k → w.heap.size ≤ k ∧ k < W.heap.size) → J Av [] W) (hS : ∀ k, S0 k → k < w.heap.size)
    (hc : c.ok) (hl : (roots.length : Int) = c.R) (hrb : rb < w.heap.size) (hr : ∀ i (h : i < roots.length), w.cell? ⟨rb, ro + i, none⟩ = some (.int .u64 roots[i])) (hru : ∀ x ∈ roots, U64 x) (a0 : 0 ≤ a) (a1 : a ≤ 1) (u0 : 0 ≤ u) (u1 : u ≤ c.S)
    (hD : ∀ k, k < roots.length + 2 → (DD (wst ans D c (a :: u :: roots) k).1).at (c.act.toNat + k) = D.at (c.act.toNat + k)) :
    Calls Try.prog 41 #[.pointer (some ⟨h.d, 0, none⟩), .agg #[.int .i64 c.L, .int .i64 c.R, .int .i64 c.S], .agg #[.int .i64 a, .int .i64 u, .slice (some ⟨rb, ro, none⟩) roots.length rc], .func (.func f) fst cap] w fun e w' =>
      e = .returned (.int .i64 (wst ans D c (a :: u :: roots) (roots.length + 2)).2) ∧ (∃ Av, J Av (wst ans D c (a :: u :: roots) (roots.length + 2)).1 w') ∧ Lef S0 w w' := by
  obtain ⟨na0, na1, nf0, nf1, ns0, ns1, nw, nw0, nw1, nr0, nr1, nsp0, nsp1⟩ := hc.nums
  have nwa : c.act + 2 + c.R ≤ c.words := by omega
  have hwl : (a :: u :: roots).length = roots.length + 2 := rfl
  have hwu : ∀ k, k < roots.length + 2 → U64 ((a :: u :: roots).getD k 0) := fun k hk => by
    match k, hk with
    | 0, _ => exact ⟨a0, by show a < _; omega⟩
    | 1, _ => exact ⟨u0, by show u < _; omega⟩
    | k + 2, hk =>
      have : (a :: u :: roots).getD (k + 2) 0 = roots[k]'(by omega) := by simp [List.getD_eq_getElem?_getD, List.getElem?_eq_getElem (show k < roots.length by omega)]
      rw [this]
      exact hru _ (List.getElem_mem _)
  have hent := (hst (fun _ => False)).ent
  have i1 := (Is.new w (.cells #[.int .i64 c.L, .int .i64 c.R, .int .i64 c.S] 29)).alloc (.cells #[.int .i64 a, .int .i64 u, .slice (some ⟨rb, ro, none⟩) roots.length rc] 57)
  have j1 := Is.new (w.alloc (.cells #[.int .i64 c.L, .int .i64 c.R, .int .i64 c.S] 29)) (.cells #[.int .i64 a, .int .i64 u, .slice (some ⟨rb, ro, none⟩) roots.length rc] 57)
  rw [World.size_alloc] at j1
  have b1 : Below w.heap.size w ((w.alloc (.cells #[.int .i64 c.L, .int .i64 c.R, .int .i64 c.S] 29)).alloc (.cells #[.int .i64 a, .int .i64 u, .slice (some ⟨rb, ro, none⟩) roots.length rc] 57)) := ((Below.refl _ _).alloc (Nat.le_refl _) _).alloc (by simp) _
  have hsz1 : ((w.alloc (.cells #[.int .i64 c.L, .int .i64 c.R, .int .i64 c.S] 29)).alloc (.cells #[.int .i64 a, .int .i64 u, .slice (some ⟨rb, ro, none⟩) roots.length rc] 57)).heap.size = w.heap.size + 1 + 1 := by simp
  obtain ⟨n, hnn⟩ : ∃ n, roots.length + 2 = n := ⟨_, rfl⟩
  rw [hnn] at hwu hD ⊢
  obtain ⟨ws, hws⟩ : ∃ ws, a :: u :: roots = ws := ⟨_, rfl⟩
  rw [hws] at hwu hD hwl ⊢
  rw [hnn] at hwl
  have HWL := Lib.hid hwl
  have hap0 : u64s [a, u] ++ u64s roots = u64s ws := by rw [← hws]; rfl
  have HE3 := Lib.hid hap0
  clear hws hap0
  have HWU := Lib.hid hwu
  have HD := Lib.hid hD
  have HNR := Lib.hid (show (n : Int) = c.R + 2 by omega)
  have hnR2 : n ≤ 18 := by omega
  have hnR3 : (n : Int) ≤ c.R + 2 := by omega
  have HNN := Lib.hid (show 2 + roots.length = n by omega)
  have hl1 : 1 ≤ roots.length := by omega
  have hl2 : roots.length ≤ 16 := by omega
  have HSZ := Lib.hid hsz1
  clear nw hwu hD hwl hsz1 hl hnn
  go_enter Try.func41, Try.ntmps41
  go_upto_region 1 with (fail)
  generalize (w.alloc (.cells #[.int .i64 c.L, .int .i64 c.R, .int .i64 c.S] 29)).alloc (.cells #[.int .i64 a, .int .i64 u, .slice (some ⟨rb, ro, none⟩) roots.length rc] 57) = w1 at *
  obtain ⟨c3, c4, c5⟩ := j1.c3
  have zj := j1.lt
  have zj2 : w.heap.size + 1 < w1.heap.size + 1 := by omega
  have n2 := Is.new w1 (.cells #[.int .u64 a, .int .u64 u] 38)
  have own2 : Own (w1.alloc (.cells #[.int .u64 a, .int .u64 u] 38)) w1.heap.size 38 1 2 (u64s [a, u]) (.slice (some ⟨w1.heap.size, 0, none⟩) 2 2) := Own.of_new n2 (Nat.le_refl _) rfl (by decide)
  have d2 : Below w1.heap.size w1 (w1.alloc (.cells #[.int .u64 a, .int .u64 u] 38)) := (Below.refl _ _).alloc (Nat.le_refl _) _
  have b2 := Below.grown_trans b1 d2
  have i2 := i1.grow d2
  obtain ⟨g, gc, w3, hap, own3, lf3, hg3, hglt, hgb⟩ := own2.pushN elT_u64 ⟨rb, ro, none⟩ rc (u64s roots) (m := roots.length) (by omega) (by simp) (SlR.src (fun i hi => (b2.cell (p := ⟨rb, ro + i, none⟩) hrb).trans (hr i hi))) (by simp [u64s, u64v, Value.oneCell']) (by omega) d2.size
  have hb1 : w1.heap.size = w.heap.size + 1 + 1 := HSZ.out
  have b3 := b2.trans (lf3.below (fun q hq => by simp [Value.ownBlock] at hq; omega) b2.size)
  have i3 := i2.lef lf3 (fun hq => by simp [Value.ownBlock] at hq; omega)
  rw [HE3.out] at own3
  rw [HNN.out] at own3 hap
  have HAP := Lib.hid hap
  clear n2 own2 d2 b2 i2 lf3 hg3 hap hb1 i1 j1 b1 hr
  go_wp2_with (at_builtin; refine wpList_append_run rfl _ _ _ rfl _ _ _ rfl rfl HAP.out ?_)
  have hgw : w.heap.size ≤ g := by have := HSZ.out; omega
  have hJ3 : J (fun k => k = w.heap.size ∨ k = g) [] w3 := hJ _ _ b3 (fun k hk => by have := i3.lt; omega)
  have hst := hst (fun k => k = w.heap.size ∨ k = g)
  have s3 : WrS c w.heap.size w1.heap.size n ws (.slice (some ⟨g, 0, none⟩) n gc) w3 := ⟨i3, own3⟩
  have hn1 : (SAv S0 w.heap.size (fun k => k = w.heap.size ∨ k = g)) w.heap.size → False := fun hq => by
    rcases hq with hq | ⟨_, hq⟩
    · have := hS _ hq; omega
    · exact hq (.inl rfl)
  have hn2 : ∀ k, (Value.slice (some ⟨g, 0, none⟩) n gc).ownBlock = some k → ¬ (SAv S0 w.heap.size (fun k => k = w.heap.size ∨ k = g)) k := fun k hk hq => by
    have hk' : k = g := by simpa [Value.ownBlock] using hk.symm
    subst hk'
    rcases hq with hq | ⟨_, hq⟩
    · have := hS _ hq; omega
    · exact hq (.inr rfl)
  have L3 : Lef (SAv S0 w.heap.size (fun k => k = w.heap.size ∨ k = g)) w w3 := Lef.of_below b3
  have hfin : ∀ wx, Lef (SAv S0 w.heap.size (fun k => k = w.heap.size ∨ k = g)) w wx → Lef S0 w wx := fun wx hl => ⟨hl.os, hl.tape, hl.output, hl.size, fun k hk hn => hl.block k hk (fun hq => by
    rcases hq with hq | ⟨hq, _⟩
    · exact hn hq
    · omega)⟩
  have HFIN := Lib.hid hfin
  have HN1 := Lib.hid hn1
  have HN2 := Lib.hid hn2
  clear i3 own3 b3 hgb hglt hJ hS hn1 hn2 hfin c3 c4 c5 zj zj2 HAP HSZ hgw
  generalize w1.heap.size = base at *
  go_wp2_with fail
  go_loopw [26] (fun i wr => ∃ k : Nat, k ≤ n ∧ i = .int .i64 k ∧ (wst ans D c ws k).2 = 0 ∧ J (fun k => k = w.heap.size ∨ k = g) (wst ans D c ws k).1 wr ∧ WrS c w.heap.size base n ws (.slice (some ⟨g, 0, none⟩) n gc) wr ∧ Lef (SAv S0 w.heap.size (fun k => k = w.heap.size ∨ k = g)) w wr)
    (fun i _ => n - (intOf i).toNat)
  case atStart => exact ⟨0, by omega, rfl, rfl, hJ3, s3, L3⟩
  case round =>
    obtain ⟨k, hk, rfl, h0, hJr, sr, Lr⟩ := hrel
    clear hJ3 s3 L3
    have H0 := Lib.hid h0
    clear h0
    by_cases hlt : k < n
    · have hnR := HNR.out
      have hxu := HWU.out k hlt
      have hD := HD.out k hlt
      have hcx : wr.cell? ⟨g, k, none⟩ = some (.int .u64 (ws.getD k 0)) := by
        have hkl : k < ws.length := by rw [HWL.out]; exact hlt
        obtain ⟨g', he, _, _, hc⟩ := sr.row.cell k (by simpa using hkl)
        cases he
        rw [hc, List.getD_eq_getElem?_getD, List.getElem?_eq_getElem hkl]
        simp [u64s, u64v]
      have hsk := fun e => wst_skip (ans := ans) (D := D) (c := c) (ws := ws) (k := k) e
      have hpt := fun e => wst_put (ans := ans) (D := D) (c := c) (ws := ws) (k := k) e H0.out
      have hsp := fun e => wst_stop (ans := ans) (D := D) (c := c) (ws := ws) (k := k + 1) (n := n) e (by omega)
      have hlen := wst_len (ans := ans) (D := D) (c := c) (ws := ws) k
      have kl := fun w (hd : Dev w h (DD (wst ans D c ws k).1)) => load_at h _ (c.act + k) w hd (by omega)
      rw [show (c.act + (k : Int)).toNat = c.act.toNat + k from by omega, hD] at kl
      have hdv := hst.dev (wst ans D c ws k).1
      have hca := fun W hJ => hst.call (wst ans D c ws k).1 W (c.act + k) (ws.getD k 0) (by omega) hJ (by omega) (by omega) hxu
      have hbd := hst.bd ((wst ans D c ws k).1 ++ [(c.act + (k : Nat), ws.getD k 0)])
      have hgr := hst.grow
      clear hD hlen
      generalize ws.getD k 0 = x at *
      generalize D.at (c.act.toNat + k) = y at *
      have HSK := Lib.hid hsk
      have HPT := Lib.hid hpt
      have HSP := Lib.hid hsp
      obtain ⟨hx0, hx1⟩ := hxu
      clear hsk hpt hsp hnR
      obtain ⟨c0, c1, c2⟩ := sr.cfg.c3
      go_wp2_with fail
      refine (active_lit c _ hc).mono ?_
      rintro e w4 ⟨rfl, d4⟩
      have hJ4 := hgr _ _ _ hJr d4
      have s4 := sr.grow d4
      have L4 := Lr.trans (Lef.of_below d4)
      clear hJr sr Lr d4 c0 c1 c2 hcx
      go_wp2_with fail
      refine (kl _ (hdv _ hJ4)).mono ?_
      rintro e w5 ⟨rfl, rfl⟩
      clear kl hdv
      by_cases hxy : y = x
      · have hb : (y == x) = true := by simpa using hxy
        clear hca hbd
        go_wp2_with fail
        go_roundw
        case rel => exact ⟨k + 1, by omega, by go_num, by rw [HSK.out hxy]; exact H0.out, by rw [HSK.out hxy]; exact hJ4, s4, L4⟩
        case measure => simp [intOf]; omega
      · have hb : (y == x) = false := by simpa using hxy
        have hca4 := hca _ hJ4
        have HE := Lib.hid (HPT.out hxy)
        generalize hr1 : ans ((wst ans D c ws k).1 ++ [(c.act + (k : Nat), x)]) = r1 at *
        have HR1 := Lib.hid hr1
        clear hr1 hca
        obtain ⟨r10, r11⟩ := hbd
        go_wp2_with fail
        refine hca4.mono ?_
        rintro e w6 ⟨rfl, hJ6, L6⟩
        have s6 := s4.lef L6 HN1.out HN2.out
        have L6 := L4.trans L6
        clear hca4 hJ4 s4 L4
        by_cases hz : r1 = 0
        · subst hz
          clear r10 r11
          go_wp2_with fail
          go_roundw
          case rel => exact ⟨k + 1, by omega, by go_num, by rw [HE.out], by rw [HE.out]; exact hJ6, s6, L6⟩
          case measure => simp [intOf]; omega
        · go_wp2_with fail
          go_ret
          have hs2 : (wst ans D c ws (k + 1)).2 = r1 := by rw [HE.out]
          have hs1 : (wst ans D c ws (k + 1)).1 = (wst ans D c ws k).1 ++ [(c.act + (k : Nat), x)] := by rw [HE.out]
          have hst := HSP.out (by rw [hs2]; exact hz)
          exact ⟨by rw [hst, hs2]; rfl, ⟨_, by rw [hst, hs1]; exact hJ6⟩, HFIN.out _ L6⟩
    · go_wp2_with fail
      go_ret
      obtain rfl : k = n := by omega
      exact ⟨by show Ending.returned (.int .i64 0) = _; rw [H0.out], ⟨_, hJr⟩, HFIN.out _ Lr⟩
end Go.Proofs.Ytpecgfpofihibaa
