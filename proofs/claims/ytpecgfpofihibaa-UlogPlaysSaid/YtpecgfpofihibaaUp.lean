/-
  tumuluslaw06.UlogPlays: the walk.
-/
import Derived.Test.YtpecgfpofihibaaUpp
import Derived.Test.YtpecgfpofihibaaGood
import Derived.Test.YtpecgfpofihibaaMk
import Derived.Test.YtpecgfpofihibaaQn
import Derived.Deep.AppendLies
import Derived.Deep.DrawnRows
namespace Go.Proofs.Ytpecgfpofihibaa
open Go Go.RowKit Go.MapKept Go.Shelf
attribute [local go_sem] Oper.semAt_some

/-- Words that are stored, handed in. -/
def AlR (w : World) (v : Value) (l : List (Int × Int)) : Prop :=
  ∃ a cap, v = .slice a l.length cap ∧ (l = [] ∨ ∃ b off, a = some ⟨b, off, none⟩ ∧ b < w.heap.size ∧
    ∀ i (h : i < l.length), w.cell? ⟨b, off + i * 2, none⟩ = some (.int .u16 l[i].1) ∧ w.cell? ⟨b, off + i * 2 + 1, none⟩ = some (.int .u64 l[i].2))

theorem AlR.grow {w w' : World} {v : Value} {l : List (Int × Int)} (h : AlR w v l) (hb : Below w.heap.size w w') : AlR w' v l := by
  obtain ⟨a, cap, hv, h⟩ := h
  refine ⟨a, cap, hv, h.imp id ?_⟩
  rintro ⟨b, off, ha, hlt, hc⟩
  exact ⟨b, off, ha, Nat.lt_of_lt_of_le hlt hb.size, fun i hi => ⟨(hb.cell (p := ⟨b, off + i * 2, none⟩) hlt).trans (hc i hi).1, (hb.cell (p := ⟨b, off + i * 2 + 1, none⟩) hlt).trans (hc i hi).2⟩⟩

theorem Try.infoint : (Try.prog.info? 3).map (fun i => (i.zero, i.size, i.bytes)) = some (some (.int .i64 0), 1, 8) := by kernel_rfl

def i64s (l : List Int) : List Value := l.map (.int .i64)
@[simp] theorem i64s_len (l : List Int) : (i64s l).length = l.length := by simp [i64s]

/-- A variable's value: a row of its own, from base on. -/
structure OwnV (W : World) (base : Nat) (e : TypeId) (l : List Value) (v : Value) : Prop where
  form : ∃ a cap, v = .slice a l.length cap
  own : W.ownsRow base e 1 v l.length l

theorem OwnV.nil (W : World) (base : Nat) (e : TypeId) : OwnV W base e [] (.slice none 0 0) := ⟨⟨none, 0, rfl⟩, by simp, .inl ⟨rfl, rfl⟩⟩

theorem OwnV.kept {W W' : World} {base : Nat} {e : TypeId} {l : List Value} {v : Value} {row : Option Nat} (h : OwnV W base e l v) (hg : W.grownBy W' row) (hne : v.ownBlock = none ∨ v.ownBlock ≠ row) : OwnV W' base e l v := ⟨h.form, h.own.kept hg hne⟩
theorem OwnV.grow {W W' : World} {base : Nat} {e : TypeId} {l : List Value} {v : Value} (h : OwnV W base e l v) (hb : Below W.heap.size W W') : OwnV W' base e l v :=
  h.kept (grownBy_of_below hb) (by cases hv : v.ownBlock with | none => exact .inl rfl | some g => exact .inr (by simp))
theorem OwnV.lef {W W' : World} {base : Nat} {e : TypeId} {l : List Value} {v : Value} {S : Nat → Prop} (h : OwnV W base e l v) (hl : Lef S W W') (hS : ∀ k, S k → k < base) : OwnV W' base e l v := by
  refine ⟨h.form, h.own.1, ?_⟩
  rcases h.own.2 with h1 | ⟨g, cap, cur, hv, hg, hh, h2, h3, h4, h5⟩
  · exact .inl h1
  · refine .inr ⟨g, cap, cur, hv, hg, ?_, h2, h3, h4, h5⟩
    exact Is.lef (o := .cells cur e (0, 0)) hh hl (fun hs => by have := hS g hs; omega)

/-- What UlogPlays has in memory between two rounds, beside the device and the log. -/
structure PRest (w : World) (c : Cf) (cb wb pb qb base : Nat) (was pls wds : List Int) (v v' : Value) (W : World) : Prop where
  cfg : Is W cb (.cells #[.int .i64 c.L, .int .i64 c.R, .int .i64 c.S] 29 (0, 0))
  res : Is W (w.heap.size + 1) (.cells #[.bool false] 4 (0, 0))
  was : Sl W wb c.act.toNat was
  rp : Is W pb (.cells #[v] 37 (0, 0))
  rq : Is W qb (.cells #[v'] 25 (0, 0))
  op : OwnV W base 3 (i64s pls) v
  oq : OwnV W base 38 (u64s wds) v'
  apart : ∀ g, v.ownBlock = some g → v'.ownBlock ≠ some g
  bel : Below w.heap.size w W

theorem PRest.grow {w : World} {c : Cf} {cb wb pb qb base : Nat} {was pls wds : List Int} {v v' : Value} {W W' : World} (h : PRest w c cb wb pb qb base was pls wds v v' W) (hb : Below W.heap.size W W') : PRest w c cb wb pb qb base was pls wds v v' W' := by
  obtain ⟨h1, h2, h3, h4, h5, h6, h7, h8, h9⟩ := h
  exact ⟨h1.grow hb, h2.grow hb, h3.grow hb, h4.grow hb, h5.grow hb, h6.grow hb, h7.grow hb, h8, Below.grown_trans h9 hb⟩

theorem PRest.lef {w : World} {c : Cf} {cb wb pb qb base : Nat} {was pls wds : List Int} {v v' : Value} {W W' : World} {S : Nat → Prop} (h : PRest w c cb wb pb qb base was pls wds v v' W) (hl : Lef S W W')
    (hS : ∀ k, S k → k < base ∧ w.heap.size + 1 < k ∧ k ≠ cb ∧ k ≠ wb ∧ k ≠ pb ∧ k ≠ qb) : PRest w c cb wb pb qb base was pls wds v v' W' := by
  obtain ⟨h1, h2, h3, h4, h5, h6, h7, h8, h9⟩ := h
  exact ⟨h1.lef hl (fun hs => (hS _ hs).2.2.1 rfl), h2.lef hl (fun hs => by have := (hS _ hs).2.1; omega), h3.lef hl (fun hs => (hS _ hs).2.2.2.1 rfl),
    h4.lef hl (fun hs => (hS _ hs).2.2.2.2.1 rfl), h5.lef hl (fun hs => (hS _ hs).2.2.2.2.2 rfl), h6.lef hl (fun k hk => (hS k hk).1), h7.lef hl (fun k hk => (hS k hk).1), h8,
    h9.trans (hl.below (fun k hk => by have := (hS k hk).2.1; omega) h9.size)⟩

theorem PRest.grownBy {w : World} {c : Cf} {cb wb pb qb base : Nat} {was pls wds : List Int} {v v' : Value} {W W' : World} {row : Option Nat} {B : Nat} (h : PRest w c cb wb pb qb base was pls wds v v' W) (hg : W.grownBy W' row) (hr : ∀ r, row = some r → B ≤ r)
    (h1 : cb < B ∧ w.heap.size + 1 < B ∧ wb < B ∧ pb < B ∧ qb < B) (h2 : ∀ g, v.ownBlock = some g → g < B) (h3 : ∀ g, v'.ownBlock = some g → g < B) : PRest w c cb wb pb qb base was pls wds v v' W' := by
  obtain ⟨a1, a2, a3, a4, a5, a6, a7, a8, a9⟩ := h
  have hl := lef_of_grownBy (B := B) hg hr
  have hne : ∀ u : Value, (∀ g, u.ownBlock = some g → g < B) → u.ownBlock = none ∨ u.ownBlock ≠ row := fun u hu => by
    cases hq : u.ownBlock with
    | none => exact .inl rfl
    | some g => exact .inr (fun he => by have e1 := hu g hq; have e2 := hr g he.symm; omega)
  exact ⟨a1.lef hl (by omega), a2.lef hl (by omega), a3.lef hl (by omega), a4.lef hl (by omega), a5.lef hl (by omega), a6.kept hg (hne v h2), a7.kept hg (hne v' h3), a8, a9.trans (hl.below (fun q hq => by omega) a9.size)⟩

/-- What UlogPlays has in memory between two rounds. -/
structure PMem (w : World) (h : DevH) (c : Cf) (cb lb wb pb qb base : Nat) (was : List Int) (s : PS) (W : World) : Prop where
  dev : Dev W h s.D
  log : Is W lb (lgc h c 1 s.pls.length)
  rest : ∃ v v', PRest w c cb wb pb qb base was s.pls s.wds v v' W

theorem results_bool {fn : Func} {p : Tmp} (h : fn.results = #[.cell p 4]) (tmps : Array Value) (w : World) (g : Nat) {b : Bool} (hp : tmps.getD p undef = .pointer (some ⟨g, 0, none⟩)) (hc : w.cell? ⟨g, 0, none⟩ = some (.bool b)) :
    (results fn tmps).run Try.prog w = .ok (.bool b) w := by
  have hp' : tmps[p]?.getD undef = .pointer (some ⟨g, 0, none⟩) := by simpa using hp
  simp [results, h, hp', asAddr, go_sem, hc]

/-- What region 43 reads. -/
structure RS (h : DevH) (c : Cf) (cb lb x2 : Nat) (ep : Int) (W : World) : Prop where
  cfg : Is W cb (.cells #[.int .i64 c.L, .int .i64 c.R, .int .i64 c.S] 29 (0, 0))
  log : Is W lb (lgc h c ep 0)
  log2 : Is W x2 (lgc h c ep 0)
theorem RS.grow {h : DevH} {c : Cf} {cb lb x2 : Nat} {ep : Int} {W W' : World} (r : RS h c cb lb x2 ep W) (hb : Below W.heap.size W W') : RS h c cb lb x2 ep W' := ⟨r.cfg.grow hb, r.log.grow hb, r.log2.grow hb⟩

theorem undo_ps {c : Cf} {old : List Int} {s : PS} (hP : PInv c old s) (hc : c.ok) (h : DevH) (lb : Nat) (w : World) (hd : Dev w h s.D) (hl : Is w lb (lgc h c 1 s.pls.length)) (hlb : lb < h.lo ∨ h.hi ≤ lb) :
    Calls Try.prog 32 #[.pointer (some ⟨lb, 0, none⟩)] w fun e w' => e = .returned (.tuple #[]) ∧ Dev w' h (s.undone c) ∧ Is w' lb (lgc h c s.ep 0) ∧ Lef (dl h lb) w w' := by
  obtain ⟨r1, r2, l1, l2, s1, s2⟩ := id hc
  obtain ⟨a1, a2, a3, f1, f2, f3, t1, t2, t3⟩ := c.bds
  have hw : c.words = c.fr0 + 2 * ln c.S := rfl
  have hlen := hP.len
  have hle := hP.le
  by_cases h0 : s.pls.length = 0
  · have e1 : s.undone c = s.D := by unfold PS.undone; rw [if_pos h0]
    have e2 : s.ep = 1 := by unfold PS.ep; rw [if_pos h0]
    rw [e1, e2]
    rw [h0] at hl
    exact undo_none h s.D c lb 1 w hd hl hlb
  · have e1 : s.undone c = ((s.D.undo (pf c s.pls) (wf s.wds) (idx s.pls.length)).fence).trunc 1 := by unfold PS.undone; rw [if_neg h0]
    have e2 : s.ep = 2 := by unfold PS.ep; rw [if_neg h0]
    rw [e1, e2]
    exact undo_any h s.D c lb 1 s.pls.length (pf c s.pls) (wf s.wds) w hd hl hlb (by omega) (by decide) (by decide) (by omega) (by omega) (fun k => by have := pf_bd hP hc k; omega) (wf_bd hP) (fun k hk => (hP.recs k hk).2)

set_option maxRecDepth 100000 in
set_option maxHeartbeats 4000000 in
theorem plays_walk (cl cr cs : Int) (old : List Int) (ov : Value) (al : List (Int × Int)) (av : Value) (w : World) (h1 : 0 ≤ cl ∧ cl < 65536) (h2 : 0 ≤ cr ∧ cr < 65536) (h3 : 0 ≤ cs ∧ cs < 65536)
    (ho : SlR w ov old) (hwf : ∀ x ∈ old, U64 x) (ha : AlR w av al) (hA : ∀ x ∈ al, (0 ≤ x.1 ∧ x.1 < 65536) ∧ U64 x.2) :
    Calls Try.prog 3 #[.agg #[.int .u16 cl, .int .u16 cr, .int .u16 cs], ov, av] w fun e w' => e = .returned (.bool true) ∧ Below w.heap.size w w' := by
  obtain ⟨oa, ocap, rfl, hoc⟩ := id ho
  obtain ⟨aa, acap, rfl, hac⟩ := id ha
  refine (callsIn_wide (n := 12)).1 ?_
  refine callsIn_of_wp_marks Try.func3 rfl trivial ?_ rfl
  simp only [Try.ntmps3, List.size_toArray, List.length_cons, List.length_nil, Nat.reduceAdd, Nat.reduceSub, Array.replicate_succ, Array.replicate_zero, List.push_toArray, List.append_toArray, List.nil_append, List.cons_append]
  refine wpIn_wide.2 ?_
  have x1 := (Is.new w (.cells #[.int .u16 cl, .int .u16 cr, .int .u16 cs] 24)).alloc (.cells #[.bool false] 4)
  have y1 := Is.new (w.alloc (.cells #[.int .u16 cl, .int .u16 cr, .int .u16 cs] 24)) (.cells #[.bool false] 4)
  rw [World.size_alloc] at y1
  have b1 : Below w.heap.size w ((w.alloc (.cells #[.int .u16 cl, .int .u16 cr, .int .u16 cs] 24)).alloc (.cells #[.bool false] 4)) := ((Below.refl _ _).alloc (Nat.le_refl _) _).alloc (by simp) _
  go_wp2_with fail
  generalize (w.alloc (.cells #[.int .u16 cl, .int .u16 cr, .int .u16 cs] 24)).alloc (.cells #[.bool false] 4) = w1 at *
  refine (awake06 _).mono ?_
  rintro e w2 ⟨rfl, d2⟩
  have x2 := x1.grow d2
  have y2 := y1.grow d2
  have b2 := Below.grown_trans b1 d2
  clear x1 y1 b1 d2
  by_cases hgo : old.length ≤ 20 ∧ al.length ≤ 30
  · obtain ⟨hg1, hg2⟩ := hgo
    obtain ⟨c0, c1, c2⟩ := x2.c3
    go_wp2_with fail
    have hm := make_any cl cr cs w2 h1 h2 h3
    have hcok := mkc_ok cl cr cs
    generalize mkc cl cr cs = c at *
    refine hm.mono ?_
    rintro e w3 ⟨rfl, d3⟩
    have hv : c.val = .agg #[.int .i64 c.L, .int .i64 c.R, .int .i64 c.S] := rfl
    rw [hv]
    clear hm x2 c0 c1 c2
    have y3 := y2.grow d3
    have b3 := Below.grown_trans b2 d3
    clear y2 b2 d3
    go_wp2_with fail
    have i4 := Is.new w3 (.cells #[.int .i64 c.L, .int .i64 c.R, .int .i64 c.S] 29)
    have y4 := y3.alloc (.cells #[.int .i64 c.L, .int .i64 c.R, .int .i64 c.S] 29)
    have b4 : Below w.heap.size w (w3.alloc (.cells #[.int .i64 c.L, .int .i64 c.R, .int .i64 c.S] 29)) := b3.alloc b3.size _
    have z4 := b3.size
    clear y3 b3
    generalize w3.alloc (.cells #[.int .i64 c.L, .int .i64 c.R, .int .i64 c.S] 29) = w4 at *
    generalize w3.heap.size = cb at *
    have kf := formatted_any c old _ w4 hcok (ho.grow b4) (by omega) hwf
    rw [hv] at kf
    refine kf.mono ?_
    rintro e w5 ⟨h, rfl, hd5, hlo, d5⟩
    have i5 := i4.grow d5
    have y5 := y4.grow d5
    have b5 := Below.grown_trans b4 d5
    have hlo5 : w.heap.size + 1 < h.lo ∧ cb < h.lo := by have := i4.lt; have := y4.lt; omega
    have hlh : h.lo < h.hi := by have := hd5.hok.r1; omega
    clear kf i4 y4 b4 d5 hlo hoc ho
    obtain ⟨c0, c1, c2⟩ := i5.c3
    have kb := behind_any h _ c w5 hd5 hcok (by rw [fmtD_len]; have := (PInv.start c old hcok).len; simp only at this; rw [fmtD_len] at this; exact this)
    have ko := fun w hd => open_any h (fmtD c old) c 0 w hd hcok (fmtD_logN c old hcok)
    rw [fmtD_ep _ _ hcok] at ko
    rw [hv] at kb ko
    unfold DevH.ptr at kb ko ⊢
    go_wp2_with fail
    refine kb.mono ?_
    rintro e w6 ⟨wb, wc, rfl, hs6, hwb, d6⟩
    have hd6 := hd5.grow d6
    have i6 := i5.grow d6
    have y6 := y5.grow d6
    have b6 := Below.grown_trans b5 d6
    have htop := hd5.top
    have hwb' : h.hi ≤ wb := Nat.le_trans htop hwb
    clear kb hd5 i5 y5 b5 d6 c0 c1 c2 hwb
    obtain ⟨c0, c1, c2⟩ := i6.c3
    go_wp2_with fail
    refine (ko _ hd6).mono ?_
    rintro e w7 ⟨lb, rfl, hl7, hlb, d7⟩
    have hd7 := hd6.grow d7
    have i7 := i6.grow d7
    have y7 := y6.grow d7
    have hs7 := hs6.grow d7
    have b7 := Below.grown_trans b6 d7
    have hlb' : h.hi ≤ lb := Nat.le_trans hd6.top hlb
    have hwl : wb < lb := Nat.lt_of_lt_of_le hs6.lt hlb
    clear ko hd6 i6 y6 hs6 b6 d7 c0 c1 c2 hlb
    go_wp2_with fail
    have hwas : (fmtD c old).now.drop c.act.toNat = (fmtD c old).now.drop c.act.toNat := rfl
    generalize hW : (fmtD c old).now.drop c.act.toNat = was at hs7
    have HW := Lib.hid hW
    clear hW hwas
    have m8 : PMem w h c cb lb wb w7.heap.size (w7.heap.size + 1) (w7.heap.size + 2) was ⟨fmtD c old, [], []⟩ ((w7.alloc (.cells #[.slice none 0 0] 37)).alloc (.cells #[.slice none 0 0] 25)) := by
      have n1 := (Is.new w7 (.cells #[.slice none 0 0] 37)).alloc (.cells #[.slice none 0 0] 25)
      have n2 := Is.new (w7.alloc (.cells #[.slice none 0 0] 37)) (.cells #[.slice none 0 0] 25)
      rw [World.size_alloc] at n2
      exact ⟨(hd7.alloc _).alloc _, (hl7.alloc _).alloc _, _, _, (i7.alloc _).alloc _, (y7.alloc _).alloc _, (hs7.grow ((Below.refl _ _).alloc (Nat.le_refl _) _)).grow ((Below.refl _ _).alloc (Nat.le_refl _) _),
        n1, n2, OwnV.nil _ _ _, OwnV.nil _ _ _, (fun g hg => by cases hg), (b7.alloc b7.size _).alloc (by rw [World.size_alloc]; have := b7.size; omega) _⟩
    have hz7 := b7.size
    have hlt7 := hl7.lt
    clear hd7 hl7 i7 y7 hs7 b7
    have hps := PInv.start c old hcok
    have hsz : ((w7.alloc (.cells #[.slice none 0 0] 37)).alloc (.cells #[.slice none 0 0] 25)).heap.size = w7.heap.size + 2 := by simp
    generalize (w7.alloc (.cells #[.slice none 0 0] 37)).alloc (.cells #[.slice none 0 0] 25) = w8 at *
    generalize w7.heap.size = pb at *
    clear hsz
    go_loopw [52] (fun i wr => ∃ (k : Nat) (s : PS), k ≤ al.length ∧ i = .int .i64 k ∧ PInv c old s ∧ PMem w h c cb lb wb pb (pb + 1) (pb + 2) was s wr)
      (fun i _ => al.length - (intOf i).toNat)
    case atStart => exact ⟨0, _, by omega, rfl, hps, m8⟩
    case round =>
      obtain ⟨k, s, hk, rfl, hP, hM⟩ := hrel
      clear hps m8
      obtain ⟨hdr, hlr, v1, v2, hrr⟩ := hM
      have hpx : pb + 1 < wr.heap.size := hrr.rq.lt
      have o1lt := hrr.op.own.lt
      have o2lt := hrr.oq.own.lt
      obtain ⟨a1, cap1, hv1⟩ := hrr.op.form
      obtain ⟨a2, cap2, hv2⟩ := hrr.oq.form
      subst hv1
      subst hv2
      rw [i64s_len, u64s_length, hP.wl] at hrr
      rw [i64s_len] at o1lt
      rw [u64s_length, hP.wl] at o2lt
      by_cases hlt : k < al.length
      · obtain ⟨ab, ao, rfl, hab, hac⟩ : ∃ ab ao, aa = some ⟨ab, ao, none⟩ ∧ ab < w.heap.size ∧ (w.cell? ⟨ab, ao + k * 2, none⟩ = some (.int .u16 al[k].1) ∧ w.cell? ⟨ab, ao + k * 2 + 1, none⟩ = some (.int .u64 al[k].2)) := by
          rcases hac with h0 | ⟨b, o, h1, h2, h3⟩
          · rw [h0] at hlt; exact absurd hlt (Nat.not_lt_zero _)
          · exact ⟨b, o, h1, h2, h3 k hlt⟩
        obtain ⟨ha1, ha2⟩ := hac
        have hx := hA al[k] (List.getElem_mem _)
        generalize al[k] = x at *
        obtain ⟨⟨hx0, hx1⟩, hx2⟩ := hx
        have ca1 : wr.cell? ⟨ab, ao + k * 2, none⟩ = some (.int .u16 x.1) := (hrr.bel.cell (p := ⟨ab, ao + k * 2, none⟩) hab).trans ha1
        have ca2 : wr.cell? ⟨ab, ao + k * 2 + 1, none⟩ = some (.int .u64 x.2) := (hrr.bel.cell (p := ⟨ab, ao + k * 2 + 1, none⟩) hab).trans ha2
        have hbx : Below wr.heap.size wr (wr.alloc (.cells #[.int .u16 x.1, .int .u64 x.2] 40)) := (Below.refl _ _).alloc (Nat.le_refl _) _
        have x3 := Is.new wr (.cells #[.int .u16 x.1, .int .u64 x.2] 40)
        have hd3 := hdr.grow hbx
        have hl3 := hlr.grow hbx
        have hr3 := hrr.grow hbx
        have hblt := hrr.bel.size
        have hlog := hlr.lt
        obtain ⟨c0, c1, c2⟩ := hr3.cfg.c3
        clear hdr hlr hrr hbx
        go_wp2_with fail
        clear ca1 ca2 c0 c1 c2
        generalize wr.alloc (.cells #[.int .u16 x.1, .int .u64 x.2] 40) = w9 at *
        generalize wr.heap.size = xb at *
        have kp := place_any c x.1 x.2 w9 hcok hx0 hx1
        have hbd := plc_bd c hcok x.1
        have hstep := hP.step hcok x hx2 hd3.dok.wn
        rw [show c.act + x.1 % (c.words - c.act) = plc c x.1 from rfl, hv] at kp
        unfold PS.step at hstep
        generalize plc c x.1 = i at *
        refine kp.mono ?_
        rintro e w10 ⟨rfl, d10⟩
        have x4 := x3.grow d10
        have hd4 := hd3.grow d10
        have hl4 := hl3.grow d10
        have hr4 := hr3.grow d10
        clear kp x3 hd3 hl3 hr3 d10
        obtain ⟨p1, p2⟩ := hbd
        have hN := hP.len
        have hact0 : 0 ≤ c.act := by have := c.bds.a1; have := hcok.l1; have := hcok.r1; omega
        have r1 := hr4.rp
        have hml : (s.pls.length : Int) ≤ 1000 := by have := hP.le; have := hcok.l2; omega
        by_cases hfull : (s.pls.length : Int) = c.L
        · rw [if_pos hfull] at hstep
          have kap := append_full h s.D c lb 1 i w10 hd4 (by rw [← hfull]; exact hl4) (by omega) (by omega)
          have hFull := Lib.hid hfull
          clear hfull
          go_wp2_with fail
          refine kap.mono ?_
          rintro e w11 ⟨rfl, d11⟩
          have hd5 := hd4.grow d11
          have hl5 := hl4.grow d11
          have hr5 := hr4.grow d11
          have r5 := r1.grow d11
          obtain ⟨c0, c1, c2⟩ := hr5.cfg.c3
          have cp : w11.cell? ⟨pb, 0, none⟩ = some (.slice a1 s.pls.length cap1) := by rw [r5.cell]; rfl
          rw [← hFull.out] at c0
          clear kap hd4 hl4 hr4 x4 r1 o1lt o2lt
          go_wp2
          go_roundw
          case rel => exact ⟨k + 1, s, by omega, by go_num, hP, hd5, hl5, _, _, hr5⟩
          case measure => simp [intOf]; omega
        · have hlt2 : (s.pls.length : Int) < c.L := by have := hP.le; omega
          rw [if_neg hfull] at hstep
          have kap := append_any h s.D c lb 1 i s.pls.length w10 hd4 hl4 (.inr hlb') hcok hN (by decide) (by decide) hlt2 (by omega) (by omega)
          clear hfull
          go_wp2_with fail
          refine kap.mono ?_
          rintro e w11 ⟨rfl, hd5, hl5, lf5⟩
          have hr5 := hr4.lef lf5 (fun q hq => by unfold dl at hq; omega)
          have x5 := x4.lef lf5 (by unfold dl; omega)
          have z5 : w10.heap.size ≤ w11.heap.size := lf5.size
          have hbi : xb < w11.heap.size := x5.lt
          clear kap hd4 hl4 hr4 x4 r1 lf5
          have r1 := hr5.rp
          have r2 := hr5.rq
          have o1own := hr5.op.own
          have o2own := hr5.oq.own
          have hne := hr5.apart
          rw [i64s_len] at o1own
          rw [u64s_length, hP.wl] at o2own
          obtain ⟨c0, c1, c2⟩ := hr5.cfg.c3
          have cp : w11.cell? ⟨pb, 0, none⟩ = some (.slice a1 s.pls.length cap1) := by rw [r1.cell]; rfl
          have cq : w11.cell? ⟨pb + 1, 0, none⟩ = some (.slice a2 s.pls.length cap2) := by rw [r2.cell]; rfl
          have kl := fun W (hd : Dev W h (s.D.append (16 + 4 * (s.pls.length : Int)) 1 (s.pls.length : Int) i)) => load_any h _ i W hd
          have hdi : rd (s.D.append (16 + 4 * (s.pls.length : Int)) 1 (s.pls.length : Int) i).now i = s.D.at i.toNat := by
            have ha1 := hcok.l2
            have ha2 := c.bds.a1
            rw [rd_at _ _ (by omega), DevS.at_append _ _ _ _ _ _ (by omega) (by omega) (by omega), if_neg (by omega), if_neg (by omega), if_neg (by omega)]
          simp only [hdi] at kl
          unfold DevH.ptr at kl
          have hi5 : i < ((s.D.append (16 + 4 * (s.pls.length : Int)) 1 (s.pls.length : Int) i).now.length : Int) := by rw [DevS.append_len]; omega
          generalize s.D.append (16 + 4 * (s.pls.length : Int)) 1 (s.pls.length : Int) i = D5 at *
          generalize s.D.at i.toNat = dv at *
          clear hdi
          obtain ⟨i0, hi, hz0, hz1, hz2⟩ := info_parts Try.infoint
          obtain ⟨j0, hj, hy0, hy1, hy2⟩ := info_parts Try.infou64
          have HWL := Lib.hid hP.wl
          clear hac ha ha1 ha2 h1 h2 h3 hP hg1 hg2 hlog hblt z5
          go_wp2_with fail
          have hbase : pb + 2 ≤ w11.heap.size := by have := r2.lt; omega
          refine wp_region_N (S := fun w' => w'.cell? ⟨pb, 0, none⟩ = some (.slice a1 s.pls.length cap1) ∧ w'.cell? ⟨pb + 1, 0, none⟩ = some (.slice a2 s.pls.length cap2) ∧ Dev w' h D5) 10 (by kernel_rfl) (by decide) ?_
          have hS0 : w11.drew.cell? ⟨pb, 0, none⟩ = some (.slice a1 s.pls.length cap1) ∧ w11.drew.cell? ⟨pb + 1, 0, none⟩ = some (.slice a2 s.pls.length cap2) ∧ Dev w11.drew h D5 := ⟨cp, cq, hd5.drew⟩
          change wpAnyN _ _ _ _ _ _ _ _ _ _ w11.drew
          refine wpAnyN_take (i := 0) (v := .slice a1 s.pls.length cap1) rfl (by kernel_rfl) (by kernel_rfl) (by kernel_rfl) (by decide) (by decide) (headInv_start _ _ _) (by kernel_rfl) (by kernel_rfl) noPanic_putC (.inl ⟨by rfl, fun W hW => ?y0⟩) hS0 ?_
          case y0 =>
            obtain ⟨hw1, hw2, hw3⟩ := hW
            unfold Oper.quietAt
            go_simp
          refine wpAnyN_take (i := 1) (v := .int .i64 i) rfl (by kernel_rfl) (by kernel_rfl) (by kernel_rfl) (by decide) (by decide) (headInv_set (headInv_start _ _ _) (by kernel_rfl) (by decide)) (by kernel_rfl) (by kernel_rfl) noPanic_putC (.inl ⟨by rfl, fun W hW => ?y1⟩) hS0 ?_
          case y1 =>
            obtain ⟨hw1, hw2, hw3⟩ := hW
            unfold Oper.quietAt
            go_simp
          refine wpAnyN_take (i := 4) (v := .slice a2 s.pls.length cap2) rfl (by kernel_rfl) (by kernel_rfl) (by kernel_rfl) (by decide) (by decide) (headInv_set (headInv_set (headInv_start _ _ _) (by kernel_rfl) (by decide)) (by kernel_rfl) (by decide)) (by kernel_rfl) (by kernel_rfl) noPanic_putC (.inl ⟨by rfl, fun W hW => ?y4⟩) hS0 ?_
          case y4 =>
            obtain ⟨hw1, hw2, hw3⟩ := hW
            unfold Oper.quietAt
            go_simp
          refine wpAnyN_take (i := 5) (v := .pointer (some ⟨h.d, 0, none⟩)) rfl (by kernel_rfl) (by kernel_rfl) (by kernel_rfl) (by decide) (by decide) (headInv_set (headInv_set (headInv_set (headInv_start _ _ _) (by kernel_rfl) (by decide)) (by kernel_rfl) (by decide)) (by kernel_rfl) (by decide)) (by kernel_rfl) (by kernel_rfl) noPanic_putC (.inl ⟨by rfl, fun W hW => ?y5⟩) hS0 ?_
          case y5 =>
            obtain ⟨hw1, hw2, hw3⟩ := hW
            unfold Oper.quietAt
            go_simp
          refine wpAnyN_take (i := 6) (v := .int .i64 i) rfl (by kernel_rfl) (by kernel_rfl) (by kernel_rfl) (by decide) (by decide) (headInv_set (headInv_set (headInv_set (headInv_set (headInv_start _ _ _) (by kernel_rfl) (by decide)) (by kernel_rfl) (by decide)) (by kernel_rfl) (by decide)) (by kernel_rfl) (by decide)) (by kernel_rfl) (by kernel_rfl) noPanic_putC (.inl ⟨by rfl, fun W hW => ?y6⟩) hS0 ?_
          case y6 =>
            obtain ⟨hw1, hw2, hw3⟩ := hW
            unfold Oper.quietAt
            go_simp
          refine wpAnyN_one (i := 2) rfl rfl (by decide) (by kernel_rfl) ?_
          go_simp
          have bA : Below w11.heap.size w11 (w11.alloc (.cells #[.int .i64 i] 3)).drew := ((Below.refl _ _).alloc (Nat.le_refl _) _).drew
          have nA : Is (w11.alloc (.cells #[.int .i64 i] 3)).drew w11.heap.size (.cells #[.int .i64 i] 3 (0, 0)) := Is.new w11 _
          refine ⟨⟨?_, ?_, ?_⟩, ?_⟩
          case refine_1 => exact (World.cell?_alloc_lt _ _ _ r1.lt).trans cp
          case refine_2 => exact (World.cell?_alloc_lt _ _ _ r2.lt).trans cq
          case refine_3 => exact hd5.grow bA
          have eA : (w11.alloc (.cells #[.int .i64 i] 3)).drew.heap.size = w11.heap.size + 1 := by simp
          generalize (w11.alloc (.cells #[.int .i64 i] 3)).drew = wA at *
          have hdA := hd5.grow bA
          have rA1 := r1.grow bA
          have rA2 := r2.grow bA
          have oA1 := o1own.kept (grownBy_of_below bA) (by cases hq : (Value.slice a1 s.pls.length cap1).ownBlock with | none => exact .inl rfl | some g => exact .inr (by simp))
          have oA2 := o2own.kept (grownBy_of_below bA) (by cases hq : (Value.slice a2 s.pls.length cap2).ownBlock with | none => exact .inl rfl | some g => exact .inr (by simp))
          refine wpAnyN_one (i := 3) rfl rfl (by decide) (by kernel_rfl) ?_
          refine wp_append_lies _ _ _ _ rfl (pb + 2) 3 i0 _ 1 8 Try.underlying37 hi hz0 hz1 hz2 rfl (by decide) _ s.pls.length (i64s s.pls) (by rfl) oA1 ⟨w11.heap.size, 0, none⟩ 1 1 [.int .i64 i] (by rfl) rfl
            (World.news_of_block nA) (by simp [Value.oneCell']) (by decide) (by unfold maxLen; omega) (by omega) (by omega) _ eA ?_
          intro g1 cap1' wB ownB grB hatB hltB
          have lB : Lef (fun q => pb + 2 ≤ q ∧ q ≠ xb) wA wB := ⟨grB.os, grB.tape, grB.output, grB.size, fun q hq hnq => grB.block q hq (fun he => hnq ⟨(o1lt q he.symm).1, by have := (o1lt q he.symm).2; omega⟩)⟩
          have hdB := hdA.lef lB (fun q _ h2 => by omega)
          have rB1 := rA1.lef lB (by omega)
          have rB2 := rA2.lef lB (by omega)
          have oB2 := oA2.kept grB (by
            cases hq : (Value.slice a2 s.pls.length cap2).ownBlock with
            | none => exact .inl rfl
            | some g => exact .inr (fun he => hne g he.symm hq))
          refine ⟨⟨by rw [rB1.cell]; rfl, by rw [rB2.cell]; rfl, hdB⟩, ?_⟩
          have lA : Lef (fun q => pb + 2 ≤ q ∧ q ≠ xb) w11 wA := Lef.of_below bA
          have lAB := lA.trans lB
          have szB : wA.heap.size ≤ wB.heap.size := lB.size
          clear nA hdA rA1 rA2 oA1 oA2 bA lA lB grB
          refine wpAnyN_one (i := 7) rfl rfl (by decide) (by kernel_rfl) ?_
          go_simp
          refine (kl _ hdB).mono ?_
          rintro e wx ⟨rfl, rfl⟩
          refine ⟨⟨by rw [rB1.cell]; rfl, by rw [rB2.cell]; rfl, hdB⟩, ?_⟩
          refine wpAnyN_one (i := 8) rfl rfl (by decide) (by kernel_rfl) ?_
          go_simp
          have bC : Below wB.heap.size wB (wB.alloc (.cells #[.int .u64 dv] 38)) := (Below.refl _ _).alloc (Nat.le_refl _) _
          have nC : Is (wB.alloc (.cells #[.int .u64 dv] 38)) wB.heap.size (.cells #[.int .u64 dv] 38 (0, 0)) := Is.new wB _
          refine ⟨⟨?_, ?_, ?_⟩, ?_⟩
          case refine_1 => exact (World.cell?_alloc_lt _ _ _ rB1.lt).trans (by rw [rB1.cell]; rfl)
          case refine_2 => exact (World.cell?_alloc_lt _ _ _ rB2.lt).trans (by rw [rB2.cell]; rfl)
          case refine_3 => exact hdB.grow bC
          have eC : (wB.alloc (.cells #[.int .u64 dv] 38)).heap.size = wB.heap.size + 1 := by simp
          generalize wB.alloc (.cells #[.int .u64 dv] 38) = wC at *
          have hdC := hdB.grow bC
          have rC1 := rB1.grow bC
          have rC2 := rB2.grow bC
          have oC1 := ownB.kept (grownBy_of_below bC) (.inr (by simp [Value.ownBlock]))
          have oC2 := oB2.kept (grownBy_of_below bC) (by cases hq : (Value.slice a2 s.pls.length cap2).ownBlock with | none => exact .inl rfl | some g => exact .inr (by simp))
          refine wpAnyN_one (i := 9) rfl rfl (by decide) (by kernel_rfl) ?_
          refine wp_append_lies _ _ _ _ rfl (pb + 2) 38 j0 _ 1 8 Try.underlying25 hj hy0 hy1 hy2 rfl (by decide) _ s.pls.length (u64s s.wds) (by rfl) oC2 ⟨wB.heap.size, 0, none⟩ 1 1 [.int .u64 dv] (by rfl) rfl
            (World.news_of_block nC) (by simp [Value.oneCell']) (by decide) (by unfold maxLen; omega) (by omega) (by omega) _ eC ?_
          intro g2 cap2' wD ownD grD hatD hltD
          have lD : Lef (fun q => pb + 2 ≤ q ∧ q ≠ xb) wC wD := ⟨grD.os, grD.tape, grD.output, grD.size, fun q hq hnq => grD.block q hq (fun he => hnq ⟨(o2lt q he.symm).1, by have := (o2lt q he.symm).2; omega⟩)⟩
          have hdD := hdC.lef lD (fun q _ h2 => by omega)
          have rD1 := rC1.lef lD (by omega)
          have rD2 := rC2.lef lD (by omega)
          have hg12 : g1 ≠ g2 := by
            rintro rfl
            rcases hatD with hq | hq
            · rcases hatB with hp | hp
              · exact hne _ hp hq
              · have := (o2lt _ hq).2; omega
            · omega
          have oD1 := oC1.kept grD (.inr (fun he => by
            have he' : some g1 = (Value.slice a2 s.pls.length cap2).ownBlock := he
            rcases hatB with hp | hp
            · exact hne _ hp he'.symm
            · have := (o2lt _ he'.symm).2; omega))
          refine ⟨⟨by rw [rD1.cell]; rfl, by rw [rD2.cell]; rfl, hdD⟩, ?_⟩
          have lC : Lef (fun q => pb + 2 ≤ q ∧ q ≠ xb) wB wC := Lef.of_below bC
          have lAD := (lAB.trans lC).trans lD
          clear nC hdC rC1 rC2 oC1 oC2 bC lC lD grD hdB rB1 rB2 oB2 lAB ownB
          refine wpAnyN_chain (by kernel_rfl) ?_
          simp only [List.toList_toArray, List.drop_succ_cons, List.drop_zero]
          have cD1 : wD.cell? ⟨pb, 0, none⟩ = some (.slice a1 s.pls.length cap1) := by rw [rD1.cell]; rfl
          have cD2 : wD.cell? ⟨pb + 1, 0, none⟩ = some (.slice a2 s.pls.length cap2) := by rw [rD2.cell]; rfl
          have fD1 : wD.frozen? ⟨pb, 0, none⟩ = false := rD1.free
          have fD2 : wD.frozen? ⟨pb + 1, 0, none⟩ = false := rD2.free
          go_wp2
          refine NoPanic.normal ?_
          have rE1 : Is ((wD.setCell ⟨pb, 0, none⟩ (.slice (some ⟨g1, 0, none⟩) (s.pls.length + 1) cap1')).setCell ⟨pb + 1, 0, none⟩ (.slice (some ⟨g2, 0, none⟩) (s.pls.length + 1) cap2')) pb (.cells #[.slice (some ⟨g1, 0, none⟩) (s.pls.length + 1) cap1'] 37 (0, 0)) :=
            Is.set_other (rD1.set (i := 0) _) (by simp) _
          have rE2 : Is ((wD.setCell ⟨pb, 0, none⟩ (.slice (some ⟨g1, 0, none⟩) (s.pls.length + 1) cap1')).setCell ⟨pb + 1, 0, none⟩ (.slice (some ⟨g2, 0, none⟩) (s.pls.length + 1) cap2')) (pb + 1) (.cells #[.slice (some ⟨g2, 0, none⟩) (s.pls.length + 1) cap2'] 25 (0, 0)) :=
            Is.set (i := 0) (Is.set_other rD2 (by simp) _) _
          have lDE : Lef (fun q => q = pb ∨ q = pb + 1) wD ((wD.setCell ⟨pb, 0, none⟩ (.slice (some ⟨g1, 0, none⟩) (s.pls.length + 1) cap1')).setCell ⟨pb + 1, 0, none⟩ (.slice (some ⟨g2, 0, none⟩) (s.pls.length + 1) cap2')) :=
            ((Lef.refl _ _).setCell (p := ⟨pb, 0, none⟩) (.inl rfl) _).setCell (p := ⟨pb + 1, 0, none⟩) (.inr rfl) _
          generalize (wD.setCell ⟨pb, 0, none⟩ (.slice (some ⟨g1, 0, none⟩) (s.pls.length + 1) cap1')).setCell ⟨pb + 1, 0, none⟩ (.slice (some ⟨g2, 0, none⟩) (s.pls.length + 1) cap2') = wE at *
          have hdE := hdD.lef lDE (fun q _ h2 => by omega)
          have oE1 : OwnV wE (pb + 2) 3 (i64s (s.pls ++ [i])) (.slice (some ⟨g1, 0, none⟩) (s.pls.length + 1) cap1') := by
            refine OwnV.lef (W := wD) ⟨⟨some ⟨g1, 0, none⟩, cap1', by simp⟩, ?_⟩ lDE (fun q hq => by omega)
            simpa [i64s] using oD1
          have oE2 : OwnV wE (pb + 2) 38 (u64s (s.wds ++ [dv])) (.slice (some ⟨g2, 0, none⟩) (s.pls.length + 1) cap2') := by
            have hwl2 := HWL.out
            refine OwnV.lef (W := wD) ⟨⟨some ⟨g2, 0, none⟩, cap2', by simp [hwl2]⟩, ?_⟩ lDE (fun q hq => by omega)
            simpa [u64s, u64v, hwl2] using ownD
          have lE : Lef (fun q => q = pb ∨ q = pb + 1 ∨ (pb + 2 ≤ q ∧ q ≠ xb)) w11 wE := (lAD.mono (fun q hq => .inr (.inr hq))).trans (lDE.mono (fun q hq => by omega))
          have hlE := hl5.lef lE (by omega)
          have xE := x5.lef lE (by omega)
          have hrE : PRest w c cb wb pb (pb + 1) (pb + 2) was (s.pls ++ [i]) (s.wds ++ [dv]) (.slice (some ⟨g1, 0, none⟩) (s.pls.length + 1) cap1') (.slice (some ⟨g2, 0, none⟩) (s.pls.length + 1) cap2') wE := by
            refine ⟨hr5.cfg.lef lE (by omega), hr5.res.lef lE (by omega), hr5.was.lef lE (by omega), rE1, rE2, oE1, oE2, fun g hg hg' => ?_, hr5.bel.trans (lE.below (fun q hq => by omega) hr5.bel.size)⟩
            have e1 : g1 = g := by simpa [Value.ownBlock] using hg
            have e2 : g2 = g := by simpa [Value.ownBlock] using hg'
            exact hg12 (e1.trans e2.symm)
          clear rD1 rD2 cD1 cD2 fD1 fD2 hdD oD1 ownD lAD lDE lE oE1 oE2 rE1 rE2 hl5 hr5 x5 hd5 r1 r2 o1own o2own c0 c1 c2 cp cq hS0 hatB hatD
          have cx : wE.cell? ⟨xb, 1, none⟩ = some (.int .u64 x.2) := by rw [xE.cell]; rfl
          have kst := store_any h D5 i x.2 wE hdE (by omega) hi5 hx2
          unfold DevH.ptr at kst
          clear kl
          go_wp2_with fail
          refine kst.mono ?_
          rintro e wF ⟨rfl, hdF, lfF⟩
          have LF : Lef (fun q => h.lo ≤ q ∧ q < h.hi) wE wF := Lef.of_left lfF (fun _ h1 h2 => ⟨h1, h2⟩)
          have hlF := hlE.lef LF (by omega)
          have hrF := hrE.lef LF (fun q hq => by omega)
          clear kst lfF LF hlE hrE hdE xE cx
          go_wp2
          go_roundw
          case rel => exact ⟨k + 1, _, by omega, by go_num, hstep, hdF, by simpa using hlF, _, _, hrF⟩
          case measure => simp [intOf]; omega
      · obtain rfl : k = al.length := by omega
        have cp : wr.cell? ⟨pb, 0, none⟩ = some (.slice a1 s.pls.length cap1) := by rw [hrr.rp.cell]; rfl
        have G0 := GrW.cell cp
        have hml : (s.pls.length : Int) ≤ 1000 := by have := hP.le; have := hcok.l2; omega
        have hlen := hP.len
        have k28 : ∀ x : GrW wr, Calls Try.prog 28 #[.pointer (some ⟨lb, 0, none⟩)] x.1 fun e w' => e = .returned (.int .i64 s.pls.length) ∧ x.1 = w' := fun x => llen_any h c lb 1 _ x.1 (hlr.grow x.2)
        have k29 : ∀ x : GrW wr, Calls Try.prog 29 #[.pointer (some ⟨lb, 0, none⟩)] x.1 fun e w' => e = .returned (.int .i64 (-1)) ∧ Below x.1.heap.size x.1 w' := fun x =>
          good_any h s.D c lb 1 s.pls.length x.1 (hdr.grow x.2) (hlr.grow x.2) hcok hP.le (fun k hk => by
            have h1 := (hP.recs k hk).2.1
            have h2 := pf_bd hP hcok k
            rw [h1, hlen]
            exact h2)
        have k25a : ∀ x : GrW wr, Calls Try.prog 25 #[.pointer (some ⟨lb, 0, none⟩), .int .i64 (-1)] x.1 fun e w' => e = .returned (.int .i64 1) ∧ x.1 = w' := fun x => append_range h s.D c lb 1 _ (-1) x.1 (hdr.grow x.2) (hlr.grow x.2) (.inl (by decide))
        have k25b : ∀ x : GrW wr, Calls Try.prog 25 #[.pointer (some ⟨lb, 0, none⟩), .int .i64 s.D.now.length] x.1 fun e w' => e = .returned (.int .i64 1) ∧ x.1 = w' := fun x => append_range h s.D c lb 1 _ _ x.1 (hdr.grow x.2) (hlr.grow x.2) (.inr (by omega))
        have k30 : ∀ x : GrW wr, Calls Try.prog 30 #[.pointer (some ⟨h.d, 0, none⟩)] x.1 fun e w' => e = .returned (.int .i64 s.D.now.length) ∧ x.1 = w' := fun x => len_any h s.D x.1 (hdr.grow x.2)
        have HLEN := Lib.hid hlen
        clear hlt hk hac ha hlen
        go_wp2_with fail
        refine wp_gr (by kernel_rfl) (by kernel_rfl) ?_
        repeat (go_big_quiet_step (first
          | (go_at_call 28; with_reducible exact gr_call_same (k28 _))
          | (go_at_call 29; with_reducible exact gr_call (k29 _))
          | (go_at_call 25; with_reducible exact gr_call_same (k25a _))
          | (go_at_call 25; with_reducible exact gr_call_same (k25b _))
          | (go_at_call 30; with_reducible exact gr_call_same (k30 _))))
        refine wpQuiet_nil ?_
        rintro w9 ⟨⟨_, hw9⟩, rfl⟩
        have hd9 := hdr.grow hw9
        have hl9 := hlr.grow hw9
        have hr9 := hrr.grow hw9
        clear k28 k29 k25a k25b k30 G0 cp hdr hlr hrr hw9
        have cp : w9.cell? ⟨pb, 0, none⟩ = some (.slice a1 s.pls.length cap1) := by rw [hr9.rp.cell]; rfl
        go_wp2_with fail
        have kx := Is.new w9 (.cells #[.int .i64 s.pls.length] 3)
        have bx1 : Below w9.heap.size w9 (w9.alloc (.cells #[.int .i64 s.pls.length] 3)) := (Below.refl _ _).alloc (Nat.le_refl _) _
        have hdA := hd9.grow bx1
        have hlA := hl9.grow bx1
        have hrA := hr9.grow bx1
        have hkb : pb + 1 < w9.heap.size := hr9.rq.lt
        have v1lt := hr9.op.own.lt
        have v2lt := hr9.oq.own.lt
        clear hd9 hl9 hr9 bx1 cp
        generalize w9.alloc (.cells #[.int .i64 s.pls.length] 3) = wA at *
        generalize w9.heap.size = kb at *
        refine (lrecords_any lb _).mono ?_
        rintro e wB ⟨rfl, rfl⟩
        have bx2 : Below wA.heap.size wA (wA.alloc (.cells #[.pointer (some ⟨lb, 0, none⟩)] 35)) := (Below.refl _ _).alloc (Nat.le_refl _) _
        have bB := Is.new wA (.cells #[.pointer (some ⟨lb, 0, none⟩)] 35)
        have kxB := kx.grow bx2
        have hdB := hdA.grow bx2
        have hlB := hlA.grow bx2
        have hrB := hrA.grow bx2
        have hkx : kb < wA.heap.size := kx.lt
        clear kx hdA hlA hrA bx2
        generalize wA.alloc (.cells #[.pointer (some ⟨lb, 0, none⟩)] 35) = wB at *
        generalize wA.heap.size = bx at *
        have hBx := bB.lt
        obtain ⟨B, hBeq⟩ : ∃ B, B = wB.heap.size := ⟨_, rfl⟩
        rw [← hBeq] at hBx
        have HB := Lib.hid hBeq
        clear hBeq
        have hpf0 := pf_bd hP hcok
        have hwf0 := wf_bd hP
        have hw9 : c.words ≤ 100000 := by have := hdB.dok.small; have := HLEN.out; omega
        have hact9 : 0 ≤ c.act := by have := c.bds.a1; have := hcok.l1; have := hcok.r1; omega
        have HP := Lib.hid hP
        have hrecs := hP.recs
        have hLP : ∀ W, Dev W h s.D → Is W lb (lgc h c 1 s.pls.length) → Is W bx (.cells #[.pointer (some ⟨lb, 0, none⟩)] 35 (0, 0)) → LP h c lb bx 1 s.pls.length (pf c s.pls) (wf s.wds) W := fun W h1 h2 h3 =>
          ⟨⟨s.D, h1, fun k hk => (hrecs k hk).2⟩, h2, h3⟩
        clear hP hrecs
        go_wp2
        refine (wpIn_wide (n := 8)).1 ?_
        refine wpIn_rangeFunc_ownG (a₁ := ?a1) rfl (by decide) (gf := 81) (lb := #[.pointer (some ⟨bx, 0, none⟩)]) rfl trivial (enters_of Try.func81 (by kernel_rfl) rfl)
          (records_in 7 (by decide) h c lb bx 1 s.pls.length (pf c s.pls) (wf s.wds) (fun k => by have := hpf0 k; omega) (by omega) wB (hLP wB hdB hlB bB))
          (fun h1 h2 hp => h2 (h1 hp))
          (fun W l o o' hBl _ _ _ hp => hp.lef (lef_of_grownBy (B := B) (grownBy_putObj' W l o') (fun r e => by cases e; rw [HB.out]; exact hBl)) (fun k _ h2 => by omega) (by omega) (by omega))
          (Below.refl _ _) (fun _ => rfl)
          (fun pre W => Dev W h s.D ∧ Is W lb (lgc h c 1 s.pls.length) ∧ Is W bx (.cells #[.pointer (some ⟨lb, 0, none⟩)] 35 (0, 0)) ∧ Is W kb (.cells #[.int .i64 ((s.pls.length : Int) - pre.length)] 3 (0, 0)) ∧
            PRest w c cb wb pb (pb + 1) (pb + 2) was s.pls s.wds (.slice a1 s.pls.length cap1) (.slice a2 s.pls.length cap2) W)
          (fun _ pre _ => ¬ pre <+: idx s.pls.length)
          (fun s' A A' row hs hg hr => by
            have hl := lef_of_grownBy (B := B) hg (fun r e => by rw [HB.out]; exact (hr r e).1)
            obtain ⟨s1, s2, s3, s4, s5⟩ := hs
            exact ⟨s1.lef hl (fun q _ h2 => by omega), s2.lef hl (by omega), s3.lef hl (by omega), s4.lef hl (by omega), s5.grownBy (B := B) hg (fun r e => by rw [HB.out]; exact (hr r e).1) (by omega) (fun g hg => by have := (v1lt g hg).2; omega) (fun g hg => by have := (v2lt g hg).2; omega)⟩)
          (fun _ _ _ _ _ hs _ _ => hs)
          ⟨hdB, hlB, bB, by simpa using kxB, hrB⟩ ?assign ?body ?done ?stop
        case assign =>
          intro l x W K hK
          gi_wp2
          exact hK
        case body =>
          rintro l pre x W ⟨s1, s2, s3, s4, s5⟩ hpre
          obtain ⟨g1, cp1, hv1, _, _⟩ := s5.op.own.form (by simp; omega)
          obtain ⟨g2, cp2, hv2, _, _⟩ := s5.oq.own.form (by have := HP.out.wl; simp; omega)
          injection hv1 with hv1 he1 he2
          injection hv2 with hv2 he3 he4
          clear he1 he2 he3 he4
          subst hv1
          subst hv2
          obtain ⟨k', hk'⟩ : ∃ k' : Nat, (s.pls.length : Int) - pre.length = (k' : Int) + 1 := ⟨s.pls.length - pre.length - 1, by omega⟩
          have hk1 : k' < s.pls.length := by omega
          have hk2 : k' < s.wds.length := by have := HP.out.wl; omega
          have own1 := s5.op.own
          have own2 := s5.oq.own
          rw [i64s_len] at own1
          rw [u64s_length, HP.out.wl] at own2
          have cg1 : W.cell? ⟨g1, k', none⟩ = some (.int .i64 (s.pls[k'])) := by rw [own1.cellAt k' (by omega)]; simp [i64s, hk1]
          have cg2 : W.cell? ⟨g2, k', none⟩ = some (.int .u64 (s.wds[k'])) := by rw [own2.cellAt k' (by omega)]; exact u64s_get _ _ hk2
          have hpf : x = k' → pf c s.pls x = s.pls[k'] := fun e => by subst e; simp [pf, List.getD_eq_getElem?_getD, hk1]
          have hwf' : x = k' → wf s.wds x = s.wds[k'] := fun e => by subst e; simp [wf, List.getD_eq_getElem?_getD, hk2]
          have hpre2 : (pre ++ [x]) <+: idx s.pls.length → x = k' := fun hp => by
            have h1 := List.IsPrefix.getElem hp (i := pre.length) (by simp)
            rw [idx_get _ _ hpre] at h1
            simp at h1
            omega
          generalize s.pls[k'] = pk at *
          generalize s.wds[k'] = wk at *
          generalize pf c s.pls x = px at *
          generalize wf s.wds x = wx at *
          rw [hk'] at s4
          have ck : W.cell? ⟨kb, 0, none⟩ = some (.int .i64 ((k' : Int) + 1)) := by rw [s4.cell]; rfl
          have fk : W.frozen? ⟨kb, 0, none⟩ = false := s4.free
          have lk : Lef (fun q => q = kb) W (W.setCell ⟨kb, 0, none⟩ (.int .i64 k')) := Lef.setCell (S := fun q => q = kb) (Lef.refl _ _) (p := ⟨kb, 0, none⟩) rfl _
          have t1 := s1.lef lk (fun q _ h2 => by omega)
          have t2 := s2.lef lk (by omega)
          have t3 := s3.lef lk (by omega)
          have t4 := s4.set (i := 0) (.int .i64 k')
          have hg1b : g1 ≠ kb := by have := (v1lt g1 rfl).2; omega
          have hg2b : g2 ≠ kb := by have := (v2lt g2 rfl).2; omega
          have t5 : PRest w c cb wb pb (pb + 1) (pb + 2) was s.pls s.wds (.slice (some ⟨g1, 0, none⟩) s.pls.length cap1) (.slice (some ⟨g2, 0, none⟩) s.pls.length cap2) (W.setCell ⟨kb, 0, none⟩ (.int .i64 k')) := by
            obtain ⟨q1, q2, q3, q4, q5, q6, q7, q8, q9⟩ := s5
            have hgr : W.grownBy (W.setCell ⟨kb, 0, none⟩ (.int .i64 k')) (some kb) := ⟨rfl, rfl, rfl, by simp, fun q hq hne => lk.block q hq (fun he => hne (by rw [he]))⟩
            exact ⟨q1.lef lk (by omega), q2.lef lk (by omega), q3.lef lk (by omega), q4.lef lk (by omega), q5.lef lk (by omega), q6.kept hgr (.inr (by simpa [Value.ownBlock] using hg1b)), q7.kept hgr (.inr (by simpa [Value.ownBlock] using hg2b)), q8, q9.setCell (p := ⟨kb, 0, none⟩) (by simp; omega) _⟩
          have cg1' : (W.setCell ⟨kb, 0, none⟩ (.int .i64 k')).cell? ⟨g1, k', none⟩ = some (.int .i64 pk) := (World.cell?_setCell_other W ⟨kb, 0, none⟩ ⟨g1, k', none⟩ _ (fun e => by injection e with e1 _ _; exact hg1b e1.symm)).trans cg1
          have cg2' : (W.setCell ⟨kb, 0, none⟩ (.int .i64 k')).cell? ⟨g2, k', none⟩ = some (.int .u64 wk) := (World.cell?_setCell_other W ⟨kb, 0, none⟩ ⟨g2, k', none⟩ _ (fun e => by injection e with e1 _ _; exact hg2b e1.symm)).trans cg2
          have cp : (W.setCell ⟨kb, 0, none⟩ (.int .i64 k')).cell? ⟨pb, 0, none⟩ = some (.slice (some ⟨g1, 0, none⟩) s.pls.length cap1) := by rw [t5.rp.cell]; rfl
          have cq : (W.setCell ⟨kb, 0, none⟩ (.int .i64 k')).cell? ⟨pb + 1, 0, none⟩ = some (.slice (some ⟨g2, 0, none⟩) s.pls.length cap2) := by rw [t5.rq.cell]; rfl
          have ckn : (W.setCell ⟨kb, 0, none⟩ (.int .i64 k')).cell? ⟨kb, 0, none⟩ = some (.int .i64 k') := by rw [t4.cell]; rfl
          have cr' : (W.setCell ⟨kb, 0, none⟩ (.int .i64 k')).cell? ⟨w.heap.size + 1, 0, none⟩ = some (.bool false) := by rw [t5.res.cell]; rfl
          have fr : (W.setCell ⟨kb, 0, none⟩ (.int .i64 k')).frozen? ⟨w.heap.size + 1, 0, none⟩ = false := t5.res.free
          have hK' := Lib.hid hk'
          have k0' : (0 : Int) ≤ (k' : Int) := Int.natCast_nonneg _
          have k1' : (k' : Int) < (s.pls.length : Int) := by omega
          have kb9 : (k' : Int) ≤ 1000 := by omega
          have cpW : W.cell? ⟨pb, 0, none⟩ = some (.slice (some ⟨g1, 0, none⟩) s.pls.length cap1) := by rw [s5.rp.cell]; rfl
          have cqW : W.cell? ⟨pb + 1, 0, none⟩ = some (.slice (some ⟨g2, 0, none⟩) s.pls.length cap2) := by rw [s5.rq.cell]; rfl
          have crW : W.cell? ⟨w.heap.size + 1, 0, none⟩ = some (.bool false) := by rw [s5.res.cell]; rfl
          have frW : W.frozen? ⟨w.heap.size + 1, 0, none⟩ = false := s5.res.free
          have hB1x : kb < B ∧ w.heap.size + 1 < B := by omega
          have n1 : kb ≠ pb := by omega
          have n2 : kb ≠ pb + 1 := by omega
          have n3 : kb ≠ w.heap.size + 1 := by omega
          have n4 : kb ≠ g1 := Ne.symm hg1b
          have n5 : kb ≠ g2 := Ne.symm hg2b
          have CG1 := Lib.hid cg1'
          have CG2 := Lib.hid cg2'
          have HK1 := Lib.hid hk1
          clear own1 own2 hk' hg1b hg2b s1 s2 s3 s4 s5 cg1 cg2 cg1' cg2' cp cq ckn cr' fr
          have T1 := Lib.hid t1
          have T2 := Lib.hid t2
          have T3 := Lib.hid t3
          have T4 := Lib.hid t4
          have T5 := Lib.hid t5
          have LK := Lib.hid lk
          have HLP := Lib.hid hLP
          have HPF := Lib.hid hpf
          have HWF := Lib.hid hwf'
          have HPRE := Lib.hid hpre2
          have HB1 := Lib.hid hB1x
          clear t1 t2 t3 t4 t5 lk hLP hpf hwf' hpre2 hB1x hdB hlB bB kxB hrB v1lt v2lt hpf0 hwf0 hpre k1' hk1 hk2 hv hwf hA h1 h2 h3 hlo5 hlh htop hwb' hlb' hwl hz7 hlt7 hkb hkx hBx hw9 hact9 hg1 hg2 z4
          refine wpIn_block ?_
          refine wpIn_hide fun Q3 hQ3 => ?_
          have HQ3 := Lib.hid hQ3
          clear hQ3
          refine wpIn_seq_k fun K1 hKK => ?_
          have HKK := Lib.hid hKK
          clear hKK
          gi_wp2
          refine HKK.out _ _ ?_
          clear HKK
          clear ck fk cpW cqW crW frW n1 n2 n3 n4 n5
          have hcg1 := CG1.out
          have hcg2 := CG2.out
          have t5 := T5.out
          have ckn : (W.setCell ⟨kb, 0, none⟩ (.int .i64 k')).cell? ⟨kb, 0, none⟩ = some (.int .i64 k') := by rw [T4.out.cell]; rfl
          have cp : (W.setCell ⟨kb, 0, none⟩ (.int .i64 k')).cell? ⟨pb, 0, none⟩ = some (.slice (some ⟨g1, 0, none⟩) s.pls.length cap1) := by rw [t5.rp.cell]; rfl
          have cq : (W.setCell ⟨kb, 0, none⟩ (.int .i64 k')).cell? ⟨pb + 1, 0, none⟩ = some (.slice (some ⟨g2, 0, none⟩) s.pls.length cap2) := by rw [t5.rq.cell]; rfl
          have cr' : (W.setCell ⟨kb, 0, none⟩ (.int .i64 k')).cell? ⟨w.heap.size + 1, 0, none⟩ = some (.bool false) := by rw [t5.res.cell]; rfl
          have fr : (W.setCell ⟨kb, 0, none⟩ (.int .i64 k')).frozen? ⟨w.heap.size + 1, 0, none⟩ = false := t5.res.free
          clear t5 CG1 CG2
          generalize W.setCell ⟨kb, 0, none⟩ (.int .i64 k') = W1 at *
          refine wpIn_seq_k fun K2 hK2 => ?_
          have HK2 := Lib.hid hK2
          clear hK2
          have G1 := GrW.cell hcg1
          have G2 := GrW.cell hcg2
          have G3 := GrW.cell ckn
          have G4 := GrW.cell cp
          have G5 := GrW.cell cq
          have k1' : (k' : Int) < (s.pls.length : Int) := by have := HK1.out; omega
          have fin : ∀ W2, Below W1.heap.size W1 W2 → Dev W2 h s.D ∧ Is W2 lb (lgc h c 1 s.pls.length) ∧ Is W2 bx (.cells #[.pointer (some ⟨lb, 0, none⟩)] 35 (0, 0)) ∧ Is W2 kb (.cells #[.int .i64 k'] 3 (0, 0)) ∧
              PRest w c cb wb pb (pb + 1) (pb + 2) was s.pls s.wds (.slice (some ⟨g1, 0, none⟩) s.pls.length cap1) (.slice (some ⟨g2, 0, none⟩) s.pls.length cap2) W2 :=
            fun W2 hb => ⟨T1.out.grow hb, T2.out.grow hb, T3.out.grow hb, T4.out.grow hb, T5.out.grow hb⟩
          have FIN := Lib.hid fin
          clear fin
          have hg1' : ∀ W2, Below W1.heap.size W1 W2 → W2.cell? ⟨w.heap.size + 1, 0, none⟩ = some (.bool false) ∧ W2.frozen? ⟨w.heap.size + 1, 0, none⟩ = false := fun W2 hb => ⟨by rw [(FIN.out W2 hb).2.2.2.2.res.cell]; rfl, (FIN.out W2 hb).2.2.2.2.res.free⟩
          have HG := Lib.hid hg1'
          clear hg1' T1 T2 T3 T4 T5
          by_cases hpx : pk = px
          · subst hpx
            by_cases hwx : wk = wx
            · subst hwx
              refine wpIn_gr_plain_k (wid_round l) (by kernel_rfl) fun L hL => ?_
              have HL := Lib.hid hL
              clear hL
              repeat (go_big_quiet_step (fail))
              rw [show decide ((k' : Int) < 0) = false from by simp]
              repeat (go_big_quiet_step (fail))
              refine wpQuiet_nil ?_
              refine HL.out _ ?_
              rintro W2 ⟨⟨_, hw2⟩, rfl⟩
              refine HK2.out _ _ ?_
              obtain ⟨f1, f2, f3, f4, f5⟩ := FIN.out W2 hw2
              have L2 : Lef (fun q => q = kb ∨ q = w.heap.size + 1) W W2 := (LK.out.mono (fun q hq => .inl hq)).trans (Lef.of_below hw2)
              have F1 := Lib.hid f1
              have F2 := Lib.hid f2
              have F3 := Lib.hid f3
              have F4 := Lib.hid f4
              have F5 := Lib.hid f5
              clear f1 f2 f3 f4 f5 G1 G2 G3 G4 G5 hcg1 hcg2 ckn cp cq cr' fr
              gi_wp2
              refine HQ3.out _ _ _ ?_
              refine ⟨keepsFrom_of_lef L2 (fun q hq => by rw [← HB.out]; have := HB1.out; omega), fun _ => HLP.out W2 F1.out F2.out F3.out, F1.out, F2.out, F3.out, ?_, F5.out⟩
              have e1 : (s.pls.length : Int) - ((pre ++ [x]).length : Int) = (k' : Int) := by have := hK'.out; simp; omega
              rw [e1]
              exact F4.out
            · refine wpIn_gr_plain_k (wid_round l) (by kernel_rfl) fun L hL => ?_
              have HL := Lib.hid hL
              clear hL
              repeat (go_big_quiet_step (fail))
              rw [show decide ((k' : Int) < 0) = false from by simp]
              repeat (go_big_quiet_step (fail))
              refine wpQuiet_nil ?_
              refine HL.out _ ?_
              rintro W2 ⟨⟨_, hw2⟩, rfl⟩
              refine HK2.out _ _ ?_
              obtain ⟨f1, f2, f3, f4, f5⟩ := FIN.out W2 hw2
              have L2 : Lef (fun q => q = kb ∨ q = w.heap.size + 1) W W2 := (LK.out.mono (fun q hq => .inl hq)).trans (Lef.of_below hw2)
              obtain ⟨gr1, gr2⟩ := HG.out W2 hw2
              have L3 : Lef (fun q => q = kb ∨ q = w.heap.size + 1) W (W2.setCell ⟨w.heap.size + 1, 0, none⟩ (.bool false)) := L2.setCell (p := ⟨w.heap.size + 1, 0, none⟩) (.inr rfl) _
              clear f1 f2 f3 f4 f5 G1 G2 G3 G4 G5 hcg1 hcg2 ckn cp cq cr' fr
              gi_wp2
              refine HQ3.out _ _ _ ?_
              refine ⟨keepsFrom_of_lef L3 (fun q hq => by rw [← HB.out]; have := HB1.out; omega), fun hp => ?_⟩
              have hx := HPRE.out hp
              exact hwx (HWF.out hx).symm
          · refine wpIn_gr_plain_k (wid_round l) (by kernel_rfl) fun L hL => ?_
            have HL := Lib.hid hL
            clear hL
            repeat (go_big_quiet_step (fail))
            rw [show decide ((k' : Int) < 0) = false from by simp]
            repeat (go_big_quiet_step (fail))
            rw [show (pk != px) = true from by simpa using hpx]
            repeat (go_big_quiet_step (fail))
            refine wpQuiet_nil ?_
            refine HL.out _ ?_
            rintro W2 ⟨⟨_, hw2⟩, rfl⟩
            refine HK2.out _ _ ?_
            obtain ⟨f1, f2, f3, f4, f5⟩ := FIN.out W2 hw2
            have L2 : Lef (fun q => q = kb ∨ q = w.heap.size + 1) W W2 := (LK.out.mono (fun q hq => .inl hq)).trans (Lef.of_below hw2)
            obtain ⟨gr1, gr2⟩ := HG.out W2 hw2
            have L3 : Lef (fun q => q = kb ∨ q = w.heap.size + 1) W (W2.setCell ⟨w.heap.size + 1, 0, none⟩ (.bool false)) := L2.setCell (p := ⟨w.heap.size + 1, 0, none⟩) (.inr rfl) _
            clear f1 f2 f3 f4 f5 G1 G2 G3 G4 G5 hcg1 hcg2 ckn cp cq cr' fr
            gi_wp2
            refine HQ3.out _ _ _ ?_
            refine ⟨keepsFrom_of_lef L3 (fun q hq => by rw [← HB.out]; have := HB1.out; omega), fun hp => ?_⟩
            have hx := HPRE.out hp
            exact hpx (HPF.out hx).symm
        case done =>
          rintro D' xs W hD' rfl ⟨s1, s2, s3, s4, s5⟩ hK
          have hDB : B ≤ D' := by rw [HB.out]; exact hD'
          obtain ⟨hep1, hlogN⟩ := HP.out.logN
          have ko2 := open_any h s.D c s.pls.length W s1 hcok hlogN
          rw [hep1, hv] at ko2
          unfold DevH.ptr at ko2
          obtain ⟨c0, c1, c2⟩ := s5.cfg.c3
          rw [idx_len, Int.sub_self] at s4
          have HLP := Lib.hid hLP
          have HPF := Lib.hid hpf0
          have HWF := Lib.hid hwf0
          clear hdB hlB bB kxB hrB hlogN hep1 hLP hpf0 hwf0 hwf hA h1 h2 h3
          go_wp2_with fail
          refine ko2.mono ?_
          rintro e W2 ⟨vb, rfl, hvl, hvb, d2⟩
          have r1 := s1.grow d2
          have r2 := s2.grow d2
          have r4 := s4.grow d2
          have r5 := s5.grow d2
          have rK : Is W2 D' (.deferred (some [])) := Is.grow (o := .deferred (some [])) hK d2
          clear ko2 s1 s2 s3 s4 s5 hK d2 c0 c1 c2
          have ck : W2.cell? ⟨kb, 0, none⟩ = some (.int .i64 0) := by rw [r4.cell]; rfl
          have cp : W2.cell? ⟨pb, 0, none⟩ = some (.slice a1 s.pls.length cap1) := by rw [r5.rp.cell]; rfl
          have G1 := GrW.cell ck
          have G2 := GrW.cell cp
          have k28 : ∀ x : GrW W2, Calls Try.prog 28 #[.pointer (some ⟨vb, 0, none⟩)] x.1 fun e w' => e = .returned (.int .i64 s.pls.length) ∧ x.1 = w' := fun x => llen_any h c vb 1 _ x.1 (hvl.grow x.2)
          go_wp2_with fail
          refine wp_gr (by kernel_rfl) (by kernel_rfl) ?_
          repeat (go_big_quiet_step (first | (go_at_call 28; with_reducible exact gr_call_same (k28 _))))
          refine wpQuiet_nil ?_
          rintro W3 ⟨⟨_, hw3⟩, rfl⟩
          have q1 := r1.grow hw3
          have q2 := r2.grow hw3
          have q5 := r5.grow hw3
          have qK := rK.grow hw3
          clear G1 G2 k28 ck cp r1 r2 r4 r5 rK hvl hw3
          have ku := undo_ps HP.out hcok h lb W3 q1 q2 (.inr hlb')
          go_wp2_with fail
          refine ku.mono ?_
          rintro e W4 ⟨rfl, u1, u2, lf4⟩
          have u5 := q5.lef lf4 (fun q hq => by unfold dl at hq; omega)
          have uK := qK.lef lf4 (by unfold dl; omega)
          have hend := HP.out.finish hcok
          clear ku q1 q2 q5 qK lf4
          obtain ⟨hel, hen, hek, hee, heg⟩ := hend
          have ko3 := open_any h (s.undone c) c 0 W4 u1 hcok heg
          rw [hee, hv] at ko3
          unfold DevH.ptr at ko3
          have HEL := Lib.hid hel
          have HEN := Lib.hid hen
          have HEK := Lib.hid hek
          clear hel hen hek hee heg
          obtain ⟨c0, c1, c2⟩ := u5.cfg.c3
          have cp : W4.cell? ⟨pb, 0, none⟩ = some (.slice a1 s.pls.length cap1) := by rw [u5.rp.cell]; rfl
          by_cases h0 : s.pls.length = 0
          · have hse : s.ep = 1 := by unfold PS.ep; rw [if_pos h0]
            rw [hse] at ko3 u2
            clear hse
            have H0 := Lib.hid h0
            have hz : (s.pls.length : Int) ≤ 0 := by omega
            clear h0
            go_wp2_with fail
            refine ko3.mono ?_
            rintro e W5 ⟨x2, rfl, hx2, hx2b, d5⟩
            have y1 := u1.grow d5
            have y2 := u2.grow d5
            have y5 := u5.grow d5
            have yK := Is.grow (o := .deferred (some [])) uK d5
            clear ko3 u1 u2 u5 uK d5 c0 c1 c2 cp hz
            have b6 : Below W5.heap.size W5 W5.drew := (Below.refl _ _).drew
            have z1 := y1.grow b6
            have z2 := y2.grow b6
            have z3 := hx2.grow b6
            have z5 := y5.grow b6
            have zK := Is.grow (o := .deferred (some [])) yK b6
            clear y1 y2 y5 yK hx2 b6
            have hact : c.act = ((c.act.toNat : Nat) : Int) := by omega
            have hwl : was.length = (fmtD c old).now.length - c.act.toNat := by rw [← HW.out]; simp
            have hal : c.act.toNat + 16 ≤ (s.undone c).now.length := by
              have := hcok.s1; have := c.bds.s1; have := c.bds.f1; have hw : c.words = c.fr0 + 2 * ln c.S := rfl
              have := HEL.out; have := fmtD_len c old; have := hcok.r1
              omega
            have hll : (s.undone c).now.length ≤ 100000 := z1.dok.small
            have kb : ∀ W, Dev W h (s.undone c) → Calls Try.prog 22 #[.pointer (some ⟨h.d, 0, none⟩), .agg #[.int .i64 c.L, .int .i64 c.R, .int .i64 c.S]] W fun e w' => ∃ b cap, e = .returned (.slice (some ⟨b, c.act.toNat, none⟩) ((fmtD c old).now.length - c.act.toNat) cap) ∧ Sl w' b c.act.toNat was ∧ W.heap.size ≤ b ∧ Below W.heap.size W w' := fun W hd => by
              have := behind_any h (s.undone c) c W hd hcok (by have := HEL.out; have := fmtD_len c old; omega)
              rw [HEN.out, HW.out, HEL.out, hv] at this
              exact this
            have ka : ∀ W, Calls Try.prog 36 #[.agg #[.int .i64 c.L, .int .i64 c.R, .int .i64 c.S]] W fun e w' => e = .returned (.int .i64 ((c.act.toNat : Nat) : Int)) ∧ Below W.heap.size W w' := fun W => by
              have := active_any c W hcok
              rw [hv] at this
              rw [← hact]
              exact this
            have kk : ∀ W, Dev W h (s.undone c) → Calls Try.prog 35 #[.pointer (some ⟨h.d, 0, none⟩)] W fun e w' => ∃ b cap, e = .returned (.slice (some ⟨b, 0, none⟩) (s.undone c).now.length cap) ∧ W.heap.size ≤ b ∧ (Sl w' b c.act.toNat was ∧ (s.undone c).now.length ≤ cap) ∧ Below W.heap.size W w' := fun W hd => by
              have := kept_any h (s.undone c) W hd
              refine this.mono fun e w' ⟨b, cap, h1, h2, h3, h4⟩ => ⟨b, cap, h1, h2, ⟨?_, ?_⟩, h4⟩
              · have hs := Sl.of_row h3 c.act.toNat (by rw [hd.dok.len]; omega)
                rw [HEK.out] at hs
                rw [HW.out] at hs
                exact hs
              · have := h3.wf_new
                rw [hd.dok.len] at this
                exact this
            have ke : ∀ b1 k1 b2 k2 W, Sl W b1 c.act.toNat was → Sl W b2 c.act.toNat was → Calls Try.prog 33 #[.slice (some ⟨b1, c.act.toNat, none⟩) ((fmtD c old).now.length - c.act.toNat) k1, .slice (some ⟨b2, c.act.toNat, none⟩) ((fmtD c old).now.length - c.act.toNat) k2] W fun e w' => e = .returned (.bool true) ∧ Below W.heap.size W w' := fun b1 k1 b2 k2 W h1 h2 => by
              have := equal_same b1 c.act.toNat k1 b2 c.act.toNat k2 was W h1 h2 (by have := HEL.out; omega)
              rw [hwl] at this
              exact this
            rw [HEL.out] at kk hal hll
            have zs := z5.was
            have zc := z5.cfg
            have zr := z5.res
            have zbel := z5.bel
            generalize (fmtD c old).now.length = LN at *
            generalize c.act.toNat = ac at *
            clear hact hwl
            have hKb : ∀ k, k < LN → ac ≤ LN := fun _ _ => by omega
            go_wp2_with fail
            have hS0 : RS h c cb lb x2 1 W5.drew := ⟨zc, z2, z3⟩
            have hne : Nonempty (SW (RS h c cb lb x2 1)) := ⟨⟨_, hS0⟩⟩
            have GC0 : ∀ x : SW (RS h c cb lb x2 1), x.1.cell? ⟨cb, 0, none⟩ = some (.int .i64 c.L) := fun x => x.2.cfg.c3.1
            have GC1 : ∀ x : SW (RS h c cb lb x2 1), x.1.cell? ⟨cb, 1, none⟩ = some (.int .i64 c.R) := fun x => x.2.cfg.c3.2.1
            have GC2 : ∀ x : SW (RS h c cb lb x2 1), x.1.cell? ⟨cb, 2, none⟩ = some (.int .i64 c.S) := fun x => x.2.cfg.c3.2.2
            refine wp_region_OL (S := RS h c cb lb x2 1) 40 [([0, 1, 3], some 2), ([], some 4), ([5, 6], some 7), ([8, 9, 10, 11, 13], some 12), ([14, 15, 16, 17, 18, 19, 20, 21], some 22), ([23, 24, 25, 26, 28], some 27), ([29, 30, 31, 32, 34, 37], some 33), ([], some 35), ([36], some 38), ([39], none)] (by kernel_rfl) (by kernel_rfl) (by kernel_rfl) (by kernel_rfl) (by decide) rfl (by kernel_rfl) (by kernel_rfl) hS0 fun Q4 hQ4 Q5 hQ5 => ?_
            have HQ4 := Lib.hid hQ4
            have HQ5 := Lib.hid hQ5
            clear hQ4 hQ5
            simp only [segOps, List.map_cons, List.map_nil, List.filterMap_cons, List.filterMap_nil, Option.bind_some, Option.bind_none, List.getElem?_toArray, List.getElem?_cons_succ, List.getElem?_cons_zero]
            change wpOL _ _ _ _ _ _ _ W5.drew
            have ZK := Lib.hid zK
            have Z5 := Lib.hid z5
            have Z1 := Lib.hid z1
            have ZS := Lib.hid zs
            have ZR := Lib.hid zr
            have ZB := Lib.hid zbel
            clear zK z5 z1 zs zc z2 z3 zr zbel
            generalize W5.drew = W6 at *
            refine wpOL_seg fun K hK => ?_
            change wpQuiet _ _ _ _ [_, _, _] _
            repeat (go_big_quiet_step (fail))
            refine wpQuiet_nil (hK _ ?_)
            clear hK K
            refine wpOL_one (by kernel_rfl) fun K hK => ?_
            go_wp2_with fail
            refine (kb W6 Z1.out).mono ?_
            rintro e W7 ⟨b7, cap7, rfl, hs7, hb7, d7⟩
            have hS7 := hS0.grow d7
            refine hK _ _ hS7 ?_
            clear hK K
            refine wpOL_one (by kernel_rfl) fun K hK => ?_
            go_wp2_with fail
            refine (ke b7 cap7 wb wc W7 hs7 (ZS.out.grow d7)).mono ?_
            rintro e W8 ⟨rfl, d8⟩
            have hS8 := hS7.grow d8
            refine hK _ _ hS8 ?_
            clear hK K
            have g8 := Below.grown_trans d7 d8
            refine wpOL_seg fun K hK => ?_
            change wpQuiet _ _ _ _ [_, _] _
            repeat (go_big_quiet_step (fail))
            refine wpQuiet_nil (hK _ ?_)
            clear hK K
            refine wpOL_one (by kernel_rfl) fun K hK => ?_
            go_wp2_with fail
            refine (llen_any h c lb _ _ W8 hS8.log).mono ?_
            rintro e Wx ⟨rfl, rfl⟩
            refine hK _ _ hS8 ?_
            clear hK K
            refine wpOL_seg fun K hK => ?_
            change wpQuiet _ _ _ _ [_, _, _, _, _] _
            repeat (go_big_quiet_step (fail))
            refine wpQuiet_nil (hK _ ?_)
            clear hK K
            refine wpOL_one (by kernel_rfl) fun K hK => ?_
            go_wp2_with fail
            refine (lepoch_any h c lb _ _ W8 hS8.log).mono ?_
            rintro e Wx ⟨rfl, rfl⟩
            refine hK _ _ hS8 ?_
            clear hK K
            refine wpOL_seg fun K hK => ?_
            change wpQuiet _ _ _ _ [_, _, _, _, _, _, _, _] _
            repeat (go_big_quiet_step (fail))
            refine wpQuiet_nil (hK _ ?_)
            clear hK K
            refine wpOL_one (by kernel_rfl) fun K hK => ?_
            go_wp2_with fail
            refine (llen_any h c x2 _ _ W8 hS8.log2).mono ?_
            rintro e Wx ⟨rfl, rfl⟩
            refine hK _ _ hS8 ?_
            clear hK K
            refine wpOL_seg fun K hK => ?_
            change wpQuiet _ _ _ _ [_, _, _, _, _] _
            repeat (go_big_quiet_step (fail))
            refine wpQuiet_nil (hK _ ?_)
            clear hK K
            refine wpOL_one (by kernel_rfl) fun K hK => ?_
            go_wp2_with fail
            refine (lepoch_any h c x2 _ _ W8 hS8.log2).mono ?_
            rintro e Wx ⟨rfl, rfl⟩
            refine hK _ _ hS8 ?_
            clear hK K
            refine wpOL_seg fun K hK => ?_
            change wpQuiet _ _ _ _ [_, _, _, _, _, _] _
            repeat (go_big_quiet_step (fail))
            refine wpQuiet_nil (hK _ ?_)
            clear hK K
            refine wpOL_one (by kernel_rfl) fun K hK => ?_
            go_wp2_with fail
            refine (kk W8 (Z1.out.grow g8)).mono ?_
            rintro e W9 ⟨b9, cap9, rfl, hb9, ⟨hs9, hc9⟩, d9⟩
            have hS9 := hS8.grow d9
            refine hK _ _ hS9 ?_
            clear hK K
            refine wpOL_one (by kernel_rfl) fun K hK => ?_
            go_wp2_with fail
            refine (ka W9).mono ?_
            rintro e W10 ⟨rfl, d10⟩
            have hS10 := hS9.grow d10
            refine hK _ _ hS10 ?_
            clear hK K
            have g10 := Below.grown_trans (Below.grown_trans g8 d9) d10
            refine wpOL_seg fun K hK => ?_
            change wpQuiet _ _ _ _ [_] _
            repeat (go_big_quiet_step (fail))
            refine wpQuiet_nil (hK _ ?_)
            clear hK K
            refine wpOL_one (by kernel_rfl) fun K hK => ?_
            go_wp2_with fail
            refine (ke b9 _ wb wc W10 (hs9.grow d10) (ZS.out.grow g10)).mono ?_
            rintro e W11 ⟨rfl, d11⟩
            have hS11 := hS10.grow d11
            refine hK _ _ hS11 ?_
            clear hK K
            have g11 := Below.grown_trans g10 d11
            refine wpOL_reads fun K hK => ?_
            change wpQuiet _ _ _ _ [_] _
            repeat (go_big_quiet_step (fail))
            refine wpQuiet_nil (hK _ ?_)
            clear hK K
            refine wpOL_nil (HQ5.out _ _ ?_)
            simp only [List.toList_toArray, List.drop_succ_cons, List.drop_zero]
            have zr' := ZR.out.grow g11
            have zK' := Is.grow (o := .deferred (some [])) ZK.out g11
            have zb' : Below w.heap.size w W11 := Below.grown_trans (ZB.out) g11
            have cr : W11.cell? ⟨w.heap.size + 1, 0, none⟩ = some (.bool false) := by rw [zr'.cell]; rfl
            have fr : W11.frozen? ⟨w.heap.size + 1, 0, none⟩ = false := zr'.free
            clear hs7 hs9 hS0 hS7 hS8 hS9 hS10 hS11 d7 d8 d9 d10 d11 g8 g10 g11 GC0 GC1 GC2 HQ4 HQ5
            go_wp2
            refine NoPanic.normal ?_
            have re1 : Is (W11.setCell ⟨w.heap.size + 1, 0, none⟩ (.bool true)) (w.heap.size + 1) (.cells #[.bool true] 4 (0, 0)) := Is.set (i := 0) zr' (.bool true)
            have rK1 := Is.set_other (p := ⟨w.heap.size + 1, 0, none⟩) zK' (by simp; omega) (.bool true)
            have rb1 := zb'.setCell (p := ⟨w.heap.size + 1, 0, none⟩) (by simp) (.bool true)
            have rB1 : w.heap.size < D' := by omega
            clear zr' zK' zb' cr fr ZK Z5 Z1 ZS ZR ZB
            generalize W11.setCell ⟨w.heap.size + 1, 0, none⟩ (.bool true) = W12 at *
            go_wp2
            have L5 := lef_of_grownBy (B := B) (grownBy_putObj' W12 D' (.deferred none)) (fun r e => by cases e; exact hDB)
            have re2 := re1.lef L5 (by omega)
            refine ⟨by simp, .inl ⟨_, _, rfl, run_takeDeferred rK1, ?_⟩⟩
            exact ⟨_, results_bool rfl _ _ _ rfl (by rw [re2.cell]; rfl), rfl, rb1.trans (L5.below (fun q hq => by omega) rb1.size)⟩
          · have hse : s.ep = 2 := by unfold PS.ep; rw [if_neg h0]
            rw [hse] at ko3 u2
            have hz : (0 : Int) < (s.pls.length : Int) := by omega
            clear hse h0
            go_wp2_with fail
            refine ko3.mono ?_
            rintro e W5 ⟨x2, rfl, hx2, hx2b, d5⟩
            have y1 := u1.grow d5
            have y2 := u2.grow d5
            have y5 := u5.grow d5
            have yK := Is.grow (o := .deferred (some [])) uK d5
            clear ko3 u1 u2 u5 uK d5 c0 c1 c2 cp hz
            have b6 : Below W5.heap.size W5 W5.drew := (Below.refl _ _).drew
            have z1 := y1.grow b6
            have z2 := y2.grow b6
            have z3 := hx2.grow b6
            have z5 := y5.grow b6
            have zK := Is.grow (o := .deferred (some [])) yK b6
            clear y1 y2 y5 yK hx2 b6
            have hact : c.act = ((c.act.toNat : Nat) : Int) := by omega
            have hwl : was.length = (fmtD c old).now.length - c.act.toNat := by rw [← HW.out]; simp
            have hal : c.act.toNat + 16 ≤ (s.undone c).now.length := by
              have := hcok.s1; have := c.bds.s1; have := c.bds.f1; have hw : c.words = c.fr0 + 2 * ln c.S := rfl
              have := HEL.out; have := fmtD_len c old; have := hcok.r1
              omega
            have hll : (s.undone c).now.length ≤ 100000 := z1.dok.small
            have kb : ∀ W, Dev W h (s.undone c) → Calls Try.prog 22 #[.pointer (some ⟨h.d, 0, none⟩), .agg #[.int .i64 c.L, .int .i64 c.R, .int .i64 c.S]] W fun e w' => ∃ b cap, e = .returned (.slice (some ⟨b, c.act.toNat, none⟩) ((fmtD c old).now.length - c.act.toNat) cap) ∧ Sl w' b c.act.toNat was ∧ W.heap.size ≤ b ∧ Below W.heap.size W w' := fun W hd => by
              have := behind_any h (s.undone c) c W hd hcok (by have := HEL.out; have := fmtD_len c old; omega)
              rw [HEN.out, HW.out, HEL.out, hv] at this
              exact this
            have ka : ∀ W, Calls Try.prog 36 #[.agg #[.int .i64 c.L, .int .i64 c.R, .int .i64 c.S]] W fun e w' => e = .returned (.int .i64 ((c.act.toNat : Nat) : Int)) ∧ Below W.heap.size W w' := fun W => by
              have := active_any c W hcok
              rw [hv] at this
              rw [← hact]
              exact this
            have kk : ∀ W, Dev W h (s.undone c) → Calls Try.prog 35 #[.pointer (some ⟨h.d, 0, none⟩)] W fun e w' => ∃ b cap, e = .returned (.slice (some ⟨b, 0, none⟩) (s.undone c).now.length cap) ∧ W.heap.size ≤ b ∧ (Sl w' b c.act.toNat was ∧ (s.undone c).now.length ≤ cap) ∧ Below W.heap.size W w' := fun W hd => by
              have := kept_any h (s.undone c) W hd
              refine this.mono fun e w' ⟨b, cap, h1, h2, h3, h4⟩ => ⟨b, cap, h1, h2, ⟨?_, ?_⟩, h4⟩
              · have hs := Sl.of_row h3 c.act.toNat (by rw [hd.dok.len]; omega)
                rw [HEK.out] at hs
                rw [HW.out] at hs
                exact hs
              · have := h3.wf_new
                rw [hd.dok.len] at this
                exact this
            have ke : ∀ b1 k1 b2 k2 W, Sl W b1 c.act.toNat was → Sl W b2 c.act.toNat was → Calls Try.prog 33 #[.slice (some ⟨b1, c.act.toNat, none⟩) ((fmtD c old).now.length - c.act.toNat) k1, .slice (some ⟨b2, c.act.toNat, none⟩) ((fmtD c old).now.length - c.act.toNat) k2] W fun e w' => e = .returned (.bool true) ∧ Below W.heap.size W w' := fun b1 k1 b2 k2 W h1 h2 => by
              have := equal_same b1 c.act.toNat k1 b2 c.act.toNat k2 was W h1 h2 (by have := HEL.out; omega)
              rw [hwl] at this
              exact this
            rw [HEL.out] at kk hal hll
            have zs := z5.was
            have zc := z5.cfg
            have zr := z5.res
            have zbel := z5.bel
            generalize (fmtD c old).now.length = LN at *
            generalize c.act.toNat = ac at *
            clear hact hwl
            have hKb : ∀ k, k < LN → ac ≤ LN := fun _ _ => by omega
            go_wp2_with fail
            have hS0 : RS h c cb lb x2 2 W5.drew := ⟨zc, z2, z3⟩
            have hne : Nonempty (SW (RS h c cb lb x2 2)) := ⟨⟨_, hS0⟩⟩
            have GC0 : ∀ x : SW (RS h c cb lb x2 2), x.1.cell? ⟨cb, 0, none⟩ = some (.int .i64 c.L) := fun x => x.2.cfg.c3.1
            have GC1 : ∀ x : SW (RS h c cb lb x2 2), x.1.cell? ⟨cb, 1, none⟩ = some (.int .i64 c.R) := fun x => x.2.cfg.c3.2.1
            have GC2 : ∀ x : SW (RS h c cb lb x2 2), x.1.cell? ⟨cb, 2, none⟩ = some (.int .i64 c.S) := fun x => x.2.cfg.c3.2.2
            refine wp_region_OL (S := RS h c cb lb x2 2) 40 [([0, 1, 3], some 2), ([], some 4), ([5, 6], some 7), ([8, 9, 10, 11, 13], some 12), ([14, 15, 16, 17, 18, 19, 20, 21], some 22), ([23, 24, 25, 26, 28], some 27), ([29, 30, 31, 32, 34, 37], some 33), ([], some 35), ([36], some 38), ([39], none)] (by kernel_rfl) (by kernel_rfl) (by kernel_rfl) (by kernel_rfl) (by decide) rfl (by kernel_rfl) (by kernel_rfl) hS0 fun Q4 hQ4 Q5 hQ5 => ?_
            have HQ4 := Lib.hid hQ4
            have HQ5 := Lib.hid hQ5
            clear hQ4 hQ5
            simp only [segOps, List.map_cons, List.map_nil, List.filterMap_cons, List.filterMap_nil, Option.bind_some, Option.bind_none, List.getElem?_toArray, List.getElem?_cons_succ, List.getElem?_cons_zero]
            change wpOL _ _ _ _ _ _ _ W5.drew
            have ZK := Lib.hid zK
            have Z5 := Lib.hid z5
            have Z1 := Lib.hid z1
            have ZS := Lib.hid zs
            have ZR := Lib.hid zr
            have ZB := Lib.hid zbel
            clear zK z5 z1 zs zc z2 z3 zr zbel
            generalize W5.drew = W6 at *
            refine wpOL_seg fun K hK => ?_
            change wpQuiet _ _ _ _ [_, _, _] _
            repeat (go_big_quiet_step (fail))
            refine wpQuiet_nil (hK _ ?_)
            clear hK K
            refine wpOL_one (by kernel_rfl) fun K hK => ?_
            go_wp2_with fail
            refine (kb W6 Z1.out).mono ?_
            rintro e W7 ⟨b7, cap7, rfl, hs7, hb7, d7⟩
            have hS7 := hS0.grow d7
            refine hK _ _ hS7 ?_
            clear hK K
            refine wpOL_one (by kernel_rfl) fun K hK => ?_
            go_wp2_with fail
            refine (ke b7 cap7 wb wc W7 hs7 (ZS.out.grow d7)).mono ?_
            rintro e W8 ⟨rfl, d8⟩
            have hS8 := hS7.grow d8
            refine hK _ _ hS8 ?_
            clear hK K
            have g8 := Below.grown_trans d7 d8
            refine wpOL_seg fun K hK => ?_
            change wpQuiet _ _ _ _ [_, _] _
            repeat (go_big_quiet_step (fail))
            refine wpQuiet_nil (hK _ ?_)
            clear hK K
            refine wpOL_one (by kernel_rfl) fun K hK => ?_
            go_wp2_with fail
            refine (llen_any h c lb _ _ W8 hS8.log).mono ?_
            rintro e Wx ⟨rfl, rfl⟩
            refine hK _ _ hS8 ?_
            clear hK K
            refine wpOL_seg fun K hK => ?_
            change wpQuiet _ _ _ _ [_, _, _, _, _] _
            repeat (go_big_quiet_step (fail))
            refine wpQuiet_nil (hK _ ?_)
            clear hK K
            refine wpOL_one (by kernel_rfl) fun K hK => ?_
            go_wp2_with fail
            refine (lepoch_any h c lb _ _ W8 hS8.log).mono ?_
            rintro e Wx ⟨rfl, rfl⟩
            refine hK _ _ hS8 ?_
            clear hK K
            refine wpOL_seg fun K hK => ?_
            change wpQuiet _ _ _ _ [_, _, _, _, _, _, _, _] _
            repeat (go_big_quiet_step (fail))
            refine wpQuiet_nil (hK _ ?_)
            clear hK K
            refine wpOL_one (by kernel_rfl) fun K hK => ?_
            go_wp2_with fail
            refine (llen_any h c x2 _ _ W8 hS8.log2).mono ?_
            rintro e Wx ⟨rfl, rfl⟩
            refine hK _ _ hS8 ?_
            clear hK K
            refine wpOL_seg fun K hK => ?_
            change wpQuiet _ _ _ _ [_, _, _, _, _] _
            repeat (go_big_quiet_step (fail))
            refine wpQuiet_nil (hK _ ?_)
            clear hK K
            refine wpOL_one (by kernel_rfl) fun K hK => ?_
            go_wp2_with fail
            refine (lepoch_any h c x2 _ _ W8 hS8.log2).mono ?_
            rintro e Wx ⟨rfl, rfl⟩
            refine hK _ _ hS8 ?_
            clear hK K
            refine wpOL_seg fun K hK => ?_
            change wpQuiet _ _ _ _ [_, _, _, _, _, _] _
            repeat (go_big_quiet_step (fail))
            refine wpQuiet_nil (hK _ ?_)
            clear hK K
            refine wpOL_one (by kernel_rfl) fun K hK => ?_
            go_wp2_with fail
            refine (kk W8 (Z1.out.grow g8)).mono ?_
            rintro e W9 ⟨b9, cap9, rfl, hb9, ⟨hs9, hc9⟩, d9⟩
            have hS9 := hS8.grow d9
            refine hK _ _ hS9 ?_
            clear hK K
            refine wpOL_one (by kernel_rfl) fun K hK => ?_
            go_wp2_with fail
            refine (ka W9).mono ?_
            rintro e W10 ⟨rfl, d10⟩
            have hS10 := hS9.grow d10
            refine hK _ _ hS10 ?_
            clear hK K
            have g10 := Below.grown_trans (Below.grown_trans g8 d9) d10
            refine wpOL_seg fun K hK => ?_
            change wpQuiet _ _ _ _ [_] _
            repeat (go_big_quiet_step (fail))
            refine wpQuiet_nil (hK _ ?_)
            clear hK K
            refine wpOL_one (by kernel_rfl) fun K hK => ?_
            go_wp2_with fail
            refine (ke b9 _ wb wc W10 (hs9.grow d10) (ZS.out.grow g10)).mono ?_
            rintro e W11 ⟨rfl, d11⟩
            have hS11 := hS10.grow d11
            refine hK _ _ hS11 ?_
            clear hK K
            have g11 := Below.grown_trans g10 d11
            refine wpOL_reads fun K hK => ?_
            change wpQuiet _ _ _ _ [_] _
            repeat (go_big_quiet_step (fail))
            refine wpQuiet_nil (hK _ ?_)
            clear hK K
            refine wpOL_nil (HQ5.out _ _ ?_)
            simp only [List.toList_toArray, List.drop_succ_cons, List.drop_zero]
            have zr' := ZR.out.grow g11
            have zK' := Is.grow (o := .deferred (some [])) ZK.out g11
            have zb' : Below w.heap.size w W11 := Below.grown_trans (ZB.out) g11
            have cr : W11.cell? ⟨w.heap.size + 1, 0, none⟩ = some (.bool false) := by rw [zr'.cell]; rfl
            have fr : W11.frozen? ⟨w.heap.size + 1, 0, none⟩ = false := zr'.free
            clear hs7 hs9 hS0 hS7 hS8 hS9 hS10 hS11 d7 d8 d9 d10 d11 g8 g10 g11 GC0 GC1 GC2 HQ4 HQ5
            go_wp2
            refine NoPanic.normal ?_
            have re1 : Is (W11.setCell ⟨w.heap.size + 1, 0, none⟩ (.bool true)) (w.heap.size + 1) (.cells #[.bool true] 4 (0, 0)) := Is.set (i := 0) zr' (.bool true)
            have rK1 := Is.set_other (p := ⟨w.heap.size + 1, 0, none⟩) zK' (by simp; omega) (.bool true)
            have rb1 := zb'.setCell (p := ⟨w.heap.size + 1, 0, none⟩) (by simp) (.bool true)
            have rB1 : w.heap.size < D' := by omega
            clear zr' zK' zb' cr fr ZK Z5 Z1 ZS ZR ZB
            generalize W11.setCell ⟨w.heap.size + 1, 0, none⟩ (.bool true) = W12 at *
            go_wp2
            have L5 := lef_of_grownBy (B := B) (grownBy_putObj' W12 D' (.deferred none)) (fun r e => by cases e; exact hDB)
            have re2 := re1.lef L5 (by omega)
            refine ⟨by simp, .inl ⟨_, _, rfl, run_takeDeferred rK1, ?_⟩⟩
            exact ⟨_, results_bool rfl _ _ _ rfl (by rw [re2.cell]; rfl), rfl, rb1.trans (L5.below (fun q hq => by omega) rb1.size)⟩
        case stop =>
          rintro D' c' pre W _ hpre hnot _
          exact absurd hpre hnot
  · have h20 : 20 < old.length ∨ 30 < al.length := by omega
    obtain ⟨cr, fr⟩ : w2.cell? ⟨w.heap.size + 1, 0, none⟩ = some (.bool false) ∧ w2.frozen? ⟨w.heap.size + 1, 0, none⟩ = false := ⟨by rw [y2.cell]; rfl, y2.free⟩
    have re1 : Is (w2.setCell ⟨w.heap.size + 1, 0, none⟩ (.bool true)) (w.heap.size + 1) (.cells #[.bool true] 4 (0, 0)) := Is.set (i := 0) y2 (.bool true)
    have rb1 := b2.setCell (p := ⟨w.heap.size + 1, 0, none⟩) (by simp) (.bool true)
    have fin : ∀ a : Act, a.defers = [] → a.tmps.getD 6 undef = .pointer (some ⟨w.heap.size + 1, 0, none⟩) → bodyPostM Fence.wide 12 Try.prog Try.f3 (fun e w' => e = .returned (.bool true) ∧ Below w.heap.size w w') .ret a (w2.setCell ⟨w.heap.size + 1, 0, none⟩ (.bool true)) := fun a h1 h2 => by
      obtain ⟨tm, df⟩ := a
      subst h1
      exact ⟨_, results_bool rfl _ _ _ h2 (by rw [re1.cell]; rfl), rfl, rb1⟩
    have FIN := Lib.hid fin
    clear fin re1 rb1 y2 x2 ho ha hA hwf hoc hac hgo b2
    by_cases h20' : 20 < old.length
    · clear h20
      go_wp2
      exact FIN.out _ rfl rfl
    · have h30 : 30 < al.length := by omega
      clear h20
      go_wp2
      exact FIN.out _ rfl rfl
end Go.Proofs.Ytpecgfpofihibaa
