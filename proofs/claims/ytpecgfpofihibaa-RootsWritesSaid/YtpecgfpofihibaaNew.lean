/-
  slices.Clone; nvm's Words, Kept, New; power.New.
-/
import Derived.Test.YtpecgfpofihibaaFence
import Derived.Deep.Cut
namespace Go.Proofs.Ytpecgfpofihibaa
open Go Go.RowKit Go.MapKept

/-- Block b is a row of numbers, with spare room. -/
structure Row (w : World) (b cap : Nat) (l : List Int) : Prop where
  is : ∃ rest : List Value, Is w b (.cells (u64s l ++ rest).toArray 38 (0, 0)) ∧ l.length + rest.length = cap

theorem Row.grow {w w' : World} {b cap : Nat} {l : List Int} (h : Row w b cap l) (hb : Below w.heap.size w w') : Row w' b cap l := by
  obtain ⟨r, h1, h2⟩ := h.is
  exact ⟨r, h1.grow hb, h2⟩
theorem Row.left {w w' : World} {b cap lo hi : Nat} {l : List Int} (h : Row w b cap l) (hl : Left lo hi w w') (hb : b < lo ∨ hi ≤ b) : Row w' b cap l := by
  obtain ⟨r, h1, h2⟩ := h.is
  exact ⟨r, h1.left hl hb, h2⟩
theorem Row.lt {w : World} {b cap : Nat} {l : List Int} (h : Row w b cap l) : b < w.heap.size := by
  obtain ⟨r, h1, h2⟩ := h.is
  exact h1.lt
theorem Row.cell {w : World} {b cap : Nat} {l : List Int} (h : Row w b cap l) (i : Nat) (hi : i < l.length) : w.cell? ⟨b, i, none⟩ = some (.int .u64 l[i]) := by
  obtain ⟨r, h1, h2⟩ := h.is
  rw [h1.cell, List.getElem?_toArray, List.getElem?_append_left (by simpa using hi), u64s_get _ _ hi]

def slv (b n cap : Nat) : Value := .slice (some ⟨b, 0, none⟩) n cap

theorem Try.infou64 : (Try.prog.info? 38).map (fun i => (i.zero, i.size, i.bytes)) = some (some (.int .u64 0), 1, 8) := by kernel_rfl

/-- What an owned row of numbers is. -/
theorem row_of_owns {w : World} {base n : Nat} {v : Value} {l : List Int} (h : w.ownsRow base 38 1 v n (u64s l)) (hn : 0 < l.length) : ∃ b cap, v = slv b n cap ∧ base ≤ b ∧ Row w b cap l ∧ n = l.length := by
  obtain ⟨h1, h2⟩ := h
  simp only [u64s_length, Nat.mul_one] at h1
  rcases h2 with ⟨_, h2⟩ | ⟨g, cap, cur, hv, hg, hh, hnc, hm, hs, ht⟩
  · omega
  · refine ⟨g, cap, hv, hg, ⟨cur.toList.drop n, ?_, ?_⟩, h1.symm⟩
    · have : u64s l ++ cur.toList.drop n = cur.toList := by rw [← ht]; simp
      rw [this]
      exact hh
    · simp at hs ⊢
      omega

theorem row_owns {w : World} {b cap : Nat} {l : List Int} (h : Row w b cap l) (hm : cap ≤ maxLen) (base : Nat) (hb : base ≤ b) : w.ownsRow base 38 1 (slv b l.length cap) l.length (u64s l) := by
  obtain ⟨r, h1, h2⟩ := h.is
  refine ⟨by simp, .inr ⟨b, cap, _, rfl, hb, h1, by omega, hm, by simp; omega, ?_⟩⟩
  simp

/-- An append whose run is known. -/
theorem wpList_append_run {P : Program} {w w' : World} {ops : Array Oper} {rest : List Oper} {o : Oper} {a : Act} {Q : Exit → Act → World → Prop} (hgd : o.guard = none) (s x : Operand) (T : TypeId)
    (ho : o.op = .call { callee := .builtin .append, args := #[s, x], argTypes := #[T, T] }) (v xv v' : Value) (hs : a.eval s = v) (hx : a.eval x = xv)
    (hrun : ∀ ty, (Builtin.append_ #[T, T] ty #[v, xv]).run P w = .ok v' w') (h : wpList P ops Q rest (a.put o.dst v') w') : wpList P ops Q (o :: rest) a w := by
  refine wpList_plain hgd fun K hK => ?_
  unfold Oper.wp execOp
  simp only [ho, resolve, invoke, builtin, Sem.run_bind, Sem.run_pure, Result.andThen_ok, List.map_toArray, List.map_cons, List.map_nil, hs, hx, hrun]
  exact hK _ _ h

/-- A make whose run is known. -/
theorem wpList_make_run {P : Program} {w w' : World} {ops : Array Oper} {rest : List Oper} {o : Oper} {a : Act} {Q : Exit → Act → World → Prop} (hgd : o.guard = none) (l c : Operand) (T : TypeId)
    (ho : o.op = .makeSlice T l c) (lv cv v' : Value) (hs : a.eval l = lv) (hx : a.eval c = cv)
    (hrun : (Instr.makeSlice T lv cv).run P w = .ok v' w') (h : wpList P ops Q rest (a.put o.dst v') w') : wpList P ops Q (o :: rest) a w := by
  refine wpList_plain hgd fun K hK => ?_
  unfold Oper.wp execOp
  simp only [ho, Sem.run_bind, Sem.run_pure, Result.andThen_ok, hs, hx, hrun]
  exact hK _ _ h

/-- A copy whose run is known. -/
theorem wpList_copy_run {P : Program} {w w' : World} {ops : Array Oper} {rest : List Oper} {o : Oper} {a : Act} {Q : Exit → Act → World → Prop} (hgd : o.guard = none) (s x : Operand) (T U : TypeId)
    (ho : o.op = .call { callee := .builtin .copy, args := #[s, x], argTypes := #[T, U] }) (v xv v' : Value) (hs : a.eval s = v) (hx : a.eval x = xv)
    (hrun : ∀ ty, (Builtin.copy_ #[T, U] ty #[v, xv]).run P w = .ok v' w') (h : wpList P ops Q rest (a.put o.dst v') w') : wpList P ops Q (o :: rest) a w := by
  refine wpList_plain hgd fun K hK => ?_
  unfold Oper.wp execOp
  simp only [ho, resolve, invoke, builtin, Sem.run_bind, Sem.run_pure, Result.andThen_ok, List.map_toArray, List.map_cons, List.map_nil, hs, hx, hrun]
  exact hK _ _ h

/-- append, onto an owned row of numbers. -/
theorem append_u64 (w : World) (base : Nat) (v : Value) (xs : List Int) (hown : w.ownsRow base 38 1 v xs.length (u64s xs)) (hbase : base ≤ w.heap.size) (a : Addr) (c : Nat) (news : List Int)
    (hnews : ∀ j x, news[j]? = some x → w.cell? (a.add j) = some (.int .u64 x)) (hs : xs.length + news.length ≤ 1000000) :
    ∃ v' w', (∀ ty, (Builtin.append_ #[25, 25] ty #[v, .slice (some a) news.length c]).run Try.prog w = .ok v' w') ∧ w'.ownsRow base 38 1 v' (xs ++ news).length (u64s (xs ++ news)) ∧ w.grownBy w' v.ownBlock := by
  obtain ⟨i0, hi, hz0, hz1, hz2⟩ := info_parts Try.infou64
  obtain ⟨v', w', h1, h2, h3, _⟩ := run_append_own (P := Try.prog) w base 25 0 38 i0 (.int .u64 0) 1 8 Try.underlying25 hi hz0 hz1 hz2 rfl (by decide) v xs.length (u64s xs) hown a news.length c (u64s news) (by simp)
    (fun j u hu => by
      simp only [u64s, List.getElem?_map] at hu
      cases hj : news[j]? with
      | none => simp [hj] at hu
      | some x => rw [hj] at hu; cases hu; exact hnews j x hj) (by simp [u64s, u64v, Value.oneCell']) (by unfold maxLen; omega) (by omega) hbase
  refine ⟨v', w', fun ty => h1, ?_, h3⟩
  have e : u64s xs ++ u64s news = u64s (xs ++ news) := by simp [u64s]
  rw [e] at h2
  simpa using h2

theorem Row.src {w : World} {b cap : Nat} {l : List Int} (h : Row w b cap l) : ∀ j x, l[j]? = some x → w.cell? ((⟨b, 0, none⟩ : Addr).add j) = some (.int .u64 x) := by
  intro j x hj
  obtain ⟨hj1, hj2⟩ := List.getElem?_eq_some_iff.1 hj
  have := h.cell j hj1
  rw [hj2] at this
  simp only [Addr.add]
  split
  · rename_i h0; subst h0; exact this
  · simpa using this

set_option maxHeartbeats 400000 in
theorem clone_any (sb sc : Nat) (l : List Int) (w : World) (h : Row w sb sc l) (hn : 0 < l.length) (hm : l.length ≤ 200000) :
    Calls Try.prog 83 #[slv sb l.length sc] w fun e w' => ∃ b cap, e = .returned (slv b l.length cap) ∧ w.heap.size ≤ b ∧ Row w' b cap l ∧ Below w.heap.size w w' := by
  have e1 := fun w => Lib.run_eql_slice_nil (P := Try.prog) w 25 38 (some ⟨sb, 0, none⟩) l.length sc 0 0 Try.underlying25
  simp only [Option.isNone_some] at e1
  have hown : (w.alloc (.cells #[] 38)).ownsRow w.heap.size 38 1 (.slice (some ⟨w.heap.size, 0, none⟩) 0 0) ([] : List Int).length (u64s []) :=
    ⟨rfl, .inr ⟨w.heap.size, 0, #[], rfl, Nat.le_refl _, Is.new _ _, Nat.le_refl _, by decide, rfl, rfl⟩⟩
  have hrow := h.grow (w' := w.alloc (.cells #[] 38)) ((Below.refl _ _).alloc (Nat.le_refl _) _)
  obtain ⟨v', w1, hap, hown', hg⟩ := append_u64 _ _ _ _ hown (by simp) ⟨sb, 0, none⟩ sc l hrow.src (by simp; omega)
  simp only [List.nil_append] at hown'
  obtain ⟨b, cap, rfl, hb, hrow', hnl⟩ := row_of_owns hown' hn
  have hbel : Below w.heap.size w w1 := ((Below.refl _ _).alloc (Nat.le_refl _) _).grown hg (by simp) (fun k hk => by cases hk; exact Nat.le_refl _)
  have hfin : ∃ b cap, Ending.returned (slv b l.length cap) = .returned (slv b l.length cap) ∧ w.heap.size ≤ b ∧ Row w1 b cap l ∧ Below w.heap.size w w1 := ⟨b, cap, rfl, hb, hrow', hbel⟩
  unfold slv at hap ⊢
  clear hfin hown' hown hrow hg hnl h
  go_enter Try.func83, Try.ntmps83
  go_wp2_with (at_builtin; refine wpList_append_run rfl _ _ _ rfl _ _ _ rfl rfl hap ?_)
  go_ret
  exact ⟨b, cap, rfl, hb, hrow', hbel⟩

theorem made_u64 (n : Nat) : madeCells #[.int .u64 0] n = (u64s (List.replicate n 0)).toArray := by
  apply Array.ext
  · simp [madeCells]
  · intro i h1 h2
    simp [madeCells, u64s, u64v, Nat.mod_one]

theorem make_u64 (w : World) (n : Nat) (hn : n ≤ 1000000) :
    (Instr.makeSlice 25 (.int .i64 n) (.int .i64 n)).run Try.prog w = .ok (slv w.heap.size n n) (w.alloc (.cells (u64s (List.replicate n 0)).toArray 38)) := by
  obtain ⟨i0, hi, hz0, hz1, hz2⟩ := info_parts Try.infou64
  have := run_make (P := Try.prog) w 25 38 i0 (.int .u64 0) Try.underlying25 hi hz0 .i64 .i64 n n (by omega) (Int.le_refl _) (by rw [hz2]; omega) (by omega)
  rw [this]
  simp only [Int.toNat_natCast, hz1, Nat.mul_one, Value.cells, made_u64]
  rfl

/-- Whole lines. -/
def pad (l : List Int) : List Int := l ++ List.replicate ((l.length + 7) / 8 * 8 - l.length) 0

theorem pad_len (l : List Int) : (pad l).length = (l.length + 7) / 8 * 8 := by simp [pad]; omega

/-- Words copied to the begin of a row. -/
theorem copy_u64 (w : World) (b cap sb sc : Nat) (l ws : List Int) (hb : Row w b cap l) (hs : Row w sb sc ws) (hle : ws.length ≤ l.length) :
    ∃ w', (∀ ty, (Builtin.copy_ #[25, 25] ty #[slv b l.length cap, slv sb ws.length sc]).run Try.prog w = .ok (.int .i64 ws.length) w') ∧
      Row w' b cap (ws ++ l.drop ws.length) ∧ Left b (b + 1) w w' := by
  obtain ⟨rest, hk, hkc⟩ := hb.is
  have hu : Try.prog.underlying 25 = some (.slice 38) := Try.underlying25
  have hcp := fun ty => run_copy_row (P := Try.prog) w 25 25 ty 38 b 0 l.length cap ⟨sb, 0, none⟩ ws.length sc _ _ (u64s ws) hu (by kernel_rfl) hk
    (by simp only [u64s_length]; show ws.length = min _ _; omega) (fun j v hj => by
      simp only [u64s, List.getElem?_map] at hj
      cases hx : ws[j]? with
      | none => simp [hx] at hj
      | some x => rw [hx] at hj; cases hj; exact hs.src j x hx) (by simp; omega) (by simp [u64s, u64v, Value.oneCell'])
  have hrow : (u64s l ++ rest).toArray.toList.take 0 ++ u64s ws ++ (u64s l ++ rest).toArray.toList.drop (0 + (u64s ws).length) = u64s (ws ++ l.drop ws.length) ++ rest := by
    simp only [List.take_zero, List.nil_append, u64s_length, Nat.zero_add]
    rw [List.drop_append_of_le_length (by simpa using hle)]
    simp [u64s, List.map_drop]
  rw [hrow] at hcp
  refine ⟨w.setRow b (u64s (ws ++ l.drop ws.length) ++ rest).toArray, fun ty => (hcp ty).trans (by simp only [u64s_length, goInt]), ⟨rest, setRow_heap w b _ _ _ _ hk, by simp; omega⟩, ⟨rfl, rfl, rfl, by simp, fun k _ hk => setRow_other w b k _ (by omega)⟩⟩

theorem Row.wf_new {w : World} {b cap : Nat} {l : List Int} (h : Row w b cap l) : l.length ≤ cap := by
  obtain ⟨r, _, h2⟩ := h.is
  omega

theorem Row.exact {w : World} {b : Nat} {l : List Int} (h : Row w b l.length l) : Is w b (.cells (u64s l).toArray 38 (0, 0)) := by
  obtain ⟨r, h1, h2⟩ := h.is
  have : r = [] := List.eq_nil_of_length_eq_zero (by omega)
  subst this
  simpa using h1

theorem pad_wf {l : List Int} (h : ∀ x ∈ l, U64 x) : ∀ x ∈ pad l, U64 x := by
  intro x hx
  unfold pad at hx
  rcases List.mem_append.1 hx with hx | hx
  · exact h x hx
  · rw [(List.mem_replicate.1 hx).2]
    exact ⟨by decide, by decide⟩

/-- A new device. -/
theorem dev_made {w3 : World} {p nb kb kc : Nat} {u : Int} {l : List Int} (hp : Is w3 p (.cells #[.int .i64 (-1), .int .i64 u] 150 (0, 0))) (hn : Row w3 nb l.length l) (hk : Row w3 kb kc l)
    (h1 : p < nb) (h2 : nb < kb) (hpos : 8 ≤ l.length) (hm : l.length % 8 = 0) (hs : l.length ≤ 100000) (hw : ∀ x ∈ l, U64 x) :
    Dev ((w3.alloc (.map #[] 0)).alloc (.cells #[.pointer (some ⟨p, 0, none⟩), .slice (some ⟨nb, 0, none⟩) l.length l.length, .slice (some ⟨kb, 0, none⟩) l.length kc, .map (some w3.heap.size)] 131))
      ⟨w3.heap.size + 1, p, nb, kb, w3.heap.size, kc, p, w3.heap.size + 2⟩ ⟨l, l, fun _ => none⟩ := by
  have hlt := hk.lt
  obtain ⟨rest, hk1, hk2⟩ := hk.is
  refine ⟨?_, ⟨u, (hp.alloc _).alloc _⟩, (hn.exact.alloc _).alloc _, ⟨rest, (hk1.alloc _).alloc _, hk2⟩, ⟨#[], 0, (Is.new w3 _).alloc _, ⟨stamped_empty 0, by simp, by simp, by simp⟩⟩, ?_, ⟨rfl, hpos, hm, hs, hw, hw⟩, by simp⟩
  · have := Is.new (w3.alloc (.map #[] 0)) (.cells #[.pointer (some ⟨p, 0, none⟩), .slice (some ⟨nb, 0, none⟩) l.length l.length, .slice (some ⟨kb, 0, none⟩) l.length kc, .map (some w3.heap.size)] 131)
    rw [World.size_alloc] at this
    exact this
  · refine ⟨?_, ?_, ?_, ?_, ?_, ?_, ?_, ?_⟩ <;> simp only <;> omega

set_option maxHeartbeats 1000000 in
theorem new_any (p wb wc : Nat) (u : Int) (ws : List Int) (w : World) (hp : Is w p (.cells #[.int .i64 (-1), .int .i64 u] 150 (0, 0))) (hr : Row w wb wc ws) (hn : 0 < ws.length) (hm : ws.length ≤ 90000) (hwf : ∀ x ∈ ws, U64 x) :
    Calls Try.prog 96 #[.pointer (some ⟨p, 0, none⟩), slv wb ws.length wc] w fun e w' => ∃ h, e = .returned h.ptr ∧ Dev w' h ⟨pad ws, pad ws, fun _ => none⟩ ∧ h.lo = p ∧ h.hi = w'.heap.size ∧ Below w.heap.size w w' := by
  have hmk := make_u64 w ((ws.length + 7) / 8 * 8) (by omega)
  have hmm := @run_makeMap Try.prog
  have hr1 : Row (w.alloc (.cells (u64s (List.replicate ((ws.length + 7) / 8 * 8) 0)).toArray 38)) w.heap.size ((ws.length + 7) / 8 * 8) (List.replicate ((ws.length + 7) / 8 * 8) 0) :=
    ⟨[], by simpa using Is.new w _, by simp⟩
  have hb1 : Below w.heap.size w (w.alloc (.cells (u64s (List.replicate ((ws.length + 7) / 8 * 8) 0)).toArray 38)) := (Below.refl _ _).alloc (Nat.le_refl _) _
  generalize w.alloc (.cells (u64s (List.replicate ((ws.length + 7) / 8 * 8) 0)).toArray 38) = w1 at *
  obtain ⟨w2, hcp, hr2, hl2⟩ := copy_u64 _ _ _ wb wc _ ws hr1 (hr.grow hb1) (by simp; omega)
  have hb2 : Below w.heap.size w w2 := hb1.trans (hl2.below (Nat.le_refl _) hb1.size)
  rw [List.drop_replicate] at hr2
  have hpad : ws ++ List.replicate ((ws.length + 7) / 8 * 8 - ws.length) 0 = pad ws := rfl
  rw [hpad] at hr2
  have hpl := pad_len ws
  rw [List.length_replicate] at hcp
  rw [← hpl] at hcp hr2 hmk
  rw [show (((pad ws).length : Nat) : Int) = ((ws.length : Int) + 8 - 1) / 8 * 8 from by omega] at hmk
  clear hr1 hb1 hl2 hpad
  have hp2 := hp.grow hb2
  have hz2 := hb2.size
  clear hpl
  unfold slv at hmk hcp ⊢
  go_enter Try.func96, Try.ntmps96
  go_wp2_with (first | ((with_reducible refine wpList_make_run (o := ⟨some 14, _, _, _, _, _⟩) ?z1g ?z1s ?z1x ?z1T ?z1o ?z1v ?z1xv ?z1vv ?z1hs ?z1hx ?z1r ?_); case z1o => exact rfl; case z1g => exact rfl; case z1hs => exact rfl; case z1hx => exact rfl; case z1r => exact hmk) | ((with_reducible refine wpList_copy_run (o := ⟨some 17, _, _, _, _, _⟩) ?z2g ?z2s ?z2x ?z2T ?z2U ?z2o ?z2v ?z2xv ?z2vv ?z2hs ?z2hx ?z2r ?_); case z2o => exact rfl; case z2g => exact rfl; case z2hs => exact rfl; case z2hx => exact rfl; case z2r => exact hcp))
  refine (clone_any w.heap.size (pad ws).length (pad ws) w2 hr2 (by rw [pad_len]; omega) (by rw [pad_len]; omega)).mono ?_
  rintro e w3 ⟨kb, kc, rfl, hkb, hk3, hb3⟩
  have hr3 := hr2.grow hb3
  have hp3 := hp2.grow hb3
  have hb3' := Below.grown_trans hb2 hb3
  have hk3lt := hk3.lt
  have hn3 := hr2.lt
  have hp0 := hp.lt
  clear hcp hmk hr2 hb3 hp2 hb2 hr
  unfold slv
  go_wp2
  go_ret
  refine ⟨_, rfl, dev_made hp3 hr3 hk3 hp0 (by omega) (by rw [pad_len]; omega) (by rw [pad_len]; omega) (by rw [pad_len]; omega) (pad_wf hwf), rfl, by simp, ?_⟩
  exact (hb3'.alloc (by omega) _).alloc (by simp; omega) _

set_option maxHeartbeats 400000 in
theorem power_new (n : Int) (w : World) :
    Calls Try.prog 97 #[.int .i64 n] w fun e w' => e = .returned (.pointer (some ⟨w.heap.size, 0, none⟩)) ∧ w' = w.alloc (.cells #[.int .i64 n, .int .i64 0] 150) := by
  go_enter Try.func97, Try.ntmps97
  go_wp2
  go_ret
  exact ⟨rfl, rfl⟩

set_option maxHeartbeats 400000 in
/-- tumuluslaw02.New: a device of words. -/
theorem law_new (wb wc : Nat) (ws : List Int) (w : World) (hr : Row w wb wc ws) (hn : 0 < ws.length) (hm : ws.length ≤ 90000) (hwf : ∀ x ∈ ws, U64 x) :
    Calls Try.prog 72 #[slv wb ws.length wc] w fun e w' => ∃ h, e = .returned h.ptr ∧ Dev w' h ⟨pad ws, pad ws, fun _ => none⟩ ∧ h.lo = w.heap.size ∧ h.hi = w'.heap.size ∧ Below w.heap.size w w' := by
  have hr0 := hr.grow (w' := w.alloc (.cells #[.int .i64 (-1), .int .i64 0] 150)) ((Below.refl _ _).alloc (Nat.le_refl _) _)
  have hb0 : Below w.heap.size w (w.alloc (.cells #[.int .i64 (-1), .int .i64 0] 150)) := (Below.refl _ _).alloc (Nat.le_refl _) _
  have hp0 := Is.new w (.cells #[.int .i64 (-1), .int .i64 0] 150)
  unfold slv
  go_enter Try.func72, Try.ntmps72
  go_wp2_with fail
  refine (power_new _ _).mono ?_
  rintro e w1 ⟨rfl, rfl⟩
  go_wp2_with fail
  refine (new_any w.heap.size wb wc 0 ws _ hp0 hr0 hn hm hwf).mono ?_
  rintro e w2 ⟨h, rfl, hd, h1, h2, hb⟩
  unfold DevH.ptr
  go_wp2_with fail
  go_ret
  exact ⟨h, rfl, hd, h1, h2, Below.grown_trans hb0 hb⟩

set_option maxHeartbeats 400000 in
/-- Words: a copy of what stands. -/
theorem words_any (h : DevH) (D : DevS) (w : World) (hd : Dev w h D) :
    Calls Try.prog 71 #[h.ptr] w fun e w' => ∃ b cap, e = .returned (slv b D.now.length cap) ∧ w.heap.size ≤ b ∧ Row w' b cap D.now ∧ Below w.heap.size w w' := by
  have c1 : w.cell? ⟨h.d, 1, none⟩ = some (.slice (some ⟨h.now, 0, none⟩) D.now.length D.now.length) := by rw [hd.dev.cell]; rfl
  have hr : Row w h.now D.now.length D.now := ⟨[], by simpa using hd.now, by simp⟩
  have hc := clone_any h.now D.now.length D.now w hr (by have := hd.dok.pos; omega) (by have := hd.dok.small; omega)
  unfold slv at hc ⊢
  clear hd hr
  unfold DevH.ptr
  go_enter Try.func71, Try.ntmps71
  go_wp2_with fail
  refine hc.mono ?_
  rintro e w1 ⟨b, cap, rfl, hb, hrow, hbel⟩
  go_wp2_with fail
  go_ret
  exact ⟨b, cap, rfl, hb, hrow, hbel⟩

set_option maxHeartbeats 400000 in
/-- Kept: a copy of what is kept. -/
theorem kept_any (h : DevH) (D : DevS) (w : World) (hd : Dev w h D) :
    Calls Try.prog 35 #[h.ptr] w fun e w' => ∃ b cap, e = .returned (slv b D.now.length cap) ∧ w.heap.size ≤ b ∧ Row w' b cap D.kept ∧ Below w.heap.size w w' := by
  have c1 : w.cell? ⟨h.d, 2, none⟩ = some (.slice (some ⟨h.kept, 0, none⟩) D.now.length h.kc) := by rw [hd.dev.cell]; rfl
  obtain ⟨rest, hk, hkc⟩ := hd.kept
  have hkl := hd.dok.len
  have hr : Row w h.kept h.kc D.kept := ⟨rest, hk, by omega⟩
  have hc := clone_any h.kept h.kc D.kept w hr (by have := hd.dok.pos; omega) (by have := hd.dok.small; omega)
  rw [hkl] at hc
  unfold slv at hc ⊢
  clear hd hr hk hkc hkl
  unfold DevH.ptr
  go_enter Try.func35, Try.ntmps35
  go_wp2_with fail
  refine hc.mono ?_
  rintro e w1 ⟨b, cap, rfl, hb, hrow, hbel⟩
  go_wp2_with fail
  go_ret
  exact ⟨b, cap, rfl, hb, hrow, hbel⟩
end Go.Proofs.Ytpecgfpofihibaa
