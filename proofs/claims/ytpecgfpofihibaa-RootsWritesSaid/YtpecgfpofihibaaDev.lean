/-
  What memory bears: a device (Dev), what a call leaves as it was (Left).
-/
import Derived.Test.YtpecgfpofihibaaQ
import Derived.Test.YtpecgfpofihibaaPl
import Derived.WalkKit
import Derived.MapKept
namespace Go.Proofs.Ytpecgfpofihibaa
open Go Go.RowKit

/-! ### what stays -/

/-- Of the blocks that there were, those outside lo .. hi-1 are as they were. -/
structure Left (lo hi : Nat) (w w' : World) : Prop where
  os : w'.os = w.os
  tape : w'.tape = w.tape
  output : w'.output = w.output
  size : w.heap.size ≤ w'.heap.size
  block : ∀ k, k < w.heap.size → (k < lo ∨ hi ≤ k) → w'.heap[k]? = w.heap[k]?

theorem Left.refl (lo hi : Nat) (w : World) : Left lo hi w w := ⟨rfl, rfl, rfl, Nat.le_refl _, fun _ _ _ => rfl⟩
theorem Left.trans {lo hi : Nat} {a b c : World} (h : Left lo hi a b) (k : Left lo hi b c) : Left lo hi a c :=
  ⟨k.os.trans h.os, k.tape.trans h.tape, k.output.trans h.output, Nat.le_trans h.size k.size,
   fun i hi' ho => (k.block i (Nat.lt_of_lt_of_le hi' h.size) ho).trans (h.block i hi' ho)⟩
theorem Left.mono {lo hi lo' hi' : Nat} {a b : World} (h : Left lo hi a b) (h1 : lo' ≤ lo) (h2 : hi ≤ hi') : Left lo' hi' a b :=
  ⟨h.os, h.tape, h.output, h.size, fun k hk ho => h.block k hk (by omega)⟩
theorem Left.of_below {lo hi : Nat} {a b : World} (h : Below a.heap.size a b) : Left lo hi a b :=
  ⟨h.os, h.tape, h.output, h.size, fun k hk _ => h.block k hk⟩
theorem Left.below {lo hi B : Nat} {a b : World} (h : Left lo hi a b) (h1 : B ≤ lo) (h2 : B ≤ a.heap.size) : Below B a b :=
  ⟨h.os, h.tape, h.output, h.size, fun k hk => h.block k (by omega) (by omega)⟩
theorem Left.grow {lo : Nat} {a b : World} (h : Left lo lo a b) : Below a.heap.size a b :=
  ⟨h.os, h.tape, h.output, h.size, fun k hk => h.block k hk (by omega)⟩
theorem Left.alloc {lo hi : Nat} {a b : World} (h : Left lo hi a b) (o : Obj) : Left lo hi a (b.alloc o) :=
  h.trans (Left.of_below ((Below.refl _ _).alloc (Nat.le_refl _) _))
theorem Left.drew {lo hi : Nat} {a b : World} (h : Left lo hi a b) : Left lo hi a b.drew :=
  h.trans (Left.of_below (Below.refl _ _).drew)
theorem Left.setCell {lo hi : Nat} {a b : World} (h : Left lo hi a b) {p : Addr} (h1 : lo ≤ p.block) (h2 : p.block < hi) (v : Value) : Left lo hi a (b.setCell p v) :=
  h.trans ⟨rfl, rfl, rfl, by simp, fun k _ ho => Below.heap_setCell _ _ _ _ (by omega)⟩
/-- A store into what the call has made itself. -/
theorem Left.setNew {lo hi : Nat} {a b : World} (h : Left lo hi a b) {p : Addr} (h1 : a.heap.size ≤ p.block) (v : Value) : Left lo hi a (b.setCell p v) :=
  ⟨h.os, h.tape, h.output, by simpa using h.size, fun k hk ho => (Below.heap_setCell _ _ _ _ (by omega)).trans (h.block k hk ho)⟩

/-- What has been made since a may be turned. -/
theorem Left.andNew {lo hi r r' : Nat} {a b c : World} (h : Left lo hi a b) (k : Left r r' b c) (hr : a.heap.size ≤ r) : Left lo hi a c :=
  ⟨k.os.trans h.os, k.tape.trans h.tape, k.output.trans h.output, Nat.le_trans h.size k.size,
   fun i hi' ho => (k.block i (Nat.lt_of_lt_of_le hi' h.size) (by omega)).trans (h.block i hi' ho)⟩

/-- Block b holds o. -/
abbrev Is (w : World) (b : Nat) (o : Obj) : Prop := w.heap[b]? = some o

theorem Is.lt {w : World} {b : Nat} {o : Obj} (h : Is w b o) : b < w.heap.size := (Array.getElem?_eq_some_iff.1 h).1
theorem Is.left {w w' : World} {b lo hi : Nat} {o : Obj} (h : Is w b o) (hl : Left lo hi w w') (hb : b < lo ∨ hi ≤ b) : Is w' b o :=
  (hl.block b h.lt hb).trans h
theorem Is.grow {w w' : World} {b : Nat} {o : Obj} (h : Is w b o) (hl : Below w.heap.size w w') : Is w' b o :=
  (hl.block b h.lt).trans h
theorem Is.alloc {w : World} {b : Nat} {o : Obj} (h : Is w b o) (o' : Obj) : Is (w.alloc o') b o := h.grow ((Below.refl _ _).alloc (Nat.le_refl _) _)
theorem Is.drew {w : World} {b : Nat} {o : Obj} (h : Is w b o) : Is w.drew b o := h
theorem Is.new (w : World) (o : Obj) : Is (w.alloc o) w.heap.size o := by
  show (w.heap.push o)[w.heap.size]? = _
  simp
theorem Is.set_other {w : World} {b : Nat} {o : Obj} (h : Is w b o) {p : Addr} (hp : p.block ≠ b) (v : Value) : Is (w.setCell p v) b o :=
  (Below.heap_setCell _ _ _ _ (Ne.symm hp)).trans h
theorem Is.set {w : World} {b i t : Nat} {cs : Array Value} {f : Nat × Nat} (h : Is w b (.cells cs t f)) (v : Value) :
    Is (w.setCell ⟨b, i, none⟩ v) b (.cells (cs.setIfInBounds i v) t f) := by
  unfold Is at *
  simp [World.setCell, Array.getElem?_modify, h]
theorem Is.cell {w : World} {b i t : Nat} {cs : Array Value} {f : Nat × Nat} (h : Is w b (.cells cs t f)) : w.cell? ⟨b, i, none⟩ = cs[i]? := by
  unfold Is at h
  simp [World.cell?, h]
theorem Is.free {w : World} {b i t : Nat} {cs : Array Value} (h : Is w b (.cells cs t (0, 0))) : w.frozen? ⟨b, i, none⟩ = false := by
  unfold Is at h
  simp [World.frozen?, h]

/-! ### words -/

def U64 (x : Int) : Prop := 0 ≤ x ∧ x < 18446744073709551616
def u64v (x : Int) : Value := .int .u64 x
/-- Numbers as cells. -/
def u64s (l : List Int) : List Value := l.map u64v

@[simp] theorem u64s_length (l : List Int) : (u64s l).length = l.length := by simp [u64s]
theorem u64s_get (l : List Int) (i : Nat) (h : i < l.length) : (u64s l)[i]? = some (.int .u64 l[i]) := by simp [u64s, h, u64v]
theorem u64s_set (l : List Int) (i : Nat) (v : Int) : (u64s l).set i (.int .u64 v) = u64s (l.set i v) := by simp [u64s, List.map_set, u64v]

/-- The word at i; 0 of none. -/
def rd (l : List Int) (i : Int) : Int := if 0 ≤ i then l.getD i.toNat 0 else 0

/-! ### a device -/

/-- Where a device lies: its blocks, within lo .. hi-1; the spare room of what is kept. -/
structure DevH where
  d : Nat
  p : Nat
  now : Nat
  kept : Nat
  q : Nat
  kc : Nat
  lo : Nat
  hi : Nat

/-- What a device bears: what stands, what is kept, what is to be kept (by its line). -/
structure DevS where
  now : List Int
  kept : List Int
  que : Nat → Option (List Int)

def DevS.n (D : DevS) : Nat := D.now.length

/-- The queue's entries read as q. -/
structure QRel (es : Array MapEntry) (clock : Nat) (N : Nat) (q : Nat → Option (List Int)) : Prop where
  stamped : MapKept.Stamped es clock
  reads : ∀ e ∈ es.toList, ∃ (n : Nat) (l : List Int), e.key = .int .i64 n ∧ q n = some l ∧ e.val = .agg (u64s l).toArray
  all : ∀ n l, q n = some l → ∃ e ∈ es.toList, e.key = .int .i64 n
  lines : ∀ n l, q n = some l → l.length = 8 ∧ 8 * n + 8 ≤ N ∧ ∀ x ∈ l, U64 x

structure DevH.ok (h : DevH) : Prop where
  r1 : h.lo ≤ h.d ∧ h.d < h.hi
  r2 : h.lo ≤ h.p ∧ h.p < h.hi
  r3 : h.lo ≤ h.now ∧ h.now < h.hi
  r4 : h.lo ≤ h.kept ∧ h.kept < h.hi
  r5 : h.lo ≤ h.q ∧ h.q < h.hi
  n1 : h.d ≠ h.p ∧ h.d ≠ h.now ∧ h.d ≠ h.kept ∧ h.d ≠ h.q
  n2 : h.p ≠ h.now ∧ h.p ≠ h.kept ∧ h.p ≠ h.q
  n3 : h.now ≠ h.kept ∧ h.now ≠ h.q ∧ h.kept ≠ h.q

structure DevS.ok (D : DevS) : Prop where
  len : D.kept.length = D.now.length
  pos : 8 ≤ D.now.length
  line : D.now.length % 8 = 0
  small : D.now.length ≤ 100000
  wn : ∀ x ∈ D.now, U64 x
  wk : ∀ x ∈ D.kept, U64 x

def DevH.ptr (h : DevH) : Value := .pointer (some ⟨h.d, 0, none⟩)

structure Dev (w : World) (h : DevH) (D : DevS) : Prop where
  dev : Is w h.d (.cells #[.pointer (some ⟨h.p, 0, none⟩), .slice (some ⟨h.now, 0, none⟩) D.now.length D.now.length, .slice (some ⟨h.kept, 0, none⟩) D.now.length h.kc, .map (some h.q)] 131 (0, 0))
  pow : ∃ u, Is w h.p (.cells #[.int .i64 (-1), .int .i64 u] 150 (0, 0))
  now : Is w h.now (.cells (u64s D.now).toArray 38 (0, 0))
  kept : ∃ rest : List Value, Is w h.kept (.cells (u64s D.kept ++ rest).toArray 38 (0, 0)) ∧ D.now.length + rest.length = h.kc
  que : ∃ es clock, Is w h.q (.map es clock) ∧ QRel es clock D.now.length D.que
  hok : h.ok
  dok : D.ok
  top : h.hi ≤ w.heap.size

theorem Dev.left {w w' : World} {h : DevH} {D : DevS} {lo hi : Nat} (hd : Dev w h D) (hl : Left lo hi w w') (ho : hi ≤ h.lo ∨ h.hi ≤ lo) : Dev w' h D := by
  obtain ⟨h1, ⟨u, h2⟩, h3, ⟨r, h4, hr⟩, ⟨es, ck, h5, hq⟩, hh, hD, ht⟩ := hd
  have g := hh
  obtain ⟨r1, r2, r3, r4, r5, _, _, _⟩ := g
  exact ⟨h1.left hl (by omega), ⟨u, h2.left hl (by omega)⟩, h3.left hl (by omega), ⟨r, h4.left hl (by omega), hr⟩, ⟨es, ck, h5.left hl (by omega), hq⟩, hh, hD, Nat.le_trans ht hl.size⟩
theorem Dev.grow {w w' : World} {h : DevH} {D : DevS} (hd : Dev w h D) (hl : Below w.heap.size w w') : Dev w' h D := by
  obtain ⟨h1, ⟨u, h2⟩, h3, ⟨r, h4, hr⟩, ⟨es, ck, h5, hq⟩, hh, hD, ht⟩ := hd
  exact ⟨h1.grow hl, ⟨u, h2.grow hl⟩, h3.grow hl, ⟨r, h4.grow hl, hr⟩, ⟨es, ck, h5.grow hl, hq⟩, hh, hD, Nat.le_trans ht hl.size⟩
theorem Dev.alloc {w : World} {h : DevH} {D : DevS} (hd : Dev w h D) (o : Obj) : Dev (w.alloc o) h D := hd.grow ((Below.refl _ _).alloc (Nat.le_refl _) _)
theorem Dev.drew {w : World} {h : DevH} {D : DevS} (hd : Dev w h D) : Dev w.drew h D := hd.grow (Below.refl _ _).drew
theorem Dev.set {w : World} {h : DevH} {D : DevS} (hd : Dev w h D) {p : Addr} (hp : p.block < h.lo ∨ h.hi ≤ p.block) (v : Value) : Dev (w.setCell p v) h D :=
  hd.left (lo := p.block) (hi := p.block + 1) ((Left.refl _ _ _).setCell (Nat.le_refl _) (by omega) v) (by omega)
theorem Dev.size {w : World} {h : DevH} {D : DevS} (hd : Dev w h D) : h.d < w.heap.size ∧ h.p < w.heap.size ∧ h.now < w.heap.size ∧ h.kept < w.heap.size ∧ h.q < w.heap.size := by
  obtain ⟨h1, ⟨u, h2⟩, h3, ⟨r, h4, hr⟩, ⟨es, ck, h5, hq⟩, hh, hD, _⟩ := hd
  exact ⟨h1.lt, h2.lt, h3.lt, h4.lt, h5.lt⟩
end Go.Proofs.Ytpecgfpofihibaa
