/-
  Plain words on configs: where what lies.
-/
namespace Go.Proofs.Ytpecgfpofihibaa

/-- A config: records of the log, roots, words of a space. -/
structure Cf where
  L : Int
  R : Int
  S : Int

structure Cf.ok (c : Cf) : Prop where
  r1 : 1 ≤ c.R
  r2 : c.R ≤ 16
  l1 : c.R + 2 ≤ c.L
  l2 : c.L ≤ 200
  s1 : 8 ≤ c.S
  s2 : c.S ≤ 4096

def ln (n : Int) : Int := (n + 7) / 8 * 8
def Cf.recd (_c : Cf) (i : Int) : Int := 16 + 4 * i
def Cf.act (c : Cf) : Int := ln (c.recd c.L)
def Cf.root (c : Cf) (i : Int) : Int := c.act + 2 + i
def Cf.fr0 (c : Cf) : Int := ln (c.act + 2 + c.R)
def Cf.fr (c : Cf) (s : Int) : Int := c.fr0 + s * ln c.S
def Cf.words (c : Cf) : Int := c.fr0 + 2 * ln c.S

theorem ln_ge (n : Int) : n ≤ ln n := by unfold ln; omega
theorem ln_le (n : Int) : ln n ≤ n + 7 := by unfold ln; omega
theorem ln_mod (n : Int) : ln n % 8 = 0 := by unfold ln; omega

structure Cf.bd (c : Cf) : Prop where
  a1 : 16 + 4 * c.L ≤ c.act
  a2 : c.act ≤ 16 + 4 * c.L + 7
  a3 : c.act % 8 = 0
  f1 : c.act + 2 + c.R ≤ c.fr0
  f2 : c.fr0 ≤ c.act + 2 + c.R + 7
  f3 : c.fr0 % 8 = 0
  s1 : c.S ≤ ln c.S
  s2 : ln c.S ≤ c.S + 7
  s3 : ln c.S % 8 = 0

theorem Cf.bds (c : Cf) : c.bd := by
  refine ⟨ln_ge _, ln_le _, ln_mod _, ?_, ?_, ln_mod _, ln_ge _, ln_le _, ln_mod _⟩
  · exact ln_ge _
  · exact ln_le _

theorem Cf.fr_zero (c : Cf) : c.fr 0 = c.fr0 := by unfold Cf.fr; omega
theorem Cf.fr_one (c : Cf) : c.fr 1 = c.fr0 + ln c.S := by unfold Cf.fr; omega
theorem Cf.fr_two (c : Cf) : c.fr 2 = c.words := rfl
end Go.Proofs.Ytpecgfpofihibaa
