/-
  No cell of these rows narrows 'for every input' (looked for: loops, veiled, ifaces, maps, wideKeys, modest, calm, conditions, laid).
  DERIVED. THE GIVEN ROWS OF THIS SEAT. 16 by the template 'for every input the law returns true; each argument reads behind the call as it read before'; 0 by the template 'total and deterministic' (their statements: YtpecgfpofihibaaTotals.lean).
  GIVEN WITH THE SEED: the statements are not yours to turn. If you find one false, say at which input.
  Laid BY PROGRAM, IN A SANDBOX (cutbox-rows.mjs): the forced cells as the released guide's own fill.sh prints them over the translation 2d77ea75b81499b0… (all of the seat's roots in one cut). By AI agents, Wed Nov 11 2026. No macro, syntax, notation, axiom, sorry.
-/
import Derived.Test.YtpecgfpofihibaaChecked
import GoSem.Claim
import GoSem.ClaimJoined
import GoSem.ClaimMapViews
import Derived.JoinedTies
import Derived.KernelRfl
namespace Go.Proofs.Ytpecgfpofihibaa
/- THE CELL 'sum', in the pinned program and in every row, IS THE sha256 OF THE DUMP (.gsa) THAT YtpecgfpofihibaaProg.lean LOADS. Nothing in Lean hashes anything: it is a label: what it is worth is what the hold of that sum in a sandbox is worth. -/
noncomputable def Try.pinned : Pinned := { name := "ytpecgfpofihibaa", sum := "2d77ea75b81499b062d699b53d8c4798a866429ef1cefccb50a277942968e3cd", checked := Try.checked }
namespace Rows
def none {H : Type} : Left H := { results := [], args := [] }

/-- 'tumuluslaw06.UlogPlays': WHATEVER THE INPUT: true; the input reads as it did. -/
def ulogPlaysSpec : ChangeSpec := { name := "ulogPlays", fn := fun _ => fun
  | [d1, d2, d3] => { results := [.lit (.bool true)], args := [d1, d2, d3] }
  | _ => none }
def ulogPlaysRow : OpenClaim := { program := "ytpecgfpofihibaa", sum := "2d77ea75b81499b062d699b53d8c4798a866429ef1cefccb50a277942968e3cd", func := "tumulus/tumuluslaw06.UlogPlays", spec := "ulogPlays", unfollowed := true, recurses := true, plainKeys := false, apart := false }
def UlogPlaysSaid : Prop := ulogPlaysRow.holds Try.pinned (OpenSpec.ofChange ulogPlaysSpec)

/-- ITS FALSE NEIGHBOUR: 'it returns false'. Refute it at one input. -/
def ulogPlaysWrong : ChangeSpec := { name := "ulogPlays", fn := fun _ => fun
  | [d1, d2, d3] => { results := [.lit (.bool false)], args := [d1, d2, d3] }
  | _ => none }
def UlogPlaysWrongFalsely : Prop := ulogPlaysRow.holds Try.pinned (OpenSpec.ofChange ulogPlaysWrong)

/-- 'tumuluslaw08.RootsWrites': WHATEVER THE INPUT: true; the input reads as it did. -/
def rootsWritesSpec : ChangeSpec := { name := "rootsWrites", fn := fun _ => fun
  | [d1, d2, d3, d4, d5, d6] => { results := [.lit (.bool true)], args := [d1, d2, d3, d4, d5, d6] }
  | _ => none }
def rootsWritesRow : OpenClaim := { program := "ytpecgfpofihibaa", sum := "2d77ea75b81499b062d699b53d8c4798a866429ef1cefccb50a277942968e3cd", func := "tumulus/tumuluslaw08.RootsWrites", spec := "rootsWrites", unfollowed := true, recurses := true, plainKeys := false, apart := false }
def RootsWritesSaid : Prop := rootsWritesRow.holds Try.pinned (OpenSpec.ofChange rootsWritesSpec)

/-- ITS FALSE NEIGHBOUR: 'it returns false'. Refute it at one input. -/
def rootsWritesWrong : ChangeSpec := { name := "rootsWrites", fn := fun _ => fun
  | [d1, d2, d3, d4, d5, d6] => { results := [.lit (.bool false)], args := [d1, d2, d3, d4, d5, d6] }
  | _ => none }
def RootsWritesWrongFalsely : Prop := rootsWritesRow.holds Try.pinned (OpenSpec.ofChange rootsWritesWrong)

/-- 'tumuluslaw09.SpaceErrors': WHATEVER THE INPUT: true; the input reads as it did. -/
def spaceErrorsSpec : ChangeSpec := { name := "spaceErrors", fn := fun _ => fun
  | [d1, d2, d3, d4, d5, d6] => { results := [.lit (.bool true)], args := [d1, d2, d3, d4, d5, d6] }
  | _ => none }
def spaceErrorsRow : OpenClaim := { program := "ytpecgfpofihibaa", sum := "2d77ea75b81499b062d699b53d8c4798a866429ef1cefccb50a277942968e3cd", func := "tumulus/tumuluslaw09.SpaceErrors", spec := "spaceErrors", unfollowed := true, recurses := true, plainKeys := false, apart := false }
def SpaceErrorsSaid : Prop := spaceErrorsRow.holds Try.pinned (OpenSpec.ofChange spaceErrorsSpec)

/-- ITS FALSE NEIGHBOUR: 'it returns false'. Refute it at one input. -/
def spaceErrorsWrong : ChangeSpec := { name := "spaceErrors", fn := fun _ => fun
  | [d1, d2, d3, d4, d5, d6] => { results := [.lit (.bool false)], args := [d1, d2, d3, d4, d5, d6] }
  | _ => none }
def SpaceErrorsWrongFalsely : Prop := spaceErrorsRow.holds Try.pinned (OpenSpec.ofChange spaceErrorsWrong)

/-- 'tumuluslaw09.SpaceAllocs': WHATEVER THE INPUT: true; the input reads as it did. -/
def spaceAllocsSpec : ChangeSpec := { name := "spaceAllocs", fn := fun _ => fun
  | [d1, d2, d3, d4] => { results := [.lit (.bool true)], args := [d1, d2, d3, d4] }
  | _ => none }
def spaceAllocsRow : OpenClaim := { program := "ytpecgfpofihibaa", sum := "2d77ea75b81499b062d699b53d8c4798a866429ef1cefccb50a277942968e3cd", func := "tumulus/tumuluslaw09.SpaceAllocs", spec := "spaceAllocs", unfollowed := true, recurses := true, plainKeys := false, apart := false }
def SpaceAllocsSaid : Prop := spaceAllocsRow.holds Try.pinned (OpenSpec.ofChange spaceAllocsSpec)

/-- ITS FALSE NEIGHBOUR: 'it returns false'. Refute it at one input. -/
def spaceAllocsWrong : ChangeSpec := { name := "spaceAllocs", fn := fun _ => fun
  | [d1, d2, d3, d4] => { results := [.lit (.bool false)], args := [d1, d2, d3, d4] }
  | _ => none }
def SpaceAllocsWrongFalsely : Prop := spaceAllocsRow.holds Try.pinned (OpenSpec.ofChange spaceAllocsWrong)

/-- 'tumuluslaw10.ObjectOf': WHATEVER THE INPUT: true; the input reads as it did. -/
def objectOfSpec : ChangeSpec := { name := "objectOf", fn := fun _ => fun
  | [d1, d2, d3, d4, d5, d6] => { results := [.lit (.bool true)], args := [d1, d2, d3, d4, d5, d6] }
  | _ => none }
def objectOfRow : OpenClaim := { program := "ytpecgfpofihibaa", sum := "2d77ea75b81499b062d699b53d8c4798a866429ef1cefccb50a277942968e3cd", func := "tumulus/tumuluslaw10.ObjectOf", spec := "objectOf", unfollowed := true, recurses := true, plainKeys := false, apart := false }
def ObjectOfSaid : Prop := objectOfRow.holds Try.pinned (OpenSpec.ofChange objectOfSpec)

/-- ITS FALSE NEIGHBOUR: 'it returns false'. Refute it at one input. -/
def objectOfWrong : ChangeSpec := { name := "objectOf", fn := fun _ => fun
  | [d1, d2, d3, d4, d5, d6] => { results := [.lit (.bool false)], args := [d1, d2, d3, d4, d5, d6] }
  | _ => none }
def ObjectOfWrongFalsely : Prop := objectOfRow.holds Try.pinned (OpenSpec.ofChange objectOfWrong)

/-- 'tumuluslaw10.ObjectNames': WHATEVER THE INPUT: true; the input reads as it did. -/
def objectNamesSpec : ChangeSpec := { name := "objectNames", fn := fun _ => fun
  | [d1, d2, d3] => { results := [.lit (.bool true)], args := [d1, d2, d3] }
  | _ => none }
def objectNamesRow : OpenClaim := { program := "ytpecgfpofihibaa", sum := "2d77ea75b81499b062d699b53d8c4798a866429ef1cefccb50a277942968e3cd", func := "tumulus/tumuluslaw10.ObjectNames", spec := "objectNames", unfollowed := true, recurses := true, plainKeys := false, apart := false }
def ObjectNamesSaid : Prop := objectNamesRow.holds Try.pinned (OpenSpec.ofChange objectNamesSpec)

/-- ITS FALSE NEIGHBOUR: 'it returns false'. Refute it at one input. -/
def objectNamesWrong : ChangeSpec := { name := "objectNames", fn := fun _ => fun
  | [d1, d2, d3] => { results := [.lit (.bool false)], args := [d1, d2, d3] }
  | _ => none }
def ObjectNamesWrongFalsely : Prop := objectNamesRow.holds Try.pinned (OpenSpec.ofChange objectNamesWrong)

/-- 'tumuluslaw10.ObjectApart': WHATEVER THE INPUT: true; the input reads as it did. -/
def objectApartSpec : ChangeSpec := { name := "objectApart", fn := fun _ => fun
  | [d1, d2, d3] => { results := [.lit (.bool true)], args := [d1, d2, d3] }
  | _ => none }
def objectApartRow : OpenClaim := { program := "ytpecgfpofihibaa", sum := "2d77ea75b81499b062d699b53d8c4798a866429ef1cefccb50a277942968e3cd", func := "tumulus/tumuluslaw10.ObjectApart", spec := "objectApart", unfollowed := true, recurses := true, plainKeys := false, apart := false }
def ObjectApartSaid : Prop := objectApartRow.holds Try.pinned (OpenSpec.ofChange objectApartSpec)

/-- ITS FALSE NEIGHBOUR: 'it returns false'. Refute it at one input. -/
def objectApartWrong : ChangeSpec := { name := "objectApart", fn := fun _ => fun
  | [d1, d2, d3] => { results := [.lit (.bool false)], args := [d1, d2, d3] }
  | _ => none }
def ObjectApartWrongFalsely : Prop := objectApartRow.holds Try.pinned (OpenSpec.ofChange objectApartWrong)

/-- 'tumuluslaw10.ObjectFields': WHATEVER THE INPUT: true; the input reads as it did. -/
def objectFieldsSpec : ChangeSpec := { name := "objectFields", fn := fun _ => fun
  | [d1, d2, d3, d4, d5, d6, d7, d8] => { results := [.lit (.bool true)], args := [d1, d2, d3, d4, d5, d6, d7, d8] }
  | _ => none }
def objectFieldsRow : OpenClaim := { program := "ytpecgfpofihibaa", sum := "2d77ea75b81499b062d699b53d8c4798a866429ef1cefccb50a277942968e3cd", func := "tumulus/tumuluslaw10.ObjectFields", spec := "objectFields", unfollowed := true, recurses := true, plainKeys := false, apart := false }
def ObjectFieldsSaid : Prop := objectFieldsRow.holds Try.pinned (OpenSpec.ofChange objectFieldsSpec)

/-- ITS FALSE NEIGHBOUR: 'it returns false'. Refute it at one input. -/
def objectFieldsWrong : ChangeSpec := { name := "objectFields", fn := fun _ => fun
  | [d1, d2, d3, d4, d5, d6, d7, d8] => { results := [.lit (.bool false)], args := [d1, d2, d3, d4, d5, d6, d7, d8] }
  | _ => none }
def ObjectFieldsWrongFalsely : Prop := objectFieldsRow.holds Try.pinned (OpenSpec.ofChange objectFieldsWrong)

/-- 'tumuluslaw11.WalkObjects': WHATEVER THE INPUT: true; the input reads as it did. -/
def walkObjectsSpec : ChangeSpec := { name := "walkObjects", fn := fun _ => fun
  | [d1, d2, d3, d4, d5, d6] => { results := [.lit (.bool true)], args := [d1, d2, d3, d4, d5, d6] }
  | _ => none }
def walkObjectsRow : OpenClaim := { program := "ytpecgfpofihibaa", sum := "2d77ea75b81499b062d699b53d8c4798a866429ef1cefccb50a277942968e3cd", func := "tumulus/tumuluslaw11.WalkObjects", spec := "walkObjects", unfollowed := true, recurses := true, plainKeys := false, apart := false }
def WalkObjectsSaid : Prop := walkObjectsRow.holds Try.pinned (OpenSpec.ofChange walkObjectsSpec)

/-- ITS FALSE NEIGHBOUR: 'it returns false'. Refute it at one input. -/
def walkObjectsWrong : ChangeSpec := { name := "walkObjects", fn := fun _ => fun
  | [d1, d2, d3, d4, d5, d6] => { results := [.lit (.bool false)], args := [d1, d2, d3, d4, d5, d6] }
  | _ => none }
def WalkObjectsWrongFalsely : Prop := walkObjectsRow.holds Try.pinned (OpenSpec.ofChange walkObjectsWrong)

/-- 'tumuluslaw11.WalkBreaks': WHATEVER THE INPUT: true; the input reads as it did. -/
def walkBreaksSpec : ChangeSpec := { name := "walkBreaks", fn := fun _ => fun
  | [d1, d2, d3] => { results := [.lit (.bool true)], args := [d1, d2, d3] }
  | _ => none }
def walkBreaksRow : OpenClaim := { program := "ytpecgfpofihibaa", sum := "2d77ea75b81499b062d699b53d8c4798a866429ef1cefccb50a277942968e3cd", func := "tumulus/tumuluslaw11.WalkBreaks", spec := "walkBreaks", unfollowed := true, recurses := true, plainKeys := false, apart := false }
def WalkBreaksSaid : Prop := walkBreaksRow.holds Try.pinned (OpenSpec.ofChange walkBreaksSpec)

/-- ITS FALSE NEIGHBOUR: 'it returns false'. Refute it at one input. -/
def walkBreaksWrong : ChangeSpec := { name := "walkBreaks", fn := fun _ => fun
  | [d1, d2, d3] => { results := [.lit (.bool false)], args := [d1, d2, d3] }
  | _ => none }
def WalkBreaksWrongFalsely : Prop := walkBreaksRow.holds Try.pinned (OpenSpec.ofChange walkBreaksWrong)

/-- 'tumuluslaw11.WalkSums': WHATEVER THE INPUT: true; the input reads as it did. -/
def walkSumsSpec : ChangeSpec := { name := "walkSums", fn := fun _ => fun
  | [d1, d2, d3] => { results := [.lit (.bool true)], args := [d1, d2, d3] }
  | _ => none }
def walkSumsRow : OpenClaim := { program := "ytpecgfpofihibaa", sum := "2d77ea75b81499b062d699b53d8c4798a866429ef1cefccb50a277942968e3cd", func := "tumulus/tumuluslaw11.WalkSums", spec := "walkSums", unfollowed := true, recurses := true, plainKeys := false, apart := false }
def WalkSumsSaid : Prop := walkSumsRow.holds Try.pinned (OpenSpec.ofChange walkSumsSpec)

/-- ITS FALSE NEIGHBOUR: 'it returns false'. Refute it at one input. -/
def walkSumsWrong : ChangeSpec := { name := "walkSums", fn := fun _ => fun
  | [d1, d2, d3] => { results := [.lit (.bool false)], args := [d1, d2, d3] }
  | _ => none }
def WalkSumsWrongFalsely : Prop := walkSumsRow.holds Try.pinned (OpenSpec.ofChange walkSumsWrong)

/-- 'tumuluslaw11.WalkLess': WHATEVER THE INPUT: true; the input reads as it did. -/
def walkLessSpec : ChangeSpec := { name := "walkLess", fn := fun _ => fun
  | [d1, d2, d3] => { results := [.lit (.bool true)], args := [d1, d2, d3] }
  | _ => none }
def walkLessRow : OpenClaim := { program := "ytpecgfpofihibaa", sum := "2d77ea75b81499b062d699b53d8c4798a866429ef1cefccb50a277942968e3cd", func := "tumulus/tumuluslaw11.WalkLess", spec := "walkLess", unfollowed := true, recurses := true, plainKeys := false, apart := false }
def WalkLessSaid : Prop := walkLessRow.holds Try.pinned (OpenSpec.ofChange walkLessSpec)

/-- ITS FALSE NEIGHBOUR: 'it returns false'. Refute it at one input. -/
def walkLessWrong : ChangeSpec := { name := "walkLess", fn := fun _ => fun
  | [d1, d2, d3] => { results := [.lit (.bool false)], args := [d1, d2, d3] }
  | _ => none }
def WalkLessWrongFalsely : Prop := walkLessRow.holds Try.pinned (OpenSpec.ofChange walkLessWrong)

/-- 'tumuluslaw12.CheckWhole': WHATEVER THE INPUT: true; the input reads as it did. -/
def checkWholeSpec : ChangeSpec := { name := "checkWhole", fn := fun _ => fun
  | [d1, d2, d3, d4] => { results := [.lit (.bool true)], args := [d1, d2, d3, d4] }
  | _ => none }
def checkWholeRow : OpenClaim := { program := "ytpecgfpofihibaa", sum := "2d77ea75b81499b062d699b53d8c4798a866429ef1cefccb50a277942968e3cd", func := "tumulus/tumuluslaw12.CheckWhole", spec := "checkWhole", unfollowed := true, recurses := true, plainKeys := false, apart := false }
def CheckWholeSaid : Prop := checkWholeRow.holds Try.pinned (OpenSpec.ofChange checkWholeSpec)

/-- ITS FALSE NEIGHBOUR: 'it returns false'. Refute it at one input. -/
def checkWholeWrong : ChangeSpec := { name := "checkWhole", fn := fun _ => fun
  | [d1, d2, d3, d4] => { results := [.lit (.bool false)], args := [d1, d2, d3, d4] }
  | _ => none }
def CheckWholeWrongFalsely : Prop := checkWholeRow.holds Try.pinned (OpenSpec.ofChange checkWholeWrong)

/-- 'tumuluslaw12.CheckLess': WHATEVER THE INPUT: true; the input reads as it did. -/
def checkLessSpec : ChangeSpec := { name := "checkLess", fn := fun _ => fun
  | [d1, d2, d3, d4] => { results := [.lit (.bool true)], args := [d1, d2, d3, d4] }
  | _ => none }
def checkLessRow : OpenClaim := { program := "ytpecgfpofihibaa", sum := "2d77ea75b81499b062d699b53d8c4798a866429ef1cefccb50a277942968e3cd", func := "tumulus/tumuluslaw12.CheckLess", spec := "checkLess", unfollowed := true, recurses := true, plainKeys := false, apart := false }
def CheckLessSaid : Prop := checkLessRow.holds Try.pinned (OpenSpec.ofChange checkLessSpec)

/-- ITS FALSE NEIGHBOUR: 'it returns false'. Refute it at one input. -/
def checkLessWrong : ChangeSpec := { name := "checkLess", fn := fun _ => fun
  | [d1, d2, d3, d4] => { results := [.lit (.bool false)], args := [d1, d2, d3, d4] }
  | _ => none }
def CheckLessWrongFalsely : Prop := checkLessRow.holds Try.pinned (OpenSpec.ofChange checkLessWrong)

/-- 'tumuluslaw12.CheckChecks': WHATEVER THE INPUT: true; the input reads as it did. -/
def checkChecksSpec : ChangeSpec := { name := "checkChecks", fn := fun _ => fun
  | [d1, d2, d3, d4, d5, d6, d7, d8] => { results := [.lit (.bool true)], args := [d1, d2, d3, d4, d5, d6, d7, d8] }
  | _ => none }
def checkChecksRow : OpenClaim := { program := "ytpecgfpofihibaa", sum := "2d77ea75b81499b062d699b53d8c4798a866429ef1cefccb50a277942968e3cd", func := "tumulus/tumuluslaw12.CheckChecks", spec := "checkChecks", unfollowed := true, recurses := true, plainKeys := false, apart := false }
def CheckChecksSaid : Prop := checkChecksRow.holds Try.pinned (OpenSpec.ofChange checkChecksSpec)

/-- ITS FALSE NEIGHBOUR: 'it returns false'. Refute it at one input. -/
def checkChecksWrong : ChangeSpec := { name := "checkChecks", fn := fun _ => fun
  | [d1, d2, d3, d4, d5, d6, d7, d8] => { results := [.lit (.bool false)], args := [d1, d2, d3, d4, d5, d6, d7, d8] }
  | _ => none }
def CheckChecksWrongFalsely : Prop := checkChecksRow.holds Try.pinned (OpenSpec.ofChange checkChecksWrong)

/-- 'tumuluslaw12.CheckMoved': WHATEVER THE INPUT: true; the input reads as it did. -/
def checkMovedSpec : ChangeSpec := { name := "checkMoved", fn := fun _ => fun
  | [d1, d2, d3, d4] => { results := [.lit (.bool true)], args := [d1, d2, d3, d4] }
  | _ => none }
def checkMovedRow : OpenClaim := { program := "ytpecgfpofihibaa", sum := "2d77ea75b81499b062d699b53d8c4798a866429ef1cefccb50a277942968e3cd", func := "tumulus/tumuluslaw12.CheckMoved", spec := "checkMoved", unfollowed := true, recurses := true, plainKeys := false, apart := false }
def CheckMovedSaid : Prop := checkMovedRow.holds Try.pinned (OpenSpec.ofChange checkMovedSpec)

/-- ITS FALSE NEIGHBOUR: 'it returns false'. Refute it at one input. -/
def checkMovedWrong : ChangeSpec := { name := "checkMoved", fn := fun _ => fun
  | [d1, d2, d3, d4] => { results := [.lit (.bool false)], args := [d1, d2, d3, d4] }
  | _ => none }
def CheckMovedWrongFalsely : Prop := checkMovedRow.holds Try.pinned (OpenSpec.ofChange checkMovedWrong)

/- THE SECOND FORM. 'bulk': how many values and letters a reading holds, each counted each time it is reached (what is shared counts as often as it is met; a slice's spare places count too). A statement '..UptoSaid' is the law's where the arguments, and the package variables that the reading takes, are together of bulk at most 1048576: NARROWER than '..Said'. Prove '..Said' where nothing that the law and all that it calls make is longer than what came in: it says more and counts as full. Else prove '..UptoSaid'. A law counts once. -/
mutual
def uptoBulk {H : Type} : DataW H → Nat
  | .lit (.string bytes) => bytes.length + 1
  | .lit _ => 1
  | .nil => 1
  | .ptr d => uptoBulk d + 1
  | .slice elems spare => uptoBulkAll elems + uptoBulkAll spare + 1
  | .agg parts => uptoBulkAll parts + 1
  | .iface _ d => uptoBulk d + 1
  | .map entries => uptoBulkEntries entries + 1
  | .held _ => 1
def uptoBulkAll {H : Type} : List (DataW H) → Nat
  | [] => 0
  | d :: r => uptoBulk d + uptoBulkAll r
def uptoBulkEntries {H : Type} : List (Lit × DataW H) → Nat
  | [] => 0
  | x :: r => uptoBulkEntry x + uptoBulkEntries r
def uptoBulkEntry {H : Type} : Lit × DataW H → Nat
  | (.string bytes, d) => bytes.length + uptoBulk d + 1
  | (_, d) => uptoBulk d + 1
 end
def uptoSmall : (H : Type) → List (DataW H) → Bool := fun _ ds => decide (uptoBulkAll ds ≤ 1048576)
def OpenSpec.upto (s : _root_.Go.ChangeSpec) : _root_.Go.OpenSpec := { _root_.Go.OpenSpec.ofChange s with cond := some uptoSmall }

/-- 'tumuluslaw06.UlogPlays', WHERE WHAT IT READS IS OF BULK AT MOST 1048576: true; the input reads as it did. -/
def ulogPlaysUptoRow : OpenClaim := { program := "ytpecgfpofihibaa", sum := "2d77ea75b81499b062d699b53d8c4798a866429ef1cefccb50a277942968e3cd", func := "tumulus/tumuluslaw06.UlogPlays", spec := "ulogPlays", unfollowed := true, recurses := true, plainKeys := false, apart := false, narrowed := true }
def UlogPlaysUptoSaid : Prop := ulogPlaysUptoRow.holds Try.pinned (OpenSpec.upto ulogPlaysSpec)

/-- 'tumuluslaw08.RootsWrites', WHERE WHAT IT READS IS OF BULK AT MOST 1048576: true; the input reads as it did. -/
def rootsWritesUptoRow : OpenClaim := { program := "ytpecgfpofihibaa", sum := "2d77ea75b81499b062d699b53d8c4798a866429ef1cefccb50a277942968e3cd", func := "tumulus/tumuluslaw08.RootsWrites", spec := "rootsWrites", unfollowed := true, recurses := true, plainKeys := false, apart := false, narrowed := true }
def RootsWritesUptoSaid : Prop := rootsWritesUptoRow.holds Try.pinned (OpenSpec.upto rootsWritesSpec)

/-- 'tumuluslaw09.SpaceErrors', WHERE WHAT IT READS IS OF BULK AT MOST 1048576: true; the input reads as it did. -/
def spaceErrorsUptoRow : OpenClaim := { program := "ytpecgfpofihibaa", sum := "2d77ea75b81499b062d699b53d8c4798a866429ef1cefccb50a277942968e3cd", func := "tumulus/tumuluslaw09.SpaceErrors", spec := "spaceErrors", unfollowed := true, recurses := true, plainKeys := false, apart := false, narrowed := true }
def SpaceErrorsUptoSaid : Prop := spaceErrorsUptoRow.holds Try.pinned (OpenSpec.upto spaceErrorsSpec)

/-- 'tumuluslaw09.SpaceAllocs', WHERE WHAT IT READS IS OF BULK AT MOST 1048576: true; the input reads as it did. -/
def spaceAllocsUptoRow : OpenClaim := { program := "ytpecgfpofihibaa", sum := "2d77ea75b81499b062d699b53d8c4798a866429ef1cefccb50a277942968e3cd", func := "tumulus/tumuluslaw09.SpaceAllocs", spec := "spaceAllocs", unfollowed := true, recurses := true, plainKeys := false, apart := false, narrowed := true }
def SpaceAllocsUptoSaid : Prop := spaceAllocsUptoRow.holds Try.pinned (OpenSpec.upto spaceAllocsSpec)

/-- 'tumuluslaw10.ObjectOf', WHERE WHAT IT READS IS OF BULK AT MOST 1048576: true; the input reads as it did. -/
def objectOfUptoRow : OpenClaim := { program := "ytpecgfpofihibaa", sum := "2d77ea75b81499b062d699b53d8c4798a866429ef1cefccb50a277942968e3cd", func := "tumulus/tumuluslaw10.ObjectOf", spec := "objectOf", unfollowed := true, recurses := true, plainKeys := false, apart := false, narrowed := true }
def ObjectOfUptoSaid : Prop := objectOfUptoRow.holds Try.pinned (OpenSpec.upto objectOfSpec)

/-- 'tumuluslaw10.ObjectNames', WHERE WHAT IT READS IS OF BULK AT MOST 1048576: true; the input reads as it did. -/
def objectNamesUptoRow : OpenClaim := { program := "ytpecgfpofihibaa", sum := "2d77ea75b81499b062d699b53d8c4798a866429ef1cefccb50a277942968e3cd", func := "tumulus/tumuluslaw10.ObjectNames", spec := "objectNames", unfollowed := true, recurses := true, plainKeys := false, apart := false, narrowed := true }
def ObjectNamesUptoSaid : Prop := objectNamesUptoRow.holds Try.pinned (OpenSpec.upto objectNamesSpec)

/-- 'tumuluslaw10.ObjectApart', WHERE WHAT IT READS IS OF BULK AT MOST 1048576: true; the input reads as it did. -/
def objectApartUptoRow : OpenClaim := { program := "ytpecgfpofihibaa", sum := "2d77ea75b81499b062d699b53d8c4798a866429ef1cefccb50a277942968e3cd", func := "tumulus/tumuluslaw10.ObjectApart", spec := "objectApart", unfollowed := true, recurses := true, plainKeys := false, apart := false, narrowed := true }
def ObjectApartUptoSaid : Prop := objectApartUptoRow.holds Try.pinned (OpenSpec.upto objectApartSpec)

/-- 'tumuluslaw10.ObjectFields', WHERE WHAT IT READS IS OF BULK AT MOST 1048576: true; the input reads as it did. -/
def objectFieldsUptoRow : OpenClaim := { program := "ytpecgfpofihibaa", sum := "2d77ea75b81499b062d699b53d8c4798a866429ef1cefccb50a277942968e3cd", func := "tumulus/tumuluslaw10.ObjectFields", spec := "objectFields", unfollowed := true, recurses := true, plainKeys := false, apart := false, narrowed := true }
def ObjectFieldsUptoSaid : Prop := objectFieldsUptoRow.holds Try.pinned (OpenSpec.upto objectFieldsSpec)

/-- 'tumuluslaw11.WalkObjects', WHERE WHAT IT READS IS OF BULK AT MOST 1048576: true; the input reads as it did. -/
def walkObjectsUptoRow : OpenClaim := { program := "ytpecgfpofihibaa", sum := "2d77ea75b81499b062d699b53d8c4798a866429ef1cefccb50a277942968e3cd", func := "tumulus/tumuluslaw11.WalkObjects", spec := "walkObjects", unfollowed := true, recurses := true, plainKeys := false, apart := false, narrowed := true }
def WalkObjectsUptoSaid : Prop := walkObjectsUptoRow.holds Try.pinned (OpenSpec.upto walkObjectsSpec)

/-- 'tumuluslaw11.WalkBreaks', WHERE WHAT IT READS IS OF BULK AT MOST 1048576: true; the input reads as it did. -/
def walkBreaksUptoRow : OpenClaim := { program := "ytpecgfpofihibaa", sum := "2d77ea75b81499b062d699b53d8c4798a866429ef1cefccb50a277942968e3cd", func := "tumulus/tumuluslaw11.WalkBreaks", spec := "walkBreaks", unfollowed := true, recurses := true, plainKeys := false, apart := false, narrowed := true }
def WalkBreaksUptoSaid : Prop := walkBreaksUptoRow.holds Try.pinned (OpenSpec.upto walkBreaksSpec)

/-- 'tumuluslaw11.WalkSums', WHERE WHAT IT READS IS OF BULK AT MOST 1048576: true; the input reads as it did. -/
def walkSumsUptoRow : OpenClaim := { program := "ytpecgfpofihibaa", sum := "2d77ea75b81499b062d699b53d8c4798a866429ef1cefccb50a277942968e3cd", func := "tumulus/tumuluslaw11.WalkSums", spec := "walkSums", unfollowed := true, recurses := true, plainKeys := false, apart := false, narrowed := true }
def WalkSumsUptoSaid : Prop := walkSumsUptoRow.holds Try.pinned (OpenSpec.upto walkSumsSpec)

/-- 'tumuluslaw11.WalkLess', WHERE WHAT IT READS IS OF BULK AT MOST 1048576: true; the input reads as it did. -/
def walkLessUptoRow : OpenClaim := { program := "ytpecgfpofihibaa", sum := "2d77ea75b81499b062d699b53d8c4798a866429ef1cefccb50a277942968e3cd", func := "tumulus/tumuluslaw11.WalkLess", spec := "walkLess", unfollowed := true, recurses := true, plainKeys := false, apart := false, narrowed := true }
def WalkLessUptoSaid : Prop := walkLessUptoRow.holds Try.pinned (OpenSpec.upto walkLessSpec)

/-- 'tumuluslaw12.CheckWhole', WHERE WHAT IT READS IS OF BULK AT MOST 1048576: true; the input reads as it did. -/
def checkWholeUptoRow : OpenClaim := { program := "ytpecgfpofihibaa", sum := "2d77ea75b81499b062d699b53d8c4798a866429ef1cefccb50a277942968e3cd", func := "tumulus/tumuluslaw12.CheckWhole", spec := "checkWhole", unfollowed := true, recurses := true, plainKeys := false, apart := false, narrowed := true }
def CheckWholeUptoSaid : Prop := checkWholeUptoRow.holds Try.pinned (OpenSpec.upto checkWholeSpec)

/-- 'tumuluslaw12.CheckLess', WHERE WHAT IT READS IS OF BULK AT MOST 1048576: true; the input reads as it did. -/
def checkLessUptoRow : OpenClaim := { program := "ytpecgfpofihibaa", sum := "2d77ea75b81499b062d699b53d8c4798a866429ef1cefccb50a277942968e3cd", func := "tumulus/tumuluslaw12.CheckLess", spec := "checkLess", unfollowed := true, recurses := true, plainKeys := false, apart := false, narrowed := true }
def CheckLessUptoSaid : Prop := checkLessUptoRow.holds Try.pinned (OpenSpec.upto checkLessSpec)

/-- 'tumuluslaw12.CheckChecks', WHERE WHAT IT READS IS OF BULK AT MOST 1048576: true; the input reads as it did. -/
def checkChecksUptoRow : OpenClaim := { program := "ytpecgfpofihibaa", sum := "2d77ea75b81499b062d699b53d8c4798a866429ef1cefccb50a277942968e3cd", func := "tumulus/tumuluslaw12.CheckChecks", spec := "checkChecks", unfollowed := true, recurses := true, plainKeys := false, apart := false, narrowed := true }
def CheckChecksUptoSaid : Prop := checkChecksUptoRow.holds Try.pinned (OpenSpec.upto checkChecksSpec)

/-- 'tumuluslaw12.CheckMoved', WHERE WHAT IT READS IS OF BULK AT MOST 1048576: true; the input reads as it did. -/
def checkMovedUptoRow : OpenClaim := { program := "ytpecgfpofihibaa", sum := "2d77ea75b81499b062d699b53d8c4798a866429ef1cefccb50a277942968e3cd", func := "tumulus/tumuluslaw12.CheckMoved", spec := "checkMoved", unfollowed := true, recurses := true, plainKeys := false, apart := false, narrowed := true }
def CheckMovedUptoSaid : Prop := checkMovedUptoRow.holds Try.pinned (OpenSpec.upto checkMovedSpec)

end Rows
end Go.Proofs.Ytpecgfpofihibaa
