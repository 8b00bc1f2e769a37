/-
  No cell of these rows narrows 'for every input' (looked for: loops, veiled, ifaces, maps, wideKeys, modest, calm, conditions, laid).
  DERIVED. THE GIVEN ROWS OF THIS SEAT. 17 by the template 'for every input the law returns true; each argument reads behind the call as it read before'; 0 by the template 'total and deterministic' (their statements: YtjbgmnpbpmljaaaTotals.lean).
  GIVEN WITH THE SEED: the statements are not yours to turn. If you find one false, say at which input.
  Laid BY PROGRAM, IN A SANDBOX (cutbox-rows.mjs): the forced cells as the released guide's own fill.sh prints them over the translation 501bff4346594a05… (all of the seat's roots in one cut). By AI agents, Wed Nov 11 2026. No macro, syntax, notation, axiom, sorry.
-/
import Derived.Test.YtjbgmnpbpmljaaaChecked
import GoSem.Claim
import GoSem.ClaimJoined
import GoSem.ClaimMapViews
import Derived.JoinedTies
import Derived.KernelRfl
namespace Go.Proofs.Ytjbgmnpbpmljaaa
/- THE CELL 'sum', in the pinned program and in every row, IS THE sha256 OF THE DUMP (.gsa) THAT YtjbgmnpbpmljaaaProg.lean LOADS. Nothing in Lean hashes anything: it is a label: what it is worth is what the hold of that sum in a sandbox is worth. -/
noncomputable def Try.pinned : Pinned := { name := "ytjbgmnpbpmljaaa", sum := "501bff4346594a055ff61b68dc31566c6dc2f560f51cf4d2342ecfd95d9ab78d", checked := Try.checked }
namespace Rows
def none {H : Type} : Left H := { results := [], args := [] }

/-- 'posserlaw02.CopperBounds': WHATEVER THE INPUT: true; the input reads as it did. -/
def copperBoundsSpec : ChangeSpec := { name := "copperBounds", fn := fun _ => fun
  | [d] => { results := [.lit (.bool true)], args := [d] }
  | _ => none }
def copperBoundsRow : OpenClaim := { program := "ytjbgmnpbpmljaaa", sum := "501bff4346594a055ff61b68dc31566c6dc2f560f51cf4d2342ecfd95d9ab78d", func := "posser/posserlaw02.CopperBounds", spec := "copperBounds", unfollowed := true, recurses := true, plainKeys := false, apart := false }
def CopperBoundsSaid : Prop := copperBoundsRow.holds Try.pinned (OpenSpec.ofChange copperBoundsSpec)

/-- ITS FALSE NEIGHBOUR: 'it returns false'. Refute it at one input. -/
def copperBoundsWrong : ChangeSpec := { name := "copperBounds", fn := fun _ => fun
  | [d] => { results := [.lit (.bool false)], args := [d] }
  | _ => none }
def CopperBoundsWrongFalsely : Prop := copperBoundsRow.holds Try.pinned (OpenSpec.ofChange copperBoundsWrong)

/-- 'posserlaw02.CopperSpares': WHATEVER THE INPUT: true; the input reads as it did. -/
def copperSparesSpec : ChangeSpec := { name := "copperSpares", fn := fun _ => fun
  | [d1, d2, d3] => { results := [.lit (.bool true)], args := [d1, d2, d3] }
  | _ => none }
def copperSparesRow : OpenClaim := { program := "ytjbgmnpbpmljaaa", sum := "501bff4346594a055ff61b68dc31566c6dc2f560f51cf4d2342ecfd95d9ab78d", func := "posser/posserlaw02.CopperSpares", spec := "copperSpares", unfollowed := true, recurses := true, plainKeys := false, apart := false }
def CopperSparesSaid : Prop := copperSparesRow.holds Try.pinned (OpenSpec.ofChange copperSparesSpec)

/-- ITS FALSE NEIGHBOUR: 'it returns false'. Refute it at one input. -/
def copperSparesWrong : ChangeSpec := { name := "copperSpares", fn := fun _ => fun
  | [d1, d2, d3] => { results := [.lit (.bool false)], args := [d1, d2, d3] }
  | _ => none }
def CopperSparesWrongFalsely : Prop := copperSparesRow.holds Try.pinned (OpenSpec.ofChange copperSparesWrong)

/-- 'posserlaw02.CopperLeaves': WHATEVER THE INPUT: true; the input reads as it did. -/
def copperLeavesSpec : ChangeSpec := { name := "copperLeaves", fn := fun _ => fun
  | [d] => { results := [.lit (.bool true)], args := [d] }
  | _ => none }
def copperLeavesRow : OpenClaim := { program := "ytjbgmnpbpmljaaa", sum := "501bff4346594a055ff61b68dc31566c6dc2f560f51cf4d2342ecfd95d9ab78d", func := "posser/posserlaw02.CopperLeaves", spec := "copperLeaves", unfollowed := true, recurses := true, plainKeys := false, apart := false }
def CopperLeavesSaid : Prop := copperLeavesRow.holds Try.pinned (OpenSpec.ofChange copperLeavesSpec)

/-- ITS FALSE NEIGHBOUR: 'it returns false'. Refute it at one input. -/
def copperLeavesWrong : ChangeSpec := { name := "copperLeaves", fn := fun _ => fun
  | [d] => { results := [.lit (.bool false)], args := [d] }
  | _ => none }
def CopperLeavesWrongFalsely : Prop := copperLeavesRow.holds Try.pinned (OpenSpec.ofChange copperLeavesWrong)

/-- 'posserlaw02.CopperEnds': WHATEVER THE INPUT: true; the input reads as it did. -/
def copperEndsSpec : ChangeSpec := { name := "copperEnds", fn := fun _ => fun
  | [d1, d2] => { results := [.lit (.bool true)], args := [d1, d2] }
  | _ => none }
def copperEndsRow : OpenClaim := { program := "ytjbgmnpbpmljaaa", sum := "501bff4346594a055ff61b68dc31566c6dc2f560f51cf4d2342ecfd95d9ab78d", func := "posser/posserlaw02.CopperEnds", spec := "copperEnds", unfollowed := true, recurses := true, plainKeys := false, apart := false }
def CopperEndsSaid : Prop := copperEndsRow.holds Try.pinned (OpenSpec.ofChange copperEndsSpec)

/-- ITS FALSE NEIGHBOUR: 'it returns false'. Refute it at one input. -/
def copperEndsWrong : ChangeSpec := { name := "copperEnds", fn := fun _ => fun
  | [d1, d2] => { results := [.lit (.bool false)], args := [d1, d2] }
  | _ => none }
def CopperEndsWrongFalsely : Prop := copperEndsRow.holds Try.pinned (OpenSpec.ofChange copperEndsWrong)

/-- 'posserlaw02.CopperWarmer': WHATEVER THE INPUT: true; the input reads as it did. -/
def copperWarmerSpec : ChangeSpec := { name := "copperWarmer", fn := fun _ => fun
  | [d1, d2, d3, d4, d5] => { results := [.lit (.bool true)], args := [d1, d2, d3, d4, d5] }
  | _ => none }
def copperWarmerRow : OpenClaim := { program := "ytjbgmnpbpmljaaa", sum := "501bff4346594a055ff61b68dc31566c6dc2f560f51cf4d2342ecfd95d9ab78d", func := "posser/posserlaw02.CopperWarmer", spec := "copperWarmer", unfollowed := true, recurses := true, plainKeys := false, apart := false }
def CopperWarmerSaid : Prop := copperWarmerRow.holds Try.pinned (OpenSpec.ofChange copperWarmerSpec)

/-- ITS FALSE NEIGHBOUR: 'it returns false'. Refute it at one input. -/
def copperWarmerWrong : ChangeSpec := { name := "copperWarmer", fn := fun _ => fun
  | [d1, d2, d3, d4, d5] => { results := [.lit (.bool false)], args := [d1, d2, d3, d4, d5] }
  | _ => none }
def CopperWarmerWrongFalsely : Prop := copperWarmerRow.holds Try.pinned (OpenSpec.ofChange copperWarmerWrong)

/-- 'posserlaw02.CopperBefore': WHATEVER THE INPUT: true; the input reads as it did. -/
def copperBeforeSpec : ChangeSpec := { name := "copperBefore", fn := fun _ => fun
  | [d1, d2, d3, d4, d5] => { results := [.lit (.bool true)], args := [d1, d2, d3, d4, d5] }
  | _ => none }
def copperBeforeRow : OpenClaim := { program := "ytjbgmnpbpmljaaa", sum := "501bff4346594a055ff61b68dc31566c6dc2f560f51cf4d2342ecfd95d9ab78d", func := "posser/posserlaw02.CopperBefore", spec := "copperBefore", unfollowed := true, recurses := true, plainKeys := false, apart := false }
def CopperBeforeSaid : Prop := copperBeforeRow.holds Try.pinned (OpenSpec.ofChange copperBeforeSpec)

/-- ITS FALSE NEIGHBOUR: 'it returns false'. Refute it at one input. -/
def copperBeforeWrong : ChangeSpec := { name := "copperBefore", fn := fun _ => fun
  | [d1, d2, d3, d4, d5] => { results := [.lit (.bool false)], args := [d1, d2, d3, d4, d5] }
  | _ => none }
def CopperBeforeWrongFalsely : Prop := copperBeforeRow.holds Try.pinned (OpenSpec.ofChange copperBeforeWrong)

/-- 'posserlaw02.CopperFirst': WHATEVER THE INPUT: true; the input reads as it did. -/
def copperFirstSpec : ChangeSpec := { name := "copperFirst", fn := fun _ => fun
  | [d] => { results := [.lit (.bool true)], args := [d] }
  | _ => none }
def copperFirstRow : OpenClaim := { program := "ytjbgmnpbpmljaaa", sum := "501bff4346594a055ff61b68dc31566c6dc2f560f51cf4d2342ecfd95d9ab78d", func := "posser/posserlaw02.CopperFirst", spec := "copperFirst", unfollowed := true, recurses := true, plainKeys := false, apart := false }
def CopperFirstSaid : Prop := copperFirstRow.holds Try.pinned (OpenSpec.ofChange copperFirstSpec)

/-- ITS FALSE NEIGHBOUR: 'it returns false'. Refute it at one input. -/
def copperFirstWrong : ChangeSpec := { name := "copperFirst", fn := fun _ => fun
  | [d] => { results := [.lit (.bool false)], args := [d] }
  | _ => none }
def CopperFirstWrongFalsely : Prop := copperFirstRow.holds Try.pinned (OpenSpec.ofChange copperFirstWrong)

/-- 'posserlaw02.CopperLeft': WHATEVER THE INPUT: true; the input reads as it did. -/
def copperLeftSpec : ChangeSpec := { name := "copperLeft", fn := fun _ => fun
  | [d1, d2] => { results := [.lit (.bool true)], args := [d1, d2] }
  | _ => none }
def copperLeftRow : OpenClaim := { program := "ytjbgmnpbpmljaaa", sum := "501bff4346594a055ff61b68dc31566c6dc2f560f51cf4d2342ecfd95d9ab78d", func := "posser/posserlaw02.CopperLeft", spec := "copperLeft", unfollowed := true, recurses := true, plainKeys := false, apart := false }
def CopperLeftSaid : Prop := copperLeftRow.holds Try.pinned (OpenSpec.ofChange copperLeftSpec)

/-- ITS FALSE NEIGHBOUR: 'it returns false'. Refute it at one input. -/
def copperLeftWrong : ChangeSpec := { name := "copperLeft", fn := fun _ => fun
  | [d1, d2] => { results := [.lit (.bool false)], args := [d1, d2] }
  | _ => none }
def CopperLeftWrongFalsely : Prop := copperLeftRow.holds Try.pinned (OpenSpec.ofChange copperLeftWrong)

/-- 'posserlaw02.CopperPlays': WHATEVER THE INPUT: true; the input reads as it did. -/
def copperPlaysSpec : ChangeSpec := { name := "copperPlays", fn := fun _ => fun
  | [d1, d2] => { results := [.lit (.bool true)], args := [d1, d2] }
  | _ => none }
def copperPlaysRow : OpenClaim := { program := "ytjbgmnpbpmljaaa", sum := "501bff4346594a055ff61b68dc31566c6dc2f560f51cf4d2342ecfd95d9ab78d", func := "posser/posserlaw02.CopperPlays", spec := "copperPlays", unfollowed := true, recurses := true, plainKeys := false, apart := false }
def CopperPlaysSaid : Prop := copperPlaysRow.holds Try.pinned (OpenSpec.ofChange copperPlaysSpec)

/-- ITS FALSE NEIGHBOUR: 'it returns false'. Refute it at one input. -/
def copperPlaysWrong : ChangeSpec := { name := "copperPlays", fn := fun _ => fun
  | [d1, d2] => { results := [.lit (.bool false)], args := [d1, d2] }
  | _ => none }
def CopperPlaysWrongFalsely : Prop := copperPlaysRow.holds Try.pinned (OpenSpec.ofChange copperPlaysWrong)

/-- 'posserlaw02.CopperTruth': WHATEVER THE INPUT: true; the input reads as it did. -/
def copperTruthSpec : ChangeSpec := { name := "copperTruth", fn := fun _ => fun
  | [d1, d2, d3] => { results := [.lit (.bool true)], args := [d1, d2, d3] }
  | _ => none }
def copperTruthRow : OpenClaim := { program := "ytjbgmnpbpmljaaa", sum := "501bff4346594a055ff61b68dc31566c6dc2f560f51cf4d2342ecfd95d9ab78d", func := "posser/posserlaw02.CopperTruth", spec := "copperTruth", unfollowed := true, recurses := true, plainKeys := false, apart := false }
def CopperTruthSaid : Prop := copperTruthRow.holds Try.pinned (OpenSpec.ofChange copperTruthSpec)

/-- ITS FALSE NEIGHBOUR: 'it returns false'. Refute it at one input. -/
def copperTruthWrong : ChangeSpec := { name := "copperTruth", fn := fun _ => fun
  | [d1, d2, d3] => { results := [.lit (.bool false)], args := [d1, d2, d3] }
  | _ => none }
def CopperTruthWrongFalsely : Prop := copperTruthRow.holds Try.pinned (OpenSpec.ofChange copperTruthWrong)

/-- 'posserlaw02.CopperLeast': WHATEVER THE INPUT: true; the input reads as it did. -/
def copperLeastSpec : ChangeSpec := { name := "copperLeast", fn := fun _ => fun
  | [d1, d2, d3] => { results := [.lit (.bool true)], args := [d1, d2, d3] }
  | _ => none }
def copperLeastRow : OpenClaim := { program := "ytjbgmnpbpmljaaa", sum := "501bff4346594a055ff61b68dc31566c6dc2f560f51cf4d2342ecfd95d9ab78d", func := "posser/posserlaw02.CopperLeast", spec := "copperLeast", unfollowed := true, recurses := true, plainKeys := false, apart := false }
def CopperLeastSaid : Prop := copperLeastRow.holds Try.pinned (OpenSpec.ofChange copperLeastSpec)

/-- ITS FALSE NEIGHBOUR: 'it returns false'. Refute it at one input. -/
def copperLeastWrong : ChangeSpec := { name := "copperLeast", fn := fun _ => fun
  | [d1, d2, d3] => { results := [.lit (.bool false)], args := [d1, d2, d3] }
  | _ => none }
def CopperLeastWrongFalsely : Prop := copperLeastRow.holds Try.pinned (OpenSpec.ofChange copperLeastWrong)

/-- 'posserlaw02.CopperMore': WHATEVER THE INPUT: true; the input reads as it did. -/
def copperMoreSpec : ChangeSpec := { name := "copperMore", fn := fun _ => fun
  | [d1, d2, d3, d4] => { results := [.lit (.bool true)], args := [d1, d2, d3, d4] }
  | _ => none }
def copperMoreRow : OpenClaim := { program := "ytjbgmnpbpmljaaa", sum := "501bff4346594a055ff61b68dc31566c6dc2f560f51cf4d2342ecfd95d9ab78d", func := "posser/posserlaw02.CopperMore", spec := "copperMore", unfollowed := true, recurses := true, plainKeys := false, apart := false }
def CopperMoreSaid : Prop := copperMoreRow.holds Try.pinned (OpenSpec.ofChange copperMoreSpec)

/-- ITS FALSE NEIGHBOUR: 'it returns false'. Refute it at one input. -/
def copperMoreWrong : ChangeSpec := { name := "copperMore", fn := fun _ => fun
  | [d1, d2, d3, d4] => { results := [.lit (.bool false)], args := [d1, d2, d3, d4] }
  | _ => none }
def CopperMoreWrongFalsely : Prop := copperMoreRow.holds Try.pinned (OpenSpec.ofChange copperMoreWrong)

/-- 'posserlaw02.CopperWider': WHATEVER THE INPUT: true; the input reads as it did. -/
def copperWiderSpec : ChangeSpec := { name := "copperWider", fn := fun _ => fun
  | [d1, d2, d3, d4] => { results := [.lit (.bool true)], args := [d1, d2, d3, d4] }
  | _ => none }
def copperWiderRow : OpenClaim := { program := "ytjbgmnpbpmljaaa", sum := "501bff4346594a055ff61b68dc31566c6dc2f560f51cf4d2342ecfd95d9ab78d", func := "posser/posserlaw02.CopperWider", spec := "copperWider", unfollowed := true, recurses := true, plainKeys := false, apart := false }
def CopperWiderSaid : Prop := copperWiderRow.holds Try.pinned (OpenSpec.ofChange copperWiderSpec)

/-- ITS FALSE NEIGHBOUR: 'it returns false'. Refute it at one input. -/
def copperWiderWrong : ChangeSpec := { name := "copperWider", fn := fun _ => fun
  | [d1, d2, d3, d4] => { results := [.lit (.bool false)], args := [d1, d2, d3, d4] }
  | _ => none }
def CopperWiderWrongFalsely : Prop := copperWiderRow.holds Try.pinned (OpenSpec.ofChange copperWiderWrong)

/-- 'posserlaw02.CopperKeeps': WHATEVER THE INPUT: true; the input reads as it did. -/
def copperKeepsSpec : ChangeSpec := { name := "copperKeeps", fn := fun _ => fun
  | [d] => { results := [.lit (.bool true)], args := [d] }
  | _ => none }
def copperKeepsRow : OpenClaim := { program := "ytjbgmnpbpmljaaa", sum := "501bff4346594a055ff61b68dc31566c6dc2f560f51cf4d2342ecfd95d9ab78d", func := "posser/posserlaw02.CopperKeeps", spec := "copperKeeps", unfollowed := true, recurses := true, plainKeys := false, apart := false }
def CopperKeepsSaid : Prop := copperKeepsRow.holds Try.pinned (OpenSpec.ofChange copperKeepsSpec)

/-- ITS FALSE NEIGHBOUR: 'it returns false'. Refute it at one input. -/
def copperKeepsWrong : ChangeSpec := { name := "copperKeeps", fn := fun _ => fun
  | [d] => { results := [.lit (.bool false)], args := [d] }
  | _ => none }
def CopperKeepsWrongFalsely : Prop := copperKeepsRow.holds Try.pinned (OpenSpec.ofChange copperKeepsWrong)

/-- 'posserlaw02.CopperPromised': WHATEVER THE INPUT: true; the input reads as it did. -/
def copperPromisedSpec : ChangeSpec := { name := "copperPromised", fn := fun _ => fun
  | [d1, d2, d3, d4] => { results := [.lit (.bool true)], args := [d1, d2, d3, d4] }
  | _ => none }
def copperPromisedRow : OpenClaim := { program := "ytjbgmnpbpmljaaa", sum := "501bff4346594a055ff61b68dc31566c6dc2f560f51cf4d2342ecfd95d9ab78d", func := "posser/posserlaw02.CopperPromised", spec := "copperPromised", unfollowed := true, recurses := true, plainKeys := false, apart := false }
def CopperPromisedSaid : Prop := copperPromisedRow.holds Try.pinned (OpenSpec.ofChange copperPromisedSpec)

/-- ITS FALSE NEIGHBOUR: 'it returns false'. Refute it at one input. -/
def copperPromisedWrong : ChangeSpec := { name := "copperPromised", fn := fun _ => fun
  | [d1, d2, d3, d4] => { results := [.lit (.bool false)], args := [d1, d2, d3, d4] }
  | _ => none }
def CopperPromisedWrongFalsely : Prop := copperPromisedRow.holds Try.pinned (OpenSpec.ofChange copperPromisedWrong)

/-- 'posserlaw02.CopperNoLess': WHATEVER THE INPUT: true; the input reads as it did. -/
def copperNoLessSpec : ChangeSpec := { name := "copperNoLess", fn := fun _ => fun
  | [d1, d2] => { results := [.lit (.bool true)], args := [d1, d2] }
  | _ => none }
def copperNoLessRow : OpenClaim := { program := "ytjbgmnpbpmljaaa", sum := "501bff4346594a055ff61b68dc31566c6dc2f560f51cf4d2342ecfd95d9ab78d", func := "posser/posserlaw02.CopperNoLess", spec := "copperNoLess", unfollowed := true, recurses := true, plainKeys := false, apart := false }
def CopperNoLessSaid : Prop := copperNoLessRow.holds Try.pinned (OpenSpec.ofChange copperNoLessSpec)

/-- ITS FALSE NEIGHBOUR: 'it returns false'. Refute it at one input. -/
def copperNoLessWrong : ChangeSpec := { name := "copperNoLess", fn := fun _ => fun
  | [d1, d2] => { results := [.lit (.bool false)], args := [d1, d2] }
  | _ => none }
def CopperNoLessWrongFalsely : Prop := copperNoLessRow.holds Try.pinned (OpenSpec.ofChange copperNoLessWrong)

/-- 'posserlaw02.CopperNames': WHATEVER THE INPUT: true; the input reads as it did. -/
def copperNamesSpec : ChangeSpec := { name := "copperNames", fn := fun _ => fun
  | [] => { results := [.lit (.bool true)], args := [] }
  | _ => none }
def copperNamesRow : OpenClaim := { program := "ytjbgmnpbpmljaaa", sum := "501bff4346594a055ff61b68dc31566c6dc2f560f51cf4d2342ecfd95d9ab78d", func := "posser/posserlaw02.CopperNames", spec := "copperNames", unfollowed := true, recurses := true, plainKeys := false, apart := false }
def CopperNamesSaid : Prop := copperNamesRow.holds Try.pinned (OpenSpec.ofChange copperNamesSpec)

/-- ITS FALSE NEIGHBOUR: 'it returns false'. Refute it at one input. -/
def copperNamesWrong : ChangeSpec := { name := "copperNames", fn := fun _ => fun
  | [] => { results := [.lit (.bool false)], args := [] }
  | _ => none }
def CopperNamesWrongFalsely : Prop := copperNamesRow.holds Try.pinned (OpenSpec.ofChange copperNamesWrong)

/- THE SECOND FORM. 'bulk': how many values and letters a reading holds, each counted each time it is reached (what is shared counts as often as it is met; a slice's spare places count too). A statement '..UptoSaid' is the law's where the arguments, and the package variables that the reading takes, are together of bulk at most 1048576: NARROWER than '..Said'. Prove '..Said' where nothing that the law and all that it calls make is longer than what came in: it says more and counts as full. Else prove '..UptoSaid'. A law counts once. -/
mutual
def uptoBulk {H : Type} : DataW H → Nat
  | .lit (.string bytes) => bytes.length + 1
  | .lit _ => 1
  | .nil => 1
  | .ptr d => uptoBulk d + 1
  | .slice elems spare => uptoBulkAll elems + uptoBulkAll spare + 1
  | .agg parts => uptoBulkAll parts + 1
  | .iface _ d => uptoBulk d + 1
  | .map entries => uptoBulkEntries entries + 1
  | .held _ => 1
def uptoBulkAll {H : Type} : List (DataW H) → Nat
  | [] => 0
  | d :: r => uptoBulk d + uptoBulkAll r
def uptoBulkEntries {H : Type} : List (Lit × DataW H) → Nat
  | [] => 0
  | x :: r => uptoBulkEntry x + uptoBulkEntries r
def uptoBulkEntry {H : Type} : Lit × DataW H → Nat
  | (.string bytes, d) => bytes.length + uptoBulk d + 1
  | (_, d) => uptoBulk d + 1
 end
def uptoSmall : (H : Type) → List (DataW H) → Bool := fun _ ds => decide (uptoBulkAll ds ≤ 1048576)
def OpenSpec.upto (s : _root_.Go.ChangeSpec) : _root_.Go.OpenSpec := { _root_.Go.OpenSpec.ofChange s with cond := some uptoSmall }

/-- 'posserlaw02.CopperBounds', WHERE WHAT IT READS IS OF BULK AT MOST 1048576: true; the input reads as it did. -/
def copperBoundsUptoRow : OpenClaim := { program := "ytjbgmnpbpmljaaa", sum := "501bff4346594a055ff61b68dc31566c6dc2f560f51cf4d2342ecfd95d9ab78d", func := "posser/posserlaw02.CopperBounds", spec := "copperBounds", unfollowed := true, recurses := true, plainKeys := false, apart := false, narrowed := true }
def CopperBoundsUptoSaid : Prop := copperBoundsUptoRow.holds Try.pinned (OpenSpec.upto copperBoundsSpec)

/-- 'posserlaw02.CopperSpares', WHERE WHAT IT READS IS OF BULK AT MOST 1048576: true; the input reads as it did. -/
def copperSparesUptoRow : OpenClaim := { program := "ytjbgmnpbpmljaaa", sum := "501bff4346594a055ff61b68dc31566c6dc2f560f51cf4d2342ecfd95d9ab78d", func := "posser/posserlaw02.CopperSpares", spec := "copperSpares", unfollowed := true, recurses := true, plainKeys := false, apart := false, narrowed := true }
def CopperSparesUptoSaid : Prop := copperSparesUptoRow.holds Try.pinned (OpenSpec.upto copperSparesSpec)

/-- 'posserlaw02.CopperLeaves', WHERE WHAT IT READS IS OF BULK AT MOST 1048576: true; the input reads as it did. -/
def copperLeavesUptoRow : OpenClaim := { program := "ytjbgmnpbpmljaaa", sum := "501bff4346594a055ff61b68dc31566c6dc2f560f51cf4d2342ecfd95d9ab78d", func := "posser/posserlaw02.CopperLeaves", spec := "copperLeaves", unfollowed := true, recurses := true, plainKeys := false, apart := false, narrowed := true }
def CopperLeavesUptoSaid : Prop := copperLeavesUptoRow.holds Try.pinned (OpenSpec.upto copperLeavesSpec)

/-- 'posserlaw02.CopperEnds', WHERE WHAT IT READS IS OF BULK AT MOST 1048576: true; the input reads as it did. -/
def copperEndsUptoRow : OpenClaim := { program := "ytjbgmnpbpmljaaa", sum := "501bff4346594a055ff61b68dc31566c6dc2f560f51cf4d2342ecfd95d9ab78d", func := "posser/posserlaw02.CopperEnds", spec := "copperEnds", unfollowed := true, recurses := true, plainKeys := false, apart := false, narrowed := true }
def CopperEndsUptoSaid : Prop := copperEndsUptoRow.holds Try.pinned (OpenSpec.upto copperEndsSpec)

/-- 'posserlaw02.CopperWarmer', WHERE WHAT IT READS IS OF BULK AT MOST 1048576: true; the input reads as it did. -/
def copperWarmerUptoRow : OpenClaim := { program := "ytjbgmnpbpmljaaa", sum := "501bff4346594a055ff61b68dc31566c6dc2f560f51cf4d2342ecfd95d9ab78d", func := "posser/posserlaw02.CopperWarmer", spec := "copperWarmer", unfollowed := true, recurses := true, plainKeys := false, apart := false, narrowed := true }
def CopperWarmerUptoSaid : Prop := copperWarmerUptoRow.holds Try.pinned (OpenSpec.upto copperWarmerSpec)

/-- 'posserlaw02.CopperBefore', WHERE WHAT IT READS IS OF BULK AT MOST 1048576: true; the input reads as it did. -/
def copperBeforeUptoRow : OpenClaim := { program := "ytjbgmnpbpmljaaa", sum := "501bff4346594a055ff61b68dc31566c6dc2f560f51cf4d2342ecfd95d9ab78d", func := "posser/posserlaw02.CopperBefore", spec := "copperBefore", unfollowed := true, recurses := true, plainKeys := false, apart := false, narrowed := true }
def CopperBeforeUptoSaid : Prop := copperBeforeUptoRow.holds Try.pinned (OpenSpec.upto copperBeforeSpec)

/-- 'posserlaw02.CopperFirst', WHERE WHAT IT READS IS OF BULK AT MOST 1048576: true; the input reads as it did. -/
def copperFirstUptoRow : OpenClaim := { program := "ytjbgmnpbpmljaaa", sum := "501bff4346594a055ff61b68dc31566c6dc2f560f51cf4d2342ecfd95d9ab78d", func := "posser/posserlaw02.CopperFirst", spec := "copperFirst", unfollowed := true, recurses := true, plainKeys := false, apart := false, narrowed := true }
def CopperFirstUptoSaid : Prop := copperFirstUptoRow.holds Try.pinned (OpenSpec.upto copperFirstSpec)

/-- 'posserlaw02.CopperLeft', WHERE WHAT IT READS IS OF BULK AT MOST 1048576: true; the input reads as it did. -/
def copperLeftUptoRow : OpenClaim := { program := "ytjbgmnpbpmljaaa", sum := "501bff4346594a055ff61b68dc31566c6dc2f560f51cf4d2342ecfd95d9ab78d", func := "posser/posserlaw02.CopperLeft", spec := "copperLeft", unfollowed := true, recurses := true, plainKeys := false, apart := false, narrowed := true }
def CopperLeftUptoSaid : Prop := copperLeftUptoRow.holds Try.pinned (OpenSpec.upto copperLeftSpec)

/-- 'posserlaw02.CopperPlays', WHERE WHAT IT READS IS OF BULK AT MOST 1048576: true; the input reads as it did. -/
def copperPlaysUptoRow : OpenClaim := { program := "ytjbgmnpbpmljaaa", sum := "501bff4346594a055ff61b68dc31566c6dc2f560f51cf4d2342ecfd95d9ab78d", func := "posser/posserlaw02.CopperPlays", spec := "copperPlays", unfollowed := true, recurses := true, plainKeys := false, apart := false, narrowed := true }
def CopperPlaysUptoSaid : Prop := copperPlaysUptoRow.holds Try.pinned (OpenSpec.upto copperPlaysSpec)

/-- 'posserlaw02.CopperTruth', WHERE WHAT IT READS IS OF BULK AT MOST 1048576: true; the input reads as it did. -/
def copperTruthUptoRow : OpenClaim := { program := "ytjbgmnpbpmljaaa", sum := "501bff4346594a055ff61b68dc31566c6dc2f560f51cf4d2342ecfd95d9ab78d", func := "posser/posserlaw02.CopperTruth", spec := "copperTruth", unfollowed := true, recurses := true, plainKeys := false, apart := false, narrowed := true }
def CopperTruthUptoSaid : Prop := copperTruthUptoRow.holds Try.pinned (OpenSpec.upto copperTruthSpec)

/-- 'posserlaw02.CopperLeast', WHERE WHAT IT READS IS OF BULK AT MOST 1048576: true; the input reads as it did. -/
def copperLeastUptoRow : OpenClaim := { program := "ytjbgmnpbpmljaaa", sum := "501bff4346594a055ff61b68dc31566c6dc2f560f51cf4d2342ecfd95d9ab78d", func := "posser/posserlaw02.CopperLeast", spec := "copperLeast", unfollowed := true, recurses := true, plainKeys := false, apart := false, narrowed := true }
def CopperLeastUptoSaid : Prop := copperLeastUptoRow.holds Try.pinned (OpenSpec.upto copperLeastSpec)

/-- 'posserlaw02.CopperMore', WHERE WHAT IT READS IS OF BULK AT MOST 1048576: true; the input reads as it did. -/
def copperMoreUptoRow : OpenClaim := { program := "ytjbgmnpbpmljaaa", sum := "501bff4346594a055ff61b68dc31566c6dc2f560f51cf4d2342ecfd95d9ab78d", func := "posser/posserlaw02.CopperMore", spec := "copperMore", unfollowed := true, recurses := true, plainKeys := false, apart := false, narrowed := true }
def CopperMoreUptoSaid : Prop := copperMoreUptoRow.holds Try.pinned (OpenSpec.upto copperMoreSpec)

/-- 'posserlaw02.CopperWider', WHERE WHAT IT READS IS OF BULK AT MOST 1048576: true; the input reads as it did. -/
def copperWiderUptoRow : OpenClaim := { program := "ytjbgmnpbpmljaaa", sum := "501bff4346594a055ff61b68dc31566c6dc2f560f51cf4d2342ecfd95d9ab78d", func := "posser/posserlaw02.CopperWider", spec := "copperWider", unfollowed := true, recurses := true, plainKeys := false, apart := false, narrowed := true }
def CopperWiderUptoSaid : Prop := copperWiderUptoRow.holds Try.pinned (OpenSpec.upto copperWiderSpec)

/-- 'posserlaw02.CopperKeeps', WHERE WHAT IT READS IS OF BULK AT MOST 1048576: true; the input reads as it did. -/
def copperKeepsUptoRow : OpenClaim := { program := "ytjbgmnpbpmljaaa", sum := "501bff4346594a055ff61b68dc31566c6dc2f560f51cf4d2342ecfd95d9ab78d", func := "posser/posserlaw02.CopperKeeps", spec := "copperKeeps", unfollowed := true, recurses := true, plainKeys := false, apart := false, narrowed := true }
def CopperKeepsUptoSaid : Prop := copperKeepsUptoRow.holds Try.pinned (OpenSpec.upto copperKeepsSpec)

/-- 'posserlaw02.CopperPromised', WHERE WHAT IT READS IS OF BULK AT MOST 1048576: true; the input reads as it did. -/
def copperPromisedUptoRow : OpenClaim := { program := "ytjbgmnpbpmljaaa", sum := "501bff4346594a055ff61b68dc31566c6dc2f560f51cf4d2342ecfd95d9ab78d", func := "posser/posserlaw02.CopperPromised", spec := "copperPromised", unfollowed := true, recurses := true, plainKeys := false, apart := false, narrowed := true }
def CopperPromisedUptoSaid : Prop := copperPromisedUptoRow.holds Try.pinned (OpenSpec.upto copperPromisedSpec)

/-- 'posserlaw02.CopperNoLess', WHERE WHAT IT READS IS OF BULK AT MOST 1048576: true; the input reads as it did. -/
def copperNoLessUptoRow : OpenClaim := { program := "ytjbgmnpbpmljaaa", sum := "501bff4346594a055ff61b68dc31566c6dc2f560f51cf4d2342ecfd95d9ab78d", func := "posser/posserlaw02.CopperNoLess", spec := "copperNoLess", unfollowed := true, recurses := true, plainKeys := false, apart := false, narrowed := true }
def CopperNoLessUptoSaid : Prop := copperNoLessUptoRow.holds Try.pinned (OpenSpec.upto copperNoLessSpec)

/-- 'posserlaw02.CopperNames', WHERE WHAT IT READS IS OF BULK AT MOST 1048576: true; the input reads as it did. -/
def copperNamesUptoRow : OpenClaim := { program := "ytjbgmnpbpmljaaa", sum := "501bff4346594a055ff61b68dc31566c6dc2f560f51cf4d2342ecfd95d9ab78d", func := "posser/posserlaw02.CopperNames", spec := "copperNames", unfollowed := true, recurses := true, plainKeys := false, apart := false, narrowed := true }
def CopperNamesUptoSaid : Prop := copperNamesUptoRow.holds Try.pinned (OpenSpec.upto copperNamesSpec)

end Rows
end Go.Proofs.Ytjbgmnpbpmljaaa
