/-
  No cell of these rows narrows 'for every input' (looked for: loops, veiled, ifaces, maps, wideKeys, modest, calm, conditions, laid).
  DERIVED. THE GIVEN ROWS OF THIS SEAT. 19 by the template 'for every input the law returns true; each argument reads behind the call as it read before'; 0 by the template 'total and deterministic' (their statements: YtjppikcigeiomaaGreatTotals.lean).
  GIVEN WITH THE SEED: the statements are not yours to turn. If you find one false, say at which input.
  Laid BY PROGRAM, IN A SANDBOX (cutbox-rows.mjs): the forced cells as the released guide's own fill.sh prints them over the translation e24c550c70b359d4… (all of the seat's roots in one cut). By AI agents, Wed Nov 11 2026. No macro, syntax, notation, axiom, sorry.
-/
import Derived.Test.YtjppikcigeiomaaGreatChecked
import GoSem.Claim
import GoSem.ClaimJoined
import GoSem.ClaimMapViews
import Derived.JoinedTies
import Derived.KernelRfl
namespace Go.Proofs.YtjppikcigeiomaaGreat
/- THE CELL 'sum', in the pinned program and in every row, IS THE sha256 OF THE DUMP (.gsa) THAT YtjppikcigeiomaaGreatProg.lean LOADS. Nothing in Lean hashes anything: it is a label: what it is worth is what the hold of that sum in a sandbox is worth. -/
noncomputable def Tryz.pinned : Pinned := { name := "ytjppikcigeiomaagreat", sum := "e24c550c70b359d46f90d46052d578415d7bae09412f59defcf8da83cc692e5f", checked := Tryz.checked }
namespace Rows
def none {H : Type} : Left H := { results := [], args := [] }

/-- 'posserlaw09.BathPlays': WHATEVER THE INPUT: true; the input reads as it did. -/
def bathPlaysSpec : ChangeSpec := { name := "bathPlays", fn := fun _ => fun
  | [d1, d2] => { results := [.lit (.bool true)], args := [d1, d2] }
  | _ => none }
def bathPlaysRow : OpenClaim := { program := "ytjppikcigeiomaagreat", sum := "e24c550c70b359d46f90d46052d578415d7bae09412f59defcf8da83cc692e5f", func := "posser/posserlaw09.BathPlays", spec := "bathPlays", unfollowed := true, recurses := true, plainKeys := false, apart := false }
def BathPlaysSaid : Prop := bathPlaysRow.holds Tryz.pinned (OpenSpec.ofChange bathPlaysSpec)

/-- ITS FALSE NEIGHBOUR: 'it returns false'. Refute it at one input. -/
def bathPlaysWrong : ChangeSpec := { name := "bathPlays", fn := fun _ => fun
  | [d1, d2] => { results := [.lit (.bool false)], args := [d1, d2] }
  | _ => none }
def BathPlaysWrongFalsely : Prop := bathPlaysRow.holds Tryz.pinned (OpenSpec.ofChange bathPlaysWrong)

/-- 'posserlaw09.BathPlans': WHATEVER THE INPUT: true; the input reads as it did. -/
def bathPlansSpec : ChangeSpec := { name := "bathPlans", fn := fun _ => fun
  | [d1, d2] => { results := [.lit (.bool true)], args := [d1, d2] }
  | _ => none }
def bathPlansRow : OpenClaim := { program := "ytjppikcigeiomaagreat", sum := "e24c550c70b359d46f90d46052d578415d7bae09412f59defcf8da83cc692e5f", func := "posser/posserlaw09.BathPlans", spec := "bathPlans", unfollowed := true, recurses := true, plainKeys := false, apart := false }
def BathPlansSaid : Prop := bathPlansRow.holds Tryz.pinned (OpenSpec.ofChange bathPlansSpec)

/-- ITS FALSE NEIGHBOUR: 'it returns false'. Refute it at one input. -/
def bathPlansWrong : ChangeSpec := { name := "bathPlans", fn := fun _ => fun
  | [d1, d2] => { results := [.lit (.bool false)], args := [d1, d2] }
  | _ => none }
def BathPlansWrongFalsely : Prop := bathPlansRow.holds Tryz.pinned (OpenSpec.ofChange bathPlansWrong)

/-- 'posserlaw09.BathGives': WHATEVER THE INPUT: true; the input reads as it did. -/
def bathGivesSpec : ChangeSpec := { name := "bathGives", fn := fun _ => fun
  | [d] => { results := [.lit (.bool true)], args := [d] }
  | _ => none }
def bathGivesRow : OpenClaim := { program := "ytjppikcigeiomaagreat", sum := "e24c550c70b359d46f90d46052d578415d7bae09412f59defcf8da83cc692e5f", func := "posser/posserlaw09.BathGives", spec := "bathGives", unfollowed := true, recurses := true, plainKeys := false, apart := false }
def BathGivesSaid : Prop := bathGivesRow.holds Tryz.pinned (OpenSpec.ofChange bathGivesSpec)

/-- ITS FALSE NEIGHBOUR: 'it returns false'. Refute it at one input. -/
def bathGivesWrong : ChangeSpec := { name := "bathGives", fn := fun _ => fun
  | [d] => { results := [.lit (.bool false)], args := [d] }
  | _ => none }
def BathGivesWrongFalsely : Prop := bathGivesRow.holds Tryz.pinned (OpenSpec.ofChange bathGivesWrong)

/-- 'posserlaw09.BathMost': WHATEVER THE INPUT: true; the input reads as it did. -/
def bathMostSpec : ChangeSpec := { name := "bathMost", fn := fun _ => fun
  | [d] => { results := [.lit (.bool true)], args := [d] }
  | _ => none }
def bathMostRow : OpenClaim := { program := "ytjppikcigeiomaagreat", sum := "e24c550c70b359d46f90d46052d578415d7bae09412f59defcf8da83cc692e5f", func := "posser/posserlaw09.BathMost", spec := "bathMost", unfollowed := true, recurses := true, plainKeys := false, apart := false }
def BathMostSaid : Prop := bathMostRow.holds Tryz.pinned (OpenSpec.ofChange bathMostSpec)

/-- ITS FALSE NEIGHBOUR: 'it returns false'. Refute it at one input. -/
def bathMostWrong : ChangeSpec := { name := "bathMost", fn := fun _ => fun
  | [d] => { results := [.lit (.bool false)], args := [d] }
  | _ => none }
def BathMostWrongFalsely : Prop := bathMostRow.holds Tryz.pinned (OpenSpec.ofChange bathMostWrong)

/-- 'posserlaw09.BathFree': WHATEVER THE INPUT: true; the input reads as it did. -/
def bathFreeSpec : ChangeSpec := { name := "bathFree", fn := fun _ => fun
  | [d1, d2, d3] => { results := [.lit (.bool true)], args := [d1, d2, d3] }
  | _ => none }
def bathFreeRow : OpenClaim := { program := "ytjppikcigeiomaagreat", sum := "e24c550c70b359d46f90d46052d578415d7bae09412f59defcf8da83cc692e5f", func := "posser/posserlaw09.BathFree", spec := "bathFree", unfollowed := true, recurses := true, plainKeys := false, apart := false }
def BathFreeSaid : Prop := bathFreeRow.holds Tryz.pinned (OpenSpec.ofChange bathFreeSpec)

/-- ITS FALSE NEIGHBOUR: 'it returns false'. Refute it at one input. -/
def bathFreeWrong : ChangeSpec := { name := "bathFree", fn := fun _ => fun
  | [d1, d2, d3] => { results := [.lit (.bool false)], args := [d1, d2, d3] }
  | _ => none }
def BathFreeWrongFalsely : Prop := bathFreeRow.holds Tryz.pinned (OpenSpec.ofChange bathFreeWrong)

/-- 'posserlaw09.BathCoal': WHATEVER THE INPUT: true; the input reads as it did. -/
def bathCoalSpec : ChangeSpec := { name := "bathCoal", fn := fun _ => fun
  | [d1, d2] => { results := [.lit (.bool true)], args := [d1, d2] }
  | _ => none }
def bathCoalRow : OpenClaim := { program := "ytjppikcigeiomaagreat", sum := "e24c550c70b359d46f90d46052d578415d7bae09412f59defcf8da83cc692e5f", func := "posser/posserlaw09.BathCoal", spec := "bathCoal", unfollowed := true, recurses := true, plainKeys := false, apart := false }
def BathCoalSaid : Prop := bathCoalRow.holds Tryz.pinned (OpenSpec.ofChange bathCoalSpec)

/-- ITS FALSE NEIGHBOUR: 'it returns false'. Refute it at one input. -/
def bathCoalWrong : ChangeSpec := { name := "bathCoal", fn := fun _ => fun
  | [d1, d2] => { results := [.lit (.bool false)], args := [d1, d2] }
  | _ => none }
def BathCoalWrongFalsely : Prop := bathCoalRow.holds Tryz.pinned (OpenSpec.ofChange bathCoalWrong)

/-- 'posserlaw09.BathGiven': WHATEVER THE INPUT: true; the input reads as it did. -/
def bathGivenSpec : ChangeSpec := { name := "bathGiven", fn := fun _ => fun
  | [d1, d2] => { results := [.lit (.bool true)], args := [d1, d2] }
  | _ => none }
def bathGivenRow : OpenClaim := { program := "ytjppikcigeiomaagreat", sum := "e24c550c70b359d46f90d46052d578415d7bae09412f59defcf8da83cc692e5f", func := "posser/posserlaw09.BathGiven", spec := "bathGiven", unfollowed := true, recurses := true, plainKeys := false, apart := false }
def BathGivenSaid : Prop := bathGivenRow.holds Tryz.pinned (OpenSpec.ofChange bathGivenSpec)

/-- ITS FALSE NEIGHBOUR: 'it returns false'. Refute it at one input. -/
def bathGivenWrong : ChangeSpec := { name := "bathGiven", fn := fun _ => fun
  | [d1, d2] => { results := [.lit (.bool false)], args := [d1, d2] }
  | _ => none }
def BathGivenWrongFalsely : Prop := bathGivenRow.holds Tryz.pinned (OpenSpec.ofChange bathGivenWrong)

/-- 'posserlaw09.BathNoMore': WHATEVER THE INPUT: true; the input reads as it did. -/
def bathNoMoreSpec : ChangeSpec := { name := "bathNoMore", fn := fun _ => fun
  | [d1, d2] => { results := [.lit (.bool true)], args := [d1, d2] }
  | _ => none }
def bathNoMoreRow : OpenClaim := { program := "ytjppikcigeiomaagreat", sum := "e24c550c70b359d46f90d46052d578415d7bae09412f59defcf8da83cc692e5f", func := "posser/posserlaw09.BathNoMore", spec := "bathNoMore", unfollowed := true, recurses := true, plainKeys := false, apart := false }
def BathNoMoreSaid : Prop := bathNoMoreRow.holds Tryz.pinned (OpenSpec.ofChange bathNoMoreSpec)

/-- ITS FALSE NEIGHBOUR: 'it returns false'. Refute it at one input. -/
def bathNoMoreWrong : ChangeSpec := { name := "bathNoMore", fn := fun _ => fun
  | [d1, d2] => { results := [.lit (.bool false)], args := [d1, d2] }
  | _ => none }
def BathNoMoreWrongFalsely : Prop := bathNoMoreRow.holds Tryz.pinned (OpenSpec.ofChange bathNoMoreWrong)

/-- 'posserlaw09.BathKeeps': WHATEVER THE INPUT: true; the input reads as it did. -/
def bathKeepsSpec : ChangeSpec := { name := "bathKeeps", fn := fun _ => fun
  | [d1, d2] => { results := [.lit (.bool true)], args := [d1, d2] }
  | _ => none }
def bathKeepsRow : OpenClaim := { program := "ytjppikcigeiomaagreat", sum := "e24c550c70b359d46f90d46052d578415d7bae09412f59defcf8da83cc692e5f", func := "posser/posserlaw09.BathKeeps", spec := "bathKeeps", unfollowed := true, recurses := true, plainKeys := false, apart := false }
def BathKeepsSaid : Prop := bathKeepsRow.holds Tryz.pinned (OpenSpec.ofChange bathKeepsSpec)

/-- ITS FALSE NEIGHBOUR: 'it returns false'. Refute it at one input. -/
def bathKeepsWrong : ChangeSpec := { name := "bathKeeps", fn := fun _ => fun
  | [d1, d2] => { results := [.lit (.bool false)], args := [d1, d2] }
  | _ => none }
def BathKeepsWrongFalsely : Prop := bathKeepsRow.holds Tryz.pinned (OpenSpec.ofChange bathKeepsWrong)

/-- 'posserlaw09.BathNoEarlier': WHATEVER THE INPUT: true; the input reads as it did. -/
def bathNoEarlierSpec : ChangeSpec := { name := "bathNoEarlier", fn := fun _ => fun
  | [d1, d2, d3] => { results := [.lit (.bool true)], args := [d1, d2, d3] }
  | _ => none }
def bathNoEarlierRow : OpenClaim := { program := "ytjppikcigeiomaagreat", sum := "e24c550c70b359d46f90d46052d578415d7bae09412f59defcf8da83cc692e5f", func := "posser/posserlaw09.BathNoEarlier", spec := "bathNoEarlier", unfollowed := true, recurses := true, plainKeys := false, apart := false }
def BathNoEarlierSaid : Prop := bathNoEarlierRow.holds Tryz.pinned (OpenSpec.ofChange bathNoEarlierSpec)

/-- ITS FALSE NEIGHBOUR: 'it returns false'. Refute it at one input. -/
def bathNoEarlierWrong : ChangeSpec := { name := "bathNoEarlier", fn := fun _ => fun
  | [d1, d2, d3] => { results := [.lit (.bool false)], args := [d1, d2, d3] }
  | _ => none }
def BathNoEarlierWrongFalsely : Prop := bathNoEarlierRow.holds Tryz.pinned (OpenSpec.ofChange bathNoEarlierWrong)

/-- 'posserlaw09.BathFewer': WHATEVER THE INPUT: true; the input reads as it did. -/
def bathFewerSpec : ChangeSpec := { name := "bathFewer", fn := fun _ => fun
  | [d1, d2, d3] => { results := [.lit (.bool true)], args := [d1, d2, d3] }
  | _ => none }
def bathFewerRow : OpenClaim := { program := "ytjppikcigeiomaagreat", sum := "e24c550c70b359d46f90d46052d578415d7bae09412f59defcf8da83cc692e5f", func := "posser/posserlaw09.BathFewer", spec := "bathFewer", unfollowed := true, recurses := true, plainKeys := false, apart := false }
def BathFewerSaid : Prop := bathFewerRow.holds Tryz.pinned (OpenSpec.ofChange bathFewerSpec)

/-- ITS FALSE NEIGHBOUR: 'it returns false'. Refute it at one input. -/
def bathFewerWrong : ChangeSpec := { name := "bathFewer", fn := fun _ => fun
  | [d1, d2, d3] => { results := [.lit (.bool false)], args := [d1, d2, d3] }
  | _ => none }
def BathFewerWrongFalsely : Prop := bathFewerRow.holds Tryz.pinned (OpenSpec.ofChange bathFewerWrong)

/-- 'posserlaw09.BathMoreIn': WHATEVER THE INPUT: true; the input reads as it did. -/
def bathMoreInSpec : ChangeSpec := { name := "bathMoreIn", fn := fun _ => fun
  | [d1, d2, d3] => { results := [.lit (.bool true)], args := [d1, d2, d3] }
  | _ => none }
def bathMoreInRow : OpenClaim := { program := "ytjppikcigeiomaagreat", sum := "e24c550c70b359d46f90d46052d578415d7bae09412f59defcf8da83cc692e5f", func := "posser/posserlaw09.BathMoreIn", spec := "bathMoreIn", unfollowed := true, recurses := true, plainKeys := false, apart := false }
def BathMoreInSaid : Prop := bathMoreInRow.holds Tryz.pinned (OpenSpec.ofChange bathMoreInSpec)

/-- ITS FALSE NEIGHBOUR: 'it returns false'. Refute it at one input. -/
def bathMoreInWrong : ChangeSpec := { name := "bathMoreIn", fn := fun _ => fun
  | [d1, d2, d3] => { results := [.lit (.bool false)], args := [d1, d2, d3] }
  | _ => none }
def BathMoreInWrongFalsely : Prop := bathMoreInRow.holds Tryz.pinned (OpenSpec.ofChange bathMoreInWrong)

/-- 'posserlaw09.BathLonger': WHATEVER THE INPUT: true; the input reads as it did. -/
def bathLongerSpec : ChangeSpec := { name := "bathLonger", fn := fun _ => fun
  | [d1, d2, d3] => { results := [.lit (.bool true)], args := [d1, d2, d3] }
  | _ => none }
def bathLongerRow : OpenClaim := { program := "ytjppikcigeiomaagreat", sum := "e24c550c70b359d46f90d46052d578415d7bae09412f59defcf8da83cc692e5f", func := "posser/posserlaw09.BathLonger", spec := "bathLonger", unfollowed := true, recurses := true, plainKeys := false, apart := false }
def BathLongerSaid : Prop := bathLongerRow.holds Tryz.pinned (OpenSpec.ofChange bathLongerSpec)

/-- ITS FALSE NEIGHBOUR: 'it returns false'. Refute it at one input. -/
def bathLongerWrong : ChangeSpec := { name := "bathLonger", fn := fun _ => fun
  | [d1, d2, d3] => { results := [.lit (.bool false)], args := [d1, d2, d3] }
  | _ => none }
def BathLongerWrongFalsely : Prop := bathLongerRow.holds Tryz.pinned (OpenSpec.ofChange bathLongerWrong)

/-- 'posserlaw09.BathKnown': WHATEVER THE INPUT: true; the input reads as it did. -/
def bathKnownSpec : ChangeSpec := { name := "bathKnown", fn := fun _ => fun
  | [d1, d2, d3] => { results := [.lit (.bool true)], args := [d1, d2, d3] }
  | _ => none }
def bathKnownRow : OpenClaim := { program := "ytjppikcigeiomaagreat", sum := "e24c550c70b359d46f90d46052d578415d7bae09412f59defcf8da83cc692e5f", func := "posser/posserlaw09.BathKnown", spec := "bathKnown", unfollowed := true, recurses := true, plainKeys := false, apart := false }
def BathKnownSaid : Prop := bathKnownRow.holds Tryz.pinned (OpenSpec.ofChange bathKnownSpec)

/-- ITS FALSE NEIGHBOUR: 'it returns false'. Refute it at one input. -/
def bathKnownWrong : ChangeSpec := { name := "bathKnown", fn := fun _ => fun
  | [d1, d2, d3] => { results := [.lit (.bool false)], args := [d1, d2, d3] }
  | _ => none }
def BathKnownWrongFalsely : Prop := bathKnownRow.holds Tryz.pinned (OpenSpec.ofChange bathKnownWrong)

/-- 'posserlaw09.BathCheap': WHATEVER THE INPUT: true; the input reads as it did. -/
def bathCheapSpec : ChangeSpec := { name := "bathCheap", fn := fun _ => fun
  | [d1, d2, d3] => { results := [.lit (.bool true)], args := [d1, d2, d3] }
  | _ => none }
def bathCheapRow : OpenClaim := { program := "ytjppikcigeiomaagreat", sum := "e24c550c70b359d46f90d46052d578415d7bae09412f59defcf8da83cc692e5f", func := "posser/posserlaw09.BathCheap", spec := "bathCheap", unfollowed := true, recurses := true, plainKeys := false, apart := false }
def BathCheapSaid : Prop := bathCheapRow.holds Tryz.pinned (OpenSpec.ofChange bathCheapSpec)

/-- ITS FALSE NEIGHBOUR: 'it returns false'. Refute it at one input. -/
def bathCheapWrong : ChangeSpec := { name := "bathCheap", fn := fun _ => fun
  | [d1, d2, d3] => { results := [.lit (.bool false)], args := [d1, d2, d3] }
  | _ => none }
def BathCheapWrongFalsely : Prop := bathCheapRow.holds Tryz.pinned (OpenSpec.ofChange bathCheapWrong)

/-- 'posserlaw09.BathOrder': WHATEVER THE INPUT: true; the input reads as it did. -/
def bathOrderSpec : ChangeSpec := { name := "bathOrder", fn := fun _ => fun
  | [d1, d2, d3, d4] => { results := [.lit (.bool true)], args := [d1, d2, d3, d4] }
  | _ => none }
def bathOrderRow : OpenClaim := { program := "ytjppikcigeiomaagreat", sum := "e24c550c70b359d46f90d46052d578415d7bae09412f59defcf8da83cc692e5f", func := "posser/posserlaw09.BathOrder", spec := "bathOrder", unfollowed := true, recurses := true, plainKeys := false, apart := false }
def BathOrderSaid : Prop := bathOrderRow.holds Tryz.pinned (OpenSpec.ofChange bathOrderSpec)

/-- ITS FALSE NEIGHBOUR: 'it returns false'. Refute it at one input. -/
def bathOrderWrong : ChangeSpec := { name := "bathOrder", fn := fun _ => fun
  | [d1, d2, d3, d4] => { results := [.lit (.bool false)], args := [d1, d2, d3, d4] }
  | _ => none }
def BathOrderWrongFalsely : Prop := bathOrderRow.holds Tryz.pinned (OpenSpec.ofChange bathOrderWrong)

/-- 'posserlaw09.BathTruth': WHATEVER THE INPUT: true; the input reads as it did. -/
def bathTruthSpec : ChangeSpec := { name := "bathTruth", fn := fun _ => fun
  | [d1, d2, d3] => { results := [.lit (.bool true)], args := [d1, d2, d3] }
  | _ => none }
def bathTruthRow : OpenClaim := { program := "ytjppikcigeiomaagreat", sum := "e24c550c70b359d46f90d46052d578415d7bae09412f59defcf8da83cc692e5f", func := "posser/posserlaw09.BathTruth", spec := "bathTruth", unfollowed := true, recurses := true, plainKeys := false, apart := false }
def BathTruthSaid : Prop := bathTruthRow.holds Tryz.pinned (OpenSpec.ofChange bathTruthSpec)

/-- ITS FALSE NEIGHBOUR: 'it returns false'. Refute it at one input. -/
def bathTruthWrong : ChangeSpec := { name := "bathTruth", fn := fun _ => fun
  | [d1, d2, d3] => { results := [.lit (.bool false)], args := [d1, d2, d3] }
  | _ => none }
def BathTruthWrongFalsely : Prop := bathTruthRow.holds Tryz.pinned (OpenSpec.ofChange bathTruthWrong)

/-- 'possertop.TopBathed': WHATEVER THE INPUT: true; the input reads as it did. -/
def topBathedSpec : ChangeSpec := { name := "topBathed", fn := fun _ => fun
  | [d1, d2, d3] => { results := [.lit (.bool true)], args := [d1, d2, d3] }
  | _ => none }
def topBathedRow : OpenClaim := { program := "ytjppikcigeiomaagreat", sum := "e24c550c70b359d46f90d46052d578415d7bae09412f59defcf8da83cc692e5f", func := "posser/possertop.TopBathed", spec := "topBathed", unfollowed := true, recurses := true, plainKeys := false, apart := false }
def TopBathedSaid : Prop := topBathedRow.holds Tryz.pinned (OpenSpec.ofChange topBathedSpec)

/-- ITS FALSE NEIGHBOUR: 'it returns false'. Refute it at one input. -/
def topBathedWrong : ChangeSpec := { name := "topBathed", fn := fun _ => fun
  | [d1, d2, d3] => { results := [.lit (.bool false)], args := [d1, d2, d3] }
  | _ => none }
def TopBathedWrongFalsely : Prop := topBathedRow.holds Tryz.pinned (OpenSpec.ofChange topBathedWrong)

/-- 'possertop.TopStoked': WHATEVER THE INPUT: true; the input reads as it did. -/
def topStokedSpec : ChangeSpec := { name := "topStoked", fn := fun _ => fun
  | [d1, d2, d3, d4] => { results := [.lit (.bool true)], args := [d1, d2, d3, d4] }
  | _ => none }
def topStokedRow : OpenClaim := { program := "ytjppikcigeiomaagreat", sum := "e24c550c70b359d46f90d46052d578415d7bae09412f59defcf8da83cc692e5f", func := "posser/possertop.TopStoked", spec := "topStoked", unfollowed := true, recurses := true, plainKeys := false, apart := false }
def TopStokedSaid : Prop := topStokedRow.holds Tryz.pinned (OpenSpec.ofChange topStokedSpec)

/-- ITS FALSE NEIGHBOUR: 'it returns false'. Refute it at one input. -/
def topStokedWrong : ChangeSpec := { name := "topStoked", fn := fun _ => fun
  | [d1, d2, d3, d4] => { results := [.lit (.bool false)], args := [d1, d2, d3, d4] }
  | _ => none }
def TopStokedWrongFalsely : Prop := topStokedRow.holds Tryz.pinned (OpenSpec.ofChange topStokedWrong)

/- THE SECOND FORM. 'bulk': how many values and letters a reading holds, each counted each time it is reached (what is shared counts as often as it is met; a slice's spare places count too). A statement '..UptoSaid' is the law's where the arguments, and the package variables that the reading takes, are together of bulk at most 1048576: NARROWER than '..Said'. Prove '..Said' where nothing that the law and all that it calls make is longer than what came in: it says more and counts as full. Else prove '..UptoSaid'. A law counts once. -/
mutual
def uptoBulk {H : Type} : DataW H → Nat
  | .lit (.string bytes) => bytes.length + 1
  | .lit _ => 1
  | .nil => 1
  | .ptr d => uptoBulk d + 1
  | .slice elems spare => uptoBulkAll elems + uptoBulkAll spare + 1
  | .agg parts => uptoBulkAll parts + 1
  | .iface _ d => uptoBulk d + 1
  | .map entries => uptoBulkEntries entries + 1
  | .held _ => 1
def uptoBulkAll {H : Type} : List (DataW H) → Nat
  | [] => 0
  | d :: r => uptoBulk d + uptoBulkAll r
def uptoBulkEntries {H : Type} : List (Lit × DataW H) → Nat
  | [] => 0
  | x :: r => uptoBulkEntry x + uptoBulkEntries r
def uptoBulkEntry {H : Type} : Lit × DataW H → Nat
  | (.string bytes, d) => bytes.length + uptoBulk d + 1
  | (_, d) => uptoBulk d + 1
 end
def uptoSmall : (H : Type) → List (DataW H) → Bool := fun _ ds => decide (uptoBulkAll ds ≤ 1048576)
def OpenSpec.upto (s : _root_.Go.ChangeSpec) : _root_.Go.OpenSpec := { _root_.Go.OpenSpec.ofChange s with cond := some uptoSmall }

/-- 'posserlaw09.BathPlays', WHERE WHAT IT READS IS OF BULK AT MOST 1048576: true; the input reads as it did. -/
def bathPlaysUptoRow : OpenClaim := { program := "ytjppikcigeiomaagreat", sum := "e24c550c70b359d46f90d46052d578415d7bae09412f59defcf8da83cc692e5f", func := "posser/posserlaw09.BathPlays", spec := "bathPlays", unfollowed := true, recurses := true, plainKeys := false, apart := false, narrowed := true }
def BathPlaysUptoSaid : Prop := bathPlaysUptoRow.holds Tryz.pinned (OpenSpec.upto bathPlaysSpec)

/-- 'posserlaw09.BathPlans', WHERE WHAT IT READS IS OF BULK AT MOST 1048576: true; the input reads as it did. -/
def bathPlansUptoRow : OpenClaim := { program := "ytjppikcigeiomaagreat", sum := "e24c550c70b359d46f90d46052d578415d7bae09412f59defcf8da83cc692e5f", func := "posser/posserlaw09.BathPlans", spec := "bathPlans", unfollowed := true, recurses := true, plainKeys := false, apart := false, narrowed := true }
def BathPlansUptoSaid : Prop := bathPlansUptoRow.holds Tryz.pinned (OpenSpec.upto bathPlansSpec)

/-- 'posserlaw09.BathGives', WHERE WHAT IT READS IS OF BULK AT MOST 1048576: true; the input reads as it did. -/
def bathGivesUptoRow : OpenClaim := { program := "ytjppikcigeiomaagreat", sum := "e24c550c70b359d46f90d46052d578415d7bae09412f59defcf8da83cc692e5f", func := "posser/posserlaw09.BathGives", spec := "bathGives", unfollowed := true, recurses := true, plainKeys := false, apart := false, narrowed := true }
def BathGivesUptoSaid : Prop := bathGivesUptoRow.holds Tryz.pinned (OpenSpec.upto bathGivesSpec)

/-- 'posserlaw09.BathMost', WHERE WHAT IT READS IS OF BULK AT MOST 1048576: true; the input reads as it did. -/
def bathMostUptoRow : OpenClaim := { program := "ytjppikcigeiomaagreat", sum := "e24c550c70b359d46f90d46052d578415d7bae09412f59defcf8da83cc692e5f", func := "posser/posserlaw09.BathMost", spec := "bathMost", unfollowed := true, recurses := true, plainKeys := false, apart := false, narrowed := true }
def BathMostUptoSaid : Prop := bathMostUptoRow.holds Tryz.pinned (OpenSpec.upto bathMostSpec)

/-- 'posserlaw09.BathFree', WHERE WHAT IT READS IS OF BULK AT MOST 1048576: true; the input reads as it did. -/
def bathFreeUptoRow : OpenClaim := { program := "ytjppikcigeiomaagreat", sum := "e24c550c70b359d46f90d46052d578415d7bae09412f59defcf8da83cc692e5f", func := "posser/posserlaw09.BathFree", spec := "bathFree", unfollowed := true, recurses := true, plainKeys := false, apart := false, narrowed := true }
def BathFreeUptoSaid : Prop := bathFreeUptoRow.holds Tryz.pinned (OpenSpec.upto bathFreeSpec)

/-- 'posserlaw09.BathCoal', WHERE WHAT IT READS IS OF BULK AT MOST 1048576: true; the input reads as it did. -/
def bathCoalUptoRow : OpenClaim := { program := "ytjppikcigeiomaagreat", sum := "e24c550c70b359d46f90d46052d578415d7bae09412f59defcf8da83cc692e5f", func := "posser/posserlaw09.BathCoal", spec := "bathCoal", unfollowed := true, recurses := true, plainKeys := false, apart := false, narrowed := true }
def BathCoalUptoSaid : Prop := bathCoalUptoRow.holds Tryz.pinned (OpenSpec.upto bathCoalSpec)

/-- 'posserlaw09.BathGiven', WHERE WHAT IT READS IS OF BULK AT MOST 1048576: true; the input reads as it did. -/
def bathGivenUptoRow : OpenClaim := { program := "ytjppikcigeiomaagreat", sum := "e24c550c70b359d46f90d46052d578415d7bae09412f59defcf8da83cc692e5f", func := "posser/posserlaw09.BathGiven", spec := "bathGiven", unfollowed := true, recurses := true, plainKeys := false, apart := false, narrowed := true }
def BathGivenUptoSaid : Prop := bathGivenUptoRow.holds Tryz.pinned (OpenSpec.upto bathGivenSpec)

/-- 'posserlaw09.BathNoMore', WHERE WHAT IT READS IS OF BULK AT MOST 1048576: true; the input reads as it did. -/
def bathNoMoreUptoRow : OpenClaim := { program := "ytjppikcigeiomaagreat", sum := "e24c550c70b359d46f90d46052d578415d7bae09412f59defcf8da83cc692e5f", func := "posser/posserlaw09.BathNoMore", spec := "bathNoMore", unfollowed := true, recurses := true, plainKeys := false, apart := false, narrowed := true }
def BathNoMoreUptoSaid : Prop := bathNoMoreUptoRow.holds Tryz.pinned (OpenSpec.upto bathNoMoreSpec)

/-- 'posserlaw09.BathKeeps', WHERE WHAT IT READS IS OF BULK AT MOST 1048576: true; the input reads as it did. -/
def bathKeepsUptoRow : OpenClaim := { program := "ytjppikcigeiomaagreat", sum := "e24c550c70b359d46f90d46052d578415d7bae09412f59defcf8da83cc692e5f", func := "posser/posserlaw09.BathKeeps", spec := "bathKeeps", unfollowed := true, recurses := true, plainKeys := false, apart := false, narrowed := true }
def BathKeepsUptoSaid : Prop := bathKeepsUptoRow.holds Tryz.pinned (OpenSpec.upto bathKeepsSpec)

/-- 'posserlaw09.BathNoEarlier', WHERE WHAT IT READS IS OF BULK AT MOST 1048576: true; the input reads as it did. -/
def bathNoEarlierUptoRow : OpenClaim := { program := "ytjppikcigeiomaagreat", sum := "e24c550c70b359d46f90d46052d578415d7bae09412f59defcf8da83cc692e5f", func := "posser/posserlaw09.BathNoEarlier", spec := "bathNoEarlier", unfollowed := true, recurses := true, plainKeys := false, apart := false, narrowed := true }
def BathNoEarlierUptoSaid : Prop := bathNoEarlierUptoRow.holds Tryz.pinned (OpenSpec.upto bathNoEarlierSpec)

/-- 'posserlaw09.BathFewer', WHERE WHAT IT READS IS OF BULK AT MOST 1048576: true; the input reads as it did. -/
def bathFewerUptoRow : OpenClaim := { program := "ytjppikcigeiomaagreat", sum := "e24c550c70b359d46f90d46052d578415d7bae09412f59defcf8da83cc692e5f", func := "posser/posserlaw09.BathFewer", spec := "bathFewer", unfollowed := true, recurses := true, plainKeys := false, apart := false, narrowed := true }
def BathFewerUptoSaid : Prop := bathFewerUptoRow.holds Tryz.pinned (OpenSpec.upto bathFewerSpec)

/-- 'posserlaw09.BathMoreIn', WHERE WHAT IT READS IS OF BULK AT MOST 1048576: true; the input reads as it did. -/
def bathMoreInUptoRow : OpenClaim := { program := "ytjppikcigeiomaagreat", sum := "e24c550c70b359d46f90d46052d578415d7bae09412f59defcf8da83cc692e5f", func := "posser/posserlaw09.BathMoreIn", spec := "bathMoreIn", unfollowed := true, recurses := true, plainKeys := false, apart := false, narrowed := true }
def BathMoreInUptoSaid : Prop := bathMoreInUptoRow.holds Tryz.pinned (OpenSpec.upto bathMoreInSpec)

/-- 'posserlaw09.BathLonger', WHERE WHAT IT READS IS OF BULK AT MOST 1048576: true; the input reads as it did. -/
def bathLongerUptoRow : OpenClaim := { program := "ytjppikcigeiomaagreat", sum := "e24c550c70b359d46f90d46052d578415d7bae09412f59defcf8da83cc692e5f", func := "posser/posserlaw09.BathLonger", spec := "bathLonger", unfollowed := true, recurses := true, plainKeys := false, apart := false, narrowed := true }
def BathLongerUptoSaid : Prop := bathLongerUptoRow.holds Tryz.pinned (OpenSpec.upto bathLongerSpec)

/-- 'posserlaw09.BathKnown', WHERE WHAT IT READS IS OF BULK AT MOST 1048576: true; the input reads as it did. -/
def bathKnownUptoRow : OpenClaim := { program := "ytjppikcigeiomaagreat", sum := "e24c550c70b359d46f90d46052d578415d7bae09412f59defcf8da83cc692e5f", func := "posser/posserlaw09.BathKnown", spec := "bathKnown", unfollowed := true, recurses := true, plainKeys := false, apart := false, narrowed := true }
def BathKnownUptoSaid : Prop := bathKnownUptoRow.holds Tryz.pinned (OpenSpec.upto bathKnownSpec)

/-- 'posserlaw09.BathCheap', WHERE WHAT IT READS IS OF BULK AT MOST 1048576: true; the input reads as it did. -/
def bathCheapUptoRow : OpenClaim := { program := "ytjppikcigeiomaagreat", sum := "e24c550c70b359d46f90d46052d578415d7bae09412f59defcf8da83cc692e5f", func := "posser/posserlaw09.BathCheap", spec := "bathCheap", unfollowed := true, recurses := true, plainKeys := false, apart := false, narrowed := true }
def BathCheapUptoSaid : Prop := bathCheapUptoRow.holds Tryz.pinned (OpenSpec.upto bathCheapSpec)

/-- 'posserlaw09.BathOrder', WHERE WHAT IT READS IS OF BULK AT MOST 1048576: true; the input reads as it did. -/
def bathOrderUptoRow : OpenClaim := { program := "ytjppikcigeiomaagreat", sum := "e24c550c70b359d46f90d46052d578415d7bae09412f59defcf8da83cc692e5f", func := "posser/posserlaw09.BathOrder", spec := "bathOrder", unfollowed := true, recurses := true, plainKeys := false, apart := false, narrowed := true }
def BathOrderUptoSaid : Prop := bathOrderUptoRow.holds Tryz.pinned (OpenSpec.upto bathOrderSpec)

/-- 'posserlaw09.BathTruth', WHERE WHAT IT READS IS OF BULK AT MOST 1048576: true; the input reads as it did. -/
def bathTruthUptoRow : OpenClaim := { program := "ytjppikcigeiomaagreat", sum := "e24c550c70b359d46f90d46052d578415d7bae09412f59defcf8da83cc692e5f", func := "posser/posserlaw09.BathTruth", spec := "bathTruth", unfollowed := true, recurses := true, plainKeys := false, apart := false, narrowed := true }
def BathTruthUptoSaid : Prop := bathTruthUptoRow.holds Tryz.pinned (OpenSpec.upto bathTruthSpec)

/-- 'possertop.TopBathed', WHERE WHAT IT READS IS OF BULK AT MOST 1048576: true; the input reads as it did. -/
def topBathedUptoRow : OpenClaim := { program := "ytjppikcigeiomaagreat", sum := "e24c550c70b359d46f90d46052d578415d7bae09412f59defcf8da83cc692e5f", func := "posser/possertop.TopBathed", spec := "topBathed", unfollowed := true, recurses := true, plainKeys := false, apart := false, narrowed := true }
def TopBathedUptoSaid : Prop := topBathedUptoRow.holds Tryz.pinned (OpenSpec.upto topBathedSpec)

/-- 'possertop.TopStoked', WHERE WHAT IT READS IS OF BULK AT MOST 1048576: true; the input reads as it did. -/
def topStokedUptoRow : OpenClaim := { program := "ytjppikcigeiomaagreat", sum := "e24c550c70b359d46f90d46052d578415d7bae09412f59defcf8da83cc692e5f", func := "posser/possertop.TopStoked", spec := "topStoked", unfollowed := true, recurses := true, plainKeys := false, apart := false, narrowed := true }
def TopStokedUptoSaid : Prop := topStokedUptoRow.holds Tryz.pinned (OpenSpec.upto topStokedSpec)

end Rows
end Go.Proofs.YtjppikcigeiomaaGreat
