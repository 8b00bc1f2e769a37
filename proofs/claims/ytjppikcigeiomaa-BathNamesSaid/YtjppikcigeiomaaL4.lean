import Derived.Test.YtjppikcigeiomaaRows
import Derived.Test.YtjppikcigeiomaaChecked
import Derived.KernelRfl
import Derived.JoinedOf
import Derived.WalkKit
import Derived.ProofKit
import Derived.OpenShut
import Derived.ShutString
import Derived.ChangeOld
import Derived.Below
set_option linter.unusedVariables false
set_option maxRecDepth 100000
namespace Go.Proofs.Ytjppikcigeiomaa
open Go.ChangeShapes Go.WideShapes Go.ChangeAt Go.RowKit
/-! ### facts on the whole program, each for itself: together they are too much for the kernel's memory -/
theorem own : ownKnob Try.prog.godebug = none := by kernel_rfl
theorem laidOut : laidOutB Try.prog = true := by kernel_rfl
theorem fMaps : mapsRowed Try.prog = true := by kernel_rfl
theorem fKeys : Try.prog.plainKeys = false := by kernel_rfl
theorem fHeard : Try.prog.stopsHeard = true := by kernel_rfl
theorem fEnter : Try.prog.mayEnter = true := by kernel_rfl
end Go.Proofs.Ytjppikcigeiomaa
