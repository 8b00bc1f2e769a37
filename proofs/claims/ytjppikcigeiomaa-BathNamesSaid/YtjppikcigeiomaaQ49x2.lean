/-
The Go law BathNames returns true for every input, and its arguments read behind the call as they read before. Conditions: none.
-/
import Derived.Test.YtjppikcigeiomaaQ49x1
import Derived.Test.YtjppikcigeiomaaB3
import Derived.Test.YtjppikcigeiomaaL4
set_option linter.unusedVariables false
set_option maxRecDepth 100000
namespace Go.Proofs.Ytjppikcigeiomaa
open Go.ChangeShapes Go.WideShapes Go.ChangeAt Go.RowKit Go.Vm
theorem fIn : Try.prog.inPlace 3 = Rows.bathNamesRow.inPlace := by kernel_rfl
theorem fUn : Try.prog.unfollowed 3 = Rows.bathNamesRow.unfollowed := by kernel_rfl
theorem fRe : Try.prog.recurses 3 = Rows.bathNamesRow.recurses := by kernel_rfl
theorem fVn : Try.prog.varsNamed 3 = Rows.bathNamesRow.named := by kernel_rfl
theorem fLf : Try.prog.liftsFinal = Rows.bathNamesRow.lifted := by kernel_rfl
theorem fMk : Try.prog.make = some Rows.bathNamesRow.make := by kernel_rfl
theorem closed : joinedFacts Try.prog 3 Try.f3 Rows.bathNamesSpec Rows.bathNamesRow = true := by
  unfold joinedFacts
  rw [fIn, fUn, fRe, fVn, laidOut, fMaps, fKeys, fHeard, fEnter, fLf, fMk]
  kernel_rfl
theorem walk  : Vm.Fn Try.prog 3 [] [] fun v h' => v = .bool true := l_BathNames
theorem lifted (os : Os) (started : os.Started) (H : Type) (enc : TypeId × Value → H) :
    ReturnsInHanded {} Try.checked os 3 .any (Rows.bathNamesSpec.pre6 enc Try.prog Try.f3 Rows.bathNamesRow.domain false) (Rows.bathNamesSpec.post enc Try.prog Try.f3 false true false false) := by
  refine returnsInHanded_of_change (C := Try.checked) own started (by kernel_rfl) Try.func3
    (ChangeSpec.witness6 (enc := enc) (C := Try.checked) false ⟨#[], #[], []⟩ 8 (by kernel_rfl) (by kernel_rfl) (by kernel_rfl) (by kernel_rfl)) ?_
  intro W base args ds gs before hval0 hW hcnd _
  have hval : ∀ (j : Nat) t v, Try.f3.params[j]? = some t → args[j]? = some v → Value.okWide Try.prog W .any base t v := hval0
  have hW' := hW
  obtain ⟨p, q, hA0, hV, rfl, hfz, hnd⟩ := hW
  have hA : DataW.TrodAll enc Try.prog W 0 (fun _ => true) true Try.f3.params.toList args.toList ds p := hA0
  rw [Try.params3] at hA hval
  obtain ⟨hnil, rfl, rfl⟩ := trodAll_nil hA
  obtain rfl : args = #[] := Array.ext' hnil
  obtain ⟨rfl, rfl⟩ := trodVars_none hV
  clear hA0 hval0
  refine (calls_of_fn (walk ) VRL.nil).mono fun e W' ⟨he, bel⟩ => ?_
  subst he
  exact ⟨_, rfl, _, _, _, [], _, [], hW', trodAll_mk1 (shut_bool Try.underlying4 _), trodAll_mk0, rfl, bel.frame _, fun h => by cases h⟩
theorem over : Rows.bathNamesRow.holds Try.pinned (OpenSpec.ofChange Rows.bathNamesSpec) :=
  OpenClaim.holds_of_wide 3 Try.f3 rfl rfl rfl rfl rfl rfl rfl ⟨rfl, rfl, rfl, rfl, rfl⟩ rfl rfl rfl rfl rfl (by kernel_rfl) Try.func3 closed
    (of_decide_eq_true (by kernel_rfl)) (by unfold Func.isWrapper; first | (rw [if_pos (by decide +kernel)]; kernel_rfl) | (rw [if_neg (by decide +kernel)]; exact ⟨rfl, rfl⟩))
    (fun os started H enc _ => lifted os started H enc)
/-- The statement. -/
theorem proved : Rows.BathNamesSaid := over
#print axioms proved
end Go.Proofs.Ytjppikcigeiomaa
