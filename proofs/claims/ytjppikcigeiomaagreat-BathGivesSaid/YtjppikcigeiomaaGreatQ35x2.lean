/-
The Go law BathGives returns true for every input, and its arguments read behind the call as they read before. Conditions: none.
-/
import Derived.Test.YtjppikcigeiomaaGreatQ35x1
import Derived.Test.YtjppikcigeiomaaGreatB4
import Derived.Test.YtjppikcigeiomaaGreatL4
set_option linter.unusedVariables false
set_option maxRecDepth 100000
namespace Go.Proofs.YtjppikcigeiomaaGreat
open Go.ChangeShapes Go.WideShapes Go.ChangeAt Go.RowKit Go.Vm
theorem fIn : Tryz.prog.inPlace 5 = Rows.bathGivesRow.inPlace := by kernel_rfl
theorem fUn : Tryz.prog.unfollowed 5 = Rows.bathGivesRow.unfollowed := by kernel_rfl
theorem fRe : Tryz.prog.recurses 5 = Rows.bathGivesRow.recurses := by kernel_rfl
theorem fVn : Tryz.prog.varsNamed 5 = Rows.bathGivesRow.named := by kernel_rfl
theorem fLf : Tryz.prog.liftsFinal = Rows.bathGivesRow.lifted := by kernel_rfl
theorem fMk : Tryz.prog.make = some Rows.bathGivesRow.make := by kernel_rfl
theorem closed : joinedFacts Tryz.prog 5 Tryz.f5 Rows.bathGivesSpec Rows.bathGivesRow = true := by
  unfold joinedFacts
  rw [fIn, fUn, fRe, fVn, laidOut, fMaps, fKeys, fHeard, fEnter, fLf, fMk]
  kernel_rfl
theorem walk (x0 : Rm) (h0 : x0.ok) : Vm.Fn Tryz.prog 5 [.agg x0.cs] [] fun v h' => v = .bool true := l_BathGives x0 h0.cu.last
theorem lifted (os : Os) (started : os.Started) (H : Type) (enc : TypeId × Value → H) :
    ReturnsInHanded {} Tryz.checked os 5 .any (Rows.bathGivesSpec.pre6 enc Tryz.prog Tryz.f5 Rows.bathGivesRow.domain false) (Rows.bathGivesSpec.post enc Tryz.prog Tryz.f5 false true false false) := by
  refine returnsInHanded_of_change (C := Tryz.checked) own started (by kernel_rfl) Tryz.func5
    (ChangeSpec.witness6 (enc := enc) (C := Tryz.checked) false ⟨#[], #[.agg #[.int .i64 0, .int .i64 0, .int .i64 0, .int .i64 0, .int .i64 0, .slice none 0 0, .slice none 0 0, .int .i64 0, .int .i64 0, .slice none 0 0, .slice none 0 0, .int .i64 0, .int .i64 0, .slice none 0 0]], []⟩ 8 (by kernel_rfl) (by kernel_rfl) (by kernel_rfl) (by kernel_rfl)) ?_
  intro W base args ds gs before hval0 hW hcnd _
  have hval : ∀ (j : Nat) t v, Tryz.f5.params[j]? = some t → args[j]? = some v → Value.okWide Tryz.prog W .any base t v := hval0
  have hW' := hW
  obtain ⟨p, q, hA0, hV, rfl, hfz, hnd⟩ := hW
  have hA : DataW.TrodAll enc Tryz.prog W 0 (fun _ => true) true Tryz.f5.params.toList args.toList ds p := hA0
  rw [Tryz.params5] at hA hval
  obtain ⟨v0, vs0, d0, ds0, p0, q0, hargs, rfl, rfl, t0, r0⟩ := trodAll_cons hA
  obtain ⟨rfl, rfl, rfl⟩ := trodAll_nil r0
  obtain rfl : args = #[v0] := by cases args; simp_all
  obtain ⟨rfl, rfl⟩ := trodVars_none hV
  have k100 := t0
  have lt0 : ∀ x ∈ p0, x.block < W.heap.size := by obtain ⟨m, hm⟩ := k100; exact DataW.trod_lt m _ _ _ hm
  obtain ⟨y0, rfl, _⟩ := okWide_struct Tryz.underlying31 (hval 0 _ v0 rfl rfl)
  obtain ⟨c0, hc0, e0⟩ : ∃ c : Rm, c.ok ∧ VRL (gh0 W) c.cs y0.toList := by
    obtain ⟨fuel, hf⟩ := t0
    exact rd_rm hf
  clear hA0 hval0
  refine (calls_of_fn (walk c0 hc0) (VRL.cons (by simp only [VR]; exact ⟨y0, rfl, e0⟩) VRL.nil)).mono fun e W' ⟨he, bel⟩ => ?_
  subst he
  exact ⟨_, rfl, _, _, _, [], _, [], hW', trodAll_mk1 (shut_bool Tryz.underlying4 _), (trodAll_cons_mk (Below.trod laidOut (by kernel_rfl) (of_decide_eq_true (by kernel_rfl)) k100 bel lt0) trodAll_mk0), rfl, bel.frame _, fun h => by cases h⟩
theorem over : Rows.bathGivesRow.holds Tryz.pinned (OpenSpec.ofChange Rows.bathGivesSpec) :=
  OpenClaim.holds_of_wide 5 Tryz.f5 rfl rfl rfl rfl rfl rfl rfl ⟨rfl, rfl, rfl, rfl, rfl⟩ rfl rfl rfl rfl rfl (by kernel_rfl) Tryz.func5 closed
    (of_decide_eq_true (by kernel_rfl)) (by unfold Func.isWrapper; first | (rw [if_pos (by decide +kernel)]; kernel_rfl) | (rw [if_neg (by decide +kernel)]; exact ⟨rfl, rfl⟩))
    (fun os started H enc _ => lifted os started H enc)
/-- The statement. -/
theorem proved : Rows.BathGivesSaid := over
#print axioms proved
end Go.Proofs.YtjppikcigeiomaaGreat
