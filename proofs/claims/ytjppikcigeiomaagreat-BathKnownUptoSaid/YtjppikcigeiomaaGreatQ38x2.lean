/-
The Go law BathKnownUpto returns true for every input, and its arguments read behind the call as they read before. Conditions: what the law reads is of bulk at most 1048576 (the second form).
-/
import Derived.Test.YtjppikcigeiomaaGreatQ38x1
import Derived.Test.YtjppikcigeiomaaGreatB4
import Derived.Test.YtjppikcigeiomaaGreatL4
import Derived.JoinedCond
set_option linter.unusedVariables false
set_option maxRecDepth 100000
namespace Go.Proofs.YtjppikcigeiomaaGreat
open Go.ChangeShapes Go.WideShapes Go.ChangeAt Go.RowKit Go.Vm
theorem fIn : Tryz.prog.inPlace 16 = Rows.bathKnownUptoRow.inPlace := by kernel_rfl
theorem fUn : Tryz.prog.unfollowed 16 = Rows.bathKnownUptoRow.unfollowed := by kernel_rfl
theorem fRe : Tryz.prog.recurses 16 = Rows.bathKnownUptoRow.recurses := by kernel_rfl
theorem fVn : Tryz.prog.varsNamed 16 = Rows.bathKnownUptoRow.named := by kernel_rfl
theorem fLf : Tryz.prog.liftsFinal = Rows.bathKnownUptoRow.lifted := by kernel_rfl
theorem fMk : Tryz.prog.make = some Rows.bathKnownUptoRow.make := by kernel_rfl
theorem closed : joinedFacts Tryz.prog 16 Tryz.f16 (Rows.OpenSpec.upto Rows.bathKnownSpec).bare Rows.bathKnownUptoRow = true := by
  unfold joinedFacts
  rw [fIn, fUn, fRe, fVn, laidOut, fMaps, fKeys, fHeard, fEnter, fLf, fMk]
  kernel_rfl
theorem walk (x0 : Rm) (h0 : x0.ok) (x1 : Rd) (h1 : x1.ok) (x2 : List Int) (h2 : ∀ n ∈ x2, 0 ≤ n ∧ n ≤ 65535) (hb : x0.cu.readings.length ≤ 999999) : Vm.Fn Tryz.prog 16 [.agg x0.cs, .agg x1.cs, vW x2] [] fun v h' => v = .bool true := l_BathKnown x0 h0.cu.last (Nat.le_trans hb (by decide)) x1 x2 h2
theorem lifted (os : Os) (started : os.Started) (H : Type) (enc : TypeId × Value → H) (F : Stop.Interp) :
    ReturnsInHanded {} Tryz.checked os 16 .any ((Rows.OpenSpec.upto Rows.bathKnownSpec).pre6 enc Tryz.prog Tryz.f16 Rows.bathKnownUptoRow.domain false) (((Rows.OpenSpec.upto Rows.bathKnownSpec).at F).post enc Tryz.prog Tryz.f16 false true false false) := by
  refine returnsInHanded_of_cond (C := Tryz.checked) (s := Rows.OpenSpec.upto Rows.bathKnownSpec) (k := Rows.uptoSmall) rfl own started (by kernel_rfl) Tryz.func16
    (OpenSpec.witness (enc := enc) (C := Tryz.checked) (s := Rows.OpenSpec.upto Rows.bathKnownSpec) (k := Rows.uptoSmall) rfl false ⟨#[], #[.agg #[.int .i64 0, .int .i64 0, .int .i64 0, .int .i64 0, .int .i64 0, .slice none 0 0, .slice none 0 0, .int .i64 0, .int .i64 0, .slice none 0 0, .slice none 0 0, .int .i64 0, .int .i64 0, .slice none 0 0], .agg #[.int .i64 0, .int .i64 0, .int .i64 0], .slice none 0 0], []⟩ 8 (by kernel_rfl) (by kernel_rfl) (by kernel_rfl) (x := ([.agg [.agg [.lit (.int .i64 0), .lit (.int .i64 0), .lit (.int .i64 0), .lit (.int .i64 0), .lit (.int .i64 0), .nil, .nil, .agg [.lit (.int .i64 0), .lit (.int .i64 0)], .nil, .nil], .lit (.int .i64 0), .lit (.int .i64 0), .nil], .agg [.lit (.int .i64 0), .agg [.lit (.int .i64 0), .lit (.int .i64 0)]], .nil], [], [])) (by kernel_rfl) rfl (by kernel_rfl)) ?_
  intro W base args ds gs before hval0 hW _ hk _
  have hval : ∀ (j : Nat) t v, Tryz.f16.params[j]? = some t → args[j]? = some v → Value.okWide Tryz.prog W .any base t v := hval0
  have hW' := hW
  obtain ⟨p, q, hA0, hV, rfl, hfz, hnd⟩ := hW
  have hA : DataW.TrodAll enc Tryz.prog W 0 (fun _ => true) true Tryz.f16.params.toList args.toList ds p := hA0
  rw [Tryz.params16] at hA hval
  obtain ⟨v0, vs0, d0, ds0, p0, q0, hargs, rfl, rfl, t0, r0⟩ := trodAll_cons hA
  obtain ⟨v1, vs1, d1, ds1, p1, q1, rfl, rfl, rfl, t1, r1⟩ := trodAll_cons r0
  obtain ⟨v2, vs2, d2, ds2, p2, q2, rfl, rfl, rfl, t2, r2⟩ := trodAll_cons r1
  obtain ⟨rfl, rfl, rfl⟩ := trodAll_nil r2
  obtain rfl : args = #[v0, v1, v2] := by cases args; simp_all
  obtain ⟨rfl, rfl⟩ := trodVars_none hV
  have k100 := t0
  have lt0 : ∀ x ∈ p0, x.block < W.heap.size := by obtain ⟨m, hm⟩ := k100; exact DataW.trod_lt m _ _ _ hm
  have k101 := t1
  have lt1 : ∀ x ∈ p1, x.block < W.heap.size := by obtain ⟨m, hm⟩ := k101; exact DataW.trod_lt m _ _ _ hm
  have k102 := t2
  have lt2 : ∀ x ∈ p2, x.block < W.heap.size := by obtain ⟨m, hm⟩ := k102; exact DataW.trod_lt m _ _ _ hm
  obtain ⟨y0, rfl, _⟩ := okWide_struct Tryz.underlying31 (hval 0 _ v0 rfl rfl)
  obtain ⟨c0, hc0, e0⟩ : ∃ c : Rm, c.ok ∧ VRL (gh0 W) c.cs y0.toList := by
    obtain ⟨fuel, hf⟩ := t0
    exact rd_rm hf
  obtain ⟨y1, rfl, _⟩ := okWide_struct Tryz.underlying93 (hval 1 _ v1 rfl rfl)
  obtain ⟨c1, hc1, e1⟩ : ∃ c : Rd, c.ok ∧ VRL (gh0 W) c.cs y1.toList := by
    obtain ⟨fuel, hf⟩ := t1
    exact rd_rd hf
  obtain ⟨a2, n2, k2, rfl⟩ := okWide_slice Tryz.underlying86 (hval 2 _ v2 rfl rfl)
  obtain ⟨c2, hc2, e2⟩ : ∃ l : List Int, (∀ n ∈ l, 0 ≤ n ∧ n ≤ 65535) ∧ VRL (gh0 W) [vW l] [.slice a2 n2 k2] := by
    obtain ⟨fuel, hf⟩ := t2
    exact rd_words hf
  clear hA0 hval0
  have hbk : Rows.uptoBulkAll ([d0, d1, d2] ++ ([] : List (DataW H))) ≤ 1048576 := of_decide_eq_true hk
  have hb : c0.cu.readings.length ≤ 999999 := by
    obtain ⟨fuel, hf⟩ := k100; exact rds_smallR hf e0 hbk
  refine (calls_of_fn (walk c0 hc0 c1 hc1 c2 hc2 hb) (VRL.cons (by simp only [VR]; exact ⟨y0, rfl, e0⟩) (VRL.cons (by simp only [VR]; exact ⟨y1, rfl, e1⟩) (VRL.cons (VRL.one e2) VRL.nil)))).mono fun e W' ⟨he, bel⟩ => ?_
  subst he
  exact ⟨_, rfl, _, _, _, [], _, [], hW', trodAll_mk1 (shut_bool Tryz.underlying4 _), (trodAll_cons_mk (Below.trod laidOut (by kernel_rfl) (of_decide_eq_true (by kernel_rfl)) k100 bel lt0) (trodAll_cons_mk (Below.trod laidOut (by kernel_rfl) (of_decide_eq_true (by kernel_rfl)) k101 bel lt1) (trodAll_cons_mk (Below.trod laidOut (by kernel_rfl) (of_decide_eq_true (by kernel_rfl)) k102 bel lt2) trodAll_mk0))), rfl, bel.frame _, fun h => by cases h⟩
theorem over : Rows.bathKnownUptoRow.holds Tryz.pinned (Rows.OpenSpec.upto Rows.bathKnownSpec) :=
  OpenClaim.holds_of_cond 16 Tryz.f16 rfl rfl rfl rfl rfl rfl rfl ⟨rfl, rfl, rfl, rfl, rfl⟩ rfl rfl rfl rfl rfl (by kernel_rfl) Tryz.func16 closed
    (of_decide_eq_true (by kernel_rfl)) (by unfold Func.isWrapper; first | (rw [if_pos (by decide +kernel)]; kernel_rfl) | (rw [if_neg (by decide +kernel)]; exact ⟨rfl, rfl⟩))
    (fun os started H enc _ F => lifted os started H enc F)
/-- The statement. -/
theorem proved : Rows.BathKnownUptoSaid := over
#print axioms proved
end Go.Proofs.YtjppikcigeiomaaGreat
