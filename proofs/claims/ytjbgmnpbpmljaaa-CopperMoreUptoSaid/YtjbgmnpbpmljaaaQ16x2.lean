/-
The Go law CopperMoreUpto returns true for every input, and its arguments read behind the call as they read before. Conditions: what the law reads is of bulk at most 1048576 (the second form).
-/
import Derived.Test.YtjbgmnpbpmljaaaQ16x1
import Derived.Test.YtjbgmnpbpmljaaaB3
import Derived.JoinedCond
set_option linter.unusedVariables false
set_option maxRecDepth 100000
namespace Go.Proofs.Ytjbgmnpbpmljaaa
open Go.ChangeShapes Go.WideShapes Go.ChangeAt Go.RowKit Go.Vm
theorem own : ownKnob Try.prog.godebug = none := by kernel_rfl
theorem laidOut : laidOutB Try.prog = true := by kernel_rfl
theorem walk (x0 : Cu) (h0 : x0.ok) (x1 : Rd) (h1 : x1.ok) (x2 : Int) (h2 : 0 ≤ x2 ∧ x2 ≤ 255) (x3 : Int) (h3 : 0 ≤ x3 ∧ x3 ≤ 65535) (hb : x0.readings.length ≤ 999999) : Vm.Fn Try.prog 14 [.agg x0.cs, .agg x1.cs, .int .u8 x2, .int .u16 x3] [] fun v h' => v = .bool true := l_CopperMore x0 h0.last (Nat.le_trans hb (by decide)) x1 x2 h2 x3 h3
theorem lifted (os : Os) (started : os.Started) (H : Type) (enc : TypeId × Value → H) (F : Stop.Interp) :
    ReturnsInHanded {} Try.checked os 14 .any ((Rows.OpenSpec.upto Rows.copperMoreSpec).pre6 enc Try.prog Try.f14 Rows.copperMoreUptoRow.domain false) (((Rows.OpenSpec.upto Rows.copperMoreSpec).at F).post enc Try.prog Try.f14 false true false false) := by
  refine returnsInHanded_of_cond (C := Try.checked) (s := Rows.OpenSpec.upto Rows.copperMoreSpec) (k := Rows.uptoSmall) rfl own started (by kernel_rfl) Try.func14
    (OpenSpec.witness (enc := enc) (C := Try.checked) (s := Rows.OpenSpec.upto Rows.copperMoreSpec) (k := Rows.uptoSmall) rfl false ⟨#[], #[.agg #[.int .i64 0, .int .i64 0, .int .i64 0, .int .i64 0, .int .i64 0, .slice none 0 0, .slice none 0 0, .int .i64 0, .int .i64 0, .slice none 0 0, .slice none 0 0], .agg #[.int .i64 0, .int .i64 0, .int .i64 0], .int .u8 0, .int .u16 0], []⟩ 8 (by kernel_rfl) (by kernel_rfl) (by kernel_rfl) (x := ([.agg [.lit (.int .i64 0), .lit (.int .i64 0), .lit (.int .i64 0), .lit (.int .i64 0), .lit (.int .i64 0), .nil, .nil, .agg [.lit (.int .i64 0), .lit (.int .i64 0)], .nil, .nil], .agg [.lit (.int .i64 0), .agg [.lit (.int .i64 0), .lit (.int .i64 0)]], .lit (.int .u8 0), .lit (.int .u16 0)], [], [])) (by kernel_rfl) rfl (by kernel_rfl)) ?_
  intro W base args ds gs before hval0 hW _ hk _
  have hval : ∀ (j : Nat) t v, Try.f14.params[j]? = some t → args[j]? = some v → Value.okWide Try.prog W .any base t v := hval0
  have hW' := hW
  obtain ⟨p, q, hA0, hV, rfl, hfz, hnd⟩ := hW
  have hA : DataW.TrodAll enc Try.prog W 0 (fun _ => true) true Try.f14.params.toList args.toList ds p := hA0
  rw [Try.params14] at hA hval
  obtain ⟨v0, vs0, d0, ds0, p0, q0, hargs, rfl, rfl, t0, r0⟩ := trodAll_cons hA
  obtain ⟨v1, vs1, d1, ds1, p1, q1, rfl, rfl, rfl, t1, r1⟩ := trodAll_cons r0
  obtain ⟨v2, vs2, d2, ds2, p2, q2, rfl, rfl, rfl, t2, r2⟩ := trodAll_cons r1
  obtain ⟨v3, vs3, d3, ds3, p3, q3, rfl, rfl, rfl, t3, r3⟩ := trodAll_cons r2
  obtain ⟨rfl, rfl, rfl⟩ := trodAll_nil r3
  obtain rfl : args = #[v0, v1, v2, v3] := by cases args; simp_all
  obtain ⟨rfl, rfl⟩ := trodVars_none hV
  have k100 := t0
  have lt0 : ∀ x ∈ p0, x.block < W.heap.size := by obtain ⟨m, hm⟩ := k100; exact DataW.trod_lt m _ _ _ hm
  have k101 := t1
  have lt1 : ∀ x ∈ p1, x.block < W.heap.size := by obtain ⟨m, hm⟩ := k101; exact DataW.trod_lt m _ _ _ hm
  have k102 := t2
  have lt2 : ∀ x ∈ p2, x.block < W.heap.size := by obtain ⟨m, hm⟩ := k102; exact DataW.trod_lt m _ _ _ hm
  have k103 := t3
  have lt3 : ∀ x ∈ p3, x.block < W.heap.size := by obtain ⟨m, hm⟩ := k103; exact DataW.trod_lt m _ _ _ hm
  obtain ⟨y0, rfl, _⟩ := okWide_struct Try.underlying28 (hval 0 _ v0 rfl rfl)
  obtain ⟨c0, hc0, e0⟩ : ∃ c : Cu, c.ok ∧ VRL (gh0 W) c.cs y0.toList := by
    obtain ⟨fuel, hf⟩ := t0
    exact rd_cu hf
  obtain ⟨y1, rfl, _⟩ := okWide_struct Try.underlying96 (hval 1 _ v1 rfl rfl)
  obtain ⟨c1, hc1, e1⟩ : ∃ c : Rd, c.ok ∧ VRL (gh0 W) c.cs y1.toList := by
    obtain ⟨fuel, hf⟩ := t1
    exact rd_rd hf
  obtain ⟨i2, rfl⟩ := okWide_int Try.underlying5 (hval 2 _ v2 rfl rfl)
  obtain ⟨c2, hc2, e2⟩ : ∃ n : Int, (0 ≤ n ∧ n ≤ 255) ∧ VRL (gh0 W) [.int .u8 n] [.int .u8 i2] := by
    obtain ⟨fuel, hf⟩ := t2
    exact rd_u8 hf
  obtain ⟨i3, rfl⟩ := okWide_int Try.underlying70 (hval 3 _ v3 rfl rfl)
  obtain ⟨c3, hc3, e3⟩ : ∃ n : Int, (0 ≤ n ∧ n ≤ 65535) ∧ VRL (gh0 W) [.int .u16 n] [.int .u16 i3] := by
    obtain ⟨fuel, hf⟩ := t3
    exact rd_u16 hf
  clear hA0 hval0
  have hbk : Rows.uptoBulkAll ([d0, d1, d2, d3] ++ ([] : List (DataW H))) ≤ 1048576 := of_decide_eq_true hk
  have hb : c0.readings.length ≤ 999999 := by
    obtain ⟨fuel, hf⟩ := k100; exact rds_small hf e0 hbk
  refine (calls_of_fn (walk c0 hc0 c1 hc1 c2 hc2 c3 hc3 hb) (VRL.cons (by simp only [VR]; exact ⟨y0, rfl, e0⟩) (VRL.cons (by simp only [VR]; exact ⟨y1, rfl, e1⟩) (VRL.cons (VRL.one e2) (VRL.cons (VRL.one e3) VRL.nil))))).mono fun e W' ⟨he, bel⟩ => ?_
  subst he
  exact ⟨_, rfl, _, _, _, [], _, [], hW', trodAll_mk1 (shut_bool Try.underlying4 _), (trodAll_cons_mk (Below.trod laidOut (by kernel_rfl) (of_decide_eq_true (by kernel_rfl)) k100 bel lt0) (trodAll_cons_mk (Below.trod laidOut (by kernel_rfl) (of_decide_eq_true (by kernel_rfl)) k101 bel lt1) (trodAll_cons_mk (Below.trod laidOut (by kernel_rfl) (of_decide_eq_true (by kernel_rfl)) k102 bel lt2) (trodAll_cons_mk (Below.trod laidOut (by kernel_rfl) (of_decide_eq_true (by kernel_rfl)) k103 bel lt3) trodAll_mk0)))), rfl, bel.frame _, fun h => by cases h⟩
theorem over : Rows.copperMoreUptoRow.holds Try.pinned (Rows.OpenSpec.upto Rows.copperMoreSpec) :=
  OpenClaim.holds_of_cond 14 Try.f14 rfl rfl rfl rfl rfl rfl rfl ⟨rfl, rfl, rfl, rfl, rfl⟩ rfl rfl rfl rfl rfl (by kernel_rfl) Try.func14 (by kernel_rfl)
    (of_decide_eq_true (by kernel_rfl)) (by unfold Func.isWrapper; first | (rw [if_pos (by decide +kernel)]; kernel_rfl) | (rw [if_neg (by decide +kernel)]; exact ⟨rfl, rfl⟩))
    (fun os started H enc _ F => lifted os started H enc F)
/-- The statement. -/
theorem proved : Rows.CopperMoreUptoSaid := over
#print axioms proved
end Go.Proofs.Ytjbgmnpbpmljaaa
