import Derived.Test.YtjbgmnpbpmljaaaTab
set_option linter.unusedVariables false
set_option linter.unusedSimpArgs false
namespace Go.Vm
open Go.Proofs
theorem list2 {a : List Int} (h : a.length = 2) : ∃ x y, a = [x, y] := by
  match a, h with
  | [x, y], _ => exact ⟨x, y, rfl⟩
theorem list6 {a : List Int} (h : a.length = 6) : ∃ x y z u v w, a = [x, y, z, u, v, w] := by
  match a, h with
  | [x, y, z, u, v, w], _ => exact ⟨x, y, z, u, v, w, rfl⟩
theorem isAgg_int {w : World} : (isAgg 3).run Try.prog w = .ok false w := by simp [isAgg, run_underlying Try.underlying3]
theorem isAgg_arr {w : World} : (isAgg 131).run Try.prog w = .ok true w := by simp [isAgg, run_underlying Try.underlying131]
def sizeB (P : Program) (t n : Nat) : Bool := match P.info? t with
  | some i => decide (i.size = n)
  | none => false
theorem sizeB_ok {P : Program} {t n : Nat} (h : sizeB P t n = true) {w : World} : (sizeOf t).run P w = .ok n w := by
  unfold sizeB at h
  split at h
  · rename_i i hi
    simp only [decide_eq_true_eq] at h
    simp [sizeOf, run_typeInfo hi, h]
  · cases h
theorem size_int {w : World} : (sizeOf 3).run Try.prog w = .ok 1 w := sizeB_ok (by kernel_rfl)
theorem size_arr {w : World} : (sizeOf 131).run Try.prog w = .ok 5 w := sizeB_ok (by kernel_rfl)
theorem eqIn_int {d : Nat} {w : World} (a b : Int) : (Op.equalIn (d + 1) 3 (.int .i64 a) (.int .i64 b)).run Try.prog w = .ok (a == b) w := by
  simp [Op.equalIn, run_underlying Try.underlying3]
theorem eqIn_range {d : Nat} {w : World} (x y x' y' : Int) : (Op.equalIn (d + 2) 35 (.agg #[.int .i64 x, .int .i64 y]) (.agg #[.int .i64 x', .int .i64 y'])).run Try.prog w = .ok ([x, y] == [x', y']) w := by
  have h0 : Try.prog.stoodInHeld 35 = false := by kernel_rfl
  simp [Op.equalIn, run_underlying Try.underlying35, h0, part, isAgg_int, run_underlying Try.underlying3]
  by_cases h1 : x = x' <;> by_cases h2 : y = y' <;> simp [h1, h2]
theorem eqIn_arr {d : Nat} {w : World} (x y z u v x' y' z' u' v' : Int) : (Op.equalIn (d + 2) 131 (.agg #[.int .i64 x, .int .i64 y, .int .i64 z, .int .i64 u, .int .i64 v]) (.agg #[.int .i64 x', .int .i64 y', .int .i64 z', .int .i64 u', .int .i64 v'])).run Try.prog w =
    .ok ([x, y, z, u, v] == [x', y', z', u', v']) w := by
  rw [Op.equalIn]
  simp only [Sem.run_bind, run_underlying Try.underlying131, Result.andThen_ok, size_int]
  rw [show ([0:5] : Std.Legacy.Range) = { start := 0, stop := 5, step := 1, step_pos := by decide } from rfl]
  simp [Std.Legacy.Range.forIn_eq_forIn_range', Std.Legacy.Range.size, List.range', part, isAgg_int, eqIn_int]
  by_cases h1 : x = x' <;> by_cases h2 : y = y' <;> by_cases h3 : z = z' <;> by_cases h4 : u = u' <;> by_cases h5 : v = v' <;> simp [h1, h2, h3, h4, h5]
theorem eqIn_scene {d : Nat} {w : World} (q x y z u v q' x' y' z' u' v' : Int) : (Op.equalIn (d + 3) 133 (.agg #[.int .i64 q, .int .i64 x, .int .i64 y, .int .i64 z, .int .i64 u, .int .i64 v]) (.agg #[.int .i64 q', .int .i64 x', .int .i64 y', .int .i64 z', .int .i64 u', .int .i64 v'])).run Try.prog w =
    .ok ([q, x, y, z, u, v] == [q', x', y', z', u', v']) w := by
  have h0 : Try.prog.stoodInHeld 133 = false := by kernel_rfl
  rw [Op.equalIn]
  simp [run_underlying Try.underlying133, h0, part, isAgg_int, isAgg_arr, size_arr, eqIn_int, eqIn_arr]
  by_cases h1 : q = q'
  · by_cases h2 : ([x, y, z, u, v] == [x', y', z', u', v']) = true
    · simp at h2; simp [h1, h2]
    · simp at h2; simp [h1]
      rw [if_pos h2]
      have hf : (x == x' && (y == y' && (z == z' && (u == u' && v == v')))) = false := by
        rw [Bool.eq_false_iff]
        intro ht
        simp only [Bool.and_eq_true, beq_iff_eq] at ht
        exact h2 ht.1 ht.2.1 ht.2.2.1 ht.2.2.2.1 ht.2.2.2.2
      rw [hf]
  · simp [h1]
theorem guard_range {w : World} (op : BinOp) (x y : Operand) (a b : Array Value) : (eqGuard op 35 x y (.agg a) (.agg b)).run Try.prog w = .ok () w := by
  have h0 : Try.prog.eqGuardType Try.prog.depth 35 = false := by kernel_rfl
  cases op <;> simp [eqGuard, h0]
theorem guard_scene {w : World} (op : BinOp) (x y : Operand) (a b : Array Value) : (eqGuard op 133 x y (.agg a) (.agg b)).run Try.prog w = .ok () w := by
  have h0 : Try.prog.eqGuardType Try.prog.depth 133 = false := by kernel_rfl
  cases op <;> simp [eqGuard, h0]
theorem list5 {a : List Int} (h : a.length = 5) : ∃ x y z u v, a = [x, y, z, u, v] := by
  match a, h with
  | [x, y, z, u, v], _ => exact ⟨x, y, z, u, v, rfl⟩
theorem ck_int {e : Bool} {d : Nat} {w : World} (a : Int) : (Instr.checkKey e (d + 1) 3 (.int .i64 a)).run Try.prog w = .ok () w := by
  simp [Instr.checkKey, run_underlying Try.underlying3]
theorem ck_range {e : Bool} {d : Nat} {w : World} (x y : Int) : (Instr.checkKey e (d + 2) 35 (.agg #[.int .i64 x, .int .i64 y])).run Try.prog w = .ok () w := by
  rw [Instr.checkKey]
  simp [run_underlying Try.underlying35, part, isAgg_int, ck_int]
theorem ck_arr {e : Bool} {d : Nat} {w : World} (x y z u v : Int) : (Instr.checkKey e (d + 2) 131 (.agg #[.int .i64 x, .int .i64 y, .int .i64 z, .int .i64 u, .int .i64 v])).run Try.prog w = .ok () w := by
  rw [Instr.checkKey]
  simp only [Sem.run_bind, run_underlying Try.underlying131, Result.andThen_ok, size_int]
  rw [show ([0:5] : Std.Legacy.Range) = { start := 0, stop := 5, step := 1, step_pos := by decide } from rfl]
  simp [Std.Legacy.Range.forIn_eq_forIn_range', Std.Legacy.Range.size, List.range', part, isAgg_int, ck_int, size_int]
theorem ck_scene {e : Bool} {d : Nat} {w : World} (q x y z u v : Int) : (Instr.checkKey e (d + 3) 133 (.agg #[.int .i64 q, .int .i64 x, .int .i64 y, .int .i64 z, .int .i64 u, .int .i64 v])).run Try.prog w = .ok () w := by
  rw [Instr.checkKey]
  simp [run_underlying Try.underlying133, part, isAgg_int, isAgg_arr, size_arr, ck_int, ck_arr]
theorem ck_sh {e : Bool} {d : Nat} {w : World} (x y z u v : Int) : (Instr.checkKey e (d + 2) 158 (.agg #[.int .i64 x, .int .i64 y, .int .i64 z, .int .i64 u, .int .i64 v])).run Try.prog w = .ok () w := by
  rw [Instr.checkKey]
  simp only [Sem.run_bind, run_underlying Try.underlying158, Result.andThen_ok, size_int]
  rw [show ([0:5] : Std.Legacy.Range) = { start := 0, stop := 5, step := 1, step_pos := by decide } from rfl]
  simp [Std.Legacy.Range.forIn_eq_forIn_range', Std.Legacy.Range.size, List.range', part, isAgg_int, ck_int, size_int]
theorem eqIn_sh {d : Nat} {w : World} (x y z u v x' y' z' u' v' : Int) : (Op.equalIn (d + 2) 158 (.agg #[.int .i64 x, .int .i64 y, .int .i64 z, .int .i64 u, .int .i64 v]) (.agg #[.int .i64 x', .int .i64 y', .int .i64 z', .int .i64 u', .int .i64 v'])).run Try.prog w =
    .ok ([x, y, z, u, v] == [x', y', z', u', v']) w := by
  rw [Op.equalIn]
  simp only [Sem.run_bind, run_underlying Try.underlying158, Result.andThen_ok, size_int]
  rw [show ([0:5] : Std.Legacy.Range) = { start := 0, stop := 5, step := 1, step_pos := by decide } from rfl]
  simp [Std.Legacy.Range.forIn_eq_forIn_range', Std.Legacy.Range.size, List.range', part, isAgg_int, eqIn_int]
  by_cases h1 : x = x' <;> by_cases h2 : y = y' <;> by_cases h3 : z = z' <;> by_cases h4 : u = u' <;> by_cases h5 : v = v' <;> simp [h1, h2, h3, h4, h5]
theorem guard_sh {w : World} (op : BinOp) (x y : Operand) (a b : Array Value) : (eqGuard op 158 x y (.agg a) (.agg b)).run Try.prog w = .ok () w := by
  have h0 : Try.prog.eqGuardType Try.prog.depth 158 = false := by kernel_rfl
  cases op <;> simp [eqGuard, h0]
theorem ints_of : ∀ t, (tt t).ints = true → t = 35 ∨ t = 133 ∨ t = 158 := by
  intro t ht
  by_cases hn : t < ttn
  · have : (List.range ttn).all (fun t => !(tt t).ints || decide (t = 35) || decide (t = 133) || decide (t = 158)) = true := by kernel_rfl
    rw [List.all_eq_true] at this
    have := this t (List.mem_range.2 hn)
    simp only [ht, Bool.not_true, Bool.false_or, Bool.or_eq_true, decide_eq_true_eq] at this
    rcases this with (h | h) | h
    · exact .inl h
    · exact .inr (.inl h)
    · exact .inr (.inr h)
  · rw [tt_out t (by simpa [ttn] using hn)] at ht
    cases ht
theorem tabOk : TabOk Try.prog tt := by
  refine tabOk_of ttn (fun t ht => tt_high t ht) tt_rows fun t ht a b w ha hb => ?_
  rcases ints_of t ht with rfl | rfl | rfl
  · rw [show (tt 35).size = 2 from rfl] at ha hb
    obtain ⟨x, y, rfl⟩ := list2 ha
    obtain ⟨x', y', rfl⟩ := list2 hb
    exact ⟨fun op x y => guard_range op x y _ _, eqIn_range (d := 9998) x y x' y', fun e => ck_range (d := 9998) x y⟩
  · rw [show (tt 133).size = 6 from rfl] at ha hb
    obtain ⟨q, x, y, z, u, v, rfl⟩ := list6 ha
    obtain ⟨q', x', y', z', u', v', rfl⟩ := list6 hb
    exact ⟨fun op x y => guard_scene op x y _ _, eqIn_scene (d := 9997) q x y z u v q' x' y' z' u' v', fun e => ck_scene (d := 9997) q x y z u v⟩
  · rw [show (tt 158).size = 5 from rfl] at ha hb
    obtain ⟨x, y, z, u, v, rfl⟩ := list5 ha
    obtain ⟨x', y', z', u', v', rfl⟩ := list5 hb
    exact ⟨fun op x y => guard_sh op x y _ _, eqIn_sh (d := 9998) x y z u v x' y' z' u' v', fun e => ck_sh (d := 9998) x y z u v⟩
end Go.Vm
