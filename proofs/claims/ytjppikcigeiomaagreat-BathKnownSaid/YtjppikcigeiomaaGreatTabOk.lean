import Derived.Test.YtjppikcigeiomaaGreatTab
set_option linter.unusedVariables false
set_option linter.unusedSimpArgs false
namespace Go.Vm
open Go.Proofs
theorem list2 {a : List Int} (h : a.length = 2) : ∃ x y, a = [x, y] := by
  match a, h with
  | [x, y], _ => exact ⟨x, y, rfl⟩
theorem list6 {a : List Int} (h : a.length = 6) : ∃ x y z u v w, a = [x, y, z, u, v, w] := by
  match a, h with
  | [x, y, z, u, v, w], _ => exact ⟨x, y, z, u, v, w, rfl⟩
theorem isAgg_int {w : World} : (isAgg 3).run Tryz.prog w = .ok false w := by simp [isAgg, run_underlying Tryz.underlying3]
theorem isAgg_arr {w : World} : (isAgg 151).run Tryz.prog w = .ok true w := by simp [isAgg, run_underlying Tryz.underlying151]
def sizeB (P : Program) (t n : Nat) : Bool := match P.info? t with
  | some i => decide (i.size = n)
  | none => false
theorem sizeB_ok {P : Program} {t n : Nat} (h : sizeB P t n = true) {w : World} : (sizeOf t).run P w = .ok n w := by
  unfold sizeB at h
  split at h
  · rename_i i hi
    simp only [decide_eq_true_eq] at h
    simp [sizeOf, run_typeInfo hi, h]
  · cases h
theorem size_int {w : World} : (sizeOf 3).run Tryz.prog w = .ok 1 w := sizeB_ok (by kernel_rfl)
theorem size_arr {w : World} : (sizeOf 151).run Tryz.prog w = .ok 5 w := sizeB_ok (by kernel_rfl)
theorem eqIn_int {d : Nat} {w : World} (a b : Int) : (Op.equalIn (d + 1) 3 (.int .i64 a) (.int .i64 b)).run Tryz.prog w = .ok (a == b) w := by
  simp [Op.equalIn, run_underlying Tryz.underlying3]
theorem eqIn_range {d : Nat} {w : World} (x y x' y' : Int) : (Op.equalIn (d + 2) 37 (.agg #[.int .i64 x, .int .i64 y]) (.agg #[.int .i64 x', .int .i64 y'])).run Tryz.prog w = .ok ([x, y] == [x', y']) w := by
  have h0 : Tryz.prog.stoodInHeld 37 = false := by kernel_rfl
  simp [Op.equalIn, run_underlying Tryz.underlying37, h0, part, isAgg_int, run_underlying Tryz.underlying3]
  by_cases h1 : x = x' <;> by_cases h2 : y = y' <;> simp [h1, h2]
theorem eqIn_arr {d : Nat} {w : World} (x y z u v x' y' z' u' v' : Int) : (Op.equalIn (d + 2) 151 (.agg #[.int .i64 x, .int .i64 y, .int .i64 z, .int .i64 u, .int .i64 v]) (.agg #[.int .i64 x', .int .i64 y', .int .i64 z', .int .i64 u', .int .i64 v'])).run Tryz.prog w =
    .ok ([x, y, z, u, v] == [x', y', z', u', v']) w := by
  rw [Op.equalIn]
  simp only [Sem.run_bind, run_underlying Tryz.underlying151, Result.andThen_ok, size_int]
  rw [show ([0:5] : Std.Legacy.Range) = { start := 0, stop := 5, step := 1, step_pos := by decide } from rfl]
  simp [Std.Legacy.Range.forIn_eq_forIn_range', Std.Legacy.Range.size, List.range', part, isAgg_int, eqIn_int]
  by_cases h1 : x = x' <;> by_cases h2 : y = y' <;> by_cases h3 : z = z' <;> by_cases h4 : u = u' <;> by_cases h5 : v = v' <;> simp [h1, h2, h3, h4, h5]
theorem eqIn_scene {d : Nat} {w : World} (q x y z u v q' x' y' z' u' v' : Int) : (Op.equalIn (d + 3) 153 (.agg #[.int .i64 q, .int .i64 x, .int .i64 y, .int .i64 z, .int .i64 u, .int .i64 v]) (.agg #[.int .i64 q', .int .i64 x', .int .i64 y', .int .i64 z', .int .i64 u', .int .i64 v'])).run Tryz.prog w =
    .ok ([q, x, y, z, u, v] == [q', x', y', z', u', v']) w := by
  have h0 : Tryz.prog.stoodInHeld 153 = false := by kernel_rfl
  rw [Op.equalIn]
  simp [run_underlying Tryz.underlying153, h0, part, isAgg_int, isAgg_arr, size_arr, eqIn_int, eqIn_arr]
  by_cases h1 : q = q'
  · by_cases h2 : ([x, y, z, u, v] == [x', y', z', u', v']) = true
    · simp at h2; simp [h1, h2]
    · simp at h2; simp [h1]
      rw [if_pos h2]
      have hf : (x == x' && (y == y' && (z == z' && (u == u' && v == v')))) = false := by
        rw [Bool.eq_false_iff]
        intro ht
        simp only [Bool.and_eq_true, beq_iff_eq] at ht
        exact h2 ht.1 ht.2.1 ht.2.2.1 ht.2.2.2.1 ht.2.2.2.2
      rw [hf]
  · simp [h1]
theorem guard_range {w : World} (op : BinOp) (x y : Operand) (a b : Array Value) : (eqGuard op 37 x y (.agg a) (.agg b)).run Tryz.prog w = .ok () w := by
  have h0 : Tryz.prog.eqGuardType Tryz.prog.depth 37 = false := by kernel_rfl
  cases op <;> simp [eqGuard, h0]
theorem guard_scene {w : World} (op : BinOp) (x y : Operand) (a b : Array Value) : (eqGuard op 153 x y (.agg a) (.agg b)).run Tryz.prog w = .ok () w := by
  have h0 : Tryz.prog.eqGuardType Tryz.prog.depth 153 = false := by kernel_rfl
  cases op <;> simp [eqGuard, h0]
theorem list5 {a : List Int} (h : a.length = 5) : ∃ x y z u v, a = [x, y, z, u, v] := by
  match a, h with
  | [x, y, z, u, v], _ => exact ⟨x, y, z, u, v, rfl⟩
theorem ck_int {e : Bool} {d : Nat} {w : World} (a : Int) : (Instr.checkKey e (d + 1) 3 (.int .i64 a)).run Tryz.prog w = .ok () w := by
  simp [Instr.checkKey, run_underlying Tryz.underlying3]
theorem ck_range {e : Bool} {d : Nat} {w : World} (x y : Int) : (Instr.checkKey e (d + 2) 37 (.agg #[.int .i64 x, .int .i64 y])).run Tryz.prog w = .ok () w := by
  rw [Instr.checkKey]
  simp [run_underlying Tryz.underlying37, part, isAgg_int, ck_int]
theorem ck_arr {e : Bool} {d : Nat} {w : World} (x y z u v : Int) : (Instr.checkKey e (d + 2) 151 (.agg #[.int .i64 x, .int .i64 y, .int .i64 z, .int .i64 u, .int .i64 v])).run Tryz.prog w = .ok () w := by
  rw [Instr.checkKey]
  simp only [Sem.run_bind, run_underlying Tryz.underlying151, Result.andThen_ok, size_int]
  rw [show ([0:5] : Std.Legacy.Range) = { start := 0, stop := 5, step := 1, step_pos := by decide } from rfl]
  simp [Std.Legacy.Range.forIn_eq_forIn_range', Std.Legacy.Range.size, List.range', part, isAgg_int, ck_int, size_int]
theorem ck_scene {e : Bool} {d : Nat} {w : World} (q x y z u v : Int) : (Instr.checkKey e (d + 3) 153 (.agg #[.int .i64 q, .int .i64 x, .int .i64 y, .int .i64 z, .int .i64 u, .int .i64 v])).run Tryz.prog w = .ok () w := by
  rw [Instr.checkKey]
  simp [run_underlying Tryz.underlying153, part, isAgg_int, isAgg_arr, size_arr, ck_int, ck_arr]
theorem ck_sh {e : Bool} {d : Nat} {w : World} (x y z u v : Int) : (Instr.checkKey e (d + 2) 203 (.agg #[.int .i64 x, .int .i64 y, .int .i64 z, .int .i64 u, .int .i64 v])).run Tryz.prog w = .ok () w := by
  rw [Instr.checkKey]
  simp only [Sem.run_bind, run_underlying Tryz.underlying203, Result.andThen_ok, size_int]
  rw [show ([0:5] : Std.Legacy.Range) = { start := 0, stop := 5, step := 1, step_pos := by decide } from rfl]
  simp [Std.Legacy.Range.forIn_eq_forIn_range', Std.Legacy.Range.size, List.range', part, isAgg_int, ck_int, size_int]
theorem eqIn_sh {d : Nat} {w : World} (x y z u v x' y' z' u' v' : Int) : (Op.equalIn (d + 2) 203 (.agg #[.int .i64 x, .int .i64 y, .int .i64 z, .int .i64 u, .int .i64 v]) (.agg #[.int .i64 x', .int .i64 y', .int .i64 z', .int .i64 u', .int .i64 v'])).run Tryz.prog w =
    .ok ([x, y, z, u, v] == [x', y', z', u', v']) w := by
  rw [Op.equalIn]
  simp only [Sem.run_bind, run_underlying Tryz.underlying203, Result.andThen_ok, size_int]
  rw [show ([0:5] : Std.Legacy.Range) = { start := 0, stop := 5, step := 1, step_pos := by decide } from rfl]
  simp [Std.Legacy.Range.forIn_eq_forIn_range', Std.Legacy.Range.size, List.range', part, isAgg_int, eqIn_int]
  by_cases h1 : x = x' <;> by_cases h2 : y = y' <;> by_cases h3 : z = z' <;> by_cases h4 : u = u' <;> by_cases h5 : v = v' <;> simp [h1, h2, h3, h4, h5]
theorem guard_sh {w : World} (op : BinOp) (x y : Operand) (a b : Array Value) : (eqGuard op 203 x y (.agg a) (.agg b)).run Tryz.prog w = .ok () w := by
  have h0 : Tryz.prog.eqGuardType Tryz.prog.depth 203 = false := by kernel_rfl
  cases op <;> simp [eqGuard, h0]
theorem ck_nm {e : Bool} {d : Nat} {w : World} (x y z u v : Int) : (Instr.checkKey e (d + 2) 115 (.agg #[.int .i64 x, .int .i64 y, .int .i64 z, .int .i64 u, .int .i64 v])).run Tryz.prog w = .ok () w := by
  rw [Instr.checkKey]
  simp only [Sem.run_bind, run_underlying Tryz.underlying115, Result.andThen_ok, size_int]
  rw [show ([0:5] : Std.Legacy.Range) = { start := 0, stop := 5, step := 1, step_pos := by decide } from rfl]
  simp [Std.Legacy.Range.forIn_eq_forIn_range', Std.Legacy.Range.size, List.range', part, isAgg_int, ck_int, size_int]
theorem eqIn_nm {d : Nat} {w : World} (x y z u v x' y' z' u' v' : Int) : (Op.equalIn (d + 2) 115 (.agg #[.int .i64 x, .int .i64 y, .int .i64 z, .int .i64 u, .int .i64 v]) (.agg #[.int .i64 x', .int .i64 y', .int .i64 z', .int .i64 u', .int .i64 v'])).run Tryz.prog w =
    .ok ([x, y, z, u, v] == [x', y', z', u', v']) w := by
  rw [Op.equalIn]
  simp only [Sem.run_bind, run_underlying Tryz.underlying115, Result.andThen_ok, size_int]
  rw [show ([0:5] : Std.Legacy.Range) = { start := 0, stop := 5, step := 1, step_pos := by decide } from rfl]
  simp [Std.Legacy.Range.forIn_eq_forIn_range', Std.Legacy.Range.size, List.range', part, isAgg_int, eqIn_int]
  by_cases h1 : x = x' <;> by_cases h2 : y = y' <;> by_cases h3 : z = z' <;> by_cases h4 : u = u' <;> by_cases h5 : v = v' <;> simp [h1, h2, h3, h4, h5]
theorem guard_nm {w : World} (op : BinOp) (x y : Operand) (a b : Array Value) : (eqGuard op 115 x y (.agg a) (.agg b)).run Tryz.prog w = .ok () w := by
  have h0 : Tryz.prog.eqGuardType Tryz.prog.depth 115 = false := by kernel_rfl
  cases op <;> simp [eqGuard, h0]

theorem eqIn_sp {d : Nat} {w : World} (x y x' y' : Int) : (Op.equalIn (d + 2) 199 (.agg #[.int .i64 x, .int .i64 y]) (.agg #[.int .i64 x', .int .i64 y'])).run Tryz.prog w = .ok ([x, y] == [x', y']) w := by
  have h0 : Tryz.prog.stoodInHeld 199 = false := by kernel_rfl
  simp [Op.equalIn, run_underlying Tryz.underlying199, h0, part, isAgg_int, run_underlying Tryz.underlying3]
  by_cases h1 : x = x' <;> by_cases h2 : y = y' <;> simp [h1, h2]
theorem guard_sp {w : World} (op : BinOp) (x y : Operand) (a b : Array Value) : (eqGuard op 199 x y (.agg a) (.agg b)).run Tryz.prog w = .ok () w := by
  have h0 : Tryz.prog.eqGuardType Tryz.prog.depth 199 = false := by kernel_rfl
  cases op <;> simp [eqGuard, h0]
theorem ck_sp {e : Bool} {d : Nat} {w : World} (x y : Int) : (Instr.checkKey e (d + 2) 199 (.agg #[.int .i64 x, .int .i64 y])).run Tryz.prog w = .ok () w := by
  rw [Instr.checkKey]
  simp [run_underlying Tryz.underlying199, part, isAgg_int, ck_int]
theorem ints_of : ∀ t, (tt t).ints = true → t = 37 ∨ t = 153 ∨ t = 203 ∨ t = 115 ∨ t = 199 := by
  intro t ht
  by_cases hn : t < ttn
  · have : (List.range ttn).all (fun t => !(tt t).ints || decide (t = 37) || decide (t = 153) || decide (t = 203) || decide (t = 115) || decide (t = 199)) = true := by kernel_rfl
    rw [List.all_eq_true] at this
    have := this t (List.mem_range.2 hn)
    simp only [ht, Bool.not_true, Bool.false_or, Bool.or_eq_true, decide_eq_true_eq] at this
    rcases this with (((h | h) | h) | h) | h
    · exact .inl h
    · exact .inr (.inl h)
    · exact .inr (.inr (.inl h))
    · exact .inr (.inr (.inr (.inl h)))
    · exact .inr (.inr (.inr (.inr h)))
  · rw [tt_out t (by simpa [ttn] using hn)] at ht
    cases ht
theorem tabOk : TabOk Tryz.prog tt := by
  refine tabOk_of ttn (fun t ht => tt_high t ht) tt_rows fun t ht a b w ha hb => ?_
  rcases ints_of t ht with rfl | rfl | rfl | rfl | rfl
  · rw [show (tt 37).size = 2 from rfl] at ha hb
    obtain ⟨x, y, rfl⟩ := list2 ha
    obtain ⟨x', y', rfl⟩ := list2 hb
    exact ⟨fun op x y => guard_range op x y _ _, eqIn_range (d := 9998) x y x' y', fun e => ck_range (d := 9998) x y⟩
  · rw [show (tt 153).size = 6 from rfl] at ha hb
    obtain ⟨q, x, y, z, u, v, rfl⟩ := list6 ha
    obtain ⟨q', x', y', z', u', v', rfl⟩ := list6 hb
    exact ⟨fun op x y => guard_scene op x y _ _, eqIn_scene (d := 9997) q x y z u v q' x' y' z' u' v', fun e => ck_scene (d := 9997) q x y z u v⟩
  · rw [show (tt 203).size = 5 from rfl] at ha hb
    obtain ⟨x, y, z, u, v, rfl⟩ := list5 ha
    obtain ⟨x', y', z', u', v', rfl⟩ := list5 hb
    exact ⟨fun op x y => guard_sh op x y _ _, eqIn_sh (d := 9998) x y z u v x' y' z' u' v', fun e => ck_sh (d := 9998) x y z u v⟩
  · rw [show (tt 115).size = 5 from rfl] at ha hb
    obtain ⟨x, y, z, u, v, rfl⟩ := list5 ha
    obtain ⟨x', y', z', u', v', rfl⟩ := list5 hb
    exact ⟨fun op x y => guard_nm op x y _ _, eqIn_nm (d := 9998) x y z u v x' y' z' u' v', fun e => ck_nm (d := 9998) x y z u v⟩
  · rw [show (tt 199).size = 2 from rfl] at ha hb
    obtain ⟨x, y, rfl⟩ := list2 ha
    obtain ⟨x', y', rfl⟩ := list2 hb
    exact ⟨fun op x y => guard_sp op x y _ _, eqIn_sp (d := 9998) x y x' y', fun e => ck_sp (d := 9998) x y⟩
end Go.Vm
