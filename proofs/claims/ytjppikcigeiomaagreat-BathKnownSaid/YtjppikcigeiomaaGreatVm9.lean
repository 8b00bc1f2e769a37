import Derived.Test.YtjppikcigeiomaaGreatVm8
set_option linter.unusedVariables false
set_option linter.unusedSimpArgs false
namespace Go.Vm
theorem intsOf_ok {g : Gh} : ∀ {cs : List V} {l : List Int} {vs : List Value}, intsOf cs = some l → VRL g cs vs → vs = l.map (Value.int .i64)
  | [], l, vs, e, hv => by
    simp only [intsOf, Option.some.injEq] at e
    subst e
    simpa only [VRL, List.map_nil] using hv
  | c :: cs, l, vs, e, hv => by
    unfold intsOf at e
    split at e
    · rename_i heq; cases heq
    · rename_i n cs' heq
      injection heq with h1 h2; subst h1; subst h2
      split at e
      · rename_i l' hl
        injection e with e; subst e
        simp only [VRL] at hv
        obtain ⟨x, vs', rfl, h3, h4⟩ := hv
        simp only [VR] at h3
        subst h3
        rw [intsOf_ok hl h4]; rfl
      · cases e
    · cases e

def cvv : V → Value
  | .int k n => .int k n
  | .bool b => .bool b
  | _ => undef
section
variable {P : Program} {tt : Tab} {fz : Nat → Bool} {orc : Option Bool} {g : Gh} {h h' : Heap} {w : World} {N : Nat} {ρ : Env} {T : Array Value} {v : V} {dst : Option Nat} {ty : TypeId} {pos : String} {after : Array Edge} {gd : Option (Nat × Bool)}

theorem run_eqGuard_int {op : BinOp} {t : Nat} {x y : Operand} {k k' : IntKind} {a b : Int} : (eqGuard op t x y (.int k a) (.int k' b)).run P w = .ok () w := by
  cases op <;> simp [eqGuard]
theorem op_int (H : HRel g h w) (E : ER g N ρ T) {op : BinOp} {t u : Nat} {x y : Operand} {k k' : IntKind} {a b : Int} (hx : ev ρ x = .int k a) (hy : ev ρ y = .int k' b)
    (hv : (if isShift op then vint op k a b else if k = k' then vint op k a b else none) = some v) : OpPost P g h w T ⟨dst, .binOp op t x y u, ty, pos, after, gd⟩ v h := by
  have h1 := ev_ok E x
  have h2 := ev_ok E y
  rw [hx] at h1; rw [hy] at h2; simp only [VR] at h1 h2
  have key : ∃ vc, (binOp op t (.int k a) (.int k' b)).run P w = .ok vc w ∧ VR g v vc := by
    refine ⟨cvv v, ?_⟩
    cases op <;> simp only [isShift, if_true, Bool.false_eq_true, if_false] at hv
    case shl =>
      simp only [vint] at hv
      split at hv
      · cases hv
      · injection hv with hv; subst hv
        rename_i hb
        exact ⟨by simp [binOp, Op.shift, hb, cvv], by simp [VR, cvv]⟩
    case shr =>
      simp only [vint] at hv
      split at hv
      · cases hv
      · injection hv with hv; subst hv
        rename_i hb
        exact ⟨by simp [binOp, Op.shift, hb, cvv], by simp [VR, cvv]⟩
    all_goals (
      split at hv
      case isFalse => cases hv
      rename_i hkk
      subst hkk)
    case quo =>
      simp only [vint] at hv
      split at hv
      · cases hv
      · injection hv with hv; subst hv
        rename_i hb
        exact ⟨by simp [binOp, Op.intDiv, hb, cvv], by simp [VR, cvv]⟩
    case rem =>
      simp only [vint] at hv
      split at hv
      · cases hv
      · injection hv with hv; subst hv
        rename_i hb
        exact ⟨by simp [binOp, Op.intDiv, hb, cvv], by simp [VR, cvv]⟩
    all_goals (
      simp only [vint, Option.some.injEq] at hv
      subst hv
      exact ⟨by simp [binOp, Op.intArith, Op.intBits, Op.intCmp, cvv, vbits], by simp [VR, cvv]⟩)
  obtain ⟨vc, h3, h4⟩ := key
  refine post_pure H ?_ h4
  simp only [execOp, h1, h2, Sem.run_bind, run_eqGuard_int, Result.andThen_ok, h3]
  rfl

theorem run_equalIn_bool {t : Nat} (hu : P.underlying t = some .bool) (a b : Bool) (d : Nat) : (Op.equalIn (d + 1) t (.bool a) (.bool b)).run P w = .ok (a == b) w := by
  simp [Op.equalIn, run_underlying hu]
theorem run_equal_bool {t : Nat} (hu : P.underlying t = some .bool) (a b : Bool) : (Op.equal t (.bool a) (.bool b)).run P w = .ok (a == b) w := run_equalIn_bool hu a b 9999
theorem op_boolEq (H : HRel g h w) (E : ER g N ρ T) (K : TabOk P tt) {op : BinOp} {t u : Nat} {x y : Operand} {a b : Bool} (hx : ev ρ x = .bool a) (hy : ev ρ y = .bool b) (hk : (tt t).kind = 2)
    (hv : (op = .eql ∧ v = .bool (a == b)) ∨ (op = .neq ∧ v = .bool (a != b))) : OpPost P g h w T ⟨dst, .binOp op t x y u, ty, pos, after, gd⟩ v h := by
  have h1 := ev_ok E x
  have h2 := ev_ok E y
  rw [hx] at h1; rw [hy] at h2; simp only [VR] at h1 h2
  have hu := (K t (by omega)).k2 hk
  rcases hv with ⟨rfl, rfl⟩ | ⟨rfl, rfl⟩
  · exact post_pure (vc := .bool (a == b)) H (by simp [execOp, h1, h2, eqGuard, binOp, run_equal_bool hu]) (by simp [VR])
  · exact post_pure (vc := .bool (a != b)) H (by simp [execOp, h1, h2, eqGuard, binOp, run_equal_bool hu, bne]) (by simp [VR])
theorem op_aggEq (H : HRel g h w) (E : ER g N ρ T) (K : TabOk P tt) {op : BinOp} {t u : Nat} {x y : Operand} {xs ys : List V} {a b : List Int} (hx : ev ρ x = .agg xs) (hy : ev ρ y = .agg ys) (hk : (tt t).kind ≠ 0) (hi : (tt t).ints = true)
    (ha : intsOf xs = some a) (hb : intsOf ys = some b) (hal : a.length = (tt t).size) (hbl : b.length = (tt t).size)
    (hv : (op = .eql ∧ v = .bool (a == b)) ∨ (op = .neq ∧ v = .bool (a != b))) : OpPost P g h w T ⟨dst, .binOp op t x y u, ty, pos, after, gd⟩ v h := by
  have h1 := ev_ok E x
  have h2 := ev_ok E y
  rw [hx] at h1; rw [hy] at h2; simp only [VR] at h1 h2
  obtain ⟨va, e1, h1⟩ := h1
  obtain ⟨vb, e2, h2⟩ := h2
  have e3 := intsOf_ok ha h1
  have e4 := intsOf_ok hb h2
  obtain rfl : va = (a.map (Value.int .i64)).toArray := by apply Array.ext'; simpa using e3
  obtain rfl : vb = (b.map (Value.int .i64)).toArray := by apply Array.ext'; simpa using e4
  obtain ⟨q1, q2, _⟩ := (K t hk).ints hi a b w hal hbl
  rcases hv with ⟨rfl, rfl⟩ | ⟨rfl, rfl⟩
  · refine post_pure (vc := .bool (a == b)) H ?_ (by simp [VR])
    simp only [execOp, e1, e2, Sem.run_bind, q1, Result.andThen_ok, binOp, q2]
    rfl
  · refine post_pure (vc := .bool (a != b)) H ?_ (by simp [VR])
    simp only [execOp, e1, e2, Sem.run_bind, q1, Result.andThen_ok, binOp, q2]
    rfl
theorem run_equalIn_nil {t e : Nat} (hu : P.underlying t = some (.slice e)) (a : Option Addr) (n c d : Nat) : (Op.equalIn (d + 1) t (.slice a n c) (.slice none 0 0)).run P w = .ok a.isNone w := by
  cases a <;> simp [Op.equalIn, run_underlying hu]
theorem run_equal_nil {t e : Nat} (hu : P.underlying t = some (.slice e)) (a : Option Addr) (n c : Nat) : (Op.equal t (.slice a n c) (.slice none 0 0)).run P w = .ok a.isNone w := run_equalIn_nil hu a n c 9999
/-- x == nil, x a slice: some answer; where the slice has elements: no. -/
theorem op_nilEq (H : HRel g h w) (E : ER g N ρ T) (K : TabOk P tt) {op : BinOp} {t u : Nat} {x : Operand} (hk : (tt t).kind = 3) (hs : ∃ a n c, evT T x = .slice a n c) (hop : op = .eql ∨ op = .neq) :
    ∃ q : Bool, ∀ b, b = (isNilSlice (ev ρ x)).getD q → OpPost P g h w T ⟨dst, .binOp op t x (.const (.slice none 0 0)) u, ty, pos, after, gd⟩ (if op = .eql then .bool b else .bool (!b)) h := by
  obtain ⟨a, n, c, e⟩ := hs
  have hu := ((K t (by omega)).k3 hk).1
  refine ⟨a.isNone, fun b hb => ?_⟩
  have hba : b = a.isNone := by
    cases hn : isNilSlice (ev ρ x) with
    | none => rw [hn] at hb; exact hb
    | some q =>
      rw [hn] at hb
      have hx := ev_ok E x
      cases hc : ev ρ x <;> rw [hc] at hn hx <;> simp only [isNilSlice, reduceCtorEq] at hn
      split at hn
      · injection hn with hn
        simp only [VR] at hx
        obtain ⟨a', cap, e', hcap, hh⟩ := hx
        rw [e] at e'; injection e' with e1 e2 e3
        rcases hh with ⟨h0, _⟩ | ⟨B, o, ha, _⟩
        · omega
        · simp only [Option.getD_some] at hb
          rw [hb, ← hn, e1, ha]; rfl
      · cases hn
  rcases hop with rfl | rfl
  · refine post_pure (vc := .bool b) H ?_ (by simp [VR])
    have ec : evT T (.const (.slice none 0 0)) = .slice none 0 0 := rfl
    simp [execOp, e, ec, eqGuard, binOp, run_equal_nil hu, hba]
  · refine post_pure (vc := .bool (!b)) H ?_ (by simp [VR])
    have ec : evT T (.const (.slice none 0 0)) = .slice none 0 0 := rfl
    simp [execOp, e, ec, eqGuard, binOp, run_equal_nil hu, hba]
end
end Go.Vm
