import Derived.Test.YtjppikcigeiomaaGreatB1
import Derived.Test.YtjppikcigeiomaaGreatRows
import Derived.WalkKit
import Derived.ProofKit
import Derived.OpenShut
import Derived.ShutString
import Derived.ChangeOld
import Derived.Below
set_option linter.unusedVariables false
set_option linter.unusedSimpArgs false
set_option maxRecDepth 100000
namespace Go.Vm
open Go.Proofs
theorem Ex.scope {P : Program} {b : Frame} {N : Nat} {p : Nat → Bool} {ρ : Env} {D : List Nat} {h : Heap} {Q : Xit → Env → List Nat → Heap → Prop} {c : Code} (e : Ex P b N p ρ D h c Q) : Ex P b N p ρ D h (.scope c) Q := by
  intro g w T Ds k cs h1 h2 h3
  obtain ⟨x', ρ1, D1, hp1, g1, w1, T1, Ds1, q, E1, d1, H1, t1, k1, a1⟩ := e g w T Ds (.inScope c :: k) cs h1 h2 h3
  cases x' with
  | normal => exact ⟨.normal, ρ1, D1, hp1, g1, w1, T1, Ds1, q, E1, d1, H1, t1, k1, ((Steps.one st_scope).trans a1).trans (.one st_inScope)⟩
  | exit id' =>
    obtain ⟨k2, s, ek⟩ := a1
    exact ⟨.exit id', ρ1, D1, hp1, g1, w1, T1, Ds1, q, E1, d1, H1, t1, k1, k2, (Steps.one st_scope).trans s, by rw [ek]; simp [exitTo]⟩
  | ret =>
    obtain ⟨k2, s⟩ := a1
    exact ⟨.ret, ρ1, D1, hp1, g1, w1, T1, Ds1, q, E1, d1, H1, t1, k1, k2, (Steps.one st_scope).trans s⟩
theorem W.scope {P : Program} {tt : Tab} {fz : Nat → Bool} {cl : Cl0} {b : Frame} {N : Nat} {p : Nat → Bool} {Q : Post} {k : List Itm} {ρ : Env} {D : List Nat} {h : Heap} (K : TabOk P tt) (hm : P.follows .mixedOrders = true) {c : Code} (w : W P tt fz cl b N p Q c k ρ D h) : W P tt fz cl b N p Q (.scope c) k ρ D h := Ex.scope (Wp.ok K hm c w)
theorem memo_nil (c : Cu) : MemoOk c [] := ⟨(by intro y hy; cases hy), (by intro y hy; cases hy)⟩
def leastF (c : Cu) : Option (List Int) := (rangeI 0 (c.shovels * (c.last + 1))).findSome? fun many => addF c (sSureP c) (c.last + 1).toNat [] many
def sLeastA (c : Cu) : List Int × Int :=
  if sAsked c true = 0 then (match leastF c with
    | some l => (l, 0)
    | none => ([], 10)) else ([], sAsked c true)
theorem wcs_ren (s : Nat → Nat) (c : Cu) (tr : List Sc) (m : V) : renL s (wcs c tr m) = wcs c tr (m.ren s) := by
  have hS : ∀ l : List Sc, renL s (cS l) = cS l := fun l => by
    induction l with
    | nil => rfl
    | cons x l ih =>
      have : ∀ a b : List V, renL s (a ++ b) = renL s a ++ renL s b := fun a b => by
        induction a with
        | nil => rfl
        | cons y a ih => simp only [List.cons_append, renL, ih]
      simp only [cS, renL, V.ren, this, cI_ren, ih]
  simp only [wcs, renL, V.ren, vI, vR, vD, vS, cI_ren, cR_ren, cD_ren, hS]
set_option maxHeartbeats 2000000 in
theorem c_Least (c : Cu) (hc : c.wf) : Pu Tryz.prog (.fn 105 [] []) [.agg c.cs] (.tup [vI (sLeastA c).1, vi (sLeastA c).2]) := by
  refine Ev.fn Tryz.func105 rfl rfl (Fn.body tabOk Tryz.func105 rfl (Nat.le_of_ble_eq_true rfl) (Ks.ok (fz := (fzn [4, 6, 7])) (cl := (cln [(6, .ex)])) tabOk mixed ?_))
  generalize hQ : FnPost tt Tryz.f105 _ _ = Q
  simp only [Tryz.f105, List.nil_append, List.append_nil, argsEnv]
  simp only [gos, eq_self, Nat.reduceLT, Nat.reduceEqDiff, reduceCtorEq, reduceIte, ↓reduceIte, vgo, vout, vguard, callOf, vop, ev, cv, newRow]
  refine W.scope tabOk mixed ?_
  simp only [gos, eq_self, Nat.reduceLT, Nat.reduceEqDiff, reduceCtorEq, reduceIte, ↓reduceIte, tt, vgo, vout, vguard, callOf, vop, ev, cv, vload]
  by_cases h0 : sAsked c true = 0
  case neg =>
    refine Cl.mk (c_askedN c hc true h0) ?_
    rintro v h' ⟨rfl, rfl⟩
    have hb : (sAsked c true != 0) = true := by simp [h0]
    simp only [gos, eq_self, Nat.reduceLT, Nat.reduceEqDiff, Nat.reduceAdd, reduceCtorEq, reduceIte, ↓reduceIte, tt, vgo, vout, vguard, callOf, vop, ev, cv, vbin, vint, isShift, isNilConst, newRow, hb]
    subst hQ
    have hr : sLeastA c = ([], sAsked c true) := by simp [sLeastA, h0]
    rw [hr]
    exact FnPost.plain trivial (v := .tup [.sl0, vi (sAsked c true)]) (fun h2 e => by rfl) (WkV.trans (WkV.pure rfl) WkV.nil1) ⟨rfl, rfl⟩
  refine Cl.mk (c_askedY c hc true h0) ?_
  rintro v h' ⟨rfl, rfl⟩
  have A := askOk_of h0
  have hl := A.k0.last
  have hsh := A.k0.shovels
  simp only [gos, eq_self, Nat.reduceLT, Nat.reduceEqDiff, Nat.reduceAdd, reduceCtorEq, reduceIte, ↓reduceIte, tt, vgo, vout, vguard, callOf, vop, ev, cv, vbin, vint, isShift, isNilConst, newRow]
  refine Wr.at tabOk 2 ?_
  simp only [gos, eq_self, Nat.reduceLT, Nat.reduceEqDiff, Nat.reduceAdd, reduceCtorEq, reduceIte, ↓reduceIte, tt, vgo, vout, vguard, callOf, vop, ev]
  refine Wa.mk (Wk.trans (Wk.freeze 4 rfl rfl (by simp only [intoL, V.into]; rw [wc_into _ _ _ _ (by rfl)]; rfl) rfl) (Wk.ren 7 70 rfl rfl)) ?_
  simp only [frzE, frzH, V.frz, frzL, Blk.frz, renE, renH, V.ren, renL, Blk.ren, sw, cu_frz, wcs_frz', cu_ren, wcs_ren, frzPs, renPs, gos, eq_self, Nat.reduceLT, Nat.reduceEqDiff, reduceCtorEq, reduceIte, ↓reduceIte, tt, vgo, vout, vguard, callOf, vop, ev, cv, vbin, vint, isShift, isNilConst, vload]
  have hX : 0 ≤ c.shovels * (c.last + 1) ∧ c.shovels * (c.last + 1) ≤ 15 := by
    have : c.shovels = 0 ∨ c.shovels = 1 ∨ c.shovels = 2 ∨ c.shovels = 3 := by omega
    rcases this with e | e | e | e <;> rw [e] <;> omega
  have hT : (((c.last + 1).toNat : Nat) : Int) = c.last + 1 := by omega
  rw [i64_in (show -9223372036854775808 ≤ c.last + 1 by omega) (show c.last + 1 ≤ 9223372036854775807 by omega)]
  generalize hx : c.shovels * (c.last + 1) = x at hX ⊢
  rw [i64_in (show -9223372036854775808 ≤ x by omega) (show x ≤ 9223372036854775807 by omega), i64_in (show -9223372036854775808 ≤ x + 1 by omega) (show x + 1 ≤ 9223372036854775807 by omega)]
  refine W.loop tabOk mixed (fun a : Nat × Memo × Option (List Int) => ([(1, .rop c.cs), (2, .sl0), (3, vi 0), (6, .ptr 6 0 0), (7, .ptr 70 0 0), (8, .bool false), (25, vi (x + 1)), (26, vi a.1)], leH c a.2.1 a.2.2)) (fun a => (x + 1).toNat - a.1)
    (fun a => (a.1 : Int) ≤ x + 1 ∧ MemoOk c a.2.1 ∧ ∀ j : Nat, j < a.1 → addF c (sSureP c) (c.last + 1).toNat [] (j : Int) = none) (0, [], none) ⟨by simp only; omega, memo_nil c, fun j hj => by simp at hj⟩ (Wk.env (by simp [subE, Env.get])) ?_
  rintro ⟨i, m1, f1⟩ ⟨hi, M1, hno⟩
  simp only at hi M1 hno ⊢
  by_cases hil : (i : Int) < x + 1
  · simp only [gos, eq_self, Nat.reduceLT, Nat.reduceEqDiff, reduceCtorEq, reduceIte, ↓reduceIte, tt, vgo, vout, vguard, callOf, vop, ev, cv, vbin, vint, isShift, isNilConst, vload, hil, leH]
    refine Cl.less (cs := [vI [], vi i]) (ImpV.refl _) ⟨sl0_vI, ImpV.refl _, trivial⟩ (Cl.mk (c_add c A (c.last + 1).toNat [] i m1 f1 (by simp; omega) (by intro y hy; cases hy) (by omega) M1) ?_)
    rintro v h' ⟨m2, f2, M2, hf2, rfl, rfl⟩
    cases hr : addF c (sSureP c) (c.last + 1).toNat [] (i : Int) with
    | some l =>
      simp only [gos, eq_self, Nat.reduceLT, Nat.reduceEqDiff, reduceCtorEq, reduceIte, ↓reduceIte, tt, vgo, vout, vguard, callOf, vop, ev, cv, vload, Option.isSome_some, hf2 l hr, leH, fV]
      subst hQ
      have hrr : leastF c = some l := by
        rw [leastF, hx]
        have e0 : ∀ n : Nat, (0 : Int) + n = n := fun n => by omega
        exact findSome_some (i := i) (by omega) (by rw [e0]; exact hr) (fun j hj => by rw [e0]; exact hno j hj)
      have hrs : sLeastA c = (l, 0) := by rw [sLeastA, if_pos h0, hrr]
      rw [hrs]
      exact FnPost.plain trivial (v := .tup [vI l, vi 0]) (fun h2 e => by rfl) (WkV.pure (by simp only [V.into, intoL, vI_into, Bool.and_true])) ⟨rfl, rfl⟩
    | none =>
      simp only [gos, eq_self, Nat.reduceLT, Nat.reduceEqDiff, reduceIte, ↓reduceIte, vgo, vout, vguard, callOf, vop, ev, cv, vbin, vint, isShift, isNilConst, Option.isSome_none]
      refine Nx.mk (i + 1, m2, f2) (show (x + 1).toNat - (i + 1) < (x + 1).toNat - i by omega) ⟨by simp only; omega, M2, fun j hj => ?_⟩ (Wk.env ?_)
      · rcases Nat.lt_succ_iff_lt_or_eq.1 hj with h | rfl
        · exact hno j h
        · exact hr
      · simp [subE, Env.get, i64_succ (show (i : Int) < 9223372036854775807 by omega)]
  · have hrr : leastF c = none := by
      rw [leastF, hx]
      refine findSome_none fun j hj => ?_
      rw [Int.zero_add]
      exact hno j (by omega)
    simp only [gos, eq_self, Nat.reduceLT, Nat.reduceEqDiff, reduceIte, ↓reduceIte, vgo, vout, vguard, callOf, vop, ev, cv, vbin, vint, isShift, isNilConst, hil]
    subst hQ
    have hrs : sLeastA c = ([], 10) := by rw [sLeastA, if_pos h0, hrr]
    rw [hrs]
    exact FnPost.plain trivial (v := .tup [.sl0, vi 10]) (fun h2 e => by rfl) (WkV.trans (WkV.pure rfl) WkV.nil1) ⟨rfl, rfl⟩
end Go.Vm

set_option linter.unusedVariables false
set_option linter.unusedSimpArgs false
set_option maxRecDepth 100000
namespace Go.Vm
open Go.Proofs
/-- The coppers with their first readings alone. -/
def cut (c : Cu) (n : Nat) : Cu := { c with readings := c.readings.take n }
def sPoss (c : Cu) (out : List Int) : Bool := (truths c).any fun s => sRight c s out
end Go.Vm

set_option linter.unusedVariables false
set_option linter.unusedSimpArgs false
set_option maxRecDepth 100000
namespace Go.Vm
open Go.Proofs
/-! ### the smallest set -/
theorem genH_ne (c : Cu) (k0 : CuOk c) : ∀ (k hour : Nat) (ls : List Int), hour + k ≤ c.loss.length → genH c k hour ls ≠ []
  | 0, hour, ls, _ => by simp [genH]
  | k + 1, hour, ls, h => by
    have hll : (hour : Int) < c.loss.length := by omega
    have hin := k0.loss.2 _ (List.mem_of_getElem? (gR_get hll))
    simp only [sInside, Bool.and_eq_true, decide_eq_true_eq] at hin
    have h1 := genH_ne c k0 k (hour + 1) (ls.set hour (gR c.loss hour).lo) (by omega)
    obtain ⟨x, hx⟩ := List.exists_mem_of_ne_nil _ h1
    refine List.ne_nil_of_mem (a := x) ?_
    simp only [genH, List.mem_flatMap]
    refine ⟨(gR c.loss hour).lo, ?_, hx⟩
    simp only [rangeI, List.mem_map, List.mem_range]
    exact ⟨0, by omega, by simp⟩
theorem truths_ne {c : Cu} (k0 : CuOk c) : truths c ≠ [] := by
  have hh := k0.heat
  simp only [sInside, Bool.and_eq_true, decide_eq_true_eq] at hh
  obtain ⟨x, hx⟩ := List.exists_mem_of_ne_nil _ (genH_ne c k0 (c.last + 1).toNat 0 zL (by have := k0.loss.1; omega))
  refine List.ne_nil_of_mem (a := (⟨c.heat.lo, x⟩ : Sc)) ?_
  simp only [truths, List.mem_flatMap, List.mem_map]
  refine ⟨c.heat.lo, ?_, x, hx, rfl⟩
  simp only [rangeI, List.mem_map, List.mem_range]
  exact ⟨0, by omega, by simp⟩
/-- The first n numbers. -/
def upto (n : Nat) : List Int := (List.range n).map fun (i : Nat) => (i : Int)
end Go.Vm

set_option linter.unusedVariables false
set_option linter.unusedSimpArgs false
set_option maxRecDepth 100000
namespace Go.Vm
open Go.Proofs
/-! ### the reference: what is valid -/
theorem c_rIn (a b c : Int) : Pu Tryz.prog (.fn 37 [] []) [vi a, vi b, vi c] (.bool (sIn a b c)) := by
  refine Ev.fn Tryz.func37 rfl rfl (Fn.body tabOk Tryz.func37 rfl (Nat.le_of_ble_eq_true rfl) (Ks.ok (fz := (fzn [])) (cl := (cln [])) tabOk mixed ?_))
  generalize hQ : FnPost tt Tryz.f37 _ _ = Q
  simp only [Tryz.f37, List.nil_append, List.append_nil, argsEnv, Nat.reduceAdd]
  by_cases h : b ≤ a
  · simp only [gos, eq_self, Nat.reduceLT, Nat.reduceEqDiff, reduceCtorEq, reduceIte, ↓reduceIte, vgo, vout, vguard, callOf, vop, ev, cv, vbin, vint, isShift, isNilConst, h]
    subst hQ
    exact FnPost.plain trivial (fun h2 e => by first | rfl | (simp only [Tryz.f37, vres, vresL, vres1, e _, gos, if_true, if_false, ne_eq, eq_self, Nat.reduceLT, Nat.reduceEqDiff, Nat.reduceAdd, Nat.reduceMul, Nat.reduceLeDiff, Nat.reduceBEq, reduceCtorEq, reduceIte, Array.toList, ↓reduceIte, tt, vgo, vout, vgoD, voutD, vclsOk, vids, mayWrite, V.ids, V.mids, vguard, callOf, vop, ev, cv, vbin, vint, isShift, isNilConst, vnil, isNilSlice, vload, vlen, newRow, vfill, vslice, entOf, vappend, srcOf, vcopy, vlookup, vupdate, mapOk, keyOf, intsOf, clsAt]; try rfl)) (WkV.pure (by simp only [V.into])) ⟨by simp [sIn, h], rfl⟩
  · simp only [gos, eq_self, Nat.reduceLT, Nat.reduceEqDiff, reduceCtorEq, reduceIte, ↓reduceIte, vgo, vout, vguard, callOf, vop, ev, cv, vbin, vint, isShift, isNilConst, h]
    subst hQ
    exact FnPost.plain trivial (fun h2 e => by first | rfl | (simp only [Tryz.f37, vres, vresL, vres1, e _, gos, if_true, if_false, ne_eq, eq_self, Nat.reduceLT, Nat.reduceEqDiff, Nat.reduceAdd, Nat.reduceMul, Nat.reduceLeDiff, Nat.reduceBEq, reduceCtorEq, reduceIte, Array.toList, ↓reduceIte, tt, vgo, vout, vgoD, voutD, vclsOk, vids, mayWrite, V.ids, V.mids, vguard, callOf, vop, ev, cv, vbin, vint, isShift, isNilConst, vnil, isNilSlice, vload, vlen, newRow, vfill, vslice, entOf, vappend, srcOf, vcopy, vlookup, vupdate, mapOk, keyOf, intsOf, clsAt]; try rfl)) (WkV.pure (by simp only [V.into])) ⟨by simp [sIn, h], rfl⟩
theorem c_rIs (n : Int) (r : Rg) : Pu Tryz.prog (.fn 136 [] []) [vi n, .agg [vi r.lo, vi r.hi]] (.bool (sIn n r.lo r.hi)) := by
  refine Ev.fn Tryz.func136 rfl rfl (Fn.body tabOk Tryz.func136 rfl (Nat.le_of_ble_eq_true rfl) (Ks.ok (fz := (fzn [])) (cl := (cln [])) tabOk mixed ?_))
  generalize hQ : FnPost tt Tryz.f136 _ _ = Q
  simp only [Tryz.f136, List.nil_append, List.append_nil, argsEnv, Nat.reduceAdd]
  simp only [gos, eq_self, Nat.reduceLT, Nat.reduceEqDiff, reduceCtorEq, reduceIte, ↓reduceIte, tt, vgo, vout, vguard, callOf, vop, ev, cv, vload, newRow]
  refine Cl.pu (c_rIn _ _ _) ?_
  simp only [gos, eq_self, Nat.reduceLT, reduceIte, ↓reduceIte, vgo, vout, vguard, callOf, vop, ev]
  subst hQ
  exact FnPost.plain trivial (fun h2 e => by first | rfl | (simp only [Tryz.f136, vres, vresL, vres1, e _, gos, if_true, if_false, ne_eq, eq_self, Nat.reduceLT, Nat.reduceEqDiff, Nat.reduceAdd, Nat.reduceMul, Nat.reduceLeDiff, Nat.reduceBEq, reduceCtorEq, reduceIte, Array.toList, ↓reduceIte, tt, vgo, vout, vgoD, voutD, vclsOk, vids, mayWrite, V.ids, V.mids, vguard, callOf, vop, ev, cv, vbin, vint, isShift, isNilConst, vnil, isNilSlice, vload, vlen, newRow, vfill, vslice, entOf, vappend, srcOf, vcopy, vlookup, vupdate, mapOk, keyOf, intsOf, clsAt]; try rfl)) (WkV.pure (by simp only [V.into])) ⟨rfl, rfl⟩
theorem c_rInside (r : Rg) (n : Int) : Pu Tryz.prog (.fn 118 [] []) [.agg [vi r.lo, vi r.hi], vi n] (.bool (sInside r n)) := by
  refine Ev.fn Tryz.func118 rfl rfl (Fn.body tabOk Tryz.func118 rfl (Nat.le_of_ble_eq_true rfl) (Ks.ok (fz := (fzn [])) (cl := (cln [])) tabOk mixed ?_))
  generalize hQ : FnPost tt Tryz.f118 _ _ = Q
  simp only [Tryz.f118, List.nil_append, List.append_nil, argsEnv, Nat.reduceAdd]
  by_cases h : 0 ≤ r.lo
  · by_cases h2 : r.lo ≤ r.hi
    · simp only [gos, eq_self, Nat.reduceLT, Nat.reduceEqDiff, reduceCtorEq, reduceIte, ↓reduceIte, tt, vgo, vout, vguard, callOf, vop, ev, cv, vbin, vint, isShift, isNilConst, vload, newRow, h, h2]
      subst hQ
      exact FnPost.plain trivial (fun h2 e => by first | rfl | (simp only [Tryz.f118, vres, vresL, vres1, e _, gos, if_true, if_false, ne_eq, eq_self, Nat.reduceLT, Nat.reduceEqDiff, Nat.reduceAdd, Nat.reduceMul, Nat.reduceLeDiff, Nat.reduceBEq, reduceCtorEq, reduceIte, Array.toList, ↓reduceIte, tt, vgo, vout, vgoD, voutD, vclsOk, vids, mayWrite, V.ids, V.mids, vguard, callOf, vop, ev, cv, vbin, vint, isShift, isNilConst, vnil, isNilSlice, vload, vlen, newRow, vfill, vslice, entOf, vappend, srcOf, vcopy, vlookup, vupdate, mapOk, keyOf, intsOf, clsAt]; try rfl)) (WkV.pure (by simp only [V.into])) ⟨by simp [sInside, h, h2], rfl⟩
    · simp only [gos, eq_self, Nat.reduceLT, Nat.reduceEqDiff, reduceCtorEq, reduceIte, ↓reduceIte, tt, vgo, vout, vguard, callOf, vop, ev, cv, vbin, vint, isShift, isNilConst, vload, newRow, h, h2]
      subst hQ
      exact FnPost.plain trivial (fun h2 e => by first | rfl | (simp only [Tryz.f118, vres, vresL, vres1, e _, gos, if_true, if_false, ne_eq, eq_self, Nat.reduceLT, Nat.reduceEqDiff, Nat.reduceAdd, Nat.reduceMul, Nat.reduceLeDiff, Nat.reduceBEq, reduceCtorEq, reduceIte, Array.toList, ↓reduceIte, tt, vgo, vout, vgoD, voutD, vclsOk, vids, mayWrite, V.ids, V.mids, vguard, callOf, vop, ev, cv, vbin, vint, isShift, isNilConst, vnil, isNilSlice, vload, vlen, newRow, vfill, vslice, entOf, vappend, srcOf, vcopy, vlookup, vupdate, mapOk, keyOf, intsOf, clsAt]; try rfl)) (WkV.pure (by simp only [V.into])) ⟨by simp [sInside, h, h2], rfl⟩
  · simp only [gos, eq_self, Nat.reduceLT, Nat.reduceEqDiff, reduceCtorEq, reduceIte, ↓reduceIte, tt, vgo, vout, vguard, callOf, vop, ev, cv, vbin, vint, isShift, isNilConst, vload, newRow, h]
    subst hQ
    exact FnPost.plain trivial (fun h2 e => by first | rfl | (simp only [Tryz.f118, vres, vresL, vres1, e _, gos, if_true, if_false, ne_eq, eq_self, Nat.reduceLT, Nat.reduceEqDiff, Nat.reduceAdd, Nat.reduceMul, Nat.reduceLeDiff, Nat.reduceBEq, reduceCtorEq, reduceIte, Array.toList, ↓reduceIte, tt, vgo, vout, vgoD, voutD, vclsOk, vids, mayWrite, V.ids, V.mids, vguard, callOf, vop, ev, cv, vbin, vint, isShift, isNilConst, vnil, isNilSlice, vload, vlen, newRow, vfill, vslice, entOf, vappend, srcOf, vcopy, vlookup, vupdate, mapOk, keyOf, intsOf, clsAt]; try rfl)) (WkV.pure (by simp only [V.into])) ⟨by simp [sInside, h], rfl⟩
theorem c_rSize (r : Rg) (h1 : I64 (r.hi - r.lo)) (h2 : I64 (sSize r)) : Pu Tryz.prog (.fn 135 [] []) [.agg [vi r.lo, vi r.hi]] (vi (sSize r)) := by
  refine Ev.fn Tryz.func135 rfl rfl (Fn.body tabOk Tryz.func135 rfl (Nat.le_of_ble_eq_true rfl) (Ks.ok (fz := (fzn [])) (cl := (cln [])) tabOk mixed ?_))
  generalize hQ : FnPost tt Tryz.f135 _ _ = Q
  simp only [Tryz.f135, List.nil_append, List.append_nil, argsEnv]
  simp only [gos, eq_self, Nat.reduceLT, Nat.reduceEqDiff, reduceCtorEq, reduceIte, ↓reduceIte, tt, vgo, vout, vguard, callOf, vop, ev, cv, vbin, vint, isShift, isNilConst, vload, newRow, i64_in h1.1 h1.2]
  subst hQ
  exact FnPost.plain trivial (fun h2 e => by first | rfl | (simp only [Tryz.f135, vres, vresL, vres1, e _, gos, if_true, if_false, ne_eq, eq_self, Nat.reduceLT, Nat.reduceEqDiff, Nat.reduceAdd, Nat.reduceMul, Nat.reduceLeDiff, Nat.reduceBEq, reduceCtorEq, reduceIte, Array.toList, ↓reduceIte, tt, vgo, vout, vgoD, voutD, vclsOk, vids, mayWrite, V.ids, V.mids, vguard, callOf, vop, ev, cv, vbin, vint, isShift, isNilConst, vnil, isNilSlice, vload, vlen, newRow, vfill, vslice, entOf, vappend, srcOf, vcopy, vlookup, vupdate, mapOk, keyOf, intsOf, clsAt]; try rfl)) (WkV.pure (by simp only [V.into])) ⟨by rw [i64_in (n := r.hi - r.lo + 1) h2.1 h2.2]; rfl, rfl⟩
def rEach (c : Cu) (l : List Int) (most : Int) : Bool := decide ((l.length : Int) = c.last + 1) && l.all fun n => sIn n 0 most
theorem c_rEach (c : Cu) (l : List Int) (most : Int) (hc : I64 c.last) (hl : (l.length : Int) ≤ 1000000) : Pu Tryz.prog (.fn 117 [] []) [.agg c.cs, vI l, vi most] (.bool (rEach c l most)) := by
  refine Ev.fn Tryz.func117 rfl rfl (Fn.body tabOk Tryz.func117 rfl (Nat.le_of_ble_eq_true rfl) (Ks.ok (fz := (fzn [])) (cl := (cln [])) tabOk mixed ?_))
  generalize hQ : FnPost tt Tryz.f117 _ _ = Q
  simp only [Tryz.f117, List.nil_append, List.append_nil, argsEnv, Nat.reduceAdd]
  have e := len_wrap hc (k := l.length) hl
  by_cases h : (l.length : Int) = c.last + 1
  case neg =>
    have hb2 : ((l.length : Int) != IntKind.i64.wrap (c.last + 1)) = true := by rw [bne_iff_ne, ne_eq, e]; exact h
    simp only [gos, eq_self, Nat.reduceLT, Nat.reduceEqDiff, reduceCtorEq, reduceIte, ↓reduceIte, tt, vgo, vout, vguard, callOf, vop, ev, cv, vbin, vint, isShift, isNilConst, vload, vlen, newRow, vI, hb2]
    subst hQ
    exact FnPost.plain trivial (fun h2 e => by first | rfl | (simp only [Tryz.f117, vres, vresL, vres1, e _, gos, if_true, if_false, ne_eq, eq_self, Nat.reduceLT, Nat.reduceEqDiff, Nat.reduceAdd, Nat.reduceMul, Nat.reduceLeDiff, Nat.reduceBEq, reduceCtorEq, reduceIte, Array.toList, ↓reduceIte, tt, vgo, vout, vgoD, voutD, vclsOk, vids, mayWrite, V.ids, V.mids, vguard, callOf, vop, ev, cv, vbin, vint, isShift, isNilConst, vnil, isNilSlice, vload, vlen, newRow, vfill, vslice, entOf, vappend, srcOf, vcopy, vlookup, vupdate, mapOk, keyOf, intsOf, clsAt]; try rfl)) (WkV.pure (by simp only [V.into])) ⟨by simp [rEach, h], rfl⟩
  have hb2 : ((l.length : Int) != IntKind.i64.wrap (c.last + 1)) = false := by rw [bne_eq_false_iff_eq, e]; exact h
  simp only [gos, eq_self, Nat.reduceLT, Nat.reduceEqDiff, reduceCtorEq, reduceIte, ↓reduceIte, tt, vgo, vout, vguard, callOf, vop, ev, cv, vbin, vint, isShift, isNilConst, vload, vlen, newRow, vI, hb2]
  refine W.loop tabOk mixed (fun i : Nat => ([(1, vI l), (2, vi most), (3, .rop c.cs), (7, vi i)], [])) (fun i => l.length - i) (fun i => i ≤ l.length ∧ ∀ j : Nat, j < i → sIn (gi l j) 0 most = true) 0 ⟨by omega, fun j hj => by omega⟩ (Wk.env (by simp [subE, Env.get, vI])) ?_
  rintro i ⟨hi, hno⟩
  by_cases hil : (i : Int) < l.length
  · simp only [gos, eq_self, Nat.reduceLT, Nat.reduceEqDiff, reduceCtorEq, reduceIte, ↓reduceIte, tt, vgo, vout, vguard, callOf, vop, ev, cv, vbin, vint, isShift, isNilConst, vload, vlen, vI, hil, cI_at (Int.natCast_nonneg i) hil]
    refine Cl.pu (c_rIn _ _ _) ?_
    cases hr : sIn (gi l i) 0 most with
    | true =>
      simp only [gos, eq_self, Nat.reduceLT, Nat.reduceEqDiff, reduceIte, ↓reduceIte, vgo, vout, vguard, callOf, vop, ev, cv, vbin, vint, isShift, isNilConst]
      refine Nx.mk (i + 1) (show l.length - (i + 1) < l.length - i by omega) ⟨by omega, fun j hj => ?_⟩ (Wk.env (by simp [subE, Env.get, i64_succ (show (i : Int) < 9223372036854775807 by omega)]))
      rcases Nat.lt_succ_iff_lt_or_eq.1 hj with h | rfl
      · exact hno j h
      · exact hr
    | false =>
      simp only [gos, eq_self, Nat.reduceLT, reduceIte, ↓reduceIte, vgo, vout, vguard, callOf, vop, ev, cv]
      subst hQ
      exact FnPost.plain trivial (fun h2 e => by first | rfl | (simp only [Tryz.f117, vres, vresL, vres1, e _, gos, if_true, if_false, ne_eq, eq_self, Nat.reduceLT, Nat.reduceEqDiff, Nat.reduceAdd, Nat.reduceMul, Nat.reduceLeDiff, Nat.reduceBEq, reduceCtorEq, reduceIte, Array.toList, ↓reduceIte, tt, vgo, vout, vgoD, voutD, vclsOk, vids, mayWrite, V.ids, V.mids, vguard, callOf, vop, ev, cv, vbin, vint, isShift, isNilConst, vnil, isNilSlice, vload, vlen, newRow, vfill, vslice, entOf, vappend, srcOf, vcopy, vlookup, vupdate, mapOk, keyOf, intsOf, clsAt]; try rfl)) (WkV.pure (by simp only [V.into])) ⟨by simp only [rEach, all_gi_false (f := fun n => sIn n 0 most) hil hr, Bool.and_false], rfl⟩
  · simp only [gos, eq_self, Nat.reduceLT, Nat.reduceEqDiff, reduceIte, ↓reduceIte, tt, vgo, vout, vguard, callOf, vop, ev, cv, vbin, vint, isShift, isNilConst, vlen, vI, hil]
    subst hQ
    exact FnPost.plain trivial (fun h2 e => by first | rfl | (simp only [Tryz.f117, vres, vresL, vres1, e _, gos, if_true, if_false, ne_eq, eq_self, Nat.reduceLT, Nat.reduceEqDiff, Nat.reduceAdd, Nat.reduceMul, Nat.reduceLeDiff, Nat.reduceBEq, reduceCtorEq, reduceIte, Array.toList, ↓reduceIte, tt, vgo, vout, vgoD, voutD, vclsOk, vids, mayWrite, V.ids, V.mids, vguard, callOf, vop, ev, cv, vbin, vint, isShift, isNilConst, vnil, isNilSlice, vload, vlen, newRow, vfill, vslice, entOf, vappend, srcOf, vcopy, vlookup, vupdate, mapOk, keyOf, intsOf, clsAt]; try rfl)) (WkV.pure (by simp only [V.into])) ⟨by rw [rEach, h, all_gi (f := fun n => sIn n 0 most) fun j hj => hno j (by omega)]; simp, rfl⟩
def rMany (c : Cu) : Int := c.loss.foldl (fun m r => min 3000 (m * sSize r)) (sSize c.heat)
def rManyL (n : Int) (l : List Rg) : Int := l.foldl (fun m r => min 3000 (m * sSize r)) n
theorem rManyL_succ {l : List Rg} {n : Int} {i : Nat} (hi : (i : Int) < l.length) : rManyL n (l.take (i + 1)) = min 3000 (rManyL n (l.take i) * sSize (gR l i)) := by
  have e : l.take (i + 1) = l.take i ++ [gR l i] := by rw [List.take_add_one, gR_get hi]; rfl
  rw [e, rManyL, List.foldl_append]; rfl
theorem rManyL_le {n : Int} (hn : 1 ≤ n ∧ n ≤ 3000) : ∀ {l : List Rg}, (∀ r ∈ l, sInside r 99 = true) → 1 ≤ rManyL n l ∧ rManyL n l ≤ 3000
  | [], _ => hn
  | r :: l, h => by
    have hr := size_le (h r (by simp))
    have h0 : 1 ≤ n * sSize r := by have := Int.mul_le_mul hn.1 hr.1 (by omega) (by omega); omega
    exact rManyL_le (n := min 3000 (n * sSize r)) (by omega) fun x hx => h x (by simp [hx])
theorem c_rMany (c : Cu) (hh : sInside c.heat 99 = true) (hl : (c.loss.length : Int) ≤ 1000000) (hall : ∀ r ∈ c.loss, sInside r 99 = true) : Pu Tryz.prog (.fn 93 [] []) [.agg c.cs] (vi (rMany c)) := by
  have hz := size_le hh
  refine Ev.fn Tryz.func93 rfl rfl (Fn.body tabOk Tryz.func93 rfl (Nat.le_of_ble_eq_true rfl) (Ks.ok (fz := (fzn [])) (cl := (cln [])) tabOk mixed ?_))
  generalize hQ : FnPost tt Tryz.f93 _ _ = Q
  simp only [Tryz.f93, List.nil_append, List.append_nil, argsEnv]
  simp only [gos, eq_self, Nat.reduceLT, Nat.reduceEqDiff, Nat.reduceLeDiff, reduceCtorEq, reduceIte, ↓reduceIte, tt, vgo, vout, vguard, callOf, vop, ev, cv, vload, newRow]
  refine Cl.pu (c_rSize c.heat ⟨by omega, by omega⟩ ⟨by omega, by omega⟩) ?_
  simp only [gos, eq_self, Nat.reduceLT, reduceIte, ↓reduceIte, vgo, vout, vguard, callOf, vop, ev, cv]
  refine W.loop tabOk mixed (fun i : Nat => ([(1, .rop c.cs), (3, vi (rManyL (sSize c.heat) (c.loss.take i))), (4, vi i)], [])) (fun i => c.loss.length - i) (fun i => i ≤ c.loss.length) 0 (by omega) (Wk.env (by simp [subE, Env.get, rManyL])) ?_
  intro i hi
  by_cases hil : (i : Int) < c.loss.length
  · simp only [gos, eq_self, Nat.reduceLT, Nat.reduceEqDiff, reduceCtorEq, reduceIte, ↓reduceIte, tt, vgo, vout, vguard, callOf, vop, ev, vbin, vint, isShift, isNilConst, vload, vlen, vR, hil, cR_at (Int.natCast_nonneg i) hil]
    have hr := size_le (hall _ (List.mem_of_getElem? (gR_get hil)))
    have hm := rManyL_le (n := sSize c.heat) ⟨by omega, by omega⟩ (l := c.loss.take i) fun r hr => hall r (List.mem_of_mem_take hr)
    refine Cl.pu (c_rSize (gR c.loss i) ⟨by omega, by omega⟩ ⟨by omega, by omega⟩) ?_
    have h0 : 0 ≤ rManyL (sSize c.heat) (c.loss.take i) * sSize (gR c.loss i) := Int.mul_nonneg (by omega) (by omega)
    have h100 : rManyL (sSize c.heat) (c.loss.take i) * sSize (gR c.loss i) ≤ 3000 * 100 := Int.mul_le_mul hm.2 hr.2.1 (by omega) (by omega)
    simp only [gos, eq_self, Nat.reduceLT, Nat.reduceEqDiff, reduceIte, ↓reduceIte, vgo, vout, vguard, callOf, vop, ev, cv, vbin, vint, isShift, isNilConst, i64_in (show -9223372036854775808 ≤ rManyL (sSize c.heat) (c.loss.take i) * sSize (gR c.loss i) by omega) (show rManyL (sSize c.heat) (c.loss.take i) * sSize (gR c.loss i) ≤ 9223372036854775807 by omega)]
    exact Nx.mk (i + 1) (show c.loss.length - (i + 1) < c.loss.length - i by omega) (by omega) (Wk.env (by simp [subE, Env.get, rManyL_succ hil, i64_succ (show (i : Int) < 9223372036854775807 by omega)]))
  · simp only [gos, eq_self, Nat.reduceLT, Nat.reduceEqDiff, reduceCtorEq, reduceIte, ↓reduceIte, tt, vgo, vout, vguard, callOf, vop, ev, vbin, vint, isShift, isNilConst, vload, vlen, vR, hil]
    have e : c.loss.take i = c.loss := List.take_of_length_le (by omega)
    rw [e]
    subst hQ
    exact FnPost.plain trivial (fun h2 e => by first | rfl | (simp only [Tryz.f93, vres, vresL, vres1, e _, gos, if_true, if_false, ne_eq, eq_self, Nat.reduceLT, Nat.reduceEqDiff, Nat.reduceAdd, Nat.reduceMul, Nat.reduceLeDiff, Nat.reduceBEq, reduceCtorEq, reduceIte, Array.toList, ↓reduceIte, tt, vgo, vout, vgoD, voutD, vclsOk, vids, mayWrite, V.ids, V.mids, vguard, callOf, vop, ev, cv, vbin, vint, isShift, isNilConst, vnil, isNilSlice, vload, vlen, newRow, vfill, vslice, entOf, vappend, srcOf, vcopy, vlookup, vupdate, mapOk, keyOf, intsOf, clsAt]; try rfl)) (WkV.pure (by simp only [V.into])) ⟨rfl, rfl⟩
end Go.Vm

set_option linter.unusedVariables false
set_option linter.unusedSimpArgs false
set_option maxRecDepth 100000
namespace Go.Vm
open Go.Proofs
theorem many_same : ∀ (l : List Rg) (a b : Int), 1 ≤ a → 1 ≤ b → min a 2001 = min b 2001 → (∀ r ∈ l, 1 ≤ sSize r) → min (sManyL a l) 2001 = min (rManyL b l) 2001
  | [], a, b, _, _, h, _ => h
  | r :: l, a, b, ha, hb, h, hs => by
    have h1 := hs r (by simp)
    have e1 : sManyL a (r :: l) = sManyL (min (a * sSize r) 2001) l := rfl
    have e2 : rManyL b (r :: l) = rManyL (min 3000 (b * sSize r)) l := rfl
    have m1 : a * 1 ≤ a * sSize r := Int.mul_le_mul_of_nonneg_left h1 (by omega)
    have m2 : b * 1 ≤ b * sSize r := Int.mul_le_mul_of_nonneg_left h1 (by omega)
    rw [e1, e2]
    refine many_same l _ _ (by omega) (by omega) ?_ fun x hx => hs x (by simp [hx])
    by_cases hab : a = b
    · subst hab; omega
    · omega
theorem many_iff {c : Cu} (hh : sInside c.heat 99 = true) (hall : ∀ r ∈ c.loss, sInside r 99 = true) : (2000 < rMany c) = (2000 < sMany c) := by
  have hz := size_le hh
  have := many_same c.loss (sSize c.heat) (sSize c.heat) (by omega) (by omega) rfl fun r hr => (size_le (hall r hr)).1
  have e : rMany c = rManyL (sSize c.heat) c.loss := rfl
  rw [e, sMany]
  apply propext
  omega
set_option maxHeartbeats 2000000 in
theorem c_rFault (c : Cu) (hc : c.wf) : Pu Tryz.prog (.fn 76 [] []) [.agg c.cs] (vi (sCheck c)) := by
  refine Ev.fn Tryz.func76 rfl rfl (Fn.body tabOk Tryz.func76 rfl (Nat.le_of_ble_eq_true rfl) (Ks.ok (fz := (fzn [])) (cl := (cln [(13, .d tg0 [cP, cP, cP, cP, cP, cP, cP, cP, cP, cP, cP, cP, cP, cP, cP, cP, cP, cP, cP, cP])])) tabOk mixed ?_))
  generalize hQ : FnPost tt Tryz.f76 _ _ = Q
  simp only [Tryz.f76, List.nil_append, List.append_nil, argsEnv]
  by_cases h1 : 4 < c.last
  · simp only [gos, eq_self, Nat.reduceLT, Nat.reduceEqDiff, reduceCtorEq, reduceIte, ↓reduceIte, tt, vgo, vout, vguard, callOf, vop, ev, cv, vbin, vint, isShift, isNilConst, vload, newRow, h1]
    subst hQ
    exact FnPost.plain trivial (fun h2 e => by first | rfl | (simp only [Tryz.f76, vres, vresL, vres1, e _, gos, if_true, if_false, ne_eq, eq_self, Nat.reduceLT, Nat.reduceEqDiff, Nat.reduceAdd, Nat.reduceMul, Nat.reduceLeDiff, Nat.reduceBEq, reduceCtorEq, reduceIte, Array.toList, ↓reduceIte, tt, vgo, vout, vgoD, voutD, vclsOk, vids, mayWrite, V.ids, V.mids, vguard, callOf, vop, ev, cv, vbin, vint, isShift, isNilConst, vnil, isNilSlice, vload, vlen, newRow, vfill, vslice, entOf, vappend, srcOf, vcopy, vlookup, vupdate, mapOk, keyOf, intsOf, clsAt]; try rfl)) (WkV.pure (by simp only [V.into])) ⟨by simp [sCheck, h1], rfl⟩
  by_cases h2 : 5 < (c.readings.length : Int)
  · simp only [gos, eq_self, Nat.reduceLT, Nat.reduceEqDiff, reduceCtorEq, reduceIte, ↓reduceIte, tt, vgo, vout, vguard, callOf, vop, ev, cv, vbin, vint, isShift, isNilConst, vload, vlen, newRow, h1, h2, vD]
    subst hQ
    exact FnPost.plain trivial (fun h2 e => by first | rfl | (simp only [Tryz.f76, vres, vresL, vres1, e _, gos, if_true, if_false, ne_eq, eq_self, Nat.reduceLT, Nat.reduceEqDiff, Nat.reduceAdd, Nat.reduceMul, Nat.reduceLeDiff, Nat.reduceBEq, reduceCtorEq, reduceIte, Array.toList, ↓reduceIte, tt, vgo, vout, vgoD, voutD, vclsOk, vids, mayWrite, V.ids, V.mids, vguard, callOf, vop, ev, cv, vbin, vint, isShift, isNilConst, vnil, isNilSlice, vload, vlen, newRow, vfill, vslice, entOf, vappend, srcOf, vcopy, vlookup, vupdate, mapOk, keyOf, intsOf, clsAt]; try rfl)) (WkV.pure (by simp only [V.into])) ⟨by simp [sCheck, h1, h2], rfl⟩
  by_cases h3 : c.last < 0
  · simp only [gos, eq_self, Nat.reduceLT, Nat.reduceEqDiff, reduceCtorEq, reduceIte, ↓reduceIte, tt, vgo, vout, vguard, callOf, vop, ev, cv, vbin, vint, isShift, isNilConst, vload, vlen, newRow, h1, h2, h3, vD]
    subst hQ
    exact FnPost.plain trivial (fun h2 e => by first | rfl | (simp only [Tryz.f76, vres, vresL, vres1, e _, gos, if_true, if_false, ne_eq, eq_self, Nat.reduceLT, Nat.reduceEqDiff, Nat.reduceAdd, Nat.reduceMul, Nat.reduceLeDiff, Nat.reduceBEq, reduceCtorEq, reduceIte, Array.toList, ↓reduceIte, tt, vgo, vout, vgoD, voutD, vclsOk, vids, mayWrite, V.ids, V.mids, vguard, callOf, vop, ev, cv, vbin, vint, isShift, isNilConst, vnil, isNilSlice, vload, vlen, newRow, vfill, vslice, entOf, vappend, srcOf, vcopy, vlookup, vupdate, mapOk, keyOf, intsOf, clsAt]; try rfl)) (WkV.pure (by simp only [V.into])) ⟨by simp [sCheck, sBad1, h1, h2, h3], rfl⟩
  simp only [gos, eq_self, Nat.reduceLT, Nat.reduceEqDiff, reduceCtorEq, reduceIte, ↓reduceIte, tt, vgo, vout, vguard, callOf, vop, ev, cv, vbin, vint, isShift, isNilConst, vload, vlen, newRow, h1, h2, h3, vD]
  refine Cl.pu (c_rIn _ _ _) ?_
  cases h4 : sIn c.most 0 999
  · have hb : sBad1 c = true := by
      simp only [sIn, Bool.and_eq_false_iff, decide_eq_false_iff_not] at h4
      simp only [sBad1, sIn, Bool.or_eq_true, decide_eq_true_eq, Bool.not_eq_true', Bool.and_eq_false_iff, decide_eq_false_iff_not]
      omega
    simp only [gos, eq_self, Nat.reduceLT, Nat.reduceEqDiff, reduceIte, ↓reduceIte, vgo, vout, vguard, callOf, vop, ev, cv]
    subst hQ
    exact FnPost.plain trivial (fun h2 e => by first | rfl | (simp only [Tryz.f76, vres, vresL, vres1, e _, gos, if_true, if_false, ne_eq, eq_self, Nat.reduceLT, Nat.reduceEqDiff, Nat.reduceAdd, Nat.reduceMul, Nat.reduceLeDiff, Nat.reduceBEq, reduceCtorEq, reduceIte, Array.toList, ↓reduceIte, tt, vgo, vout, vgoD, voutD, vclsOk, vids, mayWrite, V.ids, V.mids, vguard, callOf, vop, ev, cv, vbin, vint, isShift, isNilConst, vnil, isNilSlice, vload, vlen, newRow, vfill, vslice, entOf, vappend, srcOf, vcopy, vlookup, vupdate, mapOk, keyOf, intsOf, clsAt]; try rfl)) (WkV.pure (by simp only [V.into])) ⟨by simp [sCheck, h1, h2, hb], rfl⟩
  simp only [gos, eq_self, Nat.reduceLT, Nat.reduceEqDiff, reduceCtorEq, reduceIte, ↓reduceIte, tt, vgo, vout, vguard, callOf, vop, ev, cv, vload]
  refine Cl.pu (c_rIn _ _ _) ?_
  cases h5 : sIn c.start 0 c.most
  · simp only [gos, eq_self, Nat.reduceLT, Nat.reduceEqDiff, reduceIte, ↓reduceIte, vgo, vout, vguard, callOf, vop, ev, cv]
    subst hQ
    exact FnPost.plain trivial (fun h2 e => by first | rfl | (simp only [Tryz.f76, vres, vresL, vres1, e _, gos, if_true, if_false, ne_eq, eq_self, Nat.reduceLT, Nat.reduceEqDiff, Nat.reduceAdd, Nat.reduceMul, Nat.reduceLeDiff, Nat.reduceBEq, reduceCtorEq, reduceIte, Array.toList, ↓reduceIte, tt, vgo, vout, vgoD, voutD, vclsOk, vids, mayWrite, V.ids, V.mids, vguard, callOf, vop, ev, cv, vbin, vint, isShift, isNilConst, vnil, isNilSlice, vload, vlen, newRow, vfill, vslice, entOf, vappend, srcOf, vcopy, vlookup, vupdate, mapOk, keyOf, intsOf, clsAt]; try rfl)) (WkV.pure (by simp only [V.into])) ⟨by simp [sCheck, sBad1, h1, h2, h5], rfl⟩
  simp only [gos, eq_self, Nat.reduceLT, Nat.reduceEqDiff, reduceCtorEq, reduceIte, ↓reduceIte, tt, vgo, vout, vguard, callOf, vop, ev, cv, vload]
  refine Cl.pu (c_rIn _ _ _) ?_
  cases h6 : sIn c.per 1 20
  · simp only [gos, eq_self, Nat.reduceLT, Nat.reduceEqDiff, reduceIte, ↓reduceIte, vgo, vout, vguard, callOf, vop, ev, cv]
    subst hQ
    exact FnPost.plain trivial (fun h2 e => by first | rfl | (simp only [Tryz.f76, vres, vresL, vres1, e _, gos, if_true, if_false, ne_eq, eq_self, Nat.reduceLT, Nat.reduceEqDiff, Nat.reduceAdd, Nat.reduceMul, Nat.reduceLeDiff, Nat.reduceBEq, reduceCtorEq, reduceIte, Array.toList, ↓reduceIte, tt, vgo, vout, vgoD, voutD, vclsOk, vids, mayWrite, V.ids, V.mids, vguard, callOf, vop, ev, cv, vbin, vint, isShift, isNilConst, vnil, isNilSlice, vload, vlen, newRow, vfill, vslice, entOf, vappend, srcOf, vcopy, vlookup, vupdate, mapOk, keyOf, intsOf, clsAt]; try rfl)) (WkV.pure (by simp only [V.into])) ⟨by simp [sCheck, sBad1, h1, h2, h6], rfl⟩
  simp only [gos, eq_self, Nat.reduceLT, Nat.reduceEqDiff, reduceCtorEq, reduceIte, ↓reduceIte, tt, vgo, vout, vguard, callOf, vop, ev, cv, vload]
  refine Cl.pu (c_rIn _ _ _) ?_
  cases h7 : sIn c.shovels 0 3
  · simp only [gos, eq_self, Nat.reduceLT, Nat.reduceEqDiff, reduceIte, ↓reduceIte, vgo, vout, vguard, callOf, vop, ev, cv]
    subst hQ
    exact FnPost.plain trivial (fun h2 e => by first | rfl | (simp only [Tryz.f76, vres, vresL, vres1, e _, gos, if_true, if_false, ne_eq, eq_self, Nat.reduceLT, Nat.reduceEqDiff, Nat.reduceAdd, Nat.reduceMul, Nat.reduceLeDiff, Nat.reduceBEq, reduceCtorEq, reduceIte, Array.toList, ↓reduceIte, tt, vgo, vout, vgoD, voutD, vclsOk, vids, mayWrite, V.ids, V.mids, vguard, callOf, vop, ev, cv, vbin, vint, isShift, isNilConst, vnil, isNilSlice, vload, vlen, newRow, vfill, vslice, entOf, vappend, srcOf, vcopy, vlookup, vupdate, mapOk, keyOf, intsOf, clsAt]; try rfl)) (WkV.pure (by simp only [V.into])) ⟨by simp [sCheck, sBad1, h1, h2, h7], rfl⟩
  have hb1 : sBad1 c = false := by
    simp only [sIn, Bool.and_eq_true, decide_eq_true_eq] at h4
    have : ¬ 999 < c.most := by omega
    simp [sBad1, h3, h5, h6, h7, this]
  simp only [gos, eq_self, Nat.reduceLT, Nat.reduceEqDiff, reduceCtorEq, reduceIte, ↓reduceIte, tt, vgo, vout, vguard, callOf, vop, ev, vload]
  refine Cl.pu (c_rEach c c.coal c.shovels hc.last hc.coal) ?_ rfl (by simp only [V.into, intoL, vI_into, cu_into, Bool.and_true])
  cases h8 : rEach c c.coal c.shovels
  · have h8' : sIsCoal c c.coal = false := h8
    simp only [gos, eq_self, Nat.reduceLT, Nat.reduceEqDiff, reduceIte, ↓reduceIte, vgo, vout, vguard, callOf, vop, ev, cv]
    subst hQ
    exact FnPost.plain trivial (fun h2 e => by first | rfl | (simp only [Tryz.f76, vres, vresL, vres1, e _, gos, if_true, if_false, ne_eq, eq_self, Nat.reduceLT, Nat.reduceEqDiff, Nat.reduceAdd, Nat.reduceMul, Nat.reduceLeDiff, Nat.reduceBEq, reduceCtorEq, reduceIte, Array.toList, ↓reduceIte, tt, vgo, vout, vgoD, voutD, vclsOk, vids, mayWrite, V.ids, V.mids, vguard, callOf, vop, ev, cv, vbin, vint, isShift, isNilConst, vnil, isNilSlice, vload, vlen, newRow, vfill, vslice, entOf, vappend, srcOf, vcopy, vlookup, vupdate, mapOk, keyOf, intsOf, clsAt]; try rfl)) (WkV.pure (by simp only [V.into])) ⟨by simp [sCheck, hb1, sBad2, h1, h2, h8'], rfl⟩
  simp only [gos, eq_self, Nat.reduceLT, Nat.reduceEqDiff, reduceCtorEq, reduceIte, ↓reduceIte, tt, vgo, vout, vguard, callOf, vop, ev, cv, vload]
  refine Cl.pu (c_rEach c c.want 20 hc.last hc.want) ?_ rfl (by simp only [V.into, intoL, vI_into, cu_into, Bool.and_true])
  cases h9 : rEach c c.want 20
  · have h9' : sPromised c c.want = false := h9
    simp only [gos, eq_self, Nat.reduceLT, Nat.reduceEqDiff, reduceIte, ↓reduceIte, vgo, vout, vguard, callOf, vop, ev, cv]
    subst hQ
    exact FnPost.plain trivial (fun h2 e => by first | rfl | (simp only [Tryz.f76, vres, vresL, vres1, e _, gos, if_true, if_false, ne_eq, eq_self, Nat.reduceLT, Nat.reduceEqDiff, Nat.reduceAdd, Nat.reduceMul, Nat.reduceLeDiff, Nat.reduceBEq, reduceCtorEq, reduceIte, Array.toList, ↓reduceIte, tt, vgo, vout, vgoD, voutD, vclsOk, vids, mayWrite, V.ids, V.mids, vguard, callOf, vop, ev, cv, vbin, vint, isShift, isNilConst, vnil, isNilSlice, vload, vlen, newRow, vfill, vslice, entOf, vappend, srcOf, vcopy, vlookup, vupdate, mapOk, keyOf, intsOf, clsAt]; try rfl)) (WkV.pure (by simp only [V.into])) ⟨by simp [sCheck, hb1, sBad2, h1, h2, h9'], rfl⟩
  have h8' : sIsCoal c c.coal = true := h8
  have h9' : sPromised c c.want = true := h9
  simp only [gos, eq_self, Nat.reduceLT, Nat.reduceEqDiff, Nat.reduceLeDiff, reduceCtorEq, reduceIte, ↓reduceIte, tt, vgo, vout, vguard, callOf, vop, ev, cv, vload]
  refine Cl.pu (c_rInside _ _) ?_
  cases h10 : sInside c.heat 99
  · simp only [gos, eq_self, Nat.reduceLT, Nat.reduceEqDiff, reduceIte, ↓reduceIte, vgo, vout, vguard, callOf, vop, ev, cv]
    subst hQ
    exact FnPost.plain trivial (fun h2 e => by first | rfl | (simp only [Tryz.f76, vres, vresL, vres1, e _, gos, if_true, if_false, ne_eq, eq_self, Nat.reduceLT, Nat.reduceEqDiff, Nat.reduceAdd, Nat.reduceMul, Nat.reduceLeDiff, Nat.reduceBEq, reduceCtorEq, reduceIte, Array.toList, ↓reduceIte, tt, vgo, vout, vgoD, voutD, vclsOk, vids, mayWrite, V.ids, V.mids, vguard, callOf, vop, ev, cv, vbin, vint, isShift, isNilConst, vnil, isNilSlice, vload, vlen, newRow, vfill, vslice, entOf, vappend, srcOf, vcopy, vlookup, vupdate, mapOk, keyOf, intsOf, clsAt]; try rfl)) (WkV.pure (by simp only [V.into])) ⟨by simp [sCheck, hb1, sBad2, h1, h2, h10], rfl⟩
  simp only [gos, eq_self, Nat.reduceLT, Nat.reduceEqDiff, reduceCtorEq, reduceIte, ↓reduceIte, tt, vgo, vout, vguard, callOf, vop, ev, cv, vbin, vint, isShift, isNilConst, vload, vlen, vR, i64_in (show -9223372036854775808 ≤ c.last + 1 by omega) (show c.last + 1 ≤ 9223372036854775807 by omega)]
  by_cases h11 : (c.loss.length : Int) = c.last + 1
  case neg =>
    have hb : ((c.loss.length : Int) != c.last + 1) = true := by simp [h11]
    simp only [gos, eq_self, Nat.reduceLT, Nat.reduceEqDiff, reduceIte, ↓reduceIte, vgo, vout, vguard, callOf, vop, ev, cv, hb]
    subst hQ
    exact FnPost.plain trivial (fun h2 e => by first | rfl | (simp only [Tryz.f76, vres, vresL, vres1, e _, gos, if_true, if_false, ne_eq, eq_self, Nat.reduceLT, Nat.reduceEqDiff, Nat.reduceAdd, Nat.reduceMul, Nat.reduceLeDiff, Nat.reduceBEq, reduceCtorEq, reduceIte, Array.toList, ↓reduceIte, tt, vgo, vout, vgoD, voutD, vclsOk, vids, mayWrite, V.ids, V.mids, vguard, callOf, vop, ev, cv, vbin, vint, isShift, isNilConst, vnil, isNilSlice, vload, vlen, newRow, vfill, vslice, entOf, vappend, srcOf, vcopy, vlookup, vupdate, mapOk, keyOf, intsOf, clsAt]; try rfl)) (WkV.pure (by simp only [V.into])) ⟨by simp [sCheck, hb1, sBad2, h1, h2, h11], rfl⟩
  have hb : ((c.loss.length : Int) != c.last + 1) = false := by simp [h11]
  simp only [gos, eq_self, Nat.reduceLT, Nat.reduceEqDiff, reduceIte, ↓reduceIte, vgo, vout, vguard, callOf, vop, ev, cv, hb]
  refine W.loop tabOk mixed (fun i : Nat => ([(1, .rop c.cs), (3, vi i)], [])) (fun i => c.loss.length - i) (fun i => i ≤ c.loss.length ∧ ∀ j : Nat, j < i → sInside (gR c.loss j) 99 = true) 0 ⟨by omega, fun j hj => by omega⟩ (Wk.env (by simp [subE, Env.get])) ?_
  rintro i ⟨hi, hno⟩
  by_cases hil : (i : Int) < c.loss.length
  · simp only [gos, eq_self, Nat.reduceLT, Nat.reduceEqDiff, reduceCtorEq, reduceIte, ↓reduceIte, tt, vgo, vout, vguard, callOf, vop, ev, cv, vbin, vint, isShift, isNilConst, vload, vlen, vR, hil, cR_at (Int.natCast_nonneg i) hil]
    refine Cl.pu (c_rInside _ _) ?_
    cases hr : sInside (gR c.loss i) 99 with
    | true =>
      simp only [gos, eq_self, Nat.reduceLT, Nat.reduceEqDiff, reduceIte, ↓reduceIte, vgo, vout, vguard, callOf, vop, ev, cv, vbin, vint, isShift, isNilConst]
      refine Nx.mk (i + 1) (show c.loss.length - (i + 1) < c.loss.length - i by omega) ⟨by omega, fun j hj => ?_⟩ (Wk.env (by simp [subE, Env.get, i64_succ (show (i : Int) < 9223372036854775807 by omega)]))
      rcases Nat.lt_succ_iff_lt_or_eq.1 hj with h | rfl
      · exact hno j h
      · exact hr
    | false =>
      have h12 : (c.loss.all fun r => sInside r 99) = false := by
        rw [Bool.eq_false_iff]; intro ha
        rw [List.all_eq_true] at ha
        rw [ha _ (List.mem_of_getElem? (gR_get hil))] at hr; cases hr
      simp only [gos, eq_self, Nat.reduceLT, Nat.reduceEqDiff, reduceIte, ↓reduceIte, vgo, vout, vguard, callOf, vop, ev, cv]
      subst hQ
      exact FnPost.plain trivial (fun h2 e => by first | rfl | (simp only [Tryz.f76, vres, vresL, vres1, e _, gos, if_true, if_false, ne_eq, eq_self, Nat.reduceLT, Nat.reduceEqDiff, Nat.reduceAdd, Nat.reduceMul, Nat.reduceLeDiff, Nat.reduceBEq, reduceCtorEq, reduceIte, Array.toList, ↓reduceIte, tt, vgo, vout, vgoD, voutD, vclsOk, vids, mayWrite, V.ids, V.mids, vguard, callOf, vop, ev, cv, vbin, vint, isShift, isNilConst, vnil, isNilSlice, vload, vlen, newRow, vfill, vslice, entOf, vappend, srcOf, vcopy, vlookup, vupdate, mapOk, keyOf, intsOf, clsAt]; try rfl)) (WkV.pure (by simp only [V.into])) ⟨by simp only [sCheck, hb1, sBad2, h1, h2, h12]; simp, rfl⟩
  have hall : ∀ r ∈ c.loss, sInside r 99 = true := fun r hr => by
    obtain ⟨j, hj, rfl⟩ := List.mem_iff_getElem.1 hr
    have := hno j (by omega)
    rwa [gR, Int.toNat_natCast, List.getD_eq_getElem?_getD, List.getElem?_eq_getElem hj] at this
  have h12 : (c.loss.all fun r => sInside r 99) = true := by rw [List.all_eq_true]; exact hall
  simp only [gos, eq_self, Nat.reduceLT, Nat.reduceEqDiff, reduceCtorEq, reduceIte, ↓reduceIte, tt, vgo, vout, vguard, callOf, vop, ev, cv, vbin, vint, isShift, isNilConst, vload, vlen, vR, hil]
  refine W.loop tabOk mixed (fun i : Nat => ([(1, .rop c.cs), (4, vi i)], [])) (fun i => c.readings.length - i) (fun i => i ≤ c.readings.length ∧ ∀ j : Nat, j < i → sReading c (gD c.readings j) = true) 0 ⟨by omega, fun j hj => by omega⟩ (Wk.env (by simp [subE, Env.get])) ?_
  clear hi hil hno i
  rintro i ⟨hi, hno⟩
  by_cases hil : (i : Int) < c.readings.length
  · have h13f : sReading c (gD c.readings i) = false → (c.readings.all fun r => sReading c r) = false := fun hr => by
      rw [Bool.eq_false_iff]; intro ha
      rw [List.all_eq_true] at ha
      rw [ha _ (List.mem_of_getElem? (gD_get hil))] at hr; cases hr
    simp only [gos, eq_self, Nat.reduceLT, Nat.reduceEqDiff, reduceCtorEq, reduceIte, ↓reduceIte, tt, vgo, vout, vguard, callOf, vop, ev, vbin, vint, isShift, isNilConst, vload, vlen, vD, hil]
    refine Wr.draw (by kernel_rfl) ?_
    simp only [gos, eq_self, Nat.reduceLT, Nat.reduceEqDiff, Nat.reduceAdd, reduceCtorEq, reduceIte, ↓reduceIte, tt, vgoD, voutD, vclsOk, vids, mayWrite, V.ids, vguard, callOf, vop, ev, cv, vload, clsAt, vD, hil, cD_at (Int.natCast_nonneg i) hil]
    refine CD.pu (c_rIn _ _ _) ?_
    cases hr : sIn (gD c.readings i).hour 0 c.last with
    | false =>
      have h13 := h13f (by simp [sReading, hr])
      simp only [gos, eq_self, Nat.reduceLT, Nat.reduceEqDiff, reduceIte, ↓reduceIte, vgo, vout, vgoD, voutD, vclsOk, vids, mayWrite, vguard, callOf, vop, ev, cv]
      subst hQ
      exact FnPost.plain trivial (fun h2 e => by first | rfl | (simp only [Tryz.f76, vres, vresL, vres1, e _, gos, if_true, if_false, ne_eq, eq_self, Nat.reduceLT, Nat.reduceEqDiff, Nat.reduceAdd, Nat.reduceMul, Nat.reduceLeDiff, Nat.reduceBEq, reduceCtorEq, reduceIte, Array.toList, ↓reduceIte, tt, vgo, vout, vgoD, voutD, vclsOk, vids, mayWrite, V.ids, V.mids, vguard, callOf, vop, ev, cv, vbin, vint, isShift, isNilConst, vnil, isNilSlice, vload, vlen, newRow, vfill, vslice, entOf, vappend, srcOf, vcopy, vlookup, vupdate, mapOk, keyOf, intsOf, clsAt]; try rfl)) (WkV.pure (by simp only [V.into])) ⟨by simp only [sCheck, hb1, sBad2, h1, h2, h13]; simp, rfl⟩
    | true =>
      simp only [gos, eq_self, Nat.reduceLT, Nat.reduceEqDiff, reduceCtorEq, reduceIte, ↓reduceIte, tt, vgoD, voutD, vclsOk, vids, mayWrite, V.ids, vguard, callOf, vop, ev, cv, vload, vD, hil, cD_at (Int.natCast_nonneg i) hil]
      refine CD.pu (c_rInside _ _) ?_
      cases hr2 : sInside (gD c.readings i).b 999 with
      | false =>
        have h13 := h13f (by simp [sReading, hr, hr2])
        simp only [gos, eq_self, Nat.reduceLT, Nat.reduceEqDiff, reduceIte, ↓reduceIte, vgo, vout, vgoD, voutD, vclsOk, vids, mayWrite, vguard, callOf, vop, ev, cv]
        subst hQ
        exact FnPost.plain trivial (fun h2 e => by first | rfl | (simp only [Tryz.f76, vres, vresL, vres1, e _, gos, if_true, if_false, ne_eq, eq_self, Nat.reduceLT, Nat.reduceEqDiff, Nat.reduceAdd, Nat.reduceMul, Nat.reduceLeDiff, Nat.reduceBEq, reduceCtorEq, reduceIte, Array.toList, ↓reduceIte, tt, vgo, vout, vgoD, voutD, vclsOk, vids, mayWrite, V.ids, V.mids, vguard, callOf, vop, ev, cv, vbin, vint, isShift, isNilConst, vnil, isNilSlice, vload, vlen, newRow, vfill, vslice, entOf, vappend, srcOf, vcopy, vlookup, vupdate, mapOk, keyOf, intsOf, clsAt]; try rfl)) (WkV.pure (by simp only [V.into])) ⟨by simp only [sCheck, hb1, sBad2, h1, h2, h13]; simp, rfl⟩
      | true =>
        simp only [gos, eq_self, Nat.reduceLT, Nat.reduceEqDiff, reduceIte, ↓reduceIte, vgo, vout, vgoD, voutD, vclsOk, vids, mayWrite, vguard, callOf, vop, ev, cv, vbin, vint, isShift, isNilConst]
        refine Nx.mk (i + 1) (show c.readings.length - (i + 1) < c.readings.length - i by omega) ⟨by omega, fun j hj => ?_⟩ (Wk.env (by simp [subE, Env.get, i64_succ (show (i : Int) < 9223372036854775807 by omega)]))
        rcases Nat.lt_succ_iff_lt_or_eq.1 hj with h | rfl
        · exact hno j h
        · simp [sReading, hr, hr2]
  have h13 : (c.readings.all fun r => sReading c r) = true := by
    rw [List.all_eq_true]
    intro r hr
    obtain ⟨j, hj, rfl⟩ := List.mem_iff_getElem.1 hr
    have := hno j (by omega)
    rwa [gD, Int.toNat_natCast, List.getD_eq_getElem?_getD, List.getElem?_eq_getElem hj] at this
  have hb2 : sBad2 c = false := by simp only [sBad2, h8', h9', h10, h11, h12, h13]; simp
  simp only [gos, eq_self, Nat.reduceLT, Nat.reduceEqDiff, reduceCtorEq, reduceIte, ↓reduceIte, tt, vgo, vout, vguard, callOf, vop, ev, vbin, vint, isShift, isNilConst, vload, vlen, vD, hil]
  refine Cl.pu (c_rMany c h10 hc.loss hall) ?_ rfl (by simp only [V.into, intoL, cu_into, Bool.and_true])
  have hm := many_iff h10 hall
  by_cases h14 : 2000 < rMany c
  · have h15 : 2000 < sMany c := by rw [← hm]; exact h14
    simp only [gos, eq_self, Nat.reduceLT, Nat.reduceEqDiff, reduceIte, ↓reduceIte, vgo, vout, vguard, callOf, vop, ev, cv, vbin, vint, isShift, isNilConst, h14]
    subst hQ
    exact FnPost.plain trivial (fun h2 e => by first | rfl | (simp only [Tryz.f76, vres, vresL, vres1, e _, gos, if_true, if_false, ne_eq, eq_self, Nat.reduceLT, Nat.reduceEqDiff, Nat.reduceAdd, Nat.reduceMul, Nat.reduceLeDiff, Nat.reduceBEq, reduceCtorEq, reduceIte, Array.toList, ↓reduceIte, tt, vgo, vout, vgoD, voutD, vclsOk, vids, mayWrite, V.ids, V.mids, vguard, callOf, vop, ev, cv, vbin, vint, isShift, isNilConst, vnil, isNilSlice, vload, vlen, newRow, vfill, vslice, entOf, vappend, srcOf, vcopy, vlookup, vupdate, mapOk, keyOf, intsOf, clsAt]; try rfl)) (WkV.pure (by simp only [V.into])) ⟨by simp [sCheck, hb1, hb2, h1, h2, h15], rfl⟩
  · have h15 : ¬ 2000 < sMany c := by rw [← hm]; exact h14
    simp only [gos, eq_self, Nat.reduceLT, Nat.reduceEqDiff, reduceIte, ↓reduceIte, vgo, vout, vguard, callOf, vop, ev, cv, vbin, vint, isShift, isNilConst, h14]
    subst hQ
    exact FnPost.plain trivial (fun h2 e => by first | rfl | (simp only [Tryz.f76, vres, vresL, vres1, e _, gos, if_true, if_false, ne_eq, eq_self, Nat.reduceLT, Nat.reduceEqDiff, Nat.reduceAdd, Nat.reduceMul, Nat.reduceLeDiff, Nat.reduceBEq, reduceCtorEq, reduceIte, Array.toList, ↓reduceIte, tt, vgo, vout, vgoD, voutD, vclsOk, vids, mayWrite, V.ids, V.mids, vguard, callOf, vop, ev, cv, vbin, vint, isShift, isNilConst, vnil, isNilSlice, vload, vlen, newRow, vfill, vslice, entOf, vappend, srcOf, vcopy, vlookup, vupdate, mapOk, keyOf, intsOf, clsAt]; try rfl)) (WkV.pure (by simp only [V.into])) ⟨by simp [sCheck, hb1, hb2, h1, h2, h15], rfl⟩
end Go.Vm

set_option linter.unusedVariables false
set_option linter.unusedSimpArgs false
set_option maxRecDepth 100000
namespace Go.Vm
open Go.Proofs
/-! ### the reference: the heat -/
/-- The truth as the program has it. -/
def tS (t : Tr2) : Sc := ⟨t.heat, pad5 t.loss⟩
theorem pad5_gi (l : List Int) (i : Int) : gi (pad5 l) i = gi l i := by
  simp only [gi, pad5, List.getD_eq_getElem?_getD, List.getElem?_append, List.getElem?_replicate]
  by_cases h : i.toNat < l.length
  · simp [h]
  · rw [if_neg h, List.getElem?_eq_none (by omega)]
    split <;> simp
/-- The heat of an hour before any bucket is drawn. -/
def sHeat (c : Cu) (s : Sc) (coal want : List Int) (i : Nat) : Int := max 0 (min c.most ((sPlay c s coal want i).1 + gi coal i * s.heat) - gi s.loss i)
theorem sPlay_heat (c : Cu) (s : Sc) (coal want : List Int) (i : Nat) : (sPlay c s coal want (i + 1)).1 = if gi want i ≤ (sHeat c s coal want i).tdiv c.per then sHeat c s coal want i - gi want i * c.per else 0 := by
  simp only [sPlay, sHeat]
  by_cases h : gi want i ≤ (max 0 (min c.most ((sPlay c s coal want i).1 + gi coal i * s.heat) - gi s.loss i)).tdiv c.per <;> simp [h]
structure TrOk (c : Cu) (t : Tr2) (coal want : List Int) : Prop where
  play : PlayOk c (tS t) coal want
  len : (t.loss.length : Int) = c.last + 1
theorem sHeat_le {c : Cu} {s : Sc} {coal want : List Int} (k : PlayOk c s coal want) {i : Nat} (hi : (i : Int) ≤ c.last) : 0 ≤ sHeat c s coal want i ∧ sHeat c s coal want i ≤ 999 := by
  have := k.most
  have hl := (k.loss.2 _ (gi_mem (l := s.loss) (i := i) (by have := k.loss.1; have := k.last; omega)))
  simp only [sHeat]
  omega
set_option maxHeartbeats 2000000 in
theorem c_rLeft_of (c : Cu) (t : Tr2) (coal want : List Int) (k : TrOk c t coal want) (i : Nat) (hi : (i : Int) ≤ c.last) (e : Pu Tryz.prog (.fn 164 [] []) [.agg c.cs, .agg t.cs, vI coal, vI want, vi i] (vi (sHeat c (tS t) coal want i))) :
    Pu Tryz.prog (.fn 178 [] []) [.agg c.cs, .agg t.cs, vI coal, vI want, vi i] (vi (sPlay c (tS t) coal want (i + 1)).1) := by
  refine Ev.fn Tryz.func178 rfl rfl (Fn.body tabOk Tryz.func178 rfl (Nat.le_of_ble_eq_true rfl) (Ks.ok (fz := (fzn [])) (cl := (cln [(2, .d tg0 [cP, cP, cP, cP, cP, cP, cP, cP, cP]), (4, .d tg0 [cP, cP, cP, cP, cP, cP, cP, cP, cP, cP])])) tabOk mixed ?_))
  generalize hQ : FnPost tt Tryz.f178 _ _ = Q
  simp only [Tryz.f178, List.nil_append, List.append_nil, argsEnv, Nat.reduceAdd]
  have hts : t.cs.take 2 = t.cs := rfl
  have htn : t.cs.length = 2 := rfl
  simp only [gos, eq_self, Nat.reduceLT, Nat.reduceEqDiff, reduceCtorEq, reduceIte, ↓reduceIte, tt, vgo, vout, vguard, callOf, vop, ev, cv, vload, newRow, hts, htn]
  refine Cl.pu e ?_ rfl (by simp only [V.into, intoL, vI_into, cu_into, Bool.and_true, Tr2.cs])
  have hpos : ¬ c.per = 0 := by have := k.play.per; omega
  have hw : (i : Int) < want.length := by have := k.play.want.1; omega
  have hh := sHeat_le k.play hi
  have hww := k.play.want.2 _ (gi_mem (l := want) (i := i) (by omega))
  have hper := k.play.per
  have hsp := sPlay_heat c (tS t) coal want i
  have hsp2 := sPlay_inv k.play (i + 1) (by omega)
  generalize sHeat c (tS t) coal want i = x at hh hsp ⊢
  generalize sPlay c (tS t) coal want (i + 1) = y at hsp hsp2 hQ ⊢
  have hd0 : 0 ≤ x.tdiv c.per := Int.tdiv_nonneg hh.1 (by omega)
  have hd9 : x.tdiv c.per ≤ 999 := by have := Int.tdiv_le_self c.per hh.1; omega
  have hm0 : 0 ≤ c.per * gi want i := Int.mul_nonneg (by omega) hww.1
  have hm9 : c.per * gi want i ≤ 20 * 40 := Int.mul_le_mul hper.2 hww.2 hww.1 (by omega)
  by_cases hk : x.tdiv c.per < gi want i
  · simp only [gos, eq_self, Nat.reduceLT, reduceIte, ↓reduceIte, vgo, vout, vguard, callOf, vop, ev, vI]
    refine Wr.draw (by kernel_rfl) ?_
    simp only [gos, eq_self, Nat.reduceLT, Nat.reduceEqDiff, Nat.reduceAdd, reduceCtorEq, reduceIte, ↓reduceIte, tt, vgo, vout, vgoD, voutD, vclsOk, vids, mayWrite, V.ids, vguard, callOf, vop, ev, cv, vbin, vint, isShift, isNilConst, vload, clsAt, hw, cI_at (Int.natCast_nonneg i) hw, hpos, i64_in (show -9223372036854775808 ≤ x.tdiv c.per by omega) (show x.tdiv c.per ≤ 9223372036854775807 by omega), hk]
    subst hQ
    exact FnPost.plain trivial (fun h2 e => by first | rfl | (simp only [Tryz.f178, vres, vresL, vres1, e _, gos, if_true, if_false, ne_eq, eq_self, Nat.reduceLT, Nat.reduceEqDiff, Nat.reduceAdd, Nat.reduceMul, Nat.reduceLeDiff, Nat.reduceBEq, reduceCtorEq, reduceIte, Array.toList, ↓reduceIte, tt, vgo, vout, vgoD, voutD, vclsOk, vids, mayWrite, V.ids, V.mids, vguard, callOf, vop, ev, cv, vbin, vint, isShift, isNilConst, vnil, isNilSlice, vload, vlen, newRow, vfill, vslice, entOf, vappend, srcOf, vcopy, vlookup, vupdate, mapOk, keyOf, intsOf, clsAt]; try rfl)) (WkV.pure (by simp only [V.into])) ⟨by rw [hsp, if_neg (by omega)], rfl⟩
  · simp only [gos, eq_self, Nat.reduceLT, reduceIte, ↓reduceIte, vgo, vout, vguard, callOf, vop, ev, vI]
    refine Wr.draw (by kernel_rfl) ?_
    simp only [gos, eq_self, Nat.reduceLT, Nat.reduceEqDiff, Nat.reduceAdd, reduceCtorEq, reduceIte, ↓reduceIte, tt, vgoD, voutD, vclsOk, vids, mayWrite, V.ids, vguard, callOf, vop, ev, vbin, vint, isShift, isNilConst, vload, clsAt, hw, cI_at (Int.natCast_nonneg i) hw, hpos, i64_in (show -9223372036854775808 ≤ x.tdiv c.per by omega) (show x.tdiv c.per ≤ 9223372036854775807 by omega), hk]
    refine Wr.draw (by kernel_rfl) ?_
    simp only [gos, eq_self, Nat.reduceLT, Nat.reduceEqDiff, Nat.reduceAdd, reduceCtorEq, reduceIte, ↓reduceIte, tt, vgoD, voutD, vclsOk, vids, mayWrite, V.ids, vguard, callOf, vop, ev, vbin, vint, isShift, isNilConst, vload, clsAt, hw, cI_at (Int.natCast_nonneg i) hw, i64_in (show -9223372036854775808 ≤ c.per * gi want i by omega) (show c.per * gi want i ≤ 9223372036854775807 by omega), i64_in (show -9223372036854775808 ≤ x - c.per * gi want i by omega) (show x - c.per * gi want i ≤ 9223372036854775807 by omega)]
    subst hQ
    exact FnPost.plain trivial (fun h2 e => by first | rfl | (simp only [Tryz.f178, vres, vresL, vres1, e _, gos, if_true, if_false, ne_eq, eq_self, Nat.reduceLT, Nat.reduceEqDiff, Nat.reduceAdd, Nat.reduceMul, Nat.reduceLeDiff, Nat.reduceBEq, reduceCtorEq, reduceIte, Array.toList, ↓reduceIte, tt, vgo, vout, vgoD, voutD, vclsOk, vids, mayWrite, V.ids, V.mids, vguard, callOf, vop, ev, cv, vbin, vint, isShift, isNilConst, vnil, isNilSlice, vload, vlen, newRow, vfill, vslice, entOf, vappend, srcOf, vcopy, vlookup, vupdate, mapOk, keyOf, intsOf, clsAt]; try rfl)) (WkV.pure (by simp only [V.into])) ⟨by rw [hsp, if_pos (by omega), Int.mul_comm (gi want i)], rfl⟩
set_option maxHeartbeats 2000000 in
theorem c_rHeat (c : Cu) (t : Tr2) (coal want : List Int) (k : TrOk c t coal want) : ∀ (i : Nat), (i : Int) ≤ c.last → Pu Tryz.prog (.fn 164 [] []) [.agg c.cs, .agg t.cs, vI coal, vI want, vi i] (vi (sHeat c (tS t) coal want i)) := by
  have hl := k.play.last
  intro i
  induction i with
  | zero =>
    intro hi
    refine Ev.fn Tryz.func164 rfl rfl (Fn.body tabOk Tryz.func164 rfl (Nat.le_of_ble_eq_true rfl) (Ks.ok (fz := (fzn [])) (cl := (cln [(4, .d tg0 [cP, cP, cP, cP, cP, cP, cP, cP, cP, cP, cP, cP, cP, cP, cP, cP, cP, cP, cP, cP])])) tabOk mixed ?_))
    generalize hQ : FnPost tt Tryz.f164 _ _ = Q
    simp only [Tryz.f164, List.nil_append, List.append_nil, argsEnv, Nat.reduceAdd]
    have hts : t.cs.take 2 = t.cs := rfl
    have htn : t.cs.length = 2 := rfl
    have h0 : decide (0 < ((0 : Nat) : Int)) = false := rfl
    simp only [gos, eq_self, Nat.reduceLT, Nat.reduceEqDiff, reduceCtorEq, reduceIte, ↓reduceIte, tt, vgo, vout, vguard, callOf, vop, ev, cv, vbin, vint, isShift, isNilConst, vload, newRow, h0]
    have hm := k.play.most
    have hst := k.play.start
    have hcl : (((0 : Nat) : Int) : Int) < coal.length := by have := k.play.coal.1; omega
    have hll : (((0 : Nat) : Int) : Int) < t.loss.length := by have := k.len; omega
    have hcc := k.play.coal.2 _ (gi_mem (l := coal) (i := 0) (by omega))
    have hlo := k.play.loss.2 _ (gi_mem (l := (tS t).loss) (i := 0) (by have := k.play.loss.1; omega))
    have hhe := k.play.heat
    have hx := (sPlay_inv k.play (0) (by omega))
    have hx1 := hx.1
    have hx2 := hx.2.1
    have e1 : gi (tS t).loss (0 : Nat) = gi t.loss (0 : Nat) := pad5_gi _ _
    have e2 : (tS t).heat = t.heat := rfl
    have hsh : sHeat c (tS t) coal want (0) = max 0 (min c.most ((sPlay c (tS t) coal want (0)).1 + gi coal (0 : Nat) * (tS t).heat) - gi (tS t).loss (0 : Nat)) := rfl
    rw [hsh] at hQ
    rw [e1] at hlo hQ
    rw [e2] at hhe hQ
    rw [show c.start = (sPlay c (tS t) coal want 0).1 from rfl]
    generalize (sPlay c (tS t) coal want (0)).1 = x at hx1 hx2 hQ ⊢
    have hp0 : 0 ≤ gi coal (0 : Nat) * t.heat := Int.mul_nonneg hcc.1 hhe.1
    have hp9 : gi coal (0 : Nat) * t.heat ≤ 3 * 99 := Int.mul_le_mul hcc.2 hhe.2 hhe.1 (by omega)
    try simp only [gos, if_true, if_false, ne_eq, eq_self, Nat.reduceLT, Nat.reduceEqDiff, Nat.reduceAdd, Nat.reduceMul, Nat.reduceLeDiff, Nat.reduceBEq, reduceCtorEq, reduceIte, Array.toList, ↓reduceIte, tt, vgo, vout, vgoD, voutD, vclsOk, vids, mayWrite, V.ids, V.mids, vguard, callOf, vop, ev, cv, vbin, vint, isShift, isNilConst, vnil, isNilSlice, vload, vlen, newRow, vfill, vslice, entOf, vappend, srcOf, vcopy, vlookup, vupdate, mapOk, keyOf, intsOf, clsAt]
    refine Wr.draw (by kernel_rfl) ?_
    simp only [gos, eq_self, Nat.reduceLT, Nat.reduceEqDiff, Nat.reduceAdd, reduceCtorEq, reduceIte, ↓reduceIte, tt, vgoD, voutD, vclsOk, vids, mayWrite, V.ids, vguard, callOf, vop, ev, cv, vbin, vint, isShift, isNilConst, vload, clsAt, vI, hcl, hll, cI_at (Int.natCast_nonneg _) hcl, cI_at (Int.natCast_nonneg _) hll, Tr2.cs, i64_in (show -9223372036854775808 ≤ gi coal (0 : Nat) * t.heat by omega) (show gi coal (0 : Nat) * t.heat ≤ 9223372036854775807 by omega), i64_in (show -9223372036854775808 ≤ x + gi coal (0 : Nat) * t.heat by omega) (show x + gi coal (0 : Nat) * t.heat ≤ 9223372036854775807 by omega)]
    rw [i64_in (show -9223372036854775808 ≤ min c.most (x + gi coal (0 : Nat) * t.heat) - gi t.loss (0 : Nat) by omega) (show min c.most (x + gi coal (0 : Nat) * t.heat) - gi t.loss (0 : Nat) ≤ 9223372036854775807 by omega)]
    subst hQ
    exact FnPost.plain trivial (fun h2 e => by first | rfl | (simp only [Tryz.f164, vres, vresL, vres1, e _, gos, if_true, if_false, ne_eq, eq_self, Nat.reduceLT, Nat.reduceEqDiff, Nat.reduceAdd, Nat.reduceMul, Nat.reduceLeDiff, Nat.reduceBEq, reduceCtorEq, reduceIte, Array.toList, ↓reduceIte, tt, vgo, vout, vgoD, voutD, vclsOk, vids, mayWrite, V.ids, V.mids, vguard, callOf, vop, ev, cv, vbin, vint, isShift, isNilConst, vnil, isNilSlice, vload, vlen, newRow, vfill, vslice, entOf, vappend, srcOf, vcopy, vlookup, vupdate, mapOk, keyOf, intsOf, clsAt]; try rfl)) (WkV.pure (by simp only [V.into])) ⟨rfl, rfl⟩
  | succ i ih =>
    intro hi
    have eL := c_rLeft_of c t coal want k i (by omega) (ih (by omega))
    refine Ev.fn Tryz.func164 rfl rfl (Fn.body tabOk Tryz.func164 rfl (Nat.le_of_ble_eq_true rfl) (Ks.ok (fz := (fzn [])) (cl := (cln [(4, .d tg0 [cP, cP, cP, cP, cP, cP, cP, cP, cP, cP, cP, cP, cP, cP, cP, cP, cP, cP, cP, cP])])) tabOk mixed ?_))
    generalize hQ : FnPost tt Tryz.f164 _ _ = Q
    simp only [Tryz.f164, List.nil_append, List.append_nil, argsEnv, Nat.reduceAdd]
    have hts : t.cs.take 2 = t.cs := rfl
    have htn : t.cs.length = 2 := rfl
    have h0 : decide (0 < ((i + 1 : Nat) : Int)) = true := by rw [decide_eq_true_eq]; omega
    have h1 : IntKind.i64.wrap (((i + 1 : Nat) : Int) - 1) = (i : Int) := by rw [i64_in (by omega) (by omega)]; omega
    simp only [gos, eq_self, Nat.reduceLT, Nat.reduceEqDiff, reduceCtorEq, reduceIte, ↓reduceIte, tt, vgo, vout, vguard, callOf, vop, ev, cv, vbin, vint, isShift, isNilConst, vload, newRow, hts, htn, h0, h1]
    refine Cl.pu eL ?_ rfl (by simp only [V.into, intoL, vI_into, cu_into, Bool.and_true, Tr2.cs])
    have hm := k.play.most
    have hst := k.play.start
    have hcl : (((i + 1 : Nat) : Int) : Int) < coal.length := by have := k.play.coal.1; omega
    have hll : (((i + 1 : Nat) : Int) : Int) < t.loss.length := by have := k.len; omega
    have hcc := k.play.coal.2 _ (gi_mem (l := coal) (i := i + 1) (by omega))
    have hlo := k.play.loss.2 _ (gi_mem (l := (tS t).loss) (i := i + 1) (by have := k.play.loss.1; omega))
    have hhe := k.play.heat
    have hx := (sPlay_inv k.play (i + 1) (by omega))
    have hx1 := hx.1
    have hx2 := hx.2.1
    have e1 : gi (tS t).loss (i + 1 : Nat) = gi t.loss (i + 1 : Nat) := pad5_gi _ _
    have e2 : (tS t).heat = t.heat := rfl
    have hsh : sHeat c (tS t) coal want (i + 1) = max 0 (min c.most ((sPlay c (tS t) coal want (i + 1)).1 + gi coal (i + 1 : Nat) * (tS t).heat) - gi (tS t).loss (i + 1 : Nat)) := rfl
    rw [hsh] at hQ
    rw [e1] at hlo hQ
    rw [e2] at hhe hQ
    generalize (sPlay c (tS t) coal want (i + 1)).1 = x at hx1 hx2 hQ ⊢
    have hp0 : 0 ≤ gi coal (i + 1 : Nat) * t.heat := Int.mul_nonneg hcc.1 hhe.1
    have hp9 : gi coal (i + 1 : Nat) * t.heat ≤ 3 * 99 := Int.mul_le_mul hcc.2 hhe.2 hhe.1 (by omega)
    try simp only [gos, eq_self, Nat.reduceLT, reduceIte, ↓reduceIte, vgo, vout, vguard, callOf, vop, ev]
    refine Wr.draw (by kernel_rfl) ?_
    simp only [gos, eq_self, Nat.reduceLT, Nat.reduceEqDiff, Nat.reduceAdd, reduceCtorEq, reduceIte, ↓reduceIte, tt, vgoD, voutD, vclsOk, vids, mayWrite, V.ids, vguard, callOf, vop, ev, cv, vbin, vint, isShift, isNilConst, vload, clsAt, vI, hcl, hll, cI_at (Int.natCast_nonneg _) hcl, cI_at (Int.natCast_nonneg _) hll, Tr2.cs, i64_in (show -9223372036854775808 ≤ gi coal (i + 1 : Nat) * t.heat by omega) (show gi coal (i + 1 : Nat) * t.heat ≤ 9223372036854775807 by omega), i64_in (show -9223372036854775808 ≤ x + gi coal (i + 1 : Nat) * t.heat by omega) (show x + gi coal (i + 1 : Nat) * t.heat ≤ 9223372036854775807 by omega)]
    rw [i64_in (show -9223372036854775808 ≤ min c.most (x + gi coal (i + 1 : Nat) * t.heat) - gi t.loss (i + 1 : Nat) by omega) (show min c.most (x + gi coal (i + 1 : Nat) * t.heat) - gi t.loss (i + 1 : Nat) ≤ 9223372036854775807 by omega)]
    subst hQ
    exact FnPost.plain trivial (fun h2 e => by first | rfl | (simp only [Tryz.f164, vres, vresL, vres1, e _, gos, if_true, if_false, ne_eq, eq_self, Nat.reduceLT, Nat.reduceEqDiff, Nat.reduceAdd, Nat.reduceMul, Nat.reduceLeDiff, Nat.reduceBEq, reduceCtorEq, reduceIte, Array.toList, ↓reduceIte, tt, vgo, vout, vgoD, voutD, vclsOk, vids, mayWrite, V.ids, V.mids, vguard, callOf, vop, ev, cv, vbin, vint, isShift, isNilConst, vnil, isNilSlice, vload, vlen, newRow, vfill, vslice, entOf, vappend, srcOf, vcopy, vlookup, vupdate, mapOk, keyOf, intsOf, clsAt]; try rfl)) (WkV.pure (by simp only [V.into])) ⟨rfl, rfl⟩
theorem c_rHot (c : Cu) (t : Tr2) (coal want : List Int) (k : TrOk c t coal want) (i : Nat) (hi : (i : Int) ≤ c.last) : Pu Tryz.prog (.fn 137 [] []) [.agg c.cs, .agg t.cs, vI coal, vI want, vi i] (vi ((sHeat c (tS t) coal want i).tdiv c.per)) := by
  refine Ev.fn Tryz.func137 rfl rfl (Fn.body tabOk Tryz.func137 rfl (Nat.le_of_ble_eq_true rfl) (Ks.ok (fz := (fzn [])) (cl := (cln [(1, .d tg0 [cP, cP, cP, cP, cP, cP, cP, cP, cP, cP])])) tabOk mixed ?_))
  generalize hQ : FnPost tt Tryz.f137 _ _ = Q
  simp only [Tryz.f137, List.nil_append, List.append_nil, argsEnv, Nat.reduceAdd]
  have hts : t.cs.take 2 = t.cs := rfl
  have htn : t.cs.length = 2 := rfl
  simp only [gos, eq_self, Nat.reduceLT, Nat.reduceEqDiff, reduceCtorEq, reduceIte, ↓reduceIte, vgo, vout, vguard, callOf, vop, ev, cv, newRow]
  refine Wr.draw (by kernel_rfl) ?_
  simp only [gos, eq_self, Nat.reduceLT, Nat.reduceEqDiff, Nat.reduceAdd, reduceCtorEq, reduceIte, ↓reduceIte, tt, vgoD, voutD, vclsOk, vids, mayWrite, V.ids, vguard, callOf, vop, ev, vload, clsAt, hts, htn]
  refine CD.pu (c_rHeat c t coal want k i hi) ?_ rfl (by simp only [V.into, intoL, vI_into, cu_into, Bool.and_true, Tr2.cs])
  have hh := sHeat_le k.play hi
  have hper := k.play.per
  have hpos : ¬ c.per = 0 := by omega
  have hd0 : 0 ≤ (sHeat c (tS t) coal want i).tdiv c.per := Int.tdiv_nonneg hh.1 (by omega)
  have hd9 : (sHeat c (tS t) coal want i).tdiv c.per ≤ 999 := by have := Int.tdiv_le_self c.per hh.1; omega
  simp only [gos, eq_self, Nat.reduceLT, Nat.reduceEqDiff, reduceCtorEq, reduceIte, ↓reduceIte, tt, vgoD, voutD, vclsOk, vids, mayWrite, V.ids, vguard, callOf, vop, ev, vbin, vint, isShift, isNilConst, vload, hpos, i64_in (show -9223372036854775808 ≤ (sHeat c (tS t) coal want i).tdiv c.per by omega) (show (sHeat c (tS t) coal want i).tdiv c.per ≤ 9223372036854775807 by omega)]
  subst hQ
  exact FnPost.plain trivial (fun h2 e => by first | rfl | (simp only [Tryz.f137, vres, vresL, vres1, e _, gos, if_true, if_false, ne_eq, eq_self, Nat.reduceLT, Nat.reduceEqDiff, Nat.reduceAdd, Nat.reduceMul, Nat.reduceLeDiff, Nat.reduceBEq, reduceCtorEq, reduceIte, Array.toList, ↓reduceIte, tt, vgo, vout, vgoD, voutD, vclsOk, vids, mayWrite, V.ids, V.mids, vguard, callOf, vop, ev, cv, vbin, vint, isShift, isNilConst, vnil, isNilSlice, vload, vlen, newRow, vfill, vslice, entOf, vappend, srcOf, vcopy, vlookup, vupdate, mapOk, keyOf, intsOf, clsAt]; try rfl)) (WkV.pure (by simp only [V.into])) ⟨rfl, rfl⟩
end Go.Vm

set_option linter.unusedVariables false
set_option linter.unusedSimpArgs false
set_option maxRecDepth 100000
namespace Go.Vm
open Go.Proofs
/-! ### the reference: the truth with a number -/
def nthL : List Rg → Int → List Int
  | [], _ => []
  | r :: l, n => (r.lo + n.tmod (sSize r)) :: nthL l (n.tdiv (sSize r))
def nthQ : List Rg → Int → Int
  | [], n => n
  | r :: l, n => nthQ l (n.tdiv (sSize r))
theorem nthL_snoc : ∀ (l : List Rg) (r : Rg) (n : Int), nthL (l ++ [r]) n = nthL l n ++ [r.lo + (nthQ l n).tmod (sSize r)]
  | [], r, n => rfl
  | x :: l, r, n => by simp only [List.cons_append, nthL, nthQ, nthL_snoc l r]
theorem nthQ_snoc : ∀ (l : List Rg) (r : Rg) (n : Int), nthQ (l ++ [r]) n = (nthQ l n).tdiv (sSize r)
  | [], r, n => rfl
  | x :: l, r, n => by simp only [List.cons_append, nthQ, nthQ_snoc l r]
theorem nthL_len : ∀ (l : List Rg) (n : Int), (nthL l n).length = l.length
  | [], _ => rfl
  | r :: l, n => by simp [nthL, nthL_len l]
theorem nthQ_le : ∀ (l : List Rg) (n : Int), 0 ≤ n → (∀ r ∈ l, 1 ≤ sSize r) → 0 ≤ nthQ l n ∧ nthQ l n ≤ n
  | [], n, h, _ => ⟨h, Int.le_refl _⟩
  | r :: l, n, h, hs => by
    have h1 := hs r (by simp)
    have h2 : 0 ≤ n.tdiv (sSize r) := Int.tdiv_nonneg h (by omega)
    have h3 := Int.tdiv_le_self (sSize r) h
    have := nthQ_le l (n.tdiv (sSize r)) h2 fun x hx => hs x (by simp [hx])
    simp only [nthQ]; omega
theorem take_snocR {l : List Rg} {i : Nat} (h : (i : Int) < l.length) : l.take (i + 1) = l.take i ++ [gR l i] := by rw [List.take_add_one, gR_get h]; rfl
def rNth (c : Cu) (n : Int) : Tr2 := ⟨c.heat.lo + n.tmod (sSize c.heat), nthL c.loss (n.tdiv (sSize c.heat))⟩
theorem tmod_le {n s : Int} (h : 0 ≤ n) (hs : 1 ≤ s) : 0 ≤ n.tmod s ∧ n.tmod s ≤ s - 1 := by
  have h1 := Int.tmod_nonneg s h
  have h2 := Int.tmod_lt_of_pos n (b := s) (by omega)
  omega
theorem wk_nth (i : Nat) (x y : Int) (l : List Int) (h : l.length = i) : WkV (domP []) (.agg [vi x, .own 45 i 0 1 i]) [(4, ⟨0, .row [vi x, .own 45 i 0 1 i]⟩), (5, ⟨0, .row [vi x, .own 45 i 0 1 i]⟩), (45, ⟨i, .row (cI l)⟩)] (.agg [vi x, vI l]) [] := by
  have e1 : (cI l).take i = cI l := List.take_of_length_le (by rw [cI_len]; omega)
  refine WkV.frz 45 (v' := .agg [vi x, .ro i (cI l)]) (h' := [(4, ⟨0, .row [vi x, .ro i (cI l)]⟩), (5, ⟨0, .row [vi x, .ro i (cI l)]⟩)]) (ver := i) (cs := cI l) rfl rfl (cI_into _ _) rfl ?_ ?_ ?_
  · simp [V.frz, frzL, e1]
  · simp [frzH, Blk.frz, V.frz, frzL, e1]
  have : V.agg [vi x, vI l] = .agg [vi x, .ro i (cI l)] := by simp only [vI, h]
  rw [this]
  exact WkV.pure (by simp only [V.into, intoL, cI_into, Bool.and_true])
set_option maxHeartbeats 2000000 in
theorem c_rNth (c : Cu) (k0 : CuOk c) (n : Int) (hn : 0 ≤ n ∧ n ≤ 100000) : Pu Tryz.prog (.fn 94 [] []) [.agg c.cs, vi n] (.agg (rNth c n).cs) := by
  have hll := k0.loss.1
  have hlast := k0.last
  have hin := k0.heat
  have hz := size_le hin
  simp only [sInside, Bool.and_eq_true, decide_eq_true_eq] at hin
  have hs : ∀ r ∈ c.loss, 1 ≤ sSize r := fun r hr => (size_le (k0.loss.2 r hr)).1
  refine Ev.fn Tryz.func94 rfl rfl (Fn.body tabOk Tryz.func94 rfl (Nat.le_of_ble_eq_true rfl) (Ks.ok (fz := (fzn [4, 5, 7])) (cl := (cln [(1, .d tg0 [cP, cP, cP, cP, cP, cP, cP, cP, cP, cP, cW, cW]), (7, .d (tgL [(45, 1)]) [cP, cL, cP, cL, cP, cL, cP, cP, cP, cP, some ([1], [1]), cP, cW])])) tabOk mixed ?_))
  generalize hQ : FnPost tt Tryz.f94 _ _ = Q
  simp only [Tryz.f94, List.nil_append, List.append_nil, argsEnv, Nat.reduceAdd]
  simp only [gos, eq_self, Nat.reduceLT, Nat.reduceEqDiff, reduceCtorEq, reduceIte, ↓reduceIte, tt, vgo, vout, vguard, callOf, vop, ev, newRow]
  refine Wr.draw (by kernel_rfl) ?_
  simp only [gos, eq_self, Nat.reduceLT, Nat.reduceEqDiff, Nat.reduceAdd, Nat.reduceLeDiff, reduceCtorEq, reduceIte, ↓reduceIte, tt, vgoD, voutD, vclsOk, vids, mayWrite, V.ids, vguard, callOf, vop, ev, vload, clsAt]
  refine CD.pu (c_rSize c.heat ⟨by omega, by omega⟩ ⟨by omega, by omega⟩) ?_
  have hs0 : ¬ sSize c.heat = 0 := by omega
  have hm := tmod_le hn.1 hz.1
  have hd0 : 0 ≤ n.tdiv (sSize c.heat) := Int.tdiv_nonneg hn.1 (by omega)
  have hd9 := Int.tdiv_le_self (sSize c.heat) hn.1
  simp only [gos, eq_self, Nat.reduceLT, Nat.reduceEqDiff, Nat.reduceAdd, Nat.reduceLeDiff, reduceCtorEq, reduceIte, ↓reduceIte, tt, vgo, vout, vgoD, voutD, vclsOk, vids, mayWrite, V.ids, vguard, callOf, vop, ev, vbin, vint, isShift, isNilConst, vload, newRow, vfill, hs0, i64_in (show -9223372036854775808 ≤ c.heat.lo + n.tmod (sSize c.heat) by omega) (show c.heat.lo + n.tmod (sSize c.heat) ≤ 9223372036854775807 by omega)]
  refine Cl.pu (c_rSize c.heat ⟨by omega, by omega⟩ ⟨by omega, by omega⟩) ?_
  simp only [gos, eq_self, Nat.reduceLT, Nat.reduceEqDiff, reduceIte, ↓reduceIte, vgo, vout, vguard, callOf, vop, ev, cv, vbin, vint, isShift, isNilConst, hs0, i64_in (show -9223372036854775808 ≤ n.tdiv (sSize c.heat) by omega) (show n.tdiv (sSize c.heat) ≤ 9223372036854775807 by omega)]
  refine W.loop tabOk mixed (fun i : Nat => ([(1, vi (nthQ (c.loss.take i) (n.tdiv (sSize c.heat)))), (2, .rop c.cs), (4, .ptr 4 0 0), (5, .ptr 5 0 0), (6, vi i)], [(4, ⟨0, .row [vi 0, .sl0]⟩), (5, ⟨0, .row [vi (c.heat.lo + n.tmod (sSize c.heat)), .own 45 i 0 1 i]⟩), (45, ⟨i, .row (cI (nthL (c.loss.take i) (n.tdiv (sSize c.heat))))⟩)])) (fun i => c.loss.length - i) (fun i => i ≤ c.loss.length) 0 (by omega)
    (Wk.trans (Wk.sl0H 5 1 45 1 rfl rfl rfl) (Wk.env (by simp [subE, Env.get, nthQ]))) ?_
  intro i hi
  by_cases hil : (i : Int) < c.loss.length
  · have hir := size_le (k0.loss.2 _ (List.mem_of_getElem? (gR_get hil)))
    have hirl := k0.loss.2 _ (List.mem_of_getElem? (gR_get hil))
    simp only [sInside, Bool.and_eq_true, decide_eq_true_eq] at hirl
    have hq := nthQ_le (c.loss.take i) (n.tdiv (sSize c.heat)) hd0 fun r hr => hs r (List.mem_of_mem_take hr)
    have hmm := tmod_le hq.1 hir.1
    have hn1 : (cI (nthL (c.loss.take i) (n.tdiv (sSize c.heat)))).length = i := by rw [cI_len, nthL_len, List.length_take]; omega
    have hi9 : i ≤ 999999 := by omega
    have hs1 : ¬ sSize (gR c.loss i) = 0 := by omega
    simp only [gos, eq_self, Nat.reduceLT, Nat.reduceEqDiff, Nat.reduceAdd, reduceCtorEq, reduceIte, ↓reduceIte, tt, vgo, vout, vguard, callOf, vop, ev, vbin, vint, isShift, isNilConst, vload, vlen, newRow, vR, hil, cR_at (Int.natCast_nonneg i) hil]
    refine Wr.draw (by kernel_rfl) ?_
    simp only [gos, eq_self, Nat.reduceLT, Nat.reduceEqDiff, Nat.reduceAdd, reduceCtorEq, reduceIte, ↓reduceIte, tt, vgoD, voutD, vclsOk, vids, mayWrite, V.ids, vguard, callOf, vop, ev, vload, clsAt]
    refine CD.pu (c_rSize (gR c.loss i) ⟨by omega, by omega⟩ ⟨by omega, by omega⟩) ?_
    have hQL : nthL (c.loss.take (i + 1)) (n.tdiv (sSize c.heat)) = nthL (c.loss.take i) (n.tdiv (sSize c.heat)) ++ [(gR c.loss i).lo + (nthQ (c.loss.take i) (n.tdiv (sSize c.heat))).tmod (sSize (gR c.loss i))] := by rw [take_snocR hil, nthL_snoc]
    have hQQ : nthQ (c.loss.take (i + 1)) (n.tdiv (sSize c.heat)) = (nthQ (c.loss.take i) (n.tdiv (sSize c.heat))).tdiv (sSize (gR c.loss i)) := by rw [take_snocR hil, nthQ_snoc]
    generalize nthQ (c.loss.take i) (n.tdiv (sSize c.heat)) = q at hq hmm hQL hQQ ⊢
    have hq0 : 0 ≤ q.tdiv (sSize (gR c.loss i)) := Int.tdiv_nonneg hq.1 (by omega)
    have hq9 := Int.tdiv_le_self (sSize (gR c.loss i)) hq.1
    simp only [gos, eq_self, Nat.reduceLT, Nat.reduceEqDiff, Nat.reduceAdd, Nat.reduceLeDiff, reduceCtorEq, reduceIte, ↓reduceIte, tt, vgo, vout, vgoD, voutD, vclsOk, vids, mayWrite, V.ids, vguard, callOf, vop, ev, vbin, vint, isShift, isNilConst, vload, vfill, vappend, srcOf, hs1, hn1, hi9, Nat.mul_one, i64_in (show -9223372036854775808 ≤ (gR c.loss i).lo + q.tmod (sSize (gR c.loss i)) by omega) (show (gR c.loss i).lo + q.tmod (sSize (gR c.loss i)) ≤ 9223372036854775807 by omega)]
    refine Cl.pu (c_rSize (gR c.loss i) ⟨by omega, by omega⟩ ⟨by omega, by omega⟩) ?_
    simp only [gos, eq_self, Nat.reduceLT, Nat.reduceEqDiff, reduceIte, ↓reduceIte, vgo, vout, vguard, callOf, vop, ev, cv, vbin, vint, isShift, isNilConst, hs1, i64_in (show -9223372036854775808 ≤ q.tdiv (sSize (gR c.loss i)) by omega) (show q.tdiv (sSize (gR c.loss i)) ≤ 9223372036854775807 by omega)]
    refine Nx.mk (i + 1) (show c.loss.length - (i + 1) < c.loss.length - i by omega) (by omega) (Wk.forget ?_ ?_ (fun j hp => by simp [orD, domP, Heap.get] at hp) ?_ ?_)
    · simp [subE, Env.get, hQQ, i64_succ (show (i : Int) < 9223372036854775807 by omega)]
    · rw [hQL, cI_snoc]
      simp [subH, Heap.get]
    · simp only [intoE, V.into, cu_into, Bool.true_and, Bool.and_true, domP, Heap.get]; rfl
    · simp only [intoH, Blk.into, V.into, intoL, cI_into, Bool.true_and, Bool.and_true, domP, Heap.get]; rfl
  · have hie : i = c.loss.length := by omega
    have e : c.loss.take i = c.loss := List.take_of_length_le (by omega)
    simp only [gos, eq_self, Nat.reduceLT, Nat.reduceEqDiff, Nat.reduceAdd, reduceCtorEq, reduceIte, ↓reduceIte, tt, vgo, vout, vguard, callOf, vop, ev, vbin, vint, isShift, isNilConst, vload, vlen, vR, hil]
    rw [e]
    have hl := nthL_len c.loss (n.tdiv (sSize c.heat))
    subst hQ
    exact FnPost.plain trivial (v := .agg [vi (c.heat.lo + n.tmod (sSize c.heat)), .own 45 i 0 1 i]) (fun h2 e => by simp only [Tryz.f94, vres, vresL, vres1, gos, eq_self, Nat.reduceLT, Nat.reduceEqDiff, Nat.reduceAdd, reduceCtorEq, reduceIte, ↓reduceIte, tt, vload, e _]) (wk_nth i _ 0 _ (by omega)) ⟨rfl, rfl⟩
end Go.Vm

set_option linter.unusedVariables false
set_option linter.unusedSimpArgs false
set_option maxRecDepth 100000
namespace Go.Vm
open Go.Proofs
/-! ### the reference: which readings are right -/
def bitsI (f : Nat → Bool) : Nat → Int
  | 0 => 0
  | i + 1 => if f i then bitsI f i + 2 ^ i else bitsI f i
theorem bitsI_le (f : Nat → Bool) : ∀ i, 0 ≤ bitsI f i ∧ bitsI f i < 2 ^ i
  | 0 => by simp [bitsI]
  | i + 1 => by
    have := bitsI_le f i
    have e : (2 : Int) ^ (i + 1) = 2 ^ i + 2 ^ i := by rw [Int.pow_succ]; omega
    simp only [bitsI]
    split <;> omega
/-- A reading is right in a truth. -/
def rOk (c : Cu) (t : Tr2) (i : Nat) : Bool := sIn ((sHeat c (tS t) c.coal c.want (gD c.readings i).hour.toNat).tdiv c.per) (gD c.readings i).b.lo (gD c.readings i).b.hi
def rRight (c : Cu) (t : Tr2) : Int := bitsI (rOk c t) c.readings.length
def rFull (c : Cu) : Int := 2 ^ c.readings.length - 1
theorem u64_in {n : Int} (h1 : 0 ≤ n) (h2 : n ≤ 9223372036854775807) : IntKind.u64.wrap n = n := by
  simp [IntKind.wrap, IntKind.bits, IntKind.signed]
  omega
theorem shl1 {i : Nat} (h : i < 6) : IntKind.i64.wrap (1 * 2 ^ min ((i : Int)).toNat IntKind.i64.bits) = 2 ^ i := by
  have : ∀ i : Fin 6, IntKind.i64.wrap (1 * 2 ^ min (((i : Nat) : Int)).toNat IntKind.i64.bits) = 2 ^ (i : Nat) := by decide +kernel
  exact this ⟨i, h⟩
theorem or1 {i : Nat} (h : i < 5) {x : Int} (h1 : 0 ≤ x) (h2 : x < 2 ^ i) : vbits .or .i64 x (2 ^ i) = x + 2 ^ i := by
  have : ∀ i : Fin 5, ∀ x : Fin 16, (x : Nat) < 2 ^ (i : Nat) → vbits .or .i64 ((x : Nat) : Int) (2 ^ (i : Nat)) = ((x : Nat) : Int) + 2 ^ (i : Nat) := by decide +kernel
  have h16 : (2 : Int) ^ i ≤ 16 := by
    have : ∀ i : Fin 5, (2 : Int) ^ (i : Nat) ≤ 16 := by decide
    exact this ⟨i, h⟩
  have h3 : (x.toNat : Int) = x := by omega
  have h4 : x.toNat < 2 ^ i := by
    have : ((x.toNat : Nat) : Int) < ((2 ^ i : Nat) : Int) := by rw [h3, Int.natCast_pow]; exact h2
    omega
  have := this ⟨i, h⟩ ⟨x.toNat, by omega⟩ h4
  rwa [h3] at this
theorem full_sub {i : Nat} (h : i < 6) : IntKind.i64.wrap ((2 : Int) ^ i - 1) = 2 ^ i - 1 := by
  have : ∀ i : Fin 6, IntKind.i64.wrap ((2 : Int) ^ (i : Nat) - 1) = 2 ^ (i : Nat) - 1 := by decide +kernel
  exact this ⟨i, h⟩
theorem c_rFull (c : Cu) (hr : (c.readings.length : Int) ≤ 5) : Pu Tryz.prog (.fn 96 [] []) [.agg c.cs] (vi (rFull c)) := by
  refine Ev.fn Tryz.func96 rfl rfl (Fn.body tabOk Tryz.func96 rfl (Nat.le_of_ble_eq_true rfl) (Ks.ok (fz := (fzn [])) (cl := (cln [])) tabOk mixed ?_))
  generalize hQ : FnPost tt Tryz.f96 _ _ = Q
  simp only [Tryz.f96, List.nil_append, List.append_nil, argsEnv]
  have hw := u64_in (n := (c.readings.length : Int)) (by omega) (by omega)
  have hn : ¬ (c.readings.length : Int) < 0 := by omega
  simp only [gos, eq_self, Nat.reduceLT, Nat.reduceEqDiff, reduceCtorEq, reduceIte, ↓reduceIte, tt, vgo, vout, vguard, callOf, vop, ev, cv, vbin, vint, isShift, isNilConst, vload, vlen, newRow, vD, hw, hn, shl1 (i := c.readings.length) (by omega), full_sub (i := c.readings.length) (by omega)]
  subst hQ
  exact FnPost.plain trivial (fun h2 e => by first | rfl | (simp only [Tryz.f96, vres, vresL, vres1, e _, gos, if_true, if_false, ne_eq, eq_self, Nat.reduceLT, Nat.reduceEqDiff, Nat.reduceAdd, Nat.reduceMul, Nat.reduceLeDiff, Nat.reduceBEq, reduceCtorEq, reduceIte, Array.toList, ↓reduceIte, tt, vgo, vout, vgoD, voutD, vclsOk, vids, mayWrite, V.ids, V.mids, vguard, callOf, vop, ev, cv, vbin, vint, isShift, isNilConst, vnil, isNilSlice, vload, vlen, newRow, vfill, vslice, entOf, vappend, srcOf, vcopy, vlookup, vupdate, mapOk, keyOf, intsOf, clsAt]; try rfl)) (WkV.pure (by simp only [V.into])) ⟨rfl, rfl⟩
set_option maxHeartbeats 2000000 in
theorem c_rRight (c : Cu) (k0 : CuOk c) (t : Tr2) (k : TrOk c t c.coal c.want) : Pu Tryz.prog (.fn 95 [] []) [.agg c.cs, .agg t.cs] (vi (rRight c t)) := by
  have hrd := k0.rds
  refine Ev.fn Tryz.func95 rfl rfl (Fn.body tabOk Tryz.func95 rfl (Nat.le_of_ble_eq_true rfl) (Ks.ok (fz := (fzn [7])) (cl := (cln [(6, .d tg0 [cP, cP, cP, cP, cP, cP, cP, cL, cP, cP, cL, cP])])) tabOk mixed ?_))
  generalize hQ : FnPost tt Tryz.f95 _ _ = Q
  simp only [Tryz.f95, List.nil_append, List.append_nil, argsEnv, Nat.reduceAdd]
  have hts : t.cs.take 2 = t.cs := rfl
  have htn : t.cs.length = 2 := rfl
  simp only [gos, eq_self, Nat.reduceLT, Nat.reduceEqDiff, reduceCtorEq, reduceIte, ↓reduceIte, vgo, vout, vguard, callOf, vop, ev, cv, newRow]
  refine W.loop tabOk mixed (fun i : Nat => ([(2, .rop c.cs), (3, .rop t.cs), (5, vi (bitsI (rOk c t) i)), (6, vi i)], [])) (fun i => c.readings.length - i) (fun i => i ≤ c.readings.length) 0 (by omega) (Wk.env (by simp [subE, Env.get, bitsI])) ?_
  intro i hi
  by_cases hil : (i : Int) < c.readings.length
  · have hrr := k0.hours _ (List.mem_of_getElem? (gD_get hil))
    have hh : ((((gD c.readings i).hour.toNat : Nat)) : Int) = (gD c.readings i).hour := by omega
    have e := c_rHot c t c.coal c.want k (gD c.readings i).hour.toNat (by omega)
    rw [hh] at e
    have hb := bitsI_le (rOk c t) i
    simp only [gos, eq_self, Nat.reduceLT, Nat.reduceEqDiff, Nat.reduceAdd, reduceCtorEq, reduceIte, ↓reduceIte, tt, vgo, vout, vguard, callOf, vop, ev, vbin, vint, isShift, isNilConst, vload, vlen, newRow, vD, hil, cD_at (Int.natCast_nonneg i) hil]
    refine Wr.draw (by kernel_rfl) ?_
    simp only [gos, eq_self, Nat.reduceLT, Nat.reduceEqDiff, Nat.reduceAdd, reduceCtorEq, reduceIte, ↓reduceIte, tt, vgoD, voutD, vclsOk, vids, mayWrite, V.ids, vguard, callOf, vop, ev, vload, clsAt, hts, htn]
    refine CD.pu e ?_ rfl (by simp only [V.into, intoL, vI_into, cu_into, Bool.and_true, Tr2.cs])
    simp only [gos, eq_self, Nat.reduceLT, Nat.reduceEqDiff, Nat.reduceAdd, reduceCtorEq, reduceIte, ↓reduceIte, tt, vgoD, voutD, vclsOk, vids, mayWrite, V.ids, vguard, callOf, vop, ev, vload]
    refine CD.pu (c_rIs _ _) ?_
    cases hok : rOk c t i with
    | true =>
      have hok2 := hok
      simp only [rOk] at hok2
      have hw := u64_in (n := (i : Int)) (by omega) (by omega)
      have hn : ¬ (i : Int) < 0 := by omega
      have hbs : bitsI (rOk c t) (i + 1) = bitsI (rOk c t) i + 2 ^ i := by simp only [bitsI, hok, if_true]
      simp only [gos, eq_self, Nat.reduceLT, Nat.reduceEqDiff, reduceIte, ↓reduceIte, tt, vgo, vout, vguard, callOf, vop, ev, cv, vbin, vint, isShift, isNilConst, hok2, hw, hn, shl1 (i := i) (by omega), or1 (i := i) (by omega) hb.1 hb.2]
      refine Nx.mk (i + 1) (show c.readings.length - (i + 1) < c.readings.length - i by omega) (by omega) (Wk.forget ?_ (by simp [subH]) (fun j hp => by simp [orD, domP, Heap.get] at hp) ?_ rfl)
      · simp [subE, Env.get, hbs, i64_succ (show (i : Int) < 9223372036854775807 by omega)]
      · simp only [intoE, V.into, intoL, vI_into, cu_into, Bool.and_true, Tr2.cs]
    | false =>
      have hok2 := hok
      simp only [rOk] at hok2
      have hbs : bitsI (rOk c t) (i + 1) = bitsI (rOk c t) i := by simp only [bitsI, hok]; rfl
      simp only [gos, eq_self, Nat.reduceLT, Nat.reduceEqDiff, reduceIte, ↓reduceIte, vgo, vout, vguard, callOf, vop, ev, cv, vbin, vint, isShift, isNilConst, hok2]
      refine Nx.mk (i + 1) (show c.readings.length - (i + 1) < c.readings.length - i by omega) (by omega) (Wk.forget ?_ (by simp [subH]) (fun j hp => by simp [orD, domP, Heap.get] at hp) ?_ rfl)
      · simp [subE, Env.get, hbs, i64_succ (show (i : Int) < 9223372036854775807 by omega)]
      · simp only [intoE, V.into, intoL, vI_into, cu_into, Bool.and_true, Tr2.cs]
  · have hie : i = c.readings.length := by omega
    simp only [gos, eq_self, Nat.reduceLT, Nat.reduceEqDiff, reduceCtorEq, reduceIte, ↓reduceIte, tt, vgo, vout, vguard, callOf, vop, ev, vbin, vint, isShift, isNilConst, vload, vlen, vD, hil]
    subst hQ
    exact FnPost.plain trivial (fun h2 e => by first | rfl | (simp only [Tryz.f95, vres, vresL, vres1, e _, gos, if_true, if_false, ne_eq, eq_self, Nat.reduceLT, Nat.reduceEqDiff, Nat.reduceAdd, Nat.reduceMul, Nat.reduceLeDiff, Nat.reduceBEq, reduceCtorEq, reduceIte, Array.toList, ↓reduceIte, tt, vgo, vout, vgoD, voutD, vclsOk, vids, mayWrite, V.ids, V.mids, vguard, callOf, vop, ev, cv, vbin, vint, isShift, isNilConst, vnil, isNilSlice, vload, vlen, newRow, vfill, vslice, entOf, vappend, srcOf, vcopy, vlookup, vupdate, mapOk, keyOf, intsOf, clsAt]; try rfl)) (WkV.pure (by simp only [V.into])) ⟨by rw [rRight, hie], rfl⟩
end Go.Vm

set_option linter.unusedVariables false
set_option linter.unusedSimpArgs false
set_option maxRecDepth 100000
namespace Go.Vm
open Go.Proofs
/-! ### the reference: all truths -/
def cT : List Tr2 → List V
  | [] => []
  | t :: l => vi t.heat :: vI t.loss :: cT l
def vT (l : List Tr2) : V := .ro l.length (cT l)
theorem cT_len : ∀ l : List Tr2, (cT l).length = l.length * 2
  | [] => rfl
  | r :: l => by simp [cT, cT_len l]; omega
theorem cT_into (p : Nat → Bool) : ∀ l : List Tr2, intoL p (cT l) = true
  | [] => rfl
  | x :: l => by simp only [cT, intoL, V.into, vI_into, Bool.true_and]; exact cT_into p l
theorem cT_snoc : ∀ (l : List Tr2) (t : Tr2), cT (l ++ [t]) = cT l ++ [vi t.heat, vI t.loss]
  | [], t => rfl
  | x :: l, t => by simp [cT, cT_snoc l t]
theorem nthL_ok : ∀ (l : List Rg) (n : Int), 0 ≤ n → (∀ r ∈ l, sInside r 99 = true) → ∀ x ∈ nthL l n, 0 ≤ x ∧ x ≤ 99
  | [], n, _, _, x, h => by simp [nthL] at h
  | r :: l, n, hn, hs, x, h => by
    have h1 := hs r (by simp)
    have hz := size_le h1
    simp only [sInside, Bool.and_eq_true, decide_eq_true_eq] at h1
    have hm := tmod_le hn hz.1
    simp only [nthL, List.mem_cons] at h
    rcases h with rfl | h
    · simp only [sSize] at hm ⊢; omega
    · exact nthL_ok l _ (Int.tdiv_nonneg hn (by omega)) (fun y hy => hs y (by simp [hy])) x h
theorem pad5_ok {l : List Int} (h : (l.length : Int) ≤ 5) (hl : ∀ x ∈ l, 0 ≤ x ∧ x ≤ 99) : (pad5 l).length = 5 ∧ ∀ x ∈ pad5 l, 0 ≤ x ∧ x ≤ 99 := by
  refine ⟨by simp [pad5]; omega, fun x hx => ?_⟩
  simp only [pad5, List.mem_append] at hx
  rcases hx with hx | hx
  · exact hl x hx
  · rw [List.mem_replicate] at hx; omega
/-- A truth of the reference that fits the coppers. -/
structure T2Ok (c : Cu) (t : Tr2) : Prop where
  sc : ScOk c (tS t)
  len : (t.loss.length : Int) = c.last + 1
theorem nth_ok {c : Cu} (k0 : CuOk c) {n : Int} (hn : 0 ≤ n) : T2Ok c (rNth c n) := by
  have hz := size_le k0.heat
  have hin := k0.heat
  simp only [sInside, Bool.and_eq_true, decide_eq_true_eq] at hin
  have hm := tmod_le hn hz.1
  have hl := k0.last
  have hl2 := k0.loss.1
  have h1 := nthL_len c.loss (n.tdiv (sSize c.heat))
  refine ⟨⟨?_, ?_⟩, ?_⟩
  · simp only [tS, rNth]; simp only [sSize] at hm ⊢; omega
  · exact pad5_ok (by simp only [rNth]; omega) (nthL_ok _ _ (Int.tdiv_nonneg hn (by omega)) k0.loss.2)
  · simp only [rNth]; omega
theorem T2Ok.tr {c : Cu} (k0 : CuOk c) {t : Tr2} (h : T2Ok c t) : TrOk c t c.coal c.want := ⟨k0.play0 h.sc, h.len⟩
def rIs (c : Cu) (t : Tr2) : Bool := decide (rRight c t = rFull c)
def rTr (c : Cu) (i : Nat) : List Tr2 := ((List.range i).map fun (n : Nat) => rNth c n).filter (rIs c)
def rTruths (c : Cu) : List Tr2 := rTr c (rMany c).toNat
theorem rTr_succ (c : Cu) (i : Nat) : rTr c (i + 1) = if rIs c (rNth c i) then rTr c i ++ [rNth c i] else rTr c i := by
  simp only [rTr, List.range_succ, List.map_append, List.filter_append, List.map_cons, List.map_nil]
  by_cases h : rIs c (rNth c i) = true
  · simp [h]
  · simp [h]
theorem rTr_len (c : Cu) (i : Nat) : (rTr c i).length ≤ i := by
  have := List.length_filter_le (rIs c) ((List.range i).map fun (n : Nat) => rNth c n)
  simpa [rTr] using this
theorem rTr_ok {c : Cu} (k0 : CuOk c) (i : Nat) : ∀ t ∈ rTr c i, T2Ok c t := fun t ht => by
  simp only [rTr, List.mem_filter, List.mem_map] at ht
  obtain ⟨⟨n, _, rfl⟩, _⟩ := ht
  exact nth_ok k0 (by omega)
theorem rMany_le {c : Cu} (k0 : CuOk c) : 1 ≤ rMany c ∧ rMany c ≤ 2000 := by
  have h := many_iff k0.heat k0.loss.2
  have hz := size_le k0.heat
  have h1 := rManyL_le (n := sSize c.heat) ⟨by omega, by omega⟩ (l := c.loss) k0.loss.2
  have e : rMany c = rManyL (sSize c.heat) c.loss := rfl
  have := k0.many
  have h2 : ¬ 2000 < rMany c := by rw [h]; omega
  omega
set_option maxHeartbeats 2000000 in
theorem c_rTruths (c : Cu) (k0 : CuOk c) : Pu Tryz.prog (.fn 35 [] []) [.agg c.cs] (vT (rTruths c)) := by
  have hM := rMany_le k0
  have hN : (((rMany c).toNat : Nat) : Int) = rMany c := by omega
  refine Ev.fn Tryz.func35 rfl rfl (Fn.body tabOk Tryz.func35 rfl (Nat.le_of_ble_eq_true rfl) (Ks.ok (fz := (fzn [5])) (cl := (cln [(6, .d tg0 [cP, cL, cP, cP, cP, cP])])) tabOk mixed ?_))
  generalize hQ : FnPost tt Tryz.f35 _ _ = Q
  simp only [Tryz.f35, List.nil_append, List.append_nil, argsEnv]
  simp only [gos, eq_self, Nat.reduceLT, Nat.reduceEqDiff, reduceCtorEq, reduceIte, ↓reduceIte, vgo, vout, vguard, callOf, vop, ev, cv, newRow]
  refine W.loop tabOk mixed (fun i : Nat => ([(1, .rop c.cs), (3, .own 24 (rTr c i).length 0 2 (rTr c i).length), (4, vi i)], [(24, ⟨(rTr c i).length, .row (cT (rTr c i))⟩)])) (fun i => (rMany c).toNat - i) (fun i => i ≤ (rMany c).toNat) 0 (by omega) (Wk.trans (Wk.sl0E 3 24 2 rfl rfl) (Wk.env (by simp [subE, Env.get, rTr]))) ?_
  intro i hi
  simp only [gos, eq_self, Nat.reduceLT, Nat.reduceEqDiff, reduceCtorEq, reduceIte, ↓reduceIte, tt, vgo, vout, vguard, callOf, vop, ev, vload]
  refine Cl.pu (c_rMany c k0.heat (by have := k0.loss.1; have := k0.last; omega) k0.loss.2) ?_ rfl (by simp only [V.into, intoL, cu_into, Bool.and_true])
  by_cases hil : (i : Int) < rMany c
  · have hno := nth_ok k0 (n := i) (by omega)
    have hts : ∀ t : Tr2, t.cs.take 2 = t.cs := fun _ => rfl
    have htn : ∀ t : Tr2, t.cs.length = 2 := fun _ => rfl
    have hto : ∀ t : Tr2, oneL t.cs = true := fun _ => rfl
    have htd : ∀ t : Tr2, List.drop 2 t.cs = [] := fun _ => rfl
    simp only [gos, eq_self, Nat.reduceLT, Nat.reduceEqDiff, reduceCtorEq, reduceIte, ↓reduceIte, tt, vgo, vout, vguard, callOf, vop, ev, vbin, vint, isShift, isNilConst, vload, hil]
    refine Cl.pu (c_rNth c k0 i (by omega)) ?_ rfl (by simp only [V.into, intoL, cu_into, Bool.and_true])
    simp only [gos, eq_self, Nat.reduceLT, Nat.reduceEqDiff, Nat.reduceAdd, reduceCtorEq, reduceIte, ↓reduceIte, tt, vgo, vout, vguard, callOf, vop, ev, newRow, htn, hto]
    refine Wr.draw (by kernel_rfl) ?_
    simp only [gos, eq_self, Nat.reduceLT, Nat.reduceEqDiff, Nat.reduceAdd, reduceCtorEq, reduceIte, ↓reduceIte, tt, vgoD, voutD, vclsOk, vids, mayWrite, V.ids, vguard, callOf, vop, ev, vload, clsAt, hts, htn]
    refine CD.pu (c_rRight c k0 (rNth c i) (hno.tr k0)) ?_ rfl (by simp only [V.into, intoL, vI_into, cu_into, Bool.and_true, Tr2.cs])
    simp only [gos, eq_self, Nat.reduceLT, Nat.reduceEqDiff, reduceCtorEq, reduceIte, ↓reduceIte, tt, vgoD, voutD, vclsOk, vids, mayWrite, V.ids, vguard, callOf, vop, ev, vload]
    refine CD.pu (c_rFull c k0.rds) ?_ rfl (by simp only [V.into, intoL, cu_into, Bool.and_true])
    have hlen : (cT (rTr c i)).length = (rTr c i).length * 2 := cT_len _
    have hl9 : (rTr c i).length ≤ 999999 := by have := rTr_len c i; omega
    by_cases hr : rRight c (rNth c i) = rFull c
    · have hs : rTr c (i + 1) = rTr c i ++ [rNth c i] := by rw [rTr_succ, if_pos (by simp [rIs, hr])]
      have hb : decide (rRight c (rNth c i) = rFull c) = true := by simp [hr]
      simp only [gos, eq_self, Nat.reduceLT, Nat.reduceEqDiff, Nat.reduceAdd, Nat.reduceMul, Nat.reduceLeDiff, reduceCtorEq, reduceIte, ↓reduceIte, tt, vgo, vout, vgoD, voutD, vclsOk, vids, mayWrite, vguard, callOf, vop, ev, cv, vbin, vint, isShift, isNilConst, vload, vfill, vappend, srcOf, hb, hts, htn, hto, hlen, hl9]
      refine Nx.mk (i + 1) (show (rMany c).toNat - (i + 1) < (rMany c).toNat - i by omega) (by omega) (Wk.forget ?_ ?_ (fun j hp => by simp [orD, domP, Heap.get] at hp) ?_ ?_)
      · simp [subE, Env.get, hs, i64_succ (show (i : Int) < 9223372036854775807 by omega)]
      · rw [hs, cT_snoc]
        simp [subH, Heap.get, Tr2.cs]
      · simp only [intoE, V.into, cu_into, Bool.true_and, Bool.and_true, domP, Heap.get]; rfl
      · simp only [intoH, Blk.into, cT_into, Bool.and_self]
    · have hs : rTr c (i + 1) = rTr c i := by rw [rTr_succ, if_neg (by simp [rIs, hr])]
      have hb : decide (rRight c (rNth c i) = rFull c) = false := by simp [hr]
      simp only [gos, eq_self, Nat.reduceLT, Nat.reduceEqDiff, reduceIte, ↓reduceIte, vgo, vout, vgoD, voutD, vclsOk, vids, mayWrite, vguard, callOf, vop, ev, cv, vbin, vint, isShift, isNilConst, hb]
      refine Nx.mk (i + 1) (show (rMany c).toNat - (i + 1) < (rMany c).toNat - i by omega) (by omega) (Wk.forget ?_ ?_ (fun j hp => by simp [orD, domP, Heap.get] at hp) ?_ ?_)
      · simp [subE, Env.get, hs, i64_succ (show (i : Int) < 9223372036854775807 by omega)]
      · rw [hs]; simp [subH, Heap.get]
      · simp only [intoE, V.into, cu_into, Bool.true_and, Bool.and_true, domP, Heap.get]; rfl
      · simp only [intoH, Blk.into, cT_into, Bool.and_self]
  · have hie : i = (rMany c).toNat := by omega
    simp only [gos, eq_self, Nat.reduceLT, Nat.reduceEqDiff, reduceIte, ↓reduceIte, vgo, vout, vguard, callOf, vop, ev, vbin, vint, isShift, isNilConst, hil]
    subst hQ
    have hlen : (cT (rTr c i)).length = (rTr c i).length * 2 := cT_len _
    have ht : (cT (rTr c i)).take ((rTr c i).length * 2) = cT (rTr c i) := List.take_of_length_le (by omega)
    rw [rTruths, ← hie]
    refine FnPost.plain trivial (v := .own 24 (rTr c i).length 0 2 (rTr c i).length) (fun h2 e => by rfl) (WkV.frz 24 (v' := vT (rTr c i)) (h' := []) (ver := (rTr c i).length) (cs := cT (rTr c i)) rfl rfl (cT_into _ _) rfl ?_ ?_ WkV.refl) ⟨rfl, rfl⟩
    · simp [V.frz, vT, ht]
    · simp [frzH]
end Go.Vm

set_option linter.unusedVariables false
set_option linter.unusedSimpArgs false
set_option maxRecDepth 100000
namespace Go.Vm
open Go.Proofs
/-! ### the reference: bounds and verdicts -/
def hotI (c : Cu) (t : Tr2) (i : Nat) : Int := (sHeat c (tS t) c.coal c.want i).tdiv c.per
def leftI (c : Cu) (t : Tr2) (i : Nat) : Int := (sPlay c (tS t) c.coal c.want (i + 1)).1
def rVerdict (yes many : Int) : Int := if yes = many then 1 else if yes = 0 then 2 else 3
def keptI (c : Cu) (coal want : List Int) (t : Tr2) (i : Nat) : Bool := decide (gi want i ≤ (sHeat c (tS t) coal want i).tdiv c.per)
end Go.Vm

set_option linter.unusedVariables false
set_option linter.unusedSimpArgs false
set_option maxRecDepth 100000
namespace Go.Vm
open Go.Proofs
/-! ### the laws' helpers -/
theorem c_to (r : Rg) : Pu Tryz.prog (.fn 111 [] []) [.agg [vi r.lo, vi r.hi]] (.agg [vi r.lo, vi r.hi]) := by
  refine Ev.fn Tryz.func111 rfl rfl (Fn.body tabOk Tryz.func111 rfl (Nat.le_of_ble_eq_true rfl) (Ks.ok (fz := (fzn [2])) (cl := (cln [])) tabOk mixed ?_))
  generalize hQ : FnPost tt Tryz.f111 _ _ = Q
  simp only [Tryz.f111, List.nil_append, List.append_nil, argsEnv]
  simp only [gos, eq_self, Nat.reduceLT, Nat.reduceEqDiff, Nat.reduceAdd, Nat.reduceLeDiff, reduceCtorEq, reduceIte, ↓reduceIte, tt, vgo, vout, vguard, callOf, vop, ev, vload, newRow, vfill]
  subst hQ
  exact FnPost.plain trivial (fun h2 e => by first | rfl | (simp only [Tryz.f111, vres, vresL, vres1, e _, gos, eq_self, Nat.reduceLT, Nat.reduceEqDiff, Nat.reduceAdd, reduceCtorEq, reduceIte, ↓reduceIte, tt, vload]; try rfl)) (WkV.pure (by simp only [V.into, intoL, Bool.and_true])) ⟨rfl, rfl⟩
theorem c_list (l : List Int) (hl : (l.length : Int) ≤ 1000000) : Pu Tryz.prog (.fn 110 [] []) [vI l] (vI l) := by
  refine Ev.fn Tryz.func110 rfl rfl (Fn.body tabOk Tryz.func110 rfl (Nat.le_of_ble_eq_true rfl) (Ks.ok (fz := (fzn [])) (cl := (cln [])) tabOk mixed ?_))
  generalize hQ : FnPost tt Tryz.f110 _ _ = Q
  simp only [Tryz.f110, List.nil_append, List.append_nil, argsEnv]
  have hl2 : l.length ≤ 1000000 := by omega
  simp only [gos, eq_self, Nat.reduceLT, Nat.reduceEqDiff, Nat.reduceLeDiff, reduceCtorEq, reduceIte, ↓reduceIte, tt, vgo, vout, vguard, callOf, vop, ev, cv, vfill, vappend, srcOf, vI, cI_len, Nat.mul_one, cI_one, hl2]
  subst hQ
  have ht : (cI l).take l.length = cI l := List.take_of_length_le (by rw [cI_len]; omega)
  refine FnPost.plain trivial (v := .own 5 0 0 1 l.length) (fun h2 e => by rfl) (WkV.frz 5 (v' := vI l) (h' := []) (ver := 0) (cs := cI l) rfl rfl (cI_into _ _) rfl ?_ ?_ WkV.refl) ⟨rfl, rfl⟩
  · simp [V.frz, vI, ht]
  · simp [frzH]
theorem wk_cop (c : Cu) (i j : Nat) (R : List Rg) (D : List Rd) (hR : R.length = i) (hD : D.length = j) :
    WkV (domP []) (.agg [vi c.last, vi c.start, vi c.most, vi c.per, vi c.shovels, vI c.coal, vI c.want, vi c.heat.lo, vi c.heat.hi, .own 42 i 0 2 i, .own 68 j 0 3 j])
      [(2, ⟨0, .row [vi c.last, vi c.start, vi c.most, vi c.per, vi c.shovels, vI c.coal, vI c.want, vi c.heat.lo, vi c.heat.hi, .own 42 i 0 2 i, .own 68 j 0 3 j]⟩), (3, ⟨0, .row [vi c.last, vi c.start, vi c.most, vi c.per, vi c.shovels, vI c.coal, vI c.want, vi c.heat.lo, vi c.heat.hi, .own 42 i 0 2 i, .own 68 j 0 3 j]⟩), (42, ⟨i, .row (cR R)⟩), (68, ⟨j, .row (cD D)⟩)]
      (.agg [vi c.last, vi c.start, vi c.most, vi c.per, vi c.shovels, vI c.coal, vI c.want, vi c.heat.lo, vi c.heat.hi, vR R, vD D]) [] := by
  have e1 : (cR R).take (i * 2) = cR R := List.take_of_length_le (by rw [cR_len]; omega)
  have e2 : (cD D).take (j * 3) = cD D := List.take_of_length_le (by rw [cD_len]; omega)
  refine WkV.frz 42 (v' := .agg [vi c.last, vi c.start, vi c.most, vi c.per, vi c.shovels, vI c.coal, vI c.want, vi c.heat.lo, vi c.heat.hi, .ro i (cR R), .own 68 j 0 3 j])
    (h' := [(2, ⟨0, .row [vi c.last, vi c.start, vi c.most, vi c.per, vi c.shovels, vI c.coal, vI c.want, vi c.heat.lo, vi c.heat.hi, .ro i (cR R), .own 68 j 0 3 j]⟩), (3, ⟨0, .row [vi c.last, vi c.start, vi c.most, vi c.per, vi c.shovels, vI c.coal, vI c.want, vi c.heat.lo, vi c.heat.hi, .ro i (cR R), .own 68 j 0 3 j]⟩), (68, ⟨j, .row (cD D)⟩)]) (ver := i) (cs := cR R) rfl rfl (cR_into _ _) rfl ?_ ?_ ?_
  · simp [V.frz, frzL, e1, vI, cI_frz]
  · simp [frzH, Blk.frz, V.frz, frzL, e1, cI_frz, cD_frz, vI]
  refine WkV.frz 68 (v' := .agg [vi c.last, vi c.start, vi c.most, vi c.per, vi c.shovels, vI c.coal, vI c.want, vi c.heat.lo, vi c.heat.hi, .ro i (cR R), .ro j (cD D)])
    (h' := [(2, ⟨0, .row [vi c.last, vi c.start, vi c.most, vi c.per, vi c.shovels, vI c.coal, vI c.want, vi c.heat.lo, vi c.heat.hi, .ro i (cR R), .ro j (cD D)]⟩), (3, ⟨0, .row [vi c.last, vi c.start, vi c.most, vi c.per, vi c.shovels, vI c.coal, vI c.want, vi c.heat.lo, vi c.heat.hi, .ro i (cR R), .ro j (cD D)]⟩)]) (ver := j) (cs := cD D) rfl rfl (cD_into _ _) rfl ?_ ?_ ?_
  · simp [V.frz, frzL, e2, vI, cI_frz, cR_frz]
  · simp [frzH, Blk.frz, V.frz, frzL, e2, cI_frz, cR_frz, vI]
  rw [show V.ro i (cR R) = vR R by rw [vR, hR], show V.ro j (cD D) = vD D by rw [vD, hD]]
  exact WkV.pure (by simp only [V.into, intoL, vI_into, vR_into, vD_into, Bool.and_true])
theorem cD_snoc : ∀ (l : List Rd) (r : Rd), cD (l ++ [r]) = cD l ++ [vi r.hour, vi r.b.lo, vi r.b.hi]
  | [], r => rfl
  | x :: l, r => by simp [cD, cD_snoc l r]
set_option maxHeartbeats 4000000 in
theorem c_lCopper (c : Cu) (hc : c.wf) : Pu Tryz.prog (.fn 57 [] []) [.agg c.cs] (.agg c.cs) := by
  refine Ev.fn Tryz.func57 rfl rfl (Fn.body tabOk Tryz.func57 rfl (Nat.le_of_ble_eq_true rfl) (Ks.ok (fz := (fzn [2, 3])) (cl := (cln [(1, .d tg0 [cP, cP, cP, cP, cP, cP, cP, cP, cP, cP, cP, cP, cP, cP, cP, cP, cP, cP, cP, cP, cW, cW]), (5, .d (tgL [(42, 1)]) [cP, cL, cP, cP, cP, cP, cP, cP, cP, some ([1], [1]), cP, cW]), (9, .d (tgL [(68, 1)]) [cP, cL, cP, cP, cP, cP, cP, cP, cP, cP, cP, cP, cP, cP, cP, cP, cP, some ([1], [1]), cP, cW])])) tabOk mixed ?_))
  generalize hQ : FnPost tt Tryz.f57 _ _ = Q
  simp only [Tryz.f57, List.nil_append, List.append_nil, argsEnv]
  simp only [gos, eq_self, Nat.reduceLT, Nat.reduceEqDiff, reduceCtorEq, reduceIte, ↓reduceIte, tt, vgo, vout, vguard, callOf, vop, ev, newRow]
  refine Wr.draw (by kernel_rfl) ?_
  simp only [gos, eq_self, Nat.reduceLT, Nat.reduceEqDiff, Nat.reduceAdd, reduceCtorEq, reduceIte, ↓reduceIte, tt, vgoD, voutD, vclsOk, vids, mayWrite, V.ids, vguard, callOf, vop, ev, vload, clsAt]
  refine CD.pu (c_list c.coal hc.coal) ?_ rfl (by simp only [intoL, vI_into, Bool.and_true])
  simp only [gos, eq_self, Nat.reduceLT, Nat.reduceEqDiff, reduceCtorEq, reduceIte, ↓reduceIte, tt, vgoD, voutD, vclsOk, vids, mayWrite, V.ids, vguard, callOf, vop, ev, vload]
  refine CD.pu (c_list c.want hc.want) ?_ rfl (by simp only [intoL, vI_into, Bool.and_true])
  simp only [gos, eq_self, Nat.reduceLT, Nat.reduceEqDiff, Nat.reduceLeDiff, reduceCtorEq, reduceIte, ↓reduceIte, tt, vgoD, voutD, vclsOk, vids, mayWrite, V.ids, vguard, callOf, vop, ev, vload]
  refine CD.pu (c_to c.heat) ?_
  simp only [gos, eq_self, Nat.reduceLT, Nat.reduceEqDiff, Nat.reduceAdd, Nat.reduceLeDiff, reduceCtorEq, reduceIte, ↓reduceIte, tt, vgo, vout, vgoD, voutD, vclsOk, vids, mayWrite, V.ids, vguard, callOf, vop, ev, cv, newRow, vfill]
  let row : Nat → Nat → List V := fun i j => [vi c.last, vi c.start, vi c.most, vi c.per, vi c.shovels, vI c.coal, vI c.want, vi c.heat.lo, vi c.heat.hi, .own 42 i 0 2 i, .own 68 j 0 3 j]
  refine W.loop tabOk mixed (fun i : Nat => ([(1, .rop c.cs), (2, .ptr 2 0 0), (3, .ptr 3 0 0), (4, vi i)], [(2, ⟨0, .row [vi 0, vi 0, vi 0, vi 0, vi 0, .sl0, .sl0, vi 0, vi 0, .sl0, .sl0]⟩), (3, ⟨0, .row [vi c.last, vi c.start, vi c.most, vi c.per, vi c.shovels, vI c.coal, vI c.want, vi c.heat.lo, vi c.heat.hi, .own 42 i 0 2 i, .own 68 0 0 3 0]⟩), (42, ⟨i, .row (cR (c.loss.take i))⟩), (68, ⟨0, .row (cD [])⟩)])) (fun i => c.loss.length - i) (fun i => i ≤ c.loss.length) 0 (by omega)
    (Wk.trans (Wk.sl0H 3 9 42 2 rfl rfl rfl) (Wk.trans (Wk.sl0H 3 10 68 3 rfl rfl rfl) (Wk.env (by simp [subE, Env.get])))) ?_
  intro i hi
  by_cases hil : (i : Int) < c.loss.length
  · have hn : (cR (c.loss.take i)).length = i * 2 := by rw [cR_len, List.length_take]; omega
    have hi9 : i ≤ 999999 := by have := hc.loss; omega
    simp only [gos, eq_self, Nat.reduceLT, Nat.reduceEqDiff, reduceCtorEq, reduceIte, ↓reduceIte, tt, vgo, vout, vguard, callOf, vop, ev, vbin, vint, isShift, isNilConst, vload, vlen, vR, hil]
    refine Wr.draw (by kernel_rfl) ?_
    simp only [gos, eq_self, Nat.reduceLT, Nat.reduceEqDiff, Nat.reduceAdd, reduceCtorEq, reduceIte, ↓reduceIte, tt, vgoD, voutD, vclsOk, vids, mayWrite, V.ids, vguard, callOf, vop, ev, vload, clsAt, vR, hil, cR_at (Int.natCast_nonneg i) hil]
    refine CD.pu (c_to _) ?_
    simp only [gos, eq_self, Nat.reduceLT, Nat.reduceEqDiff, Nat.reduceAdd, Nat.reduceMul, Nat.reduceLeDiff, reduceCtorEq, reduceIte, ↓reduceIte, tt, vgo, vout, vgoD, voutD, vclsOk, vids, mayWrite, V.ids, vguard, callOf, vop, ev, cv, vbin, vint, isShift, isNilConst, vfill, vappend, srcOf, hn, hi9]
    refine Nx.mk (i + 1) (show c.loss.length - (i + 1) < c.loss.length - i by omega) (by omega) (Wk.heap (fun j => ?_) ?_)
    · rw [take_snocR hil, cR_snoc]
    · simp [subE, Env.get, i64_succ (show (i : Int) < 9223372036854775807 by omega)]
  have e : c.loss.take i = c.loss := List.take_of_length_le (by omega)
  have hie : i = c.loss.length := by omega
  simp only [gos, eq_self, Nat.reduceLT, Nat.reduceEqDiff, reduceCtorEq, reduceIte, ↓reduceIte, tt, vgo, vout, vguard, callOf, vop, ev, cv, vbin, vint, isShift, isNilConst, vload, vlen, vR, hil, e]
  refine W.loop tabOk mixed (fun j : Nat => ([(1, .rop c.cs), (2, .ptr 2 0 0), (3, .ptr 3 0 0), (5, vi j)], [(2, ⟨0, .row [vi 0, vi 0, vi 0, vi 0, vi 0, .sl0, .sl0, vi 0, vi 0, .sl0, .sl0]⟩), (3, ⟨0, .row [vi c.last, vi c.start, vi c.most, vi c.per, vi c.shovels, vI c.coal, vI c.want, vi c.heat.lo, vi c.heat.hi, .own 42 i 0 2 i, .own 68 j 0 3 j]⟩), (42, ⟨i, .row (cR c.loss)⟩), (68, ⟨j, .row (cD (c.readings.take j))⟩)])) (fun j => c.readings.length - j) (fun j => j ≤ c.readings.length) 0 (by omega)
    (Wk.env (by simp [subE, Env.get])) ?_
  intro j hj
  by_cases hjl : (j : Int) < c.readings.length
  · have hn : (cD (c.readings.take j)).length = j * 3 := by rw [cD_len, List.length_take]; omega
    have hj9 : j ≤ 999999 := by have := hc.readings; omega
    have ed : c.readings.take (j + 1) = c.readings.take j ++ [gD c.readings j] := by rw [List.take_add_one, gD_get hjl]; rfl
    simp only [gos, eq_self, Nat.reduceLT, Nat.reduceEqDiff, reduceCtorEq, reduceIte, ↓reduceIte, tt, vgo, vout, vguard, callOf, vop, ev, vbin, vint, isShift, isNilConst, vload, vlen, vD, hjl]
    refine Wr.draw (by kernel_rfl) ?_
    simp only [gos, eq_self, Nat.reduceLT, Nat.reduceEqDiff, Nat.reduceAdd, reduceCtorEq, reduceIte, ↓reduceIte, tt, vgoD, voutD, vclsOk, vids, mayWrite, V.ids, vguard, callOf, vop, ev, vload, clsAt, vD, hjl, cD_at (Int.natCast_nonneg j) hjl]
    refine CD.pu (c_to _) ?_
    simp only [gos, eq_self, Nat.reduceLT, Nat.reduceEqDiff, Nat.reduceAdd, Nat.reduceMul, Nat.reduceLeDiff, reduceCtorEq, reduceIte, ↓reduceIte, tt, vgo, vout, vgoD, voutD, vclsOk, vids, mayWrite, V.ids, vguard, callOf, vop, ev, cv, vbin, vint, isShift, isNilConst, vfill, vappend, srcOf, hn, hj9]
    refine Nx.mk (j + 1) (show c.readings.length - (j + 1) < c.readings.length - j by omega) (by omega) (Wk.heap (fun k => ?_) ?_)
    · rw [ed, cD_snoc]
    · simp [subE, Env.get, i64_succ (show (j : Int) < 9223372036854775807 by omega)]
  have e2 : c.readings.take j = c.readings := List.take_of_length_le (by omega)
  have hje : j = c.readings.length := by omega
  simp only [gos, eq_self, Nat.reduceLT, Nat.reduceEqDiff, Nat.reduceAdd, reduceCtorEq, reduceIte, ↓reduceIte, tt, vgo, vout, vguard, callOf, vop, ev, vbin, vint, isShift, isNilConst, vload, vlen, vD, hjl, e2]
  subst hQ
  exact FnPost.plain trivial (v := .agg [vi c.last, vi c.start, vi c.most, vi c.per, vi c.shovels, vI c.coal, vI c.want, vi c.heat.lo, vi c.heat.hi, .own 42 i 0 2 i, .own 68 j 0 3 j]) (fun h2 e => by simp only [Tryz.f57, vres, vresL, vres1, gos, eq_self, Nat.reduceLT, Nat.reduceEqDiff, Nat.reduceAdd, reduceCtorEq, reduceIte, ↓reduceIte, tt, vload, e _]) (wk_cop c i j c.loss c.readings hie.symm hje.symm) ⟨rfl, rfl⟩
end Go.Vm

set_option linter.unusedVariables false
set_option linter.unusedSimpArgs false
set_option maxRecDepth 100000
namespace Go.Vm
open Go.Proofs
/-- Thin coppers. -/
def sThin (c : Cu) : Bool := !decide (7 < (c.coal.length : Int)) && (!decide (7 < (c.want.length : Int)) && (!decide (7 < (c.loss.length : Int)) && (!decide (7 < (c.readings.length : Int)) && (decide (sCheck c ≠ 0) || decide (rMany c ≤ 60)))))
set_option maxHeartbeats 1000000 in
theorem c_Thin (c : Cu) (hl : I64 c.last) : Pu Tryz.prog (.fn 80 [] []) [.agg c.cs] (.bool (sThin c)) := by
  refine Ev.fn Tryz.func80 rfl rfl (Fn.body tabOk Tryz.func80 rfl (Nat.le_of_ble_eq_true rfl) (Ks.ok (fz := (fzn [])) (cl := (cln [])) tabOk mixed ?_))
  generalize hQ : FnPost tt Tryz.f80 _ _ = Q
  simp only [Tryz.f80, List.nil_append, List.append_nil, argsEnv]
  by_cases h1 : 7 < (c.coal.length : Int)
  · simp only [gos, eq_self, Nat.reduceLT, Nat.reduceEqDiff, reduceCtorEq, reduceIte, ↓reduceIte, tt, vgo, vout, vguard, callOf, vop, ev, cv, vbin, vint, isShift, isNilConst, vload, vlen, newRow, vI, h1]
    subst hQ
    exact FnPost.plain trivial (fun h2 e => by first | rfl | (simp only [Tryz.f80, vres, vresL, vres1, e _, gos, if_true, if_false, ne_eq, eq_self, Nat.reduceLT, Nat.reduceEqDiff, Nat.reduceAdd, Nat.reduceMul, Nat.reduceLeDiff, Nat.reduceBEq, reduceCtorEq, reduceIte, Array.toList, ↓reduceIte, tt, vgo, vout, vgoD, voutD, vclsOk, vids, mayWrite, V.ids, V.mids, vguard, callOf, vop, ev, cv, vbin, vint, isShift, isNilConst, vnil, isNilSlice, vload, vlen, newRow, vfill, vslice, entOf, vappend, srcOf, vcopy, vlookup, vupdate, mapOk, keyOf, intsOf, clsAt]; try rfl)) (WkV.pure (by simp only [V.into])) ⟨by simp [sThin, h1], rfl⟩
  by_cases h2 : 7 < (c.want.length : Int)
  · simp only [gos, eq_self, Nat.reduceLT, Nat.reduceEqDiff, reduceCtorEq, reduceIte, ↓reduceIte, tt, vgo, vout, vguard, callOf, vop, ev, cv, vbin, vint, isShift, isNilConst, vload, vlen, newRow, vI, h1, h2]
    subst hQ
    exact FnPost.plain trivial (fun h2 e => by first | rfl | (simp only [Tryz.f80, vres, vresL, vres1, e _, gos, if_true, if_false, ne_eq, eq_self, Nat.reduceLT, Nat.reduceEqDiff, Nat.reduceAdd, Nat.reduceMul, Nat.reduceLeDiff, Nat.reduceBEq, reduceCtorEq, reduceIte, Array.toList, ↓reduceIte, tt, vgo, vout, vgoD, voutD, vclsOk, vids, mayWrite, V.ids, V.mids, vguard, callOf, vop, ev, cv, vbin, vint, isShift, isNilConst, vnil, isNilSlice, vload, vlen, newRow, vfill, vslice, entOf, vappend, srcOf, vcopy, vlookup, vupdate, mapOk, keyOf, intsOf, clsAt]; try rfl)) (WkV.pure (by simp only [V.into])) ⟨by simp [sThin, h1, h2], rfl⟩
  by_cases h3 : 7 < (c.loss.length : Int)
  · simp only [gos, eq_self, Nat.reduceLT, Nat.reduceEqDiff, reduceCtorEq, reduceIte, ↓reduceIte, tt, vgo, vout, vguard, callOf, vop, ev, cv, vbin, vint, isShift, isNilConst, vload, vlen, newRow, vI, vR, h1, h2, h3]
    subst hQ
    exact FnPost.plain trivial (fun h2 e => by first | rfl | (simp only [Tryz.f80, vres, vresL, vres1, e _, gos, if_true, if_false, ne_eq, eq_self, Nat.reduceLT, Nat.reduceEqDiff, Nat.reduceAdd, Nat.reduceMul, Nat.reduceLeDiff, Nat.reduceBEq, reduceCtorEq, reduceIte, Array.toList, ↓reduceIte, tt, vgo, vout, vgoD, voutD, vclsOk, vids, mayWrite, V.ids, V.mids, vguard, callOf, vop, ev, cv, vbin, vint, isShift, isNilConst, vnil, isNilSlice, vload, vlen, newRow, vfill, vslice, entOf, vappend, srcOf, vcopy, vlookup, vupdate, mapOk, keyOf, intsOf, clsAt]; try rfl)) (WkV.pure (by simp only [V.into])) ⟨by simp [sThin, h1, h2, h3], rfl⟩
  by_cases h4 : 7 < (c.readings.length : Int)
  · simp only [gos, eq_self, Nat.reduceLT, Nat.reduceEqDiff, reduceCtorEq, reduceIte, ↓reduceIte, tt, vgo, vout, vguard, callOf, vop, ev, cv, vbin, vint, isShift, isNilConst, vload, vlen, newRow, vI, vR, vD, h1, h2, h3, h4]
    subst hQ
    exact FnPost.plain trivial (fun h2 e => by first | rfl | (simp only [Tryz.f80, vres, vresL, vres1, e _, gos, if_true, if_false, ne_eq, eq_self, Nat.reduceLT, Nat.reduceEqDiff, Nat.reduceAdd, Nat.reduceMul, Nat.reduceLeDiff, Nat.reduceBEq, reduceCtorEq, reduceIte, Array.toList, ↓reduceIte, tt, vgo, vout, vgoD, voutD, vclsOk, vids, mayWrite, V.ids, V.mids, vguard, callOf, vop, ev, cv, vbin, vint, isShift, isNilConst, vnil, isNilSlice, vload, vlen, newRow, vfill, vslice, entOf, vappend, srcOf, vcopy, vlookup, vupdate, mapOk, keyOf, intsOf, clsAt]; try rfl)) (WkV.pure (by simp only [V.into])) ⟨by simp [sThin, h1, h2, h3, h4], rfl⟩
  have hc : c.wf := ⟨hl, by omega, by omega, by omega, by omega⟩
  simp only [gos, eq_self, Nat.reduceLT, Nat.reduceEqDiff, reduceCtorEq, reduceIte, ↓reduceIte, tt, vgo, vout, vguard, callOf, vop, ev, cv, vbin, vint, isShift, isNilConst, vload, vlen, newRow, vI, vR, vD, h1, h2, h3, h4]
  refine Cl.pu (c_rFault c hc) ?_ rfl (by simp only [V.into, intoL, cu_into, Bool.and_true])
  by_cases h0 : sCheck c = 0
  · have k0 := sCheck_ok h0
    have hb : (sCheck c != 0) = false := by simp [h0]
    simp only [gos, eq_self, Nat.reduceLT, Nat.reduceEqDiff, reduceCtorEq, reduceIte, ↓reduceIte, tt, vgo, vout, vguard, callOf, vop, ev, cv, vbin, vint, isShift, isNilConst, vload, hb]
    refine Cl.pu (c_rMany c k0.heat hc.loss k0.loss.2) ?_ rfl (by simp only [V.into, intoL, cu_into, Bool.and_true])
    simp only [gos, eq_self, Nat.reduceLT, Nat.reduceEqDiff, reduceIte, ↓reduceIte, vgo, vout, vguard, callOf, vop, ev, cv, vbin, vint, isShift, isNilConst]
    subst hQ
    exact FnPost.plain trivial (fun h2 e => by first | rfl | (simp only [Tryz.f80, vres, vresL, vres1, e _, gos, if_true, if_false, ne_eq, eq_self, Nat.reduceLT, Nat.reduceEqDiff, Nat.reduceAdd, Nat.reduceMul, Nat.reduceLeDiff, Nat.reduceBEq, reduceCtorEq, reduceIte, Array.toList, ↓reduceIte, tt, vgo, vout, vgoD, voutD, vclsOk, vids, mayWrite, V.ids, V.mids, vguard, callOf, vop, ev, cv, vbin, vint, isShift, isNilConst, vnil, isNilSlice, vload, vlen, newRow, vfill, vslice, entOf, vappend, srcOf, vcopy, vlookup, vupdate, mapOk, keyOf, intsOf, clsAt]; try rfl)) (WkV.pure (by simp only [V.into])) ⟨by simp [sThin, h1, h2, h3, h4, h0], rfl⟩
  · have hb : (sCheck c != 0) = true := by simp [h0]
    simp only [gos, eq_self, Nat.reduceLT, Nat.reduceEqDiff, reduceIte, ↓reduceIte, vgo, vout, vguard, callOf, vop, ev, cv, vbin, vint, isShift, isNilConst, hb]
    subst hQ
    exact FnPost.plain trivial (fun h2 e => by first | rfl | (simp only [Tryz.f80, vres, vresL, vres1, e _, gos, if_true, if_false, ne_eq, eq_self, Nat.reduceLT, Nat.reduceEqDiff, Nat.reduceAdd, Nat.reduceMul, Nat.reduceLeDiff, Nat.reduceBEq, reduceCtorEq, reduceIte, Array.toList, ↓reduceIte, tt, vgo, vout, vgoD, voutD, vclsOk, vids, mayWrite, V.ids, V.mids, vguard, callOf, vop, ev, cv, vbin, vint, isShift, isNilConst, vnil, isNilSlice, vload, vlen, newRow, vfill, vslice, entOf, vappend, srcOf, vcopy, vlookup, vupdate, mapOk, keyOf, intsOf, clsAt]; try rfl)) (WkV.pure (by simp only [V.into])) ⟨by simp [sThin, h1, h2, h3, h4, h0], rfl⟩
theorem thin_wf {c : Cu} (hl : I64 c.last) (h : sThin c = true) : c.wf := by
  simp only [sThin, Bool.and_eq_true, Bool.not_eq_true', decide_eq_false_iff_not] at h
  exact ⟨hl, by omega, by omega, by omega, by omega⟩
end Go.Vm

set_option linter.unusedVariables false
set_option linter.unusedSimpArgs false
namespace Go.Vm
/-! ### the plain law: the truths of the program are those of the reference -/
/-- A truth, whatever the readings are. -/
structure Listed (c : Cu) (t : Tr2) : Prop where
  heat : c.heat.lo ≤ t.heat ∧ t.heat ≤ c.heat.hi
  len : t.loss.length = c.loss.length
  loss : ∀ i : Nat, i < c.loss.length → (gR c.loss i).lo ≤ gi t.loss i ∧ gi t.loss i ≤ (gR c.loss i).hi
theorem mem_rangeI {lo hi x : Int} : x ∈ rangeI lo hi ↔ lo ≤ x ∧ x ≤ hi := by
  refine ⟨rangeI_mem, fun h => ?_⟩
  simp only [rangeI, List.mem_map, List.mem_range]
  exact ⟨(x - lo).toNat, by omega, by omega⟩
theorem gi_set_self {l : List Int} {i : Nat} (x : Int) (h : i < l.length) : gi (l.set i x) i = x := by
  simp only [gi, Int.toNat_natCast, List.getD_eq_getElem?_getD]
  rw [List.getElem?_set_self h]; rfl
theorem gi_of_get {l m : List Int} {i : Nat} (h : l[i]? = m[i]?) : gi l i = gi m i := by
  simp only [gi, Int.toNat_natCast, List.getD_eq_getElem?_getD, h]
theorem mem_genH (c : Cu) : ∀ (k hour : Nat) (ls l : List Int), hour + k ≤ ls.length →
    (l ∈ genH c k hour ls ↔ l.length = ls.length ∧ (∀ j, j < hour ∨ hour + k ≤ j → l[j]? = ls[j]?) ∧ ∀ j : Nat, hour ≤ j → j < hour + k → (gR c.loss j).lo ≤ gi l j ∧ gi l j ≤ (gR c.loss j).hi)
  | 0, hour, ls, l, _ => by
    simp only [genH, List.mem_singleton]
    constructor
    · rintro rfl; exact ⟨rfl, fun _ _ => rfl, fun j h1 h2 => by omega⟩
    · rintro ⟨_, h, _⟩
      exact List.ext_getElem? fun j => h j (by omega)
  | k + 1, hour, ls, l, hh => by
    simp only [genH, List.mem_flatMap, mem_rangeI]
    constructor
    · rintro ⟨n, hn, hm⟩
      obtain ⟨h1, h2, h3⟩ := (mem_genH c k (hour + 1) (ls.set hour n) l (by simp; omega)).1 hm
      refine ⟨by simpa using h1, fun j hj => ?_, fun j h4 h5 => ?_⟩
      · rw [h2 j (by omega), List.getElem?_set_ne (by omega)]
      · by_cases e : hour = j
        · subst e
          rw [gi_of_get (h2 hour (by omega)), gi_set_self _ (by omega)]
          exact hn
        · exact h3 j (by omega) (by omega)
    · rintro ⟨h1, h2, h3⟩
      refine ⟨gi l hour, h3 hour (by omega) (by omega), (mem_genH c k (hour + 1) (ls.set hour (gi l hour)) l (by simp; omega)).2 ⟨by simpa using h1, fun j hj => ?_, fun j h4 h5 => h3 j (by omega) (by omega)⟩⟩
      by_cases e : hour = j
      · subst e
        rw [List.getElem?_set_self (by omega)]
        exact gi_get (by omega)
      · rw [List.getElem?_set_ne e]
        exact h2 j (by omega)
theorem pad5_get {l : List Int} (j : Nat) (h : j < l.length) : (pad5 l)[j]? = l[j]? := by
  rw [pad5, List.getElem?_append_left h]
theorem pad5_ge {l : List Int} (j : Nat) (h : l.length ≤ j) (hl : l.length ≤ 5) : (pad5 l)[j]? = zL[j]? := by
  rw [pad5, List.getElem?_append_right h, List.getElem?_replicate]
  by_cases hj : j < 5
  · rw [if_pos (by omega)]
    have : ∀ k : Fin 5, zL[(k : Nat)]? = some 0 := by decide
    exact (this ⟨j, hj⟩).symm
  · rw [if_neg (by omega), List.getElem?_eq_none (by simp [zL]; omega)]
theorem mem_truths {c : Cu} (k0 : CuOk c) (s : Sc) : s ∈ truths c ↔ ∃ t, Listed c t ∧ s = tS t := by
  have hl := k0.loss.1
  have hla := k0.last
  have hn : (c.last + 1).toNat = c.loss.length := by omega
  simp only [truths, List.mem_flatMap, List.mem_map, mem_rangeI]
  rw [hn]
  constructor
  · rintro ⟨h, hh, l, hm, rfl⟩
    obtain ⟨h1, h2, h3⟩ := (mem_genH c c.loss.length 0 zL l (by simp [zL]; omega)).1 hm
    have hz : l.length = 5 := h1
    have hlen : (l.take c.loss.length).length = c.loss.length := by rw [List.length_take]; omega
    refine ⟨⟨h, l.take c.loss.length⟩, ⟨hh, hlen, fun i hi => ?_⟩, ?_⟩
    · have : gi (l.take c.loss.length) i = gi l i := gi_of_get (by rw [List.getElem?_take, if_pos hi])
      simp only [this]
      exact h3 i (by omega) (by omega)
    · simp only [tS, Sc.mk.injEq, true_and]
      refine List.ext_getElem? fun j => ?_
      by_cases hj : j < c.loss.length
      · rw [pad5_get j (by omega), List.getElem?_take, if_pos hj]
      · rw [pad5_ge j (by omega) (by omega)]
        exact h2 j (by omega)
  · rintro ⟨t, ⟨ht, hle, hlo⟩, rfl⟩
    refine ⟨t.heat, ht, pad5 t.loss, (mem_genH c c.loss.length 0 zL (pad5 t.loss) (by simp [zL]; omega)).2 ⟨?_, fun j hj => ?_, fun j h4 h5 => ?_⟩, rfl⟩
    · simp [pad5, zL]; omega
    · rcases hj with hj | hj
      · omega
      · exact pad5_ge j (by omega) (by omega)
    · rw [pad5_gi]; exact hlo j (by omega)
/-! the truths by number -/
def encL : List Rg → List Int → Int
  | [], _ => 0
  | r :: rs, l => (gi l 0 - r.lo) + sSize r * encL rs (l.drop 1)
theorem gi_cons_zero (x : Int) (l : List Int) : gi (x :: l) 0 = x := rfl
theorem encL_ok : ∀ (rs : List Rg) (l : List Int), l.length = rs.length → (∀ r ∈ rs, 1 ≤ sSize r) → (∀ i : Nat, i < rs.length → (gR rs i).lo ≤ gi l i ∧ gi l i ≤ (gR rs i).hi) →
    0 ≤ encL rs l ∧ encL rs l < pL rs ∧ nthL rs (encL rs l) = l
  | [], l, hl, _, _ => by
    have : l = [] := List.length_eq_zero_iff.1 hl
    subst this
    simp [encL, pL, nthL]
  | r :: rs, [], hl, _, _ => by simp at hl
  | r :: rs, x :: l, hl, hs, hb => by
    have hr := hs r (by simp)
    have h0 := hb 0 (by simp)
    have e0 : gR (r :: rs) (0 : Nat) = r := rfl
    have e1 : gi (x :: l) (0 : Nat) = x := rfl
    rw [e0, e1] at h0
    obtain ⟨i1, i2, i3⟩ := encL_ok rs l (by simpa using hl) (fun y hy => hs y (by simp [hy])) (fun i hi => by
      have := hb (i + 1) (by simp; omega)
      have a1 : gR (r :: rs) ((i + 1 : Nat) : Int) = gR rs i := by simp only [gR, Int.toNat_natCast, List.getD_cons_succ]
      have a2 : gi (x :: l) ((i + 1 : Nat) : Int) = gi l i := by simp only [gi, Int.toNat_natCast, List.getD_cons_succ]
      rwa [a1, a2] at this)
    have en : encL (r :: rs) (x :: l) = (x - r.lo) + sSize r * encL rs l := by simp only [encL, gi_cons_zero, List.drop_succ_cons, List.drop_zero]
    have hxs : 0 ≤ x - r.lo ∧ x - r.lo < sSize r := by simp only [sSize] at hr ⊢; omega
    have hm : 0 ≤ sSize r * encL rs l := Int.mul_nonneg (by omega) i1
    have hm2 : sSize r * (encL rs l + 1) ≤ sSize r * pL rs := Int.mul_le_mul_of_nonneg_left (by omega) (by omega)
    rw [Int.mul_add] at hm2
    have hn : 0 ≤ (x - r.lo) + sSize r * encL rs l := by omega
    have t1 : ((x - r.lo) + sSize r * encL rs l).tmod (sSize r) = x - r.lo := by
      rw [Int.tmod_eq_emod_of_nonneg hn, Int.add_mul_emod_self_left, Int.emod_eq_of_lt hxs.1 hxs.2]
    have t2 : ((x - r.lo) + sSize r * encL rs l).tdiv (sSize r) = encL rs l := by
      rw [Int.tdiv_eq_ediv_of_nonneg hn, Int.add_mul_ediv_left _ _ (by omega), Int.ediv_eq_zero_of_lt hxs.1 hxs.2]; omega
    rw [en]
    refine ⟨hn, by simp only [pL]; omega, ?_⟩
    simp only [nthL, t1, t2, i3]
    congr 1
    omega
theorem rManyL_3000 : ∀ (l : List Rg), (∀ r ∈ l, 1 ≤ sSize r) → rManyL 3000 l = 3000
  | [], _ => rfl
  | r :: l, h => by
    have h1 := h r (by simp)
    have e : rManyL 3000 (r :: l) = rManyL (min 3000 (3000 * sSize r)) l := rfl
    rw [e, show min 3000 (3000 * sSize r) = 3000 by omega]
    exact rManyL_3000 l fun x hx => h x (by simp [hx])
theorem rManyL_eq : ∀ (l : List Rg) (n : Int), (∀ r ∈ l, 1 ≤ sSize r) → rManyL n l < 3000 → rManyL n l = n * pL l
  | [], n, _, _ => by simp [rManyL, pL]
  | r :: l, n, h, hlt => by
    have e : rManyL n (r :: l) = rManyL (min 3000 (n * sSize r)) l := rfl
    rw [e] at hlt ⊢
    by_cases hc : 3000 ≤ n * sSize r
    · rw [show min 3000 (n * sSize r) = 3000 by omega, rManyL_3000 l fun x hx => h x (by simp [hx])] at hlt
      omega
    · rw [show min 3000 (n * sSize r) = n * sSize r by omega] at hlt ⊢
      rw [rManyL_eq l _ (fun x hx => h x (by simp [hx])) hlt, pL, Int.mul_assoc]
theorem nth_listed {c : Cu} (k0 : CuOk c) {n : Int} (hn : 0 ≤ n) : Listed c (rNth c n) := by
  have hz := size_le k0.heat
  have hin := k0.heat
  simp only [sInside, Bool.and_eq_true, decide_eq_true_eq] at hin
  have hm := tmod_le hn hz.1
  refine ⟨by simp only [rNth]; simp only [sSize] at hm ⊢; omega, by simp only [rNth, nthL_len], ?_⟩
  have key : ∀ (rs : List Rg) (n : Int), 0 ≤ n → (∀ r ∈ rs, 1 ≤ sSize r) → ∀ i : Nat, i < rs.length → (gR rs i).lo ≤ gi (nthL rs n) i ∧ gi (nthL rs n) i ≤ (gR rs i).hi := by
    intro rs
    induction rs with
    | nil => intro n _ _ i hi; simp at hi
    | cons r rs ih =>
      intro n hn hs i hi
      have hr := hs r (by simp)
      have hm := tmod_le hn hr
      cases i with
      | zero =>
        have a1 : gR (r :: rs) ((0 : Nat) : Int) = r := rfl
        have a2 : gi (nthL (r :: rs) n) ((0 : Nat) : Int) = r.lo + n.tmod (sSize r) := rfl
        rw [a1, a2]
        simp only [sSize] at hm ⊢; omega
      | succ i =>
        have a1 : gR (r :: rs) ((i + 1 : Nat) : Int) = gR rs i := by simp only [gR, Int.toNat_natCast, List.getD_cons_succ]
        have a2 : gi (nthL (r :: rs) n) ((i + 1 : Nat) : Int) = gi (nthL rs (n.tdiv (sSize r))) i := by simp only [nthL, gi, Int.toNat_natCast, List.getD_cons_succ]
        rw [a1, a2]
        exact ih _ (Int.tdiv_nonneg hn (by omega)) (fun x hx => hs x (by simp [hx])) i (by simpa using hi)
  exact key c.loss _ (Int.tdiv_nonneg hn (by omega)) fun r hr => (size_le (k0.loss.2 r hr)).1
theorem nth_surj {c : Cu} (k0 : CuOk c) {t : Tr2} (h : Listed c t) : ∃ n : Nat, (n : Int) < rMany c ∧ rNth c n = t := by
  have hz := size_le k0.heat
  have hs : ∀ r ∈ c.loss, 1 ≤ sSize r := fun r hr => (size_le (k0.loss.2 r hr)).1
  obtain ⟨h1, h2, h3⟩ := encL_ok c.loss t.loss h.len hs h.loss
  have hM := rMany_le k0
  have e : rMany c = sSize c.heat * pL c.loss := rManyL_eq c.loss (sSize c.heat) hs (by have : rMany c = rManyL (sSize c.heat) c.loss := rfl; omega)
  have hx : 0 ≤ t.heat - c.heat.lo ∧ t.heat - c.heat.lo < sSize c.heat := by have := h.heat; simp only [sSize]; omega
  have hm : 0 ≤ sSize c.heat * encL c.loss t.loss := Int.mul_nonneg (by omega) h1
  have hm2 : sSize c.heat * (encL c.loss t.loss + 1) ≤ sSize c.heat * pL c.loss := Int.mul_le_mul_of_nonneg_left (by omega) (by omega)
  rw [Int.mul_add] at hm2
  have hn : 0 ≤ (t.heat - c.heat.lo) + sSize c.heat * encL c.loss t.loss := by omega
  have t1 : ((t.heat - c.heat.lo) + sSize c.heat * encL c.loss t.loss).tmod (sSize c.heat) = t.heat - c.heat.lo := by
    rw [Int.tmod_eq_emod_of_nonneg hn, Int.add_mul_emod_self_left, Int.emod_eq_of_lt hx.1 hx.2]
  have t2 : ((t.heat - c.heat.lo) + sSize c.heat * encL c.loss t.loss).tdiv (sSize c.heat) = encL c.loss t.loss := by
    rw [Int.tdiv_eq_ediv_of_nonneg hn, Int.add_mul_ediv_left _ _ (by omega), Int.ediv_eq_zero_of_lt hx.1 hx.2]; omega
  refine ⟨((t.heat - c.heat.lo) + sSize c.heat * encL c.loss t.loss).toNat, by omega, ?_⟩
  rw [show ((((t.heat - c.heat.lo) + sSize c.heat * encL c.loss t.loss).toNat : Nat) : Int) = (t.heat - c.heat.lo) + sSize c.heat * encL c.loss t.loss by omega]
  simp only [rNth, t1, t2, h3]
  cases t
  simp only [Tr2.mk.injEq, and_true]
  omega
end Go.Vm

set_option linter.unusedVariables false
set_option linter.unusedSimpArgs false
namespace Go.Vm
/-! ### what is hot, left and kept, by hour -/
theorem sPlay_hot (c : Cu) (s : Sc) (coal want : List Int) : ∀ n, (sPlay c s coal want n).2.hot = (List.range n).map (fun (i : Nat) => (sHeat c s coal want i).tdiv c.per) ∧
    (sPlay c s coal want n).2.left = (List.range n).map (fun (i : Nat) => (sPlay c s coal want (i + 1)).1) ∧ (sPlay c s coal want n).2.kept = (List.range n).map (fun (i : Nat) => decide (gi want i ≤ (sHeat c s coal want i).tdiv c.per))
  | 0 => ⟨rfl, rfl, rfl⟩
  | n + 1 => by
    obtain ⟨h1, h2, h3⟩ := sPlay_hot c s coal want n
    have e : sPlay c s coal want (n + 1) = ((sPlay c s coal want (n + 1)).1, ⟨(sPlay c s coal want n).2.hot ++ [(sHeat c s coal want n).tdiv c.per], (sPlay c s coal want n).2.left ++ [(sPlay c s coal want (n + 1)).1], (sPlay c s coal want n).2.kept ++ [decide (gi want n ≤ (sHeat c s coal want n).tdiv c.per)]⟩) := rfl
    rw [e]
    simp only [h1, h2, h3, List.range_succ, List.map_append, List.map_cons, List.map_nil, and_true]
theorem gi_map {f : Nat → Int} {n i : Nat} (h : i < n) : gi ((List.range n).map f) i = f i := by
  simp only [gi, Int.toNat_natCast, List.getD_eq_getElem?_getD, List.getElem?_map]
  rw [List.getElem?_range h]; rfl
theorem past_hot {c : Cu} (coal want : List Int) (s : Sc) {i : Nat} (hi : (i : Int) ≤ c.last) : gi (sPast c coal want s).hot i = (sHeat c s coal want i).tdiv c.per := by
  rw [sPast, (sPlay_hot c s coal want _).1, gi_map (by omega)]
theorem dec_not (x : Bool) : decide (false = x) = !x := by cases x <;> rfl
theorem past_whole {c : Cu} (coal want : List Int) (s : Sc) : ((sPast c coal want s).kept.any fun y => decide (false = y)) = !((List.range (c.last + 1).toNat).all fun (i : Nat) => decide (gi want i ≤ (sHeat c s coal want i).tdiv c.per)) := by
  rw [sPast, (sPlay_hot c s coal want _).2.2, List.any_map, List.not_all_eq_any_not]
  congr 1
  funext i
  simp only [Function.comp]
  exact dec_not _
/-! ### all readings are right -/
theorem bitsI_full (f : Nat → Bool) : ∀ n, bitsI f n = 2 ^ n - 1 ↔ ∀ i, i < n → f i = true
  | 0 => by simp [bitsI]
  | n + 1 => by
    have ih := bitsI_full f n
    have hb := bitsI_le f n
    have e : (2 : Int) ^ (n + 1) = 2 ^ n + 2 ^ n := by rw [Int.pow_succ]; omega
    simp only [bitsI]
    constructor
    · intro h i hi
      by_cases hf : f n = true
      · rw [if_pos hf] at h
        rcases Nat.lt_succ_iff_lt_or_eq.1 hi with h1 | rfl
        · exact ih.1 (by omega) i h1
        · exact hf
      · rw [if_neg hf] at h; omega
    · intro h
      rw [if_pos (h n (by omega)), ih.2 fun i hi => h i (by omega)]
      omega
theorem rOk_eq {c : Cu} (k0 : CuOk c) (t : Tr2) {i : Nat} (hi : i < c.readings.length) : sRead1 c (tS t) [] i = rOk c t i := by
  have hr := k0.hours _ (List.mem_of_getElem? (gD_get (l := c.readings) (i := i) (by omega)))
  have := past_hot c.coal c.want (tS t) (c := c) (i := (gD c.readings i).hour.toNat) (by omega)
  rw [show (((gD c.readings i).hour.toNat : Nat) : Int) = (gD c.readings i).hour by omega, sPast] at this
  simp only [sRead1, List.any_nil, Bool.false_or, rOk, this]
theorem right_iff {c : Cu} (k0 : CuOk c) (t : Tr2) : rRight c t = rFull c ↔ sRight c (tS t) [] = true := by
  rw [rRight, rFull, bitsI_full]
  simp only [sRight, List.all_eq_true, List.mem_range]
  exact ⟨fun h i hi => by rw [rOk_eq k0 t hi]; exact h i hi, fun h i hi => by rw [← rOk_eq k0 t hi]; exact h i hi⟩
/-! ### the same truths -/
theorem ask_all (c : Cu) (l : List Sc) : ∀ (tr : List Sc), (∀ s ∈ tr, s ∈ (runAll (askStep c) l tr).2) ∧ ∀ s ∈ l, sRight c s [] = true → s ∈ (runAll (askStep c) l tr).2 := by
  induction l with
  | nil => intro tr; exact ⟨fun s hs => hs, fun s hs => by cases hs⟩
  | cons x l ih =>
    intro tr
    obtain ⟨i1, i2⟩ := ih (askAdd c x tr)
    have hsub : ∀ s ∈ tr, s ∈ askAdd c x tr := fun s hs => by
      unfold askAdd; split
      · simp [hs]
      · exact hs
    refine ⟨fun s hs => i1 s (hsub s hs), fun s hs hr => ?_⟩
    rcases List.mem_cons.1 hs with rfl | hs
    · refine i1 s ?_
      unfold askAdd; split
      · simp
      · rename_i hn
        have : tr.getLast? = some s := by
          cases h : decide (tr.getLast? = some s) with
          | true => simpa using h
          | false => exact absurd ⟨hr, by simpa using h⟩ hn
        exact List.mem_of_getLast? this
    · exact i2 s hs hr
theorem mem_sTruth (c : Cu) (s : Sc) : s ∈ sTruth c ↔ s ∈ truths c ∧ sRight c s [] = true := by
  constructor
  · intro h
    rcases ask_mem c (truths c) [] s h with h | h
    · cases h
    · exact h
  · rintro ⟨h1, h2⟩
    exact (ask_all c (truths c) []).2 s h1 h2
theorem mem_rTruths (c : Cu) (t : Tr2) : t ∈ rTruths c ↔ (∃ n : Nat, n < (rMany c).toNat ∧ rNth c n = t) ∧ rRight c t = rFull c := by
  simp only [rTruths, rTr, List.mem_filter, List.mem_map, List.mem_range, rIs, decide_eq_true_eq]
theorem mem_rTruths' {c : Cu} (k0 : CuOk c) (t : Tr2) : t ∈ rTruths c ↔ Listed c t ∧ sRight c (tS t) [] = true := by
  rw [mem_rTruths, right_iff k0]
  constructor
  · rintro ⟨⟨n, _, rfl⟩, h⟩
    exact ⟨nth_listed k0 (by omega), h⟩
  · rintro ⟨h1, h2⟩
    obtain ⟨n, h3, h4⟩ := nth_surj k0 h1
    exact ⟨⟨n, by omega, h4⟩, h2⟩
theorem same_truths {c : Cu} (k0 : CuOk c) (s : Sc) : s ∈ sTruth c ↔ ∃ t ∈ rTruths c, s = tS t := by
  rw [mem_sTruth, mem_truths k0]
  constructor
  · rintro ⟨⟨t, h1, rfl⟩, h2⟩
    exact ⟨t, (mem_rTruths' k0 t).2 ⟨h1, h2⟩, rfl⟩
  · rintro ⟨t, h1, rfl⟩
    obtain ⟨h2, h3⟩ := (mem_rTruths' k0 t).1 h1
    exact ⟨⟨t, h2, rfl⟩, h3⟩
theorem same_nil {c : Cu} (k0 : CuOk c) : sTruth c = [] ↔ rTruths c = [] := by
  constructor
  · intro h
    cases hr : rTruths c with
    | nil => rfl
    | cons t l =>
      have := (same_truths k0 (tS t)).2 ⟨t, by rw [hr]; simp, rfl⟩
      rw [h] at this; cases this
  · intro h
    cases hr : sTruth c with
    | nil => rfl
    | cons s l =>
      obtain ⟨t, ht, _⟩ := (same_truths k0 s).1 (by rw [hr]; simp)
      rw [h] at ht; cases ht
/-! ### the bounds are the same -/
theorem fold_wider : ∀ (l : List Int) (r : Rg), (l.foldl sWider r).lo ≤ r.lo ∧ (∀ x ∈ l, (l.foldl sWider r).lo ≤ x) ∧ ((l.foldl sWider r).lo = r.lo ∨ (l.foldl sWider r).lo ∈ l) ∧
    r.hi ≤ (l.foldl sWider r).hi ∧ (∀ x ∈ l, x ≤ (l.foldl sWider r).hi) ∧ ((l.foldl sWider r).hi = r.hi ∨ (l.foldl sWider r).hi ∈ l)
  | [], r => ⟨Int.le_refl _, by simp, .inl rfl, Int.le_refl _, by simp, .inl rfl⟩
  | n :: l, r => by
    obtain ⟨h1, h2, h3, h4, h5, h6⟩ := fold_wider l (sWider r n)
    simp only [List.foldl_cons]
    have a1 : (sWider r n).lo = min r.lo n := rfl
    have a2 : (sWider r n).hi = max r.hi n := rfl
    rw [a1] at h1 h3
    rw [a2] at h4 h6
    refine ⟨by omega, ?_, ?_, by omega, ?_, ?_⟩
    · intro x hx
      rcases List.mem_cons.1 hx with rfl | hx
      · omega
      · exact h2 x hx
    · rcases h3 with h | h
      · by_cases hc : r.lo ≤ n
        · exact .inl (by omega)
        · exact .inr (by simp; left; omega)
      · exact .inr (by simp [h])
    · intro x hx
      rcases List.mem_cons.1 hx with rfl | hx
      · omega
      · exact h5 x hx
    · rcases h6 with h | h
      · by_cases hc : n ≤ r.hi
        · exact .inl (by omega)
        · exact .inr (by simp; left; omega)
      · exact .inr (by simp [h])
end Go.Vm

set_option linter.unusedVariables false
set_option linter.unusedSimpArgs false
namespace Go.Vm
/-! ### verdicts are the same -/
theorem sVerdict_01 {α : Type} (p : α → Bool) {l : List α} (hne : l ≠ []) : sVerdict (sBounds (l.map fun s => if p s = true then 1 else 0)) = if l.all p then 1 else if l.any p then 3 else 2 := by
  have hm : ∀ x ∈ l.map (fun s => if p s = true then (1 : Int) else 0), x = 0 ∨ x = 1 := fun x hx => by
    obtain ⟨s, _, rfl⟩ := List.mem_map.1 hx
    by_cases h : p s = true <;> simp [h]
  have hone : (1 : Int) ∈ l.map (fun s => if p s = true then (1 : Int) else 0) ↔ l.any p = true := by
    simp only [List.mem_map, List.any_eq_true]
    constructor
    · rintro ⟨s, h1, h2⟩
      refine ⟨s, h1, ?_⟩
      by_cases h : p s = true
      · exact h
      · rw [if_neg h] at h2; cases h2
    · rintro ⟨s, h1, h2⟩; exact ⟨s, h1, if_pos h2⟩
  have hzero : (0 : Int) ∈ l.map (fun s => if p s = true then (1 : Int) else 0) ↔ ¬ l.all p = true := by
    simp only [List.mem_map, List.all_eq_true]
    constructor
    · rintro ⟨s, h1, h2⟩ ha
      rw [if_pos (ha s h1)] at h2; cases h2
    · intro h
      cases hf : l.find? (fun s => !p s) with
      | some s =>
        have h1 := List.find?_some hf
        exact ⟨s, List.mem_of_find?_eq_some hf, if_neg (by simpa using h1)⟩
      | none =>
        exfalso; apply h
        intro s hs
        have := List.find?_eq_none.1 hf s hs
        simpa using this
  generalize hns : l.map (fun s => if p s = true then (1 : Int) else 0) = ns at hm hone hzero ⊢
  cases ns with
  | nil => exact absurd (List.map_eq_nil_iff.1 hns) hne
  | cons n r =>
    have e : sBounds (n :: r) = (n :: r).foldl sWider ⟨n, n⟩ := rfl
    obtain ⟨h1, h2, h3, h4, h5, h6⟩ := fold_wider (n :: r) ⟨n, n⟩
    rw [e]
    generalize (n :: r).foldl sWider ⟨n, n⟩ = A at h1 h2 h3 h4 h5 h6 ⊢
    have m1 : A.lo ∈ n :: r := by
      rcases h3 with h | h
      · simp only at h; rw [h]; simp
      · exact h
    have m2 : A.hi ∈ n :: r := by
      rcases h6 with h | h
      · simp only at h; rw [h]; simp
      · exact h
    have b1 := hm _ m1
    have b2 := hm _ m2
    by_cases ha : l.all p = true
    · have hlo : A.lo = 1 := by
        rcases b1 with b | b
        · rw [b] at m1; exact absurd ha (hzero.1 m1)
        · exact b
      rw [if_pos ha, sVerdict, if_pos (by omega)]
    · have hlo : A.lo = 0 := by
        have := h2 _ (hzero.2 ha)
        omega
      rw [if_neg ha, sVerdict, if_neg (by omega)]
      by_cases hn : l.any p = true
      · have := h5 _ (hone.2 hn)
        rw [if_pos hn, if_neg (by omega)]
      · have : A.hi = 0 := by
          rcases b2 with b | b
          · exact b
          · rw [b] at m2; exact absurd (hone.1 m2) hn
        rw [if_neg hn, if_pos this]
theorem rVerdict_count {α : Type} (q : α → Bool) {l : List α} (hne : l ≠ []) : rVerdict (l.countP q) l.length = if l.all q then 1 else if l.any q then 3 else 2 := by
  have h1 : l.countP q = l.length ↔ l.all q = true := by rw [List.countP_eq_length, List.all_eq_true]
  have h2 : l.countP q = 0 ↔ ¬ l.any q = true := by
    rw [List.countP_eq_zero, List.any_eq_true]
    exact ⟨fun h ⟨x, hx, hq⟩ => h x hx hq, fun h x hx hq => h ⟨x, hx, hq⟩⟩
  have hl : l.length ≠ 0 := fun h => hne (List.length_eq_zero_iff.1 h)
  unfold rVerdict
  by_cases ha : l.all q = true
  · rw [if_pos (by have := h1.2 ha; omega), if_pos ha]
  · rw [if_neg (fun h => ha (h1.1 (by omega))), if_neg ha]
    by_cases hn : l.any q = true
    · rw [if_neg (fun h => (h2.1 (by omega)) hn), if_pos hn]
    · rw [if_pos (by have := h2.2 hn; omega), if_neg hn]
theorem verdict_same {c : Cu} (k0 : CuOk c) (hne : sTruth c ≠ []) (p : Sc → Bool) (q : Tr2 → Bool) (h : ∀ t, p (tS t) = q t) :
    sVerdict (sBounds ((sTruth c).map fun s => if p s = true then 1 else 0)) = rVerdict ((rTruths c).countP q) (rTruths c).length := by
  have hne2 : rTruths c ≠ [] := fun e => hne ((same_nil k0).2 e)
  rw [sVerdict_01 p hne, rVerdict_count q hne2]
  have e1 : (sTruth c).all p = (rTruths c).all q := by
    rw [Bool.eq_iff_iff, List.all_eq_true, List.all_eq_true]
    constructor
    · intro ha t ht; rw [← h]; exact ha _ ((same_truths k0 _).2 ⟨t, ht, rfl⟩)
    · intro ha s hs
      obtain ⟨t, ht, rfl⟩ := (same_truths k0 s).1 hs
      rw [h]; exact ha t ht
  have e2 : (sTruth c).any p = (rTruths c).any q := by
    rw [Bool.eq_iff_iff, List.any_eq_true, List.any_eq_true]
    constructor
    · rintro ⟨s, hs, hp⟩
      obtain ⟨t, ht, rfl⟩ := (same_truths k0 s).1 hs
      exact ⟨t, ht, by rw [← h]; exact hp⟩
    · rintro ⟨t, ht, hq⟩
      exact ⟨tS t, (same_truths k0 _).2 ⟨t, ht, rfl⟩, by rw [h]; exact hq⟩
  rw [e1, e2]
/-- All promises are kept in a truth. -/
def wholeI (c : Cu) (coal want : List Int) (t : Tr2) : Bool := (List.range (c.last + 1).toNat).all fun i => keptI c coal want t i
def rWholes (c : Cu) (l : List Tr2) (coal want : List Int) : Int := rVerdict (l.countP fun t => wholeI c coal want t) l.length
theorem wholes_same {c : Cu} (k0 : CuOk c) (hne : sTruth c ≠ []) (coal want : List Int) : sVerdict (sBounds ((sTruth c).map fun s => if (sPast c coal want s).kept.any (fun y => decide (false = y)) then 0 else 1)) = rWholes c (rTruths c) coal want := by
  have e : (fun s : Sc => if (sPast c coal want s).kept.any (fun y => decide (false = y)) = true then (0 : Int) else 1) = fun s => if sKept c coal want s = true then 1 else 0 := by
    funext s
    by_cases h : ((sPast c coal want s).kept.any fun y => decide (false = y)) = true
    · have h2 : sKept c coal want s = false := by rw [sKept, h]; rfl
      rw [if_pos h, if_neg (by rw [h2]; simp)]
    · have h2 : sKept c coal want s = true := by
        rw [Bool.not_eq_true] at h
        rw [sKept, h]; rfl
      rw [if_neg h, if_pos h2]
  rw [e]
  refine verdict_same k0 hne (fun s => sKept c coal want s) (fun t => wholeI c coal want t) fun t => ?_
  simp only [sKept]
  rw [past_whole, Bool.not_not]
  rfl
/-- The numbers of two lists, added. -/
def addL (a b : List Int) : List Int := (List.range a.length).map fun (i : Nat) => gi a i + gi b i
theorem sAdd_eq {a b : List Int} : sAdd a b a.length = addL a b := by
  refine List.ext_getElem? fun j => ?_
  by_cases hj : j < a.length
  · have h1 := sAdd_get a b a.length j hj
    rw [if_pos hj] at h1
    have hl := sAdd_len a b a.length
    rw [gi_get (l := sAdd a b a.length) (by omega), h1, addL, List.getElem?_map, List.getElem?_range hj]
    rfl
  · rw [List.getElem?_eq_none (by rw [sAdd_len]; omega), List.getElem?_eq_none (by simp [addL]; omega)]
theorem with_same {c : Cu} (k0 : CuOk c) (hne : sTruth c ≠ []) {more : List Int} (hm : more.length = c.want.length) : sWith c (sTruth c) more = rWholes c (rTruths c) c.coal (addL c.want more) := by
  have := wholes_same k0 hne c.coal (addL c.want more)
  rw [← this, sWith, hm, sAdd_eq]
end Go.Vm

set_option linter.unusedVariables false
set_option linter.unusedSimpArgs false
set_option maxRecDepth 100000
namespace Go.Vm
open Go.Proofs
/-! ### the reference: all promises; spare buckets; the hour that may lack -/
def addN (a b : List Int) (n : Nat) : List Int := (List.range n).map fun (i : Nat) => gi a i + gi b i
theorem addN_succ (a b : List Int) (n : Nat) : addN a b (n + 1) = addN a b n ++ [gi a n + gi b n] := by simp [addN, List.range_succ]
set_option maxHeartbeats 1000000 in
theorem c_rSum (a b : List Int) (ha : (a.length : Int) ≤ 100000) (hb : a.length ≤ b.length) (hx : ∀ i : Nat, i < a.length → -1000000 ≤ gi a i + gi b i ∧ gi a i + gi b i ≤ 1000000) : Pu Tryz.prog (.fn 69 [] []) [vI a, vI b] (vI (addL a b)) := by
  refine Ev.fn Tryz.func69 rfl rfl (Fn.body tabOk Tryz.func69 rfl (Nat.le_of_ble_eq_true rfl) (Ks.ok (fz := (fzn [])) (cl := (cln [(5, .d (tgL [(24, 1)]) [cP, cP, cP, cP, cP, cP, cP, cP, cP, cP, cP, some ([1], [1]), cP])])) tabOk mixed ?_))
  generalize hQ : FnPost tt Tryz.f69 _ _ = Q
  simp only [Tryz.f69, List.nil_append, List.append_nil, argsEnv, Nat.reduceAdd]
  simp only [gos, eq_self, Nat.reduceLT, Nat.reduceEqDiff, reduceCtorEq, reduceIte, ↓reduceIte, vgo, vout, vguard, callOf, vop, ev, cv, vI]
  refine W.loop tabOk mixed (fun i : Nat => ([(0, vI a), (1, vI b), (5, .own 24 i 0 1 i), (6, vi i)], [(24, ⟨i, .row (cI (addN a b i))⟩)])) (fun i => a.length - i) (fun i => i ≤ a.length) 0 (by omega) (Wk.trans (Wk.sl0E 5 24 1 rfl rfl) (Wk.env (by simp [subE, Env.get, vI]))) ?_
  intro i hi
  by_cases hil : (i : Int) < a.length
  · have hil2 : (i : Int) < b.length := by omega
    have hxx := hx i (by omega)
    have hn : (cI (addN a b i)).length = i * 1 := by rw [cI_len]; simp [addN]
    have hi9 : i ≤ 999999 := by omega
    simp only [gos, eq_self, Nat.reduceLT, Nat.reduceEqDiff, reduceCtorEq, reduceIte, ↓reduceIte, tt, vgo, vout, vguard, callOf, vop, ev, vbin, vint, isShift, isNilConst, vlen, vI, hil]
    refine Wr.draw (by kernel_rfl) ?_
    simp only [gos, eq_self, Nat.reduceLT, Nat.reduceEqDiff, Nat.reduceAdd, Nat.reduceMul, Nat.reduceLeDiff, reduceCtorEq, reduceIte, ↓reduceIte, tt, vgo, vout, vgoD, voutD, vclsOk, vids, mayWrite, V.ids, vguard, callOf, vop, ev, cv, vbin, vint, isShift, isNilConst, vload, vfill, vappend, srcOf, clsAt, hil, hil2, cI_at (Int.natCast_nonneg i) hil, cI_at (Int.natCast_nonneg i) hil2, hn, hi9, i64_in (show -9223372036854775808 ≤ gi a i + gi b i by omega) (show gi a i + gi b i ≤ 9223372036854775807 by omega)]
    refine Nx.mk (i + 1) (show a.length - (i + 1) < a.length - i by omega) (by omega) (Wk.heap (fun j => ?_) ?_)
    · rw [addN_succ, cI_snoc]
    · simp [subE, Env.get, i64_succ (show (i : Int) < 9223372036854775807 by omega)]
  · have hie : i = a.length := by omega
    simp only [gos, eq_self, Nat.reduceLT, Nat.reduceEqDiff, reduceCtorEq, reduceIte, ↓reduceIte, tt, vgo, vout, vguard, callOf, vop, ev, vbin, vint, isShift, isNilConst, vlen, vI, hil]
    subst hQ
    have hl : (addN a b i).length = i := by simp [addN]
    have ht : (cI (addN a b i)).take i = cI (addN a b i) := List.take_of_length_le (by rw [cI_len]; omega)
    have e : addL a b = addN a b i := by rw [hie]; rfl
    rw [e]
    refine FnPost.plain trivial (v := .own 24 i 0 1 i) (fun h2 e => by rfl) (WkV.frz 24 (v' := vI (addN a b i)) (h' := []) (ver := i) (cs := cI (addN a b i)) rfl rfl (cI_into _ _) rfl ?_ ?_ WkV.refl) ⟨rfl, rfl⟩
    · simp [V.frz, vI, ht, hl]
    · simp [frzH]
end Go.Vm

set_option linter.unusedVariables false
set_option linter.unusedSimpArgs false
set_option maxRecDepth 100000
namespace Go.Vm
open Go.Proofs
/-- A function that makes one block, over whatever heap. -/
theorem NewB.of {P : Program} {fv : V} {args : List V} {v : V} {j : Nat} {e : Ent} (c : Ev P fv args [] fun v' h' => v' = v ∧ h' = [(j, e)]) (hf : fv.into (fun _ => false) = true) (ha : intoL (fun _ => false) args = true) : NewB P fv args v j e := fun h2 h2j =>
  (c.frame' h2 (fun _ => rfl) (fun i e he => by cases he) hf ha rfl (fun v h' hh i e he => by
    obtain ⟨_, rfl⟩ := hh
    simp only [Heap.get] at he
    split at he
    · rename_i hi; subst hi; exact h2j
    · cases he)).mono fun v h'' hh => by
      obtain ⟨h', ⟨a, rfl⟩, rfl⟩ := hh
      exact ⟨a, fun i => by rw [Heap.get_set]; simp only [List.cons_append, List.nil_append, Heap.get]⟩
theorem Cl.new {P : Program} {tt : Tab} {fz : Nat → Bool} {cl : Cl0} {b : Frame} {N : Nat} {p : Nat → Bool} {Q : Post} {k : List Itm} {ρ : Env} {D : List Nat} {h : Heap} {all os : List Oper} {d : Option Nat} {fv : V} {args : List V} {v : V} {j : Nat} {e : Ent}
    (nb : NewB P fv args v j e) (hj : h.get j = none) (r : ∀ h', HEq' h' (h.set j e) → RL P tt fz cl b N p Q all os k (ρ.put d v) D h') : Cl P tt fz cl b N p Q all d fv args os k ρ D h :=
  Cl.mk (nb h hj) fun v' h' ⟨e1, e2⟩ => by subst e1; exact r h' e2
theorem Cl.newN {P : Program} {tt : Tab} {fz : Nat → Bool} {cl : Cl0} {b : Frame} {N : Nat} {p : Nat → Bool} {Q : Post} {k : List Itm} {ρ : Env} {D : List Nat} {h : Heap} {all os : List Oper} {d : Option Nat} {fv : V} {args : List V} {v : V} {j : Nat} {e : Ent}
    (nb : NewB P fv args v j e) (hj : h.get j = none) (r : RL P tt fz cl b N p Q all os k (ρ.put d v) D (h.set j e)) : Cl P tt fz cl b N p Q all d fv args os k ρ D h :=
  Ev.mono ((nb h hj).norm (R2 := fun v' h'' => v' = v ∧ h'' = h.set j e) fun v' h' ⟨e1, e2⟩ => ⟨h.set j e, e2, e1, rfl⟩) fun v' h' ⟨e1, e2⟩ => by
    subst e1; subst e2; exact r
section
variable {P : Program} {tt : Tab} {fz : Nat → Bool} {cl : Cl0} {b : Frame} {N : Nat} {p : Nat → Bool} {Q : Post} {k : List Itm} {ρ ρ' : Env} {D : List Nat} {h h' : Heap}
end
end Go.Vm

set_option linter.unusedVariables false
set_option linter.unusedSimpArgs false
set_option maxRecDepth 100000
namespace Go.Vm
/-! ### plain laws of one truth -/
theorem chk_of {c : Cu} (k : CuOk c) : sCheck c = 0 := by
  have h1 := k.last; have h2 := k.rds; have h3 := k.most; have h4 := k.start; have h5 := k.per; have h6 := k.shovels; have h7 := k.many
  have b1 : sBad1 c = false := by
    simp only [sBad1, Bool.or_eq_false_iff, Bool.not_eq_false', decide_eq_false_iff_not, sIn, Bool.and_eq_true, decide_eq_true_eq]
    omega
  have b2 : sBad2 c = false := by
    simp only [sBad2, Bool.or_eq_false_iff, Bool.not_eq_false', decide_eq_false_iff_not, sIsCoal, sPromised, sIn, Bool.and_eq_true, decide_eq_true_eq, List.all_eq_true, ne_eq, Decidable.not_not]
    exact ⟨⟨⟨⟨⟨k.coal, k.want⟩, k.heat⟩, k.loss.1⟩, k.loss.2⟩, k.readings⟩
  rw [sCheck, if_neg (by omega), if_neg (by simp [b1]), if_neg (by simp [b2]), if_neg (by omega)]
/-- The run of other coppers with the same bounds. -/
theorem sPlay_cu (c x : Cu) (h1 : x.start = c.start) (h2 : x.most = c.most) (h3 : x.per = c.per) (s : Sc) (coal want : List Int) : ∀ n, sPlay x s coal want n = sPlay c s coal want n
  | 0 => by simp only [sPlay, h1]
  | n + 1 => by simp only [sPlay, sPlay_cu c x h1 h2 h3 s coal want n, h2, h3]
theorem sHeat_cu (c x : Cu) (h1 : x.start = c.start) (h2 : x.most = c.most) (h3 : x.per = c.per) (s : Sc) (coal want : List Int) (n : Nat) : sHeat x s coal want n = sHeat c s coal want n := by
  simp only [sHeat, sPlay_cu c x h1 h2 h3, h2]
theorem tdiv_mono {a b p : Int} (h0 : 0 ≤ a) (hab : a ≤ b) (hp : 1 ≤ p) : a.tdiv p ≤ b.tdiv p := by
  rw [Int.tdiv_eq_ediv_of_nonneg h0, Int.tdiv_eq_ediv_of_nonneg (by omega)]
  exact Int.ediv_le_ediv (by omega) hab
/-- Warmer: more heat, smaller losses, more coal. -/
structure Warm (s s' : Sc) (coal coal' : List Int) (n : Nat) : Prop where
  heat : 0 ≤ s.heat ∧ s.heat ≤ s'.heat
  loss : ∀ i, i < n → gi s'.loss i ≤ gi s.loss i
  coal : ∀ i, i < n → 0 ≤ gi coal i ∧ gi coal i ≤ gi coal' i
end Go.Vm

set_option linter.unusedVariables false
set_option linter.unusedSimpArgs false
set_option maxRecDepth 100000
namespace Go.Vm
open Go.Proofs Go.ChangeShapes Go.WideShapes Go.ChangeAt Go.RowKit
/-! ### from a contract to the row -/
def gh0 (w : World) : Gh := ⟨fun _ _ => none, fun B o => w.cell? ⟨B, o, none⟩⟩
theorem VRC_of {g : Gh} {B : Nat} : ∀ {l : List V} {vs : List Value} {o : Nat}, VRL g l vs → (∀ j v, vs[j]? = some v → g.ro B (o + j) = some v) → VRC g B o l
  | [], _, _, _, _ => by simp only [VRC]
  | c :: l, vs, o, h, hv => by
    simp only [VRL] at h
    obtain ⟨v, vs', rfl, h1, h2⟩ := h
    simp only [VRC]
    refine ⟨⟨v, hv 0 v rfl, h1⟩, VRC_of h2 fun j x hx => ?_⟩
    rw [show o + 1 + j = o + (j + 1) by omega]
    exact hv (j + 1) x (by simpa using hx)
theorem VRC_append {g : Gh} {B : Nat} : ∀ {l m : List V} {o : Nat}, VRC g B o l → VRC g B (o + l.length) m → VRC g B o (l ++ m)
  | [], m, o, _, h => by simpa using h
  | c :: l, m, o, h1, h2 => by
    simp only [VRC, List.cons_append] at h1 ⊢
    exact ⟨h1.1, VRC_append h1.2 (by rw [show o + 1 + l.length = o + (c :: l).length by simp; omega]; exact h2)⟩
theorem VRL_len {g : Gh} {l : List V} {vs : List Value} (h : VRL g l vs) : l.length = vs.length := h.length.symm
section
variable {H : Type} {enc : TypeId × Value → H} {P : Program} {w : World} {base : Nat} {spare : Nat → Bool} {held : Bool} {fuel : Nat} {t : TypeId} {cs : List Value} {x : DataW H × List MemPlace}
/-- A slice that came in. -/
theorem rd_slice {α : Type} {e : TypeId} (en : α → List V) (Pa : α → Prop) (s : Nat) (ht : P.underlying t = some (.slice e)) (hs : P.cellsOf e = s) (hpos : 0 < s) (hen : ∀ a, (en a).length = s)
    (h : DataW.trod enc P w base spare held fuel t cs = some x) (he : ∀ n cs x, DataW.trod enc P w base spare held n e cs = some x → ∃ a, Pa a ∧ VRL (gh0 w) (en a) cs) :
    ∃ l : List α, (∀ a ∈ l, Pa a) ∧ l.length ≤ maxLen ∧ VRL (gh0 w) [.ro l.length (l.flatMap en)] cs := by
  rcases DataW.trod_slice ht h with ⟨rfl, _⟩ | ⟨a, len, cap, elems, rest, n, _, rfl, _, hb, hlc, hmx, hel, hat, _, _⟩
  · exact ⟨[], by simp, Nat.zero_le _, VRL.cons (by simp only [VR]; exact ⟨none, 0, rfl, Nat.le_refl _, .inl ⟨rfl, rfl⟩⟩) VRL.nil⟩
  · rw [hs] at hat
    by_cases h0 : len = 0
    · subst h0
      exact ⟨[], by simp, Nat.zero_le _, VRL.cons (by simp only [VR]; exact ⟨some a, cap, rfl, Nat.zero_le _, .inl ⟨rfl, rfl⟩⟩) VRL.nil⟩
    · have hcell : ∀ i, i < len → ∃ (c : List Value), w.cells? base (a.add (i * s)) s = some c ∧ ∃ y, DataW.trod enc P w base spare held n e c = some y := fun i hi => by
        have h1 := hat i hi
        have h2 : elems[i]? = some elems[i] := List.getElem?_eq_getElem (by omega)
        rw [h2] at h1
        simp only [Option.bind_eq_some_iff] at h1
        obtain ⟨c, h3, h4⟩ := h1
        exact ⟨c, h3, _, h4⟩
      have hcells : ∀ (b : Addr) (c : List Value), w.cells? base b s = some c → ∀ j v, c[j]? = some v → w.cell? (b.add j) = some v := fun b c hc j v hv => by
        unfold World.cells? at hc
        split at hc
        · have hl := mapM_some_length hc
          simp only [List.length_range] at hl
          have hj : j < s := by have := (List.getElem?_eq_some_iff.1 hv).1; omega
          have := mapM_some_get hc j j (by simp [hj])
          rw [this, hv]
        · cases hc
      obtain ⟨b, off, spot⟩ := a
      have hspot : spot = none := by
        obtain ⟨c, h1, y, h2⟩ := hcell 0 (by omega)
        have hl : 0 < c.length := by
          obtain ⟨a', _, ha⟩ := he n c y h2
          rw [← VRL_len ha, hen]; exact hpos
        have := hcells _ c h1 0 c[0] (List.getElem?_eq_getElem hl)
        simpa [Addr.add] using World.cell?_spot this
      subst hspot
      have build : ∀ k, k ≤ len → ∃ l : List α, (∀ a ∈ l, Pa a) ∧ l.length = k ∧ (l.flatMap en).length = k * s ∧ VRC (gh0 w) b off (l.flatMap en) := fun k => by
        induction k with
        | zero => intro _; exact ⟨[], by simp, rfl, by simp, by simp only [List.flatMap_nil, VRC]⟩
        | succ k ih =>
          intro hk
          obtain ⟨l, h1, h2, h3, h4⟩ := ih (by omega)
          obtain ⟨c, h5, y, h6⟩ := hcell k (by omega)
          obtain ⟨a', h7, h8⟩ := he n c y h6
          refine ⟨l ++ [a'], ?_, by simp [h2], ?_, ?_⟩
          · intro z hz
            simp only [List.mem_append, List.mem_singleton] at hz
            rcases hz with hz | rfl
            · exact h1 z hz
            · exact h7
          · rw [List.flatMap_append, List.length_append, h3, List.flatMap_singleton, hen, Nat.add_mul]; omega
          · rw [List.flatMap_append, List.flatMap_singleton]
            refine VRC_append h4 (VRC_of h8 fun j v hv => ?_)
            have := hcells _ c h5 j v hv
            rw [h3]
            rw [add_plain, add_plain] at this
            exact this
      obtain ⟨l, h1, h2, h3, h4⟩ := build len (Nat.le_refl _)
      refine ⟨l, h1, by omega, VRL.cons ?_ VRL.nil⟩
      simp only [VR]
      exact ⟨some ⟨b, off, none⟩, cap, by rw [h2], by omega, .inr ⟨b, off, rfl, h4⟩⟩
theorem I64_of {n : Int} (h : (Lit.int .i64 n).wf = true) : I64 n := bounds_i64 h
theorem rd_int (ht : P.underlying t = some (.int .i64)) (h : DataW.trod enc P w base spare held fuel t cs = some x) : ∃ n, I64 n ∧ VRL (gh0 w) [vi n] cs := by
  obtain ⟨n, rfl, _, h2⟩ := DataW.trod_int ht h
  exact ⟨n, I64_of h2, VRL.cons (by simp only [VR]) VRL.nil⟩
theorem rd_ints (ht : P.underlying t = some (.slice 3)) (hi : P.underlying 3 = some (.int .i64)) (hc : P.cellsOf 3 = 1) (h : DataW.trod enc P w base spare held fuel t cs = some x) :
    ∃ l : List Int, (∀ n ∈ l, I64 n) ∧ l.length ≤ maxLen ∧ VRL (gh0 w) [vI l] cs := by
  obtain ⟨l, h1, h2, h3⟩ := rd_slice (fun n : Int => [vi n]) I64 1 ht hc (by omega) (fun _ => rfl) h fun n cs x h => rd_int hi h
  have e : l.flatMap (fun n : Int => [vi n]) = cI l := by
    clear h1 h2 h3
    induction l with
    | nil => rfl
    | cons y l ih => simp only [List.flatMap_cons, cI, List.map_cons, List.singleton_append] at ih ⊢; rw [ih]
  rw [e] at h3
  exact ⟨l, h1, h2, h3⟩
end
section
variable {H : Type} {enc : TypeId × Value → H} {w : World} {base : Nat} {spare : Nat → Bool} {held : Bool} {fuel : Nat} {cs : List Value} {x : DataW H × List MemPlace}
def Rg.ok (r : Rg) : Prop := I64 r.lo ∧ I64 r.hi
def Rd.ok (r : Rd) : Prop := I64 r.hour ∧ r.b.ok
theorem VRL_two {g : Gh} {a b : List V} {vs : List Value} {n : Nat} (h1 : VRL g a (vs.take n)) (h2 : VRL g b (vs.drop n)) : VRL g (a ++ b) vs := by
  have := VRL.append h1 h2
  rwa [List.take_append_drop] at this
theorem rd_rg (h : DataW.trod enc Tryz.prog w base spare held fuel 24 cs = some x) : ∃ r : Rg, r.ok ∧ VRL (gh0 w) r.cs cs := by
  obtain ⟨xs, n, _, _, hl, hx, hf⟩ := DataW.trod_struct Tryz.underlying24 h
  have hl2 : cs.length = 2 := hl.trans (by kernel_rfl)
  have hx2 : xs.length = 2 := hx
  have f0 : DataW.trod enc Tryz.prog w base spare held n 3 ((cs.drop 0).take (Tryz.prog.cellsOf 3)) = xs[0]? := hf 0 _ rfl
  have f1 : DataW.trod enc Tryz.prog w base spare held n 3 ((cs.drop 1).take (Tryz.prog.cellsOf 3)) = xs[1]? := hf 1 _ rfl
  rw [List.getElem?_eq_getElem (by omega)] at f0 f1
  obtain ⟨a, ha, va⟩ := rd_int Tryz.underlying3 f0
  obtain ⟨b, hb, vb⟩ := rd_int Tryz.underlying3 f1
  refine ⟨⟨a, b⟩, ⟨ha, hb⟩, ?_⟩
  have hc : Tryz.prog.cellsOf 3 = 1 := by kernel_rfl
  simp only [hc, List.drop_zero] at va vb
  rw [List.take_of_length_le (by simp; omega)] at vb
  exact VRL_two va vb
theorem rd_rd (h : DataW.trod enc Tryz.prog w base spare held fuel 93 cs = some x) : ∃ r : Rd, r.ok ∧ VRL (gh0 w) r.cs cs := by
  obtain ⟨xs, n, _, _, hl, hx, hf⟩ := DataW.trod_struct Tryz.underlying93 h
  have hl2 : cs.length = 3 := hl.trans (by kernel_rfl)
  have hx2 : xs.length = 2 := hx
  have f0 : DataW.trod enc Tryz.prog w base spare held n 3 ((cs.drop 0).take (Tryz.prog.cellsOf 3)) = xs[0]? := hf 0 _ rfl
  have f1 : DataW.trod enc Tryz.prog w base spare held n 24 ((cs.drop 1).take (Tryz.prog.cellsOf 24)) = xs[1]? := hf 1 _ rfl
  rw [List.getElem?_eq_getElem (by omega)] at f0 f1
  obtain ⟨a, ha, va⟩ := rd_int Tryz.underlying3 f0
  obtain ⟨b, hb, vb⟩ := rd_rg f1
  refine ⟨⟨a, b⟩, ⟨ha, hb⟩, ?_⟩
  have hc : Tryz.prog.cellsOf 3 = 1 := by kernel_rfl
  have hc2 : Tryz.prog.cellsOf 24 = 2 := by kernel_rfl
  simp only [hc, hc2, List.drop_zero] at va vb
  rw [List.take_of_length_le (by simp; omega)] at vb
  exact VRL_two va vb
theorem cR_flat : ∀ l : List Rg, l.flatMap Rg.cs = cR l
  | [] => rfl
  | r :: l => by rw [List.flatMap_cons, cR_flat l]; rfl
theorem cD_flat : ∀ l : List Rd, l.flatMap Rd.cs = cD l
  | [] => rfl
  | r :: l => by rw [List.flatMap_cons, cD_flat l]; rfl
/-- What is known of coppers that came in. -/
structure Cu.ok (c : Cu) : Prop where
  last : I64 c.last
  start : I64 c.start
  most : I64 c.most
  per : I64 c.per
  shovels : I64 c.shovels
  coal : ∀ n ∈ c.coal, I64 n
  want : ∀ n ∈ c.want, I64 n
  heat : c.heat.ok
  loss : ∀ r ∈ c.loss, r.ok
  readings : ∀ r ∈ c.readings, r.ok
theorem rd_cu (h : DataW.trod enc Tryz.prog w base spare held fuel 28 cs = some x) : ∃ c : Cu, c.ok ∧ VRL (gh0 w) c.cs cs := by
  obtain ⟨xs, n, _, _, hl, hx, hf⟩ := DataW.trod_struct Tryz.underlying28 h
  have hl2 : cs.length = 11 := hl.trans (by kernel_rfl)
  have hx2 : xs.length = 10 := hx
  have f0 : DataW.trod enc Tryz.prog w base spare held n 3 ((cs.drop 0).take (Tryz.prog.cellsOf 3)) = xs[0]? := hf 0 _ rfl
  have f1 : DataW.trod enc Tryz.prog w base spare held n 3 ((cs.drop 1).take (Tryz.prog.cellsOf 3)) = xs[1]? := hf 1 _ rfl
  have f2 : DataW.trod enc Tryz.prog w base spare held n 3 ((cs.drop 2).take (Tryz.prog.cellsOf 3)) = xs[2]? := hf 2 _ rfl
  have f3 : DataW.trod enc Tryz.prog w base spare held n 3 ((cs.drop 3).take (Tryz.prog.cellsOf 3)) = xs[3]? := hf 3 _ rfl
  have f4 : DataW.trod enc Tryz.prog w base spare held n 3 ((cs.drop 4).take (Tryz.prog.cellsOf 3)) = xs[4]? := hf 4 _ rfl
  have f5 : DataW.trod enc Tryz.prog w base spare held n 22 ((cs.drop 5).take (Tryz.prog.cellsOf 22)) = xs[5]? := hf 5 _ rfl
  have f6 : DataW.trod enc Tryz.prog w base spare held n 22 ((cs.drop 6).take (Tryz.prog.cellsOf 22)) = xs[6]? := hf 6 _ rfl
  have f7 : DataW.trod enc Tryz.prog w base spare held n 24 ((cs.drop 7).take (Tryz.prog.cellsOf 24)) = xs[7]? := hf 7 _ rfl
  have f8 : DataW.trod enc Tryz.prog w base spare held n 25 ((cs.drop 9).take (Tryz.prog.cellsOf 25)) = xs[8]? := hf 8 _ rfl
  have f9 : DataW.trod enc Tryz.prog w base spare held n 26 ((cs.drop 10).take (Tryz.prog.cellsOf 26)) = xs[9]? := hf 9 _ rfl
  rw [List.getElem?_eq_getElem (by omega)] at f0 f1 f2 f3 f4 f5 f6 f7 f8 f9
  have hc : Tryz.prog.cellsOf 3 = 1 := by kernel_rfl
  have hc2 : Tryz.prog.cellsOf 24 = 2 := by kernel_rfl
  have hc3 : Tryz.prog.cellsOf 22 = 1 := by kernel_rfl
  have hc4 : Tryz.prog.cellsOf 25 = 1 := by kernel_rfl
  have hc5 : Tryz.prog.cellsOf 26 = 1 := by kernel_rfl
  have hc6 : Tryz.prog.cellsOf 93 = 3 := by kernel_rfl
  obtain ⟨a0, h0, v0⟩ := rd_int Tryz.underlying3 f0
  obtain ⟨a1, h1, v1⟩ := rd_int Tryz.underlying3 f1
  obtain ⟨a2, h2, v2⟩ := rd_int Tryz.underlying3 f2
  obtain ⟨a3, h3, v3⟩ := rd_int Tryz.underlying3 f3
  obtain ⟨a4, h4, v4⟩ := rd_int Tryz.underlying3 f4
  obtain ⟨a5, h5, _, v5⟩ := rd_ints Tryz.underlying22 Tryz.underlying3 hc f5
  obtain ⟨a6, h6, _, v6⟩ := rd_ints Tryz.underlying22 Tryz.underlying3 hc f6
  obtain ⟨a7, h7, v7⟩ := rd_rg f7
  obtain ⟨a8, h8, _, v8⟩ := rd_slice Rg.cs Rg.ok 2 Tryz.underlying25 hc2 (by omega) (fun _ => rfl) f8 fun n cs x h => rd_rg h
  obtain ⟨a9, h9, _, v9⟩ := rd_slice Rd.cs Rd.ok 3 Tryz.underlying26 hc6 (by omega) (fun _ => rfl) f9 fun n cs x h => rd_rd h
  rw [cR_flat] at v8
  rw [cD_flat] at v9
  refine ⟨⟨a0, a1, a2, a3, a4, a5, a6, a7, a8, a9⟩, ⟨h0, h1, h2, h3, h4, h5, h6, h7, h8, h9⟩, ?_⟩
  match cs, hl2 with
  | [c0, c1, c2, c3, c4, c5, c6, c7, c8, c9, c10], _ =>
    simp only [hc, hc2, hc3, hc4, hc5, List.drop_zero, List.drop_succ_cons, List.take_succ_cons, List.take_zero, List.take_nil] at v0 v1 v2 v3 v4 v5 v6 v7 v8 v9
    exact VRL.append v0 (VRL.append v1 (VRL.append v2 (VRL.append v3 (VRL.append v4 (VRL.append v5 (VRL.append v6 (VRL.append v7 (VRL.append v8 v9))))))))
end
end Go.Vm

set_option linter.unusedVariables false
set_option linter.unusedSimpArgs false
set_option maxRecDepth 100000
namespace Go.Vm
open Go.Proofs Go.ChangeShapes Go.WideShapes Go.ChangeAt Go.RowKit
theorem VRL.one {g : Gh} {c : V} {v : Value} (h : VRL g [c] [v]) : VR g c v := by
  simp only [VRL] at h
  obtain ⟨x, l, e, h1, h2⟩ := h
  injection e with e1 e2
  subst e1; exact h1
def cW16 (l : List Int) : List V := l.map fun n => .int .u16 n
def vW (l : List Int) : V := .ro l.length (cW16 l)
def Tr2.ok (t : Tr2) : Prop := I64 t.heat ∧ ∀ n ∈ t.loss, I64 n
section
variable {H : Type} {enc : TypeId × Value → H} {w : World} {base : Nat} {spare : Nat → Bool} {held : Bool} {fuel : Nat} {cs : List Value} {x : DataW H × List MemPlace}
end
end Go.Vm

set_option linter.unusedVariables false
set_option linter.unusedSimpArgs false
set_option maxRecDepth 100000
namespace Go.Vm
open Go.Proofs
/-! ### coal by a number -/
/-- What is left of a number, and the last digits of it. -/
def dvN (s n : Int) : Nat → Int
  | 0 => n
  | j + 1 => (dvN s n j).tdiv s
def lowD (s n : Int) : Nat → List Int
  | 0 => []
  | j + 1 => (dvN s n j).tmod s :: lowD s n j
/-! ### words -/
theorem cW16_at {l : List Int} {i : Nat} (h : (i : Int) < l.length) : List.drop i (cW16 l) = .int .u16 (gi l i) :: cW16 (l.drop (i + 1)) := by
  have hi : i < l.length := by omega
  rw [cW16, ← List.map_drop, List.drop_eq_getElem_cons hi, List.map_cons, gi, Int.toNat_natCast, List.getD_eq_getElem?_getD, List.getElem?_eq_getElem hi]; rfl
def sWord (l : List Int) (a : Nat) : Int := if l = [] then 0 else gi l ((a % l.length : Nat) : Int)
theorem sWord_le {l : List Int} (h : ∀ x ∈ l, 0 ≤ x ∧ x ≤ 65535) (a : Nat) : 0 ≤ sWord l a ∧ sWord l a ≤ 65535 := by
  rw [sWord]; split
  · omega
  · rename_i hn
    exact h _ (gi_mem (Nat.mod_lt _ (List.length_pos_iff.2 hn)))
end Go.Vm

set_option linter.unusedVariables false
set_option linter.unusedSimpArgs false
set_option maxRecDepth 100000
namespace Go.Vm
/-! ### lists that are changed in some places -/
theorem cW16_into (p : Nat → Bool) : ∀ l : List Int, intoL p (cW16 l) = true
  | [] => rfl
  | x :: l => by simp only [cW16, List.map_cons, intoL, V.into, Bool.true_and]; exact cW16_into p l
end Go.Vm

set_option linter.unusedVariables false
set_option linter.unusedSimpArgs false
set_option maxRecDepth 100000
namespace Go.Vm
open Go.Proofs
/-! ### sets of readings, by bits -/
def bitsTo (b p : Nat) : List Int := ((List.range p).filter fun i => b.testBit i).map fun (i : Nat) => (i : Int)
def sBits (b : Nat) : List Int := bitsTo b 5
theorem shr5 {b p : Nat} (hb : b < 32) (hp : p < 6) : (b : Int).fdiv (2 ^ min ((p : Int)).toNat IntKind.i64.bits) = ((b >>> p : Nat) : Int) := by
  have : ∀ b : Fin 32, ∀ p : Fin 6, (((b : Nat) : Int)).fdiv (2 ^ min ((((p : Nat) : Int))).toNat IntKind.i64.bits) = (((b : Nat) >>> (p : Nat) : Nat) : Int) := by decide +kernel
  exact this ⟨b, hb⟩ ⟨p, hp⟩
theorem bit5 {b p : Nat} (hb : b < 32) (hp : p < 6) : decide (((b >>> p : Nat) : Int).tmod 2 = 1) = b.testBit p := by
  have : ∀ b : Fin 32, ∀ p : Fin 6, decide ((((b : Nat) >>> (p : Nat) : Nat) : Int).tmod 2 = 1) = (b : Nat).testBit p := by decide +kernel
  exact this ⟨b, hb⟩ ⟨p, hp⟩
/-! ### before, shorter -/
def lBefore : List Int → List Int → Bool
  | [], b => decide (0 < b.length)
  | _ :: _, [] => false
  | x :: a, y :: b => if x = y then lBefore a b else decide (x < y)
def lShorter (a b : List Int) : Bool := decide (a.length < b.length) || (decide (a.length = b.length) && lBefore a b)
end Go.Vm

set_option linter.unusedVariables false
set_option linter.unusedSimpArgs false
set_option maxRecDepth 100000
namespace Go.Vm
/-! ### plain law: which readings can be right together -/
theorem range_all_congr {n : Nat} {f g : Nat → Bool} (h : ∀ i, i < n → f i = g i) : (List.range n).all f = (List.range n).all g := by
  rw [Bool.eq_iff_iff, List.all_eq_true, List.all_eq_true]
  exact ⟨fun a i hi => by rw [← h i (List.mem_range.1 hi)]; exact a i hi, fun a i hi => by rw [h i (List.mem_range.1 hi)]; exact a i hi⟩
theorem pow5 {n : Nat} (h : n < 6) : 2 ^ n ≤ 32 := Nat.pow_le_pow_right (n := 2) (by omega) (show n ≤ 5 by omega)
/-- 3: other readings. -/
def rdOk (c : Cu) (s : Sc) (r : Rd) : Bool := sIn (gi (sPlay c s c.coal c.want (c.last + 1).toNat).2.hot r.hour) r.b.lo r.b.hi
theorem read1_ok (c : Cu) (s : Sc) (i : Nat) : sRead1 c s [] i = rdOk c s (gD c.readings i) := by simp only [sRead1, List.any_nil, Bool.false_or]; rfl
theorem range_gD (l : List Rd) (f : Rd → Bool) : ((List.range l.length).all fun i => f (gD l i)) = l.all f := by
  rw [Bool.eq_iff_iff, List.all_eq_true, List.all_eq_true]
  constructor
  · intro h x hx
    obtain ⟨i, hi, rfl⟩ := List.mem_iff_getElem.1 hx
    have := h i (List.mem_range.2 hi)
    rwa [gD, Int.toNat_natCast, List.getD_eq_getElem?_getD, List.getElem?_eq_getElem hi] at this
  · intro h i hi
    rw [List.mem_range] at hi
    exact h _ (List.mem_of_getElem? (gD_get (l := l) (i := i) (by omega)))
theorem right_all (c : Cu) (s : Sc) : sRight c s [] = c.readings.all (rdOk c s) := by
  rw [← range_gD, sRight]
  exact range_all_congr fun i _ => read1_ok c s i
theorem testBit_ones {k i : Nat} : (2 ^ k - 1).testBit i = decide (i < k) := Nat.testBit_two_pow_sub_one k i
/-- 4: there is a truth. -/
theorem asked_poss {x : Cu} (kx : CuOk x) : sAsked x true = if sPoss x [] = true then 0 else 11 := by
  have hne : sTruth x = [] ↔ ¬ sPoss x [] = true := by
    rw [sPoss, List.any_eq_true, List.eq_nil_iff_forall_not_mem]
    constructor
    · rintro h ⟨s, hs, hr⟩; exact h s ((mem_sTruth x s).2 ⟨hs, hr⟩)
    · intro h s hs; exact h ⟨s, (mem_sTruth x s).1 hs⟩
  rw [sAsked, if_neg (by simp [chk_of kx]), if_neg (by simp)]
  by_cases h : sPoss x [] = true
  · rw [if_pos h, if_neg (fun e => hne.1 e h)]
  · rw [if_neg h, if_pos (hne.2 h)]
/-! ### the smallest set -/
def combos (n : Nat) : Nat → List Int → Int → List (List Int)
  | 0, out, _ => [out]
  | m + 1, out, first => (rangeI first ((n : Int) - ((m + 1 : Nat) : Int))).flatMap fun i => combos n m (out ++ [i]) (i + 1)
def allSets (n : Nat) : List (List Int) := (rangeI 0 n).flatMap fun m => combos n m.toNat [] 0
def perm (n : Nat) : List Nat := (allSets n).map fun l => l.foldl (fun a x => a + 2 ^ x.toNat) 0
theorem perm_sets {n : Nat} (h : n < 6) : allSets n = (perm n).map sBits := by
  have : ∀ n : Fin 6, allSets n = (perm n).map sBits := by decide +kernel
  exact this ⟨n, h⟩
theorem perm_mem {n b : Nat} (h : n < 6) (hb : b < 2 ^ n) : b ∈ perm n := by
  have : ∀ n : Fin 6, ∀ b : Fin 32, (b : Nat) < 2 ^ (n : Nat) → (b : Nat) ∈ perm n := by decide +kernel
  exact this ⟨n, h⟩ ⟨b, by have := pow5 h; omega⟩ hb
theorem perm_lt {n : Nat} (h : n < 6) : ∀ b ∈ perm n, b < 2 ^ n := by
  have : ∀ n : Fin 6, ∀ b ∈ perm n, b < 2 ^ (n : Nat) := by decide +kernel
  exact this ⟨n, h⟩
theorem perm_rk {n a b : Nat} (h : n < 6) (ha : a < 2 ^ n) (hb : b < 2 ^ n) : lShorter (sBits a) (sBits b) = decide ((perm n).idxOf a < (perm n).idxOf b) := by
  have : ∀ n : Fin 6, ∀ a b : Fin 32, (a : Nat) < 2 ^ (n : Nat) → (b : Nat) < 2 ^ (n : Nat) → lShorter (sBits a) (sBits b) = decide ((perm n).idxOf (a : Nat) < (perm n).idxOf (b : Nat)) := by decide +kernel
  have hp := pow5 h
  exact this ⟨n, h⟩ ⟨a, by omega⟩ ⟨b, by omega⟩ ha hb
theorem mask_bits {n b i : Nat} (h : n < 6) (hb : b < 2 ^ n) (hi : i < n) : (2 ^ n - 1 - b).testBit i = !((sBits b).any fun y => decide ((i : Int) = y)) := by
  have : ∀ n : Fin 6, ∀ b : Fin 32, (b : Nat) < 2 ^ (n : Nat) → ∀ i : Fin 5, (i : Nat) < (n : Nat) → (2 ^ (n : Nat) - 1 - (b : Nat)).testBit i = !((sBits b).any fun y => decide ((((i : Nat) : Int)) = y)) := by decide +kernel
  have hp := pow5 h
  exact this ⟨n, h⟩ ⟨b, by omega⟩ hb ⟨i, by omega⟩ hi
theorem find_congr {α : Type} {p q : α → Bool} : ∀ {l : List α}, (∀ x ∈ l, p x = q x) → l.find? p = l.find? q
  | [], _ => rfl
  | x :: l, h => by
    rw [List.find?_cons, List.find?_cons, h x (by simp), find_congr fun y hy => h y (by simp [hy])]
theorem find_first {p : Nat → Bool} : ∀ {l : List Nat} {x : Nat}, l.find? p = some x → p x = true ∧ x ∈ l ∧ ∀ y ∈ l, p y = true → l.idxOf x ≤ l.idxOf y
  | [], x, h => by simp at h
  | a :: l, x, h => by
    rw [List.find?_cons] at h
    split at h
    · rename_i ha
      injection h with h; subst h
      exact ⟨ha, by simp, fun y _ _ => by simp⟩
    · rename_i ha
      obtain ⟨h1, h2, h3⟩ := find_first h
      have hx : x ≠ a := fun e => by subst e; rw [h1] at ha; cases ha
      refine ⟨h1, by simp [h2], fun y hy hp => ?_⟩
      have hya : y ≠ a := fun e => by subst e; rw [hp] at ha; cases ha
      rw [List.mem_cons] at hy
      rcases hy with rfl | hy
      · exact absurd rfl hya
      · have e1 : (a == x) = false := by simp [Ne.symm hx]
        have e2 : (a == y) = false := by simp [Ne.symm hya]
        rw [List.idxOf_cons, List.idxOf_cons, e1, e2]
        have := h3 y hy hp
        simp only [cond_false]
        omega
theorem idxOf_inj {l : List Nat} {x y : Nat} (hx : x ∈ l) (hy : y ∈ l) (h : l.idxOf x = l.idxOf y) : x = y := by
  have h1 := List.getElem_idxOf (List.idxOf_lt_length_iff.2 hx)
  have h2 := List.getElem_idxOf (List.idxOf_lt_length_iff.2 hy)
  rw [← h1, ← h2]
  simp only [h]
end Go.Vm

set_option linter.unusedVariables false
set_option linter.unusedSimpArgs false
set_option maxRecDepth 100000
namespace Go.Vm
theorem gi_nI {n : Int} {f : Int → Int} {i : Nat} (h : (i : Int) < n) : gi (nI n f) i = f i := by
  simp only [gi, nI, Int.toNat_natCast, List.getD_eq_getElem?_getD, List.getElem?_map]
  rw [List.getElem?_range (by omega)]; rfl
theorem nI_len' (n : Int) (f : Int → Int) : ((nI n f).length : Int) = ((n.toNat : Nat) : Int) := by simp [nI]
end Go.Vm

set_option linter.unusedVariables false
set_option linter.unusedSimpArgs false
set_option maxRecDepth 100000
namespace Go.Vm
/-! ### the least coal: the program's search and the reference's are the same -/
def digs (s : Int) : Nat → List (List Int)
  | 0 => [[]]
  | k + 1 => (rangeI 0 s).flatMap fun n => (digs s k).map (n :: ·)
theorem digs_mem {s : Int} : ∀ {k : Nat} {l : List Int}, l ∈ digs s k ↔ l.length = k ∧ ∀ x ∈ l, 0 ≤ x ∧ x ≤ s
  | 0, l => by
    rw [digs, List.mem_singleton]
    constructor
    · rintro rfl; exact ⟨rfl, fun x hx => by simp at hx⟩
    · rintro ⟨h, _⟩; exact List.length_eq_zero_iff.1 h
  | k + 1, l => by
    simp only [digs, List.mem_flatMap, mem_rangeI, List.mem_map]
    constructor
    · rintro ⟨n, hn, m, hm, rfl⟩
      have := digs_mem.1 hm
      exact ⟨by simp [this.1], fun x hx => by rcases List.mem_cons.1 hx with rfl | h; exact hn; exact this.2 x h⟩
    · rintro ⟨h1, h2⟩
      cases l with
      | nil => simp at h1
      | cons x l => exact ⟨x, h2 x (by simp), l, digs_mem.2 ⟨by simpa using h1, fun y hy => h2 y (by simp [hy])⟩, rfl⟩
theorem pw_less {α : Type} {R S : α → α → Prop} (h : ∀ {a b : α}, R a b → S a b) : ∀ {l : List α}, l.Pairwise R → l.Pairwise S
  | [], _ => .nil
  | a :: l, p => by rw [List.pairwise_cons] at p ⊢; exact ⟨fun b hb => h (p.1 b hb), pw_less h p.2⟩
theorem rangeI_pair (lo hi : Int) : (rangeI lo hi).Pairwise (· < ·) := by
  rw [rangeI, List.pairwise_map]
  exact pw_less (fun h => by omega) List.pairwise_lt_range
theorem digs_pair (s : Int) : ∀ k, (digs s k).Pairwise (fun a b => lBefore a b = true)
  | 0 => by simp [digs]
  | k + 1 => by
    rw [digs, List.pairwise_flatMap]
    refine ⟨fun n _ => ?_, pw_less (fun {a b} hab x hx y hy => ?_) (rangeI_pair 0 s)⟩
    · rw [List.pairwise_map]; exact pw_less (fun h => by simpa [lBefore] using h) (digs_pair s k)
    · obtain ⟨x, _, rfl⟩ := List.mem_map.1 hx
      obtain ⟨y, _, rfl⟩ := List.mem_map.1 hy
      simp only [lBefore]
      rw [if_neg (by omega)]; simp [hab]
theorem lBefore_asymm : ∀ {a b : List Int}, lBefore a b = true → lBefore b a = false
  | [], [], h => by simp [lBefore] at h
  | [], _ :: _, _ => rfl
  | _ :: _, [], h => by simp [lBefore] at h
  | x :: a, y :: b, h => by
    simp only [lBefore] at h ⊢
    by_cases e : x = y
    · rw [if_pos e] at h; rw [if_pos e.symm]; exact lBefore_asymm h
    · rw [if_neg e] at h; rw [if_neg (Ne.symm e)]; simp at h ⊢; omega
structure IsLeast (s : Int) (k : Nat) (P : List Int → Bool) (l : List Int) : Prop where
  mem : l ∈ digs s k
  is : P l = true
  min : ∀ x ∈ digs s k, P x = true → l.sum < x.sum ∨ (l.sum = x.sum ∧ (l = x ∨ lBefore l x = true))
theorem IsLeast.one {s : Int} {k : Nat} {P : List Int → Bool} {a b : List Int} (ha : IsLeast s k P a) (hb : IsLeast s k P b) : a = b := by
  rcases ha.min b hb.mem hb.is with h | ⟨h, e | e⟩
  · rcases hb.min a ha.mem ha.is with h2 | ⟨h2, _⟩ <;> omega
  · exact e
  · rcases hb.min a ha.mem ha.is with h2 | ⟨h2, e2 | e2⟩
    · omega
    · exact e2.symm
    · rw [lBefore_asymm e] at e2; simp at e2
/-! the reference's numbers of coal, in order -/
theorem range_mul {α : Type} (f : Nat → α) (m : Nat) : ∀ s, (List.range (s * m)).map f = (List.range s).flatMap fun d => (List.range m).map fun j => f (d * m + j)
  | 0 => by simp
  | s + 1 => by rw [Nat.succ_mul, List.range_add, List.map_append, range_mul f m s, List.range_succ, List.flatMap_append]; simp [List.map_map, Function.comp_def]
theorem dvN_nat (S n : Nat) : ∀ j, dvN S n j = ((n / S ^ j : Nat) : Int)
  | 0 => by simp [dvN]
  | j + 1 => by rw [dvN, dvN_nat S n j, ← Int.ofNat_tdiv, Nat.div_div_eq_div_mul, Nat.pow_succ]
theorem lowD_add {S k : Nat} (hS : 1 ≤ S) (d j : Nat) : ∀ i, i ≤ k → lowD S ((d * S ^ k + j : Nat) : Int) i = lowD S j i
  | 0, _ => rfl
  | i + 1, h => by
    rw [lowD, lowD, lowD_add hS d j i (by omega), dvN_nat, dvN_nat, ← Int.ofNat_tmod, ← Int.ofNat_tmod]
    congr 2
    have e : d * S ^ k = S ^ i * (S * (d * S ^ (k - i - 1))) := by
      have : S ^ k = S ^ i * S * S ^ (k - i - 1) := by rw [← Nat.pow_succ, ← Nat.pow_add]; congr 1; omega
      rw [this]; ac_rfl
    rw [e, Nat.mul_add_div (Nat.pow_pos hS), Nat.mul_add_mod]
theorem digs_eq (S : Nat) (hS : 1 ≤ S) : ∀ k, digs ((S : Int) - 1) k = (List.range (S ^ k)).map fun (n : Nat) => lowD S (n : Int) k
  | 0 => by simp [digs, lowD]
  | k + 1 => by
    rw [digs, digs_eq S hS k, Nat.pow_succ, Nat.mul_comm (S ^ k), range_mul]
    simp only [rangeI]
    rw [show ((S : Int) - 1 + 1 - 0).toNat = S by omega, List.flatMap_map]
    simp only [List.flatMap_def]
    congr 1
    apply List.map_congr_left
    intro d hd
    have hd := List.mem_range.1 hd
    rw [List.map_map]
    apply List.map_congr_left
    intro j hj
    have hj := List.mem_range.1 hj
    simp only [Function.comp, lowD]
    rw [lowD_add hS d j k (Nat.le_refl _), dvN_nat, ← Int.ofNat_tmod]
    congr 1
    have : (d * S ^ k + j) / S ^ k = d := by
      rw [Nat.mul_comm, Nat.mul_add_div (Nat.pow_pos hS), Nat.div_eq_of_lt hj]; rfl
    rw [this, Nat.mod_eq_of_lt hd]; omega
end Go.Vm

set_option linter.unusedVariables false
set_option linter.unusedSimpArgs false
set_option maxRecDepth 100000
namespace Go.Vm
/-! ### fewer promises, more coal -/
theorem heat_le {c : Cu} {s : Sc} {coal want want' : List Int} {i : Nat} (h : (sPlay c s coal want' i).1 ≤ (sPlay c s coal want i).1) : sHeat c s coal want' i ≤ sHeat c s coal want i := by
  simp only [sHeat]; omega
theorem sHeat_ge (c : Cu) (s : Sc) (coal want : List Int) (i : Nat) : 0 ≤ sHeat c s coal want i := by simp only [sHeat]; omega
theorem want_play {c : Cu} {s : Sc} {coal want want' : List Int} {n : Nat} (hp : 1 ≤ c.per) (hw : ∀ i : Nat, i < n → 0 ≤ gi want i ∧ gi want i ≤ gi want' i) (hk : ∀ i : Nat, i < n → gi want' i ≤ (sHeat c s coal want' i).tdiv c.per) : ∀ i, i ≤ n → (sPlay c s coal want' i).1 ≤ (sPlay c s coal want i).1
  | 0, _ => Int.le_refl _
  | i + 1, hi => by
    have ih := heat_le (want_play hp hw hk i (by omega))
    have hm := tdiv_mono (sHeat_ge c s coal want' i) ih hp
    have h1 := hw i (by omega)
    have h2 := hk i (by omega)
    rw [sPlay_heat, sPlay_heat, if_pos h2, if_pos (by omega)]
    have := Int.mul_le_mul_of_nonneg_right h1.2 (show 0 ≤ c.per by omega)
    omega
theorem whole_iff {c : Cu} {coal want : List Int} {t : Tr2} : wholeI c coal want t = true ↔ ∀ i : Nat, i < (c.last + 1).toNat → gi want i ≤ (sHeat c (tS t) coal want i).tdiv c.per := by
  simp only [wholeI, List.all_eq_true, List.mem_range, keptI, decide_eq_true_eq]
theorem whole_want {c : Cu} {coal want want' : List Int} {t : Tr2} (hp : 1 ≤ c.per) (hw : ∀ i : Nat, i < (c.last + 1).toNat → 0 ≤ gi want i ∧ gi want i ≤ gi want' i) (h : wholeI c coal want' t = true) : wholeI c coal want t = true := by
  rw [whole_iff] at h ⊢
  intro i hi
  have hm := tdiv_mono (sHeat_ge c (tS t) coal want' i) (heat_le (want_play hp hw h i (by omega))) hp
  have := hw i hi
  have := h i hi
  omega
theorem wholes_one {c : Cu} {l : List Tr2} {coal want : List Int} (hne : l ≠ []) : rWholes c l coal want = 1 ↔ ∀ t ∈ l, wholeI c coal want t = true := by
  rw [rWholes, rVerdict_count _ hne, ← List.all_eq_true]
  cases l.all fun t => wholeI c coal want t with
  | true => simp
  | false => cases l.any fun t => wholeI c coal want t <;> simp
theorem wholes_in (c : Cu) (l : List Tr2) (coal want : List Int) : 1 ≤ rWholes c l coal want ∧ rWholes c l coal want ≤ 3 := by
  simp only [rWholes, rVerdict]
  split
  · omega
  · split <;> omega
end Go.Vm

set_option linter.unusedVariables false
set_option linter.unusedSimpArgs false
set_option maxRecDepth 100000
namespace Go.Vm
/-! ### fewer truths -/
/-- The same hours, coal and promises; each truth of x is one of c. -/
structure SubT (x c : Cu) : Prop where
  last : x.last = c.last
  start : x.start = c.start
  most : x.most = c.most
  per : x.per = c.per
  coal : x.coal = c.coal
  want : x.want = c.want
  sub : ∀ t ∈ rTruths x, t ∈ rTruths c
theorem SubT.heat {x c : Cu} (S : SubT x c) (t : Tr2) (coal want : List Int) (i : Nat) : sHeat x (tS t) coal want i = sHeat c (tS t) coal want i := sHeat_cu c x S.start S.most S.per _ _ _ _
theorem SubT.kept {x c : Cu} (S : SubT x c) (coal want : List Int) (t : Tr2) (i : Nat) : keptI x coal want t i = keptI c coal want t i := by
  simp only [keptI, S.heat, S.per]
theorem SubT.whole {x c : Cu} (S : SubT x c) (coal want : List Int) (t : Tr2) : wholeI x coal want t = wholeI c coal want t := by
  simp only [wholeI, S.kept, S.last]
theorem SubT.hot {x c : Cu} (S : SubT x c) (t : Tr2) (i : Nat) : hotI x t i = hotI c t i := by
  simp only [hotI, S.coal, S.want, S.heat, S.per]
theorem SubT.left {x c : Cu} (S : SubT x c) (t : Tr2) (i : Nat) : leftI x t i = leftI c t i := by
  simp only [leftI, S.coal, S.want, sPlay_cu c x S.start S.most S.per]
theorem SubT.wholes {x c : Cu} (S : SubT x c) (hne : rTruths x ≠ []) {coal want : List Int} (h : rWholes c (rTruths c) coal want = 1) : rWholes x (rTruths x) coal want = 1 := by
  have hnc : rTruths c ≠ [] := fun e => by
    obtain ⟨y, hy⟩ := List.exists_mem_of_ne_nil _ hne
    have := S.sub y hy
    rw [e] at this; simp at this
  rw [wholes_one hnc] at h
  rw [wholes_one hne]
  intro t ht
  rw [S.whole]
  exact h t (S.sub t ht)
/-- What Spare returns. -/
theorem spare_some {c : Cu} {hour : Int} (h : sIn hour 0 c.last = true) (h0 : sAsked c true = 0) : (∃ s : Int, sSpareA c hour = (s, 0) ∧ 0 ≤ s ∧ s ≤ 20 ∧ sWith c (sTruth c) (moreAt c hour s) = 1 ∧ ∀ m, s < m → m ≤ 20 → sWith c (sTruth c) (moreAt c hour m) ≠ 1) ∨ (sSpareA c hour = (0, 10) ∧ ∀ m, 0 ≤ m → m ≤ 20 → sWith c (sTruth c) (moreAt c hour m) ≠ 1) := by
  unfold sSpareA
  rw [h, if_pos h0]
  cases hf : (List.range 21).find? fun (j : Nat) => decide (sWith c (sTruth c) (moreAt c hour (20 - j)) = 1) with
  | some j =>
    rw [List.find?_eq_some_iff_getElem] at hf
    obtain ⟨h1, i, hi, h2, h3⟩ := hf
    simp only [List.length_range] at hi
    simp only [List.getElem_range] at h2 h3
    subst h2
    refine .inl ⟨20 - (i : Int), rfl, by omega, by omega, by simpa using h1, fun m hm hm2 => ?_⟩
    have := h3 (20 - m).toNat (by omega)
    rw [show (20 : Int) - ((20 - m).toNat : Int) = m by omega] at this
    simpa using this
  | none =>
    rw [List.find?_eq_none] at hf
    refine .inr ⟨rfl, fun m hm hm2 => ?_⟩
    have := hf (20 - m).toNat (by simp; omega)
    rw [show (20 : Int) - ((20 - m).toNat : Int) = m by omega] at this
    simpa using this
theorem moreAt_cu {x c : Cu} (h : x.last = c.last) (hour n : Int) : moreAt x hour n = moreAt c hour n := by simp only [moreAt, h]
theorem SubT.with {x c : Cu} (S : SubT x c) (X : AskOk x true) (A : AskOk c true) {more : List Int} (hm : more.length = c.want.length) (h : sWith c (sTruth c) more = 1) : sWith x (sTruth x) more = 1 := by
  have hne : rTruths x ≠ [] := fun e => X.ne ((same_nil X.k0).2 e)
  rw [with_same A.k0 A.ne hm] at h
  rw [with_same X.k0 X.ne (by rw [S.want]; exact hm), S.want, S.coal]
  exact S.wholes hne h
theorem SubT.spare {x c : Cu} (S : SubT x c) (X : AskOk x true) (A : AskOk c true) (hx : sAsked x true = 0) (hc : sAsked c true = 0) {hour : Int} (h : sIn hour 0 c.last = true) :
    ((sSpareA c hour).2 = 0 ∧ (sSpareA x hour).2 = 0 ∧ (sSpareA c hour).1 ≤ (sSpareA x hour).1) ∨ ((sSpareA c hour).2 = 10 ∧ ((sSpareA x hour).2 = 0 ∨ (sSpareA x hour).2 = 10)) := by
  have hlen : ∀ n, (moreAt c hour n).length = c.want.length := fun n => by have := A.k0.want.1; have := A.k0.last; rw [moreAt_len]; omega
  rcases spare_some h hc with ⟨s, e, s0, s20, w, _⟩ | ⟨e, _⟩
  · rcases spare_some (c := x) (by rw [S.last]; exact h) hx with ⟨s', e', s0', s20', w', hn⟩ | ⟨e', hn⟩
    · left
      rw [e, e']
      refine ⟨rfl, rfl, ?_⟩
      simp only
      by_cases hlt : s' < s
      · have := hn s hlt s20
        rw [moreAt_cu S.last] at this
        exact absurd (S.with X A (hlen s) w) this
      · omega
    · have := hn s s0 s20
      rw [moreAt_cu S.last] at this
      exact absurd (S.with X A (hlen s) w) this
  · right
    rcases spare_some (c := x) (by rw [S.last]; exact h) hx with ⟨s', e', _⟩ | ⟨e', _⟩
    · rw [e, e']; exact ⟨rfl, .inl rfl⟩
    · rw [e, e']; exact ⟨rfl, .inr rfl⟩
/-! which readings are left out -/
end Go.Vm

set_option linter.unusedVariables false
set_option linter.unusedSimpArgs false
set_option maxRecDepth 100000
namespace Go.Vm
/-! ### more promised -/
theorem addL_gi {a b : List Int} {i : Nat} (h : i < a.length) : gi (addL a b) i = gi a i + gi b i := by
  rw [addL]; exact gi_map h
theorem addL_len' (a b : List Int) : (addL a b).length = a.length := by simp [addL]
theorem gi_zeros (n : Nat) (i : Int) : gi (List.replicate n 0) i = 0 := by
  simp only [gi, List.getD_eq_getElem?_getD, List.getElem?_replicate]
  split <;> rfl
theorem more_eq {c : Cu} (A : AskOk c true) (h0 : sAsked c true = 0) {more : List Int} (hp : sPromised c more = true) : sMoreA c more = (rWholes c (rTruths c) c.coal (addL c.want more), 0) := by
  obtain ⟨h1, _⟩ := promised_ok hp
  rw [sMoreA, hp, if_pos h0, with_same A.k0 A.ne (by have := A.k0.want.1; omega)]
theorem promised_of {c : Cu} {l : List Int} (h1 : (l.length : Int) = c.last + 1) (h2 : ∀ x ∈ l, 0 ≤ x ∧ x ≤ 20) : sPromised c l = true := by
  simp only [sPromised, Bool.and_eq_true, decide_eq_true_eq, List.all_eq_true, sIn]
  exact ⟨h1, h2⟩
theorem more_less {c : Cu} (k0 : CuOk c) {a b : List Int} (h : ∀ i : Nat, i < (c.last + 1).toNat → 0 ≤ gi a i ∧ gi a i ≤ gi b i) {coal : List Int} {t : Tr2} (hw : wholeI c coal (addL c.want b) t = true) : wholeI c coal (addL c.want a) t = true := by
  refine whole_want k0.per.1 (fun i hi => ?_) hw
  have hwl := k0.want
  have hil : i < c.want.length := by omega
  rw [addL_gi hil, addL_gi hil]
  have := h i hi
  have := hwl.2 _ (gi_mem hil)
  omega
theorem more_one {c : Cu} (k0 : CuOk c) (hne : rTruths c ≠ []) {a b : List Int} (h : ∀ i : Nat, i < (c.last + 1).toNat → 0 ≤ gi a i ∧ gi a i ≤ gi b i) {coal : List Int} (hw : rWholes c (rTruths c) coal (addL c.want b) = 1) : rWholes c (rTruths c) coal (addL c.want a) = 1 := by
  rw [wholes_one hne] at hw ⊢
  exact fun t ht => more_less k0 h (hw t ht)
theorem moreAt_gi (c : Cu) {hour n : Int} {i : Nat} (hi : i < (c.last + 1).toNat) : gi (moreAt c hour n) i = if i = hour.toNat then n else 0 := by
  simp only [moreAt, gi, Int.toNat_natCast, List.getD_eq_getElem?_getD, List.getElem?_set, List.length_replicate, List.getElem?_replicate]
  by_cases h : hour.toNat = i
  · subst h; simp [hi]
  · rw [if_neg h, if_neg (Ne.symm h), if_pos hi]; rfl
end Go.Vm

set_option linter.unusedVariables false
set_option linter.unusedSimpArgs false
set_option maxRecDepth 100000
namespace Go.Vm
theorem list_ext {a b : List Int} (hl : a.length = b.length) (h : ∀ i : Nat, i < a.length → gi a i = gi b i) : a = b := by
  apply List.ext_getElem?
  intro j
  by_cases hj : j < a.length
  · rw [gi_get (l := a) (by omega), gi_get (l := b) (by omega), h j hj]
  · rw [List.getElem?_eq_none (by omega), List.getElem?_eq_none (by omega)]
/-! ### bath: what the program computes, in plain words -/
structure Rm where
  cu : Cu
  bu : Int
  pl : Int
  ba : List Rg
deriving DecidableEq
def Rm.cs (r : Rm) : List V := [vi r.cu.last, vi r.cu.start, vi r.cu.most, vi r.cu.per, vi r.cu.shovels, vI r.cu.coal, vI r.cu.want, vi r.cu.heat.lo, vi r.cu.heat.hi, vR r.cu.loss, vD r.cu.readings, vi r.bu, vi r.pl, vR r.ba]
structure Rm.wf (r : Rm) : Prop where
  cu : r.cu.wf
  ba : (r.ba.length : Int) ≤ 1000000
def sValid (r : Rm) (b : Rg) : Bool := decide (0 ≤ b.lo) && (decide (b.lo ≤ b.hi) && decide (b.hi ≤ r.cu.last))
def sCheckR (r : Rm) : Int :=
  if sAsked r.cu true ≠ 0 then sAsked r.cu true
  else if 5 < r.pl ∨ 5 < (r.ba.length : Int) then 3
  else if (decide (r.pl < 0) || (!sIn r.bu 1 9 || !r.ba.all (sValid r))) = true then 1 else 0
/-- The buckets of so many baths. -/
def nb (r : Rm) (n : List Int) : List Int := nI (r.cu.last + 1) fun h => r.bu * gi n h
def sRoom (r : Rm) (h : Nat) (b : Int) : Bool := decide (b = 0) || (decide (b ≤ r.pl) && decide (gi r.cu.want h + r.bu * b ≤ 20))
def sPossN (r : Rm) (n : List Int) : Bool := (List.range (r.cu.last + 1).toNat).all fun h => sRoom r h (gi n h)
def keU (u : Int) : Int := if u = 1 then 1 else if u = 2 then 2 else 3
def keV (r : Rm) (n : List Int) : Int := keU (sMoreA r.cu (nb r n)).1
def sSureN (r : Rm) (n : List Int) : Bool := sPossN r n && decide (keV r n = 1)
def sAre (r : Rm) (plan : List Int) : Bool := decide (plan.length = r.ba.length) && (List.range r.ba.length).all fun i => sIn (gi plan i) (gR r.ba i).lo (gR r.ba i).hi
def inc (n : List Int) (h : Int) : List Int := n.set h.toNat (gi n h + 1)
def addC (n plan : List Int) : List Int := plan.foldl inc n
def cntN (plan : List Int) : List Int := addC zL plan
/-- The error of a plan. -/
def sPlanned (r : Rm) (plan : List Int) (fine : Bool) : Int :=
  if sCheckR r ≠ 0 then sCheckR r else if (!sAre r plan || !fine) = true then 2 else if sPossN r (cntN plan) = false then 9 else 0
/-- All plans of the baths from one on, but some. -/
def outB (out : List Int) (i : Nat) : Bool := out.any fun y => decide ((i : Int) = y)
def genB (r : Rm) (out : List Int) : Nat → Nat → List Int → List Int → List (List Int × List Int)
  | 0, i, plan, n => [(plan, n)]
  | k + 1, i, plan, n =>
    if outB out i = true then genB r out k (i + 1) plan n
    else (rangeI (gR r.ba i).lo (gR r.ba i).hi).flatMap fun h => if sPossN r (inc n h) = true then genB r out k (i + 1) (plan ++ [h]) (inc n h) else []
def plL (r : Rm) (out : List Int) : List (List Int) := ((genB r out r.ba.length 0 [] zL).filter fun x => sSureN r x.2).map (·.1)
def allP (r : Rm) (out : List Int) : Nat → Nat → List (List Int)
  | 0, i => [[]]
  | k + 1, i => if outB out i = true then allP r out k (i + 1) else (rangeI (gR r.ba i).lo (gR r.ba i).hi).flatMap fun h => (allP r out k (i + 1)).map (h :: ·)
structure RmOk (r : Rm) : Prop where
  ask : sAsked r.cu true = 0
  A : AskOk r.cu true
  pl : 0 ≤ r.pl ∧ r.pl ≤ 5
  bu : 1 ≤ r.bu ∧ r.bu ≤ 9
  len : r.ba.length ≤ 5
  ba : ∀ b ∈ r.ba, 0 ≤ b.lo ∧ b.lo ≤ b.hi ∧ b.hi ≤ r.cu.last
theorem rmOk_of {r : Rm} (h : sCheckR r = 0) : RmOk r := by
  unfold sCheckR at h
  split at h
  · rename_i h1; exact absurd h h1
  · rename_i h1
    have h1 : sAsked r.cu true = 0 := by omega
    split at h
    · cases h
    · rename_i h2
      split at h
      · cases h
      · rename_i h3
        simp only [Bool.or_eq_true, decide_eq_true_eq, Bool.not_eq_true', sIn, Bool.and_eq_false_iff, decide_eq_false_iff_not] at h3
        have h4 : r.ba.all (sValid r) = true := by
          cases hh : r.ba.all (sValid r) with
          | true => rfl
          | false => exact absurd (.inr (.inr hh)) h3
        rw [List.all_eq_true] at h4
        refine ⟨h1, askOk_of h1, by omega, by omega, by omega, fun b hb => ?_⟩
        have := h4 b hb
        simp only [sValid, Bool.and_eq_true, decide_eq_true_eq] at this
        omega
theorem RmOk.wf {r : Rm} (k : RmOk r) : r.wf := ⟨k.A.k0.wf, by have := k.len; omega⟩
theorem inc_len (n : List Int) (h : Int) : (inc n h).length = n.length := by simp [inc]
theorem addC_len (plan : List Int) : ∀ n, (addC n plan).length = n.length := by
  induction plan with
  | nil => intro n; rfl
  | cons x p ih => intro n; rw [addC, List.foldl_cons, ← addC, ih, inc_len]
theorem inc_gi {n : List Int} {h : Int} (h0 : 0 ≤ h) (hl : h < n.length) (i : Nat) : gi (inc n h) i = gi n i + (if (i : Int) = h then 1 else 0) := by
  rw [inc]
  by_cases e : (i : Int) = h
  · subst e
    rw [if_pos rfl, Int.toNat_natCast, gi_set_self _ (by omega)]
  · rw [if_neg e, gi_set_ne _ (by omega)]; omega
theorem addC_gi : ∀ (plan n : List Int), (∀ h ∈ plan, 0 ≤ h ∧ h < n.length) → ∀ i : Nat, gi (addC n plan) i = gi n i + (plan.countP fun h => decide ((i : Int) = h))
  | [], n, _, i => by simp [addC]
  | x :: p, n, hp, i => by
    have h1 := hp x (by simp)
    have ih := addC_gi p (inc n x) (fun h hh => by rw [inc_len]; exact hp h (by simp [hh])) i
    rw [addC, List.foldl_cons, ← addC, ih, inc_gi h1.1 h1.2, List.countP_cons]
    by_cases e : (i : Int) = x
    · simp [e]; omega
    · simp [e]
/-- More baths are possible only if fewer are. -/
theorem room_mono {r : Rm} (k : RmOk r) {h : Nat} (hh : (h : Int) ≤ r.cu.last) {a b : Int} (h0 : 0 ≤ a) (hab : a ≤ b) (hr : sRoom r h b = true) : sRoom r h a = true := by
  simp only [sRoom, Bool.or_eq_true, Bool.and_eq_true, decide_eq_true_eq] at hr ⊢
  rcases hr with h1 | ⟨h1, h2⟩
  · left; omega
  · right
    have hb := k.bu
    have := Int.mul_le_mul_of_nonneg_left hab (show 0 ≤ r.bu by omega)
    omega
theorem poss_le {r : Rm} (k : RmOk r) {a b : List Int} (h : ∀ i : Nat, (i : Int) ≤ r.cu.last → 0 ≤ gi a i ∧ gi a i ≤ gi b i) (hp : sPossN r b = true) : sPossN r a = true := by
  have hl := k.A.k0.last
  rw [sPossN, List.all_eq_true] at hp ⊢
  intro i hi
  have hi2 : (i : Int) ≤ r.cu.last := by have := List.mem_range.1 hi; omega
  exact room_mono k hi2 (h i hi2).1 (h i hi2).2 (hp i hi)
/-- What possible numbers take can be promised. -/
theorem nb_gi {r : Rm} {n : List Int} {i : Nat} (hi : (i : Int) ≤ r.cu.last) : gi (nb r n) i = r.bu * gi n i := by
  rw [nb, gi_nI (by omega)]
theorem nb_len {r : Rm} (k : RmOk r) (n : List Int) : ((nb r n).length : Int) = r.cu.last + 1 := by
  have := k.A.k0.last
  rw [nb, nI_len']; omega
theorem nb_prom {r : Rm} (k : RmOk r) {n : List Int} (h0 : ∀ i : Nat, (i : Int) ≤ r.cu.last → 0 ≤ gi n i) (hp : sPossN r n = true) : sPromised r.cu (nb r n) = true := by
  have hl := k.A.k0.last
  have hL := nb_len k n
  refine promised_of hL fun x hx => ?_
  obtain ⟨i, hi, rfl⟩ := mem_gi hx
  have hi2 : (i : Int) ≤ r.cu.last := by omega
  rw [nb_gi hi2]
  have h1 := h0 i hi2
  rw [sPossN, List.all_eq_true] at hp
  have h2 := hp i (List.mem_range.2 (by omega))
  simp only [sRoom, Bool.or_eq_true, Bool.and_eq_true, decide_eq_true_eq] at h2
  have hb := k.bu
  have hw := (k.A.k0.want.2 _ (gi_mem (show i < r.cu.want.length by have := k.A.k0.want.1; omega))).1
  have := Int.mul_nonneg (show 0 ≤ r.bu by omega) h1
  rcases h2 with h2 | ⟨h2, h3⟩
  · rw [h2]; omega
  · omega
theorem keV_eq {r : Rm} (k : RmOk r) {n : List Int} (h0 : ∀ i : Nat, (i : Int) ≤ r.cu.last → 0 ≤ gi n i) (hp : sPossN r n = true) : keV r n = rWholes r.cu (rTruths r.cu) r.cu.coal (addL r.cu.want (nb r n)) := by
  have h1 := more_eq k.A k.ask (nb_prom k h0 hp)
  have h2 := wholes_in r.cu (rTruths r.cu) r.cu.coal (addL r.cu.want (nb r n))
  rw [keV, h1]
  simp only [keU]
  split
  · omega
  · split <;> omega
theorem RmOk.ne {r : Rm} (k : RmOk r) : rTruths r.cu ≠ [] := fun e => k.A.ne ((same_nil k.A.k0).2 e)
theorem sure_le {r : Rm} (k : RmOk r) {a b : List Int} (h : ∀ i : Nat, (i : Int) ≤ r.cu.last → 0 ≤ gi a i ∧ gi a i ≤ gi b i) (hs : sSureN r b = true) : sSureN r a = true := by
  have hl := k.A.k0.last
  simp only [sSureN, Bool.and_eq_true, decide_eq_true_eq] at hs ⊢
  have hp := poss_le k h hs.1
  refine ⟨hp, ?_⟩
  have hk := hs.2
  rw [keV_eq k (fun i hi => by have := h i hi; omega) hs.1] at hk
  rw [keV_eq k (fun i hi => (h i hi).1) hp]
  refine more_one k.A.k0 k.ne (fun i hi => ?_) hk
  have hi2 : (i : Int) ≤ r.cu.last := by omega
  rw [nb_gi hi2, nb_gi hi2]
  have := h i hi2
  have hb := k.bu
  exact ⟨Int.mul_nonneg (by omega) this.1, Int.mul_le_mul_of_nonneg_left this.2 (by omega)⟩
/-! the program's plans, without the short cuts -/
theorem addC_ge : ∀ (plan n : List Int), (∀ h ∈ plan, 0 ≤ h ∧ h < n.length) → ∀ i : Nat, gi n i ≤ gi (addC n plan) i := fun plan n hp i => by
  rw [addC_gi plan n hp i]; omega
theorem allP_mem {r : Rm} (k : RmOk r) {out : List Int} : ∀ {m i : Nat}, i + m ≤ r.ba.length → ∀ p ∈ allP r out m i, ∀ h ∈ p, 0 ≤ h ∧ h ≤ r.cu.last
  | 0, i, _, p, hp, h, hh => by simp only [allP, List.mem_singleton] at hp; subst hp; cases hh
  | m + 1, i, hm, p, hp, h, hh => by
    rw [allP] at hp
    split at hp
    · exact allP_mem k (by omega) p hp h hh
    · simp only [List.mem_flatMap, List.mem_map] at hp
      obtain ⟨x, hx, q, hq, rfl⟩ := hp
      have hx := mem_rangeI.1 hx
      have hb := k.ba (gR r.ba i) (List.mem_of_getElem? (gR_get (i := i) (by omega)))
      rcases List.mem_cons.1 hh with rfl | hh
      · omega
      · exact allP_mem k (by omega) q hq h hh
theorem gen_all {r : Rm} (k : RmOk r) (out : List Int) : ∀ (m i : Nat) (plan n : List Int), i + m ≤ r.ba.length → n.length = 5 → (∀ j : Nat, 0 ≤ gi n j) →
    ((genB r out m i plan n).filter fun x => sSureN r x.2).map (·.1) = ((allP r out m i).filter fun p => sSureN r (addC n p)).map (plan ++ ·)
  | 0, i, plan, n, _, _, _ => by
    simp only [genB, allP, addC]
    cases h : sSureN r n <;> simp [h]
  | m + 1, i, plan, n, hm, hn, h0 => by
    rw [genB, allP]
    split
    · exact gen_all k out m (i + 1) plan n (by omega) hn h0
    · rw [List.filter_flatMap, List.map_flatMap, List.filter_flatMap, List.map_flatMap]
      simp only [List.flatMap_def]
      congr 1
      apply List.map_congr_left
      intro h hh
      have hh := mem_rangeI.1 hh
      have hb := k.ba (gR r.ba i) (List.mem_of_getElem? (gR_get (i := i) (by omega)))
      have hl := k.A.k0.last
      have hi := inc_gi (n := n) (h := h) (by omega) (by omega)
      have e2 : (List.filter (fun p => sSureN r (addC n p)) (List.map (h :: ·) (allP r out m (i + 1)))) = (List.filter (fun p => sSureN r (addC (inc n h) p)) (allP r out m (i + 1))).map (h :: ·) := by
        rw [List.filter_map]; rfl
      rw [e2, List.map_map]
      have e3 : ((plan ++ ·) ∘ (h :: ·)) = fun p : List Int => (plan ++ [h]) ++ p := by funext p; simp
      rw [e3]
      by_cases hp : sPossN r (inc n h) = true
      · rw [if_pos hp]
        exact gen_all k out m (i + 1) (plan ++ [h]) (inc n h) (by omega) (by rw [inc_len]; exact hn) (fun j => by rw [hi]; have := h0 j; split <;> omega)
      · rw [if_neg hp]
        have : (List.filter (fun p => sSureN r (addC (inc n h) p)) (allP r out m (i + 1))) = [] := by
          rw [List.filter_eq_nil_iff]
          intro p hp2 hs
          have hpm := allP_mem k (out := out) (show (i + 1) + m ≤ r.ba.length by omega) p hp2
          simp only [sSureN, Bool.and_eq_true] at hs
          exact hp (poss_le k (fun j hj => by
            refine ⟨by rw [hi]; have := h0 j; split <;> omega, addC_ge p _ (fun y hy => by rw [inc_len, hn]; have := hpm y hy; omega) j⟩) hs.1)
        rw [this]; rfl
theorem zL_gi (i : Int) : gi zL i = 0 := gi_zeros 5 i
theorem plL_eq {r : Rm} (k : RmOk r) (out : List Int) : plL r out = (allP r out r.ba.length 0).filter fun p => sSureN r (cntN p) := by
  rw [plL, gen_all k out r.ba.length 0 [] zL (by omega) rfl (fun j => by rw [zL_gi]; omega)]
  simp only [List.nil_append, List.map_id']
  rfl
end Go.Vm

set_option linter.unusedVariables false
set_option linter.unusedSimpArgs false
set_option maxRecDepth 100000
namespace Go.Vm
open Go.Proofs
/-! ### rooms -/
theorem rm_len {r : Rm} : r.cs.length = 14 := rfl
theorem rm_take {r : Rm} : r.cs.take 14 = r.cs := rfl
theorem rm_t11 {r : Rm} : r.cs.take 11 = r.cu.cs := rfl
theorem rm_h0 {r : Rm} : r.cs.head? = some (vi r.cu.last) := rfl
theorem rm_h6 {r : Rm} : (r.cs.drop 6).head? = some (vI r.cu.want) := rfl
theorem rm_h11 {r : Rm} : (r.cs.drop 11).head? = some (vi r.bu) := rfl
theorem rm_h12 {r : Rm} : (r.cs.drop 12).head? = some (vi r.pl) := rfl
theorem rm_h13 {r : Rm} : (r.cs.drop 13).head? = some (vR r.ba) := rfl
theorem rm_h10 {r : Rm} : (r.cs.drop 10).head? = some (vD r.cu.readings) := rfl
theorem rm_g11 {r : Rm} : r.cs[11]? = some (vi r.bu) := rfl
theorem rm_g12 {r : Rm} : r.cs[12]? = some (vi r.pl) := rfl
theorem rm_g13 {r : Rm} : r.cs[13]? = some (vR r.ba) := rfl
theorem rm_one (r : Rm) : oneL r.cs = true := rfl
theorem rm_into (p : Nat → Bool) (r : Rm) : intoL p r.cs = true := by simp only [Rm.cs, V.into, intoL, vI_into, vR_into, vD_into, Bool.and_true]
theorem rms : type_of% (And.intro @rm_len (And.intro @rm_take (And.intro @rm_t11 (And.intro @rm_h0 (And.intro @rm_h6 (And.intro @rm_h11 (And.intro @rm_h12 (And.intro @rm_h13 (And.intro @rm_h10 (And.intro @rm_g11 (And.intro @rm_g12 (And.intro @rm_g13 @rm_one)))))))))))) :=
  And.intro @rm_len (And.intro @rm_take (And.intro @rm_t11 (And.intro @rm_h0 (And.intro @rm_h6 (And.intro @rm_h11 (And.intro @rm_h12 (And.intro @rm_h13 (And.intro @rm_h10 (And.intro @rm_g11 (And.intro @rm_g12 (And.intro @rm_g13 @rm_one)))))))))))
theorem c_bwithin (a b c : Int) : Pu Tryz.prog (.fn 86 [] []) [vi a, vi b, vi c] (.bool (sIn a b c)) := by
  refine Ev.fn Tryz.func86 rfl rfl (Fn.body tabOk Tryz.func86 rfl (Nat.le_of_ble_eq_true rfl) (Ks.ok (fz := (fzn [])) (cl := (cln [])) tabOk mixed ?_))
  generalize hQ : FnPost tt Tryz.f86 _ _ = Q
  simp only [Tryz.f86, List.nil_append, List.append_nil, argsEnv, Nat.reduceAdd]
  by_cases h : b ≤ a
  · simp only [gos, eq_self, Nat.reduceLT, Nat.reduceEqDiff, reduceCtorEq, reduceIte, ↓reduceIte, vgo, vout, vguard, callOf, vop, ev, cv, vbin, vint, isShift, isNilConst, h]
    subst hQ
    exact FnPost.plain trivial (fun h2 e => by first | rfl | (simp only [Tryz.f86, vres, vresL, vres1, e _, gos, if_true, if_false, ne_eq, eq_self, Nat.reduceLT, Nat.reduceEqDiff, Nat.reduceAdd, Nat.reduceMul, Nat.reduceLeDiff, Nat.reduceBEq, reduceCtorEq, reduceIte, Array.toList, ↓reduceIte, tt, vgo, vout, vgoD, voutD, vclsOk, vids, mayWrite, V.ids, V.mids, vguard, callOf, vop, ev, cv, vbin, vint, isShift, isNilConst, vnil, isNilSlice, vload, vlen, newRow, vfill, vslice, entOf, vappend, srcOf, vcopy, vlookup, vupdate, mapOk, keyOf, intsOf, clsAt]; try rfl)) (WkV.pure (by simp only [V.into])) ⟨by simp [sIn, h], rfl⟩
  · simp only [gos, eq_self, Nat.reduceLT, Nat.reduceEqDiff, reduceCtorEq, reduceIte, ↓reduceIte, vgo, vout, vguard, callOf, vop, ev, cv, vbin, vint, isShift, isNilConst, h]
    subst hQ
    exact FnPost.plain trivial (fun h2 e => by first | rfl | (simp only [Tryz.f86, vres, vresL, vres1, e _, gos, if_true, if_false, ne_eq, eq_self, Nat.reduceLT, Nat.reduceEqDiff, Nat.reduceAdd, Nat.reduceMul, Nat.reduceLeDiff, Nat.reduceBEq, reduceCtorEq, reduceIte, Array.toList, ↓reduceIte, tt, vgo, vout, vgoD, voutD, vclsOk, vids, mayWrite, V.ids, V.mids, vguard, callOf, vop, ev, cv, vbin, vint, isShift, isNilConst, vnil, isNilSlice, vload, vlen, newRow, vfill, vslice, entOf, vappend, srcOf, vcopy, vlookup, vupdate, mapOk, keyOf, intsOf, clsAt]; try rfl)) (WkV.pure (by simp only [V.into])) ⟨by simp [sIn, h], rfl⟩
theorem c_bmin2 (a b : Int) : Pu Tryz.prog (.fn 104 [] []) [.ro 2 [vi a, vi b]] (vi (min a b)) := by
  refine Ev.fn Tryz.func104 rfl rfl (Fn.body tabOk Tryz.func104 rfl (Nat.le_of_ble_eq_true rfl) (Ks.ok (fz := (fzn [])) (cl := (cln [])) tabOk mixed ?_))
  generalize hQ : FnPost tt Tryz.f104 _ _ = Q
  simp only [Tryz.f104, List.nil_append, List.append_nil, argsEnv]
  simp only [gos, eq_self, Nat.reduceLT, reduceCtorEq, reduceIte, ↓reduceIte, vgo, vout, vguard, callOf, vop, ev, cv]
  refine Cl.pu (c_Min [a, b] (by simp) (by simp)) ?_ rfl (by simp only [V.into, intoL, Bool.and_true])
  simp only [gos, eq_self, Nat.reduceLT, reduceIte, ↓reduceIte, vgo, vout, vguard, callOf, vop, ev]
  subst hQ
  exact FnPost.plain trivial (fun h2 e => by first | rfl | (simp only [Tryz.f104, vres, vresL, vres1, e _, gos, if_true, if_false, ne_eq, eq_self, Nat.reduceLT, Nat.reduceEqDiff, Nat.reduceAdd, Nat.reduceMul, Nat.reduceLeDiff, Nat.reduceBEq, reduceCtorEq, reduceIte, Array.toList, ↓reduceIte, tt, vgo, vout, vgoD, voutD, vclsOk, vids, mayWrite, V.ids, V.mids, vguard, callOf, vop, ev, cv, vbin, vint, isShift, isNilConst, vnil, isNilSlice, vload, vlen, newRow, vfill, vslice, entOf, vappend, srcOf, vcopy, vlookup, vupdate, mapOk, keyOf, intsOf, clsAt]; try rfl)) (WkV.pure (by simp only [V.into])) ⟨rfl, rfl⟩
theorem c_first (b : Rg) : Pu Tryz.prog (.fn 90 [] []) [.agg [vi b.lo, vi b.hi]] (vi b.lo) := by
  refine Ev.fn Tryz.func90 rfl rfl (Fn.body tabOk Tryz.func90 rfl (Nat.le_of_ble_eq_true rfl) (Ks.ok (fz := (fzn [])) (cl := (cln [])) tabOk mixed ?_))
  generalize hQ : FnPost tt Tryz.f90 _ _ = Q
  simp only [Tryz.f90, List.nil_append, List.append_nil, argsEnv]
  simp only [gos, eq_self, Nat.reduceLT, Nat.reduceEqDiff, reduceCtorEq, reduceIte, ↓reduceIte, tt, vgo, vout, vguard, callOf, vop, ev, cv, vload, newRow]
  subst hQ
  exact FnPost.plain trivial (fun h2 e => by first | rfl | (simp only [Tryz.f90, vres, vresL, vres1, e _, gos, if_true, if_false, ne_eq, eq_self, Nat.reduceLT, Nat.reduceEqDiff, Nat.reduceAdd, Nat.reduceMul, Nat.reduceLeDiff, Nat.reduceBEq, reduceCtorEq, reduceIte, Array.toList, ↓reduceIte, tt, vgo, vout, vgoD, voutD, vclsOk, vids, mayWrite, V.ids, V.mids, vguard, callOf, vop, ev, cv, vbin, vint, isShift, isNilConst, vnil, isNilSlice, vload, vlen, newRow, vfill, vslice, entOf, vappend, srcOf, vcopy, vlookup, vupdate, mapOk, keyOf, intsOf, clsAt]; try rfl)) (WkV.pure (by simp only [V.into])) ⟨rfl, rfl⟩
theorem c_last (b : Rg) : Pu Tryz.prog (.fn 91 [] []) [.agg [vi b.lo, vi b.hi]] (vi b.hi) := by
  refine Ev.fn Tryz.func91 rfl rfl (Fn.body tabOk Tryz.func91 rfl (Nat.le_of_ble_eq_true rfl) (Ks.ok (fz := (fzn [])) (cl := (cln [])) tabOk mixed ?_))
  generalize hQ : FnPost tt Tryz.f91 _ _ = Q
  simp only [Tryz.f91, List.nil_append, List.append_nil, argsEnv]
  simp only [gos, eq_self, Nat.reduceLT, Nat.reduceEqDiff, reduceCtorEq, reduceIte, ↓reduceIte, tt, vgo, vout, vguard, callOf, vop, ev, cv, vload, newRow]
  subst hQ
  exact FnPost.plain trivial (fun h2 e => by first | rfl | (simp only [Tryz.f91, vres, vresL, vres1, e _, gos, if_true, if_false, ne_eq, eq_self, Nat.reduceLT, Nat.reduceEqDiff, Nat.reduceAdd, Nat.reduceMul, Nat.reduceLeDiff, Nat.reduceBEq, reduceCtorEq, reduceIte, Array.toList, ↓reduceIte, tt, vgo, vout, vgoD, voutD, vclsOk, vids, mayWrite, V.ids, V.mids, vguard, callOf, vop, ev, cv, vbin, vint, isShift, isNilConst, vnil, isNilSlice, vload, vlen, newRow, vfill, vslice, entOf, vappend, srcOf, vcopy, vlookup, vupdate, mapOk, keyOf, intsOf, clsAt]; try rfl)) (WkV.pure (by simp only [V.into])) ⟨rfl, rfl⟩
theorem c_valid1 (r : Rm) (b : Rg) : Pu Tryz.prog (.fn 85 [.agg r.cs] []) [.agg [vi b.lo, vi b.hi]] (.bool (sValid r b)) := by
  refine Ev.fn Tryz.func85 rfl rfl (Fn.body tabOk Tryz.func85 rfl (Nat.le_of_ble_eq_true rfl) (Ks.ok (fz := (fzn [])) (cl := (cln [])) tabOk mixed ?_))
  generalize hQ : FnPost tt Tryz.f85 _ _ = Q
  simp only [Tryz.f85, List.nil_append, List.append_nil, List.cons_append, argsEnv, Nat.reduceAdd]
  by_cases h1 : 0 ≤ b.lo
  case neg =>
    simp only [gos, eq_self, Nat.reduceLT, Nat.reduceEqDiff, reduceCtorEq, reduceIte, ↓reduceIte, tt, vgo, vout, vguard, callOf, vop, ev, cv, vbin, vint, isShift, isNilConst, vload, newRow, h1]
    subst hQ
    exact FnPost.plain trivial (fun h2 e => by first | rfl | (simp only [Tryz.f85, vres, vresL, vres1, e _, gos, if_true, if_false, ne_eq, eq_self, Nat.reduceLT, Nat.reduceEqDiff, Nat.reduceAdd, Nat.reduceMul, Nat.reduceLeDiff, Nat.reduceBEq, reduceCtorEq, reduceIte, Array.toList, ↓reduceIte, tt, vgo, vout, vgoD, voutD, vclsOk, vids, mayWrite, V.ids, V.mids, vguard, callOf, vop, ev, cv, vbin, vint, isShift, isNilConst, vnil, isNilSlice, vload, vlen, newRow, vfill, vslice, entOf, vappend, srcOf, vcopy, vlookup, vupdate, mapOk, keyOf, intsOf, clsAt]; try rfl)) (WkV.pure (by simp only [V.into])) ⟨by simp [sValid, h1], rfl⟩
  by_cases h2 : b.lo ≤ b.hi
  case neg =>
    simp only [gos, eq_self, Nat.reduceLT, Nat.reduceEqDiff, reduceCtorEq, reduceIte, ↓reduceIte, tt, vgo, vout, vguard, callOf, vop, ev, cv, vbin, vint, isShift, isNilConst, vload, newRow, h1, h2]
    subst hQ
    exact FnPost.plain trivial (fun h2 e => by first | rfl | (simp only [Tryz.f85, vres, vresL, vres1, e _, gos, if_true, if_false, ne_eq, eq_self, Nat.reduceLT, Nat.reduceEqDiff, Nat.reduceAdd, Nat.reduceMul, Nat.reduceLeDiff, Nat.reduceBEq, reduceCtorEq, reduceIte, Array.toList, ↓reduceIte, tt, vgo, vout, vgoD, voutD, vclsOk, vids, mayWrite, V.ids, V.mids, vguard, callOf, vop, ev, cv, vbin, vint, isShift, isNilConst, vnil, isNilSlice, vload, vlen, newRow, vfill, vslice, entOf, vappend, srcOf, vcopy, vlookup, vupdate, mapOk, keyOf, intsOf, clsAt]; try rfl)) (WkV.pure (by simp only [V.into])) ⟨by simp [sValid, h1, h2], rfl⟩
  simp only [gos, eq_self, Nat.reduceLT, Nat.reduceEqDiff, reduceCtorEq, reduceIte, ↓reduceIte, tt, vgo, vout, vguard, callOf, vop, ev, cv, vbin, vint, isShift, isNilConst, vload, newRow, rms, h1, h2]
  subst hQ
  exact FnPost.plain trivial (fun h2 e => by first | rfl | (simp only [Tryz.f85, vres, vresL, vres1, e _, gos, if_true, if_false, ne_eq, eq_self, Nat.reduceLT, Nat.reduceEqDiff, Nat.reduceAdd, Nat.reduceMul, Nat.reduceLeDiff, Nat.reduceBEq, reduceCtorEq, reduceIte, Array.toList, ↓reduceIte, tt, vgo, vout, vgoD, voutD, vclsOk, vids, mayWrite, V.ids, V.mids, vguard, callOf, vop, ev, cv, vbin, vint, isShift, isNilConst, vnil, isNilSlice, vload, vlen, newRow, vfill, vslice, entOf, vappend, srcOf, vcopy, vlookup, vupdate, mapOk, keyOf, intsOf, clsAt]; try rfl)) (WkV.pure (by simp only [V.into])) ⟨by simp [sValid, h1, h2], rfl⟩
theorem c_IndexFunc_Bt (pv : V) (f : Rg → Bool) (l : List Rg) (hl : (l.length : Int) ≤ 1000000) (hp : pv.into (fun _ => false) = true) (hf : ∀ x ∈ l, Pu Tryz.prog pv [.agg [vi x.lo, vi x.hi]] (.bool (f x))) :
    Pu Tryz.prog (.fn 162 [] []) [vR l, pv] (vi (sIdx f l)) := by
  refine Ev.fn Tryz.func162 rfl rfl (Fn.body tabOk Tryz.func162 rfl (Nat.le_of_ble_eq_true rfl) (Ks.ok (fz := (fzn [])) (cl := (cln [])) tabOk mixed ?_))
  generalize hQ : FnPost tt Tryz.f162 _ _ = Q
  simp only [Tryz.f162, List.nil_append, List.append_nil, argsEnv, Nat.reduceAdd]
  simp only [gos, eq_self, Nat.reduceLT, reduceCtorEq, reduceIte, ↓reduceIte, tt, vgo, vout, vguard, callOf, vop, ev, cv, vlen, vR]
  refine W.loop tabOk mixed (fun i : Nat => ([(0, vR l), (1, pv), (7, vi l.length), (8, vi i)], [])) (fun i => l.length - i) (fun i => i ≤ l.length ∧ ∀ (j : Nat) y, j < i → l[j]? = some y → f y = false) 0 ⟨by omega, by omega⟩ (Wk.env (by simp [subE, Env.get, vR])) ?_
  rintro i ⟨hi, hj⟩
  by_cases hil : (i : Int) < l.length
  · simp only [gos, eq_self, Nat.reduceLT, Nat.reduceEqDiff, reduceCtorEq, reduceIte, ↓reduceIte, tt, vgo, vout, vguard, callOf, vop, ev, vbin, vint, isShift, isNilConst, vload, vR, hil, cR_at (Int.natCast_nonneg i) hil]
    refine Cl.pu (hf (gR l i) (List.mem_of_getElem? (gR_get hil))) ?_ hp (by simp only [V.into, intoL, Bool.and_true])
    cases hfx : f (gR l i)
    · simp only [gos, eq_self, Nat.reduceLT, Nat.reduceEqDiff, reduceCtorEq, reduceIte, ↓reduceIte, vgo, vout, vguard, callOf, vop, ev, cv, vbin, vint, isShift, isNilConst]
      refine Nx.mk (i + 1) (show l.length - (i + 1) < l.length - i by omega) ⟨by omega, fun j y hlt hy => ?_⟩ (Wk.env (by simp [subE, Env.get, i64_succ (show (i : Int) < 9223372036854775807 by omega)]))
      rcases Nat.lt_or_eq_of_le (Nat.le_of_lt_succ hlt) with h | rfl
      · exact hj j y h hy
      · rw [gR_get hil] at hy; injection hy with hy; rw [← hy]; exact hfx
    · simp only [gos, eq_self, Nat.reduceLT, Nat.reduceEqDiff, reduceIte, ↓reduceIte, vgo, vout, vguard, callOf, vop, ev]
      subst hQ
      exact FnPost.plain trivial (fun h2 e => by first | rfl | (simp only [Tryz.f162, vres, vresL, vres1, e _, gos, if_true, if_false, ne_eq, eq_self, Nat.reduceLT, Nat.reduceEqDiff, Nat.reduceAdd, Nat.reduceMul, Nat.reduceLeDiff, Nat.reduceBEq, reduceCtorEq, reduceIte, Array.toList, ↓reduceIte, tt, vgo, vout, vgoD, voutD, vclsOk, vids, mayWrite, V.ids, V.mids, vguard, callOf, vop, ev, cv, vbin, vint, isShift, isNilConst, vnil, isNilSlice, vload, vlen, newRow, vfill, vslice, entOf, vappend, srcOf, vcopy, vlookup, vupdate, mapOk, keyOf, intsOf, clsAt]; try rfl)) (WkV.pure (by simp only [V.into])) ⟨by rw [sIdx_some (gR_get hil) hfx hj], rfl⟩
  · simp only [gos, eq_self, Nat.reduceLT, Nat.reduceEqDiff, reduceCtorEq, reduceIte, ↓reduceIte, vgo, vout, vguard, callOf, vop, ev, cv, vbin, vint, isShift, isNilConst, vR, hil]
    subst hQ
    exact FnPost.plain trivial (fun h2 e => by first | rfl | (simp only [Tryz.f162, vres, vresL, vres1, e _, gos, if_true, if_false, ne_eq, eq_self, Nat.reduceLT, Nat.reduceEqDiff, Nat.reduceAdd, Nat.reduceMul, Nat.reduceLeDiff, Nat.reduceBEq, reduceCtorEq, reduceIte, Array.toList, ↓reduceIte, tt, vgo, vout, vgoD, voutD, vclsOk, vids, mayWrite, V.ids, V.mids, vguard, callOf, vop, ev, cv, vbin, vint, isShift, isNilConst, vnil, isNilSlice, vload, vlen, newRow, vfill, vslice, entOf, vappend, srcOf, vcopy, vlookup, vupdate, mapOk, keyOf, intsOf, clsAt]; try rfl)) (WkV.pure (by simp only [V.into])) ⟨by rw [sIdx_none fun j y hy => hj j y (by have := (List.getElem?_eq_some_iff.1 hy).1; omega) hy], rfl⟩
theorem c_ContainsFunc_Bt (pv : V) (f : Rg → Bool) (l : List Rg) (hl : (l.length : Int) ≤ 1000000) (hp : pv.into (fun _ => false) = true) (hf : ∀ x ∈ l, Pu Tryz.prog pv [.agg [vi x.lo, vi x.hi]] (.bool (f x))) :
    Pu Tryz.prog (.fn 130 [] []) [vR l, pv] (.bool (l.any f)) := by
  refine Ev.fn Tryz.func130 rfl rfl (Fn.body tabOk Tryz.func130 rfl (Nat.le_of_ble_eq_true rfl) (Ks.ok (fz := (fzn [])) (cl := (cln [])) tabOk mixed ?_))
  generalize hQ : FnPost tt Tryz.f130 _ _ = Q
  simp only [Tryz.f130, List.nil_append, List.append_nil, argsEnv, Nat.reduceAdd]
  simp only [gos, eq_self, Nat.reduceLT, Nat.reduceEqDiff, reduceCtorEq, reduceIte, ↓reduceIte, vgo, vout, vguard, callOf, vop, ev, cv]
  refine Cl.pu (c_IndexFunc_Bt pv f l hl hp hf) ?_ rfl (by simp only [intoL, vR_into, Bool.and_true, hp])
  simp only [gos, eq_self, Nat.reduceLT, reduceIte, ↓reduceIte, vgo, vout, vguard, callOf, vop, ev, cv, vbin, vint, isShift, isNilConst]
  subst hQ
  exact FnPost.plain trivial (fun h2 e => by first | rfl | (simp only [Tryz.f130, vres, vresL, vres1, e _, gos, if_true, if_false, ne_eq, eq_self, Nat.reduceLT, Nat.reduceEqDiff, Nat.reduceAdd, Nat.reduceMul, Nat.reduceLeDiff, Nat.reduceBEq, reduceCtorEq, reduceIte, Array.toList, ↓reduceIte, tt, vgo, vout, vgoD, voutD, vclsOk, vids, mayWrite, V.ids, V.mids, vguard, callOf, vop, ev, cv, vbin, vint, isShift, isNilConst, vnil, isNilSlice, vload, vlen, newRow, vfill, vslice, entOf, vappend, srcOf, vcopy, vlookup, vupdate, mapOk, keyOf, intsOf, clsAt]; try rfl)) (WkV.pure (by simp only [V.into])) ⟨by rw [← sIdx_any], rfl⟩
theorem c_all1_Bt (pv : V) (f : Rg → Bool) (x : Rg) (hp : pv.into (fun _ => false) = true) (hf : Pu Tryz.prog pv [.agg [vi x.lo, vi x.hi]] (.bool (f x))) :
    Pu Tryz.prog (.fn 131 [] [.rop [pv]]) [.agg [vi x.lo, vi x.hi]] (.bool (!f x)) := by
  refine Ev.fn Tryz.func131 rfl rfl (Fn.body tabOk Tryz.func131 rfl (Nat.le_of_ble_eq_true rfl) (Ks.ok (fz := (fzn [])) (cl := (cln [])) tabOk mixed ?_))
  generalize hQ : FnPost tt Tryz.f131 _ _ = Q
  simp only [Tryz.f131, List.nil_append, List.cons_append, argsEnv, Nat.reduceAdd]
  simp only [gos, eq_self, Nat.reduceLT, Nat.reduceEqDiff, Nat.reduceAdd, reduceCtorEq, reduceIte, ↓reduceIte, tt, vgo, vout, vguard, callOf, vop, ev, cv, vload, newRow]
  refine Cl.pu hf ?_ hp (by simp only [V.into, intoL, Bool.and_true])
  simp only [gos, eq_self, Nat.reduceLT, reduceIte, ↓reduceIte, vgo, vout, vguard, callOf, vop, ev]
  subst hQ
  exact FnPost.plain trivial (fun h2 e => by first | rfl | (simp only [Tryz.f131, vres, vresL, vres1, e _, gos, if_true, if_false, ne_eq, eq_self, Nat.reduceLT, Nat.reduceEqDiff, Nat.reduceAdd, Nat.reduceMul, Nat.reduceLeDiff, Nat.reduceBEq, reduceCtorEq, reduceIte, Array.toList, ↓reduceIte, tt, vgo, vout, vgoD, voutD, vclsOk, vids, mayWrite, V.ids, V.mids, vguard, callOf, vop, ev, cv, vbin, vint, isShift, isNilConst, vnil, isNilSlice, vload, vlen, newRow, vfill, vslice, entOf, vappend, srcOf, vcopy, vlookup, vupdate, mapOk, keyOf, intsOf, clsAt]; try rfl)) (WkV.pure (by simp only [V.into])) ⟨rfl, rfl⟩
theorem c_all_Bt (pf : FuncId) (pa pc : List V) (f : Rg → Bool) (l : List Rg) (hl : (l.length : Int) ≤ 1000000) (ha : intoL (fun _ => false) pa = true) (hp : intoL (fun _ => false) pc = true) (hf : ∀ x ∈ l, Pu Tryz.prog (.fn pf pa pc) [.agg [vi x.lo, vi x.hi]] (.bool (f x))) :
    Pu Tryz.prog (.fn 87 [] []) [vR l, .fn pf pa pc] (.bool (l.all f)) := by
  refine Ev.fn Tryz.func87 rfl rfl (Fn.body tabOk Tryz.func87 rfl (Nat.le_of_ble_eq_true rfl) (Ks.ok (fz := (fzn [])) (cl := (cln [])) tabOk mixed ?_))
  generalize hQ : FnPost tt Tryz.f87 _ _ = Q
  simp only [Tryz.f87, List.nil_append, List.append_nil, argsEnv, Nat.reduceAdd]
  simp only [gos, eq_self, Nat.reduceLT, Nat.reduceEqDiff, reduceCtorEq, reduceIte, ↓reduceIte, vgo, vout, vguard, callOf, vop, ev, cv, newRow]
  refine Cl.pu (c_ContainsFunc_Bt (.fn 131 [] [.rop [.fn pf pa pc]]) (fun x => !f x) l hl (by simp only [V.into, intoL, Bool.and_true, hp, ha]) fun x hx => c_all1_Bt (.fn pf pa pc) f x (by simp only [V.into, Bool.and_true, hp, ha]) (hf x hx)) ?_ rfl (by simp only [V.into, intoL, vR_into, Bool.and_true, hp, ha])
  simp only [gos, eq_self, Nat.reduceLT, reduceIte, ↓reduceIte, vgo, vout, vguard, callOf, vop, ev]
  subst hQ
  exact FnPost.plain trivial (fun h2 e => by first | rfl | (simp only [Tryz.f87, vres, vresL, vres1, e _, gos, if_true, if_false, ne_eq, eq_self, Nat.reduceLT, Nat.reduceEqDiff, Nat.reduceAdd, Nat.reduceMul, Nat.reduceLeDiff, Nat.reduceBEq, reduceCtorEq, reduceIte, Array.toList, ↓reduceIte, tt, vgo, vout, vgoD, voutD, vclsOk, vids, mayWrite, V.ids, V.mids, vguard, callOf, vop, ev, cv, vbin, vint, isShift, isNilConst, vnil, isNilSlice, vload, vlen, newRow, vfill, vslice, entOf, vappend, srcOf, vcopy, vlookup, vupdate, mapOk, keyOf, intsOf, clsAt]; try rfl)) (WkV.pure (by simp only [V.into])) ⟨by rw [List.all_eq_not_any_not], rfl⟩
end Go.Vm

set_option linter.unusedVariables false
set_option linter.unusedSimpArgs false
set_option maxRecDepth 100000
namespace Go.Vm
open Go.Proofs
theorem c_CheckRoom (r : Rm) (hr : r.wf) : Pu Tryz.prog (.fn 28 [] []) [.agg r.cs] (vi (sCheckR r)) := by
  refine Ev.fn Tryz.func28 rfl rfl (Fn.body tabOk Tryz.func28 rfl (Nat.le_of_ble_eq_true rfl) (Ks.ok (fz := (fzn [])) (cl := (cln [])) tabOk mixed ?_))
  generalize hQ : FnPost tt Tryz.f28 _ _ = Q
  simp only [Tryz.f28, List.nil_append, List.append_nil, argsEnv]
  simp only [gos, eq_self, Nat.reduceLT, Nat.reduceEqDiff, Nat.reduceLeDiff, reduceCtorEq, reduceIte, ↓reduceIte, tt, vgo, vout, vguard, callOf, vop, ev, cv, vload, newRow, rms]
  refine Cl.pu (c_Bounds r.cu hr.cu) ?_ rfl (by simp only [V.into, intoL, cu_into, Bool.and_true])
  have e0 : (sBoundsA r.cu).2.2 = sAsked r.cu true := by
    rw [sBoundsA]; split
    · rename_i h; exact h.symm
    · rfl
  rw [e0]
  by_cases h0 : sAsked r.cu true = 0
  case neg =>
    have hb : (sAsked r.cu true != 0) = true := by simp [h0]
    simp only [gos, eq_self, Nat.reduceLT, Nat.reduceEqDiff, reduceIte, ↓reduceIte, vgo, vout, vguard, callOf, vop, ev, cv, vbin, vint, isShift, isNilConst, hb]
    subst hQ
    exact FnPost.plain trivial (fun h2 e => by first | rfl | (simp only [Tryz.f28, vres, vresL, vres1, e _, gos, if_true, if_false, ne_eq, eq_self, Nat.reduceLT, Nat.reduceEqDiff, Nat.reduceAdd, Nat.reduceMul, Nat.reduceLeDiff, Nat.reduceBEq, reduceCtorEq, reduceIte, Array.toList, ↓reduceIte, tt, vgo, vout, vgoD, voutD, vclsOk, vids, mayWrite, V.ids, V.mids, vguard, callOf, vop, ev, cv, vbin, vint, isShift, isNilConst, vnil, isNilSlice, vload, vlen, newRow, vfill, vslice, entOf, vappend, srcOf, vcopy, vlookup, vupdate, mapOk, keyOf, intsOf, clsAt]; try rfl)) (WkV.pure (by simp only [V.into])) ⟨by rw [sCheckR, if_pos h0], rfl⟩
  have hb : (sAsked r.cu true != 0) = false := by simp [h0]
  simp only [gos, eq_self, Nat.reduceLT, Nat.reduceEqDiff, reduceCtorEq, reduceIte, ↓reduceIte, tt, vgo, vout, vguard, callOf, vop, ev, cv, vbin, vint, isShift, isNilConst, vload, rms, hb]
  by_cases h1 : 5 < r.pl
  · simp only [gos, eq_self, Nat.reduceLT, Nat.reduceEqDiff, reduceIte, ↓reduceIte, vgo, vout, vguard, callOf, vop, ev, cv, h1]
    subst hQ
    exact FnPost.plain trivial (fun h2 e => by first | rfl | (simp only [Tryz.f28, vres, vresL, vres1, e _, gos, if_true, if_false, ne_eq, eq_self, Nat.reduceLT, Nat.reduceEqDiff, Nat.reduceAdd, Nat.reduceMul, Nat.reduceLeDiff, Nat.reduceBEq, reduceCtorEq, reduceIte, Array.toList, ↓reduceIte, tt, vgo, vout, vgoD, voutD, vclsOk, vids, mayWrite, V.ids, V.mids, vguard, callOf, vop, ev, cv, vbin, vint, isShift, isNilConst, vnil, isNilSlice, vload, vlen, newRow, vfill, vslice, entOf, vappend, srcOf, vcopy, vlookup, vupdate, mapOk, keyOf, intsOf, clsAt]; try rfl)) (WkV.pure (by simp only [V.into])) ⟨by rw [sCheckR, if_neg (by simp [h0]), if_pos (.inl h1)], rfl⟩
  by_cases h2 : 5 < (r.ba.length : Int)
  · simp only [gos, eq_self, Nat.reduceLT, Nat.reduceEqDiff, reduceCtorEq, reduceIte, ↓reduceIte, tt, vgo, vout, vguard, callOf, vop, ev, cv, vbin, vint, isShift, isNilConst, vload, vlen, rms, h1, h2, vR]
    subst hQ
    exact FnPost.plain trivial (fun h2 e => by first | rfl | (simp only [Tryz.f28, vres, vresL, vres1, e _, gos, if_true, if_false, ne_eq, eq_self, Nat.reduceLT, Nat.reduceEqDiff, Nat.reduceAdd, Nat.reduceMul, Nat.reduceLeDiff, Nat.reduceBEq, reduceCtorEq, reduceIte, Array.toList, ↓reduceIte, tt, vgo, vout, vgoD, voutD, vclsOk, vids, mayWrite, V.ids, V.mids, vguard, callOf, vop, ev, cv, vbin, vint, isShift, isNilConst, vnil, isNilSlice, vload, vlen, newRow, vfill, vslice, entOf, vappend, srcOf, vcopy, vlookup, vupdate, mapOk, keyOf, intsOf, clsAt]; try rfl)) (WkV.pure (by simp only [V.into])) ⟨by rw [sCheckR, if_neg (by simp [h0]), if_pos (.inr h2)], rfl⟩
  simp only [gos, eq_self, Nat.reduceLT, Nat.reduceEqDiff, reduceCtorEq, reduceIte, ↓reduceIte, tt, vgo, vout, vguard, callOf, vop, ev, cv, vbin, vint, isShift, isNilConst, vload, vlen, rms, h1, h2, vR]
  by_cases h3 : r.pl < 0
  · simp only [gos, eq_self, Nat.reduceLT, Nat.reduceEqDiff, reduceIte, ↓reduceIte, vgo, vout, vguard, callOf, vop, ev, cv, h3]
    subst hQ
    exact FnPost.plain trivial (fun h2 e => by first | rfl | (simp only [Tryz.f28, vres, vresL, vres1, e _, gos, if_true, if_false, ne_eq, eq_self, Nat.reduceLT, Nat.reduceEqDiff, Nat.reduceAdd, Nat.reduceMul, Nat.reduceLeDiff, Nat.reduceBEq, reduceCtorEq, reduceIte, Array.toList, ↓reduceIte, tt, vgo, vout, vgoD, voutD, vclsOk, vids, mayWrite, V.ids, V.mids, vguard, callOf, vop, ev, cv, vbin, vint, isShift, isNilConst, vnil, isNilSlice, vload, vlen, newRow, vfill, vslice, entOf, vappend, srcOf, vcopy, vlookup, vupdate, mapOk, keyOf, intsOf, clsAt]; try rfl)) (WkV.pure (by simp only [V.into])) ⟨by rw [sCheckR, if_neg (by simp [h0]), if_neg (by omega), if_pos (by simp [h3])], rfl⟩
  simp only [gos, eq_self, Nat.reduceLT, Nat.reduceEqDiff, reduceCtorEq, reduceIte, ↓reduceIte, tt, vgo, vout, vguard, callOf, vop, ev, cv, vload, rms, h3]
  refine Cl.pu (c_bwithin _ _ _) ?_
  cases h4 : sIn r.bu 1 9
  · simp only [gos, eq_self, Nat.reduceLT, Nat.reduceEqDiff, reduceIte, ↓reduceIte, vgo, vout, vguard, callOf, vop, ev, cv]
    subst hQ
    exact FnPost.plain trivial (fun h2 e => by first | rfl | (simp only [Tryz.f28, vres, vresL, vres1, e _, gos, if_true, if_false, ne_eq, eq_self, Nat.reduceLT, Nat.reduceEqDiff, Nat.reduceAdd, Nat.reduceMul, Nat.reduceLeDiff, Nat.reduceBEq, reduceCtorEq, reduceIte, Array.toList, ↓reduceIte, tt, vgo, vout, vgoD, voutD, vclsOk, vids, mayWrite, V.ids, V.mids, vguard, callOf, vop, ev, cv, vbin, vint, isShift, isNilConst, vnil, isNilSlice, vload, vlen, newRow, vfill, vslice, entOf, vappend, srcOf, vcopy, vlookup, vupdate, mapOk, keyOf, intsOf, clsAt]; try rfl)) (WkV.pure (by simp only [V.into])) ⟨by rw [sCheckR, if_neg (by simp [h0]), if_neg (by omega), if_pos (by simp [h4])], rfl⟩
  simp only [gos, eq_self, Nat.reduceLT, Nat.reduceEqDiff, reduceCtorEq, reduceIte, ↓reduceIte, tt, vgo, vout, vguard, callOf, vop, ev, vload, rms]
  refine Cl.pu (c_all_Bt _ [.agg r.cs] [] (sValid r) r.ba hr.ba (by simp only [V.into, intoL, Bool.and_true, rm_into]) rfl fun x _ => c_valid1 r x) ?_ rfl (by simp only [V.into, intoL, vR_into, Bool.and_true, rm_into])
  cases h5 : r.ba.all (sValid r)
  · simp only [gos, eq_self, Nat.reduceLT, Nat.reduceEqDiff, reduceIte, ↓reduceIte, vgo, vout, vguard, callOf, vop, ev, cv]
    subst hQ
    exact FnPost.plain trivial (fun h2 e => by first | rfl | (simp only [Tryz.f28, vres, vresL, vres1, e _, gos, if_true, if_false, ne_eq, eq_self, Nat.reduceLT, Nat.reduceEqDiff, Nat.reduceAdd, Nat.reduceMul, Nat.reduceLeDiff, Nat.reduceBEq, reduceCtorEq, reduceIte, Array.toList, ↓reduceIte, tt, vgo, vout, vgoD, voutD, vclsOk, vids, mayWrite, V.ids, V.mids, vguard, callOf, vop, ev, cv, vbin, vint, isShift, isNilConst, vnil, isNilSlice, vload, vlen, newRow, vfill, vslice, entOf, vappend, srcOf, vcopy, vlookup, vupdate, mapOk, keyOf, intsOf, clsAt]; try rfl)) (WkV.pure (by simp only [V.into])) ⟨by rw [sCheckR, if_neg (by simp [h0]), if_neg (by omega), if_pos (by simp [h5])], rfl⟩
  simp only [gos, eq_self, Nat.reduceLT, Nat.reduceEqDiff, reduceIte, ↓reduceIte, vgo, vout, vguard, callOf, vop, ev, cv]
  subst hQ
  exact FnPost.plain trivial (fun h2 e => by first | rfl | (simp only [Tryz.f28, vres, vresL, vres1, e _, gos, if_true, if_false, ne_eq, eq_self, Nat.reduceLT, Nat.reduceEqDiff, Nat.reduceAdd, Nat.reduceMul, Nat.reduceLeDiff, Nat.reduceBEq, reduceCtorEq, reduceIte, Array.toList, ↓reduceIte, tt, vgo, vout, vgoD, voutD, vclsOk, vids, mayWrite, V.ids, V.mids, vguard, callOf, vop, ev, cv, vbin, vint, isShift, isNilConst, vnil, isNilSlice, vload, vlen, newRow, vfill, vslice, entOf, vappend, srcOf, vcopy, vlookup, vupdate, mapOk, keyOf, intsOf, clsAt]; try rfl)) (WkV.pure (by simp only [V.into])) ⟨by rw [sCheckR, if_neg (by simp [h0]), if_neg (by omega), if_neg (by simp [h3, h4, h5])], rfl⟩
def bw (r : Rm) (m : V) : List V := [vi r.cu.last, vi r.cu.start, vi r.cu.most, vi r.cu.per, vi r.cu.shovels, vI r.cu.coal, vI r.cu.want, vi r.cu.heat.lo, vi r.cu.heat.hi, vR r.cu.loss, vD r.cu.readings, vi r.bu, vi r.pl, vR r.ba, m]
theorem bw_len {r : Rm} {m : V} : (bw r m).length = 15 := rfl
theorem bw_take {r : Rm} {m : V} : (bw r m).take 14 = r.cs := rfl
theorem bw_t11 {r : Rm} {m : V} : (bw r m).take 11 = r.cu.cs := rfl
theorem bw_h13 {r : Rm} {m : V} : ((bw r m).drop 13).head? = some (vR r.ba) := rfl
theorem bw_h14 {r : Rm} {m : V} : ((bw r m).drop 14).head? = some m := rfl
theorem bw_into (p : Nat → Bool) (r : Rm) (m : V) (h : m.into p = true) : intoL p (bw r m) = true := by simp only [bw, V.into, intoL, vI_into, vR_into, vD_into, Bool.and_true, h]
theorem bws : type_of% (And.intro @bw_len (And.intro @bw_take (And.intro @bw_t11 (And.intro @bw_h13 @bw_h14)))) := And.intro @bw_len (And.intro @bw_take (And.intro @bw_t11 (And.intro @bw_h13 @bw_h14)))
/-- A room at work, or the error. -/
def BaskPost (r : Rm) (e : Int) (v : V) (h' : Heap) : Prop := (e ≠ 0 ∧ v = .tup [.nilp, vi e] ∧ h' = []) ∨ (e = 0 ∧ v = .tup [.rop (bw r (.mp 11)), vi 0] ∧ h' = [(11, ⟨0, .map []⟩)])
theorem c_basked (r : Rm) (hr : r.wf) : Ev Tryz.prog (.fn 88 [] []) [.agg r.cs] [] (BaskPost r (sCheckR r)) := by
  refine Ev.fn Tryz.func88 rfl rfl (Fn.body tabOk Tryz.func88 rfl (Nat.le_of_ble_eq_true rfl) (Ks.ok (fz := (fzn [])) (cl := (cln [])) tabOk mixed ?_))
  generalize hQ : FnPost tt Tryz.f88 _ _ = Q
  simp only [Tryz.f88, List.nil_append, List.append_nil, argsEnv]
  simp only [gos, eq_self, Nat.reduceLT, Nat.reduceEqDiff, reduceCtorEq, reduceIte, ↓reduceIte, tt, vgo, vout, vguard, callOf, vop, ev, cv, vload, newRow, rms]
  refine Cl.pu (c_CheckRoom r hr) ?_ rfl (by simp only [V.into, intoL, Bool.and_true, rm_into])
  by_cases h0 : sCheckR r = 0
  case neg =>
    have hb : (sCheckR r != 0) = true := by simp [h0]
    simp only [gos, eq_self, Nat.reduceLT, Nat.reduceEqDiff, reduceIte, ↓reduceIte, vgo, vout, vguard, callOf, vop, ev, cv, vbin, vint, isShift, isNilConst, hb]
    subst hQ
    exact FnPost.plain trivial (v := .tup [.nilp, vi (sCheckR r)]) (fun h2 e => by rfl) WkV.refl (.inl ⟨h0, rfl, rfl⟩)
  have hb : (sCheckR r != 0) = false := by simp [h0]
  simp only [gos, eq_self, Nat.reduceLT, Nat.reduceEqDiff, Nat.reduceAdd, Nat.reduceLeDiff, reduceCtorEq, reduceIte, ↓reduceIte, tt, vgo, vout, vguard, callOf, vop, ev, cv, vbin, vint, isShift, isNilConst, vload, newRow, vfill, hb, Rm.cs]
  subst hQ
  exact FnPost.plain trivial (v := .tup [.rop (bw r (.mp 11)), vi 0]) (fun h2 e => by rfl) WkV.refl (.inr ⟨h0, rfl, rfl⟩)
theorem c_hours (r : Rm) (h0 : I64 (r.cu.last + 1)) : Pu Tryz.prog (.fn 102 [] []) [.agg r.cs] (vi (r.cu.last + 1)) := by
  refine Ev.fn Tryz.func102 rfl rfl (Fn.body tabOk Tryz.func102 rfl (Nat.le_of_ble_eq_true rfl) (Ks.ok (fz := (fzn [])) (cl := (cln [])) tabOk mixed ?_))
  generalize hQ : FnPost tt Tryz.f102 _ _ = Q
  simp only [Tryz.f102, List.nil_append, List.append_nil, argsEnv]
  simp only [gos, eq_self, Nat.reduceLT, Nat.reduceEqDiff, reduceCtorEq, reduceIte, ↓reduceIte, tt, vgo, vout, vguard, callOf, vop, ev, cv, vbin, vint, isShift, isNilConst, vload, newRow, rms, i64_in h0.1 h0.2]
  subst hQ
  exact FnPost.plain trivial (fun h2 e => by first | rfl | (simp only [Tryz.f102, vres, vresL, vres1, e _, gos, if_true, if_false, ne_eq, eq_self, Nat.reduceLT, Nat.reduceEqDiff, Nat.reduceAdd, Nat.reduceMul, Nat.reduceLeDiff, Nat.reduceBEq, reduceCtorEq, reduceIte, Array.toList, ↓reduceIte, tt, vgo, vout, vgoD, voutD, vclsOk, vids, mayWrite, V.ids, V.mids, vguard, callOf, vop, ev, cv, vbin, vint, isShift, isNilConst, vnil, isNilSlice, vload, vlen, newRow, vfill, vslice, entOf, vappend, srcOf, vcopy, vlookup, vupdate, mapOk, keyOf, intsOf, clsAt]; try rfl)) (WkV.pure (by simp only [V.into])) ⟨rfl, rfl⟩
def nbI (r : Rm) (n : List Int) (i : Nat) : List Int := (List.range (r.cu.last + 1).toNat).map fun (j : Nat) => if j < i then r.bu * gi n j else 0
theorem nbI_len (r : Rm) (n : List Int) (i : Nat) : (nbI r n i).length = (r.cu.last + 1).toNat := by simp [nbI]
theorem nbI_zero (r : Rm) (n : List Int) : nbI r n 0 = List.replicate (r.cu.last + 1).toNat 0 := by
  rw [nbI]; simp [List.map_const']
theorem nbI_gi (r : Rm) (n : List Int) (i : Nat) {j : Nat} (hj : j < (r.cu.last + 1).toNat) : gi (nbI r n i) j = if j < i then r.bu * gi n j else 0 := gi_map hj
theorem nbI_succ (r : Rm) (n : List Int) {i : Nat} (hi : i < (r.cu.last + 1).toNat) : (nbI r n i).set i (r.bu * gi n i) = nbI r n (i + 1) := by
  refine list_ext (by simp [nbI_len]) fun j hj => ?_
  rw [List.length_set, nbI_len] at hj
  rw [nbI_gi r n (i + 1) hj]
  by_cases e : j = i
  · subst e; rw [gi_set_self _ (by rw [nbI_len]; omega), if_pos (by omega)]
  · rw [gi_set_ne _ (fun h => e h.symm), nbI_gi r n i hj]
    by_cases h : j < i
    · rw [if_pos h, if_pos (by omega)]
    · rw [if_neg h, if_neg (by omega)]
theorem nbI_all (r : Rm) (n : List Int) {i : Nat} (hi : i = (r.cu.last + 1).toNat) : nbI r n i = nb r n := by
  subst hi
  rw [nbI, nb, nI]
  apply List.map_congr_left
  intro j hj
  rw [if_pos (List.mem_range.1 hj)]
theorem c_bbk0 (r : Rm) (hl : 0 ≤ r.cu.last ∧ r.cu.last ≤ 4) (n : List Int) (hn : n.length = 5) (hb : ∀ i : Nat, (i : Int) ≤ r.cu.last → I64 (r.bu * gi n i)) :
    Ev Tryz.prog (.fn 83 [] []) [.agg r.cs, .agg (cI n)] [] fun v h' => v = .own 9 0 0 1 (r.cu.last + 1).toNat ∧ h' = [(9, ⟨0, .row (cI (nb r n))⟩)] := by
  refine Ev.fn Tryz.func83 rfl rfl (Fn.body tabOk Tryz.func83 rfl (Nat.le_of_ble_eq_true rfl) (Ks.ok (fz := (fzn [9])) (cl := (cln [(5, .d (tgL [(9, 1)]) [cP, cP, cP, cP, cP, cP, cP, cP, some ([1], []), some ([1], [1])])])) tabOk mixed ?_))
  generalize hQ : FnPost tt Tryz.f83 _ _ = Q
  simp only [Tryz.f83, List.nil_append, List.append_nil, argsEnv, Nat.reduceAdd]
  have hn5 : (cI n).length = 5 := by rw [cI_len, hn]
  have ht5 : List.take 5 (cI n) = cI n := List.take_of_length_le (by omega)
  have hone := cI_one n
  have hge : 0 ≤ r.cu.last + 1 := by omega
  have hle : r.cu.last + 1 ≤ 1000000 := by omega
  simp only [gos, eq_self, Nat.reduceLT, Nat.reduceEqDiff, reduceCtorEq, reduceIte, ↓reduceIte, tt, vgo, vout, vguard, callOf, vop, ev, cv, vload, newRow, rms]
  refine Cl.pu (c_hours r ⟨by omega, by omega⟩) ?_ rfl (by simp only [V.into, intoL, Bool.and_true, rm_into])
  simp only [gos, eq_self, Nat.reduceLT, Nat.reduceEqDiff, Nat.reduceLeDiff, reduceIte, ↓reduceIte, tt, vgo, vout, vguard, callOf, vop, ev, cv, vlen, hge, hle]
  refine W.loop tabOk mixed (fun i : Nat => ([(2, .rop r.cs), (3, .rop (cI n)), (5, .own 9 0 0 1 (r.cu.last + 1).toNat), (11, vi (r.cu.last + 1).toNat), (12, vi i)], [(9, ⟨0, .row (cI (nbI r n i))⟩)])) (fun i => (r.cu.last + 1).toNat - i) (fun i => i ≤ (r.cu.last + 1).toNat) 0 (by omega) (Wk.heap (fun j => ?_) (by simp [subE, Env.get])) ?_
  · rw [nbI_zero, ← zeros_vi]
  intro i hi
  by_cases hil : (i : Int) < ((r.cu.last + 1).toNat : Int)
  · have hi5 : (i : Int) < ((5 : Nat) : Int) := by omega
    have hiL : (i : Int) < n.length := by omega
    have hat := cI_at (Int.natCast_nonneg i) hiL
    rw [Int.toNat_natCast, Nat.mul_one] at hat
    have hI := hb i (by omega)
    have hc : i + 1 ≤ (cI (nbI r n i)).length := by rw [cI_len, nbI_len]; omega
    have hst : List.take i (cI (nbI r n i)) ++ [V.int IntKind.i64 (r.bu * gi n i)] ++ List.drop (i + 1) (cI (nbI r n i)) = cI (nbI r n (i + 1)) := by
      rw [← nbI_succ r n (by omega)]; exact cI_set _ (by rw [nbI_len]; omega)
    simp only [gos, eq_self, Nat.reduceLT, Nat.reduceEqDiff, reduceIte, ↓reduceIte, vgo, vout, vguard, callOf, vop, ev, vbin, vint, isShift, isNilConst, hil]
    refine Wr.draw (by kernel_rfl) ?_
    simp only [gos, eq_self, Nat.reduceLT, Nat.reduceEqDiff, Nat.reduceAdd, reduceCtorEq, reduceIte, ↓reduceIte, tt, vgo, vout, vgoD, voutD, vclsOk, vids, mayWrite, V.ids, vguard, callOf, vop, ev, cv, vbin, vint, isShift, isNilConst, vload, clsAt, rms, hil, hi5, Int.natCast_nonneg, Int.toNat_natCast, Nat.mul_one, Nat.zero_add, hat, i64_in hI.1 hI.2, hc, hst]
    exact Nx.mk (i + 1) (show (r.cu.last + 1).toNat - (i + 1) < (r.cu.last + 1).toNat - i by omega) (by omega) (Wk.env (by simp [subE, Env.get, i64_succ (show (i : Int) < 9223372036854775807 by omega)]))
  · have hie : i = (r.cu.last + 1).toNat := by omega
    simp only [gos, eq_self, Nat.reduceLT, Nat.reduceEqDiff, reduceIte, ↓reduceIte, vgo, vout, vguard, callOf, vop, ev, vbin, vint, isShift, isNilConst, hil]
    rw [nbI_all r n hie]
    subst hQ
    exact FnPost.plain trivial (v := .own 9 0 0 1 (r.cu.last + 1).toNat) (fun h2 e => by rfl) WkV.refl ⟨rfl, rfl⟩
theorem nb_len' {r : Rm} (n : List Int) : (nb r n).length = (r.cu.last + 1).toNat := by simp [nb, nI]
theorem c_bbk (r : Rm) (hl : 0 ≤ r.cu.last ∧ r.cu.last ≤ 4) (n : List Int) (hn : n.length = 5) (hb : ∀ i : Nat, (i : Int) ≤ r.cu.last → I64 (r.bu * gi n i)) :
    Pu Tryz.prog (.fn 83 [] []) [.agg r.cs, .agg (cI n)] (vI (nb r n)) :=
  (c_bbk0 r hl n hn hb).weakV fun v h' ⟨e1, e2⟩ => by
    subst e1; subst e2
    have ht : List.take ((r.cu.last + 1).toNat * 1) (cI (nb r n)) = cI (nb r n) := List.take_of_length_le (by rw [cI_len, nb_len']; omega)
    refine ⟨vI (nb r n), [], WkV.frz 9 (v' := vI (nb r n)) (h' := []) (ver := 0) (cs := cI (nb r n)) rfl rfl (cI_into _ _) rfl ?_ ?_ WkV.refl, rfl, rfl⟩
    · simp only [V.frz, if_true, List.drop_zero, ht, vI, nb_len']
    · simp [frzH]
theorem n_bbk (r : Rm) (hl : 0 ≤ r.cu.last ∧ r.cu.last ≤ 4) (n : List Int) (hn : n.length = 5) (hb : ∀ i : Nat, (i : Int) ≤ r.cu.last → I64 (r.bu * gi n i)) :
    NewB Tryz.prog (.fn 83 [] []) [.agg r.cs, .agg (cI n)] (.own 9 0 0 1 (r.cu.last + 1).toNat) 9 ⟨0, .row (cI (nb r n))⟩ := NewB.of (c_bbk0 r hl n hn hb) rfl (by simp only [V.into, intoL, cI_into, Bool.and_true, rm_into])
end Go.Vm

set_option linter.unusedVariables false
set_option linter.unusedSimpArgs false
set_option maxRecDepth 100000
namespace Go.Vm
open Go.Proofs
structure NOk (n : List Int) : Prop where
  len : n.length = 5
  le : ∀ i : Nat, 0 ≤ gi n i ∧ gi n i ≤ 1000
theorem spot_eq (h b : Int) : decide ([h, b] = [h, (0 : Int)]) = decide (b = 0) := by
  by_cases e : b = 0 <;> simp [e]
theorem mul_in {a b : Int} (h1 : 0 ≤ a ∧ a ≤ 1000000) (h2 : 0 ≤ b ∧ b ≤ 1000000) : 0 ≤ a * b ∧ a * b ≤ 1000000000000 := by
  have := Int.mul_nonneg h1.1 h2.1
  have : a * b ≤ 1000000 * 1000000 := Int.mul_le_mul h1.2 h2.2 h2.1 (by omega)
  omega
theorem c_room (r : Rm) (k : RmOk r) (h : Nat) (hh : (h : Int) ≤ r.cu.last) (b : Int) (hb : 0 ≤ b ∧ b ≤ 1000) : Pu Tryz.prog (.fn 160 [] []) [.agg r.cs, .agg [vi h, vi b]] (.bool (sRoom r h b)) := by
  refine Ev.fn Tryz.func160 rfl rfl (Fn.body tabOk Tryz.func160 rfl (Nat.le_of_ble_eq_true rfl) (Ks.ok (fz := (fzn [])) (cl := (cln [(3, .d tg0 [cP, cP, cP, cP, cP, cP, cP, cP, cP, cP, cP, cP, cP, cP, cP, cP, cP, cP, cP, cP, cP, cP])])) tabOk mixed ?_))
  generalize hQ : FnPost tt Tryz.f160 _ _ = Q
  simp only [Tryz.f160, List.nil_append, List.append_nil, argsEnv, Nat.reduceAdd]
  have hw := k.A.k0.want
  have hl := k.A.k0.last
  have hhw : (h : Int) < r.cu.want.length := by omega
  have hbu := k.bu
  have hm := mul_in (a := r.bu) (b := b) (by omega) (by omega)
  have hwi := hw.2 _ (gi_mem (show h < r.cu.want.length by omega))
  have w1 := i64_in (show -9223372036854775808 ≤ r.bu * b by omega) (show r.bu * b ≤ 9223372036854775807 by omega)
  have w2 := i64_in (show -9223372036854775808 ≤ gi r.cu.want h + r.bu * b by omega) (show gi r.cu.want h + r.bu * b ≤ 9223372036854775807 by omega)
  have hse := spot_eq h b
  by_cases h0 : b = 0
  · have hd : decide (b = 0) = true := by simp [h0]
    rw [hd] at hse
    simp only [gos, ne_eq, eq_self, Nat.reduceLT, Nat.reduceEqDiff, Nat.reduceAdd, Nat.reduceLeDiff, reduceCtorEq, reduceIte, ↓reduceIte, tt, vgo, vout, vguard, callOf, vop, ev, cv, vbin, isNilConst, vload, newRow, vfill, intsOf, hse]
    subst hQ
    exact FnPost.plain trivial (fun h2 e => by first | rfl | (simp only [Tryz.f160, vres, vresL, vres1, e _, gos, if_true, if_false, ne_eq, eq_self, Nat.reduceLT, Nat.reduceEqDiff, Nat.reduceAdd, Nat.reduceMul, Nat.reduceLeDiff, Nat.reduceBEq, reduceCtorEq, reduceIte, Array.toList, ↓reduceIte, tt, vgo, vout, vgoD, voutD, vclsOk, vids, mayWrite, V.ids, V.mids, vguard, callOf, vop, ev, cv, vbin, vint, isShift, isNilConst, vnil, isNilSlice, vload, vlen, newRow, vfill, vslice, entOf, vappend, srcOf, vcopy, vlookup, vupdate, mapOk, keyOf, intsOf, clsAt]; try rfl)) (WkV.pure (by simp only [V.into])) ⟨by simp [sRoom, h0], rfl⟩
  have hd : decide (b = 0) = false := by simp [h0]
  rw [hd] at hse
  simp only [gos, ne_eq, eq_self, Nat.reduceLT, Nat.reduceEqDiff, Nat.reduceAdd, Nat.reduceLeDiff, reduceCtorEq, reduceIte, ↓reduceIte, tt, vgo, vout, vguard, callOf, vop, ev, cv, vbin, isNilConst, vload, newRow, vfill, intsOf, hse]
  refine Wr.draw (by kernel_rfl) ?_
  by_cases h1 : b ≤ r.pl
  · simp only [gos, eq_self, Nat.reduceLT, Nat.reduceEqDiff, Nat.reduceAdd, reduceCtorEq, reduceIte, ↓reduceIte, tt, vgoD, voutD, vclsOk, vids, mayWrite, V.ids, vguard, callOf, vop, ev, cv, vbin, vint, isShift, isNilConst, vload, clsAt, rms, h1, vI, hhw, Int.natCast_nonneg, cI_at (Int.natCast_nonneg h) hhw, w1, w2]
    subst hQ
    exact FnPost.plain trivial (fun h2 e => by first | rfl | (simp only [Tryz.f160, vres, vresL, vres1, e _, gos, if_true, if_false, ne_eq, eq_self, Nat.reduceLT, Nat.reduceEqDiff, Nat.reduceAdd, Nat.reduceMul, Nat.reduceLeDiff, Nat.reduceBEq, reduceCtorEq, reduceIte, Array.toList, ↓reduceIte, tt, vgo, vout, vgoD, voutD, vclsOk, vids, mayWrite, V.ids, V.mids, vguard, callOf, vop, ev, cv, vbin, vint, isShift, isNilConst, vnil, isNilSlice, vload, vlen, newRow, vfill, vslice, entOf, vappend, srcOf, vcopy, vlookup, vupdate, mapOk, keyOf, intsOf, clsAt]; try rfl)) (WkV.pure (by simp only [V.into])) ⟨by simp [sRoom, h0, h1], rfl⟩
  · simp only [gos, eq_self, Nat.reduceLT, Nat.reduceEqDiff, Nat.reduceAdd, reduceCtorEq, reduceIte, ↓reduceIte, tt, vgoD, voutD, vclsOk, vids, mayWrite, V.ids, vguard, callOf, vop, ev, cv, vbin, vint, isShift, isNilConst, vload, clsAt, rms, h1]
    subst hQ
    exact FnPost.plain trivial (fun h2 e => by first | rfl | (simp only [Tryz.f160, vres, vresL, vres1, e _, gos, if_true, if_false, ne_eq, eq_self, Nat.reduceLT, Nat.reduceEqDiff, Nat.reduceAdd, Nat.reduceMul, Nat.reduceLeDiff, Nat.reduceBEq, reduceCtorEq, reduceIte, Array.toList, ↓reduceIte, tt, vgo, vout, vgoD, voutD, vclsOk, vids, mayWrite, V.ids, V.mids, vguard, callOf, vop, ev, cv, vbin, vint, isShift, isNilConst, vnil, isNilSlice, vload, vlen, newRow, vfill, vslice, entOf, vappend, srcOf, vcopy, vlookup, vupdate, mapOk, keyOf, intsOf, clsAt]; try rfl)) (WkV.pure (by simp only [V.into])) ⟨by simp [sRoom, h0, h1], rfl⟩
theorem c_bposs (r : Rm) (k : RmOk r) (n : List Int) (hn : NOk n) : Pu Tryz.prog (.fn 126 [] []) [.agg r.cs, .agg (cI n)] (.bool (sPossN r n)) := by
  refine Ev.fn Tryz.func126 rfl rfl (Fn.body tabOk Tryz.func126 rfl (Nat.le_of_ble_eq_true rfl) (Ks.ok (fz := (fzn [])) (cl := (cln [(4, .d tg0 [cP, cP, cP, cP, cP, cP, cP, cP])])) tabOk mixed ?_))
  generalize hQ : FnPost tt Tryz.f126 _ _ = Q
  simp only [Tryz.f126, List.nil_append, List.append_nil, argsEnv, Nat.reduceAdd]
  have hl := k.A.k0.last
  have hn5 : (cI n).length = 5 := by rw [cI_len, hn.len]
  have ht5 : List.take 5 (cI n) = cI n := List.take_of_length_le (by omega)
  have hone := cI_one n
  simp only [gos, eq_self, Nat.reduceLT, Nat.reduceEqDiff, reduceCtorEq, reduceIte, ↓reduceIte, tt, vgo, vout, vguard, callOf, vop, ev, cv, vload, newRow, rms]
  refine Cl.pu (c_hours r ⟨by omega, by omega⟩) ?_ rfl (by simp only [V.into, intoL, Bool.and_true, rm_into])
  simp only [gos, eq_self, Nat.reduceLT, reduceIte, ↓reduceIte, vgo, vout, vguard, callOf, vop, ev, cv]
  refine W.loop tabOk mixed (fun i : Nat => ([(2, .rop r.cs), (3, .rop (cI n)), (7, vi (r.cu.last + 1)), (8, vi i)], [])) (fun i => (r.cu.last + 1).toNat - i) (fun i => (i : Int) ≤ r.cu.last + 1 ∧ ∀ j, j < i → sRoom r j (gi n j) = true) 0 ⟨by omega, fun j hj => by omega⟩ (Wk.env (by simp [subE, Env.get])) ?_
  rintro i ⟨hi, hall⟩
  by_cases hil : (i : Int) < r.cu.last + 1
  · have hi5 : (i : Int) < ((5 : Nat) : Int) := by omega
    have hiL : (i : Int) < n.length := by rw [hn.len]; omega
    have hat := cI_at (Int.natCast_nonneg i) hiL
    rw [Int.toNat_natCast, Nat.mul_one] at hat
    simp only [gos, eq_self, Nat.reduceLT, Nat.reduceEqDiff, reduceIte, ↓reduceIte, vgo, vout, vguard, callOf, vop, ev, vbin, vint, isShift, isNilConst, hil]
    refine Wr.draw (by kernel_rfl) ?_
    simp only [gos, eq_self, Nat.reduceLT, Nat.reduceEqDiff, Nat.reduceAdd, Nat.reduceLeDiff, reduceCtorEq, reduceIte, ↓reduceIte, tt, vgoD, voutD, vclsOk, vids, mayWrite, V.ids, vguard, callOf, vop, ev, vload, vfill, clsAt, rms, hi5, Int.natCast_nonneg, Int.toNat_natCast, Nat.mul_one, hat]
    refine CD.pu (c_room r k i (by omega) (gi n i) (hn.le i)) ?_ rfl (by simp only [V.into, intoL, Bool.and_true, rm_into])
    cases hr : sRoom r i (gi n i) with
    | false =>
      simp only [gos, eq_self, Nat.reduceLT, Nat.reduceEqDiff, reduceIte, ↓reduceIte, vgo, vout, vgoD, voutD, vclsOk, vids, mayWrite, vguard, callOf, vop, ev, cv]
      subst hQ
      exact FnPost.plain trivial (fun h2 e => by first | rfl | (simp only [Tryz.f126, vres, vresL, vres1, e _, gos, if_true, if_false, ne_eq, eq_self, Nat.reduceLT, Nat.reduceEqDiff, Nat.reduceAdd, Nat.reduceMul, Nat.reduceLeDiff, Nat.reduceBEq, reduceCtorEq, reduceIte, Array.toList, ↓reduceIte, tt, vgo, vout, vgoD, voutD, vclsOk, vids, mayWrite, V.ids, V.mids, vguard, callOf, vop, ev, cv, vbin, vint, isShift, isNilConst, vnil, isNilSlice, vload, vlen, newRow, vfill, vslice, entOf, vappend, srcOf, vcopy, vlookup, vupdate, mapOk, keyOf, intsOf, clsAt]; try rfl)) (WkV.pure (by simp only [V.into])) ⟨by rw [sPossN, range_all_false (i := i) (by omega) hr], rfl⟩
    | true =>
      simp only [gos, eq_self, Nat.reduceLT, Nat.reduceEqDiff, reduceIte, ↓reduceIte, vgo, vout, vgoD, voutD, vclsOk, vids, mayWrite, vguard, callOf, vop, ev, cv, vbin, vint, isShift, isNilConst]
      exact Nx.mk (i + 1) (show (r.cu.last + 1).toNat - (i + 1) < (r.cu.last + 1).toNat - i by omega) ⟨by omega, fun j hj => by
        by_cases e : j = i
        · subst e; exact hr
        · exact hall j (by omega)⟩ (Wk.env (by simp [subE, Env.get, i64_succ (show (i : Int) < 9223372036854775807 by omega)]))
  · simp only [gos, eq_self, Nat.reduceLT, Nat.reduceEqDiff, reduceIte, ↓reduceIte, vgo, vout, vguard, callOf, vop, ev, cv, vbin, vint, isShift, isNilConst, hil]
    subst hQ
    exact FnPost.plain trivial (fun h2 e => by first | rfl | (simp only [Tryz.f126, vres, vresL, vres1, e _, gos, if_true, if_false, ne_eq, eq_self, Nat.reduceLT, Nat.reduceEqDiff, Nat.reduceAdd, Nat.reduceMul, Nat.reduceLeDiff, Nat.reduceBEq, reduceCtorEq, reduceIte, Array.toList, ↓reduceIte, tt, vgo, vout, vgoD, voutD, vclsOk, vids, mayWrite, V.ids, V.mids, vguard, callOf, vop, ev, cv, vbin, vint, isShift, isNilConst, vnil, isNilSlice, vload, vlen, newRow, vfill, vslice, entOf, vappend, srcOf, vcopy, vlookup, vupdate, mapOk, keyOf, intsOf, clsAt]; try rfl)) (WkV.pure (by simp only [V.into])) ⟨by rw [sPossN, range_all_true fun j hj => hall j (by omega)], rfl⟩
/-! what was found of numbers -/
abbrev MemoI := List (List Int × Int)
def memoI : MemoI → List (V × V)
  | [] => []
  | (k, b) :: r => (.agg (cI k), vi b) :: memoI r
def kget (key : List Int) : MemoI → Option Int
  | [] => none
  | (k, b) :: r => if key = k then some b else kget key r
def BMemo (r : Rm) (m : MemoI) : Prop := ∀ x ∈ m, x.1.length = 5 ∧ x.2 = keV r x.1
theorem vfind_memoI {r : Rm} {key : List Int} : ∀ {m : MemoI}, BMemo r m → vfind 5 key (memoI m) = some ((kget key m).map vi)
  | [], _ => rfl
  | (k, b) :: l, h => by
    have h5 : k.length = 5 := (h (k, b) (by simp)).1
    simp only [memoI, vfind, intsOf_cI, h5, if_true, kget]
    split
    · rfl
    · exact vfind_memoI fun x hx => h x (by simp [hx])
theorem memoI_snoc : ∀ (m : MemoI) (k : List Int) (b : Int), memoI (m ++ [(k, b)]) = memoI m ++ [(.agg (cI k), vi b)]
  | [], k, b => rfl
  | (k', b') :: m, k, b => by simp only [List.cons_append, memoI, memoI_snoc m k b]
theorem memoI_into (p : Nat → Bool) : ∀ m : MemoI, intoPs p (memoI m) = true
  | [] => rfl
  | (k, b) :: m => by simp only [memoI, intoPs, V.into, cI_into, memoI_into p m, Bool.and_self]
theorem kget_mem {key : List Int} {b : Int} : ∀ {m : MemoI}, kget key m = some b → (key, b) ∈ m
  | [], h => by cases h
  | (k, c) :: m, h => by
    rw [kget] at h
    split at h
    · rename_i e; injection h with h; subst e; subst h; simp
    · exact List.mem_cons_of_mem _ (kget_mem h)
theorem BMemo.add {r : Rm} {m : MemoI} (M : BMemo r m) {n : List Int} (h : n.length = 5) : BMemo r (m ++ [(n, keV r n)]) := fun x hx => by
  rcases List.mem_append.1 hx with hx | hx
  · exact M x hx
  · rw [List.mem_singleton.1 hx]; exact ⟨h, rfl⟩
theorem BMemo.nil (r : Rm) : BMemo r [] := fun x hx => by cases hx
def keMM (r : Rm) (m : MemoI) (n : List Int) : MemoI := match kget n m with
  | some _ => m
  | none => m ++ [(n, keV r n)]
theorem BMemo.ke {r : Rm} {m : MemoI} (M : BMemo r m) {n : List Int} (h : n.length = 5) : BMemo r (keMM r m n) := by
  unfold keMM; split
  · exact M
  · exact M.add h
theorem n_bu {r : Rm} (k : RmOk r) {n : List Int} (hn : NOk n) (i : Nat) : I64 (r.bu * gi n i) := by
  have hb := k.bu
  have := hn.le i
  have := mul_in (a := r.bu) (b := gi n i) (by omega) (by omega)
  exact ⟨by omega, by omega⟩
set_option maxHeartbeats 1000000 in
theorem c_bkeeps (r : Rm) (k : RmOk r) (m : MemoI) (M : BMemo r m) (mi : Nat) (h3 : mi ≠ 3) (n : List Int) (hn : NOk n) :
    Ev Tryz.prog (.fn 112 [] []) [.rop (bw r (.mp mi)), .agg (cI n)] [(mi, ⟨0, .map (memoI m)⟩)] fun v h' => v = vi (keV r n) ∧ h' = [(mi, ⟨0, .map (memoI (keMM r m n))⟩)] := by
  refine Ev.fn Tryz.func112 rfl rfl (Fn.body tabOk Tryz.func112 rfl (Nat.le_of_ble_eq_true rfl) (Ks.ok (fz := (fzn [])) (cl := (cln [(1, .d tg0 [cP, cP, cP, cP, cP, cL, cP, cP, cP, cP, cP]), (3, .d tg0 [cP, cP, cP, cP, cP, cP, cP, cP, cP, cP, cP, cP, cP, cP, cP, cP, cP]), (10, .d tg0 [cP, cP, cP, cP, cP, cP, cW])])) tabOk mixed ?_))
  generalize hQ : FnPost tt Tryz.f112 _ _ = Q
  simp only [Tryz.f112, List.nil_append, List.append_nil, argsEnv, Nat.reduceAdd]
  have hl := k.A.k0.last
  have h3' : ¬ 3 = mi := fun e => h3 e.symm
  have hn5 : (cI n).length = 5 := by rw [cI_len, hn.len]
  have ht5 : List.take 5 (cI n) = cI n := List.take_of_length_le (by omega)
  have hone := cI_one n
  simp only [gos, eq_self, Nat.reduceLT, reduceCtorEq, reduceIte, ↓reduceIte, vgo, vout, vguard, callOf, vop, ev, cv, newRow]
  refine Wr.draw (by kernel_rfl) ?_
  cases hg : kget n m with
  | some b =>
    simp only [gos, ne_eq, eq_self, Nat.reduceLT, Nat.reduceEqDiff, Nat.reduceAdd, reduceCtorEq, reduceIte, ↓reduceIte, tt, vgo, vout, vgoD, voutD, vclsOk, vids, mayWrite, V.ids, V.mids, vguard, callOf, vop, ev, vload, vlookup, mapOk, keyOf, clsAt, bws, hn5, ht5, intsOf_cI, vfind_memoI M, hg, hn.len]
    have hbv := (M _ (kget_mem hg)).2
    subst hQ
    refine FnPost.plain trivial (v := vi b) (fun h2 e => by rfl) WkV.refl ⟨by rw [← hbv], by rw [keMM, hg]⟩
  | none =>
    simp only [gos, ne_eq, eq_self, Nat.reduceLT, Nat.reduceEqDiff, Nat.reduceAdd, reduceCtorEq, reduceIte, ↓reduceIte, tt, vgo, vout, vgoD, voutD, vclsOk, vids, mayWrite, V.ids, V.mids, vguard, callOf, vop, ev, vload, vlookup, mapOk, keyOf, clsAt, bws, hn5, ht5, intsOf_cI, vfind_memoI M, hg, hn.len]
    refine Wr.draw (by kernel_rfl) ?_
    simp only [gos, eq_self, Nat.reduceLT, Nat.reduceEqDiff, Nat.reduceAdd, Nat.reduceLeDiff, reduceCtorEq, reduceIte, ↓reduceIte, tt, vgoD, voutD, vclsOk, vids, mayWrite, V.ids, vguard, callOf, vop, ev, vload, clsAt, bws, hn5, ht5]
    refine CD.pu (c_bbk r hl n hn.len fun i _ => n_bu k hn i) ?_ rfl (by simp only [V.into, intoL, cI_into, Bool.and_true, rm_into])
    simp only [gos, eq_self, Nat.reduceLT, Nat.reduceEqDiff, reduceIte, ↓reduceIte, vgoD, voutD, vguard, callOf, ev]
    refine CD.pu (c_More r.cu k.A.k0.wf (nb r n) (by rw [nb_len']; omega)) ?_ rfl (by simp only [V.into, intoL, vI_into, cu_into, Bool.and_true])
    simp only [gos, eq_self, Nat.reduceLT, Nat.reduceEqDiff, reduceIte, ↓reduceIte, vgo, vout, vgoD, voutD, vclsOk, vids, mayWrite, vguard, callOf, vop, ev, cv, vbin, vint, isShift, isNilConst]
    have hM2 := M.add hn.len
    have hend : ∀ b : Int, b = keV r n → memoI m ++ [(V.agg (cI n), vi b)] = memoI (m ++ [(n, keV r n)]) := fun b hb => by rw [memoI_snoc, hb]
    by_cases h1 : (sMoreA r.cu (nb r n)).1 = 1
    · have hd : decide ((sMoreA r.cu (nb r n)).1 = 1) = true := by simp [h1]
      have hk : (1 : Int) = keV r n := by rw [keV, keU, if_pos h1]
      simp only [gos, eq_self, Nat.reduceLT, Nat.reduceEqDiff, reduceIte, ↓reduceIte, vgo, vout, vguard, callOf, vop, ev, cv, hd]
      refine Wr.draw (by kernel_rfl) ?_
      simp only [gos, ne_eq, eq_self, Nat.reduceLT, Nat.reduceEqDiff, Nat.reduceAdd, reduceCtorEq, reduceIte, ↓reduceIte, tt, vgo, vout, vgoD, voutD, vclsOk, vids, mayWrite, V.ids, V.mids, vguard, callOf, vop, ev, vload, vupdate, mapOk, keyOf, clsAt, bws, hn5, ht5, intsOf_cI, vfind_memoI M, hg, hn.len]
      subst hQ
      exact FnPost.plain trivial (v := vi 1) (fun h2 e => by rfl) (WkV.drop (h' := [(mi, ⟨0, .map (memoI (m ++ [(n, keV r n)]))⟩)]) (by rw [← hend 1 hk]; simp [subH, Heap.get]) (fun j hp => by simpa [domP, Heap.get] using hp) rfl (by simp only [intoH, Blk.into, memoI_into, Bool.and_self])) ⟨by rw [← hk], by rw [keMM, hg]⟩
    · have hd : decide ((sMoreA r.cu (nb r n)).1 = 1) = false := by simp [h1]
      by_cases h2 : (sMoreA r.cu (nb r n)).1 = 2
      · have hd2 : decide ((sMoreA r.cu (nb r n)).1 = 2) = true := by simp [h2]
        have hk : (2 : Int) = keV r n := by rw [keV, keU, if_neg h1, if_pos h2]
        simp only [gos, eq_self, Nat.reduceLT, Nat.reduceEqDiff, reduceIte, ↓reduceIte, vgo, vout, vguard, callOf, vop, ev, cv, vbin, vint, isShift, isNilConst, hd, hd2]
        refine Wr.draw (by kernel_rfl) ?_
        simp only [gos, ne_eq, eq_self, Nat.reduceLT, Nat.reduceEqDiff, Nat.reduceAdd, reduceCtorEq, reduceIte, ↓reduceIte, tt, vgo, vout, vgoD, voutD, vclsOk, vids, mayWrite, V.ids, V.mids, vguard, callOf, vop, ev, vload, vupdate, mapOk, keyOf, clsAt, bws, hn5, ht5, intsOf_cI, vfind_memoI M, hg, hn.len]
        subst hQ
        exact FnPost.plain trivial (v := vi 2) (fun h2 e => by rfl) (WkV.drop (h' := [(mi, ⟨0, .map (memoI (m ++ [(n, keV r n)]))⟩)]) (by rw [← hend 2 hk]; simp [subH, Heap.get]) (fun j hp => by simpa [domP, Heap.get] using hp) rfl (by simp only [intoH, Blk.into, memoI_into, Bool.and_self])) ⟨by rw [← hk], by rw [keMM, hg]⟩
      · have hd2 : decide ((sMoreA r.cu (nb r n)).1 = 2) = false := by simp [h2]
        have hk : (3 : Int) = keV r n := by rw [keV, keU, if_neg h1, if_neg h2]
        simp only [gos, eq_self, Nat.reduceLT, Nat.reduceEqDiff, reduceIte, ↓reduceIte, vgo, vout, vguard, callOf, vop, ev, cv, vbin, vint, isShift, isNilConst, hd, hd2]
        refine Wr.draw (by kernel_rfl) ?_
        simp only [gos, ne_eq, eq_self, Nat.reduceLT, Nat.reduceEqDiff, Nat.reduceAdd, reduceCtorEq, reduceIte, ↓reduceIte, tt, vgo, vout, vgoD, voutD, vclsOk, vids, mayWrite, V.ids, V.mids, vguard, callOf, vop, ev, vload, vupdate, mapOk, keyOf, clsAt, bws, hn5, ht5, intsOf_cI, vfind_memoI M, hg, hn.len]
        subst hQ
        exact FnPost.plain trivial (v := vi 3) (fun h2 e => by rfl) (WkV.drop (h' := [(mi, ⟨0, .map (memoI (m ++ [(n, keV r n)]))⟩)]) (by rw [← hend 3 hk]; simp [subH, Heap.get]) (fun j hp => by simpa [domP, Heap.get] using hp) rfl (by simp only [intoH, Blk.into, memoI_into, Bool.and_self])) ⟨by rw [← hk], by rw [keMM, hg]⟩
def suMM (r : Rm) (m : MemoI) (n : List Int) : MemoI := if sPossN r n = true then keMM r m n else m
theorem BMemo.su {r : Rm} {m : MemoI} (M : BMemo r m) {n : List Int} (h : n.length = 5) : BMemo r (suMM r m n) := by
  unfold suMM; split
  · exact M.ke h
  · exact M
theorem c_bsure (r : Rm) (k : RmOk r) (m : MemoI) (M : BMemo r m) (mi : Nat) (h3 : mi ≠ 3) (n : List Int) (hn : NOk n) :
    Ev Tryz.prog (.fn 97 [] []) [.rop (bw r (.mp mi)), .agg (cI n)] [(mi, ⟨0, .map (memoI m)⟩)] fun v h' => v = .bool (sSureN r n) ∧ h' = [(mi, ⟨0, .map (memoI (suMM r m n))⟩)] := by
  refine Ev.fn Tryz.func97 rfl rfl (Fn.body tabOk Tryz.func97 rfl (Nat.le_of_ble_eq_true rfl) (Ks.ok (fz := (fzn [])) (cl := (cln [(1, .d tg0 [cP, cP, cP, cP, cP, cP, cP, cP, cP, none, cP, cP, cP])])) tabOk mixed ?_))
  generalize hQ : FnPost tt Tryz.f97 _ _ = Q
  simp only [Tryz.f97, List.nil_append, List.append_nil, argsEnv, Nat.reduceAdd]
  have hn5 : (cI n).length = 5 := by rw [cI_len, hn.len]
  have ht5 : List.take 5 (cI n) = cI n := List.take_of_length_le (by omega)
  have hone := cI_one n
  have hmi : intoH (domP [(mi, ⟨0, .map (memoI m)⟩)]) [(mi, ⟨0, .map (memoI m)⟩)] = true := by simp only [intoH, Blk.into, memoI_into, Bool.and_self]
  simp only [gos, eq_self, Nat.reduceLT, reduceCtorEq, reduceIte, ↓reduceIte, vgo, vout, vguard, callOf, vop, ev, cv, newRow]
  refine Wr.draw (by kernel_rfl) ?_
  simp only [gos, eq_self, Nat.reduceLT, Nat.reduceEqDiff, Nat.reduceAdd, Nat.reduceLeDiff, reduceCtorEq, reduceIte, ↓reduceIte, tt, vgoD, voutD, vclsOk, vids, mayWrite, V.ids, vguard, callOf, vop, ev, vload, clsAt, bws, hn5, ht5]
  refine CD.pu (c_bposs r k n hn) ?_ rfl (by simp only [V.into, intoL, cI_into, Bool.and_true, rm_into])
  cases hp : sPossN r n with
  | false =>
    simp only [gos, eq_self, Nat.reduceLT, Nat.reduceEqDiff, reduceIte, ↓reduceIte, vgoD, voutD, vclsOk, vids, mayWrite, vguard, callOf, vop, ev, cv]
    subst hQ
    exact FnPost.plain trivial (v := .bool false) (fun h2 e => by rfl) WkV.refl ⟨by simp [sSureN, hp], by simp [suMM, hp]⟩
  | true =>
    simp only [gos, eq_self, Nat.reduceLT, Nat.reduceEqDiff, reduceCtorEq, reduceIte, ↓reduceIte, tt, vgoD, voutD, vclsOk, vids, mayWrite, V.ids, vguard, callOf, vop, ev, vload, hn5, ht5]
    refine CD.ev _ _ (c_bkeeps r k m M mi h3 n hn) ?_
    simp only [gos, eq_self, Nat.reduceLT, Nat.reduceEqDiff, reduceIte, ↓reduceIte, vgoD, voutD, vclsOk, vids, mayWrite, vguard, callOf, vop, ev, cv, vbin, vint, isShift, isNilConst]
    subst hQ
    exact FnPost.plain trivial (v := .bool (decide (keV r n = 1))) (fun h2 e => by rfl) (WkV.drop (h' := [(mi, ⟨0, .map (memoI (keMM r m n))⟩)]) (by simp [subH, Heap.get]) (fun j hp => by simpa [domP, Heap.get] using hp) rfl (by simp only [intoH, Blk.into, memoI_into, Bool.and_self])) ⟨by simp [sSureN, hp], by simp [suMM, hp]⟩
/-- Over the memo and whatever else. -/
theorem Ev.memo {P : Program} {fv : V} {args : List V} {v : V} {mi : Nat} {m m' : MemoI} (c : Ev P fv args [(mi, ⟨0, .map (memoI m)⟩)] fun v' h' => v' = v ∧ h' = [(mi, ⟨0, .map (memoI m')⟩)]) (k : Heap) (hk : k.get mi = none)
    (hf : fv.into (domP [(mi, ⟨0, .map (memoI m)⟩)]) = true) (ha : intoL (domP [(mi, ⟨0, .map (memoI m)⟩)]) args = true) :
    Ev P fv args ((mi, ⟨0, .map (memoI m)⟩) :: k) fun v' h' => v' = v ∧ h' = (mi, ⟨0, .map (memoI m')⟩) :: k := by
  have hsub : ∀ (X : MemoI) (i : Nat) (e : Ent), Heap.get [(mi, ⟨0, .map (memoI X)⟩)] i = some e → k.get i = none := fun X i e he => by
    simp only [Heap.get] at he
    by_cases h : i = mi
    · subst h; exact hk
    · rw [if_neg h] at he; cases he
  refine (c.frame k (hsub m) hf ha ?_ ?_).mono ?_
  · simp only [intoH, Blk.into, memoI_into, Bool.and_self]
  · rintro v' h' ⟨_, rfl⟩
    exact hsub _
  · rintro v' h'' ⟨h', ⟨rfl, rfl⟩, rfl⟩
    exact ⟨rfl, rfl⟩
theorem bw_dom (r : Rm) {mi : Nat} {m : MemoI} : intoL (domP [(mi, ⟨0, .map (memoI m)⟩)]) (bw r (.mp mi)) = true := bw_into _ _ _ (by simp [V.into, domP, Heap.get])
theorem c_bkeepsK (r : Rm) (k : RmOk r) (m : MemoI) (M : BMemo r m) (mi : Nat) (h3 : mi ≠ 3) (n : List Int) (hn : NOk n) (h : Heap) (hk : h.get mi = none) :
    Ev Tryz.prog (.fn 112 [] []) [.rop (bw r (.mp mi)), .agg (cI n)] ((mi, ⟨0, .map (memoI m)⟩) :: h) fun v h' => v = vi (keV r n) ∧ h' = (mi, ⟨0, .map (memoI (keMM r m n))⟩) :: h :=
  (c_bkeeps r k m M mi h3 n hn).memo h hk rfl (by simp only [intoL, V.into, bw_dom, cI_into, Bool.and_self])
theorem c_bsureK (r : Rm) (k : RmOk r) (m : MemoI) (M : BMemo r m) (mi : Nat) (h3 : mi ≠ 3) (n : List Int) (hn : NOk n) (h : Heap) (hk : h.get mi = none) :
    Ev Tryz.prog (.fn 97 [] []) [.rop (bw r (.mp mi)), .agg (cI n)] ((mi, ⟨0, .map (memoI m)⟩) :: h) fun v h' => v = .bool (sSureN r n) ∧ h' = (mi, ⟨0, .map (memoI (suMM r m n))⟩) :: h :=
  (c_bsure r k m M mi h3 n hn).memo h hk rfl (by simp only [intoL, V.into, bw_dom, cI_into, Bool.and_self])
end Go.Vm

set_option linter.unusedVariables false
set_option linter.unusedSimpArgs false
set_option maxRecDepth 100000
namespace Go.Vm
open Go.Proofs
theorem bw_ren (s : Nat → Nat) (r : Rm) (m : V) : renL s (bw r m) = bw r (m.ren s) := by
  simp only [bw, renL, V.ren, vI, vR, vD, cI_ren, cR_ren, cD_ren]
theorem bw_frz (i v : Nat) (cs : List V) (r : Rm) (m : V) : frzL i v cs (bw r m) = bw r (m.frz i v cs) := by
  simp only [bw, frzL, V.frz, vI, vR, vD, cI_frz, cR_frz, cD_frz]
theorem rm_frz (i v : Nat) (cs : List V) (r : Rm) : frzL i v cs r.cs = r.cs := by
  simp only [Rm.cs, frzL, V.frz, vI, vR, vD, cI_frz, cR_frz, cD_frz]
theorem rm_ren (s : Nat → Nat) (r : Rm) : renL s r.cs = r.cs := by
  simp only [Rm.cs, renL, V.ren, vI, vR, vD, cI_ren, cR_ren, cD_ren]
/-- A room at work: its map bears the number 90. -/
def BaskQ (r : Rm) (e : Int) (v : V) (h' : Heap) : Prop := (e ≠ 0 ∧ v = .tup [.nilp, vi e] ∧ h' = []) ∨ (e = 0 ∧ v = .tup [.rop (bw r (.mp 90)), vi 0] ∧ h' = [(90, ⟨0, .map []⟩)])
theorem c_bask (r : Rm) (hr : r.wf) : Ev Tryz.prog (.fn 88 [] []) [.agg r.cs] [] (BaskQ r (sCheckR r)) :=
  (c_basked r hr).weakV fun v h' h => by
    rcases h with ⟨h1, rfl, rfl⟩ | ⟨h1, rfl, rfl⟩
    · exact ⟨_, _, WkV.refl, .inl ⟨h1, rfl, rfl⟩⟩
    · refine ⟨.tup [.rop (bw r (.mp 90)), vi 0], [(90, ⟨0, .map []⟩)], WkV.of_wk ?_, .inr ⟨h1, rfl, rfl⟩⟩
      refine Wk.trans (Wk.ren 11 90 rfl rfl) ?_
      simp only [renE, renH, V.ren, renL, bw_ren, Blk.ren, renPs, sw]
      exact Wk.refl
theorem c_baskN (r : Rm) (hr : r.wf) (h0 : sCheckR r ≠ 0) : Pu Tryz.prog (.fn 88 [] []) [.agg r.cs] (.tup [.nilp, vi (sCheckR r)]) :=
  (c_bask r hr).mono fun v h' h => by
    rcases h with ⟨h1, rfl, rfl⟩ | ⟨h1, rfl, rfl⟩
    · exact ⟨rfl, rfl⟩
    · exact absurd h1 h0
theorem n_bask (r : Rm) (hr : r.wf) (h0 : sCheckR r = 0) : NewB Tryz.prog (.fn 88 [] []) [.agg r.cs] (.tup [.rop (bw r (.mp 90)), vi 0]) 90 ⟨0, .map []⟩ :=
  NewB.of ((c_bask r hr).mono fun v h' h => by
    rcases h with ⟨h1, rfl, rfl⟩ | ⟨h1, rfl, rfl⟩
    · exact absurd h0 h1
    · exact ⟨rfl, rfl⟩) rfl (by simp only [V.into, intoL, Bool.and_true, rm_into])
theorem c_are (r : Rm) (hb : (r.ba.length : Int) ≤ 1000000) (plan : List Int) (hp : (plan.length : Int) ≤ 1000000) : Pu Tryz.prog (.fn 124 [] []) [.agg r.cs, vI plan] (.bool (sAre r plan)) := by
  refine Ev.fn Tryz.func124 rfl rfl (Fn.body tabOk Tryz.func124 rfl (Nat.le_of_ble_eq_true rfl) (Ks.ok (fz := (fzn [6])) (cl := (cln [(6, .d tg0 [cP, cP, cP, cP, cP, cL, cP, cL, cP, cP])])) tabOk mixed ?_))
  generalize hQ : FnPost tt Tryz.f124 _ _ = Q
  simp only [Tryz.f124, List.nil_append, List.append_nil, argsEnv, Nat.reduceAdd]
  by_cases hl : plan.length = r.ba.length
  case neg =>
    have hb : ((plan.length : Int) != (r.ba.length : Int)) = true := by simp; omega
    simp only [gos, eq_self, Nat.reduceLT, Nat.reduceEqDiff, reduceCtorEq, reduceIte, ↓reduceIte, tt, vgo, vout, vguard, callOf, vop, ev, cv, vbin, vint, isShift, isNilConst, vload, vlen, newRow, rms, vI, vR, hb]
    subst hQ
    exact FnPost.plain trivial (fun h2 e => by first | rfl | (simp only [Tryz.f124, vres, vresL, vres1, e _, gos, if_true, if_false, ne_eq, eq_self, Nat.reduceLT, Nat.reduceEqDiff, Nat.reduceAdd, Nat.reduceMul, Nat.reduceLeDiff, Nat.reduceBEq, reduceCtorEq, reduceIte, Array.toList, ↓reduceIte, tt, vgo, vout, vgoD, voutD, vclsOk, vids, mayWrite, V.ids, V.mids, vguard, callOf, vop, ev, cv, vbin, vint, isShift, isNilConst, vnil, isNilSlice, vload, vlen, newRow, vfill, vslice, entOf, vappend, srcOf, vcopy, vlookup, vupdate, mapOk, keyOf, intsOf, clsAt]; try rfl)) (WkV.pure (by simp only [V.into])) ⟨by simp [sAre, hl], rfl⟩
  have hne : ((plan.length : Int) != (r.ba.length : Int)) = false := by simp [hl]
  simp only [gos, eq_self, Nat.reduceLT, Nat.reduceEqDiff, reduceCtorEq, reduceIte, ↓reduceIte, tt, vgo, vout, vguard, callOf, vop, ev, cv, vbin, vint, isShift, isNilConst, vload, vlen, newRow, rms, vI, vR, hne]
  refine W.loop tabOk mixed (fun i : Nat => ([(1, vI plan), (14, vR r.ba), (15, vi r.ba.length), (16, vi i)], [])) (fun i => r.ba.length - i) (fun i => i ≤ r.ba.length ∧ ∀ j < i, sIn (gi plan j) (gR r.ba j).lo (gR r.ba j).hi = true) 0 ⟨by omega, fun j hj => by omega⟩ (Wk.env (by simp [subE, Env.get, vI, vR])) ?_
  rintro i ⟨hi, hj⟩
  by_cases hil : (i : Int) < r.ba.length
  · have hip : (i : Int) < plan.length := by omega
    simp only [gos, eq_self, Nat.reduceLT, Nat.reduceEqDiff, Nat.reduceAdd, reduceCtorEq, reduceIte, ↓reduceIte, tt, vgo, vout, vguard, callOf, vop, ev, vbin, vint, isShift, isNilConst, vload, newRow, vR, hil, cR_at (Int.natCast_nonneg i) hil]
    refine Wr.draw (by kernel_rfl) ?_
    simp only [gos, eq_self, Nat.reduceLT, Nat.reduceEqDiff, Nat.reduceAdd, reduceCtorEq, reduceIte, ↓reduceIte, tt, vgoD, voutD, vclsOk, vids, mayWrite, V.ids, vguard, callOf, vop, ev, vload, clsAt, vI, hip, Int.natCast_nonneg, cI_at (Int.natCast_nonneg i) hip]
    refine CD.pu (c_bwithin (gi plan i) (gR r.ba i).lo (gR r.ba i).hi) ?_
    cases h2 : sIn (gi plan i) (gR r.ba i).lo (gR r.ba i).hi
    · simp only [gos, eq_self, Nat.reduceLT, Nat.reduceEqDiff, reduceIte, ↓reduceIte, vgo, vout, vgoD, voutD, vclsOk, vids, mayWrite, vguard, callOf, vop, ev, cv]
      subst hQ
      exact FnPost.plain trivial (fun h2 e => by first | rfl | (simp only [Tryz.f124, vres, vresL, vres1, e _, gos, if_true, if_false, ne_eq, eq_self, Nat.reduceLT, Nat.reduceEqDiff, Nat.reduceAdd, Nat.reduceMul, Nat.reduceLeDiff, Nat.reduceBEq, reduceCtorEq, reduceIte, Array.toList, ↓reduceIte, tt, vgo, vout, vgoD, voutD, vclsOk, vids, mayWrite, V.ids, V.mids, vguard, callOf, vop, ev, cv, vbin, vint, isShift, isNilConst, vnil, isNilSlice, vload, vlen, newRow, vfill, vslice, entOf, vappend, srcOf, vcopy, vlookup, vupdate, mapOk, keyOf, intsOf, clsAt]; try rfl)) (WkV.pure (by simp only [V.into])) ⟨by rw [sAre, range_all_false (i := i) (by omega) h2]; simp, rfl⟩
    · simp only [gos, eq_self, Nat.reduceLT, Nat.reduceEqDiff, reduceIte, ↓reduceIte, vgo, vout, vgoD, voutD, vclsOk, vids, mayWrite, vguard, callOf, vop, ev, cv, vbin, vint, isShift, isNilConst]
      refine Nx.mk (i + 1) (show r.ba.length - (i + 1) < r.ba.length - i by omega) ⟨by omega, fun j hlt => ?_⟩ (Wk.forget (by simp [subE, Env.get, i64_succ (show (i : Int) < 9223372036854775807 by omega)]) (by simp [subH]) (fun j hp => by simp [orD, domP, Heap.get] at hp) (by simp only [intoE, V.into, cI_into, cR_into, Bool.and_true]) (by simp only [intoH]))
      rcases Nat.lt_or_eq_of_le (Nat.le_of_lt_succ hlt) with h | rfl
      · exact hj j h
      · exact h2
  · simp only [gos, eq_self, Nat.reduceLT, Nat.reduceEqDiff, reduceIte, ↓reduceIte, vgo, vout, vguard, callOf, vop, ev, cv, vbin, vint, isShift, isNilConst, vR, hil]
    subst hQ
    exact FnPost.plain trivial (fun h2 e => by first | rfl | (simp only [Tryz.f124, vres, vresL, vres1, e _, gos, if_true, if_false, ne_eq, eq_self, Nat.reduceLT, Nat.reduceEqDiff, Nat.reduceAdd, Nat.reduceMul, Nat.reduceLeDiff, Nat.reduceBEq, reduceCtorEq, reduceIte, Array.toList, ↓reduceIte, tt, vgo, vout, vgoD, voutD, vclsOk, vids, mayWrite, V.ids, V.mids, vguard, callOf, vop, ev, cv, vbin, vint, isShift, isNilConst, vnil, isNilSlice, vload, vlen, newRow, vfill, vslice, entOf, vappend, srcOf, vcopy, vlookup, vupdate, mapOk, keyOf, intsOf, clsAt]; try rfl)) (WkV.pure (by simp only [V.into])) ⟨by rw [sAre, range_all_true fun j hj' => hj j (by omega)]; simp [hl], rfl⟩
theorem addC_take {n plan : List Int} {i : Nat} (h : (i : Int) < plan.length) : addC n (plan.take (i + 1)) = inc (addC n (plan.take i)) (gi plan i) := by
  rw [gi_take h]; simp [addC]
theorem addC_le (plan n : List Int) (hp : ∀ h ∈ plan, 0 ≤ h ∧ h < n.length) (i : Nat) : gi (addC n plan) i ≤ gi n i + plan.length := by
  rw [addC_gi plan n hp i]
  have := List.countP_le_length (p := fun h : Int => decide ((i : Int) = h)) (l := plan)
  omega
theorem c_counted (plan : List Int) (hl : (plan.length : Int) ≤ 1000) (hp : ∀ h ∈ plan, 0 ≤ h ∧ h < 5) : Pu Tryz.prog (.fn 125 [] []) [vI plan] (.agg (cI (cntN plan))) := by
  refine Ev.fn Tryz.func125 rfl rfl (Fn.body tabOk Tryz.func125 rfl (Nat.le_of_ble_eq_true rfl) (Ks.ok (fz := (fzn [2])) (cl := (cln [])) tabOk mixed ?_))
  generalize hQ : FnPost tt Tryz.f125 _ _ = Q
  simp only [Tryz.f125, List.nil_append, List.append_nil, argsEnv]
  simp only [gos, eq_self, Nat.reduceLT, reduceCtorEq, reduceIte, ↓reduceIte, tt, vgo, vout, vguard, callOf, vop, ev, cv, vlen, newRow, vI]
  refine W.loop tabOk mixed (fun i : Nat => ([(5, vI plan), (6, vi plan.length), (7, vi i), (2, .ptr 2 0 0)], [(2, ⟨0, .row (cI (addC zL (plan.take i)))⟩)])) (fun i => plan.length - i) (fun i => i ≤ plan.length) 0 (by omega) (Wk.env (by simp [subE, Env.get, vI])) ?_
  intro i hi
  have hlen : (addC zL (plan.take i)).length = 5 := by rw [addC_len]; rfl
  have h5 : (cI (addC zL (plan.take i))).length = 5 := by rw [cI_len, hlen]
  by_cases hil : (i : Int) < plan.length
  · have hx := hp _ (gi_mem (show i < plan.length by omega))
    have hx5 : gi plan i < ((5 : Nat) : Int) := by omega
    have hxl : gi plan i < (addC zL (plan.take i)).length := by rw [hlen]; omega
    have hat := cI_at hx.1 hxl
    rw [Nat.mul_one] at hat
    have hsub : ∀ h ∈ plan.take i, 0 ≤ h ∧ h < (zL.length : Int) := fun h hh => hp h (List.mem_of_mem_take hh)
    have hge := addC_ge (plan.take i) zL hsub (gi plan i).toNat
    have hle := addC_le (plan.take i) zL hsub (gi plan i).toNat
    rw [zL_gi, show (((gi plan i).toNat : Nat) : Int) = gi plan i by omega] at hge hle
    have htl : (plan.take i).length ≤ plan.length := by rw [List.length_take]; omega
    have w1 := i64_in (show -9223372036854775808 ≤ gi (addC zL (plan.take i)) (gi plan i) + 1 by omega) (show gi (addC zL (plan.take i)) (gi plan i) + 1 ≤ 9223372036854775807 by omega)
    have hset : List.take (gi plan i).toNat (cI (addC zL (plan.take i))) ++ [V.int IntKind.i64 (gi (addC zL (plan.take i)) (gi plan i) + 1)] ++ List.drop ((gi plan i).toNat + 1) (cI (addC zL (plan.take i))) = cI (addC zL (plan.take (i + 1))) := by
      rw [addC_take hil, inc]; exact cI_set _ (by rw [hlen]; omega)
    have hc : (gi plan i).toNat + 1 ≤ 5 := by omega
    have hatp := cI_at (Int.natCast_nonneg i) hil
    rw [Nat.mul_one] at hatp
    simp only [gos, eq_self, Nat.reduceLT, Nat.reduceEqDiff, reduceCtorEq, reduceIte, ↓reduceIte, tt, vgo, vout, vguard, callOf, vop, ev, cv, vbin, vint, isShift, isNilConst, vload, vI, hil, hatp, hx.1, hx5, Nat.mul_one, Nat.zero_add, hat, w1, h5, hc, hset]
    exact Nx.mk (i + 1) (show plan.length - (i + 1) < plan.length - i by omega) (by omega) (Wk.env (by simp [subE, Env.get, i64_succ (show (i : Int) < 9223372036854775807 by omega)]))
  · have e : plan.take i = plan := List.take_of_length_le (by omega)
    rw [e] at h5 ⊢
    have ht5 : List.take 5 (cI (addC zL plan)) = cI (addC zL plan) := List.take_of_length_le (by omega)
    have hd5 : List.drop 5 (cI (addC zL plan)) = [] := List.drop_eq_nil_of_le (by omega)
    have hone := cI_one (addC zL plan)
    simp only [gos, eq_self, Nat.reduceLT, Nat.reduceEqDiff, Nat.reduceAdd, reduceCtorEq, reduceIte, ↓reduceIte, tt, vgo, vout, vguard, callOf, vop, ev, vbin, vint, isShift, isNilConst, vload, vI, hil, h5, ht5, hd5, hone]
    subst hQ
    exact FnPost.plain trivial (v := .agg (cI (addC zL plan))) (fun h2 e2 => by simp only [Tryz.f125, vres, vresL, vres1, gos, eq_self, Nat.reduceLT, Nat.reduceEqDiff, reduceCtorEq, reduceIte, ↓reduceIte, tt, vload, e2 _, h5, ht5]) (WkV.pure (by simp only [V.into, cI_into])) ⟨rfl, rfl⟩
end Go.Vm
