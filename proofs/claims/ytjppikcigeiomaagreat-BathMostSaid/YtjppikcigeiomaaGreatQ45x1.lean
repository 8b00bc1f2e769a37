import Derived.Test.YtjppikcigeiomaaGreatB4
import Derived.Test.YtjppikcigeiomaaGreatRows
import Derived.WalkKit
import Derived.ProofKit
import Derived.OpenShut
import Derived.ShutString
import Derived.ChangeOld
import Derived.Below
set_option linter.unusedVariables false
set_option linter.unusedSimpArgs false
set_option maxRecDepth 100000
namespace Go.Vm
open Go.Proofs Go.ChangeShapes Go.WideShapes Go.ChangeAt Go.RowKit
/-! ### from a contract to the row -/
theorem hrel0 (w : World) : HRel (gh0 w) [] w :=
  ⟨fun B o v e => e, fun i e he => (by cases he), fun i j e e' B c c' he => (by cases he), fun i e B c o he => (by cases he), fun i v h => absurd rfl h⟩
theorem calls_of_fn {P : Program} {f : FuncId} {vs : List V} {xs : List Value} {w : World} (c : Fn P f vs [] fun v h' => v = .bool true) (hv : VRL (gh0 w) vs xs) :
    Calls P f xs.toArray w fun e w' => e = .returned (.bool true) ∧ Below w.heap.size w w' := fun cs => by
  obtain ⟨v, h', vc, g', w', fr, rfl, st, hf, hl, hvc, H', t, le⟩ := c (gh0 w) w xs hv (hrel0 w) cs
  simp only [VR] at hvc
  subst hvc
  exact ⟨.returned (.bool true), w', fr, ⟨rfl, t.os, t.tape, t.output, t.size, fun k hk => t.mods k hk (by rintro ⟨i, e, c, he, _⟩; cases he)⟩, st, hf, hl⟩
section
variable {H : Type} {enc : TypeId × Value → H} {P : Program} {w : World} {base : Nat} {spare : Nat → Bool} {held : Bool} {fuel : Nat} {t : TypeId} {cs : List Value} {x : DataW H × List MemPlace}
end
section
variable {H : Type} {enc : TypeId × Value → H} {w : World} {base : Nat} {spare : Nat → Bool} {held : Bool} {fuel : Nat} {cs : List Value} {x : DataW H × List MemPlace}
end
end Go.Vm

set_option linter.unusedVariables false
set_option linter.unusedSimpArgs false
set_option maxRecDepth 100000
namespace Go.Vm
open Go.Proofs
/-! ### the reference: the heat -/
theorem c_rKept (c : Cu) (t : Tr2) (coal want : List Int) (k : TrOk c t coal want) (i : Nat) (hi : (i : Int) ≤ c.last) : Pu Tryz.prog (.fn 168 [] []) [.agg c.cs, .agg t.cs, vI coal, vI want, vi i] (.bool (decide (gi want i ≤ (sHeat c (tS t) coal want i).tdiv c.per))) := by
  refine Ev.fn Tryz.func168 rfl rfl (Fn.body tabOk Tryz.func168 rfl (Nat.le_of_ble_eq_true rfl) (Ks.ok (fz := (fzn [])) (cl := (cln [(1, .d tg0 [cP, cP, cP, cP, cP, cP, cP, cP, cP, cP, cP, cP])])) tabOk mixed ?_))
  generalize hQ : FnPost tt Tryz.f168 _ _ = Q
  simp only [Tryz.f168, List.nil_append, List.append_nil, argsEnv, Nat.reduceAdd]
  have hts : t.cs.take 2 = t.cs := rfl
  have htn : t.cs.length = 2 := rfl
  simp only [gos, eq_self, Nat.reduceLT, Nat.reduceEqDiff, reduceCtorEq, reduceIte, ↓reduceIte, vgo, vout, vguard, callOf, vop, ev, cv, newRow]
  refine Wr.draw (by kernel_rfl) ?_
  simp only [gos, eq_self, Nat.reduceLT, Nat.reduceEqDiff, Nat.reduceAdd, reduceCtorEq, reduceIte, ↓reduceIte, tt, vgoD, voutD, vclsOk, vids, mayWrite, V.ids, vguard, callOf, vop, ev, vload, clsAt, hts, htn]
  refine CD.pu (c_rHot c t coal want k i hi) ?_ rfl (by simp only [V.into, intoL, vI_into, cu_into, Bool.and_true, Tr2.cs])
  have hw : (i : Int) < want.length := by have := k.play.want.1; omega
  simp only [gos, eq_self, Nat.reduceLT, Nat.reduceEqDiff, reduceCtorEq, reduceIte, ↓reduceIte, tt, vgoD, voutD, vclsOk, vids, mayWrite, V.ids, vguard, callOf, vop, ev, vbin, vint, isShift, isNilConst, vload, vI, hw, cI_at (Int.natCast_nonneg i) hw]
  subst hQ
  exact FnPost.plain trivial (fun h2 e => by first | rfl | (simp only [Tryz.f168, vres, vresL, vres1, e _, gos, if_true, if_false, ne_eq, eq_self, Nat.reduceLT, Nat.reduceEqDiff, Nat.reduceAdd, Nat.reduceMul, Nat.reduceLeDiff, Nat.reduceBEq, reduceCtorEq, reduceIte, Array.toList, ↓reduceIte, tt, vgo, vout, vgoD, voutD, vclsOk, vids, mayWrite, V.ids, V.mids, vguard, callOf, vop, ev, cv, vbin, vint, isShift, isNilConst, vnil, isNilSlice, vload, vlen, newRow, vfill, vslice, entOf, vappend, srcOf, vcopy, vlookup, vupdate, mapOk, keyOf, intsOf, clsAt]; try rfl)) (WkV.pure (by simp only [V.into])) ⟨rfl, rfl⟩
end Go.Vm

set_option linter.unusedVariables false
set_option linter.unusedSimpArgs false
set_option maxRecDepth 100000
namespace Go.Vm
open Go.Proofs
/-! ### the reference: all truths -/
def gT (l : List Tr2) (n : Int) : Tr2 := l.getD n.toNat ⟨0, []⟩
theorem cT_drop : ∀ (l : List Tr2) (i : Nat), (cT l).drop (i * 2) = cT (l.drop i)
  | l, 0 => by simp
  | [], i + 1 => by simp [cT]
  | r :: l, i + 1 => by rw [show (i + 1) * 2 = i * 2 + 1 + 1 by omega]; simp [cT, cT_drop l i]
theorem gT_drop {l : List Tr2} {n : Int} (h0 : 0 ≤ n) (h1 : n < l.length) : l.drop n.toNat = gT l n :: l.drop (n.toNat + 1) := by
  have : n.toNat < l.length := by omega
  rw [List.drop_eq_getElem_cons this, gT, List.getD_eq_getElem?_getD, List.getElem?_eq_getElem this]; rfl
theorem cT_at {l : List Tr2} {n : Int} (h0 : 0 ≤ n) (h1 : n < l.length) : (cT l).drop (n.toNat * 2) = vi (gT l n).heat :: vI (gT l n).loss :: cT (l.drop (n.toNat + 1)) := by
  rw [cT_drop, gT_drop h0 h1]; rfl
theorem gT_get {l : List Tr2} {i : Nat} (h : (i : Int) < l.length) : l[i]? = some (gT l i) := by
  have : i < l.length := by omega
  rw [gT, Int.toNat_natCast, List.getD_eq_getElem?_getD, List.getElem?_eq_getElem this]; rfl
theorem vT_into (p : Nat → Bool) (l : List Tr2) : (vT l).into p = true := by simp only [vT, V.into]; exact cT_into p l
end Go.Vm

set_option linter.unusedVariables false
set_option linter.unusedSimpArgs false
set_option maxRecDepth 100000
namespace Go.Vm
open Go.Proofs
/-! ### the reference: bounds and verdicts -/
theorem c_rVerdict (y m : Int) : Pu Tryz.prog (.fn 143 [] []) [vi y, vi m] (vi (rVerdict y m)) := by
  refine Ev.fn Tryz.func143 rfl rfl (Fn.body tabOk Tryz.func143 rfl (Nat.le_of_ble_eq_true rfl) (Ks.ok (fz := (fzn [])) (cl := (cln [])) tabOk mixed ?_))
  generalize hQ : FnPost tt Tryz.f143 _ _ = Q
  simp only [Tryz.f143, List.nil_append, List.append_nil, argsEnv, Nat.reduceAdd]
  by_cases h1 : y = m
  · have hb : decide (y = m) = true := by simp [h1]
    simp only [gos, eq_self, Nat.reduceLT, Nat.reduceEqDiff, reduceCtorEq, reduceIte, ↓reduceIte, vgo, vout, vguard, callOf, vop, ev, cv, vbin, vint, isShift, isNilConst, hb]
    subst hQ
    exact FnPost.plain trivial (fun h2 e => by first | rfl | (simp only [Tryz.f143, vres, vresL, vres1, e _, gos, if_true, if_false, ne_eq, eq_self, Nat.reduceLT, Nat.reduceEqDiff, Nat.reduceAdd, Nat.reduceMul, Nat.reduceLeDiff, Nat.reduceBEq, reduceCtorEq, reduceIte, Array.toList, ↓reduceIte, tt, vgo, vout, vgoD, voutD, vclsOk, vids, mayWrite, V.ids, V.mids, vguard, callOf, vop, ev, cv, vbin, vint, isShift, isNilConst, vnil, isNilSlice, vload, vlen, newRow, vfill, vslice, entOf, vappend, srcOf, vcopy, vlookup, vupdate, mapOk, keyOf, intsOf, clsAt]; try rfl)) (WkV.pure (by simp only [V.into])) ⟨by simp [rVerdict, h1], rfl⟩
  · have hb : decide (y = m) = false := by simp [h1]
    by_cases h2 : y = 0
    · have hb2 : decide (y = 0) = true := by simp [h2]
      simp only [gos, eq_self, Nat.reduceLT, Nat.reduceEqDiff, reduceCtorEq, reduceIte, ↓reduceIte, vgo, vout, vguard, callOf, vop, ev, cv, vbin, vint, isShift, isNilConst, hb, hb2]
      subst hQ
      exact FnPost.plain trivial (fun h2 e => by first | rfl | (simp only [Tryz.f143, vres, vresL, vres1, e _, gos, if_true, if_false, ne_eq, eq_self, Nat.reduceLT, Nat.reduceEqDiff, Nat.reduceAdd, Nat.reduceMul, Nat.reduceLeDiff, Nat.reduceBEq, reduceCtorEq, reduceIte, Array.toList, ↓reduceIte, tt, vgo, vout, vgoD, voutD, vclsOk, vids, mayWrite, V.ids, V.mids, vguard, callOf, vop, ev, cv, vbin, vint, isShift, isNilConst, vnil, isNilSlice, vload, vlen, newRow, vfill, vslice, entOf, vappend, srcOf, vcopy, vlookup, vupdate, mapOk, keyOf, intsOf, clsAt]; try rfl)) (WkV.pure (by simp only [V.into])) ⟨by rw [rVerdict, if_neg h1, if_pos h2], rfl⟩
    · have hb2 : decide (y = 0) = false := by simp [h2]
      simp only [gos, eq_self, Nat.reduceLT, Nat.reduceEqDiff, reduceCtorEq, reduceIte, ↓reduceIte, vgo, vout, vguard, callOf, vop, ev, cv, vbin, vint, isShift, isNilConst, hb, hb2]
      subst hQ
      exact FnPost.plain trivial (fun h2 e => by first | rfl | (simp only [Tryz.f143, vres, vresL, vres1, e _, gos, if_true, if_false, ne_eq, eq_self, Nat.reduceLT, Nat.reduceEqDiff, Nat.reduceAdd, Nat.reduceMul, Nat.reduceLeDiff, Nat.reduceBEq, reduceCtorEq, reduceIte, Array.toList, ↓reduceIte, tt, vgo, vout, vgoD, voutD, vclsOk, vids, mayWrite, V.ids, V.mids, vguard, callOf, vop, ev, cv, vbin, vint, isShift, isNilConst, vnil, isNilSlice, vload, vlen, newRow, vfill, vslice, entOf, vappend, srcOf, vcopy, vlookup, vupdate, mapOk, keyOf, intsOf, clsAt]; try rfl)) (WkV.pure (by simp only [V.into])) ⟨by rw [rVerdict, if_neg h1, if_neg h2], rfl⟩
theorem count_snoc (l : List Tr2) (f : Tr2 → Bool) {i : Nat} (h : (i : Int) < l.length) : (l.take (i + 1)).countP f = (l.take i).countP f + (if f (gT l i) then 1 else 0) := by
  have e : l.take (i + 1) = l.take i ++ [gT l i] := by rw [List.take_add_one, gT_get h]; rfl
  rw [e, List.countP_append, List.countP_singleton]
end Go.Vm

set_option linter.unusedVariables false
set_option linter.unusedSimpArgs false
set_option maxRecDepth 100000
namespace Go.Vm
open Go.Proofs
/-! ### the reference: all promises; spare buckets; the hour that may lack -/
set_option maxHeartbeats 1000000 in
theorem c_rWhole (c : Cu) (t : Tr2) (coal want : List Int) (k : TrOk c t coal want) : Pu Tryz.prog (.fn 142 [] []) [.agg c.cs, .agg t.cs, vI coal, vI want] (.bool (wholeI c coal want t)) := by
  have hl := k.play.last
  refine Ev.fn Tryz.func142 rfl rfl (Fn.body tabOk Tryz.func142 rfl (Nat.le_of_ble_eq_true rfl) (Ks.ok (fz := (fzn [])) (cl := (cln [])) tabOk mixed ?_))
  generalize hQ : FnPost tt Tryz.f142 _ _ = Q
  simp only [Tryz.f142, List.nil_append, List.append_nil, argsEnv, Nat.reduceAdd]
  have hts : t.cs.take 2 = t.cs := rfl
  have htn : t.cs.length = 2 := rfl
  simp only [gos, eq_self, Nat.reduceLT, Nat.reduceEqDiff, reduceCtorEq, reduceIte, ↓reduceIte, vgo, vout, vguard, callOf, vop, ev, cv, newRow]
  refine W.loop tabOk mixed (fun i : Nat => ([(2, vI coal), (3, vI want), (4, .rop c.cs), (5, .rop t.cs), (9, vi i)], [])) (fun i => (c.last + 1).toNat - i) (fun i => (i : Int) ≤ c.last + 1 ∧ ∀ j : Nat, j < i → keptI c coal want t j = true) 0 ⟨by omega, fun j hj => by omega⟩ (Wk.env (by simp [subE, Env.get])) ?_
  rintro i ⟨hi, hno⟩
  by_cases hil : (i : Int) ≤ c.last
  · simp only [gos, eq_self, Nat.reduceLT, Nat.reduceEqDiff, reduceCtorEq, reduceIte, ↓reduceIte, tt, vgo, vout, vguard, callOf, vop, ev, vbin, vint, isShift, isNilConst, vload, hil, hts, htn]
    refine Cl.pu (c_rKept c t coal want k i hil) ?_ rfl (by simp only [V.into, intoL, vI_into, cu_into, Bool.and_true, Tr2.cs])
    rw [show decide (gi want i ≤ (sHeat c (tS t) coal want i).tdiv c.per) = keptI c coal want t i from rfl]
    cases hk : keptI c coal want t i with
    | true =>
      simp only [gos, eq_self, Nat.reduceLT, Nat.reduceEqDiff, reduceIte, ↓reduceIte, vgo, vout, vguard, callOf, vop, ev, cv, vbin, vint, isShift, isNilConst]
      refine Nx.mk (i + 1) (show (c.last + 1).toNat - (i + 1) < (c.last + 1).toNat - i by omega) ⟨by omega, fun j hj => ?_⟩ (Wk.env (by simp [subE, Env.get, i64_succ (show (i : Int) < 9223372036854775807 by omega)]))
      rcases Nat.lt_succ_iff_lt_or_eq.1 hj with h | rfl
      · exact hno j h
      · exact hk
    | false =>
      simp only [gos, eq_self, Nat.reduceLT, reduceIte, ↓reduceIte, vgo, vout, vguard, callOf, vop, ev, cv]
      have hf : wholeI c coal want t = false := by
        rw [Bool.eq_false_iff]; intro ha
        simp only [wholeI, List.all_eq_true, List.mem_range] at ha
        rw [ha i (by omega)] at hk; cases hk
      subst hQ
      exact FnPost.plain trivial (fun h2 e => by first | rfl | (simp only [Tryz.f142, vres, vresL, vres1, e _, gos, if_true, if_false, ne_eq, eq_self, Nat.reduceLT, Nat.reduceEqDiff, Nat.reduceAdd, Nat.reduceMul, Nat.reduceLeDiff, Nat.reduceBEq, reduceCtorEq, reduceIte, Array.toList, ↓reduceIte, tt, vgo, vout, vgoD, voutD, vclsOk, vids, mayWrite, V.ids, V.mids, vguard, callOf, vop, ev, cv, vbin, vint, isShift, isNilConst, vnil, isNilSlice, vload, vlen, newRow, vfill, vslice, entOf, vappend, srcOf, vcopy, vlookup, vupdate, mapOk, keyOf, intsOf, clsAt]; try rfl)) (WkV.pure (by simp only [V.into])) ⟨by rw [hf], rfl⟩
  · simp only [gos, eq_self, Nat.reduceLT, Nat.reduceEqDiff, reduceCtorEq, reduceIte, ↓reduceIte, tt, vgo, vout, vguard, callOf, vop, ev, cv, vbin, vint, isShift, isNilConst, vload, hil]
    have ht : wholeI c coal want t = true := by
      simp only [wholeI, List.all_eq_true, List.mem_range]
      exact fun j hj => hno j (by omega)
    subst hQ
    exact FnPost.plain trivial (fun h2 e => by first | rfl | (simp only [Tryz.f142, vres, vresL, vres1, e _, gos, if_true, if_false, ne_eq, eq_self, Nat.reduceLT, Nat.reduceEqDiff, Nat.reduceAdd, Nat.reduceMul, Nat.reduceLeDiff, Nat.reduceBEq, reduceCtorEq, reduceIte, Array.toList, ↓reduceIte, tt, vgo, vout, vgoD, voutD, vclsOk, vids, mayWrite, V.ids, V.mids, vguard, callOf, vop, ev, cv, vbin, vint, isShift, isNilConst, vnil, isNilSlice, vload, vlen, newRow, vfill, vslice, entOf, vappend, srcOf, vcopy, vlookup, vupdate, mapOk, keyOf, intsOf, clsAt]; try rfl)) (WkV.pure (by simp only [V.into])) ⟨by rw [ht], rfl⟩
set_option maxHeartbeats 1000000 in
theorem c_rWholes (c : Cu) (l : List Tr2) (coal want : List Int) (hl : (l.length : Int) ≤ 1000000) (hok : ∀ t ∈ l, TrOk c t coal want) : Pu Tryz.prog (.fn 106 [] []) [.agg c.cs, vT l, vI coal, vI want] (vi (rWholes c l coal want)) := by
  refine Ev.fn Tryz.func106 rfl rfl (Fn.body tabOk Tryz.func106 rfl (Nat.le_of_ble_eq_true rfl) (Ks.ok (fz := (fzn [])) (cl := (cln [(5, .d tg0 [cP, cP, cP, cP, cP, cP, cP, cP])])) tabOk mixed ?_))
  generalize hQ : FnPost tt Tryz.f106 _ _ = Q
  simp only [Tryz.f106, List.nil_append, List.append_nil, argsEnv, Nat.reduceAdd]
  simp only [gos, eq_self, Nat.reduceLT, Nat.reduceEqDiff, reduceCtorEq, reduceIte, ↓reduceIte, vgo, vout, vguard, callOf, vop, ev, cv, newRow]
  refine W.loop tabOk mixed (fun i : Nat => ([(1, vT l), (2, vI coal), (3, vI want), (4, .rop c.cs), (9, vi ((l.take i).countP fun t => wholeI c coal want t)), (10, vi i)], [])) (fun i => l.length - i) (fun i => i ≤ l.length) 0 (by omega) (Wk.env (by simp [subE, Env.get])) ?_
  intro i hi
  by_cases hil : (i : Int) < l.length
  · have ht := hok _ (List.mem_of_getElem? (gT_get hil))
    have hcs := count_snoc l (fun t => wholeI c coal want t) hil
    have hle : (l.take i).countP (fun t => wholeI c coal want t) ≤ i := Nat.le_trans List.countP_le_length (by rw [List.length_take]; exact Nat.min_le_left _ _)
    simp only [gos, eq_self, Nat.reduceLT, Nat.reduceEqDiff, reduceIte, ↓reduceIte, tt, vgo, vout, vguard, callOf, vop, ev, vbin, vint, isShift, isNilConst, vlen, vT, hil]
    refine Wr.draw (by kernel_rfl) ?_
    simp only [gos, eq_self, Nat.reduceLT, Nat.reduceEqDiff, Nat.reduceAdd, reduceCtorEq, reduceIte, ↓reduceIte, tt, vgoD, voutD, vclsOk, vids, mayWrite, V.ids, vguard, callOf, vop, ev, vload, clsAt, hil, cT_at (Int.natCast_nonneg i) hil]
    refine CD.pu (c_rWhole c (gT l i) coal want ht) ?_ rfl (by simp only [V.into, intoL, vI_into, cu_into, Bool.and_true])
    cases hk : wholeI c coal want (gT l i) with
    | true =>
      rw [hk] at hcs
      simp only [gos, eq_self, Nat.reduceLT, Nat.reduceEqDiff, reduceIte, ↓reduceIte, vgo, vout, vguard, callOf, vop, ev, cv, vbin, vint, isShift, isNilConst, i64_succ (show (((l.take i).countP fun t => wholeI c coal want t : Nat) : Int) < 9223372036854775807 by omega)]
      exact Nx.mk (i + 1) (show l.length - (i + 1) < l.length - i by omega) (by omega) (Wk.env (by simp [subE, Env.get, hcs, i64_succ (show (i : Int) < 9223372036854775807 by omega)]))
    | false =>
      rw [hk] at hcs
      simp only [gos, eq_self, Nat.reduceLT, Nat.reduceEqDiff, reduceIte, ↓reduceIte, vgo, vout, vguard, callOf, vop, ev, cv, vbin, vint, isShift, isNilConst]
      exact Nx.mk (i + 1) (show l.length - (i + 1) < l.length - i by omega) (by omega) (Wk.env (by simp [subE, Env.get, hcs, i64_succ (show (i : Int) < 9223372036854775807 by omega)]))
  · have e : l.take i = l := List.take_of_length_le (by omega)
    simp only [gos, eq_self, Nat.reduceLT, Nat.reduceEqDiff, reduceIte, ↓reduceIte, tt, vgo, vout, vguard, callOf, vop, ev, vbin, vint, isShift, isNilConst, vlen, vT, hil, e]
    refine Cl.pu (c_rVerdict _ _) ?_
    simp only [gos, eq_self, Nat.reduceLT, reduceIte, ↓reduceIte, vgo, vout, vguard, callOf, vop, ev]
    subst hQ
    exact FnPost.plain trivial (fun h2 e => by first | rfl | (simp only [Tryz.f106, vres, vresL, vres1, e _, gos, if_true, if_false, ne_eq, eq_self, Nat.reduceLT, Nat.reduceEqDiff, Nat.reduceAdd, Nat.reduceMul, Nat.reduceLeDiff, Nat.reduceBEq, reduceCtorEq, reduceIte, Array.toList, ↓reduceIte, tt, vgo, vout, vgoD, voutD, vclsOk, vids, mayWrite, V.ids, V.mids, vguard, callOf, vop, ev, cv, vbin, vint, isShift, isNilConst, vnil, isNilSlice, vload, vlen, newRow, vfill, vslice, entOf, vappend, srcOf, vcopy, vlookup, vupdate, mapOk, keyOf, intsOf, clsAt]; try rfl)) (WkV.pure (by simp only [V.into])) ⟨rfl, rfl⟩
end Go.Vm

set_option linter.unusedVariables false
set_option linter.unusedSimpArgs false
set_option maxRecDepth 100000
namespace Go.Vm
/-! ### plain laws of one truth -/
theorem mul_le_of_tdiv {w a p : Int} (h0 : 0 ≤ a) (hp : 1 ≤ p) (h : w ≤ a.tdiv p) : w * p ≤ a := by
  rw [Int.tdiv_eq_ediv_of_nonneg h0] at h
  exact Int.mul_le_of_le_ediv (by omega) h
theorem warm_heat {c : Cu} {s s' : Sc} {coal coal' want : List Int} {n : Nat} (w : Warm s s' coal coal' n) {i : Nat} (hi : i < n) (h : (sPlay c s coal want i).1 ≤ (sPlay c s' coal' want i).1) : sHeat c s coal want i ≤ sHeat c s' coal' want i := by
  have h1 := w.loss i hi
  have h2 := w.coal i hi
  have h3 : gi coal i * s.heat ≤ gi coal' i * s'.heat := Int.mul_le_mul h2.2 w.heat.2 w.heat.1 (by omega)
  simp only [sHeat]
  omega
theorem warm_play {c : Cu} {s s' : Sc} {coal coal' want : List Int} {n : Nat} (hp : 1 ≤ c.per) (w : Warm s s' coal coal' n) : ∀ i, i ≤ n → (sPlay c s coal want i).1 ≤ (sPlay c s' coal' want i).1
  | 0, _ => Int.le_refl _
  | i + 1, hi => by
    have ih := warm_heat w (show i < n by omega) (warm_play (want := want) hp w i (by omega))
    have h0 : 0 ≤ sHeat c s coal want i := by simp only [sHeat]; omega
    have h1 : 0 ≤ sHeat c s' coal' want i := by simp only [sHeat]; omega
    have hm := tdiv_mono h0 ih hp
    rw [sPlay_heat, sPlay_heat]
    by_cases hk : gi want i ≤ (sHeat c s coal want i).tdiv c.per
    · rw [if_pos hk, if_pos (by omega)]; omega
    · rw [if_neg hk]
      split
      · rename_i hk2
        have := mul_le_of_tdiv h1 hp hk2
        omega
      · omega
end Go.Vm

set_option linter.unusedVariables false
set_option linter.unusedSimpArgs false
set_option maxRecDepth 100000
namespace Go.Vm
open Go.Proofs
/-! ### coal by a number -/
theorem lowD_len (s n : Int) : ∀ j, (lowD s n j).length = j
  | 0 => rfl
  | j + 1 => by rw [lowD, List.length_cons, lowD_len s n j]
theorem dvN_ge {s n : Int} (hn : 0 ≤ n) (hs : 1 ≤ s) : ∀ j, 0 ≤ dvN s n j ∧ dvN s n j ≤ n
  | 0 => ⟨hn, Int.le_refl _⟩
  | j + 1 => by
    have := dvN_ge hn hs j
    have h1 := Int.tdiv_nonneg this.1 (show 0 ≤ s by omega)
    have h2 := Int.tdiv_le_self s this.1
    simp only [dvN]; omega
theorem lowD_ok {s n : Int} (hn : 0 ≤ n) (hs : 1 ≤ s) : ∀ j, ∀ x ∈ lowD s n j, 0 ≤ x ∧ x ≤ s - 1
  | 0, x, h => by simp [lowD] at h
  | j + 1, x, h => by
    rw [lowD, List.mem_cons] at h
    rcases h with rfl | h
    · exact tmod_le (dvN_ge hn hs j).1 hs
    · exact lowD_ok hn hs j x h
/-! ### words -/
end Go.Vm

set_option linter.unusedVariables false
set_option linter.unusedSimpArgs false
set_option maxRecDepth 100000
namespace Go.Vm
open Go.Proofs
/-! ### the least coal of the reference -/
def bV : Option (List Int) → V
  | none => .sl0
  | some b => vI b
end Go.Vm

set_option linter.unusedVariables false
set_option linter.unusedSimpArgs false
set_option maxRecDepth 100000
namespace Go.Vm
/-! ### the least coal: the program's search and the reference's are the same -/
/-! the reference's numbers of coal, in order -/
theorem sure_whole {c : Cu} (k0 : CuOk c) (hne : sTruth c ≠ []) (coal : List Int) : sSureP c coal = decide (rWholes c (rTruths c) coal c.want = 1) := by
  rw [← wholes_same k0 hne]
  have e : ((sTruth c).map fun s => if (sPast c coal c.want s).kept.any (fun y => decide (false = y)) then (0 : Int) else 1) = (sTruth c).map fun s => if sKept c coal c.want s = true then 1 else 0 := by
    apply List.map_congr_left
    intro s _
    by_cases h : ((sPast c coal c.want s).kept.any fun y => decide (false = y)) = true
    · have h2 : sKept c coal c.want s = false := by rw [sKept, h]; rfl
      rw [if_pos h, h2, if_neg (by simp)]
    · have h2 : sKept c coal c.want s = true := by rw [Bool.not_eq_true] at h; rw [sKept, h]; rfl
      rw [if_neg h, h2, if_pos rfl]
  rw [e, sVerdict_01 _ hne, sSureP]
  cases (sTruth c).all fun s => sKept c coal c.want s with
  | true => rfl
  | false => cases (sTruth c).any fun s => sKept c coal c.want s <;> rfl
end Go.Vm

set_option linter.unusedVariables false
set_option linter.unusedSimpArgs false
set_option maxRecDepth 100000
namespace Go.Vm
/-! ### fewer promises, more coal -/
theorem whole_coal {c : Cu} {coal coal' want : List Int} {t : Tr2} (hp : 1 ≤ c.per) (hh : 0 ≤ t.heat) (hc : ∀ i : Nat, i < (c.last + 1).toNat → 0 ≤ gi coal i ∧ gi coal i ≤ gi coal' i) (h : wholeI c coal want t = true) : wholeI c coal' want t = true := by
  rw [whole_iff] at h ⊢
  intro i hi
  have w : Warm (tS t) (tS t) coal coal' (c.last + 1).toNat := ⟨⟨hh, Int.le_refl _⟩, fun i _ => Int.le_refl _, hc⟩
  have hm := tdiv_mono (sHeat_ge c (tS t) coal want i) (warm_heat w hi (warm_play hp w i (by omega))) hp
  have := h i hi
  omega
end Go.Vm

set_option linter.unusedVariables false
set_option linter.unusedSimpArgs false
set_option maxRecDepth 100000
namespace Go.Vm
/-! ### fewer truths -/
theorem SubT.sure {x c : Cu} (S : SubT x c) (X : AskOk x true) (A : AskOk c true) {coal : List Int} (h : sSureP c coal = true) : sSureP x coal = true := by
  have hne : rTruths x ≠ [] := fun e => X.ne ((same_nil X.k0).2 e)
  rw [sure_whole A.k0 A.ne, decide_eq_true_eq] at h
  rw [sure_whole X.k0 X.ne, decide_eq_true_eq, S.want]
  exact S.wholes hne h
/-! which readings are left out -/
end Go.Vm

set_option linter.unusedVariables false
set_option linter.unusedSimpArgs false
set_option maxRecDepth 100000
namespace Go.Vm
open Go.Proofs
/-! ### the reference of baths: the small functions -/
def sumT (l : List Int) (j : Nat) : Int := (l.take j).foldl (· + ·) 0
theorem sumT_succ {l : List Int} {j : Nat} (h : (j : Int) < l.length) : sumT l (j + 1) = sumT l j + gi l j := by
  rw [sumT, gi_take h, List.foldl_append]; rfl
theorem sumT_le {l : List Int} (hb : ∀ x ∈ l, 0 ≤ x ∧ x ≤ 1000000) : ∀ j : Nat, j ≤ l.length → 0 ≤ sumT l j ∧ sumT l j ≤ 1000000 * j
  | 0, _ => by simp [sumT]
  | j + 1, h => by
    have ih := sumT_le hb j (by omega)
    have := hb _ (gi_mem (l := l) (i := j) (by omega))
    rw [sumT_succ (by omega)]
    omega
theorem c_r9Sum (l : List Int) (hl : (l.length : Int) ≤ 1000000) (hb : ∀ x ∈ l, 0 ≤ x ∧ x ≤ 1000000) : Pu Tryz.prog (.fn 59 [] []) [vI l] (vi (sumT l l.length)) := by
  refine Ev.fn Tryz.func59 rfl rfl (Fn.body tabOk Tryz.func59 rfl (Nat.le_of_ble_eq_true rfl) (Ks.ok (fz := (fzn [])) (cl := (cln [])) tabOk mixed ?_))
  generalize hQ : FnPost tt Tryz.f59 _ _ = Q
  simp only [Tryz.f59, List.nil_append, List.append_nil, argsEnv]
  simp only [gos, eq_self, Nat.reduceLT, reduceIte, ↓reduceIte, vgo, vout, vguard, callOf, vop, ev, cv, vI]
  refine W.loop tabOk mixed (fun j : Nat => ([(0, vI l), (3, vi (sumT l j)), (4, vi j)], [])) (fun j => l.length - j) (fun j => j ≤ l.length) 0 (by omega) (Wk.env (by simp [subE, Env.get, sumT, vI])) ?_
  intro j hj
  have h1 := sumT_le hb j hj
  by_cases hil : (j : Int) < l.length
  · have hx := cI_at (Int.natCast_nonneg j) hil
    rw [Int.toNat_natCast, Nat.mul_one] at hx
    have h2 := hb _ (gi_mem (l := l) (i := j) (by omega))
    have hw := i64_in (show -9223372036854775808 ≤ sumT l j + gi l j by omega) (show sumT l j + gi l j ≤ 9223372036854775807 by omega)
    simp only [gos, eq_self, Nat.reduceLT, Nat.reduceEqDiff, reduceCtorEq, reduceIte, ↓reduceIte, tt, vgo, vout, vguard, callOf, vop, ev, cv, vbin, vint, isShift, isNilConst, vload, vlen, vI, hil, hx, hw, Int.natCast_nonneg, Int.toNat_natCast, Nat.mul_one]
    refine Nx.mk (j + 1) (show l.length - (j + 1) < l.length - j by omega) (show j + 1 ≤ l.length by omega) (Wk.env ?_)
    rw [sumT_succ hil]
    simp [subE, Env.get, i64_succ (show (j : Int) < 9223372036854775807 by omega)]
  · have : j = l.length := by omega
    subst this
    simp only [gos, eq_self, Nat.reduceLT, Nat.reduceEqDiff, reduceCtorEq, reduceIte, ↓reduceIte, tt, vgo, vout, vguard, callOf, vop, ev, vbin, vint, isShift, isNilConst, vlen, vI, hil]
    subst hQ
    exact FnPost.plain trivial (fun h2 e => by first | rfl | (simp only [Tryz.f59, vres, vresL, vres1, e _, gos, if_true, if_false, ne_eq, eq_self, Nat.reduceLT, Nat.reduceEqDiff, Nat.reduceAdd, Nat.reduceMul, Nat.reduceLeDiff, Nat.reduceBEq, reduceCtorEq, reduceIte, Array.toList, ↓reduceIte, tt, vgo, vout, vgoD, voutD, vclsOk, vids, mayWrite, V.ids, V.mids, vguard, callOf, vop, ev, cv, vbin, vint, isShift, isNilConst, vnil, isNilSlice, vload, vlen, newRow, vfill, vslice, entOf, vappend, srcOf, vcopy, vlookup, vupdate, mapOk, keyOf, intsOf, clsAt]; try rfl)) (WkV.pure (by simp only [V.into])) ⟨rfl, rfl⟩
end Go.Vm

set_option linter.unusedVariables false
set_option linter.unusedSimpArgs false
set_option maxRecDepth 100000
namespace Go.Vm
open Go.Proofs
theorem c_r9Keeps (r : Rm) (l : List Tr2) (m : List Int) (h : MOk r m) (hl : (l.length : Int) ≤ 1000000) (hok : ∀ t ∈ l, TrOk r.cu t r.cu.coal (addL r.cu.want (rBk r m))) : Pu Tryz.prog (.fn 63 [] []) [.agg r.cs, vT l, vI m] (vi (rKe r l m)) := by
  refine Ev.fn Tryz.func63 rfl rfl (Fn.body tabOk Tryz.func63 rfl (Nat.le_of_ble_eq_true rfl) (Ks.ok (fz := (fzn [])) (cl := (cln [(1, .d tg0 [cP, cP, cP, cP, cP, cP, cP, cP, cP, cP, cP, cP, cP, cP, cP])])) tabOk mixed ?_))
  generalize hQ : FnPost tt Tryz.f63 _ _ = Q
  simp only [Tryz.f63, List.nil_append, List.append_nil, argsEnv, Nat.reduceAdd]
  simp only [gos, eq_self, Nat.reduceLT, reduceCtorEq, reduceIte, ↓reduceIte, vgo, vout, vguard, callOf, vop, ev, cv, newRow]
  refine Wr.draw (by kernel_rfl) ?_
  have hone : oneL r.cu.cs = true := rfl
  have h5 : (List.drop 5 r.cs).head? = some (vI r.cu.coal) := rfl
  simp only [gos, eq_self, Nat.reduceLT, Nat.reduceEqDiff, Nat.reduceAdd, Nat.reduceLeDiff, reduceCtorEq, reduceIte, ↓reduceIte, tt, vgoD, voutD, vclsOk, vids, mayWrite, V.ids, vguard, callOf, vop, ev, vload, clsAt, rms, h5]
  refine CD.pu (c_r9Buckets r m h.bu h.len fun x hx => by have := h.mb x hx; omega) ?_ rfl (by simp only [V.into, intoL, vI_into, Bool.and_true, rm_into])
  simp only [gos, eq_self, Nat.reduceLT, Nat.reduceEqDiff, reduceIte, ↓reduceIte, vgoD, voutD, vguard, callOf, ev]
  refine CD.pu (c_rSum r.cu.want (rBk r m) (by have := h.wl; have := h.len; omega) (by have := h.wl; simp [rBk]; omega) fun i hi => ?_) ?_ rfl (by simp only [intoL, vI_into, Bool.and_true])
  · have hm := h.mb _ (gi_mem (l := m) (i := i) (by have := h.wl; omega))
    have hw := h.wb _ (gi_mem (l := r.cu.want) (i := i) (by omega))
    have hb := h.bu
    have h1 : 0 ≤ r.bu * gi m i := Int.mul_nonneg hb.1 hm.1
    have h2 : r.bu * gi m i ≤ 1000 * 900 := Int.mul_le_mul hb.2 hm.2 hm.1 (by omega)
    rw [rBk_gi r m (by have := h.wl; omega)]
    omega
  simp only [gos, eq_self, Nat.reduceLT, Nat.reduceEqDiff, reduceIte, ↓reduceIte, vgoD, voutD, vguard, callOf, ev]
  refine CD.pu (c_rWholes r.cu l r.cu.coal (addL r.cu.want (rBk r m)) hl hok) ?_ rfl (by simp only [V.into, intoL, vI_into, cu_into, Bool.and_true, vT_into])
  simp only [gos, eq_self, Nat.reduceLT, reduceIte, ↓reduceIte, vgoD, voutD, vclsOk, vids, mayWrite, vguard, callOf, vop, ev]
  subst hQ
  exact FnPost.plain trivial (fun h2 e => by first | rfl | (simp only [Tryz.f63, vres, vresL, vres1, e _, gos, if_true, if_false, ne_eq, eq_self, Nat.reduceLT, Nat.reduceEqDiff, Nat.reduceAdd, Nat.reduceMul, Nat.reduceLeDiff, Nat.reduceBEq, reduceCtorEq, reduceIte, Array.toList, ↓reduceIte, tt, vgo, vout, vgoD, voutD, vclsOk, vids, mayWrite, V.ids, V.mids, vguard, callOf, vop, ev, cv, vbin, vint, isShift, isNilConst, vnil, isNilSlice, vload, vlen, newRow, vfill, vslice, entOf, vappend, srcOf, vcopy, vlookup, vupdate, mapOk, keyOf, intsOf, clsAt]; try rfl)) (WkV.pure (by simp only [V.into])) ⟨rfl, rfl⟩
theorem c_r9IsSure (r : Rm) (l : List Tr2) (m : List Int) (h : MOk r m) (hl : (l.length : Int) ≤ 1000000) (hok : rCanBe r m = true → ∀ t ∈ l, TrOk r.cu t r.cu.coal (addL r.cu.want (rBk r m))) : Pu Tryz.prog (.fn 45 [] []) [.agg r.cs, vT l, vI m] (.bool (rSureM r l m)) := by
  refine Ev.fn Tryz.func45 rfl rfl (Fn.body tabOk Tryz.func45 rfl (Nat.le_of_ble_eq_true rfl) (Ks.ok (fz := (fzn [])) (cl := (cln [])) tabOk mixed ?_))
  generalize hQ : FnPost tt Tryz.f45 _ _ = Q
  simp only [Tryz.f45, List.nil_append, List.append_nil, argsEnv, Nat.reduceAdd]
  simp only [gos, eq_self, Nat.reduceLT, Nat.reduceEqDiff, reduceCtorEq, reduceIte, ↓reduceIte, tt, vgo, vout, vguard, callOf, vop, ev, cv, vload, newRow, rms]
  refine Cl.pu (c_r9CanBe r m h.bu h.len (by have := h.wl; omega) h.wb fun x hx => by have := h.mb x hx; omega) ?_ rfl (by simp only [V.into, intoL, vI_into, Bool.and_true, rm_into])
  cases hc : rCanBe r m with
  | false =>
    simp only [gos, eq_self, Nat.reduceLT, Nat.reduceEqDiff, reduceIte, ↓reduceIte, vgo, vout, vguard, callOf, vop, ev, cv]
    subst hQ
    exact FnPost.plain trivial (fun h2 e => by first | rfl | (simp only [Tryz.f45, vres, vresL, vres1, e _, gos, if_true, if_false, ne_eq, eq_self, Nat.reduceLT, Nat.reduceEqDiff, Nat.reduceAdd, Nat.reduceMul, Nat.reduceLeDiff, Nat.reduceBEq, reduceCtorEq, reduceIte, Array.toList, ↓reduceIte, tt, vgo, vout, vgoD, voutD, vclsOk, vids, mayWrite, V.ids, V.mids, vguard, callOf, vop, ev, cv, vbin, vint, isShift, isNilConst, vnil, isNilSlice, vload, vlen, newRow, vfill, vslice, entOf, vappend, srcOf, vcopy, vlookup, vupdate, mapOk, keyOf, intsOf, clsAt]; try rfl)) (WkV.pure (by simp only [V.into])) ⟨by simp [rSureM, hc], rfl⟩
  | true =>
    simp only [gos, eq_self, Nat.reduceLT, Nat.reduceEqDiff, reduceCtorEq, reduceIte, ↓reduceIte, tt, vgo, vout, vguard, callOf, vop, ev, vload, rms]
    refine Cl.pu (c_r9Keeps r l m h hl (hok hc)) ?_ rfl (by simp only [V.into, intoL, vI_into, Bool.and_true, rm_into, vT_into])
    simp only [gos, eq_self, Nat.reduceLT, Nat.reduceEqDiff, reduceIte, ↓reduceIte, vgo, vout, vguard, callOf, vop, ev, cv, vbin, vint, isShift, isNilConst]
    subst hQ
    exact FnPost.plain trivial (fun h2 e => by first | rfl | (simp only [Tryz.f45, vres, vresL, vres1, e _, gos, if_true, if_false, ne_eq, eq_self, Nat.reduceLT, Nat.reduceEqDiff, Nat.reduceAdd, Nat.reduceMul, Nat.reduceLeDiff, Nat.reduceBEq, reduceCtorEq, reduceIte, Array.toList, ↓reduceIte, tt, vgo, vout, vgoD, voutD, vclsOk, vids, mayWrite, V.ids, V.mids, vguard, callOf, vop, ev, cv, vbin, vint, isShift, isNilConst, vnil, isNilSlice, vload, vlen, newRow, vfill, vslice, entOf, vappend, srcOf, vcopy, vlookup, vupdate, mapOk, keyOf, intsOf, clsAt]; try rfl)) (WkV.pure (by simp only [V.into])) ⟨by simp [rSureM, hc], rfl⟩
end Go.Vm

set_option linter.unusedVariables false
set_option linter.unusedSimpArgs false
set_option maxRecDepth 100000
namespace Go.Vm
open Go.Proofs
theorem powR5 {s : Int} (hs : 1 ≤ s ∧ s ≤ 6) : ∀ j : Nat, 1 ≤ s ^ j ∧ s ^ j ≤ 6 ^ j
  | 0 => by simp
  | j + 1 => by
    have ih := powR5 hs j
    rw [Int.pow_succ, Int.pow_succ]
    have h1 : 1 * 1 ≤ s ^ j * s := Int.mul_le_mul ih.1 hs.1 (by omega) (by omega)
    have h2 : s ^ j * s ≤ 6 ^ j * 6 := Int.mul_le_mul ih.2 hs.2 (by omega) (by omega)
    omega
theorem c_r9Others (r : Rm) (hl : 0 ≤ r.cu.last ∧ r.cu.last ≤ 4) (hp : 0 ≤ r.pl ∧ r.pl ≤ 5) : Pu Tryz.prog (.fn 55 [] []) [.agg r.cs] (vi ((r.pl + 1) ^ (r.cu.last + 1).toNat)) := by
  refine Ev.fn Tryz.func55 rfl rfl (Fn.body tabOk Tryz.func55 rfl (Nat.le_of_ble_eq_true rfl) (Ks.ok (fz := (fzn [])) (cl := (cln [])) tabOk mixed ?_))
  generalize hQ : FnPost tt Tryz.f55 _ _ = Q
  simp only [Tryz.f55, List.nil_append, List.append_nil, argsEnv]
  simp only [gos, eq_self, Nat.reduceLT, reduceIte, ↓reduceIte, vgo, vout, vguard, callOf, vop, ev, cv, newRow]
  refine W.loop tabOk mixed (fun i : Nat => ([(1, .rop r.cs), (3, vi ((r.pl + 1) ^ i)), (4, vi i)], [])) (fun i => (r.cu.last + 1).toNat - i) (fun i => i ≤ (r.cu.last + 1).toNat) 0 (Nat.zero_le _) (Wk.env (by simp [subE, Env.get])) ?_
  intro i hi
  by_cases hil : (i : Int) ≤ r.cu.last
  · have h1 := powR5 (s := r.pl + 1) (by omega) (i + 1)
    have h6 : (6 : Int) ^ (i + 1) ≤ 7776 := by
      have : ∀ i : Fin 5, (6 : Int) ^ ((i : Nat) + 1) ≤ 7776 := by decide
      exact this ⟨i, by omega⟩
    have hw0 : IntKind.i64.wrap (r.pl + 1) = r.pl + 1 := i64_in (by omega) (by omega)
    have hw : IntKind.i64.wrap ((r.pl + 1) ^ i * (r.pl + 1)) = (r.pl + 1) ^ (i + 1) := by rw [← Int.pow_succ]; exact (fun X h1 h2 => i64_in (by omega) (by omega) : ∀ X : Int, 1 ≤ X → X ≤ 7776 → IntKind.i64.wrap X = X) _ h1.1 (Int.le_trans h1.2 h6)
    simp only [gos, eq_self, Nat.reduceLT, Nat.reduceEqDiff, reduceCtorEq, reduceIte, ↓reduceIte, tt, vgo, vout, vguard, callOf, vop, ev, cv, vbin, vint, isShift, isNilConst, vload, rms, hil, hw0, hw]
    exact Nx.mk (i + 1) (show (r.cu.last + 1).toNat - (i + 1) < (r.cu.last + 1).toNat - i by omega) (show i + 1 ≤ (r.cu.last + 1).toNat by omega) (Wk.env (by simp [subE, Env.get, i64_succ (show (i : Int) < 9223372036854775807 by omega)]))
  · have hie : i = (r.cu.last + 1).toNat := by omega
    simp only [gos, eq_self, Nat.reduceLT, Nat.reduceEqDiff, reduceCtorEq, reduceIte, ↓reduceIte, tt, vgo, vout, vguard, callOf, vop, ev, vbin, vint, isShift, isNilConst, vload, rms, hil]
    subst hQ
    exact FnPost.plain trivial (fun h2 e => by first | rfl | (simp only [Tryz.f55, vres, vresL, vres1, e _, gos, if_true, if_false, ne_eq, eq_self, Nat.reduceLT, Nat.reduceEqDiff, Nat.reduceAdd, Nat.reduceMul, Nat.reduceLeDiff, Nat.reduceBEq, reduceCtorEq, reduceIte, Array.toList, ↓reduceIte, tt, vgo, vout, vgoD, voutD, vclsOk, vids, mayWrite, V.ids, V.mids, vguard, callOf, vop, ev, cv, vbin, vint, isShift, isNilConst, vnil, isNilSlice, vload, vlen, newRow, vfill, vslice, entOf, vappend, srcOf, vcopy, vlookup, vupdate, mapOk, keyOf, intsOf, clsAt]; try rfl)) (WkV.pure (by simp only [V.into])) ⟨by rw [hie], rfl⟩
end Go.Vm

set_option linter.unusedVariables false
set_option linter.unusedSimpArgs false
set_option maxRecDepth 100000
namespace Go.Vm
/-! ### what is sure in one room and in another -/
theorem check_of {x : Rm} (ha : sAsked x.cu true = 0) (hpl : 0 ≤ x.pl ∧ x.pl ≤ 5) (hbu : 1 ≤ x.bu ∧ x.bu ≤ 9) (hl : x.ba.length ≤ 5) (hb : ∀ b ∈ x.ba, 0 ≤ b.lo ∧ b.lo ≤ b.hi ∧ b.hi ≤ x.cu.last) : sCheckR x = 0 := by
  have h1 : ¬ (sAsked x.cu true ≠ 0) := by simp [ha]
  have h2 : ¬ (5 < x.pl ∨ 5 < (x.ba.length : Int)) := by omega
  have h3 : x.ba.all (sValid x) = true := by
    rw [List.all_eq_true]
    intro b hb2
    have := hb b hb2
    simp only [sValid, Bool.and_eq_true, decide_eq_true_eq]; omega
  have h4 : sIn x.bu 1 9 = true := by simp [sIn]; omega
  rw [sCheckR, if_neg h1, if_neg h2, h3, h4, if_neg (by simp; omega)]
theorem RmOk.check {r : Rm} (k : RmOk r) : sCheckR r = 0 := check_of k.ask k.pl k.bu k.len k.ba
theorem sure_room {r x : Rm} (k : RmOk r) (kx : RmOk x) (hl : x.cu.last = r.cu.last) (hw : x.cu.want = r.cu.want) (hpl : r.pl ≤ x.pl) (hbu : x.bu ≤ r.bu)
    (hT : ∀ w : List Int, rWholes r.cu (rTruths r.cu) r.cu.coal w = 1 → rWholes x.cu (rTruths x.cu) x.cu.coal w = 1)
    {n m : List Int} (h : ∀ i : Nat, (i : Int) ≤ r.cu.last → 0 ≤ gi m i ∧ gi m i ≤ gi n i) (hs : sSureN r n = true) : sSureN x m = true := by
  have hla := k.A.k0.last
  have hbx := kx.bu
  have hbr := k.bu
  simp only [sSureN, Bool.and_eq_true, decide_eq_true_eq] at hs
  have hmul : ∀ i : Nat, (i : Int) ≤ r.cu.last → 0 ≤ x.bu * gi m i ∧ x.bu * gi m i ≤ r.bu * gi n i := fun i hi => by
    have h1 := h i hi
    exact ⟨Int.mul_nonneg (by omega) h1.1, Int.mul_le_mul hbu h1.2 h1.1 (by omega)⟩
  have hp : sPossN x m = true := by
    have hp := hs.1
    rw [sPossN, List.all_eq_true] at hp ⊢
    intro i hi
    rw [hl] at hi
    have hi2 := List.mem_range.1 hi
    have h1 := h i (by omega)
    have h2 := hmul i (by omega)
    have h3 := hp i hi
    simp only [sRoom, Bool.or_eq_true, Bool.and_eq_true, decide_eq_true_eq] at h3 ⊢
    rw [hw]
    rcases h3 with h3 | ⟨h3, h4⟩
    · left; omega
    · right; omega
  simp only [sSureN, Bool.and_eq_true, decide_eq_true_eq]
  refine ⟨hp, ?_⟩
  rw [keV_eq kx (fun i hi => (h i (by omega)).1) hp, hw]
  have hkn := hs.2
  rw [keV_eq k (fun i hi => by have := h i hi; omega) hs.1] at hkn
  refine hT _ (more_one k.A.k0 k.ne (fun i hi => ?_) hkn)
  rw [nb_gi (by omega), nb_gi (by omega)]
  exact hmul i (by omega)
/-! a plan without some baths, by places -/
theorem pk_eq (b : Nat) (p : List Int) : pk b 0 p = ((List.range p.length).filter fun i => b.testBit i).map fun (i : Nat) => gi p i := by
  have e : ∀ n, n ≤ p.length → pk b 0 (p.take n) = ((List.range n).filter fun i => b.testBit i).map fun (i : Nat) => gi p i := by
    intro n
    induction n with
    | zero => intro _; simp [pk]
    | succ n ih =>
      intro hn
      rw [gi_take (by omega), pk_snoc, ih (by omega), List.length_take, Nat.min_eq_left (by omega), Nat.zero_add, List.range_succ, List.filter_append, List.map_append]
      congr 1
      simp only [List.filter_cons, List.filter_nil]
      split <;> rfl
  have := e p.length (Nat.le_refl _)
  rwa [List.take_length] at this
theorem pk_mem {b : Nat} {p : List Int} {x : Int} (h : x ∈ pk b 0 p) : ∃ j : Nat, j < p.length ∧ b.testBit j = true ∧ x = gi p j := by
  rw [pk_eq] at h
  simp only [List.mem_map, List.mem_filter, List.mem_range] at h
  obtain ⟨j, ⟨h1, h2⟩, rfl⟩ := h
  exact ⟨j, h1, h2, rfl⟩
theorem pk_congr {b : Nat} {p q : List Int} (hl : p.length = q.length) (h : ∀ j : Nat, j < p.length → b.testBit j = true → gi p j = gi q j) : pk b 0 p = pk b 0 q := by
  rw [pk_eq, pk_eq, ← hl]
  apply List.map_congr_left
  intro j hj
  simp only [List.mem_filter, List.mem_range] at hj
  exact h j hj.1 hj.2
theorem mem_rSuf (r : Rm) (b : Nat) : ∀ (k i : Nat) (p : List Int), p ∈ rSuf r b k i ↔ p.length = k ∧ ∀ j : Nat, j < k → if b.testBit (i + j) = true then (gR r.ba ((i + j : Nat) : Int)).lo ≤ gi p j ∧ gi p j ≤ (gR r.ba ((i + j : Nat) : Int)).hi else gi p j = 0
  | 0, i, p => by
    simp only [rSuf, List.mem_singleton]
    constructor
    · rintro rfl; exact ⟨rfl, fun j hj => by omega⟩
    · rintro ⟨h, _⟩; exact List.length_eq_zero_iff.1 h
  | k + 1, i, p => by
    have ih := mem_rSuf r b k (i + 1)
    have hgi0 : ∀ (x : Int) (q : List Int), gi (x :: q) (0 : Nat) = x := fun x q => rfl
    have hgis : ∀ (x : Int) (q : List Int) (j : Nat), gi (x :: q) ((j + 1 : Nat) : Int) = gi q j := fun x q j => by simp only [gi, Int.toNat_natCast, List.getD_cons_succ]
    rw [rSuf]
    constructor
    · intro h
      obtain ⟨x, q, hq, rfl, hx⟩ : ∃ x q, q ∈ rSuf r b k (i + 1) ∧ p = x :: q ∧ if b.testBit i = true then (gR r.ba i).lo ≤ x ∧ x ≤ (gR r.ba i).hi else x = 0 := by
        split at h
        · simp only [List.mem_flatMap, List.mem_map] at h
          obtain ⟨x, hx, q, hq, rfl⟩ := h
          rename_i hb
          exact ⟨x, q, hq, rfl, by rw [if_pos hb]; exact mem_rangeI.1 hx⟩
        · obtain ⟨q, hq, rfl⟩ := List.mem_map.1 h
          rename_i hb
          exact ⟨0, q, hq, rfl, by rw [if_neg hb]⟩
      obtain ⟨h1, h2⟩ := (ih q).1 hq
      refine ⟨by simp [h1], fun j hj => ?_⟩
      cases j with
      | zero => rw [Nat.add_zero, hgi0]; exact hx
      | succ j =>
        rw [hgis]
        have := h2 j (by omega)
        rw [show i + 1 + j = i + (j + 1) by omega] at this
        exact this
    · rintro ⟨h1, h2⟩
      cases p with
      | nil => simp at h1
      | cons x q =>
        have h0 := h2 0 (by omega)
        rw [Nat.add_zero, hgi0] at h0
        have hq : q ∈ rSuf r b k (i + 1) := (ih q).2 ⟨by simpa using h1, fun j hj => by
          have := h2 (j + 1) (by omega)
          rw [hgis, show i + (j + 1) = i + 1 + j by omega] at this
          exact this⟩
        split
        · rename_i hb
          rw [if_pos hb] at h0
          simp only [List.mem_flatMap, List.mem_map]
          exact ⟨x, mem_rangeI.2 h0, q, hq, rfl⟩
        · rename_i hb
          rw [if_neg hb] at h0
          exact List.mem_map.2 ⟨q, hq, by rw [h0]⟩
theorem pk_range {r : Rm} (k : RmOk r) {b : Nat} {p : List Int} (hl : p.length = r.ba.length) (h : ∀ j : Nat, j < r.ba.length → b.testBit j = true → (gR r.ba j).lo ≤ gi p j ∧ gi p j ≤ (gR r.ba j).hi) : ∀ x ∈ pk b 0 p, 0 ≤ x ∧ x ≤ r.cu.last := fun x hx => by
  obtain ⟨j, h1, h2, rfl⟩ := pk_mem hx
  have h3 := h j (by omega) h2
  have h4 := k.ba _ (List.mem_of_getElem? (gR_get (show (j : Int) < r.ba.length by omega)))
  omega
theorem rest_iff {r : Rm} (k : RmOk r) {b : Nat} : restN r b = true ↔ ∃ p : List Int, p.length = r.ba.length ∧ (∀ j : Nat, j < r.ba.length → b.testBit j = true → (gR r.ba j).lo ≤ gi p j ∧ gi p j ≤ (gR r.ba j).hi) ∧ sSureN r (cntN (pk b 0 p)) = true := by
  rw [restN, Bool.not_eq_true', List.isEmpty_eq_false_iff]
  constructor
  · intro h
    obtain ⟨p, hp⟩ := List.exists_mem_of_ne_nil _ h
    rw [rSures, rPlansF_suf, List.mem_filter] at hp
    obtain ⟨h1, h2⟩ := hp
    obtain ⟨q, hq, rfl⟩ := List.mem_map.1 h1
    obtain ⟨g1, g2⟩ := (mem_rSuf r b _ _ q).1 hq
    rw [List.nil_append] at h2
    have hin : ∀ j : Nat, j < r.ba.length → b.testBit j = true → (gR r.ba j).lo ≤ gi q j ∧ gi q j ≤ (gR r.ba j).hi := fun j hj hb => by
      have := g2 j hj
      simp only [List.length_nil, Nat.zero_add] at this
      rw [if_pos hb] at this
      exact this
    exact ⟨q, g1, hin, by rw [(num_ref k (pk_range k g1 hin) (rNum_eq r q b)).2.2]; exact h2⟩
  · rintro ⟨p, hl, hin, hs⟩
    let q : List Int := (List.range r.ba.length).map fun j => if b.testBit j = true then gi p j else 0
    have hql : q.length = r.ba.length := by simp [q]
    have hqg : ∀ j : Nat, j < r.ba.length → gi q j = if b.testBit j = true then gi p j else 0 := fun j hj => gi_map hj
    have hpk : pk b 0 q = pk b 0 p := pk_congr (by omega) fun j hj hb => by rw [hqg j (by omega), if_pos hb]
    have hin2 : ∀ j : Nat, j < r.ba.length → b.testBit j = true → (gR r.ba j).lo ≤ gi q j ∧ gi q j ≤ (gR r.ba j).hi := fun j hj hb => by rw [hqg j hj, if_pos hb]; exact hin j hj hb
    refine List.ne_nil_of_mem (a := q) ?_
    rw [rSures, rPlansF_suf, List.mem_filter]
    refine ⟨List.mem_map.2 ⟨q, (mem_rSuf r b _ _ q).2 ⟨hql, fun j hj => ?_⟩, List.nil_append q⟩, ?_⟩
    · simp only [List.length_nil, Nat.zero_add]
      rw [hqg j hj]
      split
      · rename_i hb; exact hin j hj hb
      · rfl
    · rw [← (num_ref k (pk_range k hql hin2) (rNum_eq r q b)).2.2, hpk]
      exact hs
end Go.Vm

set_option linter.unusedVariables false
set_option linter.unusedSimpArgs false
set_option maxRecDepth 100000
namespace Go.Vm
/-! ### a room whose coppers have more coal, and no readings -/
def rmC (r : Rm) (l : List Int) : Rm := { r with cu := { r.cu with coal := l } }
structure MoreC (r : Rm) (l : List Int) : Prop where
  dry : r.cu.readings = []
  len : (l.length : Int) = r.cu.last + 1
  sh : ∀ x ∈ l, 0 ≤ x ∧ x ≤ r.cu.shovels
  le : ∀ i : Nat, (i : Int) ≤ r.cu.last → gi r.cu.coal i ≤ gi l i
theorem coal_okR {r : Rm} (k : RmOk r) {l : List Int} (h1 : (l.length : Int) = r.cu.last + 1) (h2 : ∀ x ∈ l, 0 ≤ x ∧ x ≤ r.cu.shovels) : CuOk (rmC r l).cu :=
  have k0 := k.A.k0
  ⟨k0.last, k0.rds, k0.most, k0.start, k0.per, k0.shovels, ⟨h1, h2⟩, k0.want, k0.heat, k0.loss, k0.readings, k0.many⟩
theorem rmC_ok {r : Rm} (k : RmOk r) (hd : r.cu.readings = []) {l : List Int} (h1 : (l.length : Int) = r.cu.last + 1) (h2 : ∀ x ∈ l, 0 ≤ x ∧ x ≤ r.cu.shovels) : RmOk (rmC r l) :=
  have ha := dry_asked (coal_okR k h1 h2) hd
  ⟨ha, askOk_of ha, k.pl, k.bu, k.len, k.ba⟩
theorem MoreC.ok {r : Rm} {l : List Int} (M : MoreC r l) (k : RmOk r) : RmOk (rmC r l) := rmC_ok k M.dry M.len M.sh
theorem MoreC.sure {r : Rm} {l : List Int} (M : MoreC r l) (k : RmOk r) {n : List Int} (h0 : ∀ i : Nat, (i : Int) ≤ r.cu.last → 0 ≤ gi n i) (hs : sSureN r n = true) : sSureN (rmC r l) n = true := by
  have k0 := k.A.k0
  have kx := M.ok k
  refine sure_room k kx rfl rfl (Int.le_refl _) (Int.le_refl _) (fun w hw => ?_) (fun i hi => ⟨h0 i hi, Int.le_refl _⟩) hs
  rw [wholes_one k.ne] at hw
  rw [wholes_one kx.ne]
  intro t ht
  rw [truths_dry r.cu (rmC r l).cu rfl rfl M.dry M.dry] at ht
  rw [whole_cu r.cu (rmC r l).cu rfl rfl rfl rfl]
  refine whole_coal k0.per.1 (rTr_ok k0 _ t ht).sc.heat.1 (fun i hi => ?_) (hw t ht)
  have h1 := k0.coal.2 _ (gi_mem (l := r.cu.coal) (i := i) (by have := k0.coal.1; omega))
  exact ⟨h1.1, M.le i (by omega)⟩
theorem zL_ge (i : Nat) : 0 ≤ gi zL i := by rw [zL_gi]; omega
theorem MoreC.rest {r : Rm} {l : List Int} (M : MoreC r l) (k : RmOk r) {b : Nat} (h : restN r b = true) : restN (rmC r l) b = true := by
  obtain ⟨p, h1, h2, h3⟩ := (rest_iff k).1 h
  exact (rest_iff (M.ok k)).2 ⟨p, h1, h2, M.sure k (fun i _ => (num_same k (pk_range k h1 h2) i).2) h3⟩
theorem MoreC.most {r : Rm} {l : List Int} (M : MoreC r l) (k : RmOk r) (hs : sSureN r zL = true) : (mostF r).sum ≤ (mostF (rmC r l)).sum := by
  have kx := M.ok k
  have hx := M.sure k (fun i _ => zL_ge i) hs
  have h1 := (mostF_spec k hs).1
  have h2 : mostF r ∈ sureL (rmC r l) := by
    rw [sureL, List.mem_filter] at h1 ⊢
    refine ⟨h1.1, M.sure k (fun i _ => ?_) h1.2⟩
    rw [pad5_gi]
    exact gi_ge0 (fun y hy => ((digs_mem.1 h1.1).2 y hy).1) i
  rcases (mostF_spec kx hx).2 _ h2 with h | ⟨h, _⟩ <;> omega
theorem mostR_eq {r : Rm} (k : RmOk r) : sMostR r = if sSureN r zL = true then (mostF r, 0) else ([], 10) := by
  rw [sMostR, if_pos k.check]
  cases hs : sSureN r zL with
  | true => rw [if_pos rfl, if_pos rfl, most_eq k hs]
  | false => rfl
theorem mostF_ok {r : Rm} (k : RmOk r) (hs : sSureN r zL = true) : (mostF r).length = (r.cu.last + 1).toNat ∧ ∀ x ∈ mostF r, 0 ≤ x ∧ x ≤ 5 := by
  have h1 := (mostF_spec k hs).1
  rw [sureL, List.mem_filter] at h1
  have h2 := digs_mem.1 h1.1
  exact ⟨h2.1, fun x hx => by have := h2.2 x hx; have := k.pl; omega⟩
theorem sumT_sum (l : List Int) : sumT l l.length = l.sum := by
  have e : ∀ (m : List Int) (n : Int), m.foldl (· + ·) n = n + m.sum := by
    intro m
    induction m with
    | nil => intro n; simp
    | cons x m ih => intro n; rw [List.foldl_cons, ih, List.sum_cons]; omega
  rw [sumT, List.take_length, e]; omega
end Go.Vm

set_option linter.unusedVariables false
set_option linter.unusedSimpArgs false
set_option maxRecDepth 100000
namespace Go.Vm
open Go.Proofs
/-! ### numbers of baths by a number; the most of the reference -/
theorem rOther_len (r : Rm) (n : Int) : (rOther r n).length = (r.cu.last + 1).toNat := lowD_len _ _ _
theorem rOther_ok {r : Rm} (k : RmOk r) {n : Int} (hn : 0 ≤ n) : ((rOther r n).length : Int) = r.cu.last + 1 ∧ ∀ x ∈ rOther r n, 0 ≤ x ∧ x ≤ r.pl :=
  ⟨by rw [rOther_len]; have := k.A.k0.last; omega, fun x hx => by have := lowD_ok hn (s := r.pl + 1) (by have := k.pl; omega) _ x hx; omega⟩
set_option maxHeartbeats 1000000 in
theorem c_r9Other0 (r : Rm) (k : RmOk r) (n : Int) (hn : 0 ≤ n ∧ n ≤ 100000) : Ev Tryz.prog (.fn 54 [] []) [.agg r.cs, vi n] [] fun v h' => v = .own 11 0 0 1 (r.cu.last + 1).toNat ∧ h' = [(11, ⟨0, .row (cI (rOther r n))⟩)] := by
  have hl := k.A.k0.last
  have hs := k.pl
  have hge : 0 ≤ r.cu.last + 1 := by omega
  have hle : r.cu.last + 1 ≤ 1000000 := by omega
  refine Ev.fn Tryz.func54 rfl rfl (Fn.body tabOk Tryz.func54 rfl (Nat.le_of_ble_eq_true rfl) (Ks.ok (fz := (fzn [])) (cl := (cln [(5, .d tg0 [cP, cP, cP, cP, cP, cP, cP, cP, cP, cP, cP, cP, cP, cW, cP])])) tabOk mixed ?_))
  generalize hQ : FnPost tt Tryz.f54 _ _ = Q
  simp only [Tryz.f54, List.nil_append, List.append_nil, argsEnv, Nat.reduceAdd]
  have hz : zeros [V.int IntKind.i64 0] (r.cu.last + 1).toNat = cI (List.replicate (r.cu.last + 1).toNat 0) := zeros_vi _
  simp only [gos, eq_self, Nat.reduceLT, Nat.reduceEqDiff, Nat.reduceLeDiff, reduceCtorEq, reduceIte, ↓reduceIte, tt, vgo, vout, vguard, callOf, vop, ev, cv, vbin, vint, isShift, isNilConst, vload, newRow, rms, i64_in (show -9223372036854775808 ≤ r.cu.last + 1 by omega) (show r.cu.last + 1 ≤ 9223372036854775807 by omega), hge, hle, hz]
  refine W.loop tabOk mixed (fun j : Nat => ([(1, vi (dvN (r.pl + 1) n j)), (2, .rop r.cs), (5, .own 11 0 0 1 (r.cu.last + 1).toNat), (6, vi (r.cu.last - j))], [(11, ⟨0, .row (cI (List.replicate ((r.cu.last + 1).toNat - j) 0 ++ lowD (r.pl + 1) n j))⟩)])) (fun j => (r.cu.last + 1).toNat - j) (fun j => j ≤ (r.cu.last + 1).toNat) 0 (by omega) (Wk.heap (fun i => by simp [lowD]) (by simp [subE, Env.get, dvN])) ?_
  intro j hj
  by_cases hjl : (j : Int) ≤ r.cu.last
  · have h0 : 0 ≤ r.cu.last - j := by omega
    have h1 : r.cu.last - j < ((r.cu.last + 1).toNat : Int) := by omega
    have hd := dvN_ge hn.1 (s := r.pl + 1) (by omega) j
    have hz : ¬ r.pl + 1 = 0 := by omega
    have ht : (r.cu.last - (j : Int)).toNat = (r.cu.last + 1).toNat - (j + 1) := by omega
    have hlen : (r.cu.last + 1).toNat - (j + 1) + 1 ≤ (cI (List.replicate ((r.cu.last + 1).toNat - j) 0 ++ lowD (r.pl + 1) n j)).length := by
      rw [cI_len, List.length_append, List.length_replicate]; omega
    have hset : List.take ((r.cu.last + 1).toNat - (j + 1)) (cI (List.replicate ((r.cu.last + 1).toNat - j) 0 ++ lowD (r.pl + 1) n j)) ++ [V.int IntKind.i64 ((dvN (r.pl + 1) n j).tmod (r.pl + 1))] ++ List.drop ((r.cu.last + 1).toNat - (j + 1) + 1) (cI (List.replicate ((r.cu.last + 1).toNat - j) 0 ++ lowD (r.pl + 1) n j)) = cI (List.replicate ((r.cu.last + 1).toNat - (j + 1)) 0 ++ lowD (r.pl + 1) n (j + 1)) := by
      have e : List.replicate ((r.cu.last + 1).toNat - j) (0 : Int) = List.replicate ((r.cu.last + 1).toNat - (j + 1)) 0 ++ [0] := by
        rw [show (r.cu.last + 1).toNat - j = (r.cu.last + 1).toNat - (j + 1) + 1 by omega, List.replicate_succ']
      rw [cI_set _ (by rw [List.length_append, List.length_replicate]; omega), e, lowD]
      congr 1
      rw [List.append_assoc, List.set_append, if_neg (by simp)]
      simp
    have hdv : 0 ≤ (dvN (r.pl + 1) n j).tdiv (r.pl + 1) := Int.tdiv_nonneg hd.1 (by omega)
    have hdl := Int.tdiv_le_self (r.pl + 1) hd.1
    simp only [gos, eq_self, Nat.reduceLT, Nat.reduceEqDiff, reduceIte, ↓reduceIte, vgo, vout, vguard, callOf, vop, ev, cv, vbin, vint, isShift, isNilConst, h0]
    refine Wr.draw (by kernel_rfl) ?_
    simp only [gos, eq_self, Nat.reduceLT, Nat.reduceEqDiff, Nat.reduceAdd, reduceCtorEq, reduceIte, ↓reduceIte, tt, vgo, vout, vgoD, voutD, vclsOk, vids, mayWrite, V.ids, vguard, callOf, vop, ev, cv, vbin, vint, isShift, isNilConst, vload, clsAt, rms, hz, h0, h1, ht, hlen, Nat.zero_add, Nat.mul_one, i64_in (show -9223372036854775808 ≤ r.pl + 1 by omega) (show r.pl + 1 ≤ 9223372036854775807 by omega), i64_in (show -9223372036854775808 ≤ (dvN (r.pl + 1) n j).tdiv (r.pl + 1) by omega) (show (dvN (r.pl + 1) n j).tdiv (r.pl + 1) ≤ 9223372036854775807 by omega)]
    rw [hset]
    exact Nx.mk (j + 1) (show (r.cu.last + 1).toNat - (j + 1) < (r.cu.last + 1).toNat - j by omega) (by omega) (Wk.env (by simp [subE, Env.get, dvN, i64_in (show -9223372036854775808 ≤ r.cu.last - j - 1 by omega) (show r.cu.last - j - 1 ≤ 9223372036854775807 by omega)]; omega))
  · have h0 : ¬ 0 ≤ r.cu.last - j := by omega
    have e : (r.cu.last + 1).toNat = j := by omega
    simp only [gos, eq_self, Nat.reduceLT, Nat.reduceEqDiff, reduceIte, ↓reduceIte, vgo, vout, vguard, callOf, vop, ev, cv, vbin, vint, isShift, isNilConst, h0]
    subst hQ
    refine FnPost.plain trivial (v := .own 11 0 0 1 (r.cu.last + 1).toNat) (fun h2 e => by rfl) WkV.refl ⟨rfl, ?_⟩
    rw [rOther, e]; simp
theorem c_r9Other (r : Rm) (k : RmOk r) (n : Int) (hn : 0 ≤ n ∧ n ≤ 100000) : Pu Tryz.prog (.fn 54 [] []) [.agg r.cs, vi n] (vI (rOther r n)) :=
  (c_r9Other0 r k n hn).weakV fun v h' ⟨e1, e2⟩ => by
    subst e1; subst e2
    have hl := rOther_len r n
    have ht : (cI (rOther r n)).take (r.cu.last + 1).toNat = cI (rOther r n) := List.take_of_length_le (by rw [cI_len]; omega)
    refine ⟨vI (rOther r n), [], WkV.frz 11 (v' := vI (rOther r n)) (h' := []) (ver := 0) (cs := cI (rOther r n)) rfl rfl (cI_into _ _) rfl ?_ ?_ WkV.refl, rfl, rfl⟩
    · simp [V.frz, vI, ht, hl]
    · simp [frzH]
theorem rOthers_int (r : Rm) (h : 0 ≤ r.pl) : ((rOthers r : Nat) : Int) = (r.pl + 1) ^ (r.cu.last + 1).toNat := by
  rw [rOthers, Int.natCast_pow, show (((r.pl + 1).toNat : Nat) : Int) = r.pl + 1 by omega]
theorem rOthers_le {r : Rm} (k : RmOk r) : 1 ≤ rOthers r ∧ rOthers r ≤ 7776 := by
  have hl := k.A.k0.last
  have hp := k.pl
  have h1 := powR5 (s := r.pl + 1) (by omega) (r.cu.last + 1).toNat
  have h6 : (6 : Int) ^ (r.cu.last + 1).toNat ≤ 7776 := by
    have : ∀ i : Fin 6, (6 : Int) ^ (i : Nat) ≤ 7776 := by decide
    exact this ⟨(r.cu.last + 1).toNat, by omega⟩
  rw [← rOthers_int r hp.1] at h1
  omega
theorem other_mok {r : Rm} (k : RmOk r) {n : List Int} (hn : (n.length : Int) = r.cu.last + 1 ∧ ∀ x ∈ n, 0 ≤ x ∧ x ≤ r.pl) : MOk r n := by
  have hl := k.A.k0.last
  have hp := k.pl
  have hb := k.bu
  have hw := k.A.k0.want
  exact ⟨by omega, by omega, by omega, fun x hx => by have := hw.2 x hx; omega, fun x hx => by have := hn.2 x hx; omega⟩
def moreO (x : List Int) : Option (List Int) → Bool
  | none => true
  | some b => decide (b.sum < x.sum)
theorem rMostS_def (r : Rm) (l : List Tr2) (o : Option (List Int)) (x : List Int) : rMostS r l o x = if (moreO x o && rSureM r l x) = true then some x else o := by cases o <;> rfl
theorem rMostN_ok {r : Rm} (k : RmOk r) (l : List Tr2) : ∀ i b, rMostN r l i = some b → (b.length : Int) = r.cu.last + 1 ∧ ∀ x ∈ b, 0 ≤ x ∧ x ≤ r.pl
  | 0, b, h => by simp [rMostN] at h
  | i + 1, b, h => by
    rw [rMostN_succ, rMostS_def] at h
    split at h
    · injection h with h; subst h; exact rOther_ok k (Int.natCast_nonneg i)
    · exact rMostN_ok k l i b h
set_option maxHeartbeats 2000000 in
theorem c_r9Most (r : Rm) (k : RmOk r) (l : List Tr2) (hl : (l.length : Int) ≤ 1000000) (hok : ∀ m : List Int, (m.length : Int) = r.cu.last + 1 → (∀ x ∈ m, 0 ≤ x) → rCanBe r m = true → ∀ t ∈ l, TrOk r.cu t r.cu.coal (addL r.cu.want (rBk r m))) : Pu Tryz.prog (.fn 42 [] []) [.agg r.cs, vT l] (.tup [vI ((rMost r l).getD []), .bool (rMost r l).isSome]) := by
  have hC := rOthers_le k
  have hCi := rOthers_int r k.pl.1
  have hpl := k.pl
  have hla := k.A.k0.last
  refine Ev.fn Tryz.func42 rfl rfl (Fn.body tabOk Tryz.func42 rfl (Nat.le_of_ble_eq_true rfl) (Ks.ok (fz := (fzn [])) (cl := (cln [])) tabOk mixed ?_))
  generalize hQ : FnPost tt Tryz.f42 _ _ = Q
  simp only [Tryz.f42, List.nil_append, List.append_nil, argsEnv, Nat.reduceAdd]
  simp only [gos, eq_self, Nat.reduceLT, reduceIte, ↓reduceIte, vgo, vout, vguard, callOf, vop, ev, cv, newRow]
  refine W.loop tabOk mixed (fun i : Nat => ([(1, vT l), (2, .rop r.cs), (6, bV (rMostN r l i)), (7, .bool (rMostN r l i).isSome), (8, vi i)], [])) (fun i => rOthers r - i) (fun i => i ≤ rOthers r) 0 (by omega) (Wk.env (by simp [subE, Env.get, rMostN, bV])) ?_
  intro i hi
  simp only [gos, eq_self, Nat.reduceLT, Nat.reduceEqDiff, reduceCtorEq, reduceIte, ↓reduceIte, tt, vgo, vout, vguard, callOf, vop, ev, vload, rms]
  refine Cl.pu (c_r9Others r hla hpl) ?_ rfl (by simp only [V.into, intoL, Bool.and_true, rm_into])
  rw [← hCi]
  by_cases hil : (i : Int) < (rOthers r : Nat)
  · have hx := rOther_ok k (n := i) (by omega)
    have hstep := rMostN_succ r l i
    have hprev := rMostN_ok k l i
    have hsucc := i64_succ (show (i : Int) < 9223372036854775807 by omega)
    have hW := c_r9IsSure r l (rOther r i) (other_mok k hx) hl (hok _ hx.1 fun y hy => (hx.2 y hy).1)
    simp only [gos, eq_self, Nat.reduceLT, Nat.reduceEqDiff, reduceCtorEq, reduceIte, ↓reduceIte, tt, vgo, vout, vguard, callOf, vop, ev, vbin, vint, isShift, isNilConst, vload, rms, hil]
    refine Cl.pu (c_r9Other r k i (by omega)) ?_ rfl (by simp only [V.into, intoL, Bool.and_true, rm_into])
    generalize hxe : rOther r i = x at hx hstep hW ⊢
    cases ho : rMostN r l i with
    | none =>
      rw [ho, rMostS_def, moreO, Bool.true_and] at hstep
      simp only [gos, eq_self, Nat.reduceLT, Nat.reduceEqDiff, reduceCtorEq, reduceIte, ↓reduceIte, tt, vgo, vout, vguard, callOf, vop, ev, cv, vload, rms, bV, Option.isSome]
      refine Cl.pu hW ?_ rfl (by simp only [V.into, intoL, vI_into, Bool.and_true, vT_into, rm_into])
      cases hb : rSureM r l x with
      | true =>
        rw [hb, if_pos rfl] at hstep
        simp only [gos, eq_self, Nat.reduceLT, Nat.reduceEqDiff, reduceIte, ↓reduceIte, vgo, vout, vguard, callOf, vop, ev, cv, vbin, vint, isShift, isNilConst]
        exact Nx.mk (i + 1) (show rOthers r - (i + 1) < rOthers r - i by omega) (by omega) (by rw [hstep]; exact Wk.env (by simp [subE, Env.get, hsucc]))
      | false =>
        rw [hb, if_neg (by simp)] at hstep
        simp only [gos, eq_self, Nat.reduceLT, Nat.reduceEqDiff, reduceIte, ↓reduceIte, vgo, vout, vguard, callOf, vop, ev, cv, vbin, vint, isShift, isNilConst]
        exact Nx.mk (i + 1) (show rOthers r - (i + 1) < rOthers r - i by omega) (by omega) (by rw [hstep]; exact Wk.env (by simp [subE, Env.get, hsucc]))
    | some b =>
      have hbo := hprev b ho
      rw [ho, rMostS_def, moreO] at hstep
      simp only [gos, eq_self, Nat.reduceLT, Nat.reduceEqDiff, reduceIte, ↓reduceIte, vgo, vout, vguard, callOf, vop, ev, bV, Option.isSome]
      refine Cl.pu (c_r9Sum x (by omega) (fun y hy => by have := hx.2 y hy; omega)) ?_ rfl (by simp only [intoL, vI_into, Bool.and_true])
      simp only [gos, eq_self, Nat.reduceLT, Nat.reduceEqDiff, reduceIte, ↓reduceIte, vgo, vout, vguard, callOf, vop, ev]
      refine Cl.pu (c_r9Sum b (by omega) (fun y hy => by have := hbo.2 y hy; omega)) ?_ rfl (by simp only [intoL, vI_into, Bool.and_true])
      rw [sumT_sum, sumT_sum]
      by_cases hs : b.sum < x.sum
      · have hsd : decide (b.sum < x.sum) = true := by simp [hs]
        rw [hsd, Bool.true_and] at hstep
        simp only [gos, eq_self, Nat.reduceLT, Nat.reduceEqDiff, reduceCtorEq, reduceIte, ↓reduceIte, tt, vgo, vout, vguard, callOf, vop, ev, vbin, vint, isShift, isNilConst, vload, rms, hs]
        refine Cl.pu hW ?_ rfl (by simp only [V.into, intoL, vI_into, Bool.and_true, vT_into, rm_into])
        cases hb : rSureM r l x with
        | true =>
          rw [hb, if_pos rfl] at hstep
          simp only [gos, eq_self, Nat.reduceLT, Nat.reduceEqDiff, reduceIte, ↓reduceIte, vgo, vout, vguard, callOf, vop, ev, cv, vbin, vint, isShift, isNilConst]
          exact Nx.mk (i + 1) (show rOthers r - (i + 1) < rOthers r - i by omega) (by omega) (by rw [hstep]; exact Wk.env (by simp [subE, Env.get, hsucc]))
        | false =>
          rw [hb, if_neg (by simp)] at hstep
          simp only [gos, eq_self, Nat.reduceLT, Nat.reduceEqDiff, reduceIte, ↓reduceIte, vgo, vout, vguard, callOf, vop, ev, cv, vbin, vint, isShift, isNilConst]
          exact Nx.mk (i + 1) (show rOthers r - (i + 1) < rOthers r - i by omega) (by omega) (by rw [hstep]; exact Wk.env (by simp [subE, Env.get, hsucc]))
      · have hsd : decide (b.sum < x.sum) = false := by simp [hs]
        rw [hsd, Bool.false_and, if_neg (by simp)] at hstep
        simp only [gos, eq_self, Nat.reduceLT, Nat.reduceEqDiff, reduceIte, ↓reduceIte, vgo, vout, vguard, callOf, vop, ev, cv, vbin, vint, isShift, isNilConst, hs]
        exact Nx.mk (i + 1) (show rOthers r - (i + 1) < rOthers r - i by omega) (by omega) (by rw [hstep]; exact Wk.env (by simp [subE, Env.get, hsucc]))
  · have hie : rOthers r = i := by omega
    simp only [gos, eq_self, Nat.reduceLT, Nat.reduceEqDiff, reduceIte, ↓reduceIte, vgo, vout, vguard, callOf, vop, ev, vbin, vint, isShift, isNilConst, hil]
    subst hQ
    rw [rMost, hie]
    cases ho : rMostN r l i with
    | none => exact FnPost.plain trivial (v := .tup [.sl0, .bool false]) (fun h2 e => by rfl) WkV.nil1 ⟨rfl, rfl⟩
    | some b => exact FnPost.plain trivial (v := .tup [vI b, .bool true]) (fun h2 e => by rfl) WkV.refl ⟨rfl, rfl⟩
end Go.Vm

set_option linter.unusedVariables false
set_option linter.unusedSimpArgs false
set_option maxRecDepth 100000
namespace Go.Vm
open Go.Proofs
set_option maxHeartbeats 2000000 in
theorem l_BathMost (r : Rm) (hl : I64 r.cu.last) : Vm.Fn Tryz.prog 6 [.agg r.cs] [] fun v h' => v = .bool true := by
  refine Fn.body tabOk Tryz.func6 rfl (Nat.le_of_ble_eq_true rfl) (Ks.ok (fz := (fzn [])) (cl := (cln [(7, .d tg0 [cP, cP, cP, cP, cP, cP, cP, cP, cP, cP])])) tabOk mixed ?_)
  generalize hQ : FnPost tt Tryz.f6 _ _ = Q
  simp only [Tryz.f6, argsEnv]
  simp only [gos, eq_self, Nat.reduceLT, Nat.reduceEqDiff, reduceCtorEq, reduceIte, ↓reduceIte, tt, vgo, vout, vguard, callOf, vop, ev, cv, vload, newRow, rms]
  refine Cl.pu (c_Thin9 r hl) ?_ rfl (by simp only [V.into, intoL, Bool.and_true, rm_into])
  cases ht : sThinR r with
  | false =>
    simp only [gos, eq_self, Nat.reduceLT, Nat.reduceEqDiff, reduceIte, ↓reduceIte, vgo, vout, vguard, callOf, vop, ev]
    refine Cl.pu c_awake9 ?_
    simp only [gos, eq_self, Nat.reduceLT, reduceIte, ↓reduceIte, vgo, vout, vguard, callOf, vop, ev]
    subst hQ
    exact FnPost.plain trivial (v := .bool true) (fun h2 e => by rfl) WkV.refl rfl
  | true =>
    have hr := thinR_wf hl ht
    have hone : oneL r.cu.cs = true := rfl
    simp only [gos, eq_self, Nat.reduceLT, Nat.reduceEqDiff, reduceCtorEq, reduceIte, ↓reduceIte, tt, vgo, vout, vguard, callOf, vop, ev, vload, rms]
    refine Cl.pu (c_Room r hr) ?_ rfl (by simp only [V.into, intoL, Bool.and_true, rm_into])
    simp only [gos, eq_self, Nat.reduceLT, reduceIte, ↓reduceIte, vgo, vout, vguard, callOf, ev]
    refine Cl.pu (c_bMost r hr) ?_ rfl (by simp only [V.into, intoL, Bool.and_true, rm_into])
    simp only [gos, eq_self, Nat.reduceLT, Nat.reduceEqDiff, reduceCtorEq, reduceIte, ↓reduceIte, tt, vgo, vout, vguard, callOf, vop, ev, vload, rms]
    refine Cl.pu (c_fault9 r hr) ?_ rfl (by simp only [V.into, intoL, Bool.and_true, rm_into])
    by_cases h0 : sCheckR r = 0
    case neg =>
      have e1 : sMostR r = ([], sCheckR r) := by rw [sMostR, if_neg h0]
      have z1 : (sCheckR r != 0) = true := by simp [h0]
      have z2 : decide (sCheckR r = sCheckR r) = true := by simp
      have z3 : decide (((List.length ([] : List Int) : Nat) : Int) = 0) = true := rfl
      rw [e1]
      simp only [gos, eq_self, Nat.reduceLT, Nat.reduceEqDiff, reduceIte, ↓reduceIte, tt, vgo, vout, vguard, callOf, vop, ev, cv, vbin, vint, isShift, isNilConst, vlen, vI, z1]
      refine Cl.pu c_awake9 ?_
      simp only [gos, eq_self, Nat.reduceLT, Nat.reduceEqDiff, reduceIte, ↓reduceIte, vgo, vout, vguard, callOf, vop, ev, cv]
      subst hQ
      exact FnPost.plain trivial (v := .bool true) (fun h2 e => by rfl) WkV.refl rfl
    have k := rmOk_of h0
    have z1 : ((0 : Int) != 0) = false := rfl
    have hlT : ((rTruths r.cu).length : Int) ≤ 1000000 := by have := rTr_len r.cu (rMany r.cu).toNat; have := rMany_le k.A.k0; simp only [rTruths]; omega
    rw [h0]
    simp only [gos, eq_self, Nat.reduceLT, Nat.reduceEqDiff, reduceIte, ↓reduceIte, vgo, vout, vguard, callOf, vop, ev, cv, vbin, vint, isShift, isNilConst]
    refine Wr.draw (by kernel_rfl) ?_
    simp only [gos, eq_self, Nat.reduceLT, Nat.reduceEqDiff, Nat.reduceAdd, Nat.reduceLeDiff, reduceCtorEq, reduceIte, ↓reduceIte, tt, vgoD, voutD, vclsOk, vids, mayWrite, V.ids, vguard, callOf, vop, ev, vload, clsAt, rms]
    refine CD.pu (c_rTruths r.cu k.A.k0) ?_ rfl (by simp only [V.into, intoL, cu_into, Bool.and_true])
    simp only [gos, eq_self, Nat.reduceLT, Nat.reduceEqDiff, reduceIte, ↓reduceIte, vgoD, voutD, vguard, callOf, ev]
    refine CD.pu (c_r9Most r k (rTruths r.cu) hlT fun m h1 h2 h3 => can_tr k h1 h2 h3) ?_ rfl (by simp only [V.into, intoL, Bool.and_true, rm_into, vT_into])
    rw [most_same k, mostR_eq k]
    cases hs : sSureN r zL with
    | false =>
      have z2 : decide ((10 : Int) = 10) = true := rfl
      have z3 : decide (((List.length ([] : List Int) : Nat) : Int) = 0) = true := rfl
      simp only [gos, eq_self, Nat.reduceLT, Nat.reduceEqDiff, reduceIte, ↓reduceIte, tt, vgo, vout, vgoD, voutD, vclsOk, vids, mayWrite, vguard, callOf, vop, ev, cv, vbin, vint, isShift, isNilConst, vlen, vI, Option.isSome]
      refine Cl.pu c_awake9 ?_
      simp only [gos, eq_self, Nat.reduceLT, Nat.reduceEqDiff, reduceIte, ↓reduceIte, vgo, vout, vguard, callOf, vop, ev, cv]
      subst hQ
      exact FnPost.plain trivial (v := .bool true) (fun h2 e => by rfl) WkV.refl rfl
    | true =>
      obtain ⟨m1, _⟩ := mostF_ok k hs
      have hla := k.A.k0.last
      have z2 : decide ((0 : Int) = 0) = true := rfl
      have z3 : decide (mostF r = mostF r) = true := by simp
      simp only [gos, eq_self, Nat.reduceLT, Nat.reduceEqDiff, reduceIte, ↓reduceIte, vgo, vout, vgoD, voutD, vclsOk, vids, mayWrite, vguard, callOf, vop, ev, cv, vbin, vint, isShift, isNilConst, Option.isSome]
      refine Cl.pu (c_ints9 (mostF r) (mostF r) (by omega)) ?_ rfl (by simp only [intoL, vI_into, Bool.and_true])
      rw [z3]
      simp only [gos, eq_self, Nat.reduceLT, Nat.reduceEqDiff, reduceIte, ↓reduceIte, vgo, vout, vguard, callOf, vop, ev]
      refine Cl.pu c_awake9 ?_
      simp only [gos, eq_self, Nat.reduceLT, Nat.reduceEqDiff, reduceIte, ↓reduceIte, vgo, vout, vguard, callOf, vop, ev]
      subst hQ
      exact FnPost.plain trivial (v := .bool true) (fun h2 e => by rfl) WkV.refl rfl
end Go.Vm
