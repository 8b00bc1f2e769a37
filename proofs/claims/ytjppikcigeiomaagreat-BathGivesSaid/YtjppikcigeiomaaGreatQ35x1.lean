import Derived.Test.YtjppikcigeiomaaGreatB4
import Derived.Test.YtjppikcigeiomaaGreatRows
import Derived.WalkKit
import Derived.ProofKit
import Derived.OpenShut
import Derived.ShutString
import Derived.ChangeOld
import Derived.Below
import Derived.Test.YtjppikcigeiomaaGreatVm31
set_option linter.unusedVariables false
set_option linter.unusedSimpArgs false
set_option maxRecDepth 100000
namespace Go.Vm
open Go.Proofs Go.ChangeShapes Go.WideShapes Go.ChangeAt Go.RowKit
/-! ### from a contract to the row -/
theorem hrel0 (w : World) : HRel (gh0 w) [] w :=
  ⟨fun B o v e => e, fun i e he => (by cases he), fun i j e e' B c c' he => (by cases he), fun i e B c o he => (by cases he), fun i v h => absurd rfl h⟩
theorem calls_of_fn {P : Program} {f : FuncId} {vs : List V} {xs : List Value} {w : World} (c : Fn P f vs [] fun v h' => v = .bool true) (hv : VRL (gh0 w) vs xs) :
    Calls P f xs.toArray w fun e w' => e = .returned (.bool true) ∧ Below w.heap.size w w' := fun cs => by
  obtain ⟨v, h', vc, g', w', fr, rfl, st, hf, hl, hvc, H', t, le⟩ := c (gh0 w) w xs hv (hrel0 w) cs
  simp only [VR] at hvc
  subst hvc
  exact ⟨.returned (.bool true), w', fr, ⟨rfl, t.os, t.tape, t.output, t.size, fun k hk => t.mods k hk (by rintro ⟨i, e, c, he, _⟩; cases he)⟩, st, hf, hl⟩
section
variable {H : Type} {enc : TypeId × Value → H} {P : Program} {w : World} {base : Nat} {spare : Nat → Bool} {held : Bool} {fuel : Nat} {t : TypeId} {cs : List Value} {x : DataW H × List MemPlace}
end
section
variable {H : Type} {enc : TypeId × Value → H} {w : World} {base : Nat} {spare : Nat → Bool} {held : Bool} {fuel : Nat} {cs : List Value} {x : DataW H × List MemPlace}
end
end Go.Vm

set_option linter.unusedVariables false
set_option linter.unusedSimpArgs false
set_option maxRecDepth 100000
namespace Go.Vm
open Go.Proofs
/-! ### the reference: the heat -/
theorem c_rKept (c : Cu) (t : Tr2) (coal want : List Int) (k : TrOk c t coal want) (i : Nat) (hi : (i : Int) ≤ c.last) : Pu Tryz.prog (.fn 168 [] []) [.agg c.cs, .agg t.cs, vI coal, vI want, vi i] (.bool (decide (gi want i ≤ (sHeat c (tS t) coal want i).tdiv c.per))) := by
  refine Ev.fn Tryz.func168 rfl rfl (Fn.body tabOk Tryz.func168 rfl (Nat.le_of_ble_eq_true rfl) (Ks.ok (fz := (fzn [])) (cl := (cln [(1, .d tg0 [cP, cP, cP, cP, cP, cP, cP, cP, cP, cP, cP, cP])])) tabOk mixed ?_))
  generalize hQ : FnPost tt Tryz.f168 _ _ = Q
  simp only [Tryz.f168, List.nil_append, List.append_nil, argsEnv, Nat.reduceAdd]
  have hts : t.cs.take 2 = t.cs := rfl
  have htn : t.cs.length = 2 := rfl
  simp only [gos, eq_self, Nat.reduceLT, Nat.reduceEqDiff, reduceCtorEq, reduceIte, ↓reduceIte, vgo, vout, vguard, callOf, vop, ev, cv, newRow]
  refine Wr.draw (by kernel_rfl) ?_
  simp only [gos, eq_self, Nat.reduceLT, Nat.reduceEqDiff, Nat.reduceAdd, reduceCtorEq, reduceIte, ↓reduceIte, tt, vgoD, voutD, vclsOk, vids, mayWrite, V.ids, vguard, callOf, vop, ev, vload, clsAt, hts, htn]
  refine CD.pu (c_rHot c t coal want k i hi) ?_ rfl (by simp only [V.into, intoL, vI_into, cu_into, Bool.and_true, Tr2.cs])
  have hw : (i : Int) < want.length := by have := k.play.want.1; omega
  simp only [gos, eq_self, Nat.reduceLT, Nat.reduceEqDiff, reduceCtorEq, reduceIte, ↓reduceIte, tt, vgoD, voutD, vclsOk, vids, mayWrite, V.ids, vguard, callOf, vop, ev, vbin, vint, isShift, isNilConst, vload, vI, hw, cI_at (Int.natCast_nonneg i) hw]
  subst hQ
  exact FnPost.plain trivial (fun h2 e => by first | rfl | (simp only [Tryz.f168, vres, vresL, vres1, e _, gos, if_true, if_false, ne_eq, eq_self, Nat.reduceLT, Nat.reduceEqDiff, Nat.reduceAdd, Nat.reduceMul, Nat.reduceLeDiff, Nat.reduceBEq, reduceCtorEq, reduceIte, Array.toList, ↓reduceIte, tt, vgo, vout, vgoD, voutD, vclsOk, vids, mayWrite, V.ids, V.mids, vguard, callOf, vop, ev, cv, vbin, vint, isShift, isNilConst, vnil, isNilSlice, vload, vlen, newRow, vfill, vslice, entOf, vappend, srcOf, vcopy, vlookup, vupdate, mapOk, keyOf, intsOf, clsAt]; try rfl)) (WkV.pure (by simp only [V.into])) ⟨rfl, rfl⟩
end Go.Vm

set_option linter.unusedVariables false
set_option linter.unusedSimpArgs false
set_option maxRecDepth 100000
namespace Go.Vm
open Go.Proofs
/-! ### the reference: all truths -/
def gT (l : List Tr2) (n : Int) : Tr2 := l.getD n.toNat ⟨0, []⟩
theorem cT_drop : ∀ (l : List Tr2) (i : Nat), (cT l).drop (i * 2) = cT (l.drop i)
  | l, 0 => by simp
  | [], i + 1 => by simp [cT]
  | r :: l, i + 1 => by rw [show (i + 1) * 2 = i * 2 + 1 + 1 by omega]; simp [cT, cT_drop l i]
theorem gT_drop {l : List Tr2} {n : Int} (h0 : 0 ≤ n) (h1 : n < l.length) : l.drop n.toNat = gT l n :: l.drop (n.toNat + 1) := by
  have : n.toNat < l.length := by omega
  rw [List.drop_eq_getElem_cons this, gT, List.getD_eq_getElem?_getD, List.getElem?_eq_getElem this]; rfl
theorem cT_at {l : List Tr2} {n : Int} (h0 : 0 ≤ n) (h1 : n < l.length) : (cT l).drop (n.toNat * 2) = vi (gT l n).heat :: vI (gT l n).loss :: cT (l.drop (n.toNat + 1)) := by
  rw [cT_drop, gT_drop h0 h1]; rfl
theorem gT_get {l : List Tr2} {i : Nat} (h : (i : Int) < l.length) : l[i]? = some (gT l i) := by
  have : i < l.length := by omega
  rw [gT, Int.toNat_natCast, List.getD_eq_getElem?_getD, List.getElem?_eq_getElem this]; rfl
theorem vT_into (p : Nat → Bool) (l : List Tr2) : (vT l).into p = true := by simp only [vT, V.into]; exact cT_into p l
end Go.Vm

set_option linter.unusedVariables false
set_option linter.unusedSimpArgs false
set_option maxRecDepth 100000
namespace Go.Vm
open Go.Proofs
/-! ### the reference: bounds and verdicts -/
theorem c_rVerdict (y m : Int) : Pu Tryz.prog (.fn 143 [] []) [vi y, vi m] (vi (rVerdict y m)) := by
  refine Ev.fn Tryz.func143 rfl rfl (Fn.body tabOk Tryz.func143 rfl (Nat.le_of_ble_eq_true rfl) (Ks.ok (fz := (fzn [])) (cl := (cln [])) tabOk mixed ?_))
  generalize hQ : FnPost tt Tryz.f143 _ _ = Q
  simp only [Tryz.f143, List.nil_append, List.append_nil, argsEnv, Nat.reduceAdd]
  by_cases h1 : y = m
  · have hb : decide (y = m) = true := by simp [h1]
    simp only [gos, eq_self, Nat.reduceLT, Nat.reduceEqDiff, reduceCtorEq, reduceIte, ↓reduceIte, vgo, vout, vguard, callOf, vop, ev, cv, vbin, vint, isShift, isNilConst, hb]
    subst hQ
    exact FnPost.plain trivial (fun h2 e => by first | rfl | (simp only [Tryz.f143, vres, vresL, vres1, e _, gos, if_true, if_false, ne_eq, eq_self, Nat.reduceLT, Nat.reduceEqDiff, Nat.reduceAdd, Nat.reduceMul, Nat.reduceLeDiff, Nat.reduceBEq, reduceCtorEq, reduceIte, Array.toList, ↓reduceIte, tt, vgo, vout, vgoD, voutD, vclsOk, vids, mayWrite, V.ids, V.mids, vguard, callOf, vop, ev, cv, vbin, vint, isShift, isNilConst, vnil, isNilSlice, vload, vlen, newRow, vfill, vslice, entOf, vappend, srcOf, vcopy, vlookup, vupdate, mapOk, keyOf, intsOf, clsAt]; try rfl)) (WkV.pure (by simp only [V.into])) ⟨by simp [rVerdict, h1], rfl⟩
  · have hb : decide (y = m) = false := by simp [h1]
    by_cases h2 : y = 0
    · have hb2 : decide (y = 0) = true := by simp [h2]
      simp only [gos, eq_self, Nat.reduceLT, Nat.reduceEqDiff, reduceCtorEq, reduceIte, ↓reduceIte, vgo, vout, vguard, callOf, vop, ev, cv, vbin, vint, isShift, isNilConst, hb, hb2]
      subst hQ
      exact FnPost.plain trivial (fun h2 e => by first | rfl | (simp only [Tryz.f143, vres, vresL, vres1, e _, gos, if_true, if_false, ne_eq, eq_self, Nat.reduceLT, Nat.reduceEqDiff, Nat.reduceAdd, Nat.reduceMul, Nat.reduceLeDiff, Nat.reduceBEq, reduceCtorEq, reduceIte, Array.toList, ↓reduceIte, tt, vgo, vout, vgoD, voutD, vclsOk, vids, mayWrite, V.ids, V.mids, vguard, callOf, vop, ev, cv, vbin, vint, isShift, isNilConst, vnil, isNilSlice, vload, vlen, newRow, vfill, vslice, entOf, vappend, srcOf, vcopy, vlookup, vupdate, mapOk, keyOf, intsOf, clsAt]; try rfl)) (WkV.pure (by simp only [V.into])) ⟨by rw [rVerdict, if_neg h1, if_pos h2], rfl⟩
    · have hb2 : decide (y = 0) = false := by simp [h2]
      simp only [gos, eq_self, Nat.reduceLT, Nat.reduceEqDiff, reduceCtorEq, reduceIte, ↓reduceIte, vgo, vout, vguard, callOf, vop, ev, cv, vbin, vint, isShift, isNilConst, hb, hb2]
      subst hQ
      exact FnPost.plain trivial (fun h2 e => by first | rfl | (simp only [Tryz.f143, vres, vresL, vres1, e _, gos, if_true, if_false, ne_eq, eq_self, Nat.reduceLT, Nat.reduceEqDiff, Nat.reduceAdd, Nat.reduceMul, Nat.reduceLeDiff, Nat.reduceBEq, reduceCtorEq, reduceIte, Array.toList, ↓reduceIte, tt, vgo, vout, vgoD, voutD, vclsOk, vids, mayWrite, V.ids, V.mids, vguard, callOf, vop, ev, cv, vbin, vint, isShift, isNilConst, vnil, isNilSlice, vload, vlen, newRow, vfill, vslice, entOf, vappend, srcOf, vcopy, vlookup, vupdate, mapOk, keyOf, intsOf, clsAt]; try rfl)) (WkV.pure (by simp only [V.into])) ⟨by rw [rVerdict, if_neg h1, if_neg h2], rfl⟩
theorem count_snoc (l : List Tr2) (f : Tr2 → Bool) {i : Nat} (h : (i : Int) < l.length) : (l.take (i + 1)).countP f = (l.take i).countP f + (if f (gT l i) then 1 else 0) := by
  have e : l.take (i + 1) = l.take i ++ [gT l i] := by rw [List.take_add_one, gT_get h]; rfl
  rw [e, List.countP_append, List.countP_singleton]
end Go.Vm

set_option linter.unusedVariables false
set_option linter.unusedSimpArgs false
set_option maxRecDepth 100000
namespace Go.Vm
open Go.Proofs
/-! ### the reference: all promises; spare buckets; the hour that may lack -/
set_option maxHeartbeats 1000000 in
theorem c_rWhole (c : Cu) (t : Tr2) (coal want : List Int) (k : TrOk c t coal want) : Pu Tryz.prog (.fn 142 [] []) [.agg c.cs, .agg t.cs, vI coal, vI want] (.bool (wholeI c coal want t)) := by
  have hl := k.play.last
  refine Ev.fn Tryz.func142 rfl rfl (Fn.body tabOk Tryz.func142 rfl (Nat.le_of_ble_eq_true rfl) (Ks.ok (fz := (fzn [])) (cl := (cln [])) tabOk mixed ?_))
  generalize hQ : FnPost tt Tryz.f142 _ _ = Q
  simp only [Tryz.f142, List.nil_append, List.append_nil, argsEnv, Nat.reduceAdd]
  have hts : t.cs.take 2 = t.cs := rfl
  have htn : t.cs.length = 2 := rfl
  simp only [gos, eq_self, Nat.reduceLT, Nat.reduceEqDiff, reduceCtorEq, reduceIte, ↓reduceIte, vgo, vout, vguard, callOf, vop, ev, cv, newRow]
  refine W.loop tabOk mixed (fun i : Nat => ([(2, vI coal), (3, vI want), (4, .rop c.cs), (5, .rop t.cs), (9, vi i)], [])) (fun i => (c.last + 1).toNat - i) (fun i => (i : Int) ≤ c.last + 1 ∧ ∀ j : Nat, j < i → keptI c coal want t j = true) 0 ⟨by omega, fun j hj => by omega⟩ (Wk.env (by simp [subE, Env.get])) ?_
  rintro i ⟨hi, hno⟩
  by_cases hil : (i : Int) ≤ c.last
  · simp only [gos, eq_self, Nat.reduceLT, Nat.reduceEqDiff, reduceCtorEq, reduceIte, ↓reduceIte, tt, vgo, vout, vguard, callOf, vop, ev, vbin, vint, isShift, isNilConst, vload, hil, hts, htn]
    refine Cl.pu (c_rKept c t coal want k i hil) ?_ rfl (by simp only [V.into, intoL, vI_into, cu_into, Bool.and_true, Tr2.cs])
    rw [show decide (gi want i ≤ (sHeat c (tS t) coal want i).tdiv c.per) = keptI c coal want t i from rfl]
    cases hk : keptI c coal want t i with
    | true =>
      simp only [gos, eq_self, Nat.reduceLT, Nat.reduceEqDiff, reduceIte, ↓reduceIte, vgo, vout, vguard, callOf, vop, ev, cv, vbin, vint, isShift, isNilConst]
      refine Nx.mk (i + 1) (show (c.last + 1).toNat - (i + 1) < (c.last + 1).toNat - i by omega) ⟨by omega, fun j hj => ?_⟩ (Wk.env (by simp [subE, Env.get, i64_succ (show (i : Int) < 9223372036854775807 by omega)]))
      rcases Nat.lt_succ_iff_lt_or_eq.1 hj with h | rfl
      · exact hno j h
      · exact hk
    | false =>
      simp only [gos, eq_self, Nat.reduceLT, reduceIte, ↓reduceIte, vgo, vout, vguard, callOf, vop, ev, cv]
      have hf : wholeI c coal want t = false := by
        rw [Bool.eq_false_iff]; intro ha
        simp only [wholeI, List.all_eq_true, List.mem_range] at ha
        rw [ha i (by omega)] at hk; cases hk
      subst hQ
      exact FnPost.plain trivial (fun h2 e => by first | rfl | (simp only [Tryz.f142, vres, vresL, vres1, e _, gos, if_true, if_false, ne_eq, eq_self, Nat.reduceLT, Nat.reduceEqDiff, Nat.reduceAdd, Nat.reduceMul, Nat.reduceLeDiff, Nat.reduceBEq, reduceCtorEq, reduceIte, Array.toList, ↓reduceIte, tt, vgo, vout, vgoD, voutD, vclsOk, vids, mayWrite, V.ids, V.mids, vguard, callOf, vop, ev, cv, vbin, vint, isShift, isNilConst, vnil, isNilSlice, vload, vlen, newRow, vfill, vslice, entOf, vappend, srcOf, vcopy, vlookup, vupdate, mapOk, keyOf, intsOf, clsAt]; try rfl)) (WkV.pure (by simp only [V.into])) ⟨by rw [hf], rfl⟩
  · simp only [gos, eq_self, Nat.reduceLT, Nat.reduceEqDiff, reduceCtorEq, reduceIte, ↓reduceIte, tt, vgo, vout, vguard, callOf, vop, ev, cv, vbin, vint, isShift, isNilConst, vload, hil]
    have ht : wholeI c coal want t = true := by
      simp only [wholeI, List.all_eq_true, List.mem_range]
      exact fun j hj => hno j (by omega)
    subst hQ
    exact FnPost.plain trivial (fun h2 e => by first | rfl | (simp only [Tryz.f142, vres, vresL, vres1, e _, gos, if_true, if_false, ne_eq, eq_self, Nat.reduceLT, Nat.reduceEqDiff, Nat.reduceAdd, Nat.reduceMul, Nat.reduceLeDiff, Nat.reduceBEq, reduceCtorEq, reduceIte, Array.toList, ↓reduceIte, tt, vgo, vout, vgoD, voutD, vclsOk, vids, mayWrite, V.ids, V.mids, vguard, callOf, vop, ev, cv, vbin, vint, isShift, isNilConst, vnil, isNilSlice, vload, vlen, newRow, vfill, vslice, entOf, vappend, srcOf, vcopy, vlookup, vupdate, mapOk, keyOf, intsOf, clsAt]; try rfl)) (WkV.pure (by simp only [V.into])) ⟨by rw [ht], rfl⟩
set_option maxHeartbeats 1000000 in
theorem c_rWholes (c : Cu) (l : List Tr2) (coal want : List Int) (hl : (l.length : Int) ≤ 1000000) (hok : ∀ t ∈ l, TrOk c t coal want) : Pu Tryz.prog (.fn 106 [] []) [.agg c.cs, vT l, vI coal, vI want] (vi (rWholes c l coal want)) := by
  refine Ev.fn Tryz.func106 rfl rfl (Fn.body tabOk Tryz.func106 rfl (Nat.le_of_ble_eq_true rfl) (Ks.ok (fz := (fzn [])) (cl := (cln [(5, .d tg0 [cP, cP, cP, cP, cP, cP, cP, cP])])) tabOk mixed ?_))
  generalize hQ : FnPost tt Tryz.f106 _ _ = Q
  simp only [Tryz.f106, List.nil_append, List.append_nil, argsEnv, Nat.reduceAdd]
  simp only [gos, eq_self, Nat.reduceLT, Nat.reduceEqDiff, reduceCtorEq, reduceIte, ↓reduceIte, vgo, vout, vguard, callOf, vop, ev, cv, newRow]
  refine W.loop tabOk mixed (fun i : Nat => ([(1, vT l), (2, vI coal), (3, vI want), (4, .rop c.cs), (9, vi ((l.take i).countP fun t => wholeI c coal want t)), (10, vi i)], [])) (fun i => l.length - i) (fun i => i ≤ l.length) 0 (by omega) (Wk.env (by simp [subE, Env.get])) ?_
  intro i hi
  by_cases hil : (i : Int) < l.length
  · have ht := hok _ (List.mem_of_getElem? (gT_get hil))
    have hcs := count_snoc l (fun t => wholeI c coal want t) hil
    have hle : (l.take i).countP (fun t => wholeI c coal want t) ≤ i := Nat.le_trans List.countP_le_length (by rw [List.length_take]; exact Nat.min_le_left _ _)
    simp only [gos, eq_self, Nat.reduceLT, Nat.reduceEqDiff, reduceIte, ↓reduceIte, tt, vgo, vout, vguard, callOf, vop, ev, vbin, vint, isShift, isNilConst, vlen, vT, hil]
    refine Wr.draw (by kernel_rfl) ?_
    simp only [gos, eq_self, Nat.reduceLT, Nat.reduceEqDiff, Nat.reduceAdd, reduceCtorEq, reduceIte, ↓reduceIte, tt, vgoD, voutD, vclsOk, vids, mayWrite, V.ids, vguard, callOf, vop, ev, vload, clsAt, hil, cT_at (Int.natCast_nonneg i) hil]
    refine CD.pu (c_rWhole c (gT l i) coal want ht) ?_ rfl (by simp only [V.into, intoL, vI_into, cu_into, Bool.and_true])
    cases hk : wholeI c coal want (gT l i) with
    | true =>
      rw [hk] at hcs
      simp only [gos, eq_self, Nat.reduceLT, Nat.reduceEqDiff, reduceIte, ↓reduceIte, vgo, vout, vguard, callOf, vop, ev, cv, vbin, vint, isShift, isNilConst, i64_succ (show (((l.take i).countP fun t => wholeI c coal want t : Nat) : Int) < 9223372036854775807 by omega)]
      exact Nx.mk (i + 1) (show l.length - (i + 1) < l.length - i by omega) (by omega) (Wk.env (by simp [subE, Env.get, hcs, i64_succ (show (i : Int) < 9223372036854775807 by omega)]))
    | false =>
      rw [hk] at hcs
      simp only [gos, eq_self, Nat.reduceLT, Nat.reduceEqDiff, reduceIte, ↓reduceIte, vgo, vout, vguard, callOf, vop, ev, cv, vbin, vint, isShift, isNilConst]
      exact Nx.mk (i + 1) (show l.length - (i + 1) < l.length - i by omega) (by omega) (Wk.env (by simp [subE, Env.get, hcs, i64_succ (show (i : Int) < 9223372036854775807 by omega)]))
  · have e : l.take i = l := List.take_of_length_le (by omega)
    simp only [gos, eq_self, Nat.reduceLT, Nat.reduceEqDiff, reduceIte, ↓reduceIte, tt, vgo, vout, vguard, callOf, vop, ev, vbin, vint, isShift, isNilConst, vlen, vT, hil, e]
    refine Cl.pu (c_rVerdict _ _) ?_
    simp only [gos, eq_self, Nat.reduceLT, reduceIte, ↓reduceIte, vgo, vout, vguard, callOf, vop, ev]
    subst hQ
    exact FnPost.plain trivial (fun h2 e => by first | rfl | (simp only [Tryz.f106, vres, vresL, vres1, e _, gos, if_true, if_false, ne_eq, eq_self, Nat.reduceLT, Nat.reduceEqDiff, Nat.reduceAdd, Nat.reduceMul, Nat.reduceLeDiff, Nat.reduceBEq, reduceCtorEq, reduceIte, Array.toList, ↓reduceIte, tt, vgo, vout, vgoD, voutD, vclsOk, vids, mayWrite, V.ids, V.mids, vguard, callOf, vop, ev, cv, vbin, vint, isShift, isNilConst, vnil, isNilSlice, vload, vlen, newRow, vfill, vslice, entOf, vappend, srcOf, vcopy, vlookup, vupdate, mapOk, keyOf, intsOf, clsAt]; try rfl)) (WkV.pure (by simp only [V.into])) ⟨rfl, rfl⟩
end Go.Vm

set_option linter.unusedVariables false
set_option linter.unusedSimpArgs false
set_option maxRecDepth 100000
namespace Go.Vm
/-! ### plain laws of one truth -/
theorem mul_le_of_tdiv {w a p : Int} (h0 : 0 ≤ a) (hp : 1 ≤ p) (h : w ≤ a.tdiv p) : w * p ≤ a := by
  rw [Int.tdiv_eq_ediv_of_nonneg h0] at h
  exact Int.mul_le_of_le_ediv (by omega) h
theorem warm_heat {c : Cu} {s s' : Sc} {coal coal' want : List Int} {n : Nat} (w : Warm s s' coal coal' n) {i : Nat} (hi : i < n) (h : (sPlay c s coal want i).1 ≤ (sPlay c s' coal' want i).1) : sHeat c s coal want i ≤ sHeat c s' coal' want i := by
  have h1 := w.loss i hi
  have h2 := w.coal i hi
  have h3 : gi coal i * s.heat ≤ gi coal' i * s'.heat := Int.mul_le_mul h2.2 w.heat.2 w.heat.1 (by omega)
  simp only [sHeat]
  omega
theorem warm_play {c : Cu} {s s' : Sc} {coal coal' want : List Int} {n : Nat} (hp : 1 ≤ c.per) (w : Warm s s' coal coal' n) : ∀ i, i ≤ n → (sPlay c s coal want i).1 ≤ (sPlay c s' coal' want i).1
  | 0, _ => Int.le_refl _
  | i + 1, hi => by
    have ih := warm_heat w (show i < n by omega) (warm_play (want := want) hp w i (by omega))
    have h0 : 0 ≤ sHeat c s coal want i := by simp only [sHeat]; omega
    have h1 : 0 ≤ sHeat c s' coal' want i := by simp only [sHeat]; omega
    have hm := tdiv_mono h0 ih hp
    rw [sPlay_heat, sPlay_heat]
    by_cases hk : gi want i ≤ (sHeat c s coal want i).tdiv c.per
    · rw [if_pos hk, if_pos (by omega)]; omega
    · rw [if_neg hk]
      split
      · rename_i hk2
        have := mul_le_of_tdiv h1 hp hk2
        omega
      · omega
end Go.Vm

set_option linter.unusedVariables false
set_option linter.unusedSimpArgs false
set_option maxRecDepth 100000
namespace Go.Vm
open Go.Proofs
/-! ### sets of readings, by bits -/
theorem bitsTo_succ (b p : Nat) : bitsTo b (p + 1) = if b.testBit p then bitsTo b p ++ [(p : Int)] else bitsTo b p := by
  simp only [bitsTo, List.range_succ, List.filter_append, List.filter_cons, List.filter_nil]
  split <;> simp
theorem bitsTo_len (b p : Nat) : (bitsTo b p).length ≤ p := by
  rw [bitsTo, List.length_map]
  exact Nat.le_trans (List.length_filter_le _ _) (by simp)
theorem end5 {b p : Nat} (hb : b < 32) (hp : p < 6) (h : b >>> p = 0) : bitsTo b p = sBits b := by
  have : ∀ b : Fin 32, ∀ p : Fin 6, (b : Nat) >>> (p : Nat) = 0 → bitsTo b p = sBits b := by decide +kernel
  exact this ⟨b, hb⟩ ⟨p, hp⟩ h
theorem on5 {b p : Nat} (hb : b < 32) (h : 0 < b >>> p) : p < 5 := by
  rcases Nat.lt_or_ge p 5 with h1 | h1
  · exact h1
  · rw [Nat.shiftRight_eq_div_pow, Nat.div_eq_of_lt (Nat.lt_of_lt_of_le hb (Nat.pow_le_pow_right (n := 2) (by omega) h1))] at h; omega
theorem c_rBits (b : Nat) (hb : b < 32) : Pu Tryz.prog (.fn 53 [] []) [vi b] (vI (sBits b)) := by
  refine Ev.fn Tryz.func53 rfl rfl (Fn.body tabOk Tryz.func53 rfl (Nat.le_of_ble_eq_true rfl) (Ks.ok (fz := (fzn [])) (cl := (cln [])) tabOk mixed ?_))
  generalize hQ : FnPost tt Tryz.f53 _ _ = Q
  simp only [Tryz.f53, List.nil_append, List.append_nil, argsEnv]
  simp only [gos, eq_self, Nat.reduceLT, reduceIte, ↓reduceIte, vgo, vout, vguard, callOf, vop, ev, cv]
  refine W.loop tabOk mixed (fun p : Nat => ([(0, vi b), (3, .own 21 (bitsTo b p).length 0 1 (bitsTo b p).length), (4, vi p)], [(21, ⟨(bitsTo b p).length, .row (cI (bitsTo b p))⟩)])) (fun p => 5 - p) (fun p => p ≤ 5) 0 (by omega) (Wk.trans (Wk.sl0E 3 21 1 rfl rfl) (Wk.env (by simp [subE, Env.get, bitsTo]))) ?_
  intro p hp
  have hw := u64_in (n := (p : Int)) (by omega) (by omega)
  have hn : ¬ (p : Int) < 0 := by omega
  have hs := shr5 hb (p := p) (by omega)
  have hbt := bit5 hb (p := p) (by omega)
  have hbl := bitsTo_len b p
  have z2 : ¬ (2 : Int) = 0 := by omega
  by_cases hil : 0 < ((b >>> p : Nat) : Int)
  · have hp5 := on5 hb (p := p) (Int.natCast_pos.1 hil)
    simp only [gos, eq_self, Nat.reduceLT, Nat.reduceEqDiff, reduceCtorEq, reduceIte, ↓reduceIte, tt, vgo, vout, vguard, callOf, vop, ev, cv, vbin, vint, isShift, isNilConst, hw, hn, hs, hil, z2, hbt]
    have hl : (cI (bitsTo b p)).length = (bitsTo b p).length * 1 := by rw [cI_len]; omega
    have hl9 : (bitsTo b p).length ≤ 999999 := by omega
    have hsx := bitsTo_succ b p
    cases ht : b.testBit p with
    | true =>
      rw [ht, if_pos rfl] at hsx
      simp only [gos, eq_self, Nat.reduceLT, Nat.reduceEqDiff, Nat.reduceAdd, Nat.reduceMul, Nat.reduceLeDiff, reduceCtorEq, reduceIte, ↓reduceIte, tt, vgo, vout, vguard, callOf, vop, ev, cv, vbin, vint, isShift, isNilConst, vfill, vappend, srcOf, hl, hl9]
      refine Nx.mk (p + 1) (show 5 - (p + 1) < 5 - p by omega) (by omega) (Wk.heap (fun j => ?_) ?_)
      · rw [hsx, cI_snoc, List.length_append]; rfl
      · simp [subE, Env.get, hsx, i64_succ (show (p : Int) < 9223372036854775807 by omega)]
    | false =>
      rw [ht, if_neg (by simp)] at hsx
      simp only [gos, eq_self, Nat.reduceLT, Nat.reduceEqDiff, reduceCtorEq, reduceIte, ↓reduceIte, vgo, vout, vguard, callOf, vop, ev, cv, vbin, vint, isShift, isNilConst]
      exact Nx.mk (p + 1) (show 5 - (p + 1) < 5 - p by omega) (by omega) (by rw [hsx]; exact Wk.env (by simp [subE, Env.get, i64_succ (show (p : Int) < 9223372036854775807 by omega)]))
  · simp only [gos, eq_self, Nat.reduceLT, Nat.reduceEqDiff, reduceCtorEq, reduceIte, ↓reduceIte, tt, vgo, vout, vguard, callOf, vop, ev, cv, vbin, vint, isShift, isNilConst, hw, hn, hs, hil]
    subst hQ
    have ht : (cI (bitsTo b p)).take (bitsTo b p).length = cI (bitsTo b p) := List.take_of_length_le (by rw [cI_len]; omega)
    have hz : b >>> p = 0 := (Nat.eq_zero_or_pos _).resolve_right fun h => hil (Int.natCast_pos.2 h)
    rw [← end5 hb (p := p) (by omega) hz]
    refine FnPost.plain trivial (v := .own 21 (bitsTo b p).length 0 1 (bitsTo b p).length) (fun h2 e => by rfl) (WkV.frz 21 (v' := vI (bitsTo b p)) (h' := []) (ver := (bitsTo b p).length) (cs := cI (bitsTo b p)) rfl rfl (cI_into _ _) rfl ?_ ?_ WkV.refl) ⟨rfl, rfl⟩
    · simp [V.frz, vI, ht]
    · simp [frzH]
/-! ### before, shorter -/
theorem drop_gi {l : List Int} {i : Nat} (h : (i : Int) < l.length) : l.drop i = gi l i :: l.drop (i + 1) := by
  rw [List.drop_eq_getElem_cons (by omega), gi, Int.toNat_natCast, List.getD_eq_getElem?_getD, List.getElem?_eq_getElem (by omega)]; rfl
set_option maxHeartbeats 1000000 in
theorem c_rBefore (a b : List Int) (ha : (a.length : Int) ≤ 1000000) : Pu Tryz.prog (.fn 60 [] []) [vI a, vI b] (.bool (lBefore a b)) := by
  refine Ev.fn Tryz.func60 rfl rfl (Fn.body tabOk Tryz.func60 rfl (Nat.le_of_ble_eq_true rfl) (Ks.ok (fz := (fzn [])) (cl := (cln [(4, .d tg0 [cP, cP, cP, cP, cP, cP, cP, cP, cP]), (5, .d tg0 [cP, cP, cP, cP, cP, cP, cP, cP, cP, cP])])) tabOk mixed ?_))
  generalize hQ : FnPost tt Tryz.f60 _ _ = Q
  simp only [Tryz.f60, List.nil_append, List.append_nil, argsEnv, Nat.reduceAdd]
  simp only [gos, eq_self, Nat.reduceLT, Nat.reduceEqDiff, reduceCtorEq, reduceIte, ↓reduceIte, vgo, vout, vguard, callOf, vop, ev, cv]
  refine W.loop tabOk mixed (fun i : Nat => ([(0, vI a), (1, vI b), (5, vi i)], [])) (fun i => a.length - i) (fun i => i ≤ a.length ∧ i ≤ b.length ∧ lBefore a b = lBefore (a.drop i) (b.drop i)) 0 ⟨by omega, by omega, rfl⟩ (Wk.env (by simp [subE, Env.get])) ?_
  rintro i ⟨hi1, hi2, he⟩
  by_cases h1 : (i : Int) < a.length
  · by_cases h2 : (i : Int) < b.length
    · rw [drop_gi h1, drop_gi h2, lBefore] at he
      simp only [gos, eq_self, Nat.reduceLT, Nat.reduceEqDiff, reduceCtorEq, reduceIte, ↓reduceIte, tt, vgo, vout, vguard, callOf, vop, ev, vbin, vint, isShift, isNilConst, vlen, vI, h1, h2]
      refine Wr.draw (by kernel_rfl) ?_
      simp only [gos, eq_self, Nat.reduceLT, Nat.reduceEqDiff, Nat.reduceAdd, reduceCtorEq, reduceIte, ↓reduceIte, tt, vgoD, voutD, vclsOk, vids, mayWrite, V.ids, vguard, callOf, vop, ev, vbin, vint, isShift, isNilConst, vload, clsAt, h1, h2, cI_at (Int.natCast_nonneg i) h1, cI_at (Int.natCast_nonneg i) h2]
      by_cases hx : gi a i = gi b i
      · rw [if_pos hx] at he
        have hb : (gi a i != gi b i) = false := by simp [hx]
        simp only [gos, eq_self, Nat.reduceLT, Nat.reduceEqDiff, reduceCtorEq, reduceIte, ↓reduceIte, vgo, vout, vguard, callOf, vop, ev, cv, vbin, vint, isShift, isNilConst, hb]
        exact Nx.mk (i + 1) (show a.length - (i + 1) < a.length - i by omega) ⟨by omega, by omega, he⟩ (Wk.env (by simp [subE, Env.get, i64_succ (show (i : Int) < 9223372036854775807 by omega)]))
      · rw [if_neg hx] at he
        have hb : (gi a i != gi b i) = true := by simp [hx]
        simp only [gos, eq_self, Nat.reduceEqDiff, reduceIte, ↓reduceIte, hb]
        refine Wr.draw (by kernel_rfl) ?_
        simp only [gos, eq_self, Nat.reduceLT, Nat.reduceEqDiff, Nat.reduceAdd, reduceCtorEq, reduceIte, ↓reduceIte, tt, vgoD, voutD, vclsOk, vids, mayWrite, V.ids, vguard, callOf, vop, ev, vbin, vint, isShift, isNilConst, vload, clsAt, h1, h2, cI_at (Int.natCast_nonneg i) h1, cI_at (Int.natCast_nonneg i) h2]
        subst hQ
        exact FnPost.plain trivial (fun h2 e => by first | rfl | (simp only [Tryz.f60, vres, vresL, vres1, e _, gos, if_true, if_false, ne_eq, eq_self, Nat.reduceLT, Nat.reduceEqDiff, Nat.reduceAdd, Nat.reduceMul, Nat.reduceLeDiff, Nat.reduceBEq, reduceCtorEq, reduceIte, Array.toList, ↓reduceIte, tt, vgo, vout, vgoD, voutD, vclsOk, vids, mayWrite, V.ids, V.mids, vguard, callOf, vop, ev, cv, vbin, vint, isShift, isNilConst, vnil, isNilSlice, vload, vlen, newRow, vfill, vslice, entOf, vappend, srcOf, vcopy, vlookup, vupdate, mapOk, keyOf, intsOf, clsAt]; try rfl)) (WkV.pure (by simp only [V.into])) ⟨by rw [he], rfl⟩
    · have e2 : b.drop i = [] := List.drop_eq_nil_of_le (by omega)
      rw [e2, drop_gi h1, lBefore] at he
      have hb : decide ((a.length : Int) < b.length) = false := by simp; omega
      simp only [gos, eq_self, Nat.reduceLT, Nat.reduceEqDiff, reduceCtorEq, reduceIte, ↓reduceIte, tt, vgo, vout, vguard, callOf, vop, ev, vbin, vint, isShift, isNilConst, vlen, vI, h1, h2, hb]
      subst hQ
      exact FnPost.plain trivial (fun h2 e => by first | rfl | (simp only [Tryz.f60, vres, vresL, vres1, e _, gos, if_true, if_false, ne_eq, eq_self, Nat.reduceLT, Nat.reduceEqDiff, Nat.reduceAdd, Nat.reduceMul, Nat.reduceLeDiff, Nat.reduceBEq, reduceCtorEq, reduceIte, Array.toList, ↓reduceIte, tt, vgo, vout, vgoD, voutD, vclsOk, vids, mayWrite, V.ids, V.mids, vguard, callOf, vop, ev, cv, vbin, vint, isShift, isNilConst, vnil, isNilSlice, vload, vlen, newRow, vfill, vslice, entOf, vappend, srcOf, vcopy, vlookup, vupdate, mapOk, keyOf, intsOf, clsAt]; try rfl)) (WkV.pure (by simp only [V.into])) ⟨by rw [he], rfl⟩
  · have e1 : a.drop i = [] := List.drop_eq_nil_of_le (by omega)
    rw [e1, lBefore] at he
    have hb : decide ((a.length : Int) < b.length) = lBefore a b := by rw [he, List.length_drop]; congr 1; apply propext; omega
    simp only [gos, eq_self, Nat.reduceLT, Nat.reduceEqDiff, reduceCtorEq, reduceIte, ↓reduceIte, tt, vgo, vout, vguard, callOf, vop, ev, cv, vbin, vint, isShift, isNilConst, vlen, vI, h1, hb]
    subst hQ
    exact FnPost.plain trivial (fun h2 e => by first | rfl | (simp only [Tryz.f60, vres, vresL, vres1, e _, gos, if_true, if_false, ne_eq, eq_self, Nat.reduceLT, Nat.reduceEqDiff, Nat.reduceAdd, Nat.reduceMul, Nat.reduceLeDiff, Nat.reduceBEq, reduceCtorEq, reduceIte, Array.toList, ↓reduceIte, tt, vgo, vout, vgoD, voutD, vclsOk, vids, mayWrite, V.ids, V.mids, vguard, callOf, vop, ev, cv, vbin, vint, isShift, isNilConst, vnil, isNilSlice, vload, vlen, newRow, vfill, vslice, entOf, vappend, srcOf, vcopy, vlookup, vupdate, mapOk, keyOf, intsOf, clsAt]; try rfl)) (WkV.pure (by simp only [V.into])) ⟨rfl, rfl⟩
theorem c_rShorter (a b : List Int) (ha : (a.length : Int) ≤ 1000000) : Pu Tryz.prog (.fn 52 [] []) [vI a, vI b] (.bool (lShorter a b)) := by
  refine Ev.fn Tryz.func52 rfl rfl (Fn.body tabOk Tryz.func52 rfl (Nat.le_of_ble_eq_true rfl) (Ks.ok (fz := (fzn [])) (cl := (cln [])) tabOk mixed ?_))
  generalize hQ : FnPost tt Tryz.f52 _ _ = Q
  simp only [Tryz.f52, List.nil_append, List.append_nil, argsEnv, Nat.reduceAdd]
  by_cases h1 : (a.length : Int) < b.length
  · simp only [gos, eq_self, Nat.reduceLT, Nat.reduceEqDiff, reduceCtorEq, reduceIte, ↓reduceIte, tt, vgo, vout, vguard, callOf, vop, ev, cv, vbin, vint, isShift, isNilConst, vlen, vI, h1]
    subst hQ
    exact FnPost.plain trivial (fun h2 e => by first | rfl | (simp only [Tryz.f52, vres, vresL, vres1, e _, gos, if_true, if_false, ne_eq, eq_self, Nat.reduceLT, Nat.reduceEqDiff, Nat.reduceAdd, Nat.reduceMul, Nat.reduceLeDiff, Nat.reduceBEq, reduceCtorEq, reduceIte, Array.toList, ↓reduceIte, tt, vgo, vout, vgoD, voutD, vclsOk, vids, mayWrite, V.ids, V.mids, vguard, callOf, vop, ev, cv, vbin, vint, isShift, isNilConst, vnil, isNilSlice, vload, vlen, newRow, vfill, vslice, entOf, vappend, srcOf, vcopy, vlookup, vupdate, mapOk, keyOf, intsOf, clsAt]; try rfl)) (WkV.pure (by simp only [V.into])) ⟨by simp only [lShorter]; rw [decide_eq_true (by omega : a.length < b.length)]; rfl, rfl⟩
  · by_cases h2 : (a.length : Int) = b.length
    · have hd : decide ((a.length : Int) = b.length) = true := decide_eq_true h2
      simp only [gos, eq_self, Nat.reduceLT, Nat.reduceEqDiff, reduceCtorEq, reduceIte, ↓reduceIte, tt, vgo, vout, vguard, callOf, vop, ev, cv, vbin, vint, isShift, isNilConst, vlen, vI, h1, hd]
      refine Cl.pu (c_rBefore a b ha) ?_ rfl (by simp only [V.into, intoL, cI_into, Bool.and_true])
      simp only [gos, eq_self, Nat.reduceLT, Nat.reduceEqDiff, reduceIte, ↓reduceIte, vgo, vout, vguard, callOf, vop, ev]
      subst hQ
      exact FnPost.plain trivial (fun h2 e => by first | rfl | (simp only [Tryz.f52, vres, vresL, vres1, e _, gos, if_true, if_false, ne_eq, eq_self, Nat.reduceLT, Nat.reduceEqDiff, Nat.reduceAdd, Nat.reduceMul, Nat.reduceLeDiff, Nat.reduceBEq, reduceCtorEq, reduceIte, Array.toList, ↓reduceIte, tt, vgo, vout, vgoD, voutD, vclsOk, vids, mayWrite, V.ids, V.mids, vguard, callOf, vop, ev, cv, vbin, vint, isShift, isNilConst, vnil, isNilSlice, vload, vlen, newRow, vfill, vslice, entOf, vappend, srcOf, vcopy, vlookup, vupdate, mapOk, keyOf, intsOf, clsAt]; try rfl)) (WkV.pure (by simp only [V.into])) ⟨by simp only [lShorter]; rw [decide_eq_false (by omega : ¬ a.length < b.length), decide_eq_true (by omega : a.length = b.length)]; rfl, rfl⟩
    · have hd : decide ((a.length : Int) = b.length) = false := decide_eq_false h2
      simp only [gos, eq_self, Nat.reduceLT, Nat.reduceEqDiff, reduceCtorEq, reduceIte, ↓reduceIte, tt, vgo, vout, vguard, callOf, vop, ev, cv, vbin, vint, isShift, isNilConst, vlen, vI, h1, hd]
      subst hQ
      exact FnPost.plain trivial (fun h2 e => by first | rfl | (simp only [Tryz.f52, vres, vresL, vres1, e _, gos, if_true, if_false, ne_eq, eq_self, Nat.reduceLT, Nat.reduceEqDiff, Nat.reduceAdd, Nat.reduceMul, Nat.reduceLeDiff, Nat.reduceBEq, reduceCtorEq, reduceIte, Array.toList, ↓reduceIte, tt, vgo, vout, vgoD, voutD, vclsOk, vids, mayWrite, V.ids, V.mids, vguard, callOf, vop, ev, cv, vbin, vint, isShift, isNilConst, vnil, isNilSlice, vload, vlen, newRow, vfill, vslice, entOf, vappend, srcOf, vcopy, vlookup, vupdate, mapOk, keyOf, intsOf, clsAt]; try rfl)) (WkV.pure (by simp only [V.into])) ⟨by simp only [lShorter]; rw [decide_eq_false (by omega : ¬ a.length < b.length), decide_eq_false (by omega : ¬ a.length = b.length)]; rfl, rfl⟩
end Go.Vm

set_option linter.unusedVariables false
set_option linter.unusedSimpArgs false
set_option maxRecDepth 100000
namespace Go.Vm
open Go.Proofs
/-! ### which readings can be right together -/
theorem andn {n b : Nat} (hn : n < 6) (hb : b < 2 ^ n) : vbits .andNot .i64 ((2 : Int) ^ n - 1) (b : Int) = ((2 ^ n - 1 - b : Nat) : Int) := by
  have : ∀ n : Fin 6, ∀ b : Fin 32, (b : Nat) < 2 ^ (n : Nat) → vbits .andNot .i64 ((2 : Int) ^ (n : Nat) - 1) (((b : Nat) : Int)) = ((2 ^ (n : Nat) - 1 - (b : Nat) : Nat) : Int) := by decide +kernel
  have h32 : 2 ^ n ≤ 32 := Nat.pow_le_pow_right (n := 2) (by omega) (show n ≤ 5 by omega)
  exact this ⟨n, hn⟩ ⟨b, by omega⟩ hb
theorem sBits_len (b : Nat) : (sBits b).length ≤ 5 := bitsTo_len b 5
end Go.Vm

set_option linter.unusedVariables false
set_option linter.unusedSimpArgs false
set_option maxRecDepth 100000
namespace Go.Vm
open Go.Proofs
/-! ### the least coal of the reference -/
def bV : Option (List Int) → V
  | none => .sl0
  | some b => vI b
end Go.Vm

set_option linter.unusedVariables false
set_option linter.unusedSimpArgs false
set_option maxRecDepth 100000
namespace Go.Vm
/-! ### the least coal: the program's search and the reference's are the same -/
/-! the reference's numbers of coal, in order -/
theorem sure_whole {c : Cu} (k0 : CuOk c) (hne : sTruth c ≠ []) (coal : List Int) : sSureP c coal = decide (rWholes c (rTruths c) coal c.want = 1) := by
  rw [← wholes_same k0 hne]
  have e : ((sTruth c).map fun s => if (sPast c coal c.want s).kept.any (fun y => decide (false = y)) then (0 : Int) else 1) = (sTruth c).map fun s => if sKept c coal c.want s = true then 1 else 0 := by
    apply List.map_congr_left
    intro s _
    by_cases h : ((sPast c coal c.want s).kept.any fun y => decide (false = y)) = true
    · have h2 : sKept c coal c.want s = false := by rw [sKept, h]; rfl
      rw [if_pos h, h2, if_neg (by simp)]
    · have h2 : sKept c coal c.want s = true := by rw [Bool.not_eq_true] at h; rw [sKept, h]; rfl
      rw [if_neg h, h2, if_pos rfl]
  rw [e, sVerdict_01 _ hne, sSureP]
  cases (sTruth c).all fun s => sKept c coal c.want s with
  | true => rfl
  | false => cases (sTruth c).any fun s => sKept c coal c.want s <;> rfl
end Go.Vm

set_option linter.unusedVariables false
set_option linter.unusedSimpArgs false
set_option maxRecDepth 100000
namespace Go.Vm
/-! ### fewer promises, more coal -/
theorem whole_coal {c : Cu} {coal coal' want : List Int} {t : Tr2} (hp : 1 ≤ c.per) (hh : 0 ≤ t.heat) (hc : ∀ i : Nat, i < (c.last + 1).toNat → 0 ≤ gi coal i ∧ gi coal i ≤ gi coal' i) (h : wholeI c coal want t = true) : wholeI c coal' want t = true := by
  rw [whole_iff] at h ⊢
  intro i hi
  have w : Warm (tS t) (tS t) coal coal' (c.last + 1).toNat := ⟨⟨hh, Int.le_refl _⟩, fun i _ => Int.le_refl _, hc⟩
  have hm := tdiv_mono (sHeat_ge c (tS t) coal want i) (warm_heat w hi (warm_play hp w i (by omega))) hp
  have := h i hi
  omega
end Go.Vm

set_option linter.unusedVariables false
set_option linter.unusedSimpArgs false
set_option maxRecDepth 100000
namespace Go.Vm
/-! ### fewer truths -/
theorem SubT.sure {x c : Cu} (S : SubT x c) (X : AskOk x true) (A : AskOk c true) {coal : List Int} (h : sSureP c coal = true) : sSureP x coal = true := by
  have hne : rTruths x ≠ [] := fun e => X.ne ((same_nil X.k0).2 e)
  rw [sure_whole A.k0 A.ne, decide_eq_true_eq] at h
  rw [sure_whole X.k0 X.ne, decide_eq_true_eq, S.want]
  exact S.wholes hne h
/-! which readings are left out -/
end Go.Vm

set_option linter.unusedVariables false
set_option linter.unusedSimpArgs false
set_option maxRecDepth 100000
namespace Go.Vm
open Go.Proofs
/-! ### lists of lists -/
def cLL (ll : List (List Int)) : List V := ll.map vI
def vLL (ll : List (List Int)) : V := .ro ll.length (cLL ll)
def gL (ll : List (List Int)) (n : Int) : List Int := ll.getD n.toNat []
theorem cLL_len (ll : List (List Int)) : (cLL ll).length = ll.length := by simp [cLL]
theorem cLL_into (p : Nat → Bool) : ∀ ll : List (List Int), intoL p (cLL ll) = true
  | [] => rfl
  | l :: ll => by simp only [cLL, List.map_cons, intoL, vI_into, Bool.true_and]; exact cLL_into p ll
theorem vLL_into (p : Nat → Bool) (ll : List (List Int)) : (vLL ll).into p = true := by simp only [vLL, V.into, cLL_into]
theorem cLL_frz (i v : Nat) (cs : List V) : ∀ ll : List (List Int), frzL i v cs (cLL ll) = cLL ll
  | [] => rfl
  | l :: ll => by
    have := cLL_frz i v cs ll
    simp only [cLL, List.map_cons, frzL, vI_frz] at this ⊢
    rw [this]
theorem cLL_one : ∀ ll : List (List Int), oneL (cLL ll) = true
  | [] => rfl
  | l :: ll => by simp only [cLL, List.map_cons, oneL, on_vI, Bool.true_and]; exact cLL_one ll
theorem gL_drop {ll : List (List Int)} {n : Int} (h0 : 0 ≤ n) (h1 : n < ll.length) : ll.drop n.toNat = gL ll n :: ll.drop (n.toNat + 1) := by
  have hn : n.toNat < ll.length := by omega
  rw [List.drop_eq_getElem_cons hn, gL, List.getD_eq_getElem?_getD, List.getElem?_eq_getElem hn]; rfl
theorem cLL_at {ll : List (List Int)} {n : Int} (h0 : 0 ≤ n) (h1 : n < ll.length) : (cLL ll).drop (n.toNat * 1) = vI (gL ll n) :: cLL (ll.drop (n.toNat + 1)) := by
  rw [Nat.mul_one, cLL, ← List.map_drop, gL_drop h0 h1]; rfl
theorem gL_get {ll : List (List Int)} {i : Nat} (h : (i : Int) < ll.length) : ll[i]? = some (gL ll i) := by
  rw [gL, Int.toNat_natCast, List.getD_eq_getElem?_getD, List.getElem?_eq_getElem (by omega)]; rfl
theorem cLL_snoc (ll : List (List Int)) (l : List Int) : cLL (ll ++ [l]) = cLL ll ++ [vI l] := by simp [cLL]
theorem cLL_app (a b : List (List Int)) : cLL (a ++ b) = cLL a ++ cLL b := by simp [cLL]
end Go.Vm

set_option linter.unusedVariables false
set_option linter.unusedSimpArgs false
set_option maxRecDepth 100000
namespace Go.Vm
open Go.Proofs
theorem c_r9Keeps (r : Rm) (l : List Tr2) (m : List Int) (h : MOk r m) (hl : (l.length : Int) ≤ 1000000) (hok : ∀ t ∈ l, TrOk r.cu t r.cu.coal (addL r.cu.want (rBk r m))) : Pu Tryz.prog (.fn 63 [] []) [.agg r.cs, vT l, vI m] (vi (rKe r l m)) := by
  refine Ev.fn Tryz.func63 rfl rfl (Fn.body tabOk Tryz.func63 rfl (Nat.le_of_ble_eq_true rfl) (Ks.ok (fz := (fzn [])) (cl := (cln [(1, .d tg0 [cP, cP, cP, cP, cP, cP, cP, cP, cP, cP, cP, cP, cP, cP, cP])])) tabOk mixed ?_))
  generalize hQ : FnPost tt Tryz.f63 _ _ = Q
  simp only [Tryz.f63, List.nil_append, List.append_nil, argsEnv, Nat.reduceAdd]
  simp only [gos, eq_self, Nat.reduceLT, reduceCtorEq, reduceIte, ↓reduceIte, vgo, vout, vguard, callOf, vop, ev, cv, newRow]
  refine Wr.draw (by kernel_rfl) ?_
  have hone : oneL r.cu.cs = true := rfl
  have h5 : (List.drop 5 r.cs).head? = some (vI r.cu.coal) := rfl
  simp only [gos, eq_self, Nat.reduceLT, Nat.reduceEqDiff, Nat.reduceAdd, Nat.reduceLeDiff, reduceCtorEq, reduceIte, ↓reduceIte, tt, vgoD, voutD, vclsOk, vids, mayWrite, V.ids, vguard, callOf, vop, ev, vload, clsAt, rms, h5]
  refine CD.pu (c_r9Buckets r m h.bu h.len fun x hx => by have := h.mb x hx; omega) ?_ rfl (by simp only [V.into, intoL, vI_into, Bool.and_true, rm_into])
  simp only [gos, eq_self, Nat.reduceLT, Nat.reduceEqDiff, reduceIte, ↓reduceIte, vgoD, voutD, vguard, callOf, ev]
  refine CD.pu (c_rSum r.cu.want (rBk r m) (by have := h.wl; have := h.len; omega) (by have := h.wl; simp [rBk]; omega) fun i hi => ?_) ?_ rfl (by simp only [intoL, vI_into, Bool.and_true])
  · have hm := h.mb _ (gi_mem (l := m) (i := i) (by have := h.wl; omega))
    have hw := h.wb _ (gi_mem (l := r.cu.want) (i := i) (by omega))
    have hb := h.bu
    have h1 : 0 ≤ r.bu * gi m i := Int.mul_nonneg hb.1 hm.1
    have h2 : r.bu * gi m i ≤ 1000 * 900 := Int.mul_le_mul hb.2 hm.2 hm.1 (by omega)
    rw [rBk_gi r m (by have := h.wl; omega)]
    omega
  simp only [gos, eq_self, Nat.reduceLT, Nat.reduceEqDiff, reduceIte, ↓reduceIte, vgoD, voutD, vguard, callOf, ev]
  refine CD.pu (c_rWholes r.cu l r.cu.coal (addL r.cu.want (rBk r m)) hl hok) ?_ rfl (by simp only [V.into, intoL, vI_into, cu_into, Bool.and_true, vT_into])
  simp only [gos, eq_self, Nat.reduceLT, reduceIte, ↓reduceIte, vgoD, voutD, vclsOk, vids, mayWrite, vguard, callOf, vop, ev]
  subst hQ
  exact FnPost.plain trivial (fun h2 e => by first | rfl | (simp only [Tryz.f63, vres, vresL, vres1, e _, gos, if_true, if_false, ne_eq, eq_self, Nat.reduceLT, Nat.reduceEqDiff, Nat.reduceAdd, Nat.reduceMul, Nat.reduceLeDiff, Nat.reduceBEq, reduceCtorEq, reduceIte, Array.toList, ↓reduceIte, tt, vgo, vout, vgoD, voutD, vclsOk, vids, mayWrite, V.ids, V.mids, vguard, callOf, vop, ev, cv, vbin, vint, isShift, isNilConst, vnil, isNilSlice, vload, vlen, newRow, vfill, vslice, entOf, vappend, srcOf, vcopy, vlookup, vupdate, mapOk, keyOf, intsOf, clsAt]; try rfl)) (WkV.pure (by simp only [V.into])) ⟨rfl, rfl⟩
theorem c_r9IsSure (r : Rm) (l : List Tr2) (m : List Int) (h : MOk r m) (hl : (l.length : Int) ≤ 1000000) (hok : rCanBe r m = true → ∀ t ∈ l, TrOk r.cu t r.cu.coal (addL r.cu.want (rBk r m))) : Pu Tryz.prog (.fn 45 [] []) [.agg r.cs, vT l, vI m] (.bool (rSureM r l m)) := by
  refine Ev.fn Tryz.func45 rfl rfl (Fn.body tabOk Tryz.func45 rfl (Nat.le_of_ble_eq_true rfl) (Ks.ok (fz := (fzn [])) (cl := (cln [])) tabOk mixed ?_))
  generalize hQ : FnPost tt Tryz.f45 _ _ = Q
  simp only [Tryz.f45, List.nil_append, List.append_nil, argsEnv, Nat.reduceAdd]
  simp only [gos, eq_self, Nat.reduceLT, Nat.reduceEqDiff, reduceCtorEq, reduceIte, ↓reduceIte, tt, vgo, vout, vguard, callOf, vop, ev, cv, vload, newRow, rms]
  refine Cl.pu (c_r9CanBe r m h.bu h.len (by have := h.wl; omega) h.wb fun x hx => by have := h.mb x hx; omega) ?_ rfl (by simp only [V.into, intoL, vI_into, Bool.and_true, rm_into])
  cases hc : rCanBe r m with
  | false =>
    simp only [gos, eq_self, Nat.reduceLT, Nat.reduceEqDiff, reduceIte, ↓reduceIte, vgo, vout, vguard, callOf, vop, ev, cv]
    subst hQ
    exact FnPost.plain trivial (fun h2 e => by first | rfl | (simp only [Tryz.f45, vres, vresL, vres1, e _, gos, if_true, if_false, ne_eq, eq_self, Nat.reduceLT, Nat.reduceEqDiff, Nat.reduceAdd, Nat.reduceMul, Nat.reduceLeDiff, Nat.reduceBEq, reduceCtorEq, reduceIte, Array.toList, ↓reduceIte, tt, vgo, vout, vgoD, voutD, vclsOk, vids, mayWrite, V.ids, V.mids, vguard, callOf, vop, ev, cv, vbin, vint, isShift, isNilConst, vnil, isNilSlice, vload, vlen, newRow, vfill, vslice, entOf, vappend, srcOf, vcopy, vlookup, vupdate, mapOk, keyOf, intsOf, clsAt]; try rfl)) (WkV.pure (by simp only [V.into])) ⟨by simp [rSureM, hc], rfl⟩
  | true =>
    simp only [gos, eq_self, Nat.reduceLT, Nat.reduceEqDiff, reduceCtorEq, reduceIte, ↓reduceIte, tt, vgo, vout, vguard, callOf, vop, ev, vload, rms]
    refine Cl.pu (c_r9Keeps r l m h hl (hok hc)) ?_ rfl (by simp only [V.into, intoL, vI_into, Bool.and_true, rm_into, vT_into])
    simp only [gos, eq_self, Nat.reduceLT, Nat.reduceEqDiff, reduceIte, ↓reduceIte, vgo, vout, vguard, callOf, vop, ev, cv, vbin, vint, isShift, isNilConst]
    subst hQ
    exact FnPost.plain trivial (fun h2 e => by first | rfl | (simp only [Tryz.f45, vres, vresL, vres1, e _, gos, if_true, if_false, ne_eq, eq_self, Nat.reduceLT, Nat.reduceEqDiff, Nat.reduceAdd, Nat.reduceMul, Nat.reduceLeDiff, Nat.reduceBEq, reduceCtorEq, reduceIte, Array.toList, ↓reduceIte, tt, vgo, vout, vgoD, voutD, vclsOk, vids, mayWrite, V.ids, V.mids, vguard, callOf, vop, ev, cv, vbin, vint, isShift, isNilConst, vnil, isNilSlice, vload, vlen, newRow, vfill, vslice, entOf, vappend, srcOf, vcopy, vlookup, vupdate, mapOk, keyOf, intsOf, clsAt]; try rfl)) (WkV.pure (by simp only [V.into])) ⟨by simp [rSureM, hc], rfl⟩
end Go.Vm

set_option linter.unusedVariables false
set_option linter.unusedSimpArgs false
set_option maxRecDepth 100000
namespace Go.Vm
/-! ### what is sure in one room and in another -/
theorem check_of {x : Rm} (ha : sAsked x.cu true = 0) (hpl : 0 ≤ x.pl ∧ x.pl ≤ 5) (hbu : 1 ≤ x.bu ∧ x.bu ≤ 9) (hl : x.ba.length ≤ 5) (hb : ∀ b ∈ x.ba, 0 ≤ b.lo ∧ b.lo ≤ b.hi ∧ b.hi ≤ x.cu.last) : sCheckR x = 0 := by
  have h1 : ¬ (sAsked x.cu true ≠ 0) := by simp [ha]
  have h2 : ¬ (5 < x.pl ∨ 5 < (x.ba.length : Int)) := by omega
  have h3 : x.ba.all (sValid x) = true := by
    rw [List.all_eq_true]
    intro b hb2
    have := hb b hb2
    simp only [sValid, Bool.and_eq_true, decide_eq_true_eq]; omega
  have h4 : sIn x.bu 1 9 = true := by simp [sIn]; omega
  rw [sCheckR, if_neg h1, if_neg h2, h3, h4, if_neg (by simp; omega)]
theorem RmOk.check {r : Rm} (k : RmOk r) : sCheckR r = 0 := check_of k.ask k.pl k.bu k.len k.ba
theorem sure_room {r x : Rm} (k : RmOk r) (kx : RmOk x) (hl : x.cu.last = r.cu.last) (hw : x.cu.want = r.cu.want) (hpl : r.pl ≤ x.pl) (hbu : x.bu ≤ r.bu)
    (hT : ∀ w : List Int, rWholes r.cu (rTruths r.cu) r.cu.coal w = 1 → rWholes x.cu (rTruths x.cu) x.cu.coal w = 1)
    {n m : List Int} (h : ∀ i : Nat, (i : Int) ≤ r.cu.last → 0 ≤ gi m i ∧ gi m i ≤ gi n i) (hs : sSureN r n = true) : sSureN x m = true := by
  have hla := k.A.k0.last
  have hbx := kx.bu
  have hbr := k.bu
  simp only [sSureN, Bool.and_eq_true, decide_eq_true_eq] at hs
  have hmul : ∀ i : Nat, (i : Int) ≤ r.cu.last → 0 ≤ x.bu * gi m i ∧ x.bu * gi m i ≤ r.bu * gi n i := fun i hi => by
    have h1 := h i hi
    exact ⟨Int.mul_nonneg (by omega) h1.1, Int.mul_le_mul hbu h1.2 h1.1 (by omega)⟩
  have hp : sPossN x m = true := by
    have hp := hs.1
    rw [sPossN, List.all_eq_true] at hp ⊢
    intro i hi
    rw [hl] at hi
    have hi2 := List.mem_range.1 hi
    have h1 := h i (by omega)
    have h2 := hmul i (by omega)
    have h3 := hp i hi
    simp only [sRoom, Bool.or_eq_true, Bool.and_eq_true, decide_eq_true_eq] at h3 ⊢
    rw [hw]
    rcases h3 with h3 | ⟨h3, h4⟩
    · left; omega
    · right; omega
  simp only [sSureN, Bool.and_eq_true, decide_eq_true_eq]
  refine ⟨hp, ?_⟩
  rw [keV_eq kx (fun i hi => (h i (by omega)).1) hp, hw]
  have hkn := hs.2
  rw [keV_eq k (fun i hi => by have := h i hi; omega) hs.1] at hkn
  refine hT _ (more_one k.A.k0 k.ne (fun i hi => ?_) hkn)
  rw [nb_gi (by omega), nb_gi (by omega)]
  exact hmul i (by omega)
/-! a plan without some baths, by places -/
theorem pk_eq (b : Nat) (p : List Int) : pk b 0 p = ((List.range p.length).filter fun i => b.testBit i).map fun (i : Nat) => gi p i := by
  have e : ∀ n, n ≤ p.length → pk b 0 (p.take n) = ((List.range n).filter fun i => b.testBit i).map fun (i : Nat) => gi p i := by
    intro n
    induction n with
    | zero => intro _; simp [pk]
    | succ n ih =>
      intro hn
      rw [gi_take (by omega), pk_snoc, ih (by omega), List.length_take, Nat.min_eq_left (by omega), Nat.zero_add, List.range_succ, List.filter_append, List.map_append]
      congr 1
      simp only [List.filter_cons, List.filter_nil]
      split <;> rfl
  have := e p.length (Nat.le_refl _)
  rwa [List.take_length] at this
theorem pk_mem {b : Nat} {p : List Int} {x : Int} (h : x ∈ pk b 0 p) : ∃ j : Nat, j < p.length ∧ b.testBit j = true ∧ x = gi p j := by
  rw [pk_eq] at h
  simp only [List.mem_map, List.mem_filter, List.mem_range] at h
  obtain ⟨j, ⟨h1, h2⟩, rfl⟩ := h
  exact ⟨j, h1, h2, rfl⟩
theorem pk_congr {b : Nat} {p q : List Int} (hl : p.length = q.length) (h : ∀ j : Nat, j < p.length → b.testBit j = true → gi p j = gi q j) : pk b 0 p = pk b 0 q := by
  rw [pk_eq, pk_eq, ← hl]
  apply List.map_congr_left
  intro j hj
  simp only [List.mem_filter, List.mem_range] at hj
  exact h j hj.1 hj.2
theorem mem_rSuf (r : Rm) (b : Nat) : ∀ (k i : Nat) (p : List Int), p ∈ rSuf r b k i ↔ p.length = k ∧ ∀ j : Nat, j < k → if b.testBit (i + j) = true then (gR r.ba ((i + j : Nat) : Int)).lo ≤ gi p j ∧ gi p j ≤ (gR r.ba ((i + j : Nat) : Int)).hi else gi p j = 0
  | 0, i, p => by
    simp only [rSuf, List.mem_singleton]
    constructor
    · rintro rfl; exact ⟨rfl, fun j hj => by omega⟩
    · rintro ⟨h, _⟩; exact List.length_eq_zero_iff.1 h
  | k + 1, i, p => by
    have ih := mem_rSuf r b k (i + 1)
    have hgi0 : ∀ (x : Int) (q : List Int), gi (x :: q) (0 : Nat) = x := fun x q => rfl
    have hgis : ∀ (x : Int) (q : List Int) (j : Nat), gi (x :: q) ((j + 1 : Nat) : Int) = gi q j := fun x q j => by simp only [gi, Int.toNat_natCast, List.getD_cons_succ]
    rw [rSuf]
    constructor
    · intro h
      obtain ⟨x, q, hq, rfl, hx⟩ : ∃ x q, q ∈ rSuf r b k (i + 1) ∧ p = x :: q ∧ if b.testBit i = true then (gR r.ba i).lo ≤ x ∧ x ≤ (gR r.ba i).hi else x = 0 := by
        split at h
        · simp only [List.mem_flatMap, List.mem_map] at h
          obtain ⟨x, hx, q, hq, rfl⟩ := h
          rename_i hb
          exact ⟨x, q, hq, rfl, by rw [if_pos hb]; exact mem_rangeI.1 hx⟩
        · obtain ⟨q, hq, rfl⟩ := List.mem_map.1 h
          rename_i hb
          exact ⟨0, q, hq, rfl, by rw [if_neg hb]⟩
      obtain ⟨h1, h2⟩ := (ih q).1 hq
      refine ⟨by simp [h1], fun j hj => ?_⟩
      cases j with
      | zero => rw [Nat.add_zero, hgi0]; exact hx
      | succ j =>
        rw [hgis]
        have := h2 j (by omega)
        rw [show i + 1 + j = i + (j + 1) by omega] at this
        exact this
    · rintro ⟨h1, h2⟩
      cases p with
      | nil => simp at h1
      | cons x q =>
        have h0 := h2 0 (by omega)
        rw [Nat.add_zero, hgi0] at h0
        have hq : q ∈ rSuf r b k (i + 1) := (ih q).2 ⟨by simpa using h1, fun j hj => by
          have := h2 (j + 1) (by omega)
          rw [hgis, show i + (j + 1) = i + 1 + j by omega] at this
          exact this⟩
        split
        · rename_i hb
          rw [if_pos hb] at h0
          simp only [List.mem_flatMap, List.mem_map]
          exact ⟨x, mem_rangeI.2 h0, q, hq, rfl⟩
        · rename_i hb
          rw [if_neg hb] at h0
          exact List.mem_map.2 ⟨q, hq, by rw [h0]⟩
theorem pk_range {r : Rm} (k : RmOk r) {b : Nat} {p : List Int} (hl : p.length = r.ba.length) (h : ∀ j : Nat, j < r.ba.length → b.testBit j = true → (gR r.ba j).lo ≤ gi p j ∧ gi p j ≤ (gR r.ba j).hi) : ∀ x ∈ pk b 0 p, 0 ≤ x ∧ x ≤ r.cu.last := fun x hx => by
  obtain ⟨j, h1, h2, rfl⟩ := pk_mem hx
  have h3 := h j (by omega) h2
  have h4 := k.ba _ (List.mem_of_getElem? (gR_get (show (j : Int) < r.ba.length by omega)))
  omega
theorem rest_iff {r : Rm} (k : RmOk r) {b : Nat} : restN r b = true ↔ ∃ p : List Int, p.length = r.ba.length ∧ (∀ j : Nat, j < r.ba.length → b.testBit j = true → (gR r.ba j).lo ≤ gi p j ∧ gi p j ≤ (gR r.ba j).hi) ∧ sSureN r (cntN (pk b 0 p)) = true := by
  rw [restN, Bool.not_eq_true', List.isEmpty_eq_false_iff]
  constructor
  · intro h
    obtain ⟨p, hp⟩ := List.exists_mem_of_ne_nil _ h
    rw [rSures, rPlansF_suf, List.mem_filter] at hp
    obtain ⟨h1, h2⟩ := hp
    obtain ⟨q, hq, rfl⟩ := List.mem_map.1 h1
    obtain ⟨g1, g2⟩ := (mem_rSuf r b _ _ q).1 hq
    rw [List.nil_append] at h2
    have hin : ∀ j : Nat, j < r.ba.length → b.testBit j = true → (gR r.ba j).lo ≤ gi q j ∧ gi q j ≤ (gR r.ba j).hi := fun j hj hb => by
      have := g2 j hj
      simp only [List.length_nil, Nat.zero_add] at this
      rw [if_pos hb] at this
      exact this
    exact ⟨q, g1, hin, by rw [(num_ref k (pk_range k g1 hin) (rNum_eq r q b)).2.2]; exact h2⟩
  · rintro ⟨p, hl, hin, hs⟩
    let q : List Int := (List.range r.ba.length).map fun j => if b.testBit j = true then gi p j else 0
    have hql : q.length = r.ba.length := by simp [q]
    have hqg : ∀ j : Nat, j < r.ba.length → gi q j = if b.testBit j = true then gi p j else 0 := fun j hj => gi_map hj
    have hpk : pk b 0 q = pk b 0 p := pk_congr (by omega) fun j hj hb => by rw [hqg j (by omega), if_pos hb]
    have hin2 : ∀ j : Nat, j < r.ba.length → b.testBit j = true → (gR r.ba j).lo ≤ gi q j ∧ gi q j ≤ (gR r.ba j).hi := fun j hj hb => by rw [hqg j hj, if_pos hb]; exact hin j hj hb
    refine List.ne_nil_of_mem (a := q) ?_
    rw [rSures, rPlansF_suf, List.mem_filter]
    refine ⟨List.mem_map.2 ⟨q, (mem_rSuf r b _ _ q).2 ⟨hql, fun j hj => ?_⟩, List.nil_append q⟩, ?_⟩
    · simp only [List.length_nil, Nat.zero_add]
      rw [hqg j hj]
      split
      · rename_i hb; exact hin j hj hb
      · rfl
    · rw [← (num_ref k (pk_range k hql hin2) (rNum_eq r q b)).2.2, hpk]
      exact hs
end Go.Vm

set_option linter.unusedVariables false
set_option linter.unusedSimpArgs false
set_option maxRecDepth 100000
namespace Go.Vm
/-! ### a room whose coppers have more coal, and no readings -/
def rmC (r : Rm) (l : List Int) : Rm := { r with cu := { r.cu with coal := l } }
structure MoreC (r : Rm) (l : List Int) : Prop where
  dry : r.cu.readings = []
  len : (l.length : Int) = r.cu.last + 1
  sh : ∀ x ∈ l, 0 ≤ x ∧ x ≤ r.cu.shovels
  le : ∀ i : Nat, (i : Int) ≤ r.cu.last → gi r.cu.coal i ≤ gi l i
theorem coal_okR {r : Rm} (k : RmOk r) {l : List Int} (h1 : (l.length : Int) = r.cu.last + 1) (h2 : ∀ x ∈ l, 0 ≤ x ∧ x ≤ r.cu.shovels) : CuOk (rmC r l).cu :=
  have k0 := k.A.k0
  ⟨k0.last, k0.rds, k0.most, k0.start, k0.per, k0.shovels, ⟨h1, h2⟩, k0.want, k0.heat, k0.loss, k0.readings, k0.many⟩
theorem rmC_ok {r : Rm} (k : RmOk r) (hd : r.cu.readings = []) {l : List Int} (h1 : (l.length : Int) = r.cu.last + 1) (h2 : ∀ x ∈ l, 0 ≤ x ∧ x ≤ r.cu.shovels) : RmOk (rmC r l) :=
  have ha := dry_asked (coal_okR k h1 h2) hd
  ⟨ha, askOk_of ha, k.pl, k.bu, k.len, k.ba⟩
theorem MoreC.ok {r : Rm} {l : List Int} (M : MoreC r l) (k : RmOk r) : RmOk (rmC r l) := rmC_ok k M.dry M.len M.sh
theorem MoreC.sure {r : Rm} {l : List Int} (M : MoreC r l) (k : RmOk r) {n : List Int} (h0 : ∀ i : Nat, (i : Int) ≤ r.cu.last → 0 ≤ gi n i) (hs : sSureN r n = true) : sSureN (rmC r l) n = true := by
  have k0 := k.A.k0
  have kx := M.ok k
  refine sure_room k kx rfl rfl (Int.le_refl _) (Int.le_refl _) (fun w hw => ?_) (fun i hi => ⟨h0 i hi, Int.le_refl _⟩) hs
  rw [wholes_one k.ne] at hw
  rw [wholes_one kx.ne]
  intro t ht
  rw [truths_dry r.cu (rmC r l).cu rfl rfl M.dry M.dry] at ht
  rw [whole_cu r.cu (rmC r l).cu rfl rfl rfl rfl]
  refine whole_coal k0.per.1 (rTr_ok k0 _ t ht).sc.heat.1 (fun i hi => ?_) (hw t ht)
  have h1 := k0.coal.2 _ (gi_mem (l := r.cu.coal) (i := i) (by have := k0.coal.1; omega))
  exact ⟨h1.1, M.le i (by omega)⟩
theorem zL_ge (i : Nat) : 0 ≤ gi zL i := by rw [zL_gi]; omega
theorem MoreC.rest {r : Rm} {l : List Int} (M : MoreC r l) (k : RmOk r) {b : Nat} (h : restN r b = true) : restN (rmC r l) b = true := by
  obtain ⟨p, h1, h2, h3⟩ := (rest_iff k).1 h
  exact (rest_iff (M.ok k)).2 ⟨p, h1, h2, M.sure k (fun i _ => (num_same k (pk_range k h1 h2) i).2) h3⟩
theorem MoreC.most {r : Rm} {l : List Int} (M : MoreC r l) (k : RmOk r) (hs : sSureN r zL = true) : (mostF r).sum ≤ (mostF (rmC r l)).sum := by
  have kx := M.ok k
  have hx := M.sure k (fun i _ => zL_ge i) hs
  have h1 := (mostF_spec k hs).1
  have h2 : mostF r ∈ sureL (rmC r l) := by
    rw [sureL, List.mem_filter] at h1 ⊢
    refine ⟨h1.1, M.sure k (fun i _ => ?_) h1.2⟩
    rw [pad5_gi]
    exact gi_ge0 (fun y hy => ((digs_mem.1 h1.1).2 y hy).1) i
  rcases (mostF_spec kx hx).2 _ h2 with h | ⟨h, _⟩ <;> omega
theorem giveR_eqC {r : Rm} (k : RmOk r) : sGiveR r = if sSureN r zL = true then ((giveAll r).getD [], 0) else ([], 10) := by rw [sGiveR, if_pos k.check]
end Go.Vm

set_option linter.unusedVariables false
set_option linter.unusedSimpArgs false
set_option maxRecDepth 100000
namespace Go.Vm
open Go.Proofs
/-! ### all plans of the reference -/
/-- What comes out of the first hours. -/
def plA (r : Rm) (b k : Nat) (p : List Int) (i : Nat) : List (List Int) := ((List.range i).map fun (j : Nat) => (gR r.ba p.length).lo + j).flatMap fun h => rPlansF r b k (p ++ [h])
theorem plA_succ (r : Rm) (b k : Nat) (p : List Int) (i : Nat) : plA r b k p (i + 1) = plA r b k p i ++ rPlansF r b k (p ++ [(gR r.ba p.length).lo + i]) := by
  simp only [plA, List.range_succ, List.map_append, List.flatMap_append, List.map_cons, List.map_nil, List.flatMap_cons, List.flatMap_nil, List.append_nil]
theorem rPlansF_len {r : Rm} (k : RmOk r) (b : Nat) : ∀ (n : Nat) (p : List Int), p.length + n = r.ba.length → 0 < (rPlansF r b n p).length ∧ (rPlansF r b n p).length ≤ 5 ^ n
  | 0, p, _ => by simp [rPlansF]
  | n + 1, p, h => by
    have hl := k.A.k0.last
    have hlt : (p.length : Int) < r.ba.length := by omega
    have hb := k.ba _ (List.mem_of_getElem? (gR_get hlt))
    rw [rPlansF]
    split
    · have hr : (rangeI (gR r.ba p.length).lo (gR r.ba p.length).hi).length ≤ 5 := by rw [rangeI_len]; omega
      have h0 : 0 < (rangeI (gR r.ba p.length).lo (gR r.ba p.length).hi).length := by rw [rangeI_len]; omega
      have ih := fun x : Int => rPlansF_len k b n (p ++ [x]) (by simp; omega)
      constructor
      · obtain ⟨x, hx⟩ := List.exists_mem_of_length_pos h0
        obtain ⟨y, hy⟩ := List.exists_mem_of_length_pos (ih x).1
        exact List.length_pos_of_mem (List.mem_flatMap.2 ⟨x, hx, hy⟩)
      · have := flat_lenB (fun x : Int => rPlansF r b n (p ++ [x])) (5 ^ n) (rangeI (gR r.ba p.length).lo (gR r.ba p.length).hi) fun x _ => (ih x).2
        have h2 : (rangeI (gR r.ba p.length).lo (gR r.ba p.length).hi).length * 5 ^ n ≤ 5 * 5 ^ n := Nat.mul_le_mul_right _ hr
        rw [Nat.pow_succ, Nat.mul_comm (5 ^ n)]
        exact Nat.le_trans this h2
    · have ih := rPlansF_len k b n (p ++ [0]) (by simp; omega)
      rw [Nat.pow_succ]
      omega
theorem pow5_le {n : Nat} (h : n ≤ 5) : 5 ^ n ≤ 3125 := by
  have : ∀ i : Fin 6, 5 ^ (i : Nat) ≤ 3125 := by decide
  exact this ⟨n, by omega⟩
set_option maxHeartbeats 4000000 in
theorem c_r9Plans (r : Rm) (k : RmOk r) (b : Nat) (hb : b < 32) : ∀ (n : Nat) (p : List Int), p.length + n = r.ba.length →
    Pu Tryz.prog (.fn 92 [] []) [.agg r.cs, vI p, vi b] (vLL (rPlansF r b n p))
  | 0, p, h => by
    refine Ev.fn Tryz.func92 rfl rfl (Fn.body tabOk Tryz.func92 rfl (Nat.le_of_ble_eq_true rfl) (Ks.ok (fz := (fzn [])) (cl := (cln [(5, .ex), (10, .ex)])) tabOk mixed ?_))
    generalize hQ : FnPost tt Tryz.f92 _ _ = Q
    simp only [Tryz.f92, List.nil_append, List.append_nil, argsEnv, Nat.reduceAdd]
    have e : decide ((p.length : Int) = (r.ba.length : Int)) = true := by rw [decide_eq_true_eq]; omega
    simp only [gos, eq_self, Nat.reduceLT, Nat.reduceEqDiff, Nat.reduceAdd, Nat.reduceMul, Nat.reduceLeDiff, reduceCtorEq, reduceIte, ↓reduceIte, tt, vgo, vout, vguard, callOf, vop, ev, cv, vbin, vint, isShift, isNilConst, vload, vlen, newRow, vfill, rms, vI, vR, e]
    subst hQ
    exact FnPost.plain trivial (fun h2 e => by first | rfl | (simp only [Tryz.f92, vres, vresL, vres1, e _, gos, if_true, if_false, ne_eq, eq_self, Nat.reduceLT, Nat.reduceEqDiff, Nat.reduceAdd, Nat.reduceMul, Nat.reduceLeDiff, Nat.reduceBEq, reduceCtorEq, reduceIte, Array.toList, ↓reduceIte, tt, vgo, vout, vgoD, voutD, vclsOk, vids, mayWrite, V.ids, V.mids, vguard, callOf, vop, ev, cv, vbin, vint, isShift, isNilConst, vnil, isNilSlice, vload, vlen, newRow, vfill, vslice, entOf, vappend, srcOf, vcopy, vlookup, vupdate, mapOk, keyOf, intsOf, clsAt]; try rfl)) (WkV.pure (by simp only [V.into, intoL, cI_into, Bool.and_true])) ⟨by simp [rPlansF, vLL, cLL, vI], rfl⟩
  | n + 1, p, h => by
    have hl5 := k.len
    have hla := k.A.k0.last
    have hlt : (p.length : Int) < r.ba.length := by omega
    have hba := k.ba _ (List.mem_of_getElem? (gR_get hlt))
    refine Ev.fn Tryz.func92 rfl rfl (Fn.body tabOk Tryz.func92 rfl (Nat.le_of_ble_eq_true rfl) (Ks.ok (fz := (fzn [])) (cl := (cln [(5, .ex), (10, .ex)])) tabOk mixed ?_))
    generalize hQ : FnPost tt Tryz.f92 _ _ = Q
    simp only [Tryz.f92, List.nil_append, List.append_nil, argsEnv, Nat.reduceAdd]
    have e : decide ((p.length : Int) = (r.ba.length : Int)) = false := by rw [decide_eq_false_iff_not]; omega
    have hw1 := u64_in (n := (p.length : Int)) (by omega) (by omega)
    have hn : ¬ (p.length : Int) < 0 := by omega
    have hs := shr5 hb (p := p.length) (by omega)
    have hbt := bit5 hb (p := p.length) (by omega)
    have z2 : ¬ (2 : Int) = 0 := by omega
    have hbt0 : decide (((b >>> p.length : Nat) : Int).tmod 2 = 0) = !b.testBit p.length := by
      rw [← hbt]
      have h1 : ((b >>> p.length : Nat) : Int).tmod 2 = 0 ∨ ((b >>> p.length : Nat) : Int).tmod 2 = 1 := by
        have := tmod_le (Int.natCast_nonneg (b >>> p.length)) (s := 2) (by omega); omega
      rcases h1 with h1 | h1 <;> rw [h1] <;> rfl
    have hcl := cI_len p
    have hp6 : p.length ≤ 1000000 := by omega
    have hp7 : p.length ≤ 999999 := by omega
    simp only [gos, eq_self, Nat.reduceLT, Nat.reduceEqDiff, reduceCtorEq, reduceIte, ↓reduceIte, tt, vgo, vout, vguard, callOf, vop, ev, cv, vbin, vint, isShift, isNilConst, vload, vlen, newRow, rms, vI, vR, e, hw1, hn, hs, z2, hbt0]
    cases ht : b.testBit p.length with
    | false =>
      have htk : (cI (p ++ [0])).take (p.length + 1) = cI (p ++ [0]) := List.take_of_length_le (by rw [cI_len]; simp)
      have hsn : cI p ++ [V.int IntKind.i64 0] = cI (p ++ [0]) := (cI_snoc p 0).symm
      simp only [gos, eq_self, reduceIte, ↓reduceIte]
      refine Wr.tail tabOk mixed (tgL [(28, 1), (30, 1)]) [cP, cP, cP, some ([1], [1]), cP, some ([1], [1]), cP, cP, cP] 7 (by kernel_rfl) (by kernel_rfl) ?_
      simp only [gos, eq_self, Nat.reduceLT, Nat.reduceEqDiff, Nat.reduceAdd, Nat.reduceLeDiff, reduceCtorEq, reduceIte, ↓reduceIte, tt, vgoD, voutD, vclsOk, vids, mayWrite, V.ids, vguard, callOf, vop, ev, cv, vload, vfill, vappend, srcOf, clsAt, rms, hcl, cI_one, hp6, hp7, Nat.mul_one, hsn]
      refine Wa.mk (ρ2 := [(25, .agg r.cs), (30, vI (p ++ [0])), (31, vi b)]) (h2 := []) ?_ ?_
      · have e4 : V.ro (p.length + 1) (cI (p ++ [0])) = vI (p ++ [0]) := by rw [vI, List.length_append, List.length_singleton]
        refine Wk.trans (Wk.env (ρ' := [(25, .agg r.cs), (30, .own 28 1 0 1 (p.length + 1)), (31, vi b)]) (by simp [subE, Env.get])) (Wk.trans (Wk.freeze 28 rfl rfl (cI_into _ _) rfl) ?_)
        simp only [gos, eq_self, reduceIte, ↓reduceIte, frzE, frzH, V.frz, rm_frz, Nat.mul_one, htk, e4]
        exact Wk.env (by simp [subE, Env.get])
      simp only [gos, eq_self, Nat.reduceLT, Nat.reduceEqDiff, reduceIte, ↓reduceIte, vgo, vout, vguard, callOf, ev]
      refine Cl.pu (c_r9Plans r k b hb n (p ++ [0]) (by simp; omega)) ?_ rfl (by simp only [V.into, intoL, vI_into, Bool.and_true, rm_into])
      simp only [gos, eq_self, Nat.reduceLT, reduceIte, ↓reduceIte, vgo, vout, vguard, callOf, vop, ev]
      subst hQ
      exact FnPost.plain trivial (v := vLL (rPlansF r b n (p ++ [0]))) (fun h2 e => by rfl) (WkV.pure (by simp only [vLL_into])) ⟨by rw [rPlansF, ht]; rfl, rfl⟩
    | true =>
      obtain ⟨hb0, hb1, hb2⟩ := hba
      have hat := cR_at (Int.natCast_nonneg p.length) hlt
      rw [Int.toNat_natCast] at hat
      have hat1 : (List.drop (p.length * 2 + 1) (cR r.ba)).head? = some (vi (gR r.ba p.length).hi) := by rw [← List.drop_drop, hat]; rfl
      have hen : ∃ N : Nat, (N : Int) = (gR r.ba p.length).hi + 1 - (gR r.ba p.length).lo := ⟨((gR r.ba p.length).hi + 1 - (gR r.ba p.length).lo).toNat, by omega⟩
      obtain ⟨N, hN⟩ := hen
      have hres : rPlansF r b (n + 1) p = plA r b n p N := by
        rw [rPlansF, ht, if_pos rfl, plA, rangeI, show ((gR r.ba p.length).hi + 1 - (gR r.ba p.length).lo).toNat = N by omega]
      simp only [gos, eq_self, Nat.reduceLT, Nat.reduceEqDiff, reduceCtorEq, reduceIte, ↓reduceIte, tt, vgo, vout, vguard, callOf, vop, ev, cv, vload, rms, vR, hlt, hat, Int.natCast_nonneg, Int.toNat_natCast]
      refine W.loop tabOk mixed (fun i : Nat => ([(1, vI p), (2, vi b), (3, .rop r.cs), (7, vi p.length), (8, .own 59 i 0 1 (plA r b n p i).length), (9, vi ((gR r.ba p.length).lo + i))], [(59, ⟨i, .row (cLL (plA r b n p i))⟩)])) (fun i => N - i) (fun i => i ≤ N) 0 (by omega)
        (Wk.trans (Wk.sl0E 8 59 1 rfl rfl) (Wk.env (by simp [subE, Env.get, plA, vI]))) ?_
      intro i hi
      have hlA : (plA r b n p i).length ≤ i * 5 ^ n := by
        have := flat_lenB (fun x : Int => rPlansF r b n (p ++ [x])) (5 ^ n) ((List.range i).map fun (j : Nat) => (gR r.ba p.length).lo + j) fun x _ => (rPlansF_len k b n (p ++ [x]) (by simp; omega)).2
        rw [List.length_map, List.length_range] at this
        exact this
      have hi5 : i * 5 ^ n ≤ 5 * 3125 := Nat.mul_le_mul (by omega) (pow5_le (by omega))
      have hlc := cLL_len (plA r b n p i)
      by_cases hil : (gR r.ba p.length).lo + (i : Int) ≤ (gR r.ba p.length).hi
      · simp only [gos, eq_self, Nat.reduceLT, Nat.reduceEqDiff, reduceCtorEq, reduceIte, ↓reduceIte, tt, vgo, vout, vguard, callOf, vop, ev, vbin, vint, isShift, isNilConst, vload, rms, vI, vR, hlt, hat1, hil, Int.natCast_nonneg, Int.toNat_natCast]
        have hx := plA_succ r b n p i
        have hpx := rPlansF_len k b n (p ++ [(gR r.ba p.length).lo + i]) (by simp; omega)
        have hp5 := pow5_le (n := n) (by omega)
        have hxl : (plA r b n p (i + 1)).length = (plA r b n p i).length + (rPlansF r b n (p ++ [(gR r.ba p.length).lo + i])).length := by rw [hx, List.length_append]
        have hxc : cLL (plA r b n p (i + 1)) = cLL (plA r b n p i) ++ cLL (rPlansF r b n (p ++ [(gR r.ba p.length).lo + i])) := by rw [hx, cLL_app]
        have hrec := c_r9Plans r k b hb n (p ++ [(gR r.ba p.length).lo + i]) (by simp; omega)
        generalize rPlansF r b n (p ++ [(gR r.ba p.length).lo + i]) = X at *
        have hX1 : 0 < X.length := hpx.1
        have hX2 : (plA r b n p i).length + X.length ≤ 1000000 := by omega
        have hXc := cLL_len X
        have hXo := cLL_one X
        have hsn : cI p ++ [V.int IntKind.i64 ((gR r.ba p.length).lo + i)] = cI (p ++ [(gR r.ba p.length).lo + i]) := (cI_snoc p _).symm
        have htk : (cI (p ++ [(gR r.ba p.length).lo + i])).take (p.length + 1) = cI (p ++ [(gR r.ba p.length).lo + i]) := List.take_of_length_le (by rw [cI_len]; simp)
        have e4 : V.ro (p.length + 1) (cI (p ++ [(gR r.ba p.length).lo + i])) = vI (p ++ [(gR r.ba p.length).lo + i]) := by rw [vI, List.length_append, List.length_singleton]
        have hXt : List.take X.length (cLL X) = cLL X := List.take_of_length_le (by omega)
        have hw : IntKind.i64.wrap ((gR r.ba p.length).lo + i + 1) = (gR r.ba p.length).lo + ((i + 1 : Nat) : Int) := by rw [i64_in (by omega) (by omega)]; omega
        refine Wr.float tabOk mixed (tgL [(53, 1), (56, 1), (59, 2)]) [cP, cP, cP, cP, some ([1], [1]), cP, cP, some ([1], [1]), cP, cP, some ([2], [2]), cP] 9 (by kernel_rfl) (by kernel_rfl) ?_ ?_
        · simp only [gos, eq_self, Nat.reduceLT, Nat.reduceEqDiff, Nat.reduceAdd, Nat.reduceLeDiff, reduceCtorEq, reduceIte, ↓reduceIte, tt, vgoD, voutD, vclsOk, vids, mayWrite, V.ids, vguard, callOf, vop, ev, vload, vfill, vappend, srcOf, clsAt, rms, hcl, cI_one, hp6, hp7, Nat.mul_one, hsn]
          refine Wa.mk (ρ2 := [(1, vI p), (2, vi b), (3, .rop r.cs), (7, vi p.length), (9, vi ((gR r.ba p.length).lo + i)), (49, .own 59 i 0 1 (plA r b n p i).length), (50, .agg r.cs), (56, vI (p ++ [(gR r.ba p.length).lo + i])), (57, vi b)]) (h2 := [(59, ⟨i, .row (cLL (plA r b n p i))⟩)]) ?_ ?_
          · refine Wk.trans (Wk.env (ρ' := [(1, vI p), (2, vi b), (3, .rop r.cs), (7, vi p.length), (9, vi ((gR r.ba p.length).lo + i)), (49, .own 59 i 0 1 (plA r b n p i).length), (50, .agg r.cs), (56, .own 53 1 0 1 (p.length + 1)), (57, vi b)]) (by simp [subE, Env.get, vI])) (Wk.trans (Wk.freeze 53 rfl rfl (cI_into _ _) rfl) ?_)
            simp only [gos, eq_self, Nat.reduceEqDiff, reduceIte, ↓reduceIte, frzE, frzH, Blk.frz, V.frz, rm_frz, vI_frz, cLL_frz, Nat.mul_one, htk, e4]
            exact Wk.env (by simp [subE, Env.get])
          simp only [gos, eq_self, Nat.reduceLT, Nat.reduceEqDiff, reduceIte, ↓reduceIte, vgo, vout, vguard, callOf, ev]
          refine Cl.pu hrec ?_ rfl (by simp only [V.into, intoL, vI_into, Bool.and_true, rm_into])
          simp only [gos, eq_self, Nat.reduceLT, Nat.reduceEqDiff, Nat.reduceLeDiff, reduceIte, ↓reduceIte, tt, vgo, vout, vguard, callOf, vop, ev, cv, vbin, vint, isShift, isNilConst, vappend, srcOf, vLL, hXc, hXo, hX1, hX2, hlc, Nat.mul_one]
          refine Nx.mk (i + 1) (show N - (i + 1) < N - i by omega) (show i + 1 ≤ N by omega) (Wk.heap (fun j => ?_) ?_)
          · rw [hxc, hxl]
          · simp [subE, Env.get, vI, hw, hxl]
        · simp only [gos, eq_self, Nat.reduceLT, Nat.reduceEqDiff, Nat.reduceAdd, Nat.reduceLeDiff, reduceCtorEq, reduceIte, ↓reduceIte, tt, vgoD, voutD, vclsOk, vids, mayWrite, V.ids, vguard, callOf, vop, ev, vload, vfill, vappend, srcOf, clsAt, rms, hcl, cI_one, hp6, hp7, Nat.mul_one, hsn]
          refine Wa.mk (ρ2 := [(1, vI p), (2, vi b), (3, .rop r.cs), (7, vi p.length), (9, vi ((gR r.ba p.length).lo + i)), (8, .own 59 i 0 1 (plA r b n p i).length), (50, .agg r.cs), (56, vI (p ++ [(gR r.ba p.length).lo + i])), (57, vi b)]) (h2 := [(59, ⟨i, .row (cLL (plA r b n p i))⟩)]) ?_ ?_
          · refine Wk.trans (Wk.env (ρ' := [(1, vI p), (2, vi b), (3, .rop r.cs), (7, vi p.length), (9, vi ((gR r.ba p.length).lo + i)), (8, .own 59 i 0 1 (plA r b n p i).length), (50, .agg r.cs), (56, .own 53 1 0 1 (p.length + 1)), (57, vi b)]) (by simp [subE, Env.get, vI])) (Wk.trans (Wk.freeze 53 rfl rfl (cI_into _ _) rfl) ?_)
            simp only [gos, eq_self, Nat.reduceEqDiff, reduceIte, ↓reduceIte, frzE, frzH, Blk.frz, V.frz, rm_frz, vI_frz, cLL_frz, Nat.mul_one, htk, e4]
            exact Wk.env (by simp [subE, Env.get])
          simp only [gos, eq_self, Nat.reduceLT, Nat.reduceEqDiff, reduceIte, ↓reduceIte, vgo, vout, vguard, callOf, ev]
          refine Cl.pu hrec ?_ rfl (by simp only [V.into, intoL, vI_into, Bool.and_true, rm_into])
          simp only [gos, eq_self, Nat.reduceLT, Nat.reduceEqDiff, Nat.reduceLeDiff, reduceIte, ↓reduceIte, tt, vgo, vout, vguard, callOf, vop, ev, cv, vbin, vint, isShift, isNilConst, vappend, srcOf, vLL, hXc, hXo, hX1, hX2, hlc, Nat.mul_one]
          refine Nx.mk (i + 1) (show N - (i + 1) < N - i by omega) (show i + 1 ≤ N by omega) (Wk.heap (fun j => ?_) ?_)
          · rw [hxc, hxl]
          · simp [subE, Env.get, vI, hw, hxl]
      · have hie : i = N := by omega
        subst hie
        simp only [gos, eq_self, Nat.reduceLT, Nat.reduceEqDiff, reduceCtorEq, reduceIte, ↓reduceIte, tt, vgo, vout, vguard, callOf, vop, ev, vbin, vint, isShift, isNilConst, vload, rms, vI, vR, hlt, hat1, hil, Int.natCast_nonneg, Int.toNat_natCast]
        subst hQ
        have htk : List.take (plA r b n p i).length (cLL (plA r b n p i)) = cLL (plA r b n p i) := List.take_of_length_le (by omega)
        refine FnPost.plain trivial (v := .own 59 i 0 1 (plA r b n p i).length) (fun h2 e => by rfl) (WkV.frz 59 (v' := vLL (plA r b n p i)) (h' := []) (ver := i) (cs := cLL (plA r b n p i)) rfl rfl (cLL_into _ _) rfl ?_ ?_ WkV.refl) ⟨by rw [hres], rfl⟩
        · simp [V.frz, vLL, htk]
        · simp [frzH]
end Go.Vm

set_option linter.unusedVariables false
set_option linter.unusedSimpArgs false
set_option maxRecDepth 100000
namespace Go.Vm
open Go.Proofs
/-! ### the sure plans of the reference -/
theorem rPlansF_in {r : Rm} (k : RmOk r) (b : Nat) : ∀ (n : Nat) (p : List Int), p.length + n = r.ba.length → (∀ x ∈ p, 0 ≤ x ∧ x ≤ r.cu.last) → ∀ q ∈ rPlansF r b n p, q.length = r.ba.length ∧ ∀ x ∈ q, 0 ≤ x ∧ x ≤ r.cu.last
  | 0, p, h, hp, q, hq => by
    rw [rPlansF, List.mem_singleton] at hq
    subst hq
    exact ⟨by omega, hp⟩
  | n + 1, p, h, hp, q, hq => by
    have hla := k.A.k0.last
    have hlt : (p.length : Int) < r.ba.length := by omega
    have hb := k.ba _ (List.mem_of_getElem? (gR_get hlt))
    rw [rPlansF] at hq
    split at hq
    · obtain ⟨x, hx, hq⟩ := List.mem_flatMap.1 hq
      have hx2 := rangeI_mem hx
      exact rPlansF_in k b n (p ++ [x]) (by simp; omega) (fun y hy => by
        rcases List.mem_append.1 hy with h1 | h1
        · exact hp y h1
        · rw [List.mem_singleton.1 h1]; omega) q hq
    · exact rPlansF_in k b n (p ++ [0]) (by simp; omega) (fun y hy => by
        rcases List.mem_append.1 hy with h1 | h1
        · exact hp y h1
        · rw [List.mem_singleton.1 h1]; omega) q hq
theorem num_mok2 {r : Rm} (k : RmOk r) {p : List Int} (b : Nat) (hl : p.length ≤ 5) (hp : ∀ x ∈ p, 0 ≤ x ∧ x ≤ r.cu.last) : ((rNum r p b).length : Int) = r.cu.last + 1 ∧ MOk r (rNum r p b) := by
  have hla := k.A.k0.last
  have hb := k.bu
  have hw := k.A.k0.want
  have hlen : (rNum r p b).length = (r.cu.last + 1).toNat := rNumN_len r p b _
  refine ⟨by omega, by omega, by omega, by omega, fun x hx => by have := hw.2 x hx; omega, fun x hx => ?_⟩
  obtain ⟨i, hi, rfl⟩ := mem_gi hx
  have h3 := rNumN_le r p b hp p.length (Nat.le_refl _) i
  simp only [rNum] at h3 ⊢
  omega
theorem filter_take {α : Type} (f : α → Bool) (L : List α) {i : Nat} {x : α} (h : L[i]? = some x) : (L.take (i + 1)).filter f = (L.take i).filter f ++ if f x = true then [x] else [] := by
  rw [List.take_add_one, h, List.filter_append]
  congr 1
  simp only [Option.toList_some, List.filter_cons, List.filter_nil]
set_option maxHeartbeats 4000000 in
theorem c_r9Sures (r : Rm) (k : RmOk r) (l : List Tr2) (hlT : (l.length : Int) ≤ 1000000) (hok : ∀ m : List Int, (m.length : Int) = r.cu.last + 1 → (∀ x ∈ m, 0 ≤ x) → rCanBe r m = true → ∀ t ∈ l, TrOk r.cu t r.cu.coal (addL r.cu.want (rBk r m))) (b : Nat) (hb : b < 32) :
    Pu Tryz.prog (.fn 34 [] []) [.agg r.cs, vT l, vi b] (vLL (rSures r l b)) := by
  have hla := k.A.k0.last
  have hl5 := k.len
  have hall := rPlansF_in k b r.ba.length [] (by simp) (by simp)
  have hlen := (rPlansF_len k b r.ba.length [] (by simp)).2
  have h5 := pow5_le hl5
  have hPl := c_r9Plans r k b hb r.ba.length [] (by simp)
  refine Ev.fn Tryz.func34 rfl rfl (Fn.body tabOk Tryz.func34 rfl (Nat.le_of_ble_eq_true rfl) (Ks.ok (fz := (fzn [])) (cl := (cln [(6, .d tg0 [cP, cP, cP, cP, cP, cP, cP, cP, cP, cP])])) tabOk mixed ?_))
  generalize hQ : FnPost tt Tryz.f34 _ _ = Q
  simp only [Tryz.f34, List.nil_append, List.append_nil, argsEnv, Nat.reduceAdd]
  simp only [gos, eq_self, Nat.reduceLT, Nat.reduceEqDiff, reduceCtorEq, reduceIte, ↓reduceIte, tt, vgo, vout, vguard, callOf, vop, ev, cv, vload, newRow, rms]
  refine Cl.less (cs := [.agg r.cs, vI [], vi b]) (ImpV.refl _) ⟨ImpV.refl _, sl0_vI, ImpV.refl _, trivial⟩ (Cl.pu hPl ?_ rfl (by simp only [V.into, intoL, vI_into, Bool.and_true, rm_into]))
  generalize hall' : rPlansF r b r.ba.length [] = all at hall hlen
  have hS : rSures r l b = all.filter fun p => rSureM r l (rNum r p b) := by rw [rSures, hall']
  simp only [gos, eq_self, Nat.reduceLT, Nat.reduceEqDiff, reduceIte, ↓reduceIte, vgo, vout, vguard, callOf, vop, ev, cv]
  refine W.loop tabOk mixed (fun i : Nat => ([(1, vT l), (2, vi b), (3, .rop r.cs), (7, .own 35 ((all.take i).filter fun p => rSureM r l (rNum r p b)).length 0 1 ((all.take i).filter fun p => rSureM r l (rNum r p b)).length), (8, vLL all), (9, vi i)], [(35, ⟨((all.take i).filter fun p => rSureM r l (rNum r p b)).length, .row (cLL ((all.take i).filter fun p => rSureM r l (rNum r p b)))⟩)])) (fun i => all.length - i) (fun i => i ≤ all.length) 0 (by omega)
    (Wk.trans (Wk.sl0E 7 35 1 rfl rfl) (Wk.env (by simp [subE, Env.get]))) ?_
  intro i hi
  have hsl : ((all.take i).filter fun p => rSureM r l (rNum r p b)).length ≤ i := Nat.le_trans (List.length_filter_le _ _) (by rw [List.length_take]; omega)
  by_cases hil : (i : Int) < all.length
  · have hget := gL_get hil
    have hp := hall _ (List.mem_of_getElem? hget)
    have hnx := filter_take (fun p => rSureM r l (rNum r p b)) all hget
    have hat := cLL_at (Int.natCast_nonneg i) hil
    rw [Int.toNat_natCast, Nat.mul_one] at hat
    obtain ⟨hml, hM⟩ := num_mok2 k b (p := gL all i) (by omega) hp.2
    generalize gL all i = q at *
    simp only [gos, eq_self, Nat.reduceLT, Nat.reduceEqDiff, reduceIte, ↓reduceIte, tt, vgo, vout, vguard, callOf, vop, ev, vbin, vint, isShift, isNilConst, vlen, vLL, hil]
    refine Wr.draw (by kernel_rfl) ?_
    simp only [gos, eq_self, Nat.reduceLT, Nat.reduceEqDiff, Nat.reduceAdd, reduceCtorEq, reduceIte, ↓reduceIte, tt, vgoD, voutD, vclsOk, vids, mayWrite, V.ids, vguard, callOf, vop, ev, vload, clsAt, rms, hil, hat, Int.natCast_nonneg, Int.toNat_natCast, Nat.mul_one]
    refine CD.pu (c_r9Numbers r hla q (by omega) hp.2 b hb) ?_ rfl (by simp only [V.into, intoL, vI_into, Bool.and_true, rm_into])
    simp only [gos, eq_self, Nat.reduceLT, Nat.reduceEqDiff, reduceIte, ↓reduceIte, vgoD, voutD, vguard, callOf, ev]
    refine CD.pu (c_r9IsSure r l (rNum r q b) hM hlT (hok _ hml fun x hx => (hM.mb x hx).1)) ?_ rfl (by simp only [V.into, intoL, vI_into, Bool.and_true, rm_into, vT_into])
    have hc := cLL_len ((all.take i).filter fun p => rSureM r l (rNum r p b))
    have hi9 : ((all.take i).filter fun p => rSureM r l (rNum r p b)).length ≤ 999999 := by omega
    cases hs : rSureM r l (rNum r q b) with
    | true =>
      rw [hs, if_pos rfl] at hnx
      have hnl : ((all.take (i + 1)).filter fun p => rSureM r l (rNum r p b)).length = ((all.take i).filter fun p => rSureM r l (rNum r p b)).length + 1 := by rw [hnx, List.length_append]; rfl
      have hnc : cLL ((all.take (i + 1)).filter fun p => rSureM r l (rNum r p b)) = cLL ((all.take i).filter fun p => rSureM r l (rNum r p b)) ++ [vI q] := by rw [hnx, cLL_snoc]
      simp only [gos, eq_self, Nat.reduceLT, Nat.reduceEqDiff, Nat.reduceAdd, Nat.reduceLeDiff, reduceCtorEq, reduceIte, ↓reduceIte, tt, vgo, vout, vguard, callOf, vop, ev, cv, vbin, vint, isShift, isNilConst, vload, vfill, vappend, srcOf, hil, hat, hc, hi9, Int.natCast_nonneg, Int.toNat_natCast, Nat.mul_one]
      refine Nx.mk (i + 1) (show all.length - (i + 1) < all.length - i by omega) (by omega) (Wk.heap (fun j => ?_) ?_)
      · rw [hnc, hnl]
      · simp [subE, Env.get, hnl, i64_succ (show (i : Int) < 9223372036854775807 by omega)]
    | false =>
      rw [hs, if_neg (by simp), List.append_nil] at hnx
      simp only [gos, eq_self, Nat.reduceLT, Nat.reduceEqDiff, reduceIte, ↓reduceIte, vgo, vout, vguard, callOf, vop, ev, cv, vbin, vint, isShift, isNilConst]
      refine Nx.mk (i + 1) (show all.length - (i + 1) < all.length - i by omega) (by omega) (Wk.heap (fun j => ?_) ?_)
      · rw [hnx]
      · simp [subE, Env.get, hnx, i64_succ (show (i : Int) < 9223372036854775807 by omega)]
  · have hie : i = all.length := by omega
    have e : all.take i = all := List.take_of_length_le (by omega)
    simp only [gos, eq_self, Nat.reduceLT, Nat.reduceEqDiff, reduceIte, ↓reduceIte, tt, vgo, vout, vguard, callOf, vop, ev, vbin, vint, isShift, isNilConst, vlen, vLL, hil, e]
    rw [← hS]
    subst hQ
    have hc := cLL_len (rSures r l b)
    have htk : List.take (rSures r l b).length (cLL (rSures r l b)) = cLL (rSures r l b) := List.take_of_length_le (by omega)
    refine FnPost.plain trivial (v := .own 35 (rSures r l b).length 0 1 (rSures r l b).length) (fun h2 e => by rfl) (WkV.frz 35 (v' := vLL (rSures r l b)) (h' := []) (ver := (rSures r l b).length) (cs := cLL (rSures r l b)) rfl rfl (cLL_into _ _) rfl ?_ ?_ WkV.refl) ⟨rfl, rfl⟩
    · simp [V.frz, vLL, htk]
    · simp [frzH]
end Go.Vm

set_option linter.unusedVariables false
set_option linter.unusedSimpArgs false
set_option maxRecDepth 100000
namespace Go.Vm
open Go.Proofs
/-! ### the fewest baths of the reference -/
def shortO (x : List Int) : Option (List Int) → Bool
  | none => true
  | some b => lShorter x b
theorem rGiveS_def (r : Rm) (l : List Tr2) (o : Option (List Int)) (b : Nat) : rGiveS r l o b = if (shortO (sBits b) o && decide (0 < ((rSures r l (2 ^ r.ba.length - 1 - b)).length : Int))) = true then some (sBits b) else o := by
  have e : (!(rSures r l (2 ^ r.ba.length - 1 - b)).isEmpty) = decide (0 < ((rSures r l (2 ^ r.ba.length - 1 - b)).length : Int)) := by
    cases rSures r l (2 ^ r.ba.length - 1 - b) with
    | nil => rfl
    | cons x xs => simp
  rw [← e]
  cases o <;> rfl
set_option maxHeartbeats 4000000 in
theorem c_r9Give (r : Rm) (k : RmOk r) (l : List Tr2) (hlT : (l.length : Int) ≤ 1000000) (hok : ∀ m : List Int, (m.length : Int) = r.cu.last + 1 → (∀ x ∈ m, 0 ≤ x) → rCanBe r m = true → ∀ t ∈ l, TrOk r.cu t r.cu.coal (addL r.cu.want (rBk r m))) :
    Pu Tryz.prog (.fn 40 [] []) [.agg r.cs, vT l] (.tup [vI ((rGive r l).getD []), .bool (rGive r l).isSome]) := by
  have hl5 := k.len
  have hn : r.ba.length < 6 := by omega
  have hp5 := pow5 hn
  have h2p := Nat.two_pow_pos r.ba.length
  refine Ev.fn Tryz.func40 rfl rfl (Fn.body tabOk Tryz.func40 rfl (Nat.le_of_ble_eq_true rfl) (Ks.ok (fz := (fzn [])) (cl := (cln [(7, .d tg0 [cP, cP, cP, cP, cP, cP, cP, cP, cP, cP, cP, cP, cP, cP, cP, cP, cP, cP])])) tabOk mixed ?_))
  generalize hQ : FnPost tt Tryz.f40 _ _ = Q
  simp only [Tryz.f40, List.nil_append, List.append_nil, argsEnv, Nat.reduceAdd]
  simp only [gos, eq_self, Nat.reduceLT, Nat.reduceEqDiff, reduceCtorEq, reduceIte, ↓reduceIte, vgo, vout, vguard, callOf, vop, ev, cv, newRow]
  refine W.loop tabOk mixed (fun i : Nat => ([(1, vT l), (2, .rop r.cs), (6, bV (rGiveN r l i)), (7, .bool (rGiveN r l i).isSome), (8, vi i)], [])) (fun i => 2 ^ r.ba.length - i) (fun i => i ≤ 2 ^ r.ba.length) 0 (by omega) (Wk.env (by simp [subE, Env.get, rGiveN, bV])) ?_
  intro i hi
  simp only [gos, eq_self, Nat.reduceLT, Nat.reduceEqDiff, reduceCtorEq, reduceIte, ↓reduceIte, tt, vgo, vout, vguard, callOf, vop, ev, vload, rms]
  refine Cl.pu (c_r9Full r hl5) ?_ rfl (by simp only [V.into, intoL, Bool.and_true, rm_into])
  rw [full_nat]
  have hsucc := i64_succ (show (i : Int) < 9223372036854775807 by omega)
  by_cases hil : (i : Int) ≤ ((2 ^ r.ba.length - 1 : Nat) : Int)
  · have hib : i < 2 ^ r.ba.length := by omega
    have hno := andn (n := r.ba.length) (b := i) hn hib
    rw [full_nat] at hno
    have hstep := rGiveN_succ r l i
    rw [rGiveS_def] at hstep
    have hS := c_r9Sures r k l hlT hok (2 ^ r.ba.length - 1 - i) (by omega)
    simp only [gos, eq_self, Nat.reduceLT, Nat.reduceEqDiff, reduceIte, ↓reduceIte, vgo, vout, vguard, callOf, vop, ev, vbin, vint, isShift, isNilConst, hil]
    refine Cl.pu (c_rBits i (by omega)) ?_
    have hbl := sBits_len i
    generalize sBits i = x at *
    generalize rSures r l (2 ^ r.ba.length - 1 - i) = S at *
    simp only [gos, eq_self, Nat.reduceLT, reduceIte, ↓reduceIte, vgo, vout, vguard, callOf, vop, ev]
    refine Wr.draw (by kernel_rfl) ?_
    cases ho : rGiveN r l i with
    | none =>
      rw [ho, shortO, Bool.true_and] at hstep
      simp only [gos, eq_self, Nat.reduceLT, Nat.reduceEqDiff, Nat.reduceAdd, reduceCtorEq, reduceIte, ↓reduceIte, tt, vgoD, voutD, vclsOk, vids, mayWrite, V.ids, vguard, callOf, vop, ev, cv, vload, clsAt, rms, bV, Option.isSome]
      refine CD.pu (c_r9Full r hl5) ?_ rfl (by simp only [V.into, intoL, Bool.and_true, rm_into])
      rw [full_nat]
      simp only [gos, eq_self, Nat.reduceLT, Nat.reduceEqDiff, reduceIte, ↓reduceIte, vgoD, voutD, vclsOk, vids, mayWrite, vguard, callOf, vop, ev, vbin, vint, isShift, isNilConst, hno]
      refine CD.pu hS ?_ rfl (by simp only [V.into, intoL, Bool.and_true, rm_into, vT_into])
      by_cases hb : 0 < (S.length : Int)
      · rw [if_pos (by simp only [hb, decide_true])] at hstep
        simp only [gos, eq_self, Nat.reduceLT, Nat.reduceEqDiff, reduceIte, ↓reduceIte, tt, vgo, vout, vgoD, voutD, vclsOk, vids, mayWrite, vguard, callOf, vop, ev, cv, vbin, vint, isShift, isNilConst, vlen, vLL, hb]
        exact Nx.mk (i + 1) (show 2 ^ r.ba.length - (i + 1) < 2 ^ r.ba.length - i by omega) (by omega) (by rw [hstep]; exact Wk.env (by simp [subE, Env.get, hsucc]))
      · rw [if_neg (by simp only [hb, decide_false]; simp)] at hstep
        simp only [gos, eq_self, Nat.reduceLT, Nat.reduceEqDiff, reduceIte, ↓reduceIte, tt, vgo, vout, vgoD, voutD, vclsOk, vids, mayWrite, vguard, callOf, vop, ev, cv, vbin, vint, isShift, isNilConst, vlen, vLL, hb]
        exact Nx.mk (i + 1) (show 2 ^ r.ba.length - (i + 1) < 2 ^ r.ba.length - i by omega) (by omega) (by rw [hstep]; exact Wk.env (by simp [subE, Env.get, hsucc]))
    | some y =>
      rw [ho, shortO] at hstep
      simp only [gos, eq_self, Nat.reduceLT, Nat.reduceEqDiff, Nat.reduceAdd, reduceIte, ↓reduceIte, vgoD, voutD, vclsOk, vids, mayWrite, vguard, callOf, vop, ev, clsAt, bV, Option.isSome]
      refine CD.pu (c_rShorter x y (by omega)) ?_ rfl (by simp only [intoL, vI_into, Bool.and_true])
      cases hsh : lShorter x y with
      | false =>
        rw [hsh, Bool.false_and, if_neg (by simp)] at hstep
        simp only [gos, eq_self, Nat.reduceLT, Nat.reduceEqDiff, reduceIte, ↓reduceIte, vgo, vout, vgoD, voutD, vclsOk, vids, mayWrite, vguard, callOf, vop, ev, cv, vbin, vint, isShift, isNilConst]
        exact Nx.mk (i + 1) (show 2 ^ r.ba.length - (i + 1) < 2 ^ r.ba.length - i by omega) (by omega) (by rw [hstep]; exact Wk.env (by simp [subE, Env.get, hsucc]))
      | true =>
        rw [hsh, Bool.true_and] at hstep
        simp only [gos, eq_self, Nat.reduceLT, Nat.reduceEqDiff, reduceCtorEq, reduceIte, ↓reduceIte, tt, vgoD, voutD, vclsOk, vids, mayWrite, V.ids, vguard, callOf, vop, ev, vload, rms]
        refine CD.pu (c_r9Full r hl5) ?_ rfl (by simp only [V.into, intoL, Bool.and_true, rm_into])
        rw [full_nat]
        simp only [gos, eq_self, Nat.reduceLT, Nat.reduceEqDiff, reduceIte, ↓reduceIte, vgoD, voutD, vclsOk, vids, mayWrite, vguard, callOf, vop, ev, vbin, vint, isShift, isNilConst, hno]
        refine CD.pu hS ?_ rfl (by simp only [V.into, intoL, Bool.and_true, rm_into, vT_into])
        by_cases hb : 0 < (S.length : Int)
        · rw [if_pos (by simp only [hb, decide_true])] at hstep
          simp only [gos, eq_self, Nat.reduceLT, Nat.reduceEqDiff, reduceIte, ↓reduceIte, tt, vgo, vout, vgoD, voutD, vclsOk, vids, mayWrite, vguard, callOf, vop, ev, cv, vbin, vint, isShift, isNilConst, vlen, vLL, hb]
          exact Nx.mk (i + 1) (show 2 ^ r.ba.length - (i + 1) < 2 ^ r.ba.length - i by omega) (by omega) (by rw [hstep]; exact Wk.env (by simp [subE, Env.get, hsucc]))
        · rw [if_neg (by simp only [hb, decide_false]; simp)] at hstep
          simp only [gos, eq_self, Nat.reduceLT, Nat.reduceEqDiff, reduceIte, ↓reduceIte, tt, vgo, vout, vgoD, voutD, vclsOk, vids, mayWrite, vguard, callOf, vop, ev, cv, vbin, vint, isShift, isNilConst, vlen, vLL, hb]
          exact Nx.mk (i + 1) (show 2 ^ r.ba.length - (i + 1) < 2 ^ r.ba.length - i by omega) (by omega) (by rw [hstep]; exact Wk.env (by simp [subE, Env.get, hsucc]))
  · have hie : 2 ^ r.ba.length = i := by omega
    simp only [gos, eq_self, Nat.reduceLT, Nat.reduceEqDiff, reduceIte, ↓reduceIte, vgo, vout, vguard, callOf, vop, ev, vbin, vint, isShift, isNilConst, hil]
    subst hQ
    rw [rGive, hie]
    cases ho : rGiveN r l i with
    | none => exact FnPost.plain trivial (v := .tup [.sl0, .bool false]) (fun h2 e => by rfl) WkV.nil1 ⟨rfl, rfl⟩
    | some b => exact FnPost.plain trivial (v := .tup [vI b, .bool true]) (fun h2 e => by rfl) WkV.refl ⟨rfl, rfl⟩
end Go.Vm

set_option linter.unusedVariables false
set_option linter.unusedSimpArgs false
set_option maxRecDepth 100000
namespace Go.Vm
open Go.Proofs
set_option maxHeartbeats 4000000 in
theorem l_BathGives (r : Rm) (hl : I64 r.cu.last) : Vm.Fn Tryz.prog 5 [.agg r.cs] [] fun v h' => v = .bool true := by
  refine Fn.body tabOk Tryz.func5 rfl (Nat.le_of_ble_eq_true rfl) (Ks.ok (fz := (fzn [])) (cl := (cln [(7, .d tg0 [cP, cP, cP, cP, cP, cP, cP, cP, cP, cP])])) tabOk mixed ?_)
  generalize hQ : FnPost tt Tryz.f5 _ _ = Q
  simp only [Tryz.f5, argsEnv]
  simp only [gos, eq_self, Nat.reduceLT, Nat.reduceEqDiff, reduceCtorEq, reduceIte, ↓reduceIte, tt, vgo, vout, vguard, callOf, vop, ev, cv, vload, newRow, rms]
  refine Cl.pu (c_Thin9 r hl) ?_ rfl (by simp only [V.into, intoL, Bool.and_true, rm_into])
  cases ht : sThinR r with
  | false =>
    simp only [gos, eq_self, Nat.reduceLT, Nat.reduceEqDiff, reduceIte, ↓reduceIte, vgo, vout, vguard, callOf, vop, ev]
    refine Cl.pu c_awake9 ?_
    simp only [gos, eq_self, Nat.reduceLT, reduceIte, ↓reduceIte, vgo, vout, vguard, callOf, vop, ev]
    subst hQ
    exact FnPost.plain trivial (v := .bool true) (fun h2 e => by rfl) WkV.refl rfl
  | true =>
    have hr := thinR_wf hl ht
    have hone : oneL r.cu.cs = true := rfl
    simp only [gos, eq_self, Nat.reduceLT, Nat.reduceEqDiff, reduceCtorEq, reduceIte, ↓reduceIte, tt, vgo, vout, vguard, callOf, vop, ev, vload, rms]
    refine Cl.pu (c_Room r hr) ?_ rfl (by simp only [V.into, intoL, Bool.and_true, rm_into])
    simp only [gos, eq_self, Nat.reduceLT, reduceIte, ↓reduceIte, vgo, vout, vguard, callOf, ev]
    refine Cl.pu (c_bGive r hr) ?_ rfl (by simp only [V.into, intoL, Bool.and_true, rm_into])
    simp only [gos, eq_self, Nat.reduceLT, Nat.reduceEqDiff, reduceCtorEq, reduceIte, ↓reduceIte, tt, vgo, vout, vguard, callOf, vop, ev, vload, rms]
    refine Cl.pu (c_fault9 r hr) ?_ rfl (by simp only [V.into, intoL, Bool.and_true, rm_into])
    have z3 : decide (((List.length ([] : List Int) : Nat) : Int) = 0) = true := rfl
    by_cases h0 : sCheckR r = 0
    case neg =>
      have e1 : sGiveR r = ([], sCheckR r) := by rw [sGiveR, if_neg h0]
      have z1 : (sCheckR r != 0) = true := by simp [h0]
      have z2 : decide (sCheckR r = sCheckR r) = true := by simp
      rw [e1]
      simp only [gos, eq_self, Nat.reduceLT, Nat.reduceEqDiff, reduceIte, ↓reduceIte, tt, vgo, vout, vguard, callOf, vop, ev, cv, vbin, vint, isShift, isNilConst, vlen, vI, z1]
      refine Cl.pu c_awake9 ?_
      simp only [gos, eq_self, Nat.reduceLT, Nat.reduceEqDiff, reduceIte, ↓reduceIte, vgo, vout, vguard, callOf, vop, ev, cv]
      subst hQ
      exact FnPost.plain trivial (v := .bool true) (fun h2 e => by rfl) WkV.refl rfl
    have k := rmOk_of h0
    have z1 : ((0 : Int) != 0) = false := rfl
    have hlT : ((rTruths r.cu).length : Int) ≤ 1000000 := by have := rTr_len r.cu (rMany r.cu).toNat; have := rMany_le k.A.k0; simp only [rTruths]; omega
    rw [h0]
    simp only [gos, eq_self, Nat.reduceLT, Nat.reduceEqDiff, reduceIte, ↓reduceIte, vgo, vout, vguard, callOf, vop, ev, cv, vbin, vint, isShift, isNilConst]
    refine Wr.draw (by kernel_rfl) ?_
    simp only [gos, eq_self, Nat.reduceLT, Nat.reduceEqDiff, Nat.reduceAdd, Nat.reduceLeDiff, reduceCtorEq, reduceIte, ↓reduceIte, tt, vgoD, voutD, vclsOk, vids, mayWrite, V.ids, vguard, callOf, vop, ev, vload, clsAt, rms]
    refine CD.pu (c_rTruths r.cu k.A.k0) ?_ rfl (by simp only [V.into, intoL, cu_into, Bool.and_true])
    simp only [gos, eq_self, Nat.reduceLT, Nat.reduceEqDiff, reduceIte, ↓reduceIte, vgoD, voutD, vguard, callOf, ev]
    refine CD.pu (c_r9Give r k (rTruths r.cu) hlT fun m h1 h2 h3 => can_tr k h1 h2 h3) ?_ rfl (by simp only [V.into, intoL, Bool.and_true, rm_into, vT_into])
    rw [give_same k, giveR_eqC k]
    cases hs : sSureN r zL with
    | false =>
      have z2 : decide ((10 : Int) = 10) = true := rfl
      simp only [gos, eq_self, Nat.reduceLT, Nat.reduceEqDiff, reduceIte, ↓reduceIte, tt, vgo, vout, vgoD, voutD, vclsOk, vids, mayWrite, vguard, callOf, vop, ev, cv, vbin, vint, isShift, isNilConst, vlen, vI, Option.isSome]
      refine Cl.pu c_awake9 ?_
      simp only [gos, eq_self, Nat.reduceLT, Nat.reduceEqDiff, reduceIte, ↓reduceIte, vgo, vout, vguard, callOf, vop, ev, cv]
      subst hQ
      exact FnPost.plain trivial (v := .bool true) (fun h2 e => by rfl) WkV.refl rfl
    | true =>
      obtain ⟨b, b1, b2, b3, b4⟩ := give_best k hs
      have hbl := sBits_len b
      have z2 : decide ((0 : Int) = 0) = true := rfl
      have z4 : decide (sBits b = sBits b) = true := by simp
      rw [b2]
      simp only [gos, eq_self, Nat.reduceLT, Nat.reduceEqDiff, reduceIte, ↓reduceIte, vgo, vout, vgoD, voutD, vclsOk, vids, mayWrite, vguard, callOf, vop, ev, cv, vbin, vint, isShift, isNilConst, Option.isSome]
      refine Cl.pu (c_ints9 (sBits b) (sBits b) (by omega)) ?_ rfl (by simp only [intoL, vI_into, Bool.and_true])
      rw [z4]
      simp only [gos, eq_self, Nat.reduceLT, Nat.reduceEqDiff, reduceIte, ↓reduceIte, vgo, vout, vguard, callOf, vop, ev]
      refine Cl.pu c_awake9 ?_
      simp only [gos, eq_self, Nat.reduceLT, Nat.reduceEqDiff, reduceIte, ↓reduceIte, vgo, vout, vguard, callOf, vop, ev]
      subst hQ
      exact FnPost.plain trivial (v := .bool true) (fun h2 e => by rfl) WkV.refl rfl
end Go.Vm
