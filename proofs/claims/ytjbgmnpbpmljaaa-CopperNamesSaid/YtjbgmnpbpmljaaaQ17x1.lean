import Derived.Test.YtjbgmnpbpmljaaaB3
import Derived.Test.YtjbgmnpbpmljaaaRows
import Derived.WalkKit
import Derived.ProofKit
import Derived.OpenShut
import Derived.ShutString
import Derived.ChangeOld
import Derived.Below
set_option linter.unusedVariables false
set_option linter.unusedSimpArgs false
set_option maxRecDepth 100000
namespace Go.Vm
open Go.Proofs
set_option maxHeartbeats 2000000 in
theorem c_ProveTruth (c : Cu) (t : Tr2) (hc : c.wf) (htl : (t.loss.length : Int) ≤ 1000000) : Pu Try.prog (.fn 58 [] []) [.agg c.cs, .agg t.cs] (.bool (sProveTruth c t)) := by
  refine Ev.fn Try.func58 rfl rfl (Fn.body tabOk Try.func58 rfl (Nat.le_of_ble_eq_true rfl) (Ks.ok (fz := (fzn [5])) (cl := (cln [])) tabOk mixed ?_))
  generalize hQ : FnPost tt Try.f58 _ _ = Q
  simp only [Try.f58, List.nil_append, List.append_nil, argsEnv, Nat.reduceAdd]
  simp only [gos, eq_self, Nat.reduceLT, Nat.reduceEqDiff, reduceCtorEq, reduceIte, ↓reduceIte, tt, vgo, vout, vguard, callOf, vop, ev, cv, vload, newRow]
  refine Cl.pu (c_Check c hc) ?_ rfl (by simp only [V.into, intoL, cu_into, Bool.and_true])
  by_cases h0 : sCheck c = 0
  case neg =>
    have hb : (sCheck c != 0) = true := by simp [h0]
    simp only [gos, eq_self, Nat.reduceLT, reduceIte, ↓reduceIte, vgo, vout, vguard, callOf, vop, ev, cv, vbin, vint, isShift, isNilConst, hb]
    subst hQ
    exact FnPost.plain trivial (fun h2 e => by first | rfl | (simp only [Try.f58, vres, vresL, vres1, e _, gos, if_true, if_false, ne_eq, eq_self, Nat.reduceLT, Nat.reduceEqDiff, Nat.reduceAdd, Nat.reduceMul, Nat.reduceLeDiff, Nat.reduceBEq, reduceCtorEq, reduceIte, Array.toList, ↓reduceIte, tt, vgo, vout, vgoD, voutD, vclsOk, vids, mayWrite, V.ids, V.mids, vguard, callOf, vop, ev, cv, vbin, vint, isShift, isNilConst, vnil, isNilSlice, vload, vlen, newRow, vfill, vslice, entOf, vappend, srcOf, vcopy, vlookup, vupdate, mapOk, keyOf, intsOf, clsAt]; try rfl)) (WkV.pure (by simp only [V.into])) ⟨by simp [sProveTruth, h0], rfl⟩
  have hb : (sCheck c != 0) = false := by simp [h0]
  have k := sCheck_ok h0
  have hts : t.cs.take 2 = t.cs := rfl
  have htn : t.cs.length = 2 := rfl
  simp only [gos, eq_self, Nat.reduceLT, Nat.reduceEqDiff, reduceCtorEq, reduceIte, ↓reduceIte, tt, vgo, vout, vguard, callOf, vop, ev, cv, vbin, vint, isShift, isNilConst, vload, hb, hts, htn]
  refine Cl.pu (c_scene c t k.last k.loss.1 htl) ?_ rfl (by simp only [V.into, intoL, vI_into, cu_into, Bool.and_true, Tr2.cs])
  cases h1 : sScOk c t
  · have hz : (sScene c t) = zSc := by simp [sScene, h1]
    simp only [gos, eq_self, Nat.reduceLT, Nat.reduceEqDiff, Nat.reduceAdd, reduceCtorEq, reduceIte, ↓reduceIte, tt, vgo, vout, vguard, callOf, vop, ev, cv, newRow, hz, zSc, Sc.cs, cI]
    subst hQ
    exact FnPost.plain trivial (fun h2 e => by first | rfl | (simp only [Try.f58, vres, vresL, vres1, e _, gos, if_true, if_false, ne_eq, eq_self, Nat.reduceLT, Nat.reduceEqDiff, Nat.reduceAdd, Nat.reduceMul, Nat.reduceLeDiff, Nat.reduceBEq, reduceCtorEq, reduceIte, Array.toList, ↓reduceIte, tt, vgo, vout, vgoD, voutD, vclsOk, vids, mayWrite, V.ids, V.mids, vguard, callOf, vop, ev, cv, vbin, vint, isShift, isNilConst, vnil, isNilSlice, vload, vlen, newRow, vfill, vslice, entOf, vappend, srcOf, vcopy, vlookup, vupdate, mapOk, keyOf, intsOf, clsAt]; try rfl)) (WkV.pure (by simp only [V.into])) ⟨by simp [sProveTruth, h1], rfl⟩
  have ks := scOk_of k h1
  generalize hsc : sScene c t = s at ks ⊢
  have hs5 : (cI s.loss).length = 5 := by rw [cI_len]; exact ks.loss.1
  have ht5 : List.take 5 (cI s.loss) = cI s.loss := List.take_of_length_le (by omega)
  have hd5 : List.drop 5 (cI s.loss) = [] := List.drop_eq_nil_of_le (by omega)
  simp only [gos, eq_self, Nat.reduceLT, Nat.reduceEqDiff, Nat.reduceAdd, reduceCtorEq, reduceIte, ↓reduceIte, tt, vgo, vout, vguard, callOf, vop, ev, cv, vload, newRow, Sc.cs, hs5, ht5, cI_one]
  refine Cl.less (cs := [.agg c.cs, .agg s.cs, vI []]) (ImpV.refl _) ⟨ImpV.refl _, ImpV.refl _, sl0_vI, trivial⟩ (Cl.pu (c_right c s [] (k.play0 ks) k.hours hc.readings (by simp)) ?_ rfl (by simp only [V.into, intoL, cI_into, vI_into, cu_into, Bool.and_true, Sc.cs]))
  simp only [gos, eq_self, Nat.reduceLT, Nat.reduceEqDiff, reduceIte, ↓reduceIte, vgo, vout, vguard, callOf, vop, ev]
  subst hQ
  exact FnPost.plain trivial (fun h2 e => by first | rfl | (simp only [Try.f58, vres, vresL, vres1, e _, gos, if_true, if_false, ne_eq, eq_self, Nat.reduceLT, Nat.reduceEqDiff, Nat.reduceAdd, Nat.reduceMul, Nat.reduceLeDiff, Nat.reduceBEq, reduceCtorEq, reduceIte, Array.toList, ↓reduceIte, tt, vgo, vout, vgoD, voutD, vclsOk, vids, mayWrite, V.ids, V.mids, vguard, callOf, vop, ev, cv, vbin, vint, isShift, isNilConst, vnil, isNilSlice, vload, vlen, newRow, vfill, vslice, entOf, vappend, srcOf, vcopy, vlookup, vupdate, mapOk, keyOf, intsOf, clsAt]; try rfl)) (WkV.pure (by simp only [V.into])) ⟨by simp [sProveTruth, h0, h1, hsc], rfl⟩
end Go.Vm

set_option linter.unusedVariables false
set_option linter.unusedSimpArgs false
set_option maxRecDepth 100000
namespace Go.Vm
open Go.Proofs
/-- The sum, as 64 bits hold it. -/
def sSum (l : List Int) : Int := l.foldl (fun n x => IntKind.i64.wrap (n + x)) 0
theorem c_sum (l : List Int) (hl : (l.length : Int) ≤ 1000000) : Pu Try.prog (.fn 114 [] []) [vI l] (vi (sSum l)) := by
  refine Ev.fn Try.func114 rfl rfl (Fn.body tabOk Try.func114 rfl (Nat.le_of_ble_eq_true rfl) (Ks.ok (fz := (fzn [])) (cl := (cln [])) tabOk mixed ?_))
  generalize hQ : FnPost tt Try.f114 _ _ = Q
  simp only [Try.f114, List.nil_append, List.append_nil, argsEnv]
  simp only [gos, eq_self, Nat.reduceLT, reduceCtorEq, reduceIte, ↓reduceIte, tt, vgo, vout, vguard, callOf, vop, ev, cv, vlen, vI]
  refine W.loop tabOk mixed (fun i : Nat => ([(2, vi (sSum (l.take i))), (5, vI l), (6, vi l.length), (7, vi i)], [])) (fun i => l.length - i) (fun i => i ≤ l.length) 0 (by omega) (Wk.env (by simp [subE, Env.get, vI, sSum])) ?_
  intro i hi
  by_cases hil : (i : Int) < l.length
  · have hs : sSum (l.take (i + 1)) = IntKind.i64.wrap (sSum (l.take i) + gi l i) := by rw [gi_take hil, sSum, List.foldl_append]; rfl
    simp only [gos, eq_self, Nat.reduceLT, Nat.reduceEqDiff, reduceCtorEq, reduceIte, ↓reduceIte, tt, vgo, vout, vguard, callOf, vop, ev, cv, vbin, vint, isShift, isNilConst, vload, vI, hil, cI_at (Int.natCast_nonneg i) hil]
    exact Nx.mk (i + 1) (show l.length - (i + 1) < l.length - i by omega) (by omega) (Wk.env (by simp [subE, Env.get, hs, i64_succ (show (i : Int) < 9223372036854775807 by omega)]))
  · have e : l.take i = l := List.take_of_length_le (by omega)
    simp only [gos, eq_self, Nat.reduceLT, Nat.reduceEqDiff, reduceIte, ↓reduceIte, vgo, vout, vguard, callOf, vop, ev, vbin, vint, isShift, isNilConst, vI, hil, e]
    subst hQ
    exact FnPost.plain trivial (fun h2 e => by first | rfl | (simp only [Try.f114, vres, vresL, vres1, e _, gos, if_true, if_false, ne_eq, eq_self, Nat.reduceLT, Nat.reduceEqDiff, Nat.reduceAdd, Nat.reduceMul, Nat.reduceLeDiff, Nat.reduceBEq, reduceCtorEq, reduceIte, Array.toList, ↓reduceIte, tt, vgo, vout, vgoD, voutD, vclsOk, vids, mayWrite, V.ids, V.mids, vguard, callOf, vop, ev, cv, vbin, vint, isShift, isNilConst, vnil, isNilSlice, vload, vlen, newRow, vfill, vslice, entOf, vappend, srcOf, vcopy, vlookup, vupdate, mapOk, keyOf, intsOf, clsAt]; try rfl)) (WkV.pure (by simp only [V.into])) ⟨rfl, rfl⟩
end Go.Vm

set_option linter.unusedVariables false
set_option linter.unusedSimpArgs false
set_option maxRecDepth 100000
namespace Go.Vm
open Go.Proofs
/-! ### Lacks -/
def sLacksA (c : Cu) : Int × Int :=
  if (sKeepsA c).2 = 0 then (if sIdx (fun v => v != 1) (sKeepsA c).1 < 0 then (0, 7) else (sIdx (fun v => v != 1) (sKeepsA c).1, 0)) else (0, (sKeepsA c).2)
theorem c_Lacks1 (n : Int) : Pu Try.prog (.fn 116 [] []) [vi n] (.bool (n != 1)) := by
  refine Ev.fn Try.func116 rfl rfl (Fn.body tabOk Try.func116 rfl (Nat.le_of_ble_eq_true rfl) (Ks.ok (fz := (fzn [])) (cl := (cln [])) tabOk mixed ?_))
  generalize hQ : FnPost tt Try.f116 _ _ = Q
  simp only [Try.f116, List.nil_append, List.append_nil, argsEnv]
  simp only [gos, eq_self, Nat.reduceLT, reduceCtorEq, reduceIte, ↓reduceIte, vgo, vout, vguard, callOf, vop, ev, cv, vbin, vint, isShift, isNilConst]
  subst hQ
  exact FnPost.plain trivial (fun h2 e => by first | rfl | (simp only [Try.f116, vres, vresL, vres1, e _, gos, if_true, if_false, ne_eq, eq_self, Nat.reduceLT, Nat.reduceEqDiff, Nat.reduceAdd, Nat.reduceMul, Nat.reduceLeDiff, Nat.reduceBEq, reduceCtorEq, reduceIte, Array.toList, ↓reduceIte, tt, vgo, vout, vgoD, voutD, vclsOk, vids, mayWrite, V.ids, V.mids, vguard, callOf, vop, ev, cv, vbin, vint, isShift, isNilConst, vnil, isNilSlice, vload, vlen, newRow, vfill, vslice, entOf, vappend, srcOf, vcopy, vlookup, vupdate, mapOk, keyOf, intsOf, clsAt]; try rfl)) (WkV.pure (by simp only [V.into])) ⟨rfl, rfl⟩
theorem keeps_len (c : Cu) : ((sKeepsA c).1.length : Int) ≤ 1000000 := by
  unfold sKeepsA
  split
  · rename_i h
    have := (askOk_of h).k0.last
    simp only [nI, List.length_map, List.length_range]; omega
  · simp
theorem c_Lacks (c : Cu) (hc : c.wf) : Pu Try.prog (.fn 70 [] []) [.agg c.cs] (.tup [vi (sLacksA c).1, vi (sLacksA c).2]) := by
  refine Ev.fn Try.func70 rfl rfl (Fn.body tabOk Try.func70 rfl (Nat.le_of_ble_eq_true rfl) (Ks.ok (fz := (fzn [])) (cl := (cln [])) tabOk mixed ?_))
  generalize hQ : FnPost tt Try.f70 _ _ = Q
  simp only [Try.f70, List.nil_append, List.append_nil, argsEnv]
  simp only [gos, eq_self, Nat.reduceLT, Nat.reduceEqDiff, reduceCtorEq, reduceIte, ↓reduceIte, tt, vgo, vout, vguard, callOf, vop, ev, cv, vload, newRow]
  refine Cl.pu (c_Keeps c hc) ?_ rfl (by simp only [V.into, intoL, cu_into, Bool.and_true])
  by_cases h0 : (sKeepsA c).2 = 0
  case neg =>
    have hb : ((sKeepsA c).2 != 0) = true := by simp [h0]
    simp only [gos, eq_self, Nat.reduceLT, Nat.reduceEqDiff, reduceIte, ↓reduceIte, vgo, vout, vguard, callOf, vop, ev, cv, vbin, vint, isShift, isNilConst, hb]
    subst hQ
    have hr : sLacksA c = (0, (sKeepsA c).2) := by rw [sLacksA, if_neg h0]
    rw [hr]
    exact FnPost.plain trivial (fun h2 e => by rfl) WkV.refl ⟨rfl, rfl⟩
  have hb : ((sKeepsA c).2 != 0) = false := by simp [h0]
  simp only [gos, eq_self, Nat.reduceLT, Nat.reduceEqDiff, reduceIte, ↓reduceIte, vgo, vout, vguard, callOf, vop, ev, cv, vbin, vint, isShift, isNilConst, hb]
  refine Cl.pu (c_IndexFunc_int _ (fun v => v != 1) (sKeepsA c).1 (keeps_len c) rfl fun x _ => c_Lacks1 x) ?_ rfl (by simp only [V.into, intoL, vI_into, Bool.and_true])
  by_cases hi : sIdx (fun v => v != 1) (sKeepsA c).1 < 0
  · have hd : decide (sIdx (fun v => v != 1) (sKeepsA c).1 < 0) = true := by simp only [hi, decide_true]
    simp only [gos, eq_self, Nat.reduceLT, reduceIte, ↓reduceIte, vgo, vout, vguard, callOf, vop, ev, cv, vbin, vint, isShift, isNilConst, hi]
    subst hQ
    exact FnPost.plain trivial (fun h2 e => by first | rfl | (simp only [Try.f70, vres, vresL, vres1, e _, gos, if_true, if_false, ne_eq, eq_self, Nat.reduceLT, Nat.reduceEqDiff, Nat.reduceAdd, Nat.reduceMul, Nat.reduceLeDiff, Nat.reduceBEq, reduceCtorEq, reduceIte, Array.toList, ↓reduceIte, tt, vgo, vout, vgoD, voutD, vclsOk, vids, mayWrite, V.ids, V.mids, vguard, callOf, vop, ev, cv, vbin, vint, isShift, isNilConst, vnil, isNilSlice, vload, vlen, newRow, vfill, vslice, entOf, vappend, srcOf, vcopy, vlookup, vupdate, mapOk, keyOf, intsOf, clsAt]; try rfl)) (WkV.pure (by simp only [V.into, intoL, Bool.and_true])) ⟨by rw [sLacksA, if_pos h0, if_pos hi], rfl⟩
  · simp only [gos, eq_self, Nat.reduceLT, Nat.reduceEqDiff, reduceIte, ↓reduceIte, vgo, vout, vguard, callOf, vop, ev, cv, vbin, vint, isShift, isNilConst, hi]
    subst hQ
    exact FnPost.plain trivial (fun h2 e => by first | rfl | (simp only [Try.f70, vres, vresL, vres1, e _, gos, if_true, if_false, ne_eq, eq_self, Nat.reduceLT, Nat.reduceEqDiff, Nat.reduceAdd, Nat.reduceMul, Nat.reduceLeDiff, Nat.reduceBEq, reduceCtorEq, reduceIte, Array.toList, ↓reduceIte, tt, vgo, vout, vgoD, voutD, vclsOk, vids, mayWrite, V.ids, V.mids, vguard, callOf, vop, ev, cv, vbin, vint, isShift, isNilConst, vnil, isNilSlice, vload, vlen, newRow, vfill, vslice, entOf, vappend, srcOf, vcopy, vlookup, vupdate, mapOk, keyOf, intsOf, clsAt]; try rfl)) (WkV.pure (by simp only [V.into, intoL, Bool.and_true])) ⟨by rw [sLacksA, if_pos h0, if_neg hi], rfl⟩
end Go.Vm

set_option linter.unusedVariables false
set_option linter.unusedSimpArgs false
set_option maxRecDepth 100000
namespace Go.Vm
open Go.Proofs
def sProveCoal (c : Cu) (coal : List Int) (many : Int) : Bool := decide (sAsked c (sIsCoal c coal) = 0) && (decide (sSum coal ≤ many) && sSureP c coal)
theorem coal_ok {c : Cu} {l : List Int} (h : sIsCoal c l = true) : (l.length : Int) = c.last + 1 ∧ ∀ x ∈ l, 0 ≤ x ∧ x ≤ c.shovels := by
  simp only [sIsCoal, sIn, Bool.and_eq_true, decide_eq_true_eq, List.all_eq_true] at h
  exact h
set_option maxHeartbeats 2000000 in
theorem c_ProveCoal (c : Cu) (hc : c.wf) (coal : List Int) (hm : (coal.length : Int) ≤ 1000000) (many : Int) : Pu Try.prog (.fn 65 [] []) [.agg c.cs, vI coal, vi many] (.bool (sProveCoal c coal many)) := by
  refine Ev.fn Try.func65 rfl rfl (Fn.body tabOk Try.func65 rfl (Nat.le_of_ble_eq_true rfl) (Ks.ok (fz := (fzn [])) (cl := (cln [(1, .d tg0 [cP, cP, cP, cP, none, cP, cP, cP, cP, cP])])) tabOk mixed ?_))
  generalize hQ : FnPost tt Try.f65 _ _ = Q
  simp only [Try.f65, List.nil_append, List.append_nil, argsEnv, Nat.reduceAdd]
  simp only [gos, eq_self, Nat.reduceLT, reduceCtorEq, reduceIte, ↓reduceIte, vgo, vout, vguard, callOf, vop, ev, cv, newRow]
  refine Wr.draw (by kernel_rfl) ?_
  simp only [gos, eq_self, Nat.reduceLT, Nat.reduceEqDiff, Nat.reduceAdd, reduceCtorEq, reduceIte, ↓reduceIte, tt, vgoD, voutD, vclsOk, vids, mayWrite, V.ids, vguard, callOf, vop, ev, vload, clsAt]
  refine CD.pu (c_isCoal c coal hc.last hm) ?_ rfl (by simp only [V.into, intoL, vI_into, cu_into, Bool.and_true])
  simp only [gos, eq_self, Nat.reduceLT, Nat.reduceEqDiff, reduceIte, ↓reduceIte, vgoD, voutD, vguard, callOf, ev]
  by_cases h0 : sAsked c (sIsCoal c coal) = 0
  case neg =>
    refine CD.ev _ _ (c_askedN c hc (sIsCoal c coal) h0) ?_
    simp only [gos, eq_self, Nat.reduceLT, Nat.reduceEqDiff, reduceIte, ↓reduceIte, vgo, vout, vgoD, voutD, vclsOk, vids, mayWrite, vguard, callOf, vop, ev, cv, vbin, vint, isShift, isNilConst, h0]
    subst hQ
    exact FnPost.plain trivial (fun h2 e => by first | rfl | (simp only [Try.f65, vres, vresL, vres1, e _, gos, if_true, if_false, ne_eq, eq_self, Nat.reduceLT, Nat.reduceEqDiff, Nat.reduceAdd, Nat.reduceMul, Nat.reduceLeDiff, Nat.reduceBEq, reduceCtorEq, reduceIte, Array.toList, ↓reduceIte, tt, vgo, vout, vgoD, voutD, vclsOk, vids, mayWrite, V.ids, V.mids, vguard, callOf, vop, ev, cv, vbin, vint, isShift, isNilConst, vnil, isNilSlice, vload, vlen, newRow, vfill, vslice, entOf, vappend, srcOf, vcopy, vlookup, vupdate, mapOk, keyOf, intsOf, clsAt]; try rfl)) (WkV.pure (by simp only [V.into])) ⟨by simp [sProveCoal, h0], rfl⟩
  have A := askOk_of h0
  have hp := coal_ok A.fine
  refine CD.ev _ _ (c_askedY c hc (sIsCoal c coal) h0) ?_
  simp only [gos, eq_self, Nat.reduceLT, Nat.reduceEqDiff, reduceCtorEq, reduceIte, ↓reduceIte, vgo, vout, vgoD, voutD, vclsOk, vids, mayWrite, vguard, callOf, vop, ev, cv, vbin, vint, isShift, isNilConst]
  refine Cl.pu (c_sum coal hm) ?_ rfl (by simp only [intoL, vI_into, Bool.and_true])
  by_cases h1 : sSum coal ≤ many
  case neg =>
    simp only [gos, eq_self, Nat.reduceLT, Nat.reduceEqDiff, reduceCtorEq, reduceIte, ↓reduceIte, vgo, vout, vguard, callOf, vop, ev, cv, vbin, vint, isShift, isNilConst, h1]
    subst hQ
    exact FnPost.plain trivial (v := .bool false) (fun h2 e => by rfl) (WkV.pure rfl) ⟨by simp [sProveCoal, h1], rfl⟩
  simp only [gos, eq_self, Nat.reduceLT, Nat.reduceEqDiff, reduceCtorEq, reduceIte, ↓reduceIte, vgo, vout, vguard, callOf, vop, ev, vbin, vint, isShift, isNilConst, h1]
  refine Cl.mk (c_sure c (sTruth c) [] 17 (by decide) (by intro x hx; cases hx) coal A.ok (by have := A.len; omega) (by have := A.k0.last; omega) fun s hs => coal_play A.k0 hp (A.sc s hs)) ?_
  rintro v h' ⟨rfl, rfl⟩
  simp only [gos, eq_self, Nat.reduceLT, Nat.reduceEqDiff, reduceIte, ↓reduceIte, vgo, vout, vguard, callOf, vop, ev]
  subst hQ
  have hr : sProveCoal c coal many = sSure c (sTruth c) [] coal := by simp [sProveCoal, h0, h1, sSureP, sSure, mget]
  rw [hr]
  exact FnPost.plain trivial (v := .bool (sSure c (sTruth c) [] coal)) (fun h2 e => by rfl) (WkV.pure rfl) ⟨rfl, rfl⟩
end Go.Vm

set_option linter.unusedVariables false
set_option linter.unusedSimpArgs false
set_option maxRecDepth 100000
namespace Go.Vm
open Go.Proofs Go.ChangeShapes Go.WideShapes Go.ChangeAt Go.RowKit
/-! ### from a contract to the row -/
theorem hrel0 (w : World) : HRel (gh0 w) [] w :=
  ⟨fun B o v e => e, fun i e he => (by cases he), fun i j e e' B c c' he => (by cases he), fun i e B c o he => (by cases he), fun i v h => absurd rfl h⟩
theorem calls_of_fn {P : Program} {f : FuncId} {vs : List V} {xs : List Value} {w : World} (c : Fn P f vs [] fun v h' => v = .bool true) (hv : VRL (gh0 w) vs xs) :
    Calls P f xs.toArray w fun e w' => e = .returned (.bool true) ∧ Below w.heap.size w w' := fun cs => by
  obtain ⟨v, h', vc, g', w', fr, rfl, st, hf, hl, hvc, H', t, le⟩ := c (gh0 w) w xs hv (hrel0 w) cs
  simp only [VR] at hvc
  subst hvc
  exact ⟨.returned (.bool true), w', fr, ⟨rfl, t.os, t.tape, t.output, t.size, fun k hk => t.mods k hk (by rintro ⟨i, e, c, he, _⟩; cases he)⟩, st, hf, hl⟩
section
variable {H : Type} {enc : TypeId × Value → H} {P : Program} {w : World} {base : Nat} {spare : Nat → Bool} {held : Bool} {fuel : Nat} {t : TypeId} {cs : List Value} {x : DataW H × List MemPlace}
end
section
variable {H : Type} {enc : TypeId × Value → H} {w : World} {base : Nat} {spare : Nat → Bool} {held : Bool} {fuel : Nat} {cs : List Value} {x : DataW H × List MemPlace}
end
end Go.Vm

set_option linter.unusedVariables false
set_option linter.unusedSimpArgs false
set_option maxRecDepth 100000
namespace Go.Vm
open Go.Proofs
/-! ### the example's coppers, of which one list is yet to be changed -/
def exCv (co wa lo rd : V) : List V := [vi 2, vi 7, vi 60, vi 4, vi 3, co, wa, vi 10, vi 12, lo, rd]
set_option maxHeartbeats 1000000 in
theorem c_threeCo (n : Nat) (hn : n ≤ 3) : Ev Try.prog (.fn 75 [] []) [vi n] [] fun v h' => v = .agg (exCv (.own 11 0 0 1 3) (vI [3, 2, 2]) (vR [⟨2, 3⟩, ⟨4, 4⟩, ⟨0, 2⟩]) (vD (exR.take n))) ∧ h' = [(11, ⟨0, .row [vi 2, vi 1, vi 0]⟩)] := by
  refine Ev.fn Try.func75 rfl rfl (Fn.body tabOk Try.func75 rfl (Nat.le_of_ble_eq_true rfl) (Ks.ok (fz := (fzn [2, 11])) (cl := (cln [(2, .d (tgL [(11, 1)]) [some ([1], [1]), cP, cP, cP, cP, cP, cP, cP, cP, cP, cP, cW])])) tabOk mixed ?_))
  generalize hQ : FnPost tt Try.f75 _ _ = Q
  simp only [Try.f75, List.nil_append, List.append_nil, argsEnv]
  have h1 : (0 : Int) ≤ n := by omega
  have h2 : (n : Int) ≤ 3 := by omega
  simp only [gos, eq_self, Nat.reduceLT, Nat.reduceEqDiff, reduceCtorEq, reduceIte, ↓reduceIte, tt, vgo, vout, vguard, callOf, vop, ev, cv, newRow]
  refine Cl.pu (c_between _ _) ?_
  simp only [gos, eq_self, Nat.reduceLT, Nat.reduceAdd, reduceIte, ↓reduceIte, tt, vgo, vout, vguard, callOf, vop, ev, cv, vfill]
  refine Cl.pu (c_between _ _) ?_
  simp only [gos, eq_self, Nat.reduceLT, Nat.reduceAdd, Nat.reduceLeDiff, reduceIte, ↓reduceIte, tt, vgo, vout, vguard, callOf, vop, ev, cv, vfill]
  refine Cl.pu (c_between _ _) ?_
  simp only [gos, eq_self, Nat.reduceLT, Nat.reduceEqDiff, Nat.reduceAdd, Nat.reduceMul, Nat.reduceLeDiff, reduceCtorEq, reduceIte, ↓reduceIte, tt, vgo, vout, vguard, callOf, vop, ev, vfill]
  refine Wr.draw (by kernel_rfl) ?_
  simp only [gos, eq_self, Nat.reduceLT, Nat.reduceEqDiff, Nat.reduceAdd, Nat.reduceMul, Nat.reduceLeDiff, reduceCtorEq, reduceIte, ↓reduceIte, tt, vgoD, voutD, vclsOk, vids, mayWrite, vguard, callOf, vop, ev, cv, vfill, clsAt]
  refine CD.pu (c_between _ _) ?_
  simp only [gos, eq_self, Nat.reduceLT, reduceIte, ↓reduceIte, vgoD, voutD, vguard, callOf, ev, cv]
  refine CD.pu (c_between _ _) ?_
  simp only [gos, eq_self, Nat.reduceLT, reduceIte, ↓reduceIte, vgoD, voutD, vguard, callOf, ev, cv]
  refine CD.pu (c_between _ _) ?_
  simp only [gos, eq_self, Nat.reduceLT, reduceIte, ↓reduceIte, vgoD, voutD, vguard, callOf, ev, cv]
  refine CD.pu (c_between _ _) ?_
  simp only [gos, eq_self, Nat.reduceLT, Nat.reduceEqDiff, Nat.reduceAdd, Nat.reduceMul, Nat.reduceLeDiff, reduceCtorEq, reduceIte, ↓reduceIte, tt, vgoD, voutD, vclsOk, vids, mayWrite, V.ids, vguard, callOf, vop, ev, vfill, vslice]
  have h3 : ((n : Int)).toNat = n := Int.toNat_natCast n
  have h4 : V.ro n (List.take (n * 3) [V.int IntKind.i64 0, vi 6, vi 6, V.int IntKind.i64 2, vi 3, vi 3, V.int IntKind.i64 0, vi 7, vi 7]) = vD (exR.take n) := by
    match n, hn with
    | 0, _ => rfl
    | 1, _ => rfl
    | 2, _ => rfl
    | 3, _ => rfl
  have h2' : (n : Int) ≤ ((3 : Nat) : Int) := h2
  simp only [gos, eq_self, Nat.reduceLT, Nat.reduceEqDiff, Nat.reduceAdd, Nat.reduceLeDiff, reduceCtorEq, reduceIte, ↓reduceIte, tt, vgoD, voutD, vclsOk, vids, mayWrite, V.ids, vguard, callOf, vop, ev, cv, vfill, h2', h3, h4]
  subst hQ
  exact FnPost.plain trivial (v := .agg (exCv (.own 11 0 0 1 3) (vI [3, 2, 2]) (vR [⟨2, 3⟩, ⟨4, 4⟩, ⟨0, 2⟩]) (vD (exR.take n)))) (fun h2 e => by simp only [Try.f75, vres, vresL, vres1, gos, eq_self, Nat.reduceLT, Nat.reduceEqDiff, Nat.reduceAdd, reduceCtorEq, reduceIte, ↓reduceIte, tt, vload, e _]; rfl) (WkV.forgetF (h' := [(11, ⟨0, .row [vi 2, vi 1, vi 0]⟩)]) (fun i e he => by
    simp only [Heap.get] at he ⊢
    split at he
    · rename_i h; subst h; exact he
    · cases he) (fun i hi => by cases hi) (by simp only [exCv, V.into, intoL, vI_into, vR_into, vD_into, Bool.true_and, Bool.and_true]; rfl) rfl) ⟨rfl, rfl⟩
theorem n_threeCo (n : Nat) (hn : n ≤ 3) : NewB Try.prog (.fn 75 [] []) [vi n] (.agg (exCv (.own 11 0 0 1 3) (vI [3, 2, 2]) (vR [⟨2, 3⟩, ⟨4, 4⟩, ⟨0, 2⟩]) (vD (exR.take n)))) 11 ⟨0, .row [vi 2, vi 1, vi 0]⟩ := NewB.of (c_threeCo n hn) rfl rfl
set_option maxHeartbeats 1000000 in
theorem c_threeLo (n : Nat) (hn : n ≤ 3) : Ev Try.prog (.fn 75 [] []) [vi n] [] fun v h' => v = .agg (exCv (vI [2, 1, 0]) (vI [3, 2, 2]) (.own 17 0 0 2 3) (vD (exR.take n))) ∧ h' = [(17, ⟨0, .row [vi 2, vi 3, vi 4, vi 4, vi 0, vi 2]⟩)] := by
  refine Ev.fn Try.func75 rfl rfl (Fn.body tabOk Try.func75 rfl (Nat.le_of_ble_eq_true rfl) (Ks.ok (fz := (fzn [2, 17])) (cl := (cln [(2, .d (tgL [(17, 1)]) [cP, cP, cP, cP, cP, cP, some ([1], [1]), cP, cP, cP, cP, cW])])) tabOk mixed ?_))
  generalize hQ : FnPost tt Try.f75 _ _ = Q
  simp only [Try.f75, List.nil_append, List.append_nil, argsEnv]
  have h1 : (0 : Int) ≤ n := by omega
  have h2 : (n : Int) ≤ 3 := by omega
  simp only [gos, eq_self, Nat.reduceLT, Nat.reduceEqDiff, reduceCtorEq, reduceIte, ↓reduceIte, tt, vgo, vout, vguard, callOf, vop, ev, cv, newRow]
  refine Cl.pu (c_between _ _) ?_
  simp only [gos, eq_self, Nat.reduceLT, Nat.reduceAdd, reduceIte, ↓reduceIte, tt, vgo, vout, vguard, callOf, vop, ev, cv, vfill]
  refine Cl.pu (c_between _ _) ?_
  simp only [gos, eq_self, Nat.reduceLT, Nat.reduceAdd, Nat.reduceLeDiff, reduceIte, ↓reduceIte, tt, vgo, vout, vguard, callOf, vop, ev, cv, vfill]
  refine Cl.pu (c_between _ _) ?_
  simp only [gos, eq_self, Nat.reduceLT, Nat.reduceEqDiff, Nat.reduceAdd, Nat.reduceMul, Nat.reduceLeDiff, reduceCtorEq, reduceIte, ↓reduceIte, tt, vgo, vout, vguard, callOf, vop, ev, vfill]
  refine Wr.draw (by kernel_rfl) ?_
  simp only [gos, eq_self, Nat.reduceLT, Nat.reduceEqDiff, Nat.reduceAdd, Nat.reduceMul, Nat.reduceLeDiff, reduceCtorEq, reduceIte, ↓reduceIte, tt, vgoD, voutD, vclsOk, vids, mayWrite, vguard, callOf, vop, ev, cv, vfill, clsAt]
  refine CD.pu (c_between _ _) ?_
  simp only [gos, eq_self, Nat.reduceLT, reduceIte, ↓reduceIte, vgoD, voutD, vguard, callOf, ev, cv]
  refine CD.pu (c_between _ _) ?_
  simp only [gos, eq_self, Nat.reduceLT, reduceIte, ↓reduceIte, vgoD, voutD, vguard, callOf, ev, cv]
  refine CD.pu (c_between _ _) ?_
  simp only [gos, eq_self, Nat.reduceLT, reduceIte, ↓reduceIte, vgoD, voutD, vguard, callOf, ev, cv]
  refine CD.pu (c_between _ _) ?_
  simp only [gos, eq_self, Nat.reduceLT, Nat.reduceEqDiff, Nat.reduceAdd, Nat.reduceMul, Nat.reduceLeDiff, reduceCtorEq, reduceIte, ↓reduceIte, tt, vgoD, voutD, vclsOk, vids, mayWrite, V.ids, vguard, callOf, vop, ev, vfill, vslice]
  have h3 : ((n : Int)).toNat = n := Int.toNat_natCast n
  have h4 : V.ro n (List.take (n * 3) [V.int IntKind.i64 0, vi 6, vi 6, V.int IntKind.i64 2, vi 3, vi 3, V.int IntKind.i64 0, vi 7, vi 7]) = vD (exR.take n) := by
    match n, hn with
    | 0, _ => rfl
    | 1, _ => rfl
    | 2, _ => rfl
    | 3, _ => rfl
  have h2' : (n : Int) ≤ ((3 : Nat) : Int) := h2
  simp only [gos, eq_self, Nat.reduceLT, Nat.reduceEqDiff, Nat.reduceAdd, Nat.reduceLeDiff, reduceCtorEq, reduceIte, ↓reduceIte, tt, vgoD, voutD, vclsOk, vids, mayWrite, V.ids, vguard, callOf, vop, ev, cv, vfill, h2', h3, h4]
  subst hQ
  exact FnPost.plain trivial (v := .agg (exCv (vI [2, 1, 0]) (vI [3, 2, 2]) (.own 17 0 0 2 3) (vD (exR.take n)))) (fun h2 e => by simp only [Try.f75, vres, vresL, vres1, gos, eq_self, Nat.reduceLT, Nat.reduceEqDiff, Nat.reduceAdd, reduceCtorEq, reduceIte, ↓reduceIte, tt, vload, e _]; rfl) (WkV.forgetF (h' := [(17, ⟨0, .row [vi 2, vi 3, vi 4, vi 4, vi 0, vi 2]⟩)]) (fun i e he => by
    simp only [Heap.get] at he ⊢
    split at he
    · rename_i h; subst h; exact he
    · cases he) (fun i hi => by cases hi) (by simp only [exCv, V.into, intoL, vI_into, vD_into, Bool.true_and, Bool.and_true]; rfl) rfl) ⟨rfl, rfl⟩
theorem n_threeLo (n : Nat) (hn : n ≤ 3) : NewB Try.prog (.fn 75 [] []) [vi n] (.agg (exCv (vI [2, 1, 0]) (vI [3, 2, 2]) (.own 17 0 0 2 3) (vD (exR.take n)))) 17 ⟨0, .row [vi 2, vi 3, vi 4, vi 4, vi 0, vi 2]⟩ := NewB.of (c_threeLo n hn) rfl rfl
set_option maxHeartbeats 1000000 in
theorem c_threeRd (n : Nat) (hn : n ≤ 3) : Ev Try.prog (.fn 75 [] []) [vi n] [] fun v h' => v = .agg (exCv (vI [2, 1, 0]) (vI [3, 2, 2]) (vR [⟨2, 3⟩, ⟨4, 4⟩, ⟨0, 2⟩]) (.own 10 0 0 3 n)) ∧ h' = [(10, ⟨0, .row [vi 0, vi 6, vi 6, vi 2, vi 3, vi 3, vi 0, vi 7, vi 7]⟩)] := by
  refine Ev.fn Try.func75 rfl rfl (Fn.body tabOk Try.func75 rfl (Nat.le_of_ble_eq_true rfl) (Ks.ok (fz := (fzn [2, 10])) (cl := (cln [(2, .d (tgL [(10, 1)]) [cP, cP, cP, cP, cP, cP, cP, cP, cP, some ([1], []), cP, cW])])) tabOk mixed ?_))
  generalize hQ : FnPost tt Try.f75 _ _ = Q
  simp only [Try.f75, List.nil_append, List.append_nil, argsEnv]
  have h1 : (0 : Int) ≤ n := by omega
  have h2 : (n : Int) ≤ 3 := by omega
  simp only [gos, eq_self, Nat.reduceLT, Nat.reduceEqDiff, reduceCtorEq, reduceIte, ↓reduceIte, tt, vgo, vout, vguard, callOf, vop, ev, cv, newRow]
  refine Cl.pu (c_between _ _) ?_
  simp only [gos, eq_self, Nat.reduceLT, Nat.reduceAdd, reduceIte, ↓reduceIte, tt, vgo, vout, vguard, callOf, vop, ev, cv, vfill]
  refine Cl.pu (c_between _ _) ?_
  simp only [gos, eq_self, Nat.reduceLT, Nat.reduceAdd, Nat.reduceLeDiff, reduceIte, ↓reduceIte, tt, vgo, vout, vguard, callOf, vop, ev, cv, vfill]
  refine Cl.pu (c_between _ _) ?_
  simp only [gos, eq_self, Nat.reduceLT, Nat.reduceEqDiff, Nat.reduceAdd, Nat.reduceMul, Nat.reduceLeDiff, reduceCtorEq, reduceIte, ↓reduceIte, tt, vgo, vout, vguard, callOf, vop, ev, vfill]
  refine Wr.draw (by kernel_rfl) ?_
  simp only [gos, eq_self, Nat.reduceLT, Nat.reduceEqDiff, Nat.reduceAdd, Nat.reduceMul, Nat.reduceLeDiff, reduceCtorEq, reduceIte, ↓reduceIte, tt, vgoD, voutD, vclsOk, vids, mayWrite, vguard, callOf, vop, ev, cv, vfill, clsAt]
  refine CD.pu (c_between _ _) ?_
  simp only [gos, eq_self, Nat.reduceLT, reduceIte, ↓reduceIte, vgoD, voutD, vguard, callOf, ev, cv]
  refine CD.pu (c_between _ _) ?_
  simp only [gos, eq_self, Nat.reduceLT, reduceIte, ↓reduceIte, vgoD, voutD, vguard, callOf, ev, cv]
  refine CD.pu (c_between _ _) ?_
  simp only [gos, eq_self, Nat.reduceLT, reduceIte, ↓reduceIte, vgoD, voutD, vguard, callOf, ev, cv]
  refine CD.pu (c_between _ _) ?_
  simp only [gos, eq_self, Nat.reduceLT, Nat.reduceEqDiff, Nat.reduceAdd, Nat.reduceMul, Nat.reduceLeDiff, reduceCtorEq, reduceIte, ↓reduceIte, tt, vgoD, voutD, vclsOk, vids, mayWrite, V.ids, vguard, callOf, vop, ev, vfill, vslice]
  have h3 : ((n : Int)).toNat = n := Int.toNat_natCast n
  have h4 : V.ro n (List.take (n * 3) [V.int IntKind.i64 0, vi 6, vi 6, V.int IntKind.i64 2, vi 3, vi 3, V.int IntKind.i64 0, vi 7, vi 7]) = vD (exR.take n) := by
    match n, hn with
    | 0, _ => rfl
    | 1, _ => rfl
    | 2, _ => rfl
    | 3, _ => rfl
  have h2' : (n : Int) ≤ ((3 : Nat) : Int) := h2
  simp only [gos, eq_self, Nat.reduceLT, Nat.reduceEqDiff, Nat.reduceAdd, Nat.reduceLeDiff, reduceCtorEq, reduceIte, ↓reduceIte, tt, vgoD, voutD, vclsOk, vids, mayWrite, V.ids, vguard, callOf, vop, ev, cv, vfill, h2', h3]
  subst hQ
  exact FnPost.plain trivial (v := .agg (exCv (vI [2, 1, 0]) (vI [3, 2, 2]) (vR [⟨2, 3⟩, ⟨4, 4⟩, ⟨0, 2⟩]) (.own 10 0 0 3 n))) (fun h2 e => by simp only [Try.f75, vres, vresL, vres1, gos, eq_self, Nat.reduceLT, Nat.reduceEqDiff, Nat.reduceAdd, reduceCtorEq, reduceIte, ↓reduceIte, tt, vload, e _]; rfl) (WkV.forgetF (h' := [(10, ⟨0, .row [vi 0, vi 6, vi 6, vi 2, vi 3, vi 3, vi 0, vi 7, vi 7]⟩)]) (fun i e he => by
    simp only [Heap.get] at he ⊢
    split at he
    · rename_i h; subst h; exact he
    · cases he) (fun i hi => by cases hi) (by simp only [exCv, V.into, intoL, vI_into, vR_into, Bool.true_and, Bool.and_true]; rfl) rfl) ⟨rfl, rfl⟩
theorem n_threeRd (n : Nat) (hn : n ≤ 3) : NewB Try.prog (.fn 75 [] []) [vi n] (.agg (exCv (vI [2, 1, 0]) (vI [3, 2, 2]) (vR [⟨2, 3⟩, ⟨4, 4⟩, ⟨0, 2⟩]) (.own 10 0 0 3 n))) 10 ⟨0, .row [vi 0, vi 6, vi 6, vi 2, vi 3, vi 3, vi 0, vi 7, vi 7]⟩ := NewB.of (c_threeRd n hn) rfl rfl
end Go.Vm

set_option linter.unusedVariables false
set_option linter.unusedSimpArgs false
set_option maxRecDepth 100000
namespace Go.Vm
open Go.Proofs
theorem ImpV.agg {l m : List V} (i : impL l m) : ImpV (.agg l) (.agg m) := fun g x h => by
  simp only [VR] at h ⊢
  obtain ⟨vs, e, h⟩ := h
  exact ⟨vs, e, impL_ok i h⟩
theorem nm_r1 : sBoundsA (exC 0) = ([⟨6, 7⟩, ⟨4, 6⟩, ⟨2, 4⟩], [⟨12, 17⟩, ⟨10, 17⟩, ⟨0, 9⟩], 0) := by decide +kernel
theorem nm_r2 : sKeepsA (exC 0) = ([1, 1, 1], 0) := by decide +kernel
theorem nm_r3 : sLacksA (exC 0) = (0, 7) := by decide +kernel
theorem nm_r4 : sLacksA (exW 3) = (2, 0) := by decide +kernel
theorem nm_r5 : sMoreA (exC 0) [0, 0, 1] = (3, 0) := by decide +kernel
theorem nm_r6 : sSpareA (exC 0) 0 = (0, 0) := by decide +kernel
theorem nm_r7 : sSpareA (exW 3) 2 = (0, 10) := by decide +kernel
theorem nm_r8 : sLeastA (exW 9) = ([1, 2, 3], 0) := by decide +kernel
theorem nm_r9 : sLeaveA (exC 2) = ([], 0) := by decide +kernel
theorem nm_s1 : sProveTruth (exC 1) ⟨11, [3, 4, 0]⟩ = true := by decide +kernel
theorem nm_s2 : sProveTruth (exC 3) ⟨11, [3, 4, 0]⟩ = false := by decide +kernel
theorem nm_s3 : sProveTruth (exC 0) ⟨13, [3, 4, 0]⟩ = false := by decide +kernel
theorem nm_s4 : sProveCoal (exC 0) [1, 1, 1] 3 = true := by decide +kernel
theorem nm_s5 : sProveCoal (exC 0) [1, 1, 1] 2 = false := by decide +kernel
theorem nm_s6 : sProveCoal (exC 0) [1, 1, 0] 9 = false := by decide +kernel
theorem nm_s7 : sProveCoal (exC 0) [1, 1, 4] 9 = false := by decide +kernel
theorem nm_s8 : sProveCoal (exC 3) [3, 3, 3] 9 = false := by decide +kernel
theorem nm_u1 : sPlayA (exC 0) ⟨10, [3, 4]⟩ = ([], [], 2) := by decide +kernel
theorem nm_u2 : sMoreA (exC 3) [0, 0, 21] = (0, 2) := by decide +kernel
theorem nm_u3 : sMoreA (exC 3) [0, 0, 0] = (0, 11) := by decide +kernel
theorem nm_u4 : sSpareA (exC 3) 3 = (0, 2) := by decide +kernel
theorem nm_u5 : sLacksA (exC 3) = (0, 11) := by decide +kernel
theorem nm_u6 : sLeastA (exW 20) = ([], 10) := by decide +kernel
theorem nm_u7 : sFirstA (exC 2) = (0, 7) := by decide +kernel
theorem nm_u8 : sBoundsA (exC 3) = ([], [], 11) := by decide +kernel
set_option maxHeartbeats 32000000 in
theorem l_CopperNames : Vm.Fn Try.prog 19 [] [] fun v h' => v = .bool true := by
  have t0 : Pu Try.prog (.fn 75 [] []) [vi 0] (.agg (exC 0).cs) := c_three 0 (by omega)
  have t1 : Pu Try.prog (.fn 75 [] []) [vi 1] (.agg (exC 1).cs) := c_three 1 (by omega)
  have t2 : Pu Try.prog (.fn 75 [] []) [vi 2] (.agg (exC 2).cs) := c_three 2 (by omega)
  have t3 : Pu Try.prog (.fn 75 [] []) [vi 3] (.agg (exC 3).cs) := c_three 3 (by omega)
  have w0 := exC_wf 0 (by omega)
  have w1 := exC_wf 1 (by omega)
  have w2 := exC_wf 2 (by omega)
  have w3 := exC_wf 3 (by omega)
  have p1 := c_Bounds (exC 0) w0
  have p2 := c_Keeps (exC 0) w0
  have p3 := c_Lacks (exC 0) w0
  have p4 := c_Lacks (exW 3) (exW_wf 3)
  have p5 := c_More (exC 0) w0 [0, 0, 1] (by simp)
  have p6 := c_Spare (exC 0) w0 0
  have p7 := c_Spare (exW 3) (exW_wf 3) 2
  have p8 := c_Least (exW 9) (exW_wf 9)
  have p9 := c_Leave (exC 2) w2
  rw [nm_r1] at p1
  rw [nm_r2] at p2
  rw [nm_r3] at p3
  rw [nm_r4] at p4
  rw [nm_r5] at p5
  rw [nm_r6] at p6
  rw [nm_r7] at p7
  rw [nm_r8] at p8
  rw [nm_r9] at p9
  have q1 := c_ProveTruth (exC 1) ⟨11, [3, 4, 0]⟩ w1 (by simp)
  have q2 := c_ProveTruth (exC 3) ⟨11, [3, 4, 0]⟩ w3 (by simp)
  have q3 := c_ProveTruth (exC 0) ⟨13, [3, 4, 0]⟩ w0 (by simp)
  have q4 := c_ProveCoal (exC 0) w0 [1, 1, 1] (by simp) 3
  have q5 := c_ProveCoal (exC 0) w0 [1, 1, 1] (by simp) 2
  have q6 := c_ProveCoal (exC 0) w0 [1, 1, 0] (by simp) 9
  have q7 := c_ProveCoal (exC 0) w0 [1, 1, 4] (by simp) 9
  have q8 := c_ProveCoal (exC 3) w3 [3, 3, 3] (by simp) 9
  rw [nm_s1] at q1
  rw [nm_s2] at q2
  rw [nm_s3] at q3
  rw [nm_s4] at q4
  rw [nm_s5] at q5
  rw [nm_s6] at q6
  rw [nm_s7] at q7
  rw [nm_s8] at q8
  have v1 := c_Play (exC 0) ⟨10, [3, 4]⟩ w0 (by simp)
  have v2 := c_More (exC 3) w3 [0, 0, 21] (by simp)
  have v3 := c_More (exC 3) w3 [0, 0, 0] (by simp)
  have v4 := c_Spare (exC 3) w3 3
  have v5 := c_Lacks (exC 3) w3
  have v6 := c_Least (exW 20) (exW_wf 20)
  have v7 := c_First (exC 2) w2
  have v8 := c_Bounds (exC 3) w3
  rw [nm_u1] at v1
  rw [nm_u2] at v2
  rw [nm_u3] at v3
  rw [nm_u4] at v4
  rw [nm_u5] at v5
  rw [nm_u6] at v6
  rw [nm_u7] at v7
  rw [nm_u8] at v8
  refine Fn.body tabOk Try.func19 rfl (Nat.le_of_ble_eq_true rfl) (Ks.ok (fz := (fzn [20, 21, 22, 23, 24, 25, 26, 27, 28, 29, 30])) (cl := (cln [(10, .d tg0 [cP, cP, cP, cP, cP, cP, cP, cP, cP, cP, cP, cP, cP, cP, cP, cP, cP, cP, cP, cP, cP, cP, cP, cP, cP, cP, cP, cP, cP, cP, cP, cP, cP, cP, cP, cP, cP, cP, cP, cP, cP, cP, cP, cP, cP, cP, cP, cP, cP, cP, cP, cP, cP, cP, cP, cP, cP, cP, cP, cP, cP, cP, cP, cP, cP, cP, cP, cP, cP, cP, cP, cP, cP, cP, cP, cP, cP, cP, cP, cP, cP, cP, cP, cP, cP, cP, cP, cP, cP, cP, cP, cP, cP, cP, cP, cP, cP, cP, cP, cP, cP, cP, cP, cP, cP, cP, cP, cP]), (13, .ex), (23, .ex), (31, .d (tgL [(28, 1), (18, 2)]) [cP, some ([1], []), cP, some ([2], []), some ([2], [2])]), (33, .d (tgL [(30, 1), (17, 2)]) [cP, some ([1], []), cP, cP, cP, some ([1], [1]), some ([2], []), some ([2], [2])]), (34, .ex)])) tabOk mixed ?_)
  generalize hQ : FnPost tt Try.f19 _ _ = Q
  simp only [Try.f19, argsEnv]
  simp only [gos, eq_self, Nat.reduceLT, Nat.reduceEqDiff, reduceCtorEq, reduceIte, ↓reduceIte, vgo, vout, vguard, callOf, vop, ev, cv]
  refine Cl.pu t0 ?_ rfl (by simp only [V.into, intoL, Bool.and_true])
  simp only [gos, eq_self, Nat.reduceLT, reduceIte, ↓reduceIte, vgo, vout, vguard, callOf, ev]
  refine Cl.pu p1 ?_ rfl (by simp only [V.into, intoL, cu_into, Bool.and_true])
  simp only [gos, eq_self, Nat.reduceLT, Nat.reduceEqDiff, reduceIte, ↓reduceIte, vgo, vout, vguard, callOf, vop, ev, cv]
  refine Cl.pu t0 ?_ rfl (by simp only [V.into, intoL, Bool.and_true])
  simp only [gos, eq_self, Nat.reduceLT, reduceIte, ↓reduceIte, vgo, vout, vguard, callOf, ev]
  refine Cl.pu p2 ?_ rfl (by simp only [V.into, intoL, cu_into, Bool.and_true])
  simp only [gos, eq_self, Nat.reduceLT, Nat.reduceEqDiff, reduceIte, ↓reduceIte, vgo, vout, vguard, callOf, vop, ev, cv]
  refine Cl.pu t0 ?_ rfl (by simp only [V.into, intoL, Bool.and_true])
  simp only [gos, eq_self, Nat.reduceLT, reduceIte, ↓reduceIte, vgo, vout, vguard, callOf, ev]
  refine Cl.pu p3 ?_ rfl (by simp only [V.into, intoL, cu_into, Bool.and_true])
  simp only [gos, eq_self, Nat.reduceLT, Nat.reduceEqDiff, reduceIte, ↓reduceIte, vgo, vout, vguard, callOf, vop, ev, cv]
  refine Cl.pu (c_wanting 3) ?_ rfl (by simp only [V.into, intoL, Bool.and_true])
  simp only [gos, eq_self, Nat.reduceLT, reduceIte, ↓reduceIte, vgo, vout, vguard, callOf, ev]
  refine Cl.pu p4 ?_ rfl (by simp only [V.into, intoL, cu_into, Bool.and_true])
  simp only [gos, eq_self, Nat.reduceLT, Nat.reduceEqDiff, reduceIte, ↓reduceIte, vgo, vout, vguard, callOf, vop, ev, cv]
  refine Cl.pu t0 ?_ rfl (by simp only [V.into, intoL, Bool.and_true])
  simp only [gos, eq_self, Nat.reduceLT, Nat.reduceEqDiff, Nat.reduceAdd, Nat.reduceMul, Nat.reduceLeDiff, reduceCtorEq, reduceIte, ↓reduceIte, tt, vgo, vout, vguard, callOf, vop, ev, cv, vfill]
  refine Cl.pu p5 ?_ rfl (by simp only [V.into, intoL, cu_into, Bool.and_true])
  simp only [gos, eq_self, Nat.reduceLT, Nat.reduceEqDiff, reduceIte, ↓reduceIte, vgo, vout, vguard, callOf, vop, ev, cv]
  refine Cl.pu t0 ?_ rfl (by simp only [V.into, intoL, Bool.and_true])
  simp only [gos, eq_self, Nat.reduceLT, reduceIte, ↓reduceIte, vgo, vout, vguard, callOf, ev, cv]
  refine Cl.pu p6 ?_ rfl (by simp only [V.into, intoL, cu_into, Bool.and_true])
  simp only [gos, eq_self, Nat.reduceLT, Nat.reduceEqDiff, reduceIte, ↓reduceIte, vgo, vout, vguard, callOf, vop, ev, cv]
  refine Cl.pu (c_wanting 3) ?_ rfl (by simp only [V.into, intoL, Bool.and_true])
  simp only [gos, eq_self, Nat.reduceLT, reduceIte, ↓reduceIte, vgo, vout, vguard, callOf, ev, cv]
  refine Cl.pu p7 ?_ rfl (by simp only [V.into, intoL, cu_into, Bool.and_true])
  simp only [gos, eq_self, Nat.reduceLT, Nat.reduceEqDiff, reduceIte, ↓reduceIte, vgo, vout, vguard, callOf, vop, ev, cv]
  refine Cl.pu (c_wanting 9) ?_ rfl (by simp only [V.into, intoL, Bool.and_true])
  simp only [gos, eq_self, Nat.reduceLT, reduceIte, ↓reduceIte, vgo, vout, vguard, callOf, ev]
  refine Cl.pu p8 ?_ rfl (by simp only [V.into, intoL, cu_into, Bool.and_true])
  simp only [gos, eq_self, Nat.reduceLT, Nat.reduceEqDiff, reduceIte, ↓reduceIte, vgo, vout, vguard, callOf, vop, ev, cv]
  refine Cl.pu t2 ?_ rfl (by simp only [V.into, intoL, Bool.and_true])
  simp only [gos, eq_self, Nat.reduceLT, reduceIte, ↓reduceIte, vgo, vout, vguard, callOf, ev]
  refine Cl.pu p9 ?_ rfl (by simp only [V.into, intoL, cu_into, Bool.and_true])
  have z0 : ((0 : Int) != 0) = false := rfl
  have z1 : (((3 : Nat) : Int) != 3) = false := rfl
  have z2 : ((7 : Int) != 7) = false := rfl
  have z3 : ((2 : Int) != 2) = false := rfl
  have z4 : ((3 : Int) != 3) = false := rfl
  have z5 : ((10 : Int) != 10) = false := rfl
  have z6 : (((0 : Nat) : Int) != 0) = false := rfl
  have z7 : decide ((2 : Int) = 2) = true := rfl
  have z8 : decide ((11 : Int) = 11) = true := rfl
  have z9 : decide ((10 : Int) = 10) = true := rfl
  have z10 : decide ((7 : Int) = 7) = true := rfl
  have z11 : decide ((3 : Int) = 3) = true := rfl
  have z12 : decide ((1 : Int) = 1) = true := rfl
  have c1 : ([6, 7] != [(6 : Int), 7]) = false := rfl
  have c2 : ([4, 6] != [(4 : Int), 6]) = false := rfl
  have c3 : ([2, 4] != [(2 : Int), 4]) = false := rfl
  have c4 : ([12, 17] != [(12 : Int), 17]) = false := rfl
  have c5 : ([0, 9] != [(0 : Int), 9]) = false := rfl
  have b1 : ((0 : Int) ≤ 1) = True := by decide
  have b2 : ((1 : Int) < ((3 : Nat) : Int)) = True := by decide
  have b3 : ((0 : Int) ≤ 2) = True := by decide
  have b4 : ((2 : Int) < ((3 : Nat) : Int)) = True := by decide
  have b5 : Int.toNat 1 = 1 := rfl
  have b6 : Int.toNat 2 = 2 := rfl
  have b7 : ((0 : Int) < ((3 : Nat) : Int)) = True := by decide
  have b8 : Int.toNat 0 = 0 := rfl
  have b9 : ((0 : Int) ≤ 0) = True := by decide
  simp only [gos, eq_self, Nat.reduceLT, Nat.reduceEqDiff, reduceIte, ↓reduceIte, vgo, vout, vguard, callOf, vop, ev]
  refine Wr.draw (by kernel_rfl) ?_
  simp only [List.append]
  simp only [gos, eq_self, Nat.reduceLT, Nat.reduceEqDiff, Nat.reduceAdd, Nat.reduceMul, Nat.reduceLeDiff, reduceCtorEq, reduceIte, ↓reduceIte, tt, vgoD, voutD, vclsOk, vids, mayWrite, V.ids, vguard, callOf, vop, ev, cv, vbin, vint, isShift, isNilConst, vload, vlen, clsAt, z1, b7, b8, b9, vR, cR, vI, cI]
  refine CD.pu (c_between 6 7) ?_
  simp only [gos, ne_eq, eq_self, Nat.reduceLT, Nat.reduceEqDiff, Nat.reduceAdd, Nat.reduceMul, Nat.reduceLeDiff, reduceCtorEq, reduceIte, ↓reduceIte, tt, vgoD, voutD, vclsOk, vids, mayWrite, V.ids, vguard, callOf, vop, ev, cv, vbin, isNilConst, vload, intsOf, b1, b2, b5]
  refine CD.pu (c_between 4 6) ?_
  simp only [gos, ne_eq, eq_self, Nat.reduceLT, Nat.reduceEqDiff, Nat.reduceAdd, Nat.reduceMul, reduceCtorEq, reduceIte, ↓reduceIte, tt, vgoD, voutD, vclsOk, vids, mayWrite, V.ids, vguard, callOf, vop, ev, cv, vbin, isNilConst, vload, intsOf, b3, b4, b6]
  refine CD.pu (c_between 2 4) ?_
  simp only [gos, ne_eq, eq_self, Nat.reduceLT, Nat.reduceEqDiff, Nat.reduceAdd, Nat.reduceMul, Nat.reduceLeDiff, reduceCtorEq, reduceIte, ↓reduceIte, tt, vgoD, voutD, vclsOk, vids, mayWrite, V.ids, vguard, callOf, vop, ev, cv, vbin, isNilConst, vload, intsOf, b7, b8, b9]
  refine CD.pu (c_between 12 17) ?_
  simp only [gos, ne_eq, eq_self, Nat.reduceLT, Nat.reduceEqDiff, Nat.reduceAdd, Nat.reduceMul, reduceCtorEq, reduceIte, ↓reduceIte, tt, vgoD, voutD, vclsOk, vids, mayWrite, V.ids, vguard, callOf, vop, ev, cv, vbin, isNilConst, vload, intsOf, b3, b4, b6]
  refine CD.pu (c_between 0 9) ?_
  simp only [gos, ne_eq, eq_self, Nat.reduceLT, Nat.reduceEqDiff, Nat.reduceAdd, Nat.reduceMul, Nat.reduceLeDiff, reduceCtorEq, reduceIte, ↓reduceIte, tt, vgoD, voutD, vclsOk, vids, mayWrite, vguard, callOf, vop, ev, cv, vbin, vint, isShift, isNilConst, vfill, intsOf]
  refine CD.pu (c_same [1, 1, 1] [1, 1, 1] (by simp)) ?_ rfl (by simp only [V.into, intoL, Bool.and_true])
  have d1 : decide (([1, 1, 1] : List Int) = [1, 1, 1]) = true := rfl
  have d2 : decide (([1, 2, 3] : List Int) = [1, 2, 3]) = true := rfl
  rw [d1]
  simp only [gos, eq_self, Nat.reduceLT, Nat.reduceEqDiff, Nat.reduceAdd, Nat.reduceMul, Nat.reduceLeDiff, reduceCtorEq, reduceIte, ↓reduceIte, tt, vgoD, voutD, vclsOk, vids, mayWrite, vguard, callOf, vop, ev, cv, vbin, vint, isShift, isNilConst, vfill]
  refine CD.pu (c_same [1, 2, 3] [1, 2, 3] (by simp)) ?_ rfl (by simp only [V.into, intoL, Bool.and_true])
  rw [d2]
  simp only [gos, eq_self, Nat.reduceLT, Nat.reduceEqDiff, Nat.reduceAdd, Nat.reduceMul, Nat.reduceLeDiff, reduceCtorEq, reduceIte, ↓reduceIte, tt, vgo, vout, vgoD, voutD, vclsOk, vids, mayWrite, vguard, callOf, vop, ev, cv, vbin, vint, isShift, isNilConst, vlen, newRow, vfill, z6]
  refine Wr.exd tabOk mixed (tag := tg0) (cls := [cP, cP, cP, cP, cP, cP, cP, cP, cP, cP, cP, cP, cP, cP, cP, cP, cP, cP, cP, cP, cP, cP, cP, cP, cP, cP, cP, cP, cP, cP, cP, cP, cP, cP, cP, cP, cP, cP, cP, cP, cP]) (ρ' := [(20, .rop [vi 11, .ro 3 [vi 3, vi 4, vi 0]])]) (h' := []) ?_ ?_
  · refine Wk.trans (Wk.env (ρ' := [(20, .ptr 20 0 0)]) (by simp [subE, Env.get])) ?_
    refine Wk.trans (Wk.freeze 20 rfl rfl (by simp only [V.into, intoL, Bool.and_true]) rfl) ?_
    simp only [frzE, frzH, V.frz, gos, eq_self, reduceIte, ↓reduceIte]
    exact Wk.env (by simp [subE, Env.get])
  refine Wr.draw (by kernel_rfl) ?_
  simp only
  simp only [gos, eq_self, Nat.reduceLT, Nat.reduceAdd, reduceIte, ↓reduceIte, vgoD, voutD, vguard, callOf, ev, cv, clsAt]
  refine CD.pu t1 ?_ rfl (by simp only [V.into, intoL, Bool.and_true])
  simp only [gos, eq_self, Nat.reduceLT, Nat.reduceEqDiff, Nat.reduceAdd, reduceCtorEq, reduceIte, ↓reduceIte, tt, vgoD, voutD, vclsOk, vids, mayWrite, V.ids, vguard, callOf, vop, ev, vload]
  refine CD.pu q1 ?_ rfl (by first | rfl | simp only [V.into, intoL, cB_into, vB_into, cI_into, cR_into, cD_into, cS_into, vS_into, vI_into, vR_into, vD_into, cu_into, Bool.true_and, Bool.and_true, Tr2.cs])
  simp only [gos, eq_self, Nat.reduceLT, reduceIte, ↓reduceIte, vgoD, voutD, vclsOk, vids, mayWrite, vguard, callOf, vop, ev, cv]
  refine CD.pu t3 ?_ rfl (by simp only [V.into, intoL, Bool.and_true])
  simp only [gos, eq_self, Nat.reduceLT, Nat.reduceEqDiff, Nat.reduceAdd, reduceCtorEq, reduceIte, ↓reduceIte, tt, vgoD, voutD, vclsOk, vids, mayWrite, V.ids, vguard, callOf, vop, ev, vload]
  refine CD.pu q2 ?_ rfl (by first | rfl | simp only [V.into, intoL, cB_into, vB_into, cI_into, cR_into, cD_into, cS_into, vS_into, vI_into, vR_into, vD_into, cu_into, Bool.true_and, Bool.and_true, Tr2.cs])
  simp only [gos, eq_self, Nat.reduceLT, Nat.reduceEqDiff, reduceIte, ↓reduceIte, vgoD, voutD, vclsOk, vids, mayWrite, vguard, callOf, vop, ev, cv]
  refine CD.pu t0 ?_ rfl (by simp only [V.into, intoL, Bool.and_true])
  simp only [gos, eq_self, Nat.reduceLT, Nat.reduceEqDiff, Nat.reduceAdd, Nat.reduceMul, Nat.reduceLeDiff, reduceCtorEq, reduceIte, ↓reduceIte, tt, vgoD, voutD, vclsOk, vids, mayWrite, vguard, callOf, vop, ev, cv, vfill]
  refine CD.pu q3 ?_ rfl (by first | rfl | simp only [V.into, intoL, cB_into, vB_into, cI_into, cR_into, cD_into, cS_into, vS_into, vI_into, vR_into, vD_into, cu_into, Bool.true_and, Bool.and_true, Tr2.cs])
  simp only [gos, eq_self, Nat.reduceLT, Nat.reduceEqDiff, reduceIte, ↓reduceIte, vgoD, voutD, vclsOk, vids, mayWrite, vguard, callOf, vop, ev, cv]
  refine CD.pu t0 ?_ rfl (by simp only [V.into, intoL, Bool.and_true])
  simp only [gos, eq_self, Nat.reduceLT, Nat.reduceEqDiff, Nat.reduceAdd, Nat.reduceMul, Nat.reduceLeDiff, reduceCtorEq, reduceIte, ↓reduceIte, tt, vgoD, voutD, vclsOk, vids, mayWrite, vguard, callOf, vop, ev, cv, vfill]
  refine CD.pu q4 ?_ rfl (by first | rfl | simp only [V.into, intoL, cB_into, vB_into, cI_into, cR_into, cD_into, cS_into, vS_into, vI_into, vR_into, vD_into, cu_into, Bool.true_and, Bool.and_true, Tr2.cs])
  simp only [gos, eq_self, Nat.reduceLT, Nat.reduceEqDiff, reduceIte, ↓reduceIte, vgoD, voutD, vclsOk, vids, mayWrite, vguard, callOf, vop, ev, cv]
  refine CD.pu t0 ?_ rfl (by simp only [V.into, intoL, Bool.and_true])
  simp only [gos, eq_self, Nat.reduceLT, Nat.reduceEqDiff, Nat.reduceAdd, Nat.reduceMul, Nat.reduceLeDiff, reduceCtorEq, reduceIte, ↓reduceIte, tt, vgoD, voutD, vclsOk, vids, mayWrite, vguard, callOf, vop, ev, cv, vfill]
  refine CD.pu q5 ?_ rfl (by first | rfl | simp only [V.into, intoL, cB_into, vB_into, cI_into, cR_into, cD_into, cS_into, vS_into, vI_into, vR_into, vD_into, cu_into, Bool.true_and, Bool.and_true, Tr2.cs])
  simp only [gos, eq_self, Nat.reduceLT, Nat.reduceEqDiff, reduceIte, ↓reduceIte, vgoD, voutD, vclsOk, vids, mayWrite, vguard, callOf, vop, ev, cv]
  refine CD.pu t0 ?_ rfl (by simp only [V.into, intoL, Bool.and_true])
  simp only [gos, eq_self, Nat.reduceLT, Nat.reduceEqDiff, Nat.reduceAdd, Nat.reduceMul, Nat.reduceLeDiff, reduceCtorEq, reduceIte, ↓reduceIte, tt, vgoD, voutD, vclsOk, vids, mayWrite, vguard, callOf, vop, ev, cv, vfill]
  refine CD.pu q6 ?_ rfl (by first | rfl | simp only [V.into, intoL, cB_into, vB_into, cI_into, cR_into, cD_into, cS_into, vS_into, vI_into, vR_into, vD_into, cu_into, Bool.true_and, Bool.and_true, Tr2.cs])
  simp only [gos, eq_self, Nat.reduceLT, Nat.reduceEqDiff, reduceIte, ↓reduceIte, vgoD, voutD, vclsOk, vids, mayWrite, vguard, callOf, vop, ev, cv]
  refine CD.pu t0 ?_ rfl (by simp only [V.into, intoL, Bool.and_true])
  simp only [gos, eq_self, Nat.reduceLT, Nat.reduceEqDiff, Nat.reduceAdd, Nat.reduceMul, Nat.reduceLeDiff, reduceCtorEq, reduceIte, ↓reduceIte, tt, vgoD, voutD, vclsOk, vids, mayWrite, vguard, callOf, vop, ev, cv, vfill]
  refine CD.pu q7 ?_ rfl (by first | rfl | simp only [V.into, intoL, cB_into, vB_into, cI_into, cR_into, cD_into, cS_into, vS_into, vI_into, vR_into, vD_into, cu_into, Bool.true_and, Bool.and_true, Tr2.cs])
  simp only [gos, eq_self, Nat.reduceLT, Nat.reduceEqDiff, reduceIte, ↓reduceIte, vgoD, voutD, vclsOk, vids, mayWrite, vguard, callOf, vop, ev, cv]
  refine CD.pu t3 ?_ rfl (by simp only [V.into, intoL, Bool.and_true])
  simp only [gos, eq_self, Nat.reduceLT, Nat.reduceEqDiff, Nat.reduceAdd, Nat.reduceMul, Nat.reduceLeDiff, reduceCtorEq, reduceIte, ↓reduceIte, tt, vgoD, voutD, vclsOk, vids, mayWrite, vguard, callOf, vop, ev, cv, vfill]
  refine CD.pu q8 ?_ rfl (by first | rfl | simp only [V.into, intoL, cB_into, vB_into, cI_into, cR_into, cD_into, cS_into, vS_into, vI_into, vR_into, vD_into, cu_into, Bool.true_and, Bool.and_true, Tr2.cs])
  simp only [gos, eq_self, Nat.reduceLT, Nat.reduceEqDiff, reduceIte, ↓reduceIte, vgo, vout, vgoD, voutD, vclsOk, vids, mayWrite, vguard, callOf, vop, ev, cv]
  refine Cl.pu t0 ?_ rfl (by simp only [V.into, intoL, Bool.and_true])
  simp only [gos, eq_self, Nat.reduceLT, Nat.reduceEqDiff, Nat.reduceAdd, Nat.reduceMul, Nat.reduceLeDiff, reduceCtorEq, reduceIte, ↓reduceIte, tt, vgo, vout, vguard, callOf, vop, ev, cv, vfill]
  refine Cl.pu v1 ?_ rfl (by first | rfl | simp only [V.into, intoL, cB_into, vB_into, cI_into, cR_into, cD_into, cS_into, vS_into, vI_into, vR_into, vD_into, cu_into, Bool.true_and, Bool.and_true, Tr2.cs])
  simp only [gos, eq_self, Nat.reduceLT, Nat.reduceEqDiff, reduceIte, ↓reduceIte, vgo, vout, vguard, callOf, vop, ev, cv]
  refine Cl.pu t3 ?_ rfl (by simp only [V.into, intoL, Bool.and_true])
  simp only [gos, eq_self, Nat.reduceLT, Nat.reduceEqDiff, Nat.reduceAdd, Nat.reduceMul, Nat.reduceLeDiff, reduceCtorEq, reduceIte, ↓reduceIte, tt, vgo, vout, vguard, callOf, vop, ev, cv, vfill]
  refine Cl.pu v2 ?_ rfl (by first | rfl | simp only [V.into, intoL, cB_into, vB_into, cI_into, cR_into, cD_into, cS_into, vS_into, vI_into, vR_into, vD_into, cu_into, Bool.true_and, Bool.and_true, Tr2.cs])
  simp only [gos, eq_self, Nat.reduceLT, Nat.reduceEqDiff, reduceIte, ↓reduceIte, vgo, vout, vguard, callOf, vop, ev, cv]
  refine Cl.pu t3 ?_ rfl (by simp only [V.into, intoL, Bool.and_true])
  simp only [gos, eq_self, Nat.reduceLT, Nat.reduceEqDiff, Nat.reduceAdd, Nat.reduceMul, Nat.reduceLeDiff, reduceCtorEq, reduceIte, ↓reduceIte, tt, vgo, vout, vguard, callOf, vop, ev, cv, vfill]
  refine Cl.pu v3 ?_ rfl (by first | rfl | simp only [V.into, intoL, cB_into, vB_into, cI_into, cR_into, cD_into, cS_into, vS_into, vI_into, vR_into, vD_into, cu_into, Bool.true_and, Bool.and_true, Tr2.cs])
  simp only [gos, eq_self, Nat.reduceLT, Nat.reduceEqDiff, reduceIte, ↓reduceIte, vgo, vout, vguard, callOf, vop, ev, cv]
  refine Cl.pu t3 ?_ rfl (by simp only [V.into, intoL, Bool.and_true])
  simp only [gos, eq_self, Nat.reduceLT, reduceIte, ↓reduceIte, vgo, vout, vguard, callOf, ev, cv]
  refine Cl.pu v4 ?_ rfl (by first | rfl | simp only [V.into, intoL, cB_into, vB_into, cI_into, cR_into, cD_into, cS_into, vS_into, vI_into, vR_into, vD_into, cu_into, Bool.true_and, Bool.and_true, Tr2.cs])
  simp only [gos, eq_self, Nat.reduceLT, Nat.reduceEqDiff, reduceIte, ↓reduceIte, vgo, vout, vguard, callOf, vop, ev, cv]
  refine Cl.pu t3 ?_ rfl (by simp only [V.into, intoL, Bool.and_true])
  simp only [gos, eq_self, Nat.reduceLT, reduceIte, ↓reduceIte, vgo, vout, vguard, callOf, ev]
  refine Cl.pu v5 ?_ rfl (by first | rfl | simp only [V.into, intoL, cB_into, vB_into, cI_into, cR_into, cD_into, cS_into, vS_into, vI_into, vR_into, vD_into, cu_into, Bool.true_and, Bool.and_true, Tr2.cs])
  simp only [gos, eq_self, Nat.reduceLT, Nat.reduceEqDiff, reduceIte, ↓reduceIte, vgo, vout, vguard, callOf, vop, ev, cv]
  refine Cl.pu (c_wanting 20) ?_ rfl (by simp only [V.into, intoL, Bool.and_true])
  simp only [gos, eq_self, Nat.reduceLT, reduceIte, ↓reduceIte, vgo, vout, vguard, callOf, ev]
  refine Cl.pu v6 ?_ rfl (by first | rfl | simp only [V.into, intoL, cB_into, vB_into, cI_into, cR_into, cD_into, cS_into, vS_into, vI_into, vR_into, vD_into, cu_into, Bool.true_and, Bool.and_true, Tr2.cs])
  simp only [gos, eq_self, Nat.reduceLT, Nat.reduceEqDiff, reduceIte, ↓reduceIte, vgo, vout, vguard, callOf, vop, ev, cv]
  refine Cl.pu t2 ?_ rfl (by simp only [V.into, intoL, Bool.and_true])
  simp only [gos, eq_self, Nat.reduceLT, reduceIte, ↓reduceIte, vgo, vout, vguard, callOf, ev]
  refine Cl.pu v7 ?_ rfl (by first | rfl | simp only [V.into, intoL, cB_into, vB_into, cI_into, cR_into, cD_into, cS_into, vS_into, vI_into, vR_into, vD_into, cu_into, Bool.true_and, Bool.and_true, Tr2.cs])
  simp only [gos, eq_self, Nat.reduceLT, Nat.reduceEqDiff, reduceIte, ↓reduceIte, vgo, vout, vguard, callOf, vop, ev, cv]
  refine Cl.pu t3 ?_ rfl (by simp only [V.into, intoL, Bool.and_true])
  simp only [gos, eq_self, Nat.reduceLT, reduceIte, ↓reduceIte, vgo, vout, vguard, callOf, ev]
  refine Cl.pu v8 ?_ rfl (by first | rfl | simp only [V.into, intoL, cB_into, vB_into, cI_into, cR_into, cD_into, cS_into, vS_into, vI_into, vR_into, vD_into, cu_into, Bool.true_and, Bool.and_true, Tr2.cs])
  have nCo : NewB Try.prog (.fn 75 [] []) [vi 0] (.agg (exCv (.own 11 0 0 1 3) (vI [3, 2, 2]) (vR [⟨2, 3⟩, ⟨4, 4⟩, ⟨0, 2⟩]) (vD (exR.take 0)))) 11 ⟨0, .row [vi 2, vi 1, vi 0]⟩ := n_threeCo 0 (by omega)
  have nLo : NewB Try.prog (.fn 75 [] []) [vi 0] (.agg (exCv (vI [2, 1, 0]) (vI [3, 2, 2]) (.own 17 0 0 2 3) (vD (exR.take 0)))) 17 ⟨0, .row [vi 2, vi 3, vi 4, vi 4, vi 0, vi 2]⟩ := n_threeLo 0 (by omega)
  have nRd : NewB Try.prog (.fn 75 [] []) [vi 1] (.agg (exCv (vI [2, 1, 0]) (vI [3, 2, 2]) (vR [⟨2, 3⟩, ⟨4, 4⟩, ⟨0, 2⟩]) (.own 10 0 0 3 1))) 10 ⟨0, .row [vi 0, vi 6, vi 6, vi 2, vi 3, vi 3, vi 0, vi 7, vi 7]⟩ := n_threeRd 1 (by omega)
  simp only [gos, eq_self, Nat.reduceLT, Nat.reduceEqDiff, reduceIte, ↓reduceIte, vgo, vout, vguard, callOf, vop, ev]
  refine Wr.at tabOk 9 ?_
  simp only [gos, eq_self, Nat.reduceLT, reduceIte, ↓reduceIte, vgo, vout, vguard, callOf, ev, cv]
  refine Cl.pu t0 ?_ rfl (by simp only [V.into, intoL, Bool.and_true])
  simp only [gos, eq_self, Nat.reduceLT, reduceIte, ↓reduceIte, vgo, vout, vguard, callOf, ev, cv]
  refine Cl.pu t0 ?_ rfl (by simp only [V.into, intoL, Bool.and_true])
  simp only [gos, eq_self, Nat.reduceLT, reduceIte, ↓reduceIte, vgo, vout, vguard, callOf, ev, cv]
  refine Cl.pu t0 ?_ rfl (by simp only [V.into, intoL, Bool.and_true])
  simp only [gos, eq_self, Nat.reduceLT, reduceIte, ↓reduceIte, vgo, vout, vguard, callOf, ev, cv]
  refine Cl.pu t0 ?_ rfl (by simp only [V.into, intoL, Bool.and_true])
  simp only [gos, eq_self, Nat.reduceLT, reduceIte, ↓reduceIte, vgo, vout, vguard, callOf, ev, cv]
  refine Cl.newN nCo rfl ?_
  simp only [gos, eq_self, Nat.reduceLT, reduceIte, ↓reduceIte, vgo, vout, vguard, callOf, ev, cv]
  refine Cl.pu t0 ?_ rfl (by simp only [V.into, intoL, Bool.and_true])
  simp only [gos, eq_self, Nat.reduceLT, reduceIte, ↓reduceIte, vgo, vout, vguard, callOf, ev, cv]
  refine Cl.pu t0 ?_ rfl (by simp only [V.into, intoL, Bool.and_true])
  simp only [gos, eq_self, Nat.reduceLT, reduceIte, ↓reduceIte, vgo, vout, vguard, callOf, ev, cv]
  refine Cl.newN nLo rfl ?_
  simp only [gos, eq_self, Nat.reduceLT, Nat.reduceEqDiff, reduceIte, ↓reduceIte, vgo, vout, vguard, callOf, ev, cv]
  refine Cl.newN nRd rfl ?_
  simp only [gos, Nat.reduceEqDiff, reduceIte, ↓reduceIte]
  refine Wa.mk (ρ2 := [(3, vi 2), (5, vi 2), (7, vi 11), (9, vi 2), (11, vi 11), (13, vi 10), (15, vi 7), (17, vi 11), (275, .agg (exC 0).cs), (276, .agg (exC 0).cs), (277, .agg (exC 0).cs), (278, .agg (exC 0).cs), (279, .agg (exCv (.own 11 0 0 1 3) (vI [3, 2, 2]) (vR [⟨2, 3⟩, ⟨4, 4⟩, ⟨0, 2⟩]) (vD (exR.take 0)))), (280, .agg (exC 0).cs), (281, .agg (exC 0).cs), (282, .agg (exCv (vI [2, 1, 0]) (vI [3, 2, 2]) (.own 18 0 0 2 3) (vD (exR.take 0)))), (283, .agg (exCv (vI [2, 1, 0]) (vI [3, 2, 2]) (vR [⟨2, 3⟩, ⟨4, 4⟩, ⟨0, 2⟩]) (.own 10 0 0 3 1)))]) (h2 := [(11, ⟨0, .row [vi 2, vi 1, vi 0]⟩), (18, ⟨0, .row [vi 2, vi 3, vi 4, vi 4, vi 0, vi 2]⟩), (10, ⟨0, .row [vi 0, vi 6, vi 6, vi 2, vi 3, vi 3, vi 0, vi 7, vi 7]⟩)]) (Wk.trans (Wk.env (ρ' := [(3, vi 2), (5, vi 2), (7, vi 11), (9, vi 2), (11, vi 11), (13, vi 10), (15, vi 7), (17, vi 11), (275, .agg (exC 0).cs), (276, .agg (exC 0).cs), (277, .agg (exC 0).cs), (278, .agg (exC 0).cs), (279, .agg (exCv (.own 11 0 0 1 3) (vI [3, 2, 2]) (vR [⟨2, 3⟩, ⟨4, 4⟩, ⟨0, 2⟩]) (vD (exR.take 0)))), (280, .agg (exC 0).cs), (281, .agg (exC 0).cs), (282, .agg (exCv (vI [2, 1, 0]) (vI [3, 2, 2]) (.own 17 0 0 2 3) (vD (exR.take 0)))), (283, .agg (exCv (vI [2, 1, 0]) (vI [3, 2, 2]) (vR [⟨2, 3⟩, ⟨4, 4⟩, ⟨0, 2⟩]) (.own 10 0 0 3 1)))]) (by simp [subE, Env.get])) (Wk.trans (Wk.ren 17 18 rfl rfl) ?_)) ?_
  · simp only [renE, renH, V.ren, renL, Blk.ren, sw, cu_ren, exCv, vI, vR, vD, cI_ren, cR_ren, cD_ren, gos, eq_self, Nat.reduceEqDiff, Nat.reduceAdd, reduceIte, ↓reduceIte]
    exact Wk.refl
  simp only [gos, eq_self, Nat.reduceLT, reduceIte, ↓reduceIte, vgo, vout, vguard, callOf, ev, cv]
  refine Cl.newN nLo rfl ?_
  have e0 : (exC 0).cs = [vi 2, vi 7, vi 60, vi 4, vi 3, vI [2, 1, 0], vI [3, 2, 2], vi 10, vi 12, vR [⟨2, 3⟩, ⟨4, 4⟩, ⟨0, 2⟩], vD []] := rfl
  have b10 : ((2 : Int) ≤ ((3 : Nat) : Int)) = True := by decide
  have b11 : ((0 : Int) < ((1 : Nat) : Int)) = True := by decide
  have k2 : vI [3, 2, 2] = .ro 3 [vi 3, vi 2, vi 2] := rfl
  simp only [gos, eq_self, Nat.reduceLT, Nat.reduceEqDiff, Nat.reduceAdd, Nat.reduceMul, Nat.reduceLeDiff, reduceCtorEq, reduceIte, ↓reduceIte, tt, vgo, vout, vguard, callOf, vop, ev, cv, vload, newRow, vslice, e0, exCv, k2, b3, b6, b7, b8, b9, b10]
  refine Cl.pu (c_between 0 100) ?_
  simp only [gos, eq_self, Nat.reduceLT, Nat.reduceEqDiff, Nat.reduceAdd, Nat.reduceLeDiff, reduceCtorEq, reduceIte, ↓reduceIte, tt, vgo, vout, vguard, callOf, vop, ev]
  refine Wr.draw (by kernel_rfl) ?_
  simp only [gos, eq_self, Nat.reduceLT, Nat.reduceEqDiff, Nat.reduceAdd, reduceCtorEq, reduceIte, ↓reduceIte, tt, vgoD, voutD, vclsOk, vids, mayWrite, V.ids, vguard, callOf, vop, ev, cv, vload, clsAt]
  refine CD.pu (c_between 2 1) ?_
  simp only [gos, eq_self, Nat.reduceLT, Nat.reduceEqDiff, Nat.reduceAdd, Nat.reduceMul, Nat.reduceLeDiff, reduceCtorEq, reduceIte, ↓reduceIte, tt, vgo, vout, vgoD, voutD, vclsOk, vids, mayWrite, V.ids, vguard, callOf, vop, ev, cv, vload, b1, b2, b5, b8, b9, b11]
  refine Wr.draw (by kernel_rfl) ?_
  simp only [gos, eq_self, Nat.reduceLT, Nat.reduceEqDiff, Nat.reduceAdd, reduceCtorEq, reduceIte, ↓reduceIte, tt, vgoD, voutD, vclsOk, vids, mayWrite, V.ids, vguard, callOf, vop, ev, cv, vload, clsAt]
  refine CD.pu (c_between 0 99) ?_
  simp only [gos, eq_self, Nat.reduceLT, reduceIte, ↓reduceIte, vgoD, voutD, vguard, callOf, ev, cv]
  refine CD.pu (c_between 0 9) ?_
  simp only [gos, eq_self, Nat.reduceLT, Nat.reduceEqDiff, Nat.reduceAdd, Nat.reduceMul, Nat.reduceLeDiff, reduceCtorEq, reduceIte, ↓reduceIte, tt, vgoD, voutD, vclsOk, vids, mayWrite, V.ids, vguard, callOf, vop, ev, cv, b7, b8, b9]
  refine Wr.at tabOk 0 ?_
  simp only [gos]
  let y21 : Cu := { exC 0 with last := 5 }
  let y22 : Cu := { exC 0 with start := 61 }
  let y23 : Cu := { exC 0 with per := 0 }
  let y24 : Cu := { exC 0 with shovels := 4 }
  let y25 : Cu := { exC 0 with coal := [4, 1, 0] }
  let y26 : Cu := { exC 0 with want := [3, 2] }
  let y27 : Cu := { exC 0 with heat := ⟨0, 100⟩ }
  let y28 : Cu := { exC 0 with loss := [⟨2, 3⟩, ⟨2, 1⟩, ⟨0, 2⟩] }
  let y29 : Cu := { exC 0 with readings := [⟨3, ⟨6, 6⟩⟩] }
  let y30 : Cu := { exC 0 with heat := ⟨0, 99⟩, loss := [⟨0, 9⟩, ⟨4, 4⟩, ⟨0, 2⟩] }
  refine Wa.mk (ρ2 := [(3, vi 2), (5, vi 2), (7, vi 11), (9, vi 2), (11, vi 11), (13, vi 10), (15, vi 7), (17, vi 11), (21, .rop y21.cs), (22, .rop y22.cs), (23, .rop y23.cs), (24, .rop y24.cs), (25, .rop y25.cs), (26, .rop y26.cs), (27, .rop y27.cs), (28, .rop y28.cs), (29, .rop y29.cs), (30, .rop y30.cs)]) (h2 := []) ?_ ?_
  · refine Wk.trans (Wk.env (ρ' := [(3, vi 2), (5, vi 2), (7, vi 11), (9, vi 2), (11, vi 11), (13, vi 10), (15, vi 7), (17, vi 11), (21, .ptr 21 0 0), (22, .ptr 22 0 0), (23, .ptr 23 0 0), (24, .ptr 24 0 0), (25, .ptr 25 0 0), (26, .ptr 26 0 0), (27, .ptr 27 0 0), (28, .ptr 28 0 0), (29, .ptr 29 0 0), (30, .ptr 30 0 0)]) (by simp [subE, Env.get])) ?_
    refine Wk.trans (Wk.freeze 11 rfl rfl (by simp only [V.into, intoL, Bool.and_true]) rfl) ?_
    simp only [frzE, frzH, Blk.frz, V.frz, frzL, cI_frz, cR_frz, cD_frz, vI, vR, vD, gos, eq_self, Nat.reduceEqDiff, Nat.reduceAdd, Nat.reduceMul, reduceIte, ↓reduceIte]
    refine Wk.trans (Wk.freeze 18 rfl rfl (by simp only [V.into, intoL, Bool.and_true]) rfl) ?_
    simp only [frzE, frzH, Blk.frz, V.frz, frzL, cI_frz, cR_frz, cD_frz, gos, eq_self, Nat.reduceEqDiff, Nat.reduceMul, reduceIte, ↓reduceIte]
    refine Wk.trans (Wk.freeze 10 rfl rfl (by simp only [V.into, intoL, Bool.and_true]) rfl) ?_
    simp only [frzE, frzH, Blk.frz, V.frz, frzL, cI_frz, cR_frz, cD_frz, gos, eq_self, Nat.reduceEqDiff, Nat.reduceMul, reduceIte, ↓reduceIte]
    refine Wk.trans (Wk.freeze 17 rfl rfl (by simp only [V.into, intoL, Bool.and_true]) rfl) ?_
    simp only [frzE, frzH, Blk.frz, V.frz, frzL, cI_frz, cR_frz, cD_frz, gos, eq_self, Nat.reduceEqDiff, Nat.reduceMul, reduceIte, ↓reduceIte]
    refine Wk.trans (Wk.freeze 21 rfl rfl (by simp only [V.into, intoL, cI_into, cR_into, cD_into, Bool.and_true]) rfl) ?_
    simp only [frzE, frzH, Blk.frz, V.frz, frzL, cI_frz, cR_frz, cD_frz, gos, eq_self, Nat.reduceEqDiff, reduceIte, ↓reduceIte]
    refine Wk.trans (Wk.freeze 22 rfl rfl (by simp only [V.into, intoL, cI_into, cR_into, cD_into, Bool.and_true]) rfl) ?_
    simp only [frzE, frzH, Blk.frz, V.frz, frzL, cI_frz, cR_frz, cD_frz, gos, eq_self, Nat.reduceEqDiff, reduceIte, ↓reduceIte]
    refine Wk.trans (Wk.freeze 23 rfl rfl (by simp only [V.into, intoL, cI_into, cR_into, cD_into, Bool.and_true]) rfl) ?_
    simp only [frzE, frzH, Blk.frz, V.frz, frzL, cI_frz, cR_frz, cD_frz, gos, eq_self, Nat.reduceEqDiff, reduceIte, ↓reduceIte]
    refine Wk.trans (Wk.freeze 24 rfl rfl (by simp only [V.into, intoL, cI_into, cR_into, cD_into, Bool.and_true]) rfl) ?_
    simp only [frzE, frzH, Blk.frz, V.frz, frzL, cI_frz, cR_frz, cD_frz, gos, eq_self, Nat.reduceEqDiff, reduceIte, ↓reduceIte]
    refine Wk.trans (Wk.freeze 25 rfl rfl (by simp only [V.into, intoL, cR_into, cD_into, Bool.and_true]) rfl) ?_
    simp only [frzE, frzH, Blk.frz, V.frz, frzL, cI_frz, cR_frz, cD_frz, gos, eq_self, Nat.reduceEqDiff, reduceIte, ↓reduceIte]
    refine Wk.trans (Wk.freeze 26 rfl rfl (by simp only [V.into, intoL, cI_into, cR_into, cD_into, Bool.and_true]) rfl) ?_
    simp only [frzE, frzH, Blk.frz, V.frz, frzL, cI_frz, cR_frz, cD_frz, gos, eq_self, Nat.reduceEqDiff, reduceIte, ↓reduceIte]
    refine Wk.trans (Wk.freeze 27 rfl rfl (by simp only [V.into, intoL, cI_into, cR_into, cD_into, Bool.and_true]) rfl) ?_
    simp only [frzE, frzH, Blk.frz, V.frz, frzL, cI_frz, cR_frz, cD_frz, gos, eq_self, Nat.reduceEqDiff, reduceIte, ↓reduceIte]
    refine Wk.trans (Wk.freeze 28 rfl rfl (by simp only [V.into, intoL, cI_into, cD_into, Bool.and_true]) rfl) ?_
    simp only [frzE, frzH, Blk.frz, V.frz, frzL, cI_frz, cR_frz, cD_frz, gos, eq_self, Nat.reduceEqDiff, reduceIte, ↓reduceIte]
    refine Wk.trans (Wk.freeze 29 rfl rfl (by simp only [V.into, intoL, cI_into, cR_into, Bool.and_true]) rfl) ?_
    simp only [frzE, frzH, Blk.frz, V.frz, frzL, cI_frz, cR_frz, cD_frz, gos, eq_self, Nat.reduceEqDiff, reduceIte, ↓reduceIte]
    refine Wk.trans (Wk.freeze 30 rfl rfl (by simp only [V.into, intoL, cI_into, cD_into, Bool.and_true]) rfl) ?_
    simp only [frzE, frzH, V.frz, frzL, cI_frz, cR_frz, cD_frz, gos, eq_self, reduceIte, ↓reduceIte]
    exact Wk.env (by simp [subE, Env.get, Cu.cs, vI, vR, vD, cI, cR, cD, exC, exR, y21, y22, y23, y24, y25, y26, y27, y28, y29, y30])
  have wf21 : y21.wf := ⟨⟨by simp [y21], by simp [y21]⟩, by simp [y21, exC], by simp [y21, exC], by simp [y21, exC], by simp [y21, exC]⟩
  have ck21 := c_Check y21 wf21
  rw [show sCheck y21 = 3 by decide +kernel] at ck21
  have wf22 : y22.wf := ⟨⟨by simp [y22, exC], by simp [y22, exC]⟩, by simp [y22, exC], by simp [y22, exC], by simp [y22, exC], by simp [y22, exC]⟩
  have ck22 := c_Check y22 wf22
  rw [show sCheck y22 = 1 by decide +kernel] at ck22
  have wf23 : y23.wf := ⟨⟨by simp [y23, exC], by simp [y23, exC]⟩, by simp [y23, exC], by simp [y23, exC], by simp [y23, exC], by simp [y23, exC]⟩
  have ck23 := c_Check y23 wf23
  rw [show sCheck y23 = 1 by decide +kernel] at ck23
  have wf24 : y24.wf := ⟨⟨by simp [y24, exC], by simp [y24, exC]⟩, by simp [y24, exC], by simp [y24, exC], by simp [y24, exC], by simp [y24, exC]⟩
  have ck24 := c_Check y24 wf24
  rw [show sCheck y24 = 1 by decide +kernel] at ck24
  have wf25 : y25.wf := ⟨⟨by simp [y25, exC], by simp [y25, exC]⟩, by simp [y25], by simp [y25, exC], by simp [y25, exC], by simp [y25, exC]⟩
  have ck25 := c_Check y25 wf25
  rw [show sCheck y25 = 1 by decide +kernel] at ck25
  have wf26 : y26.wf := ⟨⟨by simp [y26, exC], by simp [y26, exC]⟩, by simp [y26, exC], by simp [y26], by simp [y26, exC], by simp [y26, exC]⟩
  have ck26 := c_Check y26 wf26
  rw [show sCheck y26 = 1 by decide +kernel] at ck26
  have wf27 : y27.wf := ⟨⟨by simp [y27, exC], by simp [y27, exC]⟩, by simp [y27, exC], by simp [y27, exC], by simp [y27, exC], by simp [y27, exC]⟩
  have ck27 := c_Check y27 wf27
  rw [show sCheck y27 = 1 by decide +kernel] at ck27
  have wf28 : y28.wf := ⟨⟨by simp [y28, exC], by simp [y28, exC]⟩, by simp [y28, exC], by simp [y28, exC], by simp [y28], by simp [y28, exC]⟩
  have ck28 := c_Check y28 wf28
  rw [show sCheck y28 = 1 by decide +kernel] at ck28
  have wf29 : y29.wf := ⟨⟨by simp [y29, exC], by simp [y29, exC]⟩, by simp [y29, exC], by simp [y29, exC], by simp [y29, exC], by simp [y29]⟩
  have ck29 := c_Check y29 wf29
  rw [show sCheck y29 = 1 by decide +kernel] at ck29
  have wf30 : y30.wf := ⟨⟨by simp [y30, exC], by simp [y30, exC]⟩, by simp [y30, exC], by simp [y30, exC], by simp [y30], by simp [y30, exC]⟩
  have ck30 := c_Check y30 wf30
  rw [show sCheck y30 = 3 by decide +kernel] at ck30
  let yz : Cu := ⟨0, 0, 0, 0, 0, [], [], ⟨0, 0⟩, [], []⟩
  have wfz : yz.wf := ⟨⟨by simp [yz], by simp [yz]⟩, by simp [yz], by simp [yz], by simp [yz], by simp [yz]⟩
  have ckz := c_Check yz wfz
  rw [show sCheck yz = 1 by decide +kernel] at ckz
  simp only [gos, eq_self, Nat.reduceLT, Nat.reduceEqDiff, reduceCtorEq, reduceIte, ↓reduceIte, tt, vgo, vout, vguard, callOf, vop, ev, cv, vbin, vint, isShift, isNilConst, vload]
  try simp only [List.append]
  have hn21 : y21.cs.length = 11 := rfl
  have ht21 : y21.cs.take 11 = y21.cs := rfl
  have hn22 : y22.cs.length = 11 := rfl
  have ht22 : y22.cs.take 11 = y22.cs := rfl
  have hn23 : y23.cs.length = 11 := rfl
  have ht23 : y23.cs.take 11 = y23.cs := rfl
  have hn24 : y24.cs.length = 11 := rfl
  have ht24 : y24.cs.take 11 = y24.cs := rfl
  have hn25 : y25.cs.length = 11 := rfl
  have ht25 : y25.cs.take 11 = y25.cs := rfl
  have hn26 : y26.cs.length = 11 := rfl
  have ht26 : y26.cs.take 11 = y26.cs := rfl
  have hn27 : y27.cs.length = 11 := rfl
  have ht27 : y27.cs.take 11 = y27.cs := rfl
  have hn28 : y28.cs.length = 11 := rfl
  have ht28 : y28.cs.take 11 = y28.cs := rfl
  have hn29 : y29.cs.length = 11 := rfl
  have ht29 : y29.cs.take 11 = y29.cs := rfl
  have hn30 : y30.cs.length = 11 := rfl
  have ht30 : y30.cs.take 11 = y30.cs := rfl
  try simp only [gos, if_true, if_false, ne_eq, eq_self, Nat.reduceLT, Nat.reduceEqDiff, Nat.reduceAdd, Nat.reduceMul, Nat.reduceLeDiff, Nat.reduceBEq, reduceCtorEq, reduceIte, Array.toList, ↓reduceIte, tt, vgo, vout, vgoD, voutD, vclsOk, vids, mayWrite, V.ids, V.mids, vguard, callOf, vop, ev, cv, vbin, vint, isShift, isNilConst, vnil, isNilSlice, vload, vlen, newRow, vfill, vslice, entOf, vappend, srcOf, vcopy, vlookup, vupdate, mapOk, keyOf, intsOf, clsAt, z7, z8, z9, z10, z11, z12, hn21, ht21]
  refine Cl.pu ck21 ?_ rfl (by simp only [V.into, intoL, cu_into, Bool.and_true])
  try simp only [gos, eq_self, Nat.reduceLT, Nat.reduceEqDiff, reduceCtorEq, reduceIte, ↓reduceIte, tt, vgo, vout, vguard, callOf, vop, ev, cv, vbin, vint, isShift, isNilConst, vload, hn22, ht22]
  refine Cl.pu ck22 ?_ rfl (by simp only [V.into, intoL, cu_into, Bool.and_true])
  try simp only [gos, eq_self, Nat.reduceLT, Nat.reduceEqDiff, reduceCtorEq, reduceIte, ↓reduceIte, tt, vgo, vout, vguard, callOf, vop, ev, cv, vbin, vint, isShift, isNilConst, vload, hn23, ht23]
  refine Cl.pu ck23 ?_ rfl (by simp only [V.into, intoL, cu_into, Bool.and_true])
  try simp only [gos, eq_self, Nat.reduceLT, Nat.reduceEqDiff, reduceCtorEq, reduceIte, ↓reduceIte, tt, vgo, vout, vguard, callOf, vop, ev, cv, vbin, vint, isShift, isNilConst, vload, hn24, ht24]
  refine Cl.pu ck24 ?_ rfl (by simp only [V.into, intoL, cu_into, Bool.and_true])
  try simp only [gos, eq_self, Nat.reduceLT, Nat.reduceEqDiff, reduceCtorEq, reduceIte, ↓reduceIte, tt, vgo, vout, vguard, callOf, vop, ev, cv, vbin, vint, isShift, isNilConst, vload, hn25, ht25]
  refine Cl.pu ck25 ?_ rfl (by simp only [V.into, intoL, cu_into, Bool.and_true])
  try simp only [gos, eq_self, Nat.reduceLT, Nat.reduceEqDiff, reduceCtorEq, reduceIte, ↓reduceIte, tt, vgo, vout, vguard, callOf, vop, ev, cv, vbin, vint, isShift, isNilConst, vload, hn26, ht26]
  refine Cl.pu ck26 ?_ rfl (by simp only [V.into, intoL, cu_into, Bool.and_true])
  try simp only [gos, eq_self, Nat.reduceLT, Nat.reduceEqDiff, reduceCtorEq, reduceIte, ↓reduceIte, tt, vgo, vout, vguard, callOf, vop, ev, cv, vbin, vint, isShift, isNilConst, vload, hn27, ht27]
  refine Cl.pu ck27 ?_ rfl (by simp only [V.into, intoL, cu_into, Bool.and_true])
  try simp only [gos, eq_self, Nat.reduceLT, Nat.reduceEqDiff, reduceCtorEq, reduceIte, ↓reduceIte, tt, vgo, vout, vguard, callOf, vop, ev, cv, vbin, vint, isShift, isNilConst, vload, hn28, ht28]
  refine Cl.pu ck28 ?_ rfl (by simp only [V.into, intoL, cu_into, Bool.and_true])
  try simp only [gos, eq_self, Nat.reduceLT, Nat.reduceEqDiff, reduceCtorEq, reduceIte, ↓reduceIte, tt, vgo, vout, vguard, callOf, vop, ev, cv, vbin, vint, isShift, isNilConst, vload, hn29, ht29]
  refine Cl.pu ck29 ?_ rfl (by simp only [V.into, intoL, cu_into, Bool.and_true])
  try simp only [gos, eq_self, Nat.reduceLT, Nat.reduceEqDiff, reduceCtorEq, reduceIte, ↓reduceIte, tt, vgo, vout, vguard, callOf, vop, ev, cv, vbin, vint, isShift, isNilConst, vload, hn30, ht30]
  refine Cl.pu ck30 ?_ rfl (by simp only [V.into, intoL, cu_into, Bool.and_true])
  simp only [gos, eq_self, Nat.reduceLT, Nat.reduceEqDiff, reduceIte, ↓reduceIte, tt, vgo, vout, vguard, callOf, vop, ev, cv, vbin, vint, isShift, isNilConst, vfill]
  refine Cl.less (cs := [.agg yz.cs]) (ImpV.refl _) ⟨ImpV.agg ⟨ImpV.refl _, ImpV.refl _, ImpV.refl _, ImpV.refl _, ImpV.refl _, ImpV.sl0, ImpV.sl0, ImpV.refl _, ImpV.refl _, ImpV.sl0, ImpV.sl0, trivial⟩, trivial⟩ (Cl.pu ckz ?_ rfl (by simp only [V.into, intoL, cu_into, Bool.and_true]))
  simp only [gos, eq_self, Nat.reduceLT, Nat.reduceEqDiff, reduceIte, ↓reduceIte, vgo, vout, vguard, callOf, vop, ev, cv, vbin, vint, isShift, isNilConst]
  refine Cl.pu c_awake ?_
  simp only [gos, eq_self, Nat.reduceLT, Nat.reduceEqDiff, reduceIte, ↓reduceIte, vgo, vout, vguard, callOf, vop, ev]
  subst hQ
  exact FnPost.plain trivial (v := .bool true) (fun h2 e => by rfl) (WkV.pure rfl) rfl
end Go.Vm
