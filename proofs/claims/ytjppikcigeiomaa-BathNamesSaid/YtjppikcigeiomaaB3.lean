import Derived.Test.YtjppikcigeiomaaB2
set_option linter.unusedVariables false
set_option linter.unusedSimpArgs false
set_option maxRecDepth 100000
namespace Go.Vm
open Go.Proofs
/-- The bounds under which the reference's functions of a room and numbers of baths are followed. -/
structure MOk (r : Rm) (m : List Int) : Prop where
  bu : 0 ≤ r.bu ∧ r.bu ≤ 1000
  len : (m.length : Int) ≤ 100000
  wl : r.cu.want.length = m.length
  wb : ∀ x ∈ r.cu.want, 0 ≤ x ∧ x ≤ 1000
  mb : ∀ x ∈ m, 0 ≤ x ∧ x ≤ 900
end Go.Vm

set_option linter.unusedVariables false
set_option linter.unusedSimpArgs false
set_option maxRecDepth 100000
namespace Go.Vm
open Go.Proofs
/-! ### the laws' helpers for rooms -/
theorem c_ints9 (a b : List Int) (ha : (a.length : Int) ≤ 1000000) : Pu Try.prog (.fn 37 [] []) [vI a, vI b] (.bool (decide (a = b))) := by
  refine Ev.fn Try.func37 rfl rfl (Fn.body tabOk Try.func37 rfl (Nat.le_of_ble_eq_true rfl) (Ks.ok (fz := (fzn [])) (cl := (cln [(6, .d tg0 [cP, cP, cP, cP, cP, cP, cP, cP, cP])])) tabOk mixed ?_))
  generalize hQ : FnPost tt Try.f37 _ _ = Q
  simp only [Try.f37, List.nil_append, List.append_nil, argsEnv, Nat.reduceAdd]
  by_cases h : (a.length : Int) = b.length
  case neg =>
    have hb : ((a.length : Int) != b.length) = true := by simp only [bne_iff_ne, ne_eq, h, not_false_eq_true]
    simp only [gos, eq_self, Nat.reduceLT, Nat.reduceEqDiff, reduceCtorEq, reduceIte, ↓reduceIte, tt, vgo, vout, vguard, callOf, vop, ev, cv, vbin, vint, isShift, isNilConst, vlen, vI, hb]
    subst hQ
    exact FnPost.plain trivial (fun h2 e => by first | rfl | (simp only [Try.f37, vres, vresL, vres1, e _, gos, if_true, if_false, ne_eq, eq_self, Nat.reduceLT, Nat.reduceEqDiff, Nat.reduceAdd, Nat.reduceMul, Nat.reduceLeDiff, Nat.reduceBEq, reduceCtorEq, reduceIte, Array.toList, ↓reduceIte, tt, vgo, vout, vgoD, voutD, vclsOk, vids, mayWrite, V.ids, V.mids, vguard, callOf, vop, ev, cv, vbin, vint, isShift, isNilConst, vnil, isNilSlice, vload, vlen, newRow, vfill, vslice, entOf, vappend, srcOf, vcopy, vlookup, vupdate, mapOk, keyOf, intsOf, clsAt]; try rfl)) (WkV.pure (by simp only [V.into])) ⟨by rw [decide_eq_false]; intro e; rw [e] at h; exact h rfl, rfl⟩
  have hb : ((a.length : Int) != b.length) = false := by rw [bne_eq_false_iff_eq]; exact h
  simp only [gos, eq_self, Nat.reduceLT, Nat.reduceEqDiff, reduceCtorEq, reduceIte, ↓reduceIte, tt, vgo, vout, vguard, callOf, vop, ev, cv, vbin, vint, isShift, isNilConst, vlen, vI, hb]
  refine W.loop tabOk mixed (fun i : Nat => ([(0, vI a), (1, vI b), (5, vi i)], [])) (fun i => a.length - i) (fun i => i ≤ a.length ∧ a.take i = b.take i) 0 ⟨by omega, by simp⟩ (Wk.env (by simp [subE, Env.get, vI])) ?_
  rintro i ⟨hi, ht⟩
  by_cases hil : (i : Int) < a.length
  · have hil2 : (i : Int) < b.length := by omega
    simp only [gos, eq_self, Nat.reduceLT, Nat.reduceEqDiff, reduceCtorEq, reduceIte, ↓reduceIte, tt, vgo, vout, vguard, callOf, vop, ev, vbin, vint, isShift, isNilConst, vlen, vI, hil]
    refine Wr.draw (by kernel_rfl) ?_
    simp only [gos, eq_self, Nat.reduceLT, Nat.reduceEqDiff, Nat.reduceAdd, reduceCtorEq, reduceIte, ↓reduceIte, tt, vgoD, voutD, vclsOk, vids, mayWrite, V.ids, vguard, callOf, vop, ev, vbin, vint, isShift, isNilConst, vload, clsAt, hil, hil2, cI_at (Int.natCast_nonneg i) hil, cI_at (Int.natCast_nonneg i) hil2]
    by_cases hg : gi a i = gi b i
    · have hb : (gi a i != gi b i) = false := by rw [bne_eq_false_iff_eq]; exact hg
      simp only [gos, eq_self, Nat.reduceLT, Nat.reduceEqDiff, reduceCtorEq, reduceIte, ↓reduceIte, vgo, vout, vguard, callOf, vop, ev, cv, vbin, vint, isShift, isNilConst, hb]
      exact Nx.mk (i + 1) (show a.length - (i + 1) < a.length - i by omega) ⟨by omega, by rw [gi_take hil, gi_take hil2, ht, hg]⟩ (Wk.env (by simp [subE, Env.get, i64_succ (show (i : Int) < 9223372036854775807 by omega)]))
    · have hb : (gi a i != gi b i) = true := by simp only [bne_iff_ne, ne_eq, hg, not_false_eq_true]
      simp only [gos, eq_self, Nat.reduceLT, Nat.reduceEqDiff, reduceIte, ↓reduceIte, vgo, vout, vguard, callOf, vop, ev, cv, hb]
      subst hQ
      exact FnPost.plain trivial (fun h2 e => by first | rfl | (simp only [Try.f37, vres, vresL, vres1, e _, gos, if_true, if_false, ne_eq, eq_self, Nat.reduceLT, Nat.reduceEqDiff, Nat.reduceAdd, Nat.reduceMul, Nat.reduceLeDiff, Nat.reduceBEq, reduceCtorEq, reduceIte, Array.toList, ↓reduceIte, tt, vgo, vout, vgoD, voutD, vclsOk, vids, mayWrite, V.ids, V.mids, vguard, callOf, vop, ev, cv, vbin, vint, isShift, isNilConst, vnil, isNilSlice, vload, vlen, newRow, vfill, vslice, entOf, vappend, srcOf, vcopy, vlookup, vupdate, mapOk, keyOf, intsOf, clsAt]; try rfl)) (WkV.pure (by simp only [V.into])) ⟨by rw [decide_eq_false]; intro e; rw [e] at hg; exact hg rfl, rfl⟩
  · simp only [gos, eq_self, Nat.reduceLT, Nat.reduceEqDiff, reduceCtorEq, reduceIte, ↓reduceIte, tt, vgo, vout, vguard, callOf, vop, ev, cv, vbin, vint, isShift, isNilConst, vlen, vI, hil]
    have e1 : a.take i = a := List.take_of_length_le (by omega)
    have e2 : b.take i = b := List.take_of_length_le (by omega)
    subst hQ
    exact FnPost.plain trivial (fun h2 e => by first | rfl | (simp only [Try.f37, vres, vresL, vres1, e _, gos, if_true, if_false, ne_eq, eq_self, Nat.reduceLT, Nat.reduceEqDiff, Nat.reduceAdd, Nat.reduceMul, Nat.reduceLeDiff, Nat.reduceBEq, reduceCtorEq, reduceIte, Array.toList, ↓reduceIte, tt, vgo, vout, vgoD, voutD, vclsOk, vids, mayWrite, V.ids, V.mids, vguard, callOf, vop, ev, cv, vbin, vint, isShift, isNilConst, vnil, isNilSlice, vload, vlen, newRow, vfill, vslice, entOf, vappend, srcOf, vcopy, vlookup, vupdate, mapOk, keyOf, intsOf, clsAt]; try rfl)) (WkV.pure (by simp only [V.into])) ⟨by rw [decide_eq_true]; rw [← e1, ← e2, ht], rfl⟩
end Go.Vm

set_option linter.unusedVariables false
set_option linter.unusedSimpArgs false
set_option maxRecDepth 100000
namespace Go.Vm
open Go.Proofs
/-! ### the document's examples of rooms -/
theorem ImpV.aggR {l m : List V} (i : impL l m) : ImpV (.agg l) (.agg m) := fun g x h => by
  simp only [VR] at h ⊢
  obtain ⟨vs, e, h⟩ := h
  exact ⟨vs, e, impL_ok i h⟩
theorem c_span9 (a b : Int) : Pu Try.prog (.fn 18 [] []) [vi a, vi b] (.agg [vi a, vi b]) := by
  refine Ev.fn Try.func18 rfl rfl (Fn.body tabOk Try.func18 rfl (Nat.le_of_ble_eq_true rfl) (Ks.ok (fz := (fzn [4])) (cl := (cln [])) tabOk mixed ?_))
  generalize hQ : FnPost tt Try.f18 _ _ = Q
  simp only [Try.f18, List.nil_append, List.append_nil, argsEnv, Nat.reduceAdd]
  simp only [gos, eq_self, Nat.reduceLT, Nat.reduceEqDiff, Nat.reduceAdd, Nat.reduceLeDiff, reduceCtorEq, reduceIte, ↓reduceIte, tt, vgo, vout, vguard, callOf, vop, ev, newRow, vfill]
  subst hQ
  exact FnPost.plain trivial (fun h2 e => by first | rfl | (simp only [Try.f18, vres, vresL, vres1, e _, gos, eq_self, Nat.reduceLT, Nat.reduceEqDiff, Nat.reduceAdd, reduceCtorEq, reduceIte, ↓reduceIte, tt, vload]; try rfl)) (WkV.pure (by simp only [V.into, intoL, Bool.and_true])) ⟨rfl, rfl⟩
def exB : List Rg := [⟨0, 1⟩, ⟨1, 1⟩, ⟨0, 2⟩]
def exRm (n : Nat) (w : Int) : Rm := ⟨⟨2, 7, 60, 4, 3, [2, 1, 0], [w, 1, 1], ⟨10, 12⟩, [⟨2, 3⟩, ⟨4, 4⟩, ⟨0, 2⟩], []⟩, 2, 2, exB.take n⟩
def exRs (n : Nat) (w : Int) : List V := [vi 2, vi 7, vi 60, vi 4, vi 3, vI [2, 1, 0], vI [w, 1, 1], vi 10, vi 12, vR [⟨2, 3⟩, ⟨4, 4⟩, ⟨0, 2⟩], .sl0, vi 2, vi 2, vR (exB.take n)]
theorem sl0_vD : ImpV .sl0 (vD []) := ImpV.sl0
theorem exRm_wf (n : Nat) (w : Int) : (exRm n w).wf := by
  refine ⟨⟨⟨by simp [exRm], by simp [exRm]⟩, by simp [exRm], by simp [exRm], by simp [exRm], by simp [exRm]⟩, ?_⟩
  have : (exB.take n).length ≤ 3 := by rw [List.length_take]; simp [exB]; omega
  simp only [exRm]; omega
set_option maxHeartbeats 1000000 in
theorem c_three9 (n : Nat) (hn : n ≤ 3) (w : Int) : Pu Try.prog (.fn 5 [] []) [vi n, vi w] (.agg (exRm n w).cs) := by
  refine Ev.fn Try.func5 rfl rfl (Fn.body tabOk Try.func5 rfl (Nat.le_of_ble_eq_true rfl) (Ks.ok (fz := (fzn [4, 5])) (cl := (cln [(3, .d tg0 [cL, cP, cP, cP, cP, cW])])) tabOk mixed ?_))
  generalize hQ : FnPost tt Try.f5 _ _ = Q
  simp only [Try.f5, List.nil_append, List.append_nil, argsEnv, Nat.reduceAdd]
  have h1 : (0 : Int) ≤ n := by omega
  have h2 : (n : Int) ≤ 3 := by omega
  simp only [gos, eq_self, Nat.reduceLT, Nat.reduceEqDiff, Nat.reduceAdd, Nat.reduceMul, Nat.reduceLeDiff, reduceCtorEq, reduceIte, ↓reduceIte, tt, vgo, vout, vguard, callOf, vop, ev, cv, newRow, vfill]
  refine Cl.pu (c_span9 _ _) ?_
  simp only [gos, eq_self, Nat.reduceLT, reduceIte, ↓reduceIte, vgo, vout, vguard, callOf, ev, cv]
  refine Cl.pu (c_span9 _ _) ?_
  simp only [gos, eq_self, Nat.reduceLT, reduceIte, ↓reduceIte, vgo, vout, vguard, callOf, ev, cv]
  refine Cl.pu (c_span9 _ _) ?_
  simp only [gos, eq_self, Nat.reduceLT, reduceIte, ↓reduceIte, vgo, vout, vguard, callOf, ev, cv]
  refine Cl.pu (c_span9 _ _) ?_
  simp only [gos, eq_self, Nat.reduceLT, Nat.reduceEqDiff, Nat.reduceAdd, Nat.reduceMul, Nat.reduceLeDiff, reduceCtorEq, reduceIte, ↓reduceIte, tt, vgo, vout, vguard, callOf, vop, ev, cv, newRow, vfill]
  refine Wr.draw (by kernel_rfl) ?_
  have h3 : ((n : Int)).toNat = n := Int.toNat_natCast n
  have h4 : V.ro n (List.take (n * 2) [V.int IntKind.i64 0, V.int IntKind.i64 1, V.int IntKind.i64 1, V.int IntKind.i64 1, V.int IntKind.i64 0, V.int IntKind.i64 2]) = vR (exB.take n) := by
    match n, hn with
    | 0, _ => rfl
    | 1, _ => rfl
    | 2, _ => rfl
    | 3, _ => rfl
  have h2' : (n : Int) ≤ ((3 : Nat) : Int) := h2
  simp only [gos, eq_self, Nat.reduceLT, Nat.reduceEqDiff, Nat.reduceAdd, Nat.reduceLeDiff, reduceCtorEq, reduceIte, ↓reduceIte, tt, vgoD, voutD, vclsOk, vids, mayWrite, V.ids, vguard, callOf, vop, ev, cv, vload, vfill, vslice, clsAt, h1, h2', h3, h4]
  subst hQ
  exact FnPost.plain trivial (v := .agg (exRs n w)) (fun h2 e => by simp only [Try.f5, vres, vresL, vres1, gos, eq_self, Nat.reduceLT, Nat.reduceEqDiff, Nat.reduceAdd, reduceCtorEq, reduceIte, ↓reduceIte, tt, vload, e _]; rfl) (WkV.trans (WkV.less (v' := .agg (exRm n w).cs) (ImpV.aggR ⟨ImpV.refl _, ImpV.refl _, ImpV.refl _, ImpV.refl _, ImpV.refl _, ImpV.refl _, ImpV.refl _, ImpV.refl _, ImpV.refl _, ImpV.refl _, sl0_vD, ImpV.refl _, ImpV.refl _, ImpV.refl _, trivial⟩)) (WkV.pure (by simp only [V.into, rm_into]))) ⟨rfl, rfl⟩
end Go.Vm

set_option linter.unusedVariables false
set_option linter.unusedSimpArgs false
set_option maxRecDepth 100000
namespace Go.Vm
open Go.Proofs
theorem aw_1 : sPlayR (exRm 3 1) [0, 1, 2] = ([2, 2, 2], 0) := by decide +kernel
theorem aw_2 : sKeepsR (exRm 3 1) [0, 1, 2] = (3, 0) := by decide +kernel
theorem aw_3 : sPlanR (exRm 2 1) = ([0, 1], 0) := by decide +kernel
theorem aw_4 : sHoursR (exRm 2 1) 0 = ([0, 1], 0) := by decide +kernel
theorem aw_5 : sGiveR (exRm 3 1) = ([0], 0) := by decide +kernel
theorem aw_6 : sMostR (exRm 3 1) = ([0, 0, 2], 0) := by decide +kernel
theorem aw_7 : sFreeR (exRm 1 1) [0] 1 = (1, 0) := by decide +kernel
theorem aw_8 : sCoalR (exRm 2 1) [0, 1] = ([1, 2, 0], 0) := by decide +kernel
set_option maxHeartbeats 4000000 in
theorem c_awake9 : Pu Try.prog (.fn 15 [] []) [] (.bool true) := by
  have t1 : Pu Try.prog (.fn 5 [] []) [vi 1, vi 1] (.agg (exRm 1 1).cs) := c_three9 1 (by omega) 1
  have t2 : Pu Try.prog (.fn 5 [] []) [vi 2, vi 1] (.agg (exRm 2 1).cs) := c_three9 2 (by omega) 1
  have t3 : Pu Try.prog (.fn 5 [] []) [vi 3, vi 1] (.agg (exRm 3 1).cs) := c_three9 3 (by omega) 1
  have p1 := c_bPlay (exRm 3 1) (exRm_wf 3 1) [0, 1, 2] (by simp)
  rw [aw_1] at p1
  have p2 := c_bKeeps (exRm 3 1) (exRm_wf 3 1) [0, 1, 2] (by simp)
  rw [aw_2] at p2
  have p3 := c_bPlan (exRm 2 1) (exRm_wf 2 1)
  rw [aw_3] at p3
  have p4 := c_bHours (exRm 2 1) (exRm_wf 2 1) 0 ⟨by omega, by omega⟩
  rw [aw_4] at p4
  have p5 := c_bGive (exRm 3 1) (exRm_wf 3 1)
  rw [aw_5] at p5
  have p6 := c_bMost (exRm 3 1) (exRm_wf 3 1)
  rw [aw_6] at p6
  have p7 := c_bFree (exRm 1 1) (exRm_wf 1 1) [0] (by simp) 1 ⟨by omega, by omega⟩
  rw [aw_7] at p7
  have p8 := c_bCoal (exRm 2 1) (exRm_wf 2 1) [0, 1] (by simp)
  rw [aw_8] at p8
  refine Ev.fn Try.func15 rfl rfl (Fn.body tabOk Try.func15 rfl (Nat.le_of_ble_eq_true rfl) (Ks.ok (fz := (fzn [])) (cl := (cln [])) tabOk mixed ?_))
  generalize hQ : FnPost tt Try.f15 _ _ = Q
  simp only [Try.f15, List.append_nil, argsEnv]
  simp only [gos, eq_self, Nat.reduceLT, reduceIte, ↓reduceIte, vgo, vout, vguard, callOf, vop, ev, cv]
  refine Cl.pu t3 ?_
  simp only [gos, eq_self, Nat.reduceLT, Nat.reduceEqDiff, Nat.reduceAdd, Nat.reduceMul, Nat.reduceLeDiff, reduceCtorEq, reduceIte, ↓reduceIte, tt, vgo, vout, vguard, callOf, vop, ev, cv, vfill]
  refine Cl.pu p1 ?_ rfl (by simp only [V.into, intoL, Bool.and_true, rm_into]; try rfl)
  simp only [gos, eq_self, Nat.reduceLT, Nat.reduceEqDiff, reduceIte, ↓reduceIte, vgo, vout, vguard, callOf, vop, ev, cv]
  refine Cl.pu t3 ?_
  simp only [gos, eq_self, Nat.reduceLT, Nat.reduceEqDiff, Nat.reduceAdd, Nat.reduceMul, Nat.reduceLeDiff, reduceCtorEq, reduceIte, ↓reduceIte, tt, vgo, vout, vguard, callOf, vop, ev, cv, vfill]
  refine Cl.pu p2 ?_ rfl (by simp only [V.into, intoL, Bool.and_true, rm_into]; try rfl)
  simp only [gos, eq_self, Nat.reduceLT, Nat.reduceEqDiff, reduceIte, ↓reduceIte, vgo, vout, vguard, callOf, vop, ev, cv]
  refine Cl.pu t2 ?_
  simp only [gos, eq_self, Nat.reduceLT, reduceIte, ↓reduceIte, vgo, vout, vguard, callOf, ev]
  refine Cl.pu p3 ?_ rfl (by simp only [V.into, intoL, Bool.and_true, rm_into]; try rfl)
  simp only [gos, eq_self, Nat.reduceLT, Nat.reduceEqDiff, reduceIte, ↓reduceIte, vgo, vout, vguard, callOf, vop, ev, cv]
  refine Cl.pu t2 ?_
  simp only [gos, eq_self, Nat.reduceLT, reduceIte, ↓reduceIte, vgo, vout, vguard, callOf, ev, cv]
  refine Cl.pu p4 ?_ rfl (by simp only [V.into, intoL, Bool.and_true, rm_into]; try rfl)
  simp only [gos, eq_self, Nat.reduceLT, Nat.reduceEqDiff, reduceIte, ↓reduceIte, vgo, vout, vguard, callOf, vop, ev, cv]
  refine Cl.pu t3 ?_
  simp only [gos, eq_self, Nat.reduceLT, reduceIte, ↓reduceIte, vgo, vout, vguard, callOf, ev]
  refine Cl.pu p5 ?_ rfl (by simp only [V.into, intoL, Bool.and_true, rm_into]; try rfl)
  simp only [gos, eq_self, Nat.reduceLT, Nat.reduceEqDiff, reduceIte, ↓reduceIte, vgo, vout, vguard, callOf, vop, ev, cv]
  refine Cl.pu t3 ?_
  simp only [gos, eq_self, Nat.reduceLT, reduceIte, ↓reduceIte, vgo, vout, vguard, callOf, ev]
  refine Cl.pu p6 ?_ rfl (by simp only [V.into, intoL, Bool.and_true, rm_into]; try rfl)
  simp only [gos, eq_self, Nat.reduceLT, Nat.reduceEqDiff, reduceIte, ↓reduceIte, vgo, vout, vguard, callOf, vop, ev, cv]
  refine Cl.pu t1 ?_
  simp only [gos, eq_self, Nat.reduceLT, Nat.reduceEqDiff, Nat.reduceAdd, Nat.reduceMul, Nat.reduceLeDiff, reduceCtorEq, reduceIte, ↓reduceIte, tt, vgo, vout, vguard, callOf, vop, ev, cv, vfill]
  refine Cl.pu p7 ?_ rfl (by simp only [V.into, intoL, Bool.and_true, rm_into]; try rfl)
  simp only [gos, eq_self, Nat.reduceLT, Nat.reduceEqDiff, reduceIte, ↓reduceIte, vgo, vout, vguard, callOf, vop, ev, cv]
  refine Cl.pu t2 ?_
  simp only [gos, eq_self, Nat.reduceLT, Nat.reduceEqDiff, Nat.reduceAdd, Nat.reduceMul, Nat.reduceLeDiff, reduceCtorEq, reduceIte, ↓reduceIte, tt, vgo, vout, vguard, callOf, vop, ev, cv, vfill]
  refine Cl.pu p8 ?_ rfl (by simp only [V.into, intoL, Bool.and_true, rm_into]; try rfl)
  have a1 : decide ((0 : Int) = 0) = true := rfl
  have a2 : decide ((3 : Int) = 3) = true := rfl
  have a3 : decide ((1 : Int) = 1) = true := rfl
  simp only [gos, eq_self, Nat.reduceLT, Nat.reduceEqDiff, reduceIte, ↓reduceIte, vgo, vout, vguard, callOf, vop, ev]
  simp only [List.append]
  simp only [gos, eq_self, Nat.reduceLT, Nat.reduceEqDiff, Nat.reduceAdd, Nat.reduceMul, Nat.reduceLeDiff, reduceCtorEq, reduceIte, ↓reduceIte, tt, vgo, vout, vguard, callOf, vop, ev, cv, vbin, vint, isShift, isNilConst, vfill]
  refine Cl.pu (c_ints9 [2, 2, 2] [2, 2, 2] (by simp)) ?_
  simp only [gos, eq_self, Nat.reduceLT, Nat.reduceEqDiff, Nat.reduceAdd, Nat.reduceMul, Nat.reduceLeDiff, reduceCtorEq, reduceIte, ↓reduceIte, tt, vgo, vout, vguard, callOf, vop, ev, cv, vbin, vint, isShift, isNilConst, vfill]
  refine Cl.pu (c_ints9 [0, 1] [0, 1] (by simp)) ?_
  simp only [gos, eq_self, Nat.reduceLT, Nat.reduceEqDiff, Nat.reduceAdd, Nat.reduceMul, Nat.reduceLeDiff, reduceCtorEq, reduceIte, ↓reduceIte, tt, vgo, vout, vguard, callOf, vop, ev, cv, vbin, vint, isShift, isNilConst, vfill]
  refine Cl.pu (c_ints9 [0, 1] [0, 1] (by simp)) ?_
  simp only [gos, eq_self, Nat.reduceLT, Nat.reduceEqDiff, Nat.reduceAdd, Nat.reduceMul, Nat.reduceLeDiff, reduceCtorEq, reduceIte, ↓reduceIte, tt, vgo, vout, vguard, callOf, vop, ev, cv, vbin, vint, isShift, isNilConst, vfill]
  refine Cl.pu (c_ints9 [0] [0] (by simp)) ?_
  simp only [gos, eq_self, Nat.reduceLT, Nat.reduceEqDiff, Nat.reduceAdd, Nat.reduceMul, Nat.reduceLeDiff, reduceCtorEq, reduceIte, ↓reduceIte, tt, vgo, vout, vguard, callOf, vop, ev, cv, vbin, vint, isShift, isNilConst, vfill]
  refine Cl.pu (c_ints9 [0, 0, 2] [0, 0, 2] (by simp)) ?_
  simp only [gos, eq_self, Nat.reduceLT, Nat.reduceEqDiff, Nat.reduceAdd, Nat.reduceMul, Nat.reduceLeDiff, reduceCtorEq, reduceIte, ↓reduceIte, tt, vgo, vout, vguard, callOf, vop, ev, cv, vbin, vint, isShift, isNilConst, vfill]
  refine Cl.pu (c_ints9 [1, 2, 0] [1, 2, 0] (by simp)) ?_
  simp only [gos, eq_self, Nat.reduceLT, Nat.reduceEqDiff, reduceIte, ↓reduceIte, vgo, vout, vguard, callOf, vop, ev]
  subst hQ
  exact FnPost.plain trivial (fun h2 e => by first | rfl | (simp only [Try.f15, vres, vresL, vres1, e _, gos, if_true, if_false, ne_eq, eq_self, Nat.reduceLT, Nat.reduceEqDiff, Nat.reduceAdd, Nat.reduceMul, Nat.reduceLeDiff, Nat.reduceBEq, reduceCtorEq, reduceIte, Array.toList, ↓reduceIte, tt, vgo, vout, vgoD, voutD, vclsOk, vids, mayWrite, V.ids, V.mids, vguard, callOf, vop, ev, cv, vbin, vint, isShift, isNilConst, vnil, isNilSlice, vload, vlen, newRow, vfill, vslice, entOf, vappend, srcOf, vcopy, vlookup, vupdate, mapOk, keyOf, intsOf, clsAt]; try rfl)) (WkV.pure (by simp only [V.into])) ⟨rfl, rfl⟩
end Go.Vm
