/-
The Go law CopperPromised returns true for every input, and its arguments read behind the call as they read before. Conditions: none.
-/
import Derived.Test.YtjbgmnpbpmljaaaQ14x1
set_option linter.unusedVariables false
set_option linter.unusedSimpArgs false
set_option maxRecDepth 100000
namespace Go.Vm
open Go.Proofs
def lsF (ws : List Int) (j : Nat) : Int := (sWord ws j).tmod 3
def mrF (ws : List Int) (j : Nat) : Int := (sWord ws j).tmod 3 + ((sWord ws j).tdiv 8).tmod 2
def mapN (f : Nat → Int) (i : Nat) : List Int := (List.range i).map f
theorem mapN_succ (f : Nat → Int) (i : Nat) : mapN f (i + 1) = mapN f i ++ [f i] := by simp [mapN, List.range_succ]
theorem mapN_len (f : Nat → Int) (i : Nat) : (mapN f i).length = i := by simp [mapN]
theorem mapN_gi (f : Nat → Int) {n i : Nat} (h : i < n) : gi (mapN f n) i = f i := gi_map h
set_option maxHeartbeats 8000000 in
theorem l_CopperPromised (c : Cu) (hc : I64 c.last) (ws : List Int) (hw : ∀ x ∈ ws, 0 ≤ x ∧ x ≤ 65535) (hour : Int) (hh : 0 ≤ hour ∧ hour ≤ 255) (by1 : Int) (hb : 0 ≤ by1 ∧ by1 ≤ 255) :
    Vm.Fn Try.prog 17 [.agg c.cs, vW ws, .int .u8 hour, .int .u8 by1] [] fun v h' => v = .bool true := by
  refine Fn.body tabOk Try.func17 rfl (Nat.le_of_ble_eq_true rfl) (Ks.ok (fz := (fzn [])) (cl := (cln [(10, .ex), (12, .d (tgL [(88, 1)]) [cP, cP, cP, cP, cP, some ([1], [1]), none, cP, cP, cP, cP, cP]), (23, .d tg0 [cP, cP, cP, cP, cP, cP, cP, cP, cP, cP, cP, cP]), (28, .d tg0 [cP, cP, cP, cP, cP, cP, cP, cP, cP, cP, cP, cP, cP, cP])])) tabOk mixed ?_)
  generalize hQ : FnPost tt Try.f17 _ _ = Q
  simp only [Try.f17, List.nil_append, List.append_nil, List.cons_append, argsEnv, Nat.reduceAdd]
  simp only [gos, if_true, if_false, ne_eq, eq_self, Nat.reduceLT, Nat.reduceEqDiff, Nat.reduceAdd, Nat.reduceMul, Nat.reduceLeDiff, Nat.reduceBEq, reduceCtorEq, reduceIte, Array.toList, ↓reduceIte, tt, vgo, vout, vgoD, voutD, vclsOk, vids, mayWrite, V.ids, V.mids, vguard, callOf, vop, ev, cv, vbin, vint, isShift, isNilConst, vnil, isNilSlice, vload, vlen, newRow, vfill, vslice, entOf, vappend, srcOf, vcopy, vlookup, vupdate, mapOk, keyOf, intsOf, clsAt]
  refine Cl.pu (c_ready c hc) ?_ rfl (by simp only [V.into, intoL, cB_into, vB_into, cI_into, cR_into, cD_into, cS_into, vS_into, vI_into, vR_into, vD_into, cu_into, Bool.true_and, Bool.and_true])
  cases hts : sReady c with
  | false =>
    simp only [gos, if_true, if_false, ne_eq, eq_self, Nat.reduceLT, Nat.reduceEqDiff, Nat.reduceAdd, Nat.reduceMul, Nat.reduceLeDiff, Nat.reduceBEq, reduceCtorEq, reduceIte, Array.toList, ↓reduceIte, tt, vgo, vout, vgoD, voutD, vclsOk, vids, mayWrite, V.ids, V.mids, vguard, callOf, vop, ev, cv, vbin, vint, isShift, isNilConst, vnil, isNilSlice, vload, vlen, newRow, vfill, vslice, entOf, vappend, srcOf, vcopy, vlookup, vupdate, mapOk, keyOf, intsOf, clsAt]
    refine Cl.pu c_awake ?_
    simp only [gos, if_true, if_false, ne_eq, eq_self, Nat.reduceLT, Nat.reduceEqDiff, Nat.reduceAdd, Nat.reduceMul, Nat.reduceLeDiff, Nat.reduceBEq, reduceCtorEq, reduceIte, Array.toList, ↓reduceIte, tt, vgo, vout, vgoD, voutD, vclsOk, vids, mayWrite, V.ids, V.mids, vguard, callOf, vop, ev, cv, vbin, vint, isShift, isNilConst, vnil, isNilSlice, vload, vlen, newRow, vfill, vslice, entOf, vappend, srcOf, vcopy, vlookup, vupdate, mapOk, keyOf, intsOf, clsAt]
    subst hQ
    exact FnPost.plain trivial (v := .bool true) (fun h2 e => by rfl) WkV.refl rfl
  | true =>
  obtain ⟨hth, h0⟩ := ready_ok hts
  have wf := thin_wf hc hth
  have k0 := sCheck_ok h0
  have hl := k0.last
  obtain ⟨k, hk, hkl⟩ := hour_of hl hh.1
  have hz : ¬ c.last + 1 = 0 := by omega
  have z4 : ¬ (4 : Int) = 0 := by omega
  have hbm := tmod_le hb.1 (s := 4) (by omega)
  simp only [gos, if_true, if_false, ne_eq, eq_self, Nat.reduceLT, Nat.reduceEqDiff, Nat.reduceAdd, Nat.reduceMul, Nat.reduceLeDiff, Nat.reduceBEq, reduceCtorEq, reduceIte, Array.toList, ↓reduceIte, tt, vgo, vout, vgoD, voutD, vclsOk, vids, mayWrite, V.ids, V.mids, vguard, callOf, vop, ev, cv, vbin, vint, isShift, isNilConst, vnil, isNilSlice, vload, vlen, newRow, vfill, vslice, entOf, vappend, srcOf, vcopy, vlookup, vupdate, mapOk, keyOf, intsOf, clsAt, hz, z4, i64_in (show -9223372036854775808 ≤ hour by omega) (show hour ≤ 9223372036854775807 by omega), i64_in (show -9223372036854775808 ≤ by1 by omega) (show by1 ≤ 9223372036854775807 by omega), i64_in (show -9223372036854775808 ≤ c.last + 1 by omega) (show c.last + 1 ≤ 9223372036854775807 by omega), i64_in (show -9223372036854775808 ≤ 1 + by1.tmod 4 by omega) (show 1 + by1.tmod 4 ≤ 9223372036854775807 by omega)]
  rw [← hk]
  generalize hnn : 1 + by1.tmod 4 = nn
  have hnn2 : 1 ≤ nn ∧ nn ≤ 4 := by omega
  refine W.loop tabOk mixed (fun i : Nat => ([(4, .rop c.cs), (1, vW ws), (9, vi k), (10, vi nn), (11, .own 56 i 0 1 i), (12, .own 65 i 0 1 i), (13, vi i)], [(56, ⟨i, .row (cI (mapN (lsF ws) i))⟩), (65, ⟨i, .row (cI (mapN (mrF ws) i))⟩)])) (fun i => (c.last + 1).toNat - i) (fun i => (i : Int) ≤ c.last + 1) 0 (by omega) (Wk.trans (Wk.sl0E 11 56 1 rfl rfl) (Wk.trans (Wk.sl0E 12 65 1 rfl rfl) (Wk.env ?_))) ?_
  · simp [subE, Env.get]
  intro i hi
  by_cases hil : (i : Int) ≤ c.last
  · have hn1 : (cI (mapN (lsF ws) i)).length = i := by rw [cI_len, mapN_len]
    have hn2 : (cI (mapN (mrF ws) i)).length = i := by rw [cI_len, mapN_len]
    have hi9 : i ≤ 999999 := by omega
    have z3 : ¬ (3 : Int) = 0 := by omega
    have z8 : ¬ (8 : Int) = 0 := by omega
    have z2 : ¬ (2 : Int) = 0 := by omega
    simp only [gos, if_true, if_false, ne_eq, eq_self, Nat.reduceLT, Nat.reduceEqDiff, Nat.reduceAdd, Nat.reduceMul, Nat.reduceLeDiff, Nat.reduceBEq, reduceCtorEq, reduceIte, Array.toList, ↓reduceIte, tt, vgo, vout, vgoD, voutD, vclsOk, vids, mayWrite, V.ids, V.mids, vguard, callOf, vop, ev, cv, vbin, vint, isShift, isNilConst, vnil, isNilSlice, vload, vlen, newRow, vfill, vslice, entOf, vappend, srcOf, vcopy, vlookup, vupdate, mapOk, keyOf, intsOf, clsAt, hil]
    refine Cl.pu (c_word ws hw i) ?_ rfl (by simp only [V.into, intoL, cB_into, vB_into, cI_into, cR_into, cD_into, cS_into, vS_into, vI_into, vR_into, vD_into, cu_into, Bool.true_and, Bool.and_true, vW_into])
    have hsw := sWord_le hw i
    have hsd := Int.tdiv_nonneg hsw.1 (show (0 : Int) ≤ 8 by omega)
    have d1 : (sWord ws i).tdiv 8 ≤ 65535 := Int.le_trans (Int.tdiv_le_self 8 hsw.1) hsw.2
    have m3 := tmod_le hsw.1 (s := 3) (by omega)
    have m2 := tmod_le hsd (s := 2) (by omega)
    simp only [gos, if_true, if_false, ne_eq, eq_self, Nat.reduceLT, Nat.reduceEqDiff, Nat.reduceAdd, Nat.reduceMul, Nat.reduceLeDiff, Nat.reduceBEq, reduceCtorEq, reduceIte, Array.toList, ↓reduceIte, tt, vgo, vout, vgoD, voutD, vclsOk, vids, mayWrite, V.ids, V.mids, vguard, callOf, vop, ev, cv, vbin, vint, isShift, isNilConst, vnil, isNilSlice, vload, vlen, newRow, vfill, vslice, entOf, vappend, srcOf, vcopy, vlookup, vupdate, mapOk, keyOf, intsOf, clsAt, hn1, hn2, hi9, z3, z8, z2, Nat.mul_one, i64_in (show -9223372036854775808 ≤ (sWord ws i).tdiv 8 by omega) (show (sWord ws i).tdiv 8 ≤ 9223372036854775807 by omega), i64_in (show -9223372036854775808 ≤ (sWord ws i).tmod 3 + ((sWord ws i).tdiv 8).tmod 2 by omega) (show (sWord ws i).tmod 3 + ((sWord ws i).tdiv 8).tmod 2 ≤ 9223372036854775807 by omega)]
    refine Nx.mk (i + 1) (show (c.last + 1).toNat - (i + 1) < (c.last + 1).toNat - i by omega) (by omega) (Wk.heap (fun j => ?_) ?_)
    · simp only [mapN_succ, cI_snoc]; rfl
    · simp [subE, Env.get, i64_succ (show (i : Int) < 9223372036854775807 by omega)]
  have hie : (i : Int) = c.last + 1 := by omega
  have hin : i = (c.last + 1).toNat := by omega
  have t56 : List.take i (cI (mapN (lsF ws) i)) = cI (mapN (lsF ws) i) := List.take_of_length_le (by rw [cI_len, mapN_len]; omega)
  have t65 : List.take i (cI (mapN (mrF ws) i)) = cI (mapN (mrF ws) i) := List.take_of_length_le (by rw [cI_len, mapN_len]; omega)
  have lL : (mapN (lsF ws) i).length = i := mapN_len _ _
  have lM : (mapN (mrF ws) i).length = i := mapN_len _ _
  simp only [gos, if_true, if_false, ne_eq, eq_self, Nat.reduceLT, Nat.reduceEqDiff, Nat.reduceAdd, Nat.reduceMul, Nat.reduceLeDiff, Nat.reduceBEq, reduceCtorEq, reduceIte, Array.toList, ↓reduceIte, tt, vgo, vout, vgoD, voutD, vclsOk, vids, mayWrite, V.ids, V.mids, vguard, callOf, vop, ev, cv, vbin, vint, isShift, isNilConst, vnil, isNilSlice, vload, vlen, newRow, vfill, vslice, entOf, vappend, srcOf, vcopy, vlookup, vupdate, mapOk, keyOf, intsOf, clsAt, hil]
  refine Wr.at tabOk 0 ?_
  simp only [gos, if_true, if_false, ne_eq, eq_self, Nat.reduceLT, Nat.reduceEqDiff, Nat.reduceAdd, Nat.reduceMul, Nat.reduceLeDiff, Nat.reduceBEq, reduceCtorEq, reduceIte, Array.toList, ↓reduceIte, tt, vgo, vout, vgoD, voutD, vclsOk, vids, mayWrite, V.ids, V.mids, vguard, callOf, vop, ev, cv, vbin, vint, isShift, isNilConst, vnil, isNilSlice, vload, vlen, newRow, vfill, vslice, entOf, vappend, srcOf, vcopy, vlookup, vupdate, mapOk, keyOf, intsOf, clsAt]
  refine Wa.mk (ρ2 := [(4, .rop c.cs), (9, vi k), (10, vi nn), (11, vI (mapN (lsF ws) i)), (12, vI (mapN (mrF ws) i))]) (h2 := []) ?_ ?_
  · refine Wk.trans (Wk.env (ρ' := [(4, .rop c.cs), (9, vi k), (10, vi nn), (11, .own 56 i 0 1 i), (12, .own 65 i 0 1 i)]) (by simp [subE, Env.get])) ?_
    refine Wk.trans (Wk.freeze 56 rfl rfl (cI_into _ _) rfl) ?_
    simp only [frzE, frzH, Blk.frz, V.frz, frzL, cI_frz, cu_frz, gos, if_true, if_false, ne_eq, eq_self, Nat.reduceLT, Nat.reduceEqDiff, Nat.reduceAdd, Nat.reduceMul, Nat.reduceLeDiff, Nat.reduceBEq, reduceCtorEq, reduceIte, Array.toList, ↓reduceIte, tt, vgo, vout, vgoD, voutD, vclsOk, vids, mayWrite, V.ids, V.mids, vguard, callOf, vop, ev, cv, vbin, vint, isShift, isNilConst, vnil, isNilSlice, vload, vlen, newRow, vfill, vslice, entOf, vappend, srcOf, vcopy, vlookup, vupdate, mapOk, keyOf, intsOf, clsAt, t56, Nat.mul_one]
    refine Wk.trans (Wk.freeze 65 rfl rfl (cI_into _ _) rfl) ?_
    simp only [frzE, frzH, Blk.frz, V.frz, frzL, cI_frz, cu_frz, gos, if_true, if_false, ne_eq, eq_self, Nat.reduceLT, Nat.reduceEqDiff, Nat.reduceAdd, Nat.reduceMul, Nat.reduceLeDiff, Nat.reduceBEq, reduceCtorEq, reduceIte, Array.toList, ↓reduceIte, tt, vgo, vout, vgoD, voutD, vclsOk, vids, mayWrite, V.ids, V.mids, vguard, callOf, vop, ev, cv, vbin, vint, isShift, isNilConst, vnil, isNilSlice, vload, vlen, newRow, vfill, vslice, entOf, vappend, srcOf, vcopy, vlookup, vupdate, mapOk, keyOf, intsOf, clsAt, t65, Nat.mul_one]
    exact Wk.env (by simp [subE, Env.get, vI, lL, lM])
  have okL : ∀ j : Nat, j < i → 0 ≤ lsF ws j ∧ lsF ws j ≤ mrF ws j ∧ mrF ws j ≤ 3 := fun j _ => by
    have hsw := sWord_le hw j
    have m3 := tmod_le hsw.1 (s := 3) (by omega)
    have m2 := tmod_le (Int.tdiv_nonneg hsw.1 (show (0 : Int) ≤ 8 by omega)) (s := 2) (by omega)
    simp only [lsF, mrF]; omega
  have pL : sPromised c (mapN (lsF ws) i) = true := promised_of (by omega) fun x hx => by
    obtain ⟨j, hj, rfl⟩ := mem_gi hx
    rw [lL] at hj
    rw [mapN_gi _ hj]
    have := okL j hj; omega
  have pM : sPromised c (mapN (mrF ws) i) = true := promised_of (by omega) fun x hx => by
    obtain ⟨j, hj, rfl⟩ := mem_gi hx
    rw [lM] at hj
    rw [mapN_gi _ hj]
    have := okL j hj; omega
  have LM : ∀ j : Nat, j < (c.last + 1).toNat → 0 ≤ gi (mapN (lsF ws) i) j ∧ gi (mapN (lsF ws) i) j ≤ gi (mapN (mrF ws) i) j := fun j hj => by
    rw [mapN_gi _ (by omega), mapN_gi _ (by omega)]
    have := okL j (by omega); omega
  generalize mapN (lsF ws) i = L at *
  generalize mapN (mrF ws) i = M at *
  have hZl : ((List.replicate (c.last + 1).toNat (0 : Int)).length : Int) = c.last + 1 := by simp; omega
  have pZ : sPromised c (List.replicate (c.last + 1).toNat 0) = true := promised_of hZl fun x hx => by
    have := (List.mem_replicate.1 hx).2; omega
  have hZv : vI (List.replicate (c.last + 1).toNat 0) = .ro (c.last + 1).toNat (zeros [vi 0] (c.last + 1).toNat) := by rw [vI, zeros_vi]; simp
  have hge : 0 ≤ c.last + 1 := by omega
  have hle : c.last + 1 ≤ 1000000 := by omega
  simp only [gos, if_true, if_false, ne_eq, eq_self, Nat.reduceLT, Nat.reduceEqDiff, Nat.reduceAdd, Nat.reduceMul, Nat.reduceLeDiff, Nat.reduceBEq, reduceCtorEq, reduceIte, Array.toList, ↓reduceIte, tt, vgo, vout, vgoD, voutD, vclsOk, vids, mayWrite, V.ids, V.mids, vguard, callOf, vop, ev, cv, vbin, vint, isShift, isNilConst, vnil, isNilSlice, vload, vlen, newRow, vfill, vslice, entOf, vappend, srcOf, vcopy, vlookup, vupdate, mapOk, keyOf, intsOf, clsAt]
  refine Cl.pu (c_lCopper c wf) ?_ rfl (by simp only [V.into, intoL, cB_into, vB_into, cI_into, cR_into, cD_into, cS_into, vS_into, vI_into, vR_into, vD_into, cu_into, Bool.true_and, Bool.and_true])
  simp only [gos, if_true, if_false, ne_eq, eq_self, Nat.reduceLT, Nat.reduceEqDiff, Nat.reduceAdd, Nat.reduceMul, Nat.reduceLeDiff, Nat.reduceBEq, reduceCtorEq, reduceIte, Array.toList, ↓reduceIte, tt, vgo, vout, vgoD, voutD, vclsOk, vids, mayWrite, V.ids, V.mids, vguard, callOf, vop, ev, cv, vbin, vint, isShift, isNilConst, vnil, isNilSlice, vload, vlen, newRow, vfill, vslice, entOf, vappend, srcOf, vcopy, vlookup, vupdate, mapOk, keyOf, intsOf, clsAt]
  refine Cl.pu (c_list L (by omega)) ?_ rfl (by simp only [V.into, intoL, cB_into, vB_into, cI_into, cR_into, cD_into, cS_into, vS_into, vI_into, vR_into, vD_into, cu_into, Bool.true_and, Bool.and_true])
  simp only [gos, if_true, if_false, ne_eq, eq_self, Nat.reduceLT, Nat.reduceEqDiff, Nat.reduceAdd, Nat.reduceMul, Nat.reduceLeDiff, Nat.reduceBEq, reduceCtorEq, reduceIte, Array.toList, ↓reduceIte, tt, vgo, vout, vgoD, voutD, vclsOk, vids, mayWrite, V.ids, V.mids, vguard, callOf, vop, ev, cv, vbin, vint, isShift, isNilConst, vnil, isNilSlice, vload, vlen, newRow, vfill, vslice, entOf, vappend, srcOf, vcopy, vlookup, vupdate, mapOk, keyOf, intsOf, clsAt]
  refine Cl.pu (c_More c wf L (by omega)) ?_ rfl (by simp only [V.into, intoL, cB_into, vB_into, cI_into, cR_into, cD_into, cS_into, vS_into, vI_into, vR_into, vD_into, cu_into, Bool.true_and, Bool.and_true])
  simp only [gos, if_true, if_false, ne_eq, eq_self, Nat.reduceLT, Nat.reduceEqDiff, Nat.reduceAdd, Nat.reduceMul, Nat.reduceLeDiff, Nat.reduceBEq, reduceCtorEq, reduceIte, Array.toList, ↓reduceIte, tt, vgo, vout, vgoD, voutD, vclsOk, vids, mayWrite, V.ids, V.mids, vguard, callOf, vop, ev, cv, vbin, vint, isShift, isNilConst, vnil, isNilSlice, vload, vlen, newRow, vfill, vslice, entOf, vappend, srcOf, vcopy, vlookup, vupdate, mapOk, keyOf, intsOf, clsAt]
  refine Cl.pu (c_lCopper c wf) ?_ rfl (by simp only [V.into, intoL, cB_into, vB_into, cI_into, cR_into, cD_into, cS_into, vS_into, vI_into, vR_into, vD_into, cu_into, Bool.true_and, Bool.and_true])
  simp only [gos, if_true, if_false, ne_eq, eq_self, Nat.reduceLT, Nat.reduceEqDiff, Nat.reduceAdd, Nat.reduceMul, Nat.reduceLeDiff, Nat.reduceBEq, reduceCtorEq, reduceIte, Array.toList, ↓reduceIte, tt, vgo, vout, vgoD, voutD, vclsOk, vids, mayWrite, V.ids, V.mids, vguard, callOf, vop, ev, cv, vbin, vint, isShift, isNilConst, vnil, isNilSlice, vload, vlen, newRow, vfill, vslice, entOf, vappend, srcOf, vcopy, vlookup, vupdate, mapOk, keyOf, intsOf, clsAt]
  refine Cl.pu (c_list M (by omega)) ?_ rfl (by simp only [V.into, intoL, cB_into, vB_into, cI_into, cR_into, cD_into, cS_into, vS_into, vI_into, vR_into, vD_into, cu_into, Bool.true_and, Bool.and_true])
  simp only [gos, if_true, if_false, ne_eq, eq_self, Nat.reduceLT, Nat.reduceEqDiff, Nat.reduceAdd, Nat.reduceMul, Nat.reduceLeDiff, Nat.reduceBEq, reduceCtorEq, reduceIte, Array.toList, ↓reduceIte, tt, vgo, vout, vgoD, voutD, vclsOk, vids, mayWrite, V.ids, V.mids, vguard, callOf, vop, ev, cv, vbin, vint, isShift, isNilConst, vnil, isNilSlice, vload, vlen, newRow, vfill, vslice, entOf, vappend, srcOf, vcopy, vlookup, vupdate, mapOk, keyOf, intsOf, clsAt]
  refine Cl.pu (c_More c wf M (by omega)) ?_ rfl (by simp only [V.into, intoL, cB_into, vB_into, cI_into, cR_into, cD_into, cS_into, vS_into, vI_into, vR_into, vD_into, cu_into, Bool.true_and, Bool.and_true])
  simp only [gos, if_true, if_false, ne_eq, eq_self, Nat.reduceLT, Nat.reduceEqDiff, Nat.reduceAdd, Nat.reduceMul, Nat.reduceLeDiff, Nat.reduceBEq, reduceCtorEq, reduceIte, Array.toList, ↓reduceIte, tt, vgo, vout, vgoD, voutD, vclsOk, vids, mayWrite, V.ids, V.mids, vguard, callOf, vop, ev, cv, vbin, vint, isShift, isNilConst, vnil, isNilSlice, vload, vlen, newRow, vfill, vslice, entOf, vappend, srcOf, vcopy, vlookup, vupdate, mapOk, keyOf, intsOf, clsAt]
  refine Wr.draw (by kernel_rfl) ?_
  simp only [gos, if_true, if_false, ne_eq, eq_self, Nat.reduceLT, Nat.reduceEqDiff, Nat.reduceAdd, Nat.reduceMul, Nat.reduceLeDiff, Nat.reduceBEq, reduceCtorEq, reduceIte, Array.toList, ↓reduceIte, tt, vgo, vout, vgoD, voutD, vclsOk, vids, mayWrite, V.ids, V.mids, vguard, callOf, vop, ev, cv, vbin, vint, isShift, isNilConst, vnil, isNilSlice, vload, vlen, newRow, vfill, vslice, entOf, vappend, srcOf, vcopy, vlookup, vupdate, mapOk, keyOf, intsOf, clsAt]
  refine CD.pu (c_lCopper c wf) ?_ rfl (by simp only [V.into, intoL, cB_into, vB_into, cI_into, cR_into, cD_into, cS_into, vS_into, vI_into, vR_into, vD_into, cu_into, Bool.true_and, Bool.and_true])
  simp only [gos, if_true, if_false, ne_eq, eq_self, Nat.reduceLT, Nat.reduceEqDiff, Nat.reduceAdd, Nat.reduceMul, Nat.reduceLeDiff, Nat.reduceBEq, reduceCtorEq, reduceIte, Array.toList, ↓reduceIte, tt, vgo, vout, vgoD, voutD, vclsOk, vids, mayWrite, V.ids, V.mids, vguard, callOf, vop, ev, cv, vbin, vint, isShift, isNilConst, vnil, isNilSlice, vload, vlen, newRow, vfill, vslice, entOf, vappend, srcOf, vcopy, vlookup, vupdate, mapOk, keyOf, intsOf, clsAt, hge, hle, i64_in (show -9223372036854775808 ≤ c.last + 1 by omega) (show c.last + 1 ≤ 9223372036854775807 by omega)]
  have htk : List.take (c.last + 1).toNat (cI (List.replicate (c.last + 1).toNat 0)) = cI (List.replicate (c.last + 1).toNat 0) := List.take_of_length_le (by rw [cI_len]; simp)
  refine CD.ev _ _ (Ev.lend 88 (ver := 0) (cs := cI (List.replicate (c.last + 1).toNat 0)) (args' := [.agg c.cs, vI (List.replicate (c.last + 1).toNat 0)]) (by rw [← zeros_vi]; rfl) (cI_into _ _) rfl rfl ?_
    (c_More c wf (List.replicate (c.last + 1).toNat 0) (by omega)) (fun _ _ _ h => by simpa only [VR, VRL] using h) rfl (by simp only [V.into, intoL, cB_into, vB_into, cI_into, cR_into, cD_into, cS_into, vS_into, vI_into, vR_into, vD_into, cu_into, Bool.true_and, Bool.and_true])) ?_
  · simp only [frzL, V.frz, cu_frz, if_true, List.drop_zero, Nat.mul_one, htk, vI]
    rw [List.length_replicate]
  simp only [gos, if_true, if_false, ne_eq, eq_self, Nat.reduceLT, Nat.reduceEqDiff, Nat.reduceAdd, Nat.reduceMul, Nat.reduceLeDiff, Nat.reduceBEq, reduceCtorEq, reduceIte, Array.toList, ↓reduceIte, tt, vgo, vout, vgoD, voutD, vclsOk, vids, mayWrite, V.ids, V.mids, vguard, callOf, vop, ev, cv, vbin, vint, isShift, isNilConst, vnil, isNilSlice, vload, vlen, newRow, vfill, vslice, entOf, vappend, srcOf, vcopy, vlookup, vupdate, mapOk, keyOf, intsOf, clsAt]
  refine Cl.pu (c_lCopper c wf) ?_ rfl (by simp only [V.into, intoL, cB_into, vB_into, cI_into, cR_into, cD_into, cS_into, vS_into, vI_into, vR_into, vD_into, cu_into, Bool.true_and, Bool.and_true])
  simp only [gos, if_true, if_false, ne_eq, eq_self, Nat.reduceLT, Nat.reduceEqDiff, Nat.reduceAdd, Nat.reduceMul, Nat.reduceLeDiff, Nat.reduceBEq, reduceCtorEq, reduceIte, Array.toList, ↓reduceIte, tt, vgo, vout, vgoD, voutD, vclsOk, vids, mayWrite, V.ids, V.mids, vguard, callOf, vop, ev, cv, vbin, vint, isShift, isNilConst, vnil, isNilSlice, vload, vlen, newRow, vfill, vslice, entOf, vappend, srcOf, vcopy, vlookup, vupdate, mapOk, keyOf, intsOf, clsAt]
  refine Cl.pu (c_Lacks c wf) ?_ rfl (by simp only [V.into, intoL, cB_into, vB_into, cI_into, cR_into, cD_into, cS_into, vS_into, vI_into, vR_into, vD_into, cu_into, Bool.true_and, Bool.and_true])
  simp only [gos, if_true, if_false, ne_eq, eq_self, Nat.reduceLT, Nat.reduceEqDiff, Nat.reduceAdd, Nat.reduceMul, Nat.reduceLeDiff, Nat.reduceBEq, reduceCtorEq, reduceIte, Array.toList, ↓reduceIte, tt, vgo, vout, vgoD, voutD, vclsOk, vids, mayWrite, V.ids, V.mids, vguard, callOf, vop, ev, cv, vbin, vint, isShift, isNilConst, vnil, isNilSlice, vload, vlen, newRow, vfill, vslice, entOf, vappend, srcOf, vcopy, vlookup, vupdate, mapOk, keyOf, intsOf, clsAt]
  refine Cl.pu (c_lCopper c wf) ?_ rfl (by simp only [V.into, intoL, cB_into, vB_into, cI_into, cR_into, cD_into, cS_into, vS_into, vI_into, vR_into, vD_into, cu_into, Bool.true_and, Bool.and_true])
  simp only [gos, if_true, if_false, ne_eq, eq_self, Nat.reduceLT, Nat.reduceEqDiff, Nat.reduceAdd, Nat.reduceMul, Nat.reduceLeDiff, Nat.reduceBEq, reduceCtorEq, reduceIte, Array.toList, ↓reduceIte, tt, vgo, vout, vgoD, voutD, vclsOk, vids, mayWrite, V.ids, V.mids, vguard, callOf, vop, ev, cv, vbin, vint, isShift, isNilConst, vnil, isNilSlice, vload, vlen, newRow, vfill, vslice, entOf, vappend, srcOf, vcopy, vlookup, vupdate, mapOk, keyOf, intsOf, clsAt]
  refine Cl.pu (c_Spare c wf k) ?_ rfl (by simp only [V.into, intoL, cB_into, vB_into, cI_into, cR_into, cD_into, cS_into, vS_into, vI_into, vR_into, vD_into, cu_into, Bool.true_and, Bool.and_true])
  have hkin : sIn (k : Int) 0 c.last = true := by simp only [sIn, Bool.and_eq_true, decide_eq_true_eq]; omega
  by_cases hA : sAsked c true = 0
  case neg =>
    have h11 := asked_11 h0 hA
    have e1 : sMoreA c L = (0, 11) := by rw [sMoreA, pL, if_neg hA, h11]
    have e2 : sMoreA c M = (0, 11) := by rw [sMoreA, pM, if_neg hA, h11]
    have e3 : sMoreA c (List.replicate (c.last + 1).toNat 0) = (0, 11) := by rw [sMoreA, pZ, if_neg hA, h11]
    have e4 := lacks_no hA
    have e5 : sSpareA c k = (0, 11) := by rw [sSpareA, hkin, if_neg hA, h11]
    have z1 : ((11 : Int) != 0) = true := rfl
    have z2 : decide ((11 : Int) = 11) = true := rfl
    rw [e1, e2, e3, e4, e5, h11]
    simp only [gos, if_true, if_false, ne_eq, eq_self, Nat.reduceLT, Nat.reduceEqDiff, Nat.reduceAdd, Nat.reduceMul, Nat.reduceLeDiff, Nat.reduceBEq, reduceCtorEq, reduceIte, Array.toList, ↓reduceIte, tt, vgo, vout, vgoD, voutD, vclsOk, vids, mayWrite, V.ids, V.mids, vguard, callOf, vop, ev, cv, vbin, vint, isShift, isNilConst, vnil, isNilSlice, vload, vlen, newRow, vfill, vslice, entOf, vappend, srcOf, vcopy, vlookup, vupdate, mapOk, keyOf, intsOf, clsAt, z1, z2]
    refine Cl.pu c_awake ?_
    simp only [gos, if_true, if_false, ne_eq, eq_self, Nat.reduceLT, Nat.reduceEqDiff, Nat.reduceAdd, Nat.reduceMul, Nat.reduceLeDiff, Nat.reduceBEq, reduceCtorEq, reduceIte, Array.toList, ↓reduceIte, tt, vgo, vout, vgoD, voutD, vclsOk, vids, mayWrite, V.ids, V.mids, vguard, callOf, vop, ev, cv, vbin, vint, isShift, isNilConst, vnil, isNilSlice, vload, vlen, newRow, vfill, vslice, entOf, vappend, srcOf, vcopy, vlookup, vupdate, mapOk, keyOf, intsOf, clsAt]
    subst hQ
    exact FnPost.plain trivial (v := .bool true) (fun h2 e => by rfl) (WkV.pure rfl) rfl
  have A := askOk_of hA
  have hne : rTruths c ≠ [] := fun e => A.ne ((same_nil A.k0).2 e)
  have e1 := more_eq A hA pL
  have e2 := more_eq A hA pM
  have e3 := more_eq A hA pZ
  rw [addL_zero] at e3
  have e4 := lacks_whole A hA
  have iU := wholes_in c (rTruths c) c.coal (addL c.want L)
  have iV := wholes_in c (rTruths c) c.coal (addL c.want M)
  have iW := wholes_in c (rTruths c) c.coal c.want
  have m1 := more_one k0 hne (coal := c.coal) LM
  have m2 := more_two k0 hne (coal := c.coal) LM
  have hgz : ∀ (b : List Int), (∀ j : Nat, j < (c.last + 1).toNat → 0 ≤ gi b j) → ∀ j : Nat, j < (c.last + 1).toNat → 0 ≤ gi (List.replicate (c.last + 1).toNat 0) j ∧ gi (List.replicate (c.last + 1).toNat 0) j ≤ gi b j := fun b hb j hj => by rw [gi_zeros]; exact ⟨by omega, hb j hj⟩
  have hSa := spare_some hkin hA
  have hmo : ∀ s : Int, 0 ≤ s → s ≤ 20 → sPromised c (moreAt c k s) = true ∧ sMoreA c (moreAt c k s) = (sWith c (sTruth c) (moreAt c k s), 0) := fun s s0 s1 => by
    have hp : sPromised c (moreAt c k s) = true := promised_of (by rw [moreAt_len]; omega) (moreAt_le ⟨s0, s1⟩)
    exact ⟨hp, by rw [sMoreA, hp, if_pos hA]⟩
  have hws : ∀ s : Int, sWith c (sTruth c) (moreAt c k s) = rWholes c (rTruths c) c.coal (addL c.want (moreAt c k s)) := fun s => with_same A.k0 A.ne (by have := A.k0.want.1; rw [moreAt_len]; omega)
  have hw1 : ∀ s : Int, 0 ≤ s → sWith c (sTruth c) (moreAt c k s) = 1 → rWholes c (rTruths c) c.coal c.want = 1 := fun s s0 h => by
    rw [hws] at h
    have := more_one k0 hne (hgz (moreAt c k s) fun j hj => by rw [moreAt_gi c hj]; split <;> omega) h
    rwa [addL_zero] at this
  have hw0 : sWith c (sTruth c) (moreAt c k 0) = rWholes c (rTruths c) c.coal c.want := by rw [hws, moreAt_zero, addL_zero]
  rw [e1, e2, e3]
  generalize rWholes c (rTruths c) c.coal (addL c.want L) = u at *
  generalize rWholes c (rTruths c) c.coal (addL c.want M) = v at *
  generalize rWholes c (rTruths c) c.coal c.want = w at *
  rw [e4]
  have z0 : ((0 : Int) != 0) = false := rfl
  have z0' : decide ((0 : Int) = 0) = true := rfl
  have b1 : (decide (v = 1) = false) ∨ (decide (v = 1) = true ∧ (u != 1) = false) := by
    by_cases h : v = 1
    · right; exact ⟨by simp [h], by simp [m1 h]⟩
    · left; simp [h]
  have b2 : (decide (u = 2) = false) ∨ (decide (u = 2) = true ∧ (v != 2) = false) := by
    by_cases h : u = 2
    · right; exact ⟨by simp [h], by simp [m2 h]⟩
    · left; simp [h]
  have b3 : (decide (w = 1) != decide ((if w = 1 then (7 : Int) else 0) = 7)) = false := by
    by_cases h : w = 1 <;> simp [h]
  rcases b1 with b1 | ⟨b1, b1'⟩ <;> rcases b2 with b2 | ⟨b2, b2'⟩
  case' inl.inl => simp only [gos, if_true, if_false, ne_eq, eq_self, Nat.reduceLT, Nat.reduceEqDiff, Nat.reduceAdd, Nat.reduceMul, Nat.reduceLeDiff, Nat.reduceBEq, reduceCtorEq, reduceIte, Array.toList, ↓reduceIte, tt, vgo, vout, vgoD, voutD, vclsOk, vids, mayWrite, V.ids, V.mids, vguard, callOf, vop, ev, cv, vbin, vint, isShift, isNilConst, vnil, isNilSlice, vload, vlen, newRow, vfill, vslice, entOf, vappend, srcOf, vcopy, vlookup, vupdate, mapOk, keyOf, intsOf, clsAt, z0, b1, b2, b3]
  case' inl.inr => simp only [gos, if_true, if_false, ne_eq, eq_self, Nat.reduceLT, Nat.reduceEqDiff, Nat.reduceAdd, Nat.reduceMul, Nat.reduceLeDiff, Nat.reduceBEq, reduceCtorEq, reduceIte, Array.toList, ↓reduceIte, tt, vgo, vout, vgoD, voutD, vclsOk, vids, mayWrite, V.ids, V.mids, vguard, callOf, vop, ev, cv, vbin, vint, isShift, isNilConst, vnil, isNilSlice, vload, vlen, newRow, vfill, vslice, entOf, vappend, srcOf, vcopy, vlookup, vupdate, mapOk, keyOf, intsOf, clsAt, z0, b1, b2, b2', b3]
  case' inr.inl => simp only [gos, if_true, if_false, ne_eq, eq_self, Nat.reduceLT, Nat.reduceEqDiff, Nat.reduceAdd, Nat.reduceMul, Nat.reduceLeDiff, Nat.reduceBEq, reduceCtorEq, reduceIte, Array.toList, ↓reduceIte, tt, vgo, vout, vgoD, voutD, vclsOk, vids, mayWrite, V.ids, V.mids, vguard, callOf, vop, ev, cv, vbin, vint, isShift, isNilConst, vnil, isNilSlice, vload, vlen, newRow, vfill, vslice, entOf, vappend, srcOf, vcopy, vlookup, vupdate, mapOk, keyOf, intsOf, clsAt, z0, b1, b1', b2, b3]
  case' inr.inr => simp only [gos, if_true, if_false, ne_eq, eq_self, Nat.reduceLT, Nat.reduceEqDiff, Nat.reduceAdd, Nat.reduceMul, Nat.reduceLeDiff, Nat.reduceBEq, reduceCtorEq, reduceIte, Array.toList, ↓reduceIte, tt, vgo, vout, vgoD, voutD, vclsOk, vids, mayWrite, V.ids, V.mids, vguard, callOf, vop, ev, cv, vbin, vint, isShift, isNilConst, vnil, isNilSlice, vload, vlen, newRow, vfill, vslice, entOf, vappend, srcOf, vcopy, vlookup, vupdate, mapOk, keyOf, intsOf, clsAt, z0, b1, b1', b2, b2', b3]
  all_goals
    rcases hSa with ⟨s, f1, s0, s20, f2, f3⟩ | ⟨f1, f2⟩
    · have hw := hw1 s s0 f2
      have f4 : sIn s 0 20 = true := by simp only [sIn, Bool.and_eq_true, decide_eq_true_eq]; omega
      have y1 : (w != 1) = false := by simp [hw]
      have y2 : ((1 : Int) != 1) = false := rfl
      obtain ⟨f5, f6⟩ := hmo s s0 s20
      rw [f2] at f6
      rw [f1]
      simp only [gos, if_true, if_false, ne_eq, eq_self, Nat.reduceLT, Nat.reduceEqDiff, Nat.reduceAdd, Nat.reduceMul, Nat.reduceLeDiff, Nat.reduceBEq, reduceCtorEq, reduceIte, Array.toList, ↓reduceIte, tt, vgo, vout, vgoD, voutD, vclsOk, vids, mayWrite, V.ids, V.mids, vguard, callOf, vop, ev, cv, vbin, vint, isShift, isNilConst, vnil, isNilSlice, vload, vlen, newRow, vfill, vslice, entOf, vappend, srcOf, vcopy, vlookup, vupdate, mapOk, keyOf, intsOf, clsAt, z0]
      refine Cl.pu (c_rIn s 0 20) ?_
      rw [f4]
      simp only [gos, if_true, if_false, ne_eq, eq_self, Nat.reduceLT, Nat.reduceEqDiff, Nat.reduceAdd, Nat.reduceMul, Nat.reduceLeDiff, Nat.reduceBEq, reduceCtorEq, reduceIte, Array.toList, ↓reduceIte, tt, vgo, vout, vgoD, voutD, vclsOk, vids, mayWrite, V.ids, V.mids, vguard, callOf, vop, ev, cv, vbin, vint, isShift, isNilConst, vnil, isNilSlice, vload, vlen, newRow, vfill, vslice, entOf, vappend, srcOf, vcopy, vlookup, vupdate, mapOk, keyOf, intsOf, clsAt, y1]
      refine Wr.draw (by kernel_rfl) ?_
      simp only [gos, if_true, if_false, ne_eq, eq_self, Nat.reduceLT, Nat.reduceEqDiff, Nat.reduceAdd, Nat.reduceMul, Nat.reduceLeDiff, Nat.reduceBEq, reduceCtorEq, reduceIte, Array.toList, ↓reduceIte, tt, vgo, vout, vgoD, voutD, vclsOk, vids, mayWrite, V.ids, V.mids, vguard, callOf, vop, ev, cv, vbin, vint, isShift, isNilConst, vnil, isNilSlice, vload, vlen, newRow, vfill, vslice, entOf, vappend, srcOf, vcopy, vlookup, vupdate, mapOk, keyOf, intsOf, clsAt]
      refine CD.pu (c_lCopper c wf) ?_ rfl (by simp only [V.into, intoL, cB_into, vB_into, cI_into, cR_into, cD_into, cS_into, vS_into, vI_into, vR_into, vD_into, cu_into, Bool.true_and, Bool.and_true])
      simp only [gos, if_true, if_false, ne_eq, eq_self, Nat.reduceLT, Nat.reduceEqDiff, Nat.reduceAdd, Nat.reduceMul, Nat.reduceLeDiff, Nat.reduceBEq, reduceCtorEq, reduceIte, Array.toList, ↓reduceIte, tt, vgo, vout, vgoD, voutD, vclsOk, vids, mayWrite, V.ids, V.mids, vguard, callOf, vop, ev, cv, vbin, vint, isShift, isNilConst, vnil, isNilSlice, vload, vlen, newRow, vfill, vslice, entOf, vappend, srcOf, vcopy, vlookup, vupdate, mapOk, keyOf, intsOf, clsAt]
      refine CD.pu (c_rSingle c hl k s (by omega)) ?_ rfl (by simp only [V.into, intoL, cB_into, vB_into, cI_into, cR_into, cD_into, cS_into, vS_into, vI_into, vR_into, vD_into, cu_into, Bool.true_and, Bool.and_true])
      simp only [gos, if_true, if_false, ne_eq, eq_self, Nat.reduceLT, Nat.reduceEqDiff, Nat.reduceAdd, Nat.reduceMul, Nat.reduceLeDiff, Nat.reduceBEq, reduceCtorEq, reduceIte, Array.toList, ↓reduceIte, tt, vgo, vout, vgoD, voutD, vclsOk, vids, mayWrite, V.ids, V.mids, vguard, callOf, vop, ev, cv, vbin, vint, isShift, isNilConst, vnil, isNilSlice, vload, vlen, newRow, vfill, vslice, entOf, vappend, srcOf, vcopy, vlookup, vupdate, mapOk, keyOf, intsOf, clsAt]
      refine CD.pu (c_More c wf (moreAt c k s) (by rw [moreAt_len]; omega)) ?_ rfl (by simp only [V.into, intoL, cB_into, vB_into, cI_into, cR_into, cD_into, cS_into, vS_into, vI_into, vR_into, vD_into, cu_into, Bool.true_and, Bool.and_true])
      rw [f6]
      simp only [gos, if_true, if_false, ne_eq, eq_self, Nat.reduceLT, Nat.reduceEqDiff, Nat.reduceAdd, Nat.reduceMul, Nat.reduceLeDiff, Nat.reduceBEq, reduceCtorEq, reduceIte, Array.toList, ↓reduceIte, tt, vgo, vout, vgoD, voutD, vclsOk, vids, mayWrite, V.ids, V.mids, vguard, callOf, vop, ev, cv, vbin, vint, isShift, isNilConst, vnil, isNilSlice, vload, vlen, newRow, vfill, vslice, entOf, vappend, srcOf, vcopy, vlookup, vupdate, mapOk, keyOf, intsOf, clsAt, z0, y2, i64_in (show -9223372036854775808 ≤ s + nn by omega) (show s + nn ≤ 9223372036854775807 by omega)]
      by_cases hsn : 20 < s + nn
      · simp only [gos, if_true, if_false, ne_eq, eq_self, Nat.reduceLT, Nat.reduceEqDiff, Nat.reduceAdd, Nat.reduceMul, Nat.reduceLeDiff, Nat.reduceBEq, reduceCtorEq, reduceIte, Array.toList, ↓reduceIte, tt, vgo, vout, vgoD, voutD, vclsOk, vids, mayWrite, V.ids, V.mids, vguard, callOf, vop, ev, cv, vbin, vint, isShift, isNilConst, vnil, isNilSlice, vload, vlen, newRow, vfill, vslice, entOf, vappend, srcOf, vcopy, vlookup, vupdate, mapOk, keyOf, intsOf, clsAt, hsn]
        refine Cl.pu c_awake ?_
        simp only [gos, if_true, if_false, ne_eq, eq_self, Nat.reduceLT, Nat.reduceEqDiff, Nat.reduceAdd, Nat.reduceMul, Nat.reduceLeDiff, Nat.reduceBEq, reduceCtorEq, reduceIte, Array.toList, ↓reduceIte, tt, vgo, vout, vgoD, voutD, vclsOk, vids, mayWrite, V.ids, V.mids, vguard, callOf, vop, ev, cv, vbin, vint, isShift, isNilConst, vnil, isNilSlice, vload, vlen, newRow, vfill, vslice, entOf, vappend, srcOf, vcopy, vlookup, vupdate, mapOk, keyOf, intsOf, clsAt]
        subst hQ
        exact FnPost.plain trivial (v := .bool true) (fun h2 e => by rfl) (WkV.pure rfl) rfl
      · obtain ⟨g5, g6⟩ := hmo (s + nn) (by omega) (by omega)
        have g7 := f3 (s + nn) (by omega) (by omega)
        have y3 : (sWith c (sTruth c) (moreAt c k (s + nn)) != 1) = true := by simp [g7]
        simp only [gos, if_true, if_false, ne_eq, eq_self, Nat.reduceLT, Nat.reduceEqDiff, Nat.reduceAdd, Nat.reduceMul, Nat.reduceLeDiff, Nat.reduceBEq, reduceCtorEq, reduceIte, Array.toList, ↓reduceIte, tt, vgo, vout, vgoD, voutD, vclsOk, vids, mayWrite, V.ids, V.mids, vguard, callOf, vop, ev, cv, vbin, vint, isShift, isNilConst, vnil, isNilSlice, vload, vlen, newRow, vfill, vslice, entOf, vappend, srcOf, vcopy, vlookup, vupdate, mapOk, keyOf, intsOf, clsAt, hsn]
        refine Wr.draw (by kernel_rfl) ?_
        simp only [gos, if_true, if_false, ne_eq, eq_self, Nat.reduceLT, Nat.reduceEqDiff, Nat.reduceAdd, Nat.reduceMul, Nat.reduceLeDiff, Nat.reduceBEq, reduceCtorEq, reduceIte, Array.toList, ↓reduceIte, tt, vgo, vout, vgoD, voutD, vclsOk, vids, mayWrite, V.ids, V.mids, vguard, callOf, vop, ev, cv, vbin, vint, isShift, isNilConst, vnil, isNilSlice, vload, vlen, newRow, vfill, vslice, entOf, vappend, srcOf, vcopy, vlookup, vupdate, mapOk, keyOf, intsOf, clsAt]
        refine CD.pu (c_lCopper c wf) ?_ rfl (by simp only [V.into, intoL, cB_into, vB_into, cI_into, cR_into, cD_into, cS_into, vS_into, vI_into, vR_into, vD_into, cu_into, Bool.true_and, Bool.and_true])
        simp only [gos, if_true, if_false, ne_eq, eq_self, Nat.reduceLT, Nat.reduceEqDiff, Nat.reduceAdd, Nat.reduceMul, Nat.reduceLeDiff, Nat.reduceBEq, reduceCtorEq, reduceIte, Array.toList, ↓reduceIte, tt, vgo, vout, vgoD, voutD, vclsOk, vids, mayWrite, V.ids, V.mids, vguard, callOf, vop, ev, cv, vbin, vint, isShift, isNilConst, vnil, isNilSlice, vload, vlen, newRow, vfill, vslice, entOf, vappend, srcOf, vcopy, vlookup, vupdate, mapOk, keyOf, intsOf, clsAt, i64_in (show -9223372036854775808 ≤ s + nn by omega) (show s + nn ≤ 9223372036854775807 by omega)]
        refine CD.pu (c_rSingle c hl k (s + nn) (by omega)) ?_ rfl (by simp only [V.into, intoL, cB_into, vB_into, cI_into, cR_into, cD_into, cS_into, vS_into, vI_into, vR_into, vD_into, cu_into, Bool.true_and, Bool.and_true])
        simp only [gos, if_true, if_false, ne_eq, eq_self, Nat.reduceLT, Nat.reduceEqDiff, Nat.reduceAdd, Nat.reduceMul, Nat.reduceLeDiff, Nat.reduceBEq, reduceCtorEq, reduceIte, Array.toList, ↓reduceIte, tt, vgo, vout, vgoD, voutD, vclsOk, vids, mayWrite, V.ids, V.mids, vguard, callOf, vop, ev, cv, vbin, vint, isShift, isNilConst, vnil, isNilSlice, vload, vlen, newRow, vfill, vslice, entOf, vappend, srcOf, vcopy, vlookup, vupdate, mapOk, keyOf, intsOf, clsAt]
        refine CD.pu (c_More c wf (moreAt c k (s + nn)) (by rw [moreAt_len]; omega)) ?_ rfl (by simp only [V.into, intoL, cB_into, vB_into, cI_into, cR_into, cD_into, cS_into, vS_into, vI_into, vR_into, vD_into, cu_into, Bool.true_and, Bool.and_true])
        rw [g6]
        simp only [gos, if_true, if_false, ne_eq, eq_self, Nat.reduceLT, Nat.reduceEqDiff, Nat.reduceAdd, Nat.reduceMul, Nat.reduceLeDiff, Nat.reduceBEq, reduceCtorEq, reduceIte, Array.toList, ↓reduceIte, tt, vgo, vout, vgoD, voutD, vclsOk, vids, mayWrite, V.ids, V.mids, vguard, callOf, vop, ev, cv, vbin, vint, isShift, isNilConst, vnil, isNilSlice, vload, vlen, newRow, vfill, vslice, entOf, vappend, srcOf, vcopy, vlookup, vupdate, mapOk, keyOf, intsOf, clsAt, z0', y3]
        refine Cl.pu c_awake ?_
        simp only [gos, if_true, if_false, ne_eq, eq_self, Nat.reduceLT, Nat.reduceEqDiff, Nat.reduceAdd, Nat.reduceMul, Nat.reduceLeDiff, Nat.reduceBEq, reduceCtorEq, reduceIte, Array.toList, ↓reduceIte, tt, vgo, vout, vgoD, voutD, vclsOk, vids, mayWrite, V.ids, V.mids, vguard, callOf, vop, ev, cv, vbin, vint, isShift, isNilConst, vnil, isNilSlice, vload, vlen, newRow, vfill, vslice, entOf, vappend, srcOf, vcopy, vlookup, vupdate, mapOk, keyOf, intsOf, clsAt]
        subst hQ
        exact FnPost.plain trivial (v := .bool true) (fun h2 e => by rfl) (WkV.pure rfl) rfl
    · have hw : ¬ w = 1 := fun e => f2 0 (by omega) (by omega) (by rw [hw0, e])
      have y1 : (w != 1) = true := by simp [hw]
      have y2 : ((10 : Int) != 0) = true := rfl
      have y3 : decide ((10 : Int) = 10) = true := rfl
      rw [f1]
      simp only [gos, if_true, if_false, ne_eq, eq_self, Nat.reduceLT, Nat.reduceEqDiff, Nat.reduceAdd, Nat.reduceMul, Nat.reduceLeDiff, Nat.reduceBEq, reduceCtorEq, reduceIte, Array.toList, ↓reduceIte, tt, vgo, vout, vgoD, voutD, vclsOk, vids, mayWrite, V.ids, V.mids, vguard, callOf, vop, ev, cv, vbin, vint, isShift, isNilConst, vnil, isNilSlice, vload, vlen, newRow, vfill, vslice, entOf, vappend, srcOf, vcopy, vlookup, vupdate, mapOk, keyOf, intsOf, clsAt, y1, y2, y3]
      refine Cl.pu c_awake ?_
      simp only [gos, if_true, if_false, ne_eq, eq_self, Nat.reduceLT, Nat.reduceEqDiff, Nat.reduceAdd, Nat.reduceMul, Nat.reduceLeDiff, Nat.reduceBEq, reduceCtorEq, reduceIte, Array.toList, ↓reduceIte, tt, vgo, vout, vgoD, voutD, vclsOk, vids, mayWrite, V.ids, V.mids, vguard, callOf, vop, ev, cv, vbin, vint, isShift, isNilConst, vnil, isNilSlice, vload, vlen, newRow, vfill, vslice, entOf, vappend, srcOf, vcopy, vlookup, vupdate, mapOk, keyOf, intsOf, clsAt]
      subst hQ
      exact FnPost.plain trivial (v := .bool true) (fun h2 e => by rfl) (WkV.pure rfl) rfl
end Go.Vm
