/-
The Go law CopperWider returns true for every input, and its arguments read behind the call as they read before. Conditions: none.
-/
import Derived.Test.YtjbgmnpbpmljaaaQ15x1
set_option linter.unusedVariables false
set_option linter.unusedSimpArgs false
set_option maxRecDepth 100000
namespace Go.Vm
open Go.Proofs
theorem cR_one : ∀ l : List Rg, oneL (cR l) = true
  | [] => rfl
  | r :: l => by simp only [cR, oneL, V.one, Bool.true_and, cR_one l]
theorem cD_one : ∀ l : List Rd, oneL (cD l) = true
  | [] => rfl
  | r :: l => by simp only [cD, oneL, V.one, Bool.true_and, cD_one l]
theorem cR_put0 : ∀ {l : List Rg} {i : Nat} (a : Int), i < l.length → List.take (i * 2) (cR l) ++ [vi a] ++ List.drop (i * 2 + 1) (cR l) = cR (l.set i ⟨a, (gR l i).hi⟩)
  | [], i, a, h => by simp at h
  | r :: l, 0, a, _ => by simp [cR, gR]
  | r :: l, i + 1, a, h => by
    have ih := cR_put0 (l := l) (i := i) a (by simpa using h)
    have e : gR (r :: l) ((i + 1 : Nat) : Int) = gR l (i : Nat) := by simp [gR]
    rw [e, List.set_cons_succ, cR, cR, ← ih, show (i + 1) * 2 = i * 2 + 1 + 1 by omega]
    simp
theorem cR_put1 : ∀ {l : List Rg} {i : Nat} (a : Int), i < l.length → List.take (i * 2 + 1) (cR l) ++ [vi a] ++ List.drop (i * 2 + 1 + 1) (cR l) = cR (l.set i ⟨(gR l i).lo, a⟩)
  | [], i, a, h => by simp at h
  | r :: l, 0, a, _ => by simp [cR, gR]
  | r :: l, i + 1, a, h => by
    have ih := cR_put1 (l := l) (i := i) a (by simpa using h)
    have e : gR (r :: l) ((i + 1 : Nat) : Int) = gR l (i : Nat) := by simp [gR]
    rw [e, List.set_cons_succ, cR, cR, ← ih, show (i + 1) * 2 = i * 2 + 1 + 1 by omega]
    simp
theorem cR_hi : ∀ {l : List Rg} {i : Nat}, i < l.length → (cR l).drop (i * 2 + 1) = vi (gR l i).hi :: cR (l.drop (i + 1))
  | [], i, h => by simp at h
  | r :: l, 0, _ => by simp [cR, gR]
  | r :: l, i + 1, h => by
    have ih := cR_hi (l := l) (i := i) (by simpa using h)
    have e : gR (r :: l) ((i + 1 : Nat) : Int) = gR l (i : Nat) := by simp [gR]
    rw [e, List.drop_succ_cons, ← ih, cR, show (i + 1) * 2 = i * 2 + 1 + 1 by omega]
    simp
theorem cD_put1 : ∀ {l : List Rd} {i : Nat} (a : Int), i < l.length → List.take (i * 3 + 1) (cD l) ++ [vi a] ++ List.drop (i * 3 + 1 + 1) (cD l) = cD (l.set i ⟨(gD l i).hour, ⟨a, (gD l i).b.hi⟩⟩)
  | [], i, a, h => by simp at h
  | r :: l, 0, a, _ => by simp [cD, gD]
  | r :: l, i + 1, a, h => by
    have ih := cD_put1 (l := l) (i := i) a (by simpa using h)
    have e : gD (r :: l) ((i + 1 : Nat) : Int) = gD l (i : Nat) := by simp [gD]
    rw [e, List.set_cons_succ, cD, cD, ← ih, show (i + 1) * 3 = i * 3 + 1 + 1 + 1 by omega]
    simp
theorem cD_put2 : ∀ {l : List Rd} {i : Nat} (a : Int), i < l.length → List.take (i * 3 + 1 + 1) (cD l) ++ [vi a] ++ List.drop (i * 3 + 1 + 1 + 1) (cD l) = cD (l.set i ⟨(gD l i).hour, ⟨(gD l i).b.lo, a⟩⟩)
  | [], i, a, h => by simp at h
  | r :: l, 0, a, _ => by simp [cD, gD]
  | r :: l, i + 1, a, h => by
    have ih := cD_put2 (l := l) (i := i) a (by simpa using h)
    have e : gD (r :: l) ((i + 1 : Nat) : Int) = gD l (i : Nat) := by simp [gD]
    rw [e, List.set_cons_succ, cD, cD, ← ih, show (i + 1) * 3 = i * 3 + 1 + 1 + 1 by omega]
    simp
theorem cD_lo {l : List Rd} {i : Nat} (h : i < l.length) : (cD l).drop (i * 3 + 1) = vi (gD l i).b.lo :: vi (gD l i).b.hi :: cD (l.drop (i + 1)) := by
  have e := cD_at (l := l) (n := (i : Int)) (by omega) (by omega)
  rw [Int.toNat_natCast] at e
  rw [← List.drop_drop, e]; rfl
theorem cD_hi {l : List Rd} {i : Nat} (h : i < l.length) : (cD l).drop (i * 3 + 1 + 1) = vi (gD l i).b.hi :: cD (l.drop (i + 1)) := by
  rw [← List.drop_drop, cD_lo h]; rfl
set_option maxHeartbeats 16000000 in
theorem l_CopperWider (c : Cu) (hc : I64 c.last) (which : Int) (hwh : 0 ≤ which ∧ which ≤ 255) (by1 : Int) (hb : 0 ≤ by1 ∧ by1 ≤ 255) (coal : Int) (ho : 0 ≤ coal ∧ coal ≤ 65535) :
    Vm.Fn Try.prog 15 [.agg c.cs, .int .u8 which, .int .u8 by1, .int .u16 coal] [] fun v h' => v = .bool true := by
  refine Fn.body tabOk Try.func15 rfl (Nat.le_of_ble_eq_true rfl) (Ks.ok (fz := (fzn [])) (cl := (cln [(12, .d (tgL [(9, 1), (35, 2), (40, 3)]) [cP, cP, cP, cP, cP, some ([1, 2, 3], []), cP, cP, cP, cP, cP, cP, cP, some ([1, 2, 3], []), cP, cP, cP, cP, cP, cP, cP, some ([1, 2, 3], [1, 2, 3]), cP, cP, some ([1, 2, 3], [1, 2, 3])]), (13, .ex), (21, .d tg0 [cP, cP, cP, cP, cP, cP, cP, cP])])) tabOk mixed ?_)
  generalize hQ : FnPost tt Try.f15 _ _ = Q
  simp only [Try.f15, List.nil_append, List.append_nil, List.cons_append, argsEnv, Nat.reduceAdd]
  simp only [gos, if_true, if_false, ne_eq, eq_self, Nat.reduceLT, Nat.reduceEqDiff, Nat.reduceAdd, Nat.reduceMul, Nat.reduceLeDiff, Nat.reduceBEq, reduceCtorEq, reduceIte, Array.toList, ↓reduceIte, tt, vgo, vout, vgoD, voutD, vclsOk, vids, mayWrite, V.ids, V.mids, vguard, callOf, vop, ev, cv, vbin, vint, isShift, isNilConst, vnil, isNilSlice, vload, vlen, newRow, vfill, vslice, entOf, vappend, srcOf, vcopy, vlookup, vupdate, mapOk, keyOf, intsOf, clsAt]
  refine Cl.pu (c_ready c hc) ?_ rfl (by simp only [V.into, intoL, cB_into, vB_into, cI_into, cR_into, cD_into, cS_into, vS_into, vI_into, vR_into, vD_into, cu_into, Bool.true_and, Bool.and_true])
  cases hts : sReady c with
  | false =>
    simp only [gos, if_true, if_false, ne_eq, eq_self, Nat.reduceLT, Nat.reduceEqDiff, Nat.reduceAdd, Nat.reduceMul, Nat.reduceLeDiff, Nat.reduceBEq, reduceCtorEq, reduceIte, Array.toList, ↓reduceIte, tt, vgo, vout, vgoD, voutD, vclsOk, vids, mayWrite, V.ids, V.mids, vguard, callOf, vop, ev, cv, vbin, vint, isShift, isNilConst, vnil, isNilSlice, vload, vlen, newRow, vfill, vslice, entOf, vappend, srcOf, vcopy, vlookup, vupdate, mapOk, keyOf, intsOf, clsAt]
    refine Cl.pu c_awake ?_
    simp only [gos, if_true, if_false, ne_eq, eq_self, Nat.reduceLT, Nat.reduceEqDiff, Nat.reduceAdd, Nat.reduceMul, Nat.reduceLeDiff, Nat.reduceBEq, reduceCtorEq, reduceIte, Array.toList, ↓reduceIte, tt, vgo, vout, vgoD, voutD, vclsOk, vids, mayWrite, V.ids, V.mids, vguard, callOf, vop, ev, cv, vbin, vint, isShift, isNilConst, vnil, isNilSlice, vload, vlen, newRow, vfill, vslice, entOf, vappend, srcOf, vcopy, vlookup, vupdate, mapOk, keyOf, intsOf, clsAt]
    subst hQ
    exact FnPost.plain trivial (v := .bool true) (fun h2 e => by rfl) WkV.refl rfl
  | true =>
  obtain ⟨hth, h0⟩ := ready_ok hts
  have wf := thin_wf hc hth
  have k0 := sCheck_ok h0
  have hl := k0.last
  have hlo := k0.loss.1
  have hrd := k0.rds
  have hR1 : (cR c.loss).length = c.loss.length * 2 := cR_len _
  have hD1 : (cD c.readings).length = c.readings.length * 3 := cD_len _
  have hl6 : c.loss.length ≤ 1000000 := by omega
  have hr6 : c.readings.length ≤ 1000000 := by omega
  have hS1 : 1 ≤ 1 + (c.loss.length : Int) + (c.readings.length : Int) ∧ 1 + (c.loss.length : Int) + (c.readings.length : Int) ≤ 20 := by omega
  have hz : ¬ 1 + (c.loss.length : Int) + (c.readings.length : Int) = 0 := by omega
  have tR : List.take (c.loss.length * 2) (cR c.loss) = cR c.loss := List.take_of_length_le (by omega)
  have tD : List.take (c.readings.length * 3) (cD c.readings) = cD c.readings := List.take_of_length_le (by omega)
  have hkm := tmod_le hwh.1 hS1.1
  simp only [gos, if_true, if_false, ne_eq, eq_self, Nat.reduceLT, Nat.reduceEqDiff, Nat.reduceAdd, Nat.reduceMul, Nat.reduceLeDiff, Nat.reduceBEq, reduceCtorEq, reduceIte, Array.toList, ↓reduceIte, tt, vgo, vout, vgoD, voutD, vclsOk, vids, mayWrite, V.ids, V.mids, vguard, callOf, vop, ev, cv, vbin, vint, isShift, isNilConst, vnil, isNilSlice, vload, vlen, newRow, vfill, vslice, entOf, vappend, srcOf, vcopy, vlookup, vupdate, mapOk, keyOf, intsOf, clsAt, Cu.cs, vR, vD, hR1, hD1, hl6, hr6, cR_one, cD_one, tR, tD, hz, i64_in (show -9223372036854775808 ≤ which by omega) (show which ≤ 9223372036854775807 by omega), i64_in (show -9223372036854775808 ≤ 1 + (c.loss.length : Int) by omega) (show 1 + (c.loss.length : Int) ≤ 9223372036854775807 by omega), i64_in (show -9223372036854775808 ≤ 1 + (c.loss.length : Int) + (c.readings.length : Int) by omega) (show 1 + (c.loss.length : Int) + (c.readings.length : Int) ≤ 9223372036854775807 by omega)]
  generalize which.tmod (1 + (c.loss.length : Int) + (c.readings.length : Int)) = kk at hkm ⊢
  have hbm := tmod_le hb.1 (s := 2) (by omega)
  have hbd := Int.tdiv_nonneg hb.1 (show (0 : Int) ≤ 2 by omega)
  have hbd2 : by1.tdiv 2 ≤ 255 := Int.le_trans (Int.tdiv_le_self 2 hb.1) hb.2
  have hbe := tmod_le hbd (s := 2) (by omega)
  have z2 : ¬ (2 : Int) = 0 := by omega
  have wb := i64_in (show -9223372036854775808 ≤ by1 by omega) (show by1 ≤ 9223372036854775807 by omega)
  have wd := i64_in (show -9223372036854775808 ≤ by1.tdiv 2 by omega) (show by1.tdiv 2 ≤ 9223372036854775807 by omega)
  have hkx : kk = 0 ∨ (∃ j : Nat, kk = (j : Int) + 1 ∧ j < c.loss.length) ∨ ∃ j : Nat, kk = (c.loss.length : Int) + 1 + (j : Int) ∧ j < c.readings.length := by
    by_cases h1 : kk = 0
    · exact .inl h1
    · by_cases h2 : kk ≤ c.loss.length
      · exact .inr (.inl ⟨(kk - 1).toNat, by omega, by omega⟩)
      · exact .inr (.inr ⟨(kk - c.loss.length - 1).toNat, by omega, by omega⟩)
  rcases hkx with hkh | ⟨j, hkj, hj⟩ | ⟨j, hkj, hj⟩
  case' inl =>
    subst hkh
    have n1 : ¬ ((c.loss.length : Int) < 0) := by omega
    have hhe := k0.heat
    simp only [sInside, Bool.and_eq_true, decide_eq_true_eq] at hhe
    have w1 := i64_in (show -9223372036854775808 ≤ c.heat.lo - by1.tmod 2 by omega) (show c.heat.lo - by1.tmod 2 ≤ 9223372036854775807 by omega)
    have w2 := i64_in (show -9223372036854775808 ≤ c.heat.hi + (by1.tdiv 2).tmod 2 by omega) (show c.heat.hi + (by1.tdiv 2).tmod 2 ≤ 9223372036854775807 by omega)
    simp only [gos, if_true, if_false, ne_eq, eq_self, Nat.reduceLT, Nat.reduceEqDiff, Nat.reduceAdd, Nat.reduceMul, Nat.reduceLeDiff, Nat.reduceBEq, reduceCtorEq, reduceIte, Array.toList, ↓reduceIte, tt, vgo, vout, vgoD, voutD, vclsOk, vids, mayWrite, V.ids, V.mids, vguard, callOf, vop, ev, cv, vbin, vint, isShift, isNilConst, vnil, isNilSlice, vload, vlen, newRow, vfill, vslice, entOf, vappend, srcOf, vcopy, vlookup, vupdate, mapOk, keyOf, intsOf, clsAt, n1, show ¬ (0 : Int) < 0 by omega]
    refine Wr.draw (by kernel_rfl) ?_
    simp only [gos, if_true, if_false, ne_eq, eq_self, Nat.reduceLT, Nat.reduceEqDiff, Nat.reduceAdd, Nat.reduceMul, Nat.reduceLeDiff, Nat.reduceBEq, reduceCtorEq, reduceIte, Array.toList, ↓reduceIte, tt, vgo, vout, vgoD, voutD, vclsOk, vids, mayWrite, V.ids, V.mids, vguard, callOf, vop, ev, cv, vbin, vint, isShift, isNilConst, vnil, isNilSlice, vload, vlen, newRow, vfill, vslice, entOf, vappend, srcOf, vcopy, vlookup, vupdate, mapOk, keyOf, intsOf, clsAt, z2, wb, wd, w1, w2]
    refine Wr.at tabOk 0 ?_
    simp only [gos, if_true, if_false, ne_eq, eq_self, Nat.reduceLT, Nat.reduceEqDiff, Nat.reduceAdd, Nat.reduceMul, Nat.reduceLeDiff, Nat.reduceBEq, reduceCtorEq, reduceIte, Array.toList, ↓reduceIte, tt, vgo, vout, vgoD, voutD, vclsOk, vids, mayWrite, V.ids, V.mids, vguard, callOf, vop, ev, cv, vbin, vint, isShift, isNilConst, vnil, isNilSlice, vload, vlen, newRow, vfill, vslice, entOf, vappend, srcOf, vcopy, vlookup, vupdate, mapOk, keyOf, intsOf, clsAt]
    refine Wa.mk (ρ2 := [(4, .rop c.cs), (3, .int .u16 coal), (9, .rop (widH c (by1.tmod 2) ((by1.tdiv 2).tmod 2)).cs)]) (h2 := []) ?_ ?_
    · refine Wk.trans (Wk.env (ρ' := [(4, .rop c.cs), (3, .int .u16 coal), (9, .ptr 9 0 0)]) (by simp [subE, Env.get, Cu.cs, vR, vD])) ?_
      refine Wk.trans (Wk.freeze 35 rfl rfl (cR_into _ _) rfl) ?_
      simp only [frzE, frzH, Blk.frz, V.frz, frzL, cI_frz, cR_frz, cD_frz, vI, vR, vD, cu_frz, gos, if_true, if_false, ne_eq, eq_self, Nat.reduceLT, Nat.reduceEqDiff, Nat.reduceAdd, Nat.reduceMul, Nat.reduceLeDiff, Nat.reduceBEq, reduceCtorEq, reduceIte, Array.toList, ↓reduceIte, tt, vgo, vout, vgoD, voutD, vclsOk, vids, mayWrite, V.ids, V.mids, vguard, callOf, vop, ev, cv, vbin, vint, isShift, isNilConst, vnil, isNilSlice, vload, vlen, newRow, vfill, vslice, entOf, vappend, srcOf, vcopy, vlookup, vupdate, mapOk, keyOf, intsOf, clsAt, tR, tD, Nat.mul_one]
      refine Wk.trans (Wk.freeze 40 rfl rfl (cD_into _ _) rfl) ?_
      simp only [frzE, frzH, Blk.frz, V.frz, frzL, cI_frz, cR_frz, cD_frz, vI, vR, vD, cu_frz, gos, if_true, if_false, ne_eq, eq_self, Nat.reduceLT, Nat.reduceEqDiff, Nat.reduceAdd, Nat.reduceMul, Nat.reduceLeDiff, Nat.reduceBEq, reduceCtorEq, reduceIte, Array.toList, ↓reduceIte, tt, vgo, vout, vgoD, voutD, vclsOk, vids, mayWrite, V.ids, V.mids, vguard, callOf, vop, ev, cv, vbin, vint, isShift, isNilConst, vnil, isNilSlice, vload, vlen, newRow, vfill, vslice, entOf, vappend, srcOf, vcopy, vlookup, vupdate, mapOk, keyOf, intsOf, clsAt, tR, tD, Nat.mul_one]
      refine Wk.trans (Wk.freeze 9 rfl rfl (by simp only [V.into, intoL, cB_into, vB_into, cI_into, cR_into, cD_into, cS_into, vS_into, vI_into, vR_into, vD_into, cu_into, Bool.true_and, Bool.and_true]) rfl) ?_
      simp only [frzE, frzH, Blk.frz, V.frz, frzL, cI_frz, cR_frz, cD_frz, vI, vR, vD, cu_frz, gos, if_true, if_false, ne_eq, eq_self, Nat.reduceLT, Nat.reduceEqDiff, Nat.reduceAdd, Nat.reduceMul, Nat.reduceLeDiff, Nat.reduceBEq, reduceCtorEq, reduceIte, Array.toList, ↓reduceIte, tt, vgo, vout, vgoD, voutD, vclsOk, vids, mayWrite, V.ids, V.mids, vguard, callOf, vop, ev, cv, vbin, vint, isShift, isNilConst, vnil, isNilSlice, vload, vlen, newRow, vfill, vslice, entOf, vappend, srcOf, vcopy, vlookup, vupdate, mapOk, keyOf, intsOf, clsAt, tR, tD, Nat.mul_one]
      exact Wk.env (by simp [subE, Env.get, vI, vR, vD, Cu.cs, widH, widR, tR, tD])
    have W := wideH c (a := by1.tmod 2) (b := (by1.tdiv 2).tmod 2) hbm.1 hbe.1
    generalize widH c (by1.tmod 2) ((by1.tdiv 2).tmod 2) = x at W ⊢
  case' inr.inl =>
    subst hkj
    have n1 : ¬ ((c.loss.length : Int) < (j : Int) + 1) := by omega
    have n2 : (0 : Int) < (j : Int) + 1 := by omega
    have hhe := k0.loss.2 (gR c.loss j) (by
      have := gR_get (l := c.loss) (i := j) (by omega)
      exact List.mem_of_getElem? this)
    simp only [sInside, Bool.and_eq_true, decide_eq_true_eq] at hhe
    have w0 : IntKind.i64.wrap ((j : Int) + 1 - 1) = (j : Int) := by rw [i64_in (by omega) (by omega)]; omega
    have n3 : (0 : Int) ≤ (j : Int) := by omega
    have n4 : (j : Int) < (c.loss.length : Int) := by omega
    have w1 := i64_in (show -9223372036854775808 ≤ (gR c.loss j).lo - by1.tmod 2 by omega) (show (gR c.loss j).lo - by1.tmod 2 ≤ 9223372036854775807 by omega)
    have w2 := i64_in (show -9223372036854775808 ≤ (gR c.loss j).hi + (by1.tdiv 2).tmod 2 by omega) (show (gR c.loss j).hi + (by1.tdiv 2).tmod 2 ≤ 9223372036854775807 by omega)
    have d0 := cR_at (l := c.loss) (n := (j : Int)) n3 n4
    rw [Int.toNat_natCast] at d0
    have d1 := cR_hi (l := c.loss) hj
    simp only [gos, if_true, if_false, ne_eq, eq_self, Nat.reduceLT, Nat.reduceEqDiff, Nat.reduceAdd, Nat.reduceMul, Nat.reduceLeDiff, Nat.reduceBEq, reduceCtorEq, reduceIte, Array.toList, ↓reduceIte, tt, vgo, vout, vgoD, voutD, vclsOk, vids, mayWrite, V.ids, V.mids, vguard, callOf, vop, ev, cv, vbin, vint, isShift, isNilConst, vnil, isNilSlice, vload, vlen, newRow, vfill, vslice, entOf, vappend, srcOf, vcopy, vlookup, vupdate, mapOk, keyOf, intsOf, clsAt, n1, n2, w0, n3, n4, Int.toNat_natCast, Nat.zero_add]
    refine Wr.draw (by kernel_rfl) ?_
    have q1 : ∀ a : Int, List.take (j * 2) (cR c.loss) ++ [V.int IntKind.i64 a] ++ List.drop (j * 2 + 1) (cR c.loss) = cR (c.loss.set j ⟨a, (gR c.loss j).hi⟩) := fun a => cR_put0 a hj
    have hj1 : j * 2 + 1 ≤ (cR c.loss).length := by omega
    have q2 : ∀ a b : Int, List.take (j * 2 + 1) (cR (c.loss.set j ⟨a, (gR c.loss j).hi⟩)) ++ [V.int IntKind.i64 b] ++ List.drop (j * 2 + 1 + 1) (cR (c.loss.set j ⟨a, (gR c.loss j).hi⟩)) = cR (c.loss.set j ⟨a, b⟩) := fun a b => by
      have := cR_put1 (l := c.loss.set j ⟨a, (gR c.loss j).hi⟩) (i := j) b (by simpa using hj)
      rw [gR_set _ hj, if_pos rfl, List.set_set] at this
      exact this
    have hj2 : ∀ a, j * 2 + 1 + 1 ≤ (cR (c.loss.set j a)).length := fun a => by rw [cR_len, List.length_set]; omega
    simp only [d1] at q1
    simp only [gos, if_true, if_false, ne_eq, eq_self, Nat.reduceLT, Nat.reduceEqDiff, Nat.reduceAdd, Nat.reduceMul, Nat.reduceLeDiff, Nat.reduceBEq, reduceCtorEq, reduceIte, Array.toList, ↓reduceIte, tt, vgo, vout, vgoD, voutD, vclsOk, vids, mayWrite, V.ids, V.mids, vguard, callOf, vop, ev, cv, vbin, vint, isShift, isNilConst, vnil, isNilSlice, vload, vlen, newRow, vfill, vslice, entOf, vappend, srcOf, vcopy, vlookup, vupdate, mapOk, keyOf, intsOf, clsAt, z2, wb, wd, w1, w2, d0, d1, q1, q2, hj1, hj2, Nat.add_zero]
    have tR' : ∀ a, List.take (c.loss.length * 2) (cR (c.loss.set j a)) = cR (c.loss.set j a) := fun a => List.take_of_length_le (by rw [cR_len, List.length_set]; omega)
    refine Wr.at tabOk 0 ?_
    simp only [gos, if_true, if_false, ne_eq, eq_self, Nat.reduceLT, Nat.reduceEqDiff, Nat.reduceAdd, Nat.reduceMul, Nat.reduceLeDiff, Nat.reduceBEq, reduceCtorEq, reduceIte, Array.toList, ↓reduceIte, tt, vgo, vout, vgoD, voutD, vclsOk, vids, mayWrite, V.ids, V.mids, vguard, callOf, vop, ev, cv, vbin, vint, isShift, isNilConst, vnil, isNilSlice, vload, vlen, newRow, vfill, vslice, entOf, vappend, srcOf, vcopy, vlookup, vupdate, mapOk, keyOf, intsOf, clsAt]
    refine Wa.mk (ρ2 := [(4, .rop c.cs), (3, .int .u16 coal), (9, .rop (widL c j (by1.tmod 2) ((by1.tdiv 2).tmod 2)).cs)]) (h2 := []) ?_ ?_
    · refine Wk.trans (Wk.env (ρ' := [(4, .rop c.cs), (3, .int .u16 coal), (9, .ptr 9 0 0)]) (by simp [subE, Env.get, Cu.cs, vR, vD])) ?_
      refine Wk.trans (Wk.freeze 35 rfl rfl (cR_into _ _) rfl) ?_
      simp only [frzE, frzH, Blk.frz, V.frz, frzL, cI_frz, cR_frz, cD_frz, vI, vR, vD, cu_frz, gos, if_true, if_false, ne_eq, eq_self, Nat.reduceLT, Nat.reduceEqDiff, Nat.reduceAdd, Nat.reduceMul, Nat.reduceLeDiff, Nat.reduceBEq, reduceCtorEq, reduceIte, Array.toList, ↓reduceIte, tt, vgo, vout, vgoD, voutD, vclsOk, vids, mayWrite, V.ids, V.mids, vguard, callOf, vop, ev, cv, vbin, vint, isShift, isNilConst, vnil, isNilSlice, vload, vlen, newRow, vfill, vslice, entOf, vappend, srcOf, vcopy, vlookup, vupdate, mapOk, keyOf, intsOf, clsAt, tR', tD, Nat.mul_one]
      refine Wk.trans (Wk.freeze 40 rfl rfl (cD_into _ _) rfl) ?_
      simp only [frzE, frzH, Blk.frz, V.frz, frzL, cI_frz, cR_frz, cD_frz, vI, vR, vD, cu_frz, gos, if_true, if_false, ne_eq, eq_self, Nat.reduceLT, Nat.reduceEqDiff, Nat.reduceAdd, Nat.reduceMul, Nat.reduceLeDiff, Nat.reduceBEq, reduceCtorEq, reduceIte, Array.toList, ↓reduceIte, tt, vgo, vout, vgoD, voutD, vclsOk, vids, mayWrite, V.ids, V.mids, vguard, callOf, vop, ev, cv, vbin, vint, isShift, isNilConst, vnil, isNilSlice, vload, vlen, newRow, vfill, vslice, entOf, vappend, srcOf, vcopy, vlookup, vupdate, mapOk, keyOf, intsOf, clsAt, tR', tD, Nat.mul_one]
      refine Wk.trans (Wk.freeze 9 rfl rfl (by simp only [V.into, intoL, cB_into, vB_into, cI_into, cR_into, cD_into, cS_into, vS_into, vI_into, vR_into, vD_into, cu_into, Bool.true_and, Bool.and_true]) rfl) ?_
      simp only [frzE, frzH, Blk.frz, V.frz, frzL, cI_frz, cR_frz, cD_frz, vI, vR, vD, cu_frz, gos, if_true, if_false, ne_eq, eq_self, Nat.reduceLT, Nat.reduceEqDiff, Nat.reduceAdd, Nat.reduceMul, Nat.reduceLeDiff, Nat.reduceBEq, reduceCtorEq, reduceIte, Array.toList, ↓reduceIte, tt, vgo, vout, vgoD, voutD, vclsOk, vids, mayWrite, V.ids, V.mids, vguard, callOf, vop, ev, cv, vbin, vint, isShift, isNilConst, vnil, isNilSlice, vload, vlen, newRow, vfill, vslice, entOf, vappend, srcOf, vcopy, vlookup, vupdate, mapOk, keyOf, intsOf, clsAt, tR', tD, Nat.mul_one]
      exact Wk.env (by simp [subE, Env.get, vI, vR, vD, Cu.cs, widL, widR, tR', tD])
    have W := wideL c hj (a := by1.tmod 2) (b := (by1.tdiv 2).tmod 2) hbm.1 hbe.1
    generalize widL c j (by1.tmod 2) ((by1.tdiv 2).tmod 2) = x at W ⊢
  case' inr.inr =>
    subst hkj
    have n1 : (c.loss.length : Int) < (c.loss.length : Int) + 1 + (j : Int) := by omega
    have n3 : (0 : Int) ≤ (j : Int) := by omega
    have n4 : (j : Int) < (c.readings.length : Int) := by omega
    have hhe := (k0.readings _ (List.mem_of_getElem? (gD_get (l := c.readings) (i := j) (by omega))))
    simp only [sReading, sIn, sInside, Bool.and_eq_true, decide_eq_true_eq] at hhe
    have w0 : IntKind.i64.wrap ((c.loss.length : Int) + 1 + (j : Int) - (c.loss.length : Int)) = (j : Int) + 1 := by rw [i64_in (by omega) (by omega)]; omega
    have w00 : IntKind.i64.wrap ((j : Int) + 1 - 1) = (j : Int) := by rw [i64_in (by omega) (by omega)]; omega
    have w1 := i64_in (show -9223372036854775808 ≤ (gD c.readings j).b.lo - by1.tmod 2 by omega) (show (gD c.readings j).b.lo - by1.tmod 2 ≤ 9223372036854775807 by omega)
    have w2 := i64_in (show -9223372036854775808 ≤ (gD c.readings j).b.hi + (by1.tdiv 2).tmod 2 by omega) (show (gD c.readings j).b.hi + (by1.tdiv 2).tmod 2 ≤ 9223372036854775807 by omega)
    have d0 := cD_lo (l := c.readings) hj
    have d1 := cD_hi (l := c.readings) hj
    simp only [gos, if_true, if_false, ne_eq, eq_self, Nat.reduceLT, Nat.reduceEqDiff, Nat.reduceAdd, Nat.reduceMul, Nat.reduceLeDiff, Nat.reduceBEq, reduceCtorEq, reduceIte, Array.toList, ↓reduceIte, tt, vgo, vout, vgoD, voutD, vclsOk, vids, mayWrite, V.ids, V.mids, vguard, callOf, vop, ev, cv, vbin, vint, isShift, isNilConst, vnil, isNilSlice, vload, vlen, newRow, vfill, vslice, entOf, vappend, srcOf, vcopy, vlookup, vupdate, mapOk, keyOf, intsOf, clsAt, n1, w0, w00, n3, n4, Int.toNat_natCast, Nat.zero_add]
    refine Wr.draw (by kernel_rfl) ?_
    have q1 : ∀ a : Int, List.take (j * 3 + 1) (cD c.readings) ++ [V.int IntKind.i64 a] ++ List.drop (j * 3 + 1 + 1) (cD c.readings) = cD (c.readings.set j ⟨(gD c.readings j).hour, ⟨a, (gD c.readings j).b.hi⟩⟩) := fun a => cD_put1 a hj
    have hj1 : j * 3 + 1 + 1 ≤ (cD c.readings).length := by omega
    have q2 : ∀ a b : Int, List.take (j * 3 + 1 + 1) (cD (c.readings.set j ⟨(gD c.readings j).hour, ⟨a, (gD c.readings j).b.hi⟩⟩)) ++ [V.int IntKind.i64 b] ++ List.drop (j * 3 + 1 + 1 + 1) (cD (c.readings.set j ⟨(gD c.readings j).hour, ⟨a, (gD c.readings j).b.hi⟩⟩)) = cD (c.readings.set j ⟨(gD c.readings j).hour, ⟨a, b⟩⟩) := fun a b => by
      have := cD_put2 (l := c.readings.set j ⟨(gD c.readings j).hour, ⟨a, (gD c.readings j).b.hi⟩⟩) (i := j) b (by simpa using hj)
      rw [gD_set _ hj, if_pos rfl, List.set_set] at this
      exact this
    have hj2 : ∀ a, j * 3 + 1 + 1 + 1 ≤ (cD (c.readings.set j a)).length := fun a => by rw [cD_len, List.length_set]; omega
    simp only [d1] at q1
    simp only [gos, if_true, if_false, ne_eq, eq_self, Nat.reduceLT, Nat.reduceEqDiff, Nat.reduceAdd, Nat.reduceMul, Nat.reduceLeDiff, Nat.reduceBEq, reduceCtorEq, reduceIte, Array.toList, ↓reduceIte, tt, vgo, vout, vgoD, voutD, vclsOk, vids, mayWrite, V.ids, V.mids, vguard, callOf, vop, ev, cv, vbin, vint, isShift, isNilConst, vnil, isNilSlice, vload, vlen, newRow, vfill, vslice, entOf, vappend, srcOf, vcopy, vlookup, vupdate, mapOk, keyOf, intsOf, clsAt, z2, wb, wd, w1, w2, d0, d1, q1, q2, hj1, hj2, Nat.add_zero]
    have tD' : ∀ a, List.take (c.readings.length * 3) (cD (c.readings.set j a)) = cD (c.readings.set j a) := fun a => List.take_of_length_le (by rw [cD_len, List.length_set]; omega)
    refine Wr.at tabOk 0 ?_
    simp only [gos, if_true, if_false, ne_eq, eq_self, Nat.reduceLT, Nat.reduceEqDiff, Nat.reduceAdd, Nat.reduceMul, Nat.reduceLeDiff, Nat.reduceBEq, reduceCtorEq, reduceIte, Array.toList, ↓reduceIte, tt, vgo, vout, vgoD, voutD, vclsOk, vids, mayWrite, V.ids, V.mids, vguard, callOf, vop, ev, cv, vbin, vint, isShift, isNilConst, vnil, isNilSlice, vload, vlen, newRow, vfill, vslice, entOf, vappend, srcOf, vcopy, vlookup, vupdate, mapOk, keyOf, intsOf, clsAt]
    refine Wa.mk (ρ2 := [(4, .rop c.cs), (3, .int .u16 coal), (9, .rop (widD c j (by1.tmod 2) ((by1.tdiv 2).tmod 2)).cs)]) (h2 := []) ?_ ?_
    · refine Wk.trans (Wk.env (ρ' := [(4, .rop c.cs), (3, .int .u16 coal), (9, .ptr 9 0 0)]) (by simp [subE, Env.get, Cu.cs, vR, vD])) ?_
      refine Wk.trans (Wk.freeze 35 rfl rfl (cR_into _ _) rfl) ?_
      simp only [frzE, frzH, Blk.frz, V.frz, frzL, cI_frz, cR_frz, cD_frz, vI, vR, vD, cu_frz, gos, if_true, if_false, ne_eq, eq_self, Nat.reduceLT, Nat.reduceEqDiff, Nat.reduceAdd, Nat.reduceMul, Nat.reduceLeDiff, Nat.reduceBEq, reduceCtorEq, reduceIte, Array.toList, ↓reduceIte, tt, vgo, vout, vgoD, voutD, vclsOk, vids, mayWrite, V.ids, V.mids, vguard, callOf, vop, ev, cv, vbin, vint, isShift, isNilConst, vnil, isNilSlice, vload, vlen, newRow, vfill, vslice, entOf, vappend, srcOf, vcopy, vlookup, vupdate, mapOk, keyOf, intsOf, clsAt, tR, tD', Nat.mul_one]
      refine Wk.trans (Wk.freeze 40 rfl rfl (cD_into _ _) rfl) ?_
      simp only [frzE, frzH, Blk.frz, V.frz, frzL, cI_frz, cR_frz, cD_frz, vI, vR, vD, cu_frz, gos, if_true, if_false, ne_eq, eq_self, Nat.reduceLT, Nat.reduceEqDiff, Nat.reduceAdd, Nat.reduceMul, Nat.reduceLeDiff, Nat.reduceBEq, reduceCtorEq, reduceIte, Array.toList, ↓reduceIte, tt, vgo, vout, vgoD, voutD, vclsOk, vids, mayWrite, V.ids, V.mids, vguard, callOf, vop, ev, cv, vbin, vint, isShift, isNilConst, vnil, isNilSlice, vload, vlen, newRow, vfill, vslice, entOf, vappend, srcOf, vcopy, vlookup, vupdate, mapOk, keyOf, intsOf, clsAt, tR, tD', Nat.mul_one]
      refine Wk.trans (Wk.freeze 9 rfl rfl (by simp only [V.into, intoL, cB_into, vB_into, cI_into, cR_into, cD_into, cS_into, vS_into, vI_into, vR_into, vD_into, cu_into, Bool.true_and, Bool.and_true]) rfl) ?_
      simp only [frzE, frzH, Blk.frz, V.frz, frzL, cI_frz, cR_frz, cD_frz, vI, vR, vD, cu_frz, gos, if_true, if_false, ne_eq, eq_self, Nat.reduceLT, Nat.reduceEqDiff, Nat.reduceAdd, Nat.reduceMul, Nat.reduceLeDiff, Nat.reduceBEq, reduceCtorEq, reduceIte, Array.toList, ↓reduceIte, tt, vgo, vout, vgoD, voutD, vclsOk, vids, mayWrite, V.ids, V.mids, vguard, callOf, vop, ev, cv, vbin, vint, isShift, isNilConst, vnil, isNilSlice, vload, vlen, newRow, vfill, vslice, entOf, vappend, srcOf, vcopy, vlookup, vupdate, mapOk, keyOf, intsOf, clsAt, tR, tD', Nat.mul_one]
      exact Wk.env (by simp [subE, Env.get, vI, vR, vD, Cu.cs, widD, widR, tR, tD'])
    have W := wideD c hj (a := by1.tmod 2) (b := (by1.tdiv 2).tmod 2) hbm.1 hbe.1
    generalize widD c j (by1.tmod 2) ((by1.tdiv 2).tmod 2) = x at W ⊢
  all_goals
    have hxc : I64 x.last := by rw [← W.last]; exact hc
    have hxn : x.cs.length = 11 := rfl
    have hxt : x.cs.take 11 = x.cs := rfl
    simp only [gos, if_true, if_false, ne_eq, eq_self, Nat.reduceLT, Nat.reduceEqDiff, Nat.reduceAdd, Nat.reduceMul, Nat.reduceLeDiff, Nat.reduceBEq, reduceCtorEq, reduceIte, Array.toList, ↓reduceIte, tt, vgo, vout, vgoD, voutD, vclsOk, vids, mayWrite, V.ids, V.mids, vguard, callOf, vop, ev, cv, vbin, vint, isShift, isNilConst, vnil, isNilSlice, vload, vlen, newRow, vfill, vslice, entOf, vappend, srcOf, vcopy, vlookup, vupdate, mapOk, keyOf, intsOf, clsAt, hxn, hxt]
    refine Cl.pu (c_ready x hxc) ?_ rfl (by simp only [V.into, intoL, cB_into, vB_into, cI_into, cR_into, cD_into, cS_into, vS_into, vI_into, vR_into, vD_into, cu_into, Bool.true_and, Bool.and_true])
    cases hxs : sReady x with
    | false =>
      simp only [gos, if_true, if_false, ne_eq, eq_self, Nat.reduceLT, Nat.reduceEqDiff, Nat.reduceAdd, Nat.reduceMul, Nat.reduceLeDiff, Nat.reduceBEq, reduceCtorEq, reduceIte, Array.toList, ↓reduceIte, tt, vgo, vout, vgoD, voutD, vclsOk, vids, mayWrite, V.ids, V.mids, vguard, callOf, vop, ev, cv, vbin, vint, isShift, isNilConst, vnil, isNilSlice, vload, vlen, newRow, vfill, vslice, entOf, vappend, srcOf, vcopy, vlookup, vupdate, mapOk, keyOf, intsOf, clsAt]
      refine Cl.pu c_awake ?_
      simp only [gos, if_true, if_false, ne_eq, eq_self, Nat.reduceLT, Nat.reduceEqDiff, Nat.reduceAdd, Nat.reduceMul, Nat.reduceLeDiff, Nat.reduceBEq, reduceCtorEq, reduceIte, Array.toList, ↓reduceIte, tt, vgo, vout, vgoD, voutD, vclsOk, vids, mayWrite, V.ids, V.mids, vguard, callOf, vop, ev, cv, vbin, vint, isShift, isNilConst, vnil, isNilSlice, vload, vlen, newRow, vfill, vslice, entOf, vappend, srcOf, vcopy, vlookup, vupdate, mapOk, keyOf, intsOf, clsAt]
      subst hQ
      exact FnPost.plain trivial (v := .bool true) (fun h2 e => by rfl) (WkV.pure rfl) rfl
    | true =>
    obtain ⟨hxh, hx0⟩ := ready_ok hxs
    have wx := thin_wf hxc hxh
    have kx := sCheck_ok hx0
    obtain ⟨l, m, e1, e2, hml, hl5, hm5, hpp⟩ := W.leave k0 kx
    have f1 : sLeaveA c = (l, 0) := by simp [sLeaveA, h0, e1]
    have f2 : sLeaveA x = (m, 0) := by simp [sLeaveA, hx0, e2]
    have z0 : ((0 : Int) != 0) = false := rfl
    have n0 : ¬ (l.length : Int) < m.length := by omega
    simp only [gos, if_true, if_false, ne_eq, eq_self, Nat.reduceLT, Nat.reduceEqDiff, Nat.reduceAdd, Nat.reduceMul, Nat.reduceLeDiff, Nat.reduceBEq, reduceCtorEq, reduceIte, Array.toList, ↓reduceIte, tt, vgo, vout, vgoD, voutD, vclsOk, vids, mayWrite, V.ids, V.mids, vguard, callOf, vop, ev, cv, vbin, vint, isShift, isNilConst, vnil, isNilSlice, vload, vlen, newRow, vfill, vslice, entOf, vappend, srcOf, vcopy, vlookup, vupdate, mapOk, keyOf, intsOf, clsAt]
    refine Cl.pu (c_lCopper c wf) ?_ rfl (by simp only [V.into, intoL, cB_into, vB_into, cI_into, cR_into, cD_into, cS_into, vS_into, vI_into, vR_into, vD_into, cu_into, Bool.true_and, Bool.and_true])
    simp only [gos, if_true, if_false, ne_eq, eq_self, Nat.reduceLT, Nat.reduceEqDiff, Nat.reduceAdd, Nat.reduceMul, Nat.reduceLeDiff, Nat.reduceBEq, reduceCtorEq, reduceIte, Array.toList, ↓reduceIte, tt, vgo, vout, vgoD, voutD, vclsOk, vids, mayWrite, V.ids, V.mids, vguard, callOf, vop, ev, cv, vbin, vint, isShift, isNilConst, vnil, isNilSlice, vload, vlen, newRow, vfill, vslice, entOf, vappend, srcOf, vcopy, vlookup, vupdate, mapOk, keyOf, intsOf, clsAt]
    refine Cl.pu (c_Leave c wf) ?_ rfl (by simp only [V.into, intoL, cB_into, vB_into, cI_into, cR_into, cD_into, cS_into, vS_into, vI_into, vR_into, vD_into, cu_into, Bool.true_and, Bool.and_true])
    rw [f1]
    simp only [gos, if_true, if_false, ne_eq, eq_self, Nat.reduceLT, Nat.reduceEqDiff, Nat.reduceAdd, Nat.reduceMul, Nat.reduceLeDiff, Nat.reduceBEq, reduceCtorEq, reduceIte, Array.toList, ↓reduceIte, tt, vgo, vout, vgoD, voutD, vclsOk, vids, mayWrite, V.ids, V.mids, vguard, callOf, vop, ev, cv, vbin, vint, isShift, isNilConst, vnil, isNilSlice, vload, vlen, newRow, vfill, vslice, entOf, vappend, srcOf, vcopy, vlookup, vupdate, mapOk, keyOf, intsOf, clsAt, hxn, hxt]
    refine Cl.pu (c_lCopper x wx) ?_ rfl (by simp only [V.into, intoL, cB_into, vB_into, cI_into, cR_into, cD_into, cS_into, vS_into, vI_into, vR_into, vD_into, cu_into, Bool.true_and, Bool.and_true])
    simp only [gos, if_true, if_false, ne_eq, eq_self, Nat.reduceLT, Nat.reduceEqDiff, Nat.reduceAdd, Nat.reduceMul, Nat.reduceLeDiff, Nat.reduceBEq, reduceCtorEq, reduceIte, Array.toList, ↓reduceIte, tt, vgo, vout, vgoD, voutD, vclsOk, vids, mayWrite, V.ids, V.mids, vguard, callOf, vop, ev, cv, vbin, vint, isShift, isNilConst, vnil, isNilSlice, vload, vlen, newRow, vfill, vslice, entOf, vappend, srcOf, vcopy, vlookup, vupdate, mapOk, keyOf, intsOf, clsAt]
    refine Cl.pu (c_Leave x wx) ?_ rfl (by simp only [V.into, intoL, cB_into, vB_into, cI_into, cR_into, cD_into, cS_into, vS_into, vI_into, vR_into, vD_into, cu_into, Bool.true_and, Bool.and_true])
    rw [f2]
    simp only [gos, if_true, if_false, ne_eq, eq_self, Nat.reduceLT, Nat.reduceEqDiff, Nat.reduceAdd, Nat.reduceMul, Nat.reduceLeDiff, Nat.reduceBEq, reduceCtorEq, reduceIte, Array.toList, ↓reduceIte, tt, vgo, vout, vgoD, voutD, vclsOk, vids, mayWrite, V.ids, V.mids, vguard, callOf, vop, ev, cv, vbin, vint, isShift, isNilConst, vnil, isNilSlice, vload, vlen, newRow, vfill, vslice, entOf, vappend, srcOf, vcopy, vlookup, vupdate, mapOk, keyOf, intsOf, clsAt, vI, z0, n0]
    by_cases hl0 : 0 < (l.length : Int)
    · simp only [gos, if_true, if_false, ne_eq, eq_self, Nat.reduceLT, Nat.reduceEqDiff, Nat.reduceAdd, Nat.reduceMul, Nat.reduceLeDiff, Nat.reduceBEq, reduceCtorEq, reduceIte, Array.toList, ↓reduceIte, tt, vgo, vout, vgoD, voutD, vclsOk, vids, mayWrite, V.ids, V.mids, vguard, callOf, vop, ev, cv, vbin, vint, isShift, isNilConst, vnil, isNilSlice, vload, vlen, newRow, vfill, vslice, entOf, vappend, srcOf, vcopy, vlookup, vupdate, mapOk, keyOf, intsOf, clsAt, hl0]
      refine Cl.pu c_awake ?_
      simp only [gos, if_true, if_false, ne_eq, eq_self, Nat.reduceLT, Nat.reduceEqDiff, Nat.reduceAdd, Nat.reduceMul, Nat.reduceLeDiff, Nat.reduceBEq, reduceCtorEq, reduceIte, Array.toList, ↓reduceIte, tt, vgo, vout, vgoD, voutD, vclsOk, vids, mayWrite, V.ids, V.mids, vguard, callOf, vop, ev, cv, vbin, vint, isShift, isNilConst, vnil, isNilSlice, vload, vlen, newRow, vfill, vslice, entOf, vappend, srcOf, vcopy, vlookup, vupdate, mapOk, keyOf, intsOf, clsAt]
      subst hQ
      exact FnPost.plain trivial (v := .bool true) (fun h2 e => by rfl) (WkV.pure rfl) rfl
    obtain ⟨pc, px⟩ := hpp (by omega)
    have hA : sAsked c true = 0 := by rw [asked_poss k0, if_pos pc]
    have hX : sAsked x true = 0 := by rw [asked_poss kx, if_pos px]
    have A := askOk_of hA
    have X := askOk_of hX
    have T : SubT c x := W.sub k0 kx
    have hC := rCoals_le k0
    have hC0 : ¬ rCoals c = 0 := by omega
    have t1 := tmod_le ho.1 hC.1
    have hco := is_coal.2 (rCoal_ok k0 t1.1)
    have hcl : ((rCoal c (coal.tmod (rCoals c))).length : Int) ≤ 1000000 := by have := (is_coal.1 hco).1; omega
    have hcx : sIsCoal x (rCoal c (coal.tmod (rCoals c))) = true := by
      have := is_coal.1 hco
      have hsh : x.shovels = c.shovels := W.shovels.symm
      exact is_coal.2 ⟨by rw [← W.last]; exact this.1, by rw [hsh]; exact this.2⟩
    have s1 := coal_sum k0 hco
    simp only [gos, if_true, if_false, ne_eq, eq_self, Nat.reduceLT, Nat.reduceEqDiff, Nat.reduceAdd, Nat.reduceMul, Nat.reduceLeDiff, Nat.reduceBEq, reduceCtorEq, reduceIte, Array.toList, ↓reduceIte, tt, vgo, vout, vgoD, voutD, vclsOk, vids, mayWrite, V.ids, V.mids, vguard, callOf, vop, ev, cv, vbin, vint, isShift, isNilConst, vnil, isNilSlice, vload, vlen, newRow, vfill, vslice, entOf, vappend, srcOf, vcopy, vlookup, vupdate, mapOk, keyOf, intsOf, clsAt, hl0]
    refine Wr.draw (by kernel_rfl) ?_
    simp only [gos, if_true, if_false, ne_eq, eq_self, Nat.reduceLT, Nat.reduceEqDiff, Nat.reduceAdd, Nat.reduceMul, Nat.reduceLeDiff, Nat.reduceBEq, reduceCtorEq, reduceIte, Array.toList, ↓reduceIte, tt, vgo, vout, vgoD, voutD, vclsOk, vids, mayWrite, V.ids, V.mids, vguard, callOf, vop, ev, cv, vbin, vint, isShift, isNilConst, vnil, isNilSlice, vload, vlen, newRow, vfill, vslice, entOf, vappend, srcOf, vcopy, vlookup, vupdate, mapOk, keyOf, intsOf, clsAt, i64_in (show -9223372036854775808 ≤ coal by omega) (show coal ≤ 9223372036854775807 by omega)]
    refine CD.pu (c_rCoals c k0) ?_ rfl (by simp only [V.into, intoL, cB_into, vB_into, cI_into, cR_into, cD_into, cS_into, vS_into, vI_into, vR_into, vD_into, cu_into, Bool.true_and, Bool.and_true])
    simp only [gos, if_true, if_false, ne_eq, eq_self, Nat.reduceLT, Nat.reduceEqDiff, Nat.reduceAdd, Nat.reduceMul, Nat.reduceLeDiff, Nat.reduceBEq, reduceCtorEq, reduceIte, Array.toList, ↓reduceIte, tt, vgo, vout, vgoD, voutD, vclsOk, vids, mayWrite, V.ids, V.mids, vguard, callOf, vop, ev, cv, vbin, vint, isShift, isNilConst, vnil, isNilSlice, vload, vlen, newRow, vfill, vslice, entOf, vappend, srcOf, vcopy, vlookup, vupdate, mapOk, keyOf, intsOf, clsAt, hC0]
    refine CD.pu (c_rCoal c k0 (coal.tmod (rCoals c)) (by omega)) ?_ rfl (by simp only [V.into, intoL, cB_into, vB_into, cI_into, cR_into, cD_into, cS_into, vS_into, vI_into, vR_into, vD_into, cu_into, Bool.true_and, Bool.and_true])
    generalize rCoal c (coal.tmod (rCoals c)) = o at *
    have g1 : sBoundsA c = (nR (c.last + 1) (sHotB c), nR (c.last + 1) (sLeftB c), 0) := by rw [sBoundsA, if_pos hA]
    have g2 : sBoundsA x = (nR (c.last + 1) (sHotB x), nR (c.last + 1) (sLeftB x), 0) := by rw [sBoundsA, if_pos hX, ← W.last]
    have g3 : sKeepsA c = (nI (c.last + 1) (kpF c), 0) := by rw [sKeepsA, if_pos hA]; rfl
    have g4 : sKeepsA x = (nI (c.last + 1) (kpF x), 0) := by rw [sKeepsA, if_pos hX, ← W.last]; rfl
    have y0 : decide ((0 : Int) = 0) = true := rfl
    simp only [gos, if_true, if_false, ne_eq, eq_self, Nat.reduceLT, Nat.reduceEqDiff, Nat.reduceAdd, Nat.reduceMul, Nat.reduceLeDiff, Nat.reduceBEq, reduceCtorEq, reduceIte, Array.toList, ↓reduceIte, tt, vgo, vout, vgoD, voutD, vclsOk, vids, mayWrite, V.ids, V.mids, vguard, callOf, vop, ev, cv, vbin, vint, isShift, isNilConst, vnil, isNilSlice, vload, vlen, newRow, vfill, vslice, entOf, vappend, srcOf, vcopy, vlookup, vupdate, mapOk, keyOf, intsOf, clsAt]
    refine Cl.pu (c_lCopper c wf) ?_ rfl (by simp only [V.into, intoL, cB_into, vB_into, cI_into, cR_into, cD_into, cS_into, vS_into, vI_into, vR_into, vD_into, cu_into, Bool.true_and, Bool.and_true])
    simp only [gos, if_true, if_false, ne_eq, eq_self, Nat.reduceLT, Nat.reduceEqDiff, Nat.reduceAdd, Nat.reduceMul, Nat.reduceLeDiff, Nat.reduceBEq, reduceCtorEq, reduceIte, Array.toList, ↓reduceIte, tt, vgo, vout, vgoD, voutD, vclsOk, vids, mayWrite, V.ids, V.mids, vguard, callOf, vop, ev, cv, vbin, vint, isShift, isNilConst, vnil, isNilSlice, vload, vlen, newRow, vfill, vslice, entOf, vappend, srcOf, vcopy, vlookup, vupdate, mapOk, keyOf, intsOf, clsAt]
    refine Cl.pu (c_Bounds c wf) ?_ rfl (by simp only [V.into, intoL, cB_into, vB_into, cI_into, cR_into, cD_into, cS_into, vS_into, vI_into, vR_into, vD_into, cu_into, Bool.true_and, Bool.and_true])
    rw [g1]
    simp only [gos, if_true, if_false, ne_eq, eq_self, Nat.reduceLT, Nat.reduceEqDiff, Nat.reduceAdd, Nat.reduceMul, Nat.reduceLeDiff, Nat.reduceBEq, reduceCtorEq, reduceIte, Array.toList, ↓reduceIte, tt, vgo, vout, vgoD, voutD, vclsOk, vids, mayWrite, V.ids, V.mids, vguard, callOf, vop, ev, cv, vbin, vint, isShift, isNilConst, vnil, isNilSlice, vload, vlen, newRow, vfill, vslice, entOf, vappend, srcOf, vcopy, vlookup, vupdate, mapOk, keyOf, intsOf, clsAt, hxn, hxt]
    refine Cl.pu (c_lCopper x wx) ?_ rfl (by simp only [V.into, intoL, cB_into, vB_into, cI_into, cR_into, cD_into, cS_into, vS_into, vI_into, vR_into, vD_into, cu_into, Bool.true_and, Bool.and_true])
    simp only [gos, if_true, if_false, ne_eq, eq_self, Nat.reduceLT, Nat.reduceEqDiff, Nat.reduceAdd, Nat.reduceMul, Nat.reduceLeDiff, Nat.reduceBEq, reduceCtorEq, reduceIte, Array.toList, ↓reduceIte, tt, vgo, vout, vgoD, voutD, vclsOk, vids, mayWrite, V.ids, V.mids, vguard, callOf, vop, ev, cv, vbin, vint, isShift, isNilConst, vnil, isNilSlice, vload, vlen, newRow, vfill, vslice, entOf, vappend, srcOf, vcopy, vlookup, vupdate, mapOk, keyOf, intsOf, clsAt]
    refine Cl.pu (c_Bounds x wx) ?_ rfl (by simp only [V.into, intoL, cB_into, vB_into, cI_into, cR_into, cD_into, cS_into, vS_into, vI_into, vR_into, vD_into, cu_into, Bool.true_and, Bool.and_true])
    rw [g2]
    simp only [gos, if_true, if_false, ne_eq, eq_self, Nat.reduceLT, Nat.reduceEqDiff, Nat.reduceAdd, Nat.reduceMul, Nat.reduceLeDiff, Nat.reduceBEq, reduceCtorEq, reduceIte, Array.toList, ↓reduceIte, tt, vgo, vout, vgoD, voutD, vclsOk, vids, mayWrite, V.ids, V.mids, vguard, callOf, vop, ev, cv, vbin, vint, isShift, isNilConst, vnil, isNilSlice, vload, vlen, newRow, vfill, vslice, entOf, vappend, srcOf, vcopy, vlookup, vupdate, mapOk, keyOf, intsOf, clsAt]
    refine Cl.pu (c_lCopper c wf) ?_ rfl (by simp only [V.into, intoL, cB_into, vB_into, cI_into, cR_into, cD_into, cS_into, vS_into, vI_into, vR_into, vD_into, cu_into, Bool.true_and, Bool.and_true])
    simp only [gos, if_true, if_false, ne_eq, eq_self, Nat.reduceLT, Nat.reduceEqDiff, Nat.reduceAdd, Nat.reduceMul, Nat.reduceLeDiff, Nat.reduceBEq, reduceCtorEq, reduceIte, Array.toList, ↓reduceIte, tt, vgo, vout, vgoD, voutD, vclsOk, vids, mayWrite, V.ids, V.mids, vguard, callOf, vop, ev, cv, vbin, vint, isShift, isNilConst, vnil, isNilSlice, vload, vlen, newRow, vfill, vslice, entOf, vappend, srcOf, vcopy, vlookup, vupdate, mapOk, keyOf, intsOf, clsAt]
    refine Cl.pu (c_Keeps c wf) ?_ rfl (by simp only [V.into, intoL, cB_into, vB_into, cI_into, cR_into, cD_into, cS_into, vS_into, vI_into, vR_into, vD_into, cu_into, Bool.true_and, Bool.and_true])
    rw [g3]
    simp only [gos, if_true, if_false, ne_eq, eq_self, Nat.reduceLT, Nat.reduceEqDiff, Nat.reduceAdd, Nat.reduceMul, Nat.reduceLeDiff, Nat.reduceBEq, reduceCtorEq, reduceIte, Array.toList, ↓reduceIte, tt, vgo, vout, vgoD, voutD, vclsOk, vids, mayWrite, V.ids, V.mids, vguard, callOf, vop, ev, cv, vbin, vint, isShift, isNilConst, vnil, isNilSlice, vload, vlen, newRow, vfill, vslice, entOf, vappend, srcOf, vcopy, vlookup, vupdate, mapOk, keyOf, intsOf, clsAt, hxn, hxt]
    refine Cl.pu (c_lCopper x wx) ?_ rfl (by simp only [V.into, intoL, cB_into, vB_into, cI_into, cR_into, cD_into, cS_into, vS_into, vI_into, vR_into, vD_into, cu_into, Bool.true_and, Bool.and_true])
    simp only [gos, if_true, if_false, ne_eq, eq_self, Nat.reduceLT, Nat.reduceEqDiff, Nat.reduceAdd, Nat.reduceMul, Nat.reduceLeDiff, Nat.reduceBEq, reduceCtorEq, reduceIte, Array.toList, ↓reduceIte, tt, vgo, vout, vgoD, voutD, vclsOk, vids, mayWrite, V.ids, V.mids, vguard, callOf, vop, ev, cv, vbin, vint, isShift, isNilConst, vnil, isNilSlice, vload, vlen, newRow, vfill, vslice, entOf, vappend, srcOf, vcopy, vlookup, vupdate, mapOk, keyOf, intsOf, clsAt]
    refine Cl.pu (c_Keeps x wx) ?_ rfl (by simp only [V.into, intoL, cB_into, vB_into, cI_into, cR_into, cD_into, cS_into, vS_into, vI_into, vR_into, vD_into, cu_into, Bool.true_and, Bool.and_true])
    rw [g4]
    have hlen1 : ∀ (f : Int → Rg), ((nR (c.last + 1) f).length : Int) = c.last + 1 := fun f => by rw [nR_len']; omega
    have hlen2 : ∀ (f : Int → Int), ((nI (c.last + 1) f).length : Int) = c.last + 1 := fun f => by rw [nI_len']; omega
    have q1 : Pu Try.prog (.fn 68 [] []) [vR (nR (c.last + 1) (sHotB c)), vR (nR (c.last + 1) (sHotB x))] (.bool true) :=
      c_lInside _ _ (by have := hlen1 (sHotB c); have := hlen1 (sHotB x); omega) (by have := hlen1 (sHotB c); omega) fun i hi => by
        have hi2 : (i : Int) < c.last + 1 := by have := hlen1 (sHotB c); omega
        rw [gR_nR hi2, gR_nR hi2]
        exact T.hotB A X (by rw [← W.last]; omega)
    have q2 : Pu Try.prog (.fn 68 [] []) [vR (nR (c.last + 1) (sLeftB c)), vR (nR (c.last + 1) (sLeftB x))] (.bool true) :=
      c_lInside _ _ (by have := hlen1 (sLeftB c); have := hlen1 (sLeftB x); omega) (by have := hlen1 (sLeftB c); omega) fun i hi => by
        have hi2 : (i : Int) < c.last + 1 := by have := hlen1 (sLeftB c); omega
        rw [gR_nR hi2, gR_nR hi2]
        exact T.leftB A X (by rw [← W.last]; omega)
    have q3 : Pu Try.prog (.fn 69 [] []) [vI (nI (c.last + 1) (kpF x)), vI (nI (c.last + 1) (kpF c))] (.bool true) :=
      c_lKept _ _ (by have := hlen2 (kpF c); have := hlen2 (kpF x); omega) (by have := hlen2 (kpF x); omega) fun i hi => by
        have hi2 : (i : Int) < c.last + 1 := by have := hlen2 (kpF x); omega
        rw [gi_nI hi2, gi_nI hi2]
        exact T.keeps A X (by rw [← W.last]; omega)
    simp only [gos, if_true, if_false, ne_eq, eq_self, Nat.reduceLT, Nat.reduceEqDiff, Nat.reduceAdd, Nat.reduceMul, Nat.reduceLeDiff, Nat.reduceBEq, reduceCtorEq, reduceIte, Array.toList, ↓reduceIte, tt, vgo, vout, vgoD, voutD, vclsOk, vids, mayWrite, V.ids, V.mids, vguard, callOf, vop, ev, cv, vbin, vint, isShift, isNilConst, vnil, isNilSlice, vload, vlen, newRow, vfill, vslice, entOf, vappend, srcOf, vcopy, vlookup, vupdate, mapOk, keyOf, intsOf, clsAt, y0]
    refine Cl.pu q1 ?_ rfl (by simp only [V.into, intoL, cB_into, vB_into, cI_into, cR_into, cD_into, cS_into, vS_into, vI_into, vR_into, vD_into, cu_into, Bool.true_and, Bool.and_true])
    simp only [gos, if_true, if_false, ne_eq, eq_self, Nat.reduceLT, Nat.reduceEqDiff, Nat.reduceAdd, Nat.reduceMul, Nat.reduceLeDiff, Nat.reduceBEq, reduceCtorEq, reduceIte, Array.toList, ↓reduceIte, tt, vgo, vout, vgoD, voutD, vclsOk, vids, mayWrite, V.ids, V.mids, vguard, callOf, vop, ev, cv, vbin, vint, isShift, isNilConst, vnil, isNilSlice, vload, vlen, newRow, vfill, vslice, entOf, vappend, srcOf, vcopy, vlookup, vupdate, mapOk, keyOf, intsOf, clsAt]
    refine Cl.pu q2 ?_ rfl (by simp only [V.into, intoL, cB_into, vB_into, cI_into, cR_into, cD_into, cS_into, vS_into, vI_into, vR_into, vD_into, cu_into, Bool.true_and, Bool.and_true])
    simp only [gos, if_true, if_false, ne_eq, eq_self, Nat.reduceLT, Nat.reduceEqDiff, Nat.reduceAdd, Nat.reduceMul, Nat.reduceLeDiff, Nat.reduceBEq, reduceCtorEq, reduceIte, Array.toList, ↓reduceIte, tt, vgo, vout, vgoD, voutD, vclsOk, vids, mayWrite, V.ids, V.mids, vguard, callOf, vop, ev, cv, vbin, vint, isShift, isNilConst, vnil, isNilSlice, vload, vlen, newRow, vfill, vslice, entOf, vappend, srcOf, vcopy, vlookup, vupdate, mapOk, keyOf, intsOf, clsAt, y0]
    refine Cl.pu q3 ?_ rfl (by simp only [V.into, intoL, cB_into, vB_into, cI_into, cR_into, cD_into, cS_into, vS_into, vI_into, vR_into, vD_into, cu_into, Bool.true_and, Bool.and_true])
    simp only [gos, if_true, if_false, ne_eq, eq_self, Nat.reduceLT, Nat.reduceEqDiff, Nat.reduceAdd, Nat.reduceMul, Nat.reduceLeDiff, Nat.reduceBEq, reduceCtorEq, reduceIte, Array.toList, ↓reduceIte, tt, vgo, vout, vgoD, voutD, vclsOk, vids, mayWrite, V.ids, V.mids, vguard, callOf, vop, ev, cv, vbin, vint, isShift, isNilConst, vnil, isNilSlice, vload, vlen, newRow, vfill, vslice, entOf, vappend, srcOf, vcopy, vlookup, vupdate, mapOk, keyOf, intsOf, clsAt, hxn, hxt]
    refine Cl.pu (c_lCopper x wx) ?_ rfl (by simp only [V.into, intoL, cB_into, vB_into, cI_into, cR_into, cD_into, cS_into, vS_into, vI_into, vR_into, vD_into, cu_into, Bool.true_and, Bool.and_true])
    simp only [gos, if_true, if_false, ne_eq, eq_self, Nat.reduceLT, Nat.reduceEqDiff, Nat.reduceAdd, Nat.reduceMul, Nat.reduceLeDiff, Nat.reduceBEq, reduceCtorEq, reduceIte, Array.toList, ↓reduceIte, tt, vgo, vout, vgoD, voutD, vclsOk, vids, mayWrite, V.ids, V.mids, vguard, callOf, vop, ev, cv, vbin, vint, isShift, isNilConst, vnil, isNilSlice, vload, vlen, newRow, vfill, vslice, entOf, vappend, srcOf, vcopy, vlookup, vupdate, mapOk, keyOf, intsOf, clsAt]
    refine Cl.pu (c_list o hcl) ?_ rfl (by simp only [V.into, intoL, cB_into, vB_into, cI_into, cR_into, cD_into, cS_into, vS_into, vI_into, vR_into, vD_into, cu_into, Bool.true_and, Bool.and_true])
    simp only [gos, if_true, if_false, ne_eq, eq_self, Nat.reduceLT, Nat.reduceEqDiff, Nat.reduceAdd, Nat.reduceMul, Nat.reduceLeDiff, Nat.reduceBEq, reduceCtorEq, reduceIte, Array.toList, ↓reduceIte, tt, vgo, vout, vgoD, voutD, vclsOk, vids, mayWrite, V.ids, V.mids, vguard, callOf, vop, ev, cv, vbin, vint, isShift, isNilConst, vnil, isNilSlice, vload, vlen, newRow, vfill, vslice, entOf, vappend, srcOf, vcopy, vlookup, vupdate, mapOk, keyOf, intsOf, clsAt]
    refine Cl.pu (c_ProveCoal x wx o hcl 99) ?_ rfl (by simp only [V.into, intoL, cB_into, vB_into, cI_into, cR_into, cD_into, cS_into, vS_into, vI_into, vR_into, vD_into, cu_into, Bool.true_and, Bool.and_true])
    rw [prove_ok X hX hcx (by omega)]
    cases hsx : sSureP x o with
    | false =>
      simp only [gos, if_true, if_false, ne_eq, eq_self, Nat.reduceLT, Nat.reduceEqDiff, Nat.reduceAdd, Nat.reduceMul, Nat.reduceLeDiff, Nat.reduceBEq, reduceCtorEq, reduceIte, Array.toList, ↓reduceIte, tt, vgo, vout, vgoD, voutD, vclsOk, vids, mayWrite, V.ids, V.mids, vguard, callOf, vop, ev, cv, vbin, vint, isShift, isNilConst, vnil, isNilSlice, vload, vlen, newRow, vfill, vslice, entOf, vappend, srcOf, vcopy, vlookup, vupdate, mapOk, keyOf, intsOf, clsAt]
      refine Cl.pu c_awake ?_
      simp only [gos, if_true, if_false, ne_eq, eq_self, Nat.reduceLT, Nat.reduceEqDiff, Nat.reduceAdd, Nat.reduceMul, Nat.reduceLeDiff, Nat.reduceBEq, reduceCtorEq, reduceIte, Array.toList, ↓reduceIte, tt, vgo, vout, vgoD, voutD, vclsOk, vids, mayWrite, V.ids, V.mids, vguard, callOf, vop, ev, cv, vbin, vint, isShift, isNilConst, vnil, isNilSlice, vload, vlen, newRow, vfill, vslice, entOf, vappend, srcOf, vcopy, vlookup, vupdate, mapOk, keyOf, intsOf, clsAt]
      subst hQ
      exact FnPost.plain trivial (v := .bool true) (fun h2 e => by rfl) (WkV.pure rfl) rfl
    | true =>
      simp only [gos, if_true, if_false, ne_eq, eq_self, Nat.reduceLT, Nat.reduceEqDiff, Nat.reduceAdd, Nat.reduceMul, Nat.reduceLeDiff, Nat.reduceBEq, reduceCtorEq, reduceIte, Array.toList, ↓reduceIte, tt, vgo, vout, vgoD, voutD, vclsOk, vids, mayWrite, V.ids, V.mids, vguard, callOf, vop, ev, cv, vbin, vint, isShift, isNilConst, vnil, isNilSlice, vload, vlen, newRow, vfill, vslice, entOf, vappend, srcOf, vcopy, vlookup, vupdate, mapOk, keyOf, intsOf, clsAt]
      refine Cl.pu (c_lCopper c wf) ?_ rfl (by simp only [V.into, intoL, cB_into, vB_into, cI_into, cR_into, cD_into, cS_into, vS_into, vI_into, vR_into, vD_into, cu_into, Bool.true_and, Bool.and_true])
      simp only [gos, if_true, if_false, ne_eq, eq_self, Nat.reduceLT, Nat.reduceEqDiff, Nat.reduceAdd, Nat.reduceMul, Nat.reduceLeDiff, Nat.reduceBEq, reduceCtorEq, reduceIte, Array.toList, ↓reduceIte, tt, vgo, vout, vgoD, voutD, vclsOk, vids, mayWrite, V.ids, V.mids, vguard, callOf, vop, ev, cv, vbin, vint, isShift, isNilConst, vnil, isNilSlice, vload, vlen, newRow, vfill, vslice, entOf, vappend, srcOf, vcopy, vlookup, vupdate, mapOk, keyOf, intsOf, clsAt]
      refine Cl.pu (c_list o hcl) ?_ rfl (by simp only [V.into, intoL, cB_into, vB_into, cI_into, cR_into, cD_into, cS_into, vS_into, vI_into, vR_into, vD_into, cu_into, Bool.true_and, Bool.and_true])
      simp only [gos, if_true, if_false, ne_eq, eq_self, Nat.reduceLT, Nat.reduceEqDiff, Nat.reduceAdd, Nat.reduceMul, Nat.reduceLeDiff, Nat.reduceBEq, reduceCtorEq, reduceIte, Array.toList, ↓reduceIte, tt, vgo, vout, vgoD, voutD, vclsOk, vids, mayWrite, V.ids, V.mids, vguard, callOf, vop, ev, cv, vbin, vint, isShift, isNilConst, vnil, isNilSlice, vload, vlen, newRow, vfill, vslice, entOf, vappend, srcOf, vcopy, vlookup, vupdate, mapOk, keyOf, intsOf, clsAt]
      refine Cl.pu (c_ProveCoal c wf o hcl 99) ?_ rfl (by simp only [V.into, intoL, cB_into, vB_into, cI_into, cR_into, cD_into, cS_into, vS_into, vI_into, vR_into, vD_into, cu_into, Bool.true_and, Bool.and_true])
      rw [prove_ok A hA hco (by omega), T.sure A X hsx]
      simp only [gos, if_true, if_false, ne_eq, eq_self, Nat.reduceLT, Nat.reduceEqDiff, Nat.reduceAdd, Nat.reduceMul, Nat.reduceLeDiff, Nat.reduceBEq, reduceCtorEq, reduceIte, Array.toList, ↓reduceIte, tt, vgo, vout, vgoD, voutD, vclsOk, vids, mayWrite, V.ids, V.mids, vguard, callOf, vop, ev, cv, vbin, vint, isShift, isNilConst, vnil, isNilSlice, vload, vlen, newRow, vfill, vslice, entOf, vappend, srcOf, vcopy, vlookup, vupdate, mapOk, keyOf, intsOf, clsAt]
      refine Cl.pu c_awake ?_
      simp only [gos, if_true, if_false, ne_eq, eq_self, Nat.reduceLT, Nat.reduceEqDiff, Nat.reduceAdd, Nat.reduceMul, Nat.reduceLeDiff, Nat.reduceBEq, reduceCtorEq, reduceIte, Array.toList, ↓reduceIte, tt, vgo, vout, vgoD, voutD, vclsOk, vids, mayWrite, V.ids, V.mids, vguard, callOf, vop, ev, cv, vbin, vint, isShift, isNilConst, vnil, isNilSlice, vload, vlen, newRow, vfill, vslice, entOf, vappend, srcOf, vcopy, vlookup, vupdate, mapOk, keyOf, intsOf, clsAt]
      subst hQ
      exact FnPost.plain trivial (v := .bool true) (fun h2 e => by rfl) (WkV.pure rfl) rfl
end Go.Vm
