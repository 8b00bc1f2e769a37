import Derived.Test.YtjppikcigeiomaaGreatB3
set_option linter.unusedVariables false
set_option linter.unusedSimpArgs false
set_option maxRecDepth 100000
namespace Go.Vm
open Go.Proofs
/-! ### the top laws' helpers -/
/-- A room whose coppers have no readings. -/
def dryR (r : Rm) : Rm := { r with cu := { r.cu with readings := [] } }
def dryS (r : Rm) : List V := [vi r.cu.last, vi r.cu.start, vi r.cu.most, vi r.cu.per, vi r.cu.shovels, vI r.cu.coal, vI r.cu.want, vi r.cu.heat.lo, vi r.cu.heat.hi, vR r.cu.loss, .sl0, vi r.bu, vi r.pl, vR r.ba]
theorem impDry (r : Rm) : ImpV (.agg (dryS r)) (.agg (dryR r).cs) :=
  ImpV.aggR ⟨ImpV.refl _, ImpV.refl _, ImpV.refl _, ImpV.refl _, ImpV.refl _, ImpV.refl _, ImpV.refl _, ImpV.refl _, ImpV.refl _, ImpV.refl _, sl0_vD, ImpV.refl _, ImpV.refl _, ImpV.refl _, trivial⟩
theorem c_dry (r : Rm) : Pu Tryz.prog (.fn 72 [] []) [.agg r.cs] (.agg (dryR r).cs) := by
  refine Ev.fn Tryz.func72 rfl rfl (Fn.body tabOk Tryz.func72 rfl (Nat.le_of_ble_eq_true rfl) (Ks.ok (fz := (fzn [2, 3])) (cl := (cln [])) tabOk mixed ?_))
  generalize hQ : FnPost tt Tryz.f72 _ _ = Q
  simp only [Tryz.f72, List.nil_append, List.append_nil, argsEnv]
  simp only [gos, eq_self, Nat.reduceLT, Nat.reduceEqDiff, Nat.reduceAdd, Nat.reduceLeDiff, reduceCtorEq, reduceIte, ↓reduceIte, tt, vgo, vout, vguard, callOf, vop, ev, cv, vload, newRow, rms]
  simp only [gos, eq_self, Nat.reduceLT, Nat.reduceEqDiff, Nat.reduceAdd, reduceCtorEq, reduceIte, ↓reduceIte, tt, vgo, vout, vguard, callOf, vop, ev, Rm.cs]
  subst hQ
  exact FnPost.plain trivial (v := .agg (dryS r)) (fun h2 e => by simp only [Tryz.f72, vres, vresL, vres1, gos, eq_self, Nat.reduceLT, Nat.reduceEqDiff, Nat.reduceAdd, reduceCtorEq, reduceIte, ↓reduceIte, tt, vload, e _]; rfl) (WkV.trans (WkV.less (v' := .agg (dryR r).cs) (impDry r)) (WkV.pure (by simp only [V.into, rm_into]))) ⟨rfl, rfl⟩
def exOne (p : Int) : Rm := ⟨⟨0, 7, 60, 4, 2, [2], [1], ⟨10, 11⟩, [⟨1, 3⟩], []⟩, 2, p, []⟩
def exOneS (p : Int) : List V := [vi 0, vi 7, vi 60, vi 4, vi 2, vI [2], vI [1], vi 10, vi 11, vR [⟨1, 3⟩], .sl0, vi 2, vi p, .sl0]
theorem sl0_vR : ImpV .sl0 (vR []) := ImpV.sl0
theorem impOne (p : Int) : ImpV (.agg (exOneS p)) (.agg (exOne p).cs) :=
  ImpV.aggR ⟨ImpV.refl _, ImpV.refl _, ImpV.refl _, ImpV.refl _, ImpV.refl _, ImpV.refl _, ImpV.refl _, ImpV.refl _, ImpV.refl _, ImpV.refl _, sl0_vD, ImpV.refl _, ImpV.refl _, sl0_vR, trivial⟩
theorem exOne_wf (p : Int) : (exOne p).wf := ⟨⟨⟨by simp [exOne], by simp [exOne]⟩, by simp [exOne], by simp [exOne], by simp [exOne], by simp [exOne]⟩, by simp [exOne]⟩
theorem c_oneHour (p : Int) : Pu Tryz.prog (.fn 116 [] []) [vi p] (.agg (exOne p).cs) := by
  refine Ev.fn Tryz.func116 rfl rfl (Fn.body tabOk Tryz.func116 rfl (Nat.le_of_ble_eq_true rfl) (Ks.ok (fz := (fzn [2, 3])) (cl := (cln [])) tabOk mixed ?_))
  generalize hQ : FnPost tt Tryz.f116 _ _ = Q
  simp only [Tryz.f116, List.nil_append, List.append_nil, argsEnv]
  simp only [gos, eq_self, Nat.reduceLT, Nat.reduceEqDiff, Nat.reduceAdd, Nat.reduceMul, Nat.reduceLeDiff, reduceCtorEq, reduceIte, ↓reduceIte, tt, vgo, vout, vguard, callOf, vop, ev, cv, vload, newRow, vfill]
  subst hQ
  exact FnPost.plain trivial (v := .agg (exOneS p)) (fun h2 e => by simp only [Tryz.f116, vres, vresL, vres1, gos, eq_self, Nat.reduceLT, Nat.reduceEqDiff, Nat.reduceAdd, reduceCtorEq, reduceIte, ↓reduceIte, tt, vload, e _]; rfl) (WkV.trans (WkV.less (v' := .agg (exOne p).cs) (impOne p)) (WkV.pure (by simp only [V.into, rm_into]))) ⟨rfl, rfl⟩
theorem bt_1 : sSpareA (exOne 5).cu 0 = (5, 0) := by decide +kernel
theorem bt_2 : sFreeR (exOne 5) [] 0 = (2, 0) := by decide +kernel
theorem bt_3 : sFreeR (exOne 1) [] 0 = (1, 0) := by decide +kernel
set_option maxHeartbeats 1000000 in
theorem c_bathed : Pu Tryz.prog (.fn 74 [] []) [] (.bool true) := by
  have p1 := c_Spare (exOne 5).cu (exOne_wf 5).cu 0
  rw [bt_1] at p1
  have p2 := c_bFree (exOne 5) (exOne_wf 5) [] (by simp) 0 ⟨by omega, by omega⟩
  rw [bt_2] at p2
  have p3 := c_bFree (exOne 1) (exOne_wf 1) [] (by simp) 0 ⟨by omega, by omega⟩
  rw [bt_3] at p3
  refine Ev.fn Tryz.func74 rfl rfl (Fn.body tabOk Tryz.func74 rfl (Nat.le_of_ble_eq_true rfl) (Ks.ok (fz := (fzn [])) (cl := (cln [])) tabOk mixed ?_))
  generalize hQ : FnPost tt Tryz.f74 _ _ = Q
  simp only [Tryz.f74, List.append_nil, argsEnv]
  simp only [gos, eq_self, Nat.reduceLT, reduceIte, ↓reduceIte, vgo, vout, vguard, callOf, vop, ev, cv]
  refine Cl.pu (c_oneHour 5) ?_
  simp only [gos, eq_self, Nat.reduceLT, Nat.reduceAdd, Nat.reduceLeDiff, reduceIte, ↓reduceIte, tt, vgo, vout, vguard, callOf, vop, ev, cv, rms]
  refine Cl.pu p1 ?_ rfl (by simp only [V.into, intoL, cu_into, Bool.and_true])
  simp only [gos, eq_self, Nat.reduceLT, Nat.reduceEqDiff, reduceIte, ↓reduceIte, vgo, vout, vguard, callOf, vop, ev, cv]
  refine Cl.pu (c_oneHour 5) ?_
  simp only [gos, eq_self, Nat.reduceLT, reduceIte, ↓reduceIte, vgo, vout, vguard, callOf, ev, cv]
  refine Cl.less (cs := [.agg (exOne 5).cs, vI [], vi 0]) (ImpV.refl _) ⟨ImpV.refl _, sl0_vI, ImpV.refl _, trivial⟩ (Cl.pu p2 ?_ rfl (by simp only [V.into, intoL, vI_into, Bool.and_true, rm_into]))
  simp only [gos, eq_self, Nat.reduceLT, Nat.reduceEqDiff, reduceIte, ↓reduceIte, vgo, vout, vguard, callOf, vop, ev, cv]
  refine Cl.pu (c_oneHour 1) ?_
  simp only [gos, eq_self, Nat.reduceLT, reduceIte, ↓reduceIte, vgo, vout, vguard, callOf, ev, cv]
  refine Cl.less (cs := [.agg (exOne 1).cs, vI [], vi 0]) (ImpV.refl _) ⟨ImpV.refl _, sl0_vI, ImpV.refl _, trivial⟩ (Cl.pu p3 ?_ rfl (by simp only [V.into, intoL, vI_into, Bool.and_true, rm_into]))
  have a0 : decide ((0 : Int) = 0) = true := rfl
  have a1 : decide ((5 : Int) = 5) = true := rfl
  have a2 : decide ((2 : Int) = 2) = true := rfl
  have a3 : decide ((1 : Int) = 1) = true := rfl
  simp only [gos, eq_self, Nat.reduceLT, Nat.reduceEqDiff, reduceIte, ↓reduceIte, vgo, vout, vguard, callOf, vop, ev, cv, vbin, vint, isShift, isNilConst]
  subst hQ
  exact FnPost.plain trivial (fun h2 e => by first | rfl | (simp only [Tryz.f74, vres, vresL, vres1, e _, gos, if_true, if_false, ne_eq, eq_self, Nat.reduceLT, Nat.reduceEqDiff, Nat.reduceAdd, Nat.reduceMul, Nat.reduceLeDiff, Nat.reduceBEq, reduceCtorEq, reduceIte, Array.toList, ↓reduceIte, tt, vgo, vout, vgoD, voutD, vclsOk, vids, mayWrite, V.ids, V.mids, vguard, callOf, vop, ev, cv, vbin, vint, isShift, isNilConst, vnil, isNilSlice, vload, vlen, newRow, vfill, vslice, entOf, vappend, srcOf, vcopy, vlookup, vupdate, mapOk, keyOf, intsOf, clsAt]; try rfl)) (WkV.pure (by simp only [V.into])) ⟨rfl, rfl⟩
def exSt (n : Int) : Rm := ⟨⟨0, 6, 60, 4, 2, [n], [1], ⟨10, 11⟩, [⟨1, 3⟩], []⟩, 2, 5, []⟩
theorem exSt_wf (n : Int) : (exSt n).wf := ⟨⟨⟨by simp [exSt], by simp [exSt]⟩, by simp [exSt], by simp [exSt], by simp [exSt], by simp [exSt]⟩, by simp [exSt]⟩
theorem st_1 : sMostR (exSt 0) = ([], 10) := by decide +kernel
theorem st_2 : sMostR (exSt 1) = ([1], 0) := by decide +kernel
set_option maxHeartbeats 1000000 in
theorem c_stoked : Pu Tryz.prog (.fn 79 [] []) [] (.bool true) := by
  have p1 := c_bMost (exSt 0) (exSt_wf 0)
  rw [st_1] at p1
  have p2 := c_bMost (exSt 1) (exSt_wf 1)
  rw [st_2] at p2
  refine Ev.fn Tryz.func79 rfl rfl (Fn.body tabOk Tryz.func79 rfl (Nat.le_of_ble_eq_true rfl) (Ks.ok (fz := (fzn [1, 2])) (cl := (cln [])) tabOk mixed ?_))
  generalize hQ : FnPost tt Tryz.f79 _ _ = Q
  simp only [Tryz.f79, List.append_nil, argsEnv]
  simp only [gos, eq_self, Nat.reduceLT, reduceIte, ↓reduceIte, vgo, vout, vguard, callOf, vop, ev, cv]
  refine Cl.pu (c_oneHour 5) ?_
  simp only [gos, eq_self, Nat.reduceLT, reduceIte, ↓reduceIte, vgo, vout, vguard, callOf, ev, cv]
  refine Cl.pu (c_oneHour 5) ?_
  have hone : oneL (exOne 5).cs = true := rfl
  simp only [gos, eq_self, Nat.reduceLT, Nat.reduceEqDiff, Nat.reduceAdd, Nat.reduceMul, Nat.reduceLeDiff, reduceCtorEq, reduceIte, ↓reduceIte, tt, vgo, vout, vguard, callOf, vop, ev, cv, newRow, vfill, rms, hone]
  simp only [gos, eq_self, Nat.reduceLT, Nat.reduceEqDiff, Nat.reduceAdd, Nat.reduceLeDiff, reduceCtorEq, reduceIte, ↓reduceIte, tt, vgo, vout, vguard, callOf, vop, ev, cv, vload, Rm.cs, exOne]
  have e1 : V.agg [vi 0, vi 6, vi 60, vi 4, vi 2, V.ro 1 [V.int IntKind.i64 0], vI [1], vi 10, vi 11, vR [⟨1, 3⟩], vD [], vi 2, vi 5, vR []] = V.agg (exSt 0).cs := rfl
  have e2 : V.agg [vi 0, vi 6, vi 60, vi 4, vi 2, V.ro 1 [V.int IntKind.i64 1], vI [1], vi 10, vi 11, vR [⟨1, 3⟩], vD [], vi 2, vi 5, vR []] = V.agg (exSt 1).cs := rfl
  rw [e1]
  refine Cl.pu p1 ?_ rfl (by simp only [V.into, intoL, Bool.and_true, rm_into])
  simp only [gos, eq_self, Nat.reduceLT, Nat.reduceEqDiff, Nat.reduceAdd, reduceCtorEq, reduceIte, ↓reduceIte, tt, vgo, vout, vguard, callOf, vop, ev, vload]
  rw [e2]
  refine Cl.pu p2 ?_ rfl (by simp only [V.into, intoL, Bool.and_true, rm_into])
  have a0 : decide ((10 : Int) = 10) = true := rfl
  have a1 : decide ((0 : Int) = 0) = true := rfl
  have a2 : decide (((1 : Nat) : Int) = 1) = true := rfl
  have a3 : decide ((1 : Int) = 1) = true := rfl
  have a4 : (0 : Int) < ((1 : Nat) : Int) := by decide
  have a5 : (0 : Int) ≤ 0 := by decide
  have a6 : Int.toNat 0 = 0 := rfl
  simp only [gos, eq_self, Nat.reduceLT, Nat.reduceEqDiff, Nat.reduceAdd, reduceIte, ↓reduceIte, tt, vgo, vout, vguard, callOf, vop, ev, cv, vbin, vint, isShift, isNilConst, vlen, vI, cI, a2]
  simp only [gos, eq_self, Nat.reduceLT, Nat.reduceEqDiff, reduceCtorEq, reduceIte, ↓reduceIte, tt, vgo, vout, vguard, callOf, vop, ev, cv, vbin, vint, isShift, isNilConst, vload, a4, a5, a6, Nat.zero_mul]
  subst hQ
  exact FnPost.plain trivial (fun h2 e => by first | rfl | (simp only [Tryz.f79, vres, vresL, vres1, e _, gos, if_true, if_false, ne_eq, eq_self, Nat.reduceLT, Nat.reduceEqDiff, Nat.reduceAdd, Nat.reduceMul, Nat.reduceLeDiff, Nat.reduceBEq, reduceCtorEq, reduceIte, Array.toList, ↓reduceIte, tt, vgo, vout, vgoD, voutD, vclsOk, vids, mayWrite, V.ids, V.mids, vguard, callOf, vop, ev, cv, vbin, vint, isShift, isNilConst, vnil, isNilSlice, vload, vlen, newRow, vfill, vslice, entOf, vappend, srcOf, vcopy, vlookup, vupdate, mapOk, keyOf, intsOf, clsAt]; try rfl)) (WkV.pure (by simp only [V.into])) ⟨rfl, rfl⟩
/-- The coppers of a room with a greater Want. -/
def wanR (r : Rm) (m : List Int) : Cu := { r.cu with want := addL r.cu.want (rBk r m) }
theorem c_r9Wanted (r : Rm) (m : List Int) (h : MOk r m) : Pu Tryz.prog (.fn 48 [] []) [.agg r.cs, vI m] (.agg (wanR r m).cs) := by
  refine Ev.fn Tryz.func48 rfl rfl (Fn.body tabOk Tryz.func48 rfl (Nat.le_of_ble_eq_true rfl) (Ks.ok (fz := (fzn [4, 5])) (cl := (cln [(2, .d tg0 [cP, cL, cP, cP, cP, cP, cP, cW])])) tabOk mixed ?_))
  generalize hQ : FnPost tt Tryz.f48 _ _ = Q
  simp only [Tryz.f48, List.nil_append, List.append_nil, argsEnv, Nat.reduceAdd]
  have hone : oneL r.cu.cs = true := rfl
  have h6 : (List.drop 6 r.cu.cs).head? = some (vI r.cu.want) := rfl
  have hcl : r.cu.cs.length = 11 := rfl
  simp only [gos, eq_self, Nat.reduceLT, Nat.reduceEqDiff, Nat.reduceAdd, Nat.reduceLeDiff, reduceCtorEq, reduceIte, ↓reduceIte, tt, vgo, vout, vguard, callOf, vop, ev, vload, newRow, rms, hone, hcl]
  refine Wr.draw (by kernel_rfl) ?_
  simp only [gos, eq_self, Nat.reduceLT, Nat.reduceEqDiff, Nat.reduceAdd, reduceCtorEq, reduceIte, ↓reduceIte, tt, vgoD, voutD, vclsOk, vids, mayWrite, V.ids, vguard, callOf, vop, ev, vload, clsAt, rms, h6]
  refine CD.pu (c_r9Buckets r m h.bu h.len fun x hx => by have := h.mb x hx; omega) ?_ rfl (by simp only [V.into, intoL, vI_into, Bool.and_true, rm_into])
  simp only [gos, eq_self, Nat.reduceLT, Nat.reduceEqDiff, reduceIte, ↓reduceIte, vgoD, voutD, vguard, callOf, ev]
  refine CD.pu (c_rSum r.cu.want (rBk r m) (by have := h.wl; have := h.len; omega) (by have := h.wl; simp [rBk]; omega) fun i hi => ?_) ?_ rfl (by simp only [intoL, vI_into, Bool.and_true])
  · have hm := h.mb _ (gi_mem (l := m) (i := i) (by have := h.wl; omega))
    have hw := h.wb _ (gi_mem (l := r.cu.want) (i := i) (by omega))
    have hb := h.bu
    have h1 : 0 ≤ r.bu * gi m i := Int.mul_nonneg hb.1 hm.1
    have h2 : r.bu * gi m i ≤ 1000 * 900 := Int.mul_le_mul hb.2 hm.2 hm.1 (by omega)
    rw [rBk_gi r m (by have := h.wl; omega)]
    omega
  simp only [gos, eq_self, Nat.reduceLT, Nat.reduceEqDiff, Nat.reduceAdd, Nat.reduceLeDiff, reduceCtorEq, reduceIte, ↓reduceIte, tt, vgo, vout, vgoD, voutD, vclsOk, vids, mayWrite, V.ids, vguard, callOf, vop, ev, vload, Cu.cs]
  subst hQ
  exact FnPost.plain trivial (v := .agg (wanR r m).cs) (fun h2 e => by simp only [Tryz.f48, vres, vresL, vres1, gos, eq_self, Nat.reduceLT, Nat.reduceEqDiff, Nat.reduceAdd, reduceCtorEq, reduceIte, ↓reduceIte, tt, vload, e _]; rfl) (WkV.pure (by simp only [V.into, cu_into])) ⟨rfl, rfl⟩
end Go.Vm

set_option linter.unusedVariables false
set_option linter.unusedSimpArgs false
set_option maxRecDepth 100000
namespace Go.Vm
open Go.Proofs Go.ChangeShapes Go.WideShapes Go.ChangeAt Go.RowKit
/-- What is known of a room that came in. -/
structure Rm.ok (r : Rm) : Prop where
  cu : r.cu.ok
  bu : I64 r.bu
  pl : I64 r.pl
  ba : ∀ b ∈ r.ba, b.ok
section
variable {H : Type} {enc : TypeId × Value → H} {w : World} {base : Nat} {spare : Nat → Bool} {held : Bool} {fuel : Nat} {cs : List Value} {x : DataW H × List MemPlace}
theorem rd_bath (h : DataW.trod enc Tryz.prog w base spare held fuel 89 cs = some x) : ∃ r : Rg, r.ok ∧ VRL (gh0 w) r.cs cs := by
  obtain ⟨xs, n, _, _, hl, hx, hf⟩ := DataW.trod_struct Tryz.underlying89 h
  have hl2 : cs.length = 2 := hl.trans (by kernel_rfl)
  have hx2 : xs.length = 2 := hx
  have f0 : DataW.trod enc Tryz.prog w base spare held n 3 ((cs.drop 0).take (Tryz.prog.cellsOf 3)) = xs[0]? := hf 0 _ rfl
  have f1 : DataW.trod enc Tryz.prog w base spare held n 3 ((cs.drop 1).take (Tryz.prog.cellsOf 3)) = xs[1]? := hf 1 _ rfl
  rw [List.getElem?_eq_getElem (by omega)] at f0 f1
  obtain ⟨a, ha, va⟩ := rd_int Tryz.underlying3 f0
  obtain ⟨b, hb, vb⟩ := rd_int Tryz.underlying3 f1
  refine ⟨⟨a, b⟩, ⟨ha, hb⟩, ?_⟩
  have hc : Tryz.prog.cellsOf 3 = 1 := by kernel_rfl
  simp only [hc, List.drop_zero] at va vb
  rw [List.take_of_length_le (by simp; omega)] at vb
  exact VRL_two va vb
theorem rd_rm (h : DataW.trod enc Tryz.prog w base spare held fuel 31 cs = some x) : ∃ r : Rm, r.ok ∧ VRL (gh0 w) r.cs cs := by
  obtain ⟨xs, n, _, _, hl, hx, hf⟩ := DataW.trod_struct Tryz.underlying31 h
  have hl2 : cs.length = 14 := hl.trans (by kernel_rfl)
  have hx2 : xs.length = 4 := hx
  have f0 : DataW.trod enc Tryz.prog w base spare held n 28 ((cs.drop 0).take (Tryz.prog.cellsOf 28)) = xs[0]? := hf 0 _ rfl
  have f1 : DataW.trod enc Tryz.prog w base spare held n 3 ((cs.drop 11).take (Tryz.prog.cellsOf 3)) = xs[1]? := hf 1 _ rfl
  have f2 : DataW.trod enc Tryz.prog w base spare held n 3 ((cs.drop 12).take (Tryz.prog.cellsOf 3)) = xs[2]? := hf 2 _ rfl
  have f3 : DataW.trod enc Tryz.prog w base spare held n 29 ((cs.drop 13).take (Tryz.prog.cellsOf 29)) = xs[3]? := hf 3 _ rfl
  rw [List.getElem?_eq_getElem (by omega)] at f0 f1 f2 f3
  have hc : Tryz.prog.cellsOf 3 = 1 := by kernel_rfl
  have hc1 : Tryz.prog.cellsOf 28 = 11 := by kernel_rfl
  have hc2 : Tryz.prog.cellsOf 89 = 2 := by kernel_rfl
  have hc3 : Tryz.prog.cellsOf 29 = 1 := by kernel_rfl
  obtain ⟨a0, h0, v0⟩ := rd_cu f0
  obtain ⟨a1, h1, v1⟩ := rd_int Tryz.underlying3 f1
  obtain ⟨a2, h2, v2⟩ := rd_int Tryz.underlying3 f2
  obtain ⟨a3, h3, _, v3⟩ := rd_slice Rg.cs Rg.ok 2 Tryz.underlying29 hc2 (by omega) (fun _ => rfl) f3 fun n cs x h => rd_bath h
  rw [cR_flat] at v3
  refine ⟨⟨a0, a1, a2, a3⟩, ⟨h0, h1, h2, h3⟩, ?_⟩
  match cs, hl2 with
  | [c0, c1, c2, c3, c4, c5, c6, c7, c8, c9, c10, c11, c12, c13], _ =>
    simp only [hc, hc1, hc3, List.drop_zero, List.drop_succ_cons, List.take_succ_cons, List.take_zero, List.take_nil] at v0 v1 v2 v3
    exact VRL.append v0 (VRL.append v1 (VRL.append v2 v3))
end
end Go.Vm

set_option linter.unusedVariables false
set_option linter.unusedSimpArgs false
set_option maxRecDepth 100000
namespace Go.Vm
/-! ### more baths and spare buckets -/
theorem whole_cu (c x : Cu) (h0 : x.last = c.last) (h1 : x.start = c.start) (h2 : x.most = c.most) (h3 : x.per = c.per) (coal want : List Int) (t : Tr2) : wholeI x coal want t = wholeI c coal want t := by
  simp only [wholeI, keptI, h0, h3, sHeat_cu c x h1 h2 h3]
theorem wholes_cu (c x : Cu) (h0 : x.last = c.last) (h1 : x.start = c.start) (h2 : x.most = c.most) (h3 : x.per = c.per) (l : List Tr2) (coal want : List Int) : rWholes x l coal want = rWholes c l coal want := by
  have e : (fun t => wholeI x coal want t) = fun t => wholeI c coal want t := funext fun t => whole_cu c x h0 h1 h2 h3 coal want t
  simp only [rWholes, e]
theorem nth_cu (c x : Cu) (h1 : x.heat = c.heat) (h2 : x.loss = c.loss) (n : Int) : rNth x n = rNth c n := by simp only [rNth, h1, h2]
/-- Without readings the truths depend on the ranges alone. -/
theorem truths_dry (c x : Cu) (h1 : x.heat = c.heat) (h2 : x.loss = c.loss) (h3 : c.readings = []) (h4 : x.readings = []) : rTruths x = rTruths c := by
  have e1 : rMany x = rMany c := by simp only [rMany, h1, h2]
  have e2 : ∀ y : Cu, y.readings = [] → ∀ t, rIs y t = true := fun y hy t => by simp [rIs, rRight, rFull, hy, bitsI]
  have e3 : ∀ y : Cu, y.readings = [] → rTruths y = (List.range (rMany y).toNat).map fun (n : Nat) => rNth y n := fun y hy => by
    rw [rTruths, rTr, List.filter_eq_self]
    intro t _
    exact e2 y hy t
  rw [e3 x h4, e3 c h3, e1]
  apply List.map_congr_left
  intro n _
  exact nth_cu c x h1 h2 n
theorem dry_asked {c : Cu} (k0 : CuOk c) (h : c.readings = []) : sAsked c true = 0 := by
  rw [asked_poss k0, if_pos]
  obtain ⟨x, hx⟩ := List.exists_mem_of_ne_nil _ (truths_ne k0)
  rw [sPoss, List.any_eq_true]
  exact ⟨x, hx, by rw [right_all, h]; rfl⟩
theorem wan_ok {r : Rm} (k : RmOk r) {n : List Int} (h0 : ∀ i : Nat, (i : Int) ≤ r.cu.last → 0 ≤ gi n i) (hp : sPossN r n = true) : CuOk { r.cu with want := addL r.cu.want (nb r n) } :=
  have k0 := k.A.k0
  ⟨k0.last, k0.rds, k0.most, k0.start, k0.per, k0.shovels, k0.coal, ⟨by show ((addL r.cu.want (nb r n)).length : Int) = _; rw [addL_len']; exact k0.want.1, addL_poss k h0 hp⟩, k0.heat, k0.loss, k0.readings, k0.many⟩
theorem addN1_gi {n : List Int} {h : Nat} (hl : h < n.length) (m : Nat) (i : Nat) : gi (addN1 n h m) i = gi n i + if i = h then (m : Int) else 0 := by
  rw [addN1, gi_setN _ hl]
  by_cases e : h = i
  · subst e; simp
  · rw [if_neg e, if_neg (Ne.symm e)]; omega
theorem poss_add {r : Rm} (k : RmOk r) {n : List Int} (hn : n.length = 5) (hp : sPossN r n = true) {h : Nat} (hh : (h : Int) ≤ r.cu.last) (m : Nat) (h0 : 0 ≤ gi n h) (hm : 1 ≤ m) :
    sPossN r (addN1 n h m) = true ↔ gi n h + m ≤ r.pl ∧ gi r.cu.want h + r.bu * (gi n h + m) ≤ 20 := by
  have hla := k.A.k0.last
  have hg : gi (addN1 n h m) h = gi n h + m := by rw [addN1_gi (by omega)]; simp
  rw [sPossN, List.all_eq_true] at hp
  rw [sPossN, List.all_eq_true]
  constructor
  · intro hx
    have := hx h (List.mem_range.2 (by omega))
    rw [hg] at this
    simp only [sRoom, Bool.or_eq_true, Bool.and_eq_true, decide_eq_true_eq] at this
    rcases this with h1 | h1
    · omega
    · exact h1
  · rintro ⟨h1, h2⟩ i hi
    by_cases e : i = h
    · subst e
      rw [hg]
      simp only [sRoom, Bool.or_eq_true, Bool.and_eq_true, decide_eq_true_eq]
      exact .inr ⟨h1, h2⟩
    · have := hp i hi
      rw [addN1_gi (by omega), if_neg e, Int.add_zero]
      exact this
theorem nb_add {r : Rm} (k : RmOk r) {n : List Int} (hn : n.length = 5) {h : Nat} (hh : (h : Int) ≤ r.cu.last) (m : Nat) :
    addL r.cu.want (nb r (addN1 n h m)) = addL (addL r.cu.want (nb r n)) (moreAt r.cu h (r.bu * m)) := by
  have hla := k.A.k0.last
  have hw := k.A.k0.want.1
  refine list_ext (by simp only [addL_len']) fun i hi => ?_
  rw [addL_len'] at hi
  rw [addL_gi hi, addL_gi (by rw [addL_len']; exact hi), addL_gi hi, nb_gi (by omega), nb_gi (by omega), moreAt_gi _ (by omega), addN1_gi (by omega)]
  have e : (i = (h : Int).toNat) ↔ i = h := by omega
  by_cases e2 : i = h
  · rw [if_pos e2, if_pos (e.2 e2), Int.mul_add]; omega
  · rw [if_neg e2, if_neg (fun h => e2 (e.1 h)), Int.mul_add]; omega
theorem le_tdiv {m a b : Int} (ha : 0 ≤ a) (hb : 1 ≤ b) : m ≤ a.tdiv b ↔ b * m ≤ a := by
  rw [Int.tdiv_eq_ediv_of_nonneg ha, Int.le_ediv_iff_mul_le (by omega), Int.mul_comm]
/-- How many more baths there can be, by the spare buckets. -/
theorem free_eq {r : Rm} (k : RmOk r) {n : List Int} (hn : n.length = 5) (h0 : ∀ i : Nat, 0 ≤ gi n i) (hs : sSureN r n = true) {h : Nat} (hh : (h : Int) ≤ r.cu.last) {s : Int} (hs0 : 0 ≤ s)
    (hsp : ∀ m : Int, 0 ≤ m → m ≤ 20 → (rWholes r.cu (rTruths r.cu) r.cu.coal (addL (addL r.cu.want (nb r n)) (moreAt r.cu h m)) = 1 ↔ m ≤ s)) :
    (freeN r n h : Int) = min (r.pl - gi n h) (min (s.tdiv r.bu) ((20 - (gi r.cu.want h + r.bu * gi n h)).tdiv r.bu)) := by
  have hb := k.bu
  have hpl := k.pl
  have hla := k.A.k0.last
  have hs2 := hs
  simp only [sSureN, Bool.and_eq_true, decide_eq_true_eq] at hs2
  have hp := hs2.1
  have hw := (k.A.k0.want.2 _ (gi_mem (l := r.cu.want) (i := h) (by have := k.A.k0.want.1; omega)))
  have hx := hp
  rw [sPossN, List.all_eq_true] at hx
  have hxh := hx h (List.mem_range.2 (by omega))
  simp only [sRoom, Bool.or_eq_true, Bool.and_eq_true, decide_eq_true_eq] at hxh
  have hg := h0 h
  have hq : 0 ≤ r.pl - gi n h ∧ 0 ≤ 20 - (gi r.cu.want h + r.bu * gi n h) := by
    rcases hxh with h1 | ⟨h1, h2⟩
    · rw [h1]; omega
    · omega
  have key : ∀ m : Nat, 1 ≤ m → (sSureN r (addN1 n h m) = true ↔ (m : Int) ≤ min (r.pl - gi n h) (min (s.tdiv r.bu) ((20 - (gi r.cu.want h + r.bu * gi n h)).tdiv r.bu))) := fun m hm => by
    have e1 := poss_add k hn hp hh m hg hm
    have hm1 : 0 ≤ r.bu * (m : Int) := Int.mul_nonneg (by omega) (by omega)
    rw [Int.le_min, Int.le_min, le_tdiv hs0 hb.1, le_tdiv hq.2 hb.1]
    have e3 : r.bu * (gi n h + m) = r.bu * gi n h + r.bu * m := Int.mul_add ..
    simp only [sSureN, Bool.and_eq_true, decide_eq_true_eq]
    have hge : ∀ i : Nat, (i : Int) ≤ r.cu.last → 0 ≤ gi (addN1 n h m) i := fun i _ => by
      rw [addN1_gi (by omega)]; have := h0 i; split <;> omega
    have hbn : 0 ≤ r.bu * gi n h := Int.mul_nonneg (by omega) hg
    constructor
    · rintro ⟨h1, h2⟩
      obtain ⟨h3, h4⟩ := e1.1 h1
      rw [keV_eq k hge h1, nb_add k hn hh] at h2
      have := (hsp (r.bu * m) hm1 (by omega)).1 h2
      omega
    · rintro ⟨h1, h2, h3⟩
      have h4 := e1.2 ⟨by omega, by omega⟩
      refine ⟨h4, ?_⟩
      rw [keV_eq k hge h4, nb_add k hn hh]
      exact (hsp (r.bu * m) hm1 (by omega)).2 h2
  have hM0 : 0 ≤ min (r.pl - gi n h) (min (s.tdiv r.bu) ((20 - (gi r.cu.want h + r.bu * gi n h)).tdiv r.bu)) := by
    rw [Int.le_min, Int.le_min, le_tdiv hs0 hb.1, le_tdiv hq.2 hb.1]
    rw [Int.mul_zero]; omega
  have hM5 : min (r.pl - gi n h) (min (s.tdiv r.bu) ((20 - (gi r.cu.want h + r.bu * gi n h)).tdiv r.bu)) ≤ r.pl - gi n h := Int.min_le_left ..
  generalize min (r.pl - gi n h) (min (s.tdiv r.bu) ((20 - (gi r.cu.want h + r.bu * gi n h)).tdiv r.bu)) = M at *
  have : freeN r n h = M.toNat := by
    rw [freeN]
    refine takeWhile_len (by omega) (fun i hi => (key (i + 1) (by omega)).2 (by omega)) ?_
    cases hc : sSureN r (addN1 n h (M.toNat + 1)) with
    | false => rfl
    | true => have := (key (M.toNat + 1) (by omega)).1 hc; omega
  omega
theorem more_zero {r : Rm} (k : RmOk r) (w : List Int) (h : Int) (hl : 0 ≤ h ∧ h ≤ r.cu.last) (hw : (w.length : Int) = r.cu.last + 1) : addL w (moreAt r.cu h 0) = w := by
  refine list_ext (addL_len' ..) fun i hi => ?_
  rw [addL_len'] at hi
  rw [addL_gi hi, moreAt_gi _ (by omega)]
  split <;> omega
theorem more_mono {c : Cu} (k0 : CuOk c) (hne : rTruths c ≠ []) {w : List Int} (hw : (w.length : Int) = c.last + 1 ∧ ∀ x ∈ w, 0 ≤ x) {h a b : Int} (ha : 0 ≤ a) (hab : a ≤ b) {coal : List Int} (h1 : rWholes c (rTruths c) coal (addL w (moreAt c h b)) = 1) :
    rWholes c (rTruths c) coal (addL w (moreAt c h a)) = 1 := by
  rw [wholes_one hne] at h1 ⊢
  intro t ht
  refine whole_want k0.per.1 (fun i hi => ?_) (h1 t ht)
  have hg := hw.2 _ (gi_mem (l := w) (i := i) (by omega))
  rw [addL_gi (by omega), addL_gi (by omega), moreAt_gi _ hi, moreAt_gi _ hi]
  split <;> omega
end Go.Vm
