import Derived.Test.YtjppikcigeiomaaB3
import Derived.Test.YtjppikcigeiomaaRows
import Derived.WalkKit
import Derived.ProofKit
import Derived.OpenShut
import Derived.ShutString
import Derived.ChangeOld
import Derived.Below
set_option linter.unusedVariables false
set_option linter.unusedSimpArgs false
set_option maxRecDepth 100000
namespace Go.Vm
open Go.Proofs Go.ChangeShapes Go.WideShapes Go.ChangeAt Go.RowKit
/-! ### from a contract to the row -/
theorem hrel0 (w : World) : HRel (gh0 w) [] w :=
  ⟨fun B o v e => e, fun i e he => (by cases he), fun i j e e' B c c' he => (by cases he), fun i e B c o he => (by cases he), fun i v h => absurd rfl h⟩
theorem calls_of_fn {P : Program} {f : FuncId} {vs : List V} {xs : List Value} {w : World} (c : Fn P f vs [] fun v h' => v = .bool true) (hv : VRL (gh0 w) vs xs) :
    Calls P f xs.toArray w fun e w' => e = .returned (.bool true) ∧ Below w.heap.size w w' := fun cs => by
  obtain ⟨v, h', vc, g', w', fr, rfl, st, hf, hl, hvc, H', t, le⟩ := c (gh0 w) w xs hv (hrel0 w) cs
  simp only [VR] at hvc
  subst hvc
  exact ⟨.returned (.bool true), w', fr, ⟨rfl, t.os, t.tape, t.output, t.size, fun k hk => t.mods k hk (by rintro ⟨i, e, c, he, _⟩; cases he)⟩, st, hf, hl⟩
section
variable {H : Type} {enc : TypeId × Value → H} {P : Program} {w : World} {base : Nat} {spare : Nat → Bool} {held : Bool} {fuel : Nat} {t : TypeId} {cs : List Value} {x : DataW H × List MemPlace}
end
section
variable {H : Type} {enc : TypeId × Value → H} {w : World} {base : Nat} {spare : Nat → Bool} {held : Bool} {fuel : Nat} {cs : List Value} {x : DataW H × List MemPlace}
end
end Go.Vm

set_option linter.unusedVariables false
set_option linter.unusedSimpArgs false
set_option maxRecDepth 100000
namespace Go.Vm
open Go.Proofs
def sProveP (r : Rm) (plan : List Int) : Bool := decide ((sKeepsR r plan).2 = 0) && decide ((sKeepsR r plan).1 = 1)
theorem c_ProvePlan (r : Rm) (hr : r.wf) (plan : List Int) (hp : (plan.length : Int) ≤ 1000000) : Pu Try.prog (.fn 12 [] []) [.agg r.cs, vI plan] (.bool (sProveP r plan)) := by
  refine Ev.fn Try.func12 rfl rfl (Fn.body tabOk Try.func12 rfl (Nat.le_of_ble_eq_true rfl) (Ks.ok (fz := (fzn [])) (cl := (cln [])) tabOk mixed ?_))
  generalize hQ : FnPost tt Try.f12 _ _ = Q
  simp only [Try.f12, List.nil_append, List.append_nil, argsEnv, Nat.reduceAdd]
  simp only [gos, eq_self, Nat.reduceLT, Nat.reduceEqDiff, reduceCtorEq, reduceIte, ↓reduceIte, tt, vgo, vout, vguard, callOf, vop, ev, cv, vload, newRow, rms]
  refine Cl.pu (c_bKeeps r hr plan hp) ?_ rfl (by simp only [V.into, intoL, vI_into, Bool.and_true, rm_into])
  by_cases h : (sKeepsR r plan).2 = 0
  · have hd : decide ((sKeepsR r plan).2 = 0) = true := by simp [h]
    simp only [gos, eq_self, Nat.reduceLT, Nat.reduceEqDiff, reduceIte, ↓reduceIte, vgo, vout, vguard, callOf, vop, ev, cv, vbin, vint, isShift, isNilConst, hd]
    subst hQ
    exact FnPost.plain trivial (fun h2 e => by first | rfl | (simp only [Try.f12, vres, vresL, vres1, e _, gos, if_true, if_false, ne_eq, eq_self, Nat.reduceLT, Nat.reduceEqDiff, Nat.reduceAdd, Nat.reduceMul, Nat.reduceLeDiff, Nat.reduceBEq, reduceCtorEq, reduceIte, Array.toList, ↓reduceIte, tt, vgo, vout, vgoD, voutD, vclsOk, vids, mayWrite, V.ids, V.mids, vguard, callOf, vop, ev, cv, vbin, vint, isShift, isNilConst, vnil, isNilSlice, vload, vlen, newRow, vfill, vslice, entOf, vappend, srcOf, vcopy, vlookup, vupdate, mapOk, keyOf, intsOf, clsAt]; try rfl)) (WkV.pure (by simp only [V.into])) ⟨by simp [sProveP, h], rfl⟩
  · have hd : decide ((sKeepsR r plan).2 = 0) = false := by simp [h]
    simp only [gos, eq_self, Nat.reduceLT, Nat.reduceEqDiff, reduceIte, ↓reduceIte, vgo, vout, vguard, callOf, vop, ev, cv, vbin, vint, isShift, isNilConst, hd]
    subst hQ
    exact FnPost.plain trivial (fun h2 e => by first | rfl | (simp only [Try.f12, vres, vresL, vres1, e _, gos, if_true, if_false, ne_eq, eq_self, Nat.reduceLT, Nat.reduceEqDiff, Nat.reduceAdd, Nat.reduceMul, Nat.reduceLeDiff, Nat.reduceBEq, reduceCtorEq, reduceIte, Array.toList, ↓reduceIte, tt, vgo, vout, vgoD, voutD, vclsOk, vids, mayWrite, V.ids, V.mids, vguard, callOf, vop, ev, cv, vbin, vint, isShift, isNilConst, vnil, isNilSlice, vload, vlen, newRow, vfill, vslice, entOf, vappend, srcOf, vcopy, vlookup, vupdate, mapOk, keyOf, intsOf, clsAt]; try rfl)) (WkV.pure (by simp only [V.into])) ⟨by simp [sProveP, h], rfl⟩
end Go.Vm

set_option linter.unusedVariables false
set_option linter.unusedSimpArgs false
set_option maxRecDepth 100000
namespace Go.Vm
open Go.Proofs
/-! ### the document's examples of rooms, whose baths are yet to be changed -/
def exRv (w : Int) (ba : V) : List V := [vi 2, vi 7, vi 60, vi 4, vi 3, vI [2, 1, 0], vI [w, 1, 1], vi 10, vi 12, vR [⟨2, 3⟩, ⟨4, 4⟩, ⟨0, 2⟩], vD [], vi 2, vi 2, ba]
def exRvS (w : Int) (ba : V) : List V := [vi 2, vi 7, vi 60, vi 4, vi 3, vI [2, 1, 0], vI [w, 1, 1], vi 10, vi 12, vR [⟨2, 3⟩, ⟨4, 4⟩, ⟨0, 2⟩], .sl0, vi 2, vi 2, ba]
theorem exRv_frz (i ver : Nat) (cs : List V) (w : Int) (b : V) : frzL i ver cs (exRv w b) = exRv w (b.frz i ver cs) := by
  simp only [exRv, frzL, vI_frz, vR, vD, V.frz, cR_frz, cD_frz]
theorem impRv (w : Int) (ba : V) : ImpV (.agg (exRvS w ba)) (.agg (exRv w ba)) :=
  ImpV.aggR ⟨ImpV.refl _, ImpV.refl _, ImpV.refl _, ImpV.refl _, ImpV.refl _, ImpV.refl _, ImpV.refl _, ImpV.refl _, ImpV.refl _, ImpV.refl _, sl0_vD, ImpV.refl _, ImpV.refl _, ImpV.refl _, trivial⟩
set_option maxHeartbeats 1000000 in
theorem c_threeB0 (n : Nat) (hn : n ≤ 3) (w : Int) : Ev Try.prog (.fn 5 [] []) [vi n, vi w] [] fun v h' => v = .agg (exRv w (.own 19 0 0 2 n)) ∧ h' = [(19, ⟨0, .row [vi 0, vi 1, vi 1, vi 1, vi 0, vi 2]⟩)] := by
  refine Ev.fn Try.func5 rfl rfl (Fn.body tabOk Try.func5 rfl (Nat.le_of_ble_eq_true rfl) (Ks.ok (fz := (fzn [4, 5, 19])) (cl := (cln [(3, .d (tgL [(19, 1)]) [cL, cP, cP, some ([1], []), cP, cW])])) tabOk mixed ?_))
  generalize hQ : FnPost tt Try.f5 _ _ = Q
  simp only [Try.f5, List.nil_append, List.append_nil, argsEnv, Nat.reduceAdd]
  have h1 : (0 : Int) ≤ n := by omega
  have h2 : (n : Int) ≤ 3 := by omega
  simp only [gos, eq_self, Nat.reduceLT, Nat.reduceEqDiff, Nat.reduceAdd, Nat.reduceMul, Nat.reduceLeDiff, reduceCtorEq, reduceIte, ↓reduceIte, tt, vgo, vout, vguard, callOf, vop, ev, cv, newRow, vfill]
  refine Cl.pu (c_span9 _ _) ?_
  simp only [gos, eq_self, Nat.reduceLT, reduceIte, ↓reduceIte, vgo, vout, vguard, callOf, ev, cv]
  refine Cl.pu (c_span9 _ _) ?_
  simp only [gos, eq_self, Nat.reduceLT, reduceIte, ↓reduceIte, vgo, vout, vguard, callOf, ev, cv]
  refine Cl.pu (c_span9 _ _) ?_
  simp only [gos, eq_self, Nat.reduceLT, reduceIte, ↓reduceIte, vgo, vout, vguard, callOf, ev, cv]
  refine Cl.pu (c_span9 _ _) ?_
  simp only [gos, eq_self, Nat.reduceLT, Nat.reduceEqDiff, Nat.reduceAdd, Nat.reduceMul, Nat.reduceLeDiff, reduceCtorEq, reduceIte, ↓reduceIte, tt, vgo, vout, vguard, callOf, vop, ev, cv, newRow, vfill]
  refine Wr.draw (by kernel_rfl) ?_
  have h3 : ((n : Int)).toNat = n := Int.toNat_natCast n
  have h2' : (n : Int) ≤ ((3 : Nat) : Int) := h2
  simp only [gos, eq_self, Nat.reduceLT, Nat.reduceEqDiff, Nat.reduceAdd, Nat.reduceLeDiff, reduceCtorEq, reduceIte, ↓reduceIte, tt, vgoD, voutD, vclsOk, vids, mayWrite, V.ids, vguard, callOf, vop, ev, cv, vload, vfill, vslice, clsAt, h1, h2', h3]
  subst hQ
  exact FnPost.plain trivial (v := .agg (exRvS w (.own 19 0 0 2 n))) (fun h2 e => by simp only [Try.f5, vres, vresL, vres1, gos, eq_self, Nat.reduceLT, Nat.reduceEqDiff, Nat.reduceAdd, reduceCtorEq, reduceIte, ↓reduceIte, tt, vload, e _]; rfl) (WkV.trans (WkV.less (v' := .agg (exRv w (.own 19 0 0 2 n))) (impRv w _)) (WkV.forgetF (h' := [(19, ⟨0, .row [vi 0, vi 1, vi 1, vi 1, vi 0, vi 2]⟩)]) (fun i e he => by
    simp only [Heap.get] at he ⊢
    split at he
    · rename_i h; subst h; exact he
    · cases he) (fun i hi => by cases hi) (by simp only [exRv, V.into, intoL, vI_into, vR_into, vD_into, Bool.true_and, Bool.and_true]; rfl) rfl)) ⟨rfl, rfl⟩
theorem n_threeB (n : Nat) (hn : n ≤ 3) (w : Int) (j : Nat) (hj : 20 ≤ j) : NewB Try.prog (.fn 5 [] []) [vi n, vi w] (.agg (exRv w (.own j 0 0 2 n))) j ⟨0, .row [vi 0, vi 1, vi 1, vi 1, vi 0, vi 2]⟩ :=
  NewB.of ((c_threeB0 n hn w).weakV fun v h' ⟨e1, e2⟩ => by
    subst e1; subst e2
    refine ⟨.agg (exRv w (.own j 0 0 2 n)), [(j, ⟨0, .row [vi 0, vi 1, vi 1, vi 1, vi 0, vi 2]⟩)], WkV.of_wk ?_, rfl, rfl⟩
    have := Wk.ren (p := domP []) (ρ := [(0, .agg (exRv w (.own 19 0 0 2 n)))]) (h := [(19, ⟨0, .row [vi 0, vi 1, vi 1, vi 1, vi 0, vi 2]⟩)]) 19 j rfl rfl
    simpa only [exRv, renE, renH, V.ren, renL, Blk.ren, sw, vI, vR, vD, cI_ren, cR_ren, cD_ren, if_true] using this) rfl (by simp only [V.into, intoL, Bool.and_true])
def nR17 : Rm := { exRm 2 1 with cu := { (exRm 2 1).cu with readings := [⟨0, ⟨0, 99⟩⟩] } }
theorem nR17_wf : nR17.wf := by
  refine ⟨⟨⟨by simp [nR17, exRm], by simp [nR17, exRm]⟩, by simp [nR17, exRm], by simp [nR17, exRm], by simp [nR17, exRm], by simp [nR17, exRm]⟩, ?_⟩
  simp [nR17, exRm, exB]
def nR18 : Rm := { exRm 2 1 with cu := { (exRm 2 1).cu with per := 0 } }
theorem nR18_wf : nR18.wf := by
  refine ⟨⟨⟨by simp [nR18, exRm], by simp [nR18, exRm]⟩, by simp [nR18, exRm], by simp [nR18, exRm], by simp [nR18, exRm], by simp [nR18, exRm]⟩, ?_⟩
  simp [nR18, exRm, exB]
def nR19 : Rm := { exRm 2 1 with cu := { (exRm 2 1).cu with readings := [⟨0, ⟨99, 99⟩⟩] } }
theorem nR19_wf : nR19.wf := by
  refine ⟨⟨⟨by simp [nR19, exRm], by simp [nR19, exRm]⟩, by simp [nR19, exRm], by simp [nR19, exRm], by simp [nR19, exRm], by simp [nR19, exRm]⟩, ?_⟩
  simp [nR19, exRm, exB]
def nR20 : Rm := { exRm 2 1 with pl := 6 }
theorem nR20_wf : nR20.wf := by
  refine ⟨⟨⟨by simp [nR20, exRm], by simp [nR20, exRm]⟩, by simp [nR20, exRm], by simp [nR20, exRm], by simp [nR20, exRm], by simp [nR20, exRm]⟩, ?_⟩
  simp [nR20, exRm, exB]
def nR21 : Rm := { exRm 2 1 with ba := [⟨0, 0⟩, ⟨0, 0⟩, ⟨0, 0⟩, ⟨0, 0⟩, ⟨0, 0⟩, ⟨0, 0⟩] }
theorem nR21_wf : nR21.wf := by
  refine ⟨⟨⟨by simp [nR21, exRm], by simp [nR21, exRm]⟩, by simp [nR21, exRm], by simp [nR21, exRm], by simp [nR21, exRm], by simp [nR21, exRm]⟩, ?_⟩
  simp [nR21, exRm, exB]
def nR22 : Rm := { exRm 2 1 with bu := 10 }
theorem nR22_wf : nR22.wf := by
  refine ⟨⟨⟨by simp [nR22, exRm], by simp [nR22, exRm]⟩, by simp [nR22, exRm], by simp [nR22, exRm], by simp [nR22, exRm], by simp [nR22, exRm]⟩, ?_⟩
  simp [nR22, exRm, exB]
def nR23 : Rm := { exRm 2 1 with ba := [⟨2, 1⟩, ⟨1, 1⟩] }
theorem nR23_wf : nR23.wf := by
  refine ⟨⟨⟨by simp [nR23, exRm], by simp [nR23, exRm]⟩, by simp [nR23, exRm], by simp [nR23, exRm], by simp [nR23, exRm], by simp [nR23, exRm]⟩, ?_⟩
  simp [nR23, exRm, exB]
def nR24 : Rm := { exRm 2 1 with ba := [⟨0, 1⟩, ⟨1, 3⟩] }
theorem nR24_wf : nR24.wf := by
  refine ⟨⟨⟨by simp [nR24, exRm], by simp [nR24, exRm]⟩, by simp [nR24, exRm], by simp [nR24, exRm], by simp [nR24, exRm], by simp [nR24, exRm]⟩, ?_⟩
  simp [nR24, exRm, exB]
theorem bn_a1 : sPlayR (exRm 3 1) [1, 1, 1] = ([], 9) := by decide +kernel
theorem bn_a2 : sKeepsR (exRm 3 1) [1, 1, 1] = (0, 9) := by decide +kernel
theorem bn_a3 : sPlanR (exRm 3 1) = ([], 10) := by decide +kernel
theorem bn_a4 : sFreeR (exRm 2 1) [0, 1] 2 = (0, 0) := by decide +kernel
theorem bn_a5 : sGiveR (exRm 3 9) = ([], 10) := by decide +kernel
theorem bn_a6 : sMostR (exRm 3 9) = ([], 10) := by decide +kernel
theorem bn_a7 : sGiveR (exRm 2 1) = ([], 0) := by decide +kernel
theorem bn_a8 : sHoursR (exRm 3 1) 0 = ([], 0) := by decide +kernel
theorem bn_b1 : sProveP (exRm 2 1) [1, 1] = true := by decide +kernel
theorem bn_b2 : sProveP (exRm 2 1) [0, 0] = false := by decide +kernel
theorem bn_b3 : sProveP (exRm 3 1) [0, 1, 2] = false := by decide +kernel
theorem bn_b4 : sProveP (exRm 3 1) [1, 1, 1] = false := by decide +kernel
theorem bn_b5 : sProveP (exRm 2 1) [0] = false := by decide +kernel
theorem bn_c1 : sPlayR (exRm 2 1) [0, 2] = ([], 2) := by decide +kernel
theorem bn_c2 : sHoursR (exRm 2 1) 2 = ([], 2) := by decide +kernel
theorem bn_c3 : sFreeR (exRm 2 1) [0, 1] 3 = (0, 2) := by decide +kernel
theorem bn_c4 : sFreeR (exRm 3 1) [0, 1, 2] 0 = (0, 10) := by decide +kernel
theorem bn_c5 : sCoalR nR17 [0, 1] = ([], 8) := by decide +kernel
theorem bn_c6 : sCoalR (exRm 2 19) [1, 1] = ([], 10) := by decide +kernel
theorem bn_c7 : sKeepsR (exRm 2 19) [0, 1] = (0, 9) := by decide +kernel
theorem bn_d18 : sCheckR nR18 = 1 := by decide +kernel
theorem bn_d19 : sCheckR nR19 = 11 := by decide +kernel
theorem bn_d20 : sCheckR nR20 = 3 := by decide +kernel
theorem bn_d21 : sCheckR nR21 = 3 := by decide +kernel
theorem bn_d22 : sCheckR nR22 = 1 := by decide +kernel
theorem bn_d23 : sCheckR nR23 = 1 := by decide +kernel
theorem bn_d24 : sCheckR nR24 = 1 := by decide +kernel
set_option maxHeartbeats 64000000 in
theorem l_BathNames : Vm.Fn Try.prog 3 [] [] fun v h' => v = .bool true := by
  have t2_1 : Pu Try.prog (.fn 5 [] []) [vi 2, vi 1] (.agg (exRm 2 1).cs) := c_three9 2 (by omega) 1
  have t3_1 : Pu Try.prog (.fn 5 [] []) [vi 3, vi 1] (.agg (exRm 3 1).cs) := c_three9 3 (by omega) 1
  have t3_9 : Pu Try.prog (.fn 5 [] []) [vi 3, vi 9] (.agg (exRm 3 9).cs) := c_three9 3 (by omega) 9
  have t2_19 : Pu Try.prog (.fn 5 [] []) [vi 2, vi 19] (.agg (exRm 2 19).cs) := c_three9 2 (by omega) 19
  have n90 : NewB Try.prog (.fn 5 [] []) [vi 2, vi 1] (.agg (exRv 1 (.own 90 0 0 2 2))) 90 ⟨0, .row [vi 0, vi 1, vi 1, vi 1, vi 0, vi 2]⟩ := n_threeB 2 (by omega) 1 90 (by omega)
  have n91 : NewB Try.prog (.fn 5 [] []) [vi 2, vi 1] (.agg (exRv 1 (.own 91 0 0 2 2))) 91 ⟨0, .row [vi 0, vi 1, vi 1, vi 1, vi 0, vi 2]⟩ := n_threeB 2 (by omega) 1 91 (by omega)
  have a1 := c_bPlay (exRm 3 1) (exRm_wf 3 1) [1, 1, 1] (by simp)
  rw [bn_a1] at a1
  have a2 := c_bKeeps (exRm 3 1) (exRm_wf 3 1) [1, 1, 1] (by simp)
  rw [bn_a2] at a2
  have a3 := c_bPlan (exRm 3 1) (exRm_wf 3 1)
  rw [bn_a3] at a3
  have a4 := c_bFree (exRm 2 1) (exRm_wf 2 1) [0, 1] (by simp) 2 ⟨by omega, by omega⟩
  rw [bn_a4] at a4
  have a5 := c_bGive (exRm 3 9) (exRm_wf 3 9)
  rw [bn_a5] at a5
  have a6 := c_bMost (exRm 3 9) (exRm_wf 3 9)
  rw [bn_a6] at a6
  have a7 := c_bGive (exRm 2 1) (exRm_wf 2 1)
  rw [bn_a7] at a7
  have a8 := c_bHours (exRm 3 1) (exRm_wf 3 1) 0 ⟨by omega, by omega⟩
  rw [bn_a8] at a8
  have b1 := c_ProvePlan (exRm 2 1) (exRm_wf 2 1) [1, 1] (by simp)
  rw [bn_b1] at b1
  have b2 := c_ProvePlan (exRm 2 1) (exRm_wf 2 1) [0, 0] (by simp)
  rw [bn_b2] at b2
  have b3 := c_ProvePlan (exRm 3 1) (exRm_wf 3 1) [0, 1, 2] (by simp)
  rw [bn_b3] at b3
  have b4 := c_ProvePlan (exRm 3 1) (exRm_wf 3 1) [1, 1, 1] (by simp)
  rw [bn_b4] at b4
  have b5 := c_ProvePlan (exRm 2 1) (exRm_wf 2 1) [0] (by simp)
  rw [bn_b5] at b5
  have c1 := c_bPlay (exRm 2 1) (exRm_wf 2 1) [0, 2] (by simp)
  rw [bn_c1] at c1
  have c2 := c_bHours (exRm 2 1) (exRm_wf 2 1) 2 ⟨by omega, by omega⟩
  rw [bn_c2] at c2
  have c3 := c_bFree (exRm 2 1) (exRm_wf 2 1) [0, 1] (by simp) 3 ⟨by omega, by omega⟩
  rw [bn_c3] at c3
  have c4 := c_bFree (exRm 3 1) (exRm_wf 3 1) [0, 1, 2] (by simp) 0 ⟨by omega, by omega⟩
  rw [bn_c4] at c4
  have c5 := c_bCoal nR17 nR17_wf [0, 1] (by simp)
  rw [bn_c5] at c5
  have c6 := c_bCoal (exRm 2 19) (exRm_wf 2 19) [1, 1] (by simp)
  rw [bn_c6] at c6
  have c7 := c_bKeeps (exRm 2 19) (exRm_wf 2 19) [0, 1] (by simp)
  rw [bn_c7] at c7
  have d18 := c_CheckRoom nR18 nR18_wf
  rw [bn_d18] at d18
  have d19 := c_CheckRoom nR19 nR19_wf
  rw [bn_d19] at d19
  have d20 := c_CheckRoom nR20 nR20_wf
  rw [bn_d20] at d20
  have d21 := c_CheckRoom nR21 nR21_wf
  rw [bn_d21] at d21
  have d22 := c_CheckRoom nR22 nR22_wf
  rw [bn_d22] at d22
  have d23 := c_CheckRoom nR23 nR23_wf
  rw [bn_d23] at d23
  have d24 := c_CheckRoom nR24 nR24_wf
  rw [bn_d24] at d24
  have z0 : ((9 : Int) != 9) = false := rfl
  have z1 : ((10 : Int) != 10) = false := rfl
  have z2 : ((0 : Int) != 0) = false := rfl
  have z3 : (((0 : Nat) : Int) != 0) = false := rfl
  have v0 : vI [] = V.ro 0 [] := rfl
  have y0 : decide ((2 : Int) = 2) = true := rfl
  have y1 : decide ((10 : Int) = 10) = true := rfl
  have y2 : decide ((8 : Int) = 8) = true := rfl
  have y3 : decide ((9 : Int) = 9) = true := rfl
  have y4 : decide ((1 : Int) = 1) = true := rfl
  have y5 : decide ((11 : Int) = 11) = true := rfl
  have y6 : decide ((3 : Int) = 3) = true := rfl
  refine Fn.body tabOk Try.func3 rfl (Nat.le_of_ble_eq_true rfl) (Ks.ok (fz := (fzn [17, 18, 19, 20, 21, 22, 23, 24])) (cl := (cln [(30, .ex)])) tabOk mixed ?_)
  generalize hQ : FnPost tt Try.f3 _ _ = Q
  simp only [Try.f3, argsEnv]
  simp only [gos, eq_self, Nat.reduceLT, Nat.reduceEqDiff, reduceCtorEq, reduceIte, ↓reduceIte, vgo, vout, vguard, callOf, vop, ev, cv]
  refine Cl.pu t3_1 ?_ rfl (by first | rfl | simp only [V.into, intoL, cB_into, vB_into, cI_into, cR_into, cD_into, cS_into, vS_into, vI_into, vR_into, vD_into, cu_into, Bool.true_and, Bool.and_true, rm_into])
  simp only [gos, eq_self, Nat.reduceLT, Nat.reduceEqDiff, Nat.reduceAdd, Nat.reduceMul, Nat.reduceLeDiff, reduceCtorEq, reduceIte, ↓reduceIte, tt, vgo, vout, vguard, callOf, vop, ev, cv, vfill]
  refine Cl.pu a1 ?_ rfl (by first | rfl | simp only [V.into, intoL, cB_into, vB_into, cI_into, cR_into, cD_into, cS_into, vS_into, vI_into, vR_into, vD_into, cu_into, Bool.true_and, Bool.and_true, rm_into])
  simp only [gos, eq_self, Nat.reduceLT, Nat.reduceEqDiff, reduceIte, ↓reduceIte, vgo, vout, vguard, callOf, vop, ev, cv, v0]
  refine Cl.pu t3_1 ?_ rfl (by first | rfl | simp only [V.into, intoL, cB_into, vB_into, cI_into, cR_into, cD_into, cS_into, vS_into, vI_into, vR_into, vD_into, cu_into, Bool.true_and, Bool.and_true, rm_into])
  simp only [gos, eq_self, Nat.reduceLT, Nat.reduceEqDiff, Nat.reduceAdd, Nat.reduceMul, Nat.reduceLeDiff, reduceCtorEq, reduceIte, ↓reduceIte, tt, vgo, vout, vguard, callOf, vop, ev, cv, vfill]
  refine Cl.pu a2 ?_ rfl (by first | rfl | simp only [V.into, intoL, cB_into, vB_into, cI_into, cR_into, cD_into, cS_into, vS_into, vI_into, vR_into, vD_into, cu_into, Bool.true_and, Bool.and_true, rm_into])
  simp only [gos, eq_self, Nat.reduceLT, Nat.reduceEqDiff, reduceIte, ↓reduceIte, vgo, vout, vguard, callOf, vop, ev, cv]
  refine Cl.pu t3_1 ?_ rfl (by first | rfl | simp only [V.into, intoL, cB_into, vB_into, cI_into, cR_into, cD_into, cS_into, vS_into, vI_into, vR_into, vD_into, cu_into, Bool.true_and, Bool.and_true, rm_into])
  simp only [gos, eq_self, Nat.reduceLT, reduceIte, ↓reduceIte, vgo, vout, vguard, callOf, ev]
  refine Cl.pu a3 ?_ rfl (by first | rfl | simp only [V.into, intoL, cB_into, vB_into, cI_into, cR_into, cD_into, cS_into, vS_into, vI_into, vR_into, vD_into, cu_into, Bool.true_and, Bool.and_true, rm_into])
  simp only [gos, eq_self, Nat.reduceLT, Nat.reduceEqDiff, reduceIte, ↓reduceIte, vgo, vout, vguard, callOf, vop, ev, cv, v0]
  refine Cl.pu t2_1 ?_ rfl (by first | rfl | simp only [V.into, intoL, cB_into, vB_into, cI_into, cR_into, cD_into, cS_into, vS_into, vI_into, vR_into, vD_into, cu_into, Bool.true_and, Bool.and_true, rm_into])
  simp only [gos, eq_self, Nat.reduceLT, Nat.reduceEqDiff, Nat.reduceAdd, Nat.reduceMul, Nat.reduceLeDiff, reduceCtorEq, reduceIte, ↓reduceIte, tt, vgo, vout, vguard, callOf, vop, ev, cv, vfill]
  refine Cl.pu a4 ?_ rfl (by first | rfl | simp only [V.into, intoL, cB_into, vB_into, cI_into, cR_into, cD_into, cS_into, vS_into, vI_into, vR_into, vD_into, cu_into, Bool.true_and, Bool.and_true, rm_into])
  simp only [gos, eq_self, Nat.reduceLT, Nat.reduceEqDiff, reduceIte, ↓reduceIte, vgo, vout, vguard, callOf, vop, ev, cv]
  refine Cl.pu t3_9 ?_ rfl (by first | rfl | simp only [V.into, intoL, cB_into, vB_into, cI_into, cR_into, cD_into, cS_into, vS_into, vI_into, vR_into, vD_into, cu_into, Bool.true_and, Bool.and_true, rm_into])
  simp only [gos, eq_self, Nat.reduceLT, reduceIte, ↓reduceIte, vgo, vout, vguard, callOf, ev]
  refine Cl.pu a5 ?_ rfl (by first | rfl | simp only [V.into, intoL, cB_into, vB_into, cI_into, cR_into, cD_into, cS_into, vS_into, vI_into, vR_into, vD_into, cu_into, Bool.true_and, Bool.and_true, rm_into])
  simp only [gos, eq_self, Nat.reduceLT, Nat.reduceEqDiff, reduceIte, ↓reduceIte, vgo, vout, vguard, callOf, vop, ev, cv, v0]
  refine Cl.pu t3_9 ?_ rfl (by first | rfl | simp only [V.into, intoL, cB_into, vB_into, cI_into, cR_into, cD_into, cS_into, vS_into, vI_into, vR_into, vD_into, cu_into, Bool.true_and, Bool.and_true, rm_into])
  simp only [gos, eq_self, Nat.reduceLT, reduceIte, ↓reduceIte, vgo, vout, vguard, callOf, ev]
  refine Cl.pu a6 ?_ rfl (by first | rfl | simp only [V.into, intoL, cB_into, vB_into, cI_into, cR_into, cD_into, cS_into, vS_into, vI_into, vR_into, vD_into, cu_into, Bool.true_and, Bool.and_true, rm_into])
  simp only [gos, eq_self, Nat.reduceLT, Nat.reduceEqDiff, reduceIte, ↓reduceIte, vgo, vout, vguard, callOf, vop, ev, cv, v0]
  refine Cl.pu t2_1 ?_ rfl (by first | rfl | simp only [V.into, intoL, cB_into, vB_into, cI_into, cR_into, cD_into, cS_into, vS_into, vI_into, vR_into, vD_into, cu_into, Bool.true_and, Bool.and_true, rm_into])
  simp only [gos, eq_self, Nat.reduceLT, reduceIte, ↓reduceIte, vgo, vout, vguard, callOf, ev]
  refine Cl.pu a7 ?_ rfl (by first | rfl | simp only [V.into, intoL, cB_into, vB_into, cI_into, cR_into, cD_into, cS_into, vS_into, vI_into, vR_into, vD_into, cu_into, Bool.true_and, Bool.and_true, rm_into])
  simp only [gos, eq_self, Nat.reduceLT, Nat.reduceEqDiff, reduceIte, ↓reduceIte, vgo, vout, vguard, callOf, vop, ev, cv, v0]
  refine Cl.pu t3_1 ?_ rfl (by first | rfl | simp only [V.into, intoL, cB_into, vB_into, cI_into, cR_into, cD_into, cS_into, vS_into, vI_into, vR_into, vD_into, cu_into, Bool.true_and, Bool.and_true, rm_into])
  simp only [gos, eq_self, Nat.reduceLT, reduceIte, ↓reduceIte, vgo, vout, vguard, callOf, ev, cv]
  refine Cl.pu a8 ?_ rfl (by first | rfl | simp only [V.into, intoL, cB_into, vB_into, cI_into, cR_into, cD_into, cS_into, vS_into, vI_into, vR_into, vD_into, cu_into, Bool.true_and, Bool.and_true, rm_into])
  simp only [gos, eq_self, Nat.reduceLT, Nat.reduceEqDiff, reduceIte, ↓reduceIte, tt, vgo, vout, vguard, callOf, vop, ev, cv, vbin, vint, isShift, isNilConst, vlen, z3, v0]
  refine Cl.pu t2_1 ?_ rfl (by first | rfl | simp only [V.into, intoL, cB_into, vB_into, cI_into, cR_into, cD_into, cS_into, vS_into, vI_into, vR_into, vD_into, cu_into, Bool.true_and, Bool.and_true, rm_into])
  simp only [gos, eq_self, Nat.reduceLT, Nat.reduceEqDiff, Nat.reduceAdd, Nat.reduceMul, Nat.reduceLeDiff, reduceCtorEq, reduceIte, ↓reduceIte, tt, vgo, vout, vguard, callOf, vop, ev, cv, vfill]
  refine Cl.pu b1 ?_ rfl (by first | rfl | simp only [V.into, intoL, cB_into, vB_into, cI_into, cR_into, cD_into, cS_into, vS_into, vI_into, vR_into, vD_into, cu_into, Bool.true_and, Bool.and_true, rm_into])
  simp only [gos, eq_self, Nat.reduceLT, reduceIte, ↓reduceIte, vgo, vout, vguard, callOf, vop, ev, cv]
  refine Cl.pu t2_1 ?_ rfl (by first | rfl | simp only [V.into, intoL, cB_into, vB_into, cI_into, cR_into, cD_into, cS_into, vS_into, vI_into, vR_into, vD_into, cu_into, Bool.true_and, Bool.and_true, rm_into])
  simp only [gos, eq_self, Nat.reduceLT, Nat.reduceEqDiff, Nat.reduceAdd, Nat.reduceMul, Nat.reduceLeDiff, reduceCtorEq, reduceIte, ↓reduceIte, tt, vgo, vout, vguard, callOf, vop, ev, cv, vfill]
  refine Cl.pu b2 ?_ rfl (by first | rfl | simp only [V.into, intoL, cB_into, vB_into, cI_into, cR_into, cD_into, cS_into, vS_into, vI_into, vR_into, vD_into, cu_into, Bool.true_and, Bool.and_true, rm_into])
  simp only [gos, eq_self, Nat.reduceLT, Nat.reduceEqDiff, reduceIte, ↓reduceIte, vgo, vout, vguard, callOf, vop, ev, cv]
  refine Cl.pu t3_1 ?_ rfl (by first | rfl | simp only [V.into, intoL, cB_into, vB_into, cI_into, cR_into, cD_into, cS_into, vS_into, vI_into, vR_into, vD_into, cu_into, Bool.true_and, Bool.and_true, rm_into])
  simp only [gos, eq_self, Nat.reduceLT, Nat.reduceEqDiff, Nat.reduceAdd, Nat.reduceMul, Nat.reduceLeDiff, reduceCtorEq, reduceIte, ↓reduceIte, tt, vgo, vout, vguard, callOf, vop, ev, cv, vfill]
  refine Cl.pu b3 ?_ rfl (by first | rfl | simp only [V.into, intoL, cB_into, vB_into, cI_into, cR_into, cD_into, cS_into, vS_into, vI_into, vR_into, vD_into, cu_into, Bool.true_and, Bool.and_true, rm_into])
  simp only [gos, eq_self, Nat.reduceLT, Nat.reduceEqDiff, reduceIte, ↓reduceIte, vgo, vout, vguard, callOf, vop, ev, cv]
  refine Cl.pu t3_1 ?_ rfl (by first | rfl | simp only [V.into, intoL, cB_into, vB_into, cI_into, cR_into, cD_into, cS_into, vS_into, vI_into, vR_into, vD_into, cu_into, Bool.true_and, Bool.and_true, rm_into])
  simp only [gos, eq_self, Nat.reduceLT, Nat.reduceEqDiff, Nat.reduceAdd, Nat.reduceMul, Nat.reduceLeDiff, reduceCtorEq, reduceIte, ↓reduceIte, tt, vgo, vout, vguard, callOf, vop, ev, cv, vfill]
  refine Cl.pu b4 ?_ rfl (by first | rfl | simp only [V.into, intoL, cB_into, vB_into, cI_into, cR_into, cD_into, cS_into, vS_into, vI_into, vR_into, vD_into, cu_into, Bool.true_and, Bool.and_true, rm_into])
  simp only [gos, eq_self, Nat.reduceLT, Nat.reduceEqDiff, reduceIte, ↓reduceIte, vgo, vout, vguard, callOf, vop, ev, cv]
  refine Cl.pu t2_1 ?_ rfl (by first | rfl | simp only [V.into, intoL, cB_into, vB_into, cI_into, cR_into, cD_into, cS_into, vS_into, vI_into, vR_into, vD_into, cu_into, Bool.true_and, Bool.and_true, rm_into])
  simp only [gos, eq_self, Nat.reduceLT, Nat.reduceEqDiff, Nat.reduceAdd, Nat.reduceMul, Nat.reduceLeDiff, reduceCtorEq, reduceIte, ↓reduceIte, tt, vgo, vout, vguard, callOf, vop, ev, cv, vfill]
  refine Cl.pu b5 ?_ rfl (by first | rfl | simp only [V.into, intoL, cB_into, vB_into, cI_into, cR_into, cD_into, cS_into, vS_into, vI_into, vR_into, vD_into, cu_into, Bool.true_and, Bool.and_true, rm_into])
  simp only [gos, eq_self, Nat.reduceLT, Nat.reduceEqDiff, reduceIte, ↓reduceIte, vgo, vout, vguard, callOf, vop, ev, cv]
  refine Cl.pu t2_1 ?_ rfl (by first | rfl | simp only [V.into, intoL, cB_into, vB_into, cI_into, cR_into, cD_into, cS_into, vS_into, vI_into, vR_into, vD_into, cu_into, Bool.true_and, Bool.and_true, rm_into])
  have e17 : List.take 10 (exRm 2 1).cs ++ [V.ro 1 [V.int IntKind.i64 0, V.int IntKind.i64 0, V.int IntKind.i64 99]] ++ List.drop 11 (exRm 2 1).cs = nR17.cs := rfl
  have ec : ∀ r : Rm, r.cs.length = 14 := fun r => rfl
  have et : ∀ r : Rm, List.take 14 r.cs = r.cs := fun r => rfl
  have eo : ∀ r : Rm, oneL r.cs = true := fun r => rfl
  simp only [gos, eq_self, Nat.reduceLT, Nat.reduceEqDiff, Nat.reduceAdd, Nat.reduceMul, Nat.reduceLeDiff, reduceCtorEq, reduceIte, ↓reduceIte, tt, vgo, vout, vguard, callOf, vop, ev, cv, newRow, vfill, ec, eo, e17]
  refine Cl.pu t2_1 ?_ rfl (by first | rfl | simp only [V.into, intoL, cB_into, vB_into, cI_into, cR_into, cD_into, cS_into, vS_into, vI_into, vR_into, vD_into, cu_into, Bool.true_and, Bool.and_true, rm_into])
  simp only [gos, eq_self, Nat.reduceLT, Nat.reduceEqDiff, Nat.reduceAdd, Nat.reduceMul, Nat.reduceLeDiff, reduceCtorEq, reduceIte, ↓reduceIte, tt, vgo, vout, vguard, callOf, vop, ev, cv, vfill]
  refine Cl.pu c1 ?_ rfl (by first | rfl | simp only [V.into, intoL, cB_into, vB_into, cI_into, cR_into, cD_into, cS_into, vS_into, vI_into, vR_into, vD_into, cu_into, Bool.true_and, Bool.and_true, rm_into])
  simp only [gos, eq_self, Nat.reduceLT, Nat.reduceEqDiff, reduceIte, ↓reduceIte, vgo, vout, vguard, callOf, vop, ev, cv, v0]
  refine Cl.pu t2_1 ?_ rfl (by first | rfl | simp only [V.into, intoL, cB_into, vB_into, cI_into, cR_into, cD_into, cS_into, vS_into, vI_into, vR_into, vD_into, cu_into, Bool.true_and, Bool.and_true, rm_into])
  simp only [gos, eq_self, Nat.reduceLT, reduceIte, ↓reduceIte, vgo, vout, vguard, callOf, ev, cv]
  refine Cl.pu c2 ?_ rfl (by first | rfl | simp only [V.into, intoL, cB_into, vB_into, cI_into, cR_into, cD_into, cS_into, vS_into, vI_into, vR_into, vD_into, cu_into, Bool.true_and, Bool.and_true, rm_into])
  simp only [gos, eq_self, Nat.reduceLT, Nat.reduceEqDiff, reduceIte, ↓reduceIte, vgo, vout, vguard, callOf, vop, ev, cv, v0]
  refine Cl.pu t2_1 ?_ rfl (by first | rfl | simp only [V.into, intoL, cB_into, vB_into, cI_into, cR_into, cD_into, cS_into, vS_into, vI_into, vR_into, vD_into, cu_into, Bool.true_and, Bool.and_true, rm_into])
  simp only [gos, eq_self, Nat.reduceLT, Nat.reduceEqDiff, Nat.reduceAdd, Nat.reduceMul, Nat.reduceLeDiff, reduceCtorEq, reduceIte, ↓reduceIte, tt, vgo, vout, vguard, callOf, vop, ev, cv, vfill]
  refine Cl.pu c3 ?_ rfl (by first | rfl | simp only [V.into, intoL, cB_into, vB_into, cI_into, cR_into, cD_into, cS_into, vS_into, vI_into, vR_into, vD_into, cu_into, Bool.true_and, Bool.and_true, rm_into])
  simp only [gos, eq_self, Nat.reduceLT, Nat.reduceEqDiff, reduceIte, ↓reduceIte, vgo, vout, vguard, callOf, vop, ev, cv]
  refine Cl.pu t3_1 ?_ rfl (by first | rfl | simp only [V.into, intoL, cB_into, vB_into, cI_into, cR_into, cD_into, cS_into, vS_into, vI_into, vR_into, vD_into, cu_into, Bool.true_and, Bool.and_true, rm_into])
  simp only [gos, eq_self, Nat.reduceLT, Nat.reduceEqDiff, Nat.reduceAdd, Nat.reduceMul, Nat.reduceLeDiff, reduceCtorEq, reduceIte, ↓reduceIte, tt, vgo, vout, vguard, callOf, vop, ev, cv, vfill]
  refine Cl.pu c4 ?_ rfl (by first | rfl | simp only [V.into, intoL, cB_into, vB_into, cI_into, cR_into, cD_into, cS_into, vS_into, vI_into, vR_into, vD_into, cu_into, Bool.true_and, Bool.and_true, rm_into])
  simp only [gos, eq_self, Nat.reduceLT, Nat.reduceEqDiff, Nat.reduceAdd, Nat.reduceMul, Nat.reduceLeDiff, reduceCtorEq, reduceIte, ↓reduceIte, tt, vgo, vout, vguard, callOf, vop, ev, cv, vload, vfill, ec, et]
  refine Cl.pu c5 ?_ rfl (by first | rfl | simp only [V.into, intoL, cB_into, vB_into, cI_into, cR_into, cD_into, cS_into, vS_into, vI_into, vR_into, vD_into, cu_into, Bool.true_and, Bool.and_true, rm_into])
  simp only [gos, eq_self, Nat.reduceLT, Nat.reduceEqDiff, reduceIte, ↓reduceIte, vgo, vout, vguard, callOf, vop, ev, cv, v0]
  refine Cl.pu t2_19 ?_ rfl (by first | rfl | simp only [V.into, intoL, cB_into, vB_into, cI_into, cR_into, cD_into, cS_into, vS_into, vI_into, vR_into, vD_into, cu_into, Bool.true_and, Bool.and_true, rm_into])
  simp only [gos, eq_self, Nat.reduceLT, Nat.reduceEqDiff, Nat.reduceAdd, Nat.reduceMul, Nat.reduceLeDiff, reduceCtorEq, reduceIte, ↓reduceIte, tt, vgo, vout, vguard, callOf, vop, ev, cv, vfill]
  refine Cl.pu c6 ?_ rfl (by first | rfl | simp only [V.into, intoL, cB_into, vB_into, cI_into, cR_into, cD_into, cS_into, vS_into, vI_into, vR_into, vD_into, cu_into, Bool.true_and, Bool.and_true, rm_into])
  simp only [gos, eq_self, Nat.reduceLT, Nat.reduceEqDiff, reduceIte, ↓reduceIte, vgo, vout, vguard, callOf, vop, ev, cv, v0]
  refine Cl.pu t2_19 ?_ rfl (by first | rfl | simp only [V.into, intoL, cB_into, vB_into, cI_into, cR_into, cD_into, cS_into, vS_into, vI_into, vR_into, vD_into, cu_into, Bool.true_and, Bool.and_true, rm_into])
  simp only [gos, eq_self, Nat.reduceLT, Nat.reduceEqDiff, Nat.reduceAdd, Nat.reduceMul, Nat.reduceLeDiff, reduceCtorEq, reduceIte, ↓reduceIte, tt, vgo, vout, vguard, callOf, vop, ev, cv, vfill]
  refine Cl.pu c7 ?_ rfl (by first | rfl | simp only [V.into, intoL, cB_into, vB_into, cI_into, cR_into, cD_into, cS_into, vS_into, vI_into, vR_into, vD_into, cu_into, Bool.true_and, Bool.and_true, rm_into])
  simp only [gos, eq_self, Nat.reduceLT, Nat.reduceEqDiff, reduceIte, ↓reduceIte, vgo, vout, vguard, callOf, vop, ev, cv]
  refine Cl.pu t2_1 ?_ rfl (by first | rfl | simp only [V.into, intoL, cB_into, vB_into, cI_into, cR_into, cD_into, cS_into, vS_into, vI_into, vR_into, vD_into, cu_into, Bool.true_and, Bool.and_true, rm_into])
  simp only [gos, eq_self, Nat.reduceLT, reduceIte, ↓reduceIte, vgo, vout, vguard, callOf, ev, cv]
  refine Cl.pu t2_1 ?_ rfl (by first | rfl | simp only [V.into, intoL, cB_into, vB_into, cI_into, cR_into, cD_into, cS_into, vS_into, vI_into, vR_into, vD_into, cu_into, Bool.true_and, Bool.and_true, rm_into])
  simp only [gos, eq_self, Nat.reduceLT, reduceIte, ↓reduceIte, vgo, vout, vguard, callOf, ev, cv]
  refine Cl.pu t2_1 ?_ rfl (by first | rfl | simp only [V.into, intoL, cB_into, vB_into, cI_into, cR_into, cD_into, cS_into, vS_into, vI_into, vR_into, vD_into, cu_into, Bool.true_and, Bool.and_true, rm_into])
  simp only [gos, eq_self, Nat.reduceLT, reduceIte, ↓reduceIte, vgo, vout, vguard, callOf, ev, cv]
  refine Cl.pu t2_1 ?_ rfl (by first | rfl | simp only [V.into, intoL, cB_into, vB_into, cI_into, cR_into, cD_into, cS_into, vS_into, vI_into, vR_into, vD_into, cu_into, Bool.true_and, Bool.and_true, rm_into])
  simp only [gos, eq_self, Nat.reduceLT, reduceIte, ↓reduceIte, vgo, vout, vguard, callOf, ev, cv]
  refine Cl.pu t2_1 ?_ rfl (by first | rfl | simp only [V.into, intoL, cB_into, vB_into, cI_into, cR_into, cD_into, cS_into, vS_into, vI_into, vR_into, vD_into, cu_into, Bool.true_and, Bool.and_true, rm_into])
  simp only [gos, eq_self, Nat.reduceLT, reduceIte, ↓reduceIte, vgo, vout, vguard, callOf, ev, cv]
  refine Cl.newN n90 rfl ?_
  simp only [gos, eq_self, Nat.reduceLT, Nat.reduceEqDiff, reduceIte, ↓reduceIte, vgo, vout, vguard, callOf, ev, cv]
  refine Cl.newN n91 rfl ?_
  have b0 : ((0 : Int) ≤ 0) = True := by decide
  have b1 : ((0 : Int) ≤ 1) = True := by decide
  have b2 : ((0 : Int) < ((2 : Nat) : Int)) = True := by decide
  have b3 : ((1 : Int) < ((2 : Nat) : Int)) = True := by decide
  have b4 : ((0 : Int) ≤ 6) = True := by decide
  have b5 : ((6 : Int) ≤ 1000000) = True := by decide
  have b6 : Int.toNat 0 = 0 := rfl
  have b7 : Int.toNat 1 = 1 := rfl
  have b8 : Int.toNat 6 = 6 := rfl
  have b9 : ∀ b : V, (exRv 1 b).length = 14 := fun b => rfl
  have b10 : ∀ b : V, List.take 14 (exRv 1 b) = exRv 1 b := fun b => rfl
  have b11 : ∀ b : V, oneL (exRv 1 b) = b.one := fun b => by simp only [exRv, oneL, on_vI, on_vR, on_vD, on_int, Bool.true_and, Bool.and_true]
  have b12 : ∀ b : V, (List.drop 13 (exRv 1 b)).head? = some b := fun b => rfl
  simp only [gos, eq_self, Nat.reduceLT, Nat.reduceEqDiff, Nat.reduceAdd, Nat.reduceMul, Nat.reduceLeDiff, reduceCtorEq, reduceIte, ↓reduceIte, tt, vgo, vout, vguard, callOf, vop, ev, cv, vload, newRow, vfill, ec, eo, b0, b1, b2, b3, b4, b5, b6, b7, b8, b9, b11, b12]
  have e18 : List.take 3 (exRm 2 1).cs ++ [V.int IntKind.i64 0] ++ List.drop 4 (exRm 2 1).cs = nR18.cs := rfl
  have e19 : List.take 10 (exRm 2 1).cs ++ [V.ro 1 [V.int IntKind.i64 0, V.int IntKind.i64 99, V.int IntKind.i64 99]] ++ List.drop 11 (exRm 2 1).cs = nR19.cs := rfl
  have e20 : List.take 12 (exRm 2 1).cs ++ [V.int IntKind.i64 6] ++ List.drop 13 (exRm 2 1).cs = nR20.cs := rfl
  have e21 : List.take 13 (exRm 2 1).cs ++ [V.own 198 0 0 2 6] ++ List.drop 14 (exRm 2 1).cs = exRv 1 (V.own 198 0 0 2 6) := rfl
  have e22 : List.take 11 (exRm 2 1).cs ++ [V.int IntKind.i64 10] ++ List.drop 12 (exRm 2 1).cs = nR22.cs := rfl
  have f21 : exRv 1 (V.ro 6 [vi 0, vi 0, vi 0, vi 0, vi 0, vi 0, vi 0, vi 0, vi 0, vi 0, vi 0, vi 0]) = nR21.cs := rfl
  have f23 : exRv 1 (V.ro 2 [vi 2, vi 1, vi 1, vi 1]) = nR23.cs := rfl
  have f24 : exRv 1 (V.ro 2 [vi 0, vi 1, vi 1, vi 3]) = nR24.cs := rfl
  have g21 : List.take (6 * 2) [vi 0, vi 0, vi 0, vi 0, vi 0, vi 0, vi 0, vi 0, vi 0, vi 0, vi 0, vi 0] = [vi 0, vi 0, vi 0, vi 0, vi 0, vi 0, vi 0, vi 0, vi 0, vi 0, vi 0, vi 0] := rfl
  have g23 : List.take (2 * 2) [vi 2, vi 1, vi 1, vi 1, vi 0, vi 2] = [vi 2, vi 1, vi 1, vi 1] := rfl
  have g24 : List.take (2 * 2) [vi 0, vi 1, vi 1, vi 3, vi 0, vi 2] = [vi 0, vi 1, vi 1, vi 3] := rfl
  simp only [e18, e19, e20, e21, e22]
  refine Wr.at tabOk 0 ?_
  simp only [gos]
  refine Wa.mk (ρ2 := [(2, vi 2), (4, vi 2), (6, vi 2), (8, vi 10), (10, vi 8), (12, vi 10), (14, vi 9), (18, .rop nR18.cs), (19, .rop nR19.cs), (20, .rop nR20.cs), (21, .rop nR21.cs), (22, .rop nR22.cs), (23, .rop nR23.cs), (24, .rop nR24.cs)]) (h2 := []) ?_ ?_
  · refine Wk.trans (Wk.env (ρ' := [(2, vi 2), (4, vi 2), (6, vi 2), (8, vi 10), (10, vi 8), (12, vi 10), (14, vi 9), (18, .ptr 18 0 0), (19, .ptr 19 0 0), (20, .ptr 20 0 0), (21, .ptr 21 0 0), (22, .ptr 22 0 0), (23, .ptr 23 0 0), (24, .ptr 24 0 0)]) (by simp [subE, Env.get])) ?_
    refine Wk.trans (Wk.freeze 198 rfl rfl rfl rfl) ?_
    simp only [gos, eq_self, Nat.reduceEqDiff, Nat.reduceMul, reduceIte, ↓reduceIte, frzE, frzH, Blk.frz, V.frz, frzL, rm_frz, exRv_frz, g21, f21]
    refine Wk.trans (Wk.freeze 90 rfl rfl rfl rfl) ?_
    simp only [gos, eq_self, Nat.reduceEqDiff, Nat.reduceMul, reduceIte, ↓reduceIte, frzE, frzH, Blk.frz, V.frz, frzL, rm_frz, exRv_frz, g23, f23]
    refine Wk.trans (Wk.freeze 91 rfl rfl rfl rfl) ?_
    simp only [gos, eq_self, Nat.reduceEqDiff, Nat.reduceMul, reduceIte, ↓reduceIte, frzE, frzH, Blk.frz, V.frz, rm_frz, exRv_frz, g24, f24]
    refine Wk.trans (Wk.freeze 17 rfl rfl (rm_into _ _) rfl) ?_
    simp only [eq_self, Nat.reduceEqDiff, reduceIte, ↓reduceIte, frzE, frzH, Blk.frz, V.frz, rm_frz]
    refine Wk.trans (Wk.freeze 18 rfl rfl (rm_into _ _) rfl) ?_
    simp only [gos, eq_self, Nat.reduceEqDiff, reduceIte, ↓reduceIte, frzE, frzH, Blk.frz, V.frz, rm_frz]
    refine Wk.trans (Wk.freeze 19 rfl rfl (rm_into _ _) rfl) ?_
    simp only [gos, eq_self, Nat.reduceEqDiff, reduceIte, ↓reduceIte, frzE, frzH, Blk.frz, V.frz, rm_frz]
    refine Wk.trans (Wk.freeze 20 rfl rfl (rm_into _ _) rfl) ?_
    simp only [gos, eq_self, Nat.reduceEqDiff, reduceIte, ↓reduceIte, frzE, frzH, Blk.frz, V.frz, rm_frz]
    refine Wk.trans (Wk.freeze 21 rfl rfl (rm_into _ _) rfl) ?_
    simp only [gos, eq_self, Nat.reduceEqDiff, reduceIte, ↓reduceIte, frzE, frzH, Blk.frz, V.frz, rm_frz]
    refine Wk.trans (Wk.freeze 22 rfl rfl (rm_into _ _) rfl) ?_
    simp only [gos, eq_self, Nat.reduceEqDiff, reduceIte, ↓reduceIte, frzE, frzH, Blk.frz, V.frz, rm_frz]
    refine Wk.trans (Wk.freeze 23 rfl rfl (rm_into _ _) rfl) ?_
    simp only [gos, eq_self, Nat.reduceEqDiff, reduceIte, ↓reduceIte, frzE, frzH, Blk.frz, V.frz, rm_frz]
    refine Wk.trans (Wk.freeze 24 rfl rfl (rm_into _ _) rfl) ?_
    simp only [gos, eq_self, reduceIte, ↓reduceIte, frzE, frzH, V.frz, rm_frz]
    exact Wk.env (by simp [subE, Env.get])
  simp only [List.append]
  simp only [gos, eq_self, Nat.reduceLT, Nat.reduceEqDiff, reduceCtorEq, reduceIte, ↓reduceIte, tt, vgo, vout, vguard, callOf, vop, ev, cv, vbin, vint, isShift, isNilConst, vload, ec, et]
  refine Cl.pu d18 ?_ rfl (by first | rfl | simp only [V.into, intoL, cB_into, vB_into, cI_into, cR_into, cD_into, cS_into, vS_into, vI_into, vR_into, vD_into, cu_into, Bool.true_and, Bool.and_true, rm_into])
  simp only [gos, eq_self, Nat.reduceLT, Nat.reduceEqDiff, reduceCtorEq, reduceIte, ↓reduceIte, tt, vgo, vout, vguard, callOf, vop, ev, cv, vbin, vint, isShift, isNilConst, vload, ec, et]
  refine Cl.pu d19 ?_ rfl (by first | rfl | simp only [V.into, intoL, cB_into, vB_into, cI_into, cR_into, cD_into, cS_into, vS_into, vI_into, vR_into, vD_into, cu_into, Bool.true_and, Bool.and_true, rm_into])
  simp only [gos, eq_self, Nat.reduceLT, Nat.reduceEqDiff, reduceCtorEq, reduceIte, ↓reduceIte, tt, vgo, vout, vguard, callOf, vop, ev, cv, vbin, vint, isShift, isNilConst, vload, ec, et]
  refine Cl.pu d20 ?_ rfl (by first | rfl | simp only [V.into, intoL, cB_into, vB_into, cI_into, cR_into, cD_into, cS_into, vS_into, vI_into, vR_into, vD_into, cu_into, Bool.true_and, Bool.and_true, rm_into])
  simp only [gos, eq_self, Nat.reduceLT, Nat.reduceEqDiff, reduceCtorEq, reduceIte, ↓reduceIte, tt, vgo, vout, vguard, callOf, vop, ev, cv, vbin, vint, isShift, isNilConst, vload, ec, et]
  refine Cl.pu d21 ?_ rfl (by first | rfl | simp only [V.into, intoL, cB_into, vB_into, cI_into, cR_into, cD_into, cS_into, vS_into, vI_into, vR_into, vD_into, cu_into, Bool.true_and, Bool.and_true, rm_into])
  simp only [gos, eq_self, Nat.reduceLT, Nat.reduceEqDiff, reduceCtorEq, reduceIte, ↓reduceIte, tt, vgo, vout, vguard, callOf, vop, ev, cv, vbin, vint, isShift, isNilConst, vload, ec, et]
  refine Cl.pu d22 ?_ rfl (by first | rfl | simp only [V.into, intoL, cB_into, vB_into, cI_into, cR_into, cD_into, cS_into, vS_into, vI_into, vR_into, vD_into, cu_into, Bool.true_and, Bool.and_true, rm_into])
  simp only [gos, eq_self, Nat.reduceLT, Nat.reduceEqDiff, reduceCtorEq, reduceIte, ↓reduceIte, tt, vgo, vout, vguard, callOf, vop, ev, cv, vbin, vint, isShift, isNilConst, vload, ec, et]
  refine Cl.pu d23 ?_ rfl (by first | rfl | simp only [V.into, intoL, cB_into, vB_into, cI_into, cR_into, cD_into, cS_into, vS_into, vI_into, vR_into, vD_into, cu_into, Bool.true_and, Bool.and_true, rm_into])
  simp only [gos, eq_self, Nat.reduceLT, Nat.reduceEqDiff, reduceCtorEq, reduceIte, ↓reduceIte, tt, vgo, vout, vguard, callOf, vop, ev, cv, vbin, vint, isShift, isNilConst, vload, ec, et]
  refine Cl.pu d24 ?_ rfl (by first | rfl | simp only [V.into, intoL, cB_into, vB_into, cI_into, cR_into, cD_into, cS_into, vS_into, vI_into, vR_into, vD_into, cu_into, Bool.true_and, Bool.and_true, rm_into])
  simp only [gos, eq_self, Nat.reduceLT, Nat.reduceEqDiff, reduceIte, ↓reduceIte, vgo, vout, vguard, callOf, vop, ev, cv, vbin, vint, isShift, isNilConst]
  refine Cl.pu c_awake9 ?_
  simp only [gos, eq_self, Nat.reduceLT, Nat.reduceEqDiff, reduceIte, ↓reduceIte, vgo, vout, vguard, callOf, vop, ev]
  subst hQ
  exact FnPost.plain trivial (v := .bool true) (fun h2 e => by rfl) WkV.refl rfl
end Go.Vm
