import Derived.Test.YtjbgmnpbpmljaaaB3
import Derived.Test.YtjbgmnpbpmljaaaRows
import Derived.WalkKit
import Derived.ProofKit
import Derived.OpenShut
import Derived.ShutString
import Derived.ChangeOld
import Derived.Below
set_option linter.unusedVariables false
set_option linter.unusedSimpArgs false
set_option maxRecDepth 100000
namespace Go.Vm
open Go.Proofs Go.ChangeShapes Go.WideShapes Go.ChangeAt Go.RowKit
/-! ### from a contract to the row -/
theorem hrel0 (w : World) : HRel (gh0 w) [] w :=
  ⟨fun B o v e => e, fun i e he => (by cases he), fun i j e e' B c c' he => (by cases he), fun i e B c o he => (by cases he), fun i v h => absurd rfl h⟩
theorem calls_of_fn {P : Program} {f : FuncId} {vs : List V} {xs : List Value} {w : World} (c : Fn P f vs [] fun v h' => v = .bool true) (hv : VRL (gh0 w) vs xs) :
    Calls P f xs.toArray w fun e w' => e = .returned (.bool true) ∧ Below w.heap.size w w' := fun cs => by
  obtain ⟨v, h', vc, g', w', fr, rfl, st, hf, hl, hvc, H', t, le⟩ := c (gh0 w) w xs hv (hrel0 w) cs
  simp only [VR] at hvc
  subst hvc
  exact ⟨.returned (.bool true), w', fr, ⟨rfl, t.os, t.tape, t.output, t.size, fun k hk => t.mods k hk (by rintro ⟨i, e, c, he, _⟩; cases he)⟩, st, hf, hl⟩
section
variable {H : Type} {enc : TypeId × Value → H} {P : Program} {w : World} {base : Nat} {spare : Nat → Bool} {held : Bool} {fuel : Nat} {t : TypeId} {cs : List Value} {x : DataW H × List MemPlace}
end
section
variable {H : Type} {enc : TypeId × Value → H} {w : World} {base : Nat} {spare : Nat → Bool} {held : Bool} {fuel : Nat} {cs : List Value} {x : DataW H × List MemPlace}
theorem rd_rg (h : DataW.trod enc Try.prog w base spare held fuel 24 cs = some x) : ∃ r : Rg, r.ok ∧ VRL (gh0 w) r.cs cs := by
  obtain ⟨xs, n, _, _, hl, hx, hf⟩ := DataW.trod_struct Try.underlying24 h
  have hl2 : cs.length = 2 := hl.trans (by kernel_rfl)
  have hx2 : xs.length = 2 := hx
  have f0 : DataW.trod enc Try.prog w base spare held n 3 ((cs.drop 0).take (Try.prog.cellsOf 3)) = xs[0]? := hf 0 _ rfl
  have f1 : DataW.trod enc Try.prog w base spare held n 3 ((cs.drop 1).take (Try.prog.cellsOf 3)) = xs[1]? := hf 1 _ rfl
  rw [List.getElem?_eq_getElem (by omega)] at f0 f1
  obtain ⟨a, ha, va⟩ := rd_int Try.underlying3 f0
  obtain ⟨b, hb, vb⟩ := rd_int Try.underlying3 f1
  refine ⟨⟨a, b⟩, ⟨ha, hb⟩, ?_⟩
  have hc : Try.prog.cellsOf 3 = 1 := by kernel_rfl
  simp only [hc, List.drop_zero] at va vb
  rw [List.take_of_length_le (by simp; omega)] at vb
  exact VRL_two va vb
theorem rd_rd (h : DataW.trod enc Try.prog w base spare held fuel 96 cs = some x) : ∃ r : Rd, r.ok ∧ VRL (gh0 w) r.cs cs := by
  obtain ⟨xs, n, _, _, hl, hx, hf⟩ := DataW.trod_struct Try.underlying96 h
  have hl2 : cs.length = 3 := hl.trans (by kernel_rfl)
  have hx2 : xs.length = 2 := hx
  have f0 : DataW.trod enc Try.prog w base spare held n 3 ((cs.drop 0).take (Try.prog.cellsOf 3)) = xs[0]? := hf 0 _ rfl
  have f1 : DataW.trod enc Try.prog w base spare held n 24 ((cs.drop 1).take (Try.prog.cellsOf 24)) = xs[1]? := hf 1 _ rfl
  rw [List.getElem?_eq_getElem (by omega)] at f0 f1
  obtain ⟨a, ha, va⟩ := rd_int Try.underlying3 f0
  obtain ⟨b, hb, vb⟩ := rd_rg f1
  refine ⟨⟨a, b⟩, ⟨ha, hb⟩, ?_⟩
  have hc : Try.prog.cellsOf 3 = 1 := by kernel_rfl
  have hc2 : Try.prog.cellsOf 24 = 2 := by kernel_rfl
  simp only [hc, hc2, List.drop_zero] at va vb
  rw [List.take_of_length_le (by simp; omega)] at vb
  exact VRL_two va vb
theorem cR_flat : ∀ l : List Rg, l.flatMap Rg.cs = cR l
  | [] => rfl
  | r :: l => by rw [List.flatMap_cons, cR_flat l]; rfl
theorem cD_flat : ∀ l : List Rd, l.flatMap Rd.cs = cD l
  | [] => rfl
  | r :: l => by rw [List.flatMap_cons, cD_flat l]; rfl
theorem rd_cu (h : DataW.trod enc Try.prog w base spare held fuel 28 cs = some x) : ∃ c : Cu, c.ok ∧ VRL (gh0 w) c.cs cs := by
  obtain ⟨xs, n, _, _, hl, hx, hf⟩ := DataW.trod_struct Try.underlying28 h
  have hl2 : cs.length = 11 := hl.trans (by kernel_rfl)
  have hx2 : xs.length = 10 := hx
  have f0 : DataW.trod enc Try.prog w base spare held n 3 ((cs.drop 0).take (Try.prog.cellsOf 3)) = xs[0]? := hf 0 _ rfl
  have f1 : DataW.trod enc Try.prog w base spare held n 3 ((cs.drop 1).take (Try.prog.cellsOf 3)) = xs[1]? := hf 1 _ rfl
  have f2 : DataW.trod enc Try.prog w base spare held n 3 ((cs.drop 2).take (Try.prog.cellsOf 3)) = xs[2]? := hf 2 _ rfl
  have f3 : DataW.trod enc Try.prog w base spare held n 3 ((cs.drop 3).take (Try.prog.cellsOf 3)) = xs[3]? := hf 3 _ rfl
  have f4 : DataW.trod enc Try.prog w base spare held n 3 ((cs.drop 4).take (Try.prog.cellsOf 3)) = xs[4]? := hf 4 _ rfl
  have f5 : DataW.trod enc Try.prog w base spare held n 22 ((cs.drop 5).take (Try.prog.cellsOf 22)) = xs[5]? := hf 5 _ rfl
  have f6 : DataW.trod enc Try.prog w base spare held n 22 ((cs.drop 6).take (Try.prog.cellsOf 22)) = xs[6]? := hf 6 _ rfl
  have f7 : DataW.trod enc Try.prog w base spare held n 24 ((cs.drop 7).take (Try.prog.cellsOf 24)) = xs[7]? := hf 7 _ rfl
  have f8 : DataW.trod enc Try.prog w base spare held n 25 ((cs.drop 9).take (Try.prog.cellsOf 25)) = xs[8]? := hf 8 _ rfl
  have f9 : DataW.trod enc Try.prog w base spare held n 26 ((cs.drop 10).take (Try.prog.cellsOf 26)) = xs[9]? := hf 9 _ rfl
  rw [List.getElem?_eq_getElem (by omega)] at f0 f1 f2 f3 f4 f5 f6 f7 f8 f9
  have hc : Try.prog.cellsOf 3 = 1 := by kernel_rfl
  have hc2 : Try.prog.cellsOf 24 = 2 := by kernel_rfl
  have hc3 : Try.prog.cellsOf 22 = 1 := by kernel_rfl
  have hc4 : Try.prog.cellsOf 25 = 1 := by kernel_rfl
  have hc5 : Try.prog.cellsOf 26 = 1 := by kernel_rfl
  have hc6 : Try.prog.cellsOf 96 = 3 := by kernel_rfl
  obtain ⟨a0, h0, v0⟩ := rd_int Try.underlying3 f0
  obtain ⟨a1, h1, v1⟩ := rd_int Try.underlying3 f1
  obtain ⟨a2, h2, v2⟩ := rd_int Try.underlying3 f2
  obtain ⟨a3, h3, v3⟩ := rd_int Try.underlying3 f3
  obtain ⟨a4, h4, v4⟩ := rd_int Try.underlying3 f4
  obtain ⟨a5, h5, _, v5⟩ := rd_ints Try.underlying22 Try.underlying3 hc f5
  obtain ⟨a6, h6, _, v6⟩ := rd_ints Try.underlying22 Try.underlying3 hc f6
  obtain ⟨a7, h7, v7⟩ := rd_rg f7
  obtain ⟨a8, h8, _, v8⟩ := rd_slice Rg.cs Rg.ok 2 Try.underlying25 hc2 (by omega) (fun _ => rfl) f8 fun n cs x h => rd_rg h
  obtain ⟨a9, h9, _, v9⟩ := rd_slice Rd.cs Rd.ok 3 Try.underlying26 hc6 (by omega) (fun _ => rfl) f9 fun n cs x h => rd_rd h
  rw [cR_flat] at v8
  rw [cD_flat] at v9
  refine ⟨⟨a0, a1, a2, a3, a4, a5, a6, a7, a8, a9⟩, ⟨h0, h1, h2, h3, h4, h5, h6, h7, h8, h9⟩, ?_⟩
  match cs, hl2 with
  | [c0, c1, c2, c3, c4, c5, c6, c7, c8, c9, c10], _ =>
    simp only [hc, hc2, hc3, hc4, hc5, List.drop_zero, List.drop_succ_cons, List.take_succ_cons, List.take_zero, List.take_nil] at v0 v1 v2 v3 v4 v5 v6 v7 v8 v9
    exact VRL.append v0 (VRL.append v1 (VRL.append v2 (VRL.append v3 (VRL.append v4 (VRL.append v5 (VRL.append v6 (VRL.append v7 (VRL.append v8 v9))))))))
end
end Go.Vm

set_option linter.unusedVariables false
set_option linter.unusedSimpArgs false
set_option maxRecDepth 100000
namespace Go.Vm
open Go.Proofs
/-! ### the reference: all truths -/
theorem rTr_ok {c : Cu} (k0 : CuOk c) (i : Nat) : ∀ t ∈ rTr c i, T2Ok c t := fun t ht => by
  simp only [rTr, List.mem_filter, List.mem_map] at ht
  obtain ⟨⟨n, _, rfl⟩, _⟩ := ht
  exact nth_ok k0 (by omega)
end Go.Vm

set_option linter.unusedVariables false
set_option linter.unusedSimpArgs false
namespace Go.Vm
/-! ### what is hot, left and kept, by hour -/
/-! ### all readings are right -/
/-! ### the same truths -/
theorem sure_same (c : Cu) : rSureE c = sAsked c true := by
  unfold rSureE sAsked
  by_cases h0 : sCheck c = 0
  · have k0 := sCheck_ok h0
    have := same_nil k0
    simp only [h0, ne_eq, not_true_eq_false, if_false, Bool.true_eq_false, this]
  · simp [h0]
/-! ### the bounds are the same -/
end Go.Vm

set_option linter.unusedVariables false
set_option linter.unusedSimpArgs false
set_option maxRecDepth 100000
namespace Go.Vm
open Go.Proofs
theorem spare_same {c : Cu} (A : AskOk c true) {hour : Int} (hh : 0 ≤ hour ∧ hour ≤ c.last) : sSpareA c hour = if rSpare c (rTruths c) hour 21 < 0 then (0, 10) else (rSpare c (rTruths c) hour 21, 0) := by
  have hI : sIn hour 0 c.last = true := by simp [sIn, hh]
  have hA0 : sAsked c (sIn hour 0 c.last) = 0 := by
    rw [hI, sAsked, if_neg (by simp [A.chk]), if_neg (by simp), if_neg A.ne]
  have hl := A.k0.last
  have hw := A.k0.want.1
  have hW : ∀ n : Int, sWith c (sTruth c) (moreAt c hour n) = rWholes c (rTruths c) c.coal (addL c.want (moreAt c hour n)) := fun n => with_same A.k0 A.ne (by rw [moreAt_len]; omega)
  rw [sSpareA, if_pos hA0]
  cases hf : (List.range 21).find? fun (j : Nat) => decide (sWith c (sTruth c) (moreAt c hour (20 - j)) = 1) with
  | some j =>
    rw [List.find?_eq_some_iff_getElem] at hf
    obtain ⟨h1, i, hi, h2, h3⟩ := hf
    simp only [List.length_range] at hi
    simp only [List.getElem_range] at h2 h3
    subst h2
    have key : ∀ k, k ≤ i → rSpare c (rTruths c) hour 21 = rSpare c (rTruths c) hour (21 - k) := fun k => by
      induction k with
      | zero => intro _; rfl
      | succ k ih =>
        intro hk
        rw [ih (by omega), show 21 - k = (21 - (k + 1)) + 1 by omega, rSpare, if_neg]
        have := h3 k (by omega)
        rw [← hW, show (((21 - (k + 1) : Nat) : Nat) : Int) = 20 - (k : Int) by omega]
        simpa using this
    have e : rSpare c (rTruths c) hour 21 = 20 - (i : Int) := by
      rw [key i (Nat.le_refl _), show 21 - i = (20 - i) + 1 by omega, rSpare, if_pos]
      · omega
      · rw [← hW, show (((20 - i : Nat) : Nat) : Int) = 20 - (i : Int) by omega]
        simpa using h1
    simp only [e]
    rw [if_neg (by omega)]
  | none =>
    rw [List.find?_eq_none] at hf
    have key : ∀ n, n ≤ 21 → rSpare c (rTruths c) hour n = -1 := fun n => by
      induction n with
      | zero => intro _; rfl
      | succ n ih =>
        intro hn
        rw [rSpare, if_neg, ih (by omega)]
        have := hf (20 - n) (by simp; omega)
        rw [show (20 : Int) - ((20 - n : Nat) : Int) = (n : Int) by omega, hW] at this
        simpa using this
    simp only [key 21 (Nat.le_refl _)]
    rw [if_pos (by omega)]
theorem asked_fine {c : Cu} (h0 : sCheck c = 0) (b : Bool) : sAsked c b = if b = false then 2 else sAsked c true := by
  cases b <;> simp [sAsked, h0]
set_option maxHeartbeats 8000000 in
theorem l_CopperSpares (c : Cu) (hc : I64 c.last) (more : List Int) (hour : Int) : Vm.Fn Try.prog 4 [.agg c.cs, vI more, vi hour] [] fun v h' => v = .bool true := by
  have z0 : decide ((0 : Int) = 0) = true := rfl
  refine Fn.body tabOk Try.func4 rfl (Nat.le_of_ble_eq_true rfl) (Ks.ok (fz := (fzn [])) (cl := (cln [(11, .d tg0 [cP, cP, cP, cP, cP, cP, cP, cP, cP, cP, cP, cP, cP, cP, cP, cP, cP, cP, cP, cP, cP, cP, cP, cP, cP, cP, cP, cP])])) tabOk mixed ?_)
  generalize hQ : FnPost tt Try.f4 _ _ = Q
  simp only [Try.f4, argsEnv, Nat.reduceAdd]
  simp only [gos, eq_self, Nat.reduceLT, Nat.reduceEqDiff, reduceCtorEq, reduceIte, ↓reduceIte, tt, vgo, vout, vguard, callOf, vop, ev, cv, vload, newRow]
  refine Cl.pu (c_Thin c hc) ?_ rfl (by simp only [V.into, intoL, cu_into, Bool.and_true])
  cases ht : sThin c with
  | false =>
    simp only [gos, eq_self, Nat.reduceLT, Nat.reduceEqDiff, reduceIte, ↓reduceIte, vgo, vout, vguard, callOf, vop, ev, cv]
    refine Cl.pu c_awake ?_
    simp only [gos, eq_self, Nat.reduceLT, reduceIte, ↓reduceIte, vgo, vout, vguard, callOf, vop, ev]
    subst hQ
    exact FnPost.plain trivial (v := .bool true) (fun h2 e => by rfl) WkV.refl rfl
  | true =>
  have wf := thin_wf hc ht
  by_cases hm8 : 8 < (more.length : Int)
  · simp only [gos, eq_self, Nat.reduceLT, Nat.reduceEqDiff, reduceCtorEq, reduceIte, ↓reduceIte, tt, vgo, vout, vguard, callOf, vop, ev, cv, vbin, vint, isShift, isNilConst, vlen, vI, hm8]
    refine Cl.pu c_awake ?_
    simp only [gos, eq_self, Nat.reduceLT, reduceIte, ↓reduceIte, vgo, vout, vguard, callOf, vop, ev]
    subst hQ
    exact FnPost.plain trivial (v := .bool true) (fun h2 e => by rfl) WkV.refl rfl
  simp only [gos, eq_self, Nat.reduceLT, Nat.reduceEqDiff, reduceCtorEq, reduceIte, ↓reduceIte, tt, vgo, vout, vguard, callOf, vop, ev, cv, vbin, vint, isShift, isNilConst, vload, vlen, vI, hm8]
  rw [show V.ro more.length (cI more) = vI more from rfl]
  refine Cl.pu (c_lCopper c wf) ?_ rfl (by simp only [V.into, intoL, cu_into, Bool.and_true])
  simp only [gos, eq_self, Nat.reduceLT, Nat.reduceEqDiff, reduceCtorEq, reduceIte, ↓reduceIte, vgo, vout, vguard, callOf, vop, ev]
  refine Cl.pu (c_list more (by omega)) ?_ rfl (by simp only [intoL, vI_into, Bool.and_true])
  simp only [gos, eq_self, Nat.reduceLT, Nat.reduceEqDiff, reduceIte, ↓reduceIte, vgo, vout, vguard, callOf, ev]
  refine Cl.pu (c_More c wf more (by omega)) ?_ rfl (by simp only [V.into, intoL, vI_into, cu_into, Bool.and_true])
  simp only [gos, eq_self, Nat.reduceLT, Nat.reduceEqDiff, reduceCtorEq, reduceIte, ↓reduceIte, tt, vgo, vout, vguard, callOf, vop, ev, vload]
  refine Cl.pu (c_lCopper c wf) ?_ rfl (by simp only [V.into, intoL, cu_into, Bool.and_true])
  simp only [gos, eq_self, Nat.reduceLT, Nat.reduceEqDiff, reduceCtorEq, reduceIte, ↓reduceIte, vgo, vout, vguard, callOf, vop, ev]
  refine Cl.pu (c_Spare c wf hour) ?_ rfl (by simp only [V.into, intoL, cu_into, Bool.and_true])
  simp only [gos, eq_self, Nat.reduceLT, Nat.reduceEqDiff, reduceCtorEq, reduceIte, ↓reduceIte, tt, vgo, vout, vguard, callOf, vop, ev, vload]
  refine Cl.pu (c_lsure c wf) ?_ rfl (by simp only [V.into, intoL, cu_into, Bool.and_true])
  rw [sure_same]
  simp only [gos, eq_self, Nat.reduceLT, Nat.reduceEqDiff, reduceCtorEq, reduceIte, ↓reduceIte, tt, vgo, vout, vguard, callOf, vop, ev, vload]
  refine Cl.pu (c_fault c wf) ?_ rfl (by simp only [V.into, intoL, cu_into, Bool.and_true])
  by_cases h0 : sCheck c = 0
  case neg =>
    have ea : ∀ b, sAsked c b = sCheck c := fun b => by simp [sAsked, h0]
    have e1 : sMoreA c more = (0, sCheck c) := by simp [sMoreA, ea, h0]
    have e2 : sSpareA c hour = (0, sCheck c) := by simp [sSpareA, ea, h0]
    have hb : decide (sCheck c = 0) = false := by simp [h0]
    have hb2 : (sCheck c != 0) = true := by simp [h0]
    have z1 : ((0 : Int) != 0) = false := rfl
    rw [e1, e2, ea]
    simp only [gos, eq_self, Nat.reduceLT, Nat.reduceEqDiff, reduceCtorEq, reduceIte, ↓reduceIte, tt, vgo, vout, vguard, callOf, vop, ev, cv, vbin, vint, isShift, isNilConst, vload, hb]
    refine Cl.pu (c_fault c wf) ?_ rfl (by simp only [V.into, intoL, cu_into, Bool.and_true])
    simp only [gos, eq_self, Nat.reduceLT, Nat.reduceEqDiff, reduceIte, ↓reduceIte, vgo, vout, vguard, callOf, vop, ev, cv, vbin, vint, isShift, isNilConst, hb]
    refine Wr.draw (by kernel_rfl) ?_
    simp only [gos, eq_self, Nat.reduceLT, Nat.reduceEqDiff, Nat.reduceAdd, reduceIte, ↓reduceIte, vgo, vout, vgoD, voutD, vclsOk, vids, mayWrite, vguard, callOf, vop, ev, cv, vbin, vint, isShift, isNilConst, clsAt, hb, hb2]
    refine Cl.pu c_awake ?_
    simp only [gos, eq_self, Nat.reduceLT, Nat.reduceEqDiff, reduceIte, ↓reduceIte, vgo, vout, vguard, callOf, vop, ev]
    subst hQ
    exact FnPost.plain trivial (v := .bool true) (fun h2 e => by rfl) WkV.refl rfl
  have k0 := sCheck_ok h0
  have hb : decide (sCheck c = 0) = true := by simp [h0]
  have hT := rTr_ok k0 (rMany c).toNat
  have hTl := rTr_len c (rMany c).toNat
  have hM := rMany_le k0
  have hTl2 : ((rTruths c).length : Int) ≤ 1000000 := by simp only [rTruths]; omega
  have hL : rSureL c = rTruths c := by simp [rSureL, h0]
  have f1 := asked_fine h0 (sPromised c more)
  have f2 := asked_fine h0 (sIn hour 0 c.last)
  have z1 : ((0 : Int) != 0) = false := rfl
  have z2 : ((2 : Int) != 0) = true := rfl
  have z3 : decide ((2 : Int) = 0) = false := rfl
  rw [hL]
  simp only [gos, eq_self, Nat.reduceLT, Nat.reduceEqDiff, reduceCtorEq, reduceIte, ↓reduceIte, tt, vgo, vout, vguard, callOf, vop, ev, cv, vbin, vint, isShift, isNilConst, vload, hb]
  refine Cl.pu (c_rEach c more 20 wf.last (by omega)) ?_ rfl (by simp only [V.into, intoL, vI_into, cu_into, Bool.and_true])
  rw [show rEach c more 20 = sPromised c more from rfl]
  cases hP : sPromised c more with
  | false =>
    rw [hP] at f1
    have e1 : sMoreA c more = (0, 2) := by rw [sMoreA, hP, f1]; rfl
    rw [e1]
    simp only [gos, eq_self, Nat.reduceLT, Nat.reduceEqDiff, reduceCtorEq, reduceIte, ↓reduceIte, tt, vgo, vout, vguard, callOf, vop, ev, cv, vload]
    refine Cl.pu (c_fault c wf) ?_ rfl (by simp only [V.into, intoL, cu_into, Bool.and_true])
    simp only [gos, eq_self, Nat.reduceLT, Nat.reduceEqDiff, reduceCtorEq, reduceIte, ↓reduceIte, tt, vgo, vout, vguard, callOf, vop, ev, cv, vbin, vint, isShift, isNilConst, vload, hb]
    refine Cl.pu (c_rIn _ _ _) ?_
    by_cases hE : sAsked c true = 0
    · have A := askOk_of hE
      rw [hE]
      cases hI : sIn hour 0 c.last with
      | false =>
        rw [hI] at f2
        have e2 : sAsked c (sIn hour 0 c.last) = 2 := by rw [hI, f2]; rfl
        have e4 : sSpareA c hour = (0, 2) := by rw [sSpareA, e2, if_neg (by decide)]
        simp only [gos, eq_self, Nat.reduceLT, Nat.reduceEqDiff, reduceIte, ↓reduceIte, vgo, vout, vguard, callOf, vop, ev, cv]
        refine Wr.draw (by kernel_rfl) ?_
        rw [e4]
        simp only [gos, eq_self, Nat.reduceLT, Nat.reduceEqDiff, Nat.reduceAdd, reduceIte, ↓reduceIte, vgo, vout, vgoD, voutD, vclsOk, vids, mayWrite, vguard, callOf, vop, ev, cv, vbin, vint, isShift, isNilConst, clsAt, z2, z3]
        refine Cl.pu c_awake ?_
        simp only [gos, eq_self, Nat.reduceLT, Nat.reduceEqDiff, reduceIte, ↓reduceIte, vgo, vout, vguard, callOf, vop, ev]
        subst hQ
        exact FnPost.plain trivial (v := .bool true) (fun h2 e => by rfl) WkV.refl rfl
      | true =>
        rw [hI] at f2
        have e2 : sAsked c (sIn hour 0 c.last) = 0 := by rw [hI, f2]; exact hE
        have hIn : 0 ≤ hour ∧ hour ≤ c.last := by simpa [sIn] using hI
        simp only [gos, eq_self, Nat.reduceLT, Nat.reduceEqDiff, reduceIte, ↓reduceIte, vgo, vout, vguard, callOf, vop, ev]
        refine Wr.draw (by kernel_rfl) ?_
        simp only [gos, eq_self, Nat.reduceLT, Nat.reduceEqDiff, Nat.reduceAdd, reduceCtorEq, reduceIte, ↓reduceIte, tt, vgo, vout, vgoD, voutD, vclsOk, vids, mayWrite, vguard, callOf, vop, ev, cv, vbin, vint, isShift, isNilConst, vload, clsAt, z2, z3]
        refine Cl.pu (c_rSpare c k0 (rTruths c) hTl2 hT hour hIn) ?_ rfl (by simp only [V.into, intoL, cu_into, Bool.and_true, vT_into])
        have hss := spare_same A hIn
        by_cases hneg : rSpare c (rTruths c) hour 21 < 0
        · have e5 : sSpareA c hour = (0, 10) := by rw [hss, if_pos hneg]
          have z10 : decide ((10 : Int) = 10) = true := rfl
          rw [e5]
          simp only [gos, eq_self, Nat.reduceLT, Nat.reduceEqDiff, reduceIte, ↓reduceIte, vgo, vout, vguard, callOf, vop, ev, cv, vbin, vint, isShift, isNilConst, hneg]
          refine Cl.pu c_awake ?_
          simp only [gos, eq_self, Nat.reduceLT, Nat.reduceEqDiff, reduceIte, ↓reduceIte, vgo, vout, vguard, callOf, vop, ev]
          subst hQ
          exact FnPost.plain trivial (v := .bool true) (fun h2 e => by rfl) WkV.refl rfl
        · have e5 : sSpareA c hour = (rSpare c (rTruths c) hour 21, 0) := by rw [hss, if_neg hneg]
          rw [e5]
          simp only [gos, eq_self, Nat.reduceLT, Nat.reduceEqDiff, reduceIte, ↓reduceIte, vgo, vout, vguard, callOf, vop, ev, cv, vbin, vint, isShift, isNilConst, hneg]
          refine Cl.pu c_awake ?_
          simp only [gos, eq_self, Nat.reduceLT, Nat.reduceEqDiff, reduceIte, ↓reduceIte, vgo, vout, vguard, callOf, vop, ev]
          subst hQ
          exact FnPost.plain trivial (v := .bool true) (fun h2 e => by rfl) WkV.refl rfl
    · have hEb : (sAsked c true != 0) = true := by simp [hE]
      have hEz : decide (sAsked c true = 0) = false := by simp [hE]
      cases hI : sIn hour 0 c.last with
      | false =>
        rw [hI] at f2
        have e2 : sAsked c (sIn hour 0 c.last) = 2 := by rw [hI, f2]; rfl
        have e4 : sSpareA c hour = (0, 2) := by rw [sSpareA, e2, if_neg (by decide)]
        simp only [gos, eq_self, Nat.reduceLT, Nat.reduceEqDiff, reduceIte, ↓reduceIte, vgo, vout, vguard, callOf, vop, ev, cv]
        refine Wr.draw (by kernel_rfl) ?_
        rw [e4]
        simp only [gos, eq_self, Nat.reduceLT, Nat.reduceEqDiff, Nat.reduceAdd, reduceIte, ↓reduceIte, vgo, vout, vgoD, voutD, vclsOk, vids, mayWrite, vguard, callOf, vop, ev, cv, vbin, vint, isShift, isNilConst, clsAt, z2, z3]
        refine Cl.pu c_awake ?_
        simp only [gos, eq_self, Nat.reduceLT, Nat.reduceEqDiff, reduceIte, ↓reduceIte, vgo, vout, vguard, callOf, vop, ev]
        subst hQ
        exact FnPost.plain trivial (v := .bool true) (fun h2 e => by rfl) WkV.refl rfl
      | true =>
        rw [hI] at f2
        have e2 : sAsked c (sIn hour 0 c.last) = sAsked c true := by rw [hI, f2]; try rfl
        have e4 : sSpareA c hour = (0, sAsked c true) := by rw [sSpareA, e2, if_neg (by exact hE)]
        simp only [gos, eq_self, Nat.reduceLT, Nat.reduceEqDiff, reduceIte, ↓reduceIte, vgo, vout, vguard, callOf, vop, ev]
        refine Wr.draw (by kernel_rfl) ?_
        rw [e4]
        simp only [gos, eq_self, Nat.reduceLT, Nat.reduceEqDiff, Nat.reduceAdd, reduceIte, ↓reduceIte, vgo, vout, vgoD, voutD, vclsOk, vids, mayWrite, vguard, callOf, vop, ev, cv, vbin, vint, isShift, isNilConst, clsAt, hEb, z2, z3]
        refine Cl.pu c_awake ?_
        simp only [gos, eq_self, Nat.reduceLT, Nat.reduceEqDiff, reduceIte, ↓reduceIte, vgo, vout, vguard, callOf, vop, ev]
        subst hQ
        exact FnPost.plain trivial (v := .bool true) (fun h2 e => by rfl) WkV.refl rfl
  | true =>
    rw [hP] at f1
    have hp := promised_ok hP
    simp only [gos, eq_self, Nat.reduceLT, Nat.reduceEqDiff, reduceCtorEq, reduceIte, ↓reduceIte, tt, vgo, vout, vguard, callOf, vop, ev, vload]
    refine Cl.pu (c_fault c wf) ?_ rfl (by simp only [V.into, intoL, cu_into, Bool.and_true])
    simp only [gos, eq_self, Nat.reduceLT, Nat.reduceEqDiff, reduceCtorEq, reduceIte, ↓reduceIte, tt, vgo, vout, vguard, callOf, vop, ev, cv, vbin, vint, isShift, isNilConst, vload, hb]
    refine Cl.pu (c_rIn _ _ _) ?_
    by_cases hE : sAsked c true = 0
    · have A := askOk_of hE
      have e1 : sMoreA c more = (rWholes c (rTruths c) c.coal (addL c.want more), 0) := by
        rw [sMoreA, hP, f1]
        simp only [Bool.true_eq_false, if_false, hE, if_true]
        rw [with_same k0 A.ne (by have := k0.want.1; omega)]
      have hpl : ∀ t ∈ rTruths c, PlayOk c (tS t) c.coal (addL c.want more) := fun t ht => by
        rw [← sAdd_eq, show c.want.length = more.length by have := k0.want.1; omega]
        exact with_ok k0 hp.1 hp.2 (hT t ht).sc
      rw [e1]
      rw [hE]
      cases hI : sIn hour 0 c.last with
      | false =>
        rw [hI] at f2
        have e2 : sAsked c (sIn hour 0 c.last) = 2 := by rw [hI, f2]; rfl
        have e4 : sSpareA c hour = (0, 2) := by rw [sSpareA, e2, if_neg (by decide)]
        simp only [gos, eq_self, Nat.reduceLT, Nat.reduceEqDiff, reduceIte, ↓reduceIte, vgo, vout, vguard, callOf, vop, ev, cv]
        refine Wr.draw (by kernel_rfl) ?_
        rw [e4]
        simp only [gos, eq_self, Nat.reduceLT, Nat.reduceEqDiff, Nat.reduceAdd, reduceCtorEq, reduceIte, ↓reduceIte, tt, vgoD, voutD, vclsOk, vids, mayWrite, V.ids, vguard, callOf, vop, ev, cv, vbin, vint, isShift, isNilConst, vload, clsAt]
        refine CD.pu (c_rSum c.want more (by have := k0.want.1; have := k0.last; omega) (by have := k0.want.1; omega) (fun j hj => by have := with_b k0 hp.1 hp.2 j hj; omega)) ?_ rfl (by simp only [intoL, vI_into, Bool.and_true])
        simp only [gos, eq_self, Nat.reduceLT, Nat.reduceEqDiff, reduceIte, ↓reduceIte, vgoD, voutD, vguard, callOf, ev]
        refine CD.pu (c_rWholes c (rTruths c) c.coal (addL c.want more) hTl2 (fun t ht => ⟨hpl t ht, (hT t ht).len⟩)) ?_ rfl (by simp only [V.into, intoL, vI_into, cu_into, Bool.and_true, vT_into])
        simp only [gos, eq_self, Nat.reduceLT, Nat.reduceEqDiff, reduceIte, ↓reduceIte, vgo, vout, vgoD, voutD, vclsOk, vids, mayWrite, vguard, callOf, vop, ev, cv, vbin, vint, isShift, isNilConst, z2]
        refine Cl.pu c_awake ?_
        simp only [gos, eq_self, Nat.reduceLT, Nat.reduceEqDiff, reduceIte, ↓reduceIte, vgo, vout, vguard, callOf, vop, ev]
        subst hQ
        exact FnPost.plain trivial (v := .bool true) (fun h2 e => by rfl) WkV.refl rfl
      | true =>
        rw [hI] at f2
        have e2 : sAsked c (sIn hour 0 c.last) = 0 := by rw [hI, f2]; exact hE
        have hIn : 0 ≤ hour ∧ hour ≤ c.last := by simpa [sIn] using hI
        simp only [gos, eq_self, Nat.reduceLT, Nat.reduceEqDiff, reduceIte, ↓reduceIte, vgo, vout, vguard, callOf, vop, ev]
        refine Wr.draw (by kernel_rfl) ?_
        simp only [gos, eq_self, Nat.reduceLT, Nat.reduceEqDiff, Nat.reduceAdd, reduceCtorEq, reduceIte, ↓reduceIte, tt, vgoD, voutD, vclsOk, vids, mayWrite, V.ids, vguard, callOf, vop, ev, cv, vbin, vint, isShift, isNilConst, vload, clsAt]
        refine CD.pu (c_rSum c.want more (by have := k0.want.1; have := k0.last; omega) (by have := k0.want.1; omega) (fun j hj => by have := with_b k0 hp.1 hp.2 j hj; omega)) ?_ rfl (by simp only [intoL, vI_into, Bool.and_true])
        simp only [gos, eq_self, Nat.reduceLT, Nat.reduceEqDiff, reduceIte, ↓reduceIte, vgoD, voutD, vguard, callOf, ev]
        refine CD.pu (c_rWholes c (rTruths c) c.coal (addL c.want more) hTl2 (fun t ht => ⟨hpl t ht, (hT t ht).len⟩)) ?_ rfl (by simp only [V.into, intoL, vI_into, cu_into, Bool.and_true, vT_into])
        simp only [gos, eq_self, Nat.reduceLT, Nat.reduceEqDiff, reduceCtorEq, reduceIte, ↓reduceIte, tt, vgo, vout, vgoD, voutD, vclsOk, vids, mayWrite, vguard, callOf, vop, ev, cv, vbin, vint, isShift, isNilConst, vload]
        refine Cl.pu (c_rSpare c k0 (rTruths c) hTl2 hT hour hIn) ?_ rfl (by simp only [V.into, intoL, cu_into, Bool.and_true, vT_into])
        have hss := spare_same A hIn
        by_cases hneg : rSpare c (rTruths c) hour 21 < 0
        · have e5 : sSpareA c hour = (0, 10) := by rw [hss, if_pos hneg]
          have z10 : decide ((10 : Int) = 10) = true := rfl
          rw [e5]
          simp only [gos, eq_self, Nat.reduceLT, Nat.reduceEqDiff, reduceIte, ↓reduceIte, vgo, vout, vguard, callOf, vop, ev, cv, vbin, vint, isShift, isNilConst, hneg]
          refine Cl.pu c_awake ?_
          simp only [gos, eq_self, Nat.reduceLT, Nat.reduceEqDiff, reduceIte, ↓reduceIte, vgo, vout, vguard, callOf, vop, ev]
          subst hQ
          exact FnPost.plain trivial (v := .bool true) (fun h2 e => by rfl) WkV.refl rfl
        · have e5 : sSpareA c hour = (rSpare c (rTruths c) hour 21, 0) := by rw [hss, if_neg hneg]
          rw [e5]
          simp only [gos, eq_self, Nat.reduceLT, Nat.reduceEqDiff, reduceIte, ↓reduceIte, vgo, vout, vguard, callOf, vop, ev, cv, vbin, vint, isShift, isNilConst, hneg]
          refine Cl.pu c_awake ?_
          simp only [gos, eq_self, Nat.reduceLT, Nat.reduceEqDiff, reduceIte, ↓reduceIte, vgo, vout, vguard, callOf, vop, ev]
          subst hQ
          exact FnPost.plain trivial (v := .bool true) (fun h2 e => by rfl) WkV.refl rfl
    · have hEb : (sAsked c true != 0) = true := by simp [hE]
      have hEz : decide (sAsked c true = 0) = false := by simp [hE]
      have e1 : sMoreA c more = (0, sAsked c true) := by
        rw [sMoreA, hP, f1]
        simp only [Bool.true_eq_false, if_false, hE]
      rw [e1]
      cases hI : sIn hour 0 c.last with
      | false =>
        rw [hI] at f2
        have e2 : sAsked c (sIn hour 0 c.last) = 2 := by rw [hI, f2]; rfl
        have e4 : sSpareA c hour = (0, 2) := by rw [sSpareA, e2, if_neg (by decide)]
        simp only [gos, eq_self, Nat.reduceLT, Nat.reduceEqDiff, reduceIte, ↓reduceIte, vgo, vout, vguard, callOf, vop, ev, cv]
        refine Wr.draw (by kernel_rfl) ?_
        rw [e4]
        simp only [gos, eq_self, Nat.reduceLT, Nat.reduceEqDiff, Nat.reduceAdd, reduceIte, ↓reduceIte, vgo, vout, vgoD, voutD, vclsOk, vids, mayWrite, vguard, callOf, vop, ev, cv, vbin, vint, isShift, isNilConst, clsAt, hEb, hEz, z2]
        refine Cl.pu c_awake ?_
        simp only [gos, eq_self, Nat.reduceLT, Nat.reduceEqDiff, reduceIte, ↓reduceIte, vgo, vout, vguard, callOf, vop, ev]
        subst hQ
        exact FnPost.plain trivial (v := .bool true) (fun h2 e => by rfl) WkV.refl rfl
      | true =>
        rw [hI] at f2
        have e2 : sAsked c (sIn hour 0 c.last) = sAsked c true := by rw [hI, f2]; try rfl
        have e4 : sSpareA c hour = (0, sAsked c true) := by rw [sSpareA, e2, if_neg (by exact hE)]
        simp only [gos, eq_self, Nat.reduceLT, Nat.reduceEqDiff, reduceIte, ↓reduceIte, vgo, vout, vguard, callOf, vop, ev]
        refine Wr.draw (by kernel_rfl) ?_
        rw [e4]
        simp only [gos, eq_self, Nat.reduceLT, Nat.reduceEqDiff, Nat.reduceAdd, reduceIte, ↓reduceIte, vgo, vout, vgoD, voutD, vclsOk, vids, mayWrite, vguard, callOf, vop, ev, cv, vbin, vint, isShift, isNilConst, clsAt, hEb, hEz]
        refine Cl.pu c_awake ?_
        simp only [gos, eq_self, Nat.reduceLT, Nat.reduceEqDiff, reduceIte, ↓reduceIte, vgo, vout, vguard, callOf, vop, ev]
        subst hQ
        exact FnPost.plain trivial (v := .bool true) (fun h2 e => by rfl) WkV.refl rfl
end Go.Vm
