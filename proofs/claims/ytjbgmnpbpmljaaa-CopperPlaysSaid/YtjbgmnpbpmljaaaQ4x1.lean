import Derived.Test.YtjbgmnpbpmljaaaB3
import Derived.Test.YtjbgmnpbpmljaaaRows
import Derived.WalkKit
import Derived.ProofKit
import Derived.OpenShut
import Derived.ShutString
import Derived.ChangeOld
import Derived.Below
set_option linter.unusedVariables false
set_option linter.unusedSimpArgs false
set_option maxRecDepth 100000
namespace Go.Vm
open Go.Proofs
set_option maxHeartbeats 2000000 in
theorem c_ProveTruth (c : Cu) (t : Tr2) (hc : c.wf) (htl : (t.loss.length : Int) ≤ 1000000) : Pu Try.prog (.fn 58 [] []) [.agg c.cs, .agg t.cs] (.bool (sProveTruth c t)) := by
  refine Ev.fn Try.func58 rfl rfl (Fn.body tabOk Try.func58 rfl (Nat.le_of_ble_eq_true rfl) (Ks.ok (fz := (fzn [5])) (cl := (cln [])) tabOk mixed ?_))
  generalize hQ : FnPost tt Try.f58 _ _ = Q
  simp only [Try.f58, List.nil_append, List.append_nil, argsEnv, Nat.reduceAdd]
  simp only [gos, eq_self, Nat.reduceLT, Nat.reduceEqDiff, reduceCtorEq, reduceIte, ↓reduceIte, tt, vgo, vout, vguard, callOf, vop, ev, cv, vload, newRow]
  refine Cl.pu (c_Check c hc) ?_ rfl (by simp only [V.into, intoL, cu_into, Bool.and_true])
  by_cases h0 : sCheck c = 0
  case neg =>
    have hb : (sCheck c != 0) = true := by simp [h0]
    simp only [gos, eq_self, Nat.reduceLT, reduceIte, ↓reduceIte, vgo, vout, vguard, callOf, vop, ev, cv, vbin, vint, isShift, isNilConst, hb]
    subst hQ
    exact FnPost.plain trivial (fun h2 e => by first | rfl | (simp only [Try.f58, vres, vresL, vres1, e _, gos, if_true, if_false, ne_eq, eq_self, Nat.reduceLT, Nat.reduceEqDiff, Nat.reduceAdd, Nat.reduceMul, Nat.reduceLeDiff, Nat.reduceBEq, reduceCtorEq, reduceIte, Array.toList, ↓reduceIte, tt, vgo, vout, vgoD, voutD, vclsOk, vids, mayWrite, V.ids, V.mids, vguard, callOf, vop, ev, cv, vbin, vint, isShift, isNilConst, vnil, isNilSlice, vload, vlen, newRow, vfill, vslice, entOf, vappend, srcOf, vcopy, vlookup, vupdate, mapOk, keyOf, intsOf, clsAt]; try rfl)) (WkV.pure (by simp only [V.into])) ⟨by simp [sProveTruth, h0], rfl⟩
  have hb : (sCheck c != 0) = false := by simp [h0]
  have k := sCheck_ok h0
  have hts : t.cs.take 2 = t.cs := rfl
  have htn : t.cs.length = 2 := rfl
  simp only [gos, eq_self, Nat.reduceLT, Nat.reduceEqDiff, reduceCtorEq, reduceIte, ↓reduceIte, tt, vgo, vout, vguard, callOf, vop, ev, cv, vbin, vint, isShift, isNilConst, vload, hb, hts, htn]
  refine Cl.pu (c_scene c t k.last k.loss.1 htl) ?_ rfl (by simp only [V.into, intoL, vI_into, cu_into, Bool.and_true, Tr2.cs])
  cases h1 : sScOk c t
  · have hz : (sScene c t) = zSc := by simp [sScene, h1]
    simp only [gos, eq_self, Nat.reduceLT, Nat.reduceEqDiff, Nat.reduceAdd, reduceCtorEq, reduceIte, ↓reduceIte, tt, vgo, vout, vguard, callOf, vop, ev, cv, newRow, hz, zSc, Sc.cs, cI]
    subst hQ
    exact FnPost.plain trivial (fun h2 e => by first | rfl | (simp only [Try.f58, vres, vresL, vres1, e _, gos, if_true, if_false, ne_eq, eq_self, Nat.reduceLT, Nat.reduceEqDiff, Nat.reduceAdd, Nat.reduceMul, Nat.reduceLeDiff, Nat.reduceBEq, reduceCtorEq, reduceIte, Array.toList, ↓reduceIte, tt, vgo, vout, vgoD, voutD, vclsOk, vids, mayWrite, V.ids, V.mids, vguard, callOf, vop, ev, cv, vbin, vint, isShift, isNilConst, vnil, isNilSlice, vload, vlen, newRow, vfill, vslice, entOf, vappend, srcOf, vcopy, vlookup, vupdate, mapOk, keyOf, intsOf, clsAt]; try rfl)) (WkV.pure (by simp only [V.into])) ⟨by simp [sProveTruth, h1], rfl⟩
  have ks := scOk_of k h1
  generalize hsc : sScene c t = s at ks ⊢
  have hs5 : (cI s.loss).length = 5 := by rw [cI_len]; exact ks.loss.1
  have ht5 : List.take 5 (cI s.loss) = cI s.loss := List.take_of_length_le (by omega)
  have hd5 : List.drop 5 (cI s.loss) = [] := List.drop_eq_nil_of_le (by omega)
  simp only [gos, eq_self, Nat.reduceLT, Nat.reduceEqDiff, Nat.reduceAdd, reduceCtorEq, reduceIte, ↓reduceIte, tt, vgo, vout, vguard, callOf, vop, ev, cv, vload, newRow, Sc.cs, hs5, ht5, cI_one]
  refine Cl.less (cs := [.agg c.cs, .agg s.cs, vI []]) (ImpV.refl _) ⟨ImpV.refl _, ImpV.refl _, sl0_vI, trivial⟩ (Cl.pu (c_right c s [] (k.play0 ks) k.hours hc.readings (by simp)) ?_ rfl (by simp only [V.into, intoL, cI_into, vI_into, cu_into, Bool.and_true, Sc.cs]))
  simp only [gos, eq_self, Nat.reduceLT, Nat.reduceEqDiff, reduceIte, ↓reduceIte, vgo, vout, vguard, callOf, vop, ev]
  subst hQ
  exact FnPost.plain trivial (fun h2 e => by first | rfl | (simp only [Try.f58, vres, vresL, vres1, e _, gos, if_true, if_false, ne_eq, eq_self, Nat.reduceLT, Nat.reduceEqDiff, Nat.reduceAdd, Nat.reduceMul, Nat.reduceLeDiff, Nat.reduceBEq, reduceCtorEq, reduceIte, Array.toList, ↓reduceIte, tt, vgo, vout, vgoD, voutD, vclsOk, vids, mayWrite, V.ids, V.mids, vguard, callOf, vop, ev, cv, vbin, vint, isShift, isNilConst, vnil, isNilSlice, vload, vlen, newRow, vfill, vslice, entOf, vappend, srcOf, vcopy, vlookup, vupdate, mapOk, keyOf, intsOf, clsAt]; try rfl)) (WkV.pure (by simp only [V.into])) ⟨by simp [sProveTruth, h0, h1, hsc], rfl⟩
end Go.Vm

set_option linter.unusedVariables false
set_option linter.unusedSimpArgs false
set_option maxRecDepth 100000
namespace Go.Vm
open Go.Proofs Go.ChangeShapes Go.WideShapes Go.ChangeAt Go.RowKit
/-! ### from a contract to the row -/
theorem hrel0 (w : World) : HRel (gh0 w) [] w :=
  ⟨fun B o v e => e, fun i e he => (by cases he), fun i j e e' B c c' he => (by cases he), fun i e B c o he => (by cases he), fun i v h => absurd rfl h⟩
theorem calls_of_fn {P : Program} {f : FuncId} {vs : List V} {xs : List Value} {w : World} (c : Fn P f vs [] fun v h' => v = .bool true) (hv : VRL (gh0 w) vs xs) :
    Calls P f xs.toArray w fun e w' => e = .returned (.bool true) ∧ Below w.heap.size w w' := fun cs => by
  obtain ⟨v, h', vc, g', w', fr, rfl, st, hf, hl, hvc, H', t, le⟩ := c (gh0 w) w xs hv (hrel0 w) cs
  simp only [VR] at hvc
  subst hvc
  exact ⟨.returned (.bool true), w', fr, ⟨rfl, t.os, t.tape, t.output, t.size, fun k hk => t.mods k hk (by rintro ⟨i, e, c, he, _⟩; cases he)⟩, st, hf, hl⟩
section
variable {H : Type} {enc : TypeId × Value → H} {P : Program} {w : World} {base : Nat} {spare : Nat → Bool} {held : Bool} {fuel : Nat} {t : TypeId} {cs : List Value} {x : DataW H × List MemPlace}
end
section
variable {H : Type} {enc : TypeId × Value → H} {w : World} {base : Nat} {spare : Nat → Bool} {held : Bool} {fuel : Nat} {cs : List Value} {x : DataW H × List MemPlace}
theorem rd_rg (h : DataW.trod enc Try.prog w base spare held fuel 24 cs = some x) : ∃ r : Rg, r.ok ∧ VRL (gh0 w) r.cs cs := by
  obtain ⟨xs, n, _, _, hl, hx, hf⟩ := DataW.trod_struct Try.underlying24 h
  have hl2 : cs.length = 2 := hl.trans (by kernel_rfl)
  have hx2 : xs.length = 2 := hx
  have f0 : DataW.trod enc Try.prog w base spare held n 3 ((cs.drop 0).take (Try.prog.cellsOf 3)) = xs[0]? := hf 0 _ rfl
  have f1 : DataW.trod enc Try.prog w base spare held n 3 ((cs.drop 1).take (Try.prog.cellsOf 3)) = xs[1]? := hf 1 _ rfl
  rw [List.getElem?_eq_getElem (by omega)] at f0 f1
  obtain ⟨a, ha, va⟩ := rd_int Try.underlying3 f0
  obtain ⟨b, hb, vb⟩ := rd_int Try.underlying3 f1
  refine ⟨⟨a, b⟩, ⟨ha, hb⟩, ?_⟩
  have hc : Try.prog.cellsOf 3 = 1 := by kernel_rfl
  simp only [hc, List.drop_zero] at va vb
  rw [List.take_of_length_le (by simp; omega)] at vb
  exact VRL_two va vb
theorem rd_rd (h : DataW.trod enc Try.prog w base spare held fuel 96 cs = some x) : ∃ r : Rd, r.ok ∧ VRL (gh0 w) r.cs cs := by
  obtain ⟨xs, n, _, _, hl, hx, hf⟩ := DataW.trod_struct Try.underlying96 h
  have hl2 : cs.length = 3 := hl.trans (by kernel_rfl)
  have hx2 : xs.length = 2 := hx
  have f0 : DataW.trod enc Try.prog w base spare held n 3 ((cs.drop 0).take (Try.prog.cellsOf 3)) = xs[0]? := hf 0 _ rfl
  have f1 : DataW.trod enc Try.prog w base spare held n 24 ((cs.drop 1).take (Try.prog.cellsOf 24)) = xs[1]? := hf 1 _ rfl
  rw [List.getElem?_eq_getElem (by omega)] at f0 f1
  obtain ⟨a, ha, va⟩ := rd_int Try.underlying3 f0
  obtain ⟨b, hb, vb⟩ := rd_rg f1
  refine ⟨⟨a, b⟩, ⟨ha, hb⟩, ?_⟩
  have hc : Try.prog.cellsOf 3 = 1 := by kernel_rfl
  have hc2 : Try.prog.cellsOf 24 = 2 := by kernel_rfl
  simp only [hc, hc2, List.drop_zero] at va vb
  rw [List.take_of_length_le (by simp; omega)] at vb
  exact VRL_two va vb
theorem cR_flat : ∀ l : List Rg, l.flatMap Rg.cs = cR l
  | [] => rfl
  | r :: l => by rw [List.flatMap_cons, cR_flat l]; rfl
theorem cD_flat : ∀ l : List Rd, l.flatMap Rd.cs = cD l
  | [] => rfl
  | r :: l => by rw [List.flatMap_cons, cD_flat l]; rfl
theorem rd_cu (h : DataW.trod enc Try.prog w base spare held fuel 28 cs = some x) : ∃ c : Cu, c.ok ∧ VRL (gh0 w) c.cs cs := by
  obtain ⟨xs, n, _, _, hl, hx, hf⟩ := DataW.trod_struct Try.underlying28 h
  have hl2 : cs.length = 11 := hl.trans (by kernel_rfl)
  have hx2 : xs.length = 10 := hx
  have f0 : DataW.trod enc Try.prog w base spare held n 3 ((cs.drop 0).take (Try.prog.cellsOf 3)) = xs[0]? := hf 0 _ rfl
  have f1 : DataW.trod enc Try.prog w base spare held n 3 ((cs.drop 1).take (Try.prog.cellsOf 3)) = xs[1]? := hf 1 _ rfl
  have f2 : DataW.trod enc Try.prog w base spare held n 3 ((cs.drop 2).take (Try.prog.cellsOf 3)) = xs[2]? := hf 2 _ rfl
  have f3 : DataW.trod enc Try.prog w base spare held n 3 ((cs.drop 3).take (Try.prog.cellsOf 3)) = xs[3]? := hf 3 _ rfl
  have f4 : DataW.trod enc Try.prog w base spare held n 3 ((cs.drop 4).take (Try.prog.cellsOf 3)) = xs[4]? := hf 4 _ rfl
  have f5 : DataW.trod enc Try.prog w base spare held n 22 ((cs.drop 5).take (Try.prog.cellsOf 22)) = xs[5]? := hf 5 _ rfl
  have f6 : DataW.trod enc Try.prog w base spare held n 22 ((cs.drop 6).take (Try.prog.cellsOf 22)) = xs[6]? := hf 6 _ rfl
  have f7 : DataW.trod enc Try.prog w base spare held n 24 ((cs.drop 7).take (Try.prog.cellsOf 24)) = xs[7]? := hf 7 _ rfl
  have f8 : DataW.trod enc Try.prog w base spare held n 25 ((cs.drop 9).take (Try.prog.cellsOf 25)) = xs[8]? := hf 8 _ rfl
  have f9 : DataW.trod enc Try.prog w base spare held n 26 ((cs.drop 10).take (Try.prog.cellsOf 26)) = xs[9]? := hf 9 _ rfl
  rw [List.getElem?_eq_getElem (by omega)] at f0 f1 f2 f3 f4 f5 f6 f7 f8 f9
  have hc : Try.prog.cellsOf 3 = 1 := by kernel_rfl
  have hc2 : Try.prog.cellsOf 24 = 2 := by kernel_rfl
  have hc3 : Try.prog.cellsOf 22 = 1 := by kernel_rfl
  have hc4 : Try.prog.cellsOf 25 = 1 := by kernel_rfl
  have hc5 : Try.prog.cellsOf 26 = 1 := by kernel_rfl
  have hc6 : Try.prog.cellsOf 96 = 3 := by kernel_rfl
  obtain ⟨a0, h0, v0⟩ := rd_int Try.underlying3 f0
  obtain ⟨a1, h1, v1⟩ := rd_int Try.underlying3 f1
  obtain ⟨a2, h2, v2⟩ := rd_int Try.underlying3 f2
  obtain ⟨a3, h3, v3⟩ := rd_int Try.underlying3 f3
  obtain ⟨a4, h4, v4⟩ := rd_int Try.underlying3 f4
  obtain ⟨a5, h5, _, v5⟩ := rd_ints Try.underlying22 Try.underlying3 hc f5
  obtain ⟨a6, h6, _, v6⟩ := rd_ints Try.underlying22 Try.underlying3 hc f6
  obtain ⟨a7, h7, v7⟩ := rd_rg f7
  obtain ⟨a8, h8, _, v8⟩ := rd_slice Rg.cs Rg.ok 2 Try.underlying25 hc2 (by omega) (fun _ => rfl) f8 fun n cs x h => rd_rg h
  obtain ⟨a9, h9, _, v9⟩ := rd_slice Rd.cs Rd.ok 3 Try.underlying26 hc6 (by omega) (fun _ => rfl) f9 fun n cs x h => rd_rd h
  rw [cR_flat] at v8
  rw [cD_flat] at v9
  refine ⟨⟨a0, a1, a2, a3, a4, a5, a6, a7, a8, a9⟩, ⟨h0, h1, h2, h3, h4, h5, h6, h7, h8, h9⟩, ?_⟩
  match cs, hl2 with
  | [c0, c1, c2, c3, c4, c5, c6, c7, c8, c9, c10], _ =>
    simp only [hc, hc2, hc3, hc4, hc5, List.drop_zero, List.drop_succ_cons, List.take_succ_cons, List.take_zero, List.take_nil] at v0 v1 v2 v3 v4 v5 v6 v7 v8 v9
    exact VRL.append v0 (VRL.append v1 (VRL.append v2 (VRL.append v3 (VRL.append v4 (VRL.append v5 (VRL.append v6 (VRL.append v7 (VRL.append v8 v9))))))))
end
end Go.Vm

set_option linter.unusedVariables false
set_option linter.unusedSimpArgs false
set_option maxRecDepth 100000
namespace Go.Vm
open Go.Proofs
/-! ### the reference: the heat -/
theorem c_rLeft (c : Cu) (t : Tr2) (coal want : List Int) (k : TrOk c t coal want) (i : Nat) (hi : (i : Int) ≤ c.last) : Pu Try.prog (.fn 45 [] []) [.agg c.cs, .agg t.cs, vI coal, vI want, vi i] (vi (sPlay c (tS t) coal want (i + 1)).1) :=
  c_rLeft_of c t coal want k i hi (c_rHeat c t coal want k i hi)
end Go.Vm

set_option linter.unusedVariables false
set_option linter.unusedSimpArgs false
namespace Go.Vm
/-! ### what is hot, left and kept, by hour -/
theorem past_left {c : Cu} (coal want : List Int) (s : Sc) {i : Nat} (hi : (i : Int) ≤ c.last) : gi (sPast c coal want s).left i = (sPlay c s coal want (i + 1)).1 := by
  rw [sPast, (sPlay_hot c s coal want _).2.1, gi_map (by omega)]
/-! ### all readings are right -/
/-! ### the same truths -/
/-! ### the bounds are the same -/
end Go.Vm

set_option linter.unusedVariables false
set_option linter.unusedSimpArgs false
set_option maxRecDepth 100000
namespace Go.Vm
open Go.Proofs
theorem past_lens {c : Cu} {coal want : List Int} {s : Sc} (k : PlayOk c s coal want) : ((sPast c coal want s).hot.length : Int) = c.last + 1 ∧ ((sPast c coal want s).left.length : Int) = c.last + 1 := by
  have hl := k.last
  obtain ⟨_, _, h1, h2, _⟩ := sPlay_inv k (c.last + 1).toNat (by omega)
  simp only [sPast]
  omega
set_option maxHeartbeats 8000000 in
theorem l_CopperPlays (c : Cu) (hc : I64 c.last) (t : Tr2) : Vm.Fn Try.prog 11 [.agg c.cs, .agg t.cs] [] fun v h' => v = .bool true := by
  refine Fn.body tabOk Try.func11 rfl (Nat.le_of_ble_eq_true rfl) (Ks.ok (fz := (fzn [])) (cl := (cln [(3, .d tg0 [cP, cP, cP, cP, cP, cP, cP, cP, cP, cP, cP, cP]), (4, .d tg0 [cP, cP, cP, cP, cP, cP]), (17, .d tg0 [cP, cP, cP, cP, cP, cP, cP, cP, cP, cP, cP, cP, cP, cP, cP, cP, cP, cP, cP, cP, cP, cP, cP, cP, cP, cP, cP, cP])])) tabOk mixed ?_)
  generalize hQ : FnPost tt Try.f11 _ _ = Q
  simp only [Try.f11, argsEnv, Nat.reduceAdd]
  have hts : t.cs.take 2 = t.cs := rfl
  have htn : t.cs.length = 2 := rfl
  have hth : (List.drop 1 t.cs).head? = some (vI t.loss) := rfl
  simp only [gos, eq_self, Nat.reduceLT, Nat.reduceEqDiff, reduceCtorEq, reduceIte, ↓reduceIte, tt, vgo, vout, vguard, callOf, vop, ev, cv, vload, newRow]
  refine Cl.pu (c_Thin c hc) ?_ rfl (by simp only [V.into, intoL, cu_into, Bool.and_true])
  cases ht : sThin c with
  | false =>
    simp only [gos, eq_self, Nat.reduceLT, Nat.reduceEqDiff, reduceIte, ↓reduceIte, vgo, vout, vguard, callOf, vop, ev, cv]
    refine Cl.pu c_awake ?_
    simp only [gos, eq_self, Nat.reduceLT, reduceIte, ↓reduceIte, vgo, vout, vguard, callOf, vop, ev]
    subst hQ
    exact FnPost.plain trivial (v := .bool true) (fun h2 e => by rfl) WkV.refl rfl
  | true =>
  have wf := thin_wf hc ht
  by_cases hm8 : 8 < (t.loss.length : Int)
  · simp only [gos, eq_self, Nat.reduceLT, Nat.reduceEqDiff, reduceCtorEq, reduceIte, ↓reduceIte, tt, vgo, vout, vguard, callOf, vop, ev, cv, vbin, vint, isShift, isNilConst, vload, vlen, hth, vI, hm8]
    refine Cl.pu c_awake ?_
    simp only [gos, eq_self, Nat.reduceLT, reduceIte, ↓reduceIte, vgo, vout, vguard, callOf, vop, ev]
    subst hQ
    exact FnPost.plain trivial (v := .bool true) (fun h2 e => by rfl) WkV.refl rfl
  have htl : (t.loss.length : Int) ≤ 1000000 := by omega
  simp only [gos, eq_self, Nat.reduceLT, Nat.reduceEqDiff, reduceCtorEq, reduceIte, ↓reduceIte, tt, vgo, vout, vguard, callOf, vop, ev, cv, vbin, vint, isShift, isNilConst, vload, vlen, hth, vI, hm8]
  refine Wr.draw (by kernel_rfl) ?_
  simp only [gos, eq_self, Nat.reduceLT, Nat.reduceEqDiff, Nat.reduceAdd, reduceCtorEq, reduceIte, ↓reduceIte, tt, vgoD, voutD, vclsOk, vids, mayWrite, V.ids, vguard, callOf, vop, ev, vload, clsAt]
  refine CD.pu (c_lCopper c wf) ?_ rfl (by simp only [V.into, intoL, cu_into, Bool.and_true])
  simp only [gos, eq_self, Nat.reduceLT, Nat.reduceEqDiff, reduceCtorEq, reduceIte, ↓reduceIte, tt, vgoD, voutD, vclsOk, vids, mayWrite, V.ids, vguard, callOf, vop, ev, vload, hts, htn]
  refine CD.pu (c_lTruth t htl) ?_ rfl (by simp only [V.into, intoL, vI_into, Bool.and_true, Tr2.cs])
  simp only [gos, eq_self, Nat.reduceLT, Nat.reduceEqDiff, reduceIte, ↓reduceIte, vgoD, voutD, vguard, callOf, ev]
  refine CD.pu (c_Play c t wf htl) ?_ rfl (by simp only [V.into, intoL, vI_into, cu_into, Bool.and_true, Tr2.cs])
  simp only [gos, eq_self, Nat.reduceLT, Nat.reduceEqDiff, reduceIte, ↓reduceIte, vgoD, voutD, vclsOk, vids, mayWrite, vguard, callOf, vop, ev]
  refine Wr.draw (by kernel_rfl) ?_
  simp only [gos, eq_self, Nat.reduceLT, Nat.reduceEqDiff, Nat.reduceAdd, reduceCtorEq, reduceIte, ↓reduceIte, tt, vgoD, voutD, vclsOk, vids, mayWrite, V.ids, vguard, callOf, vop, ev, vload, clsAt]
  refine CD.pu (c_lCopper c wf) ?_ rfl (by simp only [V.into, intoL, cu_into, Bool.and_true])
  simp only [gos, eq_self, Nat.reduceLT, Nat.reduceEqDiff, reduceCtorEq, reduceIte, ↓reduceIte, tt, vgoD, voutD, vclsOk, vids, mayWrite, V.ids, vguard, callOf, vop, ev, vload, hts, htn]
  refine CD.pu (c_lTruth t htl) ?_ rfl (by simp only [V.into, intoL, vI_into, Bool.and_true, Tr2.cs])
  simp only [gos, eq_self, Nat.reduceLT, Nat.reduceEqDiff, reduceIte, ↓reduceIte, vgoD, voutD, vguard, callOf, ev]
  refine CD.pu (c_ProveTruth c t wf htl) ?_ rfl (by simp only [V.into, intoL, vI_into, cu_into, Bool.and_true, Tr2.cs])
  simp only [gos, eq_self, Nat.reduceLT, Nat.reduceEqDiff, reduceCtorEq, reduceIte, ↓reduceIte, tt, vgo, vout, vgoD, voutD, vclsOk, vids, mayWrite, vguard, callOf, vop, ev, vload]
  refine Cl.pu (c_fault c wf) ?_ rfl (by simp only [V.into, intoL, cu_into, Bool.and_true])
  simp only [gos, eq_self, Nat.reduceLT, Nat.reduceEqDiff, reduceCtorEq, reduceIte, ↓reduceIte, tt, vgo, vout, vguard, callOf, vop, ev, vload]
  refine Cl.pu (c_lCopper c wf) ?_ rfl (by simp only [V.into, intoL, cu_into, Bool.and_true])
  simp only [gos, eq_self, Nat.reduceLT, reduceIte, ↓reduceIte, vgo, vout, vguard, callOf, ev]
  refine Cl.pu (c_Check c wf) ?_ rfl (by simp only [V.into, intoL, cu_into, Bool.and_true])
  by_cases h0 : sCheck c = 0
  case neg =>
    have hb : decide (sCheck c = 0) = false := by simp [h0]
    have hb2 : (sCheck c != 0) = true := by simp [h0]
    have e1 : sPlayA c t = ([], [], sCheck c) := by simp [sPlayA, h0]
    have e2 : sProveTruth c t = false := by simp [sProveTruth, h0]
    have hw : IntKind.i64.wrap (((0 : Nat) : Int) + ((0 : Nat) : Int)) = ((0 : Nat) : Int) := rfl
    have hz2 : decide (((0 : Nat) : Int) = 0) = true := rfl
    rw [e1, e2]
    simp only [gos, eq_self, Nat.reduceLT, Nat.reduceEqDiff, reduceIte, ↓reduceIte, tt, vgo, vout, vguard, callOf, vop, ev, cv, vbin, vint, isShift, isNilConst, vlen, hb, hb2, vI, cI, hw, hz2]
    refine Cl.pu c_awake ?_
    simp only [gos, eq_self, Nat.reduceLT, Nat.reduceEqDiff, reduceIte, ↓reduceIte, vgo, vout, vguard, callOf, vop, ev]
    subst hQ
    exact FnPost.plain trivial (v := .bool true) (fun h2 e => by rfl) WkV.refl rfl
  have k0 := sCheck_ok h0
  have hl := k0.last
  have hb : decide (sCheck c = 0) = true := by simp [h0]
  have hb2 : (sCheck c != 0) = false := by simp [h0]
  simp only [gos, eq_self, Nat.reduceLT, Nat.reduceEqDiff, reduceCtorEq, reduceIte, ↓reduceIte, tt, vgo, vout, vguard, callOf, vop, ev, cv, vbin, vint, isShift, isNilConst, vload, hb, hts, htn]
  refine Cl.pu (c_rIsTruth c k0 t htl) ?_ rfl (by simp only [V.into, intoL, vI_into, cu_into, Bool.and_true, Tr2.cs])
  rw [prove_same k0 h0]
  simp only [gos, eq_self, Nat.reduceLT, Nat.reduceEqDiff, reduceCtorEq, reduceIte, ↓reduceIte, tt, vgo, vout, vguard, callOf, vop, ev, cv, vbin, vint, isShift, isNilConst, vload, hb, hts, htn]
  refine Cl.pu (c_rIsListed c k0 t htl) ?_ rfl (by simp only [V.into, intoL, vI_into, cu_into, Bool.and_true, Tr2.cs])
  cases h1 : sScOk c t with
  | false =>
    have e1 : sPlayA c t = ([], [], 2) := by simp [sPlayA, h0, h1]
    have hw : IntKind.i64.wrap (((0 : Nat) : Int) + ((0 : Nat) : Int)) = ((0 : Nat) : Int) := rfl
    have hz2 : decide (((0 : Nat) : Int) = 0) = true := rfl
    have z2 : ((2 : Int) != 0) = true := rfl
    have z3 : decide ((2 : Int) = 2) = true := rfl
    rw [e1]
    simp only [gos, eq_self, Nat.reduceLT, Nat.reduceEqDiff, reduceIte, ↓reduceIte, tt, vgo, vout, vguard, callOf, vop, ev, cv, vbin, vint, isShift, isNilConst, vlen, vI, cI, hw, hz2, z2]
    refine Cl.pu c_awake ?_
    simp only [gos, eq_self, Nat.reduceLT, Nat.reduceEqDiff, reduceIte, ↓reduceIte, vgo, vout, vguard, callOf, vop, ev]
    subst hQ
    exact FnPost.plain trivial (v := .bool true) (fun h2 e => by rfl) WkV.refl rfl
  | true =>
    obtain ⟨T, eS⟩ := t2ok_of k0 h1
    have e1 : sPlayA c t = ((sPast c c.coal c.want (tS t)).hot, (sPast c c.coal c.want (tS t)).left, 0) := by simp [sPlayA, h0, h1, eS]
    obtain ⟨l1, l2⟩ := past_lens (T.tr k0).play
    have g1 : ∀ i : Nat, (i : Int) ≤ c.last → gi (sPast c c.coal c.want (tS t)).hot i = (sHeat c (tS t) c.coal c.want i).tdiv c.per := fun i hi => past_hot c.coal c.want (tS t) hi
    have g2 : ∀ i : Nat, (i : Int) ≤ c.last → gi (sPast c c.coal c.want (tS t)).left i = (sPlay c (tS t) c.coal c.want (i + 1)).1 := fun i hi => past_left c.coal c.want (tS t) hi
    rw [e1]
    generalize (sPast c c.coal c.want (tS t)).hot = A at l1 g1 ⊢
    generalize (sPast c c.coal c.want (tS t)).left = B at l2 g2 ⊢
    have d1 : ((A.length : Int) != c.last + 1) = false := by rw [bne_eq_false_iff_eq]; exact l1
    have d2 : ((B.length : Int) != (A.length : Int)) = false := by rw [bne_eq_false_iff_eq]; omega
    have z1 : ((0 : Int) != 0) = false := rfl
    simp only [gos, eq_self, Nat.reduceLT, Nat.reduceEqDiff, reduceCtorEq, reduceIte, ↓reduceIte, tt, vgo, vout, vguard, callOf, vop, ev, cv, vbin, vint, isShift, isNilConst, vload, vlen, vI, hb2, d1, d2, i64_in (show -9223372036854775808 ≤ c.last + 1 by omega) (show c.last + 1 ≤ 9223372036854775807 by omega)]
    refine W.loop tabOk mixed (fun i : Nat => ([(2, .rop c.cs), (3, .rop t.cs), (5, vI A), (6, vI B), (10, vi i)], [])) (fun i => A.length - i) (fun i => i ≤ A.length) 0 (by omega) (Wk.env (by simp [subE, Env.get, vI])) ?_
    intro i hi
    by_cases hil : (i : Int) < A.length
    · have hil2 : (i : Int) < B.length := by omega
      simp only [gos, eq_self, Nat.reduceLT, Nat.reduceEqDiff, reduceIte, ↓reduceIte, tt, vgo, vout, vguard, callOf, vop, ev, vbin, vint, isShift, isNilConst, vlen, vI, hil]
      refine Wr.draw (by kernel_rfl) ?_
      simp only [gos, eq_self, Nat.reduceLT, Nat.reduceEqDiff, Nat.reduceAdd, reduceCtorEq, reduceIte, ↓reduceIte, tt, vgoD, voutD, vclsOk, vids, mayWrite, V.ids, vguard, callOf, vop, ev, vload, clsAt, vI, hil, cI_at (Int.natCast_nonneg i) hil, hts, htn]
      rw [show V.ro c.coal.length (cI c.coal) = vI c.coal from rfl, show V.ro c.want.length (cI c.want) = vI c.want from rfl]
      refine CD.pu (c_rHot c t c.coal c.want (T.tr k0) i (by omega)) ?_ rfl (by simp only [V.into, intoL, vI_into, cu_into, Bool.and_true, Tr2.cs])
      rw [g1 i (by omega)]
      simp only [gos, eq_self, Nat.reduceLT, Nat.reduceEqDiff, reduceCtorEq, reduceIte, ↓reduceIte, tt, vgoD, voutD, vclsOk, vids, mayWrite, V.ids, vguard, callOf, vop, ev, vbin, vint, isShift, isNilConst, vload, vI, hil2, cI_at (Int.natCast_nonneg i) hil2, hts, htn]
      refine CD.pu (c_rLeft c t c.coal c.want (T.tr k0) i (by omega)) ?_ rfl (by simp only [V.into, intoL, cI_into, vI_into, cu_into, Bool.and_true, Tr2.cs])
      rw [g2 i (by omega)]
      simp only [gos, eq_self, Nat.reduceLT, Nat.reduceEqDiff, reduceIte, ↓reduceIte, vgo, vout, vgoD, voutD, vclsOk, vids, mayWrite, vguard, callOf, vop, ev, cv, vbin, vint, isShift, isNilConst]
      exact Nx.mk (i + 1) (show A.length - (i + 1) < A.length - i by omega) (by omega) (Wk.env (by simp [subE, Env.get, i64_succ (show (i : Int) < 9223372036854775807 by omega)]))
    · simp only [gos, eq_self, Nat.reduceLT, Nat.reduceEqDiff, reduceIte, ↓reduceIte, tt, vgo, vout, vguard, callOf, vop, ev, vbin, vint, isShift, isNilConst, vlen, vI, hil]
      refine Cl.pu c_awake ?_
      simp only [gos, eq_self, Nat.reduceLT, reduceIte, ↓reduceIte, vgo, vout, vguard, callOf, vop, ev]
      subst hQ
      exact FnPost.plain trivial (v := .bool true) (fun h2 e => by rfl) WkV.refl rfl
end Go.Vm
