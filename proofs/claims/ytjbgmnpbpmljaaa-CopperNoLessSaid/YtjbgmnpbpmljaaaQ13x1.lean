import Derived.Test.YtjbgmnpbpmljaaaB3
import Derived.Test.YtjbgmnpbpmljaaaRows
import Derived.WalkKit
import Derived.ProofKit
import Derived.OpenShut
import Derived.ShutString
import Derived.ChangeOld
import Derived.Below
set_option linter.unusedVariables false
set_option linter.unusedSimpArgs false
set_option maxRecDepth 100000
namespace Go.Vm
open Go.Proofs
/-- The sum, as 64 bits hold it. -/
def sSum (l : List Int) : Int := l.foldl (fun n x => IntKind.i64.wrap (n + x)) 0
theorem c_sum (l : List Int) (hl : (l.length : Int) ≤ 1000000) : Pu Try.prog (.fn 114 [] []) [vI l] (vi (sSum l)) := by
  refine Ev.fn Try.func114 rfl rfl (Fn.body tabOk Try.func114 rfl (Nat.le_of_ble_eq_true rfl) (Ks.ok (fz := (fzn [])) (cl := (cln [])) tabOk mixed ?_))
  generalize hQ : FnPost tt Try.f114 _ _ = Q
  simp only [Try.f114, List.nil_append, List.append_nil, argsEnv]
  simp only [gos, eq_self, Nat.reduceLT, reduceCtorEq, reduceIte, ↓reduceIte, tt, vgo, vout, vguard, callOf, vop, ev, cv, vlen, vI]
  refine W.loop tabOk mixed (fun i : Nat => ([(2, vi (sSum (l.take i))), (5, vI l), (6, vi l.length), (7, vi i)], [])) (fun i => l.length - i) (fun i => i ≤ l.length) 0 (by omega) (Wk.env (by simp [subE, Env.get, vI, sSum])) ?_
  intro i hi
  by_cases hil : (i : Int) < l.length
  · have hs : sSum (l.take (i + 1)) = IntKind.i64.wrap (sSum (l.take i) + gi l i) := by rw [gi_take hil, sSum, List.foldl_append]; rfl
    simp only [gos, eq_self, Nat.reduceLT, Nat.reduceEqDiff, reduceCtorEq, reduceIte, ↓reduceIte, tt, vgo, vout, vguard, callOf, vop, ev, cv, vbin, vint, isShift, isNilConst, vload, vI, hil, cI_at (Int.natCast_nonneg i) hil]
    exact Nx.mk (i + 1) (show l.length - (i + 1) < l.length - i by omega) (by omega) (Wk.env (by simp [subE, Env.get, hs, i64_succ (show (i : Int) < 9223372036854775807 by omega)]))
  · have e : l.take i = l := List.take_of_length_le (by omega)
    simp only [gos, eq_self, Nat.reduceLT, Nat.reduceEqDiff, reduceIte, ↓reduceIte, vgo, vout, vguard, callOf, vop, ev, vbin, vint, isShift, isNilConst, vI, hil, e]
    subst hQ
    exact FnPost.plain trivial (fun h2 e => by first | rfl | (simp only [Try.f114, vres, vresL, vres1, e _, gos, if_true, if_false, ne_eq, eq_self, Nat.reduceLT, Nat.reduceEqDiff, Nat.reduceAdd, Nat.reduceMul, Nat.reduceLeDiff, Nat.reduceBEq, reduceCtorEq, reduceIte, Array.toList, ↓reduceIte, tt, vgo, vout, vgoD, voutD, vclsOk, vids, mayWrite, V.ids, V.mids, vguard, callOf, vop, ev, cv, vbin, vint, isShift, isNilConst, vnil, isNilSlice, vload, vlen, newRow, vfill, vslice, entOf, vappend, srcOf, vcopy, vlookup, vupdate, mapOk, keyOf, intsOf, clsAt]; try rfl)) (WkV.pure (by simp only [V.into])) ⟨rfl, rfl⟩
end Go.Vm

set_option linter.unusedVariables false
set_option linter.unusedSimpArgs false
set_option maxRecDepth 100000
namespace Go.Vm
open Go.Proofs
/-! ### Lacks -/
def sLacksA (c : Cu) : Int × Int :=
  if (sKeepsA c).2 = 0 then (if sIdx (fun v => v != 1) (sKeepsA c).1 < 0 then (0, 7) else (sIdx (fun v => v != 1) (sKeepsA c).1, 0)) else (0, (sKeepsA c).2)
theorem c_Lacks1 (n : Int) : Pu Try.prog (.fn 116 [] []) [vi n] (.bool (n != 1)) := by
  refine Ev.fn Try.func116 rfl rfl (Fn.body tabOk Try.func116 rfl (Nat.le_of_ble_eq_true rfl) (Ks.ok (fz := (fzn [])) (cl := (cln [])) tabOk mixed ?_))
  generalize hQ : FnPost tt Try.f116 _ _ = Q
  simp only [Try.f116, List.nil_append, List.append_nil, argsEnv]
  simp only [gos, eq_self, Nat.reduceLT, reduceCtorEq, reduceIte, ↓reduceIte, vgo, vout, vguard, callOf, vop, ev, cv, vbin, vint, isShift, isNilConst]
  subst hQ
  exact FnPost.plain trivial (fun h2 e => by first | rfl | (simp only [Try.f116, vres, vresL, vres1, e _, gos, if_true, if_false, ne_eq, eq_self, Nat.reduceLT, Nat.reduceEqDiff, Nat.reduceAdd, Nat.reduceMul, Nat.reduceLeDiff, Nat.reduceBEq, reduceCtorEq, reduceIte, Array.toList, ↓reduceIte, tt, vgo, vout, vgoD, voutD, vclsOk, vids, mayWrite, V.ids, V.mids, vguard, callOf, vop, ev, cv, vbin, vint, isShift, isNilConst, vnil, isNilSlice, vload, vlen, newRow, vfill, vslice, entOf, vappend, srcOf, vcopy, vlookup, vupdate, mapOk, keyOf, intsOf, clsAt]; try rfl)) (WkV.pure (by simp only [V.into])) ⟨rfl, rfl⟩
theorem keeps_len (c : Cu) : ((sKeepsA c).1.length : Int) ≤ 1000000 := by
  unfold sKeepsA
  split
  · rename_i h
    have := (askOk_of h).k0.last
    simp only [nI, List.length_map, List.length_range]; omega
  · simp
theorem c_Lacks (c : Cu) (hc : c.wf) : Pu Try.prog (.fn 70 [] []) [.agg c.cs] (.tup [vi (sLacksA c).1, vi (sLacksA c).2]) := by
  refine Ev.fn Try.func70 rfl rfl (Fn.body tabOk Try.func70 rfl (Nat.le_of_ble_eq_true rfl) (Ks.ok (fz := (fzn [])) (cl := (cln [])) tabOk mixed ?_))
  generalize hQ : FnPost tt Try.f70 _ _ = Q
  simp only [Try.f70, List.nil_append, List.append_nil, argsEnv]
  simp only [gos, eq_self, Nat.reduceLT, Nat.reduceEqDiff, reduceCtorEq, reduceIte, ↓reduceIte, tt, vgo, vout, vguard, callOf, vop, ev, cv, vload, newRow]
  refine Cl.pu (c_Keeps c hc) ?_ rfl (by simp only [V.into, intoL, cu_into, Bool.and_true])
  by_cases h0 : (sKeepsA c).2 = 0
  case neg =>
    have hb : ((sKeepsA c).2 != 0) = true := by simp [h0]
    simp only [gos, eq_self, Nat.reduceLT, Nat.reduceEqDiff, reduceIte, ↓reduceIte, vgo, vout, vguard, callOf, vop, ev, cv, vbin, vint, isShift, isNilConst, hb]
    subst hQ
    have hr : sLacksA c = (0, (sKeepsA c).2) := by rw [sLacksA, if_neg h0]
    rw [hr]
    exact FnPost.plain trivial (fun h2 e => by rfl) WkV.refl ⟨rfl, rfl⟩
  have hb : ((sKeepsA c).2 != 0) = false := by simp [h0]
  simp only [gos, eq_self, Nat.reduceLT, Nat.reduceEqDiff, reduceIte, ↓reduceIte, vgo, vout, vguard, callOf, vop, ev, cv, vbin, vint, isShift, isNilConst, hb]
  refine Cl.pu (c_IndexFunc_int _ (fun v => v != 1) (sKeepsA c).1 (keeps_len c) rfl fun x _ => c_Lacks1 x) ?_ rfl (by simp only [V.into, intoL, vI_into, Bool.and_true])
  by_cases hi : sIdx (fun v => v != 1) (sKeepsA c).1 < 0
  · have hd : decide (sIdx (fun v => v != 1) (sKeepsA c).1 < 0) = true := by simp only [hi, decide_true]
    simp only [gos, eq_self, Nat.reduceLT, reduceIte, ↓reduceIte, vgo, vout, vguard, callOf, vop, ev, cv, vbin, vint, isShift, isNilConst, hi]
    subst hQ
    exact FnPost.plain trivial (fun h2 e => by first | rfl | (simp only [Try.f70, vres, vresL, vres1, e _, gos, if_true, if_false, ne_eq, eq_self, Nat.reduceLT, Nat.reduceEqDiff, Nat.reduceAdd, Nat.reduceMul, Nat.reduceLeDiff, Nat.reduceBEq, reduceCtorEq, reduceIte, Array.toList, ↓reduceIte, tt, vgo, vout, vgoD, voutD, vclsOk, vids, mayWrite, V.ids, V.mids, vguard, callOf, vop, ev, cv, vbin, vint, isShift, isNilConst, vnil, isNilSlice, vload, vlen, newRow, vfill, vslice, entOf, vappend, srcOf, vcopy, vlookup, vupdate, mapOk, keyOf, intsOf, clsAt]; try rfl)) (WkV.pure (by simp only [V.into, intoL, Bool.and_true])) ⟨by rw [sLacksA, if_pos h0, if_pos hi], rfl⟩
  · simp only [gos, eq_self, Nat.reduceLT, Nat.reduceEqDiff, reduceIte, ↓reduceIte, vgo, vout, vguard, callOf, vop, ev, cv, vbin, vint, isShift, isNilConst, hi]
    subst hQ
    exact FnPost.plain trivial (fun h2 e => by first | rfl | (simp only [Try.f70, vres, vresL, vres1, e _, gos, if_true, if_false, ne_eq, eq_self, Nat.reduceLT, Nat.reduceEqDiff, Nat.reduceAdd, Nat.reduceMul, Nat.reduceLeDiff, Nat.reduceBEq, reduceCtorEq, reduceIte, Array.toList, ↓reduceIte, tt, vgo, vout, vgoD, voutD, vclsOk, vids, mayWrite, V.ids, V.mids, vguard, callOf, vop, ev, cv, vbin, vint, isShift, isNilConst, vnil, isNilSlice, vload, vlen, newRow, vfill, vslice, entOf, vappend, srcOf, vcopy, vlookup, vupdate, mapOk, keyOf, intsOf, clsAt]; try rfl)) (WkV.pure (by simp only [V.into, intoL, Bool.and_true])) ⟨by rw [sLacksA, if_pos h0, if_neg hi], rfl⟩
end Go.Vm

set_option linter.unusedVariables false
set_option linter.unusedSimpArgs false
set_option maxRecDepth 100000
namespace Go.Vm
open Go.Proofs
def sProveCoal (c : Cu) (coal : List Int) (many : Int) : Bool := decide (sAsked c (sIsCoal c coal) = 0) && (decide (sSum coal ≤ many) && sSureP c coal)
theorem coal_ok {c : Cu} {l : List Int} (h : sIsCoal c l = true) : (l.length : Int) = c.last + 1 ∧ ∀ x ∈ l, 0 ≤ x ∧ x ≤ c.shovels := by
  simp only [sIsCoal, sIn, Bool.and_eq_true, decide_eq_true_eq, List.all_eq_true] at h
  exact h
set_option maxHeartbeats 2000000 in
theorem c_ProveCoal (c : Cu) (hc : c.wf) (coal : List Int) (hm : (coal.length : Int) ≤ 1000000) (many : Int) : Pu Try.prog (.fn 65 [] []) [.agg c.cs, vI coal, vi many] (.bool (sProveCoal c coal many)) := by
  refine Ev.fn Try.func65 rfl rfl (Fn.body tabOk Try.func65 rfl (Nat.le_of_ble_eq_true rfl) (Ks.ok (fz := (fzn [])) (cl := (cln [(1, .d tg0 [cP, cP, cP, cP, none, cP, cP, cP, cP, cP])])) tabOk mixed ?_))
  generalize hQ : FnPost tt Try.f65 _ _ = Q
  simp only [Try.f65, List.nil_append, List.append_nil, argsEnv, Nat.reduceAdd]
  simp only [gos, eq_self, Nat.reduceLT, reduceCtorEq, reduceIte, ↓reduceIte, vgo, vout, vguard, callOf, vop, ev, cv, newRow]
  refine Wr.draw (by kernel_rfl) ?_
  simp only [gos, eq_self, Nat.reduceLT, Nat.reduceEqDiff, Nat.reduceAdd, reduceCtorEq, reduceIte, ↓reduceIte, tt, vgoD, voutD, vclsOk, vids, mayWrite, V.ids, vguard, callOf, vop, ev, vload, clsAt]
  refine CD.pu (c_isCoal c coal hc.last hm) ?_ rfl (by simp only [V.into, intoL, vI_into, cu_into, Bool.and_true])
  simp only [gos, eq_self, Nat.reduceLT, Nat.reduceEqDiff, reduceIte, ↓reduceIte, vgoD, voutD, vguard, callOf, ev]
  by_cases h0 : sAsked c (sIsCoal c coal) = 0
  case neg =>
    refine CD.ev _ _ (c_askedN c hc (sIsCoal c coal) h0) ?_
    simp only [gos, eq_self, Nat.reduceLT, Nat.reduceEqDiff, reduceIte, ↓reduceIte, vgo, vout, vgoD, voutD, vclsOk, vids, mayWrite, vguard, callOf, vop, ev, cv, vbin, vint, isShift, isNilConst, h0]
    subst hQ
    exact FnPost.plain trivial (fun h2 e => by first | rfl | (simp only [Try.f65, vres, vresL, vres1, e _, gos, if_true, if_false, ne_eq, eq_self, Nat.reduceLT, Nat.reduceEqDiff, Nat.reduceAdd, Nat.reduceMul, Nat.reduceLeDiff, Nat.reduceBEq, reduceCtorEq, reduceIte, Array.toList, ↓reduceIte, tt, vgo, vout, vgoD, voutD, vclsOk, vids, mayWrite, V.ids, V.mids, vguard, callOf, vop, ev, cv, vbin, vint, isShift, isNilConst, vnil, isNilSlice, vload, vlen, newRow, vfill, vslice, entOf, vappend, srcOf, vcopy, vlookup, vupdate, mapOk, keyOf, intsOf, clsAt]; try rfl)) (WkV.pure (by simp only [V.into])) ⟨by simp [sProveCoal, h0], rfl⟩
  have A := askOk_of h0
  have hp := coal_ok A.fine
  refine CD.ev _ _ (c_askedY c hc (sIsCoal c coal) h0) ?_
  simp only [gos, eq_self, Nat.reduceLT, Nat.reduceEqDiff, reduceCtorEq, reduceIte, ↓reduceIte, vgo, vout, vgoD, voutD, vclsOk, vids, mayWrite, vguard, callOf, vop, ev, cv, vbin, vint, isShift, isNilConst]
  refine Cl.pu (c_sum coal hm) ?_ rfl (by simp only [intoL, vI_into, Bool.and_true])
  by_cases h1 : sSum coal ≤ many
  case neg =>
    simp only [gos, eq_self, Nat.reduceLT, Nat.reduceEqDiff, reduceCtorEq, reduceIte, ↓reduceIte, vgo, vout, vguard, callOf, vop, ev, cv, vbin, vint, isShift, isNilConst, h1]
    subst hQ
    exact FnPost.plain trivial (v := .bool false) (fun h2 e => by rfl) (WkV.pure rfl) ⟨by simp [sProveCoal, h1], rfl⟩
  simp only [gos, eq_self, Nat.reduceLT, Nat.reduceEqDiff, reduceCtorEq, reduceIte, ↓reduceIte, vgo, vout, vguard, callOf, vop, ev, vbin, vint, isShift, isNilConst, h1]
  refine Cl.mk (c_sure c (sTruth c) [] 17 (by decide) (by intro x hx; cases hx) coal A.ok (by have := A.len; omega) (by have := A.k0.last; omega) fun s hs => coal_play A.k0 hp (A.sc s hs)) ?_
  rintro v h' ⟨rfl, rfl⟩
  simp only [gos, eq_self, Nat.reduceLT, Nat.reduceEqDiff, reduceIte, ↓reduceIte, vgo, vout, vguard, callOf, vop, ev]
  subst hQ
  have hr : sProveCoal c coal many = sSure c (sTruth c) [] coal := by simp [sProveCoal, h0, h1, sSureP, sSure, mget]
  rw [hr]
  exact FnPost.plain trivial (v := .bool (sSure c (sTruth c) [] coal)) (fun h2 e => by rfl) (WkV.pure rfl) ⟨rfl, rfl⟩
end Go.Vm

set_option linter.unusedVariables false
set_option linter.unusedSimpArgs false
set_option maxRecDepth 100000
namespace Go.Vm
open Go.Proofs Go.ChangeShapes Go.WideShapes Go.ChangeAt Go.RowKit
/-! ### from a contract to the row -/
theorem hrel0 (w : World) : HRel (gh0 w) [] w :=
  ⟨fun B o v e => e, fun i e he => (by cases he), fun i j e e' B c c' he => (by cases he), fun i e B c o he => (by cases he), fun i v h => absurd rfl h⟩
theorem calls_of_fn {P : Program} {f : FuncId} {vs : List V} {xs : List Value} {w : World} (c : Fn P f vs [] fun v h' => v = .bool true) (hv : VRL (gh0 w) vs xs) :
    Calls P f xs.toArray w fun e w' => e = .returned (.bool true) ∧ Below w.heap.size w w' := fun cs => by
  obtain ⟨v, h', vc, g', w', fr, rfl, st, hf, hl, hvc, H', t, le⟩ := c (gh0 w) w xs hv (hrel0 w) cs
  simp only [VR] at hvc
  subst hvc
  exact ⟨.returned (.bool true), w', fr, ⟨rfl, t.os, t.tape, t.output, t.size, fun k hk => t.mods k hk (by rintro ⟨i, e, c, he, _⟩; cases he)⟩, st, hf, hl⟩
section
variable {H : Type} {enc : TypeId × Value → H} {P : Program} {w : World} {base : Nat} {spare : Nat → Bool} {held : Bool} {fuel : Nat} {t : TypeId} {cs : List Value} {x : DataW H × List MemPlace}
end
section
variable {H : Type} {enc : TypeId × Value → H} {w : World} {base : Nat} {spare : Nat → Bool} {held : Bool} {fuel : Nat} {cs : List Value} {x : DataW H × List MemPlace}
theorem rd_rg (h : DataW.trod enc Try.prog w base spare held fuel 24 cs = some x) : ∃ r : Rg, r.ok ∧ VRL (gh0 w) r.cs cs := by
  obtain ⟨xs, n, _, _, hl, hx, hf⟩ := DataW.trod_struct Try.underlying24 h
  have hl2 : cs.length = 2 := hl.trans (by kernel_rfl)
  have hx2 : xs.length = 2 := hx
  have f0 : DataW.trod enc Try.prog w base spare held n 3 ((cs.drop 0).take (Try.prog.cellsOf 3)) = xs[0]? := hf 0 _ rfl
  have f1 : DataW.trod enc Try.prog w base spare held n 3 ((cs.drop 1).take (Try.prog.cellsOf 3)) = xs[1]? := hf 1 _ rfl
  rw [List.getElem?_eq_getElem (by omega)] at f0 f1
  obtain ⟨a, ha, va⟩ := rd_int Try.underlying3 f0
  obtain ⟨b, hb, vb⟩ := rd_int Try.underlying3 f1
  refine ⟨⟨a, b⟩, ⟨ha, hb⟩, ?_⟩
  have hc : Try.prog.cellsOf 3 = 1 := by kernel_rfl
  simp only [hc, List.drop_zero] at va vb
  rw [List.take_of_length_le (by simp; omega)] at vb
  exact VRL_two va vb
theorem rd_rd (h : DataW.trod enc Try.prog w base spare held fuel 96 cs = some x) : ∃ r : Rd, r.ok ∧ VRL (gh0 w) r.cs cs := by
  obtain ⟨xs, n, _, _, hl, hx, hf⟩ := DataW.trod_struct Try.underlying96 h
  have hl2 : cs.length = 3 := hl.trans (by kernel_rfl)
  have hx2 : xs.length = 2 := hx
  have f0 : DataW.trod enc Try.prog w base spare held n 3 ((cs.drop 0).take (Try.prog.cellsOf 3)) = xs[0]? := hf 0 _ rfl
  have f1 : DataW.trod enc Try.prog w base spare held n 24 ((cs.drop 1).take (Try.prog.cellsOf 24)) = xs[1]? := hf 1 _ rfl
  rw [List.getElem?_eq_getElem (by omega)] at f0 f1
  obtain ⟨a, ha, va⟩ := rd_int Try.underlying3 f0
  obtain ⟨b, hb, vb⟩ := rd_rg f1
  refine ⟨⟨a, b⟩, ⟨ha, hb⟩, ?_⟩
  have hc : Try.prog.cellsOf 3 = 1 := by kernel_rfl
  have hc2 : Try.prog.cellsOf 24 = 2 := by kernel_rfl
  simp only [hc, hc2, List.drop_zero] at va vb
  rw [List.take_of_length_le (by simp; omega)] at vb
  exact VRL_two va vb
theorem cR_flat : ∀ l : List Rg, l.flatMap Rg.cs = cR l
  | [] => rfl
  | r :: l => by rw [List.flatMap_cons, cR_flat l]; rfl
theorem cD_flat : ∀ l : List Rd, l.flatMap Rd.cs = cD l
  | [] => rfl
  | r :: l => by rw [List.flatMap_cons, cD_flat l]; rfl
theorem rd_cu (h : DataW.trod enc Try.prog w base spare held fuel 28 cs = some x) : ∃ c : Cu, c.ok ∧ VRL (gh0 w) c.cs cs := by
  obtain ⟨xs, n, _, _, hl, hx, hf⟩ := DataW.trod_struct Try.underlying28 h
  have hl2 : cs.length = 11 := hl.trans (by kernel_rfl)
  have hx2 : xs.length = 10 := hx
  have f0 : DataW.trod enc Try.prog w base spare held n 3 ((cs.drop 0).take (Try.prog.cellsOf 3)) = xs[0]? := hf 0 _ rfl
  have f1 : DataW.trod enc Try.prog w base spare held n 3 ((cs.drop 1).take (Try.prog.cellsOf 3)) = xs[1]? := hf 1 _ rfl
  have f2 : DataW.trod enc Try.prog w base spare held n 3 ((cs.drop 2).take (Try.prog.cellsOf 3)) = xs[2]? := hf 2 _ rfl
  have f3 : DataW.trod enc Try.prog w base spare held n 3 ((cs.drop 3).take (Try.prog.cellsOf 3)) = xs[3]? := hf 3 _ rfl
  have f4 : DataW.trod enc Try.prog w base spare held n 3 ((cs.drop 4).take (Try.prog.cellsOf 3)) = xs[4]? := hf 4 _ rfl
  have f5 : DataW.trod enc Try.prog w base spare held n 22 ((cs.drop 5).take (Try.prog.cellsOf 22)) = xs[5]? := hf 5 _ rfl
  have f6 : DataW.trod enc Try.prog w base spare held n 22 ((cs.drop 6).take (Try.prog.cellsOf 22)) = xs[6]? := hf 6 _ rfl
  have f7 : DataW.trod enc Try.prog w base spare held n 24 ((cs.drop 7).take (Try.prog.cellsOf 24)) = xs[7]? := hf 7 _ rfl
  have f8 : DataW.trod enc Try.prog w base spare held n 25 ((cs.drop 9).take (Try.prog.cellsOf 25)) = xs[8]? := hf 8 _ rfl
  have f9 : DataW.trod enc Try.prog w base spare held n 26 ((cs.drop 10).take (Try.prog.cellsOf 26)) = xs[9]? := hf 9 _ rfl
  rw [List.getElem?_eq_getElem (by omega)] at f0 f1 f2 f3 f4 f5 f6 f7 f8 f9
  have hc : Try.prog.cellsOf 3 = 1 := by kernel_rfl
  have hc2 : Try.prog.cellsOf 24 = 2 := by kernel_rfl
  have hc3 : Try.prog.cellsOf 22 = 1 := by kernel_rfl
  have hc4 : Try.prog.cellsOf 25 = 1 := by kernel_rfl
  have hc5 : Try.prog.cellsOf 26 = 1 := by kernel_rfl
  have hc6 : Try.prog.cellsOf 96 = 3 := by kernel_rfl
  obtain ⟨a0, h0, v0⟩ := rd_int Try.underlying3 f0
  obtain ⟨a1, h1, v1⟩ := rd_int Try.underlying3 f1
  obtain ⟨a2, h2, v2⟩ := rd_int Try.underlying3 f2
  obtain ⟨a3, h3, v3⟩ := rd_int Try.underlying3 f3
  obtain ⟨a4, h4, v4⟩ := rd_int Try.underlying3 f4
  obtain ⟨a5, h5, _, v5⟩ := rd_ints Try.underlying22 Try.underlying3 hc f5
  obtain ⟨a6, h6, _, v6⟩ := rd_ints Try.underlying22 Try.underlying3 hc f6
  obtain ⟨a7, h7, v7⟩ := rd_rg f7
  obtain ⟨a8, h8, _, v8⟩ := rd_slice Rg.cs Rg.ok 2 Try.underlying25 hc2 (by omega) (fun _ => rfl) f8 fun n cs x h => rd_rg h
  obtain ⟨a9, h9, _, v9⟩ := rd_slice Rd.cs Rd.ok 3 Try.underlying26 hc6 (by omega) (fun _ => rfl) f9 fun n cs x h => rd_rd h
  rw [cR_flat] at v8
  rw [cD_flat] at v9
  refine ⟨⟨a0, a1, a2, a3, a4, a5, a6, a7, a8, a9⟩, ⟨h0, h1, h2, h3, h4, h5, h6, h7, h8, h9⟩, ?_⟩
  match cs, hl2 with
  | [c0, c1, c2, c3, c4, c5, c6, c7, c8, c9, c10], _ =>
    simp only [hc, hc2, hc3, hc4, hc5, List.drop_zero, List.drop_succ_cons, List.take_succ_cons, List.take_zero, List.take_nil] at v0 v1 v2 v3 v4 v5 v6 v7 v8 v9
    exact VRL.append v0 (VRL.append v1 (VRL.append v2 (VRL.append v3 (VRL.append v4 (VRL.append v5 (VRL.append v6 (VRL.append v7 (VRL.append v8 v9))))))))
end
end Go.Vm

set_option linter.unusedVariables false
set_option linter.unusedSimpArgs false
set_option maxRecDepth 100000
namespace Go.Vm
open Go.Proofs
/-! ### the reference: all truths -/
theorem rTr_ok {c : Cu} (k0 : CuOk c) (i : Nat) : ∀ t ∈ rTr c i, T2Ok c t := fun t ht => by
  simp only [rTr, List.mem_filter, List.mem_map] at ht
  obtain ⟨⟨n, _, rfl⟩, _⟩ := ht
  exact nth_ok k0 (by omega)
end Go.Vm

set_option linter.unusedVariables false
set_option linter.unusedSimpArgs false
set_option maxRecDepth 100000
namespace Go.Vm
open Go.Proofs
/-! ### coal by a number -/
def powI (s : Int) : Nat → Int
  | 0 => 1
  | n + 1 => powI s n * s
theorem powI_le {s : Int} (hs : 1 ≤ s ∧ s ≤ 4) : ∀ n : Nat, n ≤ 5 → 1 ≤ powI s n ∧ powI s n ≤ 1024
  | 0, _ => by simp [powI]
  | 1, _ => by simp [powI]; omega
  | 2, _ => by
    have : s = 1 ∨ s = 2 ∨ s = 3 ∨ s = 4 := by omega
    rcases this with rfl | rfl | rfl | rfl <;> decide
  | 3, _ => by
    have : s = 1 ∨ s = 2 ∨ s = 3 ∨ s = 4 := by omega
    rcases this with rfl | rfl | rfl | rfl <;> decide
  | 4, _ => by
    have : s = 1 ∨ s = 2 ∨ s = 3 ∨ s = 4 := by omega
    rcases this with rfl | rfl | rfl | rfl <;> decide
  | 5, _ => by
    have : s = 1 ∨ s = 2 ∨ s = 3 ∨ s = 4 := by omega
    rcases this with rfl | rfl | rfl | rfl <;> decide
  | n + 6, h => by omega
def rCoals (c : Cu) : Int := powI (c.shovels + 1) (c.last + 1).toNat
theorem rCoals_le {c : Cu} (k0 : CuOk c) : 1 ≤ rCoals c ∧ rCoals c ≤ 1024 := by
  have := k0.last; have := k0.shovels
  exact powI_le (by omega) _ (by omega)
theorem c_rCoals (c : Cu) (k0 : CuOk c) : Pu Try.prog (.fn 51 [] []) [.agg c.cs] (vi (rCoals c)) := by
  have hl := k0.last
  have hs := k0.shovels
  refine Ev.fn Try.func51 rfl rfl (Fn.body tabOk Try.func51 rfl (Nat.le_of_ble_eq_true rfl) (Ks.ok (fz := (fzn [])) (cl := (cln [])) tabOk mixed ?_))
  generalize hQ : FnPost tt Try.f51 _ _ = Q
  simp only [Try.f51, List.nil_append, List.append_nil, argsEnv]
  have hc4 : (List.drop 4 c.cs).head? = some (vi c.shovels) := rfl
  simp only [gos, eq_self, Nat.reduceLT, reduceIte, ↓reduceIte, vgo, vout, vguard, callOf, vop, ev, cv, newRow]
  refine W.loop tabOk mixed (fun i : Nat => ([(1, .rop c.cs), (3, vi (powI (c.shovels + 1) i)), (4, vi i)], [])) (fun i => (c.last + 1).toNat - i) (fun i => i ≤ (c.last + 1).toNat) 0 (by omega) (Wk.env (by simp [subE, Env.get, powI])) ?_
  intro i hi
  by_cases hil : (i : Int) ≤ c.last
  · have hp := powI_le (s := c.shovels + 1) (by omega) (i + 1) (by omega)
    rw [powI] at hp
    simp only [gos, eq_self, Nat.reduceLT, Nat.reduceEqDiff, reduceCtorEq, reduceIte, ↓reduceIte, tt, vgo, vout, vguard, callOf, vop, ev, cv, vbin, vint, isShift, isNilConst, vload, hil, hc4, i64_in (show -9223372036854775808 ≤ c.shovels + 1 by omega) (show c.shovels + 1 ≤ 9223372036854775807 by omega), i64_in (show -9223372036854775808 ≤ powI (c.shovels + 1) i * (c.shovels + 1) by omega) (show powI (c.shovels + 1) i * (c.shovels + 1) ≤ 9223372036854775807 by omega)]
    exact Nx.mk (i + 1) (show (c.last + 1).toNat - (i + 1) < (c.last + 1).toNat - i by omega) (by omega) (Wk.env (by simp [subE, Env.get, powI, i64_succ (show (i : Int) < 9223372036854775807 by omega)]))
  · have e : (c.last + 1).toNat = i := by omega
    simp only [gos, eq_self, Nat.reduceLT, Nat.reduceEqDiff, reduceCtorEq, reduceIte, ↓reduceIte, tt, vgo, vout, vguard, callOf, vop, ev, vbin, vint, isShift, isNilConst, vload, hil]
    subst hQ
    exact FnPost.plain trivial (fun h2 e => by first | rfl | (simp only [Try.f51, vres, vresL, vres1, e _, gos, if_true, if_false, ne_eq, eq_self, Nat.reduceLT, Nat.reduceEqDiff, Nat.reduceAdd, Nat.reduceMul, Nat.reduceLeDiff, Nat.reduceBEq, reduceCtorEq, reduceIte, Array.toList, ↓reduceIte, tt, vgo, vout, vgoD, voutD, vclsOk, vids, mayWrite, V.ids, V.mids, vguard, callOf, vop, ev, cv, vbin, vint, isShift, isNilConst, vnil, isNilSlice, vload, vlen, newRow, vfill, vslice, entOf, vappend, srcOf, vcopy, vlookup, vupdate, mapOk, keyOf, intsOf, clsAt]; try rfl)) (WkV.pure (by simp only [V.into])) ⟨by rw [rCoals, e], rfl⟩
/-- What is left of a number, and the last digits of it. -/
def dvN (s n : Int) : Nat → Int
  | 0 => n
  | j + 1 => (dvN s n j).tdiv s
def lowD (s n : Int) : Nat → List Int
  | 0 => []
  | j + 1 => (dvN s n j).tmod s :: lowD s n j
theorem lowD_len (s n : Int) : ∀ j, (lowD s n j).length = j
  | 0 => rfl
  | j + 1 => by rw [lowD, List.length_cons, lowD_len s n j]
theorem dvN_ge {s n : Int} (hn : 0 ≤ n) (hs : 1 ≤ s) : ∀ j, 0 ≤ dvN s n j ∧ dvN s n j ≤ n
  | 0 => ⟨hn, Int.le_refl _⟩
  | j + 1 => by
    have := dvN_ge hn hs j
    have h1 := Int.tdiv_nonneg this.1 (show 0 ≤ s by omega)
    have h2 := Int.tdiv_le_self s this.1
    simp only [dvN]; omega
theorem lowD_ok {s n : Int} (hn : 0 ≤ n) (hs : 1 ≤ s) : ∀ j, ∀ x ∈ lowD s n j, 0 ≤ x ∧ x ≤ s - 1
  | 0, x, h => by simp [lowD] at h
  | j + 1, x, h => by
    rw [lowD, List.mem_cons] at h
    rcases h with rfl | h
    · exact tmod_le (dvN_ge hn hs j).1 hs
    · exact lowD_ok hn hs j x h
def rCoal (c : Cu) (n : Int) : List Int := lowD (c.shovels + 1) n (c.last + 1).toNat
theorem rCoal_len (c : Cu) (n : Int) : (rCoal c n).length = (c.last + 1).toNat := lowD_len _ _ _
theorem rCoal_ok {c : Cu} (k0 : CuOk c) {n : Int} (hn : 0 ≤ n) : ((rCoal c n).length : Int) = c.last + 1 ∧ ∀ x ∈ rCoal c n, 0 ≤ x ∧ x ≤ c.shovels :=
  ⟨by rw [rCoal_len]; have := k0.last; omega, fun x hx => by have := lowD_ok hn (s := c.shovels + 1) (by have := k0.shovels; omega) _ x hx; omega⟩
set_option maxHeartbeats 1000000 in
theorem c_rCoal0 (c : Cu) (k0 : CuOk c) (n : Int) (hn : 0 ≤ n ∧ n ≤ 100000) : Ev Try.prog (.fn 50 [] []) [.agg c.cs, vi n] [] fun v h' => v = .own 10 0 0 1 (c.last + 1).toNat ∧ h' = [(10, ⟨0, .row (cI (rCoal c n))⟩)] := by
  have hl := k0.last
  have hs := k0.shovels
  have hge : 0 ≤ c.last + 1 := by omega
  have hle : c.last + 1 ≤ 1000000 := by omega
  refine Ev.fn Try.func50 rfl rfl (Fn.body tabOk Try.func50 rfl (Nat.le_of_ble_eq_true rfl) (Ks.ok (fz := (fzn [])) (cl := (cln [(5, .d tg0 [cP, cP, cP, cP, cP, cP, cP, cP, cP, cP, cP, cP, cP, cW, cP])])) tabOk mixed ?_))
  generalize hQ : FnPost tt Try.f50 _ _ = Q
  simp only [Try.f50, List.nil_append, List.append_nil, argsEnv, Nat.reduceAdd]
  have hc4 : (List.drop 4 c.cs).head? = some (vi c.shovels) := rfl
  have hz : zeros [V.int IntKind.i64 0] (c.last + 1).toNat = cI (List.replicate (c.last + 1).toNat 0) := zeros_vi _
  simp only [gos, eq_self, Nat.reduceLT, Nat.reduceEqDiff, Nat.reduceLeDiff, reduceCtorEq, reduceIte, ↓reduceIte, tt, vgo, vout, vguard, callOf, vop, ev, cv, vbin, vint, isShift, isNilConst, vload, newRow, i64_in (show -9223372036854775808 ≤ c.last + 1 by omega) (show c.last + 1 ≤ 9223372036854775807 by omega), hge, hle, hz]
  refine W.loop tabOk mixed (fun j : Nat => ([(1, vi (dvN (c.shovels + 1) n j)), (2, .rop c.cs), (5, .own 10 0 0 1 (c.last + 1).toNat), (6, vi (c.last - j))], [(10, ⟨0, .row (cI (List.replicate ((c.last + 1).toNat - j) 0 ++ lowD (c.shovels + 1) n j))⟩)])) (fun j => (c.last + 1).toNat - j) (fun j => j ≤ (c.last + 1).toNat) 0 (by omega) (Wk.heap (fun i => by simp [lowD]) (by simp [subE, Env.get, dvN])) ?_
  intro j hj
  by_cases hjl : (j : Int) ≤ c.last
  · have h0 : 0 ≤ c.last - j := by omega
    have h1 : c.last - j < ((c.last + 1).toNat : Int) := by omega
    have hd := dvN_ge hn.1 (s := c.shovels + 1) (by omega) j
    have hz : ¬ c.shovels + 1 = 0 := by omega
    have ht : (c.last - (j : Int)).toNat = (c.last + 1).toNat - (j + 1) := by omega
    have hlen : (c.last + 1).toNat - (j + 1) + 1 ≤ (cI (List.replicate ((c.last + 1).toNat - j) 0 ++ lowD (c.shovels + 1) n j)).length := by
      rw [cI_len, List.length_append, List.length_replicate]; omega
    have hset : List.take ((c.last + 1).toNat - (j + 1)) (cI (List.replicate ((c.last + 1).toNat - j) 0 ++ lowD (c.shovels + 1) n j)) ++ [V.int IntKind.i64 ((dvN (c.shovels + 1) n j).tmod (c.shovels + 1))] ++ List.drop ((c.last + 1).toNat - (j + 1) + 1) (cI (List.replicate ((c.last + 1).toNat - j) 0 ++ lowD (c.shovels + 1) n j)) = cI (List.replicate ((c.last + 1).toNat - (j + 1)) 0 ++ lowD (c.shovels + 1) n (j + 1)) := by
      have e : List.replicate ((c.last + 1).toNat - j) (0 : Int) = List.replicate ((c.last + 1).toNat - (j + 1)) 0 ++ [0] := by
        rw [show (c.last + 1).toNat - j = (c.last + 1).toNat - (j + 1) + 1 by omega, List.replicate_succ']
      rw [cI_set _ (by rw [List.length_append, List.length_replicate]; omega), e, lowD]
      congr 1
      rw [List.append_assoc, List.set_append, if_neg (by simp)]
      simp
    have hdv : 0 ≤ (dvN (c.shovels + 1) n j).tdiv (c.shovels + 1) := Int.tdiv_nonneg hd.1 (by omega)
    have hdl := Int.tdiv_le_self (c.shovels + 1) hd.1
    simp only [gos, eq_self, Nat.reduceLT, Nat.reduceEqDiff, reduceIte, ↓reduceIte, vgo, vout, vguard, callOf, vop, ev, cv, vbin, vint, isShift, isNilConst, h0]
    refine Wr.draw (by kernel_rfl) ?_
    simp only [gos, eq_self, Nat.reduceLT, Nat.reduceEqDiff, Nat.reduceAdd, reduceCtorEq, reduceIte, ↓reduceIte, tt, vgo, vout, vgoD, voutD, vclsOk, vids, mayWrite, V.ids, vguard, callOf, vop, ev, cv, vbin, vint, isShift, isNilConst, vload, clsAt, hc4, hz, h0, h1, ht, hlen, Nat.zero_add, Nat.mul_one, i64_in (show -9223372036854775808 ≤ c.shovels + 1 by omega) (show c.shovels + 1 ≤ 9223372036854775807 by omega), i64_in (show -9223372036854775808 ≤ (dvN (c.shovels + 1) n j).tdiv (c.shovels + 1) by omega) (show (dvN (c.shovels + 1) n j).tdiv (c.shovels + 1) ≤ 9223372036854775807 by omega)]
    rw [hset]
    exact Nx.mk (j + 1) (show (c.last + 1).toNat - (j + 1) < (c.last + 1).toNat - j by omega) (by omega) (Wk.env (by simp [subE, Env.get, dvN, i64_in (show -9223372036854775808 ≤ c.last - j - 1 by omega) (show c.last - j - 1 ≤ 9223372036854775807 by omega)]; omega))
  · have h0 : ¬ 0 ≤ c.last - j := by omega
    have e : (c.last + 1).toNat = j := by omega
    simp only [gos, eq_self, Nat.reduceLT, Nat.reduceEqDiff, reduceIte, ↓reduceIte, vgo, vout, vguard, callOf, vop, ev, cv, vbin, vint, isShift, isNilConst, h0]
    subst hQ
    refine FnPost.plain trivial (v := .own 10 0 0 1 (c.last + 1).toNat) (fun h2 e => by rfl) WkV.refl ⟨rfl, ?_⟩
    rw [rCoal, e]; simp
theorem c_rCoal (c : Cu) (k0 : CuOk c) (n : Int) (hn : 0 ≤ n ∧ n ≤ 100000) : Pu Try.prog (.fn 50 [] []) [.agg c.cs, vi n] (vI (rCoal c n)) :=
  (c_rCoal0 c k0 n hn).weakV fun v h' ⟨e1, e2⟩ => by
    subst e1; subst e2
    have hl := rCoal_len c n
    have ht : (cI (rCoal c n)).take (c.last + 1).toNat = cI (rCoal c n) := List.take_of_length_le (by rw [cI_len]; omega)
    refine ⟨vI (rCoal c n), [], WkV.frz 10 (v' := vI (rCoal c n)) (h' := []) (ver := 0) (cs := cI (rCoal c n)) rfl rfl (cI_into _ _) rfl ?_ ?_ WkV.refl, rfl, rfl⟩
    · simp [V.frz, vI, ht, hl]
    · simp [frzH]
/-! ### words -/
end Go.Vm

set_option linter.unusedVariables false
set_option linter.unusedSimpArgs false
set_option maxRecDepth 100000
namespace Go.Vm
open Go.Proofs
/-! ### the least coal of the reference -/
theorem sum_take {l : List Int} {i : Nat} (h : (i : Int) < l.length) : (l.take (i + 1)).sum = (l.take i).sum + gi l i := by
  have e : l.take (i + 1) = l.take i ++ [gi l i] := by
    rw [List.take_add_one, List.getElem?_eq_getElem (by omega), gi, Int.toNat_natCast, List.getD_eq_getElem?_getD, List.getElem?_eq_getElem (by omega)]; rfl
  rw [e, List.sum_append]; simp
theorem sum_le {l : List Int} (h : ∀ x ∈ l, 0 ≤ x ∧ x ≤ 3) : 0 ≤ l.sum ∧ l.sum ≤ 3 * l.length := by
  induction l with
  | nil => simp
  | cons x l ih =>
    have h1 := ih fun y hy => h y (by simp [hy])
    have h2 := h x (by simp)
    simp only [List.sum_cons, List.length_cons]; omega
theorem c_rShovels (l : List Int) (hl : (l.length : Int) ≤ 1000000) (h : ∀ x ∈ l, 0 ≤ x ∧ x ≤ 3) : Pu Try.prog (.fn 66 [] []) [vI l] (vi l.sum) := by
  refine Ev.fn Try.func66 rfl rfl (Fn.body tabOk Try.func66 rfl (Nat.le_of_ble_eq_true rfl) (Ks.ok (fz := (fzn [])) (cl := (cln [])) tabOk mixed ?_))
  generalize hQ : FnPost tt Try.f66 _ _ = Q
  simp only [Try.f66, List.nil_append, List.append_nil, argsEnv]
  simp only [gos, eq_self, Nat.reduceLT, reduceIte, ↓reduceIte, vgo, vout, vguard, callOf, vop, ev, cv]
  refine W.loop tabOk mixed (fun i : Nat => ([(0, vI l), (3, vi (l.take i).sum), (4, vi i)], [])) (fun i => l.length - i) (fun i => i ≤ l.length) 0 (by omega) (Wk.env (by simp [subE, Env.get])) ?_
  intro i hi
  by_cases hil : (i : Int) < l.length
  · have hs := sum_take hil
    have hb := sum_le (l := l.take (i + 1)) fun x hx => h x (List.mem_of_mem_take hx)
    have hb2 : (l.take (i + 1)).length ≤ l.length := by rw [List.length_take]; omega
    rw [hs] at hb
    simp only [gos, eq_self, Nat.reduceLT, Nat.reduceEqDiff, reduceCtorEq, reduceIte, ↓reduceIte, tt, vgo, vout, vguard, callOf, vop, ev, cv, vbin, vint, isShift, isNilConst, vload, vlen, vI, hil, cI_at (Int.natCast_nonneg i) hil, i64_in (show -9223372036854775808 ≤ (l.take i).sum + gi l i by omega) (show (l.take i).sum + gi l i ≤ 9223372036854775807 by omega)]
    exact Nx.mk (i + 1) (show l.length - (i + 1) < l.length - i by omega) (by omega) (Wk.env (by simp [subE, Env.get, hs, i64_succ (show (i : Int) < 9223372036854775807 by omega)]))
  · have e : l.take i = l := List.take_of_length_le (by omega)
    simp only [gos, eq_self, Nat.reduceLT, Nat.reduceEqDiff, reduceCtorEq, reduceIte, ↓reduceIte, tt, vgo, vout, vguard, callOf, vop, ev, vbin, vint, isShift, isNilConst, vlen, vI, hil, e]
    subst hQ
    exact FnPost.plain trivial (fun h2 e => by first | rfl | (simp only [Try.f66, vres, vresL, vres1, e _, gos, if_true, if_false, ne_eq, eq_self, Nat.reduceLT, Nat.reduceEqDiff, Nat.reduceAdd, Nat.reduceMul, Nat.reduceLeDiff, Nat.reduceBEq, reduceCtorEq, reduceIte, Array.toList, ↓reduceIte, tt, vgo, vout, vgoD, voutD, vclsOk, vids, mayWrite, V.ids, V.mids, vguard, callOf, vop, ev, cv, vbin, vint, isShift, isNilConst, vnil, isNilSlice, vload, vlen, newRow, vfill, vslice, entOf, vappend, srcOf, vcopy, vlookup, vupdate, mapOk, keyOf, intsOf, clsAt]; try rfl)) (WkV.pure (by simp only [V.into])) ⟨rfl, rfl⟩
end Go.Vm

set_option linter.unusedVariables false
set_option linter.unusedSimpArgs false
set_option maxRecDepth 100000
namespace Go.Vm
open Go.Proofs
/-! ### sets of readings, by bits -/
/-! ### before, shorter -/
def lBefore : List Int → List Int → Bool
  | [], b => decide (0 < b.length)
  | _ :: _, [] => false
  | x :: a, y :: b => if x = y then lBefore a b else decide (x < y)
theorem drop_gi {l : List Int} {i : Nat} (h : (i : Int) < l.length) : l.drop i = gi l i :: l.drop (i + 1) := by
  rw [List.drop_eq_getElem_cons (by omega), gi, Int.toNat_natCast, List.getD_eq_getElem?_getD, List.getElem?_eq_getElem (by omega)]; rfl
set_option maxHeartbeats 1000000 in
theorem c_rBefore (a b : List Int) (ha : (a.length : Int) ≤ 1000000) : Pu Try.prog (.fn 74 [] []) [vI a, vI b] (.bool (lBefore a b)) := by
  refine Ev.fn Try.func74 rfl rfl (Fn.body tabOk Try.func74 rfl (Nat.le_of_ble_eq_true rfl) (Ks.ok (fz := (fzn [])) (cl := (cln [(4, .d tg0 [cP, cP, cP, cP, cP, cP, cP, cP, cP]), (5, .d tg0 [cP, cP, cP, cP, cP, cP, cP, cP, cP, cP])])) tabOk mixed ?_))
  generalize hQ : FnPost tt Try.f74 _ _ = Q
  simp only [Try.f74, List.nil_append, List.append_nil, argsEnv, Nat.reduceAdd]
  simp only [gos, eq_self, Nat.reduceLT, Nat.reduceEqDiff, reduceCtorEq, reduceIte, ↓reduceIte, vgo, vout, vguard, callOf, vop, ev, cv]
  refine W.loop tabOk mixed (fun i : Nat => ([(0, vI a), (1, vI b), (5, vi i)], [])) (fun i => a.length - i) (fun i => i ≤ a.length ∧ i ≤ b.length ∧ lBefore a b = lBefore (a.drop i) (b.drop i)) 0 ⟨by omega, by omega, rfl⟩ (Wk.env (by simp [subE, Env.get])) ?_
  rintro i ⟨hi1, hi2, he⟩
  by_cases h1 : (i : Int) < a.length
  · by_cases h2 : (i : Int) < b.length
    · rw [drop_gi h1, drop_gi h2, lBefore] at he
      simp only [gos, eq_self, Nat.reduceLT, Nat.reduceEqDiff, reduceCtorEq, reduceIte, ↓reduceIte, tt, vgo, vout, vguard, callOf, vop, ev, vbin, vint, isShift, isNilConst, vlen, vI, h1, h2]
      refine Wr.draw (by kernel_rfl) ?_
      simp only [gos, eq_self, Nat.reduceLT, Nat.reduceEqDiff, Nat.reduceAdd, reduceCtorEq, reduceIte, ↓reduceIte, tt, vgoD, voutD, vclsOk, vids, mayWrite, V.ids, vguard, callOf, vop, ev, vbin, vint, isShift, isNilConst, vload, clsAt, h1, h2, cI_at (Int.natCast_nonneg i) h1, cI_at (Int.natCast_nonneg i) h2]
      by_cases hx : gi a i = gi b i
      · rw [if_pos hx] at he
        have hb : (gi a i != gi b i) = false := by simp [hx]
        simp only [gos, eq_self, Nat.reduceLT, Nat.reduceEqDiff, reduceCtorEq, reduceIte, ↓reduceIte, vgo, vout, vguard, callOf, vop, ev, cv, vbin, vint, isShift, isNilConst, hb]
        exact Nx.mk (i + 1) (show a.length - (i + 1) < a.length - i by omega) ⟨by omega, by omega, he⟩ (Wk.env (by simp [subE, Env.get, i64_succ (show (i : Int) < 9223372036854775807 by omega)]))
      · rw [if_neg hx] at he
        have hb : (gi a i != gi b i) = true := by simp [hx]
        simp only [gos, eq_self, Nat.reduceEqDiff, reduceIte, ↓reduceIte, hb]
        refine Wr.draw (by kernel_rfl) ?_
        simp only [gos, eq_self, Nat.reduceLT, Nat.reduceEqDiff, Nat.reduceAdd, reduceCtorEq, reduceIte, ↓reduceIte, tt, vgoD, voutD, vclsOk, vids, mayWrite, V.ids, vguard, callOf, vop, ev, vbin, vint, isShift, isNilConst, vload, clsAt, h1, h2, cI_at (Int.natCast_nonneg i) h1, cI_at (Int.natCast_nonneg i) h2]
        subst hQ
        exact FnPost.plain trivial (fun h2 e => by first | rfl | (simp only [Try.f74, vres, vresL, vres1, e _, gos, if_true, if_false, ne_eq, eq_self, Nat.reduceLT, Nat.reduceEqDiff, Nat.reduceAdd, Nat.reduceMul, Nat.reduceLeDiff, Nat.reduceBEq, reduceCtorEq, reduceIte, Array.toList, ↓reduceIte, tt, vgo, vout, vgoD, voutD, vclsOk, vids, mayWrite, V.ids, V.mids, vguard, callOf, vop, ev, cv, vbin, vint, isShift, isNilConst, vnil, isNilSlice, vload, vlen, newRow, vfill, vslice, entOf, vappend, srcOf, vcopy, vlookup, vupdate, mapOk, keyOf, intsOf, clsAt]; try rfl)) (WkV.pure (by simp only [V.into])) ⟨by rw [he], rfl⟩
    · have e2 : b.drop i = [] := List.drop_eq_nil_of_le (by omega)
      rw [e2, drop_gi h1, lBefore] at he
      have hb : decide ((a.length : Int) < b.length) = false := by simp; omega
      simp only [gos, eq_self, Nat.reduceLT, Nat.reduceEqDiff, reduceCtorEq, reduceIte, ↓reduceIte, tt, vgo, vout, vguard, callOf, vop, ev, vbin, vint, isShift, isNilConst, vlen, vI, h1, h2, hb]
      subst hQ
      exact FnPost.plain trivial (fun h2 e => by first | rfl | (simp only [Try.f74, vres, vresL, vres1, e _, gos, if_true, if_false, ne_eq, eq_self, Nat.reduceLT, Nat.reduceEqDiff, Nat.reduceAdd, Nat.reduceMul, Nat.reduceLeDiff, Nat.reduceBEq, reduceCtorEq, reduceIte, Array.toList, ↓reduceIte, tt, vgo, vout, vgoD, voutD, vclsOk, vids, mayWrite, V.ids, V.mids, vguard, callOf, vop, ev, cv, vbin, vint, isShift, isNilConst, vnil, isNilSlice, vload, vlen, newRow, vfill, vslice, entOf, vappend, srcOf, vcopy, vlookup, vupdate, mapOk, keyOf, intsOf, clsAt]; try rfl)) (WkV.pure (by simp only [V.into])) ⟨by rw [he], rfl⟩
  · have e1 : a.drop i = [] := List.drop_eq_nil_of_le (by omega)
    rw [e1, lBefore] at he
    have hb : decide ((a.length : Int) < b.length) = lBefore a b := by rw [he, List.length_drop]; congr 1; apply propext; omega
    simp only [gos, eq_self, Nat.reduceLT, Nat.reduceEqDiff, reduceCtorEq, reduceIte, ↓reduceIte, tt, vgo, vout, vguard, callOf, vop, ev, cv, vbin, vint, isShift, isNilConst, vlen, vI, h1, hb]
    subst hQ
    exact FnPost.plain trivial (fun h2 e => by first | rfl | (simp only [Try.f74, vres, vresL, vres1, e _, gos, if_true, if_false, ne_eq, eq_self, Nat.reduceLT, Nat.reduceEqDiff, Nat.reduceAdd, Nat.reduceMul, Nat.reduceLeDiff, Nat.reduceBEq, reduceCtorEq, reduceIte, Array.toList, ↓reduceIte, tt, vgo, vout, vgoD, voutD, vclsOk, vids, mayWrite, V.ids, V.mids, vguard, callOf, vop, ev, cv, vbin, vint, isShift, isNilConst, vnil, isNilSlice, vload, vlen, newRow, vfill, vslice, entOf, vappend, srcOf, vcopy, vlookup, vupdate, mapOk, keyOf, intsOf, clsAt]; try rfl)) (WkV.pure (by simp only [V.into])) ⟨rfl, rfl⟩
end Go.Vm

set_option linter.unusedVariables false
set_option linter.unusedSimpArgs false
set_option maxRecDepth 100000
namespace Go.Vm
/-! ### the least coal: the program's search and the reference's are the same -/
def digs (s : Int) : Nat → List (List Int)
  | 0 => [[]]
  | k + 1 => (rangeI 0 s).flatMap fun n => (digs s k).map (n :: ·)
theorem digs_mem {s : Int} : ∀ {k : Nat} {l : List Int}, l ∈ digs s k ↔ l.length = k ∧ ∀ x ∈ l, 0 ≤ x ∧ x ≤ s
  | 0, l => by
    rw [digs, List.mem_singleton]
    constructor
    · rintro rfl; exact ⟨rfl, fun x hx => by simp at hx⟩
    · rintro ⟨h, _⟩; exact List.length_eq_zero_iff.1 h
  | k + 1, l => by
    simp only [digs, List.mem_flatMap, mem_rangeI, List.mem_map]
    constructor
    · rintro ⟨n, hn, m, hm, rfl⟩
      have := digs_mem.1 hm
      exact ⟨by simp [this.1], fun x hx => by rcases List.mem_cons.1 hx with rfl | h; exact hn; exact this.2 x h⟩
    · rintro ⟨h1, h2⟩
      cases l with
      | nil => simp at h1
      | cons x l => exact ⟨x, h2 x (by simp), l, digs_mem.2 ⟨by simpa using h1, fun y hy => h2 y (by simp [hy])⟩, rfl⟩
theorem pw_less {α : Type} {R S : α → α → Prop} (h : ∀ {a b : α}, R a b → S a b) : ∀ {l : List α}, l.Pairwise R → l.Pairwise S
  | [], _ => .nil
  | a :: l, p => by rw [List.pairwise_cons] at p ⊢; exact ⟨fun b hb => h (p.1 b hb), pw_less h p.2⟩
theorem rangeI_pair (lo hi : Int) : (rangeI lo hi).Pairwise (· < ·) := by
  rw [rangeI, List.pairwise_map]
  exact pw_less (fun h => by omega) List.pairwise_lt_range
theorem digs_pair (s : Int) : ∀ k, (digs s k).Pairwise (fun a b => lBefore a b = true)
  | 0 => by simp [digs]
  | k + 1 => by
    rw [digs, List.pairwise_flatMap]
    refine ⟨fun n _ => ?_, pw_less (fun {a b} hab x hx y hy => ?_) (rangeI_pair 0 s)⟩
    · rw [List.pairwise_map]; exact pw_less (fun h => by simpa [lBefore] using h) (digs_pair s k)
    · obtain ⟨x, _, rfl⟩ := List.mem_map.1 hx
      obtain ⟨y, _, rfl⟩ := List.mem_map.1 hy
      simp only [lBefore]
      rw [if_neg (by omega)]; simp [hab]
theorem lBefore_asymm : ∀ {a b : List Int}, lBefore a b = true → lBefore b a = false
  | [], [], h => by simp [lBefore] at h
  | [], _ :: _, _ => rfl
  | _ :: _, [], h => by simp [lBefore] at h
  | x :: a, y :: b, h => by
    simp only [lBefore] at h ⊢
    by_cases e : x = y
    · rw [if_pos e] at h; rw [if_pos e.symm]; exact lBefore_asymm h
    · rw [if_neg e] at h; rw [if_neg (Ne.symm e)]; simp at h ⊢; omega
theorem rangeI_split {lo a hi : Int} (h1 : lo ≤ a + 1) (h2 : a ≤ hi) : rangeI lo hi = rangeI lo a ++ rangeI (a + 1) hi := by
  have e : (hi + 1 - lo).toNat = (a + 1 - lo).toNat + (hi + 1 - (a + 1)).toNat := by omega
  simp only [rangeI, e, List.range_add, List.map_append, List.map_map]
  congr 1
  apply List.map_congr_left
  intro i _
  simp only [Function.comp]; omega
theorem find_cut {α : Type} {f : Int → Option α} {s m : Int} (h : ∀ n, m < n → f n = none) : (rangeI 0 (min s m)).findSome? f = (rangeI 0 s).findSome? f := by
  by_cases hs : s ≤ m
  · rw [Int.min_eq_left hs]
  · rw [Int.min_eq_right (by omega)]
    by_cases hm : m < 0
    · have e : rangeI 0 m = [] := by rw [rangeI, show (m + 1 - 0).toNat = 0 by omega]; rfl
      rw [e, List.findSome?_nil, eq_comm, List.findSome?_eq_none_iff]
      intro x hx
      have := mem_rangeI.1 hx
      exact h x (by omega)
    · rw [rangeI_split (a := m) (by omega) (show m ≤ s by omega), List.findSome?_append]
      have e : (rangeI (m + 1) s).findSome? f = none := by
        rw [List.findSome?_eq_none_iff]
        intro x hx
        have := mem_rangeI.1 hx
        exact h x (by omega)
      rw [e, Option.or_none]
theorem sum_range {s : Int} (hs : 0 ≤ s) : ∀ {l : List Int}, (∀ x ∈ l, 0 ≤ x ∧ x ≤ s) → 0 ≤ l.sum ∧ l.sum ≤ s * l.length
  | [], _ => by simp
  | x :: l, h => by
    have h1 := sum_range hs (l := l) fun y hy => h y (List.mem_cons_of_mem _ hy)
    have h2 := h x (by simp)
    rw [List.sum_cons, List.length_cons, Int.natCast_add, Int.mul_add]; omega
theorem addF_find (c : Cu) (P : List Int → Bool) (hs : 0 ≤ c.shovels) : ∀ (k : Nat) (coal : List Int) (many : Int),
    addF c P k coal many = (((digs c.shovels k).filter fun l => decide (l.sum = many)).map (coal ++ ·)).find? P
  | 0, coal, many => by
    by_cases h : many = 0
    · subst h
      cases hp : P coal <;> simp [addF, digs, hp]
    · have h' : ¬ (0 : Int) = many := fun e => h e.symm
      simp [addF, digs, h, h']
  | k + 1, coal, many => by
    have e : ∀ n, addF c P k (coal ++ [n]) (many - n) = ((((digs c.shovels k).map (n :: ·)).filter fun l => decide (l.sum = many)).map (coal ++ ·)).find? P := by
      intro n
      rw [addF_find c P hs k, List.filter_map, List.map_map]
      congr 1
      have e1 : (List.filter ((fun l : List Int => decide (l.sum = many)) ∘ fun x => n :: x) (digs c.shovels k)) = List.filter (fun l => decide (l.sum = many - n)) (digs c.shovels k) := by
        apply List.filter_congr
        intro l _
        exact decide_eq_decide.2 (by rw [List.sum_cons]; omega)
      rw [e1]
      apply List.map_congr_left
      intro l _
      simp
    rw [addF, digs, List.filter_flatMap, List.map_flatMap, List.find?_flatMap]
    rw [find_cut]
    · congr 1
      funext n
      exact e n
    · intro n hn
      rw [e n, List.find?_eq_none]
      intro x hx
      obtain ⟨y, hy, rfl⟩ := List.mem_map.1 hx
      obtain ⟨h1, h2⟩ := List.mem_filter.1 hy
      obtain ⟨z, hz, rfl⟩ := List.mem_map.1 h1
      have := sum_range hs (digs_mem.1 hz).2
      rw [decide_eq_true_eq, List.sum_cons] at h2
      omega
structure IsLeast (s : Int) (k : Nat) (P : List Int → Bool) (l : List Int) : Prop where
  mem : l ∈ digs s k
  is : P l = true
  min : ∀ x ∈ digs s k, P x = true → l.sum < x.sum ∨ (l.sum = x.sum ∧ (l = x ∨ lBefore l x = true))
theorem IsLeast.one {s : Int} {k : Nat} {P : List Int → Bool} {a b : List Int} (ha : IsLeast s k P a) (hb : IsLeast s k P b) : a = b := by
  rcases ha.min b hb.mem hb.is with h | ⟨h, e | e⟩
  · rcases hb.min a ha.mem ha.is with h2 | ⟨h2, _⟩ <;> omega
  · exact e
  · rcases hb.min a ha.mem ha.is with h2 | ⟨h2, e2 | e2⟩
    · omega
    · exact e2.symm
    · rw [lBefore_asymm e] at e2; simp at e2
theorem pair_find {l : List (List Int)} (hp : l.Pairwise (fun a b => lBefore a b = true)) {P : List Int → Bool} {a : List Int} (h : l.find? P = some a) : a ∈ l ∧ P a = true ∧ ∀ x ∈ l, P x = true → a = x ∨ lBefore a x = true := by
  obtain ⟨h1, l1, l2, rfl, h2⟩ := List.find?_eq_some_iff_append.1 h
  refine ⟨by simp, h1, fun x hx hP => ?_⟩
  rcases List.mem_append.1 hx with hx | hx
  · have := h2 x hx; simp [hP] at this
  · rcases List.mem_cons.1 hx with rfl | hx
    · exact .inl rfl
    · have := (List.pairwise_append.1 hp).2.1
      exact .inr ((List.pairwise_cons.1 this).1 x hx)
theorem findSome_first {α : Type} {f : Int → Option α} {lo hi : Int} {b : α} (h : (rangeI lo hi).findSome? f = some b) : ∃ a, lo ≤ a ∧ a ≤ hi ∧ f a = some b ∧ ∀ x, lo ≤ x → x < a → f x = none := by
  obtain ⟨l1, a, l2, e, h1, h2⟩ := List.findSome?_eq_some_iff.1 h
  have ha : a ∈ rangeI lo hi := by rw [e]; simp
  have hp := rangeI_pair lo hi
  rw [e] at hp
  have ham := mem_rangeI.1 ha
  refine ⟨a, ham.1, ham.2, h1, fun x hx hxa => ?_⟩
  have hx2 : x ∈ rangeI lo hi := mem_rangeI.2 ⟨hx, by omega⟩
  rw [e] at hx2
  rcases List.mem_append.1 hx2 with hx3 | hx3
  · exact h2 x hx3
  · rcases List.mem_cons.1 hx3 with rfl | hx3
    · omega
    · have := (List.pairwise_cons.1 (List.pairwise_append.1 hp).2.1).1 x hx3
      omega
theorem leastF_some {c : Cu} (k0 : CuOk c) {l : List Int} (h : leastF c = some l) : IsLeast c.shovels (c.last + 1).toNat (sSureP c) l := by
  have hs := k0.shovels.1
  obtain ⟨m, h0, h1, h2, h3⟩ := findSome_first h
  rw [addF_find c _ hs] at h2
  simp only [List.nil_append, List.map_id'] at h2
  obtain ⟨g1, g2, g3⟩ := pair_find ((digs_pair c.shovels (c.last + 1).toNat).filter _) h2
  obtain ⟨g1, g4⟩ := List.mem_filter.1 g1
  have g4 : l.sum = m := by simpa using g4
  refine ⟨g1, g2, fun x hx hP => ?_⟩
  have hx0 := (sum_range hs (digs_mem.1 hx).2).1
  rcases Int.lt_trichotomy x.sum m with hlt | heq | hgt
  · have := h3 x.sum hx0 hlt
    rw [addF_find c _ hs] at this
    simp only [List.nil_append, List.map_id', List.find?_eq_none] at this
    have := this x (List.mem_filter.2 ⟨hx, by simp⟩)
    simp [hP] at this
  · exact .inr ⟨by omega, g3 x (List.mem_filter.2 ⟨hx, by simp [heq]⟩) hP⟩
  · exact .inl (by omega)
theorem leastF_none {c : Cu} (k0 : CuOk c) (h : leastF c = none) : ∀ x ∈ digs c.shovels (c.last + 1).toNat, sSureP c x = false := by
  have hs := k0.shovels.1
  intro x hx
  have hb := sum_range hs (digs_mem.1 hx).2
  rw [leastF, List.findSome?_eq_none_iff] at h
  have := h x.sum (mem_rangeI.2 ⟨hb.1, by rw [(digs_mem.1 hx).1] at hb; have e : ((c.last + 1).toNat : Int) = c.last + 1 := by have := k0.last; omega
                                          rw [e] at hb; exact hb.2⟩)
  rw [addF_find c _ hs] at this
  simp only [List.nil_append, List.map_id', List.find?_eq_none] at this
  have := this x (List.mem_filter.2 ⟨hx, by simp⟩)
  simpa using this
/-! the reference's numbers of coal, in order -/
theorem dvN_nat (S n : Nat) : ∀ j, dvN S n j = ((n / S ^ j : Nat) : Int)
  | 0 => by simp [dvN]
  | j + 1 => by rw [dvN, dvN_nat S n j, ← Int.ofNat_tdiv, Nat.div_div_eq_div_mul, Nat.pow_succ]
theorem lowD_add {S k : Nat} (hS : 1 ≤ S) (d j : Nat) : ∀ i, i ≤ k → lowD S ((d * S ^ k + j : Nat) : Int) i = lowD S j i
  | 0, _ => rfl
  | i + 1, h => by
    rw [lowD, lowD, lowD_add hS d j i (by omega), dvN_nat, dvN_nat, ← Int.ofNat_tmod, ← Int.ofNat_tmod]
    congr 2
    have e : d * S ^ k = S ^ i * (S * (d * S ^ (k - i - 1))) := by
      have : S ^ k = S ^ i * S * S ^ (k - i - 1) := by rw [← Nat.pow_succ, ← Nat.pow_add]; congr 1; omega
      rw [this]; ac_rfl
    rw [e, Nat.mul_add_div (Nat.pow_pos hS), Nat.mul_add_mod]
theorem powI_nat (S : Nat) : ∀ n, powI S n = ((S ^ n : Nat) : Int)
  | 0 => rfl
  | n + 1 => by rw [powI, powI_nat S n, Nat.pow_succ, Int.natCast_mul]
theorem sure_whole {c : Cu} (k0 : CuOk c) (hne : sTruth c ≠ []) (coal : List Int) : sSureP c coal = decide (rWholes c (rTruths c) coal c.want = 1) := by
  rw [← wholes_same k0 hne]
  have e : ((sTruth c).map fun s => if (sPast c coal c.want s).kept.any (fun y => decide (false = y)) then (0 : Int) else 1) = (sTruth c).map fun s => if sKept c coal c.want s = true then 1 else 0 := by
    apply List.map_congr_left
    intro s _
    by_cases h : ((sPast c coal c.want s).kept.any fun y => decide (false = y)) = true
    · have h2 : sKept c coal c.want s = false := by rw [sKept, h]; rfl
      rw [if_pos h, h2, if_neg (by simp)]
    · have h2 : sKept c coal c.want s = true := by rw [Bool.not_eq_true] at h; rw [sKept, h]; rfl
      rw [if_neg h, h2, if_pos rfl]
  rw [e, sVerdict_01 _ hne, sSureP]
  cases (sTruth c).all fun s => sKept c coal c.want s with
  | true => rfl
  | false => cases (sTruth c).any fun s => sKept c coal c.want s <;> rfl
theorem sSum_eq {l : List Int} (h : ∀ x ∈ l, 0 ≤ x ∧ x ≤ 3) (hl : l.length ≤ 1000) : sSum l = l.sum := by
  have e : ∀ (m : List Int) (n : Int), 0 ≤ n → (∀ x ∈ m, 0 ≤ x ∧ x ≤ 3) → n + 3 * m.length ≤ 1000000 → m.foldl (fun n x => IntKind.i64.wrap (n + x)) n = n + m.sum := by
    intro m
    induction m with
    | nil => intro n _ _ _; simp
    | cons x m ih =>
      intro n h0 hm hn
      have hx := hm x (by simp)
      rw [List.length_cons] at hn
      rw [List.foldl_cons, i64_in (by omega) (by omega), ih (n + x) (by omega) (fun y hy => hm y (by simp [hy])) (by omega), List.sum_cons]; omega
  rw [sSum, e l 0 (by omega) h (by omega)]; omega
end Go.Vm

set_option linter.unusedVariables false
set_option linter.unusedSimpArgs false
set_option maxRecDepth 100000
namespace Go.Vm
/-! ### fewer promises, more coal -/
theorem sHeat_ge (c : Cu) (s : Sc) (coal want : List Int) (i : Nat) : 0 ≤ sHeat c s coal want i := by simp only [sHeat]; omega
theorem whole_iff {c : Cu} {coal want : List Int} {t : Tr2} : wholeI c coal want t = true ↔ ∀ i : Nat, i < (c.last + 1).toNat → gi want i ≤ (sHeat c (tS t) coal want i).tdiv c.per := by
  simp only [wholeI, List.all_eq_true, List.mem_range, keptI, decide_eq_true_eq]
theorem whole_coal {c : Cu} {coal coal' want : List Int} {t : Tr2} (hp : 1 ≤ c.per) (hh : 0 ≤ t.heat) (hc : ∀ i : Nat, i < (c.last + 1).toNat → 0 ≤ gi coal i ∧ gi coal i ≤ gi coal' i) (h : wholeI c coal want t = true) : wholeI c coal' want t = true := by
  rw [whole_iff] at h ⊢
  intro i hi
  have w : Warm (tS t) (tS t) coal coal' (c.last + 1).toNat := ⟨⟨hh, Int.le_refl _⟩, fun i _ => Int.le_refl _, hc⟩
  have hm := tdiv_mono (sHeat_ge c (tS t) coal want i) (warm_heat w hi (warm_play hp w i (by omega))) hp
  have := h i hi
  omega
theorem wholes_one {c : Cu} {l : List Tr2} {coal want : List Int} (hne : l ≠ []) : rWholes c l coal want = 1 ↔ ∀ t ∈ l, wholeI c coal want t = true := by
  rw [rWholes, rVerdict_count _ hne, ← List.all_eq_true]
  cases l.all fun t => wholeI c coal want t with
  | true => simp
  | false => cases l.any fun t => wholeI c coal want t <;> simp
theorem keeps_one {c : Cu} {l : List Tr2} (hne : l ≠ []) {i : Nat} : rKeeps c l i = 1 ↔ ∀ t ∈ l, keptI c c.coal c.want t i = true := by
  rw [rKeeps, rVerdict_count _ hne, ← List.all_eq_true]
  cases l.all fun t => keptI c c.coal c.want t i with
  | true => simp
  | false => cases l.any fun t => keptI c c.coal c.want t i <;> simp
theorem keeps_whole {c : Cu} {l : List Tr2} (hne : l ≠ []) : rWholes c l c.coal c.want = 1 ↔ ∀ i : Nat, i < (c.last + 1).toNat → rKeeps c l i = 1 := by
  rw [wholes_one hne]
  constructor
  · intro h i hi
    rw [keeps_one hne]
    intro t ht
    have := h t ht
    rw [wholeI, List.all_eq_true] at this
    exact this i (by simpa using hi)
  · intro h t ht
    rw [wholeI, List.all_eq_true]
    intro i hi
    exact (keeps_one hne).1 (h i (by simpa using hi)) t ht
theorem lacks_whole {c : Cu} (A : AskOk c true) (h0 : sAsked c true = 0) : (sLacksA c).2 = if rWholes c (rTruths c) c.coal c.want = 1 then 7 else 0 := by
  have hne : rTruths c ≠ [] := fun e => A.ne ((same_nil A.k0).2 e)
  have hl := A.k0.last
  have hr : sKeepsA c = (nI (c.last + 1) (kpF c), 0) := by rw [sKeepsA, if_pos h0]; rfl
  have e1 : sIdx (fun v => v != 1) (nI (c.last + 1) (kpF c)) < 0 ↔ rWholes c (rTruths c) c.coal c.want = 1 := by
    have := sIdx_any (fun v : Int => v != 1) (nI (c.last + 1) (kpF c))
    rw [keeps_whole hne]
    constructor
    · intro h i hi
      have h2 : ((nI (c.last + 1) (kpF c)).any fun v => v != 1) = false := by rw [← this]; simp; omega
      rw [List.any_eq_false] at h2
      rw [← keeps_same A (i := i) (by omega)]
      have := h2 (kpF c i) (by rw [nI]; exact List.mem_map.2 ⟨i, List.mem_range.2 hi, rfl⟩)
      simpa using this
    · intro h
      have h2 : ((nI (c.last + 1) (kpF c)).any fun v => v != 1) = false := by
        rw [List.any_eq_false]
        intro v hv
        rw [nI] at hv
        obtain ⟨i, hi, rfl⟩ := List.mem_map.1 hv
        have hi := List.mem_range.1 hi
        rw [keeps_same A (i := i) (by omega), h i hi]; simp
      rw [h2] at this
      simpa using this
  rw [sLacksA, hr]
  simp only [if_true]
  by_cases h : rWholes c (rTruths c) c.coal c.want = 1
  · rw [if_pos h, if_pos (e1.2 h)]
  · rw [if_neg h, if_neg (fun x => h (e1.1 x))]
theorem lacks_no {c : Cu} (h0 : sAsked c true ≠ 0) : sLacksA c = (0, sAsked c true) := by
  have hr : sKeepsA c = ([], sAsked c true) := by simp [sKeepsA, h0]
  rw [sLacksA, hr, if_neg h0]
end Go.Vm

set_option linter.unusedVariables false
set_option linter.unusedSimpArgs false
set_option maxRecDepth 100000
namespace Go.Vm
/-! ### no sure coal is less -/
theorem lowD_full (S : Nat) (hS : 1 ≤ S) : ∀ k, lowD S ((S ^ k - 1 : Nat) : Int) k = List.replicate k ((S : Int) - 1)
  | 0 => rfl
  | k + 1 => by
    have hp : 1 ≤ S ^ k := Nat.pow_pos hS
    have e : S ^ (k + 1) - 1 = (S - 1) * S ^ k + (S ^ k - 1) := by
      rw [Nat.pow_succ, Nat.mul_comm, Nat.sub_mul, Nat.one_mul]
      have : 1 * S ^ k ≤ S * S ^ k := Nat.mul_le_mul_right _ hS
      omega
    rw [e, lowD, lowD_add hS (S - 1) (S ^ k - 1) k (Nat.le_refl _), lowD_full S hS k, dvN_nat, ← Int.ofNat_tmod, List.replicate_succ]
    congr 1
    have : ((S - 1) * S ^ k + (S ^ k - 1)) / S ^ k = S - 1 := by
      rw [Nat.mul_comm, Nat.mul_add_div hp, Nat.div_eq_of_lt (by omega)]; rfl
    rw [this, Nat.mod_eq_of_lt (by omega)]; omega
theorem coal_full {c : Cu} (k0 : CuOk c) : rCoal c (rCoals c - 1) = List.replicate (c.last + 1).toNat c.shovels := by
  have hs := k0.shovels
  obtain ⟨S, hS⟩ : ∃ S : Nat, (S : Int) = c.shovels + 1 := ⟨(c.shovels + 1).toNat, by omega⟩
  have hp : 1 ≤ S ^ (c.last + 1).toNat := Nat.pow_pos (by omega)
  have e := lowD_full S (by omega) (c.last + 1).toNat
  rw [rCoal, rCoals, ← hS, powI_nat, show ((S ^ (c.last + 1).toNat : Nat) : Int) - 1 = ((S ^ (c.last + 1).toNat - 1 : Nat) : Int) by omega, e, show (S : Int) - 1 = c.shovels by omega]
theorem is_coal {c : Cu} {l : List Int} : sIsCoal c l = true ↔ (l.length : Int) = c.last + 1 ∧ ∀ x ∈ l, 0 ≤ x ∧ x ≤ c.shovels := by
  simp only [sIsCoal, Bool.and_eq_true, decide_eq_true_eq, List.all_eq_true, sIn]
theorem coal_dig {c : Cu} (k0 : CuOk c) {l : List Int} : sIsCoal c l = true ↔ l ∈ digs c.shovels (c.last + 1).toNat := by
  rw [is_coal, digs_mem]
  have := k0.last
  constructor
  · rintro ⟨h1, h2⟩; exact ⟨by omega, h2⟩
  · rintro ⟨h1, h2⟩; exact ⟨by omega, h2⟩
theorem coal_sum {c : Cu} (k0 : CuOk c) {l : List Int} (h : sIsCoal c l = true) : sSum l = l.sum ∧ l.sum ≤ 15 := by
  obtain ⟨h1, h2⟩ := is_coal.1 h
  have := k0.shovels
  have := k0.last
  have := (sum_le fun x hx => show 0 ≤ x ∧ x ≤ 3 by have := h2 x hx; omega).2
  exact ⟨sSum_eq (fun x hx => by have := h2 x hx; omega) (by omega), by omega⟩
theorem prove_ok {c : Cu} (A : AskOk c true) (h0 : sAsked c true = 0) {coal : List Int} (h : sIsCoal c coal = true) {many : Int} (hm : coal.sum ≤ many) : sProveCoal c coal many = sSureP c coal := by
  simp [sProveCoal, h, h0, (coal_sum A.k0 h).1, hm]
theorem prove_no {c : Cu} (h0 : sAsked c true ≠ 0) (coal : List Int) (many : Int) : sProveCoal c coal many = false := by
  have : sAsked c (sIsCoal c coal) ≠ 0 := by
    intro h
    have : ∀ b, sAsked c b = 0 → sAsked c true = 0 := by
      intro b hb
      unfold sAsked at hb ⊢
      by_cases h1 : sCheck c ≠ 0
      · rw [if_pos h1] at hb; exact absurd hb h1
      · rw [if_neg h1] at hb ⊢
        rw [if_neg (by simp)]
        split at hb
        · cases hb
        · exact hb
    exact h0 (this _ h)
  simp [sProveCoal, this]
theorem asked_11 {c : Cu} (h0 : sCheck c = 0) (hA : sAsked c true ≠ 0) : sAsked c true = 11 := by
  unfold sAsked at hA ⊢
  rw [if_neg (by simp [h0]), if_neg (by simp)] at hA ⊢
  split
  · rfl
  · rename_i h; rw [if_neg h] at hA; exact absurd rfl hA
theorem sure_more {c : Cu} (A : AskOk c true) {a b : List Int} (ha : sIsCoal c a = true) (hb : ∀ i : Nat, i < (c.last + 1).toNat → gi a i ≤ gi b i) (h : sSureP c a = true) : sSureP c b = true := by
  have k0 := A.k0
  have hne : rTruths c ≠ [] := fun e => A.ne ((same_nil A.k0).2 e)
  obtain ⟨a1, a2⟩ := is_coal.1 ha
  rw [sure_whole k0 A.ne, decide_eq_true_eq, wholes_one hne] at h ⊢
  intro t ht
  have T := rTr_ok k0 _ t ht
  refine whole_coal k0.per.1 T.sc.heat.1 (fun i hi => ⟨?_, hb i hi⟩) (h t ht)
  exact (a2 _ (gi_mem (by omega))).1
theorem sure_all {c : Cu} (A : AskOk c true) {a : List Int} (ha : sIsCoal c a = true) (h : sSureP c a = true) : sSureP c (rCoal c (rCoals c - 1)) = true := by
  refine sure_more A ha (fun i hi => ?_) h
  obtain ⟨a1, a2⟩ := is_coal.1 ha
  rw [coal_full A.k0]
  have : gi (List.replicate (c.last + 1).toNat c.shovels) i = c.shovels := by
    simp only [gi, Int.toNat_natCast, List.getD_eq_getElem?_getD, List.getElem?_replicate, hi, if_true, Option.getD]
  rw [this]
  exact (a2 _ (gi_mem (by omega))).2
theorem lBefore_irr : ∀ a : List Int, lBefore a a = false
  | [] => rfl
  | x :: a => by simp only [lBefore, if_true]; exact lBefore_irr a
theorem least_least {c : Cu} (k0 : CuOk c) {l x : List Int} (h : leastF c = some l) (hx : sIsCoal c x = true) (hs : sSureP c x = true) : l.sum < x.sum ∨ (l.sum = x.sum ∧ lBefore x l = false) := by
  rcases (leastF_some k0 h).min x ((coal_dig k0).1 hx) hs with h1 | ⟨h1, h2 | h2⟩
  · exact .inl h1
  · exact .inr ⟨h1, by rw [h2]; exact lBefore_irr x⟩
  · exact .inr ⟨h1, lBefore_asymm h2⟩
theorem own_lacks {c : Cu} (A : AskOk c true) (h0 : sAsked c true = 0) : sProveCoal c c.coal 99 = decide ((sLacksA c).2 = 7) ∧ ((sLacksA c).2 = 7 ∨ (sLacksA c).2 = 0) := by
  have hc : sIsCoal c c.coal = true := is_coal.2 A.k0.coal
  have hs := coal_sum A.k0 hc
  rw [prove_ok A h0 hc (by omega), lacks_whole A h0, sure_whole A.k0 A.ne]
  by_cases h : rWholes c (rTruths c) c.coal c.want = 1
  · simp [h]
  · simp [h]
end Go.Vm

set_option linter.unusedVariables false
set_option linter.unusedSimpArgs false
set_option maxRecDepth 100000
namespace Go.Vm
open Go.Proofs
set_option maxHeartbeats 8000000 in
theorem l_CopperNoLess (c : Cu) (hc : I64 c.last) (which : Int) (ho : 0 ≤ which ∧ which ≤ 65535) : Vm.Fn Try.prog 18 [.agg c.cs, .int .u16 which] [] fun v h' => v = .bool true := by
  refine Fn.body tabOk Try.func18 rfl (Nat.le_of_ble_eq_true rfl) (Ks.ok (fz := (fzn [])) (cl := (cln [(3, .d tg0 [cP, cP, cP, cP, cP, cP, cP, cP, cP, cP, cP, cP, cP, cP]), (7, .d tg0 [cP, cP, cP, cP, cP, cP, cP])])) tabOk mixed ?_)
  generalize hQ : FnPost tt Try.f18 _ _ = Q
  simp only [Try.f18, argsEnv, Nat.reduceAdd]
  simp only [gos, eq_self, Nat.reduceLT, Nat.reduceEqDiff, reduceCtorEq, reduceIte, ↓reduceIte, tt, vgo, vout, vguard, callOf, vop, ev, cv, vload, newRow]
  refine Cl.pu (c_ready c hc) ?_ rfl (by simp only [V.into, intoL, cu_into, Bool.and_true])
  cases hts : sReady c with
  | false =>
    simp only [gos, eq_self, Nat.reduceLT, Nat.reduceEqDiff, reduceIte, ↓reduceIte, vgo, vout, vguard, callOf, vop, ev]
    refine Cl.pu c_awake ?_
    simp only [gos, eq_self, Nat.reduceLT, reduceIte, ↓reduceIte, vgo, vout, vguard, callOf, vop, ev]
    subst hQ
    exact FnPost.plain trivial (v := .bool true) (fun h2 e => by rfl) WkV.refl rfl
  | true =>
  obtain ⟨hth, h0⟩ := ready_ok hts
  have wf := thin_wf hc hth
  have k0 := sCheck_ok h0
  have hC := rCoals_le k0
  have t1 := tmod_le ho.1 hC.1
  have hlast := k0.last
  have hsh := k0.shovels
  have hr1 : 0 ≤ which.tmod (rCoals c) ∧ which.tmod (rCoals c) ≤ 100000 := by omega
  have htr := is_coal.2 (rCoal_ok k0 t1.1)
  have hfu := is_coal.2 (rCoal_ok k0 (n := rCoals c - 1) (by omega))
  have hlt : ((rCoal c (which.tmod (rCoals c))).length : Int) ≤ 1000000 := by have := (is_coal.1 htr).1; omega
  have hlf : ((rCoal c (rCoals c - 1)).length : Int) ≤ 1000000 := by have := (is_coal.1 hfu).1; omega
  have hlo : (c.coal.length : Int) ≤ 1000000 := wf.coal
  have hown := is_coal.2 k0.coal
  have s1 := coal_sum k0 htr
  have s2 := coal_sum k0 hfu
  have hC0 : ¬ rCoals c = 0 := by omega
  simp only [gos, eq_self, Nat.reduceLT, reduceIte, ↓reduceIte, vgo, vout, vguard, callOf, vop, ev]
  refine Wr.draw (by kernel_rfl) ?_
  simp only [gos, eq_self, Nat.reduceLT, Nat.reduceEqDiff, Nat.reduceAdd, reduceCtorEq, reduceIte, ↓reduceIte, tt, vgoD, voutD, vclsOk, vids, mayWrite, V.ids, vguard, callOf, vop, ev, vload, clsAt, i64_in (show -9223372036854775808 ≤ which by omega) (show which ≤ 9223372036854775807 by omega)]
  refine CD.pu (c_rCoals c k0) ?_ rfl (by simp only [V.into, intoL, cu_into, Bool.and_true])
  simp only [gos, eq_self, Nat.reduceLT, Nat.reduceEqDiff, reduceIte, ↓reduceIte, vgoD, voutD, vclsOk, vids, mayWrite, vguard, callOf, vop, ev, vbin, vint, isShift, isNilConst, hC0]
  refine CD.pu (c_rCoal c k0 (which.tmod (rCoals c)) hr1) ?_ rfl (by simp only [V.into, intoL, cu_into, Bool.and_true])
  simp only [gos, eq_self, Nat.reduceLT, Nat.reduceEqDiff, reduceCtorEq, reduceIte, ↓reduceIte, tt, vgoD, voutD, vclsOk, vids, mayWrite, V.ids, vguard, callOf, vop, ev, vload]
  refine CD.pu (c_rCoals c k0) ?_ rfl (by simp only [V.into, intoL, cu_into, Bool.and_true])
  simp only [gos, eq_self, Nat.reduceLT, Nat.reduceEqDiff, reduceIte, ↓reduceIte, vgoD, voutD, vclsOk, vids, mayWrite, vguard, callOf, vop, ev, cv, vbin, vint, isShift, isNilConst, i64_in (show -9223372036854775808 ≤ rCoals c - 1 by omega) (show rCoals c - 1 ≤ 9223372036854775807 by omega)]
  refine CD.pu (c_rCoal c k0 (rCoals c - 1) (by omega)) ?_ rfl (by simp only [V.into, intoL, cu_into, Bool.and_true])
  generalize rCoal c (which.tmod (rCoals c)) = tried at *
  simp only [gos, eq_self, Nat.reduceLT, Nat.reduceEqDiff, reduceCtorEq, reduceIte, ↓reduceIte, tt, vgo, vout, vgoD, voutD, vclsOk, vids, mayWrite, vguard, callOf, vop, ev, vload]
  refine Cl.pu (c_lCopper c wf) ?_ rfl (by simp only [V.into, intoL, cu_into, Bool.and_true])
  simp only [gos, eq_self, Nat.reduceLT, reduceIte, ↓reduceIte, vgo, vout, vguard, callOf, ev]
  refine Cl.pu (c_Least c wf) ?_ rfl (by simp only [V.into, intoL, cu_into, Bool.and_true])
  simp only [gos, eq_self, Nat.reduceLT, Nat.reduceEqDiff, reduceCtorEq, reduceIte, ↓reduceIte, tt, vgo, vout, vguard, callOf, vop, ev, vload]
  refine Cl.pu (c_lCopper c wf) ?_ rfl (by simp only [V.into, intoL, cu_into, Bool.and_true])
  simp only [gos, eq_self, Nat.reduceLT, reduceIte, ↓reduceIte, vgo, vout, vguard, callOf, ev]
  refine Cl.pu (c_Lacks c wf) ?_ rfl (by simp only [V.into, intoL, cu_into, Bool.and_true])
  simp only [gos, eq_self, Nat.reduceLT, Nat.reduceEqDiff, reduceCtorEq, reduceIte, ↓reduceIte, tt, vgo, vout, vguard, callOf, vop, ev, vload]
  refine Cl.pu (c_lCopper c wf) ?_ rfl (by simp only [V.into, intoL, cu_into, Bool.and_true])
  simp only [gos, eq_self, Nat.reduceLT, Nat.reduceEqDiff, reduceIte, ↓reduceIte, vgo, vout, vguard, callOf, vop, ev]
  refine Cl.pu (c_list tried hlt) ?_ rfl (by simp only [intoL, vI_into, Bool.and_true])
  simp only [gos, eq_self, Nat.reduceLT, Nat.reduceEqDiff, reduceIte, ↓reduceIte, vgo, vout, vguard, callOf, ev, cv]
  refine Cl.pu (c_ProveCoal c wf tried hlt 99) ?_ rfl (by simp only [V.into, intoL, vI_into, cu_into, Bool.and_true])
  simp only [gos, eq_self, Nat.reduceLT, Nat.reduceEqDiff, reduceIte, ↓reduceIte, vgo, vout, vguard, callOf, vop, ev]
  refine Wr.draw (by kernel_rfl) ?_
  simp only [gos, eq_self, Nat.reduceLT, Nat.reduceEqDiff, Nat.reduceAdd, reduceCtorEq, reduceIte, ↓reduceIte, tt, vgoD, voutD, vclsOk, vids, mayWrite, V.ids, vguard, callOf, vop, ev, vload, clsAt]
  refine CD.pu (c_lCopper c wf) ?_ rfl (by simp only [V.into, intoL, cu_into, Bool.and_true])
  simp only [gos, eq_self, Nat.reduceLT, Nat.reduceEqDiff, reduceCtorEq, reduceIte, ↓reduceIte, tt, vgoD, voutD, vclsOk, vids, mayWrite, V.ids, vguard, callOf, vop, ev, vload]
  refine CD.pu (c_list c.coal hlo) ?_ rfl (by simp only [intoL, vI_into, Bool.and_true])
  simp only [gos, eq_self, Nat.reduceLT, Nat.reduceEqDiff, reduceIte, ↓reduceIte, vgoD, voutD, vguard, callOf, ev, cv]
  refine CD.pu (c_ProveCoal c wf c.coal hlo 99) ?_ rfl (by simp only [V.into, intoL, vI_into, cu_into, Bool.and_true])
  by_cases hA : sAsked c true = 0
  case neg =>
    have h11 := asked_11 h0 hA
    have e1 : sLeastA c = ([], 11) := by rw [sLeastA, if_neg hA, h11]
    have e2 := lacks_no hA
    rw [e1, e2, h11, prove_no hA, prove_no hA]
    have z1 : decide ((11 : Int) = 7) = false := rfl
    have z2 : ((11 : Int) != 0) = true := rfl
    have z3 : ((11 : Int) != 7) = true := rfl
    have z4 : ((11 : Int) != 11) = false := rfl
    have z5 : ((false : Bool) != false) = false := rfl
    have z6 : decide ((11 : Int) = 10) = false := rfl
    have z7 : decide ((11 : Int) = 11) = true := rfl
    simp only [gos, eq_self, Nat.reduceLT, Nat.reduceEqDiff, reduceIte, ↓reduceIte, tt, vgo, vout, vgoD, voutD, vclsOk, vids, mayWrite, vguard, callOf, vop, ev, cv, vbin, vint, isShift, isNilConst, z1, z2, z3, z6]
    refine Cl.pu c_awake ?_
    simp only [gos, eq_self, Nat.reduceLT, Nat.reduceEqDiff, reduceIte, ↓reduceIte, vgo, vout, vguard, callOf, vop, ev]
    subst hQ
    exact FnPost.plain trivial (v := .bool true) (fun h2 e => by rfl) WkV.refl rfl
  have A := askOk_of hA
  obtain ⟨ol1, ol2⟩ := own_lacks A hA
  have p1 := prove_ok A hA htr (many := 99) (by omega)
  rw [ol1, p1]
  have hbX : (decide ((sLacksA c).2 = 7) != decide ((sLacksA c).2 = 7)) = false := by simp
  have z0 : ((0 : Int) != 0) = false := rfl
  have z0' : decide ((0 : Int) = 0) = true := rfl
  have hf3 : (((sLacksA c).2 != 0) = false) ∨ (((sLacksA c).2 != 0) = true ∧ ((sLacksA c).2 != 7) = false) := by
    rcases ol2 with h | h <;> simp [h]
  have hee : rEach c tried c.shovels = true := htr
  cases hle : leastF c with
  | none =>
    have e1 : sLeastA c = ([], 10) := by rw [sLeastA, if_pos hA, hle]
    have n1 : sSureP c tried = false := leastF_none k0 hle _ ((coal_dig k0).1 htr)
    have n2 : decide ((sLacksA c).2 = 7) = false := by
      rw [← ol1, prove_ok A hA hown (by have := coal_sum k0 hown; omega)]
      exact leastF_none k0 hle _ ((coal_dig k0).1 hown)
    have n3 : (sLacksA c).2 = 0 := by
      rcases ol2 with h | h
      · rw [h] at n2; cases n2
      · exact h
    have y2 : ((10 : Int) != 0) = true := rfl
    have y3 : decide ((10 : Int) = 10) = true := rfl
    have y4 : ((false : Bool) != false) = false := rfl
    have y5 : decide ((0 : Int) = 7) = false := rfl
    rw [e1, n1, n2, n3]
    simp only [gos, eq_self, Nat.reduceLT, Nat.reduceEqDiff, reduceIte, ↓reduceIte, tt, vgo, vout, vgoD, voutD, vclsOk, vids, mayWrite, vguard, callOf, vop, ev, cv, vbin, vint, isShift, isNilConst, y2, y5]
    refine Cl.pu c_awake ?_
    simp only [gos, eq_self, Nat.reduceLT, Nat.reduceEqDiff, reduceIte, ↓reduceIte, vgo, vout, vguard, callOf, vop, ev]
    subst hQ
    exact FnPost.plain trivial (v := .bool true) (fun h2 e => by rfl) WkV.refl rfl
  | some x =>
    have e1 : sLeastA c = (x, 0) := by rw [sLeastA, if_pos hA, hle]
    have X := leastF_some k0 hle
    have hx : sIsCoal c x = true := (coal_dig k0).2 X.mem
    have hxe : rEach c x c.shovels = true := hx
    have sx := coal_sum k0 hx
    obtain ⟨x1, x2⟩ := is_coal.1 hx
    obtain ⟨t3, t4⟩ := is_coal.1 htr
    have hxl : (x.length : Int) ≤ 1000000 := by omega
    have q1 := prove_ok A hA hx (many := x.sum) (Int.le_refl _)
    have q2 := prove_ok A hA hfu (many := 99) (by omega)
    have q3 := sure_all A hx X.is
    rw [X.is] at q1
    rw [q3] at q2
    rw [e1]
    rcases hf3 with g1 | ⟨g1, g2⟩
    case' inl => simp only [gos, eq_self, Nat.reduceLT, Nat.reduceEqDiff, reduceIte, ↓reduceIte, tt, vgo, vout, vgoD, voutD, vclsOk, vids, mayWrite, vguard, callOf, vop, ev, cv, vbin, vint, isShift, isNilConst, g1]
    case' inr => simp only [gos, eq_self, Nat.reduceLT, Nat.reduceEqDiff, reduceIte, ↓reduceIte, tt, vgo, vout, vgoD, voutD, vclsOk, vids, mayWrite, vguard, callOf, vop, ev, cv, vbin, vint, isShift, isNilConst, g1, g2]
    all_goals
      refine Cl.pu (c_rShovels x hxl (fun y hy => by have := x2 y hy; omega)) ?_ rfl (by simp only [intoL, vI_into, Bool.and_true])
      simp only [gos, eq_self, Nat.reduceLT, Nat.reduceEqDiff, reduceIte, ↓reduceIte, vgo, vout, vguard, callOf, vop, ev]
      refine Cl.pu (c_rShovels tried hlt (fun y hy => by have := t4 y hy; omega)) ?_ rfl (by simp only [intoL, vI_into, Bool.and_true])
      simp only [gos, eq_self, Nat.reduceLT, Nat.reduceEqDiff, reduceCtorEq, reduceIte, ↓reduceIte, tt, vgo, vout, vguard, callOf, vop, ev, vload]
      refine Cl.pu (c_rEach c x c.shovels wf.last hxl) ?_ rfl (by simp only [V.into, intoL, vI_into, cu_into, Bool.and_true])
      rw [hxe]
      simp only [gos, eq_self, Nat.reduceLT, Nat.reduceEqDiff, reduceCtorEq, reduceIte, ↓reduceIte, tt, vgo, vout, vguard, callOf, vop, ev, vload]
      refine Cl.pu (c_lCopper c wf) ?_ rfl (by simp only [V.into, intoL, cu_into, Bool.and_true])
      simp only [gos, eq_self, Nat.reduceLT, Nat.reduceEqDiff, reduceIte, ↓reduceIte, vgo, vout, vguard, callOf, vop, ev]
      refine Cl.pu (c_list x hxl) ?_ rfl (by simp only [intoL, vI_into, Bool.and_true])
      simp only [gos, eq_self, Nat.reduceLT, Nat.reduceEqDiff, reduceIte, ↓reduceIte, vgo, vout, vguard, callOf, vop, ev]
      refine Cl.pu (c_ProveCoal c wf x hxl x.sum) ?_ rfl (by simp only [V.into, intoL, vI_into, cu_into, Bool.and_true])
      rw [q1]
      simp only [gos, eq_self, Nat.reduceLT, Nat.reduceEqDiff, reduceCtorEq, reduceIte, ↓reduceIte, tt, vgo, vout, vguard, callOf, vop, ev, vload]
      refine Cl.pu (c_lCopper c wf) ?_ rfl (by simp only [V.into, intoL, cu_into, Bool.and_true])
      simp only [gos, eq_self, Nat.reduceLT, Nat.reduceEqDiff, reduceIte, ↓reduceIte, vgo, vout, vguard, callOf, vop, ev]
      refine Cl.pu (c_list _ hlf) ?_ rfl (by simp only [intoL, vI_into, Bool.and_true])
      simp only [gos, eq_self, Nat.reduceLT, Nat.reduceEqDiff, reduceIte, ↓reduceIte, vgo, vout, vguard, callOf, ev, cv]
      refine Cl.pu (c_ProveCoal c wf _ hlf 99) ?_ rfl (by simp only [V.into, intoL, vI_into, cu_into, Bool.and_true])
      rw [q2]
      cases hst : sSureP c tried with
      | false =>
        simp only [gos, eq_self, Nat.reduceLT, Nat.reduceEqDiff, reduceIte, ↓reduceIte, vgo, vout, vguard, callOf, vop, ev, cv]
        refine Cl.pu c_awake ?_
        simp only [gos, eq_self, Nat.reduceLT, Nat.reduceEqDiff, reduceIte, ↓reduceIte, vgo, vout, vguard, callOf, vop, ev]
        subst hQ
        exact FnPost.plain trivial (v := .bool true) (fun h2 e => by rfl) WkV.refl rfl
      | true =>
        rcases least_least k0 hle htr hst with hlt1 | ⟨heq, hbf⟩
        · simp only [gos, eq_self, Nat.reduceLT, Nat.reduceEqDiff, reduceIte, ↓reduceIte, vgo, vout, vguard, callOf, vop, ev, cv, vbin, vint, isShift, isNilConst, hlt1]
          refine Cl.pu c_awake ?_
          simp only [gos, eq_self, Nat.reduceLT, Nat.reduceEqDiff, reduceIte, ↓reduceIte, vgo, vout, vguard, callOf, vop, ev]
          subst hQ
          exact FnPost.plain trivial (v := .bool true) (fun h2 e => by rfl) WkV.refl rfl
        · have w1 : ¬ x.sum < tried.sum := by omega
          have w2 : decide (tried.sum = x.sum) = true := decide_eq_true heq.symm
          simp only [gos, eq_self, Nat.reduceLT, Nat.reduceEqDiff, reduceIte, ↓reduceIte, vgo, vout, vguard, callOf, vop, ev, vbin, vint, isShift, isNilConst, w1, w2]
          refine Cl.pu (c_rBefore tried x hlt) ?_ rfl (by simp only [intoL, vI_into, Bool.and_true])
          rw [hbf]
          simp only [gos, eq_self, Nat.reduceLT, Nat.reduceEqDiff, reduceIte, ↓reduceIte, vgo, vout, vguard, callOf, vop, ev]
          refine Cl.pu c_awake ?_
          simp only [gos, eq_self, Nat.reduceLT, Nat.reduceEqDiff, reduceIte, ↓reduceIte, vgo, vout, vguard, callOf, vop, ev]
          subst hQ
          exact FnPost.plain trivial (v := .bool true) (fun h2 e => by rfl) WkV.refl rfl
end Go.Vm
