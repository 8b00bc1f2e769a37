import Derived.Test.YtjbgmnpbpmljaaaB3
import Derived.Test.YtjbgmnpbpmljaaaRows
import Derived.WalkKit
import Derived.ProofKit
import Derived.OpenShut
import Derived.ShutString
import Derived.ChangeOld
import Derived.Below
set_option linter.unusedVariables false
set_option linter.unusedSimpArgs false
set_option maxRecDepth 100000
namespace Go.Vm
open Go.Proofs
/-! ### Lacks -/
def sLacksA (c : Cu) : Int × Int :=
  if (sKeepsA c).2 = 0 then (if sIdx (fun v => v != 1) (sKeepsA c).1 < 0 then (0, 7) else (sIdx (fun v => v != 1) (sKeepsA c).1, 0)) else (0, (sKeepsA c).2)
theorem c_Lacks1 (n : Int) : Pu Try.prog (.fn 116 [] []) [vi n] (.bool (n != 1)) := by
  refine Ev.fn Try.func116 rfl rfl (Fn.body tabOk Try.func116 rfl (Nat.le_of_ble_eq_true rfl) (Ks.ok (fz := (fzn [])) (cl := (cln [])) tabOk mixed ?_))
  generalize hQ : FnPost tt Try.f116 _ _ = Q
  simp only [Try.f116, List.nil_append, List.append_nil, argsEnv]
  simp only [gos, eq_self, Nat.reduceLT, reduceCtorEq, reduceIte, ↓reduceIte, vgo, vout, vguard, callOf, vop, ev, cv, vbin, vint, isShift, isNilConst]
  subst hQ
  exact FnPost.plain trivial (fun h2 e => by first | rfl | (simp only [Try.f116, vres, vresL, vres1, e _, gos, if_true, if_false, ne_eq, eq_self, Nat.reduceLT, Nat.reduceEqDiff, Nat.reduceAdd, Nat.reduceMul, Nat.reduceLeDiff, Nat.reduceBEq, reduceCtorEq, reduceIte, Array.toList, ↓reduceIte, tt, vgo, vout, vgoD, voutD, vclsOk, vids, mayWrite, V.ids, V.mids, vguard, callOf, vop, ev, cv, vbin, vint, isShift, isNilConst, vnil, isNilSlice, vload, vlen, newRow, vfill, vslice, entOf, vappend, srcOf, vcopy, vlookup, vupdate, mapOk, keyOf, intsOf, clsAt]; try rfl)) (WkV.pure (by simp only [V.into])) ⟨rfl, rfl⟩
theorem keeps_len (c : Cu) : ((sKeepsA c).1.length : Int) ≤ 1000000 := by
  unfold sKeepsA
  split
  · rename_i h
    have := (askOk_of h).k0.last
    simp only [nI, List.length_map, List.length_range]; omega
  · simp
theorem c_Lacks (c : Cu) (hc : c.wf) : Pu Try.prog (.fn 70 [] []) [.agg c.cs] (.tup [vi (sLacksA c).1, vi (sLacksA c).2]) := by
  refine Ev.fn Try.func70 rfl rfl (Fn.body tabOk Try.func70 rfl (Nat.le_of_ble_eq_true rfl) (Ks.ok (fz := (fzn [])) (cl := (cln [])) tabOk mixed ?_))
  generalize hQ : FnPost tt Try.f70 _ _ = Q
  simp only [Try.f70, List.nil_append, List.append_nil, argsEnv]
  simp only [gos, eq_self, Nat.reduceLT, Nat.reduceEqDiff, reduceCtorEq, reduceIte, ↓reduceIte, tt, vgo, vout, vguard, callOf, vop, ev, cv, vload, newRow]
  refine Cl.pu (c_Keeps c hc) ?_ rfl (by simp only [V.into, intoL, cu_into, Bool.and_true])
  by_cases h0 : (sKeepsA c).2 = 0
  case neg =>
    have hb : ((sKeepsA c).2 != 0) = true := by simp [h0]
    simp only [gos, eq_self, Nat.reduceLT, Nat.reduceEqDiff, reduceIte, ↓reduceIte, vgo, vout, vguard, callOf, vop, ev, cv, vbin, vint, isShift, isNilConst, hb]
    subst hQ
    have hr : sLacksA c = (0, (sKeepsA c).2) := by rw [sLacksA, if_neg h0]
    rw [hr]
    exact FnPost.plain trivial (fun h2 e => by rfl) WkV.refl ⟨rfl, rfl⟩
  have hb : ((sKeepsA c).2 != 0) = false := by simp [h0]
  simp only [gos, eq_self, Nat.reduceLT, Nat.reduceEqDiff, reduceIte, ↓reduceIte, vgo, vout, vguard, callOf, vop, ev, cv, vbin, vint, isShift, isNilConst, hb]
  refine Cl.pu (c_IndexFunc_int _ (fun v => v != 1) (sKeepsA c).1 (keeps_len c) rfl fun x _ => c_Lacks1 x) ?_ rfl (by simp only [V.into, intoL, vI_into, Bool.and_true])
  by_cases hi : sIdx (fun v => v != 1) (sKeepsA c).1 < 0
  · have hd : decide (sIdx (fun v => v != 1) (sKeepsA c).1 < 0) = true := by simp only [hi, decide_true]
    simp only [gos, eq_self, Nat.reduceLT, reduceIte, ↓reduceIte, vgo, vout, vguard, callOf, vop, ev, cv, vbin, vint, isShift, isNilConst, hi]
    subst hQ
    exact FnPost.plain trivial (fun h2 e => by first | rfl | (simp only [Try.f70, vres, vresL, vres1, e _, gos, if_true, if_false, ne_eq, eq_self, Nat.reduceLT, Nat.reduceEqDiff, Nat.reduceAdd, Nat.reduceMul, Nat.reduceLeDiff, Nat.reduceBEq, reduceCtorEq, reduceIte, Array.toList, ↓reduceIte, tt, vgo, vout, vgoD, voutD, vclsOk, vids, mayWrite, V.ids, V.mids, vguard, callOf, vop, ev, cv, vbin, vint, isShift, isNilConst, vnil, isNilSlice, vload, vlen, newRow, vfill, vslice, entOf, vappend, srcOf, vcopy, vlookup, vupdate, mapOk, keyOf, intsOf, clsAt]; try rfl)) (WkV.pure (by simp only [V.into, intoL, Bool.and_true])) ⟨by rw [sLacksA, if_pos h0, if_pos hi], rfl⟩
  · simp only [gos, eq_self, Nat.reduceLT, Nat.reduceEqDiff, reduceIte, ↓reduceIte, vgo, vout, vguard, callOf, vop, ev, cv, vbin, vint, isShift, isNilConst, hi]
    subst hQ
    exact FnPost.plain trivial (fun h2 e => by first | rfl | (simp only [Try.f70, vres, vresL, vres1, e _, gos, if_true, if_false, ne_eq, eq_self, Nat.reduceLT, Nat.reduceEqDiff, Nat.reduceAdd, Nat.reduceMul, Nat.reduceLeDiff, Nat.reduceBEq, reduceCtorEq, reduceIte, Array.toList, ↓reduceIte, tt, vgo, vout, vgoD, voutD, vclsOk, vids, mayWrite, V.ids, V.mids, vguard, callOf, vop, ev, cv, vbin, vint, isShift, isNilConst, vnil, isNilSlice, vload, vlen, newRow, vfill, vslice, entOf, vappend, srcOf, vcopy, vlookup, vupdate, mapOk, keyOf, intsOf, clsAt]; try rfl)) (WkV.pure (by simp only [V.into, intoL, Bool.and_true])) ⟨by rw [sLacksA, if_pos h0, if_neg hi], rfl⟩
end Go.Vm

set_option linter.unusedVariables false
set_option linter.unusedSimpArgs false
set_option maxRecDepth 100000
namespace Go.Vm
open Go.Proofs Go.ChangeShapes Go.WideShapes Go.ChangeAt Go.RowKit
/-! ### from a contract to the row -/
theorem hrel0 (w : World) : HRel (gh0 w) [] w :=
  ⟨fun B o v e => e, fun i e he => (by cases he), fun i j e e' B c c' he => (by cases he), fun i e B c o he => (by cases he), fun i v h => absurd rfl h⟩
theorem calls_of_fn {P : Program} {f : FuncId} {vs : List V} {xs : List Value} {w : World} (c : Fn P f vs [] fun v h' => v = .bool true) (hv : VRL (gh0 w) vs xs) :
    Calls P f xs.toArray w fun e w' => e = .returned (.bool true) ∧ Below w.heap.size w w' := fun cs => by
  obtain ⟨v, h', vc, g', w', fr, rfl, st, hf, hl, hvc, H', t, le⟩ := c (gh0 w) w xs hv (hrel0 w) cs
  simp only [VR] at hvc
  subst hvc
  exact ⟨.returned (.bool true), w', fr, ⟨rfl, t.os, t.tape, t.output, t.size, fun k hk => t.mods k hk (by rintro ⟨i, e, c, he, _⟩; cases he)⟩, st, hf, hl⟩
section
variable {H : Type} {enc : TypeId × Value → H} {P : Program} {w : World} {base : Nat} {spare : Nat → Bool} {held : Bool} {fuel : Nat} {t : TypeId} {cs : List Value} {x : DataW H × List MemPlace}
end
section
variable {H : Type} {enc : TypeId × Value → H} {w : World} {base : Nat} {spare : Nat → Bool} {held : Bool} {fuel : Nat} {cs : List Value} {x : DataW H × List MemPlace}
theorem rd_rg (h : DataW.trod enc Try.prog w base spare held fuel 24 cs = some x) : ∃ r : Rg, r.ok ∧ VRL (gh0 w) r.cs cs := by
  obtain ⟨xs, n, _, _, hl, hx, hf⟩ := DataW.trod_struct Try.underlying24 h
  have hl2 : cs.length = 2 := hl.trans (by kernel_rfl)
  have hx2 : xs.length = 2 := hx
  have f0 : DataW.trod enc Try.prog w base spare held n 3 ((cs.drop 0).take (Try.prog.cellsOf 3)) = xs[0]? := hf 0 _ rfl
  have f1 : DataW.trod enc Try.prog w base spare held n 3 ((cs.drop 1).take (Try.prog.cellsOf 3)) = xs[1]? := hf 1 _ rfl
  rw [List.getElem?_eq_getElem (by omega)] at f0 f1
  obtain ⟨a, ha, va⟩ := rd_int Try.underlying3 f0
  obtain ⟨b, hb, vb⟩ := rd_int Try.underlying3 f1
  refine ⟨⟨a, b⟩, ⟨ha, hb⟩, ?_⟩
  have hc : Try.prog.cellsOf 3 = 1 := by kernel_rfl
  simp only [hc, List.drop_zero] at va vb
  rw [List.take_of_length_le (by simp; omega)] at vb
  exact VRL_two va vb
theorem rd_rd (h : DataW.trod enc Try.prog w base spare held fuel 96 cs = some x) : ∃ r : Rd, r.ok ∧ VRL (gh0 w) r.cs cs := by
  obtain ⟨xs, n, _, _, hl, hx, hf⟩ := DataW.trod_struct Try.underlying96 h
  have hl2 : cs.length = 3 := hl.trans (by kernel_rfl)
  have hx2 : xs.length = 2 := hx
  have f0 : DataW.trod enc Try.prog w base spare held n 3 ((cs.drop 0).take (Try.prog.cellsOf 3)) = xs[0]? := hf 0 _ rfl
  have f1 : DataW.trod enc Try.prog w base spare held n 24 ((cs.drop 1).take (Try.prog.cellsOf 24)) = xs[1]? := hf 1 _ rfl
  rw [List.getElem?_eq_getElem (by omega)] at f0 f1
  obtain ⟨a, ha, va⟩ := rd_int Try.underlying3 f0
  obtain ⟨b, hb, vb⟩ := rd_rg f1
  refine ⟨⟨a, b⟩, ⟨ha, hb⟩, ?_⟩
  have hc : Try.prog.cellsOf 3 = 1 := by kernel_rfl
  have hc2 : Try.prog.cellsOf 24 = 2 := by kernel_rfl
  simp only [hc, hc2, List.drop_zero] at va vb
  rw [List.take_of_length_le (by simp; omega)] at vb
  exact VRL_two va vb
theorem cR_flat : ∀ l : List Rg, l.flatMap Rg.cs = cR l
  | [] => rfl
  | r :: l => by rw [List.flatMap_cons, cR_flat l]; rfl
theorem cD_flat : ∀ l : List Rd, l.flatMap Rd.cs = cD l
  | [] => rfl
  | r :: l => by rw [List.flatMap_cons, cD_flat l]; rfl
theorem rd_cu (h : DataW.trod enc Try.prog w base spare held fuel 28 cs = some x) : ∃ c : Cu, c.ok ∧ VRL (gh0 w) c.cs cs := by
  obtain ⟨xs, n, _, _, hl, hx, hf⟩ := DataW.trod_struct Try.underlying28 h
  have hl2 : cs.length = 11 := hl.trans (by kernel_rfl)
  have hx2 : xs.length = 10 := hx
  have f0 : DataW.trod enc Try.prog w base spare held n 3 ((cs.drop 0).take (Try.prog.cellsOf 3)) = xs[0]? := hf 0 _ rfl
  have f1 : DataW.trod enc Try.prog w base spare held n 3 ((cs.drop 1).take (Try.prog.cellsOf 3)) = xs[1]? := hf 1 _ rfl
  have f2 : DataW.trod enc Try.prog w base spare held n 3 ((cs.drop 2).take (Try.prog.cellsOf 3)) = xs[2]? := hf 2 _ rfl
  have f3 : DataW.trod enc Try.prog w base spare held n 3 ((cs.drop 3).take (Try.prog.cellsOf 3)) = xs[3]? := hf 3 _ rfl
  have f4 : DataW.trod enc Try.prog w base spare held n 3 ((cs.drop 4).take (Try.prog.cellsOf 3)) = xs[4]? := hf 4 _ rfl
  have f5 : DataW.trod enc Try.prog w base spare held n 22 ((cs.drop 5).take (Try.prog.cellsOf 22)) = xs[5]? := hf 5 _ rfl
  have f6 : DataW.trod enc Try.prog w base spare held n 22 ((cs.drop 6).take (Try.prog.cellsOf 22)) = xs[6]? := hf 6 _ rfl
  have f7 : DataW.trod enc Try.prog w base spare held n 24 ((cs.drop 7).take (Try.prog.cellsOf 24)) = xs[7]? := hf 7 _ rfl
  have f8 : DataW.trod enc Try.prog w base spare held n 25 ((cs.drop 9).take (Try.prog.cellsOf 25)) = xs[8]? := hf 8 _ rfl
  have f9 : DataW.trod enc Try.prog w base spare held n 26 ((cs.drop 10).take (Try.prog.cellsOf 26)) = xs[9]? := hf 9 _ rfl
  rw [List.getElem?_eq_getElem (by omega)] at f0 f1 f2 f3 f4 f5 f6 f7 f8 f9
  have hc : Try.prog.cellsOf 3 = 1 := by kernel_rfl
  have hc2 : Try.prog.cellsOf 24 = 2 := by kernel_rfl
  have hc3 : Try.prog.cellsOf 22 = 1 := by kernel_rfl
  have hc4 : Try.prog.cellsOf 25 = 1 := by kernel_rfl
  have hc5 : Try.prog.cellsOf 26 = 1 := by kernel_rfl
  have hc6 : Try.prog.cellsOf 96 = 3 := by kernel_rfl
  obtain ⟨a0, h0, v0⟩ := rd_int Try.underlying3 f0
  obtain ⟨a1, h1, v1⟩ := rd_int Try.underlying3 f1
  obtain ⟨a2, h2, v2⟩ := rd_int Try.underlying3 f2
  obtain ⟨a3, h3, v3⟩ := rd_int Try.underlying3 f3
  obtain ⟨a4, h4, v4⟩ := rd_int Try.underlying3 f4
  obtain ⟨a5, h5, _, v5⟩ := rd_ints Try.underlying22 Try.underlying3 hc f5
  obtain ⟨a6, h6, _, v6⟩ := rd_ints Try.underlying22 Try.underlying3 hc f6
  obtain ⟨a7, h7, v7⟩ := rd_rg f7
  obtain ⟨a8, h8, _, v8⟩ := rd_slice Rg.cs Rg.ok 2 Try.underlying25 hc2 (by omega) (fun _ => rfl) f8 fun n cs x h => rd_rg h
  obtain ⟨a9, h9, _, v9⟩ := rd_slice Rd.cs Rd.ok 3 Try.underlying26 hc6 (by omega) (fun _ => rfl) f9 fun n cs x h => rd_rd h
  rw [cR_flat] at v8
  rw [cD_flat] at v9
  refine ⟨⟨a0, a1, a2, a3, a4, a5, a6, a7, a8, a9⟩, ⟨h0, h1, h2, h3, h4, h5, h6, h7, h8, h9⟩, ?_⟩
  match cs, hl2 with
  | [c0, c1, c2, c3, c4, c5, c6, c7, c8, c9, c10], _ =>
    simp only [hc, hc2, hc3, hc4, hc5, List.drop_zero, List.drop_succ_cons, List.take_succ_cons, List.take_zero, List.take_nil] at v0 v1 v2 v3 v4 v5 v6 v7 v8 v9
    exact VRL.append v0 (VRL.append v1 (VRL.append v2 (VRL.append v3 (VRL.append v4 (VRL.append v5 (VRL.append v6 (VRL.append v7 (VRL.append v8 v9))))))))
end
end Go.Vm

set_option linter.unusedVariables false
set_option linter.unusedSimpArgs false
set_option maxRecDepth 100000
namespace Go.Vm
open Go.Proofs
/-! ### the reference: bounds and verdicts -/
def hotI (c : Cu) (t : Tr2) (i : Nat) : Int := (sHeat c (tS t) c.coal c.want i).tdiv c.per
def leftI (c : Cu) (t : Tr2) (i : Nat) : Int := (sPlay c (tS t) c.coal c.want (i + 1)).1
end Go.Vm

set_option linter.unusedVariables false
set_option linter.unusedSimpArgs false
set_option maxRecDepth 100000
namespace Go.Vm
open Go.Proofs
/-! ### coal by a number -/
/-! ### words -/
theorem cW16_at {l : List Int} {i : Nat} (h : (i : Int) < l.length) : List.drop i (cW16 l) = .int .u16 (gi l i) :: cW16 (l.drop (i + 1)) := by
  have hi : i < l.length := by omega
  rw [cW16, ← List.map_drop, List.drop_eq_getElem_cons hi, List.map_cons, gi, Int.toNat_natCast, List.getD_eq_getElem?_getD, List.getElem?_eq_getElem hi]; rfl
def sWord (l : List Int) (a : Nat) : Int := if l = [] then 0 else gi l ((a % l.length : Nat) : Int)
theorem sWord_le {l : List Int} (h : ∀ x ∈ l, 0 ≤ x ∧ x ≤ 65535) (a : Nat) : 0 ≤ sWord l a ∧ sWord l a ≤ 65535 := by
  rw [sWord]; split
  · omega
  · rename_i hn
    exact h _ (gi_mem (Nat.mod_lt _ (List.length_pos_iff.2 hn)))
theorem c_word (l : List Int) (h : ∀ x ∈ l, 0 ≤ x ∧ x ≤ 65535) (a : Nat) : Pu Try.prog (.fn 52 [] []) [vW l, vi a] (vi (sWord l a)) := by
  refine Ev.fn Try.func52 rfl rfl (Fn.body tabOk Try.func52 rfl (Nat.le_of_ble_eq_true rfl) (Ks.ok (fz := (fzn [])) (cl := (cln [])) tabOk mixed ?_))
  generalize hQ : FnPost tt Try.f52 _ _ = Q
  simp only [Try.f52, List.nil_append, List.append_nil, argsEnv, Nat.reduceAdd]
  by_cases hn : l = []
  · have z0 : decide (((l.length : Nat) : Int) = 0) = true := by simp [hn]
    simp only [gos, eq_self, Nat.reduceLT, reduceCtorEq, reduceIte, ↓reduceIte, tt, vgo, vout, vguard, callOf, vop, ev, cv, vbin, vint, isShift, isNilConst, vlen, vW, z0]
    subst hQ
    exact FnPost.plain trivial (fun h2 e => by first | rfl | (simp only [Try.f52, vres, vresL, vres1, e _, gos, if_true, if_false, ne_eq, eq_self, Nat.reduceLT, Nat.reduceEqDiff, Nat.reduceAdd, Nat.reduceMul, Nat.reduceLeDiff, Nat.reduceBEq, reduceCtorEq, reduceIte, Array.toList, ↓reduceIte, tt, vgo, vout, vgoD, voutD, vclsOk, vids, mayWrite, V.ids, V.mids, vguard, callOf, vop, ev, cv, vbin, vint, isShift, isNilConst, vnil, isNilSlice, vload, vlen, newRow, vfill, vslice, entOf, vappend, srcOf, vcopy, vlookup, vupdate, mapOk, keyOf, intsOf, clsAt]; try rfl)) (WkV.pure (by simp only [V.into])) ⟨by simp [sWord, hn], rfl⟩
  have hp := List.length_pos_iff.2 hn
  have z0 : decide (((l.length : Nat) : Int) = 0) = false := by simp [hn]
  have z1 : ¬ ((l.length : Nat) : Int) = 0 := by omega
  have hm : (a : Int).tmod (l.length : Int) = ((a % l.length : Nat) : Int) := by rw [Int.tmod_eq_emod_of_nonneg (by omega)]; rfl
  have hlt : ((a % l.length : Nat) : Int) < l.length := by have := Nat.mod_lt a hp; omega
  have hw := h _ (gi_mem (l := l) (i := a % l.length) (Nat.mod_lt _ hp))
  have e1 := cW16_at hlt
  have e2 : (((a % l.length : Nat) : Int)).toNat = a % l.length := Int.toNat_natCast _
  have e3 : 0 ≤ ((a % l.length : Nat) : Int) := Int.natCast_nonneg _
  simp only [gos, eq_self, Nat.reduceLT, Nat.reduceEqDiff, reduceCtorEq, reduceIte, ↓reduceIte, tt, vgo, vout, vguard, callOf, vop, ev, cv, vbin, vint, isShift, isNilConst, vload, vlen, vW, z1, hm, e2, e3, hlt, Nat.mul_one, e1, i64_in (show -9223372036854775808 ≤ gi l ((a % l.length : Nat) : Int) by omega) (show gi l ((a % l.length : Nat) : Int) ≤ 9223372036854775807 by omega)]
  subst hQ
  exact FnPost.plain trivial (fun h2 e => by first | rfl | (simp only [Try.f52, vres, vresL, vres1, e _, gos, if_true, if_false, ne_eq, eq_self, Nat.reduceLT, Nat.reduceEqDiff, Nat.reduceAdd, Nat.reduceMul, Nat.reduceLeDiff, Nat.reduceBEq, reduceCtorEq, reduceIte, Array.toList, ↓reduceIte, tt, vgo, vout, vgoD, voutD, vclsOk, vids, mayWrite, V.ids, V.mids, vguard, callOf, vop, ev, cv, vbin, vint, isShift, isNilConst, vnil, isNilSlice, vload, vlen, newRow, vfill, vslice, entOf, vappend, srcOf, vcopy, vlookup, vupdate, mapOk, keyOf, intsOf, clsAt]; try rfl)) (WkV.pure (by simp only [V.into])) ⟨by simp only [sWord, if_neg hn], rfl⟩
end Go.Vm

set_option linter.unusedVariables false
set_option linter.unusedSimpArgs false
set_option maxRecDepth 100000
namespace Go.Vm
/-! ### lists that are changed in some places -/
theorem cW16_into (p : Nat → Bool) : ∀ l : List Int, intoL p (cW16 l) = true
  | [] => rfl
  | x :: l => by simp only [cW16, List.map_cons, intoL, V.into, Bool.true_and]; exact cW16_into p l
theorem vW_into (p : Nat → Bool) (l : List Int) : (vW l).into p = true := by simp only [vW, V.into]; exact cW16_into p l
end Go.Vm

set_option linter.unusedVariables false
set_option linter.unusedSimpArgs false
set_option maxRecDepth 100000
namespace Go.Vm
open Go.Proofs
/-! ### sets of readings, by bits -/
/-! ### before, shorter -/
def lBefore : List Int → List Int → Bool
  | [], b => decide (0 < b.length)
  | _ :: _, [] => false
  | x :: a, y :: b => if x = y then lBefore a b else decide (x < y)
end Go.Vm

set_option linter.unusedVariables false
set_option linter.unusedSimpArgs false
set_option maxRecDepth 100000
namespace Go.Vm
/-! ### the least coal: the program's search and the reference's are the same -/
def digs (s : Int) : Nat → List (List Int)
  | 0 => [[]]
  | k + 1 => (rangeI 0 s).flatMap fun n => (digs s k).map (n :: ·)
theorem lBefore_asymm : ∀ {a b : List Int}, lBefore a b = true → lBefore b a = false
  | [], [], h => by simp [lBefore] at h
  | [], _ :: _, _ => rfl
  | _ :: _, [], h => by simp [lBefore] at h
  | x :: a, y :: b, h => by
    simp only [lBefore] at h ⊢
    by_cases e : x = y
    · rw [if_pos e] at h; rw [if_pos e.symm]; exact lBefore_asymm h
    · rw [if_neg e] at h; rw [if_neg (Ne.symm e)]; simp at h ⊢; omega
structure IsLeast (s : Int) (k : Nat) (P : List Int → Bool) (l : List Int) : Prop where
  mem : l ∈ digs s k
  is : P l = true
  min : ∀ x ∈ digs s k, P x = true → l.sum < x.sum ∨ (l.sum = x.sum ∧ (l = x ∨ lBefore l x = true))
theorem IsLeast.one {s : Int} {k : Nat} {P : List Int → Bool} {a b : List Int} (ha : IsLeast s k P a) (hb : IsLeast s k P b) : a = b := by
  rcases ha.min b hb.mem hb.is with h | ⟨h, e | e⟩
  · rcases hb.min a ha.mem ha.is with h2 | ⟨h2, _⟩ <;> omega
  · exact e
  · rcases hb.min a ha.mem ha.is with h2 | ⟨h2, e2 | e2⟩
    · omega
    · exact e2.symm
    · rw [lBefore_asymm e] at e2; simp at e2
/-! the reference's numbers of coal, in order -/
end Go.Vm

set_option linter.unusedVariables false
set_option linter.unusedSimpArgs false
set_option maxRecDepth 100000
namespace Go.Vm
/-! ### fewer promises, more coal -/
theorem heat_le {c : Cu} {s : Sc} {coal want want' : List Int} {i : Nat} (h : (sPlay c s coal want' i).1 ≤ (sPlay c s coal want i).1) : sHeat c s coal want' i ≤ sHeat c s coal want i := by
  simp only [sHeat]; omega
theorem sHeat_ge (c : Cu) (s : Sc) (coal want : List Int) (i : Nat) : 0 ≤ sHeat c s coal want i := by simp only [sHeat]; omega
theorem want_play {c : Cu} {s : Sc} {coal want want' : List Int} {n : Nat} (hp : 1 ≤ c.per) (hw : ∀ i : Nat, i < n → 0 ≤ gi want i ∧ gi want i ≤ gi want' i) (hk : ∀ i : Nat, i < n → gi want' i ≤ (sHeat c s coal want' i).tdiv c.per) : ∀ i, i ≤ n → (sPlay c s coal want' i).1 ≤ (sPlay c s coal want i).1
  | 0, _ => Int.le_refl _
  | i + 1, hi => by
    have ih := heat_le (want_play hp hw hk i (by omega))
    have hm := tdiv_mono (sHeat_ge c s coal want' i) ih hp
    have h1 := hw i (by omega)
    have h2 := hk i (by omega)
    rw [sPlay_heat, sPlay_heat, if_pos h2, if_pos (by omega)]
    have := Int.mul_le_mul_of_nonneg_right h1.2 (show 0 ≤ c.per by omega)
    omega
theorem whole_iff {c : Cu} {coal want : List Int} {t : Tr2} : wholeI c coal want t = true ↔ ∀ i : Nat, i < (c.last + 1).toNat → gi want i ≤ (sHeat c (tS t) coal want i).tdiv c.per := by
  simp only [wholeI, List.all_eq_true, List.mem_range, keptI, decide_eq_true_eq]
theorem whole_want {c : Cu} {coal want want' : List Int} {t : Tr2} (hp : 1 ≤ c.per) (hw : ∀ i : Nat, i < (c.last + 1).toNat → 0 ≤ gi want i ∧ gi want i ≤ gi want' i) (h : wholeI c coal want' t = true) : wholeI c coal want t = true := by
  rw [whole_iff] at h ⊢
  intro i hi
  have hm := tdiv_mono (sHeat_ge c (tS t) coal want' i) (heat_le (want_play hp hw h i (by omega))) hp
  have := hw i hi
  have := h i hi
  omega
theorem wholes_one {c : Cu} {l : List Tr2} {coal want : List Int} (hne : l ≠ []) : rWholes c l coal want = 1 ↔ ∀ t ∈ l, wholeI c coal want t = true := by
  rw [rWholes, rVerdict_count _ hne, ← List.all_eq_true]
  cases l.all fun t => wholeI c coal want t with
  | true => simp
  | false => cases l.any fun t => wholeI c coal want t <;> simp
theorem wholes_two {c : Cu} {l : List Tr2} {coal want : List Int} (hne : l ≠ []) : rWholes c l coal want = 2 ↔ ∀ t ∈ l, wholeI c coal want t = false := by
  have e : (∀ t ∈ l, wholeI c coal want t = false) ↔ l.any (fun t => wholeI c coal want t) = false := by
    rw [List.any_eq_false]
    exact ⟨fun h t ht => by simp [h t ht], fun h t ht => by simpa using h t ht⟩
  rw [rWholes, rVerdict_count _ hne, e]
  by_cases h1 : (l.all fun t => wholeI c coal want t) = true
  · obtain ⟨x, hx⟩ := List.exists_mem_of_ne_nil _ hne
    have h2 : (l.any fun t => wholeI c coal want t) = true := List.any_eq_true.2 ⟨x, hx, List.all_eq_true.1 h1 x hx⟩
    simp [h1, h2]
  · rw [Bool.not_eq_true] at h1
    rw [h1]
    cases l.any fun t => wholeI c coal want t <;> simp
theorem wholes_in (c : Cu) (l : List Tr2) (coal want : List Int) : 1 ≤ rWholes c l coal want ∧ rWholes c l coal want ≤ 3 := by
  simp only [rWholes, rVerdict]
  split
  · omega
  · split <;> omega
theorem keeps_one {c : Cu} {l : List Tr2} (hne : l ≠ []) {i : Nat} : rKeeps c l i = 1 ↔ ∀ t ∈ l, keptI c c.coal c.want t i = true := by
  rw [rKeeps, rVerdict_count _ hne, ← List.all_eq_true]
  cases l.all fun t => keptI c c.coal c.want t i with
  | true => simp
  | false => cases l.any fun t => keptI c c.coal c.want t i <;> simp
theorem keeps_whole {c : Cu} {l : List Tr2} (hne : l ≠ []) : rWholes c l c.coal c.want = 1 ↔ ∀ i : Nat, i < (c.last + 1).toNat → rKeeps c l i = 1 := by
  rw [wholes_one hne]
  constructor
  · intro h i hi
    rw [keeps_one hne]
    intro t ht
    have := h t ht
    rw [wholeI, List.all_eq_true] at this
    exact this i (by simpa using hi)
  · intro h t ht
    rw [wholeI, List.all_eq_true]
    intro i hi
    exact (keeps_one hne).1 (h i (by simpa using hi)) t ht
theorem lacks_whole {c : Cu} (A : AskOk c true) (h0 : sAsked c true = 0) : (sLacksA c).2 = if rWholes c (rTruths c) c.coal c.want = 1 then 7 else 0 := by
  have hne : rTruths c ≠ [] := fun e => A.ne ((same_nil A.k0).2 e)
  have hl := A.k0.last
  have hr : sKeepsA c = (nI (c.last + 1) (kpF c), 0) := by rw [sKeepsA, if_pos h0]; rfl
  have e1 : sIdx (fun v => v != 1) (nI (c.last + 1) (kpF c)) < 0 ↔ rWholes c (rTruths c) c.coal c.want = 1 := by
    have := sIdx_any (fun v : Int => v != 1) (nI (c.last + 1) (kpF c))
    rw [keeps_whole hne]
    constructor
    · intro h i hi
      have h2 : ((nI (c.last + 1) (kpF c)).any fun v => v != 1) = false := by rw [← this]; simp; omega
      rw [List.any_eq_false] at h2
      rw [← keeps_same A (i := i) (by omega)]
      have := h2 (kpF c i) (by rw [nI]; exact List.mem_map.2 ⟨i, List.mem_range.2 hi, rfl⟩)
      simpa using this
    · intro h
      have h2 : ((nI (c.last + 1) (kpF c)).any fun v => v != 1) = false := by
        rw [List.any_eq_false]
        intro v hv
        rw [nI] at hv
        obtain ⟨i, hi, rfl⟩ := List.mem_map.1 hv
        have hi := List.mem_range.1 hi
        rw [keeps_same A (i := i) (by omega), h i hi]; simp
      rw [h2] at this
      simpa using this
  rw [sLacksA, hr]
  simp only [if_true]
  by_cases h : rWholes c (rTruths c) c.coal c.want = 1
  · rw [if_pos h, if_pos (e1.2 h)]
  · rw [if_neg h, if_neg (fun x => h (e1.1 x))]
theorem lacks_no {c : Cu} (h0 : sAsked c true ≠ 0) : sLacksA c = (0, sAsked c true) := by
  have hr : sKeepsA c = ([], sAsked c true) := by simp [sKeepsA, h0]
  rw [sLacksA, hr, if_neg h0]
end Go.Vm

set_option linter.unusedVariables false
set_option linter.unusedSimpArgs false
set_option maxRecDepth 100000
namespace Go.Vm
/-! ### no sure coal is less -/
theorem asked_11 {c : Cu} (h0 : sCheck c = 0) (hA : sAsked c true ≠ 0) : sAsked c true = 11 := by
  unfold sAsked at hA ⊢
  rw [if_neg (by simp [h0]), if_neg (by simp)] at hA ⊢
  split
  · rfl
  · rename_i h; rw [if_neg h] at hA; exact absurd rfl hA
end Go.Vm

set_option linter.unusedVariables false
set_option linter.unusedSimpArgs false
set_option maxRecDepth 100000
namespace Go.Vm
/-! ### fewer truths -/
/-- The same hours, coal and promises; each truth of x is one of c. -/
structure SubT (x c : Cu) : Prop where
  last : x.last = c.last
  start : x.start = c.start
  most : x.most = c.most
  per : x.per = c.per
  coal : x.coal = c.coal
  want : x.want = c.want
  sub : ∀ t ∈ rTruths x, t ∈ rTruths c
theorem SubT.heat {x c : Cu} (S : SubT x c) (t : Tr2) (coal want : List Int) (i : Nat) : sHeat x (tS t) coal want i = sHeat c (tS t) coal want i := sHeat_cu c x S.start S.most S.per _ _ _ _
theorem SubT.kept {x c : Cu} (S : SubT x c) (coal want : List Int) (t : Tr2) (i : Nat) : keptI x coal want t i = keptI c coal want t i := by
  simp only [keptI, S.heat, S.per]
theorem SubT.whole {x c : Cu} (S : SubT x c) (coal want : List Int) (t : Tr2) : wholeI x coal want t = wholeI c coal want t := by
  simp only [wholeI, S.kept, S.last]
theorem SubT.hot {x c : Cu} (S : SubT x c) (t : Tr2) (i : Nat) : hotI x t i = hotI c t i := by
  simp only [hotI, S.coal, S.want, S.heat, S.per]
theorem SubT.left {x c : Cu} (S : SubT x c) (t : Tr2) (i : Nat) : leftI x t i = leftI c t i := by
  simp only [leftI, S.coal, S.want, sPlay_cu c x S.start S.most S.per]
theorem SubT.wholes {x c : Cu} (S : SubT x c) (hne : rTruths x ≠ []) {coal want : List Int} (h : rWholes c (rTruths c) coal want = 1) : rWholes x (rTruths x) coal want = 1 := by
  have hnc : rTruths c ≠ [] := fun e => by
    obtain ⟨y, hy⟩ := List.exists_mem_of_ne_nil _ hne
    have := S.sub y hy
    rw [e] at this; simp at this
  rw [wholes_one hnc] at h
  rw [wholes_one hne]
  intro t ht
  rw [S.whole]
  exact h t (S.sub t ht)
/-- What Spare returns. -/
theorem spare_some {c : Cu} {hour : Int} (h : sIn hour 0 c.last = true) (h0 : sAsked c true = 0) : (∃ s : Int, sSpareA c hour = (s, 0) ∧ 0 ≤ s ∧ s ≤ 20 ∧ sWith c (sTruth c) (moreAt c hour s) = 1 ∧ ∀ m, s < m → m ≤ 20 → sWith c (sTruth c) (moreAt c hour m) ≠ 1) ∨ (sSpareA c hour = (0, 10) ∧ ∀ m, 0 ≤ m → m ≤ 20 → sWith c (sTruth c) (moreAt c hour m) ≠ 1) := by
  unfold sSpareA
  rw [h, if_pos h0]
  cases hf : (List.range 21).find? fun (j : Nat) => decide (sWith c (sTruth c) (moreAt c hour (20 - j)) = 1) with
  | some j =>
    rw [List.find?_eq_some_iff_getElem] at hf
    obtain ⟨h1, i, hi, h2, h3⟩ := hf
    simp only [List.length_range] at hi
    simp only [List.getElem_range] at h2 h3
    subst h2
    refine .inl ⟨20 - (i : Int), rfl, by omega, by omega, by simpa using h1, fun m hm hm2 => ?_⟩
    have := h3 (20 - m).toNat (by omega)
    rw [show (20 : Int) - ((20 - m).toNat : Int) = m by omega] at this
    simpa using this
  | none =>
    rw [List.find?_eq_none] at hf
    refine .inr ⟨rfl, fun m hm hm2 => ?_⟩
    have := hf (20 - m).toNat (by simp; omega)
    rw [show (20 : Int) - ((20 - m).toNat : Int) = m by omega] at this
    simpa using this
theorem moreAt_cu {x c : Cu} (h : x.last = c.last) (hour n : Int) : moreAt x hour n = moreAt c hour n := by simp only [moreAt, h]
theorem SubT.with {x c : Cu} (S : SubT x c) (X : AskOk x true) (A : AskOk c true) {more : List Int} (hm : more.length = c.want.length) (h : sWith c (sTruth c) more = 1) : sWith x (sTruth x) more = 1 := by
  have hne : rTruths x ≠ [] := fun e => X.ne ((same_nil X.k0).2 e)
  rw [with_same A.k0 A.ne hm] at h
  rw [with_same X.k0 X.ne (by rw [S.want]; exact hm), S.want, S.coal]
  exact S.wholes hne h
theorem SubT.spare {x c : Cu} (S : SubT x c) (X : AskOk x true) (A : AskOk c true) (hx : sAsked x true = 0) (hc : sAsked c true = 0) {hour : Int} (h : sIn hour 0 c.last = true) :
    ((sSpareA c hour).2 = 0 ∧ (sSpareA x hour).2 = 0 ∧ (sSpareA c hour).1 ≤ (sSpareA x hour).1) ∨ ((sSpareA c hour).2 = 10 ∧ ((sSpareA x hour).2 = 0 ∨ (sSpareA x hour).2 = 10)) := by
  have hlen : ∀ n, (moreAt c hour n).length = c.want.length := fun n => by have := A.k0.want.1; have := A.k0.last; rw [moreAt_len]; omega
  rcases spare_some h hc with ⟨s, e, s0, s20, w, _⟩ | ⟨e, _⟩
  · rcases spare_some (c := x) (by rw [S.last]; exact h) hx with ⟨s', e', s0', s20', w', hn⟩ | ⟨e', hn⟩
    · left
      rw [e, e']
      refine ⟨rfl, rfl, ?_⟩
      simp only
      by_cases hlt : s' < s
      · have := hn s hlt s20
        rw [moreAt_cu S.last] at this
        exact absurd (S.with X A (hlen s) w) this
      · omega
    · have := hn s s0 s20
      rw [moreAt_cu S.last] at this
      exact absurd (S.with X A (hlen s) w) this
  · right
    rcases spare_some (c := x) (by rw [S.last]; exact h) hx with ⟨s', e', _⟩ | ⟨e', _⟩
    · rw [e, e']; exact ⟨rfl, .inl rfl⟩
    · rw [e, e']; exact ⟨rfl, .inr rfl⟩
/-! which readings are left out -/
end Go.Vm

set_option linter.unusedVariables false
set_option linter.unusedSimpArgs false
set_option maxRecDepth 100000
namespace Go.Vm
/-! ### more promised -/
theorem addL_gi {a b : List Int} {i : Nat} (h : i < a.length) : gi (addL a b) i = gi a i + gi b i := by
  rw [addL]; exact gi_map h
theorem addL_len' (a b : List Int) : (addL a b).length = a.length := by simp [addL]
theorem gi_zeros (n : Nat) (i : Int) : gi (List.replicate n 0) i = 0 := by
  simp only [gi, List.getD_eq_getElem?_getD, List.getElem?_replicate]
  split <;> rfl
theorem addL_zero (a : List Int) (n : Nat) : addL a (List.replicate n 0) = a := by
  apply List.ext_getElem?
  intro j
  by_cases hj : j < a.length
  · rw [gi_get (l := addL a _) (by rw [addL_len']; omega), gi_get (l := a) (by omega), addL_gi hj, gi_zeros]; simp
  · rw [List.getElem?_eq_none (by rw [addL_len']; omega), List.getElem?_eq_none (by omega)]
theorem more_eq {c : Cu} (A : AskOk c true) (h0 : sAsked c true = 0) {more : List Int} (hp : sPromised c more = true) : sMoreA c more = (rWholes c (rTruths c) c.coal (addL c.want more), 0) := by
  obtain ⟨h1, _⟩ := promised_ok hp
  rw [sMoreA, hp, if_pos h0, with_same A.k0 A.ne (by have := A.k0.want.1; omega)]
theorem promised_of {c : Cu} {l : List Int} (h1 : (l.length : Int) = c.last + 1) (h2 : ∀ x ∈ l, 0 ≤ x ∧ x ≤ 20) : sPromised c l = true := by
  simp only [sPromised, Bool.and_eq_true, decide_eq_true_eq, List.all_eq_true, sIn]
  exact ⟨h1, h2⟩
theorem more_less {c : Cu} (k0 : CuOk c) {a b : List Int} (h : ∀ i : Nat, i < (c.last + 1).toNat → 0 ≤ gi a i ∧ gi a i ≤ gi b i) {coal : List Int} {t : Tr2} (hw : wholeI c coal (addL c.want b) t = true) : wholeI c coal (addL c.want a) t = true := by
  refine whole_want k0.per.1 (fun i hi => ?_) hw
  have hwl := k0.want
  have hil : i < c.want.length := by omega
  rw [addL_gi hil, addL_gi hil]
  have := h i hi
  have := hwl.2 _ (gi_mem hil)
  omega
theorem more_one {c : Cu} (k0 : CuOk c) (hne : rTruths c ≠ []) {a b : List Int} (h : ∀ i : Nat, i < (c.last + 1).toNat → 0 ≤ gi a i ∧ gi a i ≤ gi b i) {coal : List Int} (hw : rWholes c (rTruths c) coal (addL c.want b) = 1) : rWholes c (rTruths c) coal (addL c.want a) = 1 := by
  rw [wholes_one hne] at hw ⊢
  exact fun t ht => more_less k0 h (hw t ht)
theorem more_two {c : Cu} (k0 : CuOk c) (hne : rTruths c ≠ []) {a b : List Int} (h : ∀ i : Nat, i < (c.last + 1).toNat → 0 ≤ gi a i ∧ gi a i ≤ gi b i) {coal : List Int} (hw : rWholes c (rTruths c) coal (addL c.want a) = 2) : rWholes c (rTruths c) coal (addL c.want b) = 2 := by
  rw [wholes_two hne] at hw ⊢
  intro t ht
  cases hb : wholeI c coal (addL c.want b) t with
  | false => rfl
  | true =>
    have := more_less k0 h hb
    rw [hw t ht] at this; cases this
theorem moreAt_gi (c : Cu) {hour n : Int} {i : Nat} (hi : i < (c.last + 1).toNat) : gi (moreAt c hour n) i = if i = hour.toNat then n else 0 := by
  simp only [moreAt, gi, Int.toNat_natCast, List.getD_eq_getElem?_getD, List.getElem?_set, List.length_replicate, List.getElem?_replicate]
  by_cases h : hour.toNat = i
  · subst h; simp [hi]
  · rw [if_neg h, if_neg (Ne.symm h), if_pos hi]; rfl
end Go.Vm

set_option linter.unusedVariables false
set_option linter.unusedSimpArgs false
set_option maxRecDepth 100000
namespace Go.Vm
open Go.Proofs
def lsF (ws : List Int) (j : Nat) : Int := (sWord ws j).tmod 3
def mrF (ws : List Int) (j : Nat) : Int := (sWord ws j).tmod 3 + ((sWord ws j).tdiv 8).tmod 2
def mapN (f : Nat → Int) (i : Nat) : List Int := (List.range i).map f
theorem mapN_succ (f : Nat → Int) (i : Nat) : mapN f (i + 1) = mapN f i ++ [f i] := by simp [mapN, List.range_succ]
theorem mapN_len (f : Nat → Int) (i : Nat) : (mapN f i).length = i := by simp [mapN]
theorem mapN_gi (f : Nat → Int) {n i : Nat} (h : i < n) : gi (mapN f n) i = f i := gi_map h
set_option maxHeartbeats 8000000 in
theorem l_CopperPromised (c : Cu) (hc : I64 c.last) (ws : List Int) (hw : ∀ x ∈ ws, 0 ≤ x ∧ x ≤ 65535) (hour : Int) (hh : 0 ≤ hour ∧ hour ≤ 255) (by1 : Int) (hb : 0 ≤ by1 ∧ by1 ≤ 255) :
    Vm.Fn Try.prog 17 [.agg c.cs, vW ws, .int .u8 hour, .int .u8 by1] [] fun v h' => v = .bool true := by
  refine Fn.body tabOk Try.func17 rfl (Nat.le_of_ble_eq_true rfl) (Ks.ok (fz := (fzn [])) (cl := (cln [(10, .ex), (12, .d (tgL [(88, 1)]) [cP, cP, cP, cP, cP, some ([1], [1]), none, cP, cP, cP, cP, cP]), (23, .d tg0 [cP, cP, cP, cP, cP, cP, cP, cP, cP, cP, cP, cP]), (28, .d tg0 [cP, cP, cP, cP, cP, cP, cP, cP, cP, cP, cP, cP, cP, cP])])) tabOk mixed ?_)
  generalize hQ : FnPost tt Try.f17 _ _ = Q
  simp only [Try.f17, argsEnv, Nat.reduceAdd]
  simp only [gos, eq_self, Nat.reduceLT, Nat.reduceEqDiff, reduceCtorEq, reduceIte, ↓reduceIte, tt, vgo, vout, vguard, callOf, vop, ev, cv, vload, newRow]
  refine Cl.pu (c_ready c hc) ?_ rfl (by simp only [V.into, intoL, cu_into, Bool.and_true])
  cases hts : sReady c with
  | false =>
    simp only [gos, eq_self, Nat.reduceLT, Nat.reduceEqDiff, reduceIte, ↓reduceIte, vgo, vout, vguard, callOf, vop, ev]
    refine Cl.pu c_awake ?_
    simp only [gos, eq_self, Nat.reduceLT, reduceIte, ↓reduceIte, vgo, vout, vguard, callOf, vop, ev]
    subst hQ
    exact FnPost.plain trivial (v := .bool true) (fun h2 e => by rfl) WkV.refl rfl
  | true =>
  obtain ⟨hth, h0⟩ := ready_ok hts
  have wf := thin_wf hc hth
  have k0 := sCheck_ok h0
  have hl := k0.last
  obtain ⟨k, hk, hkl⟩ := hour_of hl hh.1
  have hz : ¬ c.last + 1 = 0 := by omega
  have z4 : ¬ (4 : Int) = 0 := by omega
  have hbm := tmod_le hb.1 (s := 4) (by omega)
  simp only [gos, eq_self, Nat.reduceLT, Nat.reduceEqDiff, reduceCtorEq, reduceIte, ↓reduceIte, tt, vgo, vout, vguard, callOf, vop, ev, cv, vbin, vint, isShift, isNilConst, vload, hz, z4, i64_in (show -9223372036854775808 ≤ hour by omega) (show hour ≤ 9223372036854775807 by omega), i64_in (show -9223372036854775808 ≤ by1 by omega) (show by1 ≤ 9223372036854775807 by omega), i64_in (show -9223372036854775808 ≤ c.last + 1 by omega) (show c.last + 1 ≤ 9223372036854775807 by omega), i64_in (show -9223372036854775808 ≤ 1 + by1.tmod 4 by omega) (show 1 + by1.tmod 4 ≤ 9223372036854775807 by omega)]
  rw [← hk]
  generalize hnn : 1 + by1.tmod 4 = nn
  have hnn2 : 1 ≤ nn ∧ nn ≤ 4 := by omega
  refine W.loop tabOk mixed (fun i : Nat => ([(4, .rop c.cs), (1, vW ws), (9, vi k), (10, vi nn), (11, .own 56 i 0 1 i), (12, .own 65 i 0 1 i), (13, vi i)], [(56, ⟨i, .row (cI (mapN (lsF ws) i))⟩), (65, ⟨i, .row (cI (mapN (mrF ws) i))⟩)])) (fun i => (c.last + 1).toNat - i) (fun i => (i : Int) ≤ c.last + 1) 0 (by omega) (Wk.trans (Wk.sl0E 11 56 1 rfl rfl) (Wk.trans (Wk.sl0E 12 65 1 rfl rfl) (Wk.env ?_))) ?_
  · simp [subE, Env.get]
  intro i hi
  by_cases hil : (i : Int) ≤ c.last
  · have hn1 : (cI (mapN (lsF ws) i)).length = i := by rw [cI_len, mapN_len]
    have hn2 : (cI (mapN (mrF ws) i)).length = i := by rw [cI_len, mapN_len]
    have hi9 : i ≤ 999999 := by omega
    have z3 : ¬ (3 : Int) = 0 := by omega
    have z8 : ¬ (8 : Int) = 0 := by omega
    have z2 : ¬ (2 : Int) = 0 := by omega
    simp only [gos, eq_self, Nat.reduceLT, Nat.reduceEqDiff, reduceCtorEq, reduceIte, ↓reduceIte, tt, vgo, vout, vguard, callOf, vop, ev, vbin, vint, isShift, isNilConst, vload, hil]
    refine Cl.pu (c_word ws hw i) ?_ rfl (by simp only [V.into, intoL, Bool.and_true, vW_into])
    have hsw := sWord_le hw i
    have hsd := Int.tdiv_nonneg hsw.1 (show (0 : Int) ≤ 8 by omega)
    have d1 : (sWord ws i).tdiv 8 ≤ 65535 := Int.le_trans (Int.tdiv_le_self 8 hsw.1) hsw.2
    have m3 := tmod_le hsw.1 (s := 3) (by omega)
    have m2 := tmod_le hsd (s := 2) (by omega)
    simp only [gos, eq_self, Nat.reduceLT, Nat.reduceEqDiff, Nat.reduceAdd, Nat.reduceLeDiff, reduceCtorEq, reduceIte, ↓reduceIte, tt, vgo, vout, vguard, callOf, vop, ev, cv, vbin, vint, isShift, isNilConst, vfill, vappend, srcOf, hn1, hn2, hi9, z3, z8, z2, Nat.mul_one, i64_in (show -9223372036854775808 ≤ (sWord ws i).tdiv 8 by omega) (show (sWord ws i).tdiv 8 ≤ 9223372036854775807 by omega), i64_in (show -9223372036854775808 ≤ (sWord ws i).tmod 3 + ((sWord ws i).tdiv 8).tmod 2 by omega) (show (sWord ws i).tmod 3 + ((sWord ws i).tdiv 8).tmod 2 ≤ 9223372036854775807 by omega)]
    refine Nx.mk (i + 1) (show (c.last + 1).toNat - (i + 1) < (c.last + 1).toNat - i by omega) (by omega) (Wk.heap (fun j => ?_) ?_)
    · simp only [mapN_succ, cI_snoc]; rfl
    · simp [subE, Env.get, i64_succ (show (i : Int) < 9223372036854775807 by omega)]
  have hie : (i : Int) = c.last + 1 := by omega
  have hin : i = (c.last + 1).toNat := by omega
  have t56 : List.take i (cI (mapN (lsF ws) i)) = cI (mapN (lsF ws) i) := List.take_of_length_le (by rw [cI_len, mapN_len]; omega)
  have t65 : List.take i (cI (mapN (mrF ws) i)) = cI (mapN (mrF ws) i) := List.take_of_length_le (by rw [cI_len, mapN_len]; omega)
  have lL : (mapN (lsF ws) i).length = i := mapN_len _ _
  have lM : (mapN (mrF ws) i).length = i := mapN_len _ _
  simp only [gos, eq_self, Nat.reduceLT, Nat.reduceEqDiff, reduceCtorEq, reduceIte, ↓reduceIte, tt, vgo, vout, vguard, callOf, vop, ev, vbin, vint, isShift, isNilConst, vload, hil]
  refine Wr.at tabOk 0 ?_
  simp only [gos]
  refine Wa.mk (ρ2 := [(4, .rop c.cs), (9, vi k), (10, vi nn), (11, vI (mapN (lsF ws) i)), (12, vI (mapN (mrF ws) i))]) (h2 := []) ?_ ?_
  · refine Wk.trans (Wk.env (ρ' := [(4, .rop c.cs), (9, vi k), (10, vi nn), (11, .own 56 i 0 1 i), (12, .own 65 i 0 1 i)]) (by simp [subE, Env.get])) ?_
    refine Wk.trans (Wk.freeze 56 rfl rfl (cI_into _ _) rfl) ?_
    simp only [frzE, frzH, Blk.frz, V.frz, cI_frz, cu_frz, gos, eq_self, Nat.reduceEqDiff, reduceIte, ↓reduceIte, t56, Nat.mul_one]
    refine Wk.trans (Wk.freeze 65 rfl rfl (cI_into _ _) rfl) ?_
    simp only [frzE, frzH, V.frz, cI_frz, cu_frz, gos, eq_self, reduceIte, ↓reduceIte, t65, Nat.mul_one]
    exact Wk.env (by simp [subE, Env.get, vI, lL, lM])
  have okL : ∀ j : Nat, j < i → 0 ≤ lsF ws j ∧ lsF ws j ≤ mrF ws j ∧ mrF ws j ≤ 3 := fun j _ => by
    have hsw := sWord_le hw j
    have m3 := tmod_le hsw.1 (s := 3) (by omega)
    have m2 := tmod_le (Int.tdiv_nonneg hsw.1 (show (0 : Int) ≤ 8 by omega)) (s := 2) (by omega)
    simp only [lsF, mrF]; omega
  have pL : sPromised c (mapN (lsF ws) i) = true := promised_of (by omega) fun x hx => by
    obtain ⟨j, hj, rfl⟩ := mem_gi hx
    rw [lL] at hj
    rw [mapN_gi _ hj]
    have := okL j hj; omega
  have pM : sPromised c (mapN (mrF ws) i) = true := promised_of (by omega) fun x hx => by
    obtain ⟨j, hj, rfl⟩ := mem_gi hx
    rw [lM] at hj
    rw [mapN_gi _ hj]
    have := okL j hj; omega
  have LM : ∀ j : Nat, j < (c.last + 1).toNat → 0 ≤ gi (mapN (lsF ws) i) j ∧ gi (mapN (lsF ws) i) j ≤ gi (mapN (mrF ws) i) j := fun j hj => by
    rw [mapN_gi _ (by omega), mapN_gi _ (by omega)]
    have := okL j (by omega); omega
  generalize mapN (lsF ws) i = L at *
  generalize mapN (mrF ws) i = M at *
  have hZl : ((List.replicate (c.last + 1).toNat (0 : Int)).length : Int) = c.last + 1 := by simp; omega
  have pZ : sPromised c (List.replicate (c.last + 1).toNat 0) = true := promised_of hZl fun x hx => by
    have := (List.mem_replicate.1 hx).2; omega
  have hZv : vI (List.replicate (c.last + 1).toNat 0) = .ro (c.last + 1).toNat (zeros [vi 0] (c.last + 1).toNat) := by rw [vI, zeros_vi]; simp
  have hge : 0 ≤ c.last + 1 := by omega
  have hle : c.last + 1 ≤ 1000000 := by omega
  simp only [gos, eq_self, Nat.reduceLT, reduceCtorEq, reduceIte, ↓reduceIte, tt, vgo, vout, vguard, callOf, vop, ev, vload]
  refine Cl.pu (c_lCopper c wf) ?_ rfl (by simp only [V.into, intoL, cu_into, Bool.and_true])
  simp only [gos, eq_self, Nat.reduceLT, Nat.reduceEqDiff, reduceIte, ↓reduceIte, vgo, vout, vguard, callOf, vop, ev]
  refine Cl.pu (c_list L (by omega)) ?_ rfl (by simp only [intoL, vI_into, Bool.and_true])
  simp only [gos, eq_self, Nat.reduceLT, Nat.reduceEqDiff, reduceIte, ↓reduceIte, vgo, vout, vguard, callOf, ev]
  refine Cl.pu (c_More c wf L (by omega)) ?_ rfl (by simp only [V.into, intoL, vI_into, cu_into, Bool.and_true])
  simp only [gos, eq_self, Nat.reduceLT, Nat.reduceEqDiff, reduceCtorEq, reduceIte, ↓reduceIte, tt, vgo, vout, vguard, callOf, vop, ev, vload]
  refine Cl.pu (c_lCopper c wf) ?_ rfl (by simp only [V.into, intoL, cu_into, Bool.and_true])
  simp only [gos, eq_self, Nat.reduceLT, Nat.reduceEqDiff, reduceIte, ↓reduceIte, vgo, vout, vguard, callOf, vop, ev]
  refine Cl.pu (c_list M (by omega)) ?_ rfl (by simp only [intoL, vI_into, Bool.and_true])
  simp only [gos, eq_self, Nat.reduceLT, Nat.reduceEqDiff, reduceIte, ↓reduceIte, vgo, vout, vguard, callOf, ev]
  refine Cl.pu (c_More c wf M (by omega)) ?_ rfl (by simp only [V.into, intoL, vI_into, cu_into, Bool.and_true])
  simp only [gos, eq_self, Nat.reduceLT, Nat.reduceEqDiff, reduceIte, ↓reduceIte, vgo, vout, vguard, callOf, vop, ev]
  refine Wr.draw (by kernel_rfl) ?_
  simp only [gos, eq_self, Nat.reduceLT, Nat.reduceEqDiff, Nat.reduceAdd, reduceCtorEq, reduceIte, ↓reduceIte, tt, vgoD, voutD, vclsOk, vids, mayWrite, V.ids, vguard, callOf, vop, ev, vload, clsAt]
  refine CD.pu (c_lCopper c wf) ?_ rfl (by simp only [V.into, intoL, cu_into, Bool.and_true])
  simp only [gos, eq_self, Nat.reduceLT, Nat.reduceEqDiff, Nat.reduceLeDiff, reduceCtorEq, reduceIte, ↓reduceIte, tt, vgoD, voutD, vclsOk, vids, mayWrite, V.ids, vguard, callOf, vop, ev, cv, vbin, vint, isShift, isNilConst, vload, hge, hle, i64_in (show -9223372036854775808 ≤ c.last + 1 by omega) (show c.last + 1 ≤ 9223372036854775807 by omega)]
  have htk : List.take (c.last + 1).toNat (cI (List.replicate (c.last + 1).toNat 0)) = cI (List.replicate (c.last + 1).toNat 0) := List.take_of_length_le (by rw [cI_len]; simp)
  refine CD.ev _ _ (Ev.lend 88 (ver := 0) (cs := cI (List.replicate (c.last + 1).toNat 0)) (args' := [.agg c.cs, vI (List.replicate (c.last + 1).toNat 0)]) (by rw [← zeros_vi]; rfl) (cI_into _ _) rfl rfl ?_
    (c_More c wf (List.replicate (c.last + 1).toNat 0) (by omega)) (fun _ _ _ h => by simpa only [VR, VRL] using h) rfl (by simp only [V.into, intoL, vI_into, cu_into, Bool.and_true])) ?_
  · simp only [frzL, V.frz, cu_frz, if_true, List.drop_zero, Nat.mul_one, htk, vI]
    rw [List.length_replicate]
  simp only [gos, eq_self, Nat.reduceLT, Nat.reduceEqDiff, reduceCtorEq, reduceIte, ↓reduceIte, tt, vgo, vout, vgoD, voutD, vclsOk, vids, mayWrite, vguard, callOf, vop, ev, vload]
  refine Cl.pu (c_lCopper c wf) ?_ rfl (by simp only [V.into, intoL, cu_into, Bool.and_true])
  simp only [gos, eq_self, Nat.reduceLT, reduceIte, ↓reduceIte, vgo, vout, vguard, callOf, ev]
  refine Cl.pu (c_Lacks c wf) ?_ rfl (by simp only [V.into, intoL, cu_into, Bool.and_true])
  simp only [gos, eq_self, Nat.reduceLT, Nat.reduceEqDiff, reduceCtorEq, reduceIte, ↓reduceIte, tt, vgo, vout, vguard, callOf, vop, ev, vload]
  refine Cl.pu (c_lCopper c wf) ?_ rfl (by simp only [V.into, intoL, cu_into, Bool.and_true])
  simp only [gos, eq_self, Nat.reduceLT, Nat.reduceEqDiff, reduceIte, ↓reduceIte, vgo, vout, vguard, callOf, vop, ev]
  refine Cl.pu (c_Spare c wf k) ?_ rfl (by simp only [V.into, intoL, cu_into, Bool.and_true])
  have hkin : sIn (k : Int) 0 c.last = true := by simp only [sIn, Bool.and_eq_true, decide_eq_true_eq]; omega
  by_cases hA : sAsked c true = 0
  case neg =>
    have h11 := asked_11 h0 hA
    have e1 : sMoreA c L = (0, 11) := by rw [sMoreA, pL, if_neg hA, h11]
    have e2 : sMoreA c M = (0, 11) := by rw [sMoreA, pM, if_neg hA, h11]
    have e3 : sMoreA c (List.replicate (c.last + 1).toNat 0) = (0, 11) := by rw [sMoreA, pZ, if_neg hA, h11]
    have e4 := lacks_no hA
    have e5 : sSpareA c k = (0, 11) := by rw [sSpareA, hkin, if_neg hA, h11]
    have z1 : ((11 : Int) != 0) = true := rfl
    have z2 : decide ((11 : Int) = 11) = true := rfl
    rw [e1, e2, e3, e4, e5, h11]
    simp only [gos, eq_self, Nat.reduceLT, Nat.reduceEqDiff, reduceIte, ↓reduceIte, vgo, vout, vguard, callOf, vop, ev, cv, vbin, vint, isShift, isNilConst, z1]
    refine Cl.pu c_awake ?_
    simp only [gos, eq_self, Nat.reduceLT, Nat.reduceEqDiff, reduceIte, ↓reduceIte, vgo, vout, vguard, callOf, vop, ev]
    subst hQ
    exact FnPost.plain trivial (v := .bool true) (fun h2 e => by rfl) (WkV.pure rfl) rfl
  have A := askOk_of hA
  have hne : rTruths c ≠ [] := fun e => A.ne ((same_nil A.k0).2 e)
  have e1 := more_eq A hA pL
  have e2 := more_eq A hA pM
  have e3 := more_eq A hA pZ
  rw [addL_zero] at e3
  have e4 := lacks_whole A hA
  have iU := wholes_in c (rTruths c) c.coal (addL c.want L)
  have iV := wholes_in c (rTruths c) c.coal (addL c.want M)
  have iW := wholes_in c (rTruths c) c.coal c.want
  have m1 := more_one k0 hne (coal := c.coal) LM
  have m2 := more_two k0 hne (coal := c.coal) LM
  have hgz : ∀ (b : List Int), (∀ j : Nat, j < (c.last + 1).toNat → 0 ≤ gi b j) → ∀ j : Nat, j < (c.last + 1).toNat → 0 ≤ gi (List.replicate (c.last + 1).toNat 0) j ∧ gi (List.replicate (c.last + 1).toNat 0) j ≤ gi b j := fun b hb j hj => by rw [gi_zeros]; exact ⟨by omega, hb j hj⟩
  have hSa := spare_some hkin hA
  have hmo : ∀ s : Int, 0 ≤ s → s ≤ 20 → sPromised c (moreAt c k s) = true ∧ sMoreA c (moreAt c k s) = (sWith c (sTruth c) (moreAt c k s), 0) := fun s s0 s1 => by
    have hp : sPromised c (moreAt c k s) = true := promised_of (by rw [moreAt_len]; omega) (moreAt_le ⟨s0, s1⟩)
    exact ⟨hp, by rw [sMoreA, hp, if_pos hA]⟩
  have hws : ∀ s : Int, sWith c (sTruth c) (moreAt c k s) = rWholes c (rTruths c) c.coal (addL c.want (moreAt c k s)) := fun s => with_same A.k0 A.ne (by have := A.k0.want.1; rw [moreAt_len]; omega)
  have hw1 : ∀ s : Int, 0 ≤ s → sWith c (sTruth c) (moreAt c k s) = 1 → rWholes c (rTruths c) c.coal c.want = 1 := fun s s0 h => by
    rw [hws] at h
    have := more_one k0 hne (hgz (moreAt c k s) fun j hj => by rw [moreAt_gi c hj]; split <;> omega) h
    rwa [addL_zero] at this
  have hw0 : sWith c (sTruth c) (moreAt c k 0) = rWholes c (rTruths c) c.coal c.want := by rw [hws, moreAt_zero, addL_zero]
  rw [e1, e2, e3]
  generalize rWholes c (rTruths c) c.coal (addL c.want L) = u at *
  generalize rWholes c (rTruths c) c.coal (addL c.want M) = v at *
  generalize rWholes c (rTruths c) c.coal c.want = w at *
  rw [e4]
  have z0 : ((0 : Int) != 0) = false := rfl
  have z0' : decide ((0 : Int) = 0) = true := rfl
  have b1 : (decide (v = 1) = false) ∨ (decide (v = 1) = true ∧ (u != 1) = false) := by
    by_cases h : v = 1
    · right; exact ⟨by simp [h], by simp [m1 h]⟩
    · left; simp [h]
  have b2 : (decide (u = 2) = false) ∨ (decide (u = 2) = true ∧ (v != 2) = false) := by
    by_cases h : u = 2
    · right; exact ⟨by simp [h], by simp [m2 h]⟩
    · left; simp [h]
  have b3 : (decide (w = 1) != decide ((if w = 1 then (7 : Int) else 0) = 7)) = false := by
    by_cases h : w = 1 <;> simp [h]
  rcases b1 with b1 | ⟨b1, b1'⟩ <;> rcases b2 with b2 | ⟨b2, b2'⟩
  case' inl.inl => simp only [gos, eq_self, Nat.reduceLT, Nat.reduceEqDiff, reduceIte, ↓reduceIte, tt, vgo, vout, vguard, callOf, vop, ev, cv, vbin, vint, isShift, isNilConst, b1, b2, b3]
  case' inl.inr => simp only [gos, eq_self, Nat.reduceLT, Nat.reduceEqDiff, reduceIte, ↓reduceIte, tt, vgo, vout, vguard, callOf, vop, ev, cv, vbin, vint, isShift, isNilConst, b1, b2, b2', b3]
  case' inr.inl => simp only [gos, eq_self, Nat.reduceLT, Nat.reduceEqDiff, reduceIte, ↓reduceIte, tt, vgo, vout, vguard, callOf, vop, ev, cv, vbin, vint, isShift, isNilConst, b1, b1', b2, b3]
  case' inr.inr => simp only [gos, eq_self, Nat.reduceLT, Nat.reduceEqDiff, reduceIte, ↓reduceIte, tt, vgo, vout, vguard, callOf, vop, ev, cv, vbin, vint, isShift, isNilConst, b1, b1', b2, b2', b3]
  all_goals
    rcases hSa with ⟨s, f1, s0, s20, f2, f3⟩ | ⟨f1, f2⟩
    · have hw := hw1 s s0 f2
      have f4 : sIn s 0 20 = true := by simp only [sIn, Bool.and_eq_true, decide_eq_true_eq]; omega
      have y1 : (w != 1) = false := by simp [hw]
      have y2 : ((1 : Int) != 1) = false := rfl
      obtain ⟨f5, f6⟩ := hmo s s0 s20
      rw [f2] at f6
      rw [f1]
      simp only [gos, eq_self, Nat.reduceLT, Nat.reduceEqDiff, reduceIte, ↓reduceIte, vgo, vout, vguard, callOf, vop, ev, cv]
      refine Cl.pu (c_rIn s 0 20) ?_
      rw [f4]
      simp only [gos, eq_self, Nat.reduceLT, Nat.reduceEqDiff, reduceIte, ↓reduceIte, vgo, vout, vguard, callOf, vop, ev, cv, vbin, vint, isShift, isNilConst, y1]
      refine Wr.draw (by kernel_rfl) ?_
      simp only [gos, eq_self, Nat.reduceLT, Nat.reduceEqDiff, Nat.reduceAdd, reduceCtorEq, reduceIte, ↓reduceIte, tt, vgoD, voutD, vclsOk, vids, mayWrite, V.ids, vguard, callOf, vop, ev, vload, clsAt]
      refine CD.pu (c_lCopper c wf) ?_ rfl (by simp only [V.into, intoL, cu_into, Bool.and_true])
      simp only [gos, eq_self, Nat.reduceLT, Nat.reduceEqDiff, reduceCtorEq, reduceIte, ↓reduceIte, tt, vgoD, voutD, vclsOk, vids, mayWrite, V.ids, vguard, callOf, vop, ev, vload]
      refine CD.pu (c_rSingle c hl k s (by omega)) ?_ rfl (by simp only [V.into, intoL, cu_into, Bool.and_true])
      simp only [gos, eq_self, Nat.reduceLT, Nat.reduceEqDiff, reduceIte, ↓reduceIte, vgoD, voutD, vguard, callOf, ev]
      refine CD.pu (c_More c wf (moreAt c k s) (by rw [moreAt_len]; omega)) ?_ rfl (by simp only [V.into, intoL, vI_into, cu_into, Bool.and_true])
      rw [f6]
      simp only [gos, eq_self, Nat.reduceLT, Nat.reduceEqDiff, reduceIte, ↓reduceIte, vgo, vout, vgoD, voutD, vclsOk, vids, mayWrite, vguard, callOf, vop, ev, cv, vbin, vint, isShift, isNilConst, i64_in (show -9223372036854775808 ≤ s + nn by omega) (show s + nn ≤ 9223372036854775807 by omega)]
      by_cases hsn : 20 < s + nn
      · simp only [gos, eq_self, Nat.reduceLT, Nat.reduceEqDiff, reduceIte, ↓reduceIte, vgo, vout, vguard, callOf, ev, hsn]
        refine Cl.pu c_awake ?_
        simp only [gos, eq_self, Nat.reduceLT, reduceIte, ↓reduceIte, vgo, vout, vguard, callOf, vop, ev]
        subst hQ
        exact FnPost.plain trivial (v := .bool true) (fun h2 e => by rfl) (WkV.pure rfl) rfl
      · obtain ⟨g5, g6⟩ := hmo (s + nn) (by omega) (by omega)
        have g7 := f3 (s + nn) (by omega) (by omega)
        have y3 : (sWith c (sTruth c) (moreAt c k (s + nn)) != 1) = true := by simp [g7]
        simp only [gos, eq_self, Nat.reduceEqDiff, reduceIte, ↓reduceIte, hsn]
        refine Wr.draw (by kernel_rfl) ?_
        simp only [gos, eq_self, Nat.reduceLT, Nat.reduceEqDiff, Nat.reduceAdd, reduceCtorEq, reduceIte, ↓reduceIte, tt, vgoD, voutD, vclsOk, vids, mayWrite, V.ids, vguard, callOf, vop, ev, vload, clsAt]
        refine CD.pu (c_lCopper c wf) ?_ rfl (by simp only [V.into, intoL, cu_into, Bool.and_true])
        simp only [gos, eq_self, Nat.reduceLT, Nat.reduceEqDiff, reduceCtorEq, reduceIte, ↓reduceIte, tt, vgoD, voutD, vclsOk, vids, mayWrite, V.ids, vguard, callOf, vop, ev, vbin, vint, isShift, isNilConst, vload, i64_in (show -9223372036854775808 ≤ s + nn by omega) (show s + nn ≤ 9223372036854775807 by omega)]
        refine CD.pu (c_rSingle c hl k (s + nn) (by omega)) ?_ rfl (by simp only [V.into, intoL, cu_into, Bool.and_true])
        simp only [gos, eq_self, Nat.reduceLT, Nat.reduceEqDiff, reduceIte, ↓reduceIte, vgoD, voutD, vguard, callOf, ev]
        refine CD.pu (c_More c wf (moreAt c k (s + nn)) (by rw [moreAt_len]; omega)) ?_ rfl (by simp only [V.into, intoL, vI_into, cu_into, Bool.and_true])
        rw [g6]
        simp only [gos, eq_self, Nat.reduceLT, Nat.reduceEqDiff, reduceIte, ↓reduceIte, vgo, vout, vgoD, voutD, vclsOk, vids, mayWrite, vguard, callOf, vop, ev, cv, vbin, vint, isShift, isNilConst, y3]
        refine Cl.pu c_awake ?_
        simp only [gos, eq_self, Nat.reduceLT, Nat.reduceEqDiff, reduceIte, ↓reduceIte, vgo, vout, vguard, callOf, vop, ev]
        subst hQ
        exact FnPost.plain trivial (v := .bool true) (fun h2 e => by rfl) (WkV.pure rfl) rfl
    · have hw : ¬ w = 1 := fun e => f2 0 (by omega) (by omega) (by rw [hw0, e])
      have y1 : (w != 1) = true := by simp [hw]
      have y2 : ((10 : Int) != 0) = true := rfl
      have y3 : decide ((10 : Int) = 10) = true := rfl
      rw [f1]
      simp only [gos, eq_self, Nat.reduceLT, Nat.reduceEqDiff, reduceIte, ↓reduceIte, vgo, vout, vguard, callOf, vop, ev, cv, vbin, vint, isShift, isNilConst, y1, y2]
      refine Cl.pu c_awake ?_
      simp only [gos, eq_self, Nat.reduceLT, Nat.reduceEqDiff, reduceIte, ↓reduceIte, vgo, vout, vguard, callOf, vop, ev]
      subst hQ
      exact FnPost.plain trivial (v := .bool true) (fun h2 e => by rfl) (WkV.pure rfl) rfl
end Go.Vm
