import Derived.Test.YtjppikcigeiomaaGreatB4
import Derived.Test.YtjppikcigeiomaaGreatRows
import Derived.WalkKit
import Derived.ProofKit
import Derived.OpenShut
import Derived.ShutString
import Derived.ChangeOld
import Derived.Below
set_option linter.unusedVariables false
set_option linter.unusedSimpArgs false
set_option maxRecDepth 100000
namespace Go.Vm
open Go.Proofs Go.ChangeShapes Go.WideShapes Go.ChangeAt Go.RowKit
/-! ### from a contract to the row -/
theorem hrel0 (w : World) : HRel (gh0 w) [] w :=
  ⟨fun B o v e => e, fun i e he => (by cases he), fun i j e e' B c c' he => (by cases he), fun i e B c o he => (by cases he), fun i v h => absurd rfl h⟩
theorem calls_of_fn {P : Program} {f : FuncId} {vs : List V} {xs : List Value} {w : World} (c : Fn P f vs [] fun v h' => v = .bool true) (hv : VRL (gh0 w) vs xs) :
    Calls P f xs.toArray w fun e w' => e = .returned (.bool true) ∧ Below w.heap.size w w' := fun cs => by
  obtain ⟨v, h', vc, g', w', fr, rfl, st, hf, hl, hvc, H', t, le⟩ := c (gh0 w) w xs hv (hrel0 w) cs
  simp only [VR] at hvc
  subst hvc
  exact ⟨.returned (.bool true), w', fr, ⟨rfl, t.os, t.tape, t.output, t.size, fun k hk => t.mods k hk (by rintro ⟨i, e, c, he, _⟩; cases he)⟩, st, hf, hl⟩
section
variable {H : Type} {enc : TypeId × Value → H} {P : Program} {w : World} {base : Nat} {spare : Nat → Bool} {held : Bool} {fuel : Nat} {t : TypeId} {cs : List Value} {x : DataW H × List MemPlace}
end
section
variable {H : Type} {enc : TypeId × Value → H} {w : World} {base : Nat} {spare : Nat → Bool} {held : Bool} {fuel : Nat} {cs : List Value} {x : DataW H × List MemPlace}
end
end Go.Vm

set_option linter.unusedVariables false
set_option linter.unusedSimpArgs false
set_option maxRecDepth 100000
namespace Go.Vm
open Go.Proofs Go.ChangeShapes Go.WideShapes Go.ChangeAt Go.RowKit
section
variable {H : Type} {enc : TypeId × Value → H} {w : World} {base : Nat} {spare : Nat → Bool} {held : Bool} {fuel : Nat} {cs : List Value} {x : DataW H × List MemPlace}
theorem rd_ints1 (h : DataW.trod enc Tryz.prog w base spare held fuel 22 cs = some x) : ∃ l : List Int, (∀ n ∈ l, I64 n) ∧ VRL (gh0 w) [vI l] cs := by
  obtain ⟨l, h1, _, h3⟩ := rd_ints Tryz.underlying22 Tryz.underlying3 (by kernel_rfl) h
  exact ⟨l, h1, h3⟩
end
end Go.Vm

set_option linter.unusedVariables false
set_option linter.unusedSimpArgs false
set_option maxRecDepth 100000
namespace Go.Vm
open Go.Proofs
/-! ### the reference: the heat -/
theorem c_rKept (c : Cu) (t : Tr2) (coal want : List Int) (k : TrOk c t coal want) (i : Nat) (hi : (i : Int) ≤ c.last) : Pu Tryz.prog (.fn 168 [] []) [.agg c.cs, .agg t.cs, vI coal, vI want, vi i] (.bool (decide (gi want i ≤ (sHeat c (tS t) coal want i).tdiv c.per))) := by
  refine Ev.fn Tryz.func168 rfl rfl (Fn.body tabOk Tryz.func168 rfl (Nat.le_of_ble_eq_true rfl) (Ks.ok (fz := (fzn [])) (cl := (cln [(1, .d tg0 [cP, cP, cP, cP, cP, cP, cP, cP, cP, cP, cP, cP])])) tabOk mixed ?_))
  generalize hQ : FnPost tt Tryz.f168 _ _ = Q
  simp only [Tryz.f168, List.nil_append, List.append_nil, argsEnv, Nat.reduceAdd]
  have hts : t.cs.take 2 = t.cs := rfl
  have htn : t.cs.length = 2 := rfl
  simp only [gos, eq_self, Nat.reduceLT, Nat.reduceEqDiff, reduceCtorEq, reduceIte, ↓reduceIte, vgo, vout, vguard, callOf, vop, ev, cv, newRow]
  refine Wr.draw (by kernel_rfl) ?_
  simp only [gos, eq_self, Nat.reduceLT, Nat.reduceEqDiff, Nat.reduceAdd, reduceCtorEq, reduceIte, ↓reduceIte, tt, vgoD, voutD, vclsOk, vids, mayWrite, V.ids, vguard, callOf, vop, ev, vload, clsAt, hts, htn]
  refine CD.pu (c_rHot c t coal want k i hi) ?_ rfl (by simp only [V.into, intoL, vI_into, cu_into, Bool.and_true, Tr2.cs])
  have hw : (i : Int) < want.length := by have := k.play.want.1; omega
  simp only [gos, eq_self, Nat.reduceLT, Nat.reduceEqDiff, reduceCtorEq, reduceIte, ↓reduceIte, tt, vgoD, voutD, vclsOk, vids, mayWrite, V.ids, vguard, callOf, vop, ev, vbin, vint, isShift, isNilConst, vload, vI, hw, cI_at (Int.natCast_nonneg i) hw]
  subst hQ
  exact FnPost.plain trivial (fun h2 e => by first | rfl | (simp only [Tryz.f168, vres, vresL, vres1, e _, gos, if_true, if_false, ne_eq, eq_self, Nat.reduceLT, Nat.reduceEqDiff, Nat.reduceAdd, Nat.reduceMul, Nat.reduceLeDiff, Nat.reduceBEq, reduceCtorEq, reduceIte, Array.toList, ↓reduceIte, tt, vgo, vout, vgoD, voutD, vclsOk, vids, mayWrite, V.ids, V.mids, vguard, callOf, vop, ev, cv, vbin, vint, isShift, isNilConst, vnil, isNilSlice, vload, vlen, newRow, vfill, vslice, entOf, vappend, srcOf, vcopy, vlookup, vupdate, mapOk, keyOf, intsOf, clsAt]; try rfl)) (WkV.pure (by simp only [V.into])) ⟨rfl, rfl⟩
end Go.Vm

set_option linter.unusedVariables false
set_option linter.unusedSimpArgs false
set_option maxRecDepth 100000
namespace Go.Vm
open Go.Proofs
/-! ### the reference: all truths -/
def gT (l : List Tr2) (n : Int) : Tr2 := l.getD n.toNat ⟨0, []⟩
theorem cT_drop : ∀ (l : List Tr2) (i : Nat), (cT l).drop (i * 2) = cT (l.drop i)
  | l, 0 => by simp
  | [], i + 1 => by simp [cT]
  | r :: l, i + 1 => by rw [show (i + 1) * 2 = i * 2 + 1 + 1 by omega]; simp [cT, cT_drop l i]
theorem gT_drop {l : List Tr2} {n : Int} (h0 : 0 ≤ n) (h1 : n < l.length) : l.drop n.toNat = gT l n :: l.drop (n.toNat + 1) := by
  have : n.toNat < l.length := by omega
  rw [List.drop_eq_getElem_cons this, gT, List.getD_eq_getElem?_getD, List.getElem?_eq_getElem this]; rfl
theorem cT_at {l : List Tr2} {n : Int} (h0 : 0 ≤ n) (h1 : n < l.length) : (cT l).drop (n.toNat * 2) = vi (gT l n).heat :: vI (gT l n).loss :: cT (l.drop (n.toNat + 1)) := by
  rw [cT_drop, gT_drop h0 h1]; rfl
theorem gT_get {l : List Tr2} {i : Nat} (h : (i : Int) < l.length) : l[i]? = some (gT l i) := by
  have : i < l.length := by omega
  rw [gT, Int.toNat_natCast, List.getD_eq_getElem?_getD, List.getElem?_eq_getElem this]; rfl
theorem vT_into (p : Nat → Bool) (l : List Tr2) : (vT l).into p = true := by simp only [vT, V.into]; exact cT_into p l
end Go.Vm

set_option linter.unusedVariables false
set_option linter.unusedSimpArgs false
set_option maxRecDepth 100000
namespace Go.Vm
open Go.Proofs
/-! ### the reference: bounds and verdicts -/
theorem c_rVerdict (y m : Int) : Pu Tryz.prog (.fn 143 [] []) [vi y, vi m] (vi (rVerdict y m)) := by
  refine Ev.fn Tryz.func143 rfl rfl (Fn.body tabOk Tryz.func143 rfl (Nat.le_of_ble_eq_true rfl) (Ks.ok (fz := (fzn [])) (cl := (cln [])) tabOk mixed ?_))
  generalize hQ : FnPost tt Tryz.f143 _ _ = Q
  simp only [Tryz.f143, List.nil_append, List.append_nil, argsEnv, Nat.reduceAdd]
  by_cases h1 : y = m
  · have hb : decide (y = m) = true := by simp [h1]
    simp only [gos, eq_self, Nat.reduceLT, Nat.reduceEqDiff, reduceCtorEq, reduceIte, ↓reduceIte, vgo, vout, vguard, callOf, vop, ev, cv, vbin, vint, isShift, isNilConst, hb]
    subst hQ
    exact FnPost.plain trivial (fun h2 e => by first | rfl | (simp only [Tryz.f143, vres, vresL, vres1, e _, gos, if_true, if_false, ne_eq, eq_self, Nat.reduceLT, Nat.reduceEqDiff, Nat.reduceAdd, Nat.reduceMul, Nat.reduceLeDiff, Nat.reduceBEq, reduceCtorEq, reduceIte, Array.toList, ↓reduceIte, tt, vgo, vout, vgoD, voutD, vclsOk, vids, mayWrite, V.ids, V.mids, vguard, callOf, vop, ev, cv, vbin, vint, isShift, isNilConst, vnil, isNilSlice, vload, vlen, newRow, vfill, vslice, entOf, vappend, srcOf, vcopy, vlookup, vupdate, mapOk, keyOf, intsOf, clsAt]; try rfl)) (WkV.pure (by simp only [V.into])) ⟨by simp [rVerdict, h1], rfl⟩
  · have hb : decide (y = m) = false := by simp [h1]
    by_cases h2 : y = 0
    · have hb2 : decide (y = 0) = true := by simp [h2]
      simp only [gos, eq_self, Nat.reduceLT, Nat.reduceEqDiff, reduceCtorEq, reduceIte, ↓reduceIte, vgo, vout, vguard, callOf, vop, ev, cv, vbin, vint, isShift, isNilConst, hb, hb2]
      subst hQ
      exact FnPost.plain trivial (fun h2 e => by first | rfl | (simp only [Tryz.f143, vres, vresL, vres1, e _, gos, if_true, if_false, ne_eq, eq_self, Nat.reduceLT, Nat.reduceEqDiff, Nat.reduceAdd, Nat.reduceMul, Nat.reduceLeDiff, Nat.reduceBEq, reduceCtorEq, reduceIte, Array.toList, ↓reduceIte, tt, vgo, vout, vgoD, voutD, vclsOk, vids, mayWrite, V.ids, V.mids, vguard, callOf, vop, ev, cv, vbin, vint, isShift, isNilConst, vnil, isNilSlice, vload, vlen, newRow, vfill, vslice, entOf, vappend, srcOf, vcopy, vlookup, vupdate, mapOk, keyOf, intsOf, clsAt]; try rfl)) (WkV.pure (by simp only [V.into])) ⟨by rw [rVerdict, if_neg h1, if_pos h2], rfl⟩
    · have hb2 : decide (y = 0) = false := by simp [h2]
      simp only [gos, eq_self, Nat.reduceLT, Nat.reduceEqDiff, reduceCtorEq, reduceIte, ↓reduceIte, vgo, vout, vguard, callOf, vop, ev, cv, vbin, vint, isShift, isNilConst, hb, hb2]
      subst hQ
      exact FnPost.plain trivial (fun h2 e => by first | rfl | (simp only [Tryz.f143, vres, vresL, vres1, e _, gos, if_true, if_false, ne_eq, eq_self, Nat.reduceLT, Nat.reduceEqDiff, Nat.reduceAdd, Nat.reduceMul, Nat.reduceLeDiff, Nat.reduceBEq, reduceCtorEq, reduceIte, Array.toList, ↓reduceIte, tt, vgo, vout, vgoD, voutD, vclsOk, vids, mayWrite, V.ids, V.mids, vguard, callOf, vop, ev, cv, vbin, vint, isShift, isNilConst, vnil, isNilSlice, vload, vlen, newRow, vfill, vslice, entOf, vappend, srcOf, vcopy, vlookup, vupdate, mapOk, keyOf, intsOf, clsAt]; try rfl)) (WkV.pure (by simp only [V.into])) ⟨by rw [rVerdict, if_neg h1, if_neg h2], rfl⟩
theorem count_snoc (l : List Tr2) (f : Tr2 → Bool) {i : Nat} (h : (i : Int) < l.length) : (l.take (i + 1)).countP f = (l.take i).countP f + (if f (gT l i) then 1 else 0) := by
  have e : l.take (i + 1) = l.take i ++ [gT l i] := by rw [List.take_add_one, gT_get h]; rfl
  rw [e, List.countP_append, List.countP_singleton]
end Go.Vm

set_option linter.unusedVariables false
set_option linter.unusedSimpArgs false
set_option maxRecDepth 100000
namespace Go.Vm
open Go.Proofs
/-! ### the reference: all promises; spare buckets; the hour that may lack -/
set_option maxHeartbeats 1000000 in
theorem c_rWhole (c : Cu) (t : Tr2) (coal want : List Int) (k : TrOk c t coal want) : Pu Tryz.prog (.fn 142 [] []) [.agg c.cs, .agg t.cs, vI coal, vI want] (.bool (wholeI c coal want t)) := by
  have hl := k.play.last
  refine Ev.fn Tryz.func142 rfl rfl (Fn.body tabOk Tryz.func142 rfl (Nat.le_of_ble_eq_true rfl) (Ks.ok (fz := (fzn [])) (cl := (cln [])) tabOk mixed ?_))
  generalize hQ : FnPost tt Tryz.f142 _ _ = Q
  simp only [Tryz.f142, List.nil_append, List.append_nil, argsEnv, Nat.reduceAdd]
  have hts : t.cs.take 2 = t.cs := rfl
  have htn : t.cs.length = 2 := rfl
  simp only [gos, eq_self, Nat.reduceLT, Nat.reduceEqDiff, reduceCtorEq, reduceIte, ↓reduceIte, vgo, vout, vguard, callOf, vop, ev, cv, newRow]
  refine W.loop tabOk mixed (fun i : Nat => ([(2, vI coal), (3, vI want), (4, .rop c.cs), (5, .rop t.cs), (9, vi i)], [])) (fun i => (c.last + 1).toNat - i) (fun i => (i : Int) ≤ c.last + 1 ∧ ∀ j : Nat, j < i → keptI c coal want t j = true) 0 ⟨by omega, fun j hj => by omega⟩ (Wk.env (by simp [subE, Env.get])) ?_
  rintro i ⟨hi, hno⟩
  by_cases hil : (i : Int) ≤ c.last
  · simp only [gos, eq_self, Nat.reduceLT, Nat.reduceEqDiff, reduceCtorEq, reduceIte, ↓reduceIte, tt, vgo, vout, vguard, callOf, vop, ev, vbin, vint, isShift, isNilConst, vload, hil, hts, htn]
    refine Cl.pu (c_rKept c t coal want k i hil) ?_ rfl (by simp only [V.into, intoL, vI_into, cu_into, Bool.and_true, Tr2.cs])
    rw [show decide (gi want i ≤ (sHeat c (tS t) coal want i).tdiv c.per) = keptI c coal want t i from rfl]
    cases hk : keptI c coal want t i with
    | true =>
      simp only [gos, eq_self, Nat.reduceLT, Nat.reduceEqDiff, reduceIte, ↓reduceIte, vgo, vout, vguard, callOf, vop, ev, cv, vbin, vint, isShift, isNilConst]
      refine Nx.mk (i + 1) (show (c.last + 1).toNat - (i + 1) < (c.last + 1).toNat - i by omega) ⟨by omega, fun j hj => ?_⟩ (Wk.env (by simp [subE, Env.get, i64_succ (show (i : Int) < 9223372036854775807 by omega)]))
      rcases Nat.lt_succ_iff_lt_or_eq.1 hj with h | rfl
      · exact hno j h
      · exact hk
    | false =>
      simp only [gos, eq_self, Nat.reduceLT, reduceIte, ↓reduceIte, vgo, vout, vguard, callOf, vop, ev, cv]
      have hf : wholeI c coal want t = false := by
        rw [Bool.eq_false_iff]; intro ha
        simp only [wholeI, List.all_eq_true, List.mem_range] at ha
        rw [ha i (by omega)] at hk; cases hk
      subst hQ
      exact FnPost.plain trivial (fun h2 e => by first | rfl | (simp only [Tryz.f142, vres, vresL, vres1, e _, gos, if_true, if_false, ne_eq, eq_self, Nat.reduceLT, Nat.reduceEqDiff, Nat.reduceAdd, Nat.reduceMul, Nat.reduceLeDiff, Nat.reduceBEq, reduceCtorEq, reduceIte, Array.toList, ↓reduceIte, tt, vgo, vout, vgoD, voutD, vclsOk, vids, mayWrite, V.ids, V.mids, vguard, callOf, vop, ev, cv, vbin, vint, isShift, isNilConst, vnil, isNilSlice, vload, vlen, newRow, vfill, vslice, entOf, vappend, srcOf, vcopy, vlookup, vupdate, mapOk, keyOf, intsOf, clsAt]; try rfl)) (WkV.pure (by simp only [V.into])) ⟨by rw [hf], rfl⟩
  · simp only [gos, eq_self, Nat.reduceLT, Nat.reduceEqDiff, reduceCtorEq, reduceIte, ↓reduceIte, tt, vgo, vout, vguard, callOf, vop, ev, cv, vbin, vint, isShift, isNilConst, vload, hil]
    have ht : wholeI c coal want t = true := by
      simp only [wholeI, List.all_eq_true, List.mem_range]
      exact fun j hj => hno j (by omega)
    subst hQ
    exact FnPost.plain trivial (fun h2 e => by first | rfl | (simp only [Tryz.f142, vres, vresL, vres1, e _, gos, if_true, if_false, ne_eq, eq_self, Nat.reduceLT, Nat.reduceEqDiff, Nat.reduceAdd, Nat.reduceMul, Nat.reduceLeDiff, Nat.reduceBEq, reduceCtorEq, reduceIte, Array.toList, ↓reduceIte, tt, vgo, vout, vgoD, voutD, vclsOk, vids, mayWrite, V.ids, V.mids, vguard, callOf, vop, ev, cv, vbin, vint, isShift, isNilConst, vnil, isNilSlice, vload, vlen, newRow, vfill, vslice, entOf, vappend, srcOf, vcopy, vlookup, vupdate, mapOk, keyOf, intsOf, clsAt]; try rfl)) (WkV.pure (by simp only [V.into])) ⟨by rw [ht], rfl⟩
set_option maxHeartbeats 1000000 in
theorem c_rWholes (c : Cu) (l : List Tr2) (coal want : List Int) (hl : (l.length : Int) ≤ 1000000) (hok : ∀ t ∈ l, TrOk c t coal want) : Pu Tryz.prog (.fn 106 [] []) [.agg c.cs, vT l, vI coal, vI want] (vi (rWholes c l coal want)) := by
  refine Ev.fn Tryz.func106 rfl rfl (Fn.body tabOk Tryz.func106 rfl (Nat.le_of_ble_eq_true rfl) (Ks.ok (fz := (fzn [])) (cl := (cln [(5, .d tg0 [cP, cP, cP, cP, cP, cP, cP, cP])])) tabOk mixed ?_))
  generalize hQ : FnPost tt Tryz.f106 _ _ = Q
  simp only [Tryz.f106, List.nil_append, List.append_nil, argsEnv, Nat.reduceAdd]
  simp only [gos, eq_self, Nat.reduceLT, Nat.reduceEqDiff, reduceCtorEq, reduceIte, ↓reduceIte, vgo, vout, vguard, callOf, vop, ev, cv, newRow]
  refine W.loop tabOk mixed (fun i : Nat => ([(1, vT l), (2, vI coal), (3, vI want), (4, .rop c.cs), (9, vi ((l.take i).countP fun t => wholeI c coal want t)), (10, vi i)], [])) (fun i => l.length - i) (fun i => i ≤ l.length) 0 (by omega) (Wk.env (by simp [subE, Env.get])) ?_
  intro i hi
  by_cases hil : (i : Int) < l.length
  · have ht := hok _ (List.mem_of_getElem? (gT_get hil))
    have hcs := count_snoc l (fun t => wholeI c coal want t) hil
    have hle : (l.take i).countP (fun t => wholeI c coal want t) ≤ i := Nat.le_trans List.countP_le_length (by rw [List.length_take]; exact Nat.min_le_left _ _)
    simp only [gos, eq_self, Nat.reduceLT, Nat.reduceEqDiff, reduceIte, ↓reduceIte, tt, vgo, vout, vguard, callOf, vop, ev, vbin, vint, isShift, isNilConst, vlen, vT, hil]
    refine Wr.draw (by kernel_rfl) ?_
    simp only [gos, eq_self, Nat.reduceLT, Nat.reduceEqDiff, Nat.reduceAdd, reduceCtorEq, reduceIte, ↓reduceIte, tt, vgoD, voutD, vclsOk, vids, mayWrite, V.ids, vguard, callOf, vop, ev, vload, clsAt, hil, cT_at (Int.natCast_nonneg i) hil]
    refine CD.pu (c_rWhole c (gT l i) coal want ht) ?_ rfl (by simp only [V.into, intoL, vI_into, cu_into, Bool.and_true])
    cases hk : wholeI c coal want (gT l i) with
    | true =>
      rw [hk] at hcs
      simp only [gos, eq_self, Nat.reduceLT, Nat.reduceEqDiff, reduceIte, ↓reduceIte, vgo, vout, vguard, callOf, vop, ev, cv, vbin, vint, isShift, isNilConst, i64_succ (show (((l.take i).countP fun t => wholeI c coal want t : Nat) : Int) < 9223372036854775807 by omega)]
      exact Nx.mk (i + 1) (show l.length - (i + 1) < l.length - i by omega) (by omega) (Wk.env (by simp [subE, Env.get, hcs, i64_succ (show (i : Int) < 9223372036854775807 by omega)]))
    | false =>
      rw [hk] at hcs
      simp only [gos, eq_self, Nat.reduceLT, Nat.reduceEqDiff, reduceIte, ↓reduceIte, vgo, vout, vguard, callOf, vop, ev, cv, vbin, vint, isShift, isNilConst]
      exact Nx.mk (i + 1) (show l.length - (i + 1) < l.length - i by omega) (by omega) (Wk.env (by simp [subE, Env.get, hcs, i64_succ (show (i : Int) < 9223372036854775807 by omega)]))
  · have e : l.take i = l := List.take_of_length_le (by omega)
    simp only [gos, eq_self, Nat.reduceLT, Nat.reduceEqDiff, reduceIte, ↓reduceIte, tt, vgo, vout, vguard, callOf, vop, ev, vbin, vint, isShift, isNilConst, vlen, vT, hil, e]
    refine Cl.pu (c_rVerdict _ _) ?_
    simp only [gos, eq_self, Nat.reduceLT, reduceIte, ↓reduceIte, vgo, vout, vguard, callOf, vop, ev]
    subst hQ
    exact FnPost.plain trivial (fun h2 e => by first | rfl | (simp only [Tryz.f106, vres, vresL, vres1, e _, gos, if_true, if_false, ne_eq, eq_self, Nat.reduceLT, Nat.reduceEqDiff, Nat.reduceAdd, Nat.reduceMul, Nat.reduceLeDiff, Nat.reduceBEq, reduceCtorEq, reduceIte, Array.toList, ↓reduceIte, tt, vgo, vout, vgoD, voutD, vclsOk, vids, mayWrite, V.ids, V.mids, vguard, callOf, vop, ev, cv, vbin, vint, isShift, isNilConst, vnil, isNilSlice, vload, vlen, newRow, vfill, vslice, entOf, vappend, srcOf, vcopy, vlookup, vupdate, mapOk, keyOf, intsOf, clsAt]; try rfl)) (WkV.pure (by simp only [V.into])) ⟨rfl, rfl⟩
end Go.Vm

set_option linter.unusedVariables false
set_option linter.unusedSimpArgs false
set_option maxRecDepth 100000
namespace Go.Vm
/-! ### plain laws of one truth -/
theorem mul_le_of_tdiv {w a p : Int} (h0 : 0 ≤ a) (hp : 1 ≤ p) (h : w ≤ a.tdiv p) : w * p ≤ a := by
  rw [Int.tdiv_eq_ediv_of_nonneg h0] at h
  exact Int.mul_le_of_le_ediv (by omega) h
theorem warm_heat {c : Cu} {s s' : Sc} {coal coal' want : List Int} {n : Nat} (w : Warm s s' coal coal' n) {i : Nat} (hi : i < n) (h : (sPlay c s coal want i).1 ≤ (sPlay c s' coal' want i).1) : sHeat c s coal want i ≤ sHeat c s' coal' want i := by
  have h1 := w.loss i hi
  have h2 := w.coal i hi
  have h3 : gi coal i * s.heat ≤ gi coal' i * s'.heat := Int.mul_le_mul h2.2 w.heat.2 w.heat.1 (by omega)
  simp only [sHeat]
  omega
theorem warm_play {c : Cu} {s s' : Sc} {coal coal' want : List Int} {n : Nat} (hp : 1 ≤ c.per) (w : Warm s s' coal coal' n) : ∀ i, i ≤ n → (sPlay c s coal want i).1 ≤ (sPlay c s' coal' want i).1
  | 0, _ => Int.le_refl _
  | i + 1, hi => by
    have ih := warm_heat w (show i < n by omega) (warm_play (want := want) hp w i (by omega))
    have h0 : 0 ≤ sHeat c s coal want i := by simp only [sHeat]; omega
    have h1 : 0 ≤ sHeat c s' coal' want i := by simp only [sHeat]; omega
    have hm := tdiv_mono h0 ih hp
    rw [sPlay_heat, sPlay_heat]
    by_cases hk : gi want i ≤ (sHeat c s coal want i).tdiv c.per
    · rw [if_pos hk, if_pos (by omega)]; omega
    · rw [if_neg hk]
      split
      · rename_i hk2
        have := mul_le_of_tdiv h1 hp hk2
        omega
      · omega
end Go.Vm

set_option linter.unusedVariables false
set_option linter.unusedSimpArgs false
set_option maxRecDepth 100000
namespace Go.Vm
open Go.Proofs
/-! ### coal by a number -/
def powI (s : Int) : Nat → Int
  | 0 => 1
  | n + 1 => powI s n * s
theorem powI_le {s : Int} (hs : 1 ≤ s ∧ s ≤ 4) : ∀ n : Nat, n ≤ 5 → 1 ≤ powI s n ∧ powI s n ≤ 1024
  | 0, _ => by simp [powI]
  | 1, _ => by simp [powI]; omega
  | 2, _ => by
    have : s = 1 ∨ s = 2 ∨ s = 3 ∨ s = 4 := by omega
    rcases this with rfl | rfl | rfl | rfl <;> decide
  | 3, _ => by
    have : s = 1 ∨ s = 2 ∨ s = 3 ∨ s = 4 := by omega
    rcases this with rfl | rfl | rfl | rfl <;> decide
  | 4, _ => by
    have : s = 1 ∨ s = 2 ∨ s = 3 ∨ s = 4 := by omega
    rcases this with rfl | rfl | rfl | rfl <;> decide
  | 5, _ => by
    have : s = 1 ∨ s = 2 ∨ s = 3 ∨ s = 4 := by omega
    rcases this with rfl | rfl | rfl | rfl <;> decide
  | n + 6, h => by omega
def rCoals (c : Cu) : Int := powI (c.shovels + 1) (c.last + 1).toNat
theorem rCoals_le {c : Cu} (k0 : CuOk c) : 1 ≤ rCoals c ∧ rCoals c ≤ 1024 := by
  have := k0.last; have := k0.shovels
  exact powI_le (by omega) _ (by omega)
theorem c_rCoals (c : Cu) (k0 : CuOk c) : Pu Tryz.prog (.fn 67 [] []) [.agg c.cs] (vi (rCoals c)) := by
  have hl := k0.last
  have hs := k0.shovels
  refine Ev.fn Tryz.func67 rfl rfl (Fn.body tabOk Tryz.func67 rfl (Nat.le_of_ble_eq_true rfl) (Ks.ok (fz := (fzn [])) (cl := (cln [])) tabOk mixed ?_))
  generalize hQ : FnPost tt Tryz.f67 _ _ = Q
  simp only [Tryz.f67, List.nil_append, List.append_nil, argsEnv]
  have hc4 : (List.drop 4 c.cs).head? = some (vi c.shovels) := rfl
  simp only [gos, eq_self, Nat.reduceLT, reduceIte, ↓reduceIte, vgo, vout, vguard, callOf, vop, ev, cv, newRow]
  refine W.loop tabOk mixed (fun i : Nat => ([(1, .rop c.cs), (3, vi (powI (c.shovels + 1) i)), (4, vi i)], [])) (fun i => (c.last + 1).toNat - i) (fun i => i ≤ (c.last + 1).toNat) 0 (by omega) (Wk.env (by simp [subE, Env.get, powI])) ?_
  intro i hi
  by_cases hil : (i : Int) ≤ c.last
  · have hp := powI_le (s := c.shovels + 1) (by omega) (i + 1) (by omega)
    rw [powI] at hp
    simp only [gos, eq_self, Nat.reduceLT, Nat.reduceEqDiff, reduceCtorEq, reduceIte, ↓reduceIte, tt, vgo, vout, vguard, callOf, vop, ev, cv, vbin, vint, isShift, isNilConst, vload, hil, hc4, i64_in (show -9223372036854775808 ≤ c.shovels + 1 by omega) (show c.shovels + 1 ≤ 9223372036854775807 by omega), i64_in (show -9223372036854775808 ≤ powI (c.shovels + 1) i * (c.shovels + 1) by omega) (show powI (c.shovels + 1) i * (c.shovels + 1) ≤ 9223372036854775807 by omega)]
    exact Nx.mk (i + 1) (show (c.last + 1).toNat - (i + 1) < (c.last + 1).toNat - i by omega) (by omega) (Wk.env (by simp [subE, Env.get, powI, i64_succ (show (i : Int) < 9223372036854775807 by omega)]))
  · have e : (c.last + 1).toNat = i := by omega
    simp only [gos, eq_self, Nat.reduceLT, Nat.reduceEqDiff, reduceCtorEq, reduceIte, ↓reduceIte, tt, vgo, vout, vguard, callOf, vop, ev, vbin, vint, isShift, isNilConst, vload, hil]
    subst hQ
    exact FnPost.plain trivial (fun h2 e => by first | rfl | (simp only [Tryz.f67, vres, vresL, vres1, e _, gos, if_true, if_false, ne_eq, eq_self, Nat.reduceLT, Nat.reduceEqDiff, Nat.reduceAdd, Nat.reduceMul, Nat.reduceLeDiff, Nat.reduceBEq, reduceCtorEq, reduceIte, Array.toList, ↓reduceIte, tt, vgo, vout, vgoD, voutD, vclsOk, vids, mayWrite, V.ids, V.mids, vguard, callOf, vop, ev, cv, vbin, vint, isShift, isNilConst, vnil, isNilSlice, vload, vlen, newRow, vfill, vslice, entOf, vappend, srcOf, vcopy, vlookup, vupdate, mapOk, keyOf, intsOf, clsAt]; try rfl)) (WkV.pure (by simp only [V.into])) ⟨by rw [rCoals, e], rfl⟩
theorem lowD_len (s n : Int) : ∀ j, (lowD s n j).length = j
  | 0 => rfl
  | j + 1 => by rw [lowD, List.length_cons, lowD_len s n j]
theorem dvN_ge {s n : Int} (hn : 0 ≤ n) (hs : 1 ≤ s) : ∀ j, 0 ≤ dvN s n j ∧ dvN s n j ≤ n
  | 0 => ⟨hn, Int.le_refl _⟩
  | j + 1 => by
    have := dvN_ge hn hs j
    have h1 := Int.tdiv_nonneg this.1 (show 0 ≤ s by omega)
    have h2 := Int.tdiv_le_self s this.1
    simp only [dvN]; omega
theorem lowD_ok {s n : Int} (hn : 0 ≤ n) (hs : 1 ≤ s) : ∀ j, ∀ x ∈ lowD s n j, 0 ≤ x ∧ x ≤ s - 1
  | 0, x, h => by simp [lowD] at h
  | j + 1, x, h => by
    rw [lowD, List.mem_cons] at h
    rcases h with rfl | h
    · exact tmod_le (dvN_ge hn hs j).1 hs
    · exact lowD_ok hn hs j x h
def rCoal (c : Cu) (n : Int) : List Int := lowD (c.shovels + 1) n (c.last + 1).toNat
theorem rCoal_len (c : Cu) (n : Int) : (rCoal c n).length = (c.last + 1).toNat := lowD_len _ _ _
theorem rCoal_ok {c : Cu} (k0 : CuOk c) {n : Int} (hn : 0 ≤ n) : ((rCoal c n).length : Int) = c.last + 1 ∧ ∀ x ∈ rCoal c n, 0 ≤ x ∧ x ≤ c.shovels :=
  ⟨by rw [rCoal_len]; have := k0.last; omega, fun x hx => by have := lowD_ok hn (s := c.shovels + 1) (by have := k0.shovels; omega) _ x hx; omega⟩
set_option maxHeartbeats 1000000 in
theorem c_rCoal0 (c : Cu) (k0 : CuOk c) (n : Int) (hn : 0 ≤ n ∧ n ≤ 100000) : Ev Tryz.prog (.fn 66 [] []) [.agg c.cs, vi n] [] fun v h' => v = .own 10 0 0 1 (c.last + 1).toNat ∧ h' = [(10, ⟨0, .row (cI (rCoal c n))⟩)] := by
  have hl := k0.last
  have hs := k0.shovels
  have hge : 0 ≤ c.last + 1 := by omega
  have hle : c.last + 1 ≤ 1000000 := by omega
  refine Ev.fn Tryz.func66 rfl rfl (Fn.body tabOk Tryz.func66 rfl (Nat.le_of_ble_eq_true rfl) (Ks.ok (fz := (fzn [])) (cl := (cln [(5, .d tg0 [cP, cP, cP, cP, cP, cP, cP, cP, cP, cP, cP, cP, cP, cW, cP])])) tabOk mixed ?_))
  generalize hQ : FnPost tt Tryz.f66 _ _ = Q
  simp only [Tryz.f66, List.nil_append, List.append_nil, argsEnv, Nat.reduceAdd]
  have hc4 : (List.drop 4 c.cs).head? = some (vi c.shovels) := rfl
  have hz : zeros [V.int IntKind.i64 0] (c.last + 1).toNat = cI (List.replicate (c.last + 1).toNat 0) := zeros_vi _
  simp only [gos, eq_self, Nat.reduceLT, Nat.reduceEqDiff, Nat.reduceLeDiff, reduceCtorEq, reduceIte, ↓reduceIte, tt, vgo, vout, vguard, callOf, vop, ev, cv, vbin, vint, isShift, isNilConst, vload, newRow, i64_in (show -9223372036854775808 ≤ c.last + 1 by omega) (show c.last + 1 ≤ 9223372036854775807 by omega), hge, hle, hz]
  refine W.loop tabOk mixed (fun j : Nat => ([(1, vi (dvN (c.shovels + 1) n j)), (2, .rop c.cs), (5, .own 10 0 0 1 (c.last + 1).toNat), (6, vi (c.last - j))], [(10, ⟨0, .row (cI (List.replicate ((c.last + 1).toNat - j) 0 ++ lowD (c.shovels + 1) n j))⟩)])) (fun j => (c.last + 1).toNat - j) (fun j => j ≤ (c.last + 1).toNat) 0 (by omega) (Wk.heap (fun i => by simp [lowD]) (by simp [subE, Env.get, dvN])) ?_
  intro j hj
  by_cases hjl : (j : Int) ≤ c.last
  · have h0 : 0 ≤ c.last - j := by omega
    have h1 : c.last - j < ((c.last + 1).toNat : Int) := by omega
    have hd := dvN_ge hn.1 (s := c.shovels + 1) (by omega) j
    have hz : ¬ c.shovels + 1 = 0 := by omega
    have ht : (c.last - (j : Int)).toNat = (c.last + 1).toNat - (j + 1) := by omega
    have hlen : (c.last + 1).toNat - (j + 1) + 1 ≤ (cI (List.replicate ((c.last + 1).toNat - j) 0 ++ lowD (c.shovels + 1) n j)).length := by
      rw [cI_len, List.length_append, List.length_replicate]; omega
    have hset : List.take ((c.last + 1).toNat - (j + 1)) (cI (List.replicate ((c.last + 1).toNat - j) 0 ++ lowD (c.shovels + 1) n j)) ++ [V.int IntKind.i64 ((dvN (c.shovels + 1) n j).tmod (c.shovels + 1))] ++ List.drop ((c.last + 1).toNat - (j + 1) + 1) (cI (List.replicate ((c.last + 1).toNat - j) 0 ++ lowD (c.shovels + 1) n j)) = cI (List.replicate ((c.last + 1).toNat - (j + 1)) 0 ++ lowD (c.shovels + 1) n (j + 1)) := by
      have e : List.replicate ((c.last + 1).toNat - j) (0 : Int) = List.replicate ((c.last + 1).toNat - (j + 1)) 0 ++ [0] := by
        rw [show (c.last + 1).toNat - j = (c.last + 1).toNat - (j + 1) + 1 by omega, List.replicate_succ']
      rw [cI_set _ (by rw [List.length_append, List.length_replicate]; omega), e, lowD]
      congr 1
      rw [List.append_assoc, List.set_append, if_neg (by simp)]
      simp
    have hdv : 0 ≤ (dvN (c.shovels + 1) n j).tdiv (c.shovels + 1) := Int.tdiv_nonneg hd.1 (by omega)
    have hdl := Int.tdiv_le_self (c.shovels + 1) hd.1
    simp only [gos, eq_self, Nat.reduceLT, Nat.reduceEqDiff, reduceIte, ↓reduceIte, vgo, vout, vguard, callOf, vop, ev, cv, vbin, vint, isShift, isNilConst, h0]
    refine Wr.draw (by kernel_rfl) ?_
    simp only [gos, eq_self, Nat.reduceLT, Nat.reduceEqDiff, Nat.reduceAdd, reduceCtorEq, reduceIte, ↓reduceIte, tt, vgo, vout, vgoD, voutD, vclsOk, vids, mayWrite, V.ids, vguard, callOf, vop, ev, cv, vbin, vint, isShift, isNilConst, vload, clsAt, hc4, hz, h0, h1, ht, hlen, Nat.zero_add, Nat.mul_one, i64_in (show -9223372036854775808 ≤ c.shovels + 1 by omega) (show c.shovels + 1 ≤ 9223372036854775807 by omega), i64_in (show -9223372036854775808 ≤ (dvN (c.shovels + 1) n j).tdiv (c.shovels + 1) by omega) (show (dvN (c.shovels + 1) n j).tdiv (c.shovels + 1) ≤ 9223372036854775807 by omega)]
    rw [hset]
    exact Nx.mk (j + 1) (show (c.last + 1).toNat - (j + 1) < (c.last + 1).toNat - j by omega) (by omega) (Wk.env (by simp [subE, Env.get, dvN, i64_in (show -9223372036854775808 ≤ c.last - j - 1 by omega) (show c.last - j - 1 ≤ 9223372036854775807 by omega)]; omega))
  · have h0 : ¬ 0 ≤ c.last - j := by omega
    have e : (c.last + 1).toNat = j := by omega
    simp only [gos, eq_self, Nat.reduceLT, Nat.reduceEqDiff, reduceIte, ↓reduceIte, vgo, vout, vguard, callOf, vop, ev, cv, vbin, vint, isShift, isNilConst, h0]
    subst hQ
    refine FnPost.plain trivial (v := .own 10 0 0 1 (c.last + 1).toNat) (fun h2 e => by rfl) WkV.refl ⟨rfl, ?_⟩
    rw [rCoal, e]; simp
theorem c_rCoal (c : Cu) (k0 : CuOk c) (n : Int) (hn : 0 ≤ n ∧ n ≤ 100000) : Pu Tryz.prog (.fn 66 [] []) [.agg c.cs, vi n] (vI (rCoal c n)) :=
  (c_rCoal0 c k0 n hn).weakV fun v h' ⟨e1, e2⟩ => by
    subst e1; subst e2
    have hl := rCoal_len c n
    have ht : (cI (rCoal c n)).take (c.last + 1).toNat = cI (rCoal c n) := List.take_of_length_le (by rw [cI_len]; omega)
    refine ⟨vI (rCoal c n), [], WkV.frz 10 (v' := vI (rCoal c n)) (h' := []) (ver := 0) (cs := cI (rCoal c n)) rfl rfl (cI_into _ _) rfl ?_ ?_ WkV.refl, rfl, rfl⟩
    · simp [V.frz, vI, ht, hl]
    · simp [frzH]
/-! ### words -/
end Go.Vm

set_option linter.unusedVariables false
set_option linter.unusedSimpArgs false
set_option maxRecDepth 100000
namespace Go.Vm
open Go.Proofs
/-! ### the least coal of the reference -/
theorem sum_take {l : List Int} {i : Nat} (h : (i : Int) < l.length) : (l.take (i + 1)).sum = (l.take i).sum + gi l i := by
  have e : l.take (i + 1) = l.take i ++ [gi l i] := by
    rw [List.take_add_one, List.getElem?_eq_getElem (by omega), gi, Int.toNat_natCast, List.getD_eq_getElem?_getD, List.getElem?_eq_getElem (by omega)]; rfl
  rw [e, List.sum_append]; simp
theorem sum_le {l : List Int} (h : ∀ x ∈ l, 0 ≤ x ∧ x ≤ 3) : 0 ≤ l.sum ∧ l.sum ≤ 3 * l.length := by
  induction l with
  | nil => simp
  | cons x l ih =>
    have h1 := ih fun y hy => h y (by simp [hy])
    have h2 := h x (by simp)
    simp only [List.sum_cons, List.length_cons]; omega
theorem c_rShovels (l : List Int) (hl : (l.length : Int) ≤ 1000000) (h : ∀ x ∈ l, 0 ≤ x ∧ x ≤ 3) : Pu Tryz.prog (.fn 68 [] []) [vI l] (vi l.sum) := by
  refine Ev.fn Tryz.func68 rfl rfl (Fn.body tabOk Tryz.func68 rfl (Nat.le_of_ble_eq_true rfl) (Ks.ok (fz := (fzn [])) (cl := (cln [])) tabOk mixed ?_))
  generalize hQ : FnPost tt Tryz.f68 _ _ = Q
  simp only [Tryz.f68, List.nil_append, List.append_nil, argsEnv]
  simp only [gos, eq_self, Nat.reduceLT, reduceIte, ↓reduceIte, vgo, vout, vguard, callOf, vop, ev, cv]
  refine W.loop tabOk mixed (fun i : Nat => ([(0, vI l), (3, vi (l.take i).sum), (4, vi i)], [])) (fun i => l.length - i) (fun i => i ≤ l.length) 0 (by omega) (Wk.env (by simp [subE, Env.get])) ?_
  intro i hi
  by_cases hil : (i : Int) < l.length
  · have hs := sum_take hil
    have hb := sum_le (l := l.take (i + 1)) fun x hx => h x (List.mem_of_mem_take hx)
    have hb2 : (l.take (i + 1)).length ≤ l.length := by rw [List.length_take]; omega
    rw [hs] at hb
    simp only [gos, eq_self, Nat.reduceLT, Nat.reduceEqDiff, reduceCtorEq, reduceIte, ↓reduceIte, tt, vgo, vout, vguard, callOf, vop, ev, cv, vbin, vint, isShift, isNilConst, vload, vlen, vI, hil, cI_at (Int.natCast_nonneg i) hil, i64_in (show -9223372036854775808 ≤ (l.take i).sum + gi l i by omega) (show (l.take i).sum + gi l i ≤ 9223372036854775807 by omega)]
    exact Nx.mk (i + 1) (show l.length - (i + 1) < l.length - i by omega) (by omega) (Wk.env (by simp [subE, Env.get, hs, i64_succ (show (i : Int) < 9223372036854775807 by omega)]))
  · have e : l.take i = l := List.take_of_length_le (by omega)
    simp only [gos, eq_self, Nat.reduceLT, Nat.reduceEqDiff, reduceCtorEq, reduceIte, ↓reduceIte, tt, vgo, vout, vguard, callOf, vop, ev, vbin, vint, isShift, isNilConst, vlen, vI, hil, e]
    subst hQ
    exact FnPost.plain trivial (fun h2 e => by first | rfl | (simp only [Tryz.f68, vres, vresL, vres1, e _, gos, if_true, if_false, ne_eq, eq_self, Nat.reduceLT, Nat.reduceEqDiff, Nat.reduceAdd, Nat.reduceMul, Nat.reduceLeDiff, Nat.reduceBEq, reduceCtorEq, reduceIte, Array.toList, ↓reduceIte, tt, vgo, vout, vgoD, voutD, vclsOk, vids, mayWrite, V.ids, V.mids, vguard, callOf, vop, ev, cv, vbin, vint, isShift, isNilConst, vnil, isNilSlice, vload, vlen, newRow, vfill, vslice, entOf, vappend, srcOf, vcopy, vlookup, vupdate, mapOk, keyOf, intsOf, clsAt]; try rfl)) (WkV.pure (by simp only [V.into])) ⟨rfl, rfl⟩
def bV : Option (List Int) → V
  | none => .sl0
  | some b => vI b
def lessO (x : List Int) : Option (List Int) → Bool
  | none => true
  | some b => decide (x.sum < b.sum)
def leastStep (c : Cu) (l : List Tr2) (o : Option (List Int)) (n : Nat) : Option (List Int) :=
  if (lessO (rCoal c n) o && decide (rWholes c l (rCoal c n) c.want = 1)) = true then some (rCoal c n) else o
def rLeastN (c : Cu) (l : List Tr2) (i : Nat) : Option (List Int) := (List.range i).foldl (leastStep c l) none
theorem rLeastN_succ (c : Cu) (l : List Tr2) (i : Nat) : rLeastN c l (i + 1) = leastStep c l (rLeastN c l i) i := by simp only [rLeastN, List.range_succ, List.foldl_append]; rfl
def rLeast (c : Cu) (l : List Tr2) : Option (List Int) := rLeastN c l (rCoals c).toNat
theorem rLeastN_ok {c : Cu} (k0 : CuOk c) (l : List Tr2) : ∀ i b, rLeastN c l i = some b → (b.length : Int) = c.last + 1 ∧ ∀ x ∈ b, 0 ≤ x ∧ x ≤ c.shovels
  | 0, b, h => by simp [rLeastN] at h
  | i + 1, b, h => by
    rw [rLeastN_succ, leastStep] at h
    split at h
    · injection h with h; subst h; exact rCoal_ok k0 (Int.natCast_nonneg i)
    · exact rLeastN_ok k0 l i b h
theorem coal_tr {c : Cu} (k0 : CuOk c) {coal : List Int} (h : (coal.length : Int) = c.last + 1 ∧ ∀ x ∈ coal, 0 ≤ x ∧ x ≤ c.shovels) {t : Tr2} (T : T2Ok c t) : TrOk c t coal c.want := ⟨coal_play k0 h T.sc, T.len⟩
set_option maxHeartbeats 1000000 in
theorem c_rLeast (c : Cu) (k0 : CuOk c) (l : List Tr2) (hl : (l.length : Int) ≤ 1000000) (hok : ∀ t ∈ l, T2Ok c t) : Pu Tryz.prog (.fn 49 [] []) [.agg c.cs, vT l] (.tup [vI ((rLeast c l).getD []), .bool (rLeast c l).isSome]) := by
  have hC := rCoals_le k0
  have hsh := k0.shovels
  have hla := k0.last
  refine Ev.fn Tryz.func49 rfl rfl (Fn.body tabOk Tryz.func49 rfl (Nat.le_of_ble_eq_true rfl) (Ks.ok (fz := (fzn [])) (cl := (cln [])) tabOk mixed ?_))
  generalize hQ : FnPost tt Tryz.f49 _ _ = Q
  simp only [Tryz.f49, List.nil_append, List.append_nil, argsEnv, Nat.reduceAdd]
  simp only [gos, eq_self, Nat.reduceLT, reduceIte, ↓reduceIte, vgo, vout, vguard, callOf, vop, ev, cv, newRow]
  refine W.loop tabOk mixed (fun i : Nat => ([(1, vT l), (2, .rop c.cs), (6, bV (rLeastN c l i)), (7, .bool (rLeastN c l i).isSome), (8, vi i)], [])) (fun i => (rCoals c).toNat - i) (fun i => i ≤ (rCoals c).toNat) 0 (by omega) (Wk.env (by simp [subE, Env.get, rLeastN, bV])) ?_
  intro i hi
  have hc6 : (List.drop 6 c.cs).head? = some (vI c.want) := rfl
  simp only [gos, eq_self, Nat.reduceLT, Nat.reduceEqDiff, reduceCtorEq, reduceIte, ↓reduceIte, tt, vgo, vout, vguard, callOf, vop, ev, vload]
  refine Cl.pu (c_rCoals c k0) ?_ rfl (by simp only [V.into, intoL, cu_into, Bool.and_true])
  by_cases hil : (i : Int) < rCoals c
  · have hx := rCoal_ok k0 (n := i) (by omega)
    have hstep := rLeastN_succ c l i
    have hprev := rLeastN_ok k0 l i
    have hsucc := i64_succ (show (i : Int) < 9223372036854775807 by omega)
    have hW := c_rWholes c l (rCoal c i) c.want hl (fun t ht => coal_tr k0 hx (hok t ht))
    simp only [gos, eq_self, Nat.reduceLT, Nat.reduceEqDiff, reduceCtorEq, reduceIte, ↓reduceIte, tt, vgo, vout, vguard, callOf, vop, ev, vbin, vint, isShift, isNilConst, vload, hil]
    refine Cl.pu (c_rCoal c k0 i (by omega)) ?_ rfl (by simp only [V.into, intoL, cu_into, Bool.and_true])
    generalize hxe : rCoal c i = x at hx hstep hW ⊢
    cases ho : rLeastN c l i with
    | none =>
      rw [ho, leastStep, hxe, lessO] at hstep
      simp only [gos, eq_self, Nat.reduceLT, Nat.reduceEqDiff, reduceCtorEq, reduceIte, ↓reduceIte, tt, vgo, vout, vguard, callOf, vop, ev, cv, vload, bV, Option.isSome, hc6]
      refine Cl.pu hW ?_ rfl (by simp only [V.into, intoL, vI_into, cu_into, Bool.and_true, vT_into])
      by_cases hw1 : rWholes c l x c.want = 1
      · have hb : decide (rWholes c l x c.want = 1) = true := by simp [hw1]
        rw [hb] at hstep
        rw [Bool.and_self, if_pos rfl] at hstep
        simp only [gos, eq_self, Nat.reduceLT, Nat.reduceEqDiff, reduceIte, ↓reduceIte, vgo, vout, vguard, callOf, vop, ev, cv, vbin, vint, isShift, isNilConst, hb]
        exact Nx.mk (i + 1) (show (rCoals c).toNat - (i + 1) < (rCoals c).toNat - i by omega) (by omega) (by rw [hstep]; exact Wk.env (by simp [subE, Env.get, hsucc]))
      · have hb : decide (rWholes c l x c.want = 1) = false := by simp [hw1]
        rw [hb] at hstep
        rw [Bool.and_false, if_neg (by simp)] at hstep
        simp only [gos, eq_self, Nat.reduceLT, Nat.reduceEqDiff, reduceIte, ↓reduceIte, vgo, vout, vguard, callOf, vop, ev, cv, vbin, vint, isShift, isNilConst, hb]
        exact Nx.mk (i + 1) (show (rCoals c).toNat - (i + 1) < (rCoals c).toNat - i by omega) (by omega) (by rw [hstep]; exact Wk.env (by simp [subE, Env.get, hsucc]))
    | some b =>
      have hbo := hprev b ho
      rw [ho, leastStep, hxe, lessO] at hstep
      simp only [gos, eq_self, Nat.reduceLT, Nat.reduceEqDiff, reduceIte, ↓reduceIte, vgo, vout, vguard, callOf, vop, ev, bV, Option.isSome]
      refine Cl.pu (c_rShovels x (by omega) (fun y hy => by have := hx.2 y hy; omega)) ?_ rfl (by simp only [intoL, vI_into, Bool.and_true])
      simp only [gos, eq_self, Nat.reduceLT, Nat.reduceEqDiff, reduceIte, ↓reduceIte, vgo, vout, vguard, callOf, vop, ev]
      refine Cl.pu (c_rShovels b (by omega) (fun y hy => by have := hbo.2 y hy; omega)) ?_ rfl (by simp only [intoL, vI_into, Bool.and_true])
      by_cases hs : x.sum < b.sum
      · have hsd : decide (x.sum < b.sum) = true := by simp [hs]
        rw [hsd, Bool.true_and] at hstep
        simp only [gos, eq_self, Nat.reduceLT, Nat.reduceEqDiff, reduceCtorEq, reduceIte, ↓reduceIte, tt, vgo, vout, vguard, callOf, vop, ev, vbin, vint, isShift, isNilConst, vload, hs, hc6]
        refine Cl.pu hW ?_ rfl (by simp only [V.into, intoL, vI_into, cu_into, Bool.and_true, vT_into])
        by_cases hw1 : rWholes c l x c.want = 1
        · have hb : decide (rWholes c l x c.want = 1) = true := by simp [hw1]
          rw [hb, if_pos rfl] at hstep
          simp only [gos, eq_self, Nat.reduceLT, Nat.reduceEqDiff, reduceIte, ↓reduceIte, vgo, vout, vguard, callOf, vop, ev, cv, vbin, vint, isShift, isNilConst, hb]
          exact Nx.mk (i + 1) (show (rCoals c).toNat - (i + 1) < (rCoals c).toNat - i by omega) (by omega) (by rw [hstep]; exact Wk.env (by simp [subE, Env.get, hsucc]))
        · have hb : decide (rWholes c l x c.want = 1) = false := by simp [hw1]
          rw [hb, if_neg (by simp)] at hstep
          simp only [gos, eq_self, Nat.reduceLT, Nat.reduceEqDiff, reduceIte, ↓reduceIte, vgo, vout, vguard, callOf, vop, ev, cv, vbin, vint, isShift, isNilConst, hb]
          exact Nx.mk (i + 1) (show (rCoals c).toNat - (i + 1) < (rCoals c).toNat - i by omega) (by omega) (by rw [hstep]; exact Wk.env (by simp [subE, Env.get, hsucc]))
      · have hsd : decide (x.sum < b.sum) = false := by simp [hs]
        rw [hsd, Bool.false_and, if_neg (by simp)] at hstep
        simp only [gos, eq_self, Nat.reduceLT, Nat.reduceEqDiff, reduceIte, ↓reduceIte, vgo, vout, vguard, callOf, vop, ev, cv, vbin, vint, isShift, isNilConst, hs]
        exact Nx.mk (i + 1) (show (rCoals c).toNat - (i + 1) < (rCoals c).toNat - i by omega) (by omega) (by rw [hstep]; exact Wk.env (by simp [subE, Env.get, hsucc]))
  · have hie : (rCoals c).toNat = i := by omega
    simp only [gos, eq_self, Nat.reduceLT, Nat.reduceEqDiff, reduceIte, ↓reduceIte, vgo, vout, vguard, callOf, vop, ev, vbin, vint, isShift, isNilConst, hil]
    subst hQ
    rw [rLeast, hie]
    cases ho : rLeastN c l i with
    | none => exact FnPost.plain trivial (v := .tup [.sl0, .bool false]) (fun h2 e => by rfl) WkV.nil1 ⟨rfl, rfl⟩
    | some b => exact FnPost.plain trivial (v := .tup [vI b, .bool true]) (fun h2 e => by rfl) WkV.refl ⟨rfl, rfl⟩
end Go.Vm

set_option linter.unusedVariables false
set_option linter.unusedSimpArgs false
set_option maxRecDepth 100000
namespace Go.Vm
/-! ### the least coal: the program's search and the reference's are the same -/
theorem rangeI_split {lo a hi : Int} (h1 : lo ≤ a + 1) (h2 : a ≤ hi) : rangeI lo hi = rangeI lo a ++ rangeI (a + 1) hi := by
  have e : (hi + 1 - lo).toNat = (a + 1 - lo).toNat + (hi + 1 - (a + 1)).toNat := by omega
  simp only [rangeI, e, List.range_add, List.map_append, List.map_map]
  congr 1
  apply List.map_congr_left
  intro i _
  simp only [Function.comp]; omega
theorem find_cut {α : Type} {f : Int → Option α} {s m : Int} (h : ∀ n, m < n → f n = none) : (rangeI 0 (min s m)).findSome? f = (rangeI 0 s).findSome? f := by
  by_cases hs : s ≤ m
  · rw [Int.min_eq_left hs]
  · rw [Int.min_eq_right (by omega)]
    by_cases hm : m < 0
    · have e : rangeI 0 m = [] := by rw [rangeI, show (m + 1 - 0).toNat = 0 by omega]; rfl
      rw [e, List.findSome?_nil, eq_comm, List.findSome?_eq_none_iff]
      intro x hx
      have := mem_rangeI.1 hx
      exact h x (by omega)
    · rw [rangeI_split (a := m) (by omega) (show m ≤ s by omega), List.findSome?_append]
      have e : (rangeI (m + 1) s).findSome? f = none := by
        rw [List.findSome?_eq_none_iff]
        intro x hx
        have := mem_rangeI.1 hx
        exact h x (by omega)
      rw [e, Option.or_none]
theorem sum_range {s : Int} (hs : 0 ≤ s) : ∀ {l : List Int}, (∀ x ∈ l, 0 ≤ x ∧ x ≤ s) → 0 ≤ l.sum ∧ l.sum ≤ s * l.length
  | [], _ => by simp
  | x :: l, h => by
    have h1 := sum_range hs (l := l) fun y hy => h y (List.mem_cons_of_mem _ hy)
    have h2 := h x (by simp)
    rw [List.sum_cons, List.length_cons, Int.natCast_add, Int.mul_add]; omega
theorem addF_find (c : Cu) (P : List Int → Bool) (hs : 0 ≤ c.shovels) : ∀ (k : Nat) (coal : List Int) (many : Int),
    addF c P k coal many = (((digs c.shovels k).filter fun l => decide (l.sum = many)).map (coal ++ ·)).find? P
  | 0, coal, many => by
    by_cases h : many = 0
    · subst h
      cases hp : P coal <;> simp [addF, digs, hp]
    · have h' : ¬ (0 : Int) = many := fun e => h e.symm
      simp [addF, digs, h, h']
  | k + 1, coal, many => by
    have e : ∀ n, addF c P k (coal ++ [n]) (many - n) = ((((digs c.shovels k).map (n :: ·)).filter fun l => decide (l.sum = many)).map (coal ++ ·)).find? P := by
      intro n
      rw [addF_find c P hs k, List.filter_map, List.map_map]
      congr 1
      have e1 : (List.filter ((fun l : List Int => decide (l.sum = many)) ∘ fun x => n :: x) (digs c.shovels k)) = List.filter (fun l => decide (l.sum = many - n)) (digs c.shovels k) := by
        apply List.filter_congr
        intro l _
        exact decide_eq_decide.2 (by rw [List.sum_cons]; omega)
      rw [e1]
      apply List.map_congr_left
      intro l _
      simp
    rw [addF, digs, List.filter_flatMap, List.map_flatMap, List.find?_flatMap]
    rw [find_cut]
    · congr 1
      funext n
      exact e n
    · intro n hn
      rw [e n, List.find?_eq_none]
      intro x hx
      obtain ⟨y, hy, rfl⟩ := List.mem_map.1 hx
      obtain ⟨h1, h2⟩ := List.mem_filter.1 hy
      obtain ⟨z, hz, rfl⟩ := List.mem_map.1 h1
      have := sum_range hs (digs_mem.1 hz).2
      rw [decide_eq_true_eq, List.sum_cons] at h2
      omega
theorem pair_find {l : List (List Int)} (hp : l.Pairwise (fun a b => lBefore a b = true)) {P : List Int → Bool} {a : List Int} (h : l.find? P = some a) : a ∈ l ∧ P a = true ∧ ∀ x ∈ l, P x = true → a = x ∨ lBefore a x = true := by
  obtain ⟨h1, l1, l2, rfl, h2⟩ := List.find?_eq_some_iff_append.1 h
  refine ⟨by simp, h1, fun x hx hP => ?_⟩
  rcases List.mem_append.1 hx with hx | hx
  · have := h2 x hx; simp [hP] at this
  · rcases List.mem_cons.1 hx with rfl | hx
    · exact .inl rfl
    · have := (List.pairwise_append.1 hp).2.1
      exact .inr ((List.pairwise_cons.1 this).1 x hx)
theorem findSome_first {α : Type} {f : Int → Option α} {lo hi : Int} {b : α} (h : (rangeI lo hi).findSome? f = some b) : ∃ a, lo ≤ a ∧ a ≤ hi ∧ f a = some b ∧ ∀ x, lo ≤ x → x < a → f x = none := by
  obtain ⟨l1, a, l2, e, h1, h2⟩ := List.findSome?_eq_some_iff.1 h
  have ha : a ∈ rangeI lo hi := by rw [e]; simp
  have hp := rangeI_pair lo hi
  rw [e] at hp
  have ham := mem_rangeI.1 ha
  refine ⟨a, ham.1, ham.2, h1, fun x hx hxa => ?_⟩
  have hx2 : x ∈ rangeI lo hi := mem_rangeI.2 ⟨hx, by omega⟩
  rw [e] at hx2
  rcases List.mem_append.1 hx2 with hx3 | hx3
  · exact h2 x hx3
  · rcases List.mem_cons.1 hx3 with rfl | hx3
    · omega
    · have := (List.pairwise_cons.1 (List.pairwise_append.1 hp).2.1).1 x hx3
      omega
theorem leastF_some {c : Cu} (k0 : CuOk c) {l : List Int} (h : leastF c = some l) : IsLeast c.shovels (c.last + 1).toNat (sSureP c) l := by
  have hs := k0.shovels.1
  obtain ⟨m, h0, h1, h2, h3⟩ := findSome_first h
  rw [addF_find c _ hs] at h2
  simp only [List.nil_append, List.map_id'] at h2
  obtain ⟨g1, g2, g3⟩ := pair_find ((digs_pair c.shovels (c.last + 1).toNat).filter _) h2
  obtain ⟨g1, g4⟩ := List.mem_filter.1 g1
  have g4 : l.sum = m := by simpa using g4
  refine ⟨g1, g2, fun x hx hP => ?_⟩
  have hx0 := (sum_range hs (digs_mem.1 hx).2).1
  rcases Int.lt_trichotomy x.sum m with hlt | heq | hgt
  · have := h3 x.sum hx0 hlt
    rw [addF_find c _ hs] at this
    simp only [List.nil_append, List.map_id', List.find?_eq_none] at this
    have := this x (List.mem_filter.2 ⟨hx, by simp⟩)
    simp [hP] at this
  · exact .inr ⟨by omega, g3 x (List.mem_filter.2 ⟨hx, by simp [heq]⟩) hP⟩
  · exact .inl (by omega)
theorem leastF_none {c : Cu} (k0 : CuOk c) (h : leastF c = none) : ∀ x ∈ digs c.shovels (c.last + 1).toNat, sSureP c x = false := by
  have hs := k0.shovels.1
  intro x hx
  have hb := sum_range hs (digs_mem.1 hx).2
  rw [leastF, List.findSome?_eq_none_iff] at h
  have := h x.sum (mem_rangeI.2 ⟨hb.1, by rw [(digs_mem.1 hx).1] at hb; have e : ((c.last + 1).toNat : Int) = c.last + 1 := by have := k0.last; omega
                                          rw [e] at hb; exact hb.2⟩)
  rw [addF_find c _ hs] at this
  simp only [List.nil_append, List.map_id', List.find?_eq_none] at this
  have := this x (List.mem_filter.2 ⟨hx, by simp⟩)
  simpa using this
/-! the reference's numbers of coal, in order -/
theorem powI_nat (S : Nat) : ∀ n, powI S n = ((S ^ n : Nat) : Int)
  | 0 => rfl
  | n + 1 => by rw [powI, powI_nat S n, Nat.pow_succ, Int.natCast_mul]
theorem coals_eq {c : Cu} (k0 : CuOk c) : digs c.shovels (c.last + 1).toNat = (List.range (rCoals c).toNat).map fun (n : Nat) => rCoal c n := by
  have hs := k0.shovels
  obtain ⟨S, hS⟩ : ∃ S : Nat, (S : Int) = c.shovels + 1 := ⟨(c.shovels + 1).toNat, by omega⟩
  have e := digs_eq S (by omega) (c.last + 1).toNat
  rw [show (S : Int) - 1 = c.shovels by omega] at e
  rw [e, rCoals, ← hS, powI_nat, Int.toNat_natCast]
  simp only [rCoal, hS]
theorem coal_mem {c : Cu} (k0 : CuOk c) {n : Nat} (h : n < (rCoals c).toNat) : rCoal c n ∈ digs c.shovels (c.last + 1).toNat := by
  rw [coals_eq k0]; exact List.mem_map.2 ⟨n, List.mem_range.2 h, rfl⟩
theorem coal_surj {c : Cu} (k0 : CuOk c) {x : List Int} (h : x ∈ digs c.shovels (c.last + 1).toNat) : ∃ n : Nat, n < (rCoals c).toNat ∧ rCoal c n = x := by
  rw [coals_eq k0] at h
  obtain ⟨n, hn, rfl⟩ := List.mem_map.1 h
  exact ⟨n, List.mem_range.1 hn, rfl⟩
theorem coal_lt {c : Cu} (k0 : CuOk c) {i j : Nat} (hij : i < j) (h : j < (rCoals c).toNat) : lBefore (rCoal c i) (rCoal c j) = true := by
  have hp := digs_pair c.shovels (c.last + 1).toNat
  rw [coals_eq k0, List.pairwise_map, List.pairwise_iff_getElem] at hp
  have := hp i j (by simp; omega) (by simp; omega) hij
  simpa using this
theorem rLeastN_min {c : Cu} (k0 : CuOk c) (l : List Tr2) : ∀ i, i ≤ (rCoals c).toNat →
    match rLeastN c l i with
    | none => ∀ j : Nat, j < i → decide (rWholes c l (rCoal c j) c.want = 1) = false
    | some b => (∃ j : Nat, j < i ∧ b = rCoal c j) ∧ decide (rWholes c l b c.want = 1) = true ∧ ∀ j : Nat, j < i → decide (rWholes c l (rCoal c j) c.want = 1) = true → b.sum < (rCoal c j).sum ∨ (b.sum = (rCoal c j).sum ∧ (b = rCoal c j ∨ lBefore b (rCoal c j) = true))
  | 0, _ => by simp [rLeastN]
  | i + 1, hi => by
    have ih := rLeastN_min k0 l i (by omega)
    rw [rLeastN_succ, leastStep]
    cases ho : rLeastN c l i with
    | none =>
      rw [ho] at ih
      simp only [lessO, Bool.true_and]
      cases hw : decide (rWholes c l (rCoal c i) c.want = 1) with
      | false =>
        simp only [Bool.false_eq_true, if_false]
        intro j hj
        by_cases e : j = i
        · subst e; exact hw
        · exact ih j (by omega)
      | true =>
        simp only [if_true]
        refine ⟨⟨i, by omega, rfl⟩, hw, fun j hj hP => ?_⟩
        by_cases e : j = i
        · subst e; exact .inr ⟨rfl, .inl rfl⟩
        · rw [ih j (by omega)] at hP; simp at hP
    | some b =>
      rw [ho] at ih
      obtain ⟨⟨j0, hj0, hb⟩, h2, h3⟩ := ih
      simp only [lessO]
      cases hw : decide (rWholes c l (rCoal c i) c.want = 1) with
      | false =>
        simp only [Bool.and_false, Bool.false_eq_true, if_false]
        refine ⟨⟨j0, by omega, hb⟩, h2, fun j hj hP => ?_⟩
        by_cases e : j = i
        · subst e; rw [hw] at hP; simp at hP
        · exact h3 j (by omega) hP
      | true =>
        by_cases hlt : (rCoal c i).sum < b.sum
        · simp only [hlt, decide_true, Bool.and_self, if_true]
          refine ⟨⟨i, by omega, rfl⟩, hw, fun j hj hP => ?_⟩
          by_cases e : j = i
          · subst e; exact .inr ⟨rfl, .inl rfl⟩
          · rcases h3 j (by omega) hP with h | ⟨h, _⟩ <;> exact .inl (by omega)
        · simp only [hlt, decide_false, Bool.false_and, Bool.false_eq_true, if_false]
          refine ⟨⟨j0, by omega, hb⟩, h2, fun j hj hP => ?_⟩
          by_cases e : j = i
          · subst e
            rcases Int.lt_or_le b.sum (rCoal c j).sum with h | h
            · exact .inl h
            · exact .inr ⟨by omega, .inr (by rw [hb]; exact coal_lt k0 hj0 (by omega))⟩
          · exact h3 j (by omega) hP
theorem rLeast_some {c : Cu} (k0 : CuOk c) {l : List Tr2} {b : List Int} (h : rLeast c l = some b) : IsLeast c.shovels (c.last + 1).toNat (fun x => decide (rWholes c l x c.want = 1)) b := by
  have := rLeastN_min k0 l _ (Nat.le_refl _)
  rw [show rLeastN c l (rCoals c).toNat = some b from h] at this
  obtain ⟨⟨j, hj, hb⟩, h2, h3⟩ := this
  refine ⟨by rw [hb]; exact coal_mem k0 hj, h2, fun x hx hP => ?_⟩
  obtain ⟨n, hn, rfl⟩ := coal_surj k0 hx
  exact h3 n hn hP
theorem rLeast_none {c : Cu} (k0 : CuOk c) {l : List Tr2} (h : rLeast c l = none) : ∀ x ∈ digs c.shovels (c.last + 1).toNat, decide (rWholes c l x c.want = 1) = false := by
  have := rLeastN_min k0 l _ (Nat.le_refl _)
  rw [show rLeastN c l (rCoals c).toNat = none from h] at this
  intro x hx
  obtain ⟨n, hn, rfl⟩ := coal_surj k0 hx
  exact this n hn
theorem sure_whole {c : Cu} (k0 : CuOk c) (hne : sTruth c ≠ []) (coal : List Int) : sSureP c coal = decide (rWholes c (rTruths c) coal c.want = 1) := by
  rw [← wholes_same k0 hne]
  have e : ((sTruth c).map fun s => if (sPast c coal c.want s).kept.any (fun y => decide (false = y)) then (0 : Int) else 1) = (sTruth c).map fun s => if sKept c coal c.want s = true then 1 else 0 := by
    apply List.map_congr_left
    intro s _
    by_cases h : ((sPast c coal c.want s).kept.any fun y => decide (false = y)) = true
    · have h2 : sKept c coal c.want s = false := by rw [sKept, h]; rfl
      rw [if_pos h, h2, if_neg (by simp)]
    · have h2 : sKept c coal c.want s = true := by rw [Bool.not_eq_true] at h; rw [sKept, h]; rfl
      rw [if_neg h, h2, if_pos rfl]
  rw [e, sVerdict_01 _ hne, sSureP]
  cases (sTruth c).all fun s => sKept c coal c.want s with
  | true => rfl
  | false => cases (sTruth c).any fun s => sKept c coal c.want s <;> rfl
theorem least_same {c : Cu} (A : AskOk c true) : leastF c = rLeast c (rTruths c) := by
  have k0 := A.k0
  have e : sSureP c = fun x => decide (rWholes c (rTruths c) x c.want = 1) := funext fun x => sure_whole k0 A.ne x
  cases h1 : leastF c with
  | none =>
    cases h2 : rLeast c (rTruths c) with
    | none => rfl
    | some b =>
      have B := rLeast_some k0 h2
      have h4 := leastF_none k0 h1 b B.mem
      rw [e] at h4
      have h5 : decide (rWholes c (rTruths c) b c.want = 1) = false := h4
      have h3 := B.is
      rw [h5] at h3; cases h3
  | some a =>
    have A1 := leastF_some k0 h1
    cases h2 : rLeast c (rTruths c) with
    | none =>
      have := rLeast_none k0 h2 a A1.mem
      have h3 := A1.is
      rw [e] at h3
      have h4 : decide (rWholes c (rTruths c) a c.want = 1) = true := h3
      rw [this] at h4; cases h4
    | some b =>
      rw [e] at A1
      rw [A1.one (rLeast_some k0 h2)]
end Go.Vm

set_option linter.unusedVariables false
set_option linter.unusedSimpArgs false
set_option maxRecDepth 100000
namespace Go.Vm
/-! ### fewer promises, more coal -/
theorem whole_coal {c : Cu} {coal coal' want : List Int} {t : Tr2} (hp : 1 ≤ c.per) (hh : 0 ≤ t.heat) (hc : ∀ i : Nat, i < (c.last + 1).toNat → 0 ≤ gi coal i ∧ gi coal i ≤ gi coal' i) (h : wholeI c coal want t = true) : wholeI c coal' want t = true := by
  rw [whole_iff] at h ⊢
  intro i hi
  have w : Warm (tS t) (tS t) coal coal' (c.last + 1).toNat := ⟨⟨hh, Int.le_refl _⟩, fun i _ => Int.le_refl _, hc⟩
  have hm := tdiv_mono (sHeat_ge c (tS t) coal want i) (warm_heat w hi (warm_play hp w i (by omega))) hp
  have := h i hi
  omega
end Go.Vm

set_option linter.unusedVariables false
set_option linter.unusedSimpArgs false
set_option maxRecDepth 100000
namespace Go.Vm
/-! ### fewer truths -/
theorem SubT.sure {x c : Cu} (S : SubT x c) (X : AskOk x true) (A : AskOk c true) {coal : List Int} (h : sSureP c coal = true) : sSureP x coal = true := by
  have hne : rTruths x ≠ [] := fun e => X.ne ((same_nil X.k0).2 e)
  rw [sure_whole A.k0 A.ne, decide_eq_true_eq] at h
  rw [sure_whole X.k0 X.ne, decide_eq_true_eq, S.want]
  exact S.wholes hne h
/-! which readings are left out -/
end Go.Vm

set_option linter.unusedVariables false
set_option linter.unusedSimpArgs false
set_option maxRecDepth 100000
namespace Go.Vm
/-! ### what is sure in one room and in another -/
theorem sure_room {r x : Rm} (k : RmOk r) (kx : RmOk x) (hl : x.cu.last = r.cu.last) (hw : x.cu.want = r.cu.want) (hpl : r.pl ≤ x.pl) (hbu : x.bu ≤ r.bu)
    (hT : ∀ w : List Int, rWholes r.cu (rTruths r.cu) r.cu.coal w = 1 → rWholes x.cu (rTruths x.cu) x.cu.coal w = 1)
    {n m : List Int} (h : ∀ i : Nat, (i : Int) ≤ r.cu.last → 0 ≤ gi m i ∧ gi m i ≤ gi n i) (hs : sSureN r n = true) : sSureN x m = true := by
  have hla := k.A.k0.last
  have hbx := kx.bu
  have hbr := k.bu
  simp only [sSureN, Bool.and_eq_true, decide_eq_true_eq] at hs
  have hmul : ∀ i : Nat, (i : Int) ≤ r.cu.last → 0 ≤ x.bu * gi m i ∧ x.bu * gi m i ≤ r.bu * gi n i := fun i hi => by
    have h1 := h i hi
    exact ⟨Int.mul_nonneg (by omega) h1.1, Int.mul_le_mul hbu h1.2 h1.1 (by omega)⟩
  have hp : sPossN x m = true := by
    have hp := hs.1
    rw [sPossN, List.all_eq_true] at hp ⊢
    intro i hi
    rw [hl] at hi
    have hi2 := List.mem_range.1 hi
    have h1 := h i (by omega)
    have h2 := hmul i (by omega)
    have h3 := hp i hi
    simp only [sRoom, Bool.or_eq_true, Bool.and_eq_true, decide_eq_true_eq] at h3 ⊢
    rw [hw]
    rcases h3 with h3 | ⟨h3, h4⟩
    · left; omega
    · right; omega
  simp only [sSureN, Bool.and_eq_true, decide_eq_true_eq]
  refine ⟨hp, ?_⟩
  rw [keV_eq kx (fun i hi => (h i (by omega)).1) hp, hw]
  have hkn := hs.2
  rw [keV_eq k (fun i hi => by have := h i hi; omega) hs.1] at hkn
  refine hT _ (more_one k.A.k0 k.ne (fun i hi => ?_) hkn)
  rw [nb_gi (by omega), nb_gi (by omega)]
  exact hmul i (by omega)
/-! a plan without some baths, by places -/
theorem pk_eq (b : Nat) (p : List Int) : pk b 0 p = ((List.range p.length).filter fun i => b.testBit i).map fun (i : Nat) => gi p i := by
  have e : ∀ n, n ≤ p.length → pk b 0 (p.take n) = ((List.range n).filter fun i => b.testBit i).map fun (i : Nat) => gi p i := by
    intro n
    induction n with
    | zero => intro _; simp [pk]
    | succ n ih =>
      intro hn
      rw [gi_take (by omega), pk_snoc, ih (by omega), List.length_take, Nat.min_eq_left (by omega), Nat.zero_add, List.range_succ, List.filter_append, List.map_append]
      congr 1
      simp only [List.filter_cons, List.filter_nil]
      split <;> rfl
  have := e p.length (Nat.le_refl _)
  rwa [List.take_length] at this
theorem pk_mem {b : Nat} {p : List Int} {x : Int} (h : x ∈ pk b 0 p) : ∃ j : Nat, j < p.length ∧ b.testBit j = true ∧ x = gi p j := by
  rw [pk_eq] at h
  simp only [List.mem_map, List.mem_filter, List.mem_range] at h
  obtain ⟨j, ⟨h1, h2⟩, rfl⟩ := h
  exact ⟨j, h1, h2, rfl⟩
theorem pk_congr {b : Nat} {p q : List Int} (hl : p.length = q.length) (h : ∀ j : Nat, j < p.length → b.testBit j = true → gi p j = gi q j) : pk b 0 p = pk b 0 q := by
  rw [pk_eq, pk_eq, ← hl]
  apply List.map_congr_left
  intro j hj
  simp only [List.mem_filter, List.mem_range] at hj
  exact h j hj.1 hj.2
theorem mem_rSuf (r : Rm) (b : Nat) : ∀ (k i : Nat) (p : List Int), p ∈ rSuf r b k i ↔ p.length = k ∧ ∀ j : Nat, j < k → if b.testBit (i + j) = true then (gR r.ba ((i + j : Nat) : Int)).lo ≤ gi p j ∧ gi p j ≤ (gR r.ba ((i + j : Nat) : Int)).hi else gi p j = 0
  | 0, i, p => by
    simp only [rSuf, List.mem_singleton]
    constructor
    · rintro rfl; exact ⟨rfl, fun j hj => by omega⟩
    · rintro ⟨h, _⟩; exact List.length_eq_zero_iff.1 h
  | k + 1, i, p => by
    have ih := mem_rSuf r b k (i + 1)
    have hgi0 : ∀ (x : Int) (q : List Int), gi (x :: q) (0 : Nat) = x := fun x q => rfl
    have hgis : ∀ (x : Int) (q : List Int) (j : Nat), gi (x :: q) ((j + 1 : Nat) : Int) = gi q j := fun x q j => by simp only [gi, Int.toNat_natCast, List.getD_cons_succ]
    rw [rSuf]
    constructor
    · intro h
      obtain ⟨x, q, hq, rfl, hx⟩ : ∃ x q, q ∈ rSuf r b k (i + 1) ∧ p = x :: q ∧ if b.testBit i = true then (gR r.ba i).lo ≤ x ∧ x ≤ (gR r.ba i).hi else x = 0 := by
        split at h
        · simp only [List.mem_flatMap, List.mem_map] at h
          obtain ⟨x, hx, q, hq, rfl⟩ := h
          rename_i hb
          exact ⟨x, q, hq, rfl, by rw [if_pos hb]; exact mem_rangeI.1 hx⟩
        · obtain ⟨q, hq, rfl⟩ := List.mem_map.1 h
          rename_i hb
          exact ⟨0, q, hq, rfl, by rw [if_neg hb]⟩
      obtain ⟨h1, h2⟩ := (ih q).1 hq
      refine ⟨by simp [h1], fun j hj => ?_⟩
      cases j with
      | zero => rw [Nat.add_zero, hgi0]; exact hx
      | succ j =>
        rw [hgis]
        have := h2 j (by omega)
        rw [show i + 1 + j = i + (j + 1) by omega] at this
        exact this
    · rintro ⟨h1, h2⟩
      cases p with
      | nil => simp at h1
      | cons x q =>
        have h0 := h2 0 (by omega)
        rw [Nat.add_zero, hgi0] at h0
        have hq : q ∈ rSuf r b k (i + 1) := (ih q).2 ⟨by simpa using h1, fun j hj => by
          have := h2 (j + 1) (by omega)
          rw [hgis, show i + (j + 1) = i + 1 + j by omega] at this
          exact this⟩
        split
        · rename_i hb
          rw [if_pos hb] at h0
          simp only [List.mem_flatMap, List.mem_map]
          exact ⟨x, mem_rangeI.2 h0, q, hq, rfl⟩
        · rename_i hb
          rw [if_neg hb] at h0
          exact List.mem_map.2 ⟨q, hq, by rw [h0]⟩
theorem pk_range {r : Rm} (k : RmOk r) {b : Nat} {p : List Int} (hl : p.length = r.ba.length) (h : ∀ j : Nat, j < r.ba.length → b.testBit j = true → (gR r.ba j).lo ≤ gi p j ∧ gi p j ≤ (gR r.ba j).hi) : ∀ x ∈ pk b 0 p, 0 ≤ x ∧ x ≤ r.cu.last := fun x hx => by
  obtain ⟨j, h1, h2, rfl⟩ := pk_mem hx
  have h3 := h j (by omega) h2
  have h4 := k.ba _ (List.mem_of_getElem? (gR_get (show (j : Int) < r.ba.length by omega)))
  omega
theorem rest_iff {r : Rm} (k : RmOk r) {b : Nat} : restN r b = true ↔ ∃ p : List Int, p.length = r.ba.length ∧ (∀ j : Nat, j < r.ba.length → b.testBit j = true → (gR r.ba j).lo ≤ gi p j ∧ gi p j ≤ (gR r.ba j).hi) ∧ sSureN r (cntN (pk b 0 p)) = true := by
  rw [restN, Bool.not_eq_true', List.isEmpty_eq_false_iff]
  constructor
  · intro h
    obtain ⟨p, hp⟩ := List.exists_mem_of_ne_nil _ h
    rw [rSures, rPlansF_suf, List.mem_filter] at hp
    obtain ⟨h1, h2⟩ := hp
    obtain ⟨q, hq, rfl⟩ := List.mem_map.1 h1
    obtain ⟨g1, g2⟩ := (mem_rSuf r b _ _ q).1 hq
    rw [List.nil_append] at h2
    have hin : ∀ j : Nat, j < r.ba.length → b.testBit j = true → (gR r.ba j).lo ≤ gi q j ∧ gi q j ≤ (gR r.ba j).hi := fun j hj hb => by
      have := g2 j hj
      simp only [List.length_nil, Nat.zero_add] at this
      rw [if_pos hb] at this
      exact this
    exact ⟨q, g1, hin, by rw [(num_ref k (pk_range k g1 hin) (rNum_eq r q b)).2.2]; exact h2⟩
  · rintro ⟨p, hl, hin, hs⟩
    let q : List Int := (List.range r.ba.length).map fun j => if b.testBit j = true then gi p j else 0
    have hql : q.length = r.ba.length := by simp [q]
    have hqg : ∀ j : Nat, j < r.ba.length → gi q j = if b.testBit j = true then gi p j else 0 := fun j hj => gi_map hj
    have hpk : pk b 0 q = pk b 0 p := pk_congr (by omega) fun j hj hb => by rw [hqg j (by omega), if_pos hb]
    have hin2 : ∀ j : Nat, j < r.ba.length → b.testBit j = true → (gR r.ba j).lo ≤ gi q j ∧ gi q j ≤ (gR r.ba j).hi := fun j hj hb => by rw [hqg j hj, if_pos hb]; exact hin j hj hb
    refine List.ne_nil_of_mem (a := q) ?_
    rw [rSures, rPlansF_suf, List.mem_filter]
    refine ⟨List.mem_map.2 ⟨q, (mem_rSuf r b _ _ q).2 ⟨hql, fun j hj => ?_⟩, List.nil_append q⟩, ?_⟩
    · simp only [List.length_nil, Nat.zero_add]
      rw [hqg j hj]
      split
      · rename_i hb; exact hin j hj hb
      · rfl
    · rw [← (num_ref k (pk_range k hql hin2) (rNum_eq r q b)).2.2, hpk]
      exact hs
end Go.Vm

set_option linter.unusedVariables false
set_option linter.unusedSimpArgs false
set_option maxRecDepth 100000
namespace Go.Vm
/-! ### a room whose coppers have more coal, and no readings -/
def rmC (r : Rm) (l : List Int) : Rm := { r with cu := { r.cu with coal := l } }
structure MoreC (r : Rm) (l : List Int) : Prop where
  dry : r.cu.readings = []
  len : (l.length : Int) = r.cu.last + 1
  sh : ∀ x ∈ l, 0 ≤ x ∧ x ≤ r.cu.shovels
  le : ∀ i : Nat, (i : Int) ≤ r.cu.last → gi r.cu.coal i ≤ gi l i
theorem coal_okR {r : Rm} (k : RmOk r) {l : List Int} (h1 : (l.length : Int) = r.cu.last + 1) (h2 : ∀ x ∈ l, 0 ≤ x ∧ x ≤ r.cu.shovels) : CuOk (rmC r l).cu :=
  have k0 := k.A.k0
  ⟨k0.last, k0.rds, k0.most, k0.start, k0.per, k0.shovels, ⟨h1, h2⟩, k0.want, k0.heat, k0.loss, k0.readings, k0.many⟩
theorem rmC_ok {r : Rm} (k : RmOk r) (hd : r.cu.readings = []) {l : List Int} (h1 : (l.length : Int) = r.cu.last + 1) (h2 : ∀ x ∈ l, 0 ≤ x ∧ x ≤ r.cu.shovels) : RmOk (rmC r l) :=
  have ha := dry_asked (coal_okR k h1 h2) hd
  ⟨ha, askOk_of ha, k.pl, k.bu, k.len, k.ba⟩
theorem MoreC.ok {r : Rm} {l : List Int} (M : MoreC r l) (k : RmOk r) : RmOk (rmC r l) := rmC_ok k M.dry M.len M.sh
theorem MoreC.sure {r : Rm} {l : List Int} (M : MoreC r l) (k : RmOk r) {n : List Int} (h0 : ∀ i : Nat, (i : Int) ≤ r.cu.last → 0 ≤ gi n i) (hs : sSureN r n = true) : sSureN (rmC r l) n = true := by
  have k0 := k.A.k0
  have kx := M.ok k
  refine sure_room k kx rfl rfl (Int.le_refl _) (Int.le_refl _) (fun w hw => ?_) (fun i hi => ⟨h0 i hi, Int.le_refl _⟩) hs
  rw [wholes_one k.ne] at hw
  rw [wholes_one kx.ne]
  intro t ht
  rw [truths_dry r.cu (rmC r l).cu rfl rfl M.dry M.dry] at ht
  rw [whole_cu r.cu (rmC r l).cu rfl rfl rfl rfl]
  refine whole_coal k0.per.1 (rTr_ok k0 _ t ht).sc.heat.1 (fun i hi => ?_) (hw t ht)
  have h1 := k0.coal.2 _ (gi_mem (l := r.cu.coal) (i := i) (by have := k0.coal.1; omega))
  exact ⟨h1.1, M.le i (by omega)⟩
theorem zL_ge (i : Nat) : 0 ≤ gi zL i := by rw [zL_gi]; omega
theorem MoreC.rest {r : Rm} {l : List Int} (M : MoreC r l) (k : RmOk r) {b : Nat} (h : restN r b = true) : restN (rmC r l) b = true := by
  obtain ⟨p, h1, h2, h3⟩ := (rest_iff k).1 h
  exact (rest_iff (M.ok k)).2 ⟨p, h1, h2, M.sure k (fun i _ => (num_same k (pk_range k h1 h2) i).2) h3⟩
theorem MoreC.most {r : Rm} {l : List Int} (M : MoreC r l) (k : RmOk r) (hs : sSureN r zL = true) : (mostF r).sum ≤ (mostF (rmC r l)).sum := by
  have kx := M.ok k
  have hx := M.sure k (fun i _ => zL_ge i) hs
  have h1 := (mostF_spec k hs).1
  have h2 : mostF r ∈ sureL (rmC r l) := by
    rw [sureL, List.mem_filter] at h1 ⊢
    refine ⟨h1.1, M.sure k (fun i _ => ?_) h1.2⟩
    rw [pad5_gi]
    exact gi_ge0 (fun y hy => ((digs_mem.1 h1.1).2 y hy).1) i
  rcases (mostF_spec kx hx).2 _ h2 with h | ⟨h, _⟩ <;> omega
end Go.Vm

set_option linter.unusedVariables false
set_option linter.unusedSimpArgs false
set_option maxRecDepth 100000
namespace Go.Vm
/-! ### a sure plan has no more baths than the most -/
theorem canBe_le {r : Rm} {m : List Int} (h : rCanBe r m = true) {i : Nat} (hi : i < m.length) : gi m i ≤ r.pl ∧ gi r.cu.want i + r.bu * gi m i ≤ 20 := by
  simp only [rCanBe, List.all_eq_true, List.mem_range, Bool.and_eq_true, decide_eq_true_eq] at h
  exact h i hi
end Go.Vm

set_option linter.unusedVariables false
set_option linter.unusedSimpArgs false
set_option maxRecDepth 100000
namespace Go.Vm
/-! ### the coppers of a room whose Want has a plan's buckets -/
theorem add_swap {a b : List Int} (h : a.length = b.length) : sAdd a b b.length = addL b a :=
  list_ext (by rw [sAdd_len, addL_len', h]) fun i hi => by
    rw [sAdd_len] at hi
    rw [sAdd_get a b b.length i hi, if_pos (by omega), addL_gi (by omega)]; omega
theorem cuB_eq {r : Rm} (k : RmOk r) {plan : List Int} (ha : sAre r plan = true) : cuB r plan = wanR r (rNum r plan (2 ^ r.ba.length - 1)) := by
  have h1 := nb_len k (cntN plan)
  have h2 := k.A.k0.want.1
  rw [cuB, wanR, add_swap (by omega), num_plan k ha]
theorem wanR_ok {r : Rm} (k : RmOk r) {m : List Int} (hl : (m.length : Int) = r.cu.last + 1) (h0 : ∀ x ∈ m, 0 ≤ x) (h : rCanBe r m = true) : CuOk (wanR r m) := by
  have k0 := k.A.k0
  have hwl := k0.want.1
  refine ⟨k0.last, k0.rds, k0.most, k0.start, k0.per, k0.shovels, k0.coal, ⟨by simp only [wanR, addL_len']; exact hwl, fun x hx => ?_⟩, k0.heat, k0.loss, k0.readings, k0.many⟩
  have hx : x ∈ addL r.cu.want (rBk r m) := hx
  obtain ⟨j, hj, e⟩ := List.getElem_of_mem hx
  have e2 : gi (addL r.cu.want (rBk r m)) j = x := by rw [← e]; simp only [gi, Int.toNat_natCast, List.getD_eq_getElem?_getD, List.getElem?_eq_getElem hj]; rfl
  rw [addL_len'] at hj
  rw [addL_gi hj, rBk_gi r m (by omega)] at e2
  have h1 := canBe_le h (i := j) (by omega)
  have h2 := k0.want.2 _ (gi_mem hj)
  have h3 := h0 _ (gi_mem (l := m) (i := j) (by omega))
  have h4 := Int.mul_nonneg (show 0 ≤ r.bu by have := k.bu; omega) h3
  omega
theorem least_eq {c : Cu} (k0 : CuOk c) (hd : c.readings = []) : sLeastA c = match rLeast c (rTruths c) with | some l => (l, 0) | none => ([], 10) := by
  have ha := dry_asked k0 hd
  rw [sLeastA, if_pos ha, least_same (askOk_of ha)]; cases rLeast c (rTruths c) <;> rfl
end Go.Vm

set_option linter.unusedVariables false
set_option linter.unusedSimpArgs false
set_option maxRecDepth 100000
namespace Go.Vm
open Go.Proofs
set_option maxHeartbeats 4000000 in
theorem l_BathCoal (r : Rm) (hl : I64 r.cu.last) (plan : List Int) : Vm.Fn Tryz.prog 8 [.agg r.cs, vI plan] [] fun v h' => v = .bool true := by
  refine Fn.body tabOk Tryz.func8 rfl (Nat.le_of_ble_eq_true rfl) (Ks.ok (fz := (fzn [9])) (cl := (cln [(10, .d tg0 [cL, cL, cP, cP, cP, cP, cP, cP, cP])])) tabOk mixed ?_)
  generalize hQ : FnPost tt Tryz.f8 _ _ = Q
  simp only [Tryz.f8, argsEnv, Nat.reduceAdd]
  simp only [gos, eq_self, Nat.reduceLT, Nat.reduceEqDiff, reduceCtorEq, reduceIte, ↓reduceIte, tt, vgo, vout, vguard, callOf, vop, ev, cv, vload, newRow, rms]
  refine Cl.pu (c_Thin9 r hl) ?_ rfl (by simp only [V.into, intoL, Bool.and_true, rm_into])
  cases ht : sThinR r with
  | false =>
    simp only [gos, eq_self, Nat.reduceLT, Nat.reduceEqDiff, reduceIte, ↓reduceIte, vgo, vout, vguard, callOf, vop, ev, cv]
    refine Cl.pu c_awake9 ?_
    simp only [gos, eq_self, Nat.reduceLT, reduceIte, ↓reduceIte, vgo, vout, vguard, callOf, vop, ev]
    subst hQ
    exact FnPost.plain trivial (v := .bool true) (fun h2 e => by rfl) WkV.refl rfl
  | true =>
    by_cases h8 : 8 < (plan.length : Int)
    · simp only [gos, eq_self, Nat.reduceLT, Nat.reduceEqDiff, reduceCtorEq, reduceIte, ↓reduceIte, tt, vgo, vout, vguard, callOf, vop, ev, cv, vbin, vint, isShift, isNilConst, vlen, vI, h8]
      refine Cl.pu c_awake9 ?_
      simp only [gos, eq_self, Nat.reduceLT, reduceIte, ↓reduceIte, vgo, vout, vguard, callOf, vop, ev]
      subst hQ
      exact FnPost.plain trivial (v := .bool true) (fun h2 e => by rfl) WkV.refl rfl
    have hr := thinR_wf hl ht
    have hp : (plan.length : Int) ≤ 1000000 := by omega
    simp only [gos, eq_self, Nat.reduceLT, Nat.reduceEqDiff, reduceCtorEq, reduceIte, ↓reduceIte, tt, vgo, vout, vguard, callOf, vop, ev, cv, vbin, vint, isShift, isNilConst, vload, vlen, vI, rms, h8]
    refine Cl.pu (c_Room r hr) ?_ rfl (by simp only [V.into, intoL, Bool.and_true, rm_into])
    simp only [gos, eq_self, Nat.reduceLT, Nat.reduceEqDiff, reduceCtorEq, reduceIte, ↓reduceIte, vgo, vout, vguard, callOf, vop, ev]
    refine Cl.pu (c_list9 plan hp) ?_ rfl (by simp only [V.into, intoL, cI_into, Bool.and_true])
    simp only [gos, eq_self, Nat.reduceLT, Nat.reduceEqDiff, reduceIte, ↓reduceIte, vgo, vout, vguard, callOf, ev]
    refine Cl.pu (c_bCoal r hr plan hp) ?_ rfl (by simp only [V.into, intoL, vI_into, Bool.and_true, rm_into])
    simp only [gos, eq_self, Nat.reduceLT, Nat.reduceEqDiff, reduceCtorEq, reduceIte, ↓reduceIte, tt, vgo, vout, vguard, callOf, vop, ev, cv, vload, rms]
    refine Cl.pu (c_planned9 r hr plan hp true) ?_ rfl (by simp only [V.into, intoL, cI_into, Bool.and_true, rm_into])
    rw [planned_same]
    have z3 : decide (((List.length ([] : List Int) : Nat) : Int) = 0) = true := rfl
    by_cases h0 : sPlanned r plan true = 0
    case neg =>
      have e1 : sCoalR r plan = ([], sPlanned r plan true) := by rw [sCoalR, if_neg h0]
      have z1 : decide (sPlanned r plan true = 0) = false := by simp [h0]
      have z2 : decide (sPlanned r plan true = sPlanned r plan true) = true := by simp
      have z4 : (sPlanned r plan true != 0) = true := by simp [h0]
      rw [e1]
      simp only [gos, eq_self, Nat.reduceLT, Nat.reduceEqDiff, reduceIte, ↓reduceIte, tt, vgo, vout, vguard, callOf, vop, ev, cv, vbin, vint, isShift, isNilConst, vlen, vI, z1, z4]
      refine Cl.pu c_awake9 ?_
      simp only [gos, eq_self, Nat.reduceLT, Nat.reduceEqDiff, reduceIte, ↓reduceIte, vgo, vout, vguard, callOf, vop, ev, cv]
      subst hQ
      exact FnPost.plain trivial (v := .bool true) (fun h2 e => by rfl) WkV.refl rfl
    obtain ⟨k, ha, _, hpo, hin, hnk⟩ := planned_ok h0
    have hM := num_mok k ha
    have z5 : decide ((0 : Int) = 0) = true := rfl
    by_cases hrd : 0 < (r.cu.readings.length : Int)
    · have e1 : sCoalR r plan = ([], 8) := by rw [sCoalR, if_pos h0, if_pos hrd]
      have z6 : ((8 : Int) != 0) = true := rfl
      have z7 : decide ((8 : Int) = 8) = true := rfl
      rw [e1, h0]
      simp only [gos, eq_self, Nat.reduceLT, Nat.reduceEqDiff, reduceCtorEq, reduceIte, ↓reduceIte, tt, vgo, vout, vguard, callOf, vop, ev, cv, vbin, vint, isShift, isNilConst, vload, vlen, rms, vI, vD, hrd, z6]
      refine Cl.pu c_awake9 ?_
      simp only [gos, eq_self, Nat.reduceLT, Nat.reduceEqDiff, reduceIte, ↓reduceIte, vgo, vout, vguard, callOf, vop, ev, cv]
      subst hQ
      exact FnPost.plain trivial (v := .bool true) (fun h2 e => by rfl) WkV.refl rfl
    have hdry : r.cu.readings = [] := List.length_eq_zero_iff.1 (by omega)
    have e1 : sCoalR r plan = sLeastA (cuB r plan) := by rw [sCoalR, if_pos h0, if_neg hrd]
    have e2 : rPlanL r plan true = rNum r plan (2 ^ r.ba.length - 1) := by rw [rPlanL, planned_same, if_pos h0]
    have hcan : rCanBe r (rNum r plan (2 ^ r.ba.length - 1)) = true := by
      obtain ⟨h1, h2⟩ := are_ok k ha
      rw [← (num_ref k h2 (num_full h1)).1]; exact hpo
    have hml : ((rNum r plan (2 ^ r.ba.length - 1)).length : Int) = r.cu.last + 1 := by have := hM.wl; have := k.A.k0.want.1; omega
    have kw := wanR_ok k hml (fun x hx => (hM.mb x hx).1) hcan
    have e3 := least_eq kw hdry
    rw [e1, cuB_eq k ha, e2, h0]
    obtain ⟨gl, ge, eG⟩ : ∃ (l : List Int) (e : Int), sLeastA (wanR r (rNum r plan (2 ^ r.ba.length - 1))) = (l, e) := ⟨_, _, rfl⟩
    rw [eG] at e3 ⊢
    generalize rNum r plan (2 ^ r.ba.length - 1) = m at hM hml kw e3
    have z6 : ((0 : Int) != 0) = false := rfl
    have hlT : ((rTruths (wanR r m)).length : Int) ≤ 1000000 := by have := rTr_len (wanR r m) (rMany (wanR r m)).toNat; have := rMany_le kw; simp only [rTruths]; omega
    have hcl : (wanR r m).cs.length = 11 := rfl
    have hone : oneL (wanR r m).cs = true := rfl
    simp only [gos, eq_self, Nat.reduceLT, Nat.reduceEqDiff, reduceCtorEq, reduceIte, ↓reduceIte, tt, vgo, vout, vguard, callOf, vop, ev, cv, vbin, vint, isShift, isNilConst, vload, vlen, rms, vI, vD, hrd]
    refine Cl.pu (c_r9Wanted r m hM) ?_ rfl (by simp only [V.into, intoL, cI_into, Bool.and_true, rm_into])
    simp only [gos, eq_self, Nat.reduceLT, Nat.reduceEqDiff, Nat.reduceAdd, reduceCtorEq, reduceIte, ↓reduceIte, tt, vgo, vout, vguard, callOf, vop, ev, newRow, hcl, hone]
    refine Wr.draw (by kernel_rfl) ?_
    simp only [gos, eq_self, Nat.reduceLT, Nat.reduceEqDiff, Nat.reduceAdd, reduceCtorEq, reduceIte, ↓reduceIte, tt, vgoD, voutD, vclsOk, vids, mayWrite, V.ids, vguard, callOf, vop, ev, vload, clsAt, hcl]
    refine CD.pu (c_rTruths (wanR r m) kw) ?_ rfl (by simp only [V.into, intoL, cu_into, Bool.and_true])
    simp only [gos, eq_self, Nat.reduceLT, Nat.reduceEqDiff, reduceIte, ↓reduceIte, vgoD, voutD, vguard, callOf, ev]
    refine CD.pu (c_rLeast (wanR r m) kw (rTruths (wanR r m)) hlT (rTr_ok kw _)) ?_ rfl (by simp only [V.into, intoL, cu_into, Bool.and_true, vT_into])
    cases hL : rLeast (wanR r m) (rTruths (wanR r m)) with
    | none =>
      rw [hL] at e3
      injection e3 with e4 e5
      subst e4 e5
      have z7 : decide ((10 : Int) = 10) = true := rfl
      simp only [gos, eq_self, Nat.reduceLT, Nat.reduceEqDiff, reduceIte, ↓reduceIte, tt, vgo, vout, vgoD, voutD, vclsOk, vids, mayWrite, vguard, callOf, vop, ev, cv, vbin, vint, isShift, isNilConst, vlen, vI, Option.isSome]
      refine Cl.pu c_awake9 ?_
      simp only [gos, eq_self, Nat.reduceLT, Nat.reduceEqDiff, reduceIte, ↓reduceIte, vgo, vout, vguard, callOf, vop, ev, cv]
      subst hQ
      exact FnPost.plain trivial (v := .bool true) (fun h2 e => by rfl) WkV.refl rfl
    | some b =>
      rw [hL] at e3
      injection e3 with e4 e5
      subst e4 e5
      have hb := rLeastN_ok kw _ _ _ hL
      have hla := kw.last
      have z8 : decide (gl = gl) = true := by simp
      simp only [gos, eq_self, Nat.reduceLT, Nat.reduceEqDiff, reduceIte, ↓reduceIte, vgo, vout, vgoD, voutD, vclsOk, vids, mayWrite, vguard, callOf, vop, ev, cv, vbin, vint, isShift, isNilConst, Option.isSome]
      refine Cl.pu (c_ints9 gl gl (by omega)) ?_ rfl (by simp only [V.into, intoL, cI_into, vI_into, Bool.and_true])
      rw [z8]
      simp only [gos, eq_self, Nat.reduceLT, Nat.reduceEqDiff, reduceIte, ↓reduceIte, vgo, vout, vguard, callOf, vop, ev]
      refine Cl.pu c_awake9 ?_
      simp only [gos, eq_self, Nat.reduceLT, Nat.reduceEqDiff, reduceIte, ↓reduceIte, vgo, vout, vguard, callOf, vop, ev]
      subst hQ
      exact FnPost.plain trivial (v := .bool true) (fun h2 e => by rfl) WkV.refl rfl
end Go.Vm
