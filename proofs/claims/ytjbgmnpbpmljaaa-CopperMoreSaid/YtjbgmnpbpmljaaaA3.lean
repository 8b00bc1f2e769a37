import Derived.Test.YtjbgmnpbpmljaaaA2
import Derived.Test.YtjbgmnpbpmljaaaRows
import Derived.WalkKit
import Derived.ProofKit
import Derived.OpenShut
import Derived.ShutString
import Derived.ChangeOld
import Derived.Below
set_option linter.unusedVariables false
set_option linter.unusedSimpArgs false
set_option maxRecDepth 100000
namespace Go.Vm
open Go.Proofs
/-! ### the reference: the heat -/
/-- The truth as the program has it. -/
def tS (t : Tr2) : Sc := ⟨t.heat, pad5 t.loss⟩
theorem pad5_gi (l : List Int) (i : Int) : gi (pad5 l) i = gi l i := by
  simp only [gi, pad5, List.getD_eq_getElem?_getD, List.getElem?_append, List.getElem?_replicate]
  by_cases h : i.toNat < l.length
  · simp [h]
  · rw [if_neg h, List.getElem?_eq_none (by omega)]
    split <;> simp
/-- The heat of an hour before any bucket is drawn. -/
def sHeat (c : Cu) (s : Sc) (coal want : List Int) (i : Nat) : Int := max 0 (min c.most ((sPlay c s coal want i).1 + gi coal i * s.heat) - gi s.loss i)
theorem sPlay_heat (c : Cu) (s : Sc) (coal want : List Int) (i : Nat) : (sPlay c s coal want (i + 1)).1 = if gi want i ≤ (sHeat c s coal want i).tdiv c.per then sHeat c s coal want i - gi want i * c.per else 0 := by
  simp only [sPlay, sHeat]
  by_cases h : gi want i ≤ (max 0 (min c.most ((sPlay c s coal want i).1 + gi coal i * s.heat) - gi s.loss i)).tdiv c.per <;> simp [h]
structure TrOk (c : Cu) (t : Tr2) (coal want : List Int) : Prop where
  play : PlayOk c (tS t) coal want
  len : (t.loss.length : Int) = c.last + 1
theorem sHeat_le {c : Cu} {s : Sc} {coal want : List Int} (k : PlayOk c s coal want) {i : Nat} (hi : (i : Int) ≤ c.last) : 0 ≤ sHeat c s coal want i ∧ sHeat c s coal want i ≤ 999 := by
  have := k.most
  have hl := (k.loss.2 _ (gi_mem (l := s.loss) (i := i) (by have := k.loss.1; have := k.last; omega)))
  simp only [sHeat]
  omega
set_option maxHeartbeats 2000000 in
theorem c_rLeft_of (c : Cu) (t : Tr2) (coal want : List Int) (k : TrOk c t coal want) (i : Nat) (hi : (i : Int) ≤ c.last) (e : Pu Try.prog (.fn 95 [] []) [.agg c.cs, .agg t.cs, vI coal, vI want, vi i] (vi (sHeat c (tS t) coal want i))) :
    Pu Try.prog (.fn 45 [] []) [.agg c.cs, .agg t.cs, vI coal, vI want, vi i] (vi (sPlay c (tS t) coal want (i + 1)).1) := by
  refine Ev.fn Try.func45 rfl rfl (Fn.body tabOk Try.func45 rfl (Nat.le_of_ble_eq_true rfl) (Ks.ok (fz := (fzn [])) (cl := (cln [(2, .d tg0 [cP, cP, cP, cP, cP, cP, cP, cP, cP]), (4, .d tg0 [cP, cP, cP, cP, cP, cP, cP, cP, cP, cP])])) tabOk mixed ?_))
  generalize hQ : FnPost tt Try.f45 _ _ = Q
  simp only [Try.f45, List.nil_append, List.append_nil, List.cons_append, argsEnv, Nat.reduceAdd]
  have hts : t.cs.take 2 = t.cs := rfl
  have htn : t.cs.length = 2 := rfl
  simp only [gos, if_true, if_false, ne_eq, eq_self, Nat.reduceLT, Nat.reduceEqDiff, Nat.reduceAdd, Nat.reduceMul, Nat.reduceLeDiff, Nat.reduceBEq, reduceCtorEq, reduceIte, Array.toList, ↓reduceIte, tt, vgo, vout, vgoD, voutD, vclsOk, vids, mayWrite, V.ids, V.mids, vguard, callOf, vop, ev, cv, vbin, vint, isShift, isNilConst, vnil, isNilSlice, vload, vlen, newRow, vfill, vslice, entOf, vappend, srcOf, vcopy, vlookup, vupdate, mapOk, keyOf, intsOf, clsAt, hts, htn]
  refine Cl.pu e ?_ rfl (by simp only [V.into, intoL, cB_into, vB_into, cI_into, cR_into, cD_into, cS_into, vS_into, vI_into, vR_into, vD_into, cu_into, Bool.true_and, Bool.and_true, Tr2.cs])
  have hpos : ¬ c.per = 0 := by have := k.play.per; omega
  have hw : (i : Int) < want.length := by have := k.play.want.1; omega
  have hh := sHeat_le k.play hi
  have hww := k.play.want.2 _ (gi_mem (l := want) (i := i) (by omega))
  have hper := k.play.per
  have hsp := sPlay_heat c (tS t) coal want i
  have hsp2 := sPlay_inv k.play (i + 1) (by omega)
  generalize sHeat c (tS t) coal want i = x at hh hsp ⊢
  generalize sPlay c (tS t) coal want (i + 1) = y at hsp hsp2 hQ ⊢
  have hd0 : 0 ≤ x.tdiv c.per := Int.tdiv_nonneg hh.1 (by omega)
  have hd9 : x.tdiv c.per ≤ 999 := by have := Int.tdiv_le_self c.per hh.1; omega
  have hm0 : 0 ≤ c.per * gi want i := Int.mul_nonneg (by omega) hww.1
  have hm9 : c.per * gi want i ≤ 20 * 40 := Int.mul_le_mul hper.2 hww.2 hww.1 (by omega)
  by_cases hk : x.tdiv c.per < gi want i
  · simp only [gos, if_true, if_false, ne_eq, eq_self, Nat.reduceLT, Nat.reduceEqDiff, Nat.reduceAdd, Nat.reduceMul, Nat.reduceLeDiff, Nat.reduceBEq, reduceCtorEq, reduceIte, Array.toList, ↓reduceIte, tt, vgo, vout, vgoD, voutD, vclsOk, vids, mayWrite, V.ids, V.mids, vguard, callOf, vop, ev, cv, vbin, vint, isShift, isNilConst, vnil, isNilSlice, vload, vlen, newRow, vfill, vslice, entOf, vappend, srcOf, vcopy, vlookup, vupdate, mapOk, keyOf, intsOf, clsAt, vI, hw, cI_at (Int.natCast_nonneg i) hw, hpos]
    refine Wr.draw (by kernel_rfl) ?_
    simp only [gos, if_true, if_false, ne_eq, eq_self, Nat.reduceLT, Nat.reduceEqDiff, Nat.reduceAdd, Nat.reduceMul, Nat.reduceLeDiff, Nat.reduceBEq, reduceCtorEq, reduceIte, Array.toList, ↓reduceIte, tt, vgo, vout, vgoD, voutD, vclsOk, vids, mayWrite, V.ids, V.mids, vguard, callOf, vop, ev, cv, vbin, vint, isShift, isNilConst, vnil, isNilSlice, vload, vlen, newRow, vfill, vslice, entOf, vappend, srcOf, vcopy, vlookup, vupdate, mapOk, keyOf, intsOf, clsAt, vI, hw, cI_at (Int.natCast_nonneg i) hw, hpos, i64_in (show -9223372036854775808 ≤ x.tdiv c.per by omega) (show x.tdiv c.per ≤ 9223372036854775807 by omega), hk]
    subst hQ
    exact FnPost.plain trivial (fun h2 e => by first | rfl | (simp only [Try.f45, vres, vresL, vres1, e _, gos, if_true, if_false, ne_eq, eq_self, Nat.reduceLT, Nat.reduceEqDiff, Nat.reduceAdd, Nat.reduceMul, Nat.reduceLeDiff, Nat.reduceBEq, reduceCtorEq, reduceIte, Array.toList, ↓reduceIte, tt, vgo, vout, vgoD, voutD, vclsOk, vids, mayWrite, V.ids, V.mids, vguard, callOf, vop, ev, cv, vbin, vint, isShift, isNilConst, vnil, isNilSlice, vload, vlen, newRow, vfill, vslice, entOf, vappend, srcOf, vcopy, vlookup, vupdate, mapOk, keyOf, intsOf, clsAt]; try rfl)) (WkV.pure (by simp only [V.into, intoL, cB_into, vB_into, cI_into, cR_into, cD_into, cS_into, vS_into, vI_into, vR_into, vD_into, cu_into, Bool.true_and, Bool.and_true])) ⟨by rw [hsp, if_neg (by omega)], rfl⟩
  · simp only [gos, if_true, if_false, ne_eq, eq_self, Nat.reduceLT, Nat.reduceEqDiff, Nat.reduceAdd, Nat.reduceMul, Nat.reduceLeDiff, Nat.reduceBEq, reduceCtorEq, reduceIte, Array.toList, ↓reduceIte, tt, vgo, vout, vgoD, voutD, vclsOk, vids, mayWrite, V.ids, V.mids, vguard, callOf, vop, ev, cv, vbin, vint, isShift, isNilConst, vnil, isNilSlice, vload, vlen, newRow, vfill, vslice, entOf, vappend, srcOf, vcopy, vlookup, vupdate, mapOk, keyOf, intsOf, clsAt, vI, hw, cI_at (Int.natCast_nonneg i) hw, hpos]
    refine Wr.draw (by kernel_rfl) ?_
    simp only [gos, if_true, if_false, ne_eq, eq_self, Nat.reduceLT, Nat.reduceEqDiff, Nat.reduceAdd, Nat.reduceMul, Nat.reduceLeDiff, Nat.reduceBEq, reduceCtorEq, reduceIte, Array.toList, ↓reduceIte, tt, vgo, vout, vgoD, voutD, vclsOk, vids, mayWrite, V.ids, V.mids, vguard, callOf, vop, ev, cv, vbin, vint, isShift, isNilConst, vnil, isNilSlice, vload, vlen, newRow, vfill, vslice, entOf, vappend, srcOf, vcopy, vlookup, vupdate, mapOk, keyOf, intsOf, clsAt, vI, hw, cI_at (Int.natCast_nonneg i) hw, hpos, i64_in (show -9223372036854775808 ≤ x.tdiv c.per by omega) (show x.tdiv c.per ≤ 9223372036854775807 by omega), hk]
    refine Wr.draw (by kernel_rfl) ?_
    simp only [gos, if_true, if_false, ne_eq, eq_self, Nat.reduceLT, Nat.reduceEqDiff, Nat.reduceAdd, Nat.reduceMul, Nat.reduceLeDiff, Nat.reduceBEq, reduceCtorEq, reduceIte, Array.toList, ↓reduceIte, tt, vgo, vout, vgoD, voutD, vclsOk, vids, mayWrite, V.ids, V.mids, vguard, callOf, vop, ev, cv, vbin, vint, isShift, isNilConst, vnil, isNilSlice, vload, vlen, newRow, vfill, vslice, entOf, vappend, srcOf, vcopy, vlookup, vupdate, mapOk, keyOf, intsOf, clsAt, vI, hw, cI_at (Int.natCast_nonneg i) hw, hpos, i64_in (show -9223372036854775808 ≤ c.per * gi want i by omega) (show c.per * gi want i ≤ 9223372036854775807 by omega), i64_in (show -9223372036854775808 ≤ x - c.per * gi want i by omega) (show x - c.per * gi want i ≤ 9223372036854775807 by omega)]
    subst hQ
    exact FnPost.plain trivial (fun h2 e => by first | rfl | (simp only [Try.f45, vres, vresL, vres1, e _, gos, if_true, if_false, ne_eq, eq_self, Nat.reduceLT, Nat.reduceEqDiff, Nat.reduceAdd, Nat.reduceMul, Nat.reduceLeDiff, Nat.reduceBEq, reduceCtorEq, reduceIte, Array.toList, ↓reduceIte, tt, vgo, vout, vgoD, voutD, vclsOk, vids, mayWrite, V.ids, V.mids, vguard, callOf, vop, ev, cv, vbin, vint, isShift, isNilConst, vnil, isNilSlice, vload, vlen, newRow, vfill, vslice, entOf, vappend, srcOf, vcopy, vlookup, vupdate, mapOk, keyOf, intsOf, clsAt]; try rfl)) (WkV.pure (by simp only [V.into, intoL, cB_into, vB_into, cI_into, cR_into, cD_into, cS_into, vS_into, vI_into, vR_into, vD_into, cu_into, Bool.true_and, Bool.and_true])) ⟨by rw [hsp, if_pos (by omega), Int.mul_comm (gi want i)], rfl⟩
set_option maxHeartbeats 2000000 in
theorem c_rHeat (c : Cu) (t : Tr2) (coal want : List Int) (k : TrOk c t coal want) : ∀ (i : Nat), (i : Int) ≤ c.last → Pu Try.prog (.fn 95 [] []) [.agg c.cs, .agg t.cs, vI coal, vI want, vi i] (vi (sHeat c (tS t) coal want i)) := by
  have hl := k.play.last
  intro i
  induction i with
  | zero =>
    intro hi
    refine Ev.fn Try.func95 rfl rfl (Fn.body tabOk Try.func95 rfl (Nat.le_of_ble_eq_true rfl) (Ks.ok (fz := (fzn [])) (cl := (cln [(4, .d tg0 [cP, cP, cP, cP, cP, cP, cP, cP, cP, cP, cP, cP, cP, cP, cP, cP, cP, cP, cP, cP])])) tabOk mixed ?_))
    generalize hQ : FnPost tt Try.f95 _ _ = Q
    simp only [Try.f95, List.nil_append, List.append_nil, List.cons_append, argsEnv, Nat.reduceAdd]
    have hts : t.cs.take 2 = t.cs := rfl
    have htn : t.cs.length = 2 := rfl
    have h0 : decide (0 < ((0 : Nat) : Int)) = false := rfl
    simp only [gos, if_true, if_false, ne_eq, eq_self, Nat.reduceLT, Nat.reduceEqDiff, Nat.reduceAdd, Nat.reduceMul, Nat.reduceLeDiff, Nat.reduceBEq, reduceCtorEq, reduceIte, Array.toList, ↓reduceIte, tt, vgo, vout, vgoD, voutD, vclsOk, vids, mayWrite, V.ids, V.mids, vguard, callOf, vop, ev, cv, vbin, vint, isShift, isNilConst, vnil, isNilSlice, vload, vlen, newRow, vfill, vslice, entOf, vappend, srcOf, vcopy, vlookup, vupdate, mapOk, keyOf, intsOf, clsAt, hts, htn, h0]
    have hm := k.play.most
    have hst := k.play.start
    have hcl : (((0 : Nat) : Int) : Int) < coal.length := by have := k.play.coal.1; omega
    have hll : (((0 : Nat) : Int) : Int) < t.loss.length := by have := k.len; omega
    have hcc := k.play.coal.2 _ (gi_mem (l := coal) (i := 0) (by omega))
    have hlo := k.play.loss.2 _ (gi_mem (l := (tS t).loss) (i := 0) (by have := k.play.loss.1; omega))
    have hhe := k.play.heat
    have hx := (sPlay_inv k.play (0) (by omega))
    have hx1 := hx.1
    have hx2 := hx.2.1
    have e1 : gi (tS t).loss (0 : Nat) = gi t.loss (0 : Nat) := pad5_gi _ _
    have e2 : (tS t).heat = t.heat := rfl
    have hsh : sHeat c (tS t) coal want (0) = max 0 (min c.most ((sPlay c (tS t) coal want (0)).1 + gi coal (0 : Nat) * (tS t).heat) - gi (tS t).loss (0 : Nat)) := rfl
    rw [hsh] at hQ
    rw [e1] at hlo hQ
    rw [e2] at hhe hQ
    rw [show c.start = (sPlay c (tS t) coal want 0).1 from rfl]
    generalize (sPlay c (tS t) coal want (0)).1 = x at hx1 hx2 hQ ⊢
    have hp0 : 0 ≤ gi coal (0 : Nat) * t.heat := Int.mul_nonneg hcc.1 hhe.1
    have hp9 : gi coal (0 : Nat) * t.heat ≤ 3 * 99 := Int.mul_le_mul hcc.2 hhe.2 hhe.1 (by omega)
    try simp only [gos, if_true, if_false, ne_eq, eq_self, Nat.reduceLT, Nat.reduceEqDiff, Nat.reduceAdd, Nat.reduceMul, Nat.reduceLeDiff, Nat.reduceBEq, reduceCtorEq, reduceIte, Array.toList, ↓reduceIte, tt, vgo, vout, vgoD, voutD, vclsOk, vids, mayWrite, V.ids, V.mids, vguard, callOf, vop, ev, cv, vbin, vint, isShift, isNilConst, vnil, isNilSlice, vload, vlen, newRow, vfill, vslice, entOf, vappend, srcOf, vcopy, vlookup, vupdate, mapOk, keyOf, intsOf, clsAt]
    refine Wr.draw (by kernel_rfl) ?_
    simp only [gos, if_true, if_false, ne_eq, eq_self, Nat.reduceLT, Nat.reduceEqDiff, Nat.reduceAdd, Nat.reduceMul, Nat.reduceLeDiff, Nat.reduceBEq, reduceCtorEq, reduceIte, Array.toList, ↓reduceIte, tt, vgo, vout, vgoD, voutD, vclsOk, vids, mayWrite, V.ids, V.mids, vguard, callOf, vop, ev, cv, vbin, vint, isShift, isNilConst, vnil, isNilSlice, vload, vlen, newRow, vfill, vslice, entOf, vappend, srcOf, vcopy, vlookup, vupdate, mapOk, keyOf, intsOf, clsAt, vI, hcl, hll, cI_at (Int.natCast_nonneg _) hcl, cI_at (Int.natCast_nonneg _) hll, Tr2.cs, i64_in (show -9223372036854775808 ≤ gi coal (0 : Nat) * t.heat by omega) (show gi coal (0 : Nat) * t.heat ≤ 9223372036854775807 by omega), i64_in (show -9223372036854775808 ≤ x + gi coal (0 : Nat) * t.heat by omega) (show x + gi coal (0 : Nat) * t.heat ≤ 9223372036854775807 by omega)]
    rw [i64_in (show -9223372036854775808 ≤ min c.most (x + gi coal (0 : Nat) * t.heat) - gi t.loss (0 : Nat) by omega) (show min c.most (x + gi coal (0 : Nat) * t.heat) - gi t.loss (0 : Nat) ≤ 9223372036854775807 by omega)]
    subst hQ
    exact FnPost.plain trivial (fun h2 e => by first | rfl | (simp only [Try.f95, vres, vresL, vres1, e _, gos, if_true, if_false, ne_eq, eq_self, Nat.reduceLT, Nat.reduceEqDiff, Nat.reduceAdd, Nat.reduceMul, Nat.reduceLeDiff, Nat.reduceBEq, reduceCtorEq, reduceIte, Array.toList, ↓reduceIte, tt, vgo, vout, vgoD, voutD, vclsOk, vids, mayWrite, V.ids, V.mids, vguard, callOf, vop, ev, cv, vbin, vint, isShift, isNilConst, vnil, isNilSlice, vload, vlen, newRow, vfill, vslice, entOf, vappend, srcOf, vcopy, vlookup, vupdate, mapOk, keyOf, intsOf, clsAt]; try rfl)) (WkV.pure (by simp only [V.into, intoL, cB_into, vB_into, cI_into, cR_into, cD_into, cS_into, vS_into, vI_into, vR_into, vD_into, cu_into, Bool.true_and, Bool.and_true])) ⟨rfl, rfl⟩
  | succ i ih =>
    intro hi
    have eL := c_rLeft_of c t coal want k i (by omega) (ih (by omega))
    refine Ev.fn Try.func95 rfl rfl (Fn.body tabOk Try.func95 rfl (Nat.le_of_ble_eq_true rfl) (Ks.ok (fz := (fzn [])) (cl := (cln [(4, .d tg0 [cP, cP, cP, cP, cP, cP, cP, cP, cP, cP, cP, cP, cP, cP, cP, cP, cP, cP, cP, cP])])) tabOk mixed ?_))
    generalize hQ : FnPost tt Try.f95 _ _ = Q
    simp only [Try.f95, List.nil_append, List.append_nil, List.cons_append, argsEnv, Nat.reduceAdd]
    have hts : t.cs.take 2 = t.cs := rfl
    have htn : t.cs.length = 2 := rfl
    have h0 : decide (0 < ((i + 1 : Nat) : Int)) = true := by rw [decide_eq_true_eq]; omega
    have h1 : IntKind.i64.wrap (((i + 1 : Nat) : Int) - 1) = (i : Int) := by rw [i64_in (by omega) (by omega)]; omega
    simp only [gos, if_true, if_false, ne_eq, eq_self, Nat.reduceLT, Nat.reduceEqDiff, Nat.reduceAdd, Nat.reduceMul, Nat.reduceLeDiff, Nat.reduceBEq, reduceCtorEq, reduceIte, Array.toList, ↓reduceIte, tt, vgo, vout, vgoD, voutD, vclsOk, vids, mayWrite, V.ids, V.mids, vguard, callOf, vop, ev, cv, vbin, vint, isShift, isNilConst, vnil, isNilSlice, vload, vlen, newRow, vfill, vslice, entOf, vappend, srcOf, vcopy, vlookup, vupdate, mapOk, keyOf, intsOf, clsAt, hts, htn, h0, h1]
    refine Cl.pu eL ?_ rfl (by simp only [V.into, intoL, cB_into, vB_into, cI_into, cR_into, cD_into, cS_into, vS_into, vI_into, vR_into, vD_into, cu_into, Bool.true_and, Bool.and_true, Tr2.cs])
    have hm := k.play.most
    have hst := k.play.start
    have hcl : (((i + 1 : Nat) : Int) : Int) < coal.length := by have := k.play.coal.1; omega
    have hll : (((i + 1 : Nat) : Int) : Int) < t.loss.length := by have := k.len; omega
    have hcc := k.play.coal.2 _ (gi_mem (l := coal) (i := i + 1) (by omega))
    have hlo := k.play.loss.2 _ (gi_mem (l := (tS t).loss) (i := i + 1) (by have := k.play.loss.1; omega))
    have hhe := k.play.heat
    have hx := (sPlay_inv k.play (i + 1) (by omega))
    have hx1 := hx.1
    have hx2 := hx.2.1
    have e1 : gi (tS t).loss (i + 1 : Nat) = gi t.loss (i + 1 : Nat) := pad5_gi _ _
    have e2 : (tS t).heat = t.heat := rfl
    have hsh : sHeat c (tS t) coal want (i + 1) = max 0 (min c.most ((sPlay c (tS t) coal want (i + 1)).1 + gi coal (i + 1 : Nat) * (tS t).heat) - gi (tS t).loss (i + 1 : Nat)) := rfl
    rw [hsh] at hQ
    rw [e1] at hlo hQ
    rw [e2] at hhe hQ
    generalize (sPlay c (tS t) coal want (i + 1)).1 = x at hx1 hx2 hQ ⊢
    have hp0 : 0 ≤ gi coal (i + 1 : Nat) * t.heat := Int.mul_nonneg hcc.1 hhe.1
    have hp9 : gi coal (i + 1 : Nat) * t.heat ≤ 3 * 99 := Int.mul_le_mul hcc.2 hhe.2 hhe.1 (by omega)
    try simp only [gos, if_true, if_false, ne_eq, eq_self, Nat.reduceLT, Nat.reduceEqDiff, Nat.reduceAdd, Nat.reduceMul, Nat.reduceLeDiff, Nat.reduceBEq, reduceCtorEq, reduceIte, Array.toList, ↓reduceIte, tt, vgo, vout, vgoD, voutD, vclsOk, vids, mayWrite, V.ids, V.mids, vguard, callOf, vop, ev, cv, vbin, vint, isShift, isNilConst, vnil, isNilSlice, vload, vlen, newRow, vfill, vslice, entOf, vappend, srcOf, vcopy, vlookup, vupdate, mapOk, keyOf, intsOf, clsAt]
    refine Wr.draw (by kernel_rfl) ?_
    simp only [gos, if_true, if_false, ne_eq, eq_self, Nat.reduceLT, Nat.reduceEqDiff, Nat.reduceAdd, Nat.reduceMul, Nat.reduceLeDiff, Nat.reduceBEq, reduceCtorEq, reduceIte, Array.toList, ↓reduceIte, tt, vgo, vout, vgoD, voutD, vclsOk, vids, mayWrite, V.ids, V.mids, vguard, callOf, vop, ev, cv, vbin, vint, isShift, isNilConst, vnil, isNilSlice, vload, vlen, newRow, vfill, vslice, entOf, vappend, srcOf, vcopy, vlookup, vupdate, mapOk, keyOf, intsOf, clsAt, vI, hcl, hll, cI_at (Int.natCast_nonneg _) hcl, cI_at (Int.natCast_nonneg _) hll, Tr2.cs, i64_in (show -9223372036854775808 ≤ gi coal (i + 1 : Nat) * t.heat by omega) (show gi coal (i + 1 : Nat) * t.heat ≤ 9223372036854775807 by omega), i64_in (show -9223372036854775808 ≤ x + gi coal (i + 1 : Nat) * t.heat by omega) (show x + gi coal (i + 1 : Nat) * t.heat ≤ 9223372036854775807 by omega)]
    rw [i64_in (show -9223372036854775808 ≤ min c.most (x + gi coal (i + 1 : Nat) * t.heat) - gi t.loss (i + 1 : Nat) by omega) (show min c.most (x + gi coal (i + 1 : Nat) * t.heat) - gi t.loss (i + 1 : Nat) ≤ 9223372036854775807 by omega)]
    subst hQ
    exact FnPost.plain trivial (fun h2 e => by first | rfl | (simp only [Try.f95, vres, vresL, vres1, e _, gos, if_true, if_false, ne_eq, eq_self, Nat.reduceLT, Nat.reduceEqDiff, Nat.reduceAdd, Nat.reduceMul, Nat.reduceLeDiff, Nat.reduceBEq, reduceCtorEq, reduceIte, Array.toList, ↓reduceIte, tt, vgo, vout, vgoD, voutD, vclsOk, vids, mayWrite, V.ids, V.mids, vguard, callOf, vop, ev, cv, vbin, vint, isShift, isNilConst, vnil, isNilSlice, vload, vlen, newRow, vfill, vslice, entOf, vappend, srcOf, vcopy, vlookup, vupdate, mapOk, keyOf, intsOf, clsAt]; try rfl)) (WkV.pure (by simp only [V.into, intoL, cB_into, vB_into, cI_into, cR_into, cD_into, cS_into, vS_into, vI_into, vR_into, vD_into, cu_into, Bool.true_and, Bool.and_true])) ⟨rfl, rfl⟩
theorem c_rLeft (c : Cu) (t : Tr2) (coal want : List Int) (k : TrOk c t coal want) (i : Nat) (hi : (i : Int) ≤ c.last) : Pu Try.prog (.fn 45 [] []) [.agg c.cs, .agg t.cs, vI coal, vI want, vi i] (vi (sPlay c (tS t) coal want (i + 1)).1) :=
  c_rLeft_of c t coal want k i hi (c_rHeat c t coal want k i hi)
theorem c_rHot (c : Cu) (t : Tr2) (coal want : List Int) (k : TrOk c t coal want) (i : Nat) (hi : (i : Int) ≤ c.last) : Pu Try.prog (.fn 44 [] []) [.agg c.cs, .agg t.cs, vI coal, vI want, vi i] (vi ((sHeat c (tS t) coal want i).tdiv c.per)) := by
  refine Ev.fn Try.func44 rfl rfl (Fn.body tabOk Try.func44 rfl (Nat.le_of_ble_eq_true rfl) (Ks.ok (fz := (fzn [])) (cl := (cln [(1, .d tg0 [cP, cP, cP, cP, cP, cP, cP, cP, cP, cP])])) tabOk mixed ?_))
  generalize hQ : FnPost tt Try.f44 _ _ = Q
  simp only [Try.f44, List.nil_append, List.append_nil, List.cons_append, argsEnv, Nat.reduceAdd]
  have hts : t.cs.take 2 = t.cs := rfl
  have htn : t.cs.length = 2 := rfl
  simp only [gos, if_true, if_false, ne_eq, eq_self, Nat.reduceLT, Nat.reduceEqDiff, Nat.reduceAdd, Nat.reduceMul, Nat.reduceLeDiff, Nat.reduceBEq, reduceCtorEq, reduceIte, Array.toList, ↓reduceIte, tt, vgo, vout, vgoD, voutD, vclsOk, vids, mayWrite, V.ids, V.mids, vguard, callOf, vop, ev, cv, vbin, vint, isShift, isNilConst, vnil, isNilSlice, vload, vlen, newRow, vfill, vslice, entOf, vappend, srcOf, vcopy, vlookup, vupdate, mapOk, keyOf, intsOf, clsAt]
  refine Wr.draw (by kernel_rfl) ?_
  simp only [gos, if_true, if_false, ne_eq, eq_self, Nat.reduceLT, Nat.reduceEqDiff, Nat.reduceAdd, Nat.reduceMul, Nat.reduceLeDiff, Nat.reduceBEq, reduceCtorEq, reduceIte, Array.toList, ↓reduceIte, tt, vgo, vout, vgoD, voutD, vclsOk, vids, mayWrite, V.ids, V.mids, vguard, callOf, vop, ev, cv, vbin, vint, isShift, isNilConst, vnil, isNilSlice, vload, vlen, newRow, vfill, vslice, entOf, vappend, srcOf, vcopy, vlookup, vupdate, mapOk, keyOf, intsOf, clsAt, hts, htn]
  refine CD.pu (c_rHeat c t coal want k i hi) ?_ rfl (by simp only [V.into, intoL, cB_into, vB_into, cI_into, cR_into, cD_into, cS_into, vS_into, vI_into, vR_into, vD_into, cu_into, Bool.true_and, Bool.and_true, Tr2.cs])
  have hh := sHeat_le k.play hi
  have hper := k.play.per
  have hpos : ¬ c.per = 0 := by omega
  have hd0 : 0 ≤ (sHeat c (tS t) coal want i).tdiv c.per := Int.tdiv_nonneg hh.1 (by omega)
  have hd9 : (sHeat c (tS t) coal want i).tdiv c.per ≤ 999 := by have := Int.tdiv_le_self c.per hh.1; omega
  simp only [gos, if_true, if_false, ne_eq, eq_self, Nat.reduceLT, Nat.reduceEqDiff, Nat.reduceAdd, Nat.reduceMul, Nat.reduceLeDiff, Nat.reduceBEq, reduceCtorEq, reduceIte, Array.toList, ↓reduceIte, tt, vgo, vout, vgoD, voutD, vclsOk, vids, mayWrite, V.ids, V.mids, vguard, callOf, vop, ev, cv, vbin, vint, isShift, isNilConst, vnil, isNilSlice, vload, vlen, newRow, vfill, vslice, entOf, vappend, srcOf, vcopy, vlookup, vupdate, mapOk, keyOf, intsOf, clsAt, hpos, i64_in (show -9223372036854775808 ≤ (sHeat c (tS t) coal want i).tdiv c.per by omega) (show (sHeat c (tS t) coal want i).tdiv c.per ≤ 9223372036854775807 by omega)]
  subst hQ
  exact FnPost.plain trivial (fun h2 e => by first | rfl | (simp only [Try.f44, vres, vresL, vres1, e _, gos, if_true, if_false, ne_eq, eq_self, Nat.reduceLT, Nat.reduceEqDiff, Nat.reduceAdd, Nat.reduceMul, Nat.reduceLeDiff, Nat.reduceBEq, reduceCtorEq, reduceIte, Array.toList, ↓reduceIte, tt, vgo, vout, vgoD, voutD, vclsOk, vids, mayWrite, V.ids, V.mids, vguard, callOf, vop, ev, cv, vbin, vint, isShift, isNilConst, vnil, isNilSlice, vload, vlen, newRow, vfill, vslice, entOf, vappend, srcOf, vcopy, vlookup, vupdate, mapOk, keyOf, intsOf, clsAt]; try rfl)) (WkV.pure (by simp only [V.into, intoL, cB_into, vB_into, cI_into, cR_into, cD_into, cS_into, vS_into, vI_into, vR_into, vD_into, cu_into, Bool.true_and, Bool.and_true])) ⟨rfl, rfl⟩
theorem c_rKept (c : Cu) (t : Tr2) (coal want : List Int) (k : TrOk c t coal want) (i : Nat) (hi : (i : Int) ≤ c.last) : Pu Try.prog (.fn 117 [] []) [.agg c.cs, .agg t.cs, vI coal, vI want, vi i] (.bool (decide (gi want i ≤ (sHeat c (tS t) coal want i).tdiv c.per))) := by
  refine Ev.fn Try.func117 rfl rfl (Fn.body tabOk Try.func117 rfl (Nat.le_of_ble_eq_true rfl) (Ks.ok (fz := (fzn [])) (cl := (cln [(1, .d tg0 [cP, cP, cP, cP, cP, cP, cP, cP, cP, cP, cP, cP])])) tabOk mixed ?_))
  generalize hQ : FnPost tt Try.f117 _ _ = Q
  simp only [Try.f117, List.nil_append, List.append_nil, List.cons_append, argsEnv, Nat.reduceAdd]
  have hts : t.cs.take 2 = t.cs := rfl
  have htn : t.cs.length = 2 := rfl
  simp only [gos, if_true, if_false, ne_eq, eq_self, Nat.reduceLT, Nat.reduceEqDiff, Nat.reduceAdd, Nat.reduceMul, Nat.reduceLeDiff, Nat.reduceBEq, reduceCtorEq, reduceIte, Array.toList, ↓reduceIte, tt, vgo, vout, vgoD, voutD, vclsOk, vids, mayWrite, V.ids, V.mids, vguard, callOf, vop, ev, cv, vbin, vint, isShift, isNilConst, vnil, isNilSlice, vload, vlen, newRow, vfill, vslice, entOf, vappend, srcOf, vcopy, vlookup, vupdate, mapOk, keyOf, intsOf, clsAt]
  refine Wr.draw (by kernel_rfl) ?_
  simp only [gos, if_true, if_false, ne_eq, eq_self, Nat.reduceLT, Nat.reduceEqDiff, Nat.reduceAdd, Nat.reduceMul, Nat.reduceLeDiff, Nat.reduceBEq, reduceCtorEq, reduceIte, Array.toList, ↓reduceIte, tt, vgo, vout, vgoD, voutD, vclsOk, vids, mayWrite, V.ids, V.mids, vguard, callOf, vop, ev, cv, vbin, vint, isShift, isNilConst, vnil, isNilSlice, vload, vlen, newRow, vfill, vslice, entOf, vappend, srcOf, vcopy, vlookup, vupdate, mapOk, keyOf, intsOf, clsAt, hts, htn]
  refine CD.pu (c_rHot c t coal want k i hi) ?_ rfl (by simp only [V.into, intoL, cB_into, vB_into, cI_into, cR_into, cD_into, cS_into, vS_into, vI_into, vR_into, vD_into, cu_into, Bool.true_and, Bool.and_true, Tr2.cs])
  have hw : (i : Int) < want.length := by have := k.play.want.1; omega
  simp only [gos, if_true, if_false, ne_eq, eq_self, Nat.reduceLT, Nat.reduceEqDiff, Nat.reduceAdd, Nat.reduceMul, Nat.reduceLeDiff, Nat.reduceBEq, reduceCtorEq, reduceIte, Array.toList, ↓reduceIte, tt, vgo, vout, vgoD, voutD, vclsOk, vids, mayWrite, V.ids, V.mids, vguard, callOf, vop, ev, cv, vbin, vint, isShift, isNilConst, vnil, isNilSlice, vload, vlen, newRow, vfill, vslice, entOf, vappend, srcOf, vcopy, vlookup, vupdate, mapOk, keyOf, intsOf, clsAt, vI, hw, cI_at (Int.natCast_nonneg i) hw]
  subst hQ
  exact FnPost.plain trivial (fun h2 e => by first | rfl | (simp only [Try.f117, vres, vresL, vres1, e _, gos, if_true, if_false, ne_eq, eq_self, Nat.reduceLT, Nat.reduceEqDiff, Nat.reduceAdd, Nat.reduceMul, Nat.reduceLeDiff, Nat.reduceBEq, reduceCtorEq, reduceIte, Array.toList, ↓reduceIte, tt, vgo, vout, vgoD, voutD, vclsOk, vids, mayWrite, V.ids, V.mids, vguard, callOf, vop, ev, cv, vbin, vint, isShift, isNilConst, vnil, isNilSlice, vload, vlen, newRow, vfill, vslice, entOf, vappend, srcOf, vcopy, vlookup, vupdate, mapOk, keyOf, intsOf, clsAt]; try rfl)) (WkV.pure (by simp only [V.into, intoL, cB_into, vB_into, cI_into, cR_into, cD_into, cS_into, vS_into, vI_into, vR_into, vD_into, cu_into, Bool.true_and, Bool.and_true])) ⟨rfl, rfl⟩
end Go.Vm
set_option linter.unusedVariables false
set_option linter.unusedSimpArgs false
set_option maxRecDepth 100000
namespace Go.Vm
open Go.Proofs
/-! ### the reference: the truth with a number -/
def nthL : List Rg → Int → List Int
  | [], _ => []
  | r :: l, n => (r.lo + n.tmod (sSize r)) :: nthL l (n.tdiv (sSize r))
def nthQ : List Rg → Int → Int
  | [], n => n
  | r :: l, n => nthQ l (n.tdiv (sSize r))
theorem nthL_snoc : ∀ (l : List Rg) (r : Rg) (n : Int), nthL (l ++ [r]) n = nthL l n ++ [r.lo + (nthQ l n).tmod (sSize r)]
  | [], r, n => rfl
  | x :: l, r, n => by simp only [List.cons_append, nthL, nthQ, nthL_snoc l r]
theorem nthQ_snoc : ∀ (l : List Rg) (r : Rg) (n : Int), nthQ (l ++ [r]) n = (nthQ l n).tdiv (sSize r)
  | [], r, n => rfl
  | x :: l, r, n => by simp only [List.cons_append, nthQ, nthQ_snoc l r]
theorem nthL_len : ∀ (l : List Rg) (n : Int), (nthL l n).length = l.length
  | [], _ => rfl
  | r :: l, n => by simp [nthL, nthL_len l]
theorem nthQ_le : ∀ (l : List Rg) (n : Int), 0 ≤ n → (∀ r ∈ l, 1 ≤ sSize r) → 0 ≤ nthQ l n ∧ nthQ l n ≤ n
  | [], n, h, _ => ⟨h, Int.le_refl _⟩
  | r :: l, n, h, hs => by
    have h1 := hs r (by simp)
    have h2 : 0 ≤ n.tdiv (sSize r) := Int.tdiv_nonneg h (by omega)
    have h3 := Int.tdiv_le_self (sSize r) h
    have := nthQ_le l (n.tdiv (sSize r)) h2 fun x hx => hs x (by simp [hx])
    simp only [nthQ]; omega
theorem take_snocR {l : List Rg} {i : Nat} (h : (i : Int) < l.length) : l.take (i + 1) = l.take i ++ [gR l i] := by rw [List.take_add_one, gR_get h]; rfl
def rNth (c : Cu) (n : Int) : Tr2 := ⟨c.heat.lo + n.tmod (sSize c.heat), nthL c.loss (n.tdiv (sSize c.heat))⟩
theorem tmod_le {n s : Int} (h : 0 ≤ n) (hs : 1 ≤ s) : 0 ≤ n.tmod s ∧ n.tmod s ≤ s - 1 := by
  have h1 := Int.tmod_nonneg s h
  have h2 := Int.tmod_lt_of_pos n (b := s) (by omega)
  omega
theorem wk_nth (i : Nat) (x y : Int) (l : List Int) (h : l.length = i) : WkV (domP []) (.agg [vi x, .own 45 i 0 1 i]) [(4, ⟨0, .row [vi x, .own 45 i 0 1 i]⟩), (5, ⟨0, .row [vi x, .own 45 i 0 1 i]⟩), (45, ⟨i, .row (cI l)⟩)] (.agg [vi x, vI l]) [] := by
  have e1 : (cI l).take i = cI l := List.take_of_length_le (by rw [cI_len]; omega)
  refine WkV.frz 45 (v' := .agg [vi x, .ro i (cI l)]) (h' := [(4, ⟨0, .row [vi x, .ro i (cI l)]⟩), (5, ⟨0, .row [vi x, .ro i (cI l)]⟩)]) (ver := i) (cs := cI l) rfl rfl (cI_into _ _) rfl ?_ ?_ ?_
  · simp [V.frz, frzL, e1]
  · simp [frzH, Blk.frz, V.frz, frzL, e1]
  have : V.agg [vi x, vI l] = .agg [vi x, .ro i (cI l)] := by simp only [vI, h]
  rw [this]
  exact WkV.pure (by simp only [V.into, intoL, cB_into, vB_into, cI_into, cR_into, cD_into, cS_into, vS_into, vI_into, vR_into, vD_into, cu_into, Bool.true_and, Bool.and_true])
set_option maxHeartbeats 2000000 in
theorem c_rNth (c : Cu) (k0 : CuOk c) (n : Int) (hn : 0 ≤ n ∧ n ≤ 100000) : Pu Try.prog (.fn 46 [] []) [.agg c.cs, vi n] (.agg (rNth c n).cs) := by
  have hll := k0.loss.1
  have hlast := k0.last
  have hin := k0.heat
  have hz := size_le hin
  simp only [sInside, Bool.and_eq_true, decide_eq_true_eq] at hin
  have hs : ∀ r ∈ c.loss, 1 ≤ sSize r := fun r hr => (size_le (k0.loss.2 r hr)).1
  refine Ev.fn Try.func46 rfl rfl (Fn.body tabOk Try.func46 rfl (Nat.le_of_ble_eq_true rfl) (Ks.ok (fz := (fzn [4, 5, 7])) (cl := (cln [(1, .d tg0 [cP, cP, cP, cP, cP, cP, cP, cP, cP, cP, cW, cW]), (7, .d (tgL [(45, 1)]) [cP, cL, cP, cL, cP, cL, cP, cP, cP, cP, some ([1], [1]), cP, cW])])) tabOk mixed ?_))
  generalize hQ : FnPost tt Try.f46 _ _ = Q
  simp only [Try.f46, List.nil_append, List.append_nil, List.cons_append, argsEnv, Nat.reduceAdd]
  simp only [gos, if_true, if_false, ne_eq, eq_self, Nat.reduceLT, Nat.reduceEqDiff, Nat.reduceAdd, Nat.reduceMul, Nat.reduceLeDiff, Nat.reduceBEq, reduceCtorEq, reduceIte, Array.toList, ↓reduceIte, tt, vgo, vout, vgoD, voutD, vclsOk, vids, mayWrite, V.ids, V.mids, vguard, callOf, vop, ev, cv, vbin, vint, isShift, isNilConst, vnil, isNilSlice, vload, vlen, newRow, vfill, vslice, entOf, vappend, srcOf, vcopy, vlookup, vupdate, mapOk, keyOf, intsOf, clsAt]
  refine Wr.draw (by kernel_rfl) ?_
  simp only [gos, if_true, if_false, ne_eq, eq_self, Nat.reduceLT, Nat.reduceEqDiff, Nat.reduceAdd, Nat.reduceMul, Nat.reduceLeDiff, Nat.reduceBEq, reduceCtorEq, reduceIte, Array.toList, ↓reduceIte, tt, vgo, vout, vgoD, voutD, vclsOk, vids, mayWrite, V.ids, V.mids, vguard, callOf, vop, ev, cv, vbin, vint, isShift, isNilConst, vnil, isNilSlice, vload, vlen, newRow, vfill, vslice, entOf, vappend, srcOf, vcopy, vlookup, vupdate, mapOk, keyOf, intsOf, clsAt]
  refine CD.pu (c_rSize c.heat ⟨by omega, by omega⟩ ⟨by omega, by omega⟩) ?_
  have hs0 : ¬ sSize c.heat = 0 := by omega
  have hm := tmod_le hn.1 hz.1
  have hd0 : 0 ≤ n.tdiv (sSize c.heat) := Int.tdiv_nonneg hn.1 (by omega)
  have hd9 := Int.tdiv_le_self (sSize c.heat) hn.1
  simp only [gos, if_true, if_false, ne_eq, eq_self, Nat.reduceLT, Nat.reduceEqDiff, Nat.reduceAdd, Nat.reduceMul, Nat.reduceLeDiff, Nat.reduceBEq, reduceCtorEq, reduceIte, Array.toList, ↓reduceIte, tt, vgo, vout, vgoD, voutD, vclsOk, vids, mayWrite, V.ids, V.mids, vguard, callOf, vop, ev, cv, vbin, vint, isShift, isNilConst, vnil, isNilSlice, vload, vlen, newRow, vfill, vslice, entOf, vappend, srcOf, vcopy, vlookup, vupdate, mapOk, keyOf, intsOf, clsAt, hs0, i64_in (show -9223372036854775808 ≤ c.heat.lo + n.tmod (sSize c.heat) by omega) (show c.heat.lo + n.tmod (sSize c.heat) ≤ 9223372036854775807 by omega)]
  refine Cl.pu (c_rSize c.heat ⟨by omega, by omega⟩ ⟨by omega, by omega⟩) ?_
  simp only [gos, if_true, if_false, ne_eq, eq_self, Nat.reduceLT, Nat.reduceEqDiff, Nat.reduceAdd, Nat.reduceMul, Nat.reduceLeDiff, Nat.reduceBEq, reduceCtorEq, reduceIte, Array.toList, ↓reduceIte, tt, vgo, vout, vgoD, voutD, vclsOk, vids, mayWrite, V.ids, V.mids, vguard, callOf, vop, ev, cv, vbin, vint, isShift, isNilConst, vnil, isNilSlice, vload, vlen, newRow, vfill, vslice, entOf, vappend, srcOf, vcopy, vlookup, vupdate, mapOk, keyOf, intsOf, clsAt, hs0, i64_in (show -9223372036854775808 ≤ n.tdiv (sSize c.heat) by omega) (show n.tdiv (sSize c.heat) ≤ 9223372036854775807 by omega)]
  refine W.loop tabOk mixed (fun i : Nat => ([(1, vi (nthQ (c.loss.take i) (n.tdiv (sSize c.heat)))), (2, .rop c.cs), (4, .ptr 4 0 0), (5, .ptr 5 0 0), (6, vi i)], [(4, ⟨0, .row [vi 0, .sl0]⟩), (5, ⟨0, .row [vi (c.heat.lo + n.tmod (sSize c.heat)), .own 45 i 0 1 i]⟩), (45, ⟨i, .row (cI (nthL (c.loss.take i) (n.tdiv (sSize c.heat))))⟩)])) (fun i => c.loss.length - i) (fun i => i ≤ c.loss.length) 0 (by omega)
    (Wk.trans (Wk.sl0H 5 1 45 1 rfl rfl rfl) (Wk.env (by simp [subE, Env.get, nthQ]))) ?_
  intro i hi
  by_cases hil : (i : Int) < c.loss.length
  · have hir := size_le (k0.loss.2 _ (List.mem_of_getElem? (gR_get hil)))
    have hirl := k0.loss.2 _ (List.mem_of_getElem? (gR_get hil))
    simp only [sInside, Bool.and_eq_true, decide_eq_true_eq] at hirl
    have hq := nthQ_le (c.loss.take i) (n.tdiv (sSize c.heat)) hd0 fun r hr => hs r (List.mem_of_mem_take hr)
    have hmm := tmod_le hq.1 hir.1
    have hn1 : (cI (nthL (c.loss.take i) (n.tdiv (sSize c.heat)))).length = i := by rw [cI_len, nthL_len, List.length_take]; omega
    have hi9 : i ≤ 999999 := by omega
    have hs1 : ¬ sSize (gR c.loss i) = 0 := by omega
    simp only [gos, if_true, if_false, ne_eq, eq_self, Nat.reduceLT, Nat.reduceEqDiff, Nat.reduceAdd, Nat.reduceMul, Nat.reduceLeDiff, Nat.reduceBEq, reduceCtorEq, reduceIte, Array.toList, ↓reduceIte, tt, vgo, vout, vgoD, voutD, vclsOk, vids, mayWrite, V.ids, V.mids, vguard, callOf, vop, ev, cv, vbin, vint, isShift, isNilConst, vnil, isNilSlice, vload, vlen, newRow, vfill, vslice, entOf, vappend, srcOf, vcopy, vlookup, vupdate, mapOk, keyOf, intsOf, clsAt, vR, hil, cR_at (Int.natCast_nonneg i) hil]
    refine Wr.draw (by kernel_rfl) ?_
    simp only [gos, if_true, if_false, ne_eq, eq_self, Nat.reduceLT, Nat.reduceEqDiff, Nat.reduceAdd, Nat.reduceMul, Nat.reduceLeDiff, Nat.reduceBEq, reduceCtorEq, reduceIte, Array.toList, ↓reduceIte, tt, vgo, vout, vgoD, voutD, vclsOk, vids, mayWrite, V.ids, V.mids, vguard, callOf, vop, ev, cv, vbin, vint, isShift, isNilConst, vnil, isNilSlice, vload, vlen, newRow, vfill, vslice, entOf, vappend, srcOf, vcopy, vlookup, vupdate, mapOk, keyOf, intsOf, clsAt]
    refine CD.pu (c_rSize (gR c.loss i) ⟨by omega, by omega⟩ ⟨by omega, by omega⟩) ?_
    have hQL : nthL (c.loss.take (i + 1)) (n.tdiv (sSize c.heat)) = nthL (c.loss.take i) (n.tdiv (sSize c.heat)) ++ [(gR c.loss i).lo + (nthQ (c.loss.take i) (n.tdiv (sSize c.heat))).tmod (sSize (gR c.loss i))] := by rw [take_snocR hil, nthL_snoc]
    have hQQ : nthQ (c.loss.take (i + 1)) (n.tdiv (sSize c.heat)) = (nthQ (c.loss.take i) (n.tdiv (sSize c.heat))).tdiv (sSize (gR c.loss i)) := by rw [take_snocR hil, nthQ_snoc]
    generalize nthQ (c.loss.take i) (n.tdiv (sSize c.heat)) = q at hq hmm hQL hQQ ⊢
    have hq0 : 0 ≤ q.tdiv (sSize (gR c.loss i)) := Int.tdiv_nonneg hq.1 (by omega)
    have hq9 := Int.tdiv_le_self (sSize (gR c.loss i)) hq.1
    simp only [gos, if_true, if_false, ne_eq, eq_self, Nat.reduceLT, Nat.reduceEqDiff, Nat.reduceAdd, Nat.reduceMul, Nat.reduceLeDiff, Nat.reduceBEq, reduceCtorEq, reduceIte, Array.toList, ↓reduceIte, tt, vgo, vout, vgoD, voutD, vclsOk, vids, mayWrite, V.ids, V.mids, vguard, callOf, vop, ev, cv, vbin, vint, isShift, isNilConst, vnil, isNilSlice, vload, vlen, newRow, vfill, vslice, entOf, vappend, srcOf, vcopy, vlookup, vupdate, mapOk, keyOf, intsOf, clsAt, hs1, hn1, hi9, Nat.mul_one, i64_in (show -9223372036854775808 ≤ (gR c.loss i).lo + q.tmod (sSize (gR c.loss i)) by omega) (show (gR c.loss i).lo + q.tmod (sSize (gR c.loss i)) ≤ 9223372036854775807 by omega)]
    refine Cl.pu (c_rSize (gR c.loss i) ⟨by omega, by omega⟩ ⟨by omega, by omega⟩) ?_
    simp only [gos, if_true, if_false, ne_eq, eq_self, Nat.reduceLT, Nat.reduceEqDiff, Nat.reduceAdd, Nat.reduceMul, Nat.reduceLeDiff, Nat.reduceBEq, reduceCtorEq, reduceIte, Array.toList, ↓reduceIte, tt, vgo, vout, vgoD, voutD, vclsOk, vids, mayWrite, V.ids, V.mids, vguard, callOf, vop, ev, cv, vbin, vint, isShift, isNilConst, vnil, isNilSlice, vload, vlen, newRow, vfill, vslice, entOf, vappend, srcOf, vcopy, vlookup, vupdate, mapOk, keyOf, intsOf, clsAt, hs1, i64_in (show -9223372036854775808 ≤ q.tdiv (sSize (gR c.loss i)) by omega) (show q.tdiv (sSize (gR c.loss i)) ≤ 9223372036854775807 by omega)]
    refine Nx.mk (i + 1) (show c.loss.length - (i + 1) < c.loss.length - i by omega) (by omega) (Wk.forget ?_ ?_ (fun j hp => by simp [orD, domP, Heap.get] at hp) ?_ ?_)
    · simp [subE, Env.get, hQQ, i64_succ (show (i : Int) < 9223372036854775807 by omega)]
    · rw [hQL, cI_snoc]
      simp [subH, Heap.get]
    · simp only [intoE, V.into, intoL, cB_into, vB_into, cI_into, cR_into, cD_into, cS_into, vS_into, vI_into, vR_into, vD_into, cu_into, Bool.true_and, Bool.and_true, domP, Heap.get]; rfl
    · simp only [intoH, Blk.into, V.into, intoL, cB_into, vB_into, cI_into, cR_into, cD_into, cS_into, vS_into, vI_into, vR_into, vD_into, cu_into, Bool.true_and, Bool.and_true, domP, Heap.get]; rfl
  · have hie : i = c.loss.length := by omega
    have e : c.loss.take i = c.loss := List.take_of_length_le (by omega)
    simp only [gos, if_true, if_false, ne_eq, eq_self, Nat.reduceLT, Nat.reduceEqDiff, Nat.reduceAdd, Nat.reduceMul, Nat.reduceLeDiff, Nat.reduceBEq, reduceCtorEq, reduceIte, Array.toList, ↓reduceIte, tt, vgo, vout, vgoD, voutD, vclsOk, vids, mayWrite, V.ids, V.mids, vguard, callOf, vop, ev, cv, vbin, vint, isShift, isNilConst, vnil, isNilSlice, vload, vlen, newRow, vfill, vslice, entOf, vappend, srcOf, vcopy, vlookup, vupdate, mapOk, keyOf, intsOf, clsAt, vR, hil]
    rw [e]
    have hl := nthL_len c.loss (n.tdiv (sSize c.heat))
    subst hQ
    exact FnPost.plain trivial (v := .agg [vi (c.heat.lo + n.tmod (sSize c.heat)), .own 45 i 0 1 i]) (fun h2 e => by simp only [Try.f46, vres, vresL, vres1, gos, if_true, if_false, ne_eq, eq_self, Nat.reduceLT, Nat.reduceEqDiff, Nat.reduceAdd, Nat.reduceMul, Nat.reduceLeDiff, Nat.reduceBEq, reduceCtorEq, reduceIte, Array.toList, ↓reduceIte, tt, vgo, vout, vgoD, voutD, vclsOk, vids, mayWrite, V.ids, V.mids, vguard, callOf, vop, ev, cv, vbin, vint, isShift, isNilConst, vnil, isNilSlice, vload, vlen, newRow, vfill, vslice, entOf, vappend, srcOf, vcopy, vlookup, vupdate, mapOk, keyOf, intsOf, clsAt, e _]) (wk_nth i _ 0 _ (by omega)) ⟨rfl, rfl⟩
end Go.Vm
set_option linter.unusedVariables false
set_option linter.unusedSimpArgs false
set_option maxRecDepth 100000
namespace Go.Vm
open Go.Proofs
/-! ### the reference: which readings are right -/
def bitsI (f : Nat → Bool) : Nat → Int
  | 0 => 0
  | i + 1 => if f i then bitsI f i + 2 ^ i else bitsI f i
theorem bitsI_le (f : Nat → Bool) : ∀ i, 0 ≤ bitsI f i ∧ bitsI f i < 2 ^ i
  | 0 => by simp [bitsI]
  | i + 1 => by
    have := bitsI_le f i
    have e : (2 : Int) ^ (i + 1) = 2 ^ i + 2 ^ i := by rw [Int.pow_succ]; omega
    simp only [bitsI]
    split <;> omega
/-- A reading is right in a truth. -/
def rOk (c : Cu) (t : Tr2) (i : Nat) : Bool := sIn ((sHeat c (tS t) c.coal c.want (gD c.readings i).hour.toNat).tdiv c.per) (gD c.readings i).b.lo (gD c.readings i).b.hi
def rRight (c : Cu) (t : Tr2) : Int := bitsI (rOk c t) c.readings.length
def rFull (c : Cu) : Int := 2 ^ c.readings.length - 1
theorem u64_in {n : Int} (h1 : 0 ≤ n) (h2 : n ≤ 9223372036854775807) : IntKind.u64.wrap n = n := by
  simp [IntKind.wrap, IntKind.bits, IntKind.signed]
  omega
theorem shl1 {i : Nat} (h : i < 6) : IntKind.i64.wrap (1 * 2 ^ min ((i : Int)).toNat IntKind.i64.bits) = 2 ^ i := by
  have : ∀ i : Fin 6, IntKind.i64.wrap (1 * 2 ^ min (((i : Nat) : Int)).toNat IntKind.i64.bits) = 2 ^ (i : Nat) := by decide +kernel
  exact this ⟨i, h⟩
theorem or1 {i : Nat} (h : i < 5) {x : Int} (h1 : 0 ≤ x) (h2 : x < 2 ^ i) : vbits .or .i64 x (2 ^ i) = x + 2 ^ i := by
  have : ∀ i : Fin 5, ∀ x : Fin 16, (x : Nat) < 2 ^ (i : Nat) → vbits .or .i64 ((x : Nat) : Int) (2 ^ (i : Nat)) = ((x : Nat) : Int) + 2 ^ (i : Nat) := by decide +kernel
  have h16 : (2 : Int) ^ i ≤ 16 := by
    have : ∀ i : Fin 5, (2 : Int) ^ (i : Nat) ≤ 16 := by decide
    exact this ⟨i, h⟩
  have h3 : (x.toNat : Int) = x := by omega
  have h4 : x.toNat < 2 ^ i := by
    have : ((x.toNat : Nat) : Int) < ((2 ^ i : Nat) : Int) := by rw [h3, Int.natCast_pow]; exact h2
    omega
  have := this ⟨i, h⟩ ⟨x.toNat, by omega⟩ h4
  rwa [h3] at this
theorem full_sub {i : Nat} (h : i < 6) : IntKind.i64.wrap ((2 : Int) ^ i - 1) = 2 ^ i - 1 := by
  have : ∀ i : Fin 6, IntKind.i64.wrap ((2 : Int) ^ (i : Nat) - 1) = 2 ^ (i : Nat) - 1 := by decide +kernel
  exact this ⟨i, h⟩
theorem c_rFull (c : Cu) (hr : (c.readings.length : Int) ≤ 5) : Pu Try.prog (.fn 55 [] []) [.agg c.cs] (vi (rFull c)) := by
  refine Ev.fn Try.func55 rfl rfl (Fn.body tabOk Try.func55 rfl (Nat.le_of_ble_eq_true rfl) (Ks.ok (fz := (fzn [])) (cl := (cln [])) tabOk mixed ?_))
  generalize hQ : FnPost tt Try.f55 _ _ = Q
  simp only [Try.f55, List.nil_append, List.append_nil, List.cons_append, argsEnv, Nat.reduceAdd]
  have hw := u64_in (n := (c.readings.length : Int)) (by omega) (by omega)
  have hn : ¬ (c.readings.length : Int) < 0 := by omega
  simp only [gos, if_true, if_false, ne_eq, eq_self, Nat.reduceLT, Nat.reduceEqDiff, Nat.reduceAdd, Nat.reduceMul, Nat.reduceLeDiff, Nat.reduceBEq, reduceCtorEq, reduceIte, Array.toList, ↓reduceIte, tt, vgo, vout, vgoD, voutD, vclsOk, vids, mayWrite, V.ids, V.mids, vguard, callOf, vop, ev, cv, vbin, vint, isShift, isNilConst, vnil, isNilSlice, vload, vlen, newRow, vfill, vslice, entOf, vappend, srcOf, vcopy, vlookup, vupdate, mapOk, keyOf, intsOf, clsAt, vD, hw, hn, shl1 (i := c.readings.length) (by omega), full_sub (i := c.readings.length) (by omega)]
  subst hQ
  exact FnPost.plain trivial (fun h2 e => by first | rfl | (simp only [Try.f55, vres, vresL, vres1, e _, gos, if_true, if_false, ne_eq, eq_self, Nat.reduceLT, Nat.reduceEqDiff, Nat.reduceAdd, Nat.reduceMul, Nat.reduceLeDiff, Nat.reduceBEq, reduceCtorEq, reduceIte, Array.toList, ↓reduceIte, tt, vgo, vout, vgoD, voutD, vclsOk, vids, mayWrite, V.ids, V.mids, vguard, callOf, vop, ev, cv, vbin, vint, isShift, isNilConst, vnil, isNilSlice, vload, vlen, newRow, vfill, vslice, entOf, vappend, srcOf, vcopy, vlookup, vupdate, mapOk, keyOf, intsOf, clsAt]; try rfl)) (WkV.pure (by simp only [V.into, intoL, cB_into, vB_into, cI_into, cR_into, cD_into, cS_into, vS_into, vI_into, vR_into, vD_into, cu_into, Bool.true_and, Bool.and_true])) ⟨rfl, rfl⟩
set_option maxHeartbeats 2000000 in
theorem c_rRight (c : Cu) (k0 : CuOk c) (t : Tr2) (k : TrOk c t c.coal c.want) : Pu Try.prog (.fn 93 [] []) [.agg c.cs, .agg t.cs] (vi (rRight c t)) := by
  have hrd := k0.rds
  refine Ev.fn Try.func93 rfl rfl (Fn.body tabOk Try.func93 rfl (Nat.le_of_ble_eq_true rfl) (Ks.ok (fz := (fzn [7])) (cl := (cln [(6, .d tg0 [cP, cP, cP, cP, cP, cP, cP, cL, cP, cP, cL, cP])])) tabOk mixed ?_))
  generalize hQ : FnPost tt Try.f93 _ _ = Q
  simp only [Try.f93, List.nil_append, List.append_nil, List.cons_append, argsEnv, Nat.reduceAdd]
  have hts : t.cs.take 2 = t.cs := rfl
  have htn : t.cs.length = 2 := rfl
  simp only [gos, if_true, if_false, ne_eq, eq_self, Nat.reduceLT, Nat.reduceEqDiff, Nat.reduceAdd, Nat.reduceMul, Nat.reduceLeDiff, Nat.reduceBEq, reduceCtorEq, reduceIte, Array.toList, ↓reduceIte, tt, vgo, vout, vgoD, voutD, vclsOk, vids, mayWrite, V.ids, V.mids, vguard, callOf, vop, ev, cv, vbin, vint, isShift, isNilConst, vnil, isNilSlice, vload, vlen, newRow, vfill, vslice, entOf, vappend, srcOf, vcopy, vlookup, vupdate, mapOk, keyOf, intsOf, clsAt]
  refine W.loop tabOk mixed (fun i : Nat => ([(2, .rop c.cs), (3, .rop t.cs), (5, vi (bitsI (rOk c t) i)), (6, vi i)], [])) (fun i => c.readings.length - i) (fun i => i ≤ c.readings.length) 0 (by omega) (Wk.env (by simp [subE, Env.get, bitsI])) ?_
  intro i hi
  by_cases hil : (i : Int) < c.readings.length
  · have hrr := k0.hours _ (List.mem_of_getElem? (gD_get hil))
    have hh : ((((gD c.readings i).hour.toNat : Nat)) : Int) = (gD c.readings i).hour := by omega
    have e := c_rHot c t c.coal c.want k (gD c.readings i).hour.toNat (by omega)
    rw [hh] at e
    have hb := bitsI_le (rOk c t) i
    simp only [gos, if_true, if_false, ne_eq, eq_self, Nat.reduceLT, Nat.reduceEqDiff, Nat.reduceAdd, Nat.reduceMul, Nat.reduceLeDiff, Nat.reduceBEq, reduceCtorEq, reduceIte, Array.toList, ↓reduceIte, tt, vgo, vout, vgoD, voutD, vclsOk, vids, mayWrite, V.ids, V.mids, vguard, callOf, vop, ev, cv, vbin, vint, isShift, isNilConst, vnil, isNilSlice, vload, vlen, newRow, vfill, vslice, entOf, vappend, srcOf, vcopy, vlookup, vupdate, mapOk, keyOf, intsOf, clsAt, vD, hil, cD_at (Int.natCast_nonneg i) hil]
    refine Wr.draw (by kernel_rfl) ?_
    simp only [gos, if_true, if_false, ne_eq, eq_self, Nat.reduceLT, Nat.reduceEqDiff, Nat.reduceAdd, Nat.reduceMul, Nat.reduceLeDiff, Nat.reduceBEq, reduceCtorEq, reduceIte, Array.toList, ↓reduceIte, tt, vgo, vout, vgoD, voutD, vclsOk, vids, mayWrite, V.ids, V.mids, vguard, callOf, vop, ev, cv, vbin, vint, isShift, isNilConst, vnil, isNilSlice, vload, vlen, newRow, vfill, vslice, entOf, vappend, srcOf, vcopy, vlookup, vupdate, mapOk, keyOf, intsOf, clsAt, hts, htn]
    refine CD.pu e ?_ rfl (by simp only [V.into, intoL, cB_into, vB_into, cI_into, cR_into, cD_into, cS_into, vS_into, vI_into, vR_into, vD_into, cu_into, Bool.true_and, Bool.and_true, Tr2.cs])
    simp only [gos, if_true, if_false, ne_eq, eq_self, Nat.reduceLT, Nat.reduceEqDiff, Nat.reduceAdd, Nat.reduceMul, Nat.reduceLeDiff, Nat.reduceBEq, reduceCtorEq, reduceIte, Array.toList, ↓reduceIte, tt, vgo, vout, vgoD, voutD, vclsOk, vids, mayWrite, V.ids, V.mids, vguard, callOf, vop, ev, cv, vbin, vint, isShift, isNilConst, vnil, isNilSlice, vload, vlen, newRow, vfill, vslice, entOf, vappend, srcOf, vcopy, vlookup, vupdate, mapOk, keyOf, intsOf, clsAt]
    refine CD.pu (c_rIs _ _) ?_
    cases hok : rOk c t i with
    | true =>
      have hok2 := hok
      simp only [rOk] at hok2
      have hw := u64_in (n := (i : Int)) (by omega) (by omega)
      have hn : ¬ (i : Int) < 0 := by omega
      have hbs : bitsI (rOk c t) (i + 1) = bitsI (rOk c t) i + 2 ^ i := by simp only [bitsI, hok, if_true]
      simp only [gos, if_true, if_false, ne_eq, eq_self, Nat.reduceLT, Nat.reduceEqDiff, Nat.reduceAdd, Nat.reduceMul, Nat.reduceLeDiff, Nat.reduceBEq, reduceCtorEq, reduceIte, Array.toList, ↓reduceIte, tt, vgo, vout, vgoD, voutD, vclsOk, vids, mayWrite, V.ids, V.mids, vguard, callOf, vop, ev, cv, vbin, vint, isShift, isNilConst, vnil, isNilSlice, vload, vlen, newRow, vfill, vslice, entOf, vappend, srcOf, vcopy, vlookup, vupdate, mapOk, keyOf, intsOf, clsAt, hok2, hw, hn, shl1 (i := i) (by omega), or1 (i := i) (by omega) hb.1 hb.2]
      refine Nx.mk (i + 1) (show c.readings.length - (i + 1) < c.readings.length - i by omega) (by omega) (Wk.forget ?_ (by simp [subH]) (fun j hp => by simp [orD, domP, Heap.get] at hp) ?_ rfl)
      · simp [subE, Env.get, hbs, i64_succ (show (i : Int) < 9223372036854775807 by omega)]
      · simp only [intoE, V.into, intoL, cB_into, vB_into, cI_into, cR_into, cD_into, cS_into, vS_into, vI_into, vR_into, vD_into, cu_into, Bool.true_and, Bool.and_true, Tr2.cs]
    | false =>
      have hok2 := hok
      simp only [rOk] at hok2
      have hbs : bitsI (rOk c t) (i + 1) = bitsI (rOk c t) i := by simp only [bitsI, hok]; rfl
      simp only [gos, if_true, if_false, ne_eq, eq_self, Nat.reduceLT, Nat.reduceEqDiff, Nat.reduceAdd, Nat.reduceMul, Nat.reduceLeDiff, Nat.reduceBEq, reduceCtorEq, reduceIte, Array.toList, ↓reduceIte, tt, vgo, vout, vgoD, voutD, vclsOk, vids, mayWrite, V.ids, V.mids, vguard, callOf, vop, ev, cv, vbin, vint, isShift, isNilConst, vnil, isNilSlice, vload, vlen, newRow, vfill, vslice, entOf, vappend, srcOf, vcopy, vlookup, vupdate, mapOk, keyOf, intsOf, clsAt, hok2]
      refine Nx.mk (i + 1) (show c.readings.length - (i + 1) < c.readings.length - i by omega) (by omega) (Wk.forget ?_ (by simp [subH]) (fun j hp => by simp [orD, domP, Heap.get] at hp) ?_ rfl)
      · simp [subE, Env.get, hbs, i64_succ (show (i : Int) < 9223372036854775807 by omega)]
      · simp only [intoE, V.into, intoL, cB_into, vB_into, cI_into, cR_into, cD_into, cS_into, vS_into, vI_into, vR_into, vD_into, cu_into, Bool.true_and, Bool.and_true, Tr2.cs]
  · have hie : i = c.readings.length := by omega
    simp only [gos, if_true, if_false, ne_eq, eq_self, Nat.reduceLT, Nat.reduceEqDiff, Nat.reduceAdd, Nat.reduceMul, Nat.reduceLeDiff, Nat.reduceBEq, reduceCtorEq, reduceIte, Array.toList, ↓reduceIte, tt, vgo, vout, vgoD, voutD, vclsOk, vids, mayWrite, V.ids, V.mids, vguard, callOf, vop, ev, cv, vbin, vint, isShift, isNilConst, vnil, isNilSlice, vload, vlen, newRow, vfill, vslice, entOf, vappend, srcOf, vcopy, vlookup, vupdate, mapOk, keyOf, intsOf, clsAt, vD, hil]
    subst hQ
    exact FnPost.plain trivial (fun h2 e => by first | rfl | (simp only [Try.f93, vres, vresL, vres1, e _, gos, if_true, if_false, ne_eq, eq_self, Nat.reduceLT, Nat.reduceEqDiff, Nat.reduceAdd, Nat.reduceMul, Nat.reduceLeDiff, Nat.reduceBEq, reduceCtorEq, reduceIte, Array.toList, ↓reduceIte, tt, vgo, vout, vgoD, voutD, vclsOk, vids, mayWrite, V.ids, V.mids, vguard, callOf, vop, ev, cv, vbin, vint, isShift, isNilConst, vnil, isNilSlice, vload, vlen, newRow, vfill, vslice, entOf, vappend, srcOf, vcopy, vlookup, vupdate, mapOk, keyOf, intsOf, clsAt]; try rfl)) (WkV.pure (by simp only [V.into, intoL, cB_into, vB_into, cI_into, cR_into, cD_into, cS_into, vS_into, vI_into, vR_into, vD_into, cu_into, Bool.true_and, Bool.and_true])) ⟨by rw [rRight, hie], rfl⟩
end Go.Vm
set_option linter.unusedVariables false
set_option linter.unusedSimpArgs false
set_option maxRecDepth 100000
namespace Go.Vm
open Go.Proofs
/-! ### the reference: all truths -/
def cT : List Tr2 → List V
  | [] => []
  | t :: l => vi t.heat :: vI t.loss :: cT l
def vT (l : List Tr2) : V := .ro l.length (cT l)
def gT (l : List Tr2) (n : Int) : Tr2 := l.getD n.toNat ⟨0, []⟩
theorem cT_len : ∀ l : List Tr2, (cT l).length = l.length * 2
  | [] => rfl
  | r :: l => by simp [cT, cT_len l]; omega
theorem cT_drop : ∀ (l : List Tr2) (i : Nat), (cT l).drop (i * 2) = cT (l.drop i)
  | l, 0 => by simp
  | [], i + 1 => by simp [cT]
  | r :: l, i + 1 => by rw [show (i + 1) * 2 = i * 2 + 1 + 1 by omega]; simp [cT, cT_drop l i]
theorem gT_drop {l : List Tr2} {n : Int} (h0 : 0 ≤ n) (h1 : n < l.length) : l.drop n.toNat = gT l n :: l.drop (n.toNat + 1) := by
  have : n.toNat < l.length := by omega
  rw [List.drop_eq_getElem_cons this, gT, List.getD_eq_getElem?_getD, List.getElem?_eq_getElem this]; rfl
theorem cT_at {l : List Tr2} {n : Int} (h0 : 0 ≤ n) (h1 : n < l.length) : (cT l).drop (n.toNat * 2) = vi (gT l n).heat :: vI (gT l n).loss :: cT (l.drop (n.toNat + 1)) := by
  rw [cT_drop, gT_drop h0 h1]; rfl
theorem gT_get {l : List Tr2} {i : Nat} (h : (i : Int) < l.length) : l[i]? = some (gT l i) := by
  have : i < l.length := by omega
  rw [gT, Int.toNat_natCast, List.getD_eq_getElem?_getD, List.getElem?_eq_getElem this]; rfl
theorem cT_into (p : Nat → Bool) : ∀ l : List Tr2, intoL p (cT l) = true
  | [] => rfl
  | x :: l => by simp only [cT, intoL, V.into, vI_into, Bool.true_and]; exact cT_into p l
theorem vT_into (p : Nat → Bool) (l : List Tr2) : (vT l).into p = true := by simp only [vT, V.into]; exact cT_into p l
theorem cT_snoc : ∀ (l : List Tr2) (t : Tr2), cT (l ++ [t]) = cT l ++ [vi t.heat, vI t.loss]
  | [], t => rfl
  | x :: l, t => by simp [cT, cT_snoc l t]
theorem nthL_ok : ∀ (l : List Rg) (n : Int), 0 ≤ n → (∀ r ∈ l, sInside r 99 = true) → ∀ x ∈ nthL l n, 0 ≤ x ∧ x ≤ 99
  | [], n, _, _, x, h => by simp [nthL] at h
  | r :: l, n, hn, hs, x, h => by
    have h1 := hs r (by simp)
    have hz := size_le h1
    simp only [sInside, Bool.and_eq_true, decide_eq_true_eq] at h1
    have hm := tmod_le hn hz.1
    simp only [nthL, List.mem_cons] at h
    rcases h with rfl | h
    · simp only [sSize] at hm ⊢; omega
    · exact nthL_ok l _ (Int.tdiv_nonneg hn (by omega)) (fun y hy => hs y (by simp [hy])) x h
theorem pad5_ok {l : List Int} (h : (l.length : Int) ≤ 5) (hl : ∀ x ∈ l, 0 ≤ x ∧ x ≤ 99) : (pad5 l).length = 5 ∧ ∀ x ∈ pad5 l, 0 ≤ x ∧ x ≤ 99 := by
  refine ⟨by simp [pad5]; omega, fun x hx => ?_⟩
  simp only [pad5, List.mem_append] at hx
  rcases hx with hx | hx
  · exact hl x hx
  · rw [List.mem_replicate] at hx; omega
/-- A truth of the reference that fits the coppers. -/
structure T2Ok (c : Cu) (t : Tr2) : Prop where
  sc : ScOk c (tS t)
  len : (t.loss.length : Int) = c.last + 1
theorem nth_ok {c : Cu} (k0 : CuOk c) {n : Int} (hn : 0 ≤ n) : T2Ok c (rNth c n) := by
  have hz := size_le k0.heat
  have hin := k0.heat
  simp only [sInside, Bool.and_eq_true, decide_eq_true_eq] at hin
  have hm := tmod_le hn hz.1
  have hl := k0.last
  have hl2 := k0.loss.1
  have h1 := nthL_len c.loss (n.tdiv (sSize c.heat))
  refine ⟨⟨?_, ?_⟩, ?_⟩
  · simp only [tS, rNth]; simp only [sSize] at hm ⊢; omega
  · exact pad5_ok (by simp only [rNth]; omega) (nthL_ok _ _ (Int.tdiv_nonneg hn (by omega)) k0.loss.2)
  · simp only [rNth]; omega
theorem T2Ok.tr {c : Cu} (k0 : CuOk c) {t : Tr2} (h : T2Ok c t) : TrOk c t c.coal c.want := ⟨k0.play0 h.sc, h.len⟩
def rIs (c : Cu) (t : Tr2) : Bool := decide (rRight c t = rFull c)
def rTr (c : Cu) (i : Nat) : List Tr2 := ((List.range i).map fun (n : Nat) => rNth c n).filter (rIs c)
def rTruths (c : Cu) : List Tr2 := rTr c (rMany c).toNat
theorem rTr_succ (c : Cu) (i : Nat) : rTr c (i + 1) = if rIs c (rNth c i) then rTr c i ++ [rNth c i] else rTr c i := by
  simp only [rTr, List.range_succ, List.map_append, List.filter_append, List.map_cons, List.map_nil]
  by_cases h : rIs c (rNth c i) = true
  · simp [h]
  · simp [h]
theorem rTr_len (c : Cu) (i : Nat) : (rTr c i).length ≤ i := by
  have := List.length_filter_le (rIs c) ((List.range i).map fun (n : Nat) => rNth c n)
  simpa [rTr] using this
theorem rTr_ok {c : Cu} (k0 : CuOk c) (i : Nat) : ∀ t ∈ rTr c i, T2Ok c t := fun t ht => by
  simp only [rTr, List.mem_filter, List.mem_map] at ht
  obtain ⟨⟨n, _, rfl⟩, _⟩ := ht
  exact nth_ok k0 (by omega)
theorem rMany_le {c : Cu} (k0 : CuOk c) : 1 ≤ rMany c ∧ rMany c ≤ 2000 := by
  have h := many_iff k0.heat k0.loss.2
  have hz := size_le k0.heat
  have h1 := rManyL_le (n := sSize c.heat) ⟨by omega, by omega⟩ (l := c.loss) k0.loss.2
  have e : rMany c = rManyL (sSize c.heat) c.loss := rfl
  have := k0.many
  have h2 : ¬ 2000 < rMany c := by rw [h]; omega
  omega
set_option maxHeartbeats 2000000 in
theorem c_rTruths (c : Cu) (k0 : CuOk c) : Pu Try.prog (.fn 43 [] []) [.agg c.cs] (vT (rTruths c)) := by
  have hM := rMany_le k0
  have hN : (((rMany c).toNat : Nat) : Int) = rMany c := by omega
  refine Ev.fn Try.func43 rfl rfl (Fn.body tabOk Try.func43 rfl (Nat.le_of_ble_eq_true rfl) (Ks.ok (fz := (fzn [5])) (cl := (cln [(6, .d tg0 [cP, cL, cP, cP, cP, cP])])) tabOk mixed ?_))
  generalize hQ : FnPost tt Try.f43 _ _ = Q
  simp only [Try.f43, List.nil_append, List.append_nil, List.cons_append, argsEnv, Nat.reduceAdd]
  simp only [gos, if_true, if_false, ne_eq, eq_self, Nat.reduceLT, Nat.reduceEqDiff, Nat.reduceAdd, Nat.reduceMul, Nat.reduceLeDiff, Nat.reduceBEq, reduceCtorEq, reduceIte, Array.toList, ↓reduceIte, tt, vgo, vout, vgoD, voutD, vclsOk, vids, mayWrite, V.ids, V.mids, vguard, callOf, vop, ev, cv, vbin, vint, isShift, isNilConst, vnil, isNilSlice, vload, vlen, newRow, vfill, vslice, entOf, vappend, srcOf, vcopy, vlookup, vupdate, mapOk, keyOf, intsOf, clsAt]
  refine W.loop tabOk mixed (fun i : Nat => ([(1, .rop c.cs), (3, .own 24 (rTr c i).length 0 2 (rTr c i).length), (4, vi i)], [(24, ⟨(rTr c i).length, .row (cT (rTr c i))⟩)])) (fun i => (rMany c).toNat - i) (fun i => i ≤ (rMany c).toNat) 0 (by omega) (Wk.trans (Wk.sl0E 3 24 2 rfl rfl) (Wk.env (by simp [subE, Env.get, rTr]))) ?_
  intro i hi
  simp only [gos, if_true, if_false, ne_eq, eq_self, Nat.reduceLT, Nat.reduceEqDiff, Nat.reduceAdd, Nat.reduceMul, Nat.reduceLeDiff, Nat.reduceBEq, reduceCtorEq, reduceIte, Array.toList, ↓reduceIte, tt, vgo, vout, vgoD, voutD, vclsOk, vids, mayWrite, V.ids, V.mids, vguard, callOf, vop, ev, cv, vbin, vint, isShift, isNilConst, vnil, isNilSlice, vload, vlen, newRow, vfill, vslice, entOf, vappend, srcOf, vcopy, vlookup, vupdate, mapOk, keyOf, intsOf, clsAt]
  refine Cl.pu (c_rMany c k0.heat (by have := k0.loss.1; have := k0.last; omega) k0.loss.2) ?_ rfl (by simp only [V.into, intoL, cB_into, vB_into, cI_into, cR_into, cD_into, cS_into, vS_into, vI_into, vR_into, vD_into, cu_into, Bool.true_and, Bool.and_true])
  by_cases hil : (i : Int) < rMany c
  · have hno := nth_ok k0 (n := i) (by omega)
    have hts : ∀ t : Tr2, t.cs.take 2 = t.cs := fun _ => rfl
    have htn : ∀ t : Tr2, t.cs.length = 2 := fun _ => rfl
    have hto : ∀ t : Tr2, oneL t.cs = true := fun _ => rfl
    have htd : ∀ t : Tr2, List.drop 2 t.cs = [] := fun _ => rfl
    simp only [gos, if_true, if_false, ne_eq, eq_self, Nat.reduceLT, Nat.reduceEqDiff, Nat.reduceAdd, Nat.reduceMul, Nat.reduceLeDiff, Nat.reduceBEq, reduceCtorEq, reduceIte, Array.toList, ↓reduceIte, tt, vgo, vout, vgoD, voutD, vclsOk, vids, mayWrite, V.ids, V.mids, vguard, callOf, vop, ev, cv, vbin, vint, isShift, isNilConst, vnil, isNilSlice, vload, vlen, newRow, vfill, vslice, entOf, vappend, srcOf, vcopy, vlookup, vupdate, mapOk, keyOf, intsOf, clsAt, hil]
    refine Cl.pu (c_rNth c k0 i (by omega)) ?_ rfl (by simp only [V.into, intoL, cB_into, vB_into, cI_into, cR_into, cD_into, cS_into, vS_into, vI_into, vR_into, vD_into, cu_into, Bool.true_and, Bool.and_true])
    simp only [gos, if_true, if_false, ne_eq, eq_self, Nat.reduceLT, Nat.reduceEqDiff, Nat.reduceAdd, Nat.reduceMul, Nat.reduceLeDiff, Nat.reduceBEq, reduceCtorEq, reduceIte, Array.toList, ↓reduceIte, tt, vgo, vout, vgoD, voutD, vclsOk, vids, mayWrite, V.ids, V.mids, vguard, callOf, vop, ev, cv, vbin, vint, isShift, isNilConst, vnil, isNilSlice, vload, vlen, newRow, vfill, vslice, entOf, vappend, srcOf, vcopy, vlookup, vupdate, mapOk, keyOf, intsOf, clsAt, hts, htn, hto, htd]
    refine Wr.draw (by kernel_rfl) ?_
    simp only [gos, if_true, if_false, ne_eq, eq_self, Nat.reduceLT, Nat.reduceEqDiff, Nat.reduceAdd, Nat.reduceMul, Nat.reduceLeDiff, Nat.reduceBEq, reduceCtorEq, reduceIte, Array.toList, ↓reduceIte, tt, vgo, vout, vgoD, voutD, vclsOk, vids, mayWrite, V.ids, V.mids, vguard, callOf, vop, ev, cv, vbin, vint, isShift, isNilConst, vnil, isNilSlice, vload, vlen, newRow, vfill, vslice, entOf, vappend, srcOf, vcopy, vlookup, vupdate, mapOk, keyOf, intsOf, clsAt, hts, htn, hto, htd]
    refine CD.pu (c_rRight c k0 (rNth c i) (hno.tr k0)) ?_ rfl (by simp only [V.into, intoL, cB_into, vB_into, cI_into, cR_into, cD_into, cS_into, vS_into, vI_into, vR_into, vD_into, cu_into, Bool.true_and, Bool.and_true, Tr2.cs])
    simp only [gos, if_true, if_false, ne_eq, eq_self, Nat.reduceLT, Nat.reduceEqDiff, Nat.reduceAdd, Nat.reduceMul, Nat.reduceLeDiff, Nat.reduceBEq, reduceCtorEq, reduceIte, Array.toList, ↓reduceIte, tt, vgo, vout, vgoD, voutD, vclsOk, vids, mayWrite, V.ids, V.mids, vguard, callOf, vop, ev, cv, vbin, vint, isShift, isNilConst, vnil, isNilSlice, vload, vlen, newRow, vfill, vslice, entOf, vappend, srcOf, vcopy, vlookup, vupdate, mapOk, keyOf, intsOf, clsAt]
    refine CD.pu (c_rFull c k0.rds) ?_ rfl (by simp only [V.into, intoL, cB_into, vB_into, cI_into, cR_into, cD_into, cS_into, vS_into, vI_into, vR_into, vD_into, cu_into, Bool.true_and, Bool.and_true])
    have hlen : (cT (rTr c i)).length = (rTr c i).length * 2 := cT_len _
    have hl9 : (rTr c i).length ≤ 999999 := by have := rTr_len c i; omega
    by_cases hr : rRight c (rNth c i) = rFull c
    · have hs : rTr c (i + 1) = rTr c i ++ [rNth c i] := by rw [rTr_succ, if_pos (by simp [rIs, hr])]
      have hb : decide (rRight c (rNth c i) = rFull c) = true := by simp [hr]
      simp only [gos, if_true, if_false, ne_eq, eq_self, Nat.reduceLT, Nat.reduceEqDiff, Nat.reduceAdd, Nat.reduceMul, Nat.reduceLeDiff, Nat.reduceBEq, reduceCtorEq, reduceIte, Array.toList, ↓reduceIte, tt, vgo, vout, vgoD, voutD, vclsOk, vids, mayWrite, V.ids, V.mids, vguard, callOf, vop, ev, cv, vbin, vint, isShift, isNilConst, vnil, isNilSlice, vload, vlen, newRow, vfill, vslice, entOf, vappend, srcOf, vcopy, vlookup, vupdate, mapOk, keyOf, intsOf, clsAt, hb, hts, htn, hto, htd, hlen, hl9]
      refine Nx.mk (i + 1) (show (rMany c).toNat - (i + 1) < (rMany c).toNat - i by omega) (by omega) (Wk.forget ?_ ?_ (fun j hp => by simp [orD, domP, Heap.get] at hp) ?_ ?_)
      · simp [subE, Env.get, hs, i64_succ (show (i : Int) < 9223372036854775807 by omega)]
      · rw [hs, cT_snoc]
        simp [subH, Heap.get, Tr2.cs]
      · simp only [intoE, V.into, intoL, cB_into, vB_into, cI_into, cR_into, cD_into, cS_into, vS_into, vI_into, vR_into, vD_into, cu_into, Bool.true_and, Bool.and_true, domP, Heap.get]; rfl
      · simp only [intoH, Blk.into, cT_into, Bool.and_self]
    · have hs : rTr c (i + 1) = rTr c i := by rw [rTr_succ, if_neg (by simp [rIs, hr])]
      have hb : decide (rRight c (rNth c i) = rFull c) = false := by simp [hr]
      simp only [gos, if_true, if_false, ne_eq, eq_self, Nat.reduceLT, Nat.reduceEqDiff, Nat.reduceAdd, Nat.reduceMul, Nat.reduceLeDiff, Nat.reduceBEq, reduceCtorEq, reduceIte, Array.toList, ↓reduceIte, tt, vgo, vout, vgoD, voutD, vclsOk, vids, mayWrite, V.ids, V.mids, vguard, callOf, vop, ev, cv, vbin, vint, isShift, isNilConst, vnil, isNilSlice, vload, vlen, newRow, vfill, vslice, entOf, vappend, srcOf, vcopy, vlookup, vupdate, mapOk, keyOf, intsOf, clsAt, hb]
      refine Nx.mk (i + 1) (show (rMany c).toNat - (i + 1) < (rMany c).toNat - i by omega) (by omega) (Wk.forget ?_ ?_ (fun j hp => by simp [orD, domP, Heap.get] at hp) ?_ ?_)
      · simp [subE, Env.get, hs, i64_succ (show (i : Int) < 9223372036854775807 by omega)]
      · rw [hs]; simp [subH, Heap.get]
      · simp only [intoE, V.into, intoL, cB_into, vB_into, cI_into, cR_into, cD_into, cS_into, vS_into, vI_into, vR_into, vD_into, cu_into, Bool.true_and, Bool.and_true, domP, Heap.get]; rfl
      · simp only [intoH, Blk.into, cT_into, Bool.and_self]
  · have hie : i = (rMany c).toNat := by omega
    simp only [gos, if_true, if_false, ne_eq, eq_self, Nat.reduceLT, Nat.reduceEqDiff, Nat.reduceAdd, Nat.reduceMul, Nat.reduceLeDiff, Nat.reduceBEq, reduceCtorEq, reduceIte, Array.toList, ↓reduceIte, tt, vgo, vout, vgoD, voutD, vclsOk, vids, mayWrite, V.ids, V.mids, vguard, callOf, vop, ev, cv, vbin, vint, isShift, isNilConst, vnil, isNilSlice, vload, vlen, newRow, vfill, vslice, entOf, vappend, srcOf, vcopy, vlookup, vupdate, mapOk, keyOf, intsOf, clsAt, hil]
    subst hQ
    have hlen : (cT (rTr c i)).length = (rTr c i).length * 2 := cT_len _
    have ht : (cT (rTr c i)).take ((rTr c i).length * 2) = cT (rTr c i) := List.take_of_length_le (by omega)
    rw [rTruths, ← hie]
    refine FnPost.plain trivial (v := .own 24 (rTr c i).length 0 2 (rTr c i).length) (fun h2 e => by rfl) (WkV.frz 24 (v' := vT (rTr c i)) (h' := []) (ver := (rTr c i).length) (cs := cT (rTr c i)) rfl rfl (cT_into _ _) rfl ?_ ?_ WkV.refl) ⟨rfl, rfl⟩
    · simp [V.frz, vT, ht]
    · simp [frzH]
end Go.Vm
set_option linter.unusedVariables false
set_option linter.unusedSimpArgs false
set_option maxRecDepth 100000
namespace Go.Vm
open Go.Proofs
/-! ### the reference: bounds and verdicts -/
def rEmpty : Rg := ⟨1099511627776, -1⟩
theorem c_rWider (r : Rg) (n : Int) : Pu Try.prog (.fn 84 [] []) [.agg [vi r.lo, vi r.hi], vi n] (.agg [vi (sWider r n).lo, vi (sWider r n).hi]) := by
  refine Ev.fn Try.func84 rfl rfl (Fn.body tabOk Try.func84 rfl (Nat.le_of_ble_eq_true rfl) (Ks.ok (fz := (fzn [4])) (cl := (cln [])) tabOk mixed ?_))
  generalize hQ : FnPost tt Try.f84 _ _ = Q
  simp only [Try.f84, List.nil_append, List.append_nil, List.cons_append, argsEnv, Nat.reduceAdd]
  simp only [gos, if_true, if_false, ne_eq, eq_self, Nat.reduceLT, Nat.reduceEqDiff, Nat.reduceAdd, Nat.reduceMul, Nat.reduceLeDiff, Nat.reduceBEq, reduceCtorEq, reduceIte, Array.toList, ↓reduceIte, tt, vgo, vout, vgoD, voutD, vclsOk, vids, mayWrite, V.ids, V.mids, vguard, callOf, vop, ev, cv, vbin, vint, isShift, isNilConst, vnil, isNilSlice, vload, vlen, newRow, vfill, vslice, entOf, vappend, srcOf, vcopy, vlookup, vupdate, mapOk, keyOf, intsOf, clsAt]
  subst hQ
  exact FnPost.plain trivial (fun h2 e => by first | rfl | (simp only [Try.f84, vres, vresL, vres1, e _, gos, if_true, if_false, ne_eq, eq_self, Nat.reduceLT, Nat.reduceEqDiff, Nat.reduceAdd, Nat.reduceMul, Nat.reduceLeDiff, Nat.reduceBEq, reduceCtorEq, reduceIte, Array.toList, ↓reduceIte, tt, vgo, vout, vgoD, voutD, vclsOk, vids, mayWrite, V.ids, V.mids, vguard, callOf, vop, ev, cv, vbin, vint, isShift, isNilConst, vnil, isNilSlice, vload, vlen, newRow, vfill, vslice, entOf, vappend, srcOf, vcopy, vlookup, vupdate, mapOk, keyOf, intsOf, clsAt]; try rfl)) (WkV.pure (by simp only [V.into, intoL, cB_into, vB_into, cI_into, cR_into, cD_into, cS_into, vS_into, vI_into, vR_into, vD_into, cu_into, Bool.true_and, Bool.and_true])) ⟨rfl, rfl⟩
theorem c_rEmpty : Pu Try.prog (.fn 83 [] []) [] (.agg [vi rEmpty.lo, vi rEmpty.hi]) := by
  refine Ev.fn Try.func83 rfl rfl (Fn.body tabOk Try.func83 rfl (Nat.le_of_ble_eq_true rfl) (Ks.ok (fz := (fzn [0])) (cl := (cln [])) tabOk mixed ?_))
  generalize hQ : FnPost tt Try.f83 _ _ = Q
  simp only [Try.f83, List.nil_append, List.append_nil, List.cons_append, argsEnv, Nat.reduceAdd]
  simp only [gos, if_true, if_false, ne_eq, eq_self, Nat.reduceLT, Nat.reduceEqDiff, Nat.reduceAdd, Nat.reduceMul, Nat.reduceLeDiff, Nat.reduceBEq, reduceCtorEq, reduceIte, Array.toList, ↓reduceIte, tt, vgo, vout, vgoD, voutD, vclsOk, vids, mayWrite, V.ids, V.mids, vguard, callOf, vop, ev, cv, vbin, vint, isShift, isNilConst, vnil, isNilSlice, vload, vlen, newRow, vfill, vslice, entOf, vappend, srcOf, vcopy, vlookup, vupdate, mapOk, keyOf, intsOf, clsAt]
  subst hQ
  exact FnPost.plain trivial (fun h2 e => by first | rfl | (simp only [Try.f83, vres, vresL, vres1, e _, gos, if_true, if_false, ne_eq, eq_self, Nat.reduceLT, Nat.reduceEqDiff, Nat.reduceAdd, Nat.reduceMul, Nat.reduceLeDiff, Nat.reduceBEq, reduceCtorEq, reduceIte, Array.toList, ↓reduceIte, tt, vgo, vout, vgoD, voutD, vclsOk, vids, mayWrite, V.ids, V.mids, vguard, callOf, vop, ev, cv, vbin, vint, isShift, isNilConst, vnil, isNilSlice, vload, vlen, newRow, vfill, vslice, entOf, vappend, srcOf, vcopy, vlookup, vupdate, mapOk, keyOf, intsOf, clsAt]; try rfl)) (WkV.pure (by simp only [V.into, intoL, cB_into, vB_into, cI_into, cR_into, cD_into, cS_into, vS_into, vI_into, vR_into, vD_into, cu_into, Bool.true_and, Bool.and_true])) ⟨rfl, rfl⟩
def hotI (c : Cu) (t : Tr2) (i : Nat) : Int := (sHeat c (tS t) c.coal c.want i).tdiv c.per
def leftI (c : Cu) (t : Tr2) (i : Nat) : Int := (sPlay c (tS t) c.coal c.want (i + 1)).1
def rB (ns : List Int) : Rg := ns.foldl sWider rEmpty
theorem rB_snoc (l : List Tr2) (f : Tr2 → Int) {i : Nat} (h : (i : Int) < l.length) : rB ((l.take (i + 1)).map f) = sWider (rB ((l.take i).map f)) (f (gT l i)) := by
  have e : l.take (i + 1) = l.take i ++ [gT l i] := by rw [List.take_add_one, gT_get h]; rfl
  rw [e, List.map_append, rB, List.foldl_append]; rfl
set_option maxHeartbeats 2000000 in
theorem c_rBounds (c : Cu) (l : List Tr2) (hl : (l.length : Int) ≤ 1000000) (hok : ∀ t ∈ l, TrOk c t c.coal c.want) (hour : Nat) (hh : (hour : Int) ≤ c.last) :
    Pu Try.prog (.fn 25 [] []) [.agg c.cs, vT l, vi hour] (.tup [.agg [vi (rB (l.map fun t => hotI c t hour)).lo, vi (rB (l.map fun t => hotI c t hour)).hi], .agg [vi (rB (l.map fun t => leftI c t hour)).lo, vi (rB (l.map fun t => leftI c t hour)).hi]]) := by
  refine Ev.fn Try.func25 rfl rfl (Fn.body tabOk Try.func25 rfl (Nat.le_of_ble_eq_true rfl) (Ks.ok (fz := (fzn [6, 7, 8, 9])) (cl := (cln [(5, .d (tgL [(8, 1), (9, 2)]) [some ([1], []), cP, cP, cP, cP, cP, cP, cP, cP, cP, cP, cP, cP, some ([2], []), cP, cP, cP, cP, cP, cP, cP, cP, cP, cP, cP, cP, some ([1], [1]), some ([2], [2])]), (6, .d (tgL [(8, 1), (9, 2), (6, 3), (7, 4)]) [some ([1], []), some ([2], []), some ([3], [3]), some ([4], [4])])])) tabOk mixed ?_))
  generalize hQ : FnPost tt Try.f25 _ _ = Q
  simp only [Try.f25, List.nil_append, List.append_nil, List.cons_append, argsEnv, Nat.reduceAdd]
  simp only [gos, if_true, if_false, ne_eq, eq_self, Nat.reduceLT, Nat.reduceEqDiff, Nat.reduceAdd, Nat.reduceMul, Nat.reduceLeDiff, Nat.reduceBEq, reduceCtorEq, reduceIte, Array.toList, ↓reduceIte, tt, vgo, vout, vgoD, voutD, vclsOk, vids, mayWrite, V.ids, V.mids, vguard, callOf, vop, ev, cv, vbin, vint, isShift, isNilConst, vnil, isNilSlice, vload, vlen, newRow, vfill, vslice, entOf, vappend, srcOf, vcopy, vlookup, vupdate, mapOk, keyOf, intsOf, clsAt]
  refine Cl.pu c_rEmpty ?_
  simp only [gos, if_true, if_false, ne_eq, eq_self, Nat.reduceLT, Nat.reduceEqDiff, Nat.reduceAdd, Nat.reduceMul, Nat.reduceLeDiff, Nat.reduceBEq, reduceCtorEq, reduceIte, Array.toList, ↓reduceIte, tt, vgo, vout, vgoD, voutD, vclsOk, vids, mayWrite, V.ids, V.mids, vguard, callOf, vop, ev, cv, vbin, vint, isShift, isNilConst, vnil, isNilSlice, vload, vlen, newRow, vfill, vslice, entOf, vappend, srcOf, vcopy, vlookup, vupdate, mapOk, keyOf, intsOf, clsAt]
  refine Cl.pu c_rEmpty ?_
  simp only [gos, if_true, if_false, ne_eq, eq_self, Nat.reduceLT, Nat.reduceEqDiff, Nat.reduceAdd, Nat.reduceMul, Nat.reduceLeDiff, Nat.reduceBEq, reduceCtorEq, reduceIte, Array.toList, ↓reduceIte, tt, vgo, vout, vgoD, voutD, vclsOk, vids, mayWrite, V.ids, V.mids, vguard, callOf, vop, ev, cv, vbin, vint, isShift, isNilConst, vnil, isNilSlice, vload, vlen, newRow, vfill, vslice, entOf, vappend, srcOf, vcopy, vlookup, vupdate, mapOk, keyOf, intsOf, clsAt]
  let A : Nat → Rg := fun i => rB ((l.take i).map fun t => hotI c t hour)
  let B : Nat → Rg := fun i => rB ((l.take i).map fun t => leftI c t hour)
  refine W.loop tabOk mixed (fun i : Nat => ([(1, vT l), (2, vi hour), (3, .rop c.cs), (6, .ptr 6 0 0), (7, .ptr 7 0 0), (8, .ptr 8 0 0), (9, .ptr 9 0 0), (10, vi i)], [(6, ⟨0, .row [vi 0, vi 0]⟩), (7, ⟨0, .row [vi 0, vi 0]⟩), (8, ⟨0, .row [vi (A i).lo, vi (A i).hi]⟩), (9, ⟨0, .row [vi (B i).lo, vi (B i).hi]⟩)])) (fun i => l.length - i) (fun i => i ≤ l.length) 0 (by omega) (Wk.env (by simp [subE, Env.get])) ?_
  intro i hi
  by_cases hil : (i : Int) < l.length
  · have ht := hok _ (List.mem_of_getElem? (gT_get hil))
    have hA : A (i + 1) = sWider (A i) (hotI c (gT l i) hour) := rB_snoc l _ hil
    have hB : B (i + 1) = sWider (B i) (leftI c (gT l i) hour) := rB_snoc l _ hil
    simp only [gos, if_true, if_false, ne_eq, eq_self, Nat.reduceLT, Nat.reduceEqDiff, Nat.reduceAdd, Nat.reduceMul, Nat.reduceLeDiff, Nat.reduceBEq, reduceCtorEq, reduceIte, Array.toList, ↓reduceIte, tt, vgo, vout, vgoD, voutD, vclsOk, vids, mayWrite, V.ids, V.mids, vguard, callOf, vop, ev, cv, vbin, vint, isShift, isNilConst, vnil, isNilSlice, vload, vlen, newRow, vfill, vslice, entOf, vappend, srcOf, vcopy, vlookup, vupdate, mapOk, keyOf, intsOf, clsAt, vT, hil]
    refine Wr.draw (by kernel_rfl) ?_
    simp only [gos, if_true, if_false, ne_eq, eq_self, Nat.reduceLT, Nat.reduceEqDiff, Nat.reduceAdd, Nat.reduceMul, Nat.reduceLeDiff, Nat.reduceBEq, reduceCtorEq, reduceIte, Array.toList, ↓reduceIte, tt, vgo, vout, vgoD, voutD, vclsOk, vids, mayWrite, V.ids, V.mids, vguard, callOf, vop, ev, cv, vbin, vint, isShift, isNilConst, vnil, isNilSlice, vload, vlen, newRow, vfill, vslice, entOf, vappend, srcOf, vcopy, vlookup, vupdate, mapOk, keyOf, intsOf, clsAt, vT, hil, cT_at (Int.natCast_nonneg i) hil]
    refine CD.pu (c_rHot c (gT l i) c.coal c.want ht hour hh) ?_ rfl (by simp only [V.into, intoL, cB_into, vB_into, cI_into, cR_into, cD_into, cS_into, vS_into, vI_into, vR_into, vD_into, cu_into, Bool.true_and, Bool.and_true])
    simp only [gos, if_true, if_false, ne_eq, eq_self, Nat.reduceLT, Nat.reduceEqDiff, Nat.reduceAdd, Nat.reduceMul, Nat.reduceLeDiff, Nat.reduceBEq, reduceCtorEq, reduceIte, Array.toList, ↓reduceIte, tt, vgo, vout, vgoD, voutD, vclsOk, vids, mayWrite, V.ids, V.mids, vguard, callOf, vop, ev, cv, vbin, vint, isShift, isNilConst, vnil, isNilSlice, vload, vlen, newRow, vfill, vslice, entOf, vappend, srcOf, vcopy, vlookup, vupdate, mapOk, keyOf, intsOf, clsAt]
    refine CD.pu (c_rWider _ _) ?_
    simp only [gos, if_true, if_false, ne_eq, eq_self, Nat.reduceLT, Nat.reduceEqDiff, Nat.reduceAdd, Nat.reduceMul, Nat.reduceLeDiff, Nat.reduceBEq, reduceCtorEq, reduceIte, Array.toList, ↓reduceIte, tt, vgo, vout, vgoD, voutD, vclsOk, vids, mayWrite, V.ids, V.mids, vguard, callOf, vop, ev, cv, vbin, vint, isShift, isNilConst, vnil, isNilSlice, vload, vlen, newRow, vfill, vslice, entOf, vappend, srcOf, vcopy, vlookup, vupdate, mapOk, keyOf, intsOf, clsAt, vT, hil, cT_at (Int.natCast_nonneg i) hil]
    refine CD.pu (c_rLeft c (gT l i) c.coal c.want ht hour hh) ?_ rfl (by simp only [V.into, intoL, cB_into, vB_into, cI_into, cR_into, cD_into, cS_into, vS_into, vI_into, vR_into, vD_into, cu_into, Bool.true_and, Bool.and_true])
    simp only [gos, if_true, if_false, ne_eq, eq_self, Nat.reduceLT, Nat.reduceEqDiff, Nat.reduceAdd, Nat.reduceMul, Nat.reduceLeDiff, Nat.reduceBEq, reduceCtorEq, reduceIte, Array.toList, ↓reduceIte, tt, vgo, vout, vgoD, voutD, vclsOk, vids, mayWrite, V.ids, V.mids, vguard, callOf, vop, ev, cv, vbin, vint, isShift, isNilConst, vnil, isNilSlice, vload, vlen, newRow, vfill, vslice, entOf, vappend, srcOf, vcopy, vlookup, vupdate, mapOk, keyOf, intsOf, clsAt]
    refine CD.pu (c_rWider _ _) ?_
    simp only [gos, if_true, if_false, ne_eq, eq_self, Nat.reduceLT, Nat.reduceEqDiff, Nat.reduceAdd, Nat.reduceMul, Nat.reduceLeDiff, Nat.reduceBEq, reduceCtorEq, reduceIte, Array.toList, ↓reduceIte, tt, vgo, vout, vgoD, voutD, vclsOk, vids, mayWrite, V.ids, V.mids, vguard, callOf, vop, ev, cv, vbin, vint, isShift, isNilConst, vnil, isNilSlice, vload, vlen, newRow, vfill, vslice, entOf, vappend, srcOf, vcopy, vlookup, vupdate, mapOk, keyOf, intsOf, clsAt]
    refine Nx.mk (i + 1) (show l.length - (i + 1) < l.length - i by omega) (by omega) (Wk.heap (fun j => ?_) ?_)
    · rw [hA, hB]; rfl
    · simp [subE, Env.get, vT, i64_succ (show (i : Int) < 9223372036854775807 by omega)]
  · have e : l.take i = l := List.take_of_length_le (by omega)
    simp only [gos, if_true, if_false, ne_eq, eq_self, Nat.reduceLT, Nat.reduceEqDiff, Nat.reduceAdd, Nat.reduceMul, Nat.reduceLeDiff, Nat.reduceBEq, reduceCtorEq, reduceIte, Array.toList, ↓reduceIte, tt, vgo, vout, vgoD, voutD, vclsOk, vids, mayWrite, V.ids, V.mids, vguard, callOf, vop, ev, cv, vbin, vint, isShift, isNilConst, vnil, isNilSlice, vload, vlen, newRow, vfill, vslice, entOf, vappend, srcOf, vcopy, vlookup, vupdate, mapOk, keyOf, intsOf, clsAt, vT, hil]
    refine Wr.draw (by kernel_rfl) ?_
    simp only [gos, if_true, if_false, ne_eq, eq_self, Nat.reduceLT, Nat.reduceEqDiff, Nat.reduceAdd, Nat.reduceMul, Nat.reduceLeDiff, Nat.reduceBEq, reduceCtorEq, reduceIte, Array.toList, ↓reduceIte, tt, vgo, vout, vgoD, voutD, vclsOk, vids, mayWrite, V.ids, V.mids, vguard, callOf, vop, ev, cv, vbin, vint, isShift, isNilConst, vnil, isNilSlice, vload, vlen, newRow, vfill, vslice, entOf, vappend, srcOf, vcopy, vlookup, vupdate, mapOk, keyOf, intsOf, clsAt]
    subst hQ
    have hA : A i = rB (l.map fun t => hotI c t hour) := by simp only [A, e]
    have hB : B i = rB (l.map fun t => leftI c t hour) := by simp only [B, e]
    rw [← hA, ← hB]
    exact FnPost.plain trivial (v := .tup [.agg [vi (A i).lo, vi (A i).hi], .agg [vi (B i).lo, vi (B i).hi]]) (fun h2 e => by simp only [Try.f25, vres, vresL, vres1, gos, if_true, if_false, ne_eq, eq_self, Nat.reduceLT, Nat.reduceEqDiff, Nat.reduceAdd, Nat.reduceMul, Nat.reduceLeDiff, Nat.reduceBEq, reduceCtorEq, reduceIte, Array.toList, ↓reduceIte, tt, vgo, vout, vgoD, voutD, vclsOk, vids, mayWrite, V.ids, V.mids, vguard, callOf, vop, ev, cv, vbin, vint, isShift, isNilConst, vnil, isNilSlice, vload, vlen, newRow, vfill, vslice, entOf, vappend, srcOf, vcopy, vlookup, vupdate, mapOk, keyOf, intsOf, clsAt, e _]) (WkV.pure rfl) ⟨rfl, rfl⟩
def rVerdict (yes many : Int) : Int := if yes = many then 1 else if yes = 0 then 2 else 3
theorem c_rVerdict (y m : Int) : Pu Try.prog (.fn 89 [] []) [vi y, vi m] (vi (rVerdict y m)) := by
  refine Ev.fn Try.func89 rfl rfl (Fn.body tabOk Try.func89 rfl (Nat.le_of_ble_eq_true rfl) (Ks.ok (fz := (fzn [])) (cl := (cln [])) tabOk mixed ?_))
  generalize hQ : FnPost tt Try.f89 _ _ = Q
  simp only [Try.f89, List.nil_append, List.append_nil, List.cons_append, argsEnv, Nat.reduceAdd]
  by_cases h1 : y = m
  · have hb : decide (y = m) = true := by simp [h1]
    simp only [gos, if_true, if_false, ne_eq, eq_self, Nat.reduceLT, Nat.reduceEqDiff, Nat.reduceAdd, Nat.reduceMul, Nat.reduceLeDiff, Nat.reduceBEq, reduceCtorEq, reduceIte, Array.toList, ↓reduceIte, tt, vgo, vout, vgoD, voutD, vclsOk, vids, mayWrite, V.ids, V.mids, vguard, callOf, vop, ev, cv, vbin, vint, isShift, isNilConst, vnil, isNilSlice, vload, vlen, newRow, vfill, vslice, entOf, vappend, srcOf, vcopy, vlookup, vupdate, mapOk, keyOf, intsOf, clsAt, hb]
    subst hQ
    exact FnPost.plain trivial (fun h2 e => by first | rfl | (simp only [Try.f89, vres, vresL, vres1, e _, gos, if_true, if_false, ne_eq, eq_self, Nat.reduceLT, Nat.reduceEqDiff, Nat.reduceAdd, Nat.reduceMul, Nat.reduceLeDiff, Nat.reduceBEq, reduceCtorEq, reduceIte, Array.toList, ↓reduceIte, tt, vgo, vout, vgoD, voutD, vclsOk, vids, mayWrite, V.ids, V.mids, vguard, callOf, vop, ev, cv, vbin, vint, isShift, isNilConst, vnil, isNilSlice, vload, vlen, newRow, vfill, vslice, entOf, vappend, srcOf, vcopy, vlookup, vupdate, mapOk, keyOf, intsOf, clsAt]; try rfl)) (WkV.pure (by simp only [V.into, intoL, cB_into, vB_into, cI_into, cR_into, cD_into, cS_into, vS_into, vI_into, vR_into, vD_into, cu_into, Bool.true_and, Bool.and_true])) ⟨by simp [rVerdict, h1], rfl⟩
  · have hb : decide (y = m) = false := by simp [h1]
    by_cases h2 : y = 0
    · have hb2 : decide (y = 0) = true := by simp [h2]
      simp only [gos, if_true, if_false, ne_eq, eq_self, Nat.reduceLT, Nat.reduceEqDiff, Nat.reduceAdd, Nat.reduceMul, Nat.reduceLeDiff, Nat.reduceBEq, reduceCtorEq, reduceIte, Array.toList, ↓reduceIte, tt, vgo, vout, vgoD, voutD, vclsOk, vids, mayWrite, V.ids, V.mids, vguard, callOf, vop, ev, cv, vbin, vint, isShift, isNilConst, vnil, isNilSlice, vload, vlen, newRow, vfill, vslice, entOf, vappend, srcOf, vcopy, vlookup, vupdate, mapOk, keyOf, intsOf, clsAt, hb, hb2]
      subst hQ
      exact FnPost.plain trivial (fun h2 e => by first | rfl | (simp only [Try.f89, vres, vresL, vres1, e _, gos, if_true, if_false, ne_eq, eq_self, Nat.reduceLT, Nat.reduceEqDiff, Nat.reduceAdd, Nat.reduceMul, Nat.reduceLeDiff, Nat.reduceBEq, reduceCtorEq, reduceIte, Array.toList, ↓reduceIte, tt, vgo, vout, vgoD, voutD, vclsOk, vids, mayWrite, V.ids, V.mids, vguard, callOf, vop, ev, cv, vbin, vint, isShift, isNilConst, vnil, isNilSlice, vload, vlen, newRow, vfill, vslice, entOf, vappend, srcOf, vcopy, vlookup, vupdate, mapOk, keyOf, intsOf, clsAt]; try rfl)) (WkV.pure (by simp only [V.into, intoL, cB_into, vB_into, cI_into, cR_into, cD_into, cS_into, vS_into, vI_into, vR_into, vD_into, cu_into, Bool.true_and, Bool.and_true])) ⟨by rw [rVerdict, if_neg h1, if_pos h2], rfl⟩
    · have hb2 : decide (y = 0) = false := by simp [h2]
      simp only [gos, if_true, if_false, ne_eq, eq_self, Nat.reduceLT, Nat.reduceEqDiff, Nat.reduceAdd, Nat.reduceMul, Nat.reduceLeDiff, Nat.reduceBEq, reduceCtorEq, reduceIte, Array.toList, ↓reduceIte, tt, vgo, vout, vgoD, voutD, vclsOk, vids, mayWrite, V.ids, V.mids, vguard, callOf, vop, ev, cv, vbin, vint, isShift, isNilConst, vnil, isNilSlice, vload, vlen, newRow, vfill, vslice, entOf, vappend, srcOf, vcopy, vlookup, vupdate, mapOk, keyOf, intsOf, clsAt, hb, hb2]
      subst hQ
      exact FnPost.plain trivial (fun h2 e => by first | rfl | (simp only [Try.f89, vres, vresL, vres1, e _, gos, if_true, if_false, ne_eq, eq_self, Nat.reduceLT, Nat.reduceEqDiff, Nat.reduceAdd, Nat.reduceMul, Nat.reduceLeDiff, Nat.reduceBEq, reduceCtorEq, reduceIte, Array.toList, ↓reduceIte, tt, vgo, vout, vgoD, voutD, vclsOk, vids, mayWrite, V.ids, V.mids, vguard, callOf, vop, ev, cv, vbin, vint, isShift, isNilConst, vnil, isNilSlice, vload, vlen, newRow, vfill, vslice, entOf, vappend, srcOf, vcopy, vlookup, vupdate, mapOk, keyOf, intsOf, clsAt]; try rfl)) (WkV.pure (by simp only [V.into, intoL, cB_into, vB_into, cI_into, cR_into, cD_into, cS_into, vS_into, vI_into, vR_into, vD_into, cu_into, Bool.true_and, Bool.and_true])) ⟨by rw [rVerdict, if_neg h1, if_neg h2], rfl⟩
def keptI (c : Cu) (coal want : List Int) (t : Tr2) (i : Nat) : Bool := decide (gi want i ≤ (sHeat c (tS t) coal want i).tdiv c.per)
theorem count_snoc (l : List Tr2) (f : Tr2 → Bool) {i : Nat} (h : (i : Int) < l.length) : (l.take (i + 1)).countP f = (l.take i).countP f + (if f (gT l i) then 1 else 0) := by
  have e : l.take (i + 1) = l.take i ++ [gT l i] := by rw [List.take_add_one, gT_get h]; rfl
  rw [e, List.countP_append, List.countP_singleton]
def rKeeps (c : Cu) (l : List Tr2) (i : Nat) : Int := rVerdict (l.countP fun t => keptI c c.coal c.want t i) l.length
set_option maxHeartbeats 2000000 in
theorem c_rKeeps (c : Cu) (l : List Tr2) (hl : (l.length : Int) ≤ 1000000) (hok : ∀ t ∈ l, TrOk c t c.coal c.want) (hour : Nat) (hh : (hour : Int) ≤ c.last) :
    Pu Try.prog (.fn 71 [] []) [.agg c.cs, vT l, vi hour] (vi (rKeeps c l hour)) := by
  refine Ev.fn Try.func71 rfl rfl (Fn.body tabOk Try.func71 rfl (Nat.le_of_ble_eq_true rfl) (Ks.ok (fz := (fzn [])) (cl := (cln [(5, .d tg0 [cP, cP, cP, cP, cP, cP, cP, cP, cP, cP, cP])])) tabOk mixed ?_))
  generalize hQ : FnPost tt Try.f71 _ _ = Q
  simp only [Try.f71, List.nil_append, List.append_nil, List.cons_append, argsEnv, Nat.reduceAdd]
  simp only [gos, if_true, if_false, ne_eq, eq_self, Nat.reduceLT, Nat.reduceEqDiff, Nat.reduceAdd, Nat.reduceMul, Nat.reduceLeDiff, Nat.reduceBEq, reduceCtorEq, reduceIte, Array.toList, ↓reduceIte, tt, vgo, vout, vgoD, voutD, vclsOk, vids, mayWrite, V.ids, V.mids, vguard, callOf, vop, ev, cv, vbin, vint, isShift, isNilConst, vnil, isNilSlice, vload, vlen, newRow, vfill, vslice, entOf, vappend, srcOf, vcopy, vlookup, vupdate, mapOk, keyOf, intsOf, clsAt]
  refine W.loop tabOk mixed (fun i : Nat => ([(1, vT l), (2, vi hour), (3, .rop c.cs), (7, vi ((l.take i).countP fun t => keptI c c.coal c.want t hour)), (8, vi i)], [])) (fun i => l.length - i) (fun i => i ≤ l.length) 0 (by omega) (Wk.env (by simp [subE, Env.get])) ?_
  intro i hi
  by_cases hil : (i : Int) < l.length
  · have ht := hok _ (List.mem_of_getElem? (gT_get hil))
    have hcs := count_snoc l (fun t => keptI c c.coal c.want t hour) hil
    have hle : (l.take i).countP (fun t => keptI c c.coal c.want t hour) ≤ i := Nat.le_trans List.countP_le_length (by rw [List.length_take]; exact Nat.min_le_left _ _)
    simp only [gos, if_true, if_false, ne_eq, eq_self, Nat.reduceLT, Nat.reduceEqDiff, Nat.reduceAdd, Nat.reduceMul, Nat.reduceLeDiff, Nat.reduceBEq, reduceCtorEq, reduceIte, Array.toList, ↓reduceIte, tt, vgo, vout, vgoD, voutD, vclsOk, vids, mayWrite, V.ids, V.mids, vguard, callOf, vop, ev, cv, vbin, vint, isShift, isNilConst, vnil, isNilSlice, vload, vlen, newRow, vfill, vslice, entOf, vappend, srcOf, vcopy, vlookup, vupdate, mapOk, keyOf, intsOf, clsAt, vT, hil]
    refine Wr.draw (by kernel_rfl) ?_
    simp only [gos, if_true, if_false, ne_eq, eq_self, Nat.reduceLT, Nat.reduceEqDiff, Nat.reduceAdd, Nat.reduceMul, Nat.reduceLeDiff, Nat.reduceBEq, reduceCtorEq, reduceIte, Array.toList, ↓reduceIte, tt, vgo, vout, vgoD, voutD, vclsOk, vids, mayWrite, V.ids, V.mids, vguard, callOf, vop, ev, cv, vbin, vint, isShift, isNilConst, vnil, isNilSlice, vload, vlen, newRow, vfill, vslice, entOf, vappend, srcOf, vcopy, vlookup, vupdate, mapOk, keyOf, intsOf, clsAt, vT, hil, cT_at (Int.natCast_nonneg i) hil]
    refine CD.pu (c_rKept c (gT l i) c.coal c.want ht hour hh) ?_ rfl (by simp only [V.into, intoL, cB_into, vB_into, cI_into, cR_into, cD_into, cS_into, vS_into, vI_into, vR_into, vD_into, cu_into, Bool.true_and, Bool.and_true])
    rw [show decide (gi c.want hour ≤ (sHeat c (tS (gT l i)) c.coal c.want hour).tdiv c.per) = keptI c c.coal c.want (gT l i) hour from rfl]
    cases hk : keptI c c.coal c.want (gT l i) hour with
    | true =>
      rw [hk] at hcs
      simp only [gos, if_true, if_false, ne_eq, eq_self, Nat.reduceLT, Nat.reduceEqDiff, Nat.reduceAdd, Nat.reduceMul, Nat.reduceLeDiff, Nat.reduceBEq, reduceCtorEq, reduceIte, Array.toList, ↓reduceIte, tt, vgo, vout, vgoD, voutD, vclsOk, vids, mayWrite, V.ids, V.mids, vguard, callOf, vop, ev, cv, vbin, vint, isShift, isNilConst, vnil, isNilSlice, vload, vlen, newRow, vfill, vslice, entOf, vappend, srcOf, vcopy, vlookup, vupdate, mapOk, keyOf, intsOf, clsAt, i64_succ (show (((l.take i).countP fun t => keptI c c.coal c.want t hour : Nat) : Int) < 9223372036854775807 by omega)]
      exact Nx.mk (i + 1) (show l.length - (i + 1) < l.length - i by omega) (by omega) (Wk.env (by simp [subE, Env.get, vT, hcs, i64_succ (show (i : Int) < 9223372036854775807 by omega)]))
    | false =>
      rw [hk] at hcs
      simp only [gos, if_true, if_false, ne_eq, eq_self, Nat.reduceLT, Nat.reduceEqDiff, Nat.reduceAdd, Nat.reduceMul, Nat.reduceLeDiff, Nat.reduceBEq, reduceCtorEq, reduceIte, Array.toList, ↓reduceIte, tt, vgo, vout, vgoD, voutD, vclsOk, vids, mayWrite, V.ids, V.mids, vguard, callOf, vop, ev, cv, vbin, vint, isShift, isNilConst, vnil, isNilSlice, vload, vlen, newRow, vfill, vslice, entOf, vappend, srcOf, vcopy, vlookup, vupdate, mapOk, keyOf, intsOf, clsAt]
      exact Nx.mk (i + 1) (show l.length - (i + 1) < l.length - i by omega) (by omega) (Wk.env (by simp [subE, Env.get, vT, hcs, i64_succ (show (i : Int) < 9223372036854775807 by omega)]))
  · have e : l.take i = l := List.take_of_length_le (by omega)
    simp only [gos, if_true, if_false, ne_eq, eq_self, Nat.reduceLT, Nat.reduceEqDiff, Nat.reduceAdd, Nat.reduceMul, Nat.reduceLeDiff, Nat.reduceBEq, reduceCtorEq, reduceIte, Array.toList, ↓reduceIte, tt, vgo, vout, vgoD, voutD, vclsOk, vids, mayWrite, V.ids, V.mids, vguard, callOf, vop, ev, cv, vbin, vint, isShift, isNilConst, vnil, isNilSlice, vload, vlen, newRow, vfill, vslice, entOf, vappend, srcOf, vcopy, vlookup, vupdate, mapOk, keyOf, intsOf, clsAt, vT, hil, e]
    refine Cl.pu (c_rVerdict _ _) ?_
    simp only [gos, if_true, if_false, ne_eq, eq_self, Nat.reduceLT, Nat.reduceEqDiff, Nat.reduceAdd, Nat.reduceMul, Nat.reduceLeDiff, Nat.reduceBEq, reduceCtorEq, reduceIte, Array.toList, ↓reduceIte, tt, vgo, vout, vgoD, voutD, vclsOk, vids, mayWrite, V.ids, V.mids, vguard, callOf, vop, ev, cv, vbin, vint, isShift, isNilConst, vnil, isNilSlice, vload, vlen, newRow, vfill, vslice, entOf, vappend, srcOf, vcopy, vlookup, vupdate, mapOk, keyOf, intsOf, clsAt]
    subst hQ
    exact FnPost.plain trivial (fun h2 e => by first | rfl | (simp only [Try.f71, vres, vresL, vres1, e _, gos, if_true, if_false, ne_eq, eq_self, Nat.reduceLT, Nat.reduceEqDiff, Nat.reduceAdd, Nat.reduceMul, Nat.reduceLeDiff, Nat.reduceBEq, reduceCtorEq, reduceIte, Array.toList, ↓reduceIte, tt, vgo, vout, vgoD, voutD, vclsOk, vids, mayWrite, V.ids, V.mids, vguard, callOf, vop, ev, cv, vbin, vint, isShift, isNilConst, vnil, isNilSlice, vload, vlen, newRow, vfill, vslice, entOf, vappend, srcOf, vcopy, vlookup, vupdate, mapOk, keyOf, intsOf, clsAt]; try rfl)) (WkV.pure (by simp only [V.into, intoL, cB_into, vB_into, cI_into, cR_into, cD_into, cS_into, vS_into, vI_into, vR_into, vD_into, cu_into, Bool.true_and, Bool.and_true])) ⟨rfl, rfl⟩
end Go.Vm
set_option linter.unusedVariables false
set_option linter.unusedSimpArgs false
set_option maxRecDepth 100000
namespace Go.Vm
open Go.Proofs
/-! ### the laws' helpers -/
theorem c_to (r : Rg) : Pu Try.prog (.fn 26 [] []) [.agg [vi r.lo, vi r.hi]] (.agg [vi r.lo, vi r.hi]) := by
  refine Ev.fn Try.func26 rfl rfl (Fn.body tabOk Try.func26 rfl (Nat.le_of_ble_eq_true rfl) (Ks.ok (fz := (fzn [2])) (cl := (cln [])) tabOk mixed ?_))
  generalize hQ : FnPost tt Try.f26 _ _ = Q
  simp only [Try.f26, List.nil_append, List.append_nil, List.cons_append, argsEnv, Nat.reduceAdd]
  simp only [gos, if_true, if_false, ne_eq, eq_self, Nat.reduceLT, Nat.reduceEqDiff, Nat.reduceAdd, Nat.reduceMul, Nat.reduceLeDiff, Nat.reduceBEq, reduceCtorEq, reduceIte, Array.toList, ↓reduceIte, tt, vgo, vout, vgoD, voutD, vclsOk, vids, mayWrite, V.ids, V.mids, vguard, callOf, vop, ev, cv, vbin, vint, isShift, isNilConst, vnil, isNilSlice, vload, vlen, newRow, vfill, vslice, entOf, vappend, srcOf, vcopy, vlookup, vupdate, mapOk, keyOf, intsOf, clsAt]
  subst hQ
  exact FnPost.plain trivial (fun h2 e => by first | rfl | (simp only [Try.f26, vres, vresL, vres1, e _, gos, if_true, if_false, ne_eq, eq_self, Nat.reduceLT, Nat.reduceEqDiff, Nat.reduceAdd, Nat.reduceMul, Nat.reduceLeDiff, Nat.reduceBEq, reduceCtorEq, reduceIte, Array.toList, ↓reduceIte, tt, vgo, vout, vgoD, voutD, vclsOk, vids, mayWrite, V.ids, V.mids, vguard, callOf, vop, ev, cv, vbin, vint, isShift, isNilConst, vnil, isNilSlice, vload, vlen, newRow, vfill, vslice, entOf, vappend, srcOf, vcopy, vlookup, vupdate, mapOk, keyOf, intsOf, clsAt]; try rfl)) (WkV.pure (by simp only [V.into, intoL, cB_into, vB_into, cI_into, cR_into, cD_into, cS_into, vS_into, vI_into, vR_into, vD_into, cu_into, Bool.true_and, Bool.and_true])) ⟨rfl, rfl⟩
theorem c_list (l : List Int) (hl : (l.length : Int) ≤ 1000000) : Pu Try.prog (.fn 28 [] []) [vI l] (vI l) := by
  refine Ev.fn Try.func28 rfl rfl (Fn.body tabOk Try.func28 rfl (Nat.le_of_ble_eq_true rfl) (Ks.ok (fz := (fzn [])) (cl := (cln [])) tabOk mixed ?_))
  generalize hQ : FnPost tt Try.f28 _ _ = Q
  simp only [Try.f28, List.nil_append, List.append_nil, List.cons_append, argsEnv, Nat.reduceAdd]
  have hl2 : l.length ≤ 1000000 := by omega
  simp only [gos, if_true, if_false, ne_eq, eq_self, Nat.reduceLT, Nat.reduceEqDiff, Nat.reduceAdd, Nat.reduceMul, Nat.reduceLeDiff, Nat.reduceBEq, reduceCtorEq, reduceIte, Array.toList, ↓reduceIte, tt, vgo, vout, vgoD, voutD, vclsOk, vids, mayWrite, V.ids, V.mids, vguard, callOf, vop, ev, cv, vbin, vint, isShift, isNilConst, vnil, isNilSlice, vload, vlen, newRow, vfill, vslice, entOf, vappend, srcOf, vcopy, vlookup, vupdate, mapOk, keyOf, intsOf, clsAt, vI, cI_len, Nat.mul_one, cI_one, hl2]
  subst hQ
  have ht : (cI l).take l.length = cI l := List.take_of_length_le (by rw [cI_len]; omega)
  refine FnPost.plain trivial (v := .own 5 0 0 1 l.length) (fun h2 e => by rfl) (WkV.frz 5 (v' := vI l) (h' := []) (ver := 0) (cs := cI l) rfl rfl (cI_into _ _) rfl ?_ ?_ WkV.refl) ⟨rfl, rfl⟩
  · simp [V.frz, vI, ht]
  · simp [frzH]
theorem wk_cop (c : Cu) (i j : Nat) (R : List Rg) (D : List Rd) (hR : R.length = i) (hD : D.length = j) :
    WkV (domP []) (.agg [vi c.last, vi c.start, vi c.most, vi c.per, vi c.shovels, vI c.coal, vI c.want, vi c.heat.lo, vi c.heat.hi, .own 42 i 0 2 i, .own 68 j 0 3 j])
      [(2, ⟨0, .row [vi c.last, vi c.start, vi c.most, vi c.per, vi c.shovels, vI c.coal, vI c.want, vi c.heat.lo, vi c.heat.hi, .own 42 i 0 2 i, .own 68 j 0 3 j]⟩), (3, ⟨0, .row [vi c.last, vi c.start, vi c.most, vi c.per, vi c.shovels, vI c.coal, vI c.want, vi c.heat.lo, vi c.heat.hi, .own 42 i 0 2 i, .own 68 j 0 3 j]⟩), (42, ⟨i, .row (cR R)⟩), (68, ⟨j, .row (cD D)⟩)]
      (.agg [vi c.last, vi c.start, vi c.most, vi c.per, vi c.shovels, vI c.coal, vI c.want, vi c.heat.lo, vi c.heat.hi, vR R, vD D]) [] := by
  have e1 : (cR R).take (i * 2) = cR R := List.take_of_length_le (by rw [cR_len]; omega)
  have e2 : (cD D).take (j * 3) = cD D := List.take_of_length_le (by rw [cD_len]; omega)
  refine WkV.frz 42 (v' := .agg [vi c.last, vi c.start, vi c.most, vi c.per, vi c.shovels, vI c.coal, vI c.want, vi c.heat.lo, vi c.heat.hi, .ro i (cR R), .own 68 j 0 3 j])
    (h' := [(2, ⟨0, .row [vi c.last, vi c.start, vi c.most, vi c.per, vi c.shovels, vI c.coal, vI c.want, vi c.heat.lo, vi c.heat.hi, .ro i (cR R), .own 68 j 0 3 j]⟩), (3, ⟨0, .row [vi c.last, vi c.start, vi c.most, vi c.per, vi c.shovels, vI c.coal, vI c.want, vi c.heat.lo, vi c.heat.hi, .ro i (cR R), .own 68 j 0 3 j]⟩), (68, ⟨j, .row (cD D)⟩)]) (ver := i) (cs := cR R) rfl rfl (cR_into _ _) rfl ?_ ?_ ?_
  · simp [V.frz, frzL, e1, vI, cI_frz]
  · simp [frzH, Blk.frz, V.frz, frzL, e1, cI_frz, cD_frz, vI]
  refine WkV.frz 68 (v' := .agg [vi c.last, vi c.start, vi c.most, vi c.per, vi c.shovels, vI c.coal, vI c.want, vi c.heat.lo, vi c.heat.hi, .ro i (cR R), .ro j (cD D)])
    (h' := [(2, ⟨0, .row [vi c.last, vi c.start, vi c.most, vi c.per, vi c.shovels, vI c.coal, vI c.want, vi c.heat.lo, vi c.heat.hi, .ro i (cR R), .ro j (cD D)]⟩), (3, ⟨0, .row [vi c.last, vi c.start, vi c.most, vi c.per, vi c.shovels, vI c.coal, vI c.want, vi c.heat.lo, vi c.heat.hi, .ro i (cR R), .ro j (cD D)]⟩)]) (ver := j) (cs := cD D) rfl rfl (cD_into _ _) rfl ?_ ?_ ?_
  · simp [V.frz, frzL, e2, vI, cI_frz, cR_frz]
  · simp [frzH, Blk.frz, V.frz, frzL, e2, cI_frz, cR_frz, vI]
  rw [show V.ro i (cR R) = vR R by rw [vR, hR], show V.ro j (cD D) = vD D by rw [vD, hD]]
  exact WkV.pure (by simp only [V.into, intoL, cB_into, vB_into, cI_into, cR_into, cD_into, cS_into, vS_into, vI_into, vR_into, vD_into, cu_into, Bool.true_and, Bool.and_true])
theorem cD_snoc : ∀ (l : List Rd) (r : Rd), cD (l ++ [r]) = cD l ++ [vi r.hour, vi r.b.lo, vi r.b.hi]
  | [], r => rfl
  | x :: l, r => by simp [cD, cD_snoc l r]
set_option maxHeartbeats 4000000 in
theorem c_lCopper (c : Cu) (hc : c.wf) : Pu Try.prog (.fn 23 [] []) [.agg c.cs] (.agg c.cs) := by
  refine Ev.fn Try.func23 rfl rfl (Fn.body tabOk Try.func23 rfl (Nat.le_of_ble_eq_true rfl) (Ks.ok (fz := (fzn [2, 3])) (cl := (cln [(1, .d tg0 [cP, cP, cP, cP, cP, cP, cP, cP, cP, cP, cP, cP, cP, cP, cP, cP, cP, cP, cP, cP, cW, cW]), (5, .d (tgL [(42, 1)]) [cP, cL, cP, cP, cP, cP, cP, cP, cP, some ([1], [1]), cP, cW]), (9, .d (tgL [(68, 1)]) [cP, cL, cP, cP, cP, cP, cP, cP, cP, cP, cP, cP, cP, cP, cP, cP, cP, some ([1], [1]), cP, cW])])) tabOk mixed ?_))
  generalize hQ : FnPost tt Try.f23 _ _ = Q
  simp only [Try.f23, List.nil_append, List.append_nil, List.cons_append, argsEnv, Nat.reduceAdd]
  simp only [gos, if_true, if_false, ne_eq, eq_self, Nat.reduceLT, Nat.reduceEqDiff, Nat.reduceAdd, Nat.reduceMul, Nat.reduceLeDiff, Nat.reduceBEq, reduceCtorEq, reduceIte, Array.toList, ↓reduceIte, tt, vgo, vout, vgoD, voutD, vclsOk, vids, mayWrite, V.ids, V.mids, vguard, callOf, vop, ev, cv, vbin, vint, isShift, isNilConst, vnil, isNilSlice, vload, vlen, newRow, vfill, vslice, entOf, vappend, srcOf, vcopy, vlookup, vupdate, mapOk, keyOf, intsOf, clsAt]
  refine Wr.draw (by kernel_rfl) ?_
  simp only [gos, if_true, if_false, ne_eq, eq_self, Nat.reduceLT, Nat.reduceEqDiff, Nat.reduceAdd, Nat.reduceMul, Nat.reduceLeDiff, Nat.reduceBEq, reduceCtorEq, reduceIte, Array.toList, ↓reduceIte, tt, vgo, vout, vgoD, voutD, vclsOk, vids, mayWrite, V.ids, V.mids, vguard, callOf, vop, ev, cv, vbin, vint, isShift, isNilConst, vnil, isNilSlice, vload, vlen, newRow, vfill, vslice, entOf, vappend, srcOf, vcopy, vlookup, vupdate, mapOk, keyOf, intsOf, clsAt]
  refine CD.pu (c_list c.coal hc.coal) ?_ rfl (by simp only [V.into, intoL, cB_into, vB_into, cI_into, cR_into, cD_into, cS_into, vS_into, vI_into, vR_into, vD_into, cu_into, Bool.true_and, Bool.and_true])
  simp only [gos, if_true, if_false, ne_eq, eq_self, Nat.reduceLT, Nat.reduceEqDiff, Nat.reduceAdd, Nat.reduceMul, Nat.reduceLeDiff, Nat.reduceBEq, reduceCtorEq, reduceIte, Array.toList, ↓reduceIte, tt, vgo, vout, vgoD, voutD, vclsOk, vids, mayWrite, V.ids, V.mids, vguard, callOf, vop, ev, cv, vbin, vint, isShift, isNilConst, vnil, isNilSlice, vload, vlen, newRow, vfill, vslice, entOf, vappend, srcOf, vcopy, vlookup, vupdate, mapOk, keyOf, intsOf, clsAt]
  refine CD.pu (c_list c.want hc.want) ?_ rfl (by simp only [V.into, intoL, cB_into, vB_into, cI_into, cR_into, cD_into, cS_into, vS_into, vI_into, vR_into, vD_into, cu_into, Bool.true_and, Bool.and_true])
  simp only [gos, if_true, if_false, ne_eq, eq_self, Nat.reduceLT, Nat.reduceEqDiff, Nat.reduceAdd, Nat.reduceMul, Nat.reduceLeDiff, Nat.reduceBEq, reduceCtorEq, reduceIte, Array.toList, ↓reduceIte, tt, vgo, vout, vgoD, voutD, vclsOk, vids, mayWrite, V.ids, V.mids, vguard, callOf, vop, ev, cv, vbin, vint, isShift, isNilConst, vnil, isNilSlice, vload, vlen, newRow, vfill, vslice, entOf, vappend, srcOf, vcopy, vlookup, vupdate, mapOk, keyOf, intsOf, clsAt]
  refine CD.pu (c_to c.heat) ?_
  simp only [gos, if_true, if_false, ne_eq, eq_self, Nat.reduceLT, Nat.reduceEqDiff, Nat.reduceAdd, Nat.reduceMul, Nat.reduceLeDiff, Nat.reduceBEq, reduceCtorEq, reduceIte, Array.toList, ↓reduceIte, tt, vgo, vout, vgoD, voutD, vclsOk, vids, mayWrite, V.ids, V.mids, vguard, callOf, vop, ev, cv, vbin, vint, isShift, isNilConst, vnil, isNilSlice, vload, vlen, newRow, vfill, vslice, entOf, vappend, srcOf, vcopy, vlookup, vupdate, mapOk, keyOf, intsOf, clsAt]
  let row : Nat → Nat → List V := fun i j => [vi c.last, vi c.start, vi c.most, vi c.per, vi c.shovels, vI c.coal, vI c.want, vi c.heat.lo, vi c.heat.hi, .own 42 i 0 2 i, .own 68 j 0 3 j]
  refine W.loop tabOk mixed (fun i : Nat => ([(1, .rop c.cs), (2, .ptr 2 0 0), (3, .ptr 3 0 0), (4, vi i)], [(2, ⟨0, .row [vi 0, vi 0, vi 0, vi 0, vi 0, .sl0, .sl0, vi 0, vi 0, .sl0, .sl0]⟩), (3, ⟨0, .row [vi c.last, vi c.start, vi c.most, vi c.per, vi c.shovels, vI c.coal, vI c.want, vi c.heat.lo, vi c.heat.hi, .own 42 i 0 2 i, .own 68 0 0 3 0]⟩), (42, ⟨i, .row (cR (c.loss.take i))⟩), (68, ⟨0, .row (cD [])⟩)])) (fun i => c.loss.length - i) (fun i => i ≤ c.loss.length) 0 (by omega)
    (Wk.trans (Wk.sl0H 3 9 42 2 rfl rfl rfl) (Wk.trans (Wk.sl0H 3 10 68 3 rfl rfl rfl) (Wk.env (by simp [subE, Env.get])))) ?_
  intro i hi
  by_cases hil : (i : Int) < c.loss.length
  · have hn : (cR (c.loss.take i)).length = i * 2 := by rw [cR_len, List.length_take]; omega
    have hi9 : i ≤ 999999 := by have := hc.loss; omega
    simp only [gos, if_true, if_false, ne_eq, eq_self, Nat.reduceLT, Nat.reduceEqDiff, Nat.reduceAdd, Nat.reduceMul, Nat.reduceLeDiff, Nat.reduceBEq, reduceCtorEq, reduceIte, Array.toList, ↓reduceIte, tt, vgo, vout, vgoD, voutD, vclsOk, vids, mayWrite, V.ids, V.mids, vguard, callOf, vop, ev, cv, vbin, vint, isShift, isNilConst, vnil, isNilSlice, vload, vlen, newRow, vfill, vslice, entOf, vappend, srcOf, vcopy, vlookup, vupdate, mapOk, keyOf, intsOf, clsAt, vR, hil]
    refine Wr.draw (by kernel_rfl) ?_
    simp only [gos, if_true, if_false, ne_eq, eq_self, Nat.reduceLT, Nat.reduceEqDiff, Nat.reduceAdd, Nat.reduceMul, Nat.reduceLeDiff, Nat.reduceBEq, reduceCtorEq, reduceIte, Array.toList, ↓reduceIte, tt, vgo, vout, vgoD, voutD, vclsOk, vids, mayWrite, V.ids, V.mids, vguard, callOf, vop, ev, cv, vbin, vint, isShift, isNilConst, vnil, isNilSlice, vload, vlen, newRow, vfill, vslice, entOf, vappend, srcOf, vcopy, vlookup, vupdate, mapOk, keyOf, intsOf, clsAt, vR, hil, cR_at (Int.natCast_nonneg i) hil]
    refine CD.pu (c_to _) ?_
    simp only [gos, if_true, if_false, ne_eq, eq_self, Nat.reduceLT, Nat.reduceEqDiff, Nat.reduceAdd, Nat.reduceMul, Nat.reduceLeDiff, Nat.reduceBEq, reduceCtorEq, reduceIte, Array.toList, ↓reduceIte, tt, vgo, vout, vgoD, voutD, vclsOk, vids, mayWrite, V.ids, V.mids, vguard, callOf, vop, ev, cv, vbin, vint, isShift, isNilConst, vnil, isNilSlice, vload, vlen, newRow, vfill, vslice, entOf, vappend, srcOf, vcopy, vlookup, vupdate, mapOk, keyOf, intsOf, clsAt, hn, hi9]
    refine Nx.mk (i + 1) (show c.loss.length - (i + 1) < c.loss.length - i by omega) (by omega) (Wk.heap (fun j => ?_) ?_)
    · rw [take_snocR hil, cR_snoc]
    · simp [subE, Env.get, i64_succ (show (i : Int) < 9223372036854775807 by omega)]
  have e : c.loss.take i = c.loss := List.take_of_length_le (by omega)
  have hie : i = c.loss.length := by omega
  simp only [gos, if_true, if_false, ne_eq, eq_self, Nat.reduceLT, Nat.reduceEqDiff, Nat.reduceAdd, Nat.reduceMul, Nat.reduceLeDiff, Nat.reduceBEq, reduceCtorEq, reduceIte, Array.toList, ↓reduceIte, tt, vgo, vout, vgoD, voutD, vclsOk, vids, mayWrite, V.ids, V.mids, vguard, callOf, vop, ev, cv, vbin, vint, isShift, isNilConst, vnil, isNilSlice, vload, vlen, newRow, vfill, vslice, entOf, vappend, srcOf, vcopy, vlookup, vupdate, mapOk, keyOf, intsOf, clsAt, vR, hil, e]
  refine W.loop tabOk mixed (fun j : Nat => ([(1, .rop c.cs), (2, .ptr 2 0 0), (3, .ptr 3 0 0), (5, vi j)], [(2, ⟨0, .row [vi 0, vi 0, vi 0, vi 0, vi 0, .sl0, .sl0, vi 0, vi 0, .sl0, .sl0]⟩), (3, ⟨0, .row [vi c.last, vi c.start, vi c.most, vi c.per, vi c.shovels, vI c.coal, vI c.want, vi c.heat.lo, vi c.heat.hi, .own 42 i 0 2 i, .own 68 j 0 3 j]⟩), (42, ⟨i, .row (cR c.loss)⟩), (68, ⟨j, .row (cD (c.readings.take j))⟩)])) (fun j => c.readings.length - j) (fun j => j ≤ c.readings.length) 0 (by omega)
    (Wk.env (by simp [subE, Env.get])) ?_
  intro j hj
  by_cases hjl : (j : Int) < c.readings.length
  · have hn : (cD (c.readings.take j)).length = j * 3 := by rw [cD_len, List.length_take]; omega
    have hj9 : j ≤ 999999 := by have := hc.readings; omega
    have ed : c.readings.take (j + 1) = c.readings.take j ++ [gD c.readings j] := by rw [List.take_add_one, gD_get hjl]; rfl
    simp only [gos, if_true, if_false, ne_eq, eq_self, Nat.reduceLT, Nat.reduceEqDiff, Nat.reduceAdd, Nat.reduceMul, Nat.reduceLeDiff, Nat.reduceBEq, reduceCtorEq, reduceIte, Array.toList, ↓reduceIte, tt, vgo, vout, vgoD, voutD, vclsOk, vids, mayWrite, V.ids, V.mids, vguard, callOf, vop, ev, cv, vbin, vint, isShift, isNilConst, vnil, isNilSlice, vload, vlen, newRow, vfill, vslice, entOf, vappend, srcOf, vcopy, vlookup, vupdate, mapOk, keyOf, intsOf, clsAt, vD, hjl]
    refine Wr.draw (by kernel_rfl) ?_
    simp only [gos, if_true, if_false, ne_eq, eq_self, Nat.reduceLT, Nat.reduceEqDiff, Nat.reduceAdd, Nat.reduceMul, Nat.reduceLeDiff, Nat.reduceBEq, reduceCtorEq, reduceIte, Array.toList, ↓reduceIte, tt, vgo, vout, vgoD, voutD, vclsOk, vids, mayWrite, V.ids, V.mids, vguard, callOf, vop, ev, cv, vbin, vint, isShift, isNilConst, vnil, isNilSlice, vload, vlen, newRow, vfill, vslice, entOf, vappend, srcOf, vcopy, vlookup, vupdate, mapOk, keyOf, intsOf, clsAt, vD, hjl, cD_at (Int.natCast_nonneg j) hjl]
    refine CD.pu (c_to _) ?_
    simp only [gos, if_true, if_false, ne_eq, eq_self, Nat.reduceLT, Nat.reduceEqDiff, Nat.reduceAdd, Nat.reduceMul, Nat.reduceLeDiff, Nat.reduceBEq, reduceCtorEq, reduceIte, Array.toList, ↓reduceIte, tt, vgo, vout, vgoD, voutD, vclsOk, vids, mayWrite, V.ids, V.mids, vguard, callOf, vop, ev, cv, vbin, vint, isShift, isNilConst, vnil, isNilSlice, vload, vlen, newRow, vfill, vslice, entOf, vappend, srcOf, vcopy, vlookup, vupdate, mapOk, keyOf, intsOf, clsAt, hn, hj9]
    refine Nx.mk (j + 1) (show c.readings.length - (j + 1) < c.readings.length - j by omega) (by omega) (Wk.heap (fun k => ?_) ?_)
    · rw [ed, cD_snoc]
    · simp [subE, Env.get, i64_succ (show (j : Int) < 9223372036854775807 by omega)]
  have e2 : c.readings.take j = c.readings := List.take_of_length_le (by omega)
  have hje : j = c.readings.length := by omega
  simp only [gos, if_true, if_false, ne_eq, eq_self, Nat.reduceLT, Nat.reduceEqDiff, Nat.reduceAdd, Nat.reduceMul, Nat.reduceLeDiff, Nat.reduceBEq, reduceCtorEq, reduceIte, Array.toList, ↓reduceIte, tt, vgo, vout, vgoD, voutD, vclsOk, vids, mayWrite, V.ids, V.mids, vguard, callOf, vop, ev, cv, vbin, vint, isShift, isNilConst, vnil, isNilSlice, vload, vlen, newRow, vfill, vslice, entOf, vappend, srcOf, vcopy, vlookup, vupdate, mapOk, keyOf, intsOf, clsAt, vD, hjl, e2]
  subst hQ
  exact FnPost.plain trivial (v := .agg [vi c.last, vi c.start, vi c.most, vi c.per, vi c.shovels, vI c.coal, vI c.want, vi c.heat.lo, vi c.heat.hi, .own 42 i 0 2 i, .own 68 j 0 3 j]) (fun h2 e => by simp only [Try.f23, vres, vresL, vres1, gos, if_true, if_false, ne_eq, eq_self, Nat.reduceLT, Nat.reduceEqDiff, Nat.reduceAdd, Nat.reduceMul, Nat.reduceLeDiff, Nat.reduceBEq, reduceCtorEq, reduceIte, Array.toList, ↓reduceIte, tt, vgo, vout, vgoD, voutD, vclsOk, vids, mayWrite, V.ids, V.mids, vguard, callOf, vop, ev, cv, vbin, vint, isShift, isNilConst, vnil, isNilSlice, vload, vlen, newRow, vfill, vslice, entOf, vappend, srcOf, vcopy, vlookup, vupdate, mapOk, keyOf, intsOf, clsAt, e _]) (wk_cop c i j c.loss c.readings hie.symm hje.symm) ⟨rfl, rfl⟩
end Go.Vm
set_option linter.unusedVariables false
set_option linter.unusedSimpArgs false
set_option maxRecDepth 100000
namespace Go.Vm
open Go.Proofs
theorem c_fault (c : Cu) (hc : c.wf) : Pu Try.prog (.fn 30 [] []) [.agg c.cs] (vi (sCheck c)) := by
  refine Ev.fn Try.func30 rfl rfl (Fn.body tabOk Try.func30 rfl (Nat.le_of_ble_eq_true rfl) (Ks.ok (fz := (fzn [])) (cl := (cln [])) tabOk mixed ?_))
  generalize hQ : FnPost tt Try.f30 _ _ = Q
  simp only [Try.f30, List.nil_append, List.append_nil, List.cons_append, argsEnv, Nat.reduceAdd]
  simp only [gos, if_true, if_false, ne_eq, eq_self, Nat.reduceLT, Nat.reduceEqDiff, Nat.reduceAdd, Nat.reduceMul, Nat.reduceLeDiff, Nat.reduceBEq, reduceCtorEq, reduceIte, Array.toList, ↓reduceIte, tt, vgo, vout, vgoD, voutD, vclsOk, vids, mayWrite, V.ids, V.mids, vguard, callOf, vop, ev, cv, vbin, vint, isShift, isNilConst, vnil, isNilSlice, vload, vlen, newRow, vfill, vslice, entOf, vappend, srcOf, vcopy, vlookup, vupdate, mapOk, keyOf, intsOf, clsAt]
  refine Cl.pu (c_rFault c hc) ?_ rfl (by simp only [V.into, intoL, cB_into, vB_into, cI_into, cR_into, cD_into, cS_into, vS_into, vI_into, vR_into, vD_into, cu_into, Bool.true_and, Bool.and_true])
  simp only [gos, if_true, if_false, ne_eq, eq_self, Nat.reduceLT, Nat.reduceEqDiff, Nat.reduceAdd, Nat.reduceMul, Nat.reduceLeDiff, Nat.reduceBEq, reduceCtorEq, reduceIte, Array.toList, ↓reduceIte, tt, vgo, vout, vgoD, voutD, vclsOk, vids, mayWrite, V.ids, V.mids, vguard, callOf, vop, ev, cv, vbin, vint, isShift, isNilConst, vnil, isNilSlice, vload, vlen, newRow, vfill, vslice, entOf, vappend, srcOf, vcopy, vlookup, vupdate, mapOk, keyOf, intsOf, clsAt]
  subst hQ
  exact FnPost.plain trivial (fun h2 e => by first | rfl | (simp only [Try.f30, vres, vresL, vres1, e _, gos, if_true, if_false, ne_eq, eq_self, Nat.reduceLT, Nat.reduceEqDiff, Nat.reduceAdd, Nat.reduceMul, Nat.reduceLeDiff, Nat.reduceBEq, reduceCtorEq, reduceIte, Array.toList, ↓reduceIte, tt, vgo, vout, vgoD, voutD, vclsOk, vids, mayWrite, V.ids, V.mids, vguard, callOf, vop, ev, cv, vbin, vint, isShift, isNilConst, vnil, isNilSlice, vload, vlen, newRow, vfill, vslice, entOf, vappend, srcOf, vcopy, vlookup, vupdate, mapOk, keyOf, intsOf, clsAt]; try rfl)) (WkV.pure (by simp only [V.into, intoL, cB_into, vB_into, cI_into, cR_into, cD_into, cS_into, vS_into, vI_into, vR_into, vD_into, cu_into, Bool.true_and, Bool.and_true])) ⟨rfl, rfl⟩
/-- What sure returns. -/
def rSureE (c : Cu) : Int := if sCheck c ≠ 0 then sCheck c else if rTruths c = [] then 11 else 0
def rSureL (c : Cu) : List Tr2 := if sCheck c ≠ 0 then [] else rTruths c
theorem sl0_vT : ImpV .sl0 (vT []) := ImpV.sl0
theorem WkV.nilT {a : V} : WkV (domP []) (.tup [.sl0, a]) [] (.tup [vT [], a]) [] := WkV.imp (ImpV.tup ⟨sl0_vT, ImpV.refl _, trivial⟩)
theorem c_lsure (c : Cu) (hc : c.wf) : Pu Try.prog (.fn 24 [] []) [.agg c.cs] (.tup [vT (rSureL c), vi (rSureE c)]) := by
  refine Ev.fn Try.func24 rfl rfl (Fn.body tabOk Try.func24 rfl (Nat.le_of_ble_eq_true rfl) (Ks.ok (fz := (fzn [])) (cl := (cln [])) tabOk mixed ?_))
  generalize hQ : FnPost tt Try.f24 _ _ = Q
  simp only [Try.f24, List.nil_append, List.append_nil, List.cons_append, argsEnv, Nat.reduceAdd]
  simp only [gos, if_true, if_false, ne_eq, eq_self, Nat.reduceLT, Nat.reduceEqDiff, Nat.reduceAdd, Nat.reduceMul, Nat.reduceLeDiff, Nat.reduceBEq, reduceCtorEq, reduceIte, Array.toList, ↓reduceIte, tt, vgo, vout, vgoD, voutD, vclsOk, vids, mayWrite, V.ids, V.mids, vguard, callOf, vop, ev, cv, vbin, vint, isShift, isNilConst, vnil, isNilSlice, vload, vlen, newRow, vfill, vslice, entOf, vappend, srcOf, vcopy, vlookup, vupdate, mapOk, keyOf, intsOf, clsAt]
  refine Cl.pu (c_fault c hc) ?_ rfl (by simp only [V.into, intoL, cB_into, vB_into, cI_into, cR_into, cD_into, cS_into, vS_into, vI_into, vR_into, vD_into, cu_into, Bool.true_and, Bool.and_true])
  by_cases h0 : sCheck c = 0
  case neg =>
    have hb : (sCheck c != 0) = true := by simp [h0]
    simp only [gos, if_true, if_false, ne_eq, eq_self, Nat.reduceLT, Nat.reduceEqDiff, Nat.reduceAdd, Nat.reduceMul, Nat.reduceLeDiff, Nat.reduceBEq, reduceCtorEq, reduceIte, Array.toList, ↓reduceIte, tt, vgo, vout, vgoD, voutD, vclsOk, vids, mayWrite, V.ids, V.mids, vguard, callOf, vop, ev, cv, vbin, vint, isShift, isNilConst, vnil, isNilSlice, vload, vlen, newRow, vfill, vslice, entOf, vappend, srcOf, vcopy, vlookup, vupdate, mapOk, keyOf, intsOf, clsAt, hb]
    subst hQ
    have e1 : rSureE c = sCheck c := by simp [rSureE, h0]
    have e2 : rSureL c = [] := by simp [rSureL, h0]
    rw [e1, e2]
    exact FnPost.plain trivial (v := .tup [.sl0, vi (sCheck c)]) (fun h2 e => by rfl) WkV.nilT ⟨rfl, rfl⟩
  have hb : (sCheck c != 0) = false := by simp [h0]
  have k0 := sCheck_ok h0
  simp only [gos, if_true, if_false, ne_eq, eq_self, Nat.reduceLT, Nat.reduceEqDiff, Nat.reduceAdd, Nat.reduceMul, Nat.reduceLeDiff, Nat.reduceBEq, reduceCtorEq, reduceIte, Array.toList, ↓reduceIte, tt, vgo, vout, vgoD, voutD, vclsOk, vids, mayWrite, V.ids, V.mids, vguard, callOf, vop, ev, cv, vbin, vint, isShift, isNilConst, vnil, isNilSlice, vload, vlen, newRow, vfill, vslice, entOf, vappend, srcOf, vcopy, vlookup, vupdate, mapOk, keyOf, intsOf, clsAt, hb]
  refine Cl.pu (c_rTruths c k0) ?_ rfl (by simp only [V.into, intoL, cB_into, vB_into, cI_into, cR_into, cD_into, cS_into, vS_into, vI_into, vR_into, vD_into, cu_into, Bool.true_and, Bool.and_true])
  have e2 : rSureL c = rTruths c := by simp [rSureL, h0]
  by_cases hn : rTruths c = []
  · have hd : decide (((rTruths c).length : Int) = 0) = true := by simp [hn]
    simp only [gos, if_true, if_false, ne_eq, eq_self, Nat.reduceLT, Nat.reduceEqDiff, Nat.reduceAdd, Nat.reduceMul, Nat.reduceLeDiff, Nat.reduceBEq, reduceCtorEq, reduceIte, Array.toList, ↓reduceIte, tt, vgo, vout, vgoD, voutD, vclsOk, vids, mayWrite, V.ids, V.mids, vguard, callOf, vop, ev, cv, vbin, vint, isShift, isNilConst, vnil, isNilSlice, vload, vlen, newRow, vfill, vslice, entOf, vappend, srcOf, vcopy, vlookup, vupdate, mapOk, keyOf, intsOf, clsAt, vT, hd]
    subst hQ
    have e1 : rSureE c = 11 := by simp [rSureE, h0, hn]
    rw [e1, e2, hn]
    exact FnPost.plain trivial (v := .tup [.sl0, vi 11]) (fun h2 e => by rfl) WkV.nilT ⟨rfl, rfl⟩
  · have hd : decide (((rTruths c).length : Int) = 0) = false := by simp [hn]
    simp only [gos, if_true, if_false, ne_eq, eq_self, Nat.reduceLT, Nat.reduceEqDiff, Nat.reduceAdd, Nat.reduceMul, Nat.reduceLeDiff, Nat.reduceBEq, reduceCtorEq, reduceIte, Array.toList, ↓reduceIte, tt, vgo, vout, vgoD, voutD, vclsOk, vids, mayWrite, V.ids, V.mids, vguard, callOf, vop, ev, cv, vbin, vint, isShift, isNilConst, vnil, isNilSlice, vload, vlen, newRow, vfill, vslice, entOf, vappend, srcOf, vcopy, vlookup, vupdate, mapOk, keyOf, intsOf, clsAt, vT, hd]
    subst hQ
    have e1 : rSureE c = 0 := by simp [rSureE, h0, hn]
    rw [e1, e2]
    exact FnPost.plain trivial (fun h2 e => by rfl) WkV.refl ⟨rfl, rfl⟩
/-- Thin coppers. -/
def sThin (c : Cu) : Bool := !decide (7 < (c.coal.length : Int)) && (!decide (7 < (c.want.length : Int)) && (!decide (7 < (c.loss.length : Int)) && (!decide (7 < (c.readings.length : Int)) && (decide (sCheck c ≠ 0) || decide (rMany c ≤ 60)))))
set_option maxHeartbeats 1000000 in
theorem c_Thin (c : Cu) (hl : I64 c.last) : Pu Try.prog (.fn 20 [] []) [.agg c.cs] (.bool (sThin c)) := by
  refine Ev.fn Try.func20 rfl rfl (Fn.body tabOk Try.func20 rfl (Nat.le_of_ble_eq_true rfl) (Ks.ok (fz := (fzn [])) (cl := (cln [])) tabOk mixed ?_))
  generalize hQ : FnPost tt Try.f20 _ _ = Q
  simp only [Try.f20, List.nil_append, List.append_nil, List.cons_append, argsEnv, Nat.reduceAdd]
  by_cases h1 : 7 < (c.coal.length : Int)
  · simp only [gos, if_true, if_false, ne_eq, eq_self, Nat.reduceLT, Nat.reduceEqDiff, Nat.reduceAdd, Nat.reduceMul, Nat.reduceLeDiff, Nat.reduceBEq, reduceCtorEq, reduceIte, Array.toList, ↓reduceIte, tt, vgo, vout, vgoD, voutD, vclsOk, vids, mayWrite, V.ids, V.mids, vguard, callOf, vop, ev, cv, vbin, vint, isShift, isNilConst, vnil, isNilSlice, vload, vlen, newRow, vfill, vslice, entOf, vappend, srcOf, vcopy, vlookup, vupdate, mapOk, keyOf, intsOf, clsAt, vI, h1]
    subst hQ
    exact FnPost.plain trivial (fun h2 e => by first | rfl | (simp only [Try.f20, vres, vresL, vres1, e _, gos, if_true, if_false, ne_eq, eq_self, Nat.reduceLT, Nat.reduceEqDiff, Nat.reduceAdd, Nat.reduceMul, Nat.reduceLeDiff, Nat.reduceBEq, reduceCtorEq, reduceIte, Array.toList, ↓reduceIte, tt, vgo, vout, vgoD, voutD, vclsOk, vids, mayWrite, V.ids, V.mids, vguard, callOf, vop, ev, cv, vbin, vint, isShift, isNilConst, vnil, isNilSlice, vload, vlen, newRow, vfill, vslice, entOf, vappend, srcOf, vcopy, vlookup, vupdate, mapOk, keyOf, intsOf, clsAt]; try rfl)) (WkV.pure (by simp only [V.into, intoL, cB_into, vB_into, cI_into, cR_into, cD_into, cS_into, vS_into, vI_into, vR_into, vD_into, cu_into, Bool.true_and, Bool.and_true])) ⟨by simp [sThin, h1], rfl⟩
  by_cases h2 : 7 < (c.want.length : Int)
  · simp only [gos, if_true, if_false, ne_eq, eq_self, Nat.reduceLT, Nat.reduceEqDiff, Nat.reduceAdd, Nat.reduceMul, Nat.reduceLeDiff, Nat.reduceBEq, reduceCtorEq, reduceIte, Array.toList, ↓reduceIte, tt, vgo, vout, vgoD, voutD, vclsOk, vids, mayWrite, V.ids, V.mids, vguard, callOf, vop, ev, cv, vbin, vint, isShift, isNilConst, vnil, isNilSlice, vload, vlen, newRow, vfill, vslice, entOf, vappend, srcOf, vcopy, vlookup, vupdate, mapOk, keyOf, intsOf, clsAt, vI, h1, h2]
    subst hQ
    exact FnPost.plain trivial (fun h2 e => by first | rfl | (simp only [Try.f20, vres, vresL, vres1, e _, gos, if_true, if_false, ne_eq, eq_self, Nat.reduceLT, Nat.reduceEqDiff, Nat.reduceAdd, Nat.reduceMul, Nat.reduceLeDiff, Nat.reduceBEq, reduceCtorEq, reduceIte, Array.toList, ↓reduceIte, tt, vgo, vout, vgoD, voutD, vclsOk, vids, mayWrite, V.ids, V.mids, vguard, callOf, vop, ev, cv, vbin, vint, isShift, isNilConst, vnil, isNilSlice, vload, vlen, newRow, vfill, vslice, entOf, vappend, srcOf, vcopy, vlookup, vupdate, mapOk, keyOf, intsOf, clsAt]; try rfl)) (WkV.pure (by simp only [V.into, intoL, cB_into, vB_into, cI_into, cR_into, cD_into, cS_into, vS_into, vI_into, vR_into, vD_into, cu_into, Bool.true_and, Bool.and_true])) ⟨by simp [sThin, h1, h2], rfl⟩
  by_cases h3 : 7 < (c.loss.length : Int)
  · simp only [gos, if_true, if_false, ne_eq, eq_self, Nat.reduceLT, Nat.reduceEqDiff, Nat.reduceAdd, Nat.reduceMul, Nat.reduceLeDiff, Nat.reduceBEq, reduceCtorEq, reduceIte, Array.toList, ↓reduceIte, tt, vgo, vout, vgoD, voutD, vclsOk, vids, mayWrite, V.ids, V.mids, vguard, callOf, vop, ev, cv, vbin, vint, isShift, isNilConst, vnil, isNilSlice, vload, vlen, newRow, vfill, vslice, entOf, vappend, srcOf, vcopy, vlookup, vupdate, mapOk, keyOf, intsOf, clsAt, vI, vR, h1, h2, h3]
    subst hQ
    exact FnPost.plain trivial (fun h2 e => by first | rfl | (simp only [Try.f20, vres, vresL, vres1, e _, gos, if_true, if_false, ne_eq, eq_self, Nat.reduceLT, Nat.reduceEqDiff, Nat.reduceAdd, Nat.reduceMul, Nat.reduceLeDiff, Nat.reduceBEq, reduceCtorEq, reduceIte, Array.toList, ↓reduceIte, tt, vgo, vout, vgoD, voutD, vclsOk, vids, mayWrite, V.ids, V.mids, vguard, callOf, vop, ev, cv, vbin, vint, isShift, isNilConst, vnil, isNilSlice, vload, vlen, newRow, vfill, vslice, entOf, vappend, srcOf, vcopy, vlookup, vupdate, mapOk, keyOf, intsOf, clsAt]; try rfl)) (WkV.pure (by simp only [V.into, intoL, cB_into, vB_into, cI_into, cR_into, cD_into, cS_into, vS_into, vI_into, vR_into, vD_into, cu_into, Bool.true_and, Bool.and_true])) ⟨by simp [sThin, h1, h2, h3], rfl⟩
  by_cases h4 : 7 < (c.readings.length : Int)
  · simp only [gos, if_true, if_false, ne_eq, eq_self, Nat.reduceLT, Nat.reduceEqDiff, Nat.reduceAdd, Nat.reduceMul, Nat.reduceLeDiff, Nat.reduceBEq, reduceCtorEq, reduceIte, Array.toList, ↓reduceIte, tt, vgo, vout, vgoD, voutD, vclsOk, vids, mayWrite, V.ids, V.mids, vguard, callOf, vop, ev, cv, vbin, vint, isShift, isNilConst, vnil, isNilSlice, vload, vlen, newRow, vfill, vslice, entOf, vappend, srcOf, vcopy, vlookup, vupdate, mapOk, keyOf, intsOf, clsAt, vI, vR, vD, h1, h2, h3, h4]
    subst hQ
    exact FnPost.plain trivial (fun h2 e => by first | rfl | (simp only [Try.f20, vres, vresL, vres1, e _, gos, if_true, if_false, ne_eq, eq_self, Nat.reduceLT, Nat.reduceEqDiff, Nat.reduceAdd, Nat.reduceMul, Nat.reduceLeDiff, Nat.reduceBEq, reduceCtorEq, reduceIte, Array.toList, ↓reduceIte, tt, vgo, vout, vgoD, voutD, vclsOk, vids, mayWrite, V.ids, V.mids, vguard, callOf, vop, ev, cv, vbin, vint, isShift, isNilConst, vnil, isNilSlice, vload, vlen, newRow, vfill, vslice, entOf, vappend, srcOf, vcopy, vlookup, vupdate, mapOk, keyOf, intsOf, clsAt]; try rfl)) (WkV.pure (by simp only [V.into, intoL, cB_into, vB_into, cI_into, cR_into, cD_into, cS_into, vS_into, vI_into, vR_into, vD_into, cu_into, Bool.true_and, Bool.and_true])) ⟨by simp [sThin, h1, h2, h3, h4], rfl⟩
  have hc : c.wf := ⟨hl, by omega, by omega, by omega, by omega⟩
  simp only [gos, if_true, if_false, ne_eq, eq_self, Nat.reduceLT, Nat.reduceEqDiff, Nat.reduceAdd, Nat.reduceMul, Nat.reduceLeDiff, Nat.reduceBEq, reduceCtorEq, reduceIte, Array.toList, ↓reduceIte, tt, vgo, vout, vgoD, voutD, vclsOk, vids, mayWrite, V.ids, V.mids, vguard, callOf, vop, ev, cv, vbin, vint, isShift, isNilConst, vnil, isNilSlice, vload, vlen, newRow, vfill, vslice, entOf, vappend, srcOf, vcopy, vlookup, vupdate, mapOk, keyOf, intsOf, clsAt, vI, vR, vD, h1, h2, h3, h4]
  refine Cl.pu (c_rFault c hc) ?_ rfl (by simp only [V.into, intoL, cB_into, vB_into, cI_into, cR_into, cD_into, cS_into, vS_into, vI_into, vR_into, vD_into, cu_into, Bool.true_and, Bool.and_true])
  by_cases h0 : sCheck c = 0
  · have k0 := sCheck_ok h0
    have hb : (sCheck c != 0) = false := by simp [h0]
    simp only [gos, if_true, if_false, ne_eq, eq_self, Nat.reduceLT, Nat.reduceEqDiff, Nat.reduceAdd, Nat.reduceMul, Nat.reduceLeDiff, Nat.reduceBEq, reduceCtorEq, reduceIte, Array.toList, ↓reduceIte, tt, vgo, vout, vgoD, voutD, vclsOk, vids, mayWrite, V.ids, V.mids, vguard, callOf, vop, ev, cv, vbin, vint, isShift, isNilConst, vnil, isNilSlice, vload, vlen, newRow, vfill, vslice, entOf, vappend, srcOf, vcopy, vlookup, vupdate, mapOk, keyOf, intsOf, clsAt, hb]
    refine Cl.pu (c_rMany c k0.heat hc.loss k0.loss.2) ?_ rfl (by simp only [V.into, intoL, cB_into, vB_into, cI_into, cR_into, cD_into, cS_into, vS_into, vI_into, vR_into, vD_into, cu_into, Bool.true_and, Bool.and_true])
    simp only [gos, if_true, if_false, ne_eq, eq_self, Nat.reduceLT, Nat.reduceEqDiff, Nat.reduceAdd, Nat.reduceMul, Nat.reduceLeDiff, Nat.reduceBEq, reduceCtorEq, reduceIte, Array.toList, ↓reduceIte, tt, vgo, vout, vgoD, voutD, vclsOk, vids, mayWrite, V.ids, V.mids, vguard, callOf, vop, ev, cv, vbin, vint, isShift, isNilConst, vnil, isNilSlice, vload, vlen, newRow, vfill, vslice, entOf, vappend, srcOf, vcopy, vlookup, vupdate, mapOk, keyOf, intsOf, clsAt]
    subst hQ
    exact FnPost.plain trivial (fun h2 e => by first | rfl | (simp only [Try.f20, vres, vresL, vres1, e _, gos, if_true, if_false, ne_eq, eq_self, Nat.reduceLT, Nat.reduceEqDiff, Nat.reduceAdd, Nat.reduceMul, Nat.reduceLeDiff, Nat.reduceBEq, reduceCtorEq, reduceIte, Array.toList, ↓reduceIte, tt, vgo, vout, vgoD, voutD, vclsOk, vids, mayWrite, V.ids, V.mids, vguard, callOf, vop, ev, cv, vbin, vint, isShift, isNilConst, vnil, isNilSlice, vload, vlen, newRow, vfill, vslice, entOf, vappend, srcOf, vcopy, vlookup, vupdate, mapOk, keyOf, intsOf, clsAt]; try rfl)) (WkV.pure (by simp only [V.into, intoL, cB_into, vB_into, cI_into, cR_into, cD_into, cS_into, vS_into, vI_into, vR_into, vD_into, cu_into, Bool.true_and, Bool.and_true])) ⟨by simp [sThin, h1, h2, h3, h4, h0], rfl⟩
  · have hb : (sCheck c != 0) = true := by simp [h0]
    simp only [gos, if_true, if_false, ne_eq, eq_self, Nat.reduceLT, Nat.reduceEqDiff, Nat.reduceAdd, Nat.reduceMul, Nat.reduceLeDiff, Nat.reduceBEq, reduceCtorEq, reduceIte, Array.toList, ↓reduceIte, tt, vgo, vout, vgoD, voutD, vclsOk, vids, mayWrite, V.ids, V.mids, vguard, callOf, vop, ev, cv, vbin, vint, isShift, isNilConst, vnil, isNilSlice, vload, vlen, newRow, vfill, vslice, entOf, vappend, srcOf, vcopy, vlookup, vupdate, mapOk, keyOf, intsOf, clsAt, hb]
    subst hQ
    exact FnPost.plain trivial (fun h2 e => by first | rfl | (simp only [Try.f20, vres, vresL, vres1, e _, gos, if_true, if_false, ne_eq, eq_self, Nat.reduceLT, Nat.reduceEqDiff, Nat.reduceAdd, Nat.reduceMul, Nat.reduceLeDiff, Nat.reduceBEq, reduceCtorEq, reduceIte, Array.toList, ↓reduceIte, tt, vgo, vout, vgoD, voutD, vclsOk, vids, mayWrite, V.ids, V.mids, vguard, callOf, vop, ev, cv, vbin, vint, isShift, isNilConst, vnil, isNilSlice, vload, vlen, newRow, vfill, vslice, entOf, vappend, srcOf, vcopy, vlookup, vupdate, mapOk, keyOf, intsOf, clsAt]; try rfl)) (WkV.pure (by simp only [V.into, intoL, cB_into, vB_into, cI_into, cR_into, cD_into, cS_into, vS_into, vI_into, vR_into, vD_into, cu_into, Bool.true_and, Bool.and_true])) ⟨by simp [sThin, h1, h2, h3, h4, h0], rfl⟩
theorem thin_wf {c : Cu} (hl : I64 c.last) (h : sThin c = true) : c.wf := by
  simp only [sThin, Bool.and_eq_true, Bool.not_eq_true', decide_eq_false_iff_not] at h
  exact ⟨hl, by omega, by omega, by omega, by omega⟩
theorem c_same (a b : List Int) (ha : (a.length : Int) ≤ 1000000) : Pu Try.prog (.fn 39 [] []) [vI a, vI b] (.bool (decide (a = b))) := by
  refine Ev.fn Try.func39 rfl rfl (Fn.body tabOk Try.func39 rfl (Nat.le_of_ble_eq_true rfl) (Ks.ok (fz := (fzn [])) (cl := (cln [(6, .d tg0 [cP, cP, cP, cP, cP, cP, cP, cP, cP])])) tabOk mixed ?_))
  generalize hQ : FnPost tt Try.f39 _ _ = Q
  simp only [Try.f39, List.nil_append, List.append_nil, List.cons_append, argsEnv, Nat.reduceAdd]
  by_cases h : (a.length : Int) = b.length
  case neg =>
    have hb : ((a.length : Int) != b.length) = true := by simp only [bne_iff_ne, ne_eq, h, not_false_eq_true]
    simp only [gos, if_true, if_false, ne_eq, eq_self, Nat.reduceLT, Nat.reduceEqDiff, Nat.reduceAdd, Nat.reduceMul, Nat.reduceLeDiff, Nat.reduceBEq, reduceCtorEq, reduceIte, Array.toList, ↓reduceIte, tt, vgo, vout, vgoD, voutD, vclsOk, vids, mayWrite, V.ids, V.mids, vguard, callOf, vop, ev, cv, vbin, vint, isShift, isNilConst, vnil, isNilSlice, vload, vlen, newRow, vfill, vslice, entOf, vappend, srcOf, vcopy, vlookup, vupdate, mapOk, keyOf, intsOf, clsAt, vI, hb]
    subst hQ
    exact FnPost.plain trivial (fun h2 e => by first | rfl | (simp only [Try.f39, vres, vresL, vres1, e _, gos, if_true, if_false, ne_eq, eq_self, Nat.reduceLT, Nat.reduceEqDiff, Nat.reduceAdd, Nat.reduceMul, Nat.reduceLeDiff, Nat.reduceBEq, reduceCtorEq, reduceIte, Array.toList, ↓reduceIte, tt, vgo, vout, vgoD, voutD, vclsOk, vids, mayWrite, V.ids, V.mids, vguard, callOf, vop, ev, cv, vbin, vint, isShift, isNilConst, vnil, isNilSlice, vload, vlen, newRow, vfill, vslice, entOf, vappend, srcOf, vcopy, vlookup, vupdate, mapOk, keyOf, intsOf, clsAt]; try rfl)) (WkV.pure (by simp only [V.into, intoL, cB_into, vB_into, cI_into, cR_into, cD_into, cS_into, vS_into, vI_into, vR_into, vD_into, cu_into, Bool.true_and, Bool.and_true])) ⟨by rw [decide_eq_false]; intro e; rw [e] at h; exact h rfl, rfl⟩
  have hb : ((a.length : Int) != b.length) = false := by rw [bne_eq_false_iff_eq]; exact h
  simp only [gos, if_true, if_false, ne_eq, eq_self, Nat.reduceLT, Nat.reduceEqDiff, Nat.reduceAdd, Nat.reduceMul, Nat.reduceLeDiff, Nat.reduceBEq, reduceCtorEq, reduceIte, Array.toList, ↓reduceIte, tt, vgo, vout, vgoD, voutD, vclsOk, vids, mayWrite, V.ids, V.mids, vguard, callOf, vop, ev, cv, vbin, vint, isShift, isNilConst, vnil, isNilSlice, vload, vlen, newRow, vfill, vslice, entOf, vappend, srcOf, vcopy, vlookup, vupdate, mapOk, keyOf, intsOf, clsAt, vI, hb]
  refine W.loop tabOk mixed (fun i : Nat => ([(0, vI a), (1, vI b), (5, vi i)], [])) (fun i => a.length - i) (fun i => i ≤ a.length ∧ a.take i = b.take i) 0 ⟨by omega, by simp⟩ (Wk.env (by simp [subE, Env.get, vI])) ?_
  rintro i ⟨hi, ht⟩
  by_cases hil : (i : Int) < a.length
  · have hil2 : (i : Int) < b.length := by omega
    simp only [gos, if_true, if_false, ne_eq, eq_self, Nat.reduceLT, Nat.reduceEqDiff, Nat.reduceAdd, Nat.reduceMul, Nat.reduceLeDiff, Nat.reduceBEq, reduceCtorEq, reduceIte, Array.toList, ↓reduceIte, tt, vgo, vout, vgoD, voutD, vclsOk, vids, mayWrite, V.ids, V.mids, vguard, callOf, vop, ev, cv, vbin, vint, isShift, isNilConst, vnil, isNilSlice, vload, vlen, newRow, vfill, vslice, entOf, vappend, srcOf, vcopy, vlookup, vupdate, mapOk, keyOf, intsOf, clsAt, vI, hil]
    refine Wr.draw (by kernel_rfl) ?_
    simp only [gos, if_true, if_false, ne_eq, eq_self, Nat.reduceLT, Nat.reduceEqDiff, Nat.reduceAdd, Nat.reduceMul, Nat.reduceLeDiff, Nat.reduceBEq, reduceCtorEq, reduceIte, Array.toList, ↓reduceIte, tt, vgo, vout, vgoD, voutD, vclsOk, vids, mayWrite, V.ids, V.mids, vguard, callOf, vop, ev, cv, vbin, vint, isShift, isNilConst, vnil, isNilSlice, vload, vlen, newRow, vfill, vslice, entOf, vappend, srcOf, vcopy, vlookup, vupdate, mapOk, keyOf, intsOf, clsAt, vI, hil, hil2, cI_at (Int.natCast_nonneg i) hil, cI_at (Int.natCast_nonneg i) hil2]
    by_cases hg : gi a i = gi b i
    · have hb : (gi a i != gi b i) = false := by rw [bne_eq_false_iff_eq]; exact hg
      simp only [gos, if_true, if_false, ne_eq, eq_self, Nat.reduceLT, Nat.reduceEqDiff, Nat.reduceAdd, Nat.reduceMul, Nat.reduceLeDiff, Nat.reduceBEq, reduceCtorEq, reduceIte, Array.toList, ↓reduceIte, tt, vgo, vout, vgoD, voutD, vclsOk, vids, mayWrite, V.ids, V.mids, vguard, callOf, vop, ev, cv, vbin, vint, isShift, isNilConst, vnil, isNilSlice, vload, vlen, newRow, vfill, vslice, entOf, vappend, srcOf, vcopy, vlookup, vupdate, mapOk, keyOf, intsOf, clsAt, hb]
      exact Nx.mk (i + 1) (show a.length - (i + 1) < a.length - i by omega) ⟨by omega, by rw [gi_take hil, gi_take hil2, ht, hg]⟩ (Wk.env (by simp [subE, Env.get, vI, i64_succ (show (i : Int) < 9223372036854775807 by omega)]))
    · have hb : (gi a i != gi b i) = true := by simp only [bne_iff_ne, ne_eq, hg, not_false_eq_true]
      simp only [gos, if_true, if_false, ne_eq, eq_self, Nat.reduceLT, Nat.reduceEqDiff, Nat.reduceAdd, Nat.reduceMul, Nat.reduceLeDiff, Nat.reduceBEq, reduceCtorEq, reduceIte, Array.toList, ↓reduceIte, tt, vgo, vout, vgoD, voutD, vclsOk, vids, mayWrite, V.ids, V.mids, vguard, callOf, vop, ev, cv, vbin, vint, isShift, isNilConst, vnil, isNilSlice, vload, vlen, newRow, vfill, vslice, entOf, vappend, srcOf, vcopy, vlookup, vupdate, mapOk, keyOf, intsOf, clsAt, hb]
      subst hQ
      exact FnPost.plain trivial (fun h2 e => by first | rfl | (simp only [Try.f39, vres, vresL, vres1, e _, gos, if_true, if_false, ne_eq, eq_self, Nat.reduceLT, Nat.reduceEqDiff, Nat.reduceAdd, Nat.reduceMul, Nat.reduceLeDiff, Nat.reduceBEq, reduceCtorEq, reduceIte, Array.toList, ↓reduceIte, tt, vgo, vout, vgoD, voutD, vclsOk, vids, mayWrite, V.ids, V.mids, vguard, callOf, vop, ev, cv, vbin, vint, isShift, isNilConst, vnil, isNilSlice, vload, vlen, newRow, vfill, vslice, entOf, vappend, srcOf, vcopy, vlookup, vupdate, mapOk, keyOf, intsOf, clsAt]; try rfl)) (WkV.pure (by simp only [V.into, intoL, cB_into, vB_into, cI_into, cR_into, cD_into, cS_into, vS_into, vI_into, vR_into, vD_into, cu_into, Bool.true_and, Bool.and_true])) ⟨by rw [decide_eq_false]; intro e; rw [e] at hg; exact hg rfl, rfl⟩
  · simp only [gos, if_true, if_false, ne_eq, eq_self, Nat.reduceLT, Nat.reduceEqDiff, Nat.reduceAdd, Nat.reduceMul, Nat.reduceLeDiff, Nat.reduceBEq, reduceCtorEq, reduceIte, Array.toList, ↓reduceIte, tt, vgo, vout, vgoD, voutD, vclsOk, vids, mayWrite, V.ids, V.mids, vguard, callOf, vop, ev, cv, vbin, vint, isShift, isNilConst, vnil, isNilSlice, vload, vlen, newRow, vfill, vslice, entOf, vappend, srcOf, vcopy, vlookup, vupdate, mapOk, keyOf, intsOf, clsAt, vI, hil]
    have e1 : a.take i = a := List.take_of_length_le (by omega)
    have e2 : b.take i = b := List.take_of_length_le (by omega)
    subst hQ
    exact FnPost.plain trivial (fun h2 e => by first | rfl | (simp only [Try.f39, vres, vresL, vres1, e _, gos, if_true, if_false, ne_eq, eq_self, Nat.reduceLT, Nat.reduceEqDiff, Nat.reduceAdd, Nat.reduceMul, Nat.reduceLeDiff, Nat.reduceBEq, reduceCtorEq, reduceIte, Array.toList, ↓reduceIte, tt, vgo, vout, vgoD, voutD, vclsOk, vids, mayWrite, V.ids, V.mids, vguard, callOf, vop, ev, cv, vbin, vint, isShift, isNilConst, vnil, isNilSlice, vload, vlen, newRow, vfill, vslice, entOf, vappend, srcOf, vcopy, vlookup, vupdate, mapOk, keyOf, intsOf, clsAt]; try rfl)) (WkV.pure (by simp only [V.into, intoL, cB_into, vB_into, cI_into, cR_into, cD_into, cS_into, vS_into, vI_into, vR_into, vD_into, cu_into, Bool.true_and, Bool.and_true])) ⟨by rw [decide_eq_true]; rw [← e1, ← e2, ht], rfl⟩
theorem c_between (a b : Int) : Pu Try.prog (.fn 77 [] []) [vi a, vi b] (.agg [vi a, vi b]) := by
  refine Ev.fn Try.func77 rfl rfl (Fn.body tabOk Try.func77 rfl (Nat.le_of_ble_eq_true rfl) (Ks.ok (fz := (fzn [4])) (cl := (cln [])) tabOk mixed ?_))
  generalize hQ : FnPost tt Try.f77 _ _ = Q
  simp only [Try.f77, List.nil_append, List.append_nil, List.cons_append, argsEnv, Nat.reduceAdd]
  simp only [gos, if_true, if_false, ne_eq, eq_self, Nat.reduceLT, Nat.reduceEqDiff, Nat.reduceAdd, Nat.reduceMul, Nat.reduceLeDiff, Nat.reduceBEq, reduceCtorEq, reduceIte, Array.toList, ↓reduceIte, tt, vgo, vout, vgoD, voutD, vclsOk, vids, mayWrite, V.ids, V.mids, vguard, callOf, vop, ev, cv, vbin, vint, isShift, isNilConst, vnil, isNilSlice, vload, vlen, newRow, vfill, vslice, entOf, vappend, srcOf, vcopy, vlookup, vupdate, mapOk, keyOf, intsOf, clsAt]
  subst hQ
  exact FnPost.plain trivial (fun h2 e => by first | rfl | (simp only [Try.f77, vres, vresL, vres1, e _, gos, if_true, if_false, ne_eq, eq_self, Nat.reduceLT, Nat.reduceEqDiff, Nat.reduceAdd, Nat.reduceMul, Nat.reduceLeDiff, Nat.reduceBEq, reduceCtorEq, reduceIte, Array.toList, ↓reduceIte, tt, vgo, vout, vgoD, voutD, vclsOk, vids, mayWrite, V.ids, V.mids, vguard, callOf, vop, ev, cv, vbin, vint, isShift, isNilConst, vnil, isNilSlice, vload, vlen, newRow, vfill, vslice, entOf, vappend, srcOf, vcopy, vlookup, vupdate, mapOk, keyOf, intsOf, clsAt]; try rfl)) (WkV.pure (by simp only [V.into, intoL, cB_into, vB_into, cI_into, cR_into, cD_into, cS_into, vS_into, vI_into, vR_into, vD_into, cu_into, Bool.true_and, Bool.and_true])) ⟨rfl, rfl⟩
theorem c_lTruth (t : Tr2) (hl : (t.loss.length : Int) ≤ 1000000) : Pu Try.prog (.fn 49 [] []) [.agg t.cs] (.agg t.cs) := by
  refine Ev.fn Try.func49 rfl rfl (Fn.body tabOk Try.func49 rfl (Nat.le_of_ble_eq_true rfl) (Ks.ok (fz := (fzn [2])) (cl := (cln [(1, .d tg0 [cP, cP, cP, cP, cP, cP, cW])])) tabOk mixed ?_))
  generalize hQ : FnPost tt Try.f49 _ _ = Q
  simp only [Try.f49, List.nil_append, List.append_nil, List.cons_append, argsEnv, Nat.reduceAdd]
  simp only [gos, if_true, if_false, ne_eq, eq_self, Nat.reduceLT, Nat.reduceEqDiff, Nat.reduceAdd, Nat.reduceMul, Nat.reduceLeDiff, Nat.reduceBEq, reduceCtorEq, reduceIte, Array.toList, ↓reduceIte, tt, vgo, vout, vgoD, voutD, vclsOk, vids, mayWrite, V.ids, V.mids, vguard, callOf, vop, ev, cv, vbin, vint, isShift, isNilConst, vnil, isNilSlice, vload, vlen, newRow, vfill, vslice, entOf, vappend, srcOf, vcopy, vlookup, vupdate, mapOk, keyOf, intsOf, clsAt, Tr2.cs]
  refine Wr.draw (by kernel_rfl) ?_
  simp only [gos, if_true, if_false, ne_eq, eq_self, Nat.reduceLT, Nat.reduceEqDiff, Nat.reduceAdd, Nat.reduceMul, Nat.reduceLeDiff, Nat.reduceBEq, reduceCtorEq, reduceIte, Array.toList, ↓reduceIte, tt, vgo, vout, vgoD, voutD, vclsOk, vids, mayWrite, V.ids, V.mids, vguard, callOf, vop, ev, cv, vbin, vint, isShift, isNilConst, vnil, isNilSlice, vload, vlen, newRow, vfill, vslice, entOf, vappend, srcOf, vcopy, vlookup, vupdate, mapOk, keyOf, intsOf, clsAt]
  refine CD.pu (c_list t.loss hl) ?_ rfl (by simp only [V.into, intoL, cB_into, vB_into, cI_into, cR_into, cD_into, cS_into, vS_into, vI_into, vR_into, vD_into, cu_into, Bool.true_and, Bool.and_true])
  simp only [gos, if_true, if_false, ne_eq, eq_self, Nat.reduceLT, Nat.reduceEqDiff, Nat.reduceAdd, Nat.reduceMul, Nat.reduceLeDiff, Nat.reduceBEq, reduceCtorEq, reduceIte, Array.toList, ↓reduceIte, tt, vgo, vout, vgoD, voutD, vclsOk, vids, mayWrite, V.ids, V.mids, vguard, callOf, vop, ev, cv, vbin, vint, isShift, isNilConst, vnil, isNilSlice, vload, vlen, newRow, vfill, vslice, entOf, vappend, srcOf, vcopy, vlookup, vupdate, mapOk, keyOf, intsOf, clsAt]
  subst hQ
  exact FnPost.plain trivial (v := .agg [vi t.heat, vI t.loss]) (fun h2 e => by simp only [Try.f49, vres, vresL, vres1, gos, if_true, if_false, ne_eq, eq_self, Nat.reduceLT, Nat.reduceEqDiff, Nat.reduceAdd, Nat.reduceMul, Nat.reduceLeDiff, Nat.reduceBEq, reduceCtorEq, reduceIte, Array.toList, ↓reduceIte, tt, vgo, vout, vgoD, voutD, vclsOk, vids, mayWrite, V.ids, V.mids, vguard, callOf, vop, ev, cv, vbin, vint, isShift, isNilConst, vnil, isNilSlice, vload, vlen, newRow, vfill, vslice, entOf, vappend, srcOf, vcopy, vlookup, vupdate, mapOk, keyOf, intsOf, clsAt, e _]) (WkV.pure (by simp only [V.into, intoL, cB_into, vB_into, cI_into, cR_into, cD_into, cS_into, vS_into, vI_into, vR_into, vD_into, cu_into, Bool.true_and, Bool.and_true])) ⟨rfl, rfl⟩
/-- The coppers of the document's examples. -/
def exR : List Rd := [⟨0, ⟨6, 6⟩⟩, ⟨2, ⟨3, 3⟩⟩, ⟨0, ⟨7, 7⟩⟩]
def exC (n : Nat) : Cu := ⟨2, 7, 60, 4, 3, [2, 1, 0], [3, 2, 2], ⟨10, 12⟩, [⟨2, 3⟩, ⟨4, 4⟩, ⟨0, 2⟩], exR.take n⟩
def exCs (n : Nat) (w : V) : List V := [vi 2, vi 7, vi 60, vi 4, vi 3, vI [2, 1, 0], w, vi 10, vi 12, vR [⟨2, 3⟩, ⟨4, 4⟩, ⟨0, 2⟩], vD (exR.take n)]
set_option maxHeartbeats 1000000 in
theorem c_three0 (n : Nat) (hn : n ≤ 3) : Ev Try.prog (.fn 75 [] []) [vi n] [] fun v h' => v = .agg (exCs n (.own 12 0 0 1 3)) ∧ h' = [(12, ⟨0, .row [vi 3, vi 2, vi 2]⟩)] := by
  refine Ev.fn Try.func75 rfl rfl (Fn.body tabOk Try.func75 rfl (Nat.le_of_ble_eq_true rfl) (Ks.ok (fz := (fzn [2, 12])) (cl := (cln [(2, .d (tgL [(12, 1)]) [cP, some ([1], [1]), cP, cP, cP, cP, cP, cP, cP, cP, cP, cW])])) tabOk mixed ?_))
  generalize hQ : FnPost tt Try.f75 _ _ = Q
  simp only [Try.f75, List.nil_append, List.append_nil, List.cons_append, argsEnv, Nat.reduceAdd]
  have h1 : (0 : Int) ≤ n := by omega
  have h2 : (n : Int) ≤ 3 := by omega
  simp only [gos, if_true, if_false, ne_eq, eq_self, Nat.reduceLT, Nat.reduceEqDiff, Nat.reduceAdd, Nat.reduceMul, Nat.reduceLeDiff, Nat.reduceBEq, reduceCtorEq, reduceIte, Array.toList, ↓reduceIte, tt, vgo, vout, vgoD, voutD, vclsOk, vids, mayWrite, V.ids, V.mids, vguard, callOf, vop, ev, cv, vbin, vint, isShift, isNilConst, vnil, isNilSlice, vload, vlen, newRow, vfill, vslice, entOf, vappend, srcOf, vcopy, vlookup, vupdate, mapOk, keyOf, intsOf, clsAt]
  refine Cl.pu (c_between _ _) ?_
  simp only [gos, if_true, if_false, ne_eq, eq_self, Nat.reduceLT, Nat.reduceEqDiff, Nat.reduceAdd, Nat.reduceMul, Nat.reduceLeDiff, Nat.reduceBEq, reduceCtorEq, reduceIte, Array.toList, ↓reduceIte, tt, vgo, vout, vgoD, voutD, vclsOk, vids, mayWrite, V.ids, V.mids, vguard, callOf, vop, ev, cv, vbin, vint, isShift, isNilConst, vnil, isNilSlice, vload, vlen, newRow, vfill, vslice, entOf, vappend, srcOf, vcopy, vlookup, vupdate, mapOk, keyOf, intsOf, clsAt]
  refine Cl.pu (c_between _ _) ?_
  simp only [gos, if_true, if_false, ne_eq, eq_self, Nat.reduceLT, Nat.reduceEqDiff, Nat.reduceAdd, Nat.reduceMul, Nat.reduceLeDiff, Nat.reduceBEq, reduceCtorEq, reduceIte, Array.toList, ↓reduceIte, tt, vgo, vout, vgoD, voutD, vclsOk, vids, mayWrite, V.ids, V.mids, vguard, callOf, vop, ev, cv, vbin, vint, isShift, isNilConst, vnil, isNilSlice, vload, vlen, newRow, vfill, vslice, entOf, vappend, srcOf, vcopy, vlookup, vupdate, mapOk, keyOf, intsOf, clsAt]
  refine Cl.pu (c_between _ _) ?_
  simp only [gos, if_true, if_false, ne_eq, eq_self, Nat.reduceLT, Nat.reduceEqDiff, Nat.reduceAdd, Nat.reduceMul, Nat.reduceLeDiff, Nat.reduceBEq, reduceCtorEq, reduceIte, Array.toList, ↓reduceIte, tt, vgo, vout, vgoD, voutD, vclsOk, vids, mayWrite, V.ids, V.mids, vguard, callOf, vop, ev, cv, vbin, vint, isShift, isNilConst, vnil, isNilSlice, vload, vlen, newRow, vfill, vslice, entOf, vappend, srcOf, vcopy, vlookup, vupdate, mapOk, keyOf, intsOf, clsAt]
  refine Wr.draw (by kernel_rfl) ?_
  simp only [gos, if_true, if_false, ne_eq, eq_self, Nat.reduceLT, Nat.reduceEqDiff, Nat.reduceAdd, Nat.reduceMul, Nat.reduceLeDiff, Nat.reduceBEq, reduceCtorEq, reduceIte, Array.toList, ↓reduceIte, tt, vgo, vout, vgoD, voutD, vclsOk, vids, mayWrite, V.ids, V.mids, vguard, callOf, vop, ev, cv, vbin, vint, isShift, isNilConst, vnil, isNilSlice, vload, vlen, newRow, vfill, vslice, entOf, vappend, srcOf, vcopy, vlookup, vupdate, mapOk, keyOf, intsOf, clsAt]
  refine CD.pu (c_between _ _) ?_
  simp only [gos, if_true, if_false, ne_eq, eq_self, Nat.reduceLT, Nat.reduceEqDiff, Nat.reduceAdd, Nat.reduceMul, Nat.reduceLeDiff, Nat.reduceBEq, reduceCtorEq, reduceIte, Array.toList, ↓reduceIte, tt, vgo, vout, vgoD, voutD, vclsOk, vids, mayWrite, V.ids, V.mids, vguard, callOf, vop, ev, cv, vbin, vint, isShift, isNilConst, vnil, isNilSlice, vload, vlen, newRow, vfill, vslice, entOf, vappend, srcOf, vcopy, vlookup, vupdate, mapOk, keyOf, intsOf, clsAt]
  refine CD.pu (c_between _ _) ?_
  simp only [gos, if_true, if_false, ne_eq, eq_self, Nat.reduceLT, Nat.reduceEqDiff, Nat.reduceAdd, Nat.reduceMul, Nat.reduceLeDiff, Nat.reduceBEq, reduceCtorEq, reduceIte, Array.toList, ↓reduceIte, tt, vgo, vout, vgoD, voutD, vclsOk, vids, mayWrite, V.ids, V.mids, vguard, callOf, vop, ev, cv, vbin, vint, isShift, isNilConst, vnil, isNilSlice, vload, vlen, newRow, vfill, vslice, entOf, vappend, srcOf, vcopy, vlookup, vupdate, mapOk, keyOf, intsOf, clsAt]
  refine CD.pu (c_between _ _) ?_
  simp only [gos, if_true, if_false, ne_eq, eq_self, Nat.reduceLT, Nat.reduceEqDiff, Nat.reduceAdd, Nat.reduceMul, Nat.reduceLeDiff, Nat.reduceBEq, reduceCtorEq, reduceIte, Array.toList, ↓reduceIte, tt, vgo, vout, vgoD, voutD, vclsOk, vids, mayWrite, V.ids, V.mids, vguard, callOf, vop, ev, cv, vbin, vint, isShift, isNilConst, vnil, isNilSlice, vload, vlen, newRow, vfill, vslice, entOf, vappend, srcOf, vcopy, vlookup, vupdate, mapOk, keyOf, intsOf, clsAt]
  refine CD.pu (c_between _ _) ?_
  simp only [gos, if_true, if_false, ne_eq, eq_self, Nat.reduceLT, Nat.reduceEqDiff, Nat.reduceAdd, Nat.reduceMul, Nat.reduceLeDiff, Nat.reduceBEq, reduceCtorEq, reduceIte, Array.toList, ↓reduceIte, tt, vgo, vout, vgoD, voutD, vclsOk, vids, mayWrite, V.ids, V.mids, vguard, callOf, vop, ev, cv, vbin, vint, isShift, isNilConst, vnil, isNilSlice, vload, vlen, newRow, vfill, vslice, entOf, vappend, srcOf, vcopy, vlookup, vupdate, mapOk, keyOf, intsOf, clsAt]
  have h3 : ((n : Int)).toNat = n := Int.toNat_natCast n
  have h4 : V.ro n (List.take (n * 3) [V.int IntKind.i64 0, vi 6, vi 6, V.int IntKind.i64 2, vi 3, vi 3, V.int IntKind.i64 0, vi 7, vi 7]) = vD (exR.take n) := by
    match n, hn with
    | 0, _ => rfl
    | 1, _ => rfl
    | 2, _ => rfl
    | 3, _ => rfl
  have h2' : (n : Int) ≤ ((3 : Nat) : Int) := h2
  simp only [gos, if_true, if_false, ne_eq, eq_self, Nat.reduceLT, Nat.reduceEqDiff, Nat.reduceAdd, Nat.reduceMul, Nat.reduceLeDiff, Nat.reduceBEq, reduceCtorEq, reduceIte, Array.toList, ↓reduceIte, tt, vgo, vout, vgoD, voutD, vclsOk, vids, mayWrite, V.ids, V.mids, vguard, callOf, vop, ev, cv, vbin, vint, isShift, isNilConst, vnil, isNilSlice, vload, vlen, newRow, vfill, vslice, entOf, vappend, srcOf, vcopy, vlookup, vupdate, mapOk, keyOf, intsOf, clsAt, h1, h2', h3, h4]
  subst hQ
  exact FnPost.plain trivial (v := .agg (exCs n (.own 12 0 0 1 3))) (fun h2 e => by simp only [Try.f75, vres, vresL, vres1, gos, if_true, if_false, ne_eq, eq_self, Nat.reduceLT, Nat.reduceEqDiff, Nat.reduceAdd, Nat.reduceMul, Nat.reduceLeDiff, Nat.reduceBEq, reduceCtorEq, reduceIte, Array.toList, ↓reduceIte, tt, vgo, vout, vgoD, voutD, vclsOk, vids, mayWrite, V.ids, V.mids, vguard, callOf, vop, ev, cv, vbin, vint, isShift, isNilConst, vnil, isNilSlice, vload, vlen, newRow, vfill, vslice, entOf, vappend, srcOf, vcopy, vlookup, vupdate, mapOk, keyOf, intsOf, clsAt, e _]; rfl) (WkV.forgetF (h' := [(12, ⟨0, .row [vi 3, vi 2, vi 2]⟩)]) (fun i e he => by
    simp only [Heap.get] at he ⊢
    split at he
    · rename_i h; subst h; exact he
    · cases he) (fun i hi => by cases hi) (by simp only [exCs, V.into, intoL, cB_into, vB_into, cI_into, cR_into, cD_into, cS_into, vS_into, vI_into, vR_into, vD_into, cu_into, Bool.true_and, Bool.and_true]; rfl) rfl) ⟨rfl, rfl⟩
theorem c_three (n : Nat) (hn : n ≤ 3) : Pu Try.prog (.fn 75 [] []) [vi n] (.agg (exC n).cs) :=
  (c_three0 n hn).weakV fun v h' ⟨e1, e2⟩ => by
    subst e1; subst e2
    refine ⟨.agg (exC n).cs, [], WkV.frz 12 (v' := .agg (exC n).cs) (h' := []) (ver := 0) (cs := [vi 3, vi 2, vi 2]) rfl rfl rfl rfl ?_ ?_ WkV.refl, rfl, rfl⟩
    · simp only [exCs, exC, Cu.cs, V.frz, frzL, vI, vR, vD, cI_frz, cR_frz, cD_frz]; rfl
    · simp [frzH]
def exW (n : Int) : Cu := { exC 0 with want := [3, 2, n] }
theorem c_wanting (n : Int) : Pu Try.prog (.fn 76 [] []) [vi n] (.agg (exW n).cs) := by
  refine Ev.fn Try.func76 rfl rfl (Fn.body tabOk Try.func76 rfl (Nat.le_of_ble_eq_true rfl) (Ks.ok (fz := (fzn [2, 3])) (cl := (cln [])) tabOk mixed ?_))
  generalize hQ : FnPost tt Try.f76 _ _ = Q
  simp only [Try.f76, List.nil_append, List.append_nil, List.cons_append, argsEnv, Nat.reduceAdd]
  simp only [gos, if_true, if_false, ne_eq, eq_self, Nat.reduceLT, Nat.reduceEqDiff, Nat.reduceAdd, Nat.reduceMul, Nat.reduceLeDiff, Nat.reduceBEq, reduceCtorEq, reduceIte, Array.toList, ↓reduceIte, tt, vgo, vout, vgoD, voutD, vclsOk, vids, mayWrite, V.ids, V.mids, vguard, callOf, vop, ev, cv, vbin, vint, isShift, isNilConst, vnil, isNilSlice, vload, vlen, newRow, vfill, vslice, entOf, vappend, srcOf, vcopy, vlookup, vupdate, mapOk, keyOf, intsOf, clsAt]
  refine Cl.mk ((c_three0 0 (by omega)).frame [(2, ⟨0, .row [vi 0, vi 0, vi 0, vi 0, vi 0, .sl0, .sl0, vi 0, vi 0, .sl0, .sl0]⟩)] (fun i e he => by cases he) rfl rfl rfl ?_) ?_
  · rintro v h' ⟨_, rfl⟩ i e he
    simp only [Heap.get] at he ⊢
    split at he
    · rename_i h; subst h; rfl
    · cases he
  rintro v h'' ⟨h', ⟨rfl, rfl⟩, rfl⟩
  have a1 : ((0 : Int) ≤ 2) = True := by decide
  have a2 : ((2 : Int) < ((3 : Nat) : Int)) = True := by decide
  have a3 : (Int.toNat 2) = 2 := rfl
  simp only [gos, if_true, if_false, ne_eq, eq_self, Nat.reduceLT, Nat.reduceEqDiff, Nat.reduceAdd, Nat.reduceMul, Nat.reduceLeDiff, Nat.reduceBEq, reduceCtorEq, reduceIte, Array.toList, ↓reduceIte, tt, vgo, vout, vgoD, voutD, vclsOk, vids, mayWrite, V.ids, V.mids, vguard, callOf, vop, ev, cv, vbin, vint, isShift, isNilConst, vnil, isNilSlice, vload, vlen, newRow, vfill, vslice, entOf, vappend, srcOf, vcopy, vlookup, vupdate, mapOk, keyOf, intsOf, clsAt, exCs, vI, vR, vD, a1, a2, a3]
  subst hQ
  let w : V := .own 12 0 0 1 3
  let row : List V := [vi 2, vi 7, vi 60, vi 4, vi 3, vI [2, 1, 0], .own 12 0 0 1 3, vi 10, vi 12, vR [⟨2, 3⟩, ⟨4, 4⟩, ⟨0, 2⟩], vD []]
  refine FnPost.plain trivial (v := .agg row) (fun h2 e => by simp only [Try.f76, vres, vresL, vres1, gos, if_true, if_false, ne_eq, eq_self, Nat.reduceLT, Nat.reduceEqDiff, Nat.reduceAdd, Nat.reduceMul, Nat.reduceLeDiff, Nat.reduceBEq, reduceCtorEq, reduceIte, Array.toList, ↓reduceIte, tt, vgo, vout, vgoD, voutD, vclsOk, vids, mayWrite, V.ids, V.mids, vguard, callOf, vop, ev, cv, vbin, vint, isShift, isNilConst, vnil, isNilSlice, vload, vlen, newRow, vfill, vslice, entOf, vappend, srcOf, vcopy, vlookup, vupdate, mapOk, keyOf, intsOf, clsAt, e _]; rfl) (v3 := .agg (exW n).cs) (h3 := []) ?_ ⟨rfl, rfl⟩
  refine WkV.frz 12 (v' := .agg (exW n).cs) (h' := [(2, ⟨0, .row (exW n).cs⟩), (3, ⟨0, .row (exW n).cs⟩)]) (ver := 0) (cs := [vi 3, vi 2, vi n]) rfl rfl rfl rfl ?_ ?_ (WkV.pure (by simp only [V.into, intoL, cB_into, vB_into, cI_into, cR_into, cD_into, cS_into, vS_into, vI_into, vR_into, vD_into, cu_into, Bool.true_and, Bool.and_true]))
  · simp only [row, exW, exC, Cu.cs, V.frz, frzL, vI, vR, vD, cI_frz, cR_frz, cD_frz]; rfl
  · simp only [frzH, Blk.frz, exW, exC, Cu.cs, V.frz, frzL, vI, vR, vD, cI_frz, cR_frz, cD_frz]; rfl
end Go.Vm
set_option linter.unusedVariables false
set_option linter.unusedSimpArgs false
set_option maxRecDepth 100000
namespace Go.Vm
open Go.Proofs
theorem exC_wf (n : Nat) (hn : n ≤ 3) : (exC n).wf := by
  refine ⟨⟨by simp [exC], by simp [exC]⟩, by simp [exC], by simp [exC], by simp [exC], ?_⟩
  have : (exR.take n).length ≤ 3 := by rw [List.length_take]; simp [exR]; omega
  simp only [exC]; omega
theorem exW_wf (n : Int) : (exW n).wf := ⟨⟨by simp [exW, exC], by simp [exW, exC]⟩, by simp [exW, exC], by simp [exW, exC], by simp [exW, exC], by simp [exW, exC]⟩
set_option maxHeartbeats 4000000 in
theorem c_awake : Pu Try.prog (.fn 21 [] []) [] (.bool true) := by
  have t0 : Pu Try.prog (.fn 75 [] []) [vi 0] (.agg (exC 0).cs) := c_three 0 (by omega)
  have t1 : Pu Try.prog (.fn 75 [] []) [vi 1] (.agg (exC 1).cs) := c_three 1 (by omega)
  have t2 : Pu Try.prog (.fn 75 [] []) [vi 2] (.agg (exC 2).cs) := c_three 2 (by omega)
  have t3 : Pu Try.prog (.fn 75 [] []) [vi 3] (.agg (exC 3).cs) := c_three 3 (by omega)
  have p1 := c_Play (exC 0) ⟨10, [3, 4, 2]⟩ (exC_wf 0 (by omega)) (by simp)
  rw [show sPlayA (exC 0) ⟨10, [3, 4, 2]⟩ = ([6, 4, 2], [12, 10, 0], 0) by decide +kernel] at p1
  have p2 := c_Bounds (exC 1) (exC_wf 1 (by omega))
  rw [show sBoundsA (exC 1) = ([⟨6, 6⟩, ⟨4, 5⟩, ⟨2, 3⟩], [⟨12, 15⟩, ⟨10, 14⟩, ⟨0, 6⟩], 0) by decide +kernel] at p2
  have p3 := c_Keeps (exW 3) (exW_wf 3)
  rw [show sKeepsA (exW 3) = ([1, 1, 3], 0) by decide +kernel] at p3
  have p4 := c_More (exC 0) (exC_wf 0 (by omega)) [2, 1, 0] (by simp)
  rw [show sMoreA (exC 0) [2, 1, 0] = (2, 0) by decide +kernel] at p4
  have p5 := c_Spare (exC 2) (exC_wf 2 (by omega)) 2
  rw [show sSpareA (exC 2) 2 = (1, 0) by decide +kernel] at p5
  have p6 := c_Least (exC 0) (exC_wf 0 (by omega))
  rw [show sLeastA (exC 0) = ([1, 1, 1], 0) by decide +kernel] at p6
  have p7 := c_First (exC 3) (exC_wf 3 (by omega))
  rw [show sFirstA (exC 3) = (2, 0) by decide +kernel] at p7
  have p8 := c_Leave (exC 3) (exC_wf 3 (by omega))
  rw [show sLeaveA (exC 3) = ([0], 0) by decide +kernel] at p8
  refine Ev.fn Try.func21 rfl rfl (Fn.body tabOk Try.func21 rfl (Nat.le_of_ble_eq_true rfl) (Ks.ok (fz := (fzn [])) (cl := (cln [(9, .d tg0 [cP, cP, cP, cP, cP, cP, cP, cP, cP, cP, cP, cP, cP, cP, cP, cP, cP, cP, cP, cP, cP, cP, cP, cP, cP, cP, cP, cP, cP, cP, cP, cP, cP, cP, cP, cP, cP, cP, cP, cP, cP, cP, cP, cP, cP, cP, cP, cP, cP, cP, cP, cP, cP, cP, cP, cP, cP, cP, cP, cP, cP, cP, cP, cP, cP, cP, cP, cP, cP, cP, cP, cP, cP, cP, cP, cP, cP, cP, cP, cP, cP, cP, cP, cP, cP, cP, cP, cP, cP, cP, cP, cP])])) tabOk mixed ?_))
  generalize hQ : FnPost tt Try.f21 _ _ = Q
  simp only [Try.f21, List.nil_append, List.append_nil, List.cons_append, argsEnv, Nat.reduceAdd]
  simp only [gos, if_true, if_false, ne_eq, eq_self, Nat.reduceLT, Nat.reduceEqDiff, Nat.reduceAdd, Nat.reduceMul, Nat.reduceLeDiff, Nat.reduceBEq, reduceCtorEq, reduceIte, Array.toList, ↓reduceIte, tt, vgo, vout, vgoD, voutD, vclsOk, vids, mayWrite, V.ids, V.mids, vguard, callOf, vop, ev, cv, vbin, vint, isShift, isNilConst, vnil, isNilSlice, vload, vlen, newRow, vfill, vslice, entOf, vappend, srcOf, vcopy, vlookup, vupdate, mapOk, keyOf, intsOf, clsAt]
  refine Cl.pu t0 ?_
  simp only [gos, if_true, if_false, ne_eq, eq_self, Nat.reduceLT, Nat.reduceEqDiff, Nat.reduceAdd, Nat.reduceMul, Nat.reduceLeDiff, Nat.reduceBEq, reduceCtorEq, reduceIte, Array.toList, ↓reduceIte, tt, vgo, vout, vgoD, voutD, vclsOk, vids, mayWrite, V.ids, V.mids, vguard, callOf, vop, ev, cv, vbin, vint, isShift, isNilConst, vnil, isNilSlice, vload, vlen, newRow, vfill, vslice, entOf, vappend, srcOf, vcopy, vlookup, vupdate, mapOk, keyOf, intsOf, clsAt]
  refine Cl.pu p1 ?_ rfl (by simp only [V.into, intoL, cB_into, vB_into, cI_into, cR_into, cD_into, cS_into, vS_into, vI_into, vR_into, vD_into, cu_into, Bool.true_and, Bool.and_true])
  simp only [gos, if_true, if_false, ne_eq, eq_self, Nat.reduceLT, Nat.reduceEqDiff, Nat.reduceAdd, Nat.reduceMul, Nat.reduceLeDiff, Nat.reduceBEq, reduceCtorEq, reduceIte, Array.toList, ↓reduceIte, tt, vgo, vout, vgoD, voutD, vclsOk, vids, mayWrite, V.ids, V.mids, vguard, callOf, vop, ev, cv, vbin, vint, isShift, isNilConst, vnil, isNilSlice, vload, vlen, newRow, vfill, vslice, entOf, vappend, srcOf, vcopy, vlookup, vupdate, mapOk, keyOf, intsOf, clsAt]
  refine Cl.pu t1 ?_
  simp only [gos, if_true, if_false, ne_eq, eq_self, Nat.reduceLT, Nat.reduceEqDiff, Nat.reduceAdd, Nat.reduceMul, Nat.reduceLeDiff, Nat.reduceBEq, reduceCtorEq, reduceIte, Array.toList, ↓reduceIte, tt, vgo, vout, vgoD, voutD, vclsOk, vids, mayWrite, V.ids, V.mids, vguard, callOf, vop, ev, cv, vbin, vint, isShift, isNilConst, vnil, isNilSlice, vload, vlen, newRow, vfill, vslice, entOf, vappend, srcOf, vcopy, vlookup, vupdate, mapOk, keyOf, intsOf, clsAt]
  refine Cl.pu p2 ?_ rfl (by simp only [V.into, intoL, cB_into, vB_into, cI_into, cR_into, cD_into, cS_into, vS_into, vI_into, vR_into, vD_into, cu_into, Bool.true_and, Bool.and_true])
  simp only [gos, if_true, if_false, ne_eq, eq_self, Nat.reduceLT, Nat.reduceEqDiff, Nat.reduceAdd, Nat.reduceMul, Nat.reduceLeDiff, Nat.reduceBEq, reduceCtorEq, reduceIte, Array.toList, ↓reduceIte, tt, vgo, vout, vgoD, voutD, vclsOk, vids, mayWrite, V.ids, V.mids, vguard, callOf, vop, ev, cv, vbin, vint, isShift, isNilConst, vnil, isNilSlice, vload, vlen, newRow, vfill, vslice, entOf, vappend, srcOf, vcopy, vlookup, vupdate, mapOk, keyOf, intsOf, clsAt]
  refine Cl.pu (c_wanting 3) ?_
  simp only [gos, if_true, if_false, ne_eq, eq_self, Nat.reduceLT, Nat.reduceEqDiff, Nat.reduceAdd, Nat.reduceMul, Nat.reduceLeDiff, Nat.reduceBEq, reduceCtorEq, reduceIte, Array.toList, ↓reduceIte, tt, vgo, vout, vgoD, voutD, vclsOk, vids, mayWrite, V.ids, V.mids, vguard, callOf, vop, ev, cv, vbin, vint, isShift, isNilConst, vnil, isNilSlice, vload, vlen, newRow, vfill, vslice, entOf, vappend, srcOf, vcopy, vlookup, vupdate, mapOk, keyOf, intsOf, clsAt]
  refine Cl.pu p3 ?_ rfl (by simp only [V.into, intoL, cB_into, vB_into, cI_into, cR_into, cD_into, cS_into, vS_into, vI_into, vR_into, vD_into, cu_into, Bool.true_and, Bool.and_true])
  simp only [gos, if_true, if_false, ne_eq, eq_self, Nat.reduceLT, Nat.reduceEqDiff, Nat.reduceAdd, Nat.reduceMul, Nat.reduceLeDiff, Nat.reduceBEq, reduceCtorEq, reduceIte, Array.toList, ↓reduceIte, tt, vgo, vout, vgoD, voutD, vclsOk, vids, mayWrite, V.ids, V.mids, vguard, callOf, vop, ev, cv, vbin, vint, isShift, isNilConst, vnil, isNilSlice, vload, vlen, newRow, vfill, vslice, entOf, vappend, srcOf, vcopy, vlookup, vupdate, mapOk, keyOf, intsOf, clsAt]
  refine Cl.pu t0 ?_
  simp only [gos, if_true, if_false, ne_eq, eq_self, Nat.reduceLT, Nat.reduceEqDiff, Nat.reduceAdd, Nat.reduceMul, Nat.reduceLeDiff, Nat.reduceBEq, reduceCtorEq, reduceIte, Array.toList, ↓reduceIte, tt, vgo, vout, vgoD, voutD, vclsOk, vids, mayWrite, V.ids, V.mids, vguard, callOf, vop, ev, cv, vbin, vint, isShift, isNilConst, vnil, isNilSlice, vload, vlen, newRow, vfill, vslice, entOf, vappend, srcOf, vcopy, vlookup, vupdate, mapOk, keyOf, intsOf, clsAt]
  refine Cl.pu p4 ?_ rfl (by simp only [V.into, intoL, cB_into, vB_into, cI_into, cR_into, cD_into, cS_into, vS_into, vI_into, vR_into, vD_into, cu_into, Bool.true_and, Bool.and_true])
  simp only [gos, if_true, if_false, ne_eq, eq_self, Nat.reduceLT, Nat.reduceEqDiff, Nat.reduceAdd, Nat.reduceMul, Nat.reduceLeDiff, Nat.reduceBEq, reduceCtorEq, reduceIte, Array.toList, ↓reduceIte, tt, vgo, vout, vgoD, voutD, vclsOk, vids, mayWrite, V.ids, V.mids, vguard, callOf, vop, ev, cv, vbin, vint, isShift, isNilConst, vnil, isNilSlice, vload, vlen, newRow, vfill, vslice, entOf, vappend, srcOf, vcopy, vlookup, vupdate, mapOk, keyOf, intsOf, clsAt]
  refine Cl.pu t2 ?_
  simp only [gos, if_true, if_false, ne_eq, eq_self, Nat.reduceLT, Nat.reduceEqDiff, Nat.reduceAdd, Nat.reduceMul, Nat.reduceLeDiff, Nat.reduceBEq, reduceCtorEq, reduceIte, Array.toList, ↓reduceIte, tt, vgo, vout, vgoD, voutD, vclsOk, vids, mayWrite, V.ids, V.mids, vguard, callOf, vop, ev, cv, vbin, vint, isShift, isNilConst, vnil, isNilSlice, vload, vlen, newRow, vfill, vslice, entOf, vappend, srcOf, vcopy, vlookup, vupdate, mapOk, keyOf, intsOf, clsAt]
  refine Cl.pu p5 ?_ rfl (by simp only [V.into, intoL, cB_into, vB_into, cI_into, cR_into, cD_into, cS_into, vS_into, vI_into, vR_into, vD_into, cu_into, Bool.true_and, Bool.and_true])
  simp only [gos, if_true, if_false, ne_eq, eq_self, Nat.reduceLT, Nat.reduceEqDiff, Nat.reduceAdd, Nat.reduceMul, Nat.reduceLeDiff, Nat.reduceBEq, reduceCtorEq, reduceIte, Array.toList, ↓reduceIte, tt, vgo, vout, vgoD, voutD, vclsOk, vids, mayWrite, V.ids, V.mids, vguard, callOf, vop, ev, cv, vbin, vint, isShift, isNilConst, vnil, isNilSlice, vload, vlen, newRow, vfill, vslice, entOf, vappend, srcOf, vcopy, vlookup, vupdate, mapOk, keyOf, intsOf, clsAt]
  refine Cl.pu t0 ?_
  simp only [gos, if_true, if_false, ne_eq, eq_self, Nat.reduceLT, Nat.reduceEqDiff, Nat.reduceAdd, Nat.reduceMul, Nat.reduceLeDiff, Nat.reduceBEq, reduceCtorEq, reduceIte, Array.toList, ↓reduceIte, tt, vgo, vout, vgoD, voutD, vclsOk, vids, mayWrite, V.ids, V.mids, vguard, callOf, vop, ev, cv, vbin, vint, isShift, isNilConst, vnil, isNilSlice, vload, vlen, newRow, vfill, vslice, entOf, vappend, srcOf, vcopy, vlookup, vupdate, mapOk, keyOf, intsOf, clsAt]
  refine Cl.pu p6 ?_ rfl (by simp only [V.into, intoL, cB_into, vB_into, cI_into, cR_into, cD_into, cS_into, vS_into, vI_into, vR_into, vD_into, cu_into, Bool.true_and, Bool.and_true])
  simp only [gos, if_true, if_false, ne_eq, eq_self, Nat.reduceLT, Nat.reduceEqDiff, Nat.reduceAdd, Nat.reduceMul, Nat.reduceLeDiff, Nat.reduceBEq, reduceCtorEq, reduceIte, Array.toList, ↓reduceIte, tt, vgo, vout, vgoD, voutD, vclsOk, vids, mayWrite, V.ids, V.mids, vguard, callOf, vop, ev, cv, vbin, vint, isShift, isNilConst, vnil, isNilSlice, vload, vlen, newRow, vfill, vslice, entOf, vappend, srcOf, vcopy, vlookup, vupdate, mapOk, keyOf, intsOf, clsAt]
  refine Cl.pu t3 ?_
  simp only [gos, if_true, if_false, ne_eq, eq_self, Nat.reduceLT, Nat.reduceEqDiff, Nat.reduceAdd, Nat.reduceMul, Nat.reduceLeDiff, Nat.reduceBEq, reduceCtorEq, reduceIte, Array.toList, ↓reduceIte, tt, vgo, vout, vgoD, voutD, vclsOk, vids, mayWrite, V.ids, V.mids, vguard, callOf, vop, ev, cv, vbin, vint, isShift, isNilConst, vnil, isNilSlice, vload, vlen, newRow, vfill, vslice, entOf, vappend, srcOf, vcopy, vlookup, vupdate, mapOk, keyOf, intsOf, clsAt]
  refine Cl.pu p7 ?_ rfl (by simp only [V.into, intoL, cB_into, vB_into, cI_into, cR_into, cD_into, cS_into, vS_into, vI_into, vR_into, vD_into, cu_into, Bool.true_and, Bool.and_true])
  simp only [gos, if_true, if_false, ne_eq, eq_self, Nat.reduceLT, Nat.reduceEqDiff, Nat.reduceAdd, Nat.reduceMul, Nat.reduceLeDiff, Nat.reduceBEq, reduceCtorEq, reduceIte, Array.toList, ↓reduceIte, tt, vgo, vout, vgoD, voutD, vclsOk, vids, mayWrite, V.ids, V.mids, vguard, callOf, vop, ev, cv, vbin, vint, isShift, isNilConst, vnil, isNilSlice, vload, vlen, newRow, vfill, vslice, entOf, vappend, srcOf, vcopy, vlookup, vupdate, mapOk, keyOf, intsOf, clsAt]
  refine Cl.pu t3 ?_
  simp only [gos, if_true, if_false, ne_eq, eq_self, Nat.reduceLT, Nat.reduceEqDiff, Nat.reduceAdd, Nat.reduceMul, Nat.reduceLeDiff, Nat.reduceBEq, reduceCtorEq, reduceIte, Array.toList, ↓reduceIte, tt, vgo, vout, vgoD, voutD, vclsOk, vids, mayWrite, V.ids, V.mids, vguard, callOf, vop, ev, cv, vbin, vint, isShift, isNilConst, vnil, isNilSlice, vload, vlen, newRow, vfill, vslice, entOf, vappend, srcOf, vcopy, vlookup, vupdate, mapOk, keyOf, intsOf, clsAt]
  refine Cl.pu p8 ?_ rfl (by simp only [V.into, intoL, cB_into, vB_into, cI_into, cR_into, cD_into, cS_into, vS_into, vI_into, vR_into, vD_into, cu_into, Bool.true_and, Bool.and_true])
  simp only [gos, if_true, if_false, ne_eq, eq_self, Nat.reduceLT, Nat.reduceEqDiff, Nat.reduceAdd, Nat.reduceMul, Nat.reduceLeDiff, Nat.reduceBEq, reduceCtorEq, reduceIte, Array.toList, ↓reduceIte, tt, vgo, vout, vgoD, voutD, vclsOk, vids, mayWrite, V.ids, V.mids, vguard, callOf, vop, ev, cv, vbin, vint, isShift, isNilConst, vnil, isNilSlice, vload, vlen, newRow, vfill, vslice, entOf, vappend, srcOf, vcopy, vlookup, vupdate, mapOk, keyOf, intsOf, clsAt]
  refine Wr.draw (by kernel_rfl) ?_
  have a1 : decide ((0 : Int) = 0) = true := rfl
  have a3 : decide (((3 : Nat) : Int) = 3) = true := rfl
  have a2 : decide ((1 : Int) = 1) = true := rfl
  have c1 : ([4, 5] == [(4 : Int), 5]) = true := rfl
  have c2 : ([0, 6] == [(0 : Int), 6]) = true := rfl
  have b1 : ((0 : Int) ≤ 1) = True := by decide
  have b2 : ((1 : Int) < ((3 : Nat) : Int)) = True := by decide
  have b3 : ((0 : Int) ≤ 2) = True := by decide
  have b4 : ((2 : Int) < ((3 : Nat) : Int)) = True := by decide
  have b5 : Int.toNat 1 = 1 := rfl
  have b6 : Int.toNat 2 = 2 := rfl
  simp only [List.append]
  simp only [gos, if_true, if_false, ne_eq, eq_self, Nat.reduceLT, Nat.reduceEqDiff, Nat.reduceAdd, Nat.reduceMul, Nat.reduceLeDiff, Nat.reduceBEq, reduceCtorEq, reduceIte, Array.toList, ↓reduceIte, tt, vgo, vout, vgoD, voutD, vclsOk, vids, mayWrite, V.ids, V.mids, vguard, callOf, vop, ev, cv, vbin, vint, isShift, isNilConst, vnil, isNilSlice, vload, vlen, newRow, vfill, vslice, entOf, vappend, srcOf, vcopy, vlookup, vupdate, mapOk, keyOf, intsOf, clsAt, a1, a3, b1, b2, b3, b4, b5, b6, vR, cR]
  refine CD.pu (c_same [6, 4, 2] [6, 4, 2] (by simp)) ?_
  simp only [gos, if_true, if_false, ne_eq, eq_self, Nat.reduceLT, Nat.reduceEqDiff, Nat.reduceAdd, Nat.reduceMul, Nat.reduceLeDiff, Nat.reduceBEq, reduceCtorEq, reduceIte, Array.toList, ↓reduceIte, tt, vgo, vout, vgoD, voutD, vclsOk, vids, mayWrite, V.ids, V.mids, vguard, callOf, vop, ev, cv, vbin, vint, isShift, isNilConst, vnil, isNilSlice, vload, vlen, newRow, vfill, vslice, entOf, vappend, srcOf, vcopy, vlookup, vupdate, mapOk, keyOf, intsOf, clsAt, a1, a2, a3, b1, b2, b3, b4, b5, b6, vR, cR, c1, c2]
  refine CD.pu (c_same [12, 10, 0] [12, 10, 0] (by simp)) ?_
  simp only [gos, if_true, if_false, ne_eq, eq_self, Nat.reduceLT, Nat.reduceEqDiff, Nat.reduceAdd, Nat.reduceMul, Nat.reduceLeDiff, Nat.reduceBEq, reduceCtorEq, reduceIte, Array.toList, ↓reduceIte, tt, vgo, vout, vgoD, voutD, vclsOk, vids, mayWrite, V.ids, V.mids, vguard, callOf, vop, ev, cv, vbin, vint, isShift, isNilConst, vnil, isNilSlice, vload, vlen, newRow, vfill, vslice, entOf, vappend, srcOf, vcopy, vlookup, vupdate, mapOk, keyOf, intsOf, clsAt, a1, a2, a3, b1, b2, b3, b4, b5, b6, vR, cR, c1, c2]
  refine CD.pu (c_between 4 5) ?_
  simp only [gos, if_true, if_false, ne_eq, eq_self, Nat.reduceLT, Nat.reduceEqDiff, Nat.reduceAdd, Nat.reduceMul, Nat.reduceLeDiff, Nat.reduceBEq, reduceCtorEq, reduceIte, Array.toList, ↓reduceIte, tt, vgo, vout, vgoD, voutD, vclsOk, vids, mayWrite, V.ids, V.mids, vguard, callOf, vop, ev, cv, vbin, vint, isShift, isNilConst, vnil, isNilSlice, vload, vlen, newRow, vfill, vslice, entOf, vappend, srcOf, vcopy, vlookup, vupdate, mapOk, keyOf, intsOf, clsAt, a1, a2, a3, b1, b2, b3, b4, b5, b6, vR, cR, c1, c2]
  refine CD.pu (c_between 0 6) ?_
  simp only [gos, if_true, if_false, ne_eq, eq_self, Nat.reduceLT, Nat.reduceEqDiff, Nat.reduceAdd, Nat.reduceMul, Nat.reduceLeDiff, Nat.reduceBEq, reduceCtorEq, reduceIte, Array.toList, ↓reduceIte, tt, vgo, vout, vgoD, voutD, vclsOk, vids, mayWrite, V.ids, V.mids, vguard, callOf, vop, ev, cv, vbin, vint, isShift, isNilConst, vnil, isNilSlice, vload, vlen, newRow, vfill, vslice, entOf, vappend, srcOf, vcopy, vlookup, vupdate, mapOk, keyOf, intsOf, clsAt, a1, a2, a3, b1, b2, b3, b4, b5, b6, vR, cR, c1, c2]
  refine CD.pu (c_same [1, 1, 3] [1, 1, 3] (by simp)) ?_
  simp only [gos, if_true, if_false, ne_eq, eq_self, Nat.reduceLT, Nat.reduceEqDiff, Nat.reduceAdd, Nat.reduceMul, Nat.reduceLeDiff, Nat.reduceBEq, reduceCtorEq, reduceIte, Array.toList, ↓reduceIte, tt, vgo, vout, vgoD, voutD, vclsOk, vids, mayWrite, V.ids, V.mids, vguard, callOf, vop, ev, cv, vbin, vint, isShift, isNilConst, vnil, isNilSlice, vload, vlen, newRow, vfill, vslice, entOf, vappend, srcOf, vcopy, vlookup, vupdate, mapOk, keyOf, intsOf, clsAt, a1, a2, a3, b1, b2, b3, b4, b5, b6, vR, cR, c1, c2]
  refine CD.pu (c_same [1, 1, 1] [1, 1, 1] (by simp)) ?_
  simp only [gos, if_true, if_false, ne_eq, eq_self, Nat.reduceLT, Nat.reduceEqDiff, Nat.reduceAdd, Nat.reduceMul, Nat.reduceLeDiff, Nat.reduceBEq, reduceCtorEq, reduceIte, Array.toList, ↓reduceIte, tt, vgo, vout, vgoD, voutD, vclsOk, vids, mayWrite, V.ids, V.mids, vguard, callOf, vop, ev, cv, vbin, vint, isShift, isNilConst, vnil, isNilSlice, vload, vlen, newRow, vfill, vslice, entOf, vappend, srcOf, vcopy, vlookup, vupdate, mapOk, keyOf, intsOf, clsAt, a1, a2, a3, b1, b2, b3, b4, b5, b6, vR, cR, c1, c2]
  refine CD.pu (c_same [0] [0] (by simp)) ?_
  simp only [gos, if_true, if_false, ne_eq, eq_self, Nat.reduceLT, Nat.reduceEqDiff, Nat.reduceAdd, Nat.reduceMul, Nat.reduceLeDiff, Nat.reduceBEq, reduceCtorEq, reduceIte, Array.toList, ↓reduceIte, tt, vgo, vout, vgoD, voutD, vclsOk, vids, mayWrite, V.ids, V.mids, vguard, callOf, vop, ev, cv, vbin, vint, isShift, isNilConst, vnil, isNilSlice, vload, vlen, newRow, vfill, vslice, entOf, vappend, srcOf, vcopy, vlookup, vupdate, mapOk, keyOf, intsOf, clsAt, a1, a2, a3, b1, b2, b3, b4, b5, b6, vR, cR, c1, c2]
  subst hQ
  exact FnPost.plain trivial (v := .bool true) (fun h2 e => by rfl) WkV.refl ⟨rfl, rfl⟩
end Go.Vm
set_option linter.unusedVariables false
set_option linter.unusedSimpArgs false
namespace Go.Vm
/-! ### the plain law: the truths of the program are those of the reference -/
/-- A truth, whatever the readings are. -/
structure Listed (c : Cu) (t : Tr2) : Prop where
  heat : c.heat.lo ≤ t.heat ∧ t.heat ≤ c.heat.hi
  len : t.loss.length = c.loss.length
  loss : ∀ i : Nat, i < c.loss.length → (gR c.loss i).lo ≤ gi t.loss i ∧ gi t.loss i ≤ (gR c.loss i).hi
theorem mem_rangeI {lo hi x : Int} : x ∈ rangeI lo hi ↔ lo ≤ x ∧ x ≤ hi := by
  refine ⟨rangeI_mem, fun h => ?_⟩
  simp only [rangeI, List.mem_map, List.mem_range]
  exact ⟨(x - lo).toNat, by omega, by omega⟩
theorem gi_set_self {l : List Int} {i : Nat} (x : Int) (h : i < l.length) : gi (l.set i x) i = x := by
  simp only [gi, Int.toNat_natCast, List.getD_eq_getElem?_getD]
  rw [List.getElem?_set_self h]; rfl
theorem gi_of_get {l m : List Int} {i : Nat} (h : l[i]? = m[i]?) : gi l i = gi m i := by
  simp only [gi, Int.toNat_natCast, List.getD_eq_getElem?_getD, h]
theorem mem_genH (c : Cu) : ∀ (k hour : Nat) (ls l : List Int), hour + k ≤ ls.length →
    (l ∈ genH c k hour ls ↔ l.length = ls.length ∧ (∀ j, j < hour ∨ hour + k ≤ j → l[j]? = ls[j]?) ∧ ∀ j : Nat, hour ≤ j → j < hour + k → (gR c.loss j).lo ≤ gi l j ∧ gi l j ≤ (gR c.loss j).hi)
  | 0, hour, ls, l, _ => by
    simp only [genH, List.mem_singleton]
    constructor
    · rintro rfl; exact ⟨rfl, fun _ _ => rfl, fun j h1 h2 => by omega⟩
    · rintro ⟨_, h, _⟩
      exact List.ext_getElem? fun j => h j (by omega)
  | k + 1, hour, ls, l, hh => by
    simp only [genH, List.mem_flatMap, mem_rangeI]
    constructor
    · rintro ⟨n, hn, hm⟩
      obtain ⟨h1, h2, h3⟩ := (mem_genH c k (hour + 1) (ls.set hour n) l (by simp; omega)).1 hm
      refine ⟨by simpa using h1, fun j hj => ?_, fun j h4 h5 => ?_⟩
      · rw [h2 j (by omega), List.getElem?_set_ne (by omega)]
      · by_cases e : hour = j
        · subst e
          rw [gi_of_get (h2 hour (by omega)), gi_set_self _ (by omega)]
          exact hn
        · exact h3 j (by omega) (by omega)
    · rintro ⟨h1, h2, h3⟩
      refine ⟨gi l hour, h3 hour (by omega) (by omega), (mem_genH c k (hour + 1) (ls.set hour (gi l hour)) l (by simp; omega)).2 ⟨by simpa using h1, fun j hj => ?_, fun j h4 h5 => h3 j (by omega) (by omega)⟩⟩
      by_cases e : hour = j
      · subst e
        rw [List.getElem?_set_self (by omega)]
        exact gi_get (by omega)
      · rw [List.getElem?_set_ne e]
        exact h2 j (by omega)
theorem pad5_get {l : List Int} (j : Nat) (h : j < l.length) : (pad5 l)[j]? = l[j]? := by
  rw [pad5, List.getElem?_append_left h]
theorem pad5_ge {l : List Int} (j : Nat) (h : l.length ≤ j) (hl : l.length ≤ 5) : (pad5 l)[j]? = zL[j]? := by
  rw [pad5, List.getElem?_append_right h, List.getElem?_replicate]
  by_cases hj : j < 5
  · rw [if_pos (by omega)]
    have : ∀ k : Fin 5, zL[(k : Nat)]? = some 0 := by decide
    exact (this ⟨j, hj⟩).symm
  · rw [if_neg (by omega), List.getElem?_eq_none (by simp [zL]; omega)]
theorem mem_truths {c : Cu} (k0 : CuOk c) (s : Sc) : s ∈ truths c ↔ ∃ t, Listed c t ∧ s = tS t := by
  have hl := k0.loss.1
  have hla := k0.last
  have hn : (c.last + 1).toNat = c.loss.length := by omega
  simp only [truths, List.mem_flatMap, List.mem_map, mem_rangeI]
  rw [hn]
  constructor
  · rintro ⟨h, hh, l, hm, rfl⟩
    obtain ⟨h1, h2, h3⟩ := (mem_genH c c.loss.length 0 zL l (by simp [zL]; omega)).1 hm
    have hz : l.length = 5 := h1
    have hlen : (l.take c.loss.length).length = c.loss.length := by rw [List.length_take]; omega
    refine ⟨⟨h, l.take c.loss.length⟩, ⟨hh, hlen, fun i hi => ?_⟩, ?_⟩
    · have : gi (l.take c.loss.length) i = gi l i := gi_of_get (by rw [List.getElem?_take, if_pos hi])
      simp only [this]
      exact h3 i (by omega) (by omega)
    · simp only [tS, Sc.mk.injEq, true_and]
      refine List.ext_getElem? fun j => ?_
      by_cases hj : j < c.loss.length
      · rw [pad5_get j (by omega), List.getElem?_take, if_pos hj]
      · rw [pad5_ge j (by omega) (by omega)]
        exact h2 j (by omega)
  · rintro ⟨t, ⟨ht, hle, hlo⟩, rfl⟩
    refine ⟨t.heat, ht, pad5 t.loss, (mem_genH c c.loss.length 0 zL (pad5 t.loss) (by simp [zL]; omega)).2 ⟨?_, fun j hj => ?_, fun j h4 h5 => ?_⟩, rfl⟩
    · simp [pad5, zL]; omega
    · rcases hj with hj | hj
      · omega
      · exact pad5_ge j (by omega) (by omega)
    · rw [pad5_gi]; exact hlo j (by omega)
/-! the truths by number -/
def encL : List Rg → List Int → Int
  | [], _ => 0
  | r :: rs, l => (gi l 0 - r.lo) + sSize r * encL rs (l.drop 1)
theorem gi_cons_zero (x : Int) (l : List Int) : gi (x :: l) 0 = x := rfl
theorem encL_ok : ∀ (rs : List Rg) (l : List Int), l.length = rs.length → (∀ r ∈ rs, 1 ≤ sSize r) → (∀ i : Nat, i < rs.length → (gR rs i).lo ≤ gi l i ∧ gi l i ≤ (gR rs i).hi) →
    0 ≤ encL rs l ∧ encL rs l < pL rs ∧ nthL rs (encL rs l) = l
  | [], l, hl, _, _ => by
    have : l = [] := List.length_eq_zero_iff.1 hl
    subst this
    simp [encL, pL, nthL]
  | r :: rs, [], hl, _, _ => by simp at hl
  | r :: rs, x :: l, hl, hs, hb => by
    have hr := hs r (by simp)
    have h0 := hb 0 (by simp)
    have e0 : gR (r :: rs) (0 : Nat) = r := rfl
    have e1 : gi (x :: l) (0 : Nat) = x := rfl
    rw [e0, e1] at h0
    obtain ⟨i1, i2, i3⟩ := encL_ok rs l (by simpa using hl) (fun y hy => hs y (by simp [hy])) (fun i hi => by
      have := hb (i + 1) (by simp; omega)
      have a1 : gR (r :: rs) ((i + 1 : Nat) : Int) = gR rs i := by simp only [gR, Int.toNat_natCast, List.getD_cons_succ]
      have a2 : gi (x :: l) ((i + 1 : Nat) : Int) = gi l i := by simp only [gi, Int.toNat_natCast, List.getD_cons_succ]
      rwa [a1, a2] at this)
    have en : encL (r :: rs) (x :: l) = (x - r.lo) + sSize r * encL rs l := by simp only [encL, gi_cons_zero, List.drop_succ_cons, List.drop_zero]
    have hxs : 0 ≤ x - r.lo ∧ x - r.lo < sSize r := by simp only [sSize] at hr ⊢; omega
    have hm : 0 ≤ sSize r * encL rs l := Int.mul_nonneg (by omega) i1
    have hm2 : sSize r * (encL rs l + 1) ≤ sSize r * pL rs := Int.mul_le_mul_of_nonneg_left (by omega) (by omega)
    rw [Int.mul_add] at hm2
    have hn : 0 ≤ (x - r.lo) + sSize r * encL rs l := by omega
    have t1 : ((x - r.lo) + sSize r * encL rs l).tmod (sSize r) = x - r.lo := by
      rw [Int.tmod_eq_emod_of_nonneg hn, Int.add_mul_emod_self_left, Int.emod_eq_of_lt hxs.1 hxs.2]
    have t2 : ((x - r.lo) + sSize r * encL rs l).tdiv (sSize r) = encL rs l := by
      rw [Int.tdiv_eq_ediv_of_nonneg hn, Int.add_mul_ediv_left _ _ (by omega), Int.ediv_eq_zero_of_lt hxs.1 hxs.2]; omega
    rw [en]
    refine ⟨hn, by simp only [pL]; omega, ?_⟩
    simp only [nthL, t1, t2, i3]
    congr 1
    omega
theorem rManyL_3000 : ∀ (l : List Rg), (∀ r ∈ l, 1 ≤ sSize r) → rManyL 3000 l = 3000
  | [], _ => rfl
  | r :: l, h => by
    have h1 := h r (by simp)
    have e : rManyL 3000 (r :: l) = rManyL (min 3000 (3000 * sSize r)) l := rfl
    rw [e, show min 3000 (3000 * sSize r) = 3000 by omega]
    exact rManyL_3000 l fun x hx => h x (by simp [hx])
theorem rManyL_eq : ∀ (l : List Rg) (n : Int), (∀ r ∈ l, 1 ≤ sSize r) → rManyL n l < 3000 → rManyL n l = n * pL l
  | [], n, _, _ => by simp [rManyL, pL]
  | r :: l, n, h, hlt => by
    have e : rManyL n (r :: l) = rManyL (min 3000 (n * sSize r)) l := rfl
    rw [e] at hlt ⊢
    by_cases hc : 3000 ≤ n * sSize r
    · rw [show min 3000 (n * sSize r) = 3000 by omega, rManyL_3000 l fun x hx => h x (by simp [hx])] at hlt
      omega
    · rw [show min 3000 (n * sSize r) = n * sSize r by omega] at hlt ⊢
      rw [rManyL_eq l _ (fun x hx => h x (by simp [hx])) hlt, pL, Int.mul_assoc]
theorem nth_listed {c : Cu} (k0 : CuOk c) {n : Int} (hn : 0 ≤ n) : Listed c (rNth c n) := by
  have hz := size_le k0.heat
  have hin := k0.heat
  simp only [sInside, Bool.and_eq_true, decide_eq_true_eq] at hin
  have hm := tmod_le hn hz.1
  refine ⟨by simp only [rNth]; simp only [sSize] at hm ⊢; omega, by simp only [rNth, nthL_len], ?_⟩
  have key : ∀ (rs : List Rg) (n : Int), 0 ≤ n → (∀ r ∈ rs, 1 ≤ sSize r) → ∀ i : Nat, i < rs.length → (gR rs i).lo ≤ gi (nthL rs n) i ∧ gi (nthL rs n) i ≤ (gR rs i).hi := by
    intro rs
    induction rs with
    | nil => intro n _ _ i hi; simp at hi
    | cons r rs ih =>
      intro n hn hs i hi
      have hr := hs r (by simp)
      have hm := tmod_le hn hr
      cases i with
      | zero =>
        have a1 : gR (r :: rs) ((0 : Nat) : Int) = r := rfl
        have a2 : gi (nthL (r :: rs) n) ((0 : Nat) : Int) = r.lo + n.tmod (sSize r) := rfl
        rw [a1, a2]
        simp only [sSize] at hm ⊢; omega
      | succ i =>
        have a1 : gR (r :: rs) ((i + 1 : Nat) : Int) = gR rs i := by simp only [gR, Int.toNat_natCast, List.getD_cons_succ]
        have a2 : gi (nthL (r :: rs) n) ((i + 1 : Nat) : Int) = gi (nthL rs (n.tdiv (sSize r))) i := by simp only [nthL, gi, Int.toNat_natCast, List.getD_cons_succ]
        rw [a1, a2]
        exact ih _ (Int.tdiv_nonneg hn (by omega)) (fun x hx => hs x (by simp [hx])) i (by simpa using hi)
  exact key c.loss _ (Int.tdiv_nonneg hn (by omega)) fun r hr => (size_le (k0.loss.2 r hr)).1
theorem nth_surj {c : Cu} (k0 : CuOk c) {t : Tr2} (h : Listed c t) : ∃ n : Nat, (n : Int) < rMany c ∧ rNth c n = t := by
  have hz := size_le k0.heat
  have hs : ∀ r ∈ c.loss, 1 ≤ sSize r := fun r hr => (size_le (k0.loss.2 r hr)).1
  obtain ⟨h1, h2, h3⟩ := encL_ok c.loss t.loss h.len hs h.loss
  have hM := rMany_le k0
  have e : rMany c = sSize c.heat * pL c.loss := rManyL_eq c.loss (sSize c.heat) hs (by have : rMany c = rManyL (sSize c.heat) c.loss := rfl; omega)
  have hx : 0 ≤ t.heat - c.heat.lo ∧ t.heat - c.heat.lo < sSize c.heat := by have := h.heat; simp only [sSize]; omega
  have hm : 0 ≤ sSize c.heat * encL c.loss t.loss := Int.mul_nonneg (by omega) h1
  have hm2 : sSize c.heat * (encL c.loss t.loss + 1) ≤ sSize c.heat * pL c.loss := Int.mul_le_mul_of_nonneg_left (by omega) (by omega)
  rw [Int.mul_add] at hm2
  have hn : 0 ≤ (t.heat - c.heat.lo) + sSize c.heat * encL c.loss t.loss := by omega
  have t1 : ((t.heat - c.heat.lo) + sSize c.heat * encL c.loss t.loss).tmod (sSize c.heat) = t.heat - c.heat.lo := by
    rw [Int.tmod_eq_emod_of_nonneg hn, Int.add_mul_emod_self_left, Int.emod_eq_of_lt hx.1 hx.2]
  have t2 : ((t.heat - c.heat.lo) + sSize c.heat * encL c.loss t.loss).tdiv (sSize c.heat) = encL c.loss t.loss := by
    rw [Int.tdiv_eq_ediv_of_nonneg hn, Int.add_mul_ediv_left _ _ (by omega), Int.ediv_eq_zero_of_lt hx.1 hx.2]; omega
  refine ⟨((t.heat - c.heat.lo) + sSize c.heat * encL c.loss t.loss).toNat, by omega, ?_⟩
  rw [show ((((t.heat - c.heat.lo) + sSize c.heat * encL c.loss t.loss).toNat : Nat) : Int) = (t.heat - c.heat.lo) + sSize c.heat * encL c.loss t.loss by omega]
  simp only [rNth, t1, t2, h3]
  cases t
  simp only [Tr2.mk.injEq, and_true]
  omega
end Go.Vm
set_option linter.unusedVariables false
set_option linter.unusedSimpArgs false
namespace Go.Vm
/-! ### what is hot, left and kept, by hour -/
theorem sPlay_hot (c : Cu) (s : Sc) (coal want : List Int) : ∀ n, (sPlay c s coal want n).2.hot = (List.range n).map (fun (i : Nat) => (sHeat c s coal want i).tdiv c.per) ∧
    (sPlay c s coal want n).2.left = (List.range n).map (fun (i : Nat) => (sPlay c s coal want (i + 1)).1) ∧ (sPlay c s coal want n).2.kept = (List.range n).map (fun (i : Nat) => decide (gi want i ≤ (sHeat c s coal want i).tdiv c.per))
  | 0 => ⟨rfl, rfl, rfl⟩
  | n + 1 => by
    obtain ⟨h1, h2, h3⟩ := sPlay_hot c s coal want n
    have e : sPlay c s coal want (n + 1) = ((sPlay c s coal want (n + 1)).1, ⟨(sPlay c s coal want n).2.hot ++ [(sHeat c s coal want n).tdiv c.per], (sPlay c s coal want n).2.left ++ [(sPlay c s coal want (n + 1)).1], (sPlay c s coal want n).2.kept ++ [decide (gi want n ≤ (sHeat c s coal want n).tdiv c.per)]⟩) := rfl
    rw [e]
    simp only [h1, h2, h3, List.range_succ, List.map_append, List.map_cons, List.map_nil, true_and, and_true]
theorem gi_map {f : Nat → Int} {n i : Nat} (h : i < n) : gi ((List.range n).map f) i = f i := by
  simp only [gi, Int.toNat_natCast, List.getD_eq_getElem?_getD, List.getElem?_map]
  rw [List.getElem?_range h]; rfl
theorem gB_map {f : Nat → Bool} {n i : Nat} (h : i < n) : gB ((List.range n).map f) i = f i := by
  simp only [gB, Int.toNat_natCast, List.getD_eq_getElem?_getD, List.getElem?_map]
  rw [List.getElem?_range h]; rfl
theorem past_hot {c : Cu} (coal want : List Int) (s : Sc) {i : Nat} (hi : (i : Int) ≤ c.last) : gi (sPast c coal want s).hot i = (sHeat c s coal want i).tdiv c.per := by
  rw [sPast, (sPlay_hot c s coal want _).1, gi_map (by omega)]
theorem past_left {c : Cu} (coal want : List Int) (s : Sc) {i : Nat} (hi : (i : Int) ≤ c.last) : gi (sPast c coal want s).left i = (sPlay c s coal want (i + 1)).1 := by
  rw [sPast, (sPlay_hot c s coal want _).2.1, gi_map (by omega)]
theorem past_kept {c : Cu} (coal want : List Int) (s : Sc) {i : Nat} (hi : (i : Int) ≤ c.last) : gB (sPast c coal want s).kept i = decide (gi want i ≤ (sHeat c s coal want i).tdiv c.per) := by
  rw [sPast, (sPlay_hot c s coal want _).2.2, gB_map (by omega)]
theorem dec_not (x : Bool) : decide (false = x) = !x := by cases x <;> rfl
theorem past_whole {c : Cu} (coal want : List Int) (s : Sc) : ((sPast c coal want s).kept.any fun y => decide (false = y)) = !((List.range (c.last + 1).toNat).all fun (i : Nat) => decide (gi want i ≤ (sHeat c s coal want i).tdiv c.per)) := by
  rw [sPast, (sPlay_hot c s coal want _).2.2, List.any_map, List.not_all_eq_any_not]
  congr 1
  funext i
  simp only [Function.comp]
  exact dec_not _
/-! ### all readings are right -/
theorem bitsI_full (f : Nat → Bool) : ∀ n, bitsI f n = 2 ^ n - 1 ↔ ∀ i, i < n → f i = true
  | 0 => by simp [bitsI]
  | n + 1 => by
    have ih := bitsI_full f n
    have hb := bitsI_le f n
    have e : (2 : Int) ^ (n + 1) = 2 ^ n + 2 ^ n := by rw [Int.pow_succ]; omega
    simp only [bitsI]
    constructor
    · intro h i hi
      by_cases hf : f n = true
      · rw [if_pos hf] at h
        rcases Nat.lt_succ_iff_lt_or_eq.1 hi with h1 | rfl
        · exact ih.1 (by omega) i h1
        · exact hf
      · rw [if_neg hf] at h; omega
    · intro h
      rw [if_pos (h n (by omega)), ih.2 fun i hi => h i (by omega)]
      omega
theorem rOk_eq {c : Cu} (k0 : CuOk c) (t : Tr2) {i : Nat} (hi : i < c.readings.length) : sRead1 c (tS t) [] i = rOk c t i := by
  have hr := k0.hours _ (List.mem_of_getElem? (gD_get (l := c.readings) (i := i) (by omega)))
  have := past_hot c.coal c.want (tS t) (c := c) (i := (gD c.readings i).hour.toNat) (by omega)
  rw [show (((gD c.readings i).hour.toNat : Nat) : Int) = (gD c.readings i).hour by omega, sPast] at this
  simp only [sRead1, List.any_nil, Bool.false_or, rOk, this]
theorem right_iff {c : Cu} (k0 : CuOk c) (t : Tr2) : rRight c t = rFull c ↔ sRight c (tS t) [] = true := by
  rw [rRight, rFull, bitsI_full]
  simp only [sRight, List.all_eq_true, List.mem_range]
  exact ⟨fun h i hi => by rw [rOk_eq k0 t hi]; exact h i hi, fun h i hi => by rw [← rOk_eq k0 t hi]; exact h i hi⟩
/-! ### the same truths -/
theorem ask_all (c : Cu) (l : List Sc) : ∀ (tr : List Sc), (∀ s ∈ tr, s ∈ (runAll (askStep c) l tr).2) ∧ ∀ s ∈ l, sRight c s [] = true → s ∈ (runAll (askStep c) l tr).2 := by
  induction l with
  | nil => intro tr; exact ⟨fun s hs => hs, fun s hs => by cases hs⟩
  | cons x l ih =>
    intro tr
    obtain ⟨i1, i2⟩ := ih (askAdd c x tr)
    have hsub : ∀ s ∈ tr, s ∈ askAdd c x tr := fun s hs => by
      unfold askAdd; split
      · simp [hs]
      · exact hs
    refine ⟨fun s hs => i1 s (hsub s hs), fun s hs hr => ?_⟩
    rcases List.mem_cons.1 hs with rfl | hs
    · refine i1 s ?_
      unfold askAdd; split
      · simp
      · rename_i hn
        have : tr.getLast? = some s := by
          cases h : decide (tr.getLast? = some s) with
          | true => simpa using h
          | false => exact absurd ⟨hr, by simpa using h⟩ hn
        exact List.mem_of_getLast? this
    · exact i2 s hs hr
theorem mem_sTruth (c : Cu) (s : Sc) : s ∈ sTruth c ↔ s ∈ truths c ∧ sRight c s [] = true := by
  constructor
  · intro h
    rcases ask_mem c (truths c) [] s h with h | h
    · cases h
    · exact h
  · rintro ⟨h1, h2⟩
    exact (ask_all c (truths c) []).2 s h1 h2
theorem mem_rTruths (c : Cu) (t : Tr2) : t ∈ rTruths c ↔ (∃ n : Nat, n < (rMany c).toNat ∧ rNth c n = t) ∧ rRight c t = rFull c := by
  simp only [rTruths, rTr, List.mem_filter, List.mem_map, List.mem_range, rIs, decide_eq_true_eq]
theorem mem_rTruths' {c : Cu} (k0 : CuOk c) (t : Tr2) : t ∈ rTruths c ↔ Listed c t ∧ sRight c (tS t) [] = true := by
  rw [mem_rTruths, right_iff k0]
  constructor
  · rintro ⟨⟨n, _, rfl⟩, h⟩
    exact ⟨nth_listed k0 (by omega), h⟩
  · rintro ⟨h1, h2⟩
    obtain ⟨n, h3, h4⟩ := nth_surj k0 h1
    exact ⟨⟨n, by omega, h4⟩, h2⟩
theorem same_truths {c : Cu} (k0 : CuOk c) (s : Sc) : s ∈ sTruth c ↔ ∃ t ∈ rTruths c, s = tS t := by
  rw [mem_sTruth, mem_truths k0]
  constructor
  · rintro ⟨⟨t, h1, rfl⟩, h2⟩
    exact ⟨t, (mem_rTruths' k0 t).2 ⟨h1, h2⟩, rfl⟩
  · rintro ⟨t, h1, rfl⟩
    obtain ⟨h2, h3⟩ := (mem_rTruths' k0 t).1 h1
    exact ⟨⟨t, h2, rfl⟩, h3⟩
theorem same_nil {c : Cu} (k0 : CuOk c) : sTruth c = [] ↔ rTruths c = [] := by
  constructor
  · intro h
    cases hr : rTruths c with
    | nil => rfl
    | cons t l =>
      have := (same_truths k0 (tS t)).2 ⟨t, by rw [hr]; simp, rfl⟩
      rw [h] at this; cases this
  · intro h
    cases hr : sTruth c with
    | nil => rfl
    | cons s l =>
      obtain ⟨t, ht, _⟩ := (same_truths k0 s).1 (by rw [hr]; simp)
      rw [h] at ht; cases ht
theorem sure_same (c : Cu) : rSureE c = sAsked c true := by
  unfold rSureE sAsked
  by_cases h0 : sCheck c = 0
  · have k0 := sCheck_ok h0
    have := same_nil k0
    simp only [h0, ne_eq, not_true_eq_false, if_false, Bool.true_eq_false, this]
  · simp [h0]
/-! ### the bounds are the same -/
theorem fold_wider : ∀ (l : List Int) (r : Rg), (l.foldl sWider r).lo ≤ r.lo ∧ (∀ x ∈ l, (l.foldl sWider r).lo ≤ x) ∧ ((l.foldl sWider r).lo = r.lo ∨ (l.foldl sWider r).lo ∈ l) ∧
    r.hi ≤ (l.foldl sWider r).hi ∧ (∀ x ∈ l, x ≤ (l.foldl sWider r).hi) ∧ ((l.foldl sWider r).hi = r.hi ∨ (l.foldl sWider r).hi ∈ l)
  | [], r => ⟨Int.le_refl _, by simp, .inl rfl, Int.le_refl _, by simp, .inl rfl⟩
  | n :: l, r => by
    obtain ⟨h1, h2, h3, h4, h5, h6⟩ := fold_wider l (sWider r n)
    simp only [List.foldl_cons]
    have a1 : (sWider r n).lo = min r.lo n := rfl
    have a2 : (sWider r n).hi = max r.hi n := rfl
    rw [a1] at h1 h3
    rw [a2] at h4 h6
    refine ⟨by omega, ?_, ?_, by omega, ?_, ?_⟩
    · intro x hx
      rcases List.mem_cons.1 hx with rfl | hx
      · omega
      · exact h2 x hx
    · rcases h3 with h | h
      · by_cases hc : r.lo ≤ n
        · exact .inl (by omega)
        · exact .inr (by simp; left; omega)
      · exact .inr (by simp [h])
    · intro x hx
      rcases List.mem_cons.1 hx with rfl | hx
      · omega
      · exact h5 x hx
    · rcases h6 with h | h
      · by_cases hc : n ≤ r.hi
        · exact .inl (by omega)
        · exact .inr (by simp; left; omega)
      · exact .inr (by simp [h])
/-- The least and the greatest number. -/
theorem bounds_same {xs ys : List Int} (hs : ∀ x, x ∈ xs ↔ x ∈ ys) (hne : xs ≠ []) (hb : ∀ x ∈ xs, 0 ≤ x ∧ x ≤ 100000) : sBounds xs = rB ys := by
  cases xs with
  | nil => exact absurd rfl hne
  | cons n l =>
    have e : sBounds (n :: l) = (n :: l).foldl sWider ⟨n, n⟩ := rfl
    obtain ⟨h1, h2, h3, h4, h5, h6⟩ := fold_wider (n :: l) ⟨n, n⟩
    obtain ⟨g1, g2, g3, g4, g5, g6⟩ := fold_wider ys rEmpty
    rw [e, rB]
    generalize (n :: l).foldl sWider ⟨n, n⟩ = A at h1 h2 h3 h4 h5 h6 ⊢
    generalize ys.foldl sWider rEmpty = B at g1 g2 g3 g4 g5 g6 ⊢
    have hn := hb n (by simp)
    have hny := (hs n).1 (by simp)
    have b1 := g2 n hny
    have b2 := g5 n hny
    have m1 : A.lo ∈ n :: l := by
      rcases h3 with h | h
      · simp only at h; rw [h]; simp
      · exact h
    have m2 : A.hi ∈ n :: l := by
      rcases h6 with h | h
      · simp only at h; rw [h]; simp
      · exact h
    have m3 : B.lo ∈ ys := by
      rcases g3 with h | h
      · simp only [rEmpty] at h; omega
      · exact h
    have m4 : B.hi ∈ ys := by
      rcases g6 with h | h
      · simp only [rEmpty] at h; omega
      · exact h
    have c1 := h2 _ ((hs _).2 m3)
    have c2 := h5 _ ((hs _).2 m4)
    have c3 := g2 _ ((hs _).1 m1)
    have c4 := g5 _ ((hs _).1 m2)
    cases A; cases B
    simp only [Rg.mk.injEq] at *
    omega
theorem sameB {c : Cu} (k0 : CuOk c) (hne : sTruth c ≠ []) (f : Sc → Int) (g : Tr2 → Int) (hfg : ∀ t, f (tS t) = g t) (hb : ∀ s ∈ sTruth c, 0 ≤ f s ∧ f s ≤ 100000) : sBounds ((sTruth c).map f) = rB ((rTruths c).map g) := by
  refine bounds_same (fun x => ?_) (by simpa using hne) ?_
  · simp only [List.mem_map]
    constructor
    · rintro ⟨s, hs, rfl⟩
      obtain ⟨t, ht, rfl⟩ := (same_truths k0 s).1 hs
      exact ⟨t, ht, (hfg t).symm⟩
    · rintro ⟨t, ht, rfl⟩
      exact ⟨tS t, (same_truths k0 _).2 ⟨t, ht, rfl⟩, hfg t⟩
  · intro x hx
    obtain ⟨s, hs, rfl⟩ := List.mem_map.1 hx
    exact hb s hs
theorem hotB_same {c : Cu} (A : AskOk c true) {i : Nat} (hi : (i : Int) ≤ c.last) : sHotB c i = rB ((rTruths c).map fun t => hotI c t i) := by
  have hper := A.k0.per
  refine sameB A.k0 A.ne (fun s => gi (sPast c c.coal c.want s).hot i) _ (fun t => past_hot c.coal c.want (tS t) hi) fun s hs => ?_
  have hh := sHeat_le (A.k0.play0 (A.sc s hs)) hi
  rw [past_hot c.coal c.want s hi]
  have h1 : 0 ≤ (sHeat c s c.coal c.want i).tdiv c.per := Int.tdiv_nonneg hh.1 (by omega)
  have h2 := Int.tdiv_le_self c.per hh.1
  omega
theorem leftB_same {c : Cu} (A : AskOk c true) {i : Nat} (hi : (i : Int) ≤ c.last) : sLeftB c i = rB ((rTruths c).map fun t => leftI c t i) := by
  refine sameB A.k0 A.ne (fun s => gi (sPast c c.coal c.want s).left i) _ (fun t => past_left c.coal c.want (tS t) hi) fun s hs => ?_
  have hh := sPlay_inv (A.k0.play0 (A.sc s hs)) (i + 1) (by omega)
  rw [past_left c.coal c.want s hi]
  omega
end Go.Vm
set_option linter.unusedVariables false
set_option linter.unusedSimpArgs false
set_option maxRecDepth 100000
namespace Go.Vm
open Go.Proofs Go.ChangeShapes Go.WideShapes Go.ChangeAt Go.RowKit
/-! ### from a contract to the row -/
def gh0 (w : World) : Gh := ⟨fun _ _ => none, fun B o => w.cell? ⟨B, o, none⟩⟩
theorem hrel0 (w : World) : HRel (gh0 w) [] w :=
  ⟨fun B o v e => e, fun i e he => (by cases he), fun i j e e' B c c' he => (by cases he), fun i e B c o he => (by cases he), fun i v h => absurd rfl h⟩
theorem calls_of_fn {P : Program} {f : FuncId} {vs : List V} {xs : List Value} {w : World} (c : Fn P f vs [] fun v h' => v = .bool true) (hv : VRL (gh0 w) vs xs) :
    Calls P f xs.toArray w fun e w' => e = .returned (.bool true) ∧ Below w.heap.size w w' := fun cs => by
  obtain ⟨v, h', vc, g', w', fr, rfl, st, hf, hl, hvc, H', t, le⟩ := c (gh0 w) w xs hv (hrel0 w) cs
  simp only [VR] at hvc
  subst hvc
  exact ⟨.returned (.bool true), w', fr, ⟨rfl, t.os, t.tape, t.output, t.size, fun k hk => t.mods k hk (by rintro ⟨i, e, c, he, _⟩; cases he)⟩, st, hf, hl⟩
theorem VRC_of {g : Gh} {B : Nat} : ∀ {l : List V} {vs : List Value} {o : Nat}, VRL g l vs → (∀ j v, vs[j]? = some v → g.ro B (o + j) = some v) → VRC g B o l
  | [], _, _, _, _ => by simp only [VRC]
  | c :: l, vs, o, h, hv => by
    simp only [VRL] at h
    obtain ⟨v, vs', rfl, h1, h2⟩ := h
    simp only [VRC]
    refine ⟨⟨v, hv 0 v rfl, h1⟩, VRC_of h2 fun j x hx => ?_⟩
    rw [show o + 1 + j = o + (j + 1) by omega]
    exact hv (j + 1) x (by simpa using hx)
theorem VRC_append {g : Gh} {B : Nat} : ∀ {l m : List V} {o : Nat}, VRC g B o l → VRC g B (o + l.length) m → VRC g B o (l ++ m)
  | [], m, o, _, h => by simpa using h
  | c :: l, m, o, h1, h2 => by
    simp only [VRC, List.cons_append] at h1 ⊢
    exact ⟨h1.1, VRC_append h1.2 (by rw [show o + 1 + l.length = o + (c :: l).length by simp; omega]; exact h2)⟩
theorem VRL_len {g : Gh} {l : List V} {vs : List Value} (h : VRL g l vs) : l.length = vs.length := h.length.symm
section
variable {H : Type} {enc : TypeId × Value → H} {P : Program} {w : World} {base : Nat} {spare : Nat → Bool} {held : Bool} {fuel : Nat} {t : TypeId} {cs : List Value} {x : DataW H × List MemPlace}
/-- A slice that came in. -/
theorem rd_slice {α : Type} {e : TypeId} (en : α → List V) (Pa : α → Prop) (s : Nat) (ht : P.underlying t = some (.slice e)) (hs : P.cellsOf e = s) (hpos : 0 < s) (hen : ∀ a, (en a).length = s)
    (h : DataW.trod enc P w base spare held fuel t cs = some x) (he : ∀ n cs x, DataW.trod enc P w base spare held n e cs = some x → ∃ a, Pa a ∧ VRL (gh0 w) (en a) cs) :
    ∃ l : List α, (∀ a ∈ l, Pa a) ∧ l.length ≤ maxLen ∧ VRL (gh0 w) [.ro l.length (l.flatMap en)] cs := by
  rcases DataW.trod_slice ht h with ⟨rfl, _⟩ | ⟨a, len, cap, elems, rest, n, _, rfl, _, hb, hlc, hmx, hel, hat, _, _⟩
  · exact ⟨[], by simp, Nat.zero_le _, VRL.cons (by simp only [VR]; exact ⟨none, 0, rfl, Nat.le_refl _, .inl ⟨rfl, rfl⟩⟩) VRL.nil⟩
  · rw [hs] at hat
    by_cases h0 : len = 0
    · subst h0
      exact ⟨[], by simp, Nat.zero_le _, VRL.cons (by simp only [VR]; exact ⟨some a, cap, rfl, Nat.zero_le _, .inl ⟨rfl, rfl⟩⟩) VRL.nil⟩
    · have hcell : ∀ i, i < len → ∃ (c : List Value), w.cells? base (a.add (i * s)) s = some c ∧ ∃ y, DataW.trod enc P w base spare held n e c = some y := fun i hi => by
        have h1 := hat i hi
        have h2 : elems[i]? = some elems[i] := List.getElem?_eq_getElem (by omega)
        rw [h2] at h1
        simp only [Option.bind_eq_some_iff] at h1
        obtain ⟨c, h3, h4⟩ := h1
        exact ⟨c, h3, _, h4⟩
      have hcells : ∀ (b : Addr) (c : List Value), w.cells? base b s = some c → ∀ j v, c[j]? = some v → w.cell? (b.add j) = some v := fun b c hc j v hv => by
        unfold World.cells? at hc
        split at hc
        · have hl := mapM_some_length hc
          simp only [List.length_range] at hl
          have hj : j < s := by have := (List.getElem?_eq_some_iff.1 hv).1; omega
          have := mapM_some_get hc j j (by simp [hj])
          rw [this, hv]
        · cases hc
      obtain ⟨b, off, spot⟩ := a
      have hspot : spot = none := by
        obtain ⟨c, h1, y, h2⟩ := hcell 0 (by omega)
        have hl : 0 < c.length := by
          obtain ⟨a', _, ha⟩ := he n c y h2
          rw [← VRL_len ha, hen]; exact hpos
        have := hcells _ c h1 0 c[0] (List.getElem?_eq_getElem hl)
        simpa [Addr.add] using World.cell?_spot this
      subst hspot
      have build : ∀ k, k ≤ len → ∃ l : List α, (∀ a ∈ l, Pa a) ∧ l.length = k ∧ (l.flatMap en).length = k * s ∧ VRC (gh0 w) b off (l.flatMap en) := fun k => by
        induction k with
        | zero => intro _; exact ⟨[], by simp, rfl, by simp, by simp only [List.flatMap_nil, VRC]⟩
        | succ k ih =>
          intro hk
          obtain ⟨l, h1, h2, h3, h4⟩ := ih (by omega)
          obtain ⟨c, h5, y, h6⟩ := hcell k (by omega)
          obtain ⟨a', h7, h8⟩ := he n c y h6
          refine ⟨l ++ [a'], ?_, by simp [h2], ?_, ?_⟩
          · intro z hz
            simp only [List.mem_append, List.mem_singleton] at hz
            rcases hz with hz | rfl
            · exact h1 z hz
            · exact h7
          · rw [List.flatMap_append, List.length_append, h3, List.flatMap_singleton, hen, Nat.add_mul]; omega
          · rw [List.flatMap_append, List.flatMap_singleton]
            refine VRC_append h4 (VRC_of h8 fun j v hv => ?_)
            have := hcells _ c h5 j v hv
            rw [h3]
            rw [add_plain, add_plain] at this
            exact this
      obtain ⟨l, h1, h2, h3, h4⟩ := build len (Nat.le_refl _)
      refine ⟨l, h1, by omega, VRL.cons ?_ VRL.nil⟩
      simp only [VR]
      exact ⟨some ⟨b, off, none⟩, cap, by rw [h2], by omega, .inr ⟨b, off, rfl, h4⟩⟩
theorem I64_of {n : Int} (h : (Lit.int .i64 n).wf = true) : I64 n := bounds_i64 h
theorem rd_int (ht : P.underlying t = some (.int .i64)) (h : DataW.trod enc P w base spare held fuel t cs = some x) : ∃ n, I64 n ∧ VRL (gh0 w) [vi n] cs := by
  obtain ⟨n, rfl, _, h2⟩ := DataW.trod_int ht h
  exact ⟨n, I64_of h2, VRL.cons (by simp only [VR]) VRL.nil⟩
theorem rd_ints (ht : P.underlying t = some (.slice 3)) (hi : P.underlying 3 = some (.int .i64)) (hc : P.cellsOf 3 = 1) (h : DataW.trod enc P w base spare held fuel t cs = some x) :
    ∃ l : List Int, (∀ n ∈ l, I64 n) ∧ l.length ≤ maxLen ∧ VRL (gh0 w) [vI l] cs := by
  obtain ⟨l, h1, h2, h3⟩ := rd_slice (fun n : Int => [vi n]) I64 1 ht hc (by omega) (fun _ => rfl) h fun n cs x h => rd_int hi h
  have e : l.flatMap (fun n : Int => [vi n]) = cI l := by
    clear h1 h2 h3
    induction l with
    | nil => rfl
    | cons y l ih => simp only [List.flatMap_cons, cI, List.map_cons, List.singleton_append] at ih ⊢; rw [ih]
  rw [e] at h3
  exact ⟨l, h1, h2, h3⟩
end
section
variable {H : Type} {enc : TypeId × Value → H} {w : World} {base : Nat} {spare : Nat → Bool} {held : Bool} {fuel : Nat} {cs : List Value} {x : DataW H × List MemPlace}
def Rg.ok (r : Rg) : Prop := I64 r.lo ∧ I64 r.hi
def Rd.ok (r : Rd) : Prop := I64 r.hour ∧ r.b.ok
theorem VRL_two {g : Gh} {a b : List V} {vs : List Value} {n : Nat} (h1 : VRL g a (vs.take n)) (h2 : VRL g b (vs.drop n)) : VRL g (a ++ b) vs := by
  have := VRL.append h1 h2
  rwa [List.take_append_drop] at this
theorem rd_rg (h : DataW.trod enc Try.prog w base spare held fuel 24 cs = some x) : ∃ r : Rg, r.ok ∧ VRL (gh0 w) r.cs cs := by
  obtain ⟨xs, n, _, _, hl, hx, hf⟩ := DataW.trod_struct Try.underlying24 h
  have hl2 : cs.length = 2 := hl.trans (by kernel_rfl)
  have hx2 : xs.length = 2 := hx
  have f0 : DataW.trod enc Try.prog w base spare held n 3 ((cs.drop 0).take (Try.prog.cellsOf 3)) = xs[0]? := hf 0 _ rfl
  have f1 : DataW.trod enc Try.prog w base spare held n 3 ((cs.drop 1).take (Try.prog.cellsOf 3)) = xs[1]? := hf 1 _ rfl
  rw [List.getElem?_eq_getElem (by omega)] at f0 f1
  obtain ⟨a, ha, va⟩ := rd_int Try.underlying3 f0
  obtain ⟨b, hb, vb⟩ := rd_int Try.underlying3 f1
  refine ⟨⟨a, b⟩, ⟨ha, hb⟩, ?_⟩
  have hc : Try.prog.cellsOf 3 = 1 := by kernel_rfl
  simp only [hc, List.drop_zero] at va vb
  rw [List.take_of_length_le (by simp; omega)] at vb
  exact VRL_two va vb
theorem rd_rd (h : DataW.trod enc Try.prog w base spare held fuel 96 cs = some x) : ∃ r : Rd, r.ok ∧ VRL (gh0 w) r.cs cs := by
  obtain ⟨xs, n, _, _, hl, hx, hf⟩ := DataW.trod_struct Try.underlying96 h
  have hl2 : cs.length = 3 := hl.trans (by kernel_rfl)
  have hx2 : xs.length = 2 := hx
  have f0 : DataW.trod enc Try.prog w base spare held n 3 ((cs.drop 0).take (Try.prog.cellsOf 3)) = xs[0]? := hf 0 _ rfl
  have f1 : DataW.trod enc Try.prog w base spare held n 24 ((cs.drop 1).take (Try.prog.cellsOf 24)) = xs[1]? := hf 1 _ rfl
  rw [List.getElem?_eq_getElem (by omega)] at f0 f1
  obtain ⟨a, ha, va⟩ := rd_int Try.underlying3 f0
  obtain ⟨b, hb, vb⟩ := rd_rg f1
  refine ⟨⟨a, b⟩, ⟨ha, hb⟩, ?_⟩
  have hc : Try.prog.cellsOf 3 = 1 := by kernel_rfl
  have hc2 : Try.prog.cellsOf 24 = 2 := by kernel_rfl
  simp only [hc, hc2, List.drop_zero] at va vb
  rw [List.take_of_length_le (by simp; omega)] at vb
  exact VRL_two va vb
theorem cR_flat : ∀ l : List Rg, l.flatMap Rg.cs = cR l
  | [] => rfl
  | r :: l => by rw [List.flatMap_cons, cR_flat l]; rfl
theorem cD_flat : ∀ l : List Rd, l.flatMap Rd.cs = cD l
  | [] => rfl
  | r :: l => by rw [List.flatMap_cons, cD_flat l]; rfl
/-- What is known of coppers that came in. -/
structure Cu.ok (c : Cu) : Prop where
  last : I64 c.last
  start : I64 c.start
  most : I64 c.most
  per : I64 c.per
  shovels : I64 c.shovels
  coal : ∀ n ∈ c.coal, I64 n
  want : ∀ n ∈ c.want, I64 n
  heat : c.heat.ok
  loss : ∀ r ∈ c.loss, r.ok
  readings : ∀ r ∈ c.readings, r.ok
theorem rd_cu (h : DataW.trod enc Try.prog w base spare held fuel 28 cs = some x) : ∃ c : Cu, c.ok ∧ VRL (gh0 w) c.cs cs := by
  obtain ⟨xs, n, _, _, hl, hx, hf⟩ := DataW.trod_struct Try.underlying28 h
  have hl2 : cs.length = 11 := hl.trans (by kernel_rfl)
  have hx2 : xs.length = 10 := hx
  have f0 : DataW.trod enc Try.prog w base spare held n 3 ((cs.drop 0).take (Try.prog.cellsOf 3)) = xs[0]? := hf 0 _ rfl
  have f1 : DataW.trod enc Try.prog w base spare held n 3 ((cs.drop 1).take (Try.prog.cellsOf 3)) = xs[1]? := hf 1 _ rfl
  have f2 : DataW.trod enc Try.prog w base spare held n 3 ((cs.drop 2).take (Try.prog.cellsOf 3)) = xs[2]? := hf 2 _ rfl
  have f3 : DataW.trod enc Try.prog w base spare held n 3 ((cs.drop 3).take (Try.prog.cellsOf 3)) = xs[3]? := hf 3 _ rfl
  have f4 : DataW.trod enc Try.prog w base spare held n 3 ((cs.drop 4).take (Try.prog.cellsOf 3)) = xs[4]? := hf 4 _ rfl
  have f5 : DataW.trod enc Try.prog w base spare held n 22 ((cs.drop 5).take (Try.prog.cellsOf 22)) = xs[5]? := hf 5 _ rfl
  have f6 : DataW.trod enc Try.prog w base spare held n 22 ((cs.drop 6).take (Try.prog.cellsOf 22)) = xs[6]? := hf 6 _ rfl
  have f7 : DataW.trod enc Try.prog w base spare held n 24 ((cs.drop 7).take (Try.prog.cellsOf 24)) = xs[7]? := hf 7 _ rfl
  have f8 : DataW.trod enc Try.prog w base spare held n 25 ((cs.drop 9).take (Try.prog.cellsOf 25)) = xs[8]? := hf 8 _ rfl
  have f9 : DataW.trod enc Try.prog w base spare held n 26 ((cs.drop 10).take (Try.prog.cellsOf 26)) = xs[9]? := hf 9 _ rfl
  rw [List.getElem?_eq_getElem (by omega)] at f0 f1 f2 f3 f4 f5 f6 f7 f8 f9
  have hc : Try.prog.cellsOf 3 = 1 := by kernel_rfl
  have hc2 : Try.prog.cellsOf 24 = 2 := by kernel_rfl
  have hc3 : Try.prog.cellsOf 22 = 1 := by kernel_rfl
  have hc4 : Try.prog.cellsOf 25 = 1 := by kernel_rfl
  have hc5 : Try.prog.cellsOf 26 = 1 := by kernel_rfl
  have hc6 : Try.prog.cellsOf 96 = 3 := by kernel_rfl
  obtain ⟨a0, h0, v0⟩ := rd_int Try.underlying3 f0
  obtain ⟨a1, h1, v1⟩ := rd_int Try.underlying3 f1
  obtain ⟨a2, h2, v2⟩ := rd_int Try.underlying3 f2
  obtain ⟨a3, h3, v3⟩ := rd_int Try.underlying3 f3
  obtain ⟨a4, h4, v4⟩ := rd_int Try.underlying3 f4
  obtain ⟨a5, h5, _, v5⟩ := rd_ints Try.underlying22 Try.underlying3 hc f5
  obtain ⟨a6, h6, _, v6⟩ := rd_ints Try.underlying22 Try.underlying3 hc f6
  obtain ⟨a7, h7, v7⟩ := rd_rg f7
  obtain ⟨a8, h8, _, v8⟩ := rd_slice Rg.cs Rg.ok 2 Try.underlying25 hc2 (by omega) (fun _ => rfl) f8 fun n cs x h => rd_rg h
  obtain ⟨a9, h9, _, v9⟩ := rd_slice Rd.cs Rd.ok 3 Try.underlying26 hc6 (by omega) (fun _ => rfl) f9 fun n cs x h => rd_rd h
  rw [cR_flat] at v8
  rw [cD_flat] at v9
  refine ⟨⟨a0, a1, a2, a3, a4, a5, a6, a7, a8, a9⟩, ⟨h0, h1, h2, h3, h4, h5, h6, h7, h8, h9⟩, ?_⟩
  match cs, hl2 with
  | [c0, c1, c2, c3, c4, c5, c6, c7, c8, c9, c10], _ =>
    simp only [hc, hc2, hc3, hc4, hc5, List.drop_zero, List.drop_succ_cons, List.take_succ_cons, List.take_zero, List.take_nil] at v0 v1 v2 v3 v4 v5 v6 v7 v8 v9
    exact VRL.append v0 (VRL.append v1 (VRL.append v2 (VRL.append v3 (VRL.append v4 (VRL.append v5 (VRL.append v6 (VRL.append v7 (VRL.append v8 v9))))))))
end
end Go.Vm
