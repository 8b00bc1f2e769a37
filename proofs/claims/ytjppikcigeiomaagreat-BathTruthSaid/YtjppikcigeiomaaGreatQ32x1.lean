import Derived.Test.YtjppikcigeiomaaGreatB4
import Derived.Test.YtjppikcigeiomaaGreatRows
import Derived.WalkKit
import Derived.ProofKit
import Derived.OpenShut
import Derived.ShutString
import Derived.ChangeOld
import Derived.Below
set_option linter.unusedVariables false
set_option linter.unusedSimpArgs false
set_option maxRecDepth 100000
namespace Go.Vm
open Go.Proofs
def zSc : Sc := ⟨0, [0, 0, 0, 0, 0]⟩
def sScOk (c : Cu) (t : Tr2) : Bool := sIn t.heat c.heat.lo c.heat.hi && decide ((t.loss.length : Int) = c.last + 1) && (List.range t.loss.length).all fun i => sIn (gi t.loss i) (gR c.loss i).lo (gR c.loss i).hi
def sScene (c : Cu) (t : Tr2) : Sc := if sScOk c t then ⟨t.heat, pad5 t.loss⟩ else zSc
theorem copy5 {l : List Int} (h : l.length ≤ 5) {a : V} : List.take l.length (cI l) ++ List.drop (1 + l.length) [a, vi 0, vi 0, vi 0, vi 0, vi 0] = cI (pad5 l) := by
  match l, h with
  | [], _ => rfl
  | [x], _ => rfl
  | [x, y], _ => rfl
  | [x, y, z], _ => rfl
  | [x, y, z, u], _ => rfl
  | [x, y, z, u, v], _ => rfl
set_option maxHeartbeats 2000000 in
theorem c_scene (c : Cu) (t : Tr2) (h0 : 0 ≤ c.last ∧ c.last ≤ 4) (hl : (c.loss.length : Int) = c.last + 1) (htl : (t.loss.length : Int) ≤ 1000000) :
    Pu Tryz.prog (.fn 114 [] []) [.agg c.cs, .agg t.cs] (.tup [.agg (sScene c t).cs, .bool (sScOk c t)]) := by
  refine Ev.fn Tryz.func114 rfl rfl (Fn.body tabOk Tryz.func114 rfl (Nat.le_of_ble_eq_true rfl) (Ks.ok (fz := (fzn [4])) (cl := (cln [(10, .d tg0 [cP, cL, cP, cP, cW])])) tabOk mixed ?_))
  generalize hQ : FnPost tt Tryz.f114 _ _ = Q
  simp only [Tryz.f114, List.nil_append, List.append_nil, argsEnv, Nat.reduceAdd]
  simp only [gos, eq_self, Nat.reduceLT, Nat.reduceEqDiff, Nat.reduceLeDiff, reduceCtorEq, reduceIte, ↓reduceIte, tt, vgo, vout, vguard, callOf, vop, ev, cv, vload, newRow, Tr2.cs]
  refine Cl.pu (c_has c.heat _) ?_
  cases h1 : sIn t.heat c.heat.lo c.heat.hi
  · simp only [gos, eq_self, Nat.reduceLT, Nat.reduceEqDiff, Nat.reduceAdd, reduceCtorEq, reduceIte, ↓reduceIte, tt, vgo, vout, vguard, callOf, vop, ev, cv, vload]
    subst hQ
    exact FnPost.plain trivial (fun h2 e => by first | rfl | (simp only [Tryz.f114, vres, vresL, vres1, e _, gos, eq_self, Nat.reduceLT, Nat.reduceEqDiff, Nat.reduceAdd, reduceCtorEq, reduceIte, ↓reduceIte, tt, vload]; try rfl)) (WkV.pure (by simp only [V.into, intoL, Bool.and_true])) ⟨by simp [sScene, sScOk, h1, zSc, Sc.cs, cI], rfl⟩
  simp only [gos, eq_self, Nat.reduceLT, Nat.reduceEqDiff, reduceCtorEq, reduceIte, ↓reduceIte, tt, vgo, vout, vguard, callOf, vop, ev, cv, vbin, vint, isShift, isNilConst, vload, vlen, vI, i64_in (show -9223372036854775808 ≤ c.last + 1 by omega) (show c.last + 1 ≤ 9223372036854775807 by omega)]
  by_cases h2 : (t.loss.length : Int) = c.last + 1
  case neg =>
    have hb : ((t.loss.length : Int) != c.last + 1) = true := by simp [h2]
    simp only [gos, eq_self, Nat.reduceLT, Nat.reduceEqDiff, Nat.reduceAdd, reduceCtorEq, reduceIte, ↓reduceIte, tt, vgo, vout, vguard, callOf, vop, ev, cv, vload, hb]
    subst hQ
    exact FnPost.plain trivial (fun h2 e => by first | rfl | (simp only [Tryz.f114, vres, vresL, vres1, e _, gos, eq_self, Nat.reduceLT, Nat.reduceEqDiff, Nat.reduceAdd, reduceCtorEq, reduceIte, ↓reduceIte, tt, vload]; try rfl)) (WkV.pure (by simp only [V.into, intoL, Bool.and_true])) ⟨by simp [sScene, sScOk, h2, zSc, Sc.cs, cI], rfl⟩
  have hb : ((t.loss.length : Int) != c.last + 1) = false := by simp [h2]
  simp only [gos, eq_self, Nat.reduceLT, Nat.reduceEqDiff, reduceCtorEq, reduceIte, ↓reduceIte, tt, vgo, vout, vguard, callOf, vop, ev, cv, vload, vlen, hb]
  refine W.loop tabOk mixed (fun i : Nat => ([(2, .rop c.cs), (3, .rop [vi t.heat, vI t.loss]), (25, vI t.loss), (26, vi t.loss.length), (27, vi i), (4, .ptr 4 0 0)], [(4, ⟨0, .row [vi 0, vi 0, vi 0, vi 0, vi 0, vi 0]⟩)])) (fun i => t.loss.length - i) (fun i => i ≤ t.loss.length ∧ ∀ j < i, sIn (gi t.loss j) (gR c.loss j).lo (gR c.loss j).hi = true) 0 ⟨by omega, by omega⟩ (Wk.env (by simp [subE, Env.get, vI])) ?_
  rintro i ⟨hi, hj⟩
  by_cases hil : (i : Int) < t.loss.length
  · have hil2 : (i : Int) < c.loss.length := by omega
    simp only [gos, eq_self, Nat.reduceLT, Nat.reduceEqDiff, reduceCtorEq, reduceIte, ↓reduceIte, tt, vgo, vout, vguard, callOf, vop, ev, vbin, vint, isShift, isNilConst, vload, vI, vR, hil, hil2, cI_at (Int.natCast_nonneg i) hil, cR_at (Int.natCast_nonneg i) hil2]
    refine Cl.pu (c_has (gR c.loss i) _) ?_
    cases h3 : sIn (gi t.loss i) (gR c.loss i).lo (gR c.loss i).hi
    · simp only [gos, eq_self, Nat.reduceLT, Nat.reduceEqDiff, Nat.reduceAdd, reduceCtorEq, reduceIte, ↓reduceIte, tt, vgo, vout, vguard, callOf, vop, ev, cv, vload]
      have hf : sScOk c t = false := by
        have := range_all_false (n := t.loss.length) (f := fun i => sIn (gi t.loss i) (gR c.loss i).lo (gR c.loss i).hi) (i := i) (by omega) h3
        simp [sScOk, this]
      subst hQ
      exact FnPost.plain trivial (fun h2 e => by first | rfl | (simp only [Tryz.f114, vres, vresL, vres1, e _, gos, eq_self, Nat.reduceLT, Nat.reduceEqDiff, Nat.reduceAdd, reduceCtorEq, reduceIte, ↓reduceIte, tt, vload]; try rfl)) (WkV.pure (by simp only [V.into, intoL, Bool.and_true])) ⟨by simp [sScene, hf, zSc, Sc.cs, cI], rfl⟩
    · simp only [gos, eq_self, Nat.reduceLT, Nat.reduceEqDiff, reduceIte, ↓reduceIte, vgo, vout, vguard, callOf, vop, ev, cv, vbin, vint, isShift, isNilConst]
      refine Nx.mk (i + 1) (show t.loss.length - (i + 1) < t.loss.length - i by omega) ⟨by omega, fun j hlt => ?_⟩ (Wk.env (by simp [subE, Env.get, i64_succ (show (i : Int) < 9223372036854775807 by omega)]))
      rcases Nat.lt_or_eq_of_le (Nat.le_of_lt_succ hlt) with h | rfl
      · exact hj j h
      · exact h3
  · have hok : sScOk c t = true := by
      have := range_all_true (n := t.loss.length) (f := fun i => sIn (gi t.loss i) (gR c.loss i).lo (gR c.loss i).hi) fun j hlt => hj j (by omega)
      simp [sScOk, this, h1, h2]
    simp only [gos, eq_self, Nat.reduceLT, Nat.reduceEqDiff, Nat.reduceAdd, Nat.reduceLeDiff, reduceCtorEq, reduceIte, ↓reduceIte, tt, vgo, vout, vguard, callOf, vop, ev, vbin, vint, isShift, isNilConst, vload, vI, hil]
    refine Wr.draw (by kernel_rfl) ?_
    have hn : t.loss.length ≤ 5 := by omega
    have hp5 : (pad5 t.loss).length = 5 := by simp [pad5]; omega
    have ht5 : List.take 5 (cI (pad5 t.loss)) = cI (pad5 t.loss) := List.take_of_length_le (by rw [cI_len]; omega)
    have hd5 : List.drop 5 (cI (pad5 t.loss)) = [] := List.drop_eq_nil_of_le (by rw [cI_len]; omega)
    simp only [gos, eq_self, Nat.reduceLT, Nat.reduceEqDiff, Nat.reduceAdd, reduceCtorEq, reduceIte, ↓reduceIte, tt, vgo, vout, vgoD, voutD, vclsOk, vids, mayWrite, V.ids, vguard, callOf, vop, ev, cv, vload, vslice, entOf, srcOf, vcopy, clsAt, cI_len, Nat.mul_one, cI_one, Nat.min_eq_left hn, copy5 hn, hp5, ht5, hd5]
    subst hQ
    have hres : sScene c t = ⟨t.heat, pad5 t.loss⟩ := by simp [sScene, hok]
    exact FnPost.plain trivial (v := .tup [.agg (vi t.heat :: cI (pad5 t.loss)), .bool true]) (fun h2 e => by simp only [Tryz.f114, vres, vresL, vres1, e _, gos, eq_self, Nat.reduceLT, Nat.reduceEqDiff, Nat.reduceAdd, reduceCtorEq, reduceIte, ↓reduceIte, tt, vload, cI_len, hp5, ht5]) (WkV.pure (by simp only [V.into, intoL, cI_into, Bool.and_true])) ⟨by rw [hres, hok]; rfl, rfl⟩
end Go.Vm

set_option linter.unusedVariables false
set_option linter.unusedSimpArgs false
set_option maxRecDepth 100000
namespace Go.Vm
open Go.Proofs
theorem scOk_of {c : Cu} (k : CuOk c) {t : Tr2} (h : sScOk c t = true) : ScOk c (sScene c t) := by
  have hs : sScene c t = ⟨t.heat, pad5 t.loss⟩ := by simp [sScene, h]
  simp only [sScOk, Bool.and_eq_true, decide_eq_true_eq, List.all_eq_true, List.mem_range, sIn] at h
  obtain ⟨⟨h1, h2⟩, h3⟩ := h
  have hh := k.heat
  simp only [sInside, Bool.and_eq_true, decide_eq_true_eq] at hh
  have hl := k.last
  rw [hs]
  refine ⟨by simp only; omega, by simp [pad5]; omega, fun x hx => ?_⟩
  simp only [pad5, List.mem_append] at hx
  rcases hx with hx | hx
  · obtain ⟨i, hi, rfl⟩ := List.mem_iff_getElem.1 hx
    have h4 := h3 i hi
    have h5 := k.loss.2 _ (List.mem_of_getElem? (gR_get (l := c.loss) (i := i) (by have := k.loss.1; omega)))
    simp only [sInside, Bool.and_eq_true, decide_eq_true_eq] at h5
    have h6 : gi t.loss i = t.loss[i] := by rw [gi, Int.toNat_natCast, List.getD_eq_getElem?_getD, List.getElem?_eq_getElem hi]; rfl
    rw [h6] at h4
    omega
  · rw [List.mem_replicate] at hx; omega
end Go.Vm

set_option linter.unusedVariables false
set_option linter.unusedSimpArgs false
set_option maxRecDepth 100000
namespace Go.Vm
open Go.Proofs
/-- Play's answer: the lists, and the error. -/
def sPlayA (c : Cu) (t : Tr2) : List Int × List Int × Int :=
  if sCheck c ≠ 0 then ([], [], sCheck c) else if sScOk c t then ((sPast c c.coal c.want (sScene c t)).hot, (sPast c c.coal c.want (sScene c t)).left, 0) else ([], [], 2)
set_option maxHeartbeats 2000000 in
theorem c_Play (c : Cu) (t : Tr2) (hc : c.wf) (htl : (t.loss.length : Int) ≤ 1000000) : Pu Tryz.prog (.fn 70 [] []) [.agg c.cs, .agg t.cs] (.tup [vI (sPlayA c t).1, vI (sPlayA c t).2.1, vi (sPlayA c t).2.2]) := by
  refine Ev.fn Tryz.func70 rfl rfl (Fn.body tabOk Tryz.func70 rfl (Nat.le_of_ble_eq_true rfl) (Ks.ok (fz := (fzn [8, 10])) (cl := (cln [(8, .d tg0 [cP, cL, cP, cL, cP, cP, cP])])) tabOk mixed ?_))
  generalize hQ : FnPost tt Tryz.f70 _ _ = Q
  simp only [Tryz.f70, List.nil_append, List.append_nil, argsEnv, Nat.reduceAdd]
  have hts : t.cs.take 2 = t.cs := rfl
  have htn : t.cs.length = 2 := rfl
  simp only [gos, eq_self, Nat.reduceLT, Nat.reduceEqDiff, reduceCtorEq, reduceIte, ↓reduceIte, tt, vgo, vout, vguard, callOf, vop, ev, cv, vload, newRow]
  refine Cl.pu (c_Check c hc) ?_ rfl (by simp only [V.into, intoL, cu_into, Bool.and_true])
  by_cases h0 : sCheck c = 0
  case neg =>
    have hb : (sCheck c != 0) = true := by simp [h0]
    simp only [gos, eq_self, Nat.reduceLT, Nat.reduceEqDiff, reduceIte, ↓reduceIte, vgo, vout, vguard, callOf, vop, ev, cv, vbin, vint, isShift, isNilConst, hb]
    subst hQ
    have hr : sPlayA c t = ([], [], sCheck c) := by simp [sPlayA, h0]
    rw [hr]
    exact FnPost.plain trivial (v := .tup [.sl0, .sl0, vi (sCheck c)]) (fun h2 e => by rfl) (WkV.nil2 rfl) ⟨rfl, rfl⟩
  have hb : (sCheck c != 0) = false := by simp [h0]
  have k := sCheck_ok h0
  simp only [gos, eq_self, Nat.reduceLT, Nat.reduceEqDiff, reduceCtorEq, reduceIte, ↓reduceIte, tt, vgo, vout, vguard, callOf, vop, ev, cv, vbin, vint, isShift, isNilConst, vload, hb, hts, htn]
  refine Cl.pu (c_scene c t k.last k.loss.1 htl) ?_ rfl (by simp only [V.into, intoL, vI_into, cu_into, Bool.and_true, Tr2.cs])
  cases h1 : sScOk c t
  · have hz : (sScene c t) = zSc := by simp [sScene, h1]
    simp only [gos, eq_self, Nat.reduceLT, Nat.reduceEqDiff, Nat.reduceAdd, reduceCtorEq, reduceIte, ↓reduceIte, tt, vgo, vout, vguard, callOf, vop, ev, cv, newRow, hz, zSc, Sc.cs, cI]
    subst hQ
    have hr : sPlayA c t = ([], [], 2) := by simp [sPlayA, h0, h1]
    rw [hr]
    exact FnPost.plain trivial (v := .tup [.sl0, .sl0, vi 2]) (fun h2 e => by rfl) (WkV.trans (WkV.pure rfl) (WkV.nil2 rfl)) ⟨rfl, rfl⟩
  have ks := scOk_of k h1
  have hr : sPlayA c t = ((sPast c c.coal c.want (sScene c t)).hot, (sPast c c.coal c.want (sScene c t)).left, 0) := by simp [sPlayA, h0, h1]
  rw [hr] at hQ
  generalize hsc : sScene c t = s at ks hQ ⊢
  have hs5 : (cI s.loss).length = 5 := by rw [cI_len]; exact ks.loss.1
  have ht5 : List.take 5 (cI s.loss) = cI s.loss := List.take_of_length_le (by omega)
  have hd5 : List.drop 5 (cI s.loss) = [] := List.drop_eq_nil_of_le (by omega)
  simp only [gos, eq_self, Nat.reduceLT, Nat.reduceEqDiff, Nat.reduceAdd, reduceCtorEq, reduceIte, ↓reduceIte, tt, vgo, vout, vguard, callOf, vop, ev, vload, newRow, Sc.cs, hs5, ht5, cI_one]
  refine Cl.pu (c_play c s c.coal c.want (k.play0 ks)) ?_ rfl (by simp only [V.into, intoL, cI_into, vI_into, cu_into, Bool.and_true])
  simp only [gos, eq_self, Nat.reduceLT, Nat.reduceEqDiff, Nat.reduceAdd, reduceCtorEq, reduceIte, ↓reduceIte, tt, vgo, vout, vguard, callOf, vop, ev, newRow]
  refine Wr.draw (by kernel_rfl) ?_
  simp only [gos, eq_self, Nat.reduceLT, Nat.reduceEqDiff, Nat.reduceAdd, reduceCtorEq, reduceIte, ↓reduceIte, tt, vgoD, voutD, vclsOk, vids, mayWrite, V.ids, vguard, callOf, vop, ev, cv, vload, clsAt]
  subst hQ
  exact FnPost.plain trivial (fun h2 e => by first | rfl | (simp only [Tryz.f70, vres, vresL, vres1, e _, gos, if_true, if_false, ne_eq, eq_self, Nat.reduceLT, Nat.reduceEqDiff, Nat.reduceAdd, Nat.reduceMul, Nat.reduceLeDiff, Nat.reduceBEq, reduceCtorEq, reduceIte, Array.toList, ↓reduceIte, tt, vgo, vout, vgoD, voutD, vclsOk, vids, mayWrite, V.ids, V.mids, vguard, callOf, vop, ev, cv, vbin, vint, isShift, isNilConst, vnil, isNilSlice, vload, vlen, newRow, vfill, vslice, entOf, vappend, srcOf, vcopy, vlookup, vupdate, mapOk, keyOf, intsOf, clsAt]; try rfl)) (WkV.pure (by simp only [V.into, intoL, vI_into, Bool.and_true])) ⟨rfl, rfl⟩
end Go.Vm

set_option linter.unusedVariables false
set_option linter.unusedSimpArgs false
set_option maxRecDepth 100000
namespace Go.Vm
open Go.Proofs Go.ChangeShapes Go.WideShapes Go.ChangeAt Go.RowKit
/-! ### from a contract to the row -/
theorem hrel0 (w : World) : HRel (gh0 w) [] w :=
  ⟨fun B o v e => e, fun i e he => (by cases he), fun i j e e' B c c' he => (by cases he), fun i e B c o he => (by cases he), fun i v h => absurd rfl h⟩
theorem calls_of_fn {P : Program} {f : FuncId} {vs : List V} {xs : List Value} {w : World} (c : Fn P f vs [] fun v h' => v = .bool true) (hv : VRL (gh0 w) vs xs) :
    Calls P f xs.toArray w fun e w' => e = .returned (.bool true) ∧ Below w.heap.size w w' := fun cs => by
  obtain ⟨v, h', vc, g', w', fr, rfl, st, hf, hl, hvc, H', t, le⟩ := c (gh0 w) w xs hv (hrel0 w) cs
  simp only [VR] at hvc
  subst hvc
  exact ⟨.returned (.bool true), w', fr, ⟨rfl, t.os, t.tape, t.output, t.size, fun k hk => t.mods k hk (by rintro ⟨i, e, c, he, _⟩; cases he)⟩, st, hf, hl⟩
section
variable {H : Type} {enc : TypeId × Value → H} {P : Program} {w : World} {base : Nat} {spare : Nat → Bool} {held : Bool} {fuel : Nat} {t : TypeId} {cs : List Value} {x : DataW H × List MemPlace}
end
section
variable {H : Type} {enc : TypeId × Value → H} {w : World} {base : Nat} {spare : Nat → Bool} {held : Bool} {fuel : Nat} {cs : List Value} {x : DataW H × List MemPlace}
end
end Go.Vm

set_option linter.unusedVariables false
set_option linter.unusedSimpArgs false
set_option maxRecDepth 100000
namespace Go.Vm
open Go.Proofs Go.ChangeShapes Go.WideShapes Go.ChangeAt Go.RowKit
section
variable {H : Type} {enc : TypeId × Value → H} {w : World} {base : Nat} {spare : Nat → Bool} {held : Bool} {fuel : Nat} {cs : List Value} {x : DataW H × List MemPlace}
theorem rd_u16 (h : DataW.trod enc Tryz.prog w base spare held fuel 77 cs = some x) : ∃ n : Int, (0 ≤ n ∧ n ≤ 65535) ∧ VRL (gh0 w) [.int .u16 n] cs := by
  obtain ⟨n, rfl, _, h2⟩ := DataW.trod_int Tryz.underlying77 h
  exact ⟨n, bounds_u16 h2, VRL.cons (by simp only [VR]) VRL.nil⟩
theorem rd_words (h : DataW.trod enc Tryz.prog w base spare held fuel 86 cs = some x) : ∃ l : List Int, (∀ n ∈ l, 0 ≤ n ∧ n ≤ 65535) ∧ VRL (gh0 w) [vW l] cs := by
  obtain ⟨l, h1, h2, h3⟩ := rd_slice (fun n : Int => [V.int .u16 n]) (fun n => 0 ≤ n ∧ n ≤ 65535) 1 Tryz.underlying86 (by kernel_rfl) (by omega) (fun _ => rfl) h fun n cs x h => rd_u16 h
  have e : l.flatMap (fun n : Int => [V.int .u16 n]) = cW16 l := by
    clear h1 h2 h3
    induction l with
    | nil => rfl
    | cons y l ih => simp only [List.flatMap_cons, cW16, List.map_cons, List.singleton_append] at ih ⊢; rw [ih]
  rw [e] at h3
  exact ⟨l, h1, h3⟩
end
end Go.Vm

set_option linter.unusedVariables false
set_option linter.unusedSimpArgs false
set_option maxRecDepth 100000
namespace Go.Vm
open Go.Proofs
/-! ### the reference: all truths -/
def gT (l : List Tr2) (n : Int) : Tr2 := l.getD n.toNat ⟨0, []⟩
theorem cT_drop : ∀ (l : List Tr2) (i : Nat), (cT l).drop (i * 2) = cT (l.drop i)
  | l, 0 => by simp
  | [], i + 1 => by simp [cT]
  | r :: l, i + 1 => by rw [show (i + 1) * 2 = i * 2 + 1 + 1 by omega]; simp [cT, cT_drop l i]
theorem gT_drop {l : List Tr2} {n : Int} (h0 : 0 ≤ n) (h1 : n < l.length) : l.drop n.toNat = gT l n :: l.drop (n.toNat + 1) := by
  have : n.toNat < l.length := by omega
  rw [List.drop_eq_getElem_cons this, gT, List.getD_eq_getElem?_getD, List.getElem?_eq_getElem this]; rfl
theorem cT_at {l : List Tr2} {n : Int} (h0 : 0 ≤ n) (h1 : n < l.length) : (cT l).drop (n.toNat * 2) = vi (gT l n).heat :: vI (gT l n).loss :: cT (l.drop (n.toNat + 1)) := by
  rw [cT_drop, gT_drop h0 h1]; rfl
theorem gT_get {l : List Tr2} {i : Nat} (h : (i : Int) < l.length) : l[i]? = some (gT l i) := by
  have : i < l.length := by omega
  rw [gT, Int.toNat_natCast, List.getD_eq_getElem?_getD, List.getElem?_eq_getElem this]; rfl
end Go.Vm

set_option linter.unusedVariables false
set_option linter.unusedSimpArgs false
set_option maxRecDepth 100000
namespace Go.Vm
open Go.Proofs
theorem c_lTruth (t : Tr2) (hl : (t.loss.length : Int) ≤ 1000000) : Pu Tryz.prog (.fn 71 [] []) [.agg t.cs] (.agg t.cs) := by
  refine Ev.fn Tryz.func71 rfl rfl (Fn.body tabOk Tryz.func71 rfl (Nat.le_of_ble_eq_true rfl) (Ks.ok (fz := (fzn [2])) (cl := (cln [(1, .d tg0 [cP, cP, cP, cP, cP, cP, cW])])) tabOk mixed ?_))
  generalize hQ : FnPost tt Tryz.f71 _ _ = Q
  simp only [Tryz.f71, List.nil_append, List.append_nil, argsEnv]
  simp only [gos, eq_self, Nat.reduceLT, Nat.reduceEqDiff, reduceCtorEq, reduceIte, ↓reduceIte, tt, vgo, vout, vguard, callOf, vop, ev, newRow, Tr2.cs]
  refine Wr.draw (by kernel_rfl) ?_
  simp only [gos, eq_self, Nat.reduceLT, Nat.reduceEqDiff, Nat.reduceAdd, reduceCtorEq, reduceIte, ↓reduceIte, tt, vgoD, voutD, vclsOk, vids, mayWrite, V.ids, vguard, callOf, vop, ev, vload, clsAt]
  refine CD.pu (c_list t.loss hl) ?_ rfl (by simp only [intoL, vI_into, Bool.and_true])
  simp only [gos, eq_self, Nat.reduceLT, Nat.reduceEqDiff, Nat.reduceAdd, Nat.reduceLeDiff, reduceCtorEq, reduceIte, ↓reduceIte, tt, vgoD, voutD, vclsOk, vids, mayWrite, V.ids, vguard, callOf, vop, ev, vfill]
  subst hQ
  exact FnPost.plain trivial (v := .agg [vi t.heat, vI t.loss]) (fun h2 e => by simp only [Tryz.f71, vres, vresL, vres1, gos, eq_self, Nat.reduceLT, Nat.reduceEqDiff, Nat.reduceAdd, reduceCtorEq, reduceIte, ↓reduceIte, tt, vload, e _]) (WkV.pure (by simp only [V.into, intoL, vI_into, Bool.and_true])) ⟨rfl, rfl⟩
end Go.Vm

set_option linter.unusedVariables false
set_option linter.unusedSimpArgs false
set_option maxRecDepth 100000
namespace Go.Vm
open Go.Proofs
/-! ### the reference: is an argument a truth? -/
theorem t2ok_of {c : Cu} (k0 : CuOk c) {t : Tr2} (h : sScOk c t = true) : T2Ok c t ∧ sScene c t = tS t := by
  have e : sScene c t = tS t := by rw [sScene, if_pos h]; rfl
  have h1 := scOk_of k0 h
  rw [e] at h1
  simp only [sScOk, Bool.and_eq_true, decide_eq_true_eq] at h
  exact ⟨⟨h1, h.1.2⟩, e⟩
end Go.Vm

set_option linter.unusedVariables false
set_option linter.unusedSimpArgs false
set_option maxRecDepth 100000
namespace Go.Vm
/-! ### plain laws of one truth -/
theorem listed_sc {c : Cu} (k : CuOk c) {t : Tr2} : sScOk c t = true ↔ Listed c t := by
  have h1 := k.loss.1; have h2 := k.last
  simp only [sScOk, Bool.and_eq_true, decide_eq_true_eq, List.all_eq_true, List.mem_range, sIn]
  constructor
  · rintro ⟨⟨a, b⟩, d⟩
    exact ⟨a, by omega, fun i hi => d i (by omega)⟩
  · rintro ⟨a, b, d⟩
    exact ⟨⟨a, by omega⟩, fun i hi => d i (by omega)⟩
end Go.Vm

set_option linter.unusedVariables false
set_option linter.unusedSimpArgs false
set_option maxRecDepth 100000
namespace Go.Vm
/-! ### lists that are changed in some places -/
theorem past_lens {c : Cu} {coal want : List Int} {s : Sc} (k : PlayOk c s coal want) : ((sPast c coal want s).hot.length : Int) = c.last + 1 ∧ ((sPast c coal want s).left.length : Int) = c.last + 1 := by
  have hl := k.last
  obtain ⟨_, _, h1, h2, _⟩ := sPlay_inv k (c.last + 1).toNat (by omega)
  simp only [sPast]
  omega
theorem vW_into (p : Nat → Bool) (l : List Int) : (vW l).into p = true := by simp only [vW, V.into]; exact cW16_into p l
end Go.Vm

set_option linter.unusedVariables false
set_option linter.unusedSimpArgs false
set_option maxRecDepth 100000
namespace Go.Vm
/-! ### fewer promises, more coal -/
theorem wholes_two {c : Cu} {l : List Tr2} {coal want : List Int} (hne : l ≠ []) : rWholes c l coal want = 2 ↔ ∀ t ∈ l, wholeI c coal want t = false := by
  have e : (∀ t ∈ l, wholeI c coal want t = false) ↔ l.any (fun t => wholeI c coal want t) = false := by
    rw [List.any_eq_false]
    exact ⟨fun h t ht => by simp [h t ht], fun h t ht => by simpa using h t ht⟩
  rw [rWholes, rVerdict_count _ hne, e]
  by_cases h1 : (l.all fun t => wholeI c coal want t) = true
  · obtain ⟨x, hx⟩ := List.exists_mem_of_ne_nil _ hne
    have h2 : (l.any fun t => wholeI c coal want t) = true := List.any_eq_true.2 ⟨x, hx, List.all_eq_true.1 h1 x hx⟩
    simp [h1, h2]
  · rw [Bool.not_eq_true] at h1
    rw [h1]
    cases l.any fun t => wholeI c coal want t <;> simp
end Go.Vm

set_option linter.unusedVariables false
set_option linter.unusedSimpArgs false
set_option maxRecDepth 100000
namespace Go.Vm
open Go.Proofs
theorem all_snoc (f : Nat → Bool) (n : Nat) : (List.range (n + 1)).all f = ((List.range n).all f && f n) := by rw [List.range_succ, List.all_append]; simp
set_option maxHeartbeats 8000000 in
theorem l_BathTruth (r : Rm) (hl : I64 r.cu.last) (words : List Int) (hw : ∀ x ∈ words, 0 ≤ x ∧ x ≤ 65535) (which : Int) (hwh : 0 ≤ which ∧ which ≤ 65535) :
    Vm.Fn Tryz.prog 19 [.agg r.cs, vW words, .int .u16 which] [] fun v h' => v = .bool true := by
  refine Fn.body tabOk Tryz.func19 rfl (Nat.le_of_ble_eq_true rfl) (Ks.ok (fz := (fzn [13, 14])) (cl := (cln [(14, .d tg0 [cL, cP, cL, cP, cP, cP, cP, cP, cP, cP, cP, cP]), (21, .d tg0 [cP, cP, cP, cP, cP, cP, cP, cL, cP, cP, cP, cP, cP, cP])])) tabOk mixed ?_)
  generalize hQ : FnPost tt Tryz.f19 _ _ = Q
  simp only [Tryz.f19, argsEnv, Nat.reduceAdd]
  simp only [gos, eq_self, Nat.reduceLT, Nat.reduceEqDiff, reduceCtorEq, reduceIte, ↓reduceIte, tt, vgo, vout, vguard, callOf, vop, ev, cv, vload, newRow, rms]
  refine Cl.pu (c_ready9 r hl) ?_ rfl (by simp only [V.into, intoL, Bool.and_true, rm_into])
  cases hrd : sReadyR r with
  | false =>
    simp only [gos, eq_self, Nat.reduceLT, Nat.reduceEqDiff, reduceIte, ↓reduceIte, vgo, vout, vguard, callOf, vop, ev]
    refine Cl.pu c_awake9 ?_
    simp only [gos, eq_self, Nat.reduceLT, reduceIte, ↓reduceIte, vgo, vout, vguard, callOf, vop, ev]
    subst hQ
    exact FnPost.plain trivial (v := .bool true) (fun h2 e => by rfl) WkV.refl rfl
  | true =>
    obtain ⟨hr, h0, k, hb4, hp3⟩ := ready9_ok hl hrd
    have k0 := k.A.k0
    have hla := k0.last
    have hcl := chosen_len r words
    have ha := chosen_are k hw
    have hp : ((sChosen r words).length : Int) ≤ 1000000 := by omega
    simp only [gos, eq_self, Nat.reduceLT, Nat.reduceEqDiff, reduceCtorEq, reduceIte, ↓reduceIte, tt, vgo, vout, vguard, callOf, vop, ev, vload, rms]
    refine Cl.pu (c_Chosen r k words hw) ?_ rfl (by simp only [V.into, intoL, Bool.and_true, rm_into, vW_into])
    generalize sChosen r words = plan at hcl ha hp ⊢
    simp only [gos, eq_self, Nat.reduceLT, Nat.reduceEqDiff, reduceCtorEq, reduceIte, ↓reduceIte, tt, vgo, vout, vguard, callOf, vop, ev, vload, rms]
    refine Cl.pu (c_Room r hr) ?_ rfl (by simp only [V.into, intoL, Bool.and_true, rm_into])
    simp only [gos, eq_self, Nat.reduceLT, Nat.reduceEqDiff, reduceIte, ↓reduceIte, vgo, vout, vguard, callOf, vop, ev]
    refine Cl.pu (c_list9 plan hp) ?_ rfl (by simp only [intoL, vI_into, Bool.and_true])
    simp only [gos, eq_self, Nat.reduceLT, Nat.reduceEqDiff, reduceIte, ↓reduceIte, vgo, vout, vguard, callOf, ev]
    refine Cl.pu (c_bKeeps r hr plan hp) ?_ rfl (by simp only [V.into, intoL, vI_into, Bool.and_true, rm_into])
    simp only [gos, eq_self, Nat.reduceLT, Nat.reduceEqDiff, reduceCtorEq, reduceIte, ↓reduceIte, tt, vgo, vout, vguard, callOf, vop, ev, vload, rms]
    refine Cl.pu (c_Room r hr) ?_ rfl (by simp only [V.into, intoL, Bool.and_true, rm_into])
    simp only [gos, eq_self, Nat.reduceLT, Nat.reduceEqDiff, reduceIte, ↓reduceIte, vgo, vout, vguard, callOf, vop, ev]
    refine Cl.pu (c_list9 plan hp) ?_ rfl (by simp only [intoL, vI_into, Bool.and_true])
    simp only [gos, eq_self, Nat.reduceLT, Nat.reduceEqDiff, reduceIte, ↓reduceIte, vgo, vout, vguard, callOf, ev]
    refine Cl.pu (c_bPlay r hr plan hp) ?_ rfl (by simp only [V.into, intoL, vI_into, Bool.and_true, rm_into])
    have hpt := planned_two h0 ha
    have z0 : ((0 : Int) != 0) = false := rfl
    have z9 : ((9 : Int) != 0) = true := rfl
    have z99 : decide ((9 : Int) = 9) = true := rfl
    cases hpo : sPossN r (cntN plan) with
    | false =>
      rw [hpo] at hpt
      have hpt : sPlanned r plan true = 9 := hpt
      have e1 : sKeepsR r plan = (0, 9) := by rw [sKeepsR, hpt]; rfl
      have e2 : sPlayR r plan = ([], 9) := by rw [sPlayR, hpt]; rfl
      rw [e1, e2]
      simp only [gos, eq_self, Nat.reduceLT, Nat.reduceEqDiff, reduceIte, ↓reduceIte, vgo, vout, vguard, callOf, vop, ev, cv, vbin, vint, isShift, isNilConst, z9]
      refine Cl.pu c_awake9 ?_
      simp only [gos, eq_self, Nat.reduceLT, Nat.reduceEqDiff, reduceIte, ↓reduceIte, vgo, vout, vguard, callOf, vop, ev]
      subst hQ
      exact FnPost.plain trivial (v := .bool true) (fun h2 e => by rfl) WkV.refl rfl
    | true =>
      rw [hpo] at hpt
      have hpt : sPlanned r plan true = 0 := hpt
      obtain ⟨_, _, _, _, hin, hnk⟩ := planned_ok hpt
      have h00 : ∀ i : Nat, (i : Int) ≤ r.cu.last → 0 ≤ gi (cntN plan) i := fun i _ => (num_same k hin i).2
      have e1 : sKeepsR r plan = (keV r (cntN plan), 0) := by rw [sKeepsR, hpt]; rfl
      have e2 : sPlayR r plan = (nb r (cntN plan), 0) := by rw [sPlayR, hpt]; rfl
      have hkv := keV_eq k h00 hpo
      have hxl := nb_len k (cntN plan)
      have hwx := addL_poss k h00 hpo
      have hwi := wholes_in r.cu (rTruths r.cu) r.cu.coal (addL r.cu.want (nb r (cntN plan)))
      rw [← hkv] at hwi
      have hone1 := wholes_one (c := r.cu) (coal := r.cu.coal) (want := addL r.cu.want (nb r (cntN plan))) k.ne
      have htwo := wholes_two (c := r.cu) (coal := r.cu.coal) (want := addL r.cu.want (nb r (cntN plan))) k.ne
      rw [← hkv] at hone1 htwo
      have hsumb : ∀ i : Nat, i < r.cu.want.length → -1000000 ≤ gi r.cu.want i + gi (nb r (cntN plan)) i ∧ gi r.cu.want i + gi (nb r (cntN plan)) i ≤ 1000000 := fun i hi => by
        have h1 := hwx _ (gi_mem (l := addL r.cu.want (nb r (cntN plan))) (i := i) (by rw [addL_len']; exact hi))
        rw [addL_gi hi] at h1
        omega
      rw [e1, e2]
      generalize hX : nb r (cntN plan) = X at *
      generalize hV : keV r (cntN plan) = V1 at *
      have hne := k.ne
      have hTl : (rTruths r.cu).length ≤ 2000 := by have := rTr_len r.cu (rMany r.cu).toNat; have := rMany_le k0; simp only [rTruths]; omega
      have hTp := List.length_pos_iff.2 hne
      have hm : which.tmod ((rTruths r.cu).length : Int) = ((which.toNat % (rTruths r.cu).length : Nat) : Int) := by
        rw [Int.tmod_eq_emod_of_nonneg (by omega)]
        obtain ⟨n, rfl⟩ : ∃ n : Nat, which = (n : Int) := ⟨which.toNat, by omega⟩
        rw [Int.toNat_natCast]; rfl
      have hmlt := Nat.mod_lt which.toNat hTp
      generalize hj : which.toNat % (rTruths r.cu).length = j at hm hmlt
      have hjl : (j : Int) < (rTruths r.cu).length := by omega
      have ht : gT (rTruths r.cu) j ∈ rTruths r.cu := List.mem_of_getElem? (gT_get hjl)
      have hT2 : T2Ok r.cu (gT (rTruths r.cu) j) := rTr_ok k0 _ _ ht
      have hLi := ((mem_rTruths' k0 _).1 ht).1
      have hat := cT_at (Int.natCast_nonneg j) hjl
      rw [Int.toNat_natCast] at hat
      generalize hT : gT (rTruths r.cu) j = t at *
      have zT : ¬ ((rTruths r.cu).length : Int) = 0 := by omega
      have wW := i64_in (show -9223372036854775808 ≤ which by omega) (show which ≤ 9223372036854775807 by omega)
      have wL := i64_in (show -9223372036854775808 ≤ r.cu.last + 1 by omega) (show r.cu.last + 1 ≤ 9223372036854775807 by omega)
      have hone : oneL r.cu.cs = true := rfl
      have hXn : ((X.length : Int) != r.cu.last + 1) = false := by rw [bne_eq_false_iff_eq]; exact hxl
      have h6 : (List.drop 6 r.cu.cs).head? = some (vI r.cu.want) := rfl
      simp only [gos, eq_self, Nat.reduceLT, Nat.reduceEqDiff, Nat.reduceLeDiff, reduceCtorEq, reduceIte, ↓reduceIte, tt, vgo, vout, vguard, callOf, vop, ev, cv, vbin, vint, isShift, isNilConst, vload, rms]
      refine Cl.pu (c_rTruths r.cu k0) ?_ rfl (by simp only [V.into, intoL, cu_into, Bool.and_true])
      simp only [gos, eq_self, Nat.reduceLT, Nat.reduceEqDiff, Nat.reduceAdd, Nat.reduceLeDiff, reduceCtorEq, reduceIte, ↓reduceIte, tt, vgo, vout, vguard, callOf, vop, ev, cv, vbin, vint, isShift, isNilConst, vload, vlen, newRow, vT, wW, zT, hm, hjl, hat, Int.natCast_nonneg, Int.toNat_natCast, vI, hXn, wL, rms, hone]
      simp only [Cu.cs]
      refine Cl.pu (c_rSum r.cu.want X (by have := k0.want.1; omega) (by have := k0.want.1; omega) hsumb) ?_ rfl (by simp only [V.into, intoL, cI_into, Bool.and_true])
      have kx := cuW_ok k0 (w := addL r.cu.want X) (by rw [addL_len']; exact k0.want.1) hwx
      have hsl := (listed_sc kx).2 (show Listed (cuW r.cu (addL r.cu.want X)) t from ⟨hLi.heat, hLi.len, hLi.loss⟩)
      obtain ⟨T1, E1⟩ := t2ok_of kx hsl
      have hpl : sPlayA (cuW r.cu (addL r.cu.want X)) t = ((sPast (cuW r.cu (addL r.cu.want X)) r.cu.coal (addL r.cu.want X) (tS t)).hot, (sPast (cuW r.cu (addL r.cu.want X)) r.cu.coal (addL r.cu.want X) (tS t)).left, 0) := by
        simp [sPlayA, chk_of kx, hsl, E1]; exact ⟨rfl, rfl⟩
      have hlen : ((sPast (cuW r.cu (addL r.cu.want X)) r.cu.coal (addL r.cu.want X) (tS t)).hot.length : Int) = r.cu.last + 1 := (past_lens (T1.tr kx).play).1
      have hht : ∀ i : Nat, (i : Int) ≤ r.cu.last → gi (sPast (cuW r.cu (addL r.cu.want X)) r.cu.coal (addL r.cu.want X) (tS t)).hot i = (sHeat r.cu (tS t) r.cu.coal (addL r.cu.want X) i).tdiv r.cu.per := fun i hi => by
        rw [past_hot _ _ _ (show (i : Int) ≤ (cuW r.cu (addL r.cu.want X)).last from hi), sHeat_cu r.cu (cuW r.cu (addL r.cu.want X)) rfl rfl rfl]; rfl
      have hwl := whole_loop hht hla.1
      have hll : (t.loss.length : Int) ≤ 1000000 := by have := hLi.len; have := k0.loss.1; omega
      simp only [gos, eq_self, Nat.reduceLT, Nat.reduceEqDiff, Nat.reduceAdd, Nat.reduceLeDiff, reduceCtorEq, reduceIte, ↓reduceIte, tt, vgo, vout, vguard, callOf, vop, ev, cv, vI]
      refine Wr.draw (by kernel_rfl) ?_
      simp only [gos, eq_self, Nat.reduceLT, Nat.reduceEqDiff, Nat.reduceAdd, reduceCtorEq, reduceIte, ↓reduceIte, tt, vgoD, voutD, vclsOk, vids, mayWrite, V.ids, vguard, callOf, vop, ev, vload, clsAt]
      refine CD.impR (cs := [.agg (cuW r.cu (addL r.cu.want X)).cs]) ⟨impRd, trivial⟩ (c_lCopper (cuW r.cu (addL r.cu.want X)) kx.wf) ?_ rfl (by simp only [V.into, intoL, cI_into, vR_into, Bool.and_true])
      simp only [gos, eq_self, Nat.reduceLT, Nat.reduceEqDiff, Nat.reduceAdd, reduceCtorEq, reduceIte, ↓reduceIte, tt, vgoD, voutD, vclsOk, vids, mayWrite, V.ids, vguard, callOf, vop, ev, vload]
      refine CD.pu (c_lTruth t hll) ?_ rfl (by simp only [V.into, intoL, cI_into, Bool.and_true])
      simp only [gos, eq_self, Nat.reduceLT, Nat.reduceEqDiff, reduceIte, ↓reduceIte, vgoD, voutD, vguard, callOf, ev]
      refine CD.pu (c_Play (cuW r.cu (addL r.cu.want X)) t kx.wf hll) ?_ rfl (by simp only [V.into, intoL, vI_into, cu_into, Bool.and_true, Tr2.cs])
      rw [hpl]
      generalize hH : (sPast (cuW r.cu (addL r.cu.want X)) r.cu.coal (addL r.cu.want X) (tS t)).hot = H1 at *
      have hlen2 : (H1.length : Int) = r.cu.last + 1 := hlen
      have hXl : ((H1.length : Int) != (X.length : Int)) = false := by rw [bne_eq_false_iff_eq]; omega
      simp only [gos, eq_self, Nat.reduceLT, Nat.reduceEqDiff, reduceIte, ↓reduceIte, tt, vgo, vout, vgoD, voutD, vclsOk, vids, mayWrite, vguard, callOf, vop, ev, cv, vbin, vint, isShift, isNilConst, vlen, vI, hXl]
      let f : Nat → Bool := fun i => decide (gi (addL r.cu.want X) i ≤ gi H1 i)
      refine W.loop tabOk mixed (fun i : Nat => ([(8, vi V1), (14, .ptr 14 0 0), (15, vI H1), (18, .bool ((List.range i).all f)), (19, vi i)], [(14, ⟨0, .row [vi r.cu.last, vi r.cu.start, vi r.cu.most, vi r.cu.per, vi r.cu.shovels, vI r.cu.coal, vI (addL r.cu.want X), vi r.cu.heat.lo, vi r.cu.heat.hi, vR r.cu.loss, .sl0]⟩)])) (fun i => H1.length - i) (fun i => i ≤ H1.length) 0 (by omega) (Wk.forget (by simp [subE, Env.get, vI]) (by simp [subH, Heap.get, vI, addL_len']) (fun j hp => by simp [orD, domP, Heap.get] at hp) (by simp only [intoE, V.into, vI_into, Bool.true_and, Bool.and_true, domP, Heap.get]; rfl) (by simp only [intoH, Blk.into, V.into, intoL, vI_into, vR_into, Bool.and_true])) ?_
      intro i hi
      by_cases hil : (i : Int) < H1.length
      · have hiw : (i : Int) < (addL r.cu.want X).length := by rw [addL_len']; have := k0.want.1; omega
        have hs := all_snoc f i
        have hc1 := cI_at (Int.natCast_nonneg i) hil
        have hc2 := cI_at (Int.natCast_nonneg i) hiw
        rw [Int.toNat_natCast, Nat.mul_one] at hc1 hc2
        have hw1 : (((i + 1 : Nat) : Int)) = (i : Int) + 1 := by omega
        cases hk2 : (List.range i).all f with
        | false =>
          rw [hk2] at hs
          simp only [gos, eq_self, Nat.reduceLT, Nat.reduceEqDiff, reduceIte, ↓reduceIte, tt, vgo, vout, vguard, callOf, vop, ev, vbin, vint, isShift, isNilConst, vlen, vI, hil]
          refine Wr.draw (by kernel_rfl) ?_
          simp only [gos, eq_self, Nat.reduceLT, Nat.reduceEqDiff, Nat.reduceAdd, reduceIte, ↓reduceIte, vgo, vout, vgoD, voutD, vclsOk, vids, mayWrite, vguard, callOf, vop, ev, cv, vbin, vint, isShift, isNilConst, clsAt]
          refine Nx.mk (i + 1) (show H1.length - (i + 1) < H1.length - i by omega) (show i + 1 ≤ H1.length by omega) (Wk.env ?_)
          rw [hs]
          simp [subE, Env.get, i64_succ (show (i : Int) < 9223372036854775807 by omega)]
        | true =>
          rw [hk2] at hs
          simp only [gos, eq_self, Nat.reduceLT, Nat.reduceEqDiff, reduceIte, ↓reduceIte, tt, vgo, vout, vguard, callOf, vop, ev, vbin, vint, isShift, isNilConst, vlen, vI, hil]
          refine Wr.draw (by kernel_rfl) ?_
          simp only [gos, eq_self, Nat.reduceLT, Nat.reduceEqDiff, Nat.reduceAdd, reduceCtorEq, reduceIte, ↓reduceIte, tt, vgo, vout, vgoD, voutD, vclsOk, vids, mayWrite, V.ids, vguard, callOf, vop, ev, cv, vbin, vint, isShift, isNilConst, vload, clsAt, hil, hiw, hc1, hc2, Int.natCast_nonneg, Int.toNat_natCast, Nat.mul_one]
          refine Nx.mk (i + 1) (show H1.length - (i + 1) < H1.length - i by omega) (show i + 1 ≤ H1.length by omega) (Wk.env ?_)
          rw [hs]
          simp [subE, Env.get, f, i64_succ (show (i : Int) < 9223372036854775807 by omega)]
      · have hie : i = (r.cu.last + 1).toNat := by omega
        have hfin : (List.range i).all f = wholeI r.cu r.cu.coal (addL r.cu.want X) t := by rw [hie]; exact hwl
        rw [hfin]
        have zin : sIn V1 1 3 = true := by simp [sIn]; omega
        simp only [gos, eq_self, Nat.reduceLT, Nat.reduceEqDiff, reduceIte, ↓reduceIte, tt, vgo, vout, vguard, callOf, vop, ev, cv, vbin, vint, isShift, isNilConst, vlen, vI, hil]
        refine Cl.pu (c_rIn V1 1 3) ?_
        rw [zin]
        have zw1 : V1 = 1 → wholeI r.cu r.cu.coal (addL r.cu.want X) t = true := fun h => (hone1.1 h) t ht
        have zw2 : V1 = 2 → wholeI r.cu r.cu.coal (addL r.cu.want X) t = false := fun h => (htwo.1 h) t ht
        have fin : ∀ (a b : Bool), (V1 != 1) = a → (V1 != 2) = b → wholeI r.cu r.cu.coal (addL r.cu.want X) t = wholeI r.cu r.cu.coal (addL r.cu.want X) t := fun _ _ _ _ => rfl
        cases hWW : wholeI r.cu r.cu.coal (addL r.cu.want X) t with
        | true =>
          have hb2 : (V1 != 2) = true := by
            rw [bne_iff_ne]; intro h; rw [zw2 h] at hWW; cases hWW
          cases hb1 : (V1 != 1) with
          | true =>
            simp only [gos, eq_self, Nat.reduceLT, Nat.reduceEqDiff, reduceIte, ↓reduceIte, vgo, vout, vguard, callOf, vop, ev, cv, vbin, vint, isShift, isNilConst, hb1, hb2]
            refine Cl.pu c_awake9 ?_
            simp only [gos, eq_self, Nat.reduceLT, Nat.reduceEqDiff, reduceIte, ↓reduceIte, vgo, vout, vguard, callOf, vop, ev]
            subst hQ
            exact FnPost.plain trivial (v := .bool true) (fun h2 e => by rfl) WkV.refl rfl
          | false =>
            simp only [gos, eq_self, Nat.reduceLT, Nat.reduceEqDiff, reduceIte, ↓reduceIte, vgo, vout, vguard, callOf, vop, ev, cv, vbin, vint, isShift, isNilConst, hb1, hb2]
            refine Cl.pu c_awake9 ?_
            simp only [gos, eq_self, Nat.reduceLT, Nat.reduceEqDiff, reduceIte, ↓reduceIte, vgo, vout, vguard, callOf, vop, ev]
            subst hQ
            exact FnPost.plain trivial (v := .bool true) (fun h2 e => by rfl) WkV.refl rfl
        | false =>
          have hb1 : (V1 != 1) = true := by
            rw [bne_iff_ne]; intro h; rw [zw1 h] at hWW; cases hWW
          cases hb2 : (V1 != 2) with
          | true =>
            simp only [gos, eq_self, Nat.reduceLT, Nat.reduceEqDiff, reduceIte, ↓reduceIte, vgo, vout, vguard, callOf, vop, ev, cv, vbin, vint, isShift, isNilConst, hb1, hb2]
            refine Cl.pu c_awake9 ?_
            simp only [gos, eq_self, Nat.reduceLT, Nat.reduceEqDiff, reduceIte, ↓reduceIte, vgo, vout, vguard, callOf, vop, ev]
            subst hQ
            exact FnPost.plain trivial (v := .bool true) (fun h2 e => by rfl) WkV.refl rfl
          | false =>
            simp only [gos, eq_self, Nat.reduceLT, Nat.reduceEqDiff, reduceIte, ↓reduceIte, vgo, vout, vguard, callOf, vop, ev, cv, vbin, vint, isShift, isNilConst, hb1, hb2]
            refine Cl.pu c_awake9 ?_
            simp only [gos, eq_self, Nat.reduceLT, Nat.reduceEqDiff, reduceIte, ↓reduceIte, vgo, vout, vguard, callOf, vop, ev]
            subst hQ
            exact FnPost.plain trivial (v := .bool true) (fun h2 e => by rfl) WkV.refl rfl
end Go.Vm
