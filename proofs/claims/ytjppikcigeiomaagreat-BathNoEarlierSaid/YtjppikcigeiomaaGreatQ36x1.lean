import Derived.Test.YtjppikcigeiomaaGreatB4
import Derived.Test.YtjppikcigeiomaaGreatRows
import Derived.WalkKit
import Derived.ProofKit
import Derived.OpenShut
import Derived.ShutString
import Derived.ChangeOld
import Derived.Below
set_option linter.unusedVariables false
set_option linter.unusedSimpArgs false
set_option maxRecDepth 100000
namespace Go.Vm
open Go.Proofs Go.ChangeShapes Go.WideShapes Go.ChangeAt Go.RowKit
/-! ### from a contract to the row -/
theorem hrel0 (w : World) : HRel (gh0 w) [] w :=
  ⟨fun B o v e => e, fun i e he => (by cases he), fun i j e e' B c c' he => (by cases he), fun i e B c o he => (by cases he), fun i v h => absurd rfl h⟩
theorem calls_of_fn {P : Program} {f : FuncId} {vs : List V} {xs : List Value} {w : World} (c : Fn P f vs [] fun v h' => v = .bool true) (hv : VRL (gh0 w) vs xs) :
    Calls P f xs.toArray w fun e w' => e = .returned (.bool true) ∧ Below w.heap.size w w' := fun cs => by
  obtain ⟨v, h', vc, g', w', fr, rfl, st, hf, hl, hvc, H', t, le⟩ := c (gh0 w) w xs hv (hrel0 w) cs
  simp only [VR] at hvc
  subst hvc
  exact ⟨.returned (.bool true), w', fr, ⟨rfl, t.os, t.tape, t.output, t.size, fun k hk => t.mods k hk (by rintro ⟨i, e, c, he, _⟩; cases he)⟩, st, hf, hl⟩
section
variable {H : Type} {enc : TypeId × Value → H} {P : Program} {w : World} {base : Nat} {spare : Nat → Bool} {held : Bool} {fuel : Nat} {t : TypeId} {cs : List Value} {x : DataW H × List MemPlace}
end
section
variable {H : Type} {enc : TypeId × Value → H} {w : World} {base : Nat} {spare : Nat → Bool} {held : Bool} {fuel : Nat} {cs : List Value} {x : DataW H × List MemPlace}
end
end Go.Vm

set_option linter.unusedVariables false
set_option linter.unusedSimpArgs false
set_option maxRecDepth 100000
namespace Go.Vm
open Go.Proofs Go.ChangeShapes Go.WideShapes Go.ChangeAt Go.RowKit
section
variable {H : Type} {enc : TypeId × Value → H} {w : World} {base : Nat} {spare : Nat → Bool} {held : Bool} {fuel : Nat} {cs : List Value} {x : DataW H × List MemPlace}
theorem rd_u16 (h : DataW.trod enc Tryz.prog w base spare held fuel 77 cs = some x) : ∃ n : Int, (0 ≤ n ∧ n ≤ 65535) ∧ VRL (gh0 w) [.int .u16 n] cs := by
  obtain ⟨n, rfl, _, h2⟩ := DataW.trod_int Tryz.underlying77 h
  exact ⟨n, bounds_u16 h2, VRL.cons (by simp only [VR]) VRL.nil⟩
theorem rd_u8 (h : DataW.trod enc Tryz.prog w base spare held fuel 5 cs = some x) : ∃ n : Int, (0 ≤ n ∧ n ≤ 255) ∧ VRL (gh0 w) [.int .u8 n] cs := by
  obtain ⟨n, rfl, _, h2⟩ := DataW.trod_int Tryz.underlying5 h
  exact ⟨n, bounds_u8 h2, VRL.cons (by simp only [VR]) VRL.nil⟩
theorem rd_words (h : DataW.trod enc Tryz.prog w base spare held fuel 86 cs = some x) : ∃ l : List Int, (∀ n ∈ l, 0 ≤ n ∧ n ≤ 65535) ∧ VRL (gh0 w) [vW l] cs := by
  obtain ⟨l, h1, h2, h3⟩ := rd_slice (fun n : Int => [V.int .u16 n]) (fun n => 0 ≤ n ∧ n ≤ 65535) 1 Tryz.underlying86 (by kernel_rfl) (by omega) (fun _ => rfl) h fun n cs x h => rd_u16 h
  have e : l.flatMap (fun n : Int => [V.int .u16 n]) = cW16 l := by
    clear h1 h2 h3
    induction l with
    | nil => rfl
    | cons y l ih => simp only [List.flatMap_cons, cW16, List.map_cons, List.singleton_append] at ih ⊢; rw [ih]
  rw [e] at h3
  exact ⟨l, h1, h3⟩
end
end Go.Vm

set_option linter.unusedVariables false
set_option linter.unusedSimpArgs false
set_option maxRecDepth 100000
namespace Go.Vm
/-! ### lists that are changed in some places -/
theorem vW_into (p : Nat → Bool) (l : List Int) : (vW l).into p = true := by simp only [vW, V.into]; exact cW16_into p l
end Go.Vm

set_option linter.unusedVariables false
set_option linter.unusedSimpArgs false
set_option maxRecDepth 100000
namespace Go.Vm
open Go.Proofs
/-! ### sets of readings, by bits -/
/-! ### before, shorter -/
theorem drop_gi {l : List Int} {i : Nat} (h : (i : Int) < l.length) : l.drop i = gi l i :: l.drop (i + 1) := by
  rw [List.drop_eq_getElem_cons (by omega), gi, Int.toNat_natCast, List.getD_eq_getElem?_getD, List.getElem?_eq_getElem (by omega)]; rfl
set_option maxHeartbeats 1000000 in
theorem c_rBefore (a b : List Int) (ha : (a.length : Int) ≤ 1000000) : Pu Tryz.prog (.fn 60 [] []) [vI a, vI b] (.bool (lBefore a b)) := by
  refine Ev.fn Tryz.func60 rfl rfl (Fn.body tabOk Tryz.func60 rfl (Nat.le_of_ble_eq_true rfl) (Ks.ok (fz := (fzn [])) (cl := (cln [(4, .d tg0 [cP, cP, cP, cP, cP, cP, cP, cP, cP]), (5, .d tg0 [cP, cP, cP, cP, cP, cP, cP, cP, cP, cP])])) tabOk mixed ?_))
  generalize hQ : FnPost tt Tryz.f60 _ _ = Q
  simp only [Tryz.f60, List.nil_append, List.append_nil, argsEnv, Nat.reduceAdd]
  simp only [gos, eq_self, Nat.reduceLT, Nat.reduceEqDiff, reduceCtorEq, reduceIte, ↓reduceIte, vgo, vout, vguard, callOf, vop, ev, cv]
  refine W.loop tabOk mixed (fun i : Nat => ([(0, vI a), (1, vI b), (5, vi i)], [])) (fun i => a.length - i) (fun i => i ≤ a.length ∧ i ≤ b.length ∧ lBefore a b = lBefore (a.drop i) (b.drop i)) 0 ⟨by omega, by omega, rfl⟩ (Wk.env (by simp [subE, Env.get])) ?_
  rintro i ⟨hi1, hi2, he⟩
  by_cases h1 : (i : Int) < a.length
  · by_cases h2 : (i : Int) < b.length
    · rw [drop_gi h1, drop_gi h2, lBefore] at he
      simp only [gos, eq_self, Nat.reduceLT, Nat.reduceEqDiff, reduceCtorEq, reduceIte, ↓reduceIte, tt, vgo, vout, vguard, callOf, vop, ev, vbin, vint, isShift, isNilConst, vlen, vI, h1, h2]
      refine Wr.draw (by kernel_rfl) ?_
      simp only [gos, eq_self, Nat.reduceLT, Nat.reduceEqDiff, Nat.reduceAdd, reduceCtorEq, reduceIte, ↓reduceIte, tt, vgoD, voutD, vclsOk, vids, mayWrite, V.ids, vguard, callOf, vop, ev, vbin, vint, isShift, isNilConst, vload, clsAt, h1, h2, cI_at (Int.natCast_nonneg i) h1, cI_at (Int.natCast_nonneg i) h2]
      by_cases hx : gi a i = gi b i
      · rw [if_pos hx] at he
        have hb : (gi a i != gi b i) = false := by simp [hx]
        simp only [gos, eq_self, Nat.reduceLT, Nat.reduceEqDiff, reduceCtorEq, reduceIte, ↓reduceIte, vgo, vout, vguard, callOf, vop, ev, cv, vbin, vint, isShift, isNilConst, hb]
        exact Nx.mk (i + 1) (show a.length - (i + 1) < a.length - i by omega) ⟨by omega, by omega, he⟩ (Wk.env (by simp [subE, Env.get, i64_succ (show (i : Int) < 9223372036854775807 by omega)]))
      · rw [if_neg hx] at he
        have hb : (gi a i != gi b i) = true := by simp [hx]
        simp only [gos, eq_self, Nat.reduceEqDiff, reduceIte, ↓reduceIte, hb]
        refine Wr.draw (by kernel_rfl) ?_
        simp only [gos, eq_self, Nat.reduceLT, Nat.reduceEqDiff, Nat.reduceAdd, reduceCtorEq, reduceIte, ↓reduceIte, tt, vgoD, voutD, vclsOk, vids, mayWrite, V.ids, vguard, callOf, vop, ev, vbin, vint, isShift, isNilConst, vload, clsAt, h1, h2, cI_at (Int.natCast_nonneg i) h1, cI_at (Int.natCast_nonneg i) h2]
        subst hQ
        exact FnPost.plain trivial (fun h2 e => by first | rfl | (simp only [Tryz.f60, vres, vresL, vres1, e _, gos, if_true, if_false, ne_eq, eq_self, Nat.reduceLT, Nat.reduceEqDiff, Nat.reduceAdd, Nat.reduceMul, Nat.reduceLeDiff, Nat.reduceBEq, reduceCtorEq, reduceIte, Array.toList, ↓reduceIte, tt, vgo, vout, vgoD, voutD, vclsOk, vids, mayWrite, V.ids, V.mids, vguard, callOf, vop, ev, cv, vbin, vint, isShift, isNilConst, vnil, isNilSlice, vload, vlen, newRow, vfill, vslice, entOf, vappend, srcOf, vcopy, vlookup, vupdate, mapOk, keyOf, intsOf, clsAt]; try rfl)) (WkV.pure (by simp only [V.into])) ⟨by rw [he], rfl⟩
    · have e2 : b.drop i = [] := List.drop_eq_nil_of_le (by omega)
      rw [e2, drop_gi h1, lBefore] at he
      have hb : decide ((a.length : Int) < b.length) = false := by simp; omega
      simp only [gos, eq_self, Nat.reduceLT, Nat.reduceEqDiff, reduceCtorEq, reduceIte, ↓reduceIte, tt, vgo, vout, vguard, callOf, vop, ev, vbin, vint, isShift, isNilConst, vlen, vI, h1, h2, hb]
      subst hQ
      exact FnPost.plain trivial (fun h2 e => by first | rfl | (simp only [Tryz.f60, vres, vresL, vres1, e _, gos, if_true, if_false, ne_eq, eq_self, Nat.reduceLT, Nat.reduceEqDiff, Nat.reduceAdd, Nat.reduceMul, Nat.reduceLeDiff, Nat.reduceBEq, reduceCtorEq, reduceIte, Array.toList, ↓reduceIte, tt, vgo, vout, vgoD, voutD, vclsOk, vids, mayWrite, V.ids, V.mids, vguard, callOf, vop, ev, cv, vbin, vint, isShift, isNilConst, vnil, isNilSlice, vload, vlen, newRow, vfill, vslice, entOf, vappend, srcOf, vcopy, vlookup, vupdate, mapOk, keyOf, intsOf, clsAt]; try rfl)) (WkV.pure (by simp only [V.into])) ⟨by rw [he], rfl⟩
  · have e1 : a.drop i = [] := List.drop_eq_nil_of_le (by omega)
    rw [e1, lBefore] at he
    have hb : decide ((a.length : Int) < b.length) = lBefore a b := by rw [he, List.length_drop]; congr 1; apply propext; omega
    simp only [gos, eq_self, Nat.reduceLT, Nat.reduceEqDiff, reduceCtorEq, reduceIte, ↓reduceIte, tt, vgo, vout, vguard, callOf, vop, ev, cv, vbin, vint, isShift, isNilConst, vlen, vI, h1, hb]
    subst hQ
    exact FnPost.plain trivial (fun h2 e => by first | rfl | (simp only [Tryz.f60, vres, vresL, vres1, e _, gos, if_true, if_false, ne_eq, eq_self, Nat.reduceLT, Nat.reduceEqDiff, Nat.reduceAdd, Nat.reduceMul, Nat.reduceLeDiff, Nat.reduceBEq, reduceCtorEq, reduceIte, Array.toList, ↓reduceIte, tt, vgo, vout, vgoD, voutD, vclsOk, vids, mayWrite, V.ids, V.mids, vguard, callOf, vop, ev, cv, vbin, vint, isShift, isNilConst, vnil, isNilSlice, vload, vlen, newRow, vfill, vslice, entOf, vappend, srcOf, vcopy, vlookup, vupdate, mapOk, keyOf, intsOf, clsAt]; try rfl)) (WkV.pure (by simp only [V.into])) ⟨rfl, rfl⟩
end Go.Vm

set_option linter.unusedVariables false
set_option linter.unusedSimpArgs false
set_option maxRecDepth 100000
namespace Go.Vm
/-! ### no sure coal is less -/
theorem lBefore_irr : ∀ a : List Int, lBefore a a = false
  | [] => rfl
  | x :: a => by simp only [lBefore, if_true]; exact lBefore_irr a
end Go.Vm

set_option linter.unusedVariables false
set_option linter.unusedSimpArgs false
set_option maxRecDepth 100000
namespace Go.Vm
open Go.Proofs
theorem c_ProvePlan (r : Rm) (hr : r.wf) (plan : List Int) (hp : (plan.length : Int) ≤ 1000000) : Pu Tryz.prog (.fn 62 [] []) [.agg r.cs, vI plan] (.bool (sProveP r plan)) := by
  refine Ev.fn Tryz.func62 rfl rfl (Fn.body tabOk Tryz.func62 rfl (Nat.le_of_ble_eq_true rfl) (Ks.ok (fz := (fzn [])) (cl := (cln [])) tabOk mixed ?_))
  generalize hQ : FnPost tt Tryz.f62 _ _ = Q
  simp only [Tryz.f62, List.nil_append, List.append_nil, argsEnv, Nat.reduceAdd]
  simp only [gos, eq_self, Nat.reduceLT, Nat.reduceEqDiff, reduceCtorEq, reduceIte, ↓reduceIte, tt, vgo, vout, vguard, callOf, vop, ev, cv, vload, newRow, rms]
  refine Cl.pu (c_bKeeps r hr plan hp) ?_ rfl (by simp only [V.into, intoL, vI_into, Bool.and_true, rm_into])
  by_cases h : (sKeepsR r plan).2 = 0
  · have hd : decide ((sKeepsR r plan).2 = 0) = true := by simp [h]
    simp only [gos, eq_self, Nat.reduceLT, Nat.reduceEqDiff, reduceIte, ↓reduceIte, vgo, vout, vguard, callOf, vop, ev, cv, vbin, vint, isShift, isNilConst, hd]
    subst hQ
    exact FnPost.plain trivial (fun h2 e => by first | rfl | (simp only [Tryz.f62, vres, vresL, vres1, e _, gos, if_true, if_false, ne_eq, eq_self, Nat.reduceLT, Nat.reduceEqDiff, Nat.reduceAdd, Nat.reduceMul, Nat.reduceLeDiff, Nat.reduceBEq, reduceCtorEq, reduceIte, Array.toList, ↓reduceIte, tt, vgo, vout, vgoD, voutD, vclsOk, vids, mayWrite, V.ids, V.mids, vguard, callOf, vop, ev, cv, vbin, vint, isShift, isNilConst, vnil, isNilSlice, vload, vlen, newRow, vfill, vslice, entOf, vappend, srcOf, vcopy, vlookup, vupdate, mapOk, keyOf, intsOf, clsAt]; try rfl)) (WkV.pure (by simp only [V.into])) ⟨by simp [sProveP, h], rfl⟩
  · have hd : decide ((sKeepsR r plan).2 = 0) = false := by simp [h]
    simp only [gos, eq_self, Nat.reduceLT, Nat.reduceEqDiff, reduceIte, ↓reduceIte, vgo, vout, vguard, callOf, vop, ev, cv, vbin, vint, isShift, isNilConst, hd]
    subst hQ
    exact FnPost.plain trivial (fun h2 e => by first | rfl | (simp only [Tryz.f62, vres, vresL, vres1, e _, gos, if_true, if_false, ne_eq, eq_self, Nat.reduceLT, Nat.reduceEqDiff, Nat.reduceAdd, Nat.reduceMul, Nat.reduceLeDiff, Nat.reduceBEq, reduceCtorEq, reduceIte, Array.toList, ↓reduceIte, tt, vgo, vout, vgoD, voutD, vclsOk, vids, mayWrite, V.ids, V.mids, vguard, callOf, vop, ev, cv, vbin, vint, isShift, isNilConst, vnil, isNilSlice, vload, vlen, newRow, vfill, vslice, entOf, vappend, srcOf, vcopy, vlookup, vupdate, mapOk, keyOf, intsOf, clsAt]; try rfl)) (WkV.pure (by simp only [V.into])) ⟨by simp [sProveP, h], rfl⟩
end Go.Vm

set_option linter.unusedVariables false
set_option linter.unusedSimpArgs false
set_option maxRecDepth 100000
namespace Go.Vm
/-! ### the sure plans, in order -/
theorem allP0_mem {r : Rm} : ∀ (m i : Nat) (p : List Int), p ∈ allP r [] m i ↔ p.length = m ∧ ∀ j : Nat, j < m → (gR r.ba ((i + j : Nat) : Int)).lo ≤ gi p j ∧ gi p j ≤ (gR r.ba ((i + j : Nat) : Int)).hi
  | 0, i, p => by
    simp only [allP, List.mem_singleton]
    constructor
    · rintro rfl; exact ⟨rfl, fun j hj => by omega⟩
    · rintro ⟨h, _⟩; exact List.length_eq_zero_iff.1 h
  | m + 1, i, p => by
    have ih := allP0_mem (r := r) m (i + 1)
    have hgi0 : ∀ (x : Int) (q : List Int), gi (x :: q) (0 : Nat) = x := fun x q => rfl
    have hgis : ∀ (x : Int) (q : List Int) (j : Nat), gi (x :: q) ((j + 1 : Nat) : Int) = gi q j := fun x q j => by simp only [gi, Int.toNat_natCast, List.getD_cons_succ]
    rw [allP, if_neg (by simp [outB])]
    simp only [List.mem_flatMap, List.mem_map]
    constructor
    · rintro ⟨x, hx, q, hq, rfl⟩
      obtain ⟨h1, h2⟩ := (ih q).1 hq
      refine ⟨by simp [h1], fun j hj => ?_⟩
      cases j with
      | zero => rw [Nat.add_zero, hgi0]; exact mem_rangeI.1 hx
      | succ j =>
        rw [hgis]
        have := h2 j (by omega)
        rw [show i + 1 + j = i + (j + 1) by omega] at this
        exact this
    · rintro ⟨h1, h2⟩
      cases p with
      | nil => simp at h1
      | cons x q =>
        have h0 := h2 0 (by omega)
        rw [Nat.add_zero, hgi0] at h0
        exact ⟨x, mem_rangeI.2 h0, q, (ih q).2 ⟨by simpa using h1, fun j hj => by
          have := h2 (j + 1) (by omega)
          rw [hgis, show i + (j + 1) = i + 1 + j by omega] at this
          exact this⟩, rfl⟩
/-- A list is one of the sure plans if and only if it is a plan that is sure. -/
theorem plL_mem {r : Rm} (k : RmOk r) {p : List Int} : p ∈ plL r [] ↔ sAre r p = true ∧ sSureN r (cntN p) = true := by
  rw [plL_eq k, List.mem_filter, allP0_mem]
  have e : sAre r p = true ↔ p.length = r.ba.length ∧ ∀ j : Nat, j < r.ba.length → (gR r.ba ((0 + j : Nat) : Int)).lo ≤ gi p j ∧ gi p j ≤ (gR r.ba ((0 + j : Nat) : Int)).hi := by
    simp only [sAre, Bool.and_eq_true, decide_eq_true_eq, List.all_eq_true, List.mem_range, sIn, Nat.zero_add]
  rw [e]
theorem allP_pair {r : Rm} : ∀ (m i : Nat), (allP r [] m i).Pairwise (fun a b => lBefore a b = true)
  | 0, i => by simp [allP]
  | m + 1, i => by
    rw [allP, if_neg (by simp [outB]), List.pairwise_flatMap]
    refine ⟨fun n _ => ?_, pw_less (fun {a b} hab x hx y hy => ?_) (rangeI_pair _ _)⟩
    · rw [List.pairwise_map]; exact pw_less (fun h => by simpa [lBefore] using h) (allP_pair m (i + 1))
    · obtain ⟨x, _, rfl⟩ := List.mem_map.1 hx
      obtain ⟨y, _, rfl⟩ := List.mem_map.1 hy
      simp only [lBefore]
      rw [if_neg (by omega)]; simp [hab]
theorem plL_pair {r : Rm} (k : RmOk r) : (plL r []).Pairwise (fun a b => lBefore a b = true) := by
  rw [plL_eq k]; exact (allP_pair _ _).filter _
theorem plL_first {r : Rm} (k : RmOk r) {p : List Int} (h : (plL r []).head? = some p) {q : List Int} (hq : sAre r q = true) (hs : sSureN r (cntN q) = true) : lBefore q p = false := by
  have hm := (plL_mem k).2 ⟨hq, hs⟩
  have hp := plL_pair k
  cases hl : plL r [] with
  | nil => rw [hl] at h; cases h
  | cons a l =>
    rw [hl] at h hm hp
    injection h with h; subst h
    rcases List.mem_cons.1 hm with rfl | hm
    · exact lBefore_irr _
    · exact lBefore_asymm ((List.pairwise_cons.1 hp).1 q hm)
/-- There is a sure plan if and only if no bath has to be given back. -/
theorem plan_give {r : Rm} (k : RmOk r) : plL r [] ≠ [] ↔ sSureN r zL = true ∧ giveAll r = some [] := by
  have hn : r.ba.length < 6 := by have := k.len; omega
  have hr : sRest r [] = true ↔ plL r [] ≠ [] := by rw [sRest, Bool.not_eq_true', List.isEmpty_eq_false_iff]
  have hz : sBits 0 = [] := rfl
  constructor
  · intro h
    have h1 := hr.2 h
    have hs := rest_zero k h1
    refine ⟨hs, ?_⟩
    rw [giveAll_find]
    have e : allSets r.ba.length = [] :: (allSets r.ba.length).tail := by
      have : ∀ n : Fin 6, allSets n = [] :: (allSets n).tail := by decide +kernel
      exact this ⟨_, hn⟩
    rw [e, List.find?_cons, h1]
  · rintro ⟨hs, hg⟩
    rw [giveAll_find] at hg
    exact hr.1 (List.find?_some hg)
end Go.Vm

set_option linter.unusedVariables false
set_option linter.unusedSimpArgs false
set_option maxRecDepth 100000
namespace Go.Vm
/-- One way through the rest, for all that come to it. -/
theorem thru {ι : Type} {C : Prop} {A G : ι → Prop} (use : (∀ x, A x → G x) → C) (tail : ∀ x, A x → G x) : C := use tail
end Go.Vm

set_option linter.unusedVariables false
set_option linter.unusedSimpArgs false
set_option maxRecDepth 100000
namespace Go.Vm
open Go.Proofs
theorem hours_ne {r : Rm} (k : RmOk r) {i : Nat} (hi : i < r.ba.length) : sHoursL r i = [] ↔ plL r [] = [] := by
  constructor
  · intro h
    cases hl : plL r [] with
    | nil => rfl
    | cons p l =>
      exfalso
      have hp : p ∈ plL r [] := by rw [hl]; simp
      obtain ⟨h1, _⟩ := (plL_mem k).1 hp
      simp only [sAre, Bool.and_eq_true, decide_eq_true_eq, List.all_eq_true, List.mem_range, sIn] at h1
      have h2 : gi p i ∈ sHoursL r i := by
        rw [sHoursL, List.mem_filter]
        exact ⟨mem_rangeI.2 (h1.2 i hi), by rw [List.any_eq_true]; exact ⟨p, hp, by simp⟩⟩
      rw [h] at h2; cases h2
  · intro h
    rw [sHoursL, h]; simp
theorem hours_mem {r : Rm} (k : RmOk r) {i : Nat} (hi : i < r.ba.length) {plan : List Int} (ha : sAre r plan = true) (hs : sSureN r (cntN plan) = true) : gi plan i ∈ sHoursL r i := by
  have hp := (plL_mem k).2 ⟨ha, hs⟩
  simp only [sAre, Bool.and_eq_true, decide_eq_true_eq, List.all_eq_true, List.mem_range, sIn] at ha
  rw [sHoursL, List.mem_filter]
  exact ⟨mem_rangeI.2 (ha.2 i hi), by rw [List.any_eq_true]; exact ⟨plan, hp, by simp⟩⟩
theorem hours_pair (r : Rm) (i : Nat) : (sHoursL r i).Pairwise (· < ·) := (rangeI_pair _ _).filter _
theorem pair_gi {l : List Int} (h : l.Pairwise (· < ·)) {i : Nat} (hi : i + 1 < l.length) : gi l i < gi l ((i + 1 : Nat) : Int) := by
  rw [List.pairwise_iff_getElem] at h
  have := h i (i + 1) (by omega) hi (by omega)
  simpa only [gi, Int.toNat_natCast, List.getD_eq_getElem?_getD, List.getElem?_eq_getElem (show i < l.length by omega), List.getElem?_eq_getElem hi, Option.getD_some] using this
theorem any_snocG (l : List Int) (x : Int) {i : Nat} (h : (i : Int) < l.length) : (l.take (i + 1)).any (fun y => decide (y = x)) = ((l.take i).any (fun y => decide (y = x)) || decide (gi l i = x)) := by
  rw [gi_take h, List.any_append]; simp
set_option maxHeartbeats 8000000 in
theorem l_BathNoEarlier (r : Rm) (hl : I64 r.cu.last) (words : List Int) (hw : ∀ x ∈ words, 0 ≤ x ∧ x ≤ 65535) (which : Int) (hwh : 0 ≤ which ∧ which ≤ 255) :
    Vm.Fn Tryz.prog 12 [.agg r.cs, vW words, .int .u8 which] [] fun v h' => v = .bool true := by
  refine Fn.body tabOk Tryz.func12 rfl (Nat.le_of_ble_eq_true rfl) (Ks.ok (fz := (fzn [])) (cl := (cln [(9, .d tg0 [cP, cP, cP, cP, cP, cP, cP, cP, cP, cP, cP, cP, cP, cP, cP, cP, cP, cP, cP, cP, cP, cP, cP, cP, cP, cP]), (11, .ex), (21, .d tg0 [cP, cP, cP, cP, cP, cP, cP, cP, cP, cP, cP, cP, cP, cP, cP, cP, cP, cP, cP, cP, cP, cP, cP, cP, cP, cP, cP, cP, cP, cP, cP, cP, cP, cP]), (23, .d tg0 [cP, cP, cP, cP, cP, cP, cP, cP, cP, cP, cP, cP, cP])])) tabOk mixed ?_)
  generalize hQ : FnPost tt Tryz.f12 _ _ = Q
  simp only [Tryz.f12, argsEnv, Nat.reduceAdd]
  simp only [gos, eq_self, Nat.reduceLT, Nat.reduceEqDiff, reduceCtorEq, reduceIte, ↓reduceIte, tt, vgo, vout, vguard, callOf, vop, ev, cv, vload, newRow, rms]
  refine Cl.pu (c_ready9 r hl) ?_ rfl (by simp only [V.into, intoL, Bool.and_true, rm_into])
  cases hrd : sReadyR r with
  | false =>
    simp only [gos, eq_self, Nat.reduceLT, Nat.reduceEqDiff, reduceIte, ↓reduceIte, vgo, vout, vguard, callOf, vop, ev]
    refine Cl.pu c_awake9 ?_
    simp only [gos, eq_self, Nat.reduceLT, reduceIte, ↓reduceIte, vgo, vout, vguard, callOf, vop, ev]
    subst hQ
    exact FnPost.plain trivial (v := .bool true) (fun h2 e => by rfl) WkV.refl rfl
  | true =>
    obtain ⟨hr, h0, k, hb4, hp3⟩ := ready9_ok hl hrd
    have k0 := k.A.k0
    have hla := k0.last
    have hcl := chosen_len r words
    have ha := chosen_are k hw
    have hp : ((sChosen r words).length : Int) ≤ 1000000 := by omega
    simp only [gos, eq_self, Nat.reduceLT, Nat.reduceEqDiff, reduceCtorEq, reduceIte, ↓reduceIte, tt, vgo, vout, vguard, callOf, vop, ev, vload, rms]
    refine Cl.pu (c_Room r hr) ?_ rfl (by simp only [V.into, intoL, Bool.and_true, rm_into])
    simp only [gos, eq_self, Nat.reduceLT, reduceIte, ↓reduceIte, vgo, vout, vguard, callOf, ev]
    refine Cl.pu (c_bPlan r hr) ?_ rfl (by simp only [V.into, intoL, Bool.and_true, rm_into])
    simp only [gos, eq_self, Nat.reduceLT, Nat.reduceEqDiff, reduceCtorEq, reduceIte, ↓reduceIte, tt, vgo, vout, vguard, callOf, vop, ev, vload, rms]
    refine Cl.pu (c_Room r hr) ?_ rfl (by simp only [V.into, intoL, Bool.and_true, rm_into])
    simp only [gos, eq_self, Nat.reduceLT, reduceIte, ↓reduceIte, vgo, vout, vguard, callOf, ev]
    refine Cl.pu (c_bGive r hr) ?_ rfl (by simp only [V.into, intoL, Bool.and_true, rm_into])
    simp only [gos, eq_self, Nat.reduceLT, Nat.reduceEqDiff, reduceCtorEq, reduceIte, ↓reduceIte, tt, vgo, vout, vguard, callOf, vop, ev, vload, rms]
    refine Cl.pu (c_Chosen r k words hw) ?_ rfl (by simp only [V.into, intoL, Bool.and_true, rm_into, vW_into])
    generalize sChosen r words = plan at hcl ha hp ⊢
    simp only [gos, eq_self, Nat.reduceLT, Nat.reduceEqDiff, reduceCtorEq, reduceIte, ↓reduceIte, tt, vgo, vout, vguard, callOf, vop, ev, vload, rms]
    refine Cl.pu (c_Room r hr) ?_ rfl (by simp only [V.into, intoL, Bool.and_true, rm_into])
    simp only [gos, eq_self, Nat.reduceLT, Nat.reduceEqDiff, reduceIte, ↓reduceIte, vgo, vout, vguard, callOf, vop, ev]
    refine Cl.pu (c_list9 plan hp) ?_ rfl (by simp only [intoL, vI_into, Bool.and_true])
    simp only [gos, eq_self, Nat.reduceLT, Nat.reduceEqDiff, reduceIte, ↓reduceIte, vgo, vout, vguard, callOf, ev]
    refine Cl.pu (c_ProvePlan r hr plan hp) ?_ rfl (by simp only [V.into, intoL, vI_into, Bool.and_true, rm_into])
    rw [prove_of h0 ha]
    apply thru (A := fun x : List Int × Int × Bool => (x.2.1 = 0 ∧ plL r [] ≠ [] ∨ x.2.1 = 10 ∧ plL r [] = []) ∧ x.2.2 = sSureN r (cntN plan))
    case use =>
      intro tail
      have hpg := plan_give k
      -- what Plan and Give say
      obtain ⟨p, e, eP, hP⟩ : ∃ (p : List Int) (e : Int), sPlanR r = (p, e) ∧ ((e = 0 ∧ (plL r []).head? = some p ∧ plL r [] ≠ []) ∨ (e = 10 ∧ plL r [] = [])) := by
        unfold sPlanR
        rw [if_pos h0]
        cases hpl : plL r [] with
        | nil => exact ⟨_, _, rfl, .inr ⟨rfl, rfl⟩⟩
        | cons p l => exact ⟨_, _, rfl, .inl ⟨rfl, rfl, by simp⟩⟩
      obtain ⟨g, f, eG, hG⟩ : ∃ (g : List Int) (f : Int), sGiveR r = (g, f) ∧ ((f = 0 ∧ sSureN r zL = true ∧ giveAll r = some g) ∨ (f = 10 ∧ sSureN r zL = false)) := by
        unfold sGiveR
        rw [if_pos h0]
        cases hs : sSureN r zL with
        | true =>
          obtain ⟨l, hl⟩ := giveAll_some k hs
          rw [if_pos rfl, hl]
          exact ⟨_, _, rfl, .inl ⟨rfl, rfl, rfl⟩⟩
        | false => rw [if_neg (by simp)]; exact ⟨_, _, rfl, .inr ⟨rfl, rfl⟩⟩
      rw [eP, eG]
      have hsp : sSureN r (cntN plan) = true → e = 0 := fun hs => by
        have hm := (plL_mem k).2 ⟨ha, hs⟩
        rcases hP with ⟨h1, _⟩ | ⟨_, h1⟩
        · exact h1
        · rw [h1] at hm; cases hm
      have y00 : ((0 : Int) != 0) = false := rfl
      have y10 : ((10 : Int) != 0) = true := rfl
      have yt : ((10 : Int) != 10) = false := rfl
      have y01 : decide ((0 : Int) = 0) = true := rfl
      have y11 : decide ((10 : Int) = 0) = false := rfl
      -- the eight ways through region 7 come to the same place
      obtain ⟨b1, hb1⟩ : ∃ b, decide ((g.length : Int) = 0) = b := ⟨_, rfl⟩
      have hfe : (decide (e = 0) != (decide (f = 0) && decide ((g.length : Int) = 0))) = false := by
        rw [bne_eq_false_iff_eq, Bool.eq_iff_iff]
        simp only [Bool.and_eq_true, decide_eq_true_eq]
        constructor
        · intro he
          rcases hP with ⟨_, _, h1⟩ | ⟨h1, _⟩
          · obtain ⟨h2, h3⟩ := hpg.1 h1
            rcases hG with ⟨h4, _, h5⟩ | ⟨_, h4⟩
            · rw [h3] at h5; injection h5 with h5; subst h5; exact ⟨h4, rfl⟩
            · rw [h2] at h4; cases h4
          · omega
        · rintro ⟨hf, hg0⟩
          have hg1 : g = [] := List.length_eq_zero_iff.1 (by omega)
          rcases hG with ⟨_, h2, h3⟩ | ⟨h1, _⟩
          · rw [hg1] at h3
            have := hpg.2 ⟨h2, h3⟩
            rcases hP with ⟨h1, _⟩ | ⟨_, h1⟩
            · exact h1
            · exact absurd h1 this
          · omega
      have ztt : ((true : Bool) != true) = false := rfl
      have zff : ((false : Bool) != false) = false := rfl
      obtain ⟨xx, hxx⟩ : ∃ xx : List Int × Int × Bool, xx = (p, e, sSureN r (cntN plan)) := ⟨_, rfl⟩
      have hA : (xx.2.1 = 0 ∧ plL r [] ≠ [] ∨ xx.2.1 = 10 ∧ plL r [] = []) ∧ xx.2.2 = sSureN r (cntN plan) := by
        subst hxx
        refine ⟨?_, rfl⟩
        rcases hP with ⟨h1, _, h2⟩ | h1
        · exact .inl ⟨h1, h2⟩
        · exact .inr h1
      rcases hP with ⟨he, hph, hpn⟩ | ⟨he, hpn⟩
      · subst he
        have hpm : p ∈ plL r [] := by
          cases hl2 : plL r [] with
          | nil => rw [hl2] at hph; cases hph
          | cons a l => rw [hl2] at hph; injection hph with hph; subst hph; simp
        obtain ⟨hpa, hps⟩ := (plL_mem k).1 hpm
        obtain ⟨hplen, _⟩ := are_ok k hpa
        have hpl2 : (p.length : Int) ≤ 1000000 := by omega
        have hbe : ∀ (h : sSureN r (cntN plan) = true), lBefore plan p = false := fun h => plL_first k hph ha h
        have hprp : sProveP r p = true := by rw [prove_of h0 hpa]; exact hps
        have hip : rIsPlan r p (2 ^ r.ba.length - 1) = true := by rw [are_plan]; exact hpa
        rcases hG with ⟨hf, _, _⟩ | ⟨hf, _⟩
        · subst hf
          have hg0 : decide ((g.length : Int) = 0) = true := by
            rw [y01, Bool.true_and] at hfe
            cases hd : decide ((g.length : Int) = 0) with
            | true => rfl
            | false => rw [hd] at hfe; cases hfe
          cases hs : sSureN r (cntN plan) with
          | false =>
            simp only [gos, eq_self, Nat.reduceLT, Nat.reduceEqDiff, reduceIte, ↓reduceIte, tt, vgo, vout, vguard, callOf, vop, ev, cv, vbin, vint, isShift, isNilConst, vlen, vI, hg0]
            refine Wr.draw (by kernel_rfl) ?_
            simp only [gos, eq_self, Nat.reduceLT, Nat.reduceEqDiff, Nat.reduceAdd, reduceCtorEq, reduceIte, ↓reduceIte, tt, vgoD, voutD, vclsOk, vids, mayWrite, V.ids, vguard, callOf, vop, ev, cv, vbin, vint, isShift, isNilConst, vload, clsAt, rms]
            refine CD.pu (c_r9Full r k.len) ?_ rfl (by simp only [V.into, intoL, Bool.and_true, rm_into])
            rw [full_nat]
            simp only [gos, eq_self, Nat.reduceLT, Nat.reduceEqDiff, reduceIte, ↓reduceIte, vgoD, voutD, vguard, callOf, ev]
            refine CD.pu (c_r9IsPlan r k.len p hpl2 (2 ^ r.ba.length - 1) (full_lt k)) ?_ rfl (by simp only [V.into, intoL, cI_into, Bool.and_true, rm_into])
            rw [hip]
            simp only [gos, eq_self, Nat.reduceLT, Nat.reduceEqDiff, reduceCtorEq, reduceIte, ↓reduceIte, tt, vgoD, voutD, vclsOk, vids, mayWrite, V.ids, vguard, callOf, vop, ev, vload, rms]
            refine CD.pu (c_Room r hr) ?_ rfl (by simp only [V.into, intoL, Bool.and_true, rm_into])
            simp only [gos, eq_self, Nat.reduceLT, Nat.reduceEqDiff, reduceIte, ↓reduceIte, vgoD, voutD, vclsOk, vids, mayWrite, vguard, callOf, vop, ev]
            refine CD.pu (c_list9 p hpl2) ?_ rfl (by simp only [V.into, intoL, cI_into, Bool.and_true])
            simp only [gos, eq_self, Nat.reduceLT, Nat.reduceEqDiff, reduceIte, ↓reduceIte, vgoD, voutD, vguard, callOf, ev]
            refine CD.pu (c_ProvePlan r hr p hpl2) ?_ rfl (by simp only [V.into, intoL, vI_into, Bool.and_true, rm_into])
            rw [hprp]
            simp only [gos, eq_self, Nat.reduceLT, Nat.reduceEqDiff, reduceIte, ↓reduceIte, vgoD, voutD, vclsOk, vids, mayWrite, vguard, callOf, vop, ev, cv]
            refine Wr.at tabOk 0 ?_
            simp only [gos]
            refine Wa.mk (ρ2 := [(2, .int .u8 which), (3, .rop r.cs), (8, vi xx.2.1), (11, vI plan), (12, .bool xx.2.2)]) (h2 := []) (Wk.env (by subst hxx; simp [subE, Env.get, vI, hs])) ?_
            exact tail xx hA
          | true =>
            have hb2 := hbe hs
            simp only [gos, eq_self, Nat.reduceLT, Nat.reduceEqDiff, reduceIte, ↓reduceIte, tt, vgo, vout, vguard, callOf, vop, ev, cv, vbin, vint, isShift, isNilConst, vlen, vI, hg0]
            refine Wr.draw (by kernel_rfl) ?_
            simp only [gos, eq_self, Nat.reduceLT, Nat.reduceEqDiff, Nat.reduceAdd, reduceCtorEq, reduceIte, ↓reduceIte, tt, vgoD, voutD, vclsOk, vids, mayWrite, V.ids, vguard, callOf, vop, ev, cv, vbin, vint, isShift, isNilConst, vload, clsAt, rms]
            refine CD.pu (c_r9Full r k.len) ?_ rfl (by simp only [V.into, intoL, Bool.and_true, rm_into])
            rw [full_nat]
            simp only [gos, eq_self, Nat.reduceLT, Nat.reduceEqDiff, reduceIte, ↓reduceIte, vgoD, voutD, vguard, callOf, ev]
            refine CD.pu (c_r9IsPlan r k.len p hpl2 (2 ^ r.ba.length - 1) (full_lt k)) ?_ rfl (by simp only [V.into, intoL, cI_into, Bool.and_true, rm_into])
            rw [hip]
            simp only [gos, eq_self, Nat.reduceLT, Nat.reduceEqDiff, reduceCtorEq, reduceIte, ↓reduceIte, tt, vgoD, voutD, vclsOk, vids, mayWrite, V.ids, vguard, callOf, vop, ev, vload, rms]
            refine CD.pu (c_Room r hr) ?_ rfl (by simp only [V.into, intoL, Bool.and_true, rm_into])
            simp only [gos, eq_self, Nat.reduceLT, Nat.reduceEqDiff, reduceIte, ↓reduceIte, vgoD, voutD, vclsOk, vids, mayWrite, vguard, callOf, vop, ev]
            refine CD.pu (c_list9 p hpl2) ?_ rfl (by simp only [V.into, intoL, cI_into, Bool.and_true])
            simp only [gos, eq_self, Nat.reduceLT, Nat.reduceEqDiff, reduceIte, ↓reduceIte, vgoD, voutD, vguard, callOf, ev]
            refine CD.pu (c_ProvePlan r hr p hpl2) ?_ rfl (by simp only [V.into, intoL, vI_into, Bool.and_true, rm_into])
            rw [hprp]
            simp only [gos, eq_self, Nat.reduceLT, Nat.reduceEqDiff, reduceIte, ↓reduceIte, vgoD, voutD, vclsOk, vids, mayWrite, vguard, callOf, vop, ev]
            refine CD.pu (c_rBefore plan p hp) ?_ rfl (by simp only [V.into, intoL, cI_into, Bool.and_true])
            rw [hb2]
            simp only [gos, eq_self, Nat.reduceLT, Nat.reduceEqDiff, reduceIte, ↓reduceIte, vgoD, voutD, vclsOk, vids, mayWrite, vguard, callOf, vop, ev]
            refine Wr.at tabOk 0 ?_
            simp only [gos]
            refine Wa.mk (ρ2 := [(2, .int .u8 which), (3, .rop r.cs), (8, vi xx.2.1), (11, vI plan), (12, .bool xx.2.2)]) (h2 := []) (Wk.env (by subst hxx; simp [subE, Env.get, vI, hs])) ?_
            exact tail xx hA
        · exfalso
          subst hf
          rw [y01, y11] at hfe
          cases hfe
      · subst he
        have hs : sSureN r (cntN plan) = false := by
          cases hs : sSureN r (cntN plan) with
          | false => rfl
          | true => have := hsp hs; omega
        rw [hs] at hxx ⊢
        rcases hG with ⟨hf, _, _⟩ | ⟨hf, _⟩
        · subst hf
          have hg0 : decide ((g.length : Int) = 0) = false := by
            rw [y01, y11, Bool.true_and] at hfe
            cases hd : decide ((g.length : Int) = 0) with
            | false => rfl
            | true => rw [hd] at hfe; cases hfe
          simp only [gos, eq_self, Nat.reduceLT, Nat.reduceEqDiff, reduceIte, ↓reduceIte, tt, vgo, vout, vguard, callOf, vop, ev, cv, vbin, vint, isShift, isNilConst, vlen, vI, y10, y11, hg0]
          refine Wr.draw (by kernel_rfl) ?_
          simp only [gos, eq_self, Nat.reduceLT, Nat.reduceEqDiff, Nat.reduceAdd, reduceIte, ↓reduceIte, vgoD, voutD, vclsOk, vids, mayWrite, vguard, callOf, vop, ev, cv, vbin, vint, isShift, isNilConst, clsAt, y11]
          refine Wr.at tabOk 0 ?_
          simp only [gos]
          refine Wa.mk (ρ2 := [(2, .int .u8 which), (3, .rop r.cs), (8, vi xx.2.1), (11, vI plan), (12, .bool xx.2.2)]) (h2 := []) (Wk.env (by subst hxx; simp [subE, Env.get, vI])) ?_
          exact tail xx hA
        · subst hf
          simp only [gos, eq_self, Nat.reduceLT, Nat.reduceEqDiff, reduceIte, ↓reduceIte, tt, vgo, vout, vguard, callOf, vop, ev, cv, vbin, vint, isShift, isNilConst, vI, y10, y11]
          refine Wr.draw (by kernel_rfl) ?_
          simp only [gos, eq_self, Nat.reduceLT, Nat.reduceEqDiff, Nat.reduceAdd, reduceIte, ↓reduceIte, vgoD, voutD, vclsOk, vids, mayWrite, vguard, callOf, vop, ev, cv, vbin, vint, isShift, isNilConst, clsAt, y11]
          refine Wr.at tabOk 0 ?_
          simp only [gos]
          refine Wa.mk (ρ2 := [(2, .int .u8 which), (3, .rop r.cs), (8, vi xx.2.1), (11, vI plan), (12, .bool xx.2.2)]) (h2 := []) (Wk.env (by subst hxx; simp [subE, Env.get, vI])) ?_
          exact tail xx hA
    case tail =>
      have y00 : ((0 : Int) != 0) = false := rfl
      rintro ⟨p2, e2, is⟩ ⟨hEe, his⟩
      simp only at hEe his ⊢
      by_cases hb0 : (r.ba.length : Int) = 0
      · have hd : decide ((r.ba.length : Int) = 0) = true := by simp [hb0]
        simp only [gos, eq_self, Nat.reduceLT, Nat.reduceEqDiff, reduceCtorEq, reduceIte, ↓reduceIte, tt, vgo, vout, vguard, callOf, vop, ev, cv, vbin, vint, isShift, isNilConst, vload, vlen, rms, vR, hd]
        refine Cl.pu c_awake9 ?_
        simp only [gos, eq_self, Nat.reduceLT, reduceIte, ↓reduceIte, vgo, vout, vguard, callOf, vop, ev]
        subst hQ
        exact FnPost.plain trivial (v := .bool true) (fun h2 e => by rfl) WkV.refl rfl
      have hd : decide ((r.ba.length : Int) = 0) = false := decide_eq_false hb0
      have wW := i64_in (show -9223372036854775808 ≤ which by omega) (show which ≤ 9223372036854775807 by omega)
      have hm3 := tmod_le hwh.1 (s := (r.ba.length : Int)) (by omega)
      obtain ⟨i, hi⟩ : ∃ i : Nat, (i : Int) = which.tmod (r.ba.length : Int) := ⟨(which.tmod (r.ba.length : Int)).toNat, by omega⟩
      have hil : i < r.ba.length := by omega
      have hin : sIn (i : Int) 0 ((r.ba.length : Int) - 1) = true := by simp [sIn]; omega
      have eH : sHoursR r i = (sHoursL r i, 0) := by rw [sHoursR, if_pos h0, hin, if_pos rfl, Int.toNat_natCast]
      have hne := hours_ne k hil
      have hz : (decide (((sHoursL r i).length : Int) = 0) != (e2 != 0)) = false := by
        rcases hEe with ⟨h1, h2⟩ | ⟨h1, h2⟩
        · have : sHoursL r i ≠ [] := fun h => h2 (hne.1 h)
          have h3 := List.length_pos_iff.2 this
          rw [h1, decide_eq_false (by omega)]; rfl
        · have : sHoursL r i = [] := hne.2 h2
          rw [h1, this]; rfl
      simp only [gos, eq_self, Nat.reduceLT, Nat.reduceEqDiff, reduceCtorEq, reduceIte, ↓reduceIte, tt, vgo, vout, vguard, callOf, vop, ev, cv, vbin, vint, isShift, isNilConst, vload, vlen, rms, vR, wW, hb0, ← hi]
      refine Cl.pu (c_Room r hr) ?_ rfl (by simp only [V.into, intoL, Bool.and_true, rm_into])
      simp only [gos, eq_self, Nat.reduceLT, Nat.reduceEqDiff, reduceIte, ↓reduceIte, vgo, vout, vguard, callOf, vop, ev]
      refine Cl.pu (c_bHours r hr i ⟨by omega, by omega⟩) ?_ rfl (by simp only [V.into, intoL, Bool.and_true, rm_into])
      rw [eH]
      simp only [gos, eq_self, Nat.reduceLT, Nat.reduceEqDiff, reduceIte, ↓reduceIte, tt, vgo, vout, vguard, callOf, vop, ev, cv, vbin, vint, isShift, isNilConst, vlen, vI, hz]
      have hHm : is = true → gi plan i ∈ sHoursL r i := fun h => hours_mem k hil ha (by rw [← his]; exact h)
      have hHr : ∀ x ∈ sHoursL r i, (gR r.ba i).lo ≤ x ∧ x ≤ (gR r.ba i).hi := fun x hx => mem_rangeI.1 (List.mem_filter.1 hx).1
      have hHp := hours_pair r i
      have hHl : (sHoursL r i).length ≤ 1000 := by
        have h1 : (sHoursL r i).length ≤ (rangeI (gR r.ba i).lo (gR r.ba i).hi).length := List.length_filter_le ..
        have h2 := rangeI_len (gR r.ba i).lo (gR r.ba i).hi
        have h3 := k.ba _ (List.mem_of_getElem? (gR_get (show (i : Int) < r.ba.length by omega)))
        omega
      generalize sHoursL r i = H at *
      have hab := cR_at (Int.natCast_nonneg i) (show (i : Int) < r.ba.length by omega)
      rw [Int.toNat_natCast] at hab
      have hibl : (i : Int) < (r.ba.length : Int) := by omega
      have hipl : (i : Int) < (plan.length : Int) := by omega
      have hap := cI_at (Int.natCast_nonneg i) hipl
      rw [Int.toNat_natCast, Nat.mul_one] at hap
      refine W.loop tabOk mixed (fun j : Nat => ([(3, .rop r.cs), (11, vI plan), (13, vi i), (14, vI H), (16, .bool (!is || (H.take j).any fun y => decide (y = gi plan i))), (17, vi j)], [])) (fun j => H.length - j) (fun j => j ≤ H.length) 0 (by omega) (Wk.env (by simp [subE, Env.get, vI])) ?_
      intro j hj
      by_cases hjl : (j : Int) < H.length
      · have hat := cI_at (Int.natCast_nonneg j) hjl
        rw [Int.toNat_natCast, Nat.mul_one] at hat
        have hx := hHr _ (gi_mem (l := H) (i := j) (by omega))
        have hsin : sIn (gi H j) (gR r.ba i).lo (gR r.ba i).hi = true := by simp [sIn]; exact hx
        have hsn := any_snocG H (gi plan i) hjl
        simp only [gos, eq_self, Nat.reduceLT, Nat.reduceEqDiff, reduceIte, ↓reduceIte, tt, vgo, vout, vguard, callOf, vop, ev, vbin, vint, isShift, isNilConst, vlen, vI, hjl]
        refine Wr.draw (by kernel_rfl) ?_
        by_cases hj0 : 0 < (j : Int)
        · have hjm : (j : Int) - 1 = ((j - 1 : Nat) : Int) := by omega
          have w1 : IntKind.i64.wrap ((j : Int) - 1) = ((j - 1 : Nat) : Int) := by rw [i64_in (by omega) (by omega)]; exact hjm
          have hjml : ((j - 1 : Nat) : Int) < H.length := by omega
          have hat2 := cI_at (Int.natCast_nonneg (j - 1)) hjml
          rw [Int.toNat_natCast, Nat.mul_one] at hat2
          have hlt := pair_gi hHp (i := j - 1) (by omega)
          rw [show j - 1 + 1 = j by omega] at hlt
          have hle : ¬ gi H j ≤ gi H ((j - 1 : Nat) : Int) := by omega
          simp only [gos, eq_self, Nat.reduceLT, Nat.reduceEqDiff, Nat.reduceAdd, reduceCtorEq, reduceIte, ↓reduceIte, tt, vgoD, voutD, vclsOk, vids, mayWrite, V.ids, vguard, callOf, vop, ev, vload, clsAt, rms, vR, hjl, hat, hibl, hab, Int.natCast_nonneg, Int.toNat_natCast, Nat.mul_one]
          refine CD.pu (c_rIn (gi H j) (gR r.ba i).lo (gR r.ba i).hi) ?_
          rw [hsin]
          simp only [gos, eq_self, Nat.reduceLT, Nat.reduceEqDiff, reduceCtorEq, reduceIte, ↓reduceIte, tt, vgoD, voutD, vclsOk, vids, mayWrite, V.ids, vguard, callOf, vop, ev, cv, vbin, vint, isShift, isNilConst, vload, hj0, hjl, hat, w1, hjml, hat2, hle, Int.natCast_nonneg, Int.toNat_natCast, Nat.mul_one]
          refine Wr.draw (by kernel_rfl) ?_
          cases hf : (!is || (H.take j).any fun y => decide (y = gi plan i)) with
          | true =>
            simp only [gos, eq_self, Nat.reduceLT, Nat.reduceEqDiff, Nat.reduceAdd, reduceIte, ↓reduceIte, vgo, vout, vgoD, voutD, vclsOk, vids, mayWrite, vguard, callOf, vop, ev, cv, vbin, vint, isShift, isNilConst, clsAt]
            refine Nx.mk (j + 1) (show H.length - (j + 1) < H.length - j by omega) (show j + 1 ≤ H.length by omega) (Wk.env ?_)
            rw [hsn, ← Bool.or_assoc, hf]
            simp [subE, Env.get, i64_succ (show (j : Int) < 9223372036854775807 by omega)]
          | false =>
            simp only [gos, eq_self, Nat.reduceLT, Nat.reduceEqDiff, Nat.reduceAdd, reduceCtorEq, reduceIte, ↓reduceIte, tt, vgo, vout, vgoD, voutD, vclsOk, vids, mayWrite, V.ids, vguard, callOf, vop, ev, cv, vbin, vint, isShift, isNilConst, vload, clsAt, hjl, hat, hipl, hap, Int.natCast_nonneg, Int.toNat_natCast, Nat.mul_one]
            refine Nx.mk (j + 1) (show H.length - (j + 1) < H.length - j by omega) (show j + 1 ≤ H.length by omega) (Wk.env ?_)
            rw [hsn, ← Bool.or_assoc, hf]
            simp [subE, Env.get, i64_succ (show (j : Int) < 9223372036854775807 by omega)]
        · simp only [gos, eq_self, Nat.reduceLT, Nat.reduceEqDiff, Nat.reduceAdd, reduceCtorEq, reduceIte, ↓reduceIte, tt, vgoD, voutD, vclsOk, vids, mayWrite, V.ids, vguard, callOf, vop, ev, vload, clsAt, rms, vR, hjl, hat, hibl, hab, Int.natCast_nonneg, Int.toNat_natCast, Nat.mul_one]
          refine CD.pu (c_rIn (gi H j) (gR r.ba i).lo (gR r.ba i).hi) ?_
          rw [hsin]
          simp only [gos, eq_self, Nat.reduceLT, Nat.reduceEqDiff, reduceIte, ↓reduceIte, vgoD, voutD, vclsOk, vids, mayWrite, vguard, callOf, vop, ev, cv, vbin, vint, isShift, isNilConst, hj0]
          refine Wr.draw (by kernel_rfl) ?_
          cases hf : (!is || (H.take j).any fun y => decide (y = gi plan i)) with
          | true =>
            simp only [gos, eq_self, Nat.reduceLT, Nat.reduceEqDiff, Nat.reduceAdd, reduceIte, ↓reduceIte, vgo, vout, vgoD, voutD, vclsOk, vids, mayWrite, vguard, callOf, vop, ev, cv, vbin, vint, isShift, isNilConst, clsAt]
            refine Nx.mk (j + 1) (show H.length - (j + 1) < H.length - j by omega) (show j + 1 ≤ H.length by omega) (Wk.env ?_)
            rw [hsn, ← Bool.or_assoc, hf]
            simp [subE, Env.get, i64_succ (show (j : Int) < 9223372036854775807 by omega)]
          | false =>
            simp only [gos, eq_self, Nat.reduceLT, Nat.reduceEqDiff, Nat.reduceAdd, reduceCtorEq, reduceIte, ↓reduceIte, tt, vgo, vout, vgoD, voutD, vclsOk, vids, mayWrite, V.ids, vguard, callOf, vop, ev, cv, vbin, vint, isShift, isNilConst, vload, clsAt, hjl, hat, hipl, hap, Int.natCast_nonneg, Int.toNat_natCast, Nat.mul_one]
            refine Nx.mk (j + 1) (show H.length - (j + 1) < H.length - j by omega) (show j + 1 ≤ H.length by omega) (Wk.env ?_)
            rw [hsn, ← Bool.or_assoc, hf]
            simp [subE, Env.get, i64_succ (show (j : Int) < 9223372036854775807 by omega)]
      · have hje : j = H.length := by omega
        have hfin : (!is || (H.take j).any fun y => decide (y = gi plan i)) = true := by
          rw [hje, List.take_length]
          cases hi2 : is with
          | false => rfl
          | true =>
            rw [Bool.not_true, Bool.false_or, List.any_eq_true]
            exact ⟨_, hHm hi2, by simp⟩
        rw [hfin]
        simp only [gos, eq_self, Nat.reduceLT, Nat.reduceEqDiff, reduceIte, ↓reduceIte, tt, vgo, vout, vguard, callOf, vop, ev, vbin, vint, isShift, isNilConst, vlen, vI, hjl]
        refine Cl.pu c_awake9 ?_
        simp only [gos, eq_self, Nat.reduceLT, Nat.reduceEqDiff, reduceIte, ↓reduceIte, vgo, vout, vguard, callOf, vop, ev]
        subst hQ
        exact FnPost.plain trivial (v := .bool true) (fun h2 e => by rfl) WkV.refl rfl
end Go.Vm
