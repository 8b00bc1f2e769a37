/-
The Go law CopperEnds returns true for every input, and its arguments read behind the call as they read before. Conditions: none.
-/
import Derived.Test.YtjbgmnpbpmljaaaA3
set_option linter.unusedVariables false
set_option linter.unusedSimpArgs false
namespace Go.Vm
/-! ### verdicts are the same -/
theorem sVerdict_01 {α : Type} (p : α → Bool) {l : List α} (hne : l ≠ []) : sVerdict (sBounds (l.map fun s => if p s = true then 1 else 0)) = if l.all p then 1 else if l.any p then 3 else 2 := by
  have hm : ∀ x ∈ l.map (fun s => if p s = true then (1 : Int) else 0), x = 0 ∨ x = 1 := fun x hx => by
    obtain ⟨s, _, rfl⟩ := List.mem_map.1 hx
    by_cases h : p s = true <;> simp [h]
  have hone : (1 : Int) ∈ l.map (fun s => if p s = true then (1 : Int) else 0) ↔ l.any p = true := by
    simp only [List.mem_map, List.any_eq_true]
    constructor
    · rintro ⟨s, h1, h2⟩
      refine ⟨s, h1, ?_⟩
      by_cases h : p s = true
      · exact h
      · rw [if_neg h] at h2; cases h2
    · rintro ⟨s, h1, h2⟩; exact ⟨s, h1, if_pos h2⟩
  have hzero : (0 : Int) ∈ l.map (fun s => if p s = true then (1 : Int) else 0) ↔ ¬ l.all p = true := by
    simp only [List.mem_map, List.all_eq_true]
    constructor
    · rintro ⟨s, h1, h2⟩ ha
      rw [if_pos (ha s h1)] at h2; cases h2
    · intro h
      cases hf : l.find? (fun s => !p s) with
      | some s =>
        have h1 := List.find?_some hf
        exact ⟨s, List.mem_of_find?_eq_some hf, if_neg (by simpa using h1)⟩
      | none =>
        exfalso; apply h
        intro s hs
        have := List.find?_eq_none.1 hf s hs
        simpa using this
  generalize hns : l.map (fun s => if p s = true then (1 : Int) else 0) = ns at hm hone hzero ⊢
  cases ns with
  | nil => exact absurd (List.map_eq_nil_iff.1 hns) hne
  | cons n r =>
    have e : sBounds (n :: r) = (n :: r).foldl sWider ⟨n, n⟩ := rfl
    obtain ⟨h1, h2, h3, h4, h5, h6⟩ := fold_wider (n :: r) ⟨n, n⟩
    rw [e]
    generalize (n :: r).foldl sWider ⟨n, n⟩ = A at h1 h2 h3 h4 h5 h6 ⊢
    have m1 : A.lo ∈ n :: r := by
      rcases h3 with h | h
      · simp only at h; rw [h]; simp
      · exact h
    have m2 : A.hi ∈ n :: r := by
      rcases h6 with h | h
      · simp only at h; rw [h]; simp
      · exact h
    have b1 := hm _ m1
    have b2 := hm _ m2
    by_cases ha : l.all p = true
    · have hlo : A.lo = 1 := by
        rcases b1 with b | b
        · rw [b] at m1; exact absurd ha (hzero.1 m1)
        · exact b
      rw [if_pos ha, sVerdict, if_pos (by omega)]
    · have hlo : A.lo = 0 := by
        have := h2 _ (hzero.2 ha)
        omega
      rw [if_neg ha, sVerdict, if_neg (by omega)]
      by_cases hn : l.any p = true
      · have := h5 _ (hone.2 hn)
        rw [if_pos hn, if_neg (by omega)]
      · have : A.hi = 0 := by
          rcases b2 with b | b
          · exact b
          · rw [b] at m2; exact absurd (hone.1 m2) hn
        rw [if_neg hn, if_pos this]
theorem rVerdict_count {α : Type} (q : α → Bool) {l : List α} (hne : l ≠ []) : rVerdict (l.countP q) l.length = if l.all q then 1 else if l.any q then 3 else 2 := by
  have h1 : l.countP q = l.length ↔ l.all q = true := by rw [List.countP_eq_length, List.all_eq_true]
  have h2 : l.countP q = 0 ↔ ¬ l.any q = true := by
    rw [List.countP_eq_zero, List.any_eq_true]
    exact ⟨fun h ⟨x, hx, hq⟩ => h x hx hq, fun h x hx hq => h ⟨x, hx, hq⟩⟩
  have hl : l.length ≠ 0 := fun h => hne (List.length_eq_zero_iff.1 h)
  unfold rVerdict
  by_cases ha : l.all q = true
  · rw [if_pos (by have := h1.2 ha; omega), if_pos ha]
  · rw [if_neg (fun h => ha (h1.1 (by omega))), if_neg ha]
    by_cases hn : l.any q = true
    · rw [if_neg (fun h => (h2.1 (by omega)) hn), if_pos hn]
    · rw [if_pos (by have := h2.2 hn; omega), if_neg hn]
theorem verdict_same {c : Cu} (k0 : CuOk c) (hne : sTruth c ≠ []) (p : Sc → Bool) (q : Tr2 → Bool) (h : ∀ t, p (tS t) = q t) :
    sVerdict (sBounds ((sTruth c).map fun s => if p s = true then 1 else 0)) = rVerdict ((rTruths c).countP q) (rTruths c).length := by
  have hne2 : rTruths c ≠ [] := fun e => hne ((same_nil k0).2 e)
  rw [sVerdict_01 p hne, rVerdict_count q hne2]
  have e1 : (sTruth c).all p = (rTruths c).all q := by
    rw [Bool.eq_iff_iff, List.all_eq_true, List.all_eq_true]
    constructor
    · intro ha t ht; rw [← h]; exact ha _ ((same_truths k0 _).2 ⟨t, ht, rfl⟩)
    · intro ha s hs
      obtain ⟨t, ht, rfl⟩ := (same_truths k0 s).1 hs
      rw [h]; exact ha t ht
  have e2 : (sTruth c).any p = (rTruths c).any q := by
    rw [Bool.eq_iff_iff, List.any_eq_true, List.any_eq_true]
    constructor
    · rintro ⟨s, hs, hp⟩
      obtain ⟨t, ht, rfl⟩ := (same_truths k0 s).1 hs
      exact ⟨t, ht, by rw [← h]; exact hp⟩
    · rintro ⟨t, ht, hq⟩
      exact ⟨tS t, (same_truths k0 _).2 ⟨t, ht, rfl⟩, by rw [h]; exact hq⟩
  rw [e1, e2]
theorem keeps_same {c : Cu} (A : AskOk c true) {i : Nat} (hi : (i : Int) ≤ c.last) : kpF c i = rKeeps c (rTruths c) i := by
  exact verdict_same A.k0 A.ne (fun s => gB (sPast c c.coal c.want s).kept i) (fun t => keptI c c.coal c.want t i) fun t => past_kept c.coal c.want (tS t) hi
/-- All promises are kept in a truth. -/
def wholeI (c : Cu) (coal want : List Int) (t : Tr2) : Bool := (List.range (c.last + 1).toNat).all fun i => keptI c coal want t i
def rWholes (c : Cu) (l : List Tr2) (coal want : List Int) : Int := rVerdict (l.countP fun t => wholeI c coal want t) l.length
theorem wholes_same {c : Cu} (k0 : CuOk c) (hne : sTruth c ≠ []) (coal want : List Int) : sVerdict (sBounds ((sTruth c).map fun s => if (sPast c coal want s).kept.any (fun y => decide (false = y)) then 0 else 1)) = rWholes c (rTruths c) coal want := by
  have e : (fun s : Sc => if (sPast c coal want s).kept.any (fun y => decide (false = y)) = true then (0 : Int) else 1) = fun s => if sKept c coal want s = true then 1 else 0 := by
    funext s
    by_cases h : ((sPast c coal want s).kept.any fun y => decide (false = y)) = true
    · have h2 : sKept c coal want s = false := by rw [sKept, h]; rfl
      rw [if_pos h, if_neg (by rw [h2]; simp)]
    · have h2 : sKept c coal want s = true := by
        rw [Bool.not_eq_true] at h
        rw [sKept, h]; rfl
      rw [if_neg h, if_pos h2]
  rw [e]
  refine verdict_same k0 hne (fun s => sKept c coal want s) (fun t => wholeI c coal want t) fun t => ?_
  simp only [sKept]
  rw [past_whole, Bool.not_not]
  rfl
/-- The numbers of two lists, added. -/
def addL (a b : List Int) : List Int := (List.range a.length).map fun (i : Nat) => gi a i + gi b i
theorem sAdd_eq {a b : List Int} : sAdd a b a.length = addL a b := by
  refine List.ext_getElem? fun j => ?_
  by_cases hj : j < a.length
  · have h1 := sAdd_get a b a.length j hj
    rw [if_pos hj] at h1
    have hl := sAdd_len a b a.length
    rw [gi_get (l := sAdd a b a.length) (by omega), h1, addL, List.getElem?_map, List.getElem?_range hj]
    rfl
  · rw [List.getElem?_eq_none (by rw [sAdd_len]; omega), List.getElem?_eq_none (by simp [addL]; omega)]
theorem with_same {c : Cu} (k0 : CuOk c) (hne : sTruth c ≠ []) {more : List Int} (hm : more.length = c.want.length) : sWith c (sTruth c) more = rWholes c (rTruths c) c.coal (addL c.want more) := by
  have := wholes_same k0 hne c.coal (addL c.want more)
  rw [← this, sWith, hm, sAdd_eq]
end Go.Vm
set_option linter.unusedVariables false
set_option linter.unusedSimpArgs false
set_option maxRecDepth 100000
namespace Go.Vm
open Go.Proofs
/-! ### the reference: all promises; spare buckets; the hour that may lack -/
set_option maxHeartbeats 1000000 in
theorem c_rWhole (c : Cu) (t : Tr2) (coal want : List Int) (k : TrOk c t coal want) : Pu Try.prog (.fn 88 [] []) [.agg c.cs, .agg t.cs, vI coal, vI want] (.bool (wholeI c coal want t)) := by
  have hl := k.play.last
  refine Ev.fn Try.func88 rfl rfl (Fn.body tabOk Try.func88 rfl (Nat.le_of_ble_eq_true rfl) (Ks.ok (fz := (fzn [])) (cl := (cln [])) tabOk mixed ?_))
  generalize hQ : FnPost tt Try.f88 _ _ = Q
  simp only [Try.f88, List.nil_append, List.append_nil, List.cons_append, argsEnv, Nat.reduceAdd]
  have hts : t.cs.take 2 = t.cs := rfl
  have htn : t.cs.length = 2 := rfl
  simp only [gos, if_true, if_false, ne_eq, eq_self, Nat.reduceLT, Nat.reduceEqDiff, Nat.reduceAdd, Nat.reduceMul, Nat.reduceLeDiff, Nat.reduceBEq, reduceCtorEq, reduceIte, Array.toList, ↓reduceIte, tt, vgo, vout, vgoD, voutD, vclsOk, vids, mayWrite, V.ids, V.mids, vguard, callOf, vop, ev, cv, vbin, vint, isShift, isNilConst, vnil, isNilSlice, vload, vlen, newRow, vfill, vslice, entOf, vappend, srcOf, vcopy, vlookup, vupdate, mapOk, keyOf, intsOf, clsAt]
  refine W.loop tabOk mixed (fun i : Nat => ([(2, vI coal), (3, vI want), (4, .rop c.cs), (5, .rop t.cs), (9, vi i)], [])) (fun i => (c.last + 1).toNat - i) (fun i => (i : Int) ≤ c.last + 1 ∧ ∀ j : Nat, j < i → keptI c coal want t j = true) 0 ⟨by omega, fun j hj => by omega⟩ (Wk.env (by simp [subE, Env.get])) ?_
  rintro i ⟨hi, hno⟩
  by_cases hil : (i : Int) ≤ c.last
  · simp only [gos, if_true, if_false, ne_eq, eq_self, Nat.reduceLT, Nat.reduceEqDiff, Nat.reduceAdd, Nat.reduceMul, Nat.reduceLeDiff, Nat.reduceBEq, reduceCtorEq, reduceIte, Array.toList, ↓reduceIte, tt, vgo, vout, vgoD, voutD, vclsOk, vids, mayWrite, V.ids, V.mids, vguard, callOf, vop, ev, cv, vbin, vint, isShift, isNilConst, vnil, isNilSlice, vload, vlen, newRow, vfill, vslice, entOf, vappend, srcOf, vcopy, vlookup, vupdate, mapOk, keyOf, intsOf, clsAt, hil, hts, htn]
    refine Cl.pu (c_rKept c t coal want k i hil) ?_ rfl (by simp only [V.into, intoL, cB_into, vB_into, cI_into, cR_into, cD_into, cS_into, vS_into, vI_into, vR_into, vD_into, cu_into, Bool.true_and, Bool.and_true, Tr2.cs])
    rw [show decide (gi want i ≤ (sHeat c (tS t) coal want i).tdiv c.per) = keptI c coal want t i from rfl]
    cases hk : keptI c coal want t i with
    | true =>
      simp only [gos, if_true, if_false, ne_eq, eq_self, Nat.reduceLT, Nat.reduceEqDiff, Nat.reduceAdd, Nat.reduceMul, Nat.reduceLeDiff, Nat.reduceBEq, reduceCtorEq, reduceIte, Array.toList, ↓reduceIte, tt, vgo, vout, vgoD, voutD, vclsOk, vids, mayWrite, V.ids, V.mids, vguard, callOf, vop, ev, cv, vbin, vint, isShift, isNilConst, vnil, isNilSlice, vload, vlen, newRow, vfill, vslice, entOf, vappend, srcOf, vcopy, vlookup, vupdate, mapOk, keyOf, intsOf, clsAt]
      refine Nx.mk (i + 1) (show (c.last + 1).toNat - (i + 1) < (c.last + 1).toNat - i by omega) ⟨by omega, fun j hj => ?_⟩ (Wk.env (by simp [subE, Env.get, i64_succ (show (i : Int) < 9223372036854775807 by omega)]))
      rcases Nat.lt_succ_iff_lt_or_eq.1 hj with h | rfl
      · exact hno j h
      · exact hk
    | false =>
      simp only [gos, if_true, if_false, ne_eq, eq_self, Nat.reduceLT, Nat.reduceEqDiff, Nat.reduceAdd, Nat.reduceMul, Nat.reduceLeDiff, Nat.reduceBEq, reduceCtorEq, reduceIte, Array.toList, ↓reduceIte, tt, vgo, vout, vgoD, voutD, vclsOk, vids, mayWrite, V.ids, V.mids, vguard, callOf, vop, ev, cv, vbin, vint, isShift, isNilConst, vnil, isNilSlice, vload, vlen, newRow, vfill, vslice, entOf, vappend, srcOf, vcopy, vlookup, vupdate, mapOk, keyOf, intsOf, clsAt]
      have hf : wholeI c coal want t = false := by
        rw [Bool.eq_false_iff]; intro ha
        simp only [wholeI, List.all_eq_true, List.mem_range] at ha
        rw [ha i (by omega)] at hk; cases hk
      subst hQ
      exact FnPost.plain trivial (fun h2 e => by first | rfl | (simp only [Try.f88, vres, vresL, vres1, e _, gos, if_true, if_false, ne_eq, eq_self, Nat.reduceLT, Nat.reduceEqDiff, Nat.reduceAdd, Nat.reduceMul, Nat.reduceLeDiff, Nat.reduceBEq, reduceCtorEq, reduceIte, Array.toList, ↓reduceIte, tt, vgo, vout, vgoD, voutD, vclsOk, vids, mayWrite, V.ids, V.mids, vguard, callOf, vop, ev, cv, vbin, vint, isShift, isNilConst, vnil, isNilSlice, vload, vlen, newRow, vfill, vslice, entOf, vappend, srcOf, vcopy, vlookup, vupdate, mapOk, keyOf, intsOf, clsAt]; try rfl)) (WkV.pure (by simp only [V.into, intoL, cB_into, vB_into, cI_into, cR_into, cD_into, cS_into, vS_into, vI_into, vR_into, vD_into, cu_into, Bool.true_and, Bool.and_true])) ⟨by rw [hf], rfl⟩
  · simp only [gos, if_true, if_false, ne_eq, eq_self, Nat.reduceLT, Nat.reduceEqDiff, Nat.reduceAdd, Nat.reduceMul, Nat.reduceLeDiff, Nat.reduceBEq, reduceCtorEq, reduceIte, Array.toList, ↓reduceIte, tt, vgo, vout, vgoD, voutD, vclsOk, vids, mayWrite, V.ids, V.mids, vguard, callOf, vop, ev, cv, vbin, vint, isShift, isNilConst, vnil, isNilSlice, vload, vlen, newRow, vfill, vslice, entOf, vappend, srcOf, vcopy, vlookup, vupdate, mapOk, keyOf, intsOf, clsAt, hil]
    have ht : wholeI c coal want t = true := by
      simp only [wholeI, List.all_eq_true, List.mem_range]
      exact fun j hj => hno j (by omega)
    subst hQ
    exact FnPost.plain trivial (fun h2 e => by first | rfl | (simp only [Try.f88, vres, vresL, vres1, e _, gos, if_true, if_false, ne_eq, eq_self, Nat.reduceLT, Nat.reduceEqDiff, Nat.reduceAdd, Nat.reduceMul, Nat.reduceLeDiff, Nat.reduceBEq, reduceCtorEq, reduceIte, Array.toList, ↓reduceIte, tt, vgo, vout, vgoD, voutD, vclsOk, vids, mayWrite, V.ids, V.mids, vguard, callOf, vop, ev, cv, vbin, vint, isShift, isNilConst, vnil, isNilSlice, vload, vlen, newRow, vfill, vslice, entOf, vappend, srcOf, vcopy, vlookup, vupdate, mapOk, keyOf, intsOf, clsAt]; try rfl)) (WkV.pure (by simp only [V.into, intoL, cB_into, vB_into, cI_into, cR_into, cD_into, cS_into, vS_into, vI_into, vR_into, vD_into, cu_into, Bool.true_and, Bool.and_true])) ⟨by rw [ht], rfl⟩
set_option maxHeartbeats 1000000 in
theorem c_rWholes (c : Cu) (l : List Tr2) (coal want : List Int) (hl : (l.length : Int) ≤ 1000000) (hok : ∀ t ∈ l, TrOk c t coal want) : Pu Try.prog (.fn 33 [] []) [.agg c.cs, vT l, vI coal, vI want] (vi (rWholes c l coal want)) := by
  refine Ev.fn Try.func33 rfl rfl (Fn.body tabOk Try.func33 rfl (Nat.le_of_ble_eq_true rfl) (Ks.ok (fz := (fzn [])) (cl := (cln [(5, .d tg0 [cP, cP, cP, cP, cP, cP, cP, cP])])) tabOk mixed ?_))
  generalize hQ : FnPost tt Try.f33 _ _ = Q
  simp only [Try.f33, List.nil_append, List.append_nil, List.cons_append, argsEnv, Nat.reduceAdd]
  simp only [gos, if_true, if_false, ne_eq, eq_self, Nat.reduceLT, Nat.reduceEqDiff, Nat.reduceAdd, Nat.reduceMul, Nat.reduceLeDiff, Nat.reduceBEq, reduceCtorEq, reduceIte, Array.toList, ↓reduceIte, tt, vgo, vout, vgoD, voutD, vclsOk, vids, mayWrite, V.ids, V.mids, vguard, callOf, vop, ev, cv, vbin, vint, isShift, isNilConst, vnil, isNilSlice, vload, vlen, newRow, vfill, vslice, entOf, vappend, srcOf, vcopy, vlookup, vupdate, mapOk, keyOf, intsOf, clsAt]
  refine W.loop tabOk mixed (fun i : Nat => ([(1, vT l), (2, vI coal), (3, vI want), (4, .rop c.cs), (9, vi ((l.take i).countP fun t => wholeI c coal want t)), (10, vi i)], [])) (fun i => l.length - i) (fun i => i ≤ l.length) 0 (by omega) (Wk.env (by simp [subE, Env.get])) ?_
  intro i hi
  by_cases hil : (i : Int) < l.length
  · have ht := hok _ (List.mem_of_getElem? (gT_get hil))
    have hcs := count_snoc l (fun t => wholeI c coal want t) hil
    have hle : (l.take i).countP (fun t => wholeI c coal want t) ≤ i := Nat.le_trans List.countP_le_length (by rw [List.length_take]; exact Nat.min_le_left _ _)
    simp only [gos, if_true, if_false, ne_eq, eq_self, Nat.reduceLT, Nat.reduceEqDiff, Nat.reduceAdd, Nat.reduceMul, Nat.reduceLeDiff, Nat.reduceBEq, reduceCtorEq, reduceIte, Array.toList, ↓reduceIte, tt, vgo, vout, vgoD, voutD, vclsOk, vids, mayWrite, V.ids, V.mids, vguard, callOf, vop, ev, cv, vbin, vint, isShift, isNilConst, vnil, isNilSlice, vload, vlen, newRow, vfill, vslice, entOf, vappend, srcOf, vcopy, vlookup, vupdate, mapOk, keyOf, intsOf, clsAt, vT, hil]
    refine Wr.draw (by kernel_rfl) ?_
    simp only [gos, if_true, if_false, ne_eq, eq_self, Nat.reduceLT, Nat.reduceEqDiff, Nat.reduceAdd, Nat.reduceMul, Nat.reduceLeDiff, Nat.reduceBEq, reduceCtorEq, reduceIte, Array.toList, ↓reduceIte, tt, vgo, vout, vgoD, voutD, vclsOk, vids, mayWrite, V.ids, V.mids, vguard, callOf, vop, ev, cv, vbin, vint, isShift, isNilConst, vnil, isNilSlice, vload, vlen, newRow, vfill, vslice, entOf, vappend, srcOf, vcopy, vlookup, vupdate, mapOk, keyOf, intsOf, clsAt, vT, hil, cT_at (Int.natCast_nonneg i) hil]
    refine CD.pu (c_rWhole c (gT l i) coal want ht) ?_ rfl (by simp only [V.into, intoL, cB_into, vB_into, cI_into, cR_into, cD_into, cS_into, vS_into, vI_into, vR_into, vD_into, cu_into, Bool.true_and, Bool.and_true])
    cases hk : wholeI c coal want (gT l i) with
    | true =>
      rw [hk] at hcs
      simp only [gos, if_true, if_false, ne_eq, eq_self, Nat.reduceLT, Nat.reduceEqDiff, Nat.reduceAdd, Nat.reduceMul, Nat.reduceLeDiff, Nat.reduceBEq, reduceCtorEq, reduceIte, Array.toList, ↓reduceIte, tt, vgo, vout, vgoD, voutD, vclsOk, vids, mayWrite, V.ids, V.mids, vguard, callOf, vop, ev, cv, vbin, vint, isShift, isNilConst, vnil, isNilSlice, vload, vlen, newRow, vfill, vslice, entOf, vappend, srcOf, vcopy, vlookup, vupdate, mapOk, keyOf, intsOf, clsAt, i64_succ (show (((l.take i).countP fun t => wholeI c coal want t : Nat) : Int) < 9223372036854775807 by omega)]
      exact Nx.mk (i + 1) (show l.length - (i + 1) < l.length - i by omega) (by omega) (Wk.env (by simp [subE, Env.get, vT, hcs, i64_succ (show (i : Int) < 9223372036854775807 by omega)]))
    | false =>
      rw [hk] at hcs
      simp only [gos, if_true, if_false, ne_eq, eq_self, Nat.reduceLT, Nat.reduceEqDiff, Nat.reduceAdd, Nat.reduceMul, Nat.reduceLeDiff, Nat.reduceBEq, reduceCtorEq, reduceIte, Array.toList, ↓reduceIte, tt, vgo, vout, vgoD, voutD, vclsOk, vids, mayWrite, V.ids, V.mids, vguard, callOf, vop, ev, cv, vbin, vint, isShift, isNilConst, vnil, isNilSlice, vload, vlen, newRow, vfill, vslice, entOf, vappend, srcOf, vcopy, vlookup, vupdate, mapOk, keyOf, intsOf, clsAt]
      exact Nx.mk (i + 1) (show l.length - (i + 1) < l.length - i by omega) (by omega) (Wk.env (by simp [subE, Env.get, vT, hcs, i64_succ (show (i : Int) < 9223372036854775807 by omega)]))
  · have e : l.take i = l := List.take_of_length_le (by omega)
    simp only [gos, if_true, if_false, ne_eq, eq_self, Nat.reduceLT, Nat.reduceEqDiff, Nat.reduceAdd, Nat.reduceMul, Nat.reduceLeDiff, Nat.reduceBEq, reduceCtorEq, reduceIte, Array.toList, ↓reduceIte, tt, vgo, vout, vgoD, voutD, vclsOk, vids, mayWrite, V.ids, V.mids, vguard, callOf, vop, ev, cv, vbin, vint, isShift, isNilConst, vnil, isNilSlice, vload, vlen, newRow, vfill, vslice, entOf, vappend, srcOf, vcopy, vlookup, vupdate, mapOk, keyOf, intsOf, clsAt, vT, hil, e]
    refine Cl.pu (c_rVerdict _ _) ?_
    simp only [gos, if_true, if_false, ne_eq, eq_self, Nat.reduceLT, Nat.reduceEqDiff, Nat.reduceAdd, Nat.reduceMul, Nat.reduceLeDiff, Nat.reduceBEq, reduceCtorEq, reduceIte, Array.toList, ↓reduceIte, tt, vgo, vout, vgoD, voutD, vclsOk, vids, mayWrite, V.ids, V.mids, vguard, callOf, vop, ev, cv, vbin, vint, isShift, isNilConst, vnil, isNilSlice, vload, vlen, newRow, vfill, vslice, entOf, vappend, srcOf, vcopy, vlookup, vupdate, mapOk, keyOf, intsOf, clsAt]
    subst hQ
    exact FnPost.plain trivial (fun h2 e => by first | rfl | (simp only [Try.f33, vres, vresL, vres1, e _, gos, if_true, if_false, ne_eq, eq_self, Nat.reduceLT, Nat.reduceEqDiff, Nat.reduceAdd, Nat.reduceMul, Nat.reduceLeDiff, Nat.reduceBEq, reduceCtorEq, reduceIte, Array.toList, ↓reduceIte, tt, vgo, vout, vgoD, voutD, vclsOk, vids, mayWrite, V.ids, V.mids, vguard, callOf, vop, ev, cv, vbin, vint, isShift, isNilConst, vnil, isNilSlice, vload, vlen, newRow, vfill, vslice, entOf, vappend, srcOf, vcopy, vlookup, vupdate, mapOk, keyOf, intsOf, clsAt]; try rfl)) (WkV.pure (by simp only [V.into, intoL, cB_into, vB_into, cI_into, cR_into, cD_into, cS_into, vS_into, vI_into, vR_into, vD_into, cu_into, Bool.true_and, Bool.and_true])) ⟨rfl, rfl⟩
theorem addL_len (a b : List Int) : (addL a b).length = a.length := by simp [addL]
def addN (a b : List Int) (n : Nat) : List Int := (List.range n).map fun (i : Nat) => gi a i + gi b i
theorem addN_succ (a b : List Int) (n : Nat) : addN a b (n + 1) = addN a b n ++ [gi a n + gi b n] := by simp [addN, List.range_succ]
set_option maxHeartbeats 1000000 in
theorem c_rSum (a b : List Int) (ha : (a.length : Int) ≤ 100000) (hb : a.length ≤ b.length) (hx : ∀ i : Nat, i < a.length → -1000000 ≤ gi a i + gi b i ∧ gi a i + gi b i ≤ 1000000) : Pu Try.prog (.fn 34 [] []) [vI a, vI b] (vI (addL a b)) := by
  refine Ev.fn Try.func34 rfl rfl (Fn.body tabOk Try.func34 rfl (Nat.le_of_ble_eq_true rfl) (Ks.ok (fz := (fzn [])) (cl := (cln [(5, .d (tgL [(24, 1)]) [cP, cP, cP, cP, cP, cP, cP, cP, cP, cP, cP, some ([1], [1]), cP])])) tabOk mixed ?_))
  generalize hQ : FnPost tt Try.f34 _ _ = Q
  simp only [Try.f34, List.nil_append, List.append_nil, List.cons_append, argsEnv, Nat.reduceAdd]
  simp only [gos, if_true, if_false, ne_eq, eq_self, Nat.reduceLT, Nat.reduceEqDiff, Nat.reduceAdd, Nat.reduceMul, Nat.reduceLeDiff, Nat.reduceBEq, reduceCtorEq, reduceIte, Array.toList, ↓reduceIte, tt, vgo, vout, vgoD, voutD, vclsOk, vids, mayWrite, V.ids, V.mids, vguard, callOf, vop, ev, cv, vbin, vint, isShift, isNilConst, vnil, isNilSlice, vload, vlen, newRow, vfill, vslice, entOf, vappend, srcOf, vcopy, vlookup, vupdate, mapOk, keyOf, intsOf, clsAt, vI]
  refine W.loop tabOk mixed (fun i : Nat => ([(0, vI a), (1, vI b), (5, .own 24 i 0 1 i), (6, vi i)], [(24, ⟨i, .row (cI (addN a b i))⟩)])) (fun i => a.length - i) (fun i => i ≤ a.length) 0 (by omega) (Wk.trans (Wk.sl0E 5 24 1 rfl rfl) (Wk.env (by simp [subE, Env.get, vI]))) ?_
  intro i hi
  by_cases hil : (i : Int) < a.length
  · have hil2 : (i : Int) < b.length := by omega
    have hxx := hx i (by omega)
    have hn : (cI (addN a b i)).length = i * 1 := by rw [cI_len]; simp [addN]
    have hi9 : i ≤ 999999 := by omega
    simp only [gos, if_true, if_false, ne_eq, eq_self, Nat.reduceLT, Nat.reduceEqDiff, Nat.reduceAdd, Nat.reduceMul, Nat.reduceLeDiff, Nat.reduceBEq, reduceCtorEq, reduceIte, Array.toList, ↓reduceIte, tt, vgo, vout, vgoD, voutD, vclsOk, vids, mayWrite, V.ids, V.mids, vguard, callOf, vop, ev, cv, vbin, vint, isShift, isNilConst, vnil, isNilSlice, vload, vlen, newRow, vfill, vslice, entOf, vappend, srcOf, vcopy, vlookup, vupdate, mapOk, keyOf, intsOf, clsAt, vI, hil]
    refine Wr.draw (by kernel_rfl) ?_
    simp only [gos, if_true, if_false, ne_eq, eq_self, Nat.reduceLT, Nat.reduceEqDiff, Nat.reduceAdd, Nat.reduceMul, Nat.reduceLeDiff, Nat.reduceBEq, reduceCtorEq, reduceIte, Array.toList, ↓reduceIte, tt, vgo, vout, vgoD, voutD, vclsOk, vids, mayWrite, V.ids, V.mids, vguard, callOf, vop, ev, cv, vbin, vint, isShift, isNilConst, vnil, isNilSlice, vload, vlen, newRow, vfill, vslice, entOf, vappend, srcOf, vcopy, vlookup, vupdate, mapOk, keyOf, intsOf, clsAt, vI, hil, hil2, cI_at (Int.natCast_nonneg i) hil, cI_at (Int.natCast_nonneg i) hil2, hn, hi9, i64_in (show -9223372036854775808 ≤ gi a i + gi b i by omega) (show gi a i + gi b i ≤ 9223372036854775807 by omega)]
    refine Nx.mk (i + 1) (show a.length - (i + 1) < a.length - i by omega) (by omega) (Wk.heap (fun j => ?_) ?_)
    · rw [addN_succ, cI_snoc]
    · simp [subE, Env.get, vI, i64_succ (show (i : Int) < 9223372036854775807 by omega)]
  · have hie : i = a.length := by omega
    simp only [gos, if_true, if_false, ne_eq, eq_self, Nat.reduceLT, Nat.reduceEqDiff, Nat.reduceAdd, Nat.reduceMul, Nat.reduceLeDiff, Nat.reduceBEq, reduceCtorEq, reduceIte, Array.toList, ↓reduceIte, tt, vgo, vout, vgoD, voutD, vclsOk, vids, mayWrite, V.ids, V.mids, vguard, callOf, vop, ev, cv, vbin, vint, isShift, isNilConst, vnil, isNilSlice, vload, vlen, newRow, vfill, vslice, entOf, vappend, srcOf, vcopy, vlookup, vupdate, mapOk, keyOf, intsOf, clsAt, vI, hil]
    subst hQ
    have hl : (addN a b i).length = i := by simp [addN]
    have ht : (cI (addN a b i)).take i = cI (addN a b i) := List.take_of_length_le (by rw [cI_len]; omega)
    have e : addL a b = addN a b i := by rw [hie]; rfl
    rw [e]
    refine FnPost.plain trivial (v := .own 24 i 0 1 i) (fun h2 e => by rfl) (WkV.frz 24 (v' := vI (addN a b i)) (h' := []) (ver := i) (cs := cI (addN a b i)) rfl rfl (cI_into _ _) rfl ?_ ?_ WkV.refl) ⟨rfl, rfl⟩
    · simp [V.frz, vI, ht, hl]
    · simp [frzH]
theorem c_rSingle (c : Cu) (hl : 0 ≤ c.last ∧ c.last ≤ 4) (hour n : Int) (hh : 0 ≤ hour ∧ hour ≤ c.last) : Pu Try.prog (.fn 73 [] []) [.agg c.cs, vi hour, vi n] (vI (moreAt c hour n)) := by
  refine Ev.fn Try.func73 rfl rfl (Fn.body tabOk Try.func73 rfl (Nat.le_of_ble_eq_true rfl) (Ks.ok (fz := (fzn [11])) (cl := (cln [])) tabOk mixed ?_))
  generalize hQ : FnPost tt Try.f73 _ _ = Q
  simp only [Try.f73, List.nil_append, List.append_nil, List.cons_append, argsEnv, Nat.reduceAdd]
  have hge : 0 ≤ c.last + 1 := by omega
  have hle : c.last + 1 ≤ 1000000 := by omega
  have h1 : 0 ≤ hour := hh.1
  have h2 : hour < ((c.last + 1).toNat : Int) := by omega
  have hm0 := moreAt_zero c hour
  have hz : zeros [V.int IntKind.i64 0] (c.last + 1).toNat = cI (moreAt c hour 0) := by rw [hm0]; exact zeros_vi _
  have hlen : hour.toNat + 1 ≤ (cI (moreAt c hour 0)).length := by rw [cI_len, moreAt_len]; omega
  have hset : List.take hour.toNat (cI (moreAt c hour 0)) ++ [vi n] ++ List.drop (hour.toNat + 1) (cI (moreAt c hour 0)) = cI (moreAt c hour n) := by
    rw [cI_set _ (by rw [moreAt_len]; omega), moreAt_set]
  simp only [gos, if_true, if_false, ne_eq, eq_self, Nat.reduceLT, Nat.reduceEqDiff, Nat.reduceAdd, Nat.reduceMul, Nat.reduceLeDiff, Nat.reduceBEq, reduceCtorEq, reduceIte, Array.toList, ↓reduceIte, tt, vgo, vout, vgoD, voutD, vclsOk, vids, mayWrite, V.ids, V.mids, vguard, callOf, vop, ev, cv, vbin, vint, isShift, isNilConst, vnil, isNilSlice, vload, vlen, newRow, vfill, vslice, entOf, vappend, srcOf, vcopy, vlookup, vupdate, mapOk, keyOf, intsOf, clsAt, i64_in (show -9223372036854775808 ≤ c.last + 1 by omega) (show c.last + 1 ≤ 9223372036854775807 by omega), hge, hle, h1, h2, Nat.zero_add, Nat.mul_one, hz, hlen, hset]
  subst hQ
  have hl2 := moreAt_len c hour n
  have ht : (cI (moreAt c hour n)).take (c.last + 1).toNat = cI (moreAt c hour n) := List.take_of_length_le (by rw [cI_len]; omega)
  refine FnPost.plain trivial (v := .own 11 0 0 1 (c.last + 1).toNat) (fun h2 e => by rfl) (WkV.frz 11 (v' := vI (moreAt c hour n)) (h' := []) (ver := 0) (cs := cI (moreAt c hour n)) rfl rfl (cI_into _ _) rfl ?_ ?_ WkV.refl) ⟨rfl, rfl⟩
  · simp [V.frz, vI, ht, hl2]
  · simp [frzH]
/-- The greatest number that is kept. -/
def rSpare (c : Cu) (l : List Tr2) (hour : Int) : Nat → Int
  | 0 => -1
  | n + 1 => if rWholes c l c.coal (addL c.want (moreAt c hour (n : Int))) = 1 then (n : Int) else rSpare c l hour n
set_option maxHeartbeats 1000000 in
theorem c_rSpare (c : Cu) (k0 : CuOk c) (l : List Tr2) (hl : (l.length : Int) ≤ 1000000) (hok : ∀ t ∈ l, T2Ok c t) (hour : Int) (hh : 0 ≤ hour ∧ hour ≤ c.last) : Pu Try.prog (.fn 35 [] []) [.agg c.cs, vT l, vi hour] (vi (rSpare c l hour 21)) := by
  have hla := k0.last
  have hw := k0.want
  refine Ev.fn Try.func35 rfl rfl (Fn.body tabOk Try.func35 rfl (Nat.le_of_ble_eq_true rfl) (Ks.ok (fz := (fzn [])) (cl := (cln [(5, .d tg0 [cP, cP, cP, cP, cP, cP, cP, cP, cP, cP, cP, cP, cP])])) tabOk mixed ?_))
  generalize hQ : FnPost tt Try.f35 _ _ = Q
  simp only [Try.f35, List.nil_append, List.append_nil, List.cons_append, argsEnv, Nat.reduceAdd]
  simp only [gos, if_true, if_false, ne_eq, eq_self, Nat.reduceLT, Nat.reduceEqDiff, Nat.reduceAdd, Nat.reduceMul, Nat.reduceLeDiff, Nat.reduceBEq, reduceCtorEq, reduceIte, Array.toList, ↓reduceIte, tt, vgo, vout, vgoD, voutD, vclsOk, vids, mayWrite, V.ids, V.mids, vguard, callOf, vop, ev, cv, vbin, vint, isShift, isNilConst, vnil, isNilSlice, vload, vlen, newRow, vfill, vslice, entOf, vappend, srcOf, vcopy, vlookup, vupdate, mapOk, keyOf, intsOf, clsAt]
  refine W.loop tabOk mixed (fun i : Nat => ([(1, vT l), (2, vi hour), (3, .rop c.cs), (7, vi (rSpare c l hour i)), (8, vi i)], [])) (fun i => 21 - i) (fun i => i ≤ 21) 0 (by omega) (Wk.env (by simp [subE, Env.get, rSpare])) ?_
  intro i hi
  by_cases hil : i ≤ 20
  · have hd : decide ((i : Int) ≤ 20) = true := by rw [decide_eq_true_eq]; omega
    have hmo := moreAt_le (c := c) (hour := hour) (n := (i : Int)) (by omega)
    have hml := moreAt_len c hour (i : Int)
    have hmi : ((moreAt c hour (i : Int)).length : Int) = c.last + 1 := by rw [hml]; omega
    simp only [gos, if_true, if_false, ne_eq, eq_self, Nat.reduceLT, Nat.reduceEqDiff, Nat.reduceAdd, Nat.reduceMul, Nat.reduceLeDiff, Nat.reduceBEq, reduceCtorEq, reduceIte, Array.toList, ↓reduceIte, tt, vgo, vout, vgoD, voutD, vclsOk, vids, mayWrite, V.ids, V.mids, vguard, callOf, vop, ev, cv, vbin, vint, isShift, isNilConst, vnil, isNilSlice, vload, vlen, newRow, vfill, vslice, entOf, vappend, srcOf, vcopy, vlookup, vupdate, mapOk, keyOf, intsOf, clsAt, hd]
    refine Wr.draw (by kernel_rfl) ?_
    simp only [gos, if_true, if_false, ne_eq, eq_self, Nat.reduceLT, Nat.reduceEqDiff, Nat.reduceAdd, Nat.reduceMul, Nat.reduceLeDiff, Nat.reduceBEq, reduceCtorEq, reduceIte, Array.toList, ↓reduceIte, tt, vgo, vout, vgoD, voutD, vclsOk, vids, mayWrite, V.ids, V.mids, vguard, callOf, vop, ev, cv, vbin, vint, isShift, isNilConst, vnil, isNilSlice, vload, vlen, newRow, vfill, vslice, entOf, vappend, srcOf, vcopy, vlookup, vupdate, mapOk, keyOf, intsOf, clsAt]
    refine CD.pu (c_rSingle c hla hour i hh) ?_ rfl (by simp only [V.into, intoL, cB_into, vB_into, cI_into, cR_into, cD_into, cS_into, vS_into, vI_into, vR_into, vD_into, cu_into, Bool.true_and, Bool.and_true])
    simp only [gos, if_true, if_false, ne_eq, eq_self, Nat.reduceLT, Nat.reduceEqDiff, Nat.reduceAdd, Nat.reduceMul, Nat.reduceLeDiff, Nat.reduceBEq, reduceCtorEq, reduceIte, Array.toList, ↓reduceIte, tt, vgo, vout, vgoD, voutD, vclsOk, vids, mayWrite, V.ids, V.mids, vguard, callOf, vop, ev, cv, vbin, vint, isShift, isNilConst, vnil, isNilSlice, vload, vlen, newRow, vfill, vslice, entOf, vappend, srcOf, vcopy, vlookup, vupdate, mapOk, keyOf, intsOf, clsAt]
    refine CD.pu (c_rSum c.want (moreAt c hour i) (by omega) (by omega) (fun j hj => by have := with_b k0 hmi hmo j hj; omega)) ?_ rfl (by simp only [V.into, intoL, cB_into, vB_into, cI_into, cR_into, cD_into, cS_into, vS_into, vI_into, vR_into, vD_into, cu_into, Bool.true_and, Bool.and_true])
    simp only [gos, if_true, if_false, ne_eq, eq_self, Nat.reduceLT, Nat.reduceEqDiff, Nat.reduceAdd, Nat.reduceMul, Nat.reduceLeDiff, Nat.reduceBEq, reduceCtorEq, reduceIte, Array.toList, ↓reduceIte, tt, vgo, vout, vgoD, voutD, vclsOk, vids, mayWrite, V.ids, V.mids, vguard, callOf, vop, ev, cv, vbin, vint, isShift, isNilConst, vnil, isNilSlice, vload, vlen, newRow, vfill, vslice, entOf, vappend, srcOf, vcopy, vlookup, vupdate, mapOk, keyOf, intsOf, clsAt]
    refine CD.pu (c_rWholes c l c.coal (addL c.want (moreAt c hour i)) hl (fun t ht => ⟨?_, (hok t ht).len⟩)) ?_ rfl (by simp only [V.into, intoL, cB_into, vB_into, cI_into, cR_into, cD_into, cS_into, vS_into, vI_into, vR_into, vD_into, cu_into, Bool.true_and, Bool.and_true, vT_into])
    · rw [← sAdd_eq, show c.want.length = (moreAt c hour (i : Int)).length by omega]
      exact with_ok k0 hmi hmo (hok t ht).sc
    by_cases hr : rWholes c l c.coal (addL c.want (moreAt c hour (i : Int))) = 1
    · have hb : decide (rWholes c l c.coal (addL c.want (moreAt c hour (i : Int))) = 1) = true := by simp [hr]
      have hs : rSpare c l hour (i + 1) = (i : Int) := by simp [rSpare, hr]
      simp only [gos, if_true, if_false, ne_eq, eq_self, Nat.reduceLT, Nat.reduceEqDiff, Nat.reduceAdd, Nat.reduceMul, Nat.reduceLeDiff, Nat.reduceBEq, reduceCtorEq, reduceIte, Array.toList, ↓reduceIte, tt, vgo, vout, vgoD, voutD, vclsOk, vids, mayWrite, V.ids, V.mids, vguard, callOf, vop, ev, cv, vbin, vint, isShift, isNilConst, vnil, isNilSlice, vload, vlen, newRow, vfill, vslice, entOf, vappend, srcOf, vcopy, vlookup, vupdate, mapOk, keyOf, intsOf, clsAt, hb]
      exact Nx.mk (i + 1) (show 21 - (i + 1) < 21 - i by omega) (by omega) (Wk.env (by simp [subE, Env.get, hs, i64_succ (show (i : Int) < 9223372036854775807 by omega)]))
    · have hb : decide (rWholes c l c.coal (addL c.want (moreAt c hour (i : Int))) = 1) = false := by simp [hr]
      have hs : rSpare c l hour (i + 1) = rSpare c l hour i := by simp [rSpare, hr]
      simp only [gos, if_true, if_false, ne_eq, eq_self, Nat.reduceLT, Nat.reduceEqDiff, Nat.reduceAdd, Nat.reduceMul, Nat.reduceLeDiff, Nat.reduceBEq, reduceCtorEq, reduceIte, Array.toList, ↓reduceIte, tt, vgo, vout, vgoD, voutD, vclsOk, vids, mayWrite, V.ids, V.mids, vguard, callOf, vop, ev, cv, vbin, vint, isShift, isNilConst, vnil, isNilSlice, vload, vlen, newRow, vfill, vslice, entOf, vappend, srcOf, vcopy, vlookup, vupdate, mapOk, keyOf, intsOf, clsAt, hb]
      exact Nx.mk (i + 1) (show 21 - (i + 1) < 21 - i by omega) (by omega) (Wk.env (by simp [subE, Env.get, hs, i64_succ (show (i : Int) < 9223372036854775807 by omega)]))
  · have hie : i = 21 := by omega
    subst hie
    have hd : decide (((21 : Nat) : Int) ≤ 20) = false := by decide
    simp only [gos, if_true, if_false, ne_eq, eq_self, Nat.reduceLT, Nat.reduceEqDiff, Nat.reduceAdd, Nat.reduceMul, Nat.reduceLeDiff, Nat.reduceBEq, reduceCtorEq, reduceIte, Array.toList, ↓reduceIte, tt, vgo, vout, vgoD, voutD, vclsOk, vids, mayWrite, V.ids, V.mids, vguard, callOf, vop, ev, cv, vbin, vint, isShift, isNilConst, vnil, isNilSlice, vload, vlen, newRow, vfill, vslice, entOf, vappend, srcOf, vcopy, vlookup, vupdate, mapOk, keyOf, intsOf, clsAt, hd]
    subst hQ
    exact FnPost.plain trivial (fun h2 e => by first | rfl | (simp only [Try.f35, vres, vresL, vres1, e _, gos, if_true, if_false, ne_eq, eq_self, Nat.reduceLT, Nat.reduceEqDiff, Nat.reduceAdd, Nat.reduceMul, Nat.reduceLeDiff, Nat.reduceBEq, reduceCtorEq, reduceIte, Array.toList, ↓reduceIte, tt, vgo, vout, vgoD, voutD, vclsOk, vids, mayWrite, V.ids, V.mids, vguard, callOf, vop, ev, cv, vbin, vint, isShift, isNilConst, vnil, isNilSlice, vload, vlen, newRow, vfill, vslice, entOf, vappend, srcOf, vcopy, vlookup, vupdate, mapOk, keyOf, intsOf, clsAt]; try rfl)) (WkV.pure (by simp only [V.into, intoL, cB_into, vB_into, cI_into, cR_into, cD_into, cS_into, vS_into, vI_into, vR_into, vD_into, cu_into, Bool.true_and, Bool.and_true])) ⟨rfl, rfl⟩
def rLacks (c : Cu) (l : List Tr2) : Int := match (List.range (c.last + 1).toNat).find? fun i => decide (rKeeps c l i ≠ 1) with
  | some i => i
  | none => -1
set_option maxHeartbeats 1000000 in
theorem c_rLacks (c : Cu) (k0 : CuOk c) (l : List Tr2) (hl : (l.length : Int) ≤ 1000000) (hok : ∀ t ∈ l, TrOk c t c.coal c.want) : Pu Try.prog (.fn 72 [] []) [.agg c.cs, vT l] (vi (rLacks c l)) := by
  have hla := k0.last
  refine Ev.fn Try.func72 rfl rfl (Fn.body tabOk Try.func72 rfl (Nat.le_of_ble_eq_true rfl) (Ks.ok (fz := (fzn [])) (cl := (cln [])) tabOk mixed ?_))
  generalize hQ : FnPost tt Try.f72 _ _ = Q
  simp only [Try.f72, List.nil_append, List.append_nil, List.cons_append, argsEnv, Nat.reduceAdd]
  simp only [gos, if_true, if_false, ne_eq, eq_self, Nat.reduceLT, Nat.reduceEqDiff, Nat.reduceAdd, Nat.reduceMul, Nat.reduceLeDiff, Nat.reduceBEq, reduceCtorEq, reduceIte, Array.toList, ↓reduceIte, tt, vgo, vout, vgoD, voutD, vclsOk, vids, mayWrite, V.ids, V.mids, vguard, callOf, vop, ev, cv, vbin, vint, isShift, isNilConst, vnil, isNilSlice, vload, vlen, newRow, vfill, vslice, entOf, vappend, srcOf, vcopy, vlookup, vupdate, mapOk, keyOf, intsOf, clsAt]
  refine W.loop tabOk mixed (fun i : Nat => ([(1, vT l), (2, .rop c.cs), (5, vi i)], [])) (fun i => (c.last + 1).toNat - i) (fun i => (i : Int) ≤ c.last + 1 ∧ ∀ j : Nat, j < i → decide (rKeeps c l j ≠ 1) = false) 0 ⟨by omega, fun j hj => by omega⟩ (Wk.env (by simp [subE, Env.get])) ?_
  rintro i ⟨hi, hno⟩
  by_cases hil : (i : Int) ≤ c.last
  · simp only [gos, if_true, if_false, ne_eq, eq_self, Nat.reduceLT, Nat.reduceEqDiff, Nat.reduceAdd, Nat.reduceMul, Nat.reduceLeDiff, Nat.reduceBEq, reduceCtorEq, reduceIte, Array.toList, ↓reduceIte, tt, vgo, vout, vgoD, voutD, vclsOk, vids, mayWrite, V.ids, V.mids, vguard, callOf, vop, ev, cv, vbin, vint, isShift, isNilConst, vnil, isNilSlice, vload, vlen, newRow, vfill, vslice, entOf, vappend, srcOf, vcopy, vlookup, vupdate, mapOk, keyOf, intsOf, clsAt, hil]
    refine Cl.pu (c_rKeeps c l hl hok i hil) ?_ rfl (by simp only [V.into, intoL, cB_into, vB_into, cI_into, cR_into, cD_into, cS_into, vS_into, vI_into, vR_into, vD_into, cu_into, Bool.true_and, Bool.and_true, vT_into])
    by_cases hr : rKeeps c l i = 1
    · have hb : (rKeeps c l i != 1) = false := by rw [bne_eq_false_iff_eq]; exact hr
      simp only [gos, if_true, if_false, ne_eq, eq_self, Nat.reduceLT, Nat.reduceEqDiff, Nat.reduceAdd, Nat.reduceMul, Nat.reduceLeDiff, Nat.reduceBEq, reduceCtorEq, reduceIte, Array.toList, ↓reduceIte, tt, vgo, vout, vgoD, voutD, vclsOk, vids, mayWrite, V.ids, V.mids, vguard, callOf, vop, ev, cv, vbin, vint, isShift, isNilConst, vnil, isNilSlice, vload, vlen, newRow, vfill, vslice, entOf, vappend, srcOf, vcopy, vlookup, vupdate, mapOk, keyOf, intsOf, clsAt, hb]
      refine Nx.mk (i + 1) (show (c.last + 1).toNat - (i + 1) < (c.last + 1).toNat - i by omega) ⟨by omega, fun j hj => ?_⟩ (Wk.env (by simp [subE, Env.get, i64_succ (show (i : Int) < 9223372036854775807 by omega)]))
      rcases Nat.lt_succ_iff_lt_or_eq.1 hj with h | rfl
      · exact hno j h
      · simp [hr]
    · have hb : (rKeeps c l i != 1) = true := by simp only [bne_iff_ne, ne_eq, hr, not_false_eq_true]
      simp only [gos, if_true, if_false, ne_eq, eq_self, Nat.reduceLT, Nat.reduceEqDiff, Nat.reduceAdd, Nat.reduceMul, Nat.reduceLeDiff, Nat.reduceBEq, reduceCtorEq, reduceIte, Array.toList, ↓reduceIte, tt, vgo, vout, vgoD, voutD, vclsOk, vids, mayWrite, V.ids, V.mids, vguard, callOf, vop, ev, cv, vbin, vint, isShift, isNilConst, vnil, isNilSlice, vload, vlen, newRow, vfill, vslice, entOf, vappend, srcOf, vcopy, vlookup, vupdate, mapOk, keyOf, intsOf, clsAt, hb]
      subst hQ
      exact FnPost.plain trivial (fun h2 e => by first | rfl | (simp only [Try.f72, vres, vresL, vres1, e _, gos, if_true, if_false, ne_eq, eq_self, Nat.reduceLT, Nat.reduceEqDiff, Nat.reduceAdd, Nat.reduceMul, Nat.reduceLeDiff, Nat.reduceBEq, reduceCtorEq, reduceIte, Array.toList, ↓reduceIte, tt, vgo, vout, vgoD, voutD, vclsOk, vids, mayWrite, V.ids, V.mids, vguard, callOf, vop, ev, cv, vbin, vint, isShift, isNilConst, vnil, isNilSlice, vload, vlen, newRow, vfill, vslice, entOf, vappend, srcOf, vcopy, vlookup, vupdate, mapOk, keyOf, intsOf, clsAt]; try rfl)) (WkV.pure (by simp only [V.into, intoL, cB_into, vB_into, cI_into, cR_into, cD_into, cS_into, vS_into, vI_into, vR_into, vD_into, cu_into, Bool.true_and, Bool.and_true])) ⟨by rw [rLacks, find_range (a := i) (by omega) (by simp [hr]) hno], rfl⟩
  · simp only [gos, if_true, if_false, ne_eq, eq_self, Nat.reduceLT, Nat.reduceEqDiff, Nat.reduceAdd, Nat.reduceMul, Nat.reduceLeDiff, Nat.reduceBEq, reduceCtorEq, reduceIte, Array.toList, ↓reduceIte, tt, vgo, vout, vgoD, voutD, vclsOk, vids, mayWrite, V.ids, V.mids, vguard, callOf, vop, ev, cv, vbin, vint, isShift, isNilConst, vnil, isNilSlice, vload, vlen, newRow, vfill, vslice, entOf, vappend, srcOf, vcopy, vlookup, vupdate, mapOk, keyOf, intsOf, clsAt, hil]
    subst hQ
    exact FnPost.plain trivial (fun h2 e => by first | rfl | (simp only [Try.f72, vres, vresL, vres1, e _, gos, if_true, if_false, ne_eq, eq_self, Nat.reduceLT, Nat.reduceEqDiff, Nat.reduceAdd, Nat.reduceMul, Nat.reduceLeDiff, Nat.reduceBEq, reduceCtorEq, reduceIte, Array.toList, ↓reduceIte, tt, vgo, vout, vgoD, voutD, vclsOk, vids, mayWrite, V.ids, V.mids, vguard, callOf, vop, ev, cv, vbin, vint, isShift, isNilConst, vnil, isNilSlice, vload, vlen, newRow, vfill, vslice, entOf, vappend, srcOf, vcopy, vlookup, vupdate, mapOk, keyOf, intsOf, clsAt]; try rfl)) (WkV.pure (by simp only [V.into, intoL, cB_into, vB_into, cI_into, cR_into, cD_into, cS_into, vS_into, vI_into, vR_into, vD_into, cu_into, Bool.true_and, Bool.and_true])) ⟨by rw [rLacks, List.find?_eq_none.2 (fun j hj => by rw [List.mem_range] at hj; rw [hno j (by omega)]; simp)], rfl⟩
end Go.Vm
set_option linter.unusedVariables false
set_option linter.unusedSimpArgs false
set_option maxRecDepth 100000
namespace Go.Vm
open Go.Proofs
def sReady (c : Cu) : Bool := sThin c && decide (sCheck c = 0)
theorem c_ready (c : Cu) (hl : I64 c.last) : Pu Try.prog (.fn 42 [] []) [.agg c.cs] (.bool (sReady c)) := by
  refine Ev.fn Try.func42 rfl rfl (Fn.body tabOk Try.func42 rfl (Nat.le_of_ble_eq_true rfl) (Ks.ok (fz := (fzn [])) (cl := (cln [])) tabOk mixed ?_))
  generalize hQ : FnPost tt Try.f42 _ _ = Q
  simp only [Try.f42, List.nil_append, List.append_nil, List.cons_append, argsEnv, Nat.reduceAdd]
  simp only [gos, if_true, if_false, ne_eq, eq_self, Nat.reduceLT, Nat.reduceEqDiff, Nat.reduceAdd, Nat.reduceMul, Nat.reduceLeDiff, Nat.reduceBEq, reduceCtorEq, reduceIte, Array.toList, ↓reduceIte, tt, vgo, vout, vgoD, voutD, vclsOk, vids, mayWrite, V.ids, V.mids, vguard, callOf, vop, ev, cv, vbin, vint, isShift, isNilConst, vnil, isNilSlice, vload, vlen, newRow, vfill, vslice, entOf, vappend, srcOf, vcopy, vlookup, vupdate, mapOk, keyOf, intsOf, clsAt]
  refine Cl.pu (c_Thin c hl) ?_ rfl (by simp only [V.into, intoL, cB_into, vB_into, cI_into, cR_into, cD_into, cS_into, vS_into, vI_into, vR_into, vD_into, cu_into, Bool.true_and, Bool.and_true])
  cases h : sThin c with
  | false =>
    simp only [gos, if_true, if_false, ne_eq, eq_self, Nat.reduceLT, Nat.reduceEqDiff, Nat.reduceAdd, Nat.reduceMul, Nat.reduceLeDiff, Nat.reduceBEq, reduceCtorEq, reduceIte, Array.toList, ↓reduceIte, tt, vgo, vout, vgoD, voutD, vclsOk, vids, mayWrite, V.ids, V.mids, vguard, callOf, vop, ev, cv, vbin, vint, isShift, isNilConst, vnil, isNilSlice, vload, vlen, newRow, vfill, vslice, entOf, vappend, srcOf, vcopy, vlookup, vupdate, mapOk, keyOf, intsOf, clsAt]
    subst hQ
    exact FnPost.plain trivial (fun h2 e => by first | rfl | (simp only [Try.f42, vres, vresL, vres1, e _, gos, if_true, if_false, ne_eq, eq_self, Nat.reduceLT, Nat.reduceEqDiff, Nat.reduceAdd, Nat.reduceMul, Nat.reduceLeDiff, Nat.reduceBEq, reduceCtorEq, reduceIte, Array.toList, ↓reduceIte, tt, vgo, vout, vgoD, voutD, vclsOk, vids, mayWrite, V.ids, V.mids, vguard, callOf, vop, ev, cv, vbin, vint, isShift, isNilConst, vnil, isNilSlice, vload, vlen, newRow, vfill, vslice, entOf, vappend, srcOf, vcopy, vlookup, vupdate, mapOk, keyOf, intsOf, clsAt]; try rfl)) (WkV.pure (by simp only [V.into, intoL, cB_into, vB_into, cI_into, cR_into, cD_into, cS_into, vS_into, vI_into, vR_into, vD_into, cu_into, Bool.true_and, Bool.and_true])) ⟨by simp [sReady, h], rfl⟩
  | true =>
    simp only [gos, if_true, if_false, ne_eq, eq_self, Nat.reduceLT, Nat.reduceEqDiff, Nat.reduceAdd, Nat.reduceMul, Nat.reduceLeDiff, Nat.reduceBEq, reduceCtorEq, reduceIte, Array.toList, ↓reduceIte, tt, vgo, vout, vgoD, voutD, vclsOk, vids, mayWrite, V.ids, V.mids, vguard, callOf, vop, ev, cv, vbin, vint, isShift, isNilConst, vnil, isNilSlice, vload, vlen, newRow, vfill, vslice, entOf, vappend, srcOf, vcopy, vlookup, vupdate, mapOk, keyOf, intsOf, clsAt]
    refine Cl.pu (c_fault c (thin_wf hl h)) ?_ rfl (by simp only [V.into, intoL, cB_into, vB_into, cI_into, cR_into, cD_into, cS_into, vS_into, vI_into, vR_into, vD_into, cu_into, Bool.true_and, Bool.and_true])
    simp only [gos, if_true, if_false, ne_eq, eq_self, Nat.reduceLT, Nat.reduceEqDiff, Nat.reduceAdd, Nat.reduceMul, Nat.reduceLeDiff, Nat.reduceBEq, reduceCtorEq, reduceIte, Array.toList, ↓reduceIte, tt, vgo, vout, vgoD, voutD, vclsOk, vids, mayWrite, V.ids, V.mids, vguard, callOf, vop, ev, cv, vbin, vint, isShift, isNilConst, vnil, isNilSlice, vload, vlen, newRow, vfill, vslice, entOf, vappend, srcOf, vcopy, vlookup, vupdate, mapOk, keyOf, intsOf, clsAt]
    subst hQ
    exact FnPost.plain trivial (fun h2 e => by first | rfl | (simp only [Try.f42, vres, vresL, vres1, e _, gos, if_true, if_false, ne_eq, eq_self, Nat.reduceLT, Nat.reduceEqDiff, Nat.reduceAdd, Nat.reduceMul, Nat.reduceLeDiff, Nat.reduceBEq, reduceCtorEq, reduceIte, Array.toList, ↓reduceIte, tt, vgo, vout, vgoD, voutD, vclsOk, vids, mayWrite, V.ids, V.mids, vguard, callOf, vop, ev, cv, vbin, vint, isShift, isNilConst, vnil, isNilSlice, vload, vlen, newRow, vfill, vslice, entOf, vappend, srcOf, vcopy, vlookup, vupdate, mapOk, keyOf, intsOf, clsAt]; try rfl)) (WkV.pure (by simp only [V.into, intoL, cB_into, vB_into, cI_into, cR_into, cD_into, cS_into, vS_into, vI_into, vR_into, vD_into, cu_into, Bool.true_and, Bool.and_true])) ⟨by simp [sReady, h], rfl⟩
theorem ready_ok {c : Cu} (h : sReady c = true) : sThin c = true ∧ sCheck c = 0 := by
  simpa [sReady] using h
/-- An hour by a number. -/
theorem hour_of {c : Cu} (hl : 0 ≤ c.last ∧ c.last ≤ 4) {n : Int} (hn : 0 ≤ n) : ∃ k : Nat, (k : Int) = n.tmod (c.last + 1) ∧ (k : Int) ≤ c.last := by
  have h := tmod_le hn (s := c.last + 1) (by omega)
  exact ⟨(n.tmod (c.last + 1)).toNat, by omega, by omega⟩
end Go.Vm
set_option linter.unusedVariables false
set_option linter.unusedSimpArgs false
set_option maxRecDepth 100000
namespace Go.Vm
open Go.Proofs Go.ChangeShapes Go.WideShapes Go.ChangeAt Go.RowKit
theorem VRL.one {g : Gh} {c : V} {v : Value} (h : VRL g [c] [v]) : VR g c v := by
  simp only [VRL] at h
  obtain ⟨x, l, e, h1, h2⟩ := h
  injection e with e1 e2
  subst e1; exact h1
def cW16 (l : List Int) : List V := l.map fun n => .int .u16 n
def vW (l : List Int) : V := .ro l.length (cW16 l)
def Tr2.ok (t : Tr2) : Prop := I64 t.heat ∧ ∀ n ∈ t.loss, I64 n
section
variable {H : Type} {enc : TypeId × Value → H} {w : World} {base : Nat} {spare : Nat → Bool} {held : Bool} {fuel : Nat} {cs : List Value} {x : DataW H × List MemPlace}
theorem rd_ints1 (h : DataW.trod enc Try.prog w base spare held fuel 22 cs = some x) : ∃ l : List Int, (∀ n ∈ l, I64 n) ∧ VRL (gh0 w) [vI l] cs := by
  obtain ⟨l, h1, _, h3⟩ := rd_ints Try.underlying22 Try.underlying3 (by kernel_rfl) h
  exact ⟨l, h1, h3⟩
theorem rd_u16 (h : DataW.trod enc Try.prog w base spare held fuel 70 cs = some x) : ∃ n : Int, (0 ≤ n ∧ n ≤ 65535) ∧ VRL (gh0 w) [.int .u16 n] cs := by
  obtain ⟨n, rfl, _, h2⟩ := DataW.trod_int Try.underlying70 h
  exact ⟨n, bounds_u16 h2, VRL.cons (by simp only [VR]) VRL.nil⟩
theorem rd_u8 (h : DataW.trod enc Try.prog w base spare held fuel 5 cs = some x) : ∃ n : Int, (0 ≤ n ∧ n ≤ 255) ∧ VRL (gh0 w) [.int .u8 n] cs := by
  obtain ⟨n, rfl, _, h2⟩ := DataW.trod_int Try.underlying5 h
  exact ⟨n, bounds_u8 h2, VRL.cons (by simp only [VR]) VRL.nil⟩
theorem rd_words (h : DataW.trod enc Try.prog w base spare held fuel 78 cs = some x) : ∃ l : List Int, (∀ n ∈ l, 0 ≤ n ∧ n ≤ 65535) ∧ VRL (gh0 w) [vW l] cs := by
  obtain ⟨l, h1, h2, h3⟩ := rd_slice (fun n : Int => [V.int .u16 n]) (fun n => 0 ≤ n ∧ n ≤ 65535) 1 Try.underlying78 (by kernel_rfl) (by omega) (fun _ => rfl) h fun n cs x h => rd_u16 h
  have e : l.flatMap (fun n : Int => [V.int .u16 n]) = cW16 l := by
    clear h1 h2 h3
    induction l with
    | nil => rfl
    | cons y l ih => simp only [List.flatMap_cons, cW16, List.map_cons, List.singleton_append] at ih ⊢; rw [ih]
  rw [e] at h3
  exact ⟨l, h1, h3⟩
theorem rd_tr (h : DataW.trod enc Try.prog w base spare held fuel 66 cs = some x) : ∃ t : Tr2, t.ok ∧ VRL (gh0 w) t.cs cs := by
  obtain ⟨xs, n, _, _, hl, hx, hf⟩ := DataW.trod_struct Try.underlying66 h
  have hl2 : cs.length = 2 := hl.trans (by kernel_rfl)
  have hx2 : xs.length = 2 := hx
  have f0 : DataW.trod enc Try.prog w base spare held n 3 ((cs.drop 0).take (Try.prog.cellsOf 3)) = xs[0]? := hf 0 _ rfl
  have f1 : DataW.trod enc Try.prog w base spare held n 22 ((cs.drop 1).take (Try.prog.cellsOf 22)) = xs[1]? := hf 1 _ rfl
  rw [List.getElem?_eq_getElem (by omega)] at f0 f1
  obtain ⟨a, ha, va⟩ := rd_int Try.underlying3 f0
  obtain ⟨b, hb, vb⟩ := rd_ints1 f1
  refine ⟨⟨a, b⟩, ⟨ha, hb⟩, ?_⟩
  have hc : Try.prog.cellsOf 3 = 1 := by kernel_rfl
  have hc2 : Try.prog.cellsOf 22 = 1 := by kernel_rfl
  simp only [hc, hc2, List.drop_zero] at va vb
  rw [List.take_of_length_le (by simp; omega)] at vb
  exact VRL_two va vb
end
end Go.Vm
set_option linter.unusedVariables false
set_option linter.unusedSimpArgs false
set_option maxRecDepth 100000
namespace Go.Vm
open Go.Proofs
theorem nR_len' (n : Int) (f : Int → Rg) : ((nR n f).length : Int) = ((n.toNat : Nat) : Int) := by simp [nR]
theorem gR_nR {n : Int} {f : Int → Rg} {i : Nat} (h : (i : Int) < n) : gR (nR n f) i = f i := by
  simp only [gR, nR, Int.toNat_natCast, List.getD_eq_getElem?_getD, List.getElem?_map]
  rw [List.getElem?_range (by omega)]; rfl
theorem rB_ends {ys : List Int} (hne : ys ≠ []) (hb : ∀ x ∈ ys, 0 ≤ x ∧ x ≤ 100000) : (rB ys).lo ∈ ys ∧ (rB ys).hi ∈ ys := by
  obtain ⟨g1, g2, g3, g4, g5, g6⟩ := fold_wider ys rEmpty
  rw [rB]
  generalize ys.foldl sWider rEmpty = B at g1 g2 g3 g4 g5 g6 ⊢
  obtain ⟨y, hy⟩ := List.exists_mem_of_ne_nil _ hne
  have hn := hb y hy
  have b1 := g2 y hy
  have b2 := g5 y hy
  constructor
  · rcases g3 with h | h
    · simp only [rEmpty] at h; omega
    · exact h
  · rcases g6 with h | h
    · simp only [rEmpty] at h; omega
    · exact h
def b4 (a b c d : Bool) : Int := (if a then 1 else 0) + (if b then 2 else 0) + (if c then 4 else 0) + (if d then 8 else 0)
theorem b4_or : ∀ a b c d : Bool, vbits .or .i64 (b4 a b c d) 1 = b4 true b c d ∧ vbits .or .i64 (b4 a b c d) 2 = b4 a true c d ∧ vbits .or .i64 (b4 a b c d) 4 = b4 a b true d ∧ vbits .or .i64 (b4 a b c d) 8 = b4 a b c true := by decide +kernel
theorem any_snoc (l : List Tr2) (f : Tr2 → Bool) {i : Nat} (h : (i : Int) < l.length) : (l.take (i + 1)).any f = ((l.take i).any f || f (gT l i)) := by
  have e : l.take (i + 1) = l.take i ++ [gT l i] := by rw [List.take_add_one, gT_get h]; rfl
  rw [e, List.any_append]; simp
def E0 (c : Cu) (k : Nat) (R : Rg) (t : Tr2) : Bool := decide (hotI c t k = R.lo)
def E1 (c : Cu) (k : Nat) (R : Rg) (t : Tr2) : Bool := decide (hotI c t k = R.hi)
def E2 (c : Cu) (k : Nat) (R : Rg) (t : Tr2) : Bool := decide (leftI c t k = R.lo)
def E3 (c : Cu) (k : Nat) (R : Rg) (t : Tr2) : Bool := decide (leftI c t k = R.hi)
set_option maxHeartbeats 8000000 in
theorem l_CopperEnds (c : Cu) (hc : I64 c.last) (n : Int) (hn : 0 ≤ n ∧ n ≤ 255) : Vm.Fn Try.prog 6 [.agg c.cs, .int .u8 n] [] fun v h' => v = .bool true := by
  refine Fn.body tabOk Try.func6 rfl (Nat.le_of_ble_eq_true rfl) (Ks.ok (fz := (fzn [14])) (cl := (cln [(14, .d tg0 [cP, cP, cP, cP, cP, cP, cP, cP, cP, cP, cP, cP, cP, cP, cP, cP, cP, cP, cP, cP, cP, cP, cP, cP]), (15, .d tg0 [cP, cP, cP, cP, cP, cP, cP, cP, cP, cP, cP, cP, cP, cP, cP, cP, cP, cP, cP, cP, cP, cP, cP, cP, cP, cP, cP, cP, cP, cW, cW])])) tabOk mixed ?_)
  generalize hQ : FnPost tt Try.f6 _ _ = Q
  simp only [Try.f6, List.nil_append, List.append_nil, List.cons_append, argsEnv, Nat.reduceAdd]
  simp only [gos, if_true, if_false, ne_eq, eq_self, Nat.reduceLT, Nat.reduceEqDiff, Nat.reduceAdd, Nat.reduceMul, Nat.reduceLeDiff, Nat.reduceBEq, reduceCtorEq, reduceIte, Array.toList, ↓reduceIte, tt, vgo, vout, vgoD, voutD, vclsOk, vids, mayWrite, V.ids, V.mids, vguard, callOf, vop, ev, cv, vbin, vint, isShift, isNilConst, vnil, isNilSlice, vload, vlen, newRow, vfill, vslice, entOf, vappend, srcOf, vcopy, vlookup, vupdate, mapOk, keyOf, intsOf, clsAt]
  refine Cl.pu (c_ready c hc) ?_ rfl (by simp only [V.into, intoL, cB_into, vB_into, cI_into, cR_into, cD_into, cS_into, vS_into, vI_into, vR_into, vD_into, cu_into, Bool.true_and, Bool.and_true])
  cases ht : sReady c with
  | false =>
    simp only [gos, if_true, if_false, ne_eq, eq_self, Nat.reduceLT, Nat.reduceEqDiff, Nat.reduceAdd, Nat.reduceMul, Nat.reduceLeDiff, Nat.reduceBEq, reduceCtorEq, reduceIte, Array.toList, ↓reduceIte, tt, vgo, vout, vgoD, voutD, vclsOk, vids, mayWrite, V.ids, V.mids, vguard, callOf, vop, ev, cv, vbin, vint, isShift, isNilConst, vnil, isNilSlice, vload, vlen, newRow, vfill, vslice, entOf, vappend, srcOf, vcopy, vlookup, vupdate, mapOk, keyOf, intsOf, clsAt]
    refine Cl.pu c_awake ?_
    simp only [gos, if_true, if_false, ne_eq, eq_self, Nat.reduceLT, Nat.reduceEqDiff, Nat.reduceAdd, Nat.reduceMul, Nat.reduceLeDiff, Nat.reduceBEq, reduceCtorEq, reduceIte, Array.toList, ↓reduceIte, tt, vgo, vout, vgoD, voutD, vclsOk, vids, mayWrite, V.ids, V.mids, vguard, callOf, vop, ev, cv, vbin, vint, isShift, isNilConst, vnil, isNilSlice, vload, vlen, newRow, vfill, vslice, entOf, vappend, srcOf, vcopy, vlookup, vupdate, mapOk, keyOf, intsOf, clsAt]
    subst hQ
    exact FnPost.plain trivial (v := .bool true) (fun h2 e => by rfl) WkV.refl rfl
  | true =>
  obtain ⟨hth, h0⟩ := ready_ok ht
  have wf := thin_wf hc hth
  have k0 := sCheck_ok h0
  have hl := k0.last
  obtain ⟨k, hk, hkl⟩ := hour_of hl hn.1
  have hz : ¬ c.last + 1 = 0 := by omega
  simp only [gos, if_true, if_false, ne_eq, eq_self, Nat.reduceLT, Nat.reduceEqDiff, Nat.reduceAdd, Nat.reduceMul, Nat.reduceLeDiff, Nat.reduceBEq, reduceCtorEq, reduceIte, Array.toList, ↓reduceIte, tt, vgo, vout, vgoD, voutD, vclsOk, vids, mayWrite, V.ids, V.mids, vguard, callOf, vop, ev, cv, vbin, vint, isShift, isNilConst, vnil, isNilSlice, vload, vlen, newRow, vfill, vslice, entOf, vappend, srcOf, vcopy, vlookup, vupdate, mapOk, keyOf, intsOf, clsAt, i64_in (show -9223372036854775808 ≤ n by omega) (show n ≤ 9223372036854775807 by omega), i64_in (show -9223372036854775808 ≤ c.last + 1 by omega) (show c.last + 1 ≤ 9223372036854775807 by omega), hz]
  rw [← hk]
  refine Cl.pu (c_lCopper c wf) ?_ rfl (by simp only [V.into, intoL, cB_into, vB_into, cI_into, cR_into, cD_into, cS_into, vS_into, vI_into, vR_into, vD_into, cu_into, Bool.true_and, Bool.and_true])
  simp only [gos, if_true, if_false, ne_eq, eq_self, Nat.reduceLT, Nat.reduceEqDiff, Nat.reduceAdd, Nat.reduceMul, Nat.reduceLeDiff, Nat.reduceBEq, reduceCtorEq, reduceIte, Array.toList, ↓reduceIte, tt, vgo, vout, vgoD, voutD, vclsOk, vids, mayWrite, V.ids, V.mids, vguard, callOf, vop, ev, cv, vbin, vint, isShift, isNilConst, vnil, isNilSlice, vload, vlen, newRow, vfill, vslice, entOf, vappend, srcOf, vcopy, vlookup, vupdate, mapOk, keyOf, intsOf, clsAt]
  refine Cl.pu (c_Bounds c wf) ?_ rfl (by simp only [V.into, intoL, cB_into, vB_into, cI_into, cR_into, cD_into, cS_into, vS_into, vI_into, vR_into, vD_into, cu_into, Bool.true_and, Bool.and_true])
  simp only [gos, if_true, if_false, ne_eq, eq_self, Nat.reduceLT, Nat.reduceEqDiff, Nat.reduceAdd, Nat.reduceMul, Nat.reduceLeDiff, Nat.reduceBEq, reduceCtorEq, reduceIte, Array.toList, ↓reduceIte, tt, vgo, vout, vgoD, voutD, vclsOk, vids, mayWrite, V.ids, V.mids, vguard, callOf, vop, ev, cv, vbin, vint, isShift, isNilConst, vnil, isNilSlice, vload, vlen, newRow, vfill, vslice, entOf, vappend, srcOf, vcopy, vlookup, vupdate, mapOk, keyOf, intsOf, clsAt]
  refine Cl.pu (c_rTruths c k0) ?_ rfl (by simp only [V.into, intoL, cB_into, vB_into, cI_into, cR_into, cD_into, cS_into, vS_into, vI_into, vR_into, vD_into, cu_into, Bool.true_and, Bool.and_true])
  by_cases hT : rTruths c = []
  · have hs : sAsked c true = 11 := by rw [← sure_same, rSureE, if_neg (by simp [h0]), if_pos hT]
    have hr : sBoundsA c = ([], [], 11) := by rw [sBoundsA, hs]; rfl
    have z0 : decide (((0 : Nat) : Int) = 0) = true := rfl
    have z11 : decide ((11 : Int) = 11) = true := rfl
    have zl : ((rTruths c).length) = 0 := by rw [hT]; rfl
    rw [hr]
    simp only [gos, if_true, if_false, ne_eq, eq_self, Nat.reduceLT, Nat.reduceEqDiff, Nat.reduceAdd, Nat.reduceMul, Nat.reduceLeDiff, Nat.reduceBEq, reduceCtorEq, reduceIte, Array.toList, ↓reduceIte, tt, vgo, vout, vgoD, voutD, vclsOk, vids, mayWrite, V.ids, V.mids, vguard, callOf, vop, ev, cv, vbin, vint, isShift, isNilConst, vnil, isNilSlice, vload, vlen, newRow, vfill, vslice, entOf, vappend, srcOf, vcopy, vlookup, vupdate, mapOk, keyOf, intsOf, clsAt, vT, zl, z0, z11]
    refine Cl.pu c_awake ?_
    simp only [gos, if_true, if_false, ne_eq, eq_self, Nat.reduceLT, Nat.reduceEqDiff, Nat.reduceAdd, Nat.reduceMul, Nat.reduceLeDiff, Nat.reduceBEq, reduceCtorEq, reduceIte, Array.toList, ↓reduceIte, tt, vgo, vout, vgoD, voutD, vclsOk, vids, mayWrite, V.ids, V.mids, vguard, callOf, vop, ev, cv, vbin, vint, isShift, isNilConst, vnil, isNilSlice, vload, vlen, newRow, vfill, vslice, entOf, vappend, srcOf, vcopy, vlookup, vupdate, mapOk, keyOf, intsOf, clsAt]
    subst hQ
    exact FnPost.plain trivial (v := .bool true) (fun h2 e => by rfl) WkV.refl rfl
  have hs : sAsked c true = 0 := by rw [← sure_same, rSureE, if_neg (by simp [h0]), if_neg hT]
  have A := askOk_of hs
  have hr : sBoundsA c = (nR (c.last + 1) (sHotB c), nR (c.last + 1) (sLeftB c), 0) := by simp [sBoundsA, hs]
  have hlen1 : ((nR (c.last + 1) (sHotB c)).length : Int) = c.last + 1 := by rw [nR_len']; omega
  have hlen2 : ((nR (c.last + 1) (sLeftB c)).length : Int) = c.last + 1 := by rw [nR_len']; omega
  have hTt := rTr_ok k0 (rMany c).toNat
  have hTl := rTr_len c (rMany c).toNat
  have hM := rMany_le k0
  have hTl2 : ((rTruths c).length : Int) ≤ 1000000 := by simp only [rTruths]; omega
  have gH : gR (nR (c.last + 1) (sHotB c)) k = rB ((rTruths c).map fun t => hotI c t k) := by rw [gR_nR (by omega)]; exact hotB_same A hkl
  have gK : gR (nR (c.last + 1) (sLeftB c)) k = rB ((rTruths c).map fun t => leftI c t k) := by rw [gR_nR (by omega)]; exact leftB_same A hkl
  have bH := rB_ends (ys := (rTruths c).map fun t => hotI c t k) (by simpa using hT) (fun x hx => by
    obtain ⟨t, ht, rfl⟩ := List.mem_map.1 hx
    have hh := sHeat_le ((hTt t ht).tr k0).play hkl
    have h1 := Int.tdiv_nonneg hh.1 (b := c.per) (by have := k0.per; omega)
    have h2 := Int.tdiv_le_self c.per hh.1
    simp only [hotI]; omega)
  have bK := rB_ends (ys := (rTruths c).map fun t => leftI c t k) (by simpa using hT) (fun x hx => by
    obtain ⟨t, ht, rfl⟩ := List.mem_map.1 hx
    have hh := sPlay_inv ((hTt t ht).tr k0).play (k + 1) (by omega)
    simp only [leftI]; omega)
  rw [← gH] at bH
  rw [← gK] at bK
  rw [hr]
  have hTn : decide (((rTruths c).length : Int) = 0) = false := by simp [hT]
  generalize nR (c.last + 1) (sHotB c) = H at hlen1 bH ⊢
  generalize nR (c.last + 1) (sLeftB c) = K at hlen2 bK ⊢
  have d1 : ((H.length : Int) != c.last + 1) = false := by rw [bne_eq_false_iff_eq]; exact hlen1
  have d2 : ((K.length : Int) != c.last + 1) = false := by rw [bne_eq_false_iff_eq]; exact hlen2
  have z1 : ((0 : Int) != 0) = false := rfl
  simp only [gos, if_true, if_false, ne_eq, eq_self, Nat.reduceLT, Nat.reduceEqDiff, Nat.reduceAdd, Nat.reduceMul, Nat.reduceLeDiff, Nat.reduceBEq, reduceCtorEq, reduceIte, Array.toList, ↓reduceIte, tt, vgo, vout, vgoD, voutD, vclsOk, vids, mayWrite, V.ids, V.mids, vguard, callOf, vop, ev, cv, vbin, vint, isShift, isNilConst, vnil, isNilSlice, vload, vlen, newRow, vfill, vslice, entOf, vappend, srcOf, vcopy, vlookup, vupdate, mapOk, keyOf, intsOf, clsAt, vT, vR, hTn, d1, d2, z1, i64_in (show -9223372036854775808 ≤ c.last + 1 by omega) (show c.last + 1 ≤ 9223372036854775807 by omega)]
  let M : Nat → Int := fun i => b4 (((rTruths c).take i).any (E0 c k (gR H k))) (((rTruths c).take i).any (E1 c k (gR H k))) (((rTruths c).take i).any (E2 c k (gR K k))) (((rTruths c).take i).any (E3 c k (gR K k)))
  refine W.loop tabOk mixed (fun i : Nat => ([(2, .rop c.cs), (5, vi k), (6, vR H), (7, vR K), (9, vT (rTruths c)), (10, vi (M i)), (11, vi i)], [])) (fun i => (rTruths c).length - i) (fun i => i ≤ (rTruths c).length) 0 (by omega) (Wk.env (by simp [subE, Env.get, vT, vR, M, b4])) ?_
  intro i hi
  by_cases hil : (i : Int) < (rTruths c).length
  · have hti := (hTt _ (List.mem_of_getElem? (gT_get hil))).tr k0
    have hkH : (k : Int) < H.length := by omega
    have hkK : (k : Int) < K.length := by omega
    simp only [gos, if_true, if_false, ne_eq, eq_self, Nat.reduceLT, Nat.reduceEqDiff, Nat.reduceAdd, Nat.reduceMul, Nat.reduceLeDiff, Nat.reduceBEq, reduceCtorEq, reduceIte, Array.toList, ↓reduceIte, tt, vgo, vout, vgoD, voutD, vclsOk, vids, mayWrite, V.ids, V.mids, vguard, callOf, vop, ev, cv, vbin, vint, isShift, isNilConst, vnil, isNilSlice, vload, vlen, newRow, vfill, vslice, entOf, vappend, srcOf, vcopy, vlookup, vupdate, mapOk, keyOf, intsOf, clsAt, vT, hil]
    refine Wr.draw (by kernel_rfl) ?_
    simp only [gos, if_true, if_false, ne_eq, eq_self, Nat.reduceLT, Nat.reduceEqDiff, Nat.reduceAdd, Nat.reduceMul, Nat.reduceLeDiff, Nat.reduceBEq, reduceCtorEq, reduceIte, Array.toList, ↓reduceIte, tt, vgo, vout, vgoD, voutD, vclsOk, vids, mayWrite, V.ids, V.mids, vguard, callOf, vop, ev, cv, vbin, vint, isShift, isNilConst, vnil, isNilSlice, vload, vlen, newRow, vfill, vslice, entOf, vappend, srcOf, vcopy, vlookup, vupdate, mapOk, keyOf, intsOf, clsAt, vT, hil, cT_at (Int.natCast_nonneg i) hil]
    refine CD.pu (c_rHot c (gT (rTruths c) i) c.coal c.want hti k hkl) ?_ rfl (by simp only [V.into, intoL, cB_into, vB_into, cI_into, cR_into, cD_into, cS_into, vS_into, vI_into, vR_into, vD_into, cu_into, Bool.true_and, Bool.and_true])
    simp only [gos, if_true, if_false, ne_eq, eq_self, Nat.reduceLT, Nat.reduceEqDiff, Nat.reduceAdd, Nat.reduceMul, Nat.reduceLeDiff, Nat.reduceBEq, reduceCtorEq, reduceIte, Array.toList, ↓reduceIte, tt, vgo, vout, vgoD, voutD, vclsOk, vids, mayWrite, V.ids, V.mids, vguard, callOf, vop, ev, cv, vbin, vint, isShift, isNilConst, vnil, isNilSlice, vload, vlen, newRow, vfill, vslice, entOf, vappend, srcOf, vcopy, vlookup, vupdate, mapOk, keyOf, intsOf, clsAt, vT, hil, cT_at (Int.natCast_nonneg i) hil]
    refine CD.pu (c_rLeft c (gT (rTruths c) i) c.coal c.want hti k hkl) ?_ rfl (by simp only [V.into, intoL, cB_into, vB_into, cI_into, cR_into, cD_into, cS_into, vS_into, vI_into, vR_into, vD_into, cu_into, Bool.true_and, Bool.and_true])
    simp only [gos, if_true, if_false, ne_eq, eq_self, Nat.reduceLT, Nat.reduceEqDiff, Nat.reduceAdd, Nat.reduceMul, Nat.reduceLeDiff, Nat.reduceBEq, reduceCtorEq, reduceIte, Array.toList, ↓reduceIte, tt, vgo, vout, vgoD, voutD, vclsOk, vids, mayWrite, V.ids, V.mids, vguard, callOf, vop, ev, cv, vbin, vint, isShift, isNilConst, vnil, isNilSlice, vload, vlen, newRow, vfill, vslice, entOf, vappend, srcOf, vcopy, vlookup, vupdate, mapOk, keyOf, intsOf, clsAt]
    refine Wr.draw (by kernel_rfl) ?_
    simp only [gos, if_true, if_false, ne_eq, eq_self, Nat.reduceLT, Nat.reduceEqDiff, Nat.reduceAdd, Nat.reduceMul, Nat.reduceLeDiff, Nat.reduceBEq, reduceCtorEq, reduceIte, Array.toList, ↓reduceIte, tt, vgo, vout, vgoD, voutD, vclsOk, vids, mayWrite, V.ids, V.mids, vguard, callOf, vop, ev, cv, vbin, vint, isShift, isNilConst, vnil, isNilSlice, vload, vlen, newRow, vfill, vslice, entOf, vappend, srcOf, vcopy, vlookup, vupdate, mapOk, keyOf, intsOf, clsAt, vR, hkH, hkK, cR_at (Int.natCast_nonneg k) hkH, cR_at (Int.natCast_nonneg k) hkK]
    have hM1 : M (i + 1) = b4 (((rTruths c).take i).any (E0 c k (gR H k)) || E0 c k (gR H k) (gT (rTruths c) i)) (((rTruths c).take i).any (E1 c k (gR H k)) || E1 c k (gR H k) (gT (rTruths c) i)) (((rTruths c).take i).any (E2 c k (gR K k)) || E2 c k (gR K k) (gT (rTruths c) i)) (((rTruths c).take i).any (E3 c k (gR K k)) || E3 c k (gR K k) (gT (rTruths c) i)) := by
      simp only [M, any_snoc _ _ hil]
    have hM0 : M i = b4 (((rTruths c).take i).any (E0 c k (gR H k))) (((rTruths c).take i).any (E1 c k (gR H k))) (((rTruths c).take i).any (E2 c k (gR K k))) (((rTruths c).take i).any (E3 c k (gR K k))) := rfl
    rw [show decide ((sHeat c (tS (gT (rTruths c) i)) c.coal c.want k).tdiv c.per = (gR H k).lo) = E0 c k (gR H k) (gT (rTruths c) i) from rfl, show decide ((sHeat c (tS (gT (rTruths c) i)) c.coal c.want k).tdiv c.per = (gR H k).hi) = E1 c k (gR H k) (gT (rTruths c) i) from rfl,
      show decide ((sPlay c (tS (gT (rTruths c) i)) c.coal c.want (k + 1)).1 = (gR K k).lo) = E2 c k (gR K k) (gT (rTruths c) i) from rfl, show decide ((sPlay c (tS (gT (rTruths c) i)) c.coal c.want (k + 1)).1 = (gR K k).hi) = E3 c k (gR K k) (gT (rTruths c) i) from rfl]
    generalize E0 c k (gR H k) (gT (rTruths c) i) = e0 at hM1 ⊢
    generalize E1 c k (gR H k) (gT (rTruths c) i) = e1 at hM1 ⊢
    generalize E2 c k (gR K k) (gT (rTruths c) i) = e2 at hM1 ⊢
    generalize E3 c k (gR K k) (gT (rTruths c) i) = e3 at hM1 ⊢
    generalize ((rTruths c).take i).any (E0 c k (gR H k)) = a0 at hM1 hM0
    generalize ((rTruths c).take i).any (E1 c k (gR H k)) = a1 at hM1 hM0
    generalize ((rTruths c).take i).any (E2 c k (gR K k)) = a2 at hM1 hM0
    generalize ((rTruths c).take i).any (E3 c k (gR K k)) = a3 at hM1 hM0
    let m : Nat → Int := fun j => b4 (a0 || (e0 && decide (0 < j))) (a1 || (e1 && decide (1 < j))) (a2 || (e2 && decide (2 < j))) (a3 || (e3 && decide (3 < j)))
    have hm0 : m 0 = M i := by simp only [m, hM0]; simp
    have hm4 : m 4 = M (i + 1) := by simp only [m, hM1]; simp
    refine W.loop tabOk mixed (fun j : Nat => ([(2, .rop c.cs), (5, vi k), (6, vR H), (7, vR K), (9, vT (rTruths c)), (10, vi (m j)), (11, vi i), (14, .ptr 14 0 0), (15, vi j)], [(14, ⟨0, .row [.bool e0, .bool e1, .bool e2, .bool e3]⟩)])) (fun j => 4 - j) (fun j => j ≤ 4) 0 (by omega) (Wk.env (by simp [subE, Env.get, vT, vR, hm0])) ?_
    intro j hj
    have hu := u64_in (n := (j : Int)) (by omega) (by omega)
    have hneg : ¬ (j : Int) < 0 := by omega
    have hsucc := i64_succ (show (j : Int) < 9223372036854775807 by omega)
    rcases (show j = 0 ∨ j = 1 ∨ j = 2 ∨ j = 3 ∨ j = 4 by omega) with rfl | rfl | rfl | rfl | rfl
    · have q1 : decide (((0 : Nat) : Int) < 4) = true := by decide
      have q2 : (((0 : Nat) : Int) < ((4 : Nat) : Int)) = True := by decide
      have q3 : (0 ≤ ((0 : Nat) : Int)) = True := by decide
      have q4 : Int.toNat ((0 : Nat) : Int) = 0 := rfl
      have q5 := shl1 (i := 0) (by omega)
      rw [q4] at q5
      cases e0 with
      | true =>
        have q6 : vbits .or .i64 (m 0) (2 ^ 0) = m (0 + 1) := by
          simp only [m]
          have := (b4_or a0 a1 a2 a3).1
          simpa using this
        simp only [gos, if_true, if_false, ne_eq, eq_self, Nat.reduceLT, Nat.reduceEqDiff, Nat.reduceAdd, Nat.reduceMul, Nat.reduceLeDiff, Nat.reduceBEq, reduceCtorEq, reduceIte, Array.toList, ↓reduceIte, tt, vgo, vout, vgoD, voutD, vclsOk, vids, mayWrite, V.ids, V.mids, vguard, callOf, vop, ev, cv, vbin, vint, isShift, isNilConst, vnil, isNilSlice, vload, vlen, newRow, vfill, vslice, entOf, vappend, srcOf, vcopy, vlookup, vupdate, mapOk, keyOf, intsOf, clsAt, q1, q2, q3, q4, hu, hneg, q5, q6, hsucc]
        exact Nx.mk (0 + 1) (show 4 - (0 + 1) < 4 - 0 by omega) (by omega) (Wk.env (by simp [subE, Env.get, vT, vR]))
      | false =>
        have q6 : m (0 + 1) = m 0 := by simp [m]
        simp only [gos, if_true, if_false, ne_eq, eq_self, Nat.reduceLT, Nat.reduceEqDiff, Nat.reduceAdd, Nat.reduceMul, Nat.reduceLeDiff, Nat.reduceBEq, reduceCtorEq, reduceIte, Array.toList, ↓reduceIte, tt, vgo, vout, vgoD, voutD, vclsOk, vids, mayWrite, V.ids, V.mids, vguard, callOf, vop, ev, cv, vbin, vint, isShift, isNilConst, vnil, isNilSlice, vload, vlen, newRow, vfill, vslice, entOf, vappend, srcOf, vcopy, vlookup, vupdate, mapOk, keyOf, intsOf, clsAt, q1, q2, q3, q4, hu, hneg, hsucc]
        exact Nx.mk (0 + 1) (show 4 - (0 + 1) < 4 - 0 by omega) (by omega) (Wk.env (by simp [subE, Env.get, vT, vR, q6]))
    · have q1 : decide (((1 : Nat) : Int) < 4) = true := by decide
      have q2 : (((1 : Nat) : Int) < ((4 : Nat) : Int)) = True := by decide
      have q3 : (0 ≤ ((1 : Nat) : Int)) = True := by decide
      have q4 : Int.toNat ((1 : Nat) : Int) = 1 := rfl
      have q5 := shl1 (i := 1) (by omega)
      rw [q4] at q5
      cases e1 with
      | true =>
        have q6 : vbits .or .i64 (m 1) (2 ^ 1) = m (1 + 1) := by
          simp only [m]
          have := (b4_or (a0 || e0) a1 a2 a3).2.1
          simpa using this
        simp only [gos, if_true, if_false, ne_eq, eq_self, Nat.reduceLT, Nat.reduceEqDiff, Nat.reduceAdd, Nat.reduceMul, Nat.reduceLeDiff, Nat.reduceBEq, reduceCtorEq, reduceIte, Array.toList, ↓reduceIte, tt, vgo, vout, vgoD, voutD, vclsOk, vids, mayWrite, V.ids, V.mids, vguard, callOf, vop, ev, cv, vbin, vint, isShift, isNilConst, vnil, isNilSlice, vload, vlen, newRow, vfill, vslice, entOf, vappend, srcOf, vcopy, vlookup, vupdate, mapOk, keyOf, intsOf, clsAt, q1, q2, q3, q4, hu, hneg, q5, q6, hsucc]
        exact Nx.mk (1 + 1) (show 4 - (1 + 1) < 4 - 1 by omega) (by omega) (Wk.env (by simp [subE, Env.get, vT, vR]))
      | false =>
        have q6 : m (1 + 1) = m 1 := by simp [m]
        simp only [gos, if_true, if_false, ne_eq, eq_self, Nat.reduceLT, Nat.reduceEqDiff, Nat.reduceAdd, Nat.reduceMul, Nat.reduceLeDiff, Nat.reduceBEq, reduceCtorEq, reduceIte, Array.toList, ↓reduceIte, tt, vgo, vout, vgoD, voutD, vclsOk, vids, mayWrite, V.ids, V.mids, vguard, callOf, vop, ev, cv, vbin, vint, isShift, isNilConst, vnil, isNilSlice, vload, vlen, newRow, vfill, vslice, entOf, vappend, srcOf, vcopy, vlookup, vupdate, mapOk, keyOf, intsOf, clsAt, q1, q2, q3, q4, hu, hneg, hsucc]
        exact Nx.mk (1 + 1) (show 4 - (1 + 1) < 4 - 1 by omega) (by omega) (Wk.env (by simp [subE, Env.get, vT, vR, q6]))
    · have q1 : decide (((2 : Nat) : Int) < 4) = true := by decide
      have q2 : (((2 : Nat) : Int) < ((4 : Nat) : Int)) = True := by decide
      have q3 : (0 ≤ ((2 : Nat) : Int)) = True := by decide
      have q4 : Int.toNat ((2 : Nat) : Int) = 2 := rfl
      have q5 := shl1 (i := 2) (by omega)
      rw [q4] at q5
      cases e2 with
      | true =>
        have q6 : vbits .or .i64 (m 2) (2 ^ 2) = m (2 + 1) := by
          simp only [m]
          have := (b4_or (a0 || e0) (a1 || e1) a2 a3).2.2.1
          simpa using this
        simp only [gos, if_true, if_false, ne_eq, eq_self, Nat.reduceLT, Nat.reduceEqDiff, Nat.reduceAdd, Nat.reduceMul, Nat.reduceLeDiff, Nat.reduceBEq, reduceCtorEq, reduceIte, Array.toList, ↓reduceIte, tt, vgo, vout, vgoD, voutD, vclsOk, vids, mayWrite, V.ids, V.mids, vguard, callOf, vop, ev, cv, vbin, vint, isShift, isNilConst, vnil, isNilSlice, vload, vlen, newRow, vfill, vslice, entOf, vappend, srcOf, vcopy, vlookup, vupdate, mapOk, keyOf, intsOf, clsAt, q1, q2, q3, q4, hu, hneg, q5, q6, hsucc]
        exact Nx.mk (2 + 1) (show 4 - (2 + 1) < 4 - 2 by omega) (by omega) (Wk.env (by simp [subE, Env.get, vT, vR]))
      | false =>
        have q6 : m (2 + 1) = m 2 := by simp [m]
        simp only [gos, if_true, if_false, ne_eq, eq_self, Nat.reduceLT, Nat.reduceEqDiff, Nat.reduceAdd, Nat.reduceMul, Nat.reduceLeDiff, Nat.reduceBEq, reduceCtorEq, reduceIte, Array.toList, ↓reduceIte, tt, vgo, vout, vgoD, voutD, vclsOk, vids, mayWrite, V.ids, V.mids, vguard, callOf, vop, ev, cv, vbin, vint, isShift, isNilConst, vnil, isNilSlice, vload, vlen, newRow, vfill, vslice, entOf, vappend, srcOf, vcopy, vlookup, vupdate, mapOk, keyOf, intsOf, clsAt, q1, q2, q3, q4, hu, hneg, hsucc]
        exact Nx.mk (2 + 1) (show 4 - (2 + 1) < 4 - 2 by omega) (by omega) (Wk.env (by simp [subE, Env.get, vT, vR, q6]))
    · have q1 : decide (((3 : Nat) : Int) < 4) = true := by decide
      have q2 : (((3 : Nat) : Int) < ((4 : Nat) : Int)) = True := by decide
      have q3 : (0 ≤ ((3 : Nat) : Int)) = True := by decide
      have q4 : Int.toNat ((3 : Nat) : Int) = 3 := rfl
      have q5 := shl1 (i := 3) (by omega)
      rw [q4] at q5
      cases e3 with
      | true =>
        have q6 : vbits .or .i64 (m 3) (2 ^ 3) = m (3 + 1) := by
          simp only [m]
          have := (b4_or (a0 || e0) (a1 || e1) (a2 || e2) a3).2.2.2
          simpa using this
        simp only [gos, if_true, if_false, ne_eq, eq_self, Nat.reduceLT, Nat.reduceEqDiff, Nat.reduceAdd, Nat.reduceMul, Nat.reduceLeDiff, Nat.reduceBEq, reduceCtorEq, reduceIte, Array.toList, ↓reduceIte, tt, vgo, vout, vgoD, voutD, vclsOk, vids, mayWrite, V.ids, V.mids, vguard, callOf, vop, ev, cv, vbin, vint, isShift, isNilConst, vnil, isNilSlice, vload, vlen, newRow, vfill, vslice, entOf, vappend, srcOf, vcopy, vlookup, vupdate, mapOk, keyOf, intsOf, clsAt, q1, q2, q3, q4, hu, hneg, q5, q6, hsucc]
        exact Nx.mk (3 + 1) (show 4 - (3 + 1) < 4 - 3 by omega) (by omega) (Wk.env (by simp [subE, Env.get, vT, vR]))
      | false =>
        have q6 : m (3 + 1) = m 3 := by simp [m]
        simp only [gos, if_true, if_false, ne_eq, eq_self, Nat.reduceLT, Nat.reduceEqDiff, Nat.reduceAdd, Nat.reduceMul, Nat.reduceLeDiff, Nat.reduceBEq, reduceCtorEq, reduceIte, Array.toList, ↓reduceIte, tt, vgo, vout, vgoD, voutD, vclsOk, vids, mayWrite, V.ids, V.mids, vguard, callOf, vop, ev, cv, vbin, vint, isShift, isNilConst, vnil, isNilSlice, vload, vlen, newRow, vfill, vslice, entOf, vappend, srcOf, vcopy, vlookup, vupdate, mapOk, keyOf, intsOf, clsAt, q1, q2, q3, q4, hu, hneg, hsucc]
        exact Nx.mk (3 + 1) (show 4 - (3 + 1) < 4 - 3 by omega) (by omega) (Wk.env (by simp [subE, Env.get, vT, vR, q6]))
    · have q1 : decide (((4 : Nat) : Int) < 4) = false := by decide
      simp only [gos, if_true, if_false, ne_eq, eq_self, Nat.reduceLT, Nat.reduceEqDiff, Nat.reduceAdd, Nat.reduceMul, Nat.reduceLeDiff, Nat.reduceBEq, reduceCtorEq, reduceIte, Array.toList, ↓reduceIte, tt, vgo, vout, vgoD, voutD, vclsOk, vids, mayWrite, V.ids, V.mids, vguard, callOf, vop, ev, cv, vbin, vint, isShift, isNilConst, vnil, isNilSlice, vload, vlen, newRow, vfill, vslice, entOf, vappend, srcOf, vcopy, vlookup, vupdate, mapOk, keyOf, intsOf, clsAt, q1]
      refine Nx.mk (i + 1) (show (rTruths c).length - (i + 1) < (rTruths c).length - i by omega) (by omega) (Wk.forget ?_ (by simp [subH]) (fun j hp => by simp [orD, domP, Heap.get] at hp) ?_ rfl)
      · simp [subE, Env.get, vT, vR, hm4, i64_succ (show (i : Int) < 9223372036854775807 by omega)]
      · simp only [intoE, V.into, intoL, cB_into, vB_into, cI_into, cR_into, cD_into, cS_into, vS_into, vI_into, vR_into, vD_into, cu_into, Bool.true_and, Bool.and_true, cT_into, vT_into]
  · have e : (rTruths c).take i = rTruths c := List.take_of_length_le (by omega)
    have hany : ∀ (f : Tr2 → Bool) (v : Int) (g : Tr2 → Int), (∀ t, f t = decide (g t = v)) → v ∈ (rTruths c).map g → (rTruths c).any f = true := fun f v g hf hv => by
      obtain ⟨t, h1, h2⟩ := List.mem_map.1 hv
      rw [List.any_eq_true]
      exact ⟨t, h1, by rw [hf]; simpa using h2⟩
    have hM15 : M i = 15 := by
      simp only [M, e]
      rw [hany (E0 c k (gR H k)) _ _ (fun t => rfl) bH.1, hany (E1 c k (gR H k)) _ _ (fun t => rfl) bH.2, hany (E2 c k (gR K k)) _ _ (fun t => rfl) bK.1, hany (E3 c k (gR K k)) _ _ (fun t => rfl) bK.2]
      rfl
    have z15 : decide (M i = 15) = true := by simp [hM15]
    simp only [gos, if_true, if_false, ne_eq, eq_self, Nat.reduceLT, Nat.reduceEqDiff, Nat.reduceAdd, Nat.reduceMul, Nat.reduceLeDiff, Nat.reduceBEq, reduceCtorEq, reduceIte, Array.toList, ↓reduceIte, tt, vgo, vout, vgoD, voutD, vclsOk, vids, mayWrite, V.ids, V.mids, vguard, callOf, vop, ev, cv, vbin, vint, isShift, isNilConst, vnil, isNilSlice, vload, vlen, newRow, vfill, vslice, entOf, vappend, srcOf, vcopy, vlookup, vupdate, mapOk, keyOf, intsOf, clsAt, vT, hil, z15]
    refine Cl.pu c_awake ?_
    simp only [gos, if_true, if_false, ne_eq, eq_self, Nat.reduceLT, Nat.reduceEqDiff, Nat.reduceAdd, Nat.reduceMul, Nat.reduceLeDiff, Nat.reduceBEq, reduceCtorEq, reduceIte, Array.toList, ↓reduceIte, tt, vgo, vout, vgoD, voutD, vclsOk, vids, mayWrite, V.ids, V.mids, vguard, callOf, vop, ev, cv, vbin, vint, isShift, isNilConst, vnil, isNilSlice, vload, vlen, newRow, vfill, vslice, entOf, vappend, srcOf, vcopy, vlookup, vupdate, mapOk, keyOf, intsOf, clsAt]
    subst hQ
    exact FnPost.plain trivial (v := .bool true) (fun h2 e => by rfl) WkV.refl rfl
end Go.Vm
set_option linter.unusedVariables false
set_option maxRecDepth 100000
namespace Go.Proofs.Ytjbgmnpbpmljaaa
open Go.ChangeShapes Go.WideShapes Go.ChangeAt Go.RowKit Go.Vm
theorem own : ownKnob Try.prog.godebug = none := by kernel_rfl
theorem laidOut : laidOutB Try.prog = true := by kernel_rfl
theorem walk (x0 : Cu) (h0 : x0.ok) (x1 : Int) (h1 : 0 ≤ x1 ∧ x1 ≤ 255) : Vm.Fn Try.prog 6 [.agg x0.cs, .int .u8 x1] [] fun v h' => v = .bool true := l_CopperEnds x0 h0.last x1 h1
theorem lifted (os : Os) (started : os.Started) (H : Type) (enc : TypeId × Value → H) :
    ReturnsInHanded {} Try.checked os 6 .any (Rows.copperEndsSpec.pre6 enc Try.prog Try.f6 Rows.copperEndsRow.domain false) (Rows.copperEndsSpec.post enc Try.prog Try.f6 false true false false) := by
  refine returnsInHanded_of_change (C := Try.checked) own started (by kernel_rfl) Try.func6
    (ChangeSpec.witness6 (enc := enc) (C := Try.checked) false ⟨#[], #[.agg #[.int .i64 0, .int .i64 0, .int .i64 0, .int .i64 0, .int .i64 0, .slice none 0 0, .slice none 0 0, .int .i64 0, .int .i64 0, .slice none 0 0, .slice none 0 0], .int .u8 0], []⟩ 8 (by kernel_rfl) (by kernel_rfl) (by kernel_rfl) (by kernel_rfl)) ?_
  intro W base args ds gs before hval0 hW hcnd _
  have hval : ∀ (j : Nat) t v, Try.f6.params[j]? = some t → args[j]? = some v → Value.okWide Try.prog W .any base t v := hval0
  have hW' := hW
  obtain ⟨p, q, hA0, hV, rfl, hfz, hnd⟩ := hW
  have hA : DataW.TrodAll enc Try.prog W 0 (fun _ => true) true Try.f6.params.toList args.toList ds p := hA0
  rw [Try.params6] at hA hval
  obtain ⟨v0, vs0, d0, ds0, p0, q0, hargs, rfl, rfl, t0, r0⟩ := trodAll_cons hA
  obtain ⟨v1, vs1, d1, ds1, p1, q1, rfl, rfl, rfl, t1, r1⟩ := trodAll_cons r0
  obtain ⟨rfl, rfl, rfl⟩ := trodAll_nil r1
  obtain rfl : args = #[v0, v1] := by cases args; simp_all
  obtain ⟨rfl, rfl⟩ := trodVars_none hV
  have k100 := t0
  have lt0 : ∀ x ∈ p0, x.block < W.heap.size := by obtain ⟨m, hm⟩ := k100; exact DataW.trod_lt m _ _ _ hm
  have k101 := t1
  have lt1 : ∀ x ∈ p1, x.block < W.heap.size := by obtain ⟨m, hm⟩ := k101; exact DataW.trod_lt m _ _ _ hm
  obtain ⟨y0, rfl, _⟩ := okWide_struct Try.underlying28 (hval 0 _ v0 rfl rfl)
  obtain ⟨c0, hc0, e0⟩ : ∃ c : Cu, c.ok ∧ VRL (gh0 W) c.cs y0.toList := by
    obtain ⟨fuel, hf⟩ := t0
    exact rd_cu hf
  obtain ⟨i1, rfl⟩ := okWide_int Try.underlying5 (hval 1 _ v1 rfl rfl)
  obtain ⟨c1, hc1, e1⟩ : ∃ n : Int, (0 ≤ n ∧ n ≤ 255) ∧ VRL (gh0 W) [.int .u8 n] [.int .u8 i1] := by
    obtain ⟨fuel, hf⟩ := t1
    exact rd_u8 hf
  clear hA0 hval0
  refine (calls_of_fn (walk c0 hc0 c1 hc1) (VRL.cons (by simp only [VR]; exact ⟨y0, rfl, e0⟩) (VRL.cons (VRL.one e1) VRL.nil))).mono fun e W' ⟨he, bel⟩ => ?_
  subst he
  exact ⟨_, rfl, _, _, _, [], _, [], hW', trodAll_mk1 (shut_bool Try.underlying4 _), (trodAll_cons_mk (Below.trod laidOut (by kernel_rfl) (of_decide_eq_true (by kernel_rfl)) k100 bel lt0) (trodAll_cons_mk (Below.trod laidOut (by kernel_rfl) (of_decide_eq_true (by kernel_rfl)) k101 bel lt1) trodAll_mk0)), rfl, bel.frame _, fun h => by cases h⟩
theorem over : Rows.copperEndsRow.holds Try.pinned (OpenSpec.ofChange Rows.copperEndsSpec) :=
  OpenClaim.holds_of_wide 6 Try.f6 rfl rfl rfl rfl rfl rfl rfl ⟨rfl, rfl, rfl, rfl, rfl⟩ rfl rfl rfl rfl rfl (by kernel_rfl) Try.func6 (by kernel_rfl)
    (of_decide_eq_true (by kernel_rfl)) (by unfold Func.isWrapper; first | (rw [if_pos (by decide +kernel)]; kernel_rfl) | (rw [if_neg (by decide +kernel)]; exact ⟨rfl, rfl⟩))
    (fun os started H enc _ => lifted os started H enc)
/-- The statement. -/
theorem proved : Rows.CopperEndsSaid := over
#print axioms proved
end Go.Proofs.Ytjbgmnpbpmljaaa
