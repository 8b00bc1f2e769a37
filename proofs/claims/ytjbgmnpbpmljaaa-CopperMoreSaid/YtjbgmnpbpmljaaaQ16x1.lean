/-
The Go law CopperMore returns true for every input, and its arguments read behind the call as they read before. Conditions: none.
-/
import Derived.Test.YtjbgmnpbpmljaaaA3
set_option linter.unusedVariables false
set_option linter.unusedSimpArgs false
namespace Go.Vm
/-! ### verdicts are the same -/
theorem sVerdict_01 {α : Type} (p : α → Bool) {l : List α} (hne : l ≠ []) : sVerdict (sBounds (l.map fun s => if p s = true then 1 else 0)) = if l.all p then 1 else if l.any p then 3 else 2 := by
  have hm : ∀ x ∈ l.map (fun s => if p s = true then (1 : Int) else 0), x = 0 ∨ x = 1 := fun x hx => by
    obtain ⟨s, _, rfl⟩ := List.mem_map.1 hx
    by_cases h : p s = true <;> simp [h]
  have hone : (1 : Int) ∈ l.map (fun s => if p s = true then (1 : Int) else 0) ↔ l.any p = true := by
    simp only [List.mem_map, List.any_eq_true]
    constructor
    · rintro ⟨s, h1, h2⟩
      refine ⟨s, h1, ?_⟩
      by_cases h : p s = true
      · exact h
      · rw [if_neg h] at h2; cases h2
    · rintro ⟨s, h1, h2⟩; exact ⟨s, h1, if_pos h2⟩
  have hzero : (0 : Int) ∈ l.map (fun s => if p s = true then (1 : Int) else 0) ↔ ¬ l.all p = true := by
    simp only [List.mem_map, List.all_eq_true]
    constructor
    · rintro ⟨s, h1, h2⟩ ha
      rw [if_pos (ha s h1)] at h2; cases h2
    · intro h
      cases hf : l.find? (fun s => !p s) with
      | some s =>
        have h1 := List.find?_some hf
        exact ⟨s, List.mem_of_find?_eq_some hf, if_neg (by simpa using h1)⟩
      | none =>
        exfalso; apply h
        intro s hs
        have := List.find?_eq_none.1 hf s hs
        simpa using this
  generalize hns : l.map (fun s => if p s = true then (1 : Int) else 0) = ns at hm hone hzero ⊢
  cases ns with
  | nil => exact absurd (List.map_eq_nil_iff.1 hns) hne
  | cons n r =>
    have e : sBounds (n :: r) = (n :: r).foldl sWider ⟨n, n⟩ := rfl
    obtain ⟨h1, h2, h3, h4, h5, h6⟩ := fold_wider (n :: r) ⟨n, n⟩
    rw [e]
    generalize (n :: r).foldl sWider ⟨n, n⟩ = A at h1 h2 h3 h4 h5 h6 ⊢
    have m1 : A.lo ∈ n :: r := by
      rcases h3 with h | h
      · simp only at h; rw [h]; simp
      · exact h
    have m2 : A.hi ∈ n :: r := by
      rcases h6 with h | h
      · simp only at h; rw [h]; simp
      · exact h
    have b1 := hm _ m1
    have b2 := hm _ m2
    by_cases ha : l.all p = true
    · have hlo : A.lo = 1 := by
        rcases b1 with b | b
        · rw [b] at m1; exact absurd ha (hzero.1 m1)
        · exact b
      rw [if_pos ha, sVerdict, if_pos (by omega)]
    · have hlo : A.lo = 0 := by
        have := h2 _ (hzero.2 ha)
        omega
      rw [if_neg ha, sVerdict, if_neg (by omega)]
      by_cases hn : l.any p = true
      · have := h5 _ (hone.2 hn)
        rw [if_pos hn, if_neg (by omega)]
      · have : A.hi = 0 := by
          rcases b2 with b | b
          · exact b
          · rw [b] at m2; exact absurd (hone.1 m2) hn
        rw [if_neg hn, if_pos this]
theorem rVerdict_count {α : Type} (q : α → Bool) {l : List α} (hne : l ≠ []) : rVerdict (l.countP q) l.length = if l.all q then 1 else if l.any q then 3 else 2 := by
  have h1 : l.countP q = l.length ↔ l.all q = true := by rw [List.countP_eq_length, List.all_eq_true]
  have h2 : l.countP q = 0 ↔ ¬ l.any q = true := by
    rw [List.countP_eq_zero, List.any_eq_true]
    exact ⟨fun h ⟨x, hx, hq⟩ => h x hx hq, fun h x hx hq => h ⟨x, hx, hq⟩⟩
  have hl : l.length ≠ 0 := fun h => hne (List.length_eq_zero_iff.1 h)
  unfold rVerdict
  by_cases ha : l.all q = true
  · rw [if_pos (by have := h1.2 ha; omega), if_pos ha]
  · rw [if_neg (fun h => ha (h1.1 (by omega))), if_neg ha]
    by_cases hn : l.any q = true
    · rw [if_neg (fun h => (h2.1 (by omega)) hn), if_pos hn]
    · rw [if_pos (by have := h2.2 hn; omega), if_neg hn]
theorem verdict_same {c : Cu} (k0 : CuOk c) (hne : sTruth c ≠ []) (p : Sc → Bool) (q : Tr2 → Bool) (h : ∀ t, p (tS t) = q t) :
    sVerdict (sBounds ((sTruth c).map fun s => if p s = true then 1 else 0)) = rVerdict ((rTruths c).countP q) (rTruths c).length := by
  have hne2 : rTruths c ≠ [] := fun e => hne ((same_nil k0).2 e)
  rw [sVerdict_01 p hne, rVerdict_count q hne2]
  have e1 : (sTruth c).all p = (rTruths c).all q := by
    rw [Bool.eq_iff_iff, List.all_eq_true, List.all_eq_true]
    constructor
    · intro ha t ht; rw [← h]; exact ha _ ((same_truths k0 _).2 ⟨t, ht, rfl⟩)
    · intro ha s hs
      obtain ⟨t, ht, rfl⟩ := (same_truths k0 s).1 hs
      rw [h]; exact ha t ht
  have e2 : (sTruth c).any p = (rTruths c).any q := by
    rw [Bool.eq_iff_iff, List.any_eq_true, List.any_eq_true]
    constructor
    · rintro ⟨s, hs, hp⟩
      obtain ⟨t, ht, rfl⟩ := (same_truths k0 s).1 hs
      exact ⟨t, ht, by rw [← h]; exact hp⟩
    · rintro ⟨t, ht, hq⟩
      exact ⟨tS t, (same_truths k0 _).2 ⟨t, ht, rfl⟩, by rw [h]; exact hq⟩
  rw [e1, e2]
theorem keeps_same {c : Cu} (A : AskOk c true) {i : Nat} (hi : (i : Int) ≤ c.last) : kpF c i = rKeeps c (rTruths c) i := by
  exact verdict_same A.k0 A.ne (fun s => gB (sPast c c.coal c.want s).kept i) (fun t => keptI c c.coal c.want t i) fun t => past_kept c.coal c.want (tS t) hi
/-- All promises are kept in a truth. -/
def wholeI (c : Cu) (coal want : List Int) (t : Tr2) : Bool := (List.range (c.last + 1).toNat).all fun i => keptI c coal want t i
def rWholes (c : Cu) (l : List Tr2) (coal want : List Int) : Int := rVerdict (l.countP fun t => wholeI c coal want t) l.length
theorem wholes_same {c : Cu} (k0 : CuOk c) (hne : sTruth c ≠ []) (coal want : List Int) : sVerdict (sBounds ((sTruth c).map fun s => if (sPast c coal want s).kept.any (fun y => decide (false = y)) then 0 else 1)) = rWholes c (rTruths c) coal want := by
  have e : (fun s : Sc => if (sPast c coal want s).kept.any (fun y => decide (false = y)) = true then (0 : Int) else 1) = fun s => if sKept c coal want s = true then 1 else 0 := by
    funext s
    by_cases h : ((sPast c coal want s).kept.any fun y => decide (false = y)) = true
    · have h2 : sKept c coal want s = false := by rw [sKept, h]; rfl
      rw [if_pos h, if_neg (by rw [h2]; simp)]
    · have h2 : sKept c coal want s = true := by
        rw [Bool.not_eq_true] at h
        rw [sKept, h]; rfl
      rw [if_neg h, if_pos h2]
  rw [e]
  refine verdict_same k0 hne (fun s => sKept c coal want s) (fun t => wholeI c coal want t) fun t => ?_
  simp only [sKept]
  rw [past_whole, Bool.not_not]
  rfl
/-- The numbers of two lists, added. -/
def addL (a b : List Int) : List Int := (List.range a.length).map fun (i : Nat) => gi a i + gi b i
theorem sAdd_eq {a b : List Int} : sAdd a b a.length = addL a b := by
  refine List.ext_getElem? fun j => ?_
  by_cases hj : j < a.length
  · have h1 := sAdd_get a b a.length j hj
    rw [if_pos hj] at h1
    have hl := sAdd_len a b a.length
    rw [gi_get (l := sAdd a b a.length) (by omega), h1, addL, List.getElem?_map, List.getElem?_range hj]
    rfl
  · rw [List.getElem?_eq_none (by rw [sAdd_len]; omega), List.getElem?_eq_none (by simp [addL]; omega)]
theorem with_same {c : Cu} (k0 : CuOk c) (hne : sTruth c ≠ []) {more : List Int} (hm : more.length = c.want.length) : sWith c (sTruth c) more = rWholes c (rTruths c) c.coal (addL c.want more) := by
  have := wholes_same k0 hne c.coal (addL c.want more)
  rw [← this, sWith, hm, sAdd_eq]
end Go.Vm
set_option linter.unusedVariables false
set_option linter.unusedSimpArgs false
set_option maxRecDepth 100000
namespace Go.Vm
open Go.Proofs
/-! ### the reference: all promises; spare buckets; the hour that may lack -/
set_option maxHeartbeats 1000000 in
theorem c_rWhole (c : Cu) (t : Tr2) (coal want : List Int) (k : TrOk c t coal want) : Pu Try.prog (.fn 88 [] []) [.agg c.cs, .agg t.cs, vI coal, vI want] (.bool (wholeI c coal want t)) := by
  have hl := k.play.last
  refine Ev.fn Try.func88 rfl rfl (Fn.body tabOk Try.func88 rfl (Nat.le_of_ble_eq_true rfl) (Ks.ok (fz := (fzn [])) (cl := (cln [])) tabOk mixed ?_))
  generalize hQ : FnPost tt Try.f88 _ _ = Q
  simp only [Try.f88, List.nil_append, List.append_nil, List.cons_append, argsEnv, Nat.reduceAdd]
  have hts : t.cs.take 2 = t.cs := rfl
  have htn : t.cs.length = 2 := rfl
  simp only [gos, if_true, if_false, ne_eq, eq_self, Nat.reduceLT, Nat.reduceEqDiff, Nat.reduceAdd, Nat.reduceMul, Nat.reduceLeDiff, Nat.reduceBEq, reduceCtorEq, reduceIte, Array.toList, ↓reduceIte, tt, vgo, vout, vgoD, voutD, vclsOk, vids, mayWrite, V.ids, V.mids, vguard, callOf, vop, ev, cv, vbin, vint, isShift, isNilConst, vnil, isNilSlice, vload, vlen, newRow, vfill, vslice, entOf, vappend, srcOf, vcopy, vlookup, vupdate, mapOk, keyOf, intsOf, clsAt]
  refine W.loop tabOk mixed (fun i : Nat => ([(2, vI coal), (3, vI want), (4, .rop c.cs), (5, .rop t.cs), (9, vi i)], [])) (fun i => (c.last + 1).toNat - i) (fun i => (i : Int) ≤ c.last + 1 ∧ ∀ j : Nat, j < i → keptI c coal want t j = true) 0 ⟨by omega, fun j hj => by omega⟩ (Wk.env (by simp [subE, Env.get])) ?_
  rintro i ⟨hi, hno⟩
  by_cases hil : (i : Int) ≤ c.last
  · simp only [gos, if_true, if_false, ne_eq, eq_self, Nat.reduceLT, Nat.reduceEqDiff, Nat.reduceAdd, Nat.reduceMul, Nat.reduceLeDiff, Nat.reduceBEq, reduceCtorEq, reduceIte, Array.toList, ↓reduceIte, tt, vgo, vout, vgoD, voutD, vclsOk, vids, mayWrite, V.ids, V.mids, vguard, callOf, vop, ev, cv, vbin, vint, isShift, isNilConst, vnil, isNilSlice, vload, vlen, newRow, vfill, vslice, entOf, vappend, srcOf, vcopy, vlookup, vupdate, mapOk, keyOf, intsOf, clsAt, hil, hts, htn]
    refine Cl.pu (c_rKept c t coal want k i hil) ?_ rfl (by simp only [V.into, intoL, cB_into, vB_into, cI_into, cR_into, cD_into, cS_into, vS_into, vI_into, vR_into, vD_into, cu_into, Bool.true_and, Bool.and_true, Tr2.cs])
    rw [show decide (gi want i ≤ (sHeat c (tS t) coal want i).tdiv c.per) = keptI c coal want t i from rfl]
    cases hk : keptI c coal want t i with
    | true =>
      simp only [gos, if_true, if_false, ne_eq, eq_self, Nat.reduceLT, Nat.reduceEqDiff, Nat.reduceAdd, Nat.reduceMul, Nat.reduceLeDiff, Nat.reduceBEq, reduceCtorEq, reduceIte, Array.toList, ↓reduceIte, tt, vgo, vout, vgoD, voutD, vclsOk, vids, mayWrite, V.ids, V.mids, vguard, callOf, vop, ev, cv, vbin, vint, isShift, isNilConst, vnil, isNilSlice, vload, vlen, newRow, vfill, vslice, entOf, vappend, srcOf, vcopy, vlookup, vupdate, mapOk, keyOf, intsOf, clsAt]
      refine Nx.mk (i + 1) (show (c.last + 1).toNat - (i + 1) < (c.last + 1).toNat - i by omega) ⟨by omega, fun j hj => ?_⟩ (Wk.env (by simp [subE, Env.get, i64_succ (show (i : Int) < 9223372036854775807 by omega)]))
      rcases Nat.lt_succ_iff_lt_or_eq.1 hj with h | rfl
      · exact hno j h
      · exact hk
    | false =>
      simp only [gos, if_true, if_false, ne_eq, eq_self, Nat.reduceLT, Nat.reduceEqDiff, Nat.reduceAdd, Nat.reduceMul, Nat.reduceLeDiff, Nat.reduceBEq, reduceCtorEq, reduceIte, Array.toList, ↓reduceIte, tt, vgo, vout, vgoD, voutD, vclsOk, vids, mayWrite, V.ids, V.mids, vguard, callOf, vop, ev, cv, vbin, vint, isShift, isNilConst, vnil, isNilSlice, vload, vlen, newRow, vfill, vslice, entOf, vappend, srcOf, vcopy, vlookup, vupdate, mapOk, keyOf, intsOf, clsAt]
      have hf : wholeI c coal want t = false := by
        rw [Bool.eq_false_iff]; intro ha
        simp only [wholeI, List.all_eq_true, List.mem_range] at ha
        rw [ha i (by omega)] at hk; cases hk
      subst hQ
      exact FnPost.plain trivial (fun h2 e => by first | rfl | (simp only [Try.f88, vres, vresL, vres1, e _, gos, if_true, if_false, ne_eq, eq_self, Nat.reduceLT, Nat.reduceEqDiff, Nat.reduceAdd, Nat.reduceMul, Nat.reduceLeDiff, Nat.reduceBEq, reduceCtorEq, reduceIte, Array.toList, ↓reduceIte, tt, vgo, vout, vgoD, voutD, vclsOk, vids, mayWrite, V.ids, V.mids, vguard, callOf, vop, ev, cv, vbin, vint, isShift, isNilConst, vnil, isNilSlice, vload, vlen, newRow, vfill, vslice, entOf, vappend, srcOf, vcopy, vlookup, vupdate, mapOk, keyOf, intsOf, clsAt]; try rfl)) (WkV.pure (by simp only [V.into, intoL, cB_into, vB_into, cI_into, cR_into, cD_into, cS_into, vS_into, vI_into, vR_into, vD_into, cu_into, Bool.true_and, Bool.and_true])) ⟨by rw [hf], rfl⟩
  · simp only [gos, if_true, if_false, ne_eq, eq_self, Nat.reduceLT, Nat.reduceEqDiff, Nat.reduceAdd, Nat.reduceMul, Nat.reduceLeDiff, Nat.reduceBEq, reduceCtorEq, reduceIte, Array.toList, ↓reduceIte, tt, vgo, vout, vgoD, voutD, vclsOk, vids, mayWrite, V.ids, V.mids, vguard, callOf, vop, ev, cv, vbin, vint, isShift, isNilConst, vnil, isNilSlice, vload, vlen, newRow, vfill, vslice, entOf, vappend, srcOf, vcopy, vlookup, vupdate, mapOk, keyOf, intsOf, clsAt, hil]
    have ht : wholeI c coal want t = true := by
      simp only [wholeI, List.all_eq_true, List.mem_range]
      exact fun j hj => hno j (by omega)
    subst hQ
    exact FnPost.plain trivial (fun h2 e => by first | rfl | (simp only [Try.f88, vres, vresL, vres1, e _, gos, if_true, if_false, ne_eq, eq_self, Nat.reduceLT, Nat.reduceEqDiff, Nat.reduceAdd, Nat.reduceMul, Nat.reduceLeDiff, Nat.reduceBEq, reduceCtorEq, reduceIte, Array.toList, ↓reduceIte, tt, vgo, vout, vgoD, voutD, vclsOk, vids, mayWrite, V.ids, V.mids, vguard, callOf, vop, ev, cv, vbin, vint, isShift, isNilConst, vnil, isNilSlice, vload, vlen, newRow, vfill, vslice, entOf, vappend, srcOf, vcopy, vlookup, vupdate, mapOk, keyOf, intsOf, clsAt]; try rfl)) (WkV.pure (by simp only [V.into, intoL, cB_into, vB_into, cI_into, cR_into, cD_into, cS_into, vS_into, vI_into, vR_into, vD_into, cu_into, Bool.true_and, Bool.and_true])) ⟨by rw [ht], rfl⟩
set_option maxHeartbeats 1000000 in
theorem c_rWholes (c : Cu) (l : List Tr2) (coal want : List Int) (hl : (l.length : Int) ≤ 1000000) (hok : ∀ t ∈ l, TrOk c t coal want) : Pu Try.prog (.fn 33 [] []) [.agg c.cs, vT l, vI coal, vI want] (vi (rWholes c l coal want)) := by
  refine Ev.fn Try.func33 rfl rfl (Fn.body tabOk Try.func33 rfl (Nat.le_of_ble_eq_true rfl) (Ks.ok (fz := (fzn [])) (cl := (cln [(5, .d tg0 [cP, cP, cP, cP, cP, cP, cP, cP])])) tabOk mixed ?_))
  generalize hQ : FnPost tt Try.f33 _ _ = Q
  simp only [Try.f33, List.nil_append, List.append_nil, List.cons_append, argsEnv, Nat.reduceAdd]
  simp only [gos, if_true, if_false, ne_eq, eq_self, Nat.reduceLT, Nat.reduceEqDiff, Nat.reduceAdd, Nat.reduceMul, Nat.reduceLeDiff, Nat.reduceBEq, reduceCtorEq, reduceIte, Array.toList, ↓reduceIte, tt, vgo, vout, vgoD, voutD, vclsOk, vids, mayWrite, V.ids, V.mids, vguard, callOf, vop, ev, cv, vbin, vint, isShift, isNilConst, vnil, isNilSlice, vload, vlen, newRow, vfill, vslice, entOf, vappend, srcOf, vcopy, vlookup, vupdate, mapOk, keyOf, intsOf, clsAt]
  refine W.loop tabOk mixed (fun i : Nat => ([(1, vT l), (2, vI coal), (3, vI want), (4, .rop c.cs), (9, vi ((l.take i).countP fun t => wholeI c coal want t)), (10, vi i)], [])) (fun i => l.length - i) (fun i => i ≤ l.length) 0 (by omega) (Wk.env (by simp [subE, Env.get])) ?_
  intro i hi
  by_cases hil : (i : Int) < l.length
  · have ht := hok _ (List.mem_of_getElem? (gT_get hil))
    have hcs := count_snoc l (fun t => wholeI c coal want t) hil
    have hle : (l.take i).countP (fun t => wholeI c coal want t) ≤ i := Nat.le_trans List.countP_le_length (by rw [List.length_take]; exact Nat.min_le_left _ _)
    simp only [gos, if_true, if_false, ne_eq, eq_self, Nat.reduceLT, Nat.reduceEqDiff, Nat.reduceAdd, Nat.reduceMul, Nat.reduceLeDiff, Nat.reduceBEq, reduceCtorEq, reduceIte, Array.toList, ↓reduceIte, tt, vgo, vout, vgoD, voutD, vclsOk, vids, mayWrite, V.ids, V.mids, vguard, callOf, vop, ev, cv, vbin, vint, isShift, isNilConst, vnil, isNilSlice, vload, vlen, newRow, vfill, vslice, entOf, vappend, srcOf, vcopy, vlookup, vupdate, mapOk, keyOf, intsOf, clsAt, vT, hil]
    refine Wr.draw (by kernel_rfl) ?_
    simp only [gos, if_true, if_false, ne_eq, eq_self, Nat.reduceLT, Nat.reduceEqDiff, Nat.reduceAdd, Nat.reduceMul, Nat.reduceLeDiff, Nat.reduceBEq, reduceCtorEq, reduceIte, Array.toList, ↓reduceIte, tt, vgo, vout, vgoD, voutD, vclsOk, vids, mayWrite, V.ids, V.mids, vguard, callOf, vop, ev, cv, vbin, vint, isShift, isNilConst, vnil, isNilSlice, vload, vlen, newRow, vfill, vslice, entOf, vappend, srcOf, vcopy, vlookup, vupdate, mapOk, keyOf, intsOf, clsAt, vT, hil, cT_at (Int.natCast_nonneg i) hil]
    refine CD.pu (c_rWhole c (gT l i) coal want ht) ?_ rfl (by simp only [V.into, intoL, cB_into, vB_into, cI_into, cR_into, cD_into, cS_into, vS_into, vI_into, vR_into, vD_into, cu_into, Bool.true_and, Bool.and_true])
    cases hk : wholeI c coal want (gT l i) with
    | true =>
      rw [hk] at hcs
      simp only [gos, if_true, if_false, ne_eq, eq_self, Nat.reduceLT, Nat.reduceEqDiff, Nat.reduceAdd, Nat.reduceMul, Nat.reduceLeDiff, Nat.reduceBEq, reduceCtorEq, reduceIte, Array.toList, ↓reduceIte, tt, vgo, vout, vgoD, voutD, vclsOk, vids, mayWrite, V.ids, V.mids, vguard, callOf, vop, ev, cv, vbin, vint, isShift, isNilConst, vnil, isNilSlice, vload, vlen, newRow, vfill, vslice, entOf, vappend, srcOf, vcopy, vlookup, vupdate, mapOk, keyOf, intsOf, clsAt, i64_succ (show (((l.take i).countP fun t => wholeI c coal want t : Nat) : Int) < 9223372036854775807 by omega)]
      exact Nx.mk (i + 1) (show l.length - (i + 1) < l.length - i by omega) (by omega) (Wk.env (by simp [subE, Env.get, vT, hcs, i64_succ (show (i : Int) < 9223372036854775807 by omega)]))
    | false =>
      rw [hk] at hcs
      simp only [gos, if_true, if_false, ne_eq, eq_self, Nat.reduceLT, Nat.reduceEqDiff, Nat.reduceAdd, Nat.reduceMul, Nat.reduceLeDiff, Nat.reduceBEq, reduceCtorEq, reduceIte, Array.toList, ↓reduceIte, tt, vgo, vout, vgoD, voutD, vclsOk, vids, mayWrite, V.ids, V.mids, vguard, callOf, vop, ev, cv, vbin, vint, isShift, isNilConst, vnil, isNilSlice, vload, vlen, newRow, vfill, vslice, entOf, vappend, srcOf, vcopy, vlookup, vupdate, mapOk, keyOf, intsOf, clsAt]
      exact Nx.mk (i + 1) (show l.length - (i + 1) < l.length - i by omega) (by omega) (Wk.env (by simp [subE, Env.get, vT, hcs, i64_succ (show (i : Int) < 9223372036854775807 by omega)]))
  · have e : l.take i = l := List.take_of_length_le (by omega)
    simp only [gos, if_true, if_false, ne_eq, eq_self, Nat.reduceLT, Nat.reduceEqDiff, Nat.reduceAdd, Nat.reduceMul, Nat.reduceLeDiff, Nat.reduceBEq, reduceCtorEq, reduceIte, Array.toList, ↓reduceIte, tt, vgo, vout, vgoD, voutD, vclsOk, vids, mayWrite, V.ids, V.mids, vguard, callOf, vop, ev, cv, vbin, vint, isShift, isNilConst, vnil, isNilSlice, vload, vlen, newRow, vfill, vslice, entOf, vappend, srcOf, vcopy, vlookup, vupdate, mapOk, keyOf, intsOf, clsAt, vT, hil, e]
    refine Cl.pu (c_rVerdict _ _) ?_
    simp only [gos, if_true, if_false, ne_eq, eq_self, Nat.reduceLT, Nat.reduceEqDiff, Nat.reduceAdd, Nat.reduceMul, Nat.reduceLeDiff, Nat.reduceBEq, reduceCtorEq, reduceIte, Array.toList, ↓reduceIte, tt, vgo, vout, vgoD, voutD, vclsOk, vids, mayWrite, V.ids, V.mids, vguard, callOf, vop, ev, cv, vbin, vint, isShift, isNilConst, vnil, isNilSlice, vload, vlen, newRow, vfill, vslice, entOf, vappend, srcOf, vcopy, vlookup, vupdate, mapOk, keyOf, intsOf, clsAt]
    subst hQ
    exact FnPost.plain trivial (fun h2 e => by first | rfl | (simp only [Try.f33, vres, vresL, vres1, e _, gos, if_true, if_false, ne_eq, eq_self, Nat.reduceLT, Nat.reduceEqDiff, Nat.reduceAdd, Nat.reduceMul, Nat.reduceLeDiff, Nat.reduceBEq, reduceCtorEq, reduceIte, Array.toList, ↓reduceIte, tt, vgo, vout, vgoD, voutD, vclsOk, vids, mayWrite, V.ids, V.mids, vguard, callOf, vop, ev, cv, vbin, vint, isShift, isNilConst, vnil, isNilSlice, vload, vlen, newRow, vfill, vslice, entOf, vappend, srcOf, vcopy, vlookup, vupdate, mapOk, keyOf, intsOf, clsAt]; try rfl)) (WkV.pure (by simp only [V.into, intoL, cB_into, vB_into, cI_into, cR_into, cD_into, cS_into, vS_into, vI_into, vR_into, vD_into, cu_into, Bool.true_and, Bool.and_true])) ⟨rfl, rfl⟩
theorem addL_len (a b : List Int) : (addL a b).length = a.length := by simp [addL]
def addN (a b : List Int) (n : Nat) : List Int := (List.range n).map fun (i : Nat) => gi a i + gi b i
theorem addN_succ (a b : List Int) (n : Nat) : addN a b (n + 1) = addN a b n ++ [gi a n + gi b n] := by simp [addN, List.range_succ]
set_option maxHeartbeats 1000000 in
theorem c_rSum (a b : List Int) (ha : (a.length : Int) ≤ 100000) (hb : a.length ≤ b.length) (hx : ∀ i : Nat, i < a.length → -1000000 ≤ gi a i + gi b i ∧ gi a i + gi b i ≤ 1000000) : Pu Try.prog (.fn 34 [] []) [vI a, vI b] (vI (addL a b)) := by
  refine Ev.fn Try.func34 rfl rfl (Fn.body tabOk Try.func34 rfl (Nat.le_of_ble_eq_true rfl) (Ks.ok (fz := (fzn [])) (cl := (cln [(5, .d (tgL [(24, 1)]) [cP, cP, cP, cP, cP, cP, cP, cP, cP, cP, cP, some ([1], [1]), cP])])) tabOk mixed ?_))
  generalize hQ : FnPost tt Try.f34 _ _ = Q
  simp only [Try.f34, List.nil_append, List.append_nil, List.cons_append, argsEnv, Nat.reduceAdd]
  simp only [gos, if_true, if_false, ne_eq, eq_self, Nat.reduceLT, Nat.reduceEqDiff, Nat.reduceAdd, Nat.reduceMul, Nat.reduceLeDiff, Nat.reduceBEq, reduceCtorEq, reduceIte, Array.toList, ↓reduceIte, tt, vgo, vout, vgoD, voutD, vclsOk, vids, mayWrite, V.ids, V.mids, vguard, callOf, vop, ev, cv, vbin, vint, isShift, isNilConst, vnil, isNilSlice, vload, vlen, newRow, vfill, vslice, entOf, vappend, srcOf, vcopy, vlookup, vupdate, mapOk, keyOf, intsOf, clsAt, vI]
  refine W.loop tabOk mixed (fun i : Nat => ([(0, vI a), (1, vI b), (5, .own 24 i 0 1 i), (6, vi i)], [(24, ⟨i, .row (cI (addN a b i))⟩)])) (fun i => a.length - i) (fun i => i ≤ a.length) 0 (by omega) (Wk.trans (Wk.sl0E 5 24 1 rfl rfl) (Wk.env (by simp [subE, Env.get, vI]))) ?_
  intro i hi
  by_cases hil : (i : Int) < a.length
  · have hil2 : (i : Int) < b.length := by omega
    have hxx := hx i (by omega)
    have hn : (cI (addN a b i)).length = i * 1 := by rw [cI_len]; simp [addN]
    have hi9 : i ≤ 999999 := by omega
    simp only [gos, if_true, if_false, ne_eq, eq_self, Nat.reduceLT, Nat.reduceEqDiff, Nat.reduceAdd, Nat.reduceMul, Nat.reduceLeDiff, Nat.reduceBEq, reduceCtorEq, reduceIte, Array.toList, ↓reduceIte, tt, vgo, vout, vgoD, voutD, vclsOk, vids, mayWrite, V.ids, V.mids, vguard, callOf, vop, ev, cv, vbin, vint, isShift, isNilConst, vnil, isNilSlice, vload, vlen, newRow, vfill, vslice, entOf, vappend, srcOf, vcopy, vlookup, vupdate, mapOk, keyOf, intsOf, clsAt, vI, hil]
    refine Wr.draw (by kernel_rfl) ?_
    simp only [gos, if_true, if_false, ne_eq, eq_self, Nat.reduceLT, Nat.reduceEqDiff, Nat.reduceAdd, Nat.reduceMul, Nat.reduceLeDiff, Nat.reduceBEq, reduceCtorEq, reduceIte, Array.toList, ↓reduceIte, tt, vgo, vout, vgoD, voutD, vclsOk, vids, mayWrite, V.ids, V.mids, vguard, callOf, vop, ev, cv, vbin, vint, isShift, isNilConst, vnil, isNilSlice, vload, vlen, newRow, vfill, vslice, entOf, vappend, srcOf, vcopy, vlookup, vupdate, mapOk, keyOf, intsOf, clsAt, vI, hil, hil2, cI_at (Int.natCast_nonneg i) hil, cI_at (Int.natCast_nonneg i) hil2, hn, hi9, i64_in (show -9223372036854775808 ≤ gi a i + gi b i by omega) (show gi a i + gi b i ≤ 9223372036854775807 by omega)]
    refine Nx.mk (i + 1) (show a.length - (i + 1) < a.length - i by omega) (by omega) (Wk.heap (fun j => ?_) ?_)
    · rw [addN_succ, cI_snoc]
    · simp [subE, Env.get, vI, i64_succ (show (i : Int) < 9223372036854775807 by omega)]
  · have hie : i = a.length := by omega
    simp only [gos, if_true, if_false, ne_eq, eq_self, Nat.reduceLT, Nat.reduceEqDiff, Nat.reduceAdd, Nat.reduceMul, Nat.reduceLeDiff, Nat.reduceBEq, reduceCtorEq, reduceIte, Array.toList, ↓reduceIte, tt, vgo, vout, vgoD, voutD, vclsOk, vids, mayWrite, V.ids, V.mids, vguard, callOf, vop, ev, cv, vbin, vint, isShift, isNilConst, vnil, isNilSlice, vload, vlen, newRow, vfill, vslice, entOf, vappend, srcOf, vcopy, vlookup, vupdate, mapOk, keyOf, intsOf, clsAt, vI, hil]
    subst hQ
    have hl : (addN a b i).length = i := by simp [addN]
    have ht : (cI (addN a b i)).take i = cI (addN a b i) := List.take_of_length_le (by rw [cI_len]; omega)
    have e : addL a b = addN a b i := by rw [hie]; rfl
    rw [e]
    refine FnPost.plain trivial (v := .own 24 i 0 1 i) (fun h2 e => by rfl) (WkV.frz 24 (v' := vI (addN a b i)) (h' := []) (ver := i) (cs := cI (addN a b i)) rfl rfl (cI_into _ _) rfl ?_ ?_ WkV.refl) ⟨rfl, rfl⟩
    · simp [V.frz, vI, ht, hl]
    · simp [frzH]
theorem c_rSingle (c : Cu) (hl : 0 ≤ c.last ∧ c.last ≤ 4) (hour n : Int) (hh : 0 ≤ hour ∧ hour ≤ c.last) : Pu Try.prog (.fn 73 [] []) [.agg c.cs, vi hour, vi n] (vI (moreAt c hour n)) := by
  refine Ev.fn Try.func73 rfl rfl (Fn.body tabOk Try.func73 rfl (Nat.le_of_ble_eq_true rfl) (Ks.ok (fz := (fzn [11])) (cl := (cln [])) tabOk mixed ?_))
  generalize hQ : FnPost tt Try.f73 _ _ = Q
  simp only [Try.f73, List.nil_append, List.append_nil, List.cons_append, argsEnv, Nat.reduceAdd]
  have hge : 0 ≤ c.last + 1 := by omega
  have hle : c.last + 1 ≤ 1000000 := by omega
  have h1 : 0 ≤ hour := hh.1
  have h2 : hour < ((c.last + 1).toNat : Int) := by omega
  have hm0 := moreAt_zero c hour
  have hz : zeros [V.int IntKind.i64 0] (c.last + 1).toNat = cI (moreAt c hour 0) := by rw [hm0]; exact zeros_vi _
  have hlen : hour.toNat + 1 ≤ (cI (moreAt c hour 0)).length := by rw [cI_len, moreAt_len]; omega
  have hset : List.take hour.toNat (cI (moreAt c hour 0)) ++ [vi n] ++ List.drop (hour.toNat + 1) (cI (moreAt c hour 0)) = cI (moreAt c hour n) := by
    rw [cI_set _ (by rw [moreAt_len]; omega), moreAt_set]
  simp only [gos, if_true, if_false, ne_eq, eq_self, Nat.reduceLT, Nat.reduceEqDiff, Nat.reduceAdd, Nat.reduceMul, Nat.reduceLeDiff, Nat.reduceBEq, reduceCtorEq, reduceIte, Array.toList, ↓reduceIte, tt, vgo, vout, vgoD, voutD, vclsOk, vids, mayWrite, V.ids, V.mids, vguard, callOf, vop, ev, cv, vbin, vint, isShift, isNilConst, vnil, isNilSlice, vload, vlen, newRow, vfill, vslice, entOf, vappend, srcOf, vcopy, vlookup, vupdate, mapOk, keyOf, intsOf, clsAt, i64_in (show -9223372036854775808 ≤ c.last + 1 by omega) (show c.last + 1 ≤ 9223372036854775807 by omega), hge, hle, h1, h2, Nat.zero_add, Nat.mul_one, hz, hlen, hset]
  subst hQ
  have hl2 := moreAt_len c hour n
  have ht : (cI (moreAt c hour n)).take (c.last + 1).toNat = cI (moreAt c hour n) := List.take_of_length_le (by rw [cI_len]; omega)
  refine FnPost.plain trivial (v := .own 11 0 0 1 (c.last + 1).toNat) (fun h2 e => by rfl) (WkV.frz 11 (v' := vI (moreAt c hour n)) (h' := []) (ver := 0) (cs := cI (moreAt c hour n)) rfl rfl (cI_into _ _) rfl ?_ ?_ WkV.refl) ⟨rfl, rfl⟩
  · simp [V.frz, vI, ht, hl2]
  · simp [frzH]
/-- The greatest number that is kept. -/
def rSpare (c : Cu) (l : List Tr2) (hour : Int) : Nat → Int
  | 0 => -1
  | n + 1 => if rWholes c l c.coal (addL c.want (moreAt c hour (n : Int))) = 1 then (n : Int) else rSpare c l hour n
set_option maxHeartbeats 1000000 in
theorem c_rSpare (c : Cu) (k0 : CuOk c) (l : List Tr2) (hl : (l.length : Int) ≤ 1000000) (hok : ∀ t ∈ l, T2Ok c t) (hour : Int) (hh : 0 ≤ hour ∧ hour ≤ c.last) : Pu Try.prog (.fn 35 [] []) [.agg c.cs, vT l, vi hour] (vi (rSpare c l hour 21)) := by
  have hla := k0.last
  have hw := k0.want
  refine Ev.fn Try.func35 rfl rfl (Fn.body tabOk Try.func35 rfl (Nat.le_of_ble_eq_true rfl) (Ks.ok (fz := (fzn [])) (cl := (cln [(5, .d tg0 [cP, cP, cP, cP, cP, cP, cP, cP, cP, cP, cP, cP, cP])])) tabOk mixed ?_))
  generalize hQ : FnPost tt Try.f35 _ _ = Q
  simp only [Try.f35, List.nil_append, List.append_nil, List.cons_append, argsEnv, Nat.reduceAdd]
  simp only [gos, if_true, if_false, ne_eq, eq_self, Nat.reduceLT, Nat.reduceEqDiff, Nat.reduceAdd, Nat.reduceMul, Nat.reduceLeDiff, Nat.reduceBEq, reduceCtorEq, reduceIte, Array.toList, ↓reduceIte, tt, vgo, vout, vgoD, voutD, vclsOk, vids, mayWrite, V.ids, V.mids, vguard, callOf, vop, ev, cv, vbin, vint, isShift, isNilConst, vnil, isNilSlice, vload, vlen, newRow, vfill, vslice, entOf, vappend, srcOf, vcopy, vlookup, vupdate, mapOk, keyOf, intsOf, clsAt]
  refine W.loop tabOk mixed (fun i : Nat => ([(1, vT l), (2, vi hour), (3, .rop c.cs), (7, vi (rSpare c l hour i)), (8, vi i)], [])) (fun i => 21 - i) (fun i => i ≤ 21) 0 (by omega) (Wk.env (by simp [subE, Env.get, rSpare])) ?_
  intro i hi
  by_cases hil : i ≤ 20
  · have hd : decide ((i : Int) ≤ 20) = true := by rw [decide_eq_true_eq]; omega
    have hmo := moreAt_le (c := c) (hour := hour) (n := (i : Int)) (by omega)
    have hml := moreAt_len c hour (i : Int)
    have hmi : ((moreAt c hour (i : Int)).length : Int) = c.last + 1 := by rw [hml]; omega
    simp only [gos, if_true, if_false, ne_eq, eq_self, Nat.reduceLT, Nat.reduceEqDiff, Nat.reduceAdd, Nat.reduceMul, Nat.reduceLeDiff, Nat.reduceBEq, reduceCtorEq, reduceIte, Array.toList, ↓reduceIte, tt, vgo, vout, vgoD, voutD, vclsOk, vids, mayWrite, V.ids, V.mids, vguard, callOf, vop, ev, cv, vbin, vint, isShift, isNilConst, vnil, isNilSlice, vload, vlen, newRow, vfill, vslice, entOf, vappend, srcOf, vcopy, vlookup, vupdate, mapOk, keyOf, intsOf, clsAt, hd]
    refine Wr.draw (by kernel_rfl) ?_
    simp only [gos, if_true, if_false, ne_eq, eq_self, Nat.reduceLT, Nat.reduceEqDiff, Nat.reduceAdd, Nat.reduceMul, Nat.reduceLeDiff, Nat.reduceBEq, reduceCtorEq, reduceIte, Array.toList, ↓reduceIte, tt, vgo, vout, vgoD, voutD, vclsOk, vids, mayWrite, V.ids, V.mids, vguard, callOf, vop, ev, cv, vbin, vint, isShift, isNilConst, vnil, isNilSlice, vload, vlen, newRow, vfill, vslice, entOf, vappend, srcOf, vcopy, vlookup, vupdate, mapOk, keyOf, intsOf, clsAt]
    refine CD.pu (c_rSingle c hla hour i hh) ?_ rfl (by simp only [V.into, intoL, cB_into, vB_into, cI_into, cR_into, cD_into, cS_into, vS_into, vI_into, vR_into, vD_into, cu_into, Bool.true_and, Bool.and_true])
    simp only [gos, if_true, if_false, ne_eq, eq_self, Nat.reduceLT, Nat.reduceEqDiff, Nat.reduceAdd, Nat.reduceMul, Nat.reduceLeDiff, Nat.reduceBEq, reduceCtorEq, reduceIte, Array.toList, ↓reduceIte, tt, vgo, vout, vgoD, voutD, vclsOk, vids, mayWrite, V.ids, V.mids, vguard, callOf, vop, ev, cv, vbin, vint, isShift, isNilConst, vnil, isNilSlice, vload, vlen, newRow, vfill, vslice, entOf, vappend, srcOf, vcopy, vlookup, vupdate, mapOk, keyOf, intsOf, clsAt]
    refine CD.pu (c_rSum c.want (moreAt c hour i) (by omega) (by omega) (fun j hj => by have := with_b k0 hmi hmo j hj; omega)) ?_ rfl (by simp only [V.into, intoL, cB_into, vB_into, cI_into, cR_into, cD_into, cS_into, vS_into, vI_into, vR_into, vD_into, cu_into, Bool.true_and, Bool.and_true])
    simp only [gos, if_true, if_false, ne_eq, eq_self, Nat.reduceLT, Nat.reduceEqDiff, Nat.reduceAdd, Nat.reduceMul, Nat.reduceLeDiff, Nat.reduceBEq, reduceCtorEq, reduceIte, Array.toList, ↓reduceIte, tt, vgo, vout, vgoD, voutD, vclsOk, vids, mayWrite, V.ids, V.mids, vguard, callOf, vop, ev, cv, vbin, vint, isShift, isNilConst, vnil, isNilSlice, vload, vlen, newRow, vfill, vslice, entOf, vappend, srcOf, vcopy, vlookup, vupdate, mapOk, keyOf, intsOf, clsAt]
    refine CD.pu (c_rWholes c l c.coal (addL c.want (moreAt c hour i)) hl (fun t ht => ⟨?_, (hok t ht).len⟩)) ?_ rfl (by simp only [V.into, intoL, cB_into, vB_into, cI_into, cR_into, cD_into, cS_into, vS_into, vI_into, vR_into, vD_into, cu_into, Bool.true_and, Bool.and_true, vT_into])
    · rw [← sAdd_eq, show c.want.length = (moreAt c hour (i : Int)).length by omega]
      exact with_ok k0 hmi hmo (hok t ht).sc
    by_cases hr : rWholes c l c.coal (addL c.want (moreAt c hour (i : Int))) = 1
    · have hb : decide (rWholes c l c.coal (addL c.want (moreAt c hour (i : Int))) = 1) = true := by simp [hr]
      have hs : rSpare c l hour (i + 1) = (i : Int) := by simp [rSpare, hr]
      simp only [gos, if_true, if_false, ne_eq, eq_self, Nat.reduceLT, Nat.reduceEqDiff, Nat.reduceAdd, Nat.reduceMul, Nat.reduceLeDiff, Nat.reduceBEq, reduceCtorEq, reduceIte, Array.toList, ↓reduceIte, tt, vgo, vout, vgoD, voutD, vclsOk, vids, mayWrite, V.ids, V.mids, vguard, callOf, vop, ev, cv, vbin, vint, isShift, isNilConst, vnil, isNilSlice, vload, vlen, newRow, vfill, vslice, entOf, vappend, srcOf, vcopy, vlookup, vupdate, mapOk, keyOf, intsOf, clsAt, hb]
      exact Nx.mk (i + 1) (show 21 - (i + 1) < 21 - i by omega) (by omega) (Wk.env (by simp [subE, Env.get, hs, i64_succ (show (i : Int) < 9223372036854775807 by omega)]))
    · have hb : decide (rWholes c l c.coal (addL c.want (moreAt c hour (i : Int))) = 1) = false := by simp [hr]
      have hs : rSpare c l hour (i + 1) = rSpare c l hour i := by simp [rSpare, hr]
      simp only [gos, if_true, if_false, ne_eq, eq_self, Nat.reduceLT, Nat.reduceEqDiff, Nat.reduceAdd, Nat.reduceMul, Nat.reduceLeDiff, Nat.reduceBEq, reduceCtorEq, reduceIte, Array.toList, ↓reduceIte, tt, vgo, vout, vgoD, voutD, vclsOk, vids, mayWrite, V.ids, V.mids, vguard, callOf, vop, ev, cv, vbin, vint, isShift, isNilConst, vnil, isNilSlice, vload, vlen, newRow, vfill, vslice, entOf, vappend, srcOf, vcopy, vlookup, vupdate, mapOk, keyOf, intsOf, clsAt, hb]
      exact Nx.mk (i + 1) (show 21 - (i + 1) < 21 - i by omega) (by omega) (Wk.env (by simp [subE, Env.get, hs, i64_succ (show (i : Int) < 9223372036854775807 by omega)]))
  · have hie : i = 21 := by omega
    subst hie
    have hd : decide (((21 : Nat) : Int) ≤ 20) = false := by decide
    simp only [gos, if_true, if_false, ne_eq, eq_self, Nat.reduceLT, Nat.reduceEqDiff, Nat.reduceAdd, Nat.reduceMul, Nat.reduceLeDiff, Nat.reduceBEq, reduceCtorEq, reduceIte, Array.toList, ↓reduceIte, tt, vgo, vout, vgoD, voutD, vclsOk, vids, mayWrite, V.ids, V.mids, vguard, callOf, vop, ev, cv, vbin, vint, isShift, isNilConst, vnil, isNilSlice, vload, vlen, newRow, vfill, vslice, entOf, vappend, srcOf, vcopy, vlookup, vupdate, mapOk, keyOf, intsOf, clsAt, hd]
    subst hQ
    exact FnPost.plain trivial (fun h2 e => by first | rfl | (simp only [Try.f35, vres, vresL, vres1, e _, gos, if_true, if_false, ne_eq, eq_self, Nat.reduceLT, Nat.reduceEqDiff, Nat.reduceAdd, Nat.reduceMul, Nat.reduceLeDiff, Nat.reduceBEq, reduceCtorEq, reduceIte, Array.toList, ↓reduceIte, tt, vgo, vout, vgoD, voutD, vclsOk, vids, mayWrite, V.ids, V.mids, vguard, callOf, vop, ev, cv, vbin, vint, isShift, isNilConst, vnil, isNilSlice, vload, vlen, newRow, vfill, vslice, entOf, vappend, srcOf, vcopy, vlookup, vupdate, mapOk, keyOf, intsOf, clsAt]; try rfl)) (WkV.pure (by simp only [V.into, intoL, cB_into, vB_into, cI_into, cR_into, cD_into, cS_into, vS_into, vI_into, vR_into, vD_into, cu_into, Bool.true_and, Bool.and_true])) ⟨rfl, rfl⟩
def rLacks (c : Cu) (l : List Tr2) : Int := match (List.range (c.last + 1).toNat).find? fun i => decide (rKeeps c l i ≠ 1) with
  | some i => i
  | none => -1
set_option maxHeartbeats 1000000 in
theorem c_rLacks (c : Cu) (k0 : CuOk c) (l : List Tr2) (hl : (l.length : Int) ≤ 1000000) (hok : ∀ t ∈ l, TrOk c t c.coal c.want) : Pu Try.prog (.fn 72 [] []) [.agg c.cs, vT l] (vi (rLacks c l)) := by
  have hla := k0.last
  refine Ev.fn Try.func72 rfl rfl (Fn.body tabOk Try.func72 rfl (Nat.le_of_ble_eq_true rfl) (Ks.ok (fz := (fzn [])) (cl := (cln [])) tabOk mixed ?_))
  generalize hQ : FnPost tt Try.f72 _ _ = Q
  simp only [Try.f72, List.nil_append, List.append_nil, List.cons_append, argsEnv, Nat.reduceAdd]
  simp only [gos, if_true, if_false, ne_eq, eq_self, Nat.reduceLT, Nat.reduceEqDiff, Nat.reduceAdd, Nat.reduceMul, Nat.reduceLeDiff, Nat.reduceBEq, reduceCtorEq, reduceIte, Array.toList, ↓reduceIte, tt, vgo, vout, vgoD, voutD, vclsOk, vids, mayWrite, V.ids, V.mids, vguard, callOf, vop, ev, cv, vbin, vint, isShift, isNilConst, vnil, isNilSlice, vload, vlen, newRow, vfill, vslice, entOf, vappend, srcOf, vcopy, vlookup, vupdate, mapOk, keyOf, intsOf, clsAt]
  refine W.loop tabOk mixed (fun i : Nat => ([(1, vT l), (2, .rop c.cs), (5, vi i)], [])) (fun i => (c.last + 1).toNat - i) (fun i => (i : Int) ≤ c.last + 1 ∧ ∀ j : Nat, j < i → decide (rKeeps c l j ≠ 1) = false) 0 ⟨by omega, fun j hj => by omega⟩ (Wk.env (by simp [subE, Env.get])) ?_
  rintro i ⟨hi, hno⟩
  by_cases hil : (i : Int) ≤ c.last
  · simp only [gos, if_true, if_false, ne_eq, eq_self, Nat.reduceLT, Nat.reduceEqDiff, Nat.reduceAdd, Nat.reduceMul, Nat.reduceLeDiff, Nat.reduceBEq, reduceCtorEq, reduceIte, Array.toList, ↓reduceIte, tt, vgo, vout, vgoD, voutD, vclsOk, vids, mayWrite, V.ids, V.mids, vguard, callOf, vop, ev, cv, vbin, vint, isShift, isNilConst, vnil, isNilSlice, vload, vlen, newRow, vfill, vslice, entOf, vappend, srcOf, vcopy, vlookup, vupdate, mapOk, keyOf, intsOf, clsAt, hil]
    refine Cl.pu (c_rKeeps c l hl hok i hil) ?_ rfl (by simp only [V.into, intoL, cB_into, vB_into, cI_into, cR_into, cD_into, cS_into, vS_into, vI_into, vR_into, vD_into, cu_into, Bool.true_and, Bool.and_true, vT_into])
    by_cases hr : rKeeps c l i = 1
    · have hb : (rKeeps c l i != 1) = false := by rw [bne_eq_false_iff_eq]; exact hr
      simp only [gos, if_true, if_false, ne_eq, eq_self, Nat.reduceLT, Nat.reduceEqDiff, Nat.reduceAdd, Nat.reduceMul, Nat.reduceLeDiff, Nat.reduceBEq, reduceCtorEq, reduceIte, Array.toList, ↓reduceIte, tt, vgo, vout, vgoD, voutD, vclsOk, vids, mayWrite, V.ids, V.mids, vguard, callOf, vop, ev, cv, vbin, vint, isShift, isNilConst, vnil, isNilSlice, vload, vlen, newRow, vfill, vslice, entOf, vappend, srcOf, vcopy, vlookup, vupdate, mapOk, keyOf, intsOf, clsAt, hb]
      refine Nx.mk (i + 1) (show (c.last + 1).toNat - (i + 1) < (c.last + 1).toNat - i by omega) ⟨by omega, fun j hj => ?_⟩ (Wk.env (by simp [subE, Env.get, i64_succ (show (i : Int) < 9223372036854775807 by omega)]))
      rcases Nat.lt_succ_iff_lt_or_eq.1 hj with h | rfl
      · exact hno j h
      · simp [hr]
    · have hb : (rKeeps c l i != 1) = true := by simp only [bne_iff_ne, ne_eq, hr, not_false_eq_true]
      simp only [gos, if_true, if_false, ne_eq, eq_self, Nat.reduceLT, Nat.reduceEqDiff, Nat.reduceAdd, Nat.reduceMul, Nat.reduceLeDiff, Nat.reduceBEq, reduceCtorEq, reduceIte, Array.toList, ↓reduceIte, tt, vgo, vout, vgoD, voutD, vclsOk, vids, mayWrite, V.ids, V.mids, vguard, callOf, vop, ev, cv, vbin, vint, isShift, isNilConst, vnil, isNilSlice, vload, vlen, newRow, vfill, vslice, entOf, vappend, srcOf, vcopy, vlookup, vupdate, mapOk, keyOf, intsOf, clsAt, hb]
      subst hQ
      exact FnPost.plain trivial (fun h2 e => by first | rfl | (simp only [Try.f72, vres, vresL, vres1, e _, gos, if_true, if_false, ne_eq, eq_self, Nat.reduceLT, Nat.reduceEqDiff, Nat.reduceAdd, Nat.reduceMul, Nat.reduceLeDiff, Nat.reduceBEq, reduceCtorEq, reduceIte, Array.toList, ↓reduceIte, tt, vgo, vout, vgoD, voutD, vclsOk, vids, mayWrite, V.ids, V.mids, vguard, callOf, vop, ev, cv, vbin, vint, isShift, isNilConst, vnil, isNilSlice, vload, vlen, newRow, vfill, vslice, entOf, vappend, srcOf, vcopy, vlookup, vupdate, mapOk, keyOf, intsOf, clsAt]; try rfl)) (WkV.pure (by simp only [V.into, intoL, cB_into, vB_into, cI_into, cR_into, cD_into, cS_into, vS_into, vI_into, vR_into, vD_into, cu_into, Bool.true_and, Bool.and_true])) ⟨by rw [rLacks, find_range (a := i) (by omega) (by simp [hr]) hno], rfl⟩
  · simp only [gos, if_true, if_false, ne_eq, eq_self, Nat.reduceLT, Nat.reduceEqDiff, Nat.reduceAdd, Nat.reduceMul, Nat.reduceLeDiff, Nat.reduceBEq, reduceCtorEq, reduceIte, Array.toList, ↓reduceIte, tt, vgo, vout, vgoD, voutD, vclsOk, vids, mayWrite, V.ids, V.mids, vguard, callOf, vop, ev, cv, vbin, vint, isShift, isNilConst, vnil, isNilSlice, vload, vlen, newRow, vfill, vslice, entOf, vappend, srcOf, vcopy, vlookup, vupdate, mapOk, keyOf, intsOf, clsAt, hil]
    subst hQ
    exact FnPost.plain trivial (fun h2 e => by first | rfl | (simp only [Try.f72, vres, vresL, vres1, e _, gos, if_true, if_false, ne_eq, eq_self, Nat.reduceLT, Nat.reduceEqDiff, Nat.reduceAdd, Nat.reduceMul, Nat.reduceLeDiff, Nat.reduceBEq, reduceCtorEq, reduceIte, Array.toList, ↓reduceIte, tt, vgo, vout, vgoD, voutD, vclsOk, vids, mayWrite, V.ids, V.mids, vguard, callOf, vop, ev, cv, vbin, vint, isShift, isNilConst, vnil, isNilSlice, vload, vlen, newRow, vfill, vslice, entOf, vappend, srcOf, vcopy, vlookup, vupdate, mapOk, keyOf, intsOf, clsAt]; try rfl)) (WkV.pure (by simp only [V.into, intoL, cB_into, vB_into, cI_into, cR_into, cD_into, cS_into, vS_into, vI_into, vR_into, vD_into, cu_into, Bool.true_and, Bool.and_true])) ⟨by rw [rLacks, List.find?_eq_none.2 (fun j hj => by rw [List.mem_range] at hj; rw [hno j (by omega)]; simp)], rfl⟩
end Go.Vm
set_option linter.unusedVariables false
set_option linter.unusedSimpArgs false
set_option maxRecDepth 100000
namespace Go.Vm
open Go.Proofs
def sReady (c : Cu) : Bool := sThin c && decide (sCheck c = 0)
theorem c_ready (c : Cu) (hl : I64 c.last) : Pu Try.prog (.fn 42 [] []) [.agg c.cs] (.bool (sReady c)) := by
  refine Ev.fn Try.func42 rfl rfl (Fn.body tabOk Try.func42 rfl (Nat.le_of_ble_eq_true rfl) (Ks.ok (fz := (fzn [])) (cl := (cln [])) tabOk mixed ?_))
  generalize hQ : FnPost tt Try.f42 _ _ = Q
  simp only [Try.f42, List.nil_append, List.append_nil, List.cons_append, argsEnv, Nat.reduceAdd]
  simp only [gos, if_true, if_false, ne_eq, eq_self, Nat.reduceLT, Nat.reduceEqDiff, Nat.reduceAdd, Nat.reduceMul, Nat.reduceLeDiff, Nat.reduceBEq, reduceCtorEq, reduceIte, Array.toList, ↓reduceIte, tt, vgo, vout, vgoD, voutD, vclsOk, vids, mayWrite, V.ids, V.mids, vguard, callOf, vop, ev, cv, vbin, vint, isShift, isNilConst, vnil, isNilSlice, vload, vlen, newRow, vfill, vslice, entOf, vappend, srcOf, vcopy, vlookup, vupdate, mapOk, keyOf, intsOf, clsAt]
  refine Cl.pu (c_Thin c hl) ?_ rfl (by simp only [V.into, intoL, cB_into, vB_into, cI_into, cR_into, cD_into, cS_into, vS_into, vI_into, vR_into, vD_into, cu_into, Bool.true_and, Bool.and_true])
  cases h : sThin c with
  | false =>
    simp only [gos, if_true, if_false, ne_eq, eq_self, Nat.reduceLT, Nat.reduceEqDiff, Nat.reduceAdd, Nat.reduceMul, Nat.reduceLeDiff, Nat.reduceBEq, reduceCtorEq, reduceIte, Array.toList, ↓reduceIte, tt, vgo, vout, vgoD, voutD, vclsOk, vids, mayWrite, V.ids, V.mids, vguard, callOf, vop, ev, cv, vbin, vint, isShift, isNilConst, vnil, isNilSlice, vload, vlen, newRow, vfill, vslice, entOf, vappend, srcOf, vcopy, vlookup, vupdate, mapOk, keyOf, intsOf, clsAt]
    subst hQ
    exact FnPost.plain trivial (fun h2 e => by first | rfl | (simp only [Try.f42, vres, vresL, vres1, e _, gos, if_true, if_false, ne_eq, eq_self, Nat.reduceLT, Nat.reduceEqDiff, Nat.reduceAdd, Nat.reduceMul, Nat.reduceLeDiff, Nat.reduceBEq, reduceCtorEq, reduceIte, Array.toList, ↓reduceIte, tt, vgo, vout, vgoD, voutD, vclsOk, vids, mayWrite, V.ids, V.mids, vguard, callOf, vop, ev, cv, vbin, vint, isShift, isNilConst, vnil, isNilSlice, vload, vlen, newRow, vfill, vslice, entOf, vappend, srcOf, vcopy, vlookup, vupdate, mapOk, keyOf, intsOf, clsAt]; try rfl)) (WkV.pure (by simp only [V.into, intoL, cB_into, vB_into, cI_into, cR_into, cD_into, cS_into, vS_into, vI_into, vR_into, vD_into, cu_into, Bool.true_and, Bool.and_true])) ⟨by simp [sReady, h], rfl⟩
  | true =>
    simp only [gos, if_true, if_false, ne_eq, eq_self, Nat.reduceLT, Nat.reduceEqDiff, Nat.reduceAdd, Nat.reduceMul, Nat.reduceLeDiff, Nat.reduceBEq, reduceCtorEq, reduceIte, Array.toList, ↓reduceIte, tt, vgo, vout, vgoD, voutD, vclsOk, vids, mayWrite, V.ids, V.mids, vguard, callOf, vop, ev, cv, vbin, vint, isShift, isNilConst, vnil, isNilSlice, vload, vlen, newRow, vfill, vslice, entOf, vappend, srcOf, vcopy, vlookup, vupdate, mapOk, keyOf, intsOf, clsAt]
    refine Cl.pu (c_fault c (thin_wf hl h)) ?_ rfl (by simp only [V.into, intoL, cB_into, vB_into, cI_into, cR_into, cD_into, cS_into, vS_into, vI_into, vR_into, vD_into, cu_into, Bool.true_and, Bool.and_true])
    simp only [gos, if_true, if_false, ne_eq, eq_self, Nat.reduceLT, Nat.reduceEqDiff, Nat.reduceAdd, Nat.reduceMul, Nat.reduceLeDiff, Nat.reduceBEq, reduceCtorEq, reduceIte, Array.toList, ↓reduceIte, tt, vgo, vout, vgoD, voutD, vclsOk, vids, mayWrite, V.ids, V.mids, vguard, callOf, vop, ev, cv, vbin, vint, isShift, isNilConst, vnil, isNilSlice, vload, vlen, newRow, vfill, vslice, entOf, vappend, srcOf, vcopy, vlookup, vupdate, mapOk, keyOf, intsOf, clsAt]
    subst hQ
    exact FnPost.plain trivial (fun h2 e => by first | rfl | (simp only [Try.f42, vres, vresL, vres1, e _, gos, if_true, if_false, ne_eq, eq_self, Nat.reduceLT, Nat.reduceEqDiff, Nat.reduceAdd, Nat.reduceMul, Nat.reduceLeDiff, Nat.reduceBEq, reduceCtorEq, reduceIte, Array.toList, ↓reduceIte, tt, vgo, vout, vgoD, voutD, vclsOk, vids, mayWrite, V.ids, V.mids, vguard, callOf, vop, ev, cv, vbin, vint, isShift, isNilConst, vnil, isNilSlice, vload, vlen, newRow, vfill, vslice, entOf, vappend, srcOf, vcopy, vlookup, vupdate, mapOk, keyOf, intsOf, clsAt]; try rfl)) (WkV.pure (by simp only [V.into, intoL, cB_into, vB_into, cI_into, cR_into, cD_into, cS_into, vS_into, vI_into, vR_into, vD_into, cu_into, Bool.true_and, Bool.and_true])) ⟨by simp [sReady, h], rfl⟩
theorem ready_ok {c : Cu} (h : sReady c = true) : sThin c = true ∧ sCheck c = 0 := by
  simpa [sReady] using h
/-- An hour by a number. -/
theorem hour_of {c : Cu} (hl : 0 ≤ c.last ∧ c.last ≤ 4) {n : Int} (hn : 0 ≤ n) : ∃ k : Nat, (k : Int) = n.tmod (c.last + 1) ∧ (k : Int) ≤ c.last := by
  have h := tmod_le hn (s := c.last + 1) (by omega)
  exact ⟨(n.tmod (c.last + 1)).toNat, by omega, by omega⟩
end Go.Vm
set_option linter.unusedVariables false
set_option linter.unusedSimpArgs false
set_option maxRecDepth 100000
namespace Go.Vm
open Go.Proofs
/-- A function that makes one block, over whatever heap. -/
theorem NewB.of {P : Program} {fv : V} {args : List V} {v : V} {j : Nat} {e : Ent} (c : Ev P fv args [] fun v' h' => v' = v ∧ h' = [(j, e)]) (hf : fv.into (fun _ => false) = true) (ha : intoL (fun _ => false) args = true) : NewB P fv args v j e := fun h2 h2j =>
  (c.frame' h2 (fun _ => rfl) (fun i e he => by cases he) hf ha rfl (fun v h' hh i e he => by
    obtain ⟨_, rfl⟩ := hh
    simp only [Heap.get] at he
    split at he
    · rename_i hi; subst hi; exact h2j
    · cases he)).mono fun v h'' hh => by
      obtain ⟨h', ⟨a, rfl⟩, rfl⟩ := hh
      exact ⟨a, fun i => by rw [Heap.get_set]; simp only [List.cons_append, List.nil_append, Heap.get]⟩
theorem Cl.new {P : Program} {tt : Tab} {fz : Nat → Bool} {cl : Cl0} {b : Frame} {N : Nat} {p : Nat → Bool} {Q : Post} {k : List Itm} {ρ : Env} {D : List Nat} {h : Heap} {all os : List Oper} {d : Option Nat} {fv : V} {args : List V} {v : V} {j : Nat} {e : Ent}
    (nb : NewB P fv args v j e) (hj : h.get j = none) (r : ∀ h', HEq' h' (h.set j e) → RL P tt fz cl b N p Q all os k (ρ.put d v) D h') : Cl P tt fz cl b N p Q all d fv args os k ρ D h :=
  Cl.mk (nb h hj) fun v' h' ⟨e1, e2⟩ => by subst e1; exact r h' e2
theorem Cl.newN {P : Program} {tt : Tab} {fz : Nat → Bool} {cl : Cl0} {b : Frame} {N : Nat} {p : Nat → Bool} {Q : Post} {k : List Itm} {ρ : Env} {D : List Nat} {h : Heap} {all os : List Oper} {d : Option Nat} {fv : V} {args : List V} {v : V} {j : Nat} {e : Ent}
    (nb : NewB P fv args v j e) (hj : h.get j = none) (r : RL P tt fz cl b N p Q all os k (ρ.put d v) D (h.set j e)) : Cl P tt fz cl b N p Q all d fv args os k ρ D h :=
  Ev.mono ((nb h hj).norm (R2 := fun v' h'' => v' = v ∧ h'' = h.set j e) fun v' h' ⟨e1, e2⟩ => ⟨h.set j e, e2, e1, rfl⟩) fun v' h' ⟨e1, e2⟩ => by
    subst e1; subst e2; exact r
section
variable {P : Program} {tt : Tab} {fz : Nat → Bool} {cl : Cl0} {b : Frame} {N : Nat} {p : Nat → Bool} {Q : Post} {k : List Itm} {ρ ρ' : Env} {D : List Nat} {h h' : Heap}
/-- Ahead of a region that draws, what is known is said anew. -/
theorem Wr.exd (K : TabOk P tt) (hm : P.follows .mixedOrders = true) {tag : Nat → Nat} {cls : List Cls} {id : Nat} {ops : Array Oper} (wk : Wk (orD p D) ρ h ρ' h') (w : Wr P tt fz cl b N p Q (.d tag cls) id ops true k ρ' D h') : Wr P tt fz cl b N p Q .ex id ops true k ρ D h :=
  Ex.weaken wk (Ex.draw K hm fz _ _ w.2.1 w.2.2)
end
theorem c_list0 (l : List Int) (hl : (l.length : Int) ≤ 1000000) : Ev Try.prog (.fn 28 [] []) [vI l] [] fun v h' => v = .own 5 0 0 1 l.length ∧ h' = [(5, ⟨0, .row (cI l)⟩)] := by
  refine Ev.fn Try.func28 rfl rfl (Fn.body tabOk Try.func28 rfl (Nat.le_of_ble_eq_true rfl) (Ks.ok (fz := (fzn [])) (cl := (cln [])) tabOk mixed ?_))
  generalize hQ : FnPost tt Try.f28 _ _ = Q
  simp only [Try.f28, List.nil_append, List.append_nil, List.cons_append, argsEnv, Nat.reduceAdd]
  have hl2 : l.length ≤ 1000000 := by omega
  simp only [gos, if_true, if_false, ne_eq, eq_self, Nat.reduceLT, Nat.reduceEqDiff, Nat.reduceAdd, Nat.reduceMul, Nat.reduceLeDiff, Nat.reduceBEq, reduceCtorEq, reduceIte, Array.toList, ↓reduceIte, tt, vgo, vout, vgoD, voutD, vclsOk, vids, mayWrite, V.ids, V.mids, vguard, callOf, vop, ev, cv, vbin, vint, isShift, isNilConst, vnil, isNilSlice, vload, vlen, newRow, vfill, vslice, entOf, vappend, srcOf, vcopy, vlookup, vupdate, mapOk, keyOf, intsOf, clsAt, vI, cI_len, Nat.mul_one, cI_one, hl2]
  subst hQ
  exact FnPost.plain trivial (v := .own 5 0 0 1 l.length) (fun h2 e => by rfl) WkV.refl ⟨rfl, rfl⟩
theorem n_list (l : List Int) (hl : (l.length : Int) ≤ 1000000) : NewB Try.prog (.fn 28 [] []) [vI l] (.own 5 0 0 1 l.length) 5 ⟨0, .row (cI l)⟩ := NewB.of (c_list0 l hl) rfl (by simp only [V.into, intoL, cB_into, vB_into, cI_into, cR_into, cD_into, cS_into, vS_into, vI_into, vR_into, vD_into, cu_into, Bool.true_and, Bool.and_true])
set_option maxHeartbeats 2000000 in
theorem c_rNth0 (c : Cu) (k0 : CuOk c) (n : Int) (hn : 0 ≤ n ∧ n ≤ 100000) : Ev Try.prog (.fn 46 [] []) [.agg c.cs, vi n] [] fun v h' => v = .agg [vi (rNth c n).heat, .own 45 c.loss.length 0 1 c.loss.length] ∧ h' = [(45, ⟨c.loss.length, .row (cI (rNth c n).loss)⟩)] := by
  have hll := k0.loss.1
  have hlast := k0.last
  have hin := k0.heat
  have hz := size_le hin
  simp only [sInside, Bool.and_eq_true, decide_eq_true_eq] at hin
  have hs : ∀ r ∈ c.loss, 1 ≤ sSize r := fun r hr => (size_le (k0.loss.2 r hr)).1
  refine Ev.fn Try.func46 rfl rfl (Fn.body tabOk Try.func46 rfl (Nat.le_of_ble_eq_true rfl) (Ks.ok (fz := (fzn [4, 5, 7])) (cl := (cln [(1, .d tg0 [cP, cP, cP, cP, cP, cP, cP, cP, cP, cP, cW, cW]), (7, .d (tgL [(45, 1)]) [cP, cL, cP, cL, cP, cL, cP, cP, cP, cP, some ([1], [1]), cP, cW])])) tabOk mixed ?_))
  generalize hQ : FnPost tt Try.f46 _ _ = Q
  simp only [Try.f46, List.nil_append, List.append_nil, List.cons_append, argsEnv, Nat.reduceAdd]
  simp only [gos, if_true, if_false, ne_eq, eq_self, Nat.reduceLT, Nat.reduceEqDiff, Nat.reduceAdd, Nat.reduceMul, Nat.reduceLeDiff, Nat.reduceBEq, reduceCtorEq, reduceIte, Array.toList, ↓reduceIte, tt, vgo, vout, vgoD, voutD, vclsOk, vids, mayWrite, V.ids, V.mids, vguard, callOf, vop, ev, cv, vbin, vint, isShift, isNilConst, vnil, isNilSlice, vload, vlen, newRow, vfill, vslice, entOf, vappend, srcOf, vcopy, vlookup, vupdate, mapOk, keyOf, intsOf, clsAt]
  refine Wr.draw (by kernel_rfl) ?_
  simp only [gos, if_true, if_false, ne_eq, eq_self, Nat.reduceLT, Nat.reduceEqDiff, Nat.reduceAdd, Nat.reduceMul, Nat.reduceLeDiff, Nat.reduceBEq, reduceCtorEq, reduceIte, Array.toList, ↓reduceIte, tt, vgo, vout, vgoD, voutD, vclsOk, vids, mayWrite, V.ids, V.mids, vguard, callOf, vop, ev, cv, vbin, vint, isShift, isNilConst, vnil, isNilSlice, vload, vlen, newRow, vfill, vslice, entOf, vappend, srcOf, vcopy, vlookup, vupdate, mapOk, keyOf, intsOf, clsAt]
  refine CD.pu (c_rSize c.heat ⟨by omega, by omega⟩ ⟨by omega, by omega⟩) ?_
  have hs0 : ¬ sSize c.heat = 0 := by omega
  have hm := tmod_le hn.1 hz.1
  have hd0 : 0 ≤ n.tdiv (sSize c.heat) := Int.tdiv_nonneg hn.1 (by omega)
  have hd9 := Int.tdiv_le_self (sSize c.heat) hn.1
  simp only [gos, if_true, if_false, ne_eq, eq_self, Nat.reduceLT, Nat.reduceEqDiff, Nat.reduceAdd, Nat.reduceMul, Nat.reduceLeDiff, Nat.reduceBEq, reduceCtorEq, reduceIte, Array.toList, ↓reduceIte, tt, vgo, vout, vgoD, voutD, vclsOk, vids, mayWrite, V.ids, V.mids, vguard, callOf, vop, ev, cv, vbin, vint, isShift, isNilConst, vnil, isNilSlice, vload, vlen, newRow, vfill, vslice, entOf, vappend, srcOf, vcopy, vlookup, vupdate, mapOk, keyOf, intsOf, clsAt, hs0, i64_in (show -9223372036854775808 ≤ c.heat.lo + n.tmod (sSize c.heat) by omega) (show c.heat.lo + n.tmod (sSize c.heat) ≤ 9223372036854775807 by omega)]
  refine Cl.pu (c_rSize c.heat ⟨by omega, by omega⟩ ⟨by omega, by omega⟩) ?_
  simp only [gos, if_true, if_false, ne_eq, eq_self, Nat.reduceLT, Nat.reduceEqDiff, Nat.reduceAdd, Nat.reduceMul, Nat.reduceLeDiff, Nat.reduceBEq, reduceCtorEq, reduceIte, Array.toList, ↓reduceIte, tt, vgo, vout, vgoD, voutD, vclsOk, vids, mayWrite, V.ids, V.mids, vguard, callOf, vop, ev, cv, vbin, vint, isShift, isNilConst, vnil, isNilSlice, vload, vlen, newRow, vfill, vslice, entOf, vappend, srcOf, vcopy, vlookup, vupdate, mapOk, keyOf, intsOf, clsAt, hs0, i64_in (show -9223372036854775808 ≤ n.tdiv (sSize c.heat) by omega) (show n.tdiv (sSize c.heat) ≤ 9223372036854775807 by omega)]
  refine W.loop tabOk mixed (fun i : Nat => ([(1, vi (nthQ (c.loss.take i) (n.tdiv (sSize c.heat)))), (2, .rop c.cs), (4, .ptr 4 0 0), (5, .ptr 5 0 0), (6, vi i)], [(4, ⟨0, .row [vi 0, .sl0]⟩), (5, ⟨0, .row [vi (c.heat.lo + n.tmod (sSize c.heat)), .own 45 i 0 1 i]⟩), (45, ⟨i, .row (cI (nthL (c.loss.take i) (n.tdiv (sSize c.heat))))⟩)])) (fun i => c.loss.length - i) (fun i => i ≤ c.loss.length) 0 (by omega)
    (Wk.trans (Wk.sl0H 5 1 45 1 rfl rfl rfl) (Wk.env (by simp [subE, Env.get, nthQ]))) ?_
  intro i hi
  by_cases hil : (i : Int) < c.loss.length
  · have hir := size_le (k0.loss.2 _ (List.mem_of_getElem? (gR_get hil)))
    have hirl := k0.loss.2 _ (List.mem_of_getElem? (gR_get hil))
    simp only [sInside, Bool.and_eq_true, decide_eq_true_eq] at hirl
    have hq := nthQ_le (c.loss.take i) (n.tdiv (sSize c.heat)) hd0 fun r hr => hs r (List.mem_of_mem_take hr)
    have hmm := tmod_le hq.1 hir.1
    have hn1 : (cI (nthL (c.loss.take i) (n.tdiv (sSize c.heat)))).length = i := by rw [cI_len, nthL_len, List.length_take]; omega
    have hi9 : i ≤ 999999 := by omega
    have hs1 : ¬ sSize (gR c.loss i) = 0 := by omega
    simp only [gos, if_true, if_false, ne_eq, eq_self, Nat.reduceLT, Nat.reduceEqDiff, Nat.reduceAdd, Nat.reduceMul, Nat.reduceLeDiff, Nat.reduceBEq, reduceCtorEq, reduceIte, Array.toList, ↓reduceIte, tt, vgo, vout, vgoD, voutD, vclsOk, vids, mayWrite, V.ids, V.mids, vguard, callOf, vop, ev, cv, vbin, vint, isShift, isNilConst, vnil, isNilSlice, vload, vlen, newRow, vfill, vslice, entOf, vappend, srcOf, vcopy, vlookup, vupdate, mapOk, keyOf, intsOf, clsAt, vR, hil, cR_at (Int.natCast_nonneg i) hil]
    refine Wr.draw (by kernel_rfl) ?_
    simp only [gos, if_true, if_false, ne_eq, eq_self, Nat.reduceLT, Nat.reduceEqDiff, Nat.reduceAdd, Nat.reduceMul, Nat.reduceLeDiff, Nat.reduceBEq, reduceCtorEq, reduceIte, Array.toList, ↓reduceIte, tt, vgo, vout, vgoD, voutD, vclsOk, vids, mayWrite, V.ids, V.mids, vguard, callOf, vop, ev, cv, vbin, vint, isShift, isNilConst, vnil, isNilSlice, vload, vlen, newRow, vfill, vslice, entOf, vappend, srcOf, vcopy, vlookup, vupdate, mapOk, keyOf, intsOf, clsAt]
    refine CD.pu (c_rSize (gR c.loss i) ⟨by omega, by omega⟩ ⟨by omega, by omega⟩) ?_
    have hQL : nthL (c.loss.take (i + 1)) (n.tdiv (sSize c.heat)) = nthL (c.loss.take i) (n.tdiv (sSize c.heat)) ++ [(gR c.loss i).lo + (nthQ (c.loss.take i) (n.tdiv (sSize c.heat))).tmod (sSize (gR c.loss i))] := by rw [take_snocR hil, nthL_snoc]
    have hQQ : nthQ (c.loss.take (i + 1)) (n.tdiv (sSize c.heat)) = (nthQ (c.loss.take i) (n.tdiv (sSize c.heat))).tdiv (sSize (gR c.loss i)) := by rw [take_snocR hil, nthQ_snoc]
    generalize nthQ (c.loss.take i) (n.tdiv (sSize c.heat)) = q at hq hmm hQL hQQ ⊢
    have hq0 : 0 ≤ q.tdiv (sSize (gR c.loss i)) := Int.tdiv_nonneg hq.1 (by omega)
    have hq9 := Int.tdiv_le_self (sSize (gR c.loss i)) hq.1
    simp only [gos, if_true, if_false, ne_eq, eq_self, Nat.reduceLT, Nat.reduceEqDiff, Nat.reduceAdd, Nat.reduceMul, Nat.reduceLeDiff, Nat.reduceBEq, reduceCtorEq, reduceIte, Array.toList, ↓reduceIte, tt, vgo, vout, vgoD, voutD, vclsOk, vids, mayWrite, V.ids, V.mids, vguard, callOf, vop, ev, cv, vbin, vint, isShift, isNilConst, vnil, isNilSlice, vload, vlen, newRow, vfill, vslice, entOf, vappend, srcOf, vcopy, vlookup, vupdate, mapOk, keyOf, intsOf, clsAt, hs1, hn1, hi9, Nat.mul_one, i64_in (show -9223372036854775808 ≤ (gR c.loss i).lo + q.tmod (sSize (gR c.loss i)) by omega) (show (gR c.loss i).lo + q.tmod (sSize (gR c.loss i)) ≤ 9223372036854775807 by omega)]
    refine Cl.pu (c_rSize (gR c.loss i) ⟨by omega, by omega⟩ ⟨by omega, by omega⟩) ?_
    simp only [gos, if_true, if_false, ne_eq, eq_self, Nat.reduceLT, Nat.reduceEqDiff, Nat.reduceAdd, Nat.reduceMul, Nat.reduceLeDiff, Nat.reduceBEq, reduceCtorEq, reduceIte, Array.toList, ↓reduceIte, tt, vgo, vout, vgoD, voutD, vclsOk, vids, mayWrite, V.ids, V.mids, vguard, callOf, vop, ev, cv, vbin, vint, isShift, isNilConst, vnil, isNilSlice, vload, vlen, newRow, vfill, vslice, entOf, vappend, srcOf, vcopy, vlookup, vupdate, mapOk, keyOf, intsOf, clsAt, hs1, i64_in (show -9223372036854775808 ≤ q.tdiv (sSize (gR c.loss i)) by omega) (show q.tdiv (sSize (gR c.loss i)) ≤ 9223372036854775807 by omega)]
    refine Nx.mk (i + 1) (show c.loss.length - (i + 1) < c.loss.length - i by omega) (by omega) (Wk.forget ?_ ?_ (fun j hp => by simp [orD, domP, Heap.get] at hp) ?_ ?_)
    · simp [subE, Env.get, hQQ, i64_succ (show (i : Int) < 9223372036854775807 by omega)]
    · rw [hQL, cI_snoc]
      simp [subH, Heap.get]
    · simp only [intoE, V.into, intoL, cB_into, vB_into, cI_into, cR_into, cD_into, cS_into, vS_into, vI_into, vR_into, vD_into, cu_into, Bool.true_and, Bool.and_true, domP, Heap.get]; rfl
    · simp only [intoH, Blk.into, V.into, intoL, cB_into, vB_into, cI_into, cR_into, cD_into, cS_into, vS_into, vI_into, vR_into, vD_into, cu_into, Bool.true_and, Bool.and_true, domP, Heap.get]; rfl
  · have hie : i = c.loss.length := by omega
    have e : c.loss.take i = c.loss := List.take_of_length_le (by omega)
    simp only [gos, if_true, if_false, ne_eq, eq_self, Nat.reduceLT, Nat.reduceEqDiff, Nat.reduceAdd, Nat.reduceMul, Nat.reduceLeDiff, Nat.reduceBEq, reduceCtorEq, reduceIte, Array.toList, ↓reduceIte, tt, vgo, vout, vgoD, voutD, vclsOk, vids, mayWrite, V.ids, V.mids, vguard, callOf, vop, ev, cv, vbin, vint, isShift, isNilConst, vnil, isNilSlice, vload, vlen, newRow, vfill, vslice, entOf, vappend, srcOf, vcopy, vlookup, vupdate, mapOk, keyOf, intsOf, clsAt, vR, hil]
    rw [e]
    have hl := nthL_len c.loss (n.tdiv (sSize c.heat))
    subst hQ
    rw [hie]
    refine FnPost.plain trivial (v := .agg [vi (c.heat.lo + n.tmod (sSize c.heat)), .own 45 c.loss.length 0 1 c.loss.length]) (fun h2 e => by simp only [Try.f46, vres, vresL, vres1, gos, if_true, if_false, ne_eq, eq_self, Nat.reduceLT, Nat.reduceEqDiff, Nat.reduceAdd, Nat.reduceMul, Nat.reduceLeDiff, Nat.reduceBEq, reduceCtorEq, reduceIte, Array.toList, ↓reduceIte, tt, vgo, vout, vgoD, voutD, vclsOk, vids, mayWrite, V.ids, V.mids, vguard, callOf, vop, ev, cv, vbin, vint, isShift, isNilConst, vnil, isNilSlice, vload, vlen, newRow, vfill, vslice, entOf, vappend, srcOf, vcopy, vlookup, vupdate, mapOk, keyOf, intsOf, clsAt, e _]) (WkV.forgetF (h' := [(45, ⟨c.loss.length, .row (cI (rNth c n).loss)⟩)]) (fun j e he => ?_) (fun j hj => by cases hj) rfl ?_) ⟨rfl, rfl⟩
    · simp only [Heap.get] at he ⊢
      split at he
      · rename_i h45; subst h45; exact he
      · cases he
    · simp only [intoH, Blk.into, cI_into, Bool.and_self]
theorem n_rNth (c : Cu) (k0 : CuOk c) (n : Int) (hn : 0 ≤ n ∧ n ≤ 100000) : NewB Try.prog (.fn 46 [] []) [.agg c.cs, vi n] (.agg [vi (rNth c n).heat, .own 45 c.loss.length 0 1 c.loss.length]) 45 ⟨c.loss.length, .row (cI (rNth c n).loss)⟩ := NewB.of (c_rNth0 c k0 n hn) rfl (by simp only [V.into, intoL, cB_into, vB_into, cI_into, cR_into, cD_into, cS_into, vS_into, vI_into, vR_into, vD_into, cu_into, Bool.true_and, Bool.and_true])
end Go.Vm
set_option linter.unusedVariables false
set_option linter.unusedSimpArgs false
set_option maxRecDepth 100000
namespace Go.Vm
open Go.Proofs
/-! ### the reference: is an argument a truth? -/
set_option maxHeartbeats 1000000 in
theorem c_rIsListed (c : Cu) (k0 : CuOk c) (t : Tr2) (htl : (t.loss.length : Int) ≤ 1000000) : Pu Try.prog (.fn 61 [] []) [.agg c.cs, .agg t.cs] (.bool (sScOk c t)) := by
  have hl := k0.last
  have hll := k0.loss.1
  refine Ev.fn Try.func61 rfl rfl (Fn.body tabOk Try.func61 rfl (Nat.le_of_ble_eq_true rfl) (Ks.ok (fz := (fzn [])) (cl := (cln [(6, .d tg0 [cP, cP, cP, cP, cP, cP, cP, cP, cP, cP, cP, cP])])) tabOk mixed ?_))
  generalize hQ : FnPost tt Try.f61 _ _ = Q
  simp only [Try.f61, List.nil_append, List.append_nil, List.cons_append, argsEnv, Nat.reduceAdd]
  have hts : t.cs.take 2 = t.cs := rfl
  simp only [gos, if_true, if_false, ne_eq, eq_self, Nat.reduceLT, Nat.reduceEqDiff, Nat.reduceAdd, Nat.reduceMul, Nat.reduceLeDiff, Nat.reduceBEq, reduceCtorEq, reduceIte, Array.toList, ↓reduceIte, tt, vgo, vout, vgoD, voutD, vclsOk, vids, mayWrite, V.ids, V.mids, vguard, callOf, vop, ev, cv, vbin, vint, isShift, isNilConst, vnil, isNilSlice, vload, vlen, newRow, vfill, vslice, entOf, vappend, srcOf, vcopy, vlookup, vupdate, mapOk, keyOf, intsOf, clsAt, Tr2.cs]
  refine Cl.pu (c_rIs _ _) ?_
  cases h1 : sIn t.heat c.heat.lo c.heat.hi with
  | false =>
    simp only [gos, if_true, if_false, ne_eq, eq_self, Nat.reduceLT, Nat.reduceEqDiff, Nat.reduceAdd, Nat.reduceMul, Nat.reduceLeDiff, Nat.reduceBEq, reduceCtorEq, reduceIte, Array.toList, ↓reduceIte, tt, vgo, vout, vgoD, voutD, vclsOk, vids, mayWrite, V.ids, V.mids, vguard, callOf, vop, ev, cv, vbin, vint, isShift, isNilConst, vnil, isNilSlice, vload, vlen, newRow, vfill, vslice, entOf, vappend, srcOf, vcopy, vlookup, vupdate, mapOk, keyOf, intsOf, clsAt]
    subst hQ
    exact FnPost.plain trivial (v := .bool false) (fun h2 e => by rfl) WkV.refl ⟨by simp [sScOk, h1], rfl⟩
  | true =>
  by_cases h2 : (t.loss.length : Int) = c.last + 1
  case neg =>
    have hb : ((t.loss.length : Int) != c.loss.length) = true := by rw [bne_iff_ne, ne_eq, hll]; exact h2
    simp only [gos, if_true, if_false, ne_eq, eq_self, Nat.reduceLT, Nat.reduceEqDiff, Nat.reduceAdd, Nat.reduceMul, Nat.reduceLeDiff, Nat.reduceBEq, reduceCtorEq, reduceIte, Array.toList, ↓reduceIte, tt, vgo, vout, vgoD, voutD, vclsOk, vids, mayWrite, V.ids, V.mids, vguard, callOf, vop, ev, cv, vbin, vint, isShift, isNilConst, vnil, isNilSlice, vload, vlen, newRow, vfill, vslice, entOf, vappend, srcOf, vcopy, vlookup, vupdate, mapOk, keyOf, intsOf, clsAt, vI, vR, hb]
    subst hQ
    exact FnPost.plain trivial (v := .bool false) (fun h2 e => by rfl) WkV.refl ⟨by simp [sScOk, h2], rfl⟩
  have hb : ((t.loss.length : Int) != c.loss.length) = false := by rw [bne_eq_false_iff_eq]; omega
  simp only [gos, if_true, if_false, ne_eq, eq_self, Nat.reduceLT, Nat.reduceEqDiff, Nat.reduceAdd, Nat.reduceMul, Nat.reduceLeDiff, Nat.reduceBEq, reduceCtorEq, reduceIte, Array.toList, ↓reduceIte, tt, vgo, vout, vgoD, voutD, vclsOk, vids, mayWrite, V.ids, V.mids, vguard, callOf, vop, ev, cv, vbin, vint, isShift, isNilConst, vnil, isNilSlice, vload, vlen, newRow, vfill, vslice, entOf, vappend, srcOf, vcopy, vlookup, vupdate, mapOk, keyOf, intsOf, clsAt, vI, vR, hb]
  refine W.loop tabOk mixed (fun i : Nat => ([(2, .rop c.cs), (3, .rop [vi t.heat, vI t.loss]), (5, vi i)], [])) (fun i => t.loss.length - i) (fun i => i ≤ t.loss.length ∧ ∀ j : Nat, j < i → sIn (gi t.loss j) (gR c.loss j).lo (gR c.loss j).hi = true) 0 ⟨by omega, fun j hj => by omega⟩ (Wk.env (by simp [subE, Env.get, vI])) ?_
  rintro i ⟨hi, hno⟩
  by_cases hil : (i : Int) < t.loss.length
  · have hil2 : (i : Int) < c.loss.length := by omega
    simp only [gos, if_true, if_false, ne_eq, eq_self, Nat.reduceLT, Nat.reduceEqDiff, Nat.reduceAdd, Nat.reduceMul, Nat.reduceLeDiff, Nat.reduceBEq, reduceCtorEq, reduceIte, Array.toList, ↓reduceIte, tt, vgo, vout, vgoD, voutD, vclsOk, vids, mayWrite, V.ids, V.mids, vguard, callOf, vop, ev, cv, vbin, vint, isShift, isNilConst, vnil, isNilSlice, vload, vlen, newRow, vfill, vslice, entOf, vappend, srcOf, vcopy, vlookup, vupdate, mapOk, keyOf, intsOf, clsAt, vI, hil]
    refine Wr.draw (by kernel_rfl) ?_
    simp only [gos, if_true, if_false, ne_eq, eq_self, Nat.reduceLT, Nat.reduceEqDiff, Nat.reduceAdd, Nat.reduceMul, Nat.reduceLeDiff, Nat.reduceBEq, reduceCtorEq, reduceIte, Array.toList, ↓reduceIte, tt, vgo, vout, vgoD, voutD, vclsOk, vids, mayWrite, V.ids, V.mids, vguard, callOf, vop, ev, cv, vbin, vint, isShift, isNilConst, vnil, isNilSlice, vload, vlen, newRow, vfill, vslice, entOf, vappend, srcOf, vcopy, vlookup, vupdate, mapOk, keyOf, intsOf, clsAt, vI, vR, hil, hil2, cI_at (Int.natCast_nonneg i) hil, cR_at (Int.natCast_nonneg i) hil2]
    refine CD.pu (c_rIs _ _) ?_
    cases hr : sIn (gi t.loss i) (gR c.loss i).lo (gR c.loss i).hi with
    | true =>
      simp only [gos, if_true, if_false, ne_eq, eq_self, Nat.reduceLT, Nat.reduceEqDiff, Nat.reduceAdd, Nat.reduceMul, Nat.reduceLeDiff, Nat.reduceBEq, reduceCtorEq, reduceIte, Array.toList, ↓reduceIte, tt, vgo, vout, vgoD, voutD, vclsOk, vids, mayWrite, V.ids, V.mids, vguard, callOf, vop, ev, cv, vbin, vint, isShift, isNilConst, vnil, isNilSlice, vload, vlen, newRow, vfill, vslice, entOf, vappend, srcOf, vcopy, vlookup, vupdate, mapOk, keyOf, intsOf, clsAt]
      refine Nx.mk (i + 1) (show t.loss.length - (i + 1) < t.loss.length - i by omega) ⟨by omega, fun j hj => ?_⟩ (Wk.env (by simp [subE, Env.get, vI, i64_succ (show (i : Int) < 9223372036854775807 by omega)]))
      rcases Nat.lt_succ_iff_lt_or_eq.1 hj with h | rfl
      · exact hno j h
      · exact hr
    | false =>
      simp only [gos, if_true, if_false, ne_eq, eq_self, Nat.reduceLT, Nat.reduceEqDiff, Nat.reduceAdd, Nat.reduceMul, Nat.reduceLeDiff, Nat.reduceBEq, reduceCtorEq, reduceIte, Array.toList, ↓reduceIte, tt, vgo, vout, vgoD, voutD, vclsOk, vids, mayWrite, V.ids, V.mids, vguard, callOf, vop, ev, cv, vbin, vint, isShift, isNilConst, vnil, isNilSlice, vload, vlen, newRow, vfill, vslice, entOf, vappend, srcOf, vcopy, vlookup, vupdate, mapOk, keyOf, intsOf, clsAt]
      subst hQ
      exact FnPost.plain trivial (v := .bool false) (fun h2 e => by rfl) WkV.refl ⟨by rw [sScOk, range_all_false (i := i) (by omega) hr, Bool.and_false], rfl⟩
  · simp only [gos, if_true, if_false, ne_eq, eq_self, Nat.reduceLT, Nat.reduceEqDiff, Nat.reduceAdd, Nat.reduceMul, Nat.reduceLeDiff, Nat.reduceBEq, reduceCtorEq, reduceIte, Array.toList, ↓reduceIte, tt, vgo, vout, vgoD, voutD, vclsOk, vids, mayWrite, V.ids, V.mids, vguard, callOf, vop, ev, cv, vbin, vint, isShift, isNilConst, vnil, isNilSlice, vload, vlen, newRow, vfill, vslice, entOf, vappend, srcOf, vcopy, vlookup, vupdate, mapOk, keyOf, intsOf, clsAt, vI, hil]
    subst hQ
    refine FnPost.plain trivial (v := .bool true) (fun h2 e => by rfl) WkV.refl ⟨?_, rfl⟩
    have : ((List.range t.loss.length).all fun (i : Nat) => sIn (gi t.loss i) (gR c.loss i).lo (gR c.loss i).hi) = true := by
      rw [List.all_eq_true]
      intro j hj
      rw [List.mem_range] at hj
      exact hno j (by omega)
    rw [sScOk, h1, this]
    simp [h2]
theorem t2ok_of {c : Cu} (k0 : CuOk c) {t : Tr2} (h : sScOk c t = true) : T2Ok c t ∧ sScene c t = tS t := by
  have e : sScene c t = tS t := by rw [sScene, if_pos h]; rfl
  have h1 := scOk_of k0 h
  rw [e] at h1
  simp only [sScOk, Bool.and_eq_true, decide_eq_true_eq] at h
  exact ⟨⟨h1, h.1.2⟩, e⟩
def rIsTruth (c : Cu) (t : Tr2) : Bool := sScOk c t && decide (rRight c t = rFull c)
theorem c_rIsTruth (c : Cu) (k0 : CuOk c) (t : Tr2) (htl : (t.loss.length : Int) ≤ 1000000) : Pu Try.prog (.fn 60 [] []) [.agg c.cs, .agg t.cs] (.bool (rIsTruth c t)) := by
  refine Ev.fn Try.func60 rfl rfl (Fn.body tabOk Try.func60 rfl (Nat.le_of_ble_eq_true rfl) (Ks.ok (fz := (fzn [])) (cl := (cln [(1, .d tg0 [cP, cP, cP, cP, cP, cP, cP, cP, cP, cP, cP, cP])])) tabOk mixed ?_))
  generalize hQ : FnPost tt Try.f60 _ _ = Q
  simp only [Try.f60, List.nil_append, List.append_nil, List.cons_append, argsEnv, Nat.reduceAdd]
  have hts : t.cs.take 2 = t.cs := rfl
  have htn : t.cs.length = 2 := rfl
  simp only [gos, if_true, if_false, ne_eq, eq_self, Nat.reduceLT, Nat.reduceEqDiff, Nat.reduceAdd, Nat.reduceMul, Nat.reduceLeDiff, Nat.reduceBEq, reduceCtorEq, reduceIte, Array.toList, ↓reduceIte, tt, vgo, vout, vgoD, voutD, vclsOk, vids, mayWrite, V.ids, V.mids, vguard, callOf, vop, ev, cv, vbin, vint, isShift, isNilConst, vnil, isNilSlice, vload, vlen, newRow, vfill, vslice, entOf, vappend, srcOf, vcopy, vlookup, vupdate, mapOk, keyOf, intsOf, clsAt]
  refine Wr.draw (by kernel_rfl) ?_
  simp only [gos, if_true, if_false, ne_eq, eq_self, Nat.reduceLT, Nat.reduceEqDiff, Nat.reduceAdd, Nat.reduceMul, Nat.reduceLeDiff, Nat.reduceBEq, reduceCtorEq, reduceIte, Array.toList, ↓reduceIte, tt, vgo, vout, vgoD, voutD, vclsOk, vids, mayWrite, V.ids, V.mids, vguard, callOf, vop, ev, cv, vbin, vint, isShift, isNilConst, vnil, isNilSlice, vload, vlen, newRow, vfill, vslice, entOf, vappend, srcOf, vcopy, vlookup, vupdate, mapOk, keyOf, intsOf, clsAt, hts, htn]
  refine CD.pu (c_rIsListed c k0 t htl) ?_ rfl (by simp only [V.into, intoL, cB_into, vB_into, cI_into, cR_into, cD_into, cS_into, vS_into, vI_into, vR_into, vD_into, cu_into, Bool.true_and, Bool.and_true, Tr2.cs])
  cases h : sScOk c t with
  | false =>
    simp only [gos, if_true, if_false, ne_eq, eq_self, Nat.reduceLT, Nat.reduceEqDiff, Nat.reduceAdd, Nat.reduceMul, Nat.reduceLeDiff, Nat.reduceBEq, reduceCtorEq, reduceIte, Array.toList, ↓reduceIte, tt, vgo, vout, vgoD, voutD, vclsOk, vids, mayWrite, V.ids, V.mids, vguard, callOf, vop, ev, cv, vbin, vint, isShift, isNilConst, vnil, isNilSlice, vload, vlen, newRow, vfill, vslice, entOf, vappend, srcOf, vcopy, vlookup, vupdate, mapOk, keyOf, intsOf, clsAt]
    subst hQ
    exact FnPost.plain trivial (fun h2 e => by first | rfl | (simp only [Try.f60, vres, vresL, vres1, e _, gos, if_true, if_false, ne_eq, eq_self, Nat.reduceLT, Nat.reduceEqDiff, Nat.reduceAdd, Nat.reduceMul, Nat.reduceLeDiff, Nat.reduceBEq, reduceCtorEq, reduceIte, Array.toList, ↓reduceIte, tt, vgo, vout, vgoD, voutD, vclsOk, vids, mayWrite, V.ids, V.mids, vguard, callOf, vop, ev, cv, vbin, vint, isShift, isNilConst, vnil, isNilSlice, vload, vlen, newRow, vfill, vslice, entOf, vappend, srcOf, vcopy, vlookup, vupdate, mapOk, keyOf, intsOf, clsAt]; try rfl)) (WkV.pure (by simp only [V.into, intoL, cB_into, vB_into, cI_into, cR_into, cD_into, cS_into, vS_into, vI_into, vR_into, vD_into, cu_into, Bool.true_and, Bool.and_true])) ⟨by simp [rIsTruth, h], rfl⟩
  | true =>
    obtain ⟨h2, _⟩ := t2ok_of k0 h
    simp only [gos, if_true, if_false, ne_eq, eq_self, Nat.reduceLT, Nat.reduceEqDiff, Nat.reduceAdd, Nat.reduceMul, Nat.reduceLeDiff, Nat.reduceBEq, reduceCtorEq, reduceIte, Array.toList, ↓reduceIte, tt, vgo, vout, vgoD, voutD, vclsOk, vids, mayWrite, V.ids, V.mids, vguard, callOf, vop, ev, cv, vbin, vint, isShift, isNilConst, vnil, isNilSlice, vload, vlen, newRow, vfill, vslice, entOf, vappend, srcOf, vcopy, vlookup, vupdate, mapOk, keyOf, intsOf, clsAt, hts, htn]
    refine CD.pu (c_rRight c k0 t (h2.tr k0)) ?_ rfl (by simp only [V.into, intoL, cB_into, vB_into, cI_into, cR_into, cD_into, cS_into, vS_into, vI_into, vR_into, vD_into, cu_into, Bool.true_and, Bool.and_true, Tr2.cs])
    simp only [gos, if_true, if_false, ne_eq, eq_self, Nat.reduceLT, Nat.reduceEqDiff, Nat.reduceAdd, Nat.reduceMul, Nat.reduceLeDiff, Nat.reduceBEq, reduceCtorEq, reduceIte, Array.toList, ↓reduceIte, tt, vgo, vout, vgoD, voutD, vclsOk, vids, mayWrite, V.ids, V.mids, vguard, callOf, vop, ev, cv, vbin, vint, isShift, isNilConst, vnil, isNilSlice, vload, vlen, newRow, vfill, vslice, entOf, vappend, srcOf, vcopy, vlookup, vupdate, mapOk, keyOf, intsOf, clsAt]
    refine CD.pu (c_rFull c k0.rds) ?_ rfl (by simp only [V.into, intoL, cB_into, vB_into, cI_into, cR_into, cD_into, cS_into, vS_into, vI_into, vR_into, vD_into, cu_into, Bool.true_and, Bool.and_true])
    simp only [gos, if_true, if_false, ne_eq, eq_self, Nat.reduceLT, Nat.reduceEqDiff, Nat.reduceAdd, Nat.reduceMul, Nat.reduceLeDiff, Nat.reduceBEq, reduceCtorEq, reduceIte, Array.toList, ↓reduceIte, tt, vgo, vout, vgoD, voutD, vclsOk, vids, mayWrite, V.ids, V.mids, vguard, callOf, vop, ev, cv, vbin, vint, isShift, isNilConst, vnil, isNilSlice, vload, vlen, newRow, vfill, vslice, entOf, vappend, srcOf, vcopy, vlookup, vupdate, mapOk, keyOf, intsOf, clsAt]
    subst hQ
    exact FnPost.plain trivial (fun h2 e => by first | rfl | (simp only [Try.f60, vres, vresL, vres1, e _, gos, if_true, if_false, ne_eq, eq_self, Nat.reduceLT, Nat.reduceEqDiff, Nat.reduceAdd, Nat.reduceMul, Nat.reduceLeDiff, Nat.reduceBEq, reduceCtorEq, reduceIte, Array.toList, ↓reduceIte, tt, vgo, vout, vgoD, voutD, vclsOk, vids, mayWrite, V.ids, V.mids, vguard, callOf, vop, ev, cv, vbin, vint, isShift, isNilConst, vnil, isNilSlice, vload, vlen, newRow, vfill, vslice, entOf, vappend, srcOf, vcopy, vlookup, vupdate, mapOk, keyOf, intsOf, clsAt]; try rfl)) (WkV.pure (by simp only [V.into, intoL, cB_into, vB_into, cI_into, cR_into, cD_into, cS_into, vS_into, vI_into, vR_into, vD_into, cu_into, Bool.true_and, Bool.and_true])) ⟨by simp [rIsTruth, h], rfl⟩
theorem prove_same {c : Cu} (k0 : CuOk c) (h0 : sCheck c = 0) (t : Tr2) : sProveTruth c t = rIsTruth c t := by
  simp only [sProveTruth, rIsTruth, h0, decide_true, Bool.true_and]
  cases h : sScOk c t with
  | false => rfl
  | true =>
    obtain ⟨_, e⟩ := t2ok_of k0 h
    rw [e, Bool.eq_iff_iff, Bool.true_and, Bool.true_and, decide_eq_true_eq, right_iff k0]
end Go.Vm
set_option linter.unusedVariables false
set_option linter.unusedSimpArgs false
set_option maxRecDepth 100000
namespace Go.Vm
/-! ### plain laws of one truth -/
theorem chk_of {c : Cu} (k : CuOk c) : sCheck c = 0 := by
  have h1 := k.last; have h2 := k.rds; have h3 := k.most; have h4 := k.start; have h5 := k.per; have h6 := k.shovels; have h7 := k.many
  have b1 : sBad1 c = false := by
    simp only [sBad1, Bool.or_eq_false_iff, Bool.not_eq_false', decide_eq_false_iff_not, sIn, Bool.and_eq_true, decide_eq_true_eq]
    omega
  have b2 : sBad2 c = false := by
    simp only [sBad2, Bool.or_eq_false_iff, Bool.not_eq_false', decide_eq_false_iff_not, sIsCoal, sPromised, sIn, Bool.and_eq_true, decide_eq_true_eq, List.all_eq_true, ne_eq, Decidable.not_not]
    exact ⟨⟨⟨⟨⟨k.coal, k.want⟩, k.heat⟩, k.loss.1⟩, k.loss.2⟩, k.readings⟩
  rw [sCheck, if_neg (by omega), if_neg (by simp [b1]), if_neg (by simp [b2]), if_neg (by omega)]
theorem listed_sc {c : Cu} (k : CuOk c) {t : Tr2} : sScOk c t = true ↔ Listed c t := by
  have h1 := k.loss.1; have h2 := k.last
  simp only [sScOk, Bool.and_eq_true, decide_eq_true_eq, List.all_eq_true, List.mem_range, sIn]
  constructor
  · rintro ⟨⟨a, b⟩, d⟩
    exact ⟨a, by omega, fun i hi => d i (by omega)⟩
  · rintro ⟨a, b, d⟩
    exact ⟨⟨a, by omega⟩, fun i hi => d i (by omega)⟩
/-- The run of other coppers with the same bounds. -/
theorem sPlay_cu (c x : Cu) (h1 : x.start = c.start) (h2 : x.most = c.most) (h3 : x.per = c.per) (s : Sc) (coal want : List Int) : ∀ n, sPlay x s coal want n = sPlay c s coal want n
  | 0 => by simp only [sPlay, h1]
  | n + 1 => by simp only [sPlay, sPlay_cu c x h1 h2 h3 s coal want n, h2, h3]
theorem sHeat_cu (c x : Cu) (h1 : x.start = c.start) (h2 : x.most = c.most) (h3 : x.per = c.per) (s : Sc) (coal want : List Int) (n : Nat) : sHeat x s coal want n = sHeat c s coal want n := by
  simp only [sHeat, sPlay_cu c x h1 h2 h3, h2]
theorem tdiv_mono {a b p : Int} (h0 : 0 ≤ a) (hab : a ≤ b) (hp : 1 ≤ p) : a.tdiv p ≤ b.tdiv p := by
  rw [Int.tdiv_eq_ediv_of_nonneg h0, Int.tdiv_eq_ediv_of_nonneg (by omega)]
  exact Int.ediv_le_ediv (by omega) hab
theorem mul_le_of_tdiv {w a p : Int} (h0 : 0 ≤ a) (hp : 1 ≤ p) (h : w ≤ a.tdiv p) : w * p ≤ a := by
  rw [Int.tdiv_eq_ediv_of_nonneg h0] at h
  exact Int.mul_le_of_le_ediv (by omega) h
/-- Warmer: more heat, smaller losses, more coal. -/
structure Warm (s s' : Sc) (coal coal' : List Int) (n : Nat) : Prop where
  heat : 0 ≤ s.heat ∧ s.heat ≤ s'.heat
  loss : ∀ i, i < n → gi s'.loss i ≤ gi s.loss i
  coal : ∀ i, i < n → 0 ≤ gi coal i ∧ gi coal i ≤ gi coal' i
theorem warm_heat {c : Cu} {s s' : Sc} {coal coal' want : List Int} {n : Nat} (w : Warm s s' coal coal' n) {i : Nat} (hi : i < n) (h : (sPlay c s coal want i).1 ≤ (sPlay c s' coal' want i).1) : sHeat c s coal want i ≤ sHeat c s' coal' want i := by
  have h1 := w.loss i hi
  have h2 := w.coal i hi
  have h3 : gi coal i * s.heat ≤ gi coal' i * s'.heat := Int.mul_le_mul h2.2 w.heat.2 w.heat.1 (by omega)
  simp only [sHeat]
  omega
theorem warm_play {c : Cu} {s s' : Sc} {coal coal' want : List Int} {n : Nat} (hp : 1 ≤ c.per) (w : Warm s s' coal coal' n) : ∀ i, i ≤ n → (sPlay c s coal want i).1 ≤ (sPlay c s' coal' want i).1
  | 0, _ => Int.le_refl _
  | i + 1, hi => by
    have ih := warm_heat w (show i < n by omega) (warm_play (want := want) hp w i (by omega))
    have h0 : 0 ≤ sHeat c s coal want i := by simp only [sHeat]; omega
    have h1 : 0 ≤ sHeat c s' coal' want i := by simp only [sHeat]; omega
    have hm := tdiv_mono h0 ih hp
    rw [sPlay_heat, sPlay_heat]
    by_cases hk : gi want i ≤ (sHeat c s coal want i).tdiv c.per
    · rw [if_pos hk, if_pos (by omega)]; omega
    · rw [if_neg hk]
      split
      · rename_i hk2
        have := mul_le_of_tdiv h1 hp hk2
        omega
      · omega
/-- The first i losses are the smaller ones. -/
def sMix (a b : List Int) : Nat → List Int
  | 0 => b
  | i + 1 => (sMix a b i).set i (min (gi a i) (gi (sMix a b i) i))
theorem sMix_len (a b : List Int) : ∀ i, (sMix a b i).length = b.length
  | 0 => rfl
  | i + 1 => by rw [sMix, List.length_set, sMix_len a b i]
theorem sMix_ge (a b : List Int) : ∀ (i j : Nat), i ≤ j → gi (sMix a b i) j = gi b j
  | 0, _, _ => rfl
  | i + 1, j, h => by rw [sMix, gi_set_ne _ (by omega), sMix_ge a b i j (by omega)]
theorem sMix_lt (a b : List Int) : ∀ (i j : Nat), j < i → i ≤ b.length → gi (sMix a b i) j = min (gi a j) (gi b j)
  | 0, _, h, _ => by omega
  | i + 1, j, h, hb => by
    rw [sMix]
    by_cases e : j = i
    · subst e
      rw [gi_set_self _ (by rw [sMix_len]; omega), sMix_ge a b j j (by omega)]
    · rw [gi_set_ne _ (by omega), sMix_lt a b i j (by omega) (by omega)]
end Go.Vm
set_option linter.unusedVariables false
set_option linter.unusedSimpArgs false
set_option maxRecDepth 100000
namespace Go.Vm
open Go.Proofs Go.ChangeShapes Go.WideShapes Go.ChangeAt Go.RowKit
theorem VRL.one {g : Gh} {c : V} {v : Value} (h : VRL g [c] [v]) : VR g c v := by
  simp only [VRL] at h
  obtain ⟨x, l, e, h1, h2⟩ := h
  injection e with e1 e2
  subst e1; exact h1
def cW16 (l : List Int) : List V := l.map fun n => .int .u16 n
def vW (l : List Int) : V := .ro l.length (cW16 l)
def Tr2.ok (t : Tr2) : Prop := I64 t.heat ∧ ∀ n ∈ t.loss, I64 n
section
variable {H : Type} {enc : TypeId × Value → H} {w : World} {base : Nat} {spare : Nat → Bool} {held : Bool} {fuel : Nat} {cs : List Value} {x : DataW H × List MemPlace}
theorem rd_ints1 (h : DataW.trod enc Try.prog w base spare held fuel 22 cs = some x) : ∃ l : List Int, (∀ n ∈ l, I64 n) ∧ VRL (gh0 w) [vI l] cs := by
  obtain ⟨l, h1, _, h3⟩ := rd_ints Try.underlying22 Try.underlying3 (by kernel_rfl) h
  exact ⟨l, h1, h3⟩
theorem rd_u16 (h : DataW.trod enc Try.prog w base spare held fuel 70 cs = some x) : ∃ n : Int, (0 ≤ n ∧ n ≤ 65535) ∧ VRL (gh0 w) [.int .u16 n] cs := by
  obtain ⟨n, rfl, _, h2⟩ := DataW.trod_int Try.underlying70 h
  exact ⟨n, bounds_u16 h2, VRL.cons (by simp only [VR]) VRL.nil⟩
theorem rd_u8 (h : DataW.trod enc Try.prog w base spare held fuel 5 cs = some x) : ∃ n : Int, (0 ≤ n ∧ n ≤ 255) ∧ VRL (gh0 w) [.int .u8 n] cs := by
  obtain ⟨n, rfl, _, h2⟩ := DataW.trod_int Try.underlying5 h
  exact ⟨n, bounds_u8 h2, VRL.cons (by simp only [VR]) VRL.nil⟩
theorem rd_words (h : DataW.trod enc Try.prog w base spare held fuel 78 cs = some x) : ∃ l : List Int, (∀ n ∈ l, 0 ≤ n ∧ n ≤ 65535) ∧ VRL (gh0 w) [vW l] cs := by
  obtain ⟨l, h1, h2, h3⟩ := rd_slice (fun n : Int => [V.int .u16 n]) (fun n => 0 ≤ n ∧ n ≤ 65535) 1 Try.underlying78 (by kernel_rfl) (by omega) (fun _ => rfl) h fun n cs x h => rd_u16 h
  have e : l.flatMap (fun n : Int => [V.int .u16 n]) = cW16 l := by
    clear h1 h2 h3
    induction l with
    | nil => rfl
    | cons y l ih => simp only [List.flatMap_cons, cW16, List.map_cons, List.singleton_append] at ih ⊢; rw [ih]
  rw [e] at h3
  exact ⟨l, h1, h3⟩
theorem rd_tr (h : DataW.trod enc Try.prog w base spare held fuel 66 cs = some x) : ∃ t : Tr2, t.ok ∧ VRL (gh0 w) t.cs cs := by
  obtain ⟨xs, n, _, _, hl, hx, hf⟩ := DataW.trod_struct Try.underlying66 h
  have hl2 : cs.length = 2 := hl.trans (by kernel_rfl)
  have hx2 : xs.length = 2 := hx
  have f0 : DataW.trod enc Try.prog w base spare held n 3 ((cs.drop 0).take (Try.prog.cellsOf 3)) = xs[0]? := hf 0 _ rfl
  have f1 : DataW.trod enc Try.prog w base spare held n 22 ((cs.drop 1).take (Try.prog.cellsOf 22)) = xs[1]? := hf 1 _ rfl
  rw [List.getElem?_eq_getElem (by omega)] at f0 f1
  obtain ⟨a, ha, va⟩ := rd_int Try.underlying3 f0
  obtain ⟨b, hb, vb⟩ := rd_ints1 f1
  refine ⟨⟨a, b⟩, ⟨ha, hb⟩, ?_⟩
  have hc : Try.prog.cellsOf 3 = 1 := by kernel_rfl
  have hc2 : Try.prog.cellsOf 22 = 1 := by kernel_rfl
  simp only [hc, hc2, List.drop_zero] at va vb
  rw [List.take_of_length_le (by simp; omega)] at vb
  exact VRL_two va vb
end
end Go.Vm
set_option linter.unusedVariables false
set_option linter.unusedSimpArgs false
set_option maxRecDepth 100000
namespace Go.Vm
open Go.Proofs
/-! ### coal by a number -/
def powI (s : Int) : Nat → Int
  | 0 => 1
  | n + 1 => powI s n * s
theorem powI_le {s : Int} (hs : 1 ≤ s ∧ s ≤ 4) : ∀ n : Nat, n ≤ 5 → 1 ≤ powI s n ∧ powI s n ≤ 1024
  | 0, _ => by simp [powI]
  | 1, _ => by simp [powI]; omega
  | 2, _ => by
    have : s = 1 ∨ s = 2 ∨ s = 3 ∨ s = 4 := by omega
    rcases this with rfl | rfl | rfl | rfl <;> decide
  | 3, _ => by
    have : s = 1 ∨ s = 2 ∨ s = 3 ∨ s = 4 := by omega
    rcases this with rfl | rfl | rfl | rfl <;> decide
  | 4, _ => by
    have : s = 1 ∨ s = 2 ∨ s = 3 ∨ s = 4 := by omega
    rcases this with rfl | rfl | rfl | rfl <;> decide
  | 5, _ => by
    have : s = 1 ∨ s = 2 ∨ s = 3 ∨ s = 4 := by omega
    rcases this with rfl | rfl | rfl | rfl <;> decide
  | n + 6, h => by omega
def rCoals (c : Cu) : Int := powI (c.shovels + 1) (c.last + 1).toNat
theorem rCoals_le {c : Cu} (k0 : CuOk c) : 1 ≤ rCoals c ∧ rCoals c ≤ 1024 := by
  have := k0.last; have := k0.shovels
  exact powI_le (by omega) _ (by omega)
theorem c_rCoals (c : Cu) (k0 : CuOk c) : Pu Try.prog (.fn 51 [] []) [.agg c.cs] (vi (rCoals c)) := by
  have hl := k0.last
  have hs := k0.shovels
  refine Ev.fn Try.func51 rfl rfl (Fn.body tabOk Try.func51 rfl (Nat.le_of_ble_eq_true rfl) (Ks.ok (fz := (fzn [])) (cl := (cln [])) tabOk mixed ?_))
  generalize hQ : FnPost tt Try.f51 _ _ = Q
  simp only [Try.f51, List.nil_append, List.append_nil, List.cons_append, argsEnv, Nat.reduceAdd]
  have hc4 : (List.drop 4 c.cs).head? = some (vi c.shovels) := rfl
  simp only [gos, if_true, if_false, ne_eq, eq_self, Nat.reduceLT, Nat.reduceEqDiff, Nat.reduceAdd, Nat.reduceMul, Nat.reduceLeDiff, Nat.reduceBEq, reduceCtorEq, reduceIte, Array.toList, ↓reduceIte, tt, vgo, vout, vgoD, voutD, vclsOk, vids, mayWrite, V.ids, V.mids, vguard, callOf, vop, ev, cv, vbin, vint, isShift, isNilConst, vnil, isNilSlice, vload, vlen, newRow, vfill, vslice, entOf, vappend, srcOf, vcopy, vlookup, vupdate, mapOk, keyOf, intsOf, clsAt]
  refine W.loop tabOk mixed (fun i : Nat => ([(1, .rop c.cs), (3, vi (powI (c.shovels + 1) i)), (4, vi i)], [])) (fun i => (c.last + 1).toNat - i) (fun i => i ≤ (c.last + 1).toNat) 0 (by omega) (Wk.env (by simp [subE, Env.get, powI])) ?_
  intro i hi
  by_cases hil : (i : Int) ≤ c.last
  · have hp := powI_le (s := c.shovels + 1) (by omega) (i + 1) (by omega)
    rw [powI] at hp
    simp only [gos, if_true, if_false, ne_eq, eq_self, Nat.reduceLT, Nat.reduceEqDiff, Nat.reduceAdd, Nat.reduceMul, Nat.reduceLeDiff, Nat.reduceBEq, reduceCtorEq, reduceIte, Array.toList, ↓reduceIte, tt, vgo, vout, vgoD, voutD, vclsOk, vids, mayWrite, V.ids, V.mids, vguard, callOf, vop, ev, cv, vbin, vint, isShift, isNilConst, vnil, isNilSlice, vload, vlen, newRow, vfill, vslice, entOf, vappend, srcOf, vcopy, vlookup, vupdate, mapOk, keyOf, intsOf, clsAt, hil, hc4, i64_in (show -9223372036854775808 ≤ c.shovels + 1 by omega) (show c.shovels + 1 ≤ 9223372036854775807 by omega), i64_in (show -9223372036854775808 ≤ powI (c.shovels + 1) i * (c.shovels + 1) by omega) (show powI (c.shovels + 1) i * (c.shovels + 1) ≤ 9223372036854775807 by omega)]
    exact Nx.mk (i + 1) (show (c.last + 1).toNat - (i + 1) < (c.last + 1).toNat - i by omega) (by omega) (Wk.env (by simp [subE, Env.get, powI, i64_succ (show (i : Int) < 9223372036854775807 by omega)]))
  · have e : (c.last + 1).toNat = i := by omega
    simp only [gos, if_true, if_false, ne_eq, eq_self, Nat.reduceLT, Nat.reduceEqDiff, Nat.reduceAdd, Nat.reduceMul, Nat.reduceLeDiff, Nat.reduceBEq, reduceCtorEq, reduceIte, Array.toList, ↓reduceIte, tt, vgo, vout, vgoD, voutD, vclsOk, vids, mayWrite, V.ids, V.mids, vguard, callOf, vop, ev, cv, vbin, vint, isShift, isNilConst, vnil, isNilSlice, vload, vlen, newRow, vfill, vslice, entOf, vappend, srcOf, vcopy, vlookup, vupdate, mapOk, keyOf, intsOf, clsAt, hil]
    subst hQ
    exact FnPost.plain trivial (fun h2 e => by first | rfl | (simp only [Try.f51, vres, vresL, vres1, e _, gos, if_true, if_false, ne_eq, eq_self, Nat.reduceLT, Nat.reduceEqDiff, Nat.reduceAdd, Nat.reduceMul, Nat.reduceLeDiff, Nat.reduceBEq, reduceCtorEq, reduceIte, Array.toList, ↓reduceIte, tt, vgo, vout, vgoD, voutD, vclsOk, vids, mayWrite, V.ids, V.mids, vguard, callOf, vop, ev, cv, vbin, vint, isShift, isNilConst, vnil, isNilSlice, vload, vlen, newRow, vfill, vslice, entOf, vappend, srcOf, vcopy, vlookup, vupdate, mapOk, keyOf, intsOf, clsAt]; try rfl)) (WkV.pure (by simp only [V.into, intoL, cB_into, vB_into, cI_into, cR_into, cD_into, cS_into, vS_into, vI_into, vR_into, vD_into, cu_into, Bool.true_and, Bool.and_true])) ⟨by rw [rCoals, e], rfl⟩
/-- What is left of a number, and the last digits of it. -/
def dvN (s n : Int) : Nat → Int
  | 0 => n
  | j + 1 => (dvN s n j).tdiv s
def lowD (s n : Int) : Nat → List Int
  | 0 => []
  | j + 1 => (dvN s n j).tmod s :: lowD s n j
theorem lowD_len (s n : Int) : ∀ j, (lowD s n j).length = j
  | 0 => rfl
  | j + 1 => by rw [lowD, List.length_cons, lowD_len s n j]
theorem dvN_ge {s n : Int} (hn : 0 ≤ n) (hs : 1 ≤ s) : ∀ j, 0 ≤ dvN s n j ∧ dvN s n j ≤ n
  | 0 => ⟨hn, Int.le_refl _⟩
  | j + 1 => by
    have := dvN_ge hn hs j
    have h1 := Int.tdiv_nonneg this.1 (show 0 ≤ s by omega)
    have h2 := Int.tdiv_le_self s this.1
    simp only [dvN]; omega
theorem lowD_ok {s n : Int} (hn : 0 ≤ n) (hs : 1 ≤ s) : ∀ j, ∀ x ∈ lowD s n j, 0 ≤ x ∧ x ≤ s - 1
  | 0, x, h => by simp [lowD] at h
  | j + 1, x, h => by
    rw [lowD, List.mem_cons] at h
    rcases h with rfl | h
    · exact tmod_le (dvN_ge hn hs j).1 hs
    · exact lowD_ok hn hs j x h
def rCoal (c : Cu) (n : Int) : List Int := lowD (c.shovels + 1) n (c.last + 1).toNat
theorem rCoal_len (c : Cu) (n : Int) : (rCoal c n).length = (c.last + 1).toNat := lowD_len _ _ _
theorem rCoal_ok {c : Cu} (k0 : CuOk c) {n : Int} (hn : 0 ≤ n) : ((rCoal c n).length : Int) = c.last + 1 ∧ ∀ x ∈ rCoal c n, 0 ≤ x ∧ x ≤ c.shovels :=
  ⟨by rw [rCoal_len]; have := k0.last; omega, fun x hx => by have := lowD_ok hn (s := c.shovels + 1) (by have := k0.shovels; omega) _ x hx; omega⟩
set_option maxHeartbeats 1000000 in
theorem c_rCoal0 (c : Cu) (k0 : CuOk c) (n : Int) (hn : 0 ≤ n ∧ n ≤ 100000) : Ev Try.prog (.fn 50 [] []) [.agg c.cs, vi n] [] fun v h' => v = .own 10 0 0 1 (c.last + 1).toNat ∧ h' = [(10, ⟨0, .row (cI (rCoal c n))⟩)] := by
  have hl := k0.last
  have hs := k0.shovels
  have hge : 0 ≤ c.last + 1 := by omega
  have hle : c.last + 1 ≤ 1000000 := by omega
  refine Ev.fn Try.func50 rfl rfl (Fn.body tabOk Try.func50 rfl (Nat.le_of_ble_eq_true rfl) (Ks.ok (fz := (fzn [])) (cl := (cln [(5, .d tg0 [cP, cP, cP, cP, cP, cP, cP, cP, cP, cP, cP, cP, cP, cW, cP])])) tabOk mixed ?_))
  generalize hQ : FnPost tt Try.f50 _ _ = Q
  simp only [Try.f50, List.nil_append, List.append_nil, List.cons_append, argsEnv, Nat.reduceAdd]
  have hc4 : (List.drop 4 c.cs).head? = some (vi c.shovels) := rfl
  have hz : zeros [V.int IntKind.i64 0] (c.last + 1).toNat = cI (List.replicate (c.last + 1).toNat 0) := zeros_vi _
  simp only [gos, if_true, if_false, ne_eq, eq_self, Nat.reduceLT, Nat.reduceEqDiff, Nat.reduceAdd, Nat.reduceMul, Nat.reduceLeDiff, Nat.reduceBEq, reduceCtorEq, reduceIte, Array.toList, ↓reduceIte, tt, vgo, vout, vgoD, voutD, vclsOk, vids, mayWrite, V.ids, V.mids, vguard, callOf, vop, ev, cv, vbin, vint, isShift, isNilConst, vnil, isNilSlice, vload, vlen, newRow, vfill, vslice, entOf, vappend, srcOf, vcopy, vlookup, vupdate, mapOk, keyOf, intsOf, clsAt, i64_in (show -9223372036854775808 ≤ c.last + 1 by omega) (show c.last + 1 ≤ 9223372036854775807 by omega), hge, hle, hz]
  refine W.loop tabOk mixed (fun j : Nat => ([(1, vi (dvN (c.shovels + 1) n j)), (2, .rop c.cs), (5, .own 10 0 0 1 (c.last + 1).toNat), (6, vi (c.last - j))], [(10, ⟨0, .row (cI (List.replicate ((c.last + 1).toNat - j) 0 ++ lowD (c.shovels + 1) n j))⟩)])) (fun j => (c.last + 1).toNat - j) (fun j => j ≤ (c.last + 1).toNat) 0 (by omega) (Wk.heap (fun i => by simp [lowD]) (by simp [subE, Env.get, dvN])) ?_
  intro j hj
  by_cases hjl : (j : Int) ≤ c.last
  · have h0 : 0 ≤ c.last - j := by omega
    have h1 : c.last - j < ((c.last + 1).toNat : Int) := by omega
    have hd := dvN_ge hn.1 (s := c.shovels + 1) (by omega) j
    have hz : ¬ c.shovels + 1 = 0 := by omega
    have ht : (c.last - (j : Int)).toNat = (c.last + 1).toNat - (j + 1) := by omega
    have hlen : (c.last + 1).toNat - (j + 1) + 1 ≤ (cI (List.replicate ((c.last + 1).toNat - j) 0 ++ lowD (c.shovels + 1) n j)).length := by
      rw [cI_len, List.length_append, List.length_replicate]; omega
    have hset : List.take ((c.last + 1).toNat - (j + 1)) (cI (List.replicate ((c.last + 1).toNat - j) 0 ++ lowD (c.shovels + 1) n j)) ++ [V.int IntKind.i64 ((dvN (c.shovels + 1) n j).tmod (c.shovels + 1))] ++ List.drop ((c.last + 1).toNat - (j + 1) + 1) (cI (List.replicate ((c.last + 1).toNat - j) 0 ++ lowD (c.shovels + 1) n j)) = cI (List.replicate ((c.last + 1).toNat - (j + 1)) 0 ++ lowD (c.shovels + 1) n (j + 1)) := by
      have e : List.replicate ((c.last + 1).toNat - j) (0 : Int) = List.replicate ((c.last + 1).toNat - (j + 1)) 0 ++ [0] := by
        rw [show (c.last + 1).toNat - j = (c.last + 1).toNat - (j + 1) + 1 by omega, List.replicate_succ']
      rw [cI_set _ (by rw [List.length_append, List.length_replicate]; omega), e, lowD]
      congr 1
      rw [List.append_assoc, List.set_append, if_neg (by simp)]
      simp
    have hdv : 0 ≤ (dvN (c.shovels + 1) n j).tdiv (c.shovels + 1) := Int.tdiv_nonneg hd.1 (by omega)
    have hdl := Int.tdiv_le_self (c.shovels + 1) hd.1
    simp only [gos, if_true, if_false, ne_eq, eq_self, Nat.reduceLT, Nat.reduceEqDiff, Nat.reduceAdd, Nat.reduceMul, Nat.reduceLeDiff, Nat.reduceBEq, reduceCtorEq, reduceIte, Array.toList, ↓reduceIte, tt, vgo, vout, vgoD, voutD, vclsOk, vids, mayWrite, V.ids, V.mids, vguard, callOf, vop, ev, cv, vbin, vint, isShift, isNilConst, vnil, isNilSlice, vload, vlen, newRow, vfill, vslice, entOf, vappend, srcOf, vcopy, vlookup, vupdate, mapOk, keyOf, intsOf, clsAt, h0]
    refine Wr.draw (by kernel_rfl) ?_
    simp only [gos, if_true, if_false, ne_eq, eq_self, Nat.reduceLT, Nat.reduceEqDiff, Nat.reduceAdd, Nat.reduceMul, Nat.reduceLeDiff, Nat.reduceBEq, reduceCtorEq, reduceIte, Array.toList, ↓reduceIte, tt, vgo, vout, vgoD, voutD, vclsOk, vids, mayWrite, V.ids, V.mids, vguard, callOf, vop, ev, cv, vbin, vint, isShift, isNilConst, vnil, isNilSlice, vload, vlen, newRow, vfill, vslice, entOf, vappend, srcOf, vcopy, vlookup, vupdate, mapOk, keyOf, intsOf, clsAt, hc4, hz, h0, h1, ht, hlen, Nat.zero_add, Nat.mul_one, i64_in (show -9223372036854775808 ≤ c.shovels + 1 by omega) (show c.shovels + 1 ≤ 9223372036854775807 by omega), i64_in (show -9223372036854775808 ≤ (dvN (c.shovels + 1) n j).tdiv (c.shovels + 1) by omega) (show (dvN (c.shovels + 1) n j).tdiv (c.shovels + 1) ≤ 9223372036854775807 by omega)]
    rw [hset]
    exact Nx.mk (j + 1) (show (c.last + 1).toNat - (j + 1) < (c.last + 1).toNat - j by omega) (by omega) (Wk.env (by simp [subE, Env.get, dvN, i64_in (show -9223372036854775808 ≤ c.last - j - 1 by omega) (show c.last - j - 1 ≤ 9223372036854775807 by omega)]; omega))
  · have h0 : ¬ 0 ≤ c.last - j := by omega
    have e : (c.last + 1).toNat = j := by omega
    simp only [gos, if_true, if_false, ne_eq, eq_self, Nat.reduceLT, Nat.reduceEqDiff, Nat.reduceAdd, Nat.reduceMul, Nat.reduceLeDiff, Nat.reduceBEq, reduceCtorEq, reduceIte, Array.toList, ↓reduceIte, tt, vgo, vout, vgoD, voutD, vclsOk, vids, mayWrite, V.ids, V.mids, vguard, callOf, vop, ev, cv, vbin, vint, isShift, isNilConst, vnil, isNilSlice, vload, vlen, newRow, vfill, vslice, entOf, vappend, srcOf, vcopy, vlookup, vupdate, mapOk, keyOf, intsOf, clsAt, h0]
    subst hQ
    refine FnPost.plain trivial (v := .own 10 0 0 1 (c.last + 1).toNat) (fun h2 e => by rfl) WkV.refl ⟨rfl, ?_⟩
    rw [rCoal, e]; simp
theorem n_rCoal (c : Cu) (k0 : CuOk c) (n : Int) (hn : 0 ≤ n ∧ n ≤ 100000) : NewB Try.prog (.fn 50 [] []) [.agg c.cs, vi n] (.own 10 0 0 1 (c.last + 1).toNat) 10 ⟨0, .row (cI (rCoal c n))⟩ := NewB.of (c_rCoal0 c k0 n hn) rfl (by simp only [V.into, intoL, cB_into, vB_into, cI_into, cR_into, cD_into, cS_into, vS_into, vI_into, vR_into, vD_into, cu_into, Bool.true_and, Bool.and_true])
theorem c_rCoal (c : Cu) (k0 : CuOk c) (n : Int) (hn : 0 ≤ n ∧ n ≤ 100000) : Pu Try.prog (.fn 50 [] []) [.agg c.cs, vi n] (vI (rCoal c n)) :=
  (c_rCoal0 c k0 n hn).weakV fun v h' ⟨e1, e2⟩ => by
    subst e1; subst e2
    have hl := rCoal_len c n
    have ht : (cI (rCoal c n)).take (c.last + 1).toNat = cI (rCoal c n) := List.take_of_length_le (by rw [cI_len]; omega)
    refine ⟨vI (rCoal c n), [], WkV.frz 10 (v' := vI (rCoal c n)) (h' := []) (ver := 0) (cs := cI (rCoal c n)) rfl rfl (cI_into _ _) rfl ?_ ?_ WkV.refl, rfl, rfl⟩
    · simp [V.frz, vI, ht, hl]
    · simp [frzH]
/-! ### words -/
theorem cW16_len (l : List Int) : (cW16 l).length = l.length := by simp [cW16]
theorem cW16_at {l : List Int} {i : Nat} (h : (i : Int) < l.length) : List.drop i (cW16 l) = .int .u16 (gi l i) :: cW16 (l.drop (i + 1)) := by
  have hi : i < l.length := by omega
  rw [cW16, ← List.map_drop, List.drop_eq_getElem_cons hi, List.map_cons, gi, Int.toNat_natCast, List.getD_eq_getElem?_getD, List.getElem?_eq_getElem hi]; rfl
def sWord (l : List Int) (a : Nat) : Int := if l = [] then 0 else gi l ((a % l.length : Nat) : Int)
theorem sWord_le {l : List Int} (h : ∀ x ∈ l, 0 ≤ x ∧ x ≤ 65535) (a : Nat) : 0 ≤ sWord l a ∧ sWord l a ≤ 65535 := by
  rw [sWord]; split
  · omega
  · rename_i hn
    exact h _ (gi_mem (Nat.mod_lt _ (List.length_pos_iff.2 hn)))
theorem c_word (l : List Int) (h : ∀ x ∈ l, 0 ≤ x ∧ x ≤ 65535) (a : Nat) : Pu Try.prog (.fn 52 [] []) [vW l, vi a] (vi (sWord l a)) := by
  refine Ev.fn Try.func52 rfl rfl (Fn.body tabOk Try.func52 rfl (Nat.le_of_ble_eq_true rfl) (Ks.ok (fz := (fzn [])) (cl := (cln [])) tabOk mixed ?_))
  generalize hQ : FnPost tt Try.f52 _ _ = Q
  simp only [Try.f52, List.nil_append, List.append_nil, List.cons_append, argsEnv, Nat.reduceAdd]
  by_cases hn : l = []
  · have z0 : decide (((l.length : Nat) : Int) = 0) = true := by simp [hn]
    simp only [gos, if_true, if_false, ne_eq, eq_self, Nat.reduceLT, Nat.reduceEqDiff, Nat.reduceAdd, Nat.reduceMul, Nat.reduceLeDiff, Nat.reduceBEq, reduceCtorEq, reduceIte, Array.toList, ↓reduceIte, tt, vgo, vout, vgoD, voutD, vclsOk, vids, mayWrite, V.ids, V.mids, vguard, callOf, vop, ev, cv, vbin, vint, isShift, isNilConst, vnil, isNilSlice, vload, vlen, newRow, vfill, vslice, entOf, vappend, srcOf, vcopy, vlookup, vupdate, mapOk, keyOf, intsOf, clsAt, vW, z0]
    subst hQ
    exact FnPost.plain trivial (fun h2 e => by first | rfl | (simp only [Try.f52, vres, vresL, vres1, e _, gos, if_true, if_false, ne_eq, eq_self, Nat.reduceLT, Nat.reduceEqDiff, Nat.reduceAdd, Nat.reduceMul, Nat.reduceLeDiff, Nat.reduceBEq, reduceCtorEq, reduceIte, Array.toList, ↓reduceIte, tt, vgo, vout, vgoD, voutD, vclsOk, vids, mayWrite, V.ids, V.mids, vguard, callOf, vop, ev, cv, vbin, vint, isShift, isNilConst, vnil, isNilSlice, vload, vlen, newRow, vfill, vslice, entOf, vappend, srcOf, vcopy, vlookup, vupdate, mapOk, keyOf, intsOf, clsAt]; try rfl)) (WkV.pure (by simp only [V.into, intoL, cB_into, vB_into, cI_into, cR_into, cD_into, cS_into, vS_into, vI_into, vR_into, vD_into, cu_into, Bool.true_and, Bool.and_true])) ⟨by simp [sWord, hn], rfl⟩
  have hp := List.length_pos_iff.2 hn
  have z0 : decide (((l.length : Nat) : Int) = 0) = false := by simp [hn]
  have z1 : ¬ ((l.length : Nat) : Int) = 0 := by omega
  have hm : (a : Int).tmod (l.length : Int) = ((a % l.length : Nat) : Int) := by rw [Int.tmod_eq_emod_of_nonneg (by omega)]; rfl
  have hlt : ((a % l.length : Nat) : Int) < l.length := by have := Nat.mod_lt a hp; omega
  have hw := h _ (gi_mem (l := l) (i := a % l.length) (Nat.mod_lt _ hp))
  have e1 := cW16_at hlt
  have e2 : (((a % l.length : Nat) : Int)).toNat = a % l.length := Int.toNat_natCast _
  have e3 : 0 ≤ ((a % l.length : Nat) : Int) := Int.natCast_nonneg _
  simp only [gos, if_true, if_false, ne_eq, eq_self, Nat.reduceLT, Nat.reduceEqDiff, Nat.reduceAdd, Nat.reduceMul, Nat.reduceLeDiff, Nat.reduceBEq, reduceCtorEq, reduceIte, Array.toList, ↓reduceIte, tt, vgo, vout, vgoD, voutD, vclsOk, vids, mayWrite, V.ids, V.mids, vguard, callOf, vop, ev, cv, vbin, vint, isShift, isNilConst, vnil, isNilSlice, vload, vlen, newRow, vfill, vslice, entOf, vappend, srcOf, vcopy, vlookup, vupdate, mapOk, keyOf, intsOf, clsAt, vW, z0, z1, hm, e2, e3, hlt, Nat.mul_one, e1, i64_in (show -9223372036854775808 ≤ gi l ((a % l.length : Nat) : Int) by omega) (show gi l ((a % l.length : Nat) : Int) ≤ 9223372036854775807 by omega)]
  subst hQ
  exact FnPost.plain trivial (fun h2 e => by first | rfl | (simp only [Try.f52, vres, vresL, vres1, e _, gos, if_true, if_false, ne_eq, eq_self, Nat.reduceLT, Nat.reduceEqDiff, Nat.reduceAdd, Nat.reduceMul, Nat.reduceLeDiff, Nat.reduceBEq, reduceCtorEq, reduceIte, Array.toList, ↓reduceIte, tt, vgo, vout, vgoD, voutD, vclsOk, vids, mayWrite, V.ids, V.mids, vguard, callOf, vop, ev, cv, vbin, vint, isShift, isNilConst, vnil, isNilSlice, vload, vlen, newRow, vfill, vslice, entOf, vappend, srcOf, vcopy, vlookup, vupdate, mapOk, keyOf, intsOf, clsAt]; try rfl)) (WkV.pure (by simp only [V.into, intoL, cB_into, vB_into, cI_into, cR_into, cD_into, cS_into, vS_into, vI_into, vR_into, vD_into, cu_into, Bool.true_and, Bool.and_true])) ⟨by simp only [sWord, if_neg hn], rfl⟩
end Go.Vm
set_option linter.unusedVariables false
set_option linter.unusedSimpArgs false
set_option maxRecDepth 100000
namespace Go.Vm
/-! ### lists that are changed in some places -/
def updL (l : List Int) (p : Nat → Bool) (f : Nat → Int) : Nat → List Int
  | 0 => l
  | i + 1 => if p i then (updL l p f i).set i (f i) else updL l p f i
theorem updL_len (l : List Int) (p : Nat → Bool) (f : Nat → Int) : ∀ i, (updL l p f i).length = l.length
  | 0 => rfl
  | i + 1 => by rw [updL]; split <;> simp [updL_len l p f i]
theorem updL_gi (l : List Int) (p : Nat → Bool) (f : Nat → Int) : ∀ i j : Nat, i ≤ l.length → gi (updL l p f i) j = if j < i ∧ p j = true then f j else gi l j
  | 0, j, _ => by rw [if_neg (by omega)]; rfl
  | i + 1, j, h => by
    have ih := updL_gi l p f i j (by omega)
    rw [updL]
    by_cases hp : p i = true
    · rw [if_pos hp]
      by_cases e : j = i
      · subst e; rw [gi_set_self _ (by rw [updL_len]; omega), if_pos ⟨by omega, hp⟩]
      · rw [gi_set_ne _ (by omega), ih]
        by_cases c : j < i ∧ p j = true
        · rw [if_pos c, if_pos ⟨by omega, c.2⟩]
        · rw [if_neg c, if_neg (fun d => c ⟨by omega, d.2⟩)]
    · rw [if_neg hp, ih]
      by_cases c : j < i ∧ p j = true
      · rw [if_pos c, if_pos ⟨by omega, c.2⟩]
      · rw [if_neg c, if_neg (fun d => c ⟨by
          have := d.1
          rcases Nat.lt_or_ge j i with h1 | h1
          · exact h1
          · have : j = i := by omega
            subst this; exact absurd d.2 hp, d.2⟩)]
theorem updL_mem {l : List Int} {p : Nat → Bool} {f : Nat → Int} {P : Int → Prop} (h1 : ∀ x ∈ l, P x) (h2 : ∀ i, p i = true → P (f i)) : ∀ i, ∀ x ∈ updL l p f i, P x
  | 0 => h1
  | i + 1 => fun x hx => by
    rw [updL] at hx
    split at hx
    · rename_i hp
      rcases List.mem_or_eq_of_mem_set hx with h | rfl
      · exact updL_mem h1 h2 i x h
      · exact h2 i hp
    · exact updL_mem h1 h2 i x hx
/-- What is in an hour follows from the hours before it. -/
theorem play_same {c : Cu} {s : Sc} {coal coal' want want' : List Int} : ∀ n : Nat, (∀ j : Nat, j < n → gi coal j = gi coal' j) → (∀ j : Nat, j < n → gi want j = gi want' j) → (sPlay c s coal want n).1 = (sPlay c s coal' want' n).1
  | 0, _, _ => rfl
  | n + 1, h1, h2 => by
    have ih := play_same (c := c) (s := s) n (fun j hj => h1 j (by omega)) (fun j hj => h2 j (by omega))
    simp only [sPlay, ih, h1 n (by omega), h2 n (by omega)]
theorem heat_same {c : Cu} {s : Sc} {coal coal' want want' : List Int} (n : Nat) (h1 : ∀ j : Nat, j ≤ n → gi coal j = gi coal' j) (h2 : ∀ j : Nat, j < n → gi want j = gi want' j) : sHeat c s coal want n = sHeat c s coal' want' n := by
  simp only [sHeat, play_same (c := c) (s := s) n (fun j hj => h1 j (by omega)) h2, h1 n (by omega)]
theorem hot_take {c : Cu} {s : Sc} {coal coal' want want' : List Int} {k : Nat} (hk : (k : Int) ≤ c.last) (h1 : ∀ j : Nat, j ≤ k → gi coal j = gi coal' j) (h2 : ∀ j : Nat, j < k → gi want j = gi want' j) :
    (sPast c coal want s).hot.take (k + 1) = (sPast c coal' want' s).hot.take (k + 1) := by
  simp only [sPast, (sPlay_hot c s coal want _).1, (sPlay_hot c s coal' want' _).1, ← List.map_take]
  have e : List.take (k + 1) (List.range (c.last + 1).toNat) = List.range (k + 1) := by rw [List.take_range]; congr 1; omega
  rw [e]
  refine List.map_congr_left fun i hi => ?_
  rw [List.mem_range] at hi
  rw [heat_same i (fun j hj => h1 j (by omega)) (fun j hj => h2 j (by omega))]
theorem past_lens {c : Cu} {coal want : List Int} {s : Sc} (k : PlayOk c s coal want) : ((sPast c coal want s).hot.length : Int) = c.last + 1 ∧ ((sPast c coal want s).left.length : Int) = c.last + 1 := by
  have hl := k.last
  obtain ⟨_, _, h1, h2, _⟩ := sPlay_inv k (c.last + 1).toNat (by omega)
  simp only [sPast]
  omega
theorem cW16_into (p : Nat → Bool) : ∀ l : List Int, intoL p (cW16 l) = true
  | [] => rfl
  | x :: l => by simp only [cW16, List.map_cons, intoL, V.into, Bool.true_and]; exact cW16_into p l
theorem vW_into (p : Nat → Bool) (l : List Int) : (vW l).into p = true := by simp only [vW, V.into]; exact cW16_into p l
end Go.Vm
set_option linter.unusedVariables false
set_option linter.unusedSimpArgs false
set_option maxRecDepth 100000
namespace Go.Vm
open Go.Proofs
/-! ### sets of readings, by bits -/
def bitsTo (b p : Nat) : List Int := ((List.range p).filter fun i => b.testBit i).map fun (i : Nat) => (i : Int)
def sBits (b : Nat) : List Int := bitsTo b 5
theorem bitsTo_succ (b p : Nat) : bitsTo b (p + 1) = if b.testBit p then bitsTo b p ++ [(p : Int)] else bitsTo b p := by
  simp only [bitsTo, List.range_succ, List.filter_append, List.filter_cons, List.filter_nil]
  split <;> simp
theorem bitsTo_len (b p : Nat) : (bitsTo b p).length ≤ p := by
  rw [bitsTo, List.length_map]
  exact Nat.le_trans (List.length_filter_le _ _) (by simp)
theorem shr5 {b p : Nat} (hb : b < 32) (hp : p < 6) : (b : Int).fdiv (2 ^ min ((p : Int)).toNat IntKind.i64.bits) = ((b >>> p : Nat) : Int) := by
  have : ∀ b : Fin 32, ∀ p : Fin 6, (((b : Nat) : Int)).fdiv (2 ^ min ((((p : Nat) : Int))).toNat IntKind.i64.bits) = (((b : Nat) >>> (p : Nat) : Nat) : Int) := by decide +kernel
  exact this ⟨b, hb⟩ ⟨p, hp⟩
theorem bit5 {b p : Nat} (hb : b < 32) (hp : p < 6) : decide (((b >>> p : Nat) : Int).tmod 2 = 1) = b.testBit p := by
  have : ∀ b : Fin 32, ∀ p : Fin 6, decide ((((b : Nat) >>> (p : Nat) : Nat) : Int).tmod 2 = 1) = (b : Nat).testBit p := by decide +kernel
  exact this ⟨b, hb⟩ ⟨p, hp⟩
theorem end5 {b p : Nat} (hb : b < 32) (hp : p < 6) (h : b >>> p = 0) : bitsTo b p = sBits b := by
  have : ∀ b : Fin 32, ∀ p : Fin 6, (b : Nat) >>> (p : Nat) = 0 → bitsTo b p = sBits b := by decide +kernel
  exact this ⟨b, hb⟩ ⟨p, hp⟩ h
theorem on5 {b p : Nat} (hb : b < 32) (h : 0 < b >>> p) : p < 5 := by
  rcases Nat.lt_or_ge p 5 with h1 | h1
  · exact h1
  · rw [Nat.shiftRight_eq_div_pow, Nat.div_eq_of_lt (Nat.lt_of_lt_of_le hb (Nat.pow_le_pow_right (n := 2) (by omega) h1))] at h; omega
theorem c_rBits (b : Nat) (hb : b < 32) : Pu Try.prog (.fn 57 [] []) [vi b] (vI (sBits b)) := by
  refine Ev.fn Try.func57 rfl rfl (Fn.body tabOk Try.func57 rfl (Nat.le_of_ble_eq_true rfl) (Ks.ok (fz := (fzn [])) (cl := (cln [])) tabOk mixed ?_))
  generalize hQ : FnPost tt Try.f57 _ _ = Q
  simp only [Try.f57, List.nil_append, List.append_nil, List.cons_append, argsEnv, Nat.reduceAdd]
  simp only [gos, if_true, if_false, ne_eq, eq_self, Nat.reduceLT, Nat.reduceEqDiff, Nat.reduceAdd, Nat.reduceMul, Nat.reduceLeDiff, Nat.reduceBEq, reduceCtorEq, reduceIte, Array.toList, ↓reduceIte, tt, vgo, vout, vgoD, voutD, vclsOk, vids, mayWrite, V.ids, V.mids, vguard, callOf, vop, ev, cv, vbin, vint, isShift, isNilConst, vnil, isNilSlice, vload, vlen, newRow, vfill, vslice, entOf, vappend, srcOf, vcopy, vlookup, vupdate, mapOk, keyOf, intsOf, clsAt]
  refine W.loop tabOk mixed (fun p : Nat => ([(0, vi b), (3, .own 21 (bitsTo b p).length 0 1 (bitsTo b p).length), (4, vi p)], [(21, ⟨(bitsTo b p).length, .row (cI (bitsTo b p))⟩)])) (fun p => 5 - p) (fun p => p ≤ 5) 0 (by omega) (Wk.trans (Wk.sl0E 3 21 1 rfl rfl) (Wk.env (by simp [subE, Env.get, bitsTo]))) ?_
  intro p hp
  have hw := u64_in (n := (p : Int)) (by omega) (by omega)
  have hn : ¬ (p : Int) < 0 := by omega
  have hs := shr5 hb (p := p) (by omega)
  have hbt := bit5 hb (p := p) (by omega)
  have hbl := bitsTo_len b p
  have z2 : ¬ (2 : Int) = 0 := by omega
  by_cases hil : 0 < ((b >>> p : Nat) : Int)
  · have hp5 := on5 hb (p := p) (Int.natCast_pos.1 hil)
    simp only [gos, if_true, if_false, ne_eq, eq_self, Nat.reduceLT, Nat.reduceEqDiff, Nat.reduceAdd, Nat.reduceMul, Nat.reduceLeDiff, Nat.reduceBEq, reduceCtorEq, reduceIte, Array.toList, ↓reduceIte, tt, vgo, vout, vgoD, voutD, vclsOk, vids, mayWrite, V.ids, V.mids, vguard, callOf, vop, ev, cv, vbin, vint, isShift, isNilConst, vnil, isNilSlice, vload, vlen, newRow, vfill, vslice, entOf, vappend, srcOf, vcopy, vlookup, vupdate, mapOk, keyOf, intsOf, clsAt, hw, hn, hs, hil, z2, hbt]
    have hl : (cI (bitsTo b p)).length = (bitsTo b p).length * 1 := by rw [cI_len]; omega
    have hl9 : (bitsTo b p).length ≤ 999999 := by omega
    have hsx := bitsTo_succ b p
    cases ht : b.testBit p with
    | true =>
      rw [ht, if_pos rfl] at hsx
      simp only [gos, if_true, if_false, ne_eq, eq_self, Nat.reduceLT, Nat.reduceEqDiff, Nat.reduceAdd, Nat.reduceMul, Nat.reduceLeDiff, Nat.reduceBEq, reduceCtorEq, reduceIte, Array.toList, ↓reduceIte, tt, vgo, vout, vgoD, voutD, vclsOk, vids, mayWrite, V.ids, V.mids, vguard, callOf, vop, ev, cv, vbin, vint, isShift, isNilConst, vnil, isNilSlice, vload, vlen, newRow, vfill, vslice, entOf, vappend, srcOf, vcopy, vlookup, vupdate, mapOk, keyOf, intsOf, clsAt, hl, hl9]
      refine Nx.mk (p + 1) (show 5 - (p + 1) < 5 - p by omega) (by omega) (Wk.heap (fun j => ?_) ?_)
      · rw [hsx, cI_snoc, List.length_append]; rfl
      · simp [subE, Env.get, hsx, i64_succ (show (p : Int) < 9223372036854775807 by omega)]
    | false =>
      rw [ht, if_neg (by simp)] at hsx
      simp only [gos, if_true, if_false, ne_eq, eq_self, Nat.reduceLT, Nat.reduceEqDiff, Nat.reduceAdd, Nat.reduceMul, Nat.reduceLeDiff, Nat.reduceBEq, reduceCtorEq, reduceIte, Array.toList, ↓reduceIte, tt, vgo, vout, vgoD, voutD, vclsOk, vids, mayWrite, V.ids, V.mids, vguard, callOf, vop, ev, cv, vbin, vint, isShift, isNilConst, vnil, isNilSlice, vload, vlen, newRow, vfill, vslice, entOf, vappend, srcOf, vcopy, vlookup, vupdate, mapOk, keyOf, intsOf, clsAt]
      exact Nx.mk (p + 1) (show 5 - (p + 1) < 5 - p by omega) (by omega) (by rw [hsx]; exact Wk.env (by simp [subE, Env.get, i64_succ (show (p : Int) < 9223372036854775807 by omega)]))
  · simp only [gos, if_true, if_false, ne_eq, eq_self, Nat.reduceLT, Nat.reduceEqDiff, Nat.reduceAdd, Nat.reduceMul, Nat.reduceLeDiff, Nat.reduceBEq, reduceCtorEq, reduceIte, Array.toList, ↓reduceIte, tt, vgo, vout, vgoD, voutD, vclsOk, vids, mayWrite, V.ids, V.mids, vguard, callOf, vop, ev, cv, vbin, vint, isShift, isNilConst, vnil, isNilSlice, vload, vlen, newRow, vfill, vslice, entOf, vappend, srcOf, vcopy, vlookup, vupdate, mapOk, keyOf, intsOf, clsAt, hw, hn, hs, hil]
    subst hQ
    have ht : (cI (bitsTo b p)).take (bitsTo b p).length = cI (bitsTo b p) := List.take_of_length_le (by rw [cI_len]; omega)
    have hz : b >>> p = 0 := (Nat.eq_zero_or_pos _).resolve_right fun h => hil (Int.natCast_pos.2 h)
    rw [← end5 hb (p := p) (by omega) hz]
    refine FnPost.plain trivial (v := .own 21 (bitsTo b p).length 0 1 (bitsTo b p).length) (fun h2 e => by rfl) (WkV.frz 21 (v' := vI (bitsTo b p)) (h' := []) (ver := (bitsTo b p).length) (cs := cI (bitsTo b p)) rfl rfl (cI_into _ _) rfl ?_ ?_ WkV.refl) ⟨rfl, rfl⟩
    · simp [V.frz, vI, ht]
    · simp [frzH]
/-! ### before, shorter -/
def lBefore : List Int → List Int → Bool
  | [], b => decide (0 < b.length)
  | _ :: _, [] => false
  | x :: a, y :: b => if x = y then lBefore a b else decide (x < y)
theorem drop_gi {l : List Int} {i : Nat} (h : (i : Int) < l.length) : l.drop i = gi l i :: l.drop (i + 1) := by
  rw [List.drop_eq_getElem_cons (by omega), gi, Int.toNat_natCast, List.getD_eq_getElem?_getD, List.getElem?_eq_getElem (by omega)]; rfl
set_option maxHeartbeats 1000000 in
theorem c_rBefore (a b : List Int) (ha : (a.length : Int) ≤ 1000000) : Pu Try.prog (.fn 74 [] []) [vI a, vI b] (.bool (lBefore a b)) := by
  refine Ev.fn Try.func74 rfl rfl (Fn.body tabOk Try.func74 rfl (Nat.le_of_ble_eq_true rfl) (Ks.ok (fz := (fzn [])) (cl := (cln [(4, .d tg0 [cP, cP, cP, cP, cP, cP, cP, cP, cP]), (5, .d tg0 [cP, cP, cP, cP, cP, cP, cP, cP, cP, cP])])) tabOk mixed ?_))
  generalize hQ : FnPost tt Try.f74 _ _ = Q
  simp only [Try.f74, List.nil_append, List.append_nil, List.cons_append, argsEnv, Nat.reduceAdd]
  simp only [gos, if_true, if_false, ne_eq, eq_self, Nat.reduceLT, Nat.reduceEqDiff, Nat.reduceAdd, Nat.reduceMul, Nat.reduceLeDiff, Nat.reduceBEq, reduceCtorEq, reduceIte, Array.toList, ↓reduceIte, tt, vgo, vout, vgoD, voutD, vclsOk, vids, mayWrite, V.ids, V.mids, vguard, callOf, vop, ev, cv, vbin, vint, isShift, isNilConst, vnil, isNilSlice, vload, vlen, newRow, vfill, vslice, entOf, vappend, srcOf, vcopy, vlookup, vupdate, mapOk, keyOf, intsOf, clsAt]
  refine W.loop tabOk mixed (fun i : Nat => ([(0, vI a), (1, vI b), (5, vi i)], [])) (fun i => a.length - i) (fun i => i ≤ a.length ∧ i ≤ b.length ∧ lBefore a b = lBefore (a.drop i) (b.drop i)) 0 ⟨by omega, by omega, rfl⟩ (Wk.env (by simp [subE, Env.get])) ?_
  rintro i ⟨hi1, hi2, he⟩
  by_cases h1 : (i : Int) < a.length
  · by_cases h2 : (i : Int) < b.length
    · rw [drop_gi h1, drop_gi h2, lBefore] at he
      simp only [gos, if_true, if_false, ne_eq, eq_self, Nat.reduceLT, Nat.reduceEqDiff, Nat.reduceAdd, Nat.reduceMul, Nat.reduceLeDiff, Nat.reduceBEq, reduceCtorEq, reduceIte, Array.toList, ↓reduceIte, tt, vgo, vout, vgoD, voutD, vclsOk, vids, mayWrite, V.ids, V.mids, vguard, callOf, vop, ev, cv, vbin, vint, isShift, isNilConst, vnil, isNilSlice, vload, vlen, newRow, vfill, vslice, entOf, vappend, srcOf, vcopy, vlookup, vupdate, mapOk, keyOf, intsOf, clsAt, vI, h1, h2]
      refine Wr.draw (by kernel_rfl) ?_
      simp only [gos, if_true, if_false, ne_eq, eq_self, Nat.reduceLT, Nat.reduceEqDiff, Nat.reduceAdd, Nat.reduceMul, Nat.reduceLeDiff, Nat.reduceBEq, reduceCtorEq, reduceIte, Array.toList, ↓reduceIte, tt, vgo, vout, vgoD, voutD, vclsOk, vids, mayWrite, V.ids, V.mids, vguard, callOf, vop, ev, cv, vbin, vint, isShift, isNilConst, vnil, isNilSlice, vload, vlen, newRow, vfill, vslice, entOf, vappend, srcOf, vcopy, vlookup, vupdate, mapOk, keyOf, intsOf, clsAt, vI, h1, h2, cI_at (Int.natCast_nonneg i) h1, cI_at (Int.natCast_nonneg i) h2]
      by_cases hx : gi a i = gi b i
      · rw [if_pos hx] at he
        have hb : (gi a i != gi b i) = false := by simp [hx]
        simp only [gos, if_true, if_false, ne_eq, eq_self, Nat.reduceLT, Nat.reduceEqDiff, Nat.reduceAdd, Nat.reduceMul, Nat.reduceLeDiff, Nat.reduceBEq, reduceCtorEq, reduceIte, Array.toList, ↓reduceIte, tt, vgo, vout, vgoD, voutD, vclsOk, vids, mayWrite, V.ids, V.mids, vguard, callOf, vop, ev, cv, vbin, vint, isShift, isNilConst, vnil, isNilSlice, vload, vlen, newRow, vfill, vslice, entOf, vappend, srcOf, vcopy, vlookup, vupdate, mapOk, keyOf, intsOf, clsAt, hb]
        exact Nx.mk (i + 1) (show a.length - (i + 1) < a.length - i by omega) ⟨by omega, by omega, he⟩ (Wk.env (by simp [subE, Env.get, vI, i64_succ (show (i : Int) < 9223372036854775807 by omega)]))
      · rw [if_neg hx] at he
        have hb : (gi a i != gi b i) = true := by simp [hx]
        simp only [gos, if_true, if_false, ne_eq, eq_self, Nat.reduceLT, Nat.reduceEqDiff, Nat.reduceAdd, Nat.reduceMul, Nat.reduceLeDiff, Nat.reduceBEq, reduceCtorEq, reduceIte, Array.toList, ↓reduceIte, tt, vgo, vout, vgoD, voutD, vclsOk, vids, mayWrite, V.ids, V.mids, vguard, callOf, vop, ev, cv, vbin, vint, isShift, isNilConst, vnil, isNilSlice, vload, vlen, newRow, vfill, vslice, entOf, vappend, srcOf, vcopy, vlookup, vupdate, mapOk, keyOf, intsOf, clsAt, hb]
        refine Wr.draw (by kernel_rfl) ?_
        simp only [gos, if_true, if_false, ne_eq, eq_self, Nat.reduceLT, Nat.reduceEqDiff, Nat.reduceAdd, Nat.reduceMul, Nat.reduceLeDiff, Nat.reduceBEq, reduceCtorEq, reduceIte, Array.toList, ↓reduceIte, tt, vgo, vout, vgoD, voutD, vclsOk, vids, mayWrite, V.ids, V.mids, vguard, callOf, vop, ev, cv, vbin, vint, isShift, isNilConst, vnil, isNilSlice, vload, vlen, newRow, vfill, vslice, entOf, vappend, srcOf, vcopy, vlookup, vupdate, mapOk, keyOf, intsOf, clsAt, vI, h1, h2, cI_at (Int.natCast_nonneg i) h1, cI_at (Int.natCast_nonneg i) h2]
        subst hQ
        exact FnPost.plain trivial (fun h2 e => by first | rfl | (simp only [Try.f74, vres, vresL, vres1, e _, gos, if_true, if_false, ne_eq, eq_self, Nat.reduceLT, Nat.reduceEqDiff, Nat.reduceAdd, Nat.reduceMul, Nat.reduceLeDiff, Nat.reduceBEq, reduceCtorEq, reduceIte, Array.toList, ↓reduceIte, tt, vgo, vout, vgoD, voutD, vclsOk, vids, mayWrite, V.ids, V.mids, vguard, callOf, vop, ev, cv, vbin, vint, isShift, isNilConst, vnil, isNilSlice, vload, vlen, newRow, vfill, vslice, entOf, vappend, srcOf, vcopy, vlookup, vupdate, mapOk, keyOf, intsOf, clsAt]; try rfl)) (WkV.pure (by simp only [V.into, intoL, cB_into, vB_into, cI_into, cR_into, cD_into, cS_into, vS_into, vI_into, vR_into, vD_into, cu_into, Bool.true_and, Bool.and_true])) ⟨by rw [he], rfl⟩
    · have e2 : b.drop i = [] := List.drop_eq_nil_of_le (by omega)
      rw [e2, drop_gi h1, lBefore] at he
      have hb : decide ((a.length : Int) < b.length) = false := by simp; omega
      simp only [gos, if_true, if_false, ne_eq, eq_self, Nat.reduceLT, Nat.reduceEqDiff, Nat.reduceAdd, Nat.reduceMul, Nat.reduceLeDiff, Nat.reduceBEq, reduceCtorEq, reduceIte, Array.toList, ↓reduceIte, tt, vgo, vout, vgoD, voutD, vclsOk, vids, mayWrite, V.ids, V.mids, vguard, callOf, vop, ev, cv, vbin, vint, isShift, isNilConst, vnil, isNilSlice, vload, vlen, newRow, vfill, vslice, entOf, vappend, srcOf, vcopy, vlookup, vupdate, mapOk, keyOf, intsOf, clsAt, vI, h1, h2, hb]
      subst hQ
      exact FnPost.plain trivial (fun h2 e => by first | rfl | (simp only [Try.f74, vres, vresL, vres1, e _, gos, if_true, if_false, ne_eq, eq_self, Nat.reduceLT, Nat.reduceEqDiff, Nat.reduceAdd, Nat.reduceMul, Nat.reduceLeDiff, Nat.reduceBEq, reduceCtorEq, reduceIte, Array.toList, ↓reduceIte, tt, vgo, vout, vgoD, voutD, vclsOk, vids, mayWrite, V.ids, V.mids, vguard, callOf, vop, ev, cv, vbin, vint, isShift, isNilConst, vnil, isNilSlice, vload, vlen, newRow, vfill, vslice, entOf, vappend, srcOf, vcopy, vlookup, vupdate, mapOk, keyOf, intsOf, clsAt]; try rfl)) (WkV.pure (by simp only [V.into, intoL, cB_into, vB_into, cI_into, cR_into, cD_into, cS_into, vS_into, vI_into, vR_into, vD_into, cu_into, Bool.true_and, Bool.and_true])) ⟨by rw [he], rfl⟩
  · have e1 : a.drop i = [] := List.drop_eq_nil_of_le (by omega)
    rw [e1, lBefore] at he
    have hb : decide ((a.length : Int) < b.length) = lBefore a b := by rw [he, List.length_drop]; congr 1; apply propext; omega
    simp only [gos, if_true, if_false, ne_eq, eq_self, Nat.reduceLT, Nat.reduceEqDiff, Nat.reduceAdd, Nat.reduceMul, Nat.reduceLeDiff, Nat.reduceBEq, reduceCtorEq, reduceIte, Array.toList, ↓reduceIte, tt, vgo, vout, vgoD, voutD, vclsOk, vids, mayWrite, V.ids, V.mids, vguard, callOf, vop, ev, cv, vbin, vint, isShift, isNilConst, vnil, isNilSlice, vload, vlen, newRow, vfill, vslice, entOf, vappend, srcOf, vcopy, vlookup, vupdate, mapOk, keyOf, intsOf, clsAt, vI, h1, hb]
    subst hQ
    exact FnPost.plain trivial (fun h2 e => by first | rfl | (simp only [Try.f74, vres, vresL, vres1, e _, gos, if_true, if_false, ne_eq, eq_self, Nat.reduceLT, Nat.reduceEqDiff, Nat.reduceAdd, Nat.reduceMul, Nat.reduceLeDiff, Nat.reduceBEq, reduceCtorEq, reduceIte, Array.toList, ↓reduceIte, tt, vgo, vout, vgoD, voutD, vclsOk, vids, mayWrite, V.ids, V.mids, vguard, callOf, vop, ev, cv, vbin, vint, isShift, isNilConst, vnil, isNilSlice, vload, vlen, newRow, vfill, vslice, entOf, vappend, srcOf, vcopy, vlookup, vupdate, mapOk, keyOf, intsOf, clsAt]; try rfl)) (WkV.pure (by simp only [V.into, intoL, cB_into, vB_into, cI_into, cR_into, cD_into, cS_into, vS_into, vI_into, vR_into, vD_into, cu_into, Bool.true_and, Bool.and_true])) ⟨rfl, rfl⟩
def lShorter (a b : List Int) : Bool := decide (a.length < b.length) || (decide (a.length = b.length) && lBefore a b)
theorem c_rShorter (a b : List Int) (ha : (a.length : Int) ≤ 1000000) : Pu Try.prog (.fn 56 [] []) [vI a, vI b] (.bool (lShorter a b)) := by
  refine Ev.fn Try.func56 rfl rfl (Fn.body tabOk Try.func56 rfl (Nat.le_of_ble_eq_true rfl) (Ks.ok (fz := (fzn [])) (cl := (cln [])) tabOk mixed ?_))
  generalize hQ : FnPost tt Try.f56 _ _ = Q
  simp only [Try.f56, List.nil_append, List.append_nil, List.cons_append, argsEnv, Nat.reduceAdd]
  by_cases h1 : (a.length : Int) < b.length
  · simp only [gos, if_true, if_false, ne_eq, eq_self, Nat.reduceLT, Nat.reduceEqDiff, Nat.reduceAdd, Nat.reduceMul, Nat.reduceLeDiff, Nat.reduceBEq, reduceCtorEq, reduceIte, Array.toList, ↓reduceIte, tt, vgo, vout, vgoD, voutD, vclsOk, vids, mayWrite, V.ids, V.mids, vguard, callOf, vop, ev, cv, vbin, vint, isShift, isNilConst, vnil, isNilSlice, vload, vlen, newRow, vfill, vslice, entOf, vappend, srcOf, vcopy, vlookup, vupdate, mapOk, keyOf, intsOf, clsAt, vI, h1]
    subst hQ
    exact FnPost.plain trivial (fun h2 e => by first | rfl | (simp only [Try.f56, vres, vresL, vres1, e _, gos, if_true, if_false, ne_eq, eq_self, Nat.reduceLT, Nat.reduceEqDiff, Nat.reduceAdd, Nat.reduceMul, Nat.reduceLeDiff, Nat.reduceBEq, reduceCtorEq, reduceIte, Array.toList, ↓reduceIte, tt, vgo, vout, vgoD, voutD, vclsOk, vids, mayWrite, V.ids, V.mids, vguard, callOf, vop, ev, cv, vbin, vint, isShift, isNilConst, vnil, isNilSlice, vload, vlen, newRow, vfill, vslice, entOf, vappend, srcOf, vcopy, vlookup, vupdate, mapOk, keyOf, intsOf, clsAt]; try rfl)) (WkV.pure (by simp only [V.into, intoL, cB_into, vB_into, cI_into, cR_into, cD_into, cS_into, vS_into, vI_into, vR_into, vD_into, cu_into, Bool.true_and, Bool.and_true])) ⟨by simp only [lShorter]; rw [decide_eq_true (by omega : a.length < b.length)]; rfl, rfl⟩
  · by_cases h2 : (a.length : Int) = b.length
    · have hd : decide ((a.length : Int) = b.length) = true := decide_eq_true h2
      simp only [gos, if_true, if_false, ne_eq, eq_self, Nat.reduceLT, Nat.reduceEqDiff, Nat.reduceAdd, Nat.reduceMul, Nat.reduceLeDiff, Nat.reduceBEq, reduceCtorEq, reduceIte, Array.toList, ↓reduceIte, tt, vgo, vout, vgoD, voutD, vclsOk, vids, mayWrite, V.ids, V.mids, vguard, callOf, vop, ev, cv, vbin, vint, isShift, isNilConst, vnil, isNilSlice, vload, vlen, newRow, vfill, vslice, entOf, vappend, srcOf, vcopy, vlookup, vupdate, mapOk, keyOf, intsOf, clsAt, vI, h1, hd]
      refine Cl.pu (c_rBefore a b ha) ?_ rfl (by simp only [V.into, intoL, cB_into, vB_into, cI_into, cR_into, cD_into, cS_into, vS_into, vI_into, vR_into, vD_into, cu_into, Bool.true_and, Bool.and_true])
      simp only [gos, if_true, if_false, ne_eq, eq_self, Nat.reduceLT, Nat.reduceEqDiff, Nat.reduceAdd, Nat.reduceMul, Nat.reduceLeDiff, Nat.reduceBEq, reduceCtorEq, reduceIte, Array.toList, ↓reduceIte, tt, vgo, vout, vgoD, voutD, vclsOk, vids, mayWrite, V.ids, V.mids, vguard, callOf, vop, ev, cv, vbin, vint, isShift, isNilConst, vnil, isNilSlice, vload, vlen, newRow, vfill, vslice, entOf, vappend, srcOf, vcopy, vlookup, vupdate, mapOk, keyOf, intsOf, clsAt]
      subst hQ
      exact FnPost.plain trivial (fun h2 e => by first | rfl | (simp only [Try.f56, vres, vresL, vres1, e _, gos, if_true, if_false, ne_eq, eq_self, Nat.reduceLT, Nat.reduceEqDiff, Nat.reduceAdd, Nat.reduceMul, Nat.reduceLeDiff, Nat.reduceBEq, reduceCtorEq, reduceIte, Array.toList, ↓reduceIte, tt, vgo, vout, vgoD, voutD, vclsOk, vids, mayWrite, V.ids, V.mids, vguard, callOf, vop, ev, cv, vbin, vint, isShift, isNilConst, vnil, isNilSlice, vload, vlen, newRow, vfill, vslice, entOf, vappend, srcOf, vcopy, vlookup, vupdate, mapOk, keyOf, intsOf, clsAt]; try rfl)) (WkV.pure (by simp only [V.into, intoL, cB_into, vB_into, cI_into, cR_into, cD_into, cS_into, vS_into, vI_into, vR_into, vD_into, cu_into, Bool.true_and, Bool.and_true])) ⟨by simp only [lShorter]; rw [decide_eq_false (by omega : ¬ a.length < b.length), decide_eq_true (by omega : a.length = b.length)]; rfl, rfl⟩
    · have hd : decide ((a.length : Int) = b.length) = false := decide_eq_false h2
      simp only [gos, if_true, if_false, ne_eq, eq_self, Nat.reduceLT, Nat.reduceEqDiff, Nat.reduceAdd, Nat.reduceMul, Nat.reduceLeDiff, Nat.reduceBEq, reduceCtorEq, reduceIte, Array.toList, ↓reduceIte, tt, vgo, vout, vgoD, voutD, vclsOk, vids, mayWrite, V.ids, V.mids, vguard, callOf, vop, ev, cv, vbin, vint, isShift, isNilConst, vnil, isNilSlice, vload, vlen, newRow, vfill, vslice, entOf, vappend, srcOf, vcopy, vlookup, vupdate, mapOk, keyOf, intsOf, clsAt, vI, h1, hd]
      subst hQ
      exact FnPost.plain trivial (fun h2 e => by first | rfl | (simp only [Try.f56, vres, vresL, vres1, e _, gos, if_true, if_false, ne_eq, eq_self, Nat.reduceLT, Nat.reduceEqDiff, Nat.reduceAdd, Nat.reduceMul, Nat.reduceLeDiff, Nat.reduceBEq, reduceCtorEq, reduceIte, Array.toList, ↓reduceIte, tt, vgo, vout, vgoD, voutD, vclsOk, vids, mayWrite, V.ids, V.mids, vguard, callOf, vop, ev, cv, vbin, vint, isShift, isNilConst, vnil, isNilSlice, vload, vlen, newRow, vfill, vslice, entOf, vappend, srcOf, vcopy, vlookup, vupdate, mapOk, keyOf, intsOf, clsAt]; try rfl)) (WkV.pure (by simp only [V.into, intoL, cB_into, vB_into, cI_into, cR_into, cD_into, cS_into, vS_into, vI_into, vR_into, vD_into, cu_into, Bool.true_and, Bool.and_true])) ⟨by simp only [lShorter]; rw [decide_eq_false (by omega : ¬ a.length < b.length), decide_eq_false (by omega : ¬ a.length = b.length)]; rfl, rfl⟩
end Go.Vm
set_option linter.unusedVariables false
set_option linter.unusedSimpArgs false
set_option maxRecDepth 100000
namespace Go.Vm
open Go.Proofs
/-! ### which readings can be right together -/
def rAllN (c : Cu) (i : Nat) : List Int := (List.range i).map fun (n : Nat) => rRight c (rNth c n)
def rAll (c : Cu) : List Int := rAllN c (rMany c).toNat
theorem rAllN_succ (c : Cu) (i : Nat) : rAllN c (i + 1) = rAllN c i ++ [rRight c (rNth c i)] := by simp [rAllN, List.range_succ]
theorem rAllN_len (c : Cu) (i : Nat) : (rAllN c i).length = i := by simp [rAllN]
theorem c_rAll (c : Cu) (k0 : CuOk c) : Pu Try.prog (.fn 38 [] []) [.agg c.cs] (vI (rAll c)) := by
  have hM := rMany_le k0
  refine Ev.fn Try.func38 rfl rfl (Fn.body tabOk Try.func38 rfl (Nat.le_of_ble_eq_true rfl) (Ks.ok (fz := (fzn [])) (cl := (cln [(5, .d (tgL [(18, 1)]) [cP, cP, cP, cP, cP, cP, cP, some ([1], [1]), cP])])) tabOk mixed ?_))
  generalize hQ : FnPost tt Try.f38 _ _ = Q
  simp only [Try.f38, List.nil_append, List.append_nil, List.cons_append, argsEnv, Nat.reduceAdd]
  simp only [gos, if_true, if_false, ne_eq, eq_self, Nat.reduceLT, Nat.reduceEqDiff, Nat.reduceAdd, Nat.reduceMul, Nat.reduceLeDiff, Nat.reduceBEq, reduceCtorEq, reduceIte, Array.toList, ↓reduceIte, tt, vgo, vout, vgoD, voutD, vclsOk, vids, mayWrite, V.ids, V.mids, vguard, callOf, vop, ev, cv, vbin, vint, isShift, isNilConst, vnil, isNilSlice, vload, vlen, newRow, vfill, vslice, entOf, vappend, srcOf, vcopy, vlookup, vupdate, mapOk, keyOf, intsOf, clsAt]
  refine W.loop tabOk mixed (fun i : Nat => ([(1, .rop c.cs), (3, .own 18 i 0 1 i), (4, vi i)], [(18, ⟨i, .row (cI (rAllN c i))⟩)])) (fun i => (rMany c).toNat - i) (fun i => i ≤ (rMany c).toNat) 0 (by omega) (Wk.trans (Wk.sl0E 3 18 1 rfl rfl) (Wk.env (by simp [subE, Env.get]))) ?_
  intro i hi
  simp only [gos, if_true, if_false, ne_eq, eq_self, Nat.reduceLT, Nat.reduceEqDiff, Nat.reduceAdd, Nat.reduceMul, Nat.reduceLeDiff, Nat.reduceBEq, reduceCtorEq, reduceIte, Array.toList, ↓reduceIte, tt, vgo, vout, vgoD, voutD, vclsOk, vids, mayWrite, V.ids, V.mids, vguard, callOf, vop, ev, cv, vbin, vint, isShift, isNilConst, vnil, isNilSlice, vload, vlen, newRow, vfill, vslice, entOf, vappend, srcOf, vcopy, vlookup, vupdate, mapOk, keyOf, intsOf, clsAt]
  refine Cl.pu (c_rMany c k0.heat (by have := k0.loss.1; have := k0.last; omega) k0.loss.2) ?_ rfl (by simp only [V.into, intoL, cB_into, vB_into, cI_into, cR_into, cD_into, cS_into, vS_into, vI_into, vR_into, vD_into, cu_into, Bool.true_and, Bool.and_true])
  by_cases hil : (i : Int) < rMany c
  · have hno := nth_ok k0 (n := i) (by omega)
    have hn : (cI (rAllN c i)).length = i * 1 := by rw [cI_len, rAllN_len]; omega
    have hi9 : i ≤ 999999 := by omega
    simp only [gos, if_true, if_false, ne_eq, eq_self, Nat.reduceLT, Nat.reduceEqDiff, Nat.reduceAdd, Nat.reduceMul, Nat.reduceLeDiff, Nat.reduceBEq, reduceCtorEq, reduceIte, Array.toList, ↓reduceIte, tt, vgo, vout, vgoD, voutD, vclsOk, vids, mayWrite, V.ids, V.mids, vguard, callOf, vop, ev, cv, vbin, vint, isShift, isNilConst, vnil, isNilSlice, vload, vlen, newRow, vfill, vslice, entOf, vappend, srcOf, vcopy, vlookup, vupdate, mapOk, keyOf, intsOf, clsAt, hil]
    refine Wr.draw (by kernel_rfl) ?_
    simp only [gos, if_true, if_false, ne_eq, eq_self, Nat.reduceLT, Nat.reduceEqDiff, Nat.reduceAdd, Nat.reduceMul, Nat.reduceLeDiff, Nat.reduceBEq, reduceCtorEq, reduceIte, Array.toList, ↓reduceIte, tt, vgo, vout, vgoD, voutD, vclsOk, vids, mayWrite, V.ids, V.mids, vguard, callOf, vop, ev, cv, vbin, vint, isShift, isNilConst, vnil, isNilSlice, vload, vlen, newRow, vfill, vslice, entOf, vappend, srcOf, vcopy, vlookup, vupdate, mapOk, keyOf, intsOf, clsAt]
    refine CD.pu (c_rNth c k0 i (by omega)) ?_ rfl (by simp only [V.into, intoL, cB_into, vB_into, cI_into, cR_into, cD_into, cS_into, vS_into, vI_into, vR_into, vD_into, cu_into, Bool.true_and, Bool.and_true])
    simp only [gos, if_true, if_false, ne_eq, eq_self, Nat.reduceLT, Nat.reduceEqDiff, Nat.reduceAdd, Nat.reduceMul, Nat.reduceLeDiff, Nat.reduceBEq, reduceCtorEq, reduceIte, Array.toList, ↓reduceIte, tt, vgo, vout, vgoD, voutD, vclsOk, vids, mayWrite, V.ids, V.mids, vguard, callOf, vop, ev, cv, vbin, vint, isShift, isNilConst, vnil, isNilSlice, vload, vlen, newRow, vfill, vslice, entOf, vappend, srcOf, vcopy, vlookup, vupdate, mapOk, keyOf, intsOf, clsAt]
    refine CD.pu (c_rRight c k0 (rNth c i) (hno.tr k0)) ?_ rfl (by simp only [V.into, intoL, cB_into, vB_into, cI_into, cR_into, cD_into, cS_into, vS_into, vI_into, vR_into, vD_into, cu_into, Bool.true_and, Bool.and_true, Tr2.cs])
    simp only [gos, if_true, if_false, ne_eq, eq_self, Nat.reduceLT, Nat.reduceEqDiff, Nat.reduceAdd, Nat.reduceMul, Nat.reduceLeDiff, Nat.reduceBEq, reduceCtorEq, reduceIte, Array.toList, ↓reduceIte, tt, vgo, vout, vgoD, voutD, vclsOk, vids, mayWrite, V.ids, V.mids, vguard, callOf, vop, ev, cv, vbin, vint, isShift, isNilConst, vnil, isNilSlice, vload, vlen, newRow, vfill, vslice, entOf, vappend, srcOf, vcopy, vlookup, vupdate, mapOk, keyOf, intsOf, clsAt, hn, hi9]
    refine Nx.mk (i + 1) (show (rMany c).toNat - (i + 1) < (rMany c).toNat - i by omega) (by omega) (Wk.heap (fun j => ?_) ?_)
    · rw [rAllN_succ, cI_snoc]
    · simp [subE, Env.get, i64_succ (show (i : Int) < 9223372036854775807 by omega)]
  · have hie : i = (rMany c).toNat := by omega
    simp only [gos, if_true, if_false, ne_eq, eq_self, Nat.reduceLT, Nat.reduceEqDiff, Nat.reduceAdd, Nat.reduceMul, Nat.reduceLeDiff, Nat.reduceBEq, reduceCtorEq, reduceIte, Array.toList, ↓reduceIte, tt, vgo, vout, vgoD, voutD, vclsOk, vids, mayWrite, V.ids, V.mids, vguard, callOf, vop, ev, cv, vbin, vint, isShift, isNilConst, vnil, isNilSlice, vload, vlen, newRow, vfill, vslice, entOf, vappend, srcOf, vcopy, vlookup, vupdate, mapOk, keyOf, intsOf, clsAt, hil]
    subst hQ
    have hl := rAllN_len c i
    have ht : (cI (rAllN c i)).take i = cI (rAllN c i) := List.take_of_length_le (by rw [cI_len]; omega)
    rw [rAll, ← hie]
    refine FnPost.plain trivial (v := .own 18 i 0 1 i) (fun h2 e => by rfl) (WkV.frz 18 (v' := vI (rAllN c i)) (h' := []) (ver := i) (cs := cI (rAllN c i)) rfl rfl (cI_into _ _) rfl ?_ ?_ WkV.refl) ⟨rfl, rfl⟩
    · simp [V.frz, vI, ht, hl]
    · simp [frzH]
theorem rAll_len {c : Cu} (k0 : CuOk c) : ((rAll c).length : Int) ≤ 1000000 := by
  have := rMany_le k0
  rw [rAll, rAllN_len]; omega
def canA (r a : Int) : Bool := decide (vbits .and .i64 a r = r)
def rCan (all : List Int) (r : Int) : Bool := all.any (canA r)
theorem c_rCan (all : List Int) (r : Int) (hl : (all.length : Int) ≤ 1000000) : Pu Try.prog (.fn 94 [] []) [vI all, vi r] (.bool (rCan all r)) := by
  refine Ev.fn Try.func94 rfl rfl (Fn.body tabOk Try.func94 rfl (Nat.le_of_ble_eq_true rfl) (Ks.ok (fz := (fzn [])) (cl := (cln [])) tabOk mixed ?_))
  generalize hQ : FnPost tt Try.f94 _ _ = Q
  simp only [Try.f94, List.nil_append, List.append_nil, List.cons_append, argsEnv, Nat.reduceAdd]
  simp only [gos, if_true, if_false, ne_eq, eq_self, Nat.reduceLT, Nat.reduceEqDiff, Nat.reduceAdd, Nat.reduceMul, Nat.reduceLeDiff, Nat.reduceBEq, reduceCtorEq, reduceIte, Array.toList, ↓reduceIte, tt, vgo, vout, vgoD, voutD, vclsOk, vids, mayWrite, V.ids, V.mids, vguard, callOf, vop, ev, cv, vbin, vint, isShift, isNilConst, vnil, isNilSlice, vload, vlen, newRow, vfill, vslice, entOf, vappend, srcOf, vcopy, vlookup, vupdate, mapOk, keyOf, intsOf, clsAt]
  refine W.loop tabOk mixed (fun i : Nat => ([(0, vI all), (1, vi r), (5, vi i)], [])) (fun i => all.length - i) (fun i => i ≤ all.length ∧ ∀ j : Nat, j < i → canA r (gi all j) = false) 0 ⟨by omega, fun j hj => by omega⟩ (Wk.env (by simp [subE, Env.get])) ?_
  rintro i ⟨hi, hno⟩
  by_cases h1 : (i : Int) < all.length
  · cases hc : canA r (gi all i) with
    | true =>
      have hc2 := hc
      simp only [canA] at hc2
      simp only [gos, if_true, if_false, ne_eq, eq_self, Nat.reduceLT, Nat.reduceEqDiff, Nat.reduceAdd, Nat.reduceMul, Nat.reduceLeDiff, Nat.reduceBEq, reduceCtorEq, reduceIte, Array.toList, ↓reduceIte, tt, vgo, vout, vgoD, voutD, vclsOk, vids, mayWrite, V.ids, V.mids, vguard, callOf, vop, ev, cv, vbin, vint, isShift, isNilConst, vnil, isNilSlice, vload, vlen, newRow, vfill, vslice, entOf, vappend, srcOf, vcopy, vlookup, vupdate, mapOk, keyOf, intsOf, clsAt, vI, h1, cI_at (Int.natCast_nonneg i) h1, hc2]
      subst hQ
      exact FnPost.plain trivial (fun h2 e => by first | rfl | (simp only [Try.f94, vres, vresL, vres1, e _, gos, if_true, if_false, ne_eq, eq_self, Nat.reduceLT, Nat.reduceEqDiff, Nat.reduceAdd, Nat.reduceMul, Nat.reduceLeDiff, Nat.reduceBEq, reduceCtorEq, reduceIte, Array.toList, ↓reduceIte, tt, vgo, vout, vgoD, voutD, vclsOk, vids, mayWrite, V.ids, V.mids, vguard, callOf, vop, ev, cv, vbin, vint, isShift, isNilConst, vnil, isNilSlice, vload, vlen, newRow, vfill, vslice, entOf, vappend, srcOf, vcopy, vlookup, vupdate, mapOk, keyOf, intsOf, clsAt]; try rfl)) (WkV.pure (by simp only [V.into, intoL, cB_into, vB_into, cI_into, cR_into, cD_into, cS_into, vS_into, vI_into, vR_into, vD_into, cu_into, Bool.true_and, Bool.and_true])) ⟨by rw [rCan, List.any_eq_true.2 ⟨gi all i, gi_mem (by omega), hc⟩], rfl⟩
    | false =>
      have hc2 := hc
      simp only [canA] at hc2
      simp only [gos, if_true, if_false, ne_eq, eq_self, Nat.reduceLT, Nat.reduceEqDiff, Nat.reduceAdd, Nat.reduceMul, Nat.reduceLeDiff, Nat.reduceBEq, reduceCtorEq, reduceIte, Array.toList, ↓reduceIte, tt, vgo, vout, vgoD, voutD, vclsOk, vids, mayWrite, V.ids, V.mids, vguard, callOf, vop, ev, cv, vbin, vint, isShift, isNilConst, vnil, isNilSlice, vload, vlen, newRow, vfill, vslice, entOf, vappend, srcOf, vcopy, vlookup, vupdate, mapOk, keyOf, intsOf, clsAt, vI, h1, cI_at (Int.natCast_nonneg i) h1, hc2]
      exact Nx.mk (i + 1) (show all.length - (i + 1) < all.length - i by omega) ⟨by omega, fun j hj => by
        rcases Nat.lt_succ_iff_lt_or_eq.1 hj with h | rfl
        · exact hno j h
        · exact hc⟩ (Wk.env (by simp [subE, Env.get, vI, i64_succ (show (i : Int) < 9223372036854775807 by omega)]))
  · have e : rCan all r = false := by
      rw [rCan, List.any_eq_false.2]
      intro x hx
      obtain ⟨j, hj, rfl⟩ := List.mem_iff_getElem.1 hx
      have := hno j (by omega)
      rw [gi, Int.toNat_natCast, List.getD_eq_getElem?_getD, List.getElem?_eq_getElem hj] at this
      simpa using this
    simp only [gos, if_true, if_false, ne_eq, eq_self, Nat.reduceLT, Nat.reduceEqDiff, Nat.reduceAdd, Nat.reduceMul, Nat.reduceLeDiff, Nat.reduceBEq, reduceCtorEq, reduceIte, Array.toList, ↓reduceIte, tt, vgo, vout, vgoD, voutD, vclsOk, vids, mayWrite, V.ids, V.mids, vguard, callOf, vop, ev, cv, vbin, vint, isShift, isNilConst, vnil, isNilSlice, vload, vlen, newRow, vfill, vslice, entOf, vappend, srcOf, vcopy, vlookup, vupdate, mapOk, keyOf, intsOf, clsAt, vI, h1]
    subst hQ
    exact FnPost.plain trivial (fun h2 e => by first | rfl | (simp only [Try.f94, vres, vresL, vres1, e _, gos, if_true, if_false, ne_eq, eq_self, Nat.reduceLT, Nat.reduceEqDiff, Nat.reduceAdd, Nat.reduceMul, Nat.reduceLeDiff, Nat.reduceBEq, reduceCtorEq, reduceIte, Array.toList, ↓reduceIte, tt, vgo, vout, vgoD, voutD, vclsOk, vids, mayWrite, V.ids, V.mids, vguard, callOf, vop, ev, cv, vbin, vint, isShift, isNilConst, vnil, isNilSlice, vload, vlen, newRow, vfill, vslice, entOf, vappend, srcOf, vcopy, vlookup, vupdate, mapOk, keyOf, intsOf, clsAt]; try rfl)) (WkV.pure (by simp only [V.into, intoL, cB_into, vB_into, cI_into, cR_into, cD_into, cS_into, vS_into, vI_into, vR_into, vD_into, cu_into, Bool.true_and, Bool.and_true])) ⟨by rw [e], rfl⟩
theorem shl2 {i : Nat} (h : i < 5) : IntKind.i64.wrap (2 * 2 ^ min ((i : Int)).toNat IntKind.i64.bits) = 2 ^ (i + 1) := by
  have : ∀ i : Fin 5, IntKind.i64.wrap (2 * 2 ^ min (((i : Nat) : Int)).toNat IntKind.i64.bits) = 2 ^ ((i : Nat) + 1) := by decide +kernel
  exact this ⟨i, h⟩
def rFirst (c : Cu) (all : List Int) : Int := match (List.range c.readings.length).find? fun i => !rCan all (2 ^ (i + 1) - 1) with
  | some i => i
  | none => -1
theorem c_rFirst (c : Cu) (k0 : CuOk c) (all : List Int) (hl : (all.length : Int) ≤ 1000000) : Pu Try.prog (.fn 41 [] []) [.agg c.cs, vI all] (vi (rFirst c all)) := by
  have hrd := k0.rds
  refine Ev.fn Try.func41 rfl rfl (Fn.body tabOk Try.func41 rfl (Nat.le_of_ble_eq_true rfl) (Ks.ok (fz := (fzn [])) (cl := (cln [])) tabOk mixed ?_))
  generalize hQ : FnPost tt Try.f41 _ _ = Q
  simp only [Try.f41, List.nil_append, List.append_nil, List.cons_append, argsEnv, Nat.reduceAdd]
  simp only [gos, if_true, if_false, ne_eq, eq_self, Nat.reduceLT, Nat.reduceEqDiff, Nat.reduceAdd, Nat.reduceMul, Nat.reduceLeDiff, Nat.reduceBEq, reduceCtorEq, reduceIte, Array.toList, ↓reduceIte, tt, vgo, vout, vgoD, voutD, vclsOk, vids, mayWrite, V.ids, V.mids, vguard, callOf, vop, ev, cv, vbin, vint, isShift, isNilConst, vnil, isNilSlice, vload, vlen, newRow, vfill, vslice, entOf, vappend, srcOf, vcopy, vlookup, vupdate, mapOk, keyOf, intsOf, clsAt]
  refine W.loop tabOk mixed (fun i : Nat => ([(1, vI all), (2, .rop c.cs), (5, vi i)], [])) (fun i => c.readings.length - i) (fun i => i ≤ c.readings.length ∧ ∀ j : Nat, j < i → (!rCan all (2 ^ (j + 1) - 1)) = false) 0 ⟨by omega, fun j hj => by omega⟩ (Wk.env (by simp [subE, Env.get])) ?_
  rintro i ⟨hi, hno⟩
  by_cases h1 : (i : Int) < c.readings.length
  · have hw := u64_in (n := (i : Int)) (by omega) (by omega)
    have hn : ¬ (i : Int) < 0 := by omega
    simp only [gos, if_true, if_false, ne_eq, eq_self, Nat.reduceLT, Nat.reduceEqDiff, Nat.reduceAdd, Nat.reduceMul, Nat.reduceLeDiff, Nat.reduceBEq, reduceCtorEq, reduceIte, Array.toList, ↓reduceIte, tt, vgo, vout, vgoD, voutD, vclsOk, vids, mayWrite, V.ids, V.mids, vguard, callOf, vop, ev, cv, vbin, vint, isShift, isNilConst, vnil, isNilSlice, vload, vlen, newRow, vfill, vslice, entOf, vappend, srcOf, vcopy, vlookup, vupdate, mapOk, keyOf, intsOf, clsAt, vD, h1, hw, hn, shl2 (i := i) (by omega), full_sub (i := i + 1) (by omega)]
    refine Cl.pu (c_rCan all (2 ^ (i + 1) - 1) hl) ?_ rfl (by simp only [V.into, intoL, cB_into, vB_into, cI_into, cR_into, cD_into, cS_into, vS_into, vI_into, vR_into, vD_into, cu_into, Bool.true_and, Bool.and_true])
    cases hc : rCan all (2 ^ (i + 1) - 1) with
    | true =>
      simp only [gos, if_true, if_false, ne_eq, eq_self, Nat.reduceLT, Nat.reduceEqDiff, Nat.reduceAdd, Nat.reduceMul, Nat.reduceLeDiff, Nat.reduceBEq, reduceCtorEq, reduceIte, Array.toList, ↓reduceIte, tt, vgo, vout, vgoD, voutD, vclsOk, vids, mayWrite, V.ids, V.mids, vguard, callOf, vop, ev, cv, vbin, vint, isShift, isNilConst, vnil, isNilSlice, vload, vlen, newRow, vfill, vslice, entOf, vappend, srcOf, vcopy, vlookup, vupdate, mapOk, keyOf, intsOf, clsAt]
      exact Nx.mk (i + 1) (show c.readings.length - (i + 1) < c.readings.length - i by omega) ⟨by omega, fun j hj => by
        rcases Nat.lt_succ_iff_lt_or_eq.1 hj with h | rfl
        · exact hno j h
        · rw [hc]; rfl⟩ (Wk.env (by simp [subE, Env.get, vD, i64_succ (show (i : Int) < 9223372036854775807 by omega)]))
    | false =>
      simp only [gos, if_true, if_false, ne_eq, eq_self, Nat.reduceLT, Nat.reduceEqDiff, Nat.reduceAdd, Nat.reduceMul, Nat.reduceLeDiff, Nat.reduceBEq, reduceCtorEq, reduceIte, Array.toList, ↓reduceIte, tt, vgo, vout, vgoD, voutD, vclsOk, vids, mayWrite, V.ids, V.mids, vguard, callOf, vop, ev, cv, vbin, vint, isShift, isNilConst, vnil, isNilSlice, vload, vlen, newRow, vfill, vslice, entOf, vappend, srcOf, vcopy, vlookup, vupdate, mapOk, keyOf, intsOf, clsAt]
      subst hQ
      exact FnPost.plain trivial (fun h2 e => by first | rfl | (simp only [Try.f41, vres, vresL, vres1, e _, gos, if_true, if_false, ne_eq, eq_self, Nat.reduceLT, Nat.reduceEqDiff, Nat.reduceAdd, Nat.reduceMul, Nat.reduceLeDiff, Nat.reduceBEq, reduceCtorEq, reduceIte, Array.toList, ↓reduceIte, tt, vgo, vout, vgoD, voutD, vclsOk, vids, mayWrite, V.ids, V.mids, vguard, callOf, vop, ev, cv, vbin, vint, isShift, isNilConst, vnil, isNilSlice, vload, vlen, newRow, vfill, vslice, entOf, vappend, srcOf, vcopy, vlookup, vupdate, mapOk, keyOf, intsOf, clsAt]; try rfl)) (WkV.pure (by simp only [V.into, intoL, cB_into, vB_into, cI_into, cR_into, cD_into, cS_into, vS_into, vI_into, vR_into, vD_into, cu_into, Bool.true_and, Bool.and_true])) ⟨by rw [rFirst, find_range (a := i) (by omega) (by rw [hc]; rfl) hno], rfl⟩
  · have e : rFirst c all = -1 := by
      rw [rFirst, List.find?_eq_none.2]
      intro j hj
      rw [List.mem_range] at hj
      rw [hno j (by omega)]; simp
    simp only [gos, if_true, if_false, ne_eq, eq_self, Nat.reduceLT, Nat.reduceEqDiff, Nat.reduceAdd, Nat.reduceMul, Nat.reduceLeDiff, Nat.reduceBEq, reduceCtorEq, reduceIte, Array.toList, ↓reduceIte, tt, vgo, vout, vgoD, voutD, vclsOk, vids, mayWrite, V.ids, V.mids, vguard, callOf, vop, ev, cv, vbin, vint, isShift, isNilConst, vnil, isNilSlice, vload, vlen, newRow, vfill, vslice, entOf, vappend, srcOf, vcopy, vlookup, vupdate, mapOk, keyOf, intsOf, clsAt, vD, h1]
    subst hQ
    exact FnPost.plain trivial (fun h2 e => by first | rfl | (simp only [Try.f41, vres, vresL, vres1, e _, gos, if_true, if_false, ne_eq, eq_self, Nat.reduceLT, Nat.reduceEqDiff, Nat.reduceAdd, Nat.reduceMul, Nat.reduceLeDiff, Nat.reduceBEq, reduceCtorEq, reduceIte, Array.toList, ↓reduceIte, tt, vgo, vout, vgoD, voutD, vclsOk, vids, mayWrite, V.ids, V.mids, vguard, callOf, vop, ev, cv, vbin, vint, isShift, isNilConst, vnil, isNilSlice, vload, vlen, newRow, vfill, vslice, entOf, vappend, srcOf, vcopy, vlookup, vupdate, mapOk, keyOf, intsOf, clsAt]; try rfl)) (WkV.pure (by simp only [V.into, intoL, cB_into, vB_into, cI_into, cR_into, cD_into, cS_into, vS_into, vI_into, vR_into, vD_into, cu_into, Bool.true_and, Bool.and_true])) ⟨by rw [e], rfl⟩
theorem andn {n b : Nat} (hn : n < 6) (hb : b < 2 ^ n) : vbits .andNot .i64 ((2 : Int) ^ n - 1) (b : Int) = ((2 ^ n - 1 - b : Nat) : Int) := by
  have : ∀ n : Fin 6, ∀ b : Fin 32, (b : Nat) < 2 ^ (n : Nat) → vbits .andNot .i64 ((2 : Int) ^ (n : Nat) - 1) (((b : Nat) : Int)) = ((2 ^ (n : Nat) - 1 - (b : Nat) : Nat) : Int) := by decide +kernel
  have h32 : 2 ^ n ≤ 32 := Nat.pow_le_pow_right (n := 2) (by omega) (show n ≤ 5 by omega)
  exact this ⟨n, hn⟩ ⟨b, by omega⟩ hb
def leaveStep (all : List Int) (n : Nat) (best : List Int) (b : Nat) : List Int := if (lShorter (sBits b) best && rCan all ((2 ^ n - 1 - b : Nat) : Int)) = true then sBits b else best
def rLeaveN (all : List Int) (n i : Nat) : List Int := (List.range i).foldl (leaveStep all n) (sBits (2 ^ n - 1))
theorem rLeaveN_succ (all : List Int) (n i : Nat) : rLeaveN all n (i + 1) = leaveStep all n (rLeaveN all n i) i := by simp only [rLeaveN, List.range_succ, List.foldl_append]; rfl
def rLeave (c : Cu) (all : List Int) : List Int := rLeaveN all c.readings.length (2 ^ c.readings.length)
theorem sBits_len (b : Nat) : (sBits b).length ≤ 5 := bitsTo_len b 5
theorem c_rLeave (c : Cu) (k0 : CuOk c) (all : List Int) (hl : (all.length : Int) ≤ 1000000) : Pu Try.prog (.fn 40 [] []) [.agg c.cs, vI all] (vI (rLeave c all)) := by
  have hrd := k0.rds
  have h32 : 2 ^ c.readings.length ≤ 32 := Nat.pow_le_pow_right (n := 2) (by omega) (show c.readings.length ≤ 5 by omega)
  have h1 : 1 ≤ 2 ^ c.readings.length := Nat.one_le_two_pow
  have hF : rFull c = ((2 ^ c.readings.length - 1 : Nat) : Int) := by
    rw [rFull, Int.natCast_sub h1, Int.natCast_pow]; rfl
  refine Ev.fn Try.func40 rfl rfl (Fn.body tabOk Try.func40 rfl (Nat.le_of_ble_eq_true rfl) (Ks.ok (fz := (fzn [])) (cl := (cln [])) tabOk mixed ?_))
  generalize hQ : FnPost tt Try.f40 _ _ = Q
  simp only [Try.f40, List.nil_append, List.append_nil, List.cons_append, argsEnv, Nat.reduceAdd]
  simp only [gos, if_true, if_false, ne_eq, eq_self, Nat.reduceLT, Nat.reduceEqDiff, Nat.reduceAdd, Nat.reduceMul, Nat.reduceLeDiff, Nat.reduceBEq, reduceCtorEq, reduceIte, Array.toList, ↓reduceIte, tt, vgo, vout, vgoD, voutD, vclsOk, vids, mayWrite, V.ids, V.mids, vguard, callOf, vop, ev, cv, vbin, vint, isShift, isNilConst, vnil, isNilSlice, vload, vlen, newRow, vfill, vslice, entOf, vappend, srcOf, vcopy, vlookup, vupdate, mapOk, keyOf, intsOf, clsAt]
  refine Cl.pu (c_rFull c hrd) ?_ rfl (by simp only [V.into, intoL, cB_into, vB_into, cI_into, cR_into, cD_into, cS_into, vS_into, vI_into, vR_into, vD_into, cu_into, Bool.true_and, Bool.and_true])
  rw [hF]
  simp only [gos, if_true, if_false, ne_eq, eq_self, Nat.reduceLT, Nat.reduceEqDiff, Nat.reduceAdd, Nat.reduceMul, Nat.reduceLeDiff, Nat.reduceBEq, reduceCtorEq, reduceIte, Array.toList, ↓reduceIte, tt, vgo, vout, vgoD, voutD, vclsOk, vids, mayWrite, V.ids, V.mids, vguard, callOf, vop, ev, cv, vbin, vint, isShift, isNilConst, vnil, isNilSlice, vload, vlen, newRow, vfill, vslice, entOf, vappend, srcOf, vcopy, vlookup, vupdate, mapOk, keyOf, intsOf, clsAt]
  refine Cl.pu (c_rBits (2 ^ c.readings.length - 1) (by omega)) ?_
  simp only [gos, if_true, if_false, ne_eq, eq_self, Nat.reduceLT, Nat.reduceEqDiff, Nat.reduceAdd, Nat.reduceMul, Nat.reduceLeDiff, Nat.reduceBEq, reduceCtorEq, reduceIte, Array.toList, ↓reduceIte, tt, vgo, vout, vgoD, voutD, vclsOk, vids, mayWrite, V.ids, V.mids, vguard, callOf, vop, ev, cv, vbin, vint, isShift, isNilConst, vnil, isNilSlice, vload, vlen, newRow, vfill, vslice, entOf, vappend, srcOf, vcopy, vlookup, vupdate, mapOk, keyOf, intsOf, clsAt]
  refine W.loop tabOk mixed (fun i : Nat => ([(1, vI all), (2, .rop c.cs), (5, vI (rLeaveN all c.readings.length i)), (6, vi i)], [])) (fun i => 2 ^ c.readings.length - i) (fun i => i ≤ 2 ^ c.readings.length) 0 (by omega) (Wk.env (by simp [subE, Env.get, rLeaveN])) ?_
  intro i hi
  simp only [gos, if_true, if_false, ne_eq, eq_self, Nat.reduceLT, Nat.reduceEqDiff, Nat.reduceAdd, Nat.reduceMul, Nat.reduceLeDiff, Nat.reduceBEq, reduceCtorEq, reduceIte, Array.toList, ↓reduceIte, tt, vgo, vout, vgoD, voutD, vclsOk, vids, mayWrite, V.ids, V.mids, vguard, callOf, vop, ev, cv, vbin, vint, isShift, isNilConst, vnil, isNilSlice, vload, vlen, newRow, vfill, vslice, entOf, vappend, srcOf, vcopy, vlookup, vupdate, mapOk, keyOf, intsOf, clsAt]
  refine Cl.pu (c_rFull c hrd) ?_ rfl (by simp only [V.into, intoL, cB_into, vB_into, cI_into, cR_into, cD_into, cS_into, vS_into, vI_into, vR_into, vD_into, cu_into, Bool.true_and, Bool.and_true])
  have hstep := rLeaveN_succ all c.readings.length i
  by_cases hil : (i : Int) ≤ rFull c
  · have hib : i < 2 ^ c.readings.length := by rw [hF] at hil; omega
    have hsl := sBits_len i
    have han := andn (n := c.readings.length) (b := i) (by omega) hib
    have hF2 : rFull c = (2 : Int) ^ c.readings.length - 1 := rfl
    simp only [gos, if_true, if_false, ne_eq, eq_self, Nat.reduceLT, Nat.reduceEqDiff, Nat.reduceAdd, Nat.reduceMul, Nat.reduceLeDiff, Nat.reduceBEq, reduceCtorEq, reduceIte, Array.toList, ↓reduceIte, tt, vgo, vout, vgoD, voutD, vclsOk, vids, mayWrite, V.ids, V.mids, vguard, callOf, vop, ev, cv, vbin, vint, isShift, isNilConst, vnil, isNilSlice, vload, vlen, newRow, vfill, vslice, entOf, vappend, srcOf, vcopy, vlookup, vupdate, mapOk, keyOf, intsOf, clsAt, hil]
    refine Cl.pu (c_rBits i (by omega)) ?_
    simp only [gos, if_true, if_false, ne_eq, eq_self, Nat.reduceLT, Nat.reduceEqDiff, Nat.reduceAdd, Nat.reduceMul, Nat.reduceLeDiff, Nat.reduceBEq, reduceCtorEq, reduceIte, Array.toList, ↓reduceIte, tt, vgo, vout, vgoD, voutD, vclsOk, vids, mayWrite, V.ids, V.mids, vguard, callOf, vop, ev, cv, vbin, vint, isShift, isNilConst, vnil, isNilSlice, vload, vlen, newRow, vfill, vslice, entOf, vappend, srcOf, vcopy, vlookup, vupdate, mapOk, keyOf, intsOf, clsAt]
    refine Cl.pu (c_rShorter (sBits i) (rLeaveN all c.readings.length i) (by omega)) ?_ rfl (by simp only [V.into, intoL, cB_into, vB_into, cI_into, cR_into, cD_into, cS_into, vS_into, vI_into, vR_into, vD_into, cu_into, Bool.true_and, Bool.and_true])
    cases hs : lShorter (sBits i) (rLeaveN all c.readings.length i) with
    | false =>
      rw [leaveStep, hs, if_neg (by simp)] at hstep
      simp only [gos, if_true, if_false, ne_eq, eq_self, Nat.reduceLT, Nat.reduceEqDiff, Nat.reduceAdd, Nat.reduceMul, Nat.reduceLeDiff, Nat.reduceBEq, reduceCtorEq, reduceIte, Array.toList, ↓reduceIte, tt, vgo, vout, vgoD, voutD, vclsOk, vids, mayWrite, V.ids, V.mids, vguard, callOf, vop, ev, cv, vbin, vint, isShift, isNilConst, vnil, isNilSlice, vload, vlen, newRow, vfill, vslice, entOf, vappend, srcOf, vcopy, vlookup, vupdate, mapOk, keyOf, intsOf, clsAt]
      exact Nx.mk (i + 1) (show 2 ^ c.readings.length - (i + 1) < 2 ^ c.readings.length - i by omega) (by omega) (by rw [hstep]; exact Wk.env (by simp [subE, Env.get, i64_succ (show (i : Int) < 9223372036854775807 by omega)]))
    | true =>
      rw [leaveStep, hs, Bool.true_and] at hstep
      simp only [gos, if_true, if_false, ne_eq, eq_self, Nat.reduceLT, Nat.reduceEqDiff, Nat.reduceAdd, Nat.reduceMul, Nat.reduceLeDiff, Nat.reduceBEq, reduceCtorEq, reduceIte, Array.toList, ↓reduceIte, tt, vgo, vout, vgoD, voutD, vclsOk, vids, mayWrite, V.ids, V.mids, vguard, callOf, vop, ev, cv, vbin, vint, isShift, isNilConst, vnil, isNilSlice, vload, vlen, newRow, vfill, vslice, entOf, vappend, srcOf, vcopy, vlookup, vupdate, mapOk, keyOf, intsOf, clsAt]
      refine Cl.pu (c_rFull c hrd) ?_ rfl (by simp only [V.into, intoL, cB_into, vB_into, cI_into, cR_into, cD_into, cS_into, vS_into, vI_into, vR_into, vD_into, cu_into, Bool.true_and, Bool.and_true])
      rw [hF2]
      simp only [gos, if_true, if_false, ne_eq, eq_self, Nat.reduceLT, Nat.reduceEqDiff, Nat.reduceAdd, Nat.reduceMul, Nat.reduceLeDiff, Nat.reduceBEq, reduceCtorEq, reduceIte, Array.toList, ↓reduceIte, tt, vgo, vout, vgoD, voutD, vclsOk, vids, mayWrite, V.ids, V.mids, vguard, callOf, vop, ev, cv, vbin, vint, isShift, isNilConst, vnil, isNilSlice, vload, vlen, newRow, vfill, vslice, entOf, vappend, srcOf, vcopy, vlookup, vupdate, mapOk, keyOf, intsOf, clsAt, han]
      refine Cl.pu (c_rCan all _ hl) ?_ rfl (by simp only [V.into, intoL, cB_into, vB_into, cI_into, cR_into, cD_into, cS_into, vS_into, vI_into, vR_into, vD_into, cu_into, Bool.true_and, Bool.and_true])
      cases hc : rCan all ((2 ^ c.readings.length - 1 - i : Nat) : Int) with
      | true =>
        rw [hc, if_pos rfl] at hstep
        simp only [gos, if_true, if_false, ne_eq, eq_self, Nat.reduceLT, Nat.reduceEqDiff, Nat.reduceAdd, Nat.reduceMul, Nat.reduceLeDiff, Nat.reduceBEq, reduceCtorEq, reduceIte, Array.toList, ↓reduceIte, tt, vgo, vout, vgoD, voutD, vclsOk, vids, mayWrite, V.ids, V.mids, vguard, callOf, vop, ev, cv, vbin, vint, isShift, isNilConst, vnil, isNilSlice, vload, vlen, newRow, vfill, vslice, entOf, vappend, srcOf, vcopy, vlookup, vupdate, mapOk, keyOf, intsOf, clsAt]
        exact Nx.mk (i + 1) (show 2 ^ c.readings.length - (i + 1) < 2 ^ c.readings.length - i by omega) (by omega) (by rw [hstep]; exact Wk.env (by simp [subE, Env.get, i64_succ (show (i : Int) < 9223372036854775807 by omega)]))
      | false =>
        rw [hc, if_neg (by simp)] at hstep
        simp only [gos, if_true, if_false, ne_eq, eq_self, Nat.reduceLT, Nat.reduceEqDiff, Nat.reduceAdd, Nat.reduceMul, Nat.reduceLeDiff, Nat.reduceBEq, reduceCtorEq, reduceIte, Array.toList, ↓reduceIte, tt, vgo, vout, vgoD, voutD, vclsOk, vids, mayWrite, V.ids, V.mids, vguard, callOf, vop, ev, cv, vbin, vint, isShift, isNilConst, vnil, isNilSlice, vload, vlen, newRow, vfill, vslice, entOf, vappend, srcOf, vcopy, vlookup, vupdate, mapOk, keyOf, intsOf, clsAt]
        exact Nx.mk (i + 1) (show 2 ^ c.readings.length - (i + 1) < 2 ^ c.readings.length - i by omega) (by omega) (by rw [hstep]; exact Wk.env (by simp [subE, Env.get, i64_succ (show (i : Int) < 9223372036854775807 by omega)]))
  · have hie : i = 2 ^ c.readings.length := by rw [hF] at hil; omega
    simp only [gos, if_true, if_false, ne_eq, eq_self, Nat.reduceLT, Nat.reduceEqDiff, Nat.reduceAdd, Nat.reduceMul, Nat.reduceLeDiff, Nat.reduceBEq, reduceCtorEq, reduceIte, Array.toList, ↓reduceIte, tt, vgo, vout, vgoD, voutD, vclsOk, vids, mayWrite, V.ids, V.mids, vguard, callOf, vop, ev, cv, vbin, vint, isShift, isNilConst, vnil, isNilSlice, vload, vlen, newRow, vfill, vslice, entOf, vappend, srcOf, vcopy, vlookup, vupdate, mapOk, keyOf, intsOf, clsAt, hil]
    subst hQ
    exact FnPost.plain trivial (fun h2 e => by first | rfl | (simp only [Try.f40, vres, vresL, vres1, e _, gos, if_true, if_false, ne_eq, eq_self, Nat.reduceLT, Nat.reduceEqDiff, Nat.reduceAdd, Nat.reduceMul, Nat.reduceLeDiff, Nat.reduceBEq, reduceCtorEq, reduceIte, Array.toList, ↓reduceIte, tt, vgo, vout, vgoD, voutD, vclsOk, vids, mayWrite, V.ids, V.mids, vguard, callOf, vop, ev, cv, vbin, vint, isShift, isNilConst, vnil, isNilSlice, vload, vlen, newRow, vfill, vslice, entOf, vappend, srcOf, vcopy, vlookup, vupdate, mapOk, keyOf, intsOf, clsAt]; try rfl)) (WkV.pure (by simp only [V.into, intoL, cB_into, vB_into, cI_into, cR_into, cD_into, cS_into, vS_into, vI_into, vR_into, vD_into, cu_into, Bool.true_and, Bool.and_true])) ⟨by rw [rLeave, ← hie], rfl⟩
end Go.Vm
set_option linter.unusedVariables false
set_option linter.unusedSimpArgs false
set_option maxRecDepth 100000
namespace Go.Vm
open Go.Proofs
/-! ### some of the readings -/
def pickN (l : List Rd) (b : Nat) : Nat → List Rd
  | 0 => []
  | i + 1 => if b.testBit i then pickN l b i ++ [gD l i] else pickN l b i
def pickR (l : List Rd) (b : Nat) : List Rd := pickN l b l.length
theorem pickN_len (l : List Rd) (b : Nat) : ∀ i, (pickN l b i).length ≤ i
  | 0 => Nat.le_refl _
  | i + 1 => by
    have := pickN_len l b i
    rw [pickN]; split
    · rw [List.length_append]; simp; omega
    · omega
theorem pickN_mem (l : List Rd) (b : Nat) : ∀ i, i ≤ l.length → ∀ r ∈ pickN l b i, r ∈ l
  | 0, _, r, hr => by simp [pickN] at hr
  | i + 1, h, r, hr => by
    rw [pickN] at hr
    split at hr
    · rw [List.mem_append, List.mem_singleton] at hr
      rcases hr with hr | rfl
      · exact pickN_mem l b i (by omega) r hr
      · exact List.mem_of_getElem? (gD_get (l := l) (i := i) (by omega))
    · exact pickN_mem l b i (by omega) r hr
theorem wk_some (c : Cu) (m : Nat) (r : List Rd) (hm : r.length = m) (a b : Ent) (p : Nat → Bool) (hp : ∀ i, p i = false) :
    WkV p (.agg [vi c.last, vi c.start, vi c.most, vi c.per, vi c.shovels, vI c.coal, vI c.want, vi c.heat.lo, vi c.heat.hi, vR c.loss, .own 30 m 0 3 m]) [(4, a), (5, b), (30, ⟨m, .row (cD r)⟩)] (.agg (cuR c r).cs) [] := by
  have ht : (cD r).take (m * 3) = cD r := List.take_of_length_le (by rw [cD_len]; omega)
  refine WkV.trans (WkV.forgetF (h' := [(30, ⟨m, .row (cD r)⟩)]) (fun j e he => ?_) (fun j hj => by rw [hp j] at hj; cases hj) ?_ ?_) (WkV.frz 30 (v' := .agg (cuR c r).cs) (h' := []) (ver := m) (cs := cD r) rfl (hp 30) (cD_into _ _) rfl ?_ ?_ WkV.refl)
  · simp only [Heap.get] at he ⊢
    split at he
    · rename_i h30; subst h30; exact he
    · cases he
  · simp only [V.into, intoL, V.into, intoL, cB_into, vB_into, cI_into, cR_into, cD_into, cS_into, vS_into, vI_into, vR_into, vD_into, cu_into, Bool.true_and, Bool.and_true, domP, Heap.get]; rfl
  · simp only [intoH, Blk.into, cD_into, Bool.and_self]
  · simp [V.frz, frzL, vI, vR, cI_frz, cR_frz, cuR, Cu.cs, vD, ht, hm]
  · simp [frzH]
set_option maxHeartbeats 2000000 in
theorem c_some (c : Cu) (k0 : CuOk c) (b : Nat) (hb : b < 32) : Pu Try.prog (.fn 54 [] []) [.agg c.cs, vi b] (.agg (cuR c (pickR c.readings b)).cs) := by
  have hrd := k0.rds
  refine Ev.fn Try.func54 rfl rfl (Fn.body tabOk Try.func54 rfl (Nat.le_of_ble_eq_true rfl) (Ks.ok (fz := (fzn [4, 5])) (cl := (cln [(7, .d (tgL [(30, 1)]) [cP, cL, cP, cL, cP, cP, cL, cP, some ([1], [1]), cP, cW])])) tabOk mixed ?_))
  generalize hQ : FnPost tt Try.f54 _ _ = Q
  simp only [Try.f54, List.nil_append, List.append_nil, List.cons_append, argsEnv, Nat.reduceAdd]
  simp only [gos, if_true, if_false, ne_eq, eq_self, Nat.reduceLT, Nat.reduceEqDiff, Nat.reduceAdd, Nat.reduceMul, Nat.reduceLeDiff, Nat.reduceBEq, reduceCtorEq, reduceIte, Array.toList, ↓reduceIte, tt, vgo, vout, vgoD, voutD, vclsOk, vids, mayWrite, V.ids, V.mids, vguard, callOf, vop, ev, cv, vbin, vint, isShift, isNilConst, vnil, isNilSlice, vload, vlen, newRow, vfill, vslice, entOf, vappend, srcOf, vcopy, vlookup, vupdate, mapOk, keyOf, intsOf, clsAt, Cu.cs]
  refine W.loop tabOk mixed (fun i : Nat => ([(1, vi b), (2, .rop c.cs), (4, .ptr 4 0 0), (5, .ptr 5 0 0), (6, vi i)], [(4, ⟨0, .row [vi 0, vi 0, vi 0, vi 0, vi 0, .sl0, .sl0, vi 0, vi 0, .sl0, .sl0]⟩), (5, ⟨0, .row [vi c.last, vi c.start, vi c.most, vi c.per, vi c.shovels, vI c.coal, vI c.want, vi c.heat.lo, vi c.heat.hi, vR c.loss, .own 30 (pickN c.readings b i).length 0 3 (pickN c.readings b i).length]⟩), (30, ⟨(pickN c.readings b i).length, .row (cD (pickN c.readings b i))⟩)])) (fun i => c.readings.length - i) (fun i => i ≤ c.readings.length) 0 (by omega)
    (Wk.trans (Wk.sl0H 5 10 30 3 rfl rfl rfl) (Wk.env (by simp [subE, Env.get, Cu.cs]))) ?_
  intro i hi
  have hc10 : (List.drop 10 c.cs).head? = some (vD c.readings) := rfl
  have hpl := pickN_len c.readings b i
  by_cases hil : (i : Int) < c.readings.length
  · have hw := u64_in (n := (i : Int)) (by omega) (by omega)
    have hn : ¬ (i : Int) < 0 := by omega
    have hs := shr5 hb (p := i) (by omega)
    have hbt := bit5 hb (p := i) (by omega)
    have z2 : ¬ (2 : Int) = 0 := by omega
    have hl : (cD (pickN c.readings b i)).length = (pickN c.readings b i).length * 3 := cD_len _
    have hl9 : (pickN c.readings b i).length ≤ 999999 := by omega
    simp only [gos, if_true, if_false, ne_eq, eq_self, Nat.reduceLT, Nat.reduceEqDiff, Nat.reduceAdd, Nat.reduceMul, Nat.reduceLeDiff, Nat.reduceBEq, reduceCtorEq, reduceIte, Array.toList, ↓reduceIte, tt, vgo, vout, vgoD, voutD, vclsOk, vids, mayWrite, V.ids, V.mids, vguard, callOf, vop, ev, cv, vbin, vint, isShift, isNilConst, vnil, isNilSlice, vload, vlen, newRow, vfill, vslice, entOf, vappend, srcOf, vcopy, vlookup, vupdate, mapOk, keyOf, intsOf, clsAt, hc10, vD, hil, hw, hn, hs, z2, hbt]
    have hstep : pickN c.readings b (i + 1) = if b.testBit i then pickN c.readings b i ++ [gD c.readings i] else pickN c.readings b i := rfl
    cases ht : b.testBit i with
    | true =>
      rw [ht, if_pos rfl] at hstep
      simp only [gos, if_true, if_false, ne_eq, eq_self, Nat.reduceLT, Nat.reduceEqDiff, Nat.reduceAdd, Nat.reduceMul, Nat.reduceLeDiff, Nat.reduceBEq, reduceCtorEq, reduceIte, Array.toList, ↓reduceIte, tt, vgo, vout, vgoD, voutD, vclsOk, vids, mayWrite, V.ids, V.mids, vguard, callOf, vop, ev, cv, vbin, vint, isShift, isNilConst, vnil, isNilSlice, vload, vlen, newRow, vfill, vslice, entOf, vappend, srcOf, vcopy, vlookup, vupdate, mapOk, keyOf, intsOf, clsAt]
      refine Wr.draw (by kernel_rfl) ?_
      simp only [gos, if_true, if_false, ne_eq, eq_self, Nat.reduceLT, Nat.reduceEqDiff, Nat.reduceAdd, Nat.reduceMul, Nat.reduceLeDiff, Nat.reduceBEq, reduceCtorEq, reduceIte, Array.toList, ↓reduceIte, tt, vgo, vout, vgoD, voutD, vclsOk, vids, mayWrite, V.ids, V.mids, vguard, callOf, vop, ev, cv, vbin, vint, isShift, isNilConst, vnil, isNilSlice, vload, vlen, newRow, vfill, vslice, entOf, vappend, srcOf, vcopy, vlookup, vupdate, mapOk, keyOf, intsOf, clsAt, hc10, vD, hil, cD_at (Int.natCast_nonneg i) hil, hl, hl9]
      refine Nx.mk (i + 1) (show c.readings.length - (i + 1) < c.readings.length - i by omega) (by omega) (Wk.heap (fun j => ?_) ?_)
      · rw [hstep, cD_snoc, List.length_append]; rfl
      · simp [subE, Env.get, hstep, i64_succ (show (i : Int) < 9223372036854775807 by omega)]
    | false =>
      rw [ht, if_neg (by simp)] at hstep
      simp only [gos, if_true, if_false, ne_eq, eq_self, Nat.reduceLT, Nat.reduceEqDiff, Nat.reduceAdd, Nat.reduceMul, Nat.reduceLeDiff, Nat.reduceBEq, reduceCtorEq, reduceIte, Array.toList, ↓reduceIte, tt, vgo, vout, vgoD, voutD, vclsOk, vids, mayWrite, V.ids, V.mids, vguard, callOf, vop, ev, cv, vbin, vint, isShift, isNilConst, vnil, isNilSlice, vload, vlen, newRow, vfill, vslice, entOf, vappend, srcOf, vcopy, vlookup, vupdate, mapOk, keyOf, intsOf, clsAt]
      exact Nx.mk (i + 1) (show c.readings.length - (i + 1) < c.readings.length - i by omega) (by omega) (by rw [hstep]; exact Wk.env (by simp [subE, Env.get, i64_succ (show (i : Int) < 9223372036854775807 by omega)]))
  · have hie : i = c.readings.length := by omega
    simp only [gos, if_true, if_false, ne_eq, eq_self, Nat.reduceLT, Nat.reduceEqDiff, Nat.reduceAdd, Nat.reduceMul, Nat.reduceLeDiff, Nat.reduceBEq, reduceCtorEq, reduceIte, Array.toList, ↓reduceIte, tt, vgo, vout, vgoD, voutD, vclsOk, vids, mayWrite, V.ids, V.mids, vguard, callOf, vop, ev, cv, vbin, vint, isShift, isNilConst, vnil, isNilSlice, vload, vlen, newRow, vfill, vslice, entOf, vappend, srcOf, vcopy, vlookup, vupdate, mapOk, keyOf, intsOf, clsAt, hc10, vD, hil]
    subst hQ
    rw [pickR, ← hie]
    exact FnPost.plain trivial (v := .agg [vi c.last, vi c.start, vi c.most, vi c.per, vi c.shovels, vI c.coal, vI c.want, vi c.heat.lo, vi c.heat.hi, vR c.loss, .own 30 (pickN c.readings b i).length 0 3 (pickN c.readings b i).length]) (fun h2 e => by simp only [Try.f54, vres, vresL, vres1, gos, if_true, if_false, ne_eq, eq_self, Nat.reduceLT, Nat.reduceEqDiff, Nat.reduceAdd, Nat.reduceMul, Nat.reduceLeDiff, Nat.reduceBEq, reduceCtorEq, reduceIte, Array.toList, ↓reduceIte, tt, vgo, vout, vgoD, voutD, vclsOk, vids, mayWrite, V.ids, V.mids, vguard, callOf, vop, ev, cv, vbin, vint, isShift, isNilConst, vnil, isNilSlice, vload, vlen, newRow, vfill, vslice, entOf, vappend, srcOf, vcopy, vlookup, vupdate, mapOk, keyOf, intsOf, clsAt, e _]) (wk_some c _ _ rfl _ _ _ (fun _ => rfl)) ⟨rfl, rfl⟩
end Go.Vm
set_option linter.unusedVariables false
set_option linter.unusedSimpArgs false
set_option maxRecDepth 100000
namespace Go.Vm
/-! ### plain law: which readings can be right together -/
def possN (c : Cu) (b : Nat) : Bool := (truths c).any fun s => (List.range c.readings.length).all fun i => !b.testBit i || sRead1 c s [] i
theorem range_all_congr {n : Nat} {f g : Nat → Bool} (h : ∀ i, i < n → f i = g i) : (List.range n).all f = (List.range n).all g := by
  rw [Bool.eq_iff_iff, List.all_eq_true, List.all_eq_true]
  exact ⟨fun a i hi => by rw [← h i (List.mem_range.1 hi)]; exact a i hi, fun a i hi => by rw [h i (List.mem_range.1 hi)]; exact a i hi⟩
theorem any_congr {α : Type} {l : List α} {f g : α → Bool} (h : ∀ x ∈ l, f x = g x) : l.any f = l.any g := by
  rw [Bool.eq_iff_iff, List.any_eq_true, List.any_eq_true]
  exact ⟨fun ⟨x, hx, a⟩ => ⟨x, hx, by rw [← h x hx]; exact a⟩, fun ⟨x, hx, a⟩ => ⟨x, hx, by rw [h x hx]; exact a⟩⟩
theorem read1_out (c : Cu) (s : Sc) (out : List Int) (i : Nat) : sRead1 c s out i = ((out.any fun y => decide ((i : Int) = y)) || sRead1 c s [] i) := by
  simp only [sRead1, List.any_nil, Bool.false_or]
/-- 1: with some readings left out. -/
theorem poss_out {c : Cu} {out : List Int} {b : Nat} (h : ∀ i : Nat, i < c.readings.length → b.testBit i = !(out.any fun y => decide ((i : Int) = y))) : sPoss c out = possN c b := by
  refine any_congr fun s _ => range_all_congr fun i hi => ?_
  rw [read1_out, h i hi, Bool.not_not]
/-- 2: the reference's sets. -/
def bitsN (f : Nat → Bool) : Nat → Nat
  | 0 => 0
  | i + 1 => if f i then 2 ^ i + bitsN f i else bitsN f i
theorem bitsN_lt (f : Nat → Bool) : ∀ n, bitsN f n < 2 ^ n
  | 0 => by simp [bitsN]
  | n + 1 => by
    have := bitsN_lt f n
    have e : (2 : Nat) ^ (n + 1) = 2 ^ n + 2 ^ n := by rw [Nat.pow_succ]; omega
    rw [bitsN]; split <;> omega
theorem bitsN_I (f : Nat → Bool) : ∀ n, ((bitsN f n : Nat) : Int) = bitsI f n
  | 0 => rfl
  | n + 1 => by
    rw [bitsN, bitsI]
    split
    · rw [Int.natCast_add, bitsN_I f n, Int.natCast_pow]
      show (2 : Int) ^ n + bitsI f n = bitsI f n + 2 ^ n
      omega
    · exact bitsN_I f n
theorem bitsN_test (f : Nat → Bool) : ∀ n i, (bitsN f n).testBit i = (decide (i < n) && f i)
  | 0, i => by simp [bitsN]
  | n + 1, i => by
    have hl := bitsN_lt f n
    rw [bitsN]
    rcases Nat.lt_trichotomy i n with h | h | h
    · rw [decide_eq_true (show i < n + 1 by omega), Bool.true_and]
      have ih := bitsN_test f n i
      rw [decide_eq_true h, Bool.true_and] at ih
      split
      · rw [Nat.testBit_two_pow_add_gt h, ih]
      · exact ih
    · subst h
      rw [decide_eq_true (show i < i + 1 by omega), Bool.true_and]
      have ih : (bitsN f i).testBit i = false := Nat.testBit_lt_two_pow hl
      split
      · rename_i hf; rw [Nat.testBit_two_pow_add_eq, ih, hf]; rfl
      · rename_i hf; rw [ih]; simpa using hf
    · rw [decide_eq_false (show ¬ i < n + 1 by omega), Bool.false_and]
      have hb : (if f n = true then 2 ^ n + bitsN f n else bitsN f n) < 2 ^ i := by
        have e : (2 : Nat) ^ (n + 1) = 2 ^ n + 2 ^ n := by rw [Nat.pow_succ]; omega
        have := Nat.pow_le_pow_right (n := 2) (by omega) (show n + 1 ≤ i by omega)
        split <;> omega
      exact Nat.testBit_lt_two_pow hb
theorem canA_bits {a r : Nat} (ha : a < 32) (hr : r < 32) : canA (r : Int) (a : Int) = (List.range 5).all fun i => !r.testBit i || a.testBit i := by
  have : ∀ a r : Fin 32, canA (((r : Nat) : Int)) (((a : Nat) : Int)) = (List.range 5).all fun i => !(r : Nat).testBit i || (a : Nat).testBit i := by decide +kernel
  exact this ⟨a, ha⟩ ⟨r, hr⟩
theorem pow5 {n : Nat} (h : n < 6) : 2 ^ n ≤ 32 := Nat.pow_le_pow_right (n := 2) (by omega) (show n ≤ 5 by omega)
theorem canA_right {c : Cu} (k0 : CuOk c) (t : Tr2) {r : Nat} (hr : r < 2 ^ c.readings.length) : canA (r : Int) (rRight c t) = (List.range c.readings.length).all fun i => !r.testBit i || rOk c t i := by
  have hn := k0.rds
  have hp := pow5 (n := c.readings.length) (by omega)
  have hb := bitsN_lt (rOk c t) c.readings.length
  rw [rRight, ← bitsN_I, canA_bits (by omega) (by omega), Bool.eq_iff_iff, List.all_eq_true, List.all_eq_true]
  simp only [List.mem_range, bitsN_test]
  constructor
  · intro h i hi
    have := h i (by omega)
    rwa [decide_eq_true hi, Bool.true_and] at this
  · intro h i hi
    by_cases hin : i < c.readings.length
    · rw [decide_eq_true hin, Bool.true_and]; exact h i hin
    · have : r.testBit i = false := Nat.testBit_lt_two_pow (Nat.lt_of_lt_of_le hr (Nat.pow_le_pow_right (by omega) (by omega)))
      rw [this]; rfl
theorem poss_can {c : Cu} (k0 : CuOk c) {r : Nat} (hr : r < 2 ^ c.readings.length) : rCan (rAll c) (r : Int) = possN c r := by
  have key : ∀ t, canA (r : Int) (rRight c t) = (List.range c.readings.length).all fun i => !r.testBit i || sRead1 c (tS t) [] i := fun t => by
    rw [canA_right k0 t hr]
    exact range_all_congr fun i hi => by rw [rOk_eq k0 t hi]
  rw [Bool.eq_iff_iff, rCan, possN, List.any_eq_true, List.any_eq_true]
  constructor
  · rintro ⟨a, ha, hc⟩
    simp only [rAll, rAllN, List.mem_map, List.mem_range] at ha
    obtain ⟨j, hj, rfl⟩ := ha
    exact ⟨tS (rNth c j), (mem_truths k0 _).2 ⟨_, nth_listed k0 (Int.natCast_nonneg j), rfl⟩, by rw [← key]; exact hc⟩
  · rintro ⟨s, hs, hc⟩
    obtain ⟨t, ht, rfl⟩ := (mem_truths k0 _).1 hs
    obtain ⟨j, hj, rfl⟩ := nth_surj k0 ht
    refine ⟨rRight c (rNth c j), ?_, by rw [key]; exact hc⟩
    simp only [rAll, rAllN, List.mem_map, List.mem_range]
    exact ⟨j, by omega, rfl⟩
/-- 3: other readings. -/
def rdOk (c : Cu) (s : Sc) (r : Rd) : Bool := sIn (gi (sPlay c s c.coal c.want (c.last + 1).toNat).2.hot r.hour) r.b.lo r.b.hi
theorem read1_ok (c : Cu) (s : Sc) (i : Nat) : sRead1 c s [] i = rdOk c s (gD c.readings i) := by simp only [sRead1, List.any_nil, Bool.false_or]; rfl
theorem range_gD (l : List Rd) (f : Rd → Bool) : ((List.range l.length).all fun i => f (gD l i)) = l.all f := by
  rw [Bool.eq_iff_iff, List.all_eq_true, List.all_eq_true]
  constructor
  · intro h x hx
    obtain ⟨i, hi, rfl⟩ := List.mem_iff_getElem.1 hx
    have := h i (List.mem_range.2 hi)
    rwa [gD, Int.toNat_natCast, List.getD_eq_getElem?_getD, List.getElem?_eq_getElem hi] at this
  · intro h i hi
    rw [List.mem_range] at hi
    exact h _ (List.mem_of_getElem? (gD_get (l := l) (i := i) (by omega)))
theorem right_all (c : Cu) (s : Sc) : sRight c s [] = c.readings.all (rdOk c s) := by
  rw [← range_gD, sRight]
  exact range_all_congr fun i _ => read1_ok c s i
theorem cuR_listed (c : Cu) (l : List Rd) (t : Tr2) : Listed (cuR c l) t ↔ Listed c t := ⟨fun h => ⟨h.heat, h.len, h.loss⟩, fun h => ⟨h.heat, h.len, h.loss⟩⟩
theorem cuR_rdOk (c : Cu) (l : List Rd) (s : Sc) (r : Rd) : rdOk (cuR c l) s r = rdOk c s r := by
  simp only [rdOk, sPlay_cu c (cuR c l) rfl rfl rfl]; rfl
theorem any_truths {c x : Cu} (k0 : CuOk c) (kx : CuOk x) (h : ∀ t, Listed x t ↔ Listed c t) (f : Sc → Bool) : (truths x).any f = (truths c).any f := by
  rw [Bool.eq_iff_iff, List.any_eq_true, List.any_eq_true]
  constructor
  · rintro ⟨s, hs, hf⟩
    obtain ⟨t, ht, rfl⟩ := (mem_truths kx _).1 hs
    exact ⟨_, (mem_truths k0 _).2 ⟨t, (h t).1 ht, rfl⟩, hf⟩
  · rintro ⟨s, hs, hf⟩
    obtain ⟨t, ht, rfl⟩ := (mem_truths k0 _).1 hs
    exact ⟨_, (mem_truths kx _).2 ⟨t, (h t).2 ht, rfl⟩, hf⟩
theorem poss_cuR {c : Cu} (k0 : CuOk c) {l : List Rd} (kx : CuOk (cuR c l)) : sPoss (cuR c l) [] = (truths c).any fun s => l.all (rdOk c s) := by
  rw [sPoss, any_truths k0 kx (cuR_listed c l)]
  refine any_congr fun s _ => ?_
  rw [right_all]
  congr 1
  funext r
  exact cuR_rdOk c l s r
theorem pick_all (l : List Rd) (b : Nat) (f : Rd → Bool) : ∀ n, (pickN l b n).all f = (List.range n).all fun i => !b.testBit i || f (gD l i)
  | 0 => rfl
  | n + 1 => by
    rw [pickN, List.range_succ, List.all_append, ← pick_all l b f n]
    split
    · rename_i h; rw [List.all_append]; simp [h]
    · rename_i h; simp [h]
theorem pick_ok {c : Cu} (k0 : CuOk c) (b : Nat) : CuOk (cuR c (pickR c.readings b)) :=
  ⟨k0.last, by have := k0.rds; have := pickN_len c.readings b c.readings.length; simp only [cuR, pickR]; omega, k0.most, k0.start, k0.per, k0.shovels, k0.coal, k0.want, k0.heat, k0.loss, fun r hr => k0.readings r (pickN_mem _ _ _ (Nat.le_refl _) r hr), k0.many⟩
theorem poss_pick {c : Cu} (k0 : CuOk c) (b : Nat) : sPoss (cuR c (pickR c.readings b)) [] = possN c b := by
  rw [poss_cuR k0 (pick_ok k0 b), possN]
  refine any_congr fun s _ => ?_
  rw [pickR, pick_all]
  exact range_all_congr fun i _ => by rw [read1_ok]
theorem take_all (l : List Rd) (f : Rd → Bool) : ∀ n, n ≤ l.length → (l.take n).all f = (List.range n).all fun i => f (gD l i)
  | 0, _ => rfl
  | n + 1, h => by
    have e : l.take (n + 1) = l.take n ++ [gD l n] := by rw [List.take_add_one, gD_get (by omega)]; rfl
    rw [e, List.range_succ, List.all_append, List.all_append, take_all l f n (by omega)]; rfl
theorem testBit_ones {k i : Nat} : (2 ^ k - 1).testBit i = decide (i < k) := Nat.testBit_two_pow_sub_one k i
theorem poss_cut {c : Cu} (k0 : CuOk c) {k : Nat} (hk : k ≤ c.readings.length) : sPoss (cut c k) [] = possN c (2 ^ k - 1) := by
  have e : cut c k = cuR c (c.readings.take k) := rfl
  have := poss_cuR k0 (l := c.readings.take k) (cut_ok k0 k)
  rw [e, this, possN]
  refine any_congr fun s _ => ?_
  rw [take_all _ _ _ hk, Bool.eq_iff_iff, List.all_eq_true, List.all_eq_true]
  simp only [List.mem_range, testBit_ones, read1_ok]
  constructor
  · intro h i hi
    by_cases hik : i < k
    · rw [h i hik]; simp
    · rw [decide_eq_false hik]; rfl
  · intro h i hi
    have := h i (by omega)
    rwa [decide_eq_true hi] at this
/-- 4: there is a truth. -/
theorem asked_poss {x : Cu} (kx : CuOk x) : sAsked x true = if sPoss x [] = true then 0 else 11 := by
  have hne : sTruth x = [] ↔ ¬ sPoss x [] = true := by
    rw [sPoss, List.any_eq_true, List.eq_nil_iff_forall_not_mem]
    constructor
    · rintro h ⟨s, hs, hr⟩; exact h s ((mem_sTruth x s).2 ⟨hs, hr⟩)
    · intro h s hs; exact h ⟨s, (mem_sTruth x s).1 hs⟩
  rw [sAsked, if_neg (by simp [chk_of kx]), if_neg (by simp)]
  by_cases h : sPoss x [] = true
  · rw [if_pos h, if_neg (fun e => hne.1 e h)]
  · rw [if_neg h, if_pos (hne.2 h)]
theorem keeps_err (x : Cu) : (sKeepsA x).2 = sAsked x true := by
  rw [sKeepsA]; split
  · rename_i h; rw [h]
  · rfl
/-! ### the smallest set -/
def combos (n : Nat) : Nat → List Int → Int → List (List Int)
  | 0, out, _ => [out]
  | m + 1, out, first => (rangeI first ((n : Int) - ((m + 1 : Nat) : Int))).flatMap fun i => combos n m (out ++ [i]) (i + 1)
def allSets (n : Nat) : List (List Int) := (rangeI 0 n).flatMap fun m => combos n m.toNat [] 0
theorem leaveF_find (c : Cu) : ∀ (m : Nat) (out : List Int) (first : Int), leaveF c m out first = (combos c.readings.length m out first).find? (sPoss c)
  | 0, out, first => by
    rw [leaveF, combos, List.find?_cons]
    cases h : sPoss c out <;> simp [h]
  | m + 1, out, first => by
    rw [leaveF, combos, List.find?_flatMap]
    congr 1
    funext i
    exact leaveF_find c m _ _
theorem leaveAll_find (c : Cu) : leaveAll c = (allSets c.readings.length).find? (sPoss c) := by
  rw [leaveAll, allSets, List.find?_flatMap]
  congr 1
  funext i
  exact leaveF_find c _ _ _
def perm (n : Nat) : List Nat := (allSets n).map fun l => l.foldl (fun a x => a + 2 ^ x.toNat) 0
theorem perm_sets {n : Nat} (h : n < 6) : allSets n = (perm n).map sBits := by
  have : ∀ n : Fin 6, allSets n = (perm n).map sBits := by decide +kernel
  exact this ⟨n, h⟩
theorem perm_mem {n b : Nat} (h : n < 6) (hb : b < 2 ^ n) : b ∈ perm n := by
  have : ∀ n : Fin 6, ∀ b : Fin 32, (b : Nat) < 2 ^ (n : Nat) → (b : Nat) ∈ perm n := by decide +kernel
  exact this ⟨n, h⟩ ⟨b, by have := pow5 h; omega⟩ hb
theorem perm_lt {n : Nat} (h : n < 6) : ∀ b ∈ perm n, b < 2 ^ n := by
  have : ∀ n : Fin 6, ∀ b ∈ perm n, b < 2 ^ (n : Nat) := by decide +kernel
  exact this ⟨n, h⟩
theorem perm_rk {n a b : Nat} (h : n < 6) (ha : a < 2 ^ n) (hb : b < 2 ^ n) : lShorter (sBits a) (sBits b) = decide ((perm n).idxOf a < (perm n).idxOf b) := by
  have : ∀ n : Fin 6, ∀ a b : Fin 32, (a : Nat) < 2 ^ (n : Nat) → (b : Nat) < 2 ^ (n : Nat) → lShorter (sBits a) (sBits b) = decide ((perm n).idxOf (a : Nat) < (perm n).idxOf (b : Nat)) := by decide +kernel
  have hp := pow5 h
  exact this ⟨n, h⟩ ⟨a, by omega⟩ ⟨b, by omega⟩ ha hb
theorem mask_bits {n b i : Nat} (h : n < 6) (hb : b < 2 ^ n) (hi : i < n) : (2 ^ n - 1 - b).testBit i = !((sBits b).any fun y => decide ((i : Int) = y)) := by
  have : ∀ n : Fin 6, ∀ b : Fin 32, (b : Nat) < 2 ^ (n : Nat) → ∀ i : Fin 5, (i : Nat) < (n : Nat) → (2 ^ (n : Nat) - 1 - (b : Nat)).testBit i = !((sBits b).any fun y => decide ((((i : Nat) : Int)) = y)) := by decide +kernel
  have hp := pow5 h
  exact this ⟨n, h⟩ ⟨b, by omega⟩ hb ⟨i, by omega⟩ hi
theorem find_congr {α : Type} {p q : α → Bool} : ∀ {l : List α}, (∀ x ∈ l, p x = q x) → l.find? p = l.find? q
  | [], _ => rfl
  | x :: l, h => by
    rw [List.find?_cons, List.find?_cons, h x (by simp), find_congr fun y hy => h y (by simp [hy])]
theorem find_first {p : Nat → Bool} : ∀ {l : List Nat} {x : Nat}, l.find? p = some x → p x = true ∧ x ∈ l ∧ ∀ y ∈ l, p y = true → l.idxOf x ≤ l.idxOf y
  | [], x, h => by simp at h
  | a :: l, x, h => by
    rw [List.find?_cons] at h
    split at h
    · rename_i ha
      injection h with h; subst h
      exact ⟨ha, by simp, fun y _ _ => by simp⟩
    · rename_i ha
      obtain ⟨h1, h2, h3⟩ := find_first h
      have hx : x ≠ a := fun e => by subst e; rw [h1] at ha; cases ha
      refine ⟨h1, by simp [h2], fun y hy hp => ?_⟩
      have hya : y ≠ a := fun e => by subst e; rw [hp] at ha; cases ha
      rw [List.mem_cons] at hy
      rcases hy with rfl | hy
      · exact absurd rfl hya
      · have e1 : (a == x) = false := by simp [Ne.symm hx]
        have e2 : (a == y) = false := by simp [Ne.symm hya]
        rw [List.idxOf_cons, List.idxOf_cons, e1, e2]
        have := h3 y hy hp
        simp only [cond_false]
        omega
/-- The reference's smallest set is the first one of all. -/
theorem fold_first (all : List Int) {n : Nat} (h : n < 6) (hfull : rCan all ((0 : Nat) : Int) = true) : ∀ i, i ≤ 2 ^ n →
    ∃ b, b < 2 ^ n ∧ rLeaveN all n i = sBits b ∧ rCan all ((2 ^ n - 1 - b : Nat) : Int) = true ∧ ∀ j, j < i → rCan all ((2 ^ n - 1 - j : Nat) : Int) = true → (perm n).idxOf b ≤ (perm n).idxOf j
  | 0, _ => ⟨2 ^ n - 1, by have := Nat.one_le_two_pow (n := n); omega, rfl, by rw [Nat.sub_self]; exact hfull, fun j hj => by omega⟩
  | i + 1, hi => by
    obtain ⟨b, h1, h2, h3, h4⟩ := fold_first all h hfull i (by omega)
    rw [rLeaveN_succ, leaveStep, h2, perm_rk h (show i < 2 ^ n by omega) h1]
    by_cases hc : (decide ((perm n).idxOf i < (perm n).idxOf b) && rCan all ((2 ^ n - 1 - i : Nat) : Int)) = true
    · rw [if_pos hc]
      rw [Bool.and_eq_true, decide_eq_true_eq] at hc
      refine ⟨i, by omega, rfl, hc.2, fun j hj hp => ?_⟩
      rcases Nat.lt_succ_iff_lt_or_eq.1 hj with hj | rfl
      · have := h4 j hj hp; omega
      · exact Nat.le_refl _
    · rw [if_neg hc]
      refine ⟨b, h1, rfl, h3, fun j hj hp => ?_⟩
      rcases Nat.lt_succ_iff_lt_or_eq.1 hj with hj | rfl
      · exact h4 j hj hp
      · rw [Bool.and_eq_true, decide_eq_true_eq] at hc
        rcases Nat.lt_or_ge ((perm n).idxOf j) ((perm n).idxOf b) with hlt | hge
        · exact absurd ⟨hlt, hp⟩ hc
        · exact hge
theorem idxOf_inj {l : List Nat} {x y : Nat} (hx : x ∈ l) (hy : y ∈ l) (h : l.idxOf x = l.idxOf y) : x = y := by
  have h1 := List.getElem_idxOf (List.idxOf_lt_length_iff.2 hx)
  have h2 := List.getElem_idxOf (List.idxOf_lt_length_iff.2 hy)
  rw [← h1, ← h2]
  simp only [h]
theorem poss_zero {c : Cu} (k0 : CuOk c) : possN c 0 = true := by
  obtain ⟨x, hx⟩ := List.exists_mem_of_ne_nil _ (truths_ne k0)
  rw [possN, List.any_eq_true]
  exact ⟨x, hx, by simp⟩
/-- What the program finds: the first set, and what is so of it. -/
theorem leave_first {c : Cu} (k0 : CuOk c) : ∃ b, b < 2 ^ c.readings.length ∧ leaveAll c = some (sBits b) ∧ possN c (2 ^ c.readings.length - 1 - b) = true ∧
    ∀ j, j < 2 ^ c.readings.length → possN c (2 ^ c.readings.length - 1 - j) = true → (perm c.readings.length).idxOf b ≤ (perm c.readings.length).idxOf j := by
  have hn : c.readings.length < 6 := by have := k0.rds; omega
  obtain ⟨l, hl⟩ := leaveAll_some k0
  have e : (allSets c.readings.length).find? (sPoss c) = ((perm c.readings.length).find? fun b => possN c (2 ^ c.readings.length - 1 - b)).map sBits := by
    rw [perm_sets hn, List.find?_map]
    congr 1
    refine find_congr fun b hb => ?_
    exact poss_out fun i hi => mask_bits hn (perm_lt hn b hb) hi
  rw [leaveAll_find, e] at hl
  cases hf : (perm c.readings.length).find? fun b => possN c (2 ^ c.readings.length - 1 - b) with
  | none => rw [hf] at hl; cases hl
  | some b =>
    obtain ⟨h1, h2, h3⟩ := find_first hf
    exact ⟨b, perm_lt hn b h2, by rw [leaveAll_find, e, hf]; rfl, h1, fun j hj hp => h3 j (perm_mem hn hj) hp⟩
theorem leave_same {c : Cu} (k0 : CuOk c) : leaveAll c = some (rLeave c (rAll c)) := by
  have hn : c.readings.length < 6 := by have := k0.rds; omega
  obtain ⟨b, h1, h2, h3, h4⟩ := leave_first k0
  have hz : rCan (rAll c) ((0 : Nat) : Int) = true := by rw [poss_can k0 (Nat.two_pow_pos _)]; exact poss_zero k0
  obtain ⟨x, g1, g2, g3, g4⟩ := fold_first (rAll c) hn hz (2 ^ c.readings.length) (Nat.le_refl _)
  have hp := Nat.two_pow_pos c.readings.length
  rw [poss_can k0 (by omega)] at g3
  have a1 := h4 x g1 g3
  have a2 := g4 b h1 (by rw [poss_can k0 (by omega)]; exact h3)
  have := idxOf_inj (perm_mem hn h1) (perm_mem hn g1) (by omega)
  rw [h2, rLeave, g2, this]
theorem first_same {c : Cu} (k0 : CuOk c) : rFirst c (rAll c) = match (List.range c.readings.length).find? fun i => !(sPoss (cut c (i + 1)) []) with
    | some i => (i : Int)
    | none => -1 := by
  have : (List.range c.readings.length).find? (fun i => !rCan (rAll c) (2 ^ (i + 1) - 1)) = (List.range c.readings.length).find? fun i => !(sPoss (cut c (i + 1)) []) := by
    refine find_congr fun i hi => ?_
    rw [List.mem_range] at hi
    have h1 : 1 ≤ 2 ^ (i + 1) := Nat.one_le_two_pow
    have h2 : 2 ^ (i + 1) ≤ 2 ^ c.readings.length := Nat.pow_le_pow_right (by omega) (by omega)
    have e : (2 : Int) ^ (i + 1) - 1 = ((2 ^ (i + 1) - 1 : Nat) : Int) := by rw [Int.natCast_sub h1, Int.natCast_pow]; rfl
    rw [e, poss_can k0 (by omega), poss_cut k0 (by omega)]
  rw [rFirst, this]
  try rfl
end Go.Vm
set_option linter.unusedVariables false
set_option linter.unusedSimpArgs false
set_option maxRecDepth 100000
namespace Go.Vm
theorem pow_cast {k : Nat} : (2 : Int) ^ k - 1 = ((2 ^ k - 1 : Nat) : Int) := by
  rw [Int.natCast_sub Nat.one_le_two_pow, Int.natCast_pow]; rfl
/-- What Keeps says of coppers with some of their readings. -/
theorem keeps_pick {c : Cu} (k0 : CuOk c) (b : Nat) : (sKeepsA (cuR c (pickR c.readings b))).2 = if possN c b = true then 0 else 11 := by
  rw [keeps_err, asked_poss (pick_ok k0 b), poss_pick k0]
theorem poss_all {c : Cu} (k0 : CuOk c) : sPoss c [] = possN c (2 ^ c.readings.length - 1) := by
  have e : cut c c.readings.length = c := by simp only [cut, List.take_length]
  have := poss_cut k0 (Nat.le_refl c.readings.length)
  rwa [e] at this
theorem poss_mono {c : Cu} {a b : Nat} (h : ∀ i, i < c.readings.length → b.testBit i = true → a.testBit i = true) (ha : possN c a = true) : possN c b = true := by
  rw [possN, List.any_eq_true] at ha ⊢
  obtain ⟨s, hs, h1⟩ := ha
  refine ⟨s, hs, ?_⟩
  rw [List.all_eq_true] at h1 ⊢
  intro i hi
  have := h1 i hi
  have h2 := h i (List.mem_range.1 hi)
  cases hb : b.testBit i with
  | false => rfl
  | true => rw [h2 hb] at this; simpa using this
theorem perm_zero {n : Nat} (h : n < 6) : (perm n).idxOf 0 = 0 := by
  have : ∀ n : Fin 6, (perm n).idxOf 0 = 0 := by decide +kernel
  exact this ⟨n, h⟩
/-- There is a truth: nothing is left out. -/
theorem leave_nil {c : Cu} (k0 : CuOk c) (h : sPoss c [] = true) : leaveAll c = some [] := by
  have hn : c.readings.length < 6 := by have := k0.rds; omega
  obtain ⟨b, h1, h2, h3, h4⟩ := leave_first k0
  have h5 := h4 0 (Nat.two_pow_pos _) (by rw [Nat.sub_zero, ← poss_all k0]; exact h)
  rw [perm_zero hn] at h5
  have := idxOf_inj (perm_mem hn h1) (perm_mem hn (Nat.two_pow_pos _)) (by rw [perm_zero hn]; omega)
  rw [h2, this]; rfl
theorem first_none {c : Cu} (k0 : CuOk c) (h : sPoss c [] = true) : sFirstA c = (0, 7) := by
  rw [poss_all k0] at h
  have : (List.range c.readings.length).find? (fun i => !(sPoss (cut c (i + 1)) [])) = none := by
    rw [List.find?_eq_none]
    intro i hi
    rw [List.mem_range] at hi
    rw [poss_cut k0 (by omega), poss_mono (fun j _ hj => by rw [testBit_ones] at hj ⊢; simp at hj ⊢; omega) h]; simp
  simp only [sFirstA, chk_of k0, if_true, this]
theorem gi_nI {n : Int} {f : Int → Int} {i : Nat} (h : (i : Int) < n) : gi (nI n f) i = f i := by
  simp only [gi, nI, Int.toNat_natCast, List.getD_eq_getElem?_getD, List.getElem?_map]
  rw [List.getElem?_range (by omega)]; rfl
theorem gR_nR {n : Int} {f : Int → Rg} {i : Nat} (h : (i : Int) < n) : gR (nR n f) i = f i := by
  simp only [gR, nR, Int.toNat_natCast, List.getD_eq_getElem?_getD, List.getElem?_map]
  rw [List.getElem?_range (by omega)]; rfl
theorem nR_len' (n : Int) (f : Int → Rg) : ((nR n f).length : Int) = ((n.toNat : Nat) : Int) := by simp [nR]
theorem nI_len' (n : Int) (f : Int → Int) : ((nI n f).length : Int) = ((n.toNat : Nat) : Int) := by simp [nI]
theorem rB_in {ys : List Int} {y : Int} (h : y ∈ ys) : sIn y (rB ys).lo (rB ys).hi = true := by
  obtain ⟨g1, g2, g3, g4, g5, g6⟩ := fold_wider ys rEmpty
  simp only [sIn, Bool.and_eq_true, decide_eq_true_eq]
  exact ⟨g2 y h, g5 y h⟩
/-- A verdict, in a truth. -/
theorem keeps_in {c : Cu} {l : List Tr2} {t : Tr2} (ht : t ∈ l) (k : Nat) : 1 ≤ rKeeps c l k ∧ rKeeps c l k ≤ 3 ∧ (rKeeps c l k = 1 → keptI c c.coal c.want t k = true) ∧ (rKeeps c l k = 2 → keptI c c.coal c.want t k = false) := by
  have hne : l ≠ [] := List.ne_nil_of_mem ht
  rw [rKeeps, rVerdict_count _ hne]
  by_cases h1 : (l.all fun t => keptI c c.coal c.want t k) = true
  · rw [if_pos h1]
    exact ⟨by omega, by omega, fun _ => List.all_eq_true.1 h1 t ht, fun h => by omega⟩
  · rw [if_neg h1]
    by_cases h2 : (l.any fun t => keptI c c.coal c.want t k) = true
    · rw [if_pos h2]
      exact ⟨by omega, by omega, fun h => by omega, fun h => by omega⟩
    · rw [if_neg h2]
      refine ⟨by omega, by omega, fun h => by omega, fun _ => ?_⟩
      rw [Bool.not_eq_true, List.any_eq_false] at h2
      simpa using h2 t ht
end Go.Vm
set_option linter.unusedVariables false
set_option linter.unusedSimpArgs false
set_option maxRecDepth 100000
namespace Go.Vm
open Go.Proofs
/-! ### the least coal of the reference -/
theorem sum_take {l : List Int} {i : Nat} (h : (i : Int) < l.length) : (l.take (i + 1)).sum = (l.take i).sum + gi l i := by
  have e : l.take (i + 1) = l.take i ++ [gi l i] := by
    rw [List.take_add_one, List.getElem?_eq_getElem (by omega), gi, Int.toNat_natCast, List.getD_eq_getElem?_getD, List.getElem?_eq_getElem (by omega)]; rfl
  rw [e, List.sum_append]; simp
theorem sum_le {l : List Int} (h : ∀ x ∈ l, 0 ≤ x ∧ x ≤ 3) : 0 ≤ l.sum ∧ l.sum ≤ 3 * l.length := by
  induction l with
  | nil => simp
  | cons x l ih =>
    have h1 := ih fun y hy => h y (by simp [hy])
    have h2 := h x (by simp)
    simp only [List.sum_cons, List.length_cons]; omega
theorem c_rShovels (l : List Int) (hl : (l.length : Int) ≤ 1000000) (h : ∀ x ∈ l, 0 ≤ x ∧ x ≤ 3) : Pu Try.prog (.fn 66 [] []) [vI l] (vi l.sum) := by
  refine Ev.fn Try.func66 rfl rfl (Fn.body tabOk Try.func66 rfl (Nat.le_of_ble_eq_true rfl) (Ks.ok (fz := (fzn [])) (cl := (cln [])) tabOk mixed ?_))
  generalize hQ : FnPost tt Try.f66 _ _ = Q
  simp only [Try.f66, List.nil_append, List.append_nil, List.cons_append, argsEnv, Nat.reduceAdd]
  simp only [gos, if_true, if_false, ne_eq, eq_self, Nat.reduceLT, Nat.reduceEqDiff, Nat.reduceAdd, Nat.reduceMul, Nat.reduceLeDiff, Nat.reduceBEq, reduceCtorEq, reduceIte, Array.toList, ↓reduceIte, tt, vgo, vout, vgoD, voutD, vclsOk, vids, mayWrite, V.ids, V.mids, vguard, callOf, vop, ev, cv, vbin, vint, isShift, isNilConst, vnil, isNilSlice, vload, vlen, newRow, vfill, vslice, entOf, vappend, srcOf, vcopy, vlookup, vupdate, mapOk, keyOf, intsOf, clsAt]
  refine W.loop tabOk mixed (fun i : Nat => ([(0, vI l), (3, vi (l.take i).sum), (4, vi i)], [])) (fun i => l.length - i) (fun i => i ≤ l.length) 0 (by omega) (Wk.env (by simp [subE, Env.get])) ?_
  intro i hi
  by_cases hil : (i : Int) < l.length
  · have hs := sum_take hil
    have hb := sum_le (l := l.take (i + 1)) fun x hx => h x (List.mem_of_mem_take hx)
    have hb2 : (l.take (i + 1)).length ≤ l.length := by rw [List.length_take]; omega
    rw [hs] at hb
    simp only [gos, if_true, if_false, ne_eq, eq_self, Nat.reduceLT, Nat.reduceEqDiff, Nat.reduceAdd, Nat.reduceMul, Nat.reduceLeDiff, Nat.reduceBEq, reduceCtorEq, reduceIte, Array.toList, ↓reduceIte, tt, vgo, vout, vgoD, voutD, vclsOk, vids, mayWrite, V.ids, V.mids, vguard, callOf, vop, ev, cv, vbin, vint, isShift, isNilConst, vnil, isNilSlice, vload, vlen, newRow, vfill, vslice, entOf, vappend, srcOf, vcopy, vlookup, vupdate, mapOk, keyOf, intsOf, clsAt, vI, hil, cI_at (Int.natCast_nonneg i) hil, i64_in (show -9223372036854775808 ≤ (l.take i).sum + gi l i by omega) (show (l.take i).sum + gi l i ≤ 9223372036854775807 by omega)]
    exact Nx.mk (i + 1) (show l.length - (i + 1) < l.length - i by omega) (by omega) (Wk.env (by simp [subE, Env.get, vI, hs, i64_succ (show (i : Int) < 9223372036854775807 by omega)]))
  · have e : l.take i = l := List.take_of_length_le (by omega)
    simp only [gos, if_true, if_false, ne_eq, eq_self, Nat.reduceLT, Nat.reduceEqDiff, Nat.reduceAdd, Nat.reduceMul, Nat.reduceLeDiff, Nat.reduceBEq, reduceCtorEq, reduceIte, Array.toList, ↓reduceIte, tt, vgo, vout, vgoD, voutD, vclsOk, vids, mayWrite, V.ids, V.mids, vguard, callOf, vop, ev, cv, vbin, vint, isShift, isNilConst, vnil, isNilSlice, vload, vlen, newRow, vfill, vslice, entOf, vappend, srcOf, vcopy, vlookup, vupdate, mapOk, keyOf, intsOf, clsAt, vI, hil, e]
    subst hQ
    exact FnPost.plain trivial (fun h2 e => by first | rfl | (simp only [Try.f66, vres, vresL, vres1, e _, gos, if_true, if_false, ne_eq, eq_self, Nat.reduceLT, Nat.reduceEqDiff, Nat.reduceAdd, Nat.reduceMul, Nat.reduceLeDiff, Nat.reduceBEq, reduceCtorEq, reduceIte, Array.toList, ↓reduceIte, tt, vgo, vout, vgoD, voutD, vclsOk, vids, mayWrite, V.ids, V.mids, vguard, callOf, vop, ev, cv, vbin, vint, isShift, isNilConst, vnil, isNilSlice, vload, vlen, newRow, vfill, vslice, entOf, vappend, srcOf, vcopy, vlookup, vupdate, mapOk, keyOf, intsOf, clsAt]; try rfl)) (WkV.pure (by simp only [V.into, intoL, cB_into, vB_into, cI_into, cR_into, cD_into, cS_into, vS_into, vI_into, vR_into, vD_into, cu_into, Bool.true_and, Bool.and_true])) ⟨rfl, rfl⟩
def bV : Option (List Int) → V
  | none => .sl0
  | some b => vI b
def lessO (x : List Int) : Option (List Int) → Bool
  | none => true
  | some b => decide (x.sum < b.sum)
def leastStep (c : Cu) (l : List Tr2) (o : Option (List Int)) (n : Nat) : Option (List Int) :=
  if (lessO (rCoal c n) o && decide (rWholes c l (rCoal c n) c.want = 1)) = true then some (rCoal c n) else o
def rLeastN (c : Cu) (l : List Tr2) (i : Nat) : Option (List Int) := (List.range i).foldl (leastStep c l) none
theorem rLeastN_succ (c : Cu) (l : List Tr2) (i : Nat) : rLeastN c l (i + 1) = leastStep c l (rLeastN c l i) i := by simp only [rLeastN, List.range_succ, List.foldl_append]; rfl
def rLeast (c : Cu) (l : List Tr2) : Option (List Int) := rLeastN c l (rCoals c).toNat
theorem rLeastN_ok {c : Cu} (k0 : CuOk c) (l : List Tr2) : ∀ i b, rLeastN c l i = some b → (b.length : Int) = c.last + 1 ∧ ∀ x ∈ b, 0 ≤ x ∧ x ≤ c.shovels
  | 0, b, h => by simp [rLeastN] at h
  | i + 1, b, h => by
    rw [rLeastN_succ, leastStep] at h
    split at h
    · injection h with h; subst h; exact rCoal_ok k0 (Int.natCast_nonneg i)
    · exact rLeastN_ok k0 l i b h
theorem coal_tr {c : Cu} (k0 : CuOk c) {coal : List Int} (h : (coal.length : Int) = c.last + 1 ∧ ∀ x ∈ coal, 0 ≤ x ∧ x ≤ c.shovels) {t : Tr2} (T : T2Ok c t) : TrOk c t coal c.want := ⟨coal_play k0 h T.sc, T.len⟩
set_option maxHeartbeats 1000000 in
theorem c_rLeast (c : Cu) (k0 : CuOk c) (l : List Tr2) (hl : (l.length : Int) ≤ 1000000) (hok : ∀ t ∈ l, T2Ok c t) : Pu Try.prog (.fn 67 [] []) [.agg c.cs, vT l] (.tup [vI ((rLeast c l).getD []), .bool (rLeast c l).isSome]) := by
  have hC := rCoals_le k0
  have hsh := k0.shovels
  have hla := k0.last
  refine Ev.fn Try.func67 rfl rfl (Fn.body tabOk Try.func67 rfl (Nat.le_of_ble_eq_true rfl) (Ks.ok (fz := (fzn [])) (cl := (cln [])) tabOk mixed ?_))
  generalize hQ : FnPost tt Try.f67 _ _ = Q
  simp only [Try.f67, List.nil_append, List.append_nil, List.cons_append, argsEnv, Nat.reduceAdd]
  simp only [gos, if_true, if_false, ne_eq, eq_self, Nat.reduceLT, Nat.reduceEqDiff, Nat.reduceAdd, Nat.reduceMul, Nat.reduceLeDiff, Nat.reduceBEq, reduceCtorEq, reduceIte, Array.toList, ↓reduceIte, tt, vgo, vout, vgoD, voutD, vclsOk, vids, mayWrite, V.ids, V.mids, vguard, callOf, vop, ev, cv, vbin, vint, isShift, isNilConst, vnil, isNilSlice, vload, vlen, newRow, vfill, vslice, entOf, vappend, srcOf, vcopy, vlookup, vupdate, mapOk, keyOf, intsOf, clsAt]
  refine W.loop tabOk mixed (fun i : Nat => ([(1, vT l), (2, .rop c.cs), (6, bV (rLeastN c l i)), (7, .bool (rLeastN c l i).isSome), (8, vi i)], [])) (fun i => (rCoals c).toNat - i) (fun i => i ≤ (rCoals c).toNat) 0 (by omega) (Wk.env (by simp [subE, Env.get, rLeastN, bV])) ?_
  intro i hi
  have hc6 : (List.drop 6 c.cs).head? = some (vI c.want) := rfl
  simp only [gos, if_true, if_false, ne_eq, eq_self, Nat.reduceLT, Nat.reduceEqDiff, Nat.reduceAdd, Nat.reduceMul, Nat.reduceLeDiff, Nat.reduceBEq, reduceCtorEq, reduceIte, Array.toList, ↓reduceIte, tt, vgo, vout, vgoD, voutD, vclsOk, vids, mayWrite, V.ids, V.mids, vguard, callOf, vop, ev, cv, vbin, vint, isShift, isNilConst, vnil, isNilSlice, vload, vlen, newRow, vfill, vslice, entOf, vappend, srcOf, vcopy, vlookup, vupdate, mapOk, keyOf, intsOf, clsAt]
  refine Cl.pu (c_rCoals c k0) ?_ rfl (by simp only [V.into, intoL, cB_into, vB_into, cI_into, cR_into, cD_into, cS_into, vS_into, vI_into, vR_into, vD_into, cu_into, Bool.true_and, Bool.and_true])
  by_cases hil : (i : Int) < rCoals c
  · have hx := rCoal_ok k0 (n := i) (by omega)
    have hstep := rLeastN_succ c l i
    have hprev := rLeastN_ok k0 l i
    have hsucc := i64_succ (show (i : Int) < 9223372036854775807 by omega)
    have hW := c_rWholes c l (rCoal c i) c.want hl (fun t ht => coal_tr k0 hx (hok t ht))
    simp only [gos, if_true, if_false, ne_eq, eq_self, Nat.reduceLT, Nat.reduceEqDiff, Nat.reduceAdd, Nat.reduceMul, Nat.reduceLeDiff, Nat.reduceBEq, reduceCtorEq, reduceIte, Array.toList, ↓reduceIte, tt, vgo, vout, vgoD, voutD, vclsOk, vids, mayWrite, V.ids, V.mids, vguard, callOf, vop, ev, cv, vbin, vint, isShift, isNilConst, vnil, isNilSlice, vload, vlen, newRow, vfill, vslice, entOf, vappend, srcOf, vcopy, vlookup, vupdate, mapOk, keyOf, intsOf, clsAt, hil]
    refine Cl.pu (c_rCoal c k0 i (by omega)) ?_ rfl (by simp only [V.into, intoL, cB_into, vB_into, cI_into, cR_into, cD_into, cS_into, vS_into, vI_into, vR_into, vD_into, cu_into, Bool.true_and, Bool.and_true])
    generalize hxe : rCoal c i = x at hx hstep hW ⊢
    cases ho : rLeastN c l i with
    | none =>
      rw [ho, leastStep, hxe, lessO] at hstep
      simp only [gos, if_true, if_false, ne_eq, eq_self, Nat.reduceLT, Nat.reduceEqDiff, Nat.reduceAdd, Nat.reduceMul, Nat.reduceLeDiff, Nat.reduceBEq, reduceCtorEq, reduceIte, Array.toList, ↓reduceIte, tt, vgo, vout, vgoD, voutD, vclsOk, vids, mayWrite, V.ids, V.mids, vguard, callOf, vop, ev, cv, vbin, vint, isShift, isNilConst, vnil, isNilSlice, vload, vlen, newRow, vfill, vslice, entOf, vappend, srcOf, vcopy, vlookup, vupdate, mapOk, keyOf, intsOf, clsAt, bV, Option.isSome, hc6]
      refine Cl.pu hW ?_ rfl (by simp only [V.into, intoL, cB_into, vB_into, cI_into, cR_into, cD_into, cS_into, vS_into, vI_into, vR_into, vD_into, cu_into, Bool.true_and, Bool.and_true, vT_into])
      by_cases hw1 : rWholes c l x c.want = 1
      · have hb : decide (rWholes c l x c.want = 1) = true := by simp [hw1]
        rw [hb] at hstep
        rw [Bool.and_self, if_pos rfl] at hstep
        simp only [gos, if_true, if_false, ne_eq, eq_self, Nat.reduceLT, Nat.reduceEqDiff, Nat.reduceAdd, Nat.reduceMul, Nat.reduceLeDiff, Nat.reduceBEq, reduceCtorEq, reduceIte, Array.toList, ↓reduceIte, tt, vgo, vout, vgoD, voutD, vclsOk, vids, mayWrite, V.ids, V.mids, vguard, callOf, vop, ev, cv, vbin, vint, isShift, isNilConst, vnil, isNilSlice, vload, vlen, newRow, vfill, vslice, entOf, vappend, srcOf, vcopy, vlookup, vupdate, mapOk, keyOf, intsOf, clsAt, hb]
        exact Nx.mk (i + 1) (show (rCoals c).toNat - (i + 1) < (rCoals c).toNat - i by omega) (by omega) (by rw [hstep]; exact Wk.env (by simp [subE, Env.get, bV, hsucc]))
      · have hb : decide (rWholes c l x c.want = 1) = false := by simp [hw1]
        rw [hb] at hstep
        rw [Bool.and_false, if_neg (by simp)] at hstep
        simp only [gos, if_true, if_false, ne_eq, eq_self, Nat.reduceLT, Nat.reduceEqDiff, Nat.reduceAdd, Nat.reduceMul, Nat.reduceLeDiff, Nat.reduceBEq, reduceCtorEq, reduceIte, Array.toList, ↓reduceIte, tt, vgo, vout, vgoD, voutD, vclsOk, vids, mayWrite, V.ids, V.mids, vguard, callOf, vop, ev, cv, vbin, vint, isShift, isNilConst, vnil, isNilSlice, vload, vlen, newRow, vfill, vslice, entOf, vappend, srcOf, vcopy, vlookup, vupdate, mapOk, keyOf, intsOf, clsAt, hb]
        exact Nx.mk (i + 1) (show (rCoals c).toNat - (i + 1) < (rCoals c).toNat - i by omega) (by omega) (by rw [hstep]; exact Wk.env (by simp [subE, Env.get, bV, hsucc]))
    | some b =>
      have hbo := hprev b ho
      rw [ho, leastStep, hxe, lessO] at hstep
      simp only [gos, if_true, if_false, ne_eq, eq_self, Nat.reduceLT, Nat.reduceEqDiff, Nat.reduceAdd, Nat.reduceMul, Nat.reduceLeDiff, Nat.reduceBEq, reduceCtorEq, reduceIte, Array.toList, ↓reduceIte, tt, vgo, vout, vgoD, voutD, vclsOk, vids, mayWrite, V.ids, V.mids, vguard, callOf, vop, ev, cv, vbin, vint, isShift, isNilConst, vnil, isNilSlice, vload, vlen, newRow, vfill, vslice, entOf, vappend, srcOf, vcopy, vlookup, vupdate, mapOk, keyOf, intsOf, clsAt, bV, Option.isSome, hc6]
      refine Cl.pu (c_rShovels x (by omega) (fun y hy => by have := hx.2 y hy; omega)) ?_ rfl (by simp only [V.into, intoL, cB_into, vB_into, cI_into, cR_into, cD_into, cS_into, vS_into, vI_into, vR_into, vD_into, cu_into, Bool.true_and, Bool.and_true])
      simp only [gos, if_true, if_false, ne_eq, eq_self, Nat.reduceLT, Nat.reduceEqDiff, Nat.reduceAdd, Nat.reduceMul, Nat.reduceLeDiff, Nat.reduceBEq, reduceCtorEq, reduceIte, Array.toList, ↓reduceIte, tt, vgo, vout, vgoD, voutD, vclsOk, vids, mayWrite, V.ids, V.mids, vguard, callOf, vop, ev, cv, vbin, vint, isShift, isNilConst, vnil, isNilSlice, vload, vlen, newRow, vfill, vslice, entOf, vappend, srcOf, vcopy, vlookup, vupdate, mapOk, keyOf, intsOf, clsAt]
      refine Cl.pu (c_rShovels b (by omega) (fun y hy => by have := hbo.2 y hy; omega)) ?_ rfl (by simp only [V.into, intoL, cB_into, vB_into, cI_into, cR_into, cD_into, cS_into, vS_into, vI_into, vR_into, vD_into, cu_into, Bool.true_and, Bool.and_true])
      by_cases hs : x.sum < b.sum
      · have hsd : decide (x.sum < b.sum) = true := by simp [hs]
        rw [hsd, Bool.true_and] at hstep
        simp only [gos, if_true, if_false, ne_eq, eq_self, Nat.reduceLT, Nat.reduceEqDiff, Nat.reduceAdd, Nat.reduceMul, Nat.reduceLeDiff, Nat.reduceBEq, reduceCtorEq, reduceIte, Array.toList, ↓reduceIte, tt, vgo, vout, vgoD, voutD, vclsOk, vids, mayWrite, V.ids, V.mids, vguard, callOf, vop, ev, cv, vbin, vint, isShift, isNilConst, vnil, isNilSlice, vload, vlen, newRow, vfill, vslice, entOf, vappend, srcOf, vcopy, vlookup, vupdate, mapOk, keyOf, intsOf, clsAt, hs, hc6]
        refine Cl.pu hW ?_ rfl (by simp only [V.into, intoL, cB_into, vB_into, cI_into, cR_into, cD_into, cS_into, vS_into, vI_into, vR_into, vD_into, cu_into, Bool.true_and, Bool.and_true, vT_into])
        by_cases hw1 : rWholes c l x c.want = 1
        · have hb : decide (rWholes c l x c.want = 1) = true := by simp [hw1]
          rw [hb, if_pos rfl] at hstep
          simp only [gos, if_true, if_false, ne_eq, eq_self, Nat.reduceLT, Nat.reduceEqDiff, Nat.reduceAdd, Nat.reduceMul, Nat.reduceLeDiff, Nat.reduceBEq, reduceCtorEq, reduceIte, Array.toList, ↓reduceIte, tt, vgo, vout, vgoD, voutD, vclsOk, vids, mayWrite, V.ids, V.mids, vguard, callOf, vop, ev, cv, vbin, vint, isShift, isNilConst, vnil, isNilSlice, vload, vlen, newRow, vfill, vslice, entOf, vappend, srcOf, vcopy, vlookup, vupdate, mapOk, keyOf, intsOf, clsAt, hb]
          exact Nx.mk (i + 1) (show (rCoals c).toNat - (i + 1) < (rCoals c).toNat - i by omega) (by omega) (by rw [hstep]; exact Wk.env (by simp [subE, Env.get, bV, hsucc]))
        · have hb : decide (rWholes c l x c.want = 1) = false := by simp [hw1]
          rw [hb, if_neg (by simp)] at hstep
          simp only [gos, if_true, if_false, ne_eq, eq_self, Nat.reduceLT, Nat.reduceEqDiff, Nat.reduceAdd, Nat.reduceMul, Nat.reduceLeDiff, Nat.reduceBEq, reduceCtorEq, reduceIte, Array.toList, ↓reduceIte, tt, vgo, vout, vgoD, voutD, vclsOk, vids, mayWrite, V.ids, V.mids, vguard, callOf, vop, ev, cv, vbin, vint, isShift, isNilConst, vnil, isNilSlice, vload, vlen, newRow, vfill, vslice, entOf, vappend, srcOf, vcopy, vlookup, vupdate, mapOk, keyOf, intsOf, clsAt, hb]
          exact Nx.mk (i + 1) (show (rCoals c).toNat - (i + 1) < (rCoals c).toNat - i by omega) (by omega) (by rw [hstep]; exact Wk.env (by simp [subE, Env.get, bV, hsucc]))
      · have hsd : decide (x.sum < b.sum) = false := by simp [hs]
        rw [hsd, Bool.false_and, if_neg (by simp)] at hstep
        simp only [gos, if_true, if_false, ne_eq, eq_self, Nat.reduceLT, Nat.reduceEqDiff, Nat.reduceAdd, Nat.reduceMul, Nat.reduceLeDiff, Nat.reduceBEq, reduceCtorEq, reduceIte, Array.toList, ↓reduceIte, tt, vgo, vout, vgoD, voutD, vclsOk, vids, mayWrite, V.ids, V.mids, vguard, callOf, vop, ev, cv, vbin, vint, isShift, isNilConst, vnil, isNilSlice, vload, vlen, newRow, vfill, vslice, entOf, vappend, srcOf, vcopy, vlookup, vupdate, mapOk, keyOf, intsOf, clsAt, hs]
        exact Nx.mk (i + 1) (show (rCoals c).toNat - (i + 1) < (rCoals c).toNat - i by omega) (by omega) (by rw [hstep]; exact Wk.env (by simp [subE, Env.get, bV, hsucc]))
  · have hie : (rCoals c).toNat = i := by omega
    simp only [gos, if_true, if_false, ne_eq, eq_self, Nat.reduceLT, Nat.reduceEqDiff, Nat.reduceAdd, Nat.reduceMul, Nat.reduceLeDiff, Nat.reduceBEq, reduceCtorEq, reduceIte, Array.toList, ↓reduceIte, tt, vgo, vout, vgoD, voutD, vclsOk, vids, mayWrite, V.ids, V.mids, vguard, callOf, vop, ev, cv, vbin, vint, isShift, isNilConst, vnil, isNilSlice, vload, vlen, newRow, vfill, vslice, entOf, vappend, srcOf, vcopy, vlookup, vupdate, mapOk, keyOf, intsOf, clsAt, hil]
    subst hQ
    rw [rLeast, hie]
    cases ho : rLeastN c l i with
    | none => exact FnPost.plain trivial (v := .tup [.sl0, .bool false]) (fun h2 e => by rfl) WkV.nil1 ⟨rfl, rfl⟩
    | some b => exact FnPost.plain trivial (v := .tup [vI b, .bool true]) (fun h2 e => by rfl) WkV.refl ⟨rfl, rfl⟩
end Go.Vm
set_option linter.unusedVariables false
set_option linter.unusedSimpArgs false
set_option maxRecDepth 100000
namespace Go.Vm
/-! ### the least coal: the program's search and the reference's are the same -/
def digs (s : Int) : Nat → List (List Int)
  | 0 => [[]]
  | k + 1 => (rangeI 0 s).flatMap fun n => (digs s k).map (n :: ·)
theorem digs_mem {s : Int} : ∀ {k : Nat} {l : List Int}, l ∈ digs s k ↔ l.length = k ∧ ∀ x ∈ l, 0 ≤ x ∧ x ≤ s
  | 0, l => by
    rw [digs, List.mem_singleton]
    constructor
    · rintro rfl; exact ⟨rfl, fun x hx => by simp at hx⟩
    · rintro ⟨h, _⟩; exact List.length_eq_zero_iff.1 h
  | k + 1, l => by
    simp only [digs, List.mem_flatMap, mem_rangeI, List.mem_map]
    constructor
    · rintro ⟨n, hn, m, hm, rfl⟩
      have := digs_mem.1 hm
      exact ⟨by simp [this.1], fun x hx => by rcases List.mem_cons.1 hx with rfl | h; exact hn; exact this.2 x h⟩
    · rintro ⟨h1, h2⟩
      cases l with
      | nil => simp at h1
      | cons x l => exact ⟨x, h2 x (by simp), l, digs_mem.2 ⟨by simpa using h1, fun y hy => h2 y (by simp [hy])⟩, rfl⟩
theorem rangeI_pair (lo hi : Int) : (rangeI lo hi).Pairwise (· < ·) := by
  rw [rangeI, List.pairwise_map]
  exact List.pairwise_lt_range.imp fun h => by omega
theorem digs_pair (s : Int) : ∀ k, (digs s k).Pairwise (fun a b => lBefore a b = true)
  | 0 => by simp [digs]
  | k + 1 => by
    rw [digs, List.pairwise_flatMap]
    refine ⟨fun n _ => ?_, (rangeI_pair 0 s).imp fun {a b} hab x hx y hy => ?_⟩
    · rw [List.pairwise_map]; exact (digs_pair s k).imp fun h => by simpa [lBefore] using h
    · obtain ⟨x, _, rfl⟩ := List.mem_map.1 hx
      obtain ⟨y, _, rfl⟩ := List.mem_map.1 hy
      simp only [lBefore]
      rw [if_neg (by omega)]; simp [hab]
theorem lBefore_asymm : ∀ {a b : List Int}, lBefore a b = true → lBefore b a = false
  | [], [], h => by simp [lBefore] at h
  | [], _ :: _, _ => rfl
  | _ :: _, [], h => by simp [lBefore] at h
  | x :: a, y :: b, h => by
    simp only [lBefore] at h ⊢
    by_cases e : x = y
    · rw [if_pos e] at h; rw [if_pos e.symm]; exact lBefore_asymm h
    · rw [if_neg e] at h; rw [if_neg (Ne.symm e)]; simp at h ⊢; omega
theorem rangeI_split {lo a hi : Int} (h1 : lo ≤ a + 1) (h2 : a ≤ hi) : rangeI lo hi = rangeI lo a ++ rangeI (a + 1) hi := by
  have e : (hi + 1 - lo).toNat = (a + 1 - lo).toNat + (hi + 1 - (a + 1)).toNat := by omega
  simp only [rangeI, e, List.range_add, List.map_append, List.map_map]
  congr 1
  apply List.map_congr_left
  intro i _
  simp only [Function.comp]; omega
theorem find_cut {α : Type} {f : Int → Option α} {s m : Int} (h : ∀ n, m < n → f n = none) : (rangeI 0 (min s m)).findSome? f = (rangeI 0 s).findSome? f := by
  by_cases hs : s ≤ m
  · rw [Int.min_eq_left hs]
  · rw [Int.min_eq_right (by omega)]
    by_cases hm : m < 0
    · have e : rangeI 0 m = [] := by rw [rangeI, show (m + 1 - 0).toNat = 0 by omega]; rfl
      rw [e, List.findSome?_nil, eq_comm, List.findSome?_eq_none_iff]
      intro x hx
      have := mem_rangeI.1 hx
      exact h x (by omega)
    · rw [rangeI_split (a := m) (by omega) (show m ≤ s by omega), List.findSome?_append]
      have e : (rangeI (m + 1) s).findSome? f = none := by
        rw [List.findSome?_eq_none_iff]
        intro x hx
        have := mem_rangeI.1 hx
        exact h x (by omega)
      rw [e, Option.or_none]
theorem sum_range {s : Int} (hs : 0 ≤ s) : ∀ {l : List Int}, (∀ x ∈ l, 0 ≤ x ∧ x ≤ s) → 0 ≤ l.sum ∧ l.sum ≤ s * l.length
  | [], _ => by simp
  | x :: l, h => by
    have h1 := sum_range hs (l := l) fun y hy => h y (List.mem_cons_of_mem _ hy)
    have h2 := h x (by simp)
    rw [List.sum_cons, List.length_cons, Int.natCast_add, Int.mul_add]; omega
theorem addF_find (c : Cu) (P : List Int → Bool) (hs : 0 ≤ c.shovels) : ∀ (k : Nat) (coal : List Int) (many : Int),
    addF c P k coal many = (((digs c.shovels k).filter fun l => decide (l.sum = many)).map (coal ++ ·)).find? P
  | 0, coal, many => by
    by_cases h : many = 0
    · subst h
      cases hp : P coal <;> simp [addF, digs, hp]
    · have h' : ¬ (0 : Int) = many := fun e => h e.symm
      simp [addF, digs, h, h']
  | k + 1, coal, many => by
    have e : ∀ n, addF c P k (coal ++ [n]) (many - n) = ((((digs c.shovels k).map (n :: ·)).filter fun l => decide (l.sum = many)).map (coal ++ ·)).find? P := by
      intro n
      rw [addF_find c P hs k, List.filter_map, List.map_map]
      congr 1
      have e1 : (List.filter ((fun l : List Int => decide (l.sum = many)) ∘ fun x => n :: x) (digs c.shovels k)) = List.filter (fun l => decide (l.sum = many - n)) (digs c.shovels k) := by
        apply List.filter_congr
        intro l _
        exact decide_eq_decide.2 (by rw [List.sum_cons]; omega)
      rw [e1]
      apply List.map_congr_left
      intro l _
      simp
    rw [addF, digs, List.filter_flatMap, List.map_flatMap, List.find?_flatMap]
    rw [find_cut]
    · congr 1
      funext n
      exact e n
    · intro n hn
      rw [e n, List.find?_eq_none]
      intro x hx
      obtain ⟨y, hy, rfl⟩ := List.mem_map.1 hx
      obtain ⟨h1, h2⟩ := List.mem_filter.1 hy
      obtain ⟨z, hz, rfl⟩ := List.mem_map.1 h1
      have := sum_range hs (digs_mem.1 hz).2
      rw [decide_eq_true_eq, List.sum_cons] at h2
      omega
structure IsLeast (s : Int) (k : Nat) (P : List Int → Bool) (l : List Int) : Prop where
  mem : l ∈ digs s k
  is : P l = true
  min : ∀ x ∈ digs s k, P x = true → l.sum < x.sum ∨ (l.sum = x.sum ∧ (l = x ∨ lBefore l x = true))
theorem IsLeast.one {s : Int} {k : Nat} {P : List Int → Bool} {a b : List Int} (ha : IsLeast s k P a) (hb : IsLeast s k P b) : a = b := by
  rcases ha.min b hb.mem hb.is with h | ⟨h, e | e⟩
  · rcases hb.min a ha.mem ha.is with h2 | ⟨h2, _⟩ <;> omega
  · exact e
  · rcases hb.min a ha.mem ha.is with h2 | ⟨h2, e2 | e2⟩
    · omega
    · exact e2.symm
    · rw [lBefore_asymm e] at e2; simp at e2
theorem pair_find {l : List (List Int)} (hp : l.Pairwise (fun a b => lBefore a b = true)) {P : List Int → Bool} {a : List Int} (h : l.find? P = some a) : a ∈ l ∧ P a = true ∧ ∀ x ∈ l, P x = true → a = x ∨ lBefore a x = true := by
  obtain ⟨h1, l1, l2, rfl, h2⟩ := List.find?_eq_some_iff_append.1 h
  refine ⟨by simp, h1, fun x hx hP => ?_⟩
  rcases List.mem_append.1 hx with hx | hx
  · have := h2 x hx; simp [hP] at this
  · rcases List.mem_cons.1 hx with rfl | hx
    · exact .inl rfl
    · have := (List.pairwise_append.1 hp).2.1
      exact .inr ((List.pairwise_cons.1 this).1 x hx)
theorem findSome_first {α : Type} {f : Int → Option α} {lo hi : Int} {b : α} (h : (rangeI lo hi).findSome? f = some b) : ∃ a, lo ≤ a ∧ a ≤ hi ∧ f a = some b ∧ ∀ x, lo ≤ x → x < a → f x = none := by
  obtain ⟨l1, a, l2, e, h1, h2⟩ := List.findSome?_eq_some_iff.1 h
  have ha : a ∈ rangeI lo hi := by rw [e]; simp
  have hp := rangeI_pair lo hi
  rw [e] at hp
  have ham := mem_rangeI.1 ha
  refine ⟨a, ham.1, ham.2, h1, fun x hx hxa => ?_⟩
  have hx2 : x ∈ rangeI lo hi := mem_rangeI.2 ⟨hx, by omega⟩
  rw [e] at hx2
  rcases List.mem_append.1 hx2 with hx3 | hx3
  · exact h2 x hx3
  · rcases List.mem_cons.1 hx3 with rfl | hx3
    · omega
    · have := (List.pairwise_cons.1 (List.pairwise_append.1 hp).2.1).1 x hx3
      omega
theorem leastF_some {c : Cu} (k0 : CuOk c) {l : List Int} (h : leastF c = some l) : IsLeast c.shovels (c.last + 1).toNat (sSureP c) l := by
  have hs := k0.shovels.1
  obtain ⟨m, h0, h1, h2, h3⟩ := findSome_first h
  rw [addF_find c _ hs] at h2
  simp only [List.nil_append, List.map_id'] at h2
  obtain ⟨g1, g2, g3⟩ := pair_find ((digs_pair c.shovels (c.last + 1).toNat).filter _) h2
  obtain ⟨g1, g4⟩ := List.mem_filter.1 g1
  have g4 : l.sum = m := by simpa using g4
  refine ⟨g1, g2, fun x hx hP => ?_⟩
  have hx0 := (sum_range hs (digs_mem.1 hx).2).1
  rcases Int.lt_trichotomy x.sum m with hlt | heq | hgt
  · have := h3 x.sum hx0 hlt
    rw [addF_find c _ hs] at this
    simp only [List.nil_append, List.map_id', List.find?_eq_none] at this
    have := this x (List.mem_filter.2 ⟨hx, by simp⟩)
    simp [hP] at this
  · exact .inr ⟨by omega, g3 x (List.mem_filter.2 ⟨hx, by simp [heq]⟩) hP⟩
  · exact .inl (by omega)
theorem leastF_none {c : Cu} (k0 : CuOk c) (h : leastF c = none) : ∀ x ∈ digs c.shovels (c.last + 1).toNat, sSureP c x = false := by
  have hs := k0.shovels.1
  intro x hx
  have hb := sum_range hs (digs_mem.1 hx).2
  rw [leastF, List.findSome?_eq_none_iff] at h
  have := h x.sum (mem_rangeI.2 ⟨hb.1, by rw [(digs_mem.1 hx).1] at hb; have e : ((c.last + 1).toNat : Int) = c.last + 1 := by have := k0.last; omega
                                          rw [e] at hb; exact hb.2⟩)
  rw [addF_find c _ hs] at this
  simp only [List.nil_append, List.map_id', List.find?_eq_none] at this
  have := this x (List.mem_filter.2 ⟨hx, by simp⟩)
  simpa using this
/-! the reference's numbers of coal, in order -/
theorem range_mul {α : Type} (f : Nat → α) (m : Nat) : ∀ s, (List.range (s * m)).map f = (List.range s).flatMap fun d => (List.range m).map fun j => f (d * m + j)
  | 0 => by simp
  | s + 1 => by rw [Nat.succ_mul, List.range_add, List.map_append, range_mul f m s, List.range_succ, List.flatMap_append]; simp [List.map_map, Function.comp_def]
theorem dvN_nat (S n : Nat) : ∀ j, dvN S n j = ((n / S ^ j : Nat) : Int)
  | 0 => by simp [dvN]
  | j + 1 => by rw [dvN, dvN_nat S n j, ← Int.ofNat_tdiv, Nat.div_div_eq_div_mul, Nat.pow_succ]
theorem lowD_add {S k : Nat} (hS : 1 ≤ S) (d j : Nat) : ∀ i, i ≤ k → lowD S ((d * S ^ k + j : Nat) : Int) i = lowD S j i
  | 0, _ => rfl
  | i + 1, h => by
    rw [lowD, lowD, lowD_add hS d j i (by omega), dvN_nat, dvN_nat, ← Int.ofNat_tmod, ← Int.ofNat_tmod]
    congr 2
    have e : d * S ^ k = S ^ i * (S * (d * S ^ (k - i - 1))) := by
      have : S ^ k = S ^ i * S * S ^ (k - i - 1) := by rw [← Nat.pow_succ, ← Nat.pow_add]; congr 1; omega
      rw [this]; ac_rfl
    rw [e, Nat.mul_add_div (Nat.pow_pos hS), Nat.mul_add_mod]
theorem digs_eq (S : Nat) (hS : 1 ≤ S) : ∀ k, digs ((S : Int) - 1) k = (List.range (S ^ k)).map fun (n : Nat) => lowD S (n : Int) k
  | 0 => by simp [digs, lowD]
  | k + 1 => by
    rw [digs, digs_eq S hS k, Nat.pow_succ, Nat.mul_comm (S ^ k), range_mul]
    simp only [rangeI]
    rw [show ((S : Int) - 1 + 1 - 0).toNat = S by omega, List.flatMap_map]
    simp only [List.flatMap_def]
    congr 1
    apply List.map_congr_left
    intro d hd
    have hd := List.mem_range.1 hd
    rw [List.map_map]
    apply List.map_congr_left
    intro j hj
    have hj := List.mem_range.1 hj
    simp only [Function.comp, lowD]
    rw [lowD_add hS d j k (Nat.le_refl _), dvN_nat, ← Int.ofNat_tmod]
    congr 1
    have : (d * S ^ k + j) / S ^ k = d := by
      rw [Nat.mul_comm, Nat.mul_add_div (Nat.pow_pos hS), Nat.div_eq_of_lt hj]; rfl
    rw [this, Nat.mod_eq_of_lt hd]; omega
theorem powI_nat (S : Nat) : ∀ n, powI S n = ((S ^ n : Nat) : Int)
  | 0 => rfl
  | n + 1 => by rw [powI, powI_nat S n, Nat.pow_succ, Int.natCast_mul]
theorem coals_eq {c : Cu} (k0 : CuOk c) : digs c.shovels (c.last + 1).toNat = (List.range (rCoals c).toNat).map fun (n : Nat) => rCoal c n := by
  have hs := k0.shovels
  obtain ⟨S, hS⟩ : ∃ S : Nat, (S : Int) = c.shovels + 1 := ⟨(c.shovels + 1).toNat, by omega⟩
  have e := digs_eq S (by omega) (c.last + 1).toNat
  rw [show (S : Int) - 1 = c.shovels by omega] at e
  rw [e, rCoals, ← hS, powI_nat, Int.toNat_natCast]
  simp only [rCoal, hS]
theorem coal_mem {c : Cu} (k0 : CuOk c) {n : Nat} (h : n < (rCoals c).toNat) : rCoal c n ∈ digs c.shovels (c.last + 1).toNat := by
  rw [coals_eq k0]; exact List.mem_map.2 ⟨n, List.mem_range.2 h, rfl⟩
theorem coal_surj {c : Cu} (k0 : CuOk c) {x : List Int} (h : x ∈ digs c.shovels (c.last + 1).toNat) : ∃ n : Nat, n < (rCoals c).toNat ∧ rCoal c n = x := by
  rw [coals_eq k0] at h
  obtain ⟨n, hn, rfl⟩ := List.mem_map.1 h
  exact ⟨n, List.mem_range.1 hn, rfl⟩
theorem coal_lt {c : Cu} (k0 : CuOk c) {i j : Nat} (hij : i < j) (h : j < (rCoals c).toNat) : lBefore (rCoal c i) (rCoal c j) = true := by
  have hp := digs_pair c.shovels (c.last + 1).toNat
  rw [coals_eq k0, List.pairwise_map, List.pairwise_iff_getElem] at hp
  have := hp i j (by simp; omega) (by simp; omega) hij
  simpa using this
theorem rLeastN_min {c : Cu} (k0 : CuOk c) (l : List Tr2) : ∀ i, i ≤ (rCoals c).toNat →
    match rLeastN c l i with
    | none => ∀ j : Nat, j < i → decide (rWholes c l (rCoal c j) c.want = 1) = false
    | some b => (∃ j : Nat, j < i ∧ b = rCoal c j) ∧ decide (rWholes c l b c.want = 1) = true ∧ ∀ j : Nat, j < i → decide (rWholes c l (rCoal c j) c.want = 1) = true → b.sum < (rCoal c j).sum ∨ (b.sum = (rCoal c j).sum ∧ (b = rCoal c j ∨ lBefore b (rCoal c j) = true))
  | 0, _ => by simp [rLeastN]
  | i + 1, hi => by
    have ih := rLeastN_min k0 l i (by omega)
    rw [rLeastN_succ, leastStep]
    cases ho : rLeastN c l i with
    | none =>
      rw [ho] at ih
      simp only [lessO, Bool.true_and]
      cases hw : decide (rWholes c l (rCoal c i) c.want = 1) with
      | false =>
        simp only [Bool.false_eq_true, if_false]
        intro j hj
        by_cases e : j = i
        · subst e; exact hw
        · exact ih j (by omega)
      | true =>
        simp only [if_true]
        refine ⟨⟨i, by omega, rfl⟩, hw, fun j hj hP => ?_⟩
        by_cases e : j = i
        · subst e; exact .inr ⟨rfl, .inl rfl⟩
        · rw [ih j (by omega)] at hP; simp at hP
    | some b =>
      rw [ho] at ih
      obtain ⟨⟨j0, hj0, hb⟩, h2, h3⟩ := ih
      simp only [lessO]
      cases hw : decide (rWholes c l (rCoal c i) c.want = 1) with
      | false =>
        simp only [Bool.and_false, Bool.false_eq_true, if_false]
        refine ⟨⟨j0, by omega, hb⟩, h2, fun j hj hP => ?_⟩
        by_cases e : j = i
        · subst e; rw [hw] at hP; simp at hP
        · exact h3 j (by omega) hP
      | true =>
        by_cases hlt : (rCoal c i).sum < b.sum
        · simp only [hlt, decide_true, Bool.and_self, if_true]
          refine ⟨⟨i, by omega, rfl⟩, hw, fun j hj hP => ?_⟩
          by_cases e : j = i
          · subst e; exact .inr ⟨rfl, .inl rfl⟩
          · rcases h3 j (by omega) hP with h | ⟨h, _⟩ <;> exact .inl (by omega)
        · simp only [hlt, decide_false, Bool.false_and, Bool.false_eq_true, if_false]
          refine ⟨⟨j0, by omega, hb⟩, h2, fun j hj hP => ?_⟩
          by_cases e : j = i
          · subst e
            rcases Int.lt_or_le b.sum (rCoal c j).sum with h | h
            · exact .inl h
            · exact .inr ⟨by omega, .inr (by rw [hb]; exact coal_lt k0 hj0 (by omega))⟩
          · exact h3 j (by omega) hP
theorem rLeast_some {c : Cu} (k0 : CuOk c) {l : List Tr2} {b : List Int} (h : rLeast c l = some b) : IsLeast c.shovels (c.last + 1).toNat (fun x => decide (rWholes c l x c.want = 1)) b := by
  have := rLeastN_min k0 l _ (Nat.le_refl _)
  rw [show rLeastN c l (rCoals c).toNat = some b from h] at this
  obtain ⟨⟨j, hj, hb⟩, h2, h3⟩ := this
  refine ⟨by rw [hb]; exact coal_mem k0 hj, h2, fun x hx hP => ?_⟩
  obtain ⟨n, hn, rfl⟩ := coal_surj k0 hx
  exact h3 n hn hP
theorem rLeast_none {c : Cu} (k0 : CuOk c) {l : List Tr2} (h : rLeast c l = none) : ∀ x ∈ digs c.shovels (c.last + 1).toNat, decide (rWholes c l x c.want = 1) = false := by
  have := rLeastN_min k0 l _ (Nat.le_refl _)
  rw [show rLeastN c l (rCoals c).toNat = none from h] at this
  intro x hx
  obtain ⟨n, hn, rfl⟩ := coal_surj k0 hx
  exact this n hn
theorem sure_whole {c : Cu} (k0 : CuOk c) (hne : sTruth c ≠ []) (coal : List Int) : sSureP c coal = decide (rWholes c (rTruths c) coal c.want = 1) := by
  rw [← wholes_same k0 hne]
  have e : ((sTruth c).map fun s => if (sPast c coal c.want s).kept.any (fun y => decide (false = y)) then (0 : Int) else 1) = (sTruth c).map fun s => if sKept c coal c.want s = true then 1 else 0 := by
    apply List.map_congr_left
    intro s _
    by_cases h : ((sPast c coal c.want s).kept.any fun y => decide (false = y)) = true
    · have h2 : sKept c coal c.want s = false := by rw [sKept, h]; rfl
      rw [if_pos h, h2, if_neg (by simp)]
    · have h2 : sKept c coal c.want s = true := by rw [Bool.not_eq_true] at h; rw [sKept, h]; rfl
      rw [if_neg h, h2, if_pos rfl]
  rw [e, sVerdict_01 _ hne, sSureP]
  cases (sTruth c).all fun s => sKept c coal c.want s with
  | true => rfl
  | false => cases (sTruth c).any fun s => sKept c coal c.want s <;> rfl
theorem least_same {c : Cu} (A : AskOk c true) : leastF c = rLeast c (rTruths c) := by
  have k0 := A.k0
  have e : sSureP c = fun x => decide (rWholes c (rTruths c) x c.want = 1) := funext fun x => sure_whole k0 A.ne x
  cases h1 : leastF c with
  | none =>
    cases h2 : rLeast c (rTruths c) with
    | none => rfl
    | some b =>
      have B := rLeast_some k0 h2
      have h4 := leastF_none k0 h1 b B.mem
      rw [e] at h4
      have h5 : decide (rWholes c (rTruths c) b c.want = 1) = false := h4
      have h3 := B.is
      rw [h5] at h3; cases h3
  | some a =>
    have A1 := leastF_some k0 h1
    cases h2 : rLeast c (rTruths c) with
    | none =>
      have := rLeast_none k0 h2 a A1.mem
      have h3 := A1.is
      rw [e] at h3
      have h4 : decide (rWholes c (rTruths c) a c.want = 1) = true := h3
      rw [this] at h4; cases h4
    | some b =>
      rw [e] at A1
      rw [A1.one (rLeast_some k0 h2)]
theorem sSum_eq {l : List Int} (h : ∀ x ∈ l, 0 ≤ x ∧ x ≤ 3) (hl : l.length ≤ 1000) : sSum l = l.sum := by
  have e : ∀ (m : List Int) (n : Int), 0 ≤ n → (∀ x ∈ m, 0 ≤ x ∧ x ≤ 3) → n + 3 * m.length ≤ 1000000 → m.foldl (fun n x => IntKind.i64.wrap (n + x)) n = n + m.sum := by
    intro m
    induction m with
    | nil => intro n _ _ _; simp
    | cons x m ih =>
      intro n h0 hm hn
      have hx := hm x (by simp)
      rw [List.length_cons] at hn
      rw [List.foldl_cons, i64_in (by omega) (by omega), ih (n + x) (by omega) (fun y hy => hm y (by simp [hy])) (by omega), List.sum_cons]; omega
  rw [sSum, e l 0 (by omega) h (by omega)]; omega
end Go.Vm
set_option linter.unusedVariables false
set_option linter.unusedSimpArgs false
set_option maxRecDepth 100000
namespace Go.Vm
/-! ### fewer promises, more coal -/
theorem heat_le {c : Cu} {s : Sc} {coal want want' : List Int} {i : Nat} (h : (sPlay c s coal want' i).1 ≤ (sPlay c s coal want i).1) : sHeat c s coal want' i ≤ sHeat c s coal want i := by
  simp only [sHeat]; omega
theorem sHeat_ge (c : Cu) (s : Sc) (coal want : List Int) (i : Nat) : 0 ≤ sHeat c s coal want i := by simp only [sHeat]; omega
theorem want_play {c : Cu} {s : Sc} {coal want want' : List Int} {n : Nat} (hp : 1 ≤ c.per) (hw : ∀ i : Nat, i < n → 0 ≤ gi want i ∧ gi want i ≤ gi want' i) (hk : ∀ i : Nat, i < n → gi want' i ≤ (sHeat c s coal want' i).tdiv c.per) : ∀ i, i ≤ n → (sPlay c s coal want' i).1 ≤ (sPlay c s coal want i).1
  | 0, _ => Int.le_refl _
  | i + 1, hi => by
    have ih := heat_le (want_play hp hw hk i (by omega))
    have hm := tdiv_mono (sHeat_ge c s coal want' i) ih hp
    have h1 := hw i (by omega)
    have h2 := hk i (by omega)
    rw [sPlay_heat, sPlay_heat, if_pos h2, if_pos (by omega)]
    have := Int.mul_le_mul_of_nonneg_right h1.2 (show 0 ≤ c.per by omega)
    omega
theorem whole_iff {c : Cu} {coal want : List Int} {t : Tr2} : wholeI c coal want t = true ↔ ∀ i : Nat, i < (c.last + 1).toNat → gi want i ≤ (sHeat c (tS t) coal want i).tdiv c.per := by
  simp only [wholeI, List.all_eq_true, List.mem_range, keptI, decide_eq_true_eq]
theorem whole_want {c : Cu} {coal want want' : List Int} {t : Tr2} (hp : 1 ≤ c.per) (hw : ∀ i : Nat, i < (c.last + 1).toNat → 0 ≤ gi want i ∧ gi want i ≤ gi want' i) (h : wholeI c coal want' t = true) : wholeI c coal want t = true := by
  rw [whole_iff] at h ⊢
  intro i hi
  have hm := tdiv_mono (sHeat_ge c (tS t) coal want' i) (heat_le (want_play hp hw h i (by omega))) hp
  have := hw i hi
  have := h i hi
  omega
theorem whole_coal {c : Cu} {coal coal' want : List Int} {t : Tr2} (hp : 1 ≤ c.per) (hh : 0 ≤ t.heat) (hc : ∀ i : Nat, i < (c.last + 1).toNat → 0 ≤ gi coal i ∧ gi coal i ≤ gi coal' i) (h : wholeI c coal want t = true) : wholeI c coal' want t = true := by
  rw [whole_iff] at h ⊢
  intro i hi
  have w : Warm (tS t) (tS t) coal coal' (c.last + 1).toNat := ⟨⟨hh, Int.le_refl _⟩, fun i _ => Int.le_refl _, hc⟩
  have hm := tdiv_mono (sHeat_ge c (tS t) coal want i) (warm_heat w hi (warm_play hp w i (by omega))) hp
  have := h i hi
  omega
theorem wholes_one {c : Cu} {l : List Tr2} {coal want : List Int} (hne : l ≠ []) : rWholes c l coal want = 1 ↔ ∀ t ∈ l, wholeI c coal want t = true := by
  rw [rWholes, rVerdict_count _ hne, ← List.all_eq_true]
  cases l.all fun t => wholeI c coal want t with
  | true => simp
  | false => cases l.any fun t => wholeI c coal want t <;> simp
theorem wholes_two {c : Cu} {l : List Tr2} {coal want : List Int} (hne : l ≠ []) : rWholes c l coal want = 2 ↔ ∀ t ∈ l, wholeI c coal want t = false := by
  have e : (∀ t ∈ l, wholeI c coal want t = false) ↔ l.any (fun t => wholeI c coal want t) = false := by
    rw [List.any_eq_false]
    exact ⟨fun h t ht => by simp [h t ht], fun h t ht => by simpa using h t ht⟩
  rw [rWholes, rVerdict_count _ hne, e]
  by_cases h1 : (l.all fun t => wholeI c coal want t) = true
  · obtain ⟨x, hx⟩ := List.exists_mem_of_ne_nil _ hne
    have h2 : (l.any fun t => wholeI c coal want t) = true := List.any_eq_true.2 ⟨x, hx, List.all_eq_true.1 h1 x hx⟩
    simp [h1, h2]
  · rw [Bool.not_eq_true] at h1
    rw [h1]
    cases l.any fun t => wholeI c coal want t <;> simp
theorem wholes_in (c : Cu) (l : List Tr2) (coal want : List Int) : 1 ≤ rWholes c l coal want ∧ rWholes c l coal want ≤ 3 := by
  simp only [rWholes, rVerdict]
  split
  · omega
  · split <;> omega
theorem keeps_one {c : Cu} {l : List Tr2} (hne : l ≠ []) {i : Nat} : rKeeps c l i = 1 ↔ ∀ t ∈ l, keptI c c.coal c.want t i = true := by
  rw [rKeeps, rVerdict_count _ hne, ← List.all_eq_true]
  cases l.all fun t => keptI c c.coal c.want t i with
  | true => simp
  | false => cases l.any fun t => keptI c c.coal c.want t i <;> simp
theorem keeps_whole {c : Cu} {l : List Tr2} (hne : l ≠ []) : rWholes c l c.coal c.want = 1 ↔ ∀ i : Nat, i < (c.last + 1).toNat → rKeeps c l i = 1 := by
  rw [wholes_one hne]
  constructor
  · intro h i hi
    rw [keeps_one hne]
    intro t ht
    have := h t ht
    rw [wholeI, List.all_eq_true] at this
    exact this i (by simpa using hi)
  · intro h t ht
    rw [wholeI, List.all_eq_true]
    intro i hi
    exact (keeps_one hne).1 (h i (by simpa using hi)) t ht
theorem lacks_whole {c : Cu} (A : AskOk c true) (h0 : sAsked c true = 0) : (sLacksA c).2 = if rWholes c (rTruths c) c.coal c.want = 1 then 7 else 0 := by
  have hne : rTruths c ≠ [] := fun e => A.ne ((same_nil A.k0).2 e)
  have hl := A.k0.last
  have hr : sKeepsA c = (nI (c.last + 1) (kpF c), 0) := by rw [sKeepsA, if_pos h0]; rfl
  have e1 : sIdx (fun v => v != 1) (nI (c.last + 1) (kpF c)) < 0 ↔ rWholes c (rTruths c) c.coal c.want = 1 := by
    have := sIdx_any (fun v : Int => v != 1) (nI (c.last + 1) (kpF c))
    rw [keeps_whole hne]
    constructor
    · intro h i hi
      have h2 : ((nI (c.last + 1) (kpF c)).any fun v => v != 1) = false := by rw [← this]; simp; omega
      rw [List.any_eq_false] at h2
      rw [← keeps_same A (i := i) (by omega)]
      have := h2 (kpF c i) (by rw [nI]; exact List.mem_map.2 ⟨i, List.mem_range.2 hi, rfl⟩)
      simpa using this
    · intro h
      have h2 : ((nI (c.last + 1) (kpF c)).any fun v => v != 1) = false := by
        rw [List.any_eq_false]
        intro v hv
        rw [nI] at hv
        obtain ⟨i, hi, rfl⟩ := List.mem_map.1 hv
        have hi := List.mem_range.1 hi
        rw [keeps_same A (i := i) (by omega), h i hi]; simp
      rw [h2] at this
      simpa using this
  rw [sLacksA, hr]
  simp only [if_true]
  by_cases h : rWholes c (rTruths c) c.coal c.want = 1
  · rw [if_pos h, if_pos (e1.2 h)]
  · rw [if_neg h, if_neg (fun x => h (e1.1 x))]
theorem lacks_no {c : Cu} (h0 : sAsked c true ≠ 0) : sLacksA c = (0, sAsked c true) := by
  have hr : sKeepsA c = ([], sAsked c true) := by simp [sKeepsA, h0]
  rw [sLacksA, hr, if_neg h0]
end Go.Vm
set_option linter.unusedVariables false
set_option linter.unusedSimpArgs false
set_option maxRecDepth 100000
namespace Go.Vm
/-! ### no sure coal is less -/
theorem lowD_full (S : Nat) (hS : 1 ≤ S) : ∀ k, lowD S ((S ^ k - 1 : Nat) : Int) k = List.replicate k ((S : Int) - 1)
  | 0 => rfl
  | k + 1 => by
    have hp : 1 ≤ S ^ k := Nat.pow_pos hS
    have e : S ^ (k + 1) - 1 = (S - 1) * S ^ k + (S ^ k - 1) := by
      rw [Nat.pow_succ, Nat.mul_comm, Nat.sub_mul, Nat.one_mul]
      have : 1 * S ^ k ≤ S * S ^ k := Nat.mul_le_mul_right _ hS
      omega
    rw [e, lowD, lowD_add hS (S - 1) (S ^ k - 1) k (Nat.le_refl _), lowD_full S hS k, dvN_nat, ← Int.ofNat_tmod, List.replicate_succ]
    congr 1
    have : ((S - 1) * S ^ k + (S ^ k - 1)) / S ^ k = S - 1 := by
      rw [Nat.mul_comm, Nat.mul_add_div hp, Nat.div_eq_of_lt (by omega)]; rfl
    rw [this, Nat.mod_eq_of_lt (by omega)]; omega
theorem coal_full {c : Cu} (k0 : CuOk c) : rCoal c (rCoals c - 1) = List.replicate (c.last + 1).toNat c.shovels := by
  have hs := k0.shovels
  obtain ⟨S, hS⟩ : ∃ S : Nat, (S : Int) = c.shovels + 1 := ⟨(c.shovels + 1).toNat, by omega⟩
  have hp : 1 ≤ S ^ (c.last + 1).toNat := Nat.pow_pos (by omega)
  have e := lowD_full S (by omega) (c.last + 1).toNat
  rw [rCoal, rCoals, ← hS, powI_nat, show ((S ^ (c.last + 1).toNat : Nat) : Int) - 1 = ((S ^ (c.last + 1).toNat - 1 : Nat) : Int) by omega, e, show (S : Int) - 1 = c.shovels by omega]
theorem is_coal {c : Cu} {l : List Int} : sIsCoal c l = true ↔ (l.length : Int) = c.last + 1 ∧ ∀ x ∈ l, 0 ≤ x ∧ x ≤ c.shovels := by
  simp only [sIsCoal, Bool.and_eq_true, decide_eq_true_eq, List.all_eq_true, sIn]
theorem coal_dig {c : Cu} (k0 : CuOk c) {l : List Int} : sIsCoal c l = true ↔ l ∈ digs c.shovels (c.last + 1).toNat := by
  rw [is_coal, digs_mem]
  have := k0.last
  constructor
  · rintro ⟨h1, h2⟩; exact ⟨by omega, h2⟩
  · rintro ⟨h1, h2⟩; exact ⟨by omega, h2⟩
theorem coal_sum {c : Cu} (k0 : CuOk c) {l : List Int} (h : sIsCoal c l = true) : sSum l = l.sum ∧ l.sum ≤ 15 := by
  obtain ⟨h1, h2⟩ := is_coal.1 h
  have := k0.shovels
  have := k0.last
  have := (sum_le fun x hx => show 0 ≤ x ∧ x ≤ 3 by have := h2 x hx; omega).2
  exact ⟨sSum_eq (fun x hx => by have := h2 x hx; omega) (by omega), by omega⟩
theorem prove_ok {c : Cu} (A : AskOk c true) (h0 : sAsked c true = 0) {coal : List Int} (h : sIsCoal c coal = true) {many : Int} (hm : coal.sum ≤ many) : sProveCoal c coal many = sSureP c coal := by
  simp [sProveCoal, h, h0, (coal_sum A.k0 h).1, hm]
theorem prove_no {c : Cu} (h0 : sAsked c true ≠ 0) (coal : List Int) (many : Int) : sProveCoal c coal many = false := by
  have : sAsked c (sIsCoal c coal) ≠ 0 := by
    intro h
    have : ∀ b, sAsked c b = 0 → sAsked c true = 0 := by
      intro b hb
      unfold sAsked at hb ⊢
      by_cases h1 : sCheck c ≠ 0
      · rw [if_pos h1] at hb; exact absurd hb h1
      · rw [if_neg h1] at hb ⊢
        rw [if_neg (by simp)]
        split at hb
        · cases hb
        · exact hb
    exact h0 (this _ h)
  simp [sProveCoal, this]
theorem asked_11 {c : Cu} (h0 : sCheck c = 0) (hA : sAsked c true ≠ 0) : sAsked c true = 11 := by
  unfold sAsked at hA ⊢
  rw [if_neg (by simp [h0]), if_neg (by simp)] at hA ⊢
  split
  · rfl
  · rename_i h; rw [if_neg h] at hA; exact absurd rfl hA
theorem sure_more {c : Cu} (A : AskOk c true) {a b : List Int} (ha : sIsCoal c a = true) (hb : ∀ i : Nat, i < (c.last + 1).toNat → gi a i ≤ gi b i) (h : sSureP c a = true) : sSureP c b = true := by
  have k0 := A.k0
  have hne : rTruths c ≠ [] := fun e => A.ne ((same_nil A.k0).2 e)
  obtain ⟨a1, a2⟩ := is_coal.1 ha
  rw [sure_whole k0 A.ne, decide_eq_true_eq, wholes_one hne] at h ⊢
  intro t ht
  have T := rTr_ok k0 _ t ht
  refine whole_coal k0.per.1 T.sc.heat.1 (fun i hi => ⟨?_, hb i hi⟩) (h t ht)
  exact (a2 _ (gi_mem (by omega))).1
theorem sure_all {c : Cu} (A : AskOk c true) {a : List Int} (ha : sIsCoal c a = true) (h : sSureP c a = true) : sSureP c (rCoal c (rCoals c - 1)) = true := by
  refine sure_more A ha (fun i hi => ?_) h
  obtain ⟨a1, a2⟩ := is_coal.1 ha
  rw [coal_full A.k0]
  have : gi (List.replicate (c.last + 1).toNat c.shovels) i = c.shovels := by
    simp only [gi, Int.toNat_natCast, List.getD_eq_getElem?_getD, List.getElem?_replicate, hi, if_true, Option.getD]
  rw [this]
  exact (a2 _ (gi_mem (by omega))).2
theorem lBefore_irr : ∀ a : List Int, lBefore a a = false
  | [] => rfl
  | x :: a => by simp only [lBefore, if_true]; exact lBefore_irr a
theorem least_least {c : Cu} (k0 : CuOk c) {l x : List Int} (h : leastF c = some l) (hx : sIsCoal c x = true) (hs : sSureP c x = true) : l.sum < x.sum ∨ (l.sum = x.sum ∧ lBefore x l = false) := by
  rcases (leastF_some k0 h).min x ((coal_dig k0).1 hx) hs with h1 | ⟨h1, h2 | h2⟩
  · exact .inl h1
  · exact .inr ⟨h1, by rw [h2]; exact lBefore_irr x⟩
  · exact .inr ⟨h1, lBefore_asymm h2⟩
theorem own_lacks {c : Cu} (A : AskOk c true) (h0 : sAsked c true = 0) : sProveCoal c c.coal 99 = decide ((sLacksA c).2 = 7) ∧ ((sLacksA c).2 = 7 ∨ (sLacksA c).2 = 0) := by
  have hc : sIsCoal c c.coal = true := is_coal.2 A.k0.coal
  have hs := coal_sum A.k0 hc
  rw [prove_ok A h0 hc (by omega), lacks_whole A h0, sure_whole A.k0 A.ne]
  by_cases h : rWholes c (rTruths c) c.coal c.want = 1
  · simp [h]
  · simp [h]
end Go.Vm
set_option linter.unusedVariables false
set_option linter.unusedSimpArgs false
set_option maxRecDepth 100000
namespace Go.Vm
/-! ### fewer truths -/
/-- The same hours, coal and promises; each truth of x is one of c. -/
structure SubT (x c : Cu) : Prop where
  last : x.last = c.last
  start : x.start = c.start
  most : x.most = c.most
  per : x.per = c.per
  coal : x.coal = c.coal
  want : x.want = c.want
  sub : ∀ t ∈ rTruths x, t ∈ rTruths c
theorem SubT.heat {x c : Cu} (S : SubT x c) (t : Tr2) (coal want : List Int) (i : Nat) : sHeat x (tS t) coal want i = sHeat c (tS t) coal want i := sHeat_cu c x S.start S.most S.per _ _ _ _
theorem SubT.kept {x c : Cu} (S : SubT x c) (coal want : List Int) (t : Tr2) (i : Nat) : keptI x coal want t i = keptI c coal want t i := by
  simp only [keptI, S.heat, S.per]
theorem SubT.whole {x c : Cu} (S : SubT x c) (coal want : List Int) (t : Tr2) : wholeI x coal want t = wholeI c coal want t := by
  simp only [wholeI, S.kept, S.last]
theorem SubT.hot {x c : Cu} (S : SubT x c) (t : Tr2) (i : Nat) : hotI x t i = hotI c t i := by
  simp only [hotI, S.coal, S.want, S.heat, S.per]
theorem SubT.left {x c : Cu} (S : SubT x c) (t : Tr2) (i : Nat) : leftI x t i = leftI c t i := by
  simp only [leftI, S.coal, S.want, sPlay_cu c x S.start S.most S.per]
theorem hot_le {c : Cu} (k0 : CuOk c) {t : Tr2} (T : T2Ok c t) {i : Nat} (hi : (i : Int) ≤ c.last) : 0 ≤ hotI c t i ∧ hotI c t i ≤ 100000 := by
  have hh := sHeat_le (T.tr k0).play hi
  have h1 := Int.tdiv_nonneg hh.1 (b := c.per) (by have := k0.per; omega)
  have h2 := Int.tdiv_le_self c.per hh.1
  simp only [hotI]; omega
theorem left_le {c : Cu} (k0 : CuOk c) {t : Tr2} (T : T2Ok c t) {i : Nat} (hi : (i : Int) ≤ c.last) : 0 ≤ leftI c t i ∧ leftI c t i ≤ 100000 := by
  have hh := sPlay_inv (T.tr k0).play (i + 1) (by omega)
  simp only [leftI]; omega
theorem rB_ends' {ys : List Int} (hne : ys ≠ []) (hb : ∀ x ∈ ys, 0 ≤ x ∧ x ≤ 100000) : (rB ys).lo ∈ ys ∧ (rB ys).hi ∈ ys := by
  obtain ⟨g1, g2, g3, g4, g5, g6⟩ := fold_wider ys rEmpty
  rw [rB]
  generalize ys.foldl sWider rEmpty = B at g1 g2 g3 g4 g5 g6 ⊢
  obtain ⟨y, hy⟩ := List.exists_mem_of_ne_nil _ hne
  have hn := hb y hy
  have b1 := g2 y hy
  have b2 := g5 y hy
  constructor
  · rcases g3 with h | h
    · simp only [rEmpty] at h; omega
    · exact h
  · rcases g6 with h | h
    · simp only [rEmpty] at h; omega
    · exact h
theorem rB_sub {xs ys : List Int} (hne : xs ≠ []) (hb : ∀ x ∈ xs, 0 ≤ x ∧ x ≤ 100000) (hs : ∀ x ∈ xs, x ∈ ys) : (rB ys).lo ≤ (rB xs).lo ∧ (rB xs).hi ≤ (rB ys).hi := by
  obtain ⟨h1, h2⟩ := rB_ends' hne hb
  have g1 := rB_in (hs _ h1)
  have g2 := rB_in (hs _ h2)
  simp only [sIn, Bool.and_eq_true, decide_eq_true_eq] at g1 g2
  exact ⟨g1.1, g2.2⟩
theorem SubT.hotB {x c : Cu} (S : SubT x c) (X : AskOk x true) (A : AskOk c true) {i : Nat} (hi : (i : Int) ≤ c.last) : (sHotB c i).lo ≤ (sHotB x i).lo ∧ (sHotB x i).hi ≤ (sHotB c i).hi := by
  have hne : rTruths x ≠ [] := fun e => X.ne ((same_nil X.k0).2 e)
  have hx : (i : Int) ≤ x.last := by rw [S.last]; exact hi
  rw [hotB_same A hi, hotB_same X hx]
  refine rB_sub (by simpa using hne) (fun n hn => ?_) fun n hn => ?_
  · obtain ⟨t, ht, rfl⟩ := List.mem_map.1 hn
    exact hot_le X.k0 (rTr_ok X.k0 _ t ht) hx
  · obtain ⟨t, ht, rfl⟩ := List.mem_map.1 hn
    exact List.mem_map.2 ⟨t, S.sub t ht, (S.hot t i).symm⟩
theorem SubT.leftB {x c : Cu} (S : SubT x c) (X : AskOk x true) (A : AskOk c true) {i : Nat} (hi : (i : Int) ≤ c.last) : (sLeftB c i).lo ≤ (sLeftB x i).lo ∧ (sLeftB x i).hi ≤ (sLeftB c i).hi := by
  have hne : rTruths x ≠ [] := fun e => X.ne ((same_nil X.k0).2 e)
  have hx : (i : Int) ≤ x.last := by rw [S.last]; exact hi
  rw [leftB_same A hi, leftB_same X hx]
  refine rB_sub (by simpa using hne) (fun n hn => ?_) fun n hn => ?_
  · obtain ⟨t, ht, rfl⟩ := List.mem_map.1 hn
    exact left_le X.k0 (rTr_ok X.k0 _ t ht) hx
  · obtain ⟨t, ht, rfl⟩ := List.mem_map.1 hn
    exact List.mem_map.2 ⟨t, S.sub t ht, (S.left t i).symm⟩
theorem SubT.keeps {x c : Cu} (S : SubT x c) (X : AskOk x true) (A : AskOk c true) {i : Nat} (hi : (i : Int) ≤ c.last) : kpF c i = 3 ∨ kpF c i = kpF x i := by
  have hne : rTruths x ≠ [] := fun e => X.ne ((same_nil X.k0).2 e)
  have hnc : rTruths c ≠ [] := fun e => A.ne ((same_nil A.k0).2 e)
  have hx : (i : Int) ≤ x.last := by rw [S.last]; exact hi
  rw [keeps_same A hi, keeps_same X hx, rKeeps, rKeeps, rVerdict_count _ hne, rVerdict_count _ hnc]
  have e : ∀ t, keptI x x.coal x.want t i = keptI c c.coal c.want t i := fun t => by rw [S.coal, S.want, S.kept]
  simp only [e]
  by_cases h1 : ((rTruths c).all fun t => keptI c c.coal c.want t i) = true
  · have h2 : ((rTruths x).all fun t => keptI c c.coal c.want t i) = true := List.all_eq_true.2 fun t ht => List.all_eq_true.1 h1 t (S.sub t ht)
    right; rw [if_pos h1, if_pos h2]
  · rw [if_neg h1]
    by_cases h3 : ((rTruths c).any fun t => keptI c c.coal c.want t i) = true
    · left; rw [if_pos h3]
    · right
      have h4 : ∀ t ∈ rTruths x, keptI c c.coal c.want t i = false := fun t ht => by
        rw [Bool.not_eq_true, List.any_eq_false] at h3
        simpa using h3 t (S.sub t ht)
      have h5 : ¬ ((rTruths x).any fun t => keptI c c.coal c.want t i) = true := by
        rw [Bool.not_eq_true, List.any_eq_false]
        intro t ht; simp [h4 t ht]
      have h6 : ¬ ((rTruths x).all fun t => keptI c c.coal c.want t i) = true := by
        rw [List.all_eq_true]
        intro h
        obtain ⟨y, hy⟩ := List.exists_mem_of_ne_nil _ hne
        have := h y hy
        rw [h4 y hy] at this; cases this
      rw [if_neg h3, if_neg h6, if_neg h5]
theorem SubT.wholes {x c : Cu} (S : SubT x c) (hne : rTruths x ≠ []) {coal want : List Int} (h : rWholes c (rTruths c) coal want = 1) : rWholes x (rTruths x) coal want = 1 := by
  have hnc : rTruths c ≠ [] := fun e => by
    obtain ⟨y, hy⟩ := List.exists_mem_of_ne_nil _ hne
    have := S.sub y hy
    rw [e] at this; simp at this
  rw [wholes_one hnc] at h
  rw [wholes_one hne]
  intro t ht
  rw [S.whole]
  exact h t (S.sub t ht)
theorem SubT.sure {x c : Cu} (S : SubT x c) (X : AskOk x true) (A : AskOk c true) {coal : List Int} (h : sSureP c coal = true) : sSureP x coal = true := by
  have hne : rTruths x ≠ [] := fun e => X.ne ((same_nil X.k0).2 e)
  rw [sure_whole A.k0 A.ne, decide_eq_true_eq] at h
  rw [sure_whole X.k0 X.ne, decide_eq_true_eq, S.want]
  exact S.wholes hne h
/-- What Spare returns. -/
theorem spare_some {c : Cu} {hour : Int} (h : sIn hour 0 c.last = true) (h0 : sAsked c true = 0) : (∃ s : Int, sSpareA c hour = (s, 0) ∧ 0 ≤ s ∧ s ≤ 20 ∧ sWith c (sTruth c) (moreAt c hour s) = 1 ∧ ∀ m, s < m → m ≤ 20 → sWith c (sTruth c) (moreAt c hour m) ≠ 1) ∨ (sSpareA c hour = (0, 10) ∧ ∀ m, 0 ≤ m → m ≤ 20 → sWith c (sTruth c) (moreAt c hour m) ≠ 1) := by
  unfold sSpareA
  rw [h, if_pos h0]
  cases hf : (List.range 21).find? fun (j : Nat) => decide (sWith c (sTruth c) (moreAt c hour (20 - j)) = 1) with
  | some j =>
    rw [List.find?_eq_some_iff_getElem] at hf
    obtain ⟨h1, i, hi, h2, h3⟩ := hf
    simp only [List.length_range] at hi
    simp only [List.getElem_range] at h2 h3
    subst h2
    refine .inl ⟨20 - (i : Int), rfl, by omega, by omega, by simpa using h1, fun m hm hm2 => ?_⟩
    have := h3 (20 - m).toNat (by omega)
    rw [show (20 : Int) - ((20 - m).toNat : Int) = m by omega] at this
    simpa using this
  | none =>
    rw [List.find?_eq_none] at hf
    refine .inr ⟨rfl, fun m hm hm2 => ?_⟩
    have := hf (20 - m).toNat (by simp; omega)
    rw [show (20 : Int) - ((20 - m).toNat : Int) = m by omega] at this
    simpa using this
theorem moreAt_cu {x c : Cu} (h : x.last = c.last) (hour n : Int) : moreAt x hour n = moreAt c hour n := by simp only [moreAt, h]
theorem SubT.with {x c : Cu} (S : SubT x c) (X : AskOk x true) (A : AskOk c true) {more : List Int} (hm : more.length = c.want.length) (h : sWith c (sTruth c) more = 1) : sWith x (sTruth x) more = 1 := by
  have hne : rTruths x ≠ [] := fun e => X.ne ((same_nil X.k0).2 e)
  rw [with_same A.k0 A.ne hm] at h
  rw [with_same X.k0 X.ne (by rw [S.want]; exact hm), S.want, S.coal]
  exact S.wholes hne h
theorem SubT.spare {x c : Cu} (S : SubT x c) (X : AskOk x true) (A : AskOk c true) (hx : sAsked x true = 0) (hc : sAsked c true = 0) {hour : Int} (h : sIn hour 0 c.last = true) :
    ((sSpareA c hour).2 = 0 ∧ (sSpareA x hour).2 = 0 ∧ (sSpareA c hour).1 ≤ (sSpareA x hour).1) ∨ ((sSpareA c hour).2 = 10 ∧ ((sSpareA x hour).2 = 0 ∨ (sSpareA x hour).2 = 10)) := by
  have hlen : ∀ n, (moreAt c hour n).length = c.want.length := fun n => by have := A.k0.want.1; have := A.k0.last; rw [moreAt_len]; omega
  rcases spare_some h hc with ⟨s, e, s0, s20, w, _⟩ | ⟨e, _⟩
  · rcases spare_some (c := x) (by rw [S.last]; exact h) hx with ⟨s', e', s0', s20', w', hn⟩ | ⟨e', hn⟩
    · left
      rw [e, e']
      refine ⟨rfl, rfl, ?_⟩
      simp only
      by_cases hlt : s' < s
      · have := hn s hlt s20
        rw [moreAt_cu S.last] at this
        exact absurd (S.with X A (hlen s) w) this
      · omega
    · have := hn s s0 s20
      rw [moreAt_cu S.last] at this
      exact absurd (S.with X A (hlen s) w) this
  · right
    rcases spare_some (c := x) (by rw [S.last]; exact h) hx with ⟨s', e', _⟩ | ⟨e', _⟩
    · rw [e, e']; exact ⟨rfl, .inl rfl⟩
    · rw [e, e']; exact ⟨rfl, .inr rfl⟩
/-! which readings are left out -/
theorem leave_best {c : Cu} (k0 : CuOk c) : ∃ b, b < 2 ^ c.readings.length ∧ leaveAll c = some (sBits b) ∧ possN c (2 ^ c.readings.length - 1 - b) = true ∧ ∀ j, j < 2 ^ c.readings.length → possN c (2 ^ c.readings.length - 1 - j) = true → (sBits b).length ≤ (sBits j).length := by
  have hn : c.readings.length < 6 := by have := k0.rds; omega
  obtain ⟨b, h1, h2, h3, h4⟩ := leave_first k0
  refine ⟨b, h1, h2, h3, fun j hj hP => ?_⟩
  have := h4 j hj hP
  have hr := perm_rk hn hj h1
  rw [decide_eq_false (by omega)] at hr
  simp only [lShorter, Bool.or_eq_false_iff, decide_eq_false_iff_not] at hr
  omega
theorem bits_mod : ∀ n, n < 5 → ∀ b, b < 2 ^ (n + 1) → (sBits (b % 2 ^ n)).length ≤ (sBits b).length ∧ ∀ i, i < n → (2 ^ n - 1 - b % 2 ^ n).testBit i = (2 ^ (n + 1) - 1 - b).testBit i := by decide +kernel
theorem bits_add : ∀ n, n < 5 → ∀ b, b < 2 ^ n → (sBits (b + 2 ^ n)).length = (sBits b).length + 1 := by decide +kernel
theorem bits_zero : ∀ b, b < 32 → (sBits b).length = 0 → b = 0 := by decide +kernel
theorem gD_append (l : List Rd) (r : Rd) {i : Nat} (h : i < l.length) : gD (l ++ [r]) i = gD l i := by
  simp only [gD, Int.toNat_natCast, List.getD_eq_getElem?_getD, List.getElem?_append_left h]
theorem range_all_le {n m : Nat} (h : n ≤ m) {f : Nat → Bool} (hf : (List.range m).all f = true) : (List.range n).all f = true := by
  rw [List.all_eq_true] at hf ⊢
  intro i hi
  exact hf i (by simp only [List.mem_range] at hi ⊢; omega)
theorem more_poss {c : Cu} (k0 : CuOk c) {r : Rd} (kx : CuOk (cuR c (c.readings ++ [r]))) {B C : Nat} (h : ∀ i, i < c.readings.length → C.testBit i = B.testBit i) (hp : possN (cuR c (c.readings ++ [r])) B = true) : possN c C = true := by
  unfold possN at hp ⊢
  rw [any_truths k0 kx (cuR_listed c _)] at hp
  rw [List.any_eq_true] at hp ⊢
  obtain ⟨s, hs, hall⟩ := hp
  refine ⟨s, hs, ?_⟩
  have hall := range_all_le (n := c.readings.length) (by simp [cuR]) hall
  rw [← hall]
  refine range_all_congr fun i hi => ?_
  rw [h i hi, read1_ok, read1_ok, cuR_rdOk]
  simp only [cuR]
  rw [gD_append _ _ hi]
theorem more_poss' {c : Cu} (k0 : CuOk c) {r : Rd} (kx : CuOk (cuR c (c.readings ++ [r]))) {B : Nat} (hB : B < 2 ^ c.readings.length) (hp : possN c B = true) : possN (cuR c (c.readings ++ [r])) B = true := by
  unfold possN at hp ⊢
  rw [any_truths k0 kx (cuR_listed c _)]
  rw [List.any_eq_true] at hp ⊢
  obtain ⟨s, hs, hall⟩ := hp
  refine ⟨s, hs, ?_⟩
  rw [List.all_eq_true] at hall ⊢
  intro i hi
  simp only [cuR, List.length_append, List.length_cons, List.length_nil, List.mem_range] at hi
  by_cases hin : i < c.readings.length
  · have := hall i (by simpa using hin)
    rw [read1_ok] at this ⊢
    rw [cuR_rdOk]
    simp only [cuR]
    rw [gD_append _ _ hin]
    exact this
  · have : B.testBit i = false := Nat.testBit_lt_two_pow (Nat.lt_of_lt_of_le hB (Nat.pow_le_pow_right (by omega) (by omega)))
    simp [this]
theorem more_leave {c : Cu} (k0 : CuOk c) {r : Rd} (kx : CuOk (cuR c (c.readings ++ [r]))) : ∃ l m, leaveAll c = some l ∧ leaveAll (cuR c (c.readings ++ [r])) = some m ∧ l.length ≤ m.length ∧ m.length ≤ l.length + 1 ∧ l.length ≤ 5 ∧ m.length ≤ 5 ∧ (m.length = 0 → sPoss (cuR c (c.readings ++ [r])) [] = true ∧ sPoss c [] = true) := by
  have hn : c.readings.length < 5 := by have := kx.rds; simp only [cuR, List.length_append, List.length_cons, List.length_nil] at this; omega
  have hlen : (cuR c (c.readings ++ [r])).readings.length = c.readings.length + 1 := by simp [cuR]
  obtain ⟨b, b1, b2, b3, b4⟩ := leave_best k0
  obtain ⟨d, d1, d2, d3, d4⟩ := leave_best kx
  rw [hlen] at d1 d3 d4
  obtain ⟨g1, g2⟩ := bits_mod _ hn d d1
  have h2 : (2 : Nat) ^ (c.readings.length + 1) = 2 ^ c.readings.length * 2 := Nat.pow_succ ..
  have hmod : d % 2 ^ c.readings.length < 2 ^ c.readings.length := Nat.mod_lt _ (Nat.two_pow_pos _)
  refine ⟨_, _, b2, d2, ?_, ?_, sBits_len b, sBits_len d, fun h => ?_⟩
  · exact Nat.le_trans (b4 _ hmod (more_poss k0 kx g2 d3)) g1
  · rw [← bits_add _ hn b b1]
    refine d4 _ (by omega) ?_
    rw [show 2 ^ (c.readings.length + 1) - 1 - (b + 2 ^ c.readings.length) = 2 ^ c.readings.length - 1 - b by omega]
    exact more_poss' k0 kx (by omega) b3
  · have hd : d = 0 := bits_zero d (by have : (2 : Nat) ^ (c.readings.length + 1) ≤ 2 ^ 5 := Nat.pow_le_pow_right (by omega) (by omega); omega) h
    subst hd
    have hx : sPoss (cuR c (c.readings ++ [r])) [] = true := by rw [poss_all kx, hlen]; exact d3
    refine ⟨hx, ?_⟩
    rw [poss_all k0]
    refine more_poss k0 kx (B := 2 ^ (c.readings.length + 1) - 1 - 0) (fun i hi => ?_) d3
    rw [testBit_ones, Nat.sub_zero, testBit_ones]
    simp; omega
theorem more_sub {c : Cu} (k0 : CuOk c) {r : Rd} (kx : CuOk (cuR c (c.readings ++ [r]))) : SubT (cuR c (c.readings ++ [r])) c :=
  ⟨rfl, rfl, rfl, rfl, rfl, rfl, fun t ht => by
    obtain ⟨h1, h2⟩ := (mem_rTruths' kx t).1 ht
    refine (mem_rTruths' k0 t).2 ⟨(cuR_listed _ _ _).1 h1, ?_⟩
    rw [right_all, List.all_eq_true] at h2 ⊢
    intro q hq
    have := h2 q (by simp only [cuR]; exact List.mem_append_left _ hq)
    rw [cuR_rdOk] at this
    exact this⟩
end Go.Vm
set_option linter.unusedVariables false
set_option linter.unusedSimpArgs false
set_option maxRecDepth 100000
namespace Go.Vm
open Go.Proofs
/-! ### ranges in other ranges; verdicts that stay -/
theorem c_lInside (a b : List Rg) (hl : a.length = b.length) (ha : (a.length : Int) ≤ 1000000) (h : ∀ i : Nat, i < a.length → (gR b i).lo ≤ (gR a i).lo ∧ (gR a i).hi ≤ (gR b i).hi) : Pu Try.prog (.fn 68 [] []) [vR a, vR b] (.bool true) := by
  refine Ev.fn Try.func68 rfl rfl (Fn.body tabOk Try.func68 rfl (Nat.le_of_ble_eq_true rfl) (Ks.ok (fz := (fzn [])) (cl := (cln [(6, .d tg0 [cP, cP, cP, cP, cP, cP, cP, cP, cP, cP, cP, cP, cP, cP, cP, cP, cP, cP, cP, cP, cP, cP, cP, cP])])) tabOk mixed ?_))
  generalize hQ : FnPost tt Try.f68 _ _ = Q
  simp only [Try.f68, List.nil_append, List.append_nil, List.cons_append, argsEnv, Nat.reduceAdd]
  have hl' : ((a.length : Int) != (b.length : Int)) = false := by simp [hl]
  simp only [gos, if_true, if_false, ne_eq, eq_self, Nat.reduceLT, Nat.reduceEqDiff, Nat.reduceAdd, Nat.reduceMul, Nat.reduceLeDiff, Nat.reduceBEq, reduceCtorEq, reduceIte, Array.toList, ↓reduceIte, tt, vgo, vout, vgoD, voutD, vclsOk, vids, mayWrite, V.ids, V.mids, vguard, callOf, vop, ev, cv, vbin, vint, isShift, isNilConst, vnil, isNilSlice, vload, vlen, newRow, vfill, vslice, entOf, vappend, srcOf, vcopy, vlookup, vupdate, mapOk, keyOf, intsOf, clsAt, vR, hl']
  refine W.loop tabOk mixed (fun i : Nat => ([(0, vR a), (1, vR b), (5, vi i)], [])) (fun i => a.length - i) (fun i => i ≤ a.length) 0 (by omega) (Wk.env (by simp [subE, Env.get, vR])) ?_
  intro i hi
  by_cases hil : (i : Int) < a.length
  · have h1 := h i (by omega)
    have n1 : ¬ (gR a i).lo < (gR b i).lo := by omega
    have n2 : ¬ (gR b i).hi < (gR a i).hi := by omega
    have hib : (i : Int) < b.length := by omega
    simp only [gos, if_true, if_false, ne_eq, eq_self, Nat.reduceLT, Nat.reduceEqDiff, Nat.reduceAdd, Nat.reduceMul, Nat.reduceLeDiff, Nat.reduceBEq, reduceCtorEq, reduceIte, Array.toList, ↓reduceIte, tt, vgo, vout, vgoD, voutD, vclsOk, vids, mayWrite, V.ids, V.mids, vguard, callOf, vop, ev, cv, vbin, vint, isShift, isNilConst, vnil, isNilSlice, vload, vlen, newRow, vfill, vslice, entOf, vappend, srcOf, vcopy, vlookup, vupdate, mapOk, keyOf, intsOf, clsAt, vR, hil]
    refine Wr.draw (by kernel_rfl) ?_
    simp only [gos, if_true, if_false, ne_eq, eq_self, Nat.reduceLT, Nat.reduceEqDiff, Nat.reduceAdd, Nat.reduceMul, Nat.reduceLeDiff, Nat.reduceBEq, reduceCtorEq, reduceIte, Array.toList, ↓reduceIte, tt, vgo, vout, vgoD, voutD, vclsOk, vids, mayWrite, V.ids, V.mids, vguard, callOf, vop, ev, cv, vbin, vint, isShift, isNilConst, vnil, isNilSlice, vload, vlen, newRow, vfill, vslice, entOf, vappend, srcOf, vcopy, vlookup, vupdate, mapOk, keyOf, intsOf, clsAt, vR, hil, hib, Int.natCast_nonneg, cR_at (Int.natCast_nonneg i) hil, cR_at (Int.natCast_nonneg i) hib, n1, n2]
    exact Nx.mk (i + 1) (show a.length - (i + 1) < a.length - i by omega) (by omega) (Wk.env (by simp [subE, Env.get, vR, i64_succ (show (i : Int) < 9223372036854775807 by omega)]))
  · simp only [gos, if_true, if_false, ne_eq, eq_self, Nat.reduceLT, Nat.reduceEqDiff, Nat.reduceAdd, Nat.reduceMul, Nat.reduceLeDiff, Nat.reduceBEq, reduceCtorEq, reduceIte, Array.toList, ↓reduceIte, tt, vgo, vout, vgoD, voutD, vclsOk, vids, mayWrite, V.ids, V.mids, vguard, callOf, vop, ev, cv, vbin, vint, isShift, isNilConst, vnil, isNilSlice, vload, vlen, newRow, vfill, vslice, entOf, vappend, srcOf, vcopy, vlookup, vupdate, mapOk, keyOf, intsOf, clsAt, vR, hil]
    subst hQ
    exact FnPost.plain trivial (fun h2 e => by first | rfl | (simp only [Try.f68, vres, vresL, vres1, e _, gos, if_true, if_false, ne_eq, eq_self, Nat.reduceLT, Nat.reduceEqDiff, Nat.reduceAdd, Nat.reduceMul, Nat.reduceLeDiff, Nat.reduceBEq, reduceCtorEq, reduceIte, Array.toList, ↓reduceIte, tt, vgo, vout, vgoD, voutD, vclsOk, vids, mayWrite, V.ids, V.mids, vguard, callOf, vop, ev, cv, vbin, vint, isShift, isNilConst, vnil, isNilSlice, vload, vlen, newRow, vfill, vslice, entOf, vappend, srcOf, vcopy, vlookup, vupdate, mapOk, keyOf, intsOf, clsAt]; try rfl)) (WkV.pure (by simp only [V.into, intoL, cB_into, vB_into, cI_into, cR_into, cD_into, cS_into, vS_into, vI_into, vR_into, vD_into, cu_into, Bool.true_and, Bool.and_true])) ⟨rfl, rfl⟩
theorem c_lKept (a b : List Int) (hl : a.length = b.length) (ha : (a.length : Int) ≤ 1000000) (h : ∀ i : Nat, i < a.length → gi a i = 3 ∨ gi a i = gi b i) : Pu Try.prog (.fn 69 [] []) [vI a, vI b] (.bool true) := by
  refine Ev.fn Try.func69 rfl rfl (Fn.body tabOk Try.func69 rfl (Nat.le_of_ble_eq_true rfl) (Ks.ok (fz := (fzn [])) (cl := (cln [(6, .d tg0 [cP, cP, cP, cP, cP, cP, cP, cP, cP, cP, cP, cP, cP, cP, cP, cP])])) tabOk mixed ?_))
  generalize hQ : FnPost tt Try.f69 _ _ = Q
  simp only [Try.f69, List.nil_append, List.append_nil, List.cons_append, argsEnv, Nat.reduceAdd]
  have hl' : ((a.length : Int) != (b.length : Int)) = false := by simp [hl]
  simp only [gos, if_true, if_false, ne_eq, eq_self, Nat.reduceLT, Nat.reduceEqDiff, Nat.reduceAdd, Nat.reduceMul, Nat.reduceLeDiff, Nat.reduceBEq, reduceCtorEq, reduceIte, Array.toList, ↓reduceIte, tt, vgo, vout, vgoD, voutD, vclsOk, vids, mayWrite, V.ids, V.mids, vguard, callOf, vop, ev, cv, vbin, vint, isShift, isNilConst, vnil, isNilSlice, vload, vlen, newRow, vfill, vslice, entOf, vappend, srcOf, vcopy, vlookup, vupdate, mapOk, keyOf, intsOf, clsAt, vI, hl']
  refine W.loop tabOk mixed (fun i : Nat => ([(0, vI a), (1, vI b), (5, vi i)], [])) (fun i => a.length - i) (fun i => i ≤ a.length) 0 (by omega) (Wk.env (by simp [subE, Env.get, vI])) ?_
  intro i hi
  by_cases hil : (i : Int) < a.length
  · have hib : (i : Int) < b.length := by omega
    have hsucc := i64_succ (show (i : Int) < 9223372036854775807 by omega)
    simp only [gos, if_true, if_false, ne_eq, eq_self, Nat.reduceLT, Nat.reduceEqDiff, Nat.reduceAdd, Nat.reduceMul, Nat.reduceLeDiff, Nat.reduceBEq, reduceCtorEq, reduceIte, Array.toList, ↓reduceIte, tt, vgo, vout, vgoD, voutD, vclsOk, vids, mayWrite, V.ids, V.mids, vguard, callOf, vop, ev, cv, vbin, vint, isShift, isNilConst, vnil, isNilSlice, vload, vlen, newRow, vfill, vslice, entOf, vappend, srcOf, vcopy, vlookup, vupdate, mapOk, keyOf, intsOf, clsAt, vI, hil]
    refine Wr.draw (by kernel_rfl) ?_
    by_cases h3 : gi a i = 3
    · have n1 : (gi a i != 3) = false := by simp [h3]
      simp only [gos, if_true, if_false, ne_eq, eq_self, Nat.reduceLT, Nat.reduceEqDiff, Nat.reduceAdd, Nat.reduceMul, Nat.reduceLeDiff, Nat.reduceBEq, reduceCtorEq, reduceIte, Array.toList, ↓reduceIte, tt, vgo, vout, vgoD, voutD, vclsOk, vids, mayWrite, V.ids, V.mids, vguard, callOf, vop, ev, cv, vbin, vint, isShift, isNilConst, vnil, isNilSlice, vload, vlen, newRow, vfill, vslice, entOf, vappend, srcOf, vcopy, vlookup, vupdate, mapOk, keyOf, intsOf, clsAt, vI, hil, hib, Int.natCast_nonneg, cI_at (Int.natCast_nonneg i) hil, cI_at (Int.natCast_nonneg i) hib, n1]
      exact Nx.mk (i + 1) (show a.length - (i + 1) < a.length - i by omega) (by omega) (Wk.env (by simp [subE, Env.get, vI, hsucc]))
    · have n1 : (gi a i != 3) = true := by simp [h3]
      have n2 : (gi a i != gi b i) = false := by
        have := (h i (by omega)).resolve_left h3
        simp [this]
      simp only [gos, if_true, if_false, ne_eq, eq_self, Nat.reduceLT, Nat.reduceEqDiff, Nat.reduceAdd, Nat.reduceMul, Nat.reduceLeDiff, Nat.reduceBEq, reduceCtorEq, reduceIte, Array.toList, ↓reduceIte, tt, vgo, vout, vgoD, voutD, vclsOk, vids, mayWrite, V.ids, V.mids, vguard, callOf, vop, ev, cv, vbin, vint, isShift, isNilConst, vnil, isNilSlice, vload, vlen, newRow, vfill, vslice, entOf, vappend, srcOf, vcopy, vlookup, vupdate, mapOk, keyOf, intsOf, clsAt, vI, hil, hib, Int.natCast_nonneg, cI_at (Int.natCast_nonneg i) hil, cI_at (Int.natCast_nonneg i) hib, n1, n2]
      exact Nx.mk (i + 1) (show a.length - (i + 1) < a.length - i by omega) (by omega) (Wk.env (by simp [subE, Env.get, vI, hsucc]))
  · simp only [gos, if_true, if_false, ne_eq, eq_self, Nat.reduceLT, Nat.reduceEqDiff, Nat.reduceAdd, Nat.reduceMul, Nat.reduceLeDiff, Nat.reduceBEq, reduceCtorEq, reduceIte, Array.toList, ↓reduceIte, tt, vgo, vout, vgoD, voutD, vclsOk, vids, mayWrite, V.ids, V.mids, vguard, callOf, vop, ev, cv, vbin, vint, isShift, isNilConst, vnil, isNilSlice, vload, vlen, newRow, vfill, vslice, entOf, vappend, srcOf, vcopy, vlookup, vupdate, mapOk, keyOf, intsOf, clsAt, vI, hil]
    subst hQ
    exact FnPost.plain trivial (fun h2 e => by first | rfl | (simp only [Try.f69, vres, vresL, vres1, e _, gos, if_true, if_false, ne_eq, eq_self, Nat.reduceLT, Nat.reduceEqDiff, Nat.reduceAdd, Nat.reduceMul, Nat.reduceLeDiff, Nat.reduceBEq, reduceCtorEq, reduceIte, Array.toList, ↓reduceIte, tt, vgo, vout, vgoD, voutD, vclsOk, vids, mayWrite, V.ids, V.mids, vguard, callOf, vop, ev, cv, vbin, vint, isShift, isNilConst, vnil, isNilSlice, vload, vlen, newRow, vfill, vslice, entOf, vappend, srcOf, vcopy, vlookup, vupdate, mapOk, keyOf, intsOf, clsAt]; try rfl)) (WkV.pure (by simp only [V.into, intoL, cB_into, vB_into, cI_into, cR_into, cD_into, cS_into, vS_into, vI_into, vR_into, vD_into, cu_into, Bool.true_and, Bool.and_true])) ⟨rfl, rfl⟩
end Go.Vm
