import Derived.Test.YtjppikcigeiomaaGreatB2
import Derived.Test.YtjppikcigeiomaaGreatVm30
set_option linter.unusedVariables false
set_option linter.unusedSimpArgs false
set_option maxRecDepth 100000
namespace Go.Vm
open Go.Proofs
theorem are_ok {r : Rm} (k : RmOk r) {plan : List Int} (h : sAre r plan = true) : plan.length = r.ba.length ∧ ∀ x ∈ plan, 0 ≤ x ∧ x ≤ r.cu.last := by
  simp only [sAre, Bool.and_eq_true, decide_eq_true_eq, List.all_eq_true, List.mem_range] at h
  refine ⟨h.1, fun x hx => ?_⟩
  obtain ⟨i, hi, rfl⟩ := mem_gi hx
  have h2 := h.2 i (by omega)
  simp only [sIn, Bool.and_eq_true, decide_eq_true_eq] at h2
  have := k.ba _ (List.mem_of_getElem? (gR_get (l := r.ba) (i := i) (by omega)))
  omega
theorem cnt_nok {r : Rm} (k : RmOk r) {plan : List Int} (hl : plan.length ≤ 900) (h : ∀ x ∈ plan, 0 ≤ x ∧ x ≤ r.cu.last) : NOk (cntN plan) := by
  have hl2 := k.A.k0.last
  refine ⟨by rw [cntN, addC_len]; rfl, fun i => ?_⟩
  have hs : ∀ x ∈ plan, 0 ≤ x ∧ x < (zL.length : Int) := fun x hx => by have := h x hx; simp only [zL, List.length_cons, List.length_nil]; omega
  have h1 := addC_ge plan zL hs i
  have h2 := addC_le plan zL hs i
  rw [zL_gi] at h1 h2
  rw [cntN]; omega
/-- A room at work and the numbers of a plan, or the error. -/
def BplQ (r : Rm) (plan : List Int) (e : Int) (v : V) (h' : Heap) : Prop := (e ≠ 0 ∧ v = .tup [.nilp, .agg (cI zL), vi e] ∧ h' = []) ∨ (e = 0 ∧ v = .tup [.rop (bw r (.mp 90)), .agg (cI (cntN plan)), vi 0] ∧ h' = [(90, ⟨0, .map []⟩)])
set_option maxHeartbeats 1000000 in
theorem c_planned (r : Rm) (hr : r.wf) (plan : List Int) (hp : (plan.length : Int) ≤ 1000000) (fine : Bool) : Ev Tryz.prog (.fn 82 [] []) [.agg r.cs, vI plan, .bool fine] [] (BplQ r plan (sPlanned r plan fine)) := by
  refine Ev.fn Tryz.func82 rfl rfl (Fn.body tabOk Tryz.func82 rfl (Nat.le_of_ble_eq_true rfl) (Ks.ok (fz := (fzn [7, 11])) (cl := (cln [(9, .d tg0 [cP, cL, cP, cW, cP])])) tabOk mixed ?_))
  generalize hQ : FnPost tt Tryz.f82 _ _ = Q
  simp only [Tryz.f82, List.nil_append, List.append_nil, argsEnv, Nat.reduceAdd]
  simp only [gos, eq_self, Nat.reduceLT, Nat.reduceEqDiff, reduceCtorEq, reduceIte, ↓reduceIte, tt, vgo, vout, vguard, callOf, vop, ev, cv, vload, newRow, rms]
  by_cases h0 : sCheckR r = 0
  case neg =>
    refine Cl.pu (c_baskN r hr h0) ?_ rfl (by simp only [V.into, intoL, Bool.and_true, rm_into])
    have hb : (sCheckR r != 0) = true := by simp [h0]
    simp only [gos, eq_self, Nat.reduceLT, Nat.reduceEqDiff, Nat.reduceAdd, reduceCtorEq, reduceIte, ↓reduceIte, tt, vgo, vout, vguard, callOf, vop, ev, cv, vbin, vint, isShift, isNilConst, vfill, hb]
    subst hQ
    refine FnPost.plain trivial (v := .tup [.nilp, .agg (cI zL), vi (sCheckR r)]) (fun h2 e => by simp only [Tryz.f82, vres, vresL, vres1, gos, eq_self, Nat.reduceLT, Nat.reduceEqDiff, Nat.reduceAdd, reduceCtorEq, reduceIte, ↓reduceIte, tt, vload, e _]; rfl) (WkV.pure (by rfl)) (.inl ⟨by rw [sPlanned, if_pos h0]; exact h0, by rw [sPlanned, if_pos h0], rfl⟩)
  refine Cl.newN (n_bask r hr h0) rfl ?_
  have k := rmOk_of h0
  have hl := k.A.k0.last
  have z0 : ((0 : Int) != 0) = false := rfl
  simp only [gos, eq_self, Nat.reduceLT, Nat.reduceEqDiff, reduceCtorEq, reduceIte, ↓reduceIte, tt, vgo, vout, vguard, callOf, vop, ev, cv, vbin, vint, isShift, isNilConst, vload, rms]
  refine Cl.pu (c_are r hr.ba plan hp) ?_ rfl (by simp only [V.into, intoL, vI_into, Bool.and_true, rm_into])
  cases ha : sAre r plan with
  | false =>
    have he : sPlanned r plan fine = 2 := by rw [sPlanned, if_neg (by simp [h0]), if_pos (by simp [ha])]
    simp only [gos, eq_self, Nat.reduceLT, Nat.reduceEqDiff, Nat.reduceAdd, reduceCtorEq, reduceIte, ↓reduceIte, tt, vgo, vout, vguard, callOf, vop, ev, cv, vfill]
    subst hQ
    exact FnPost.plain trivial (v := .tup [.nilp, .agg (cI zL), vi 2]) (fun h2 e => by simp only [Tryz.f82, vres, vresL, vres1, gos, eq_self, Nat.reduceLT, Nat.reduceEqDiff, Nat.reduceAdd, reduceCtorEq, reduceIte, ↓reduceIte, tt, vload, e _]; rfl) (WkV.pure (by rfl)) (.inl ⟨by rw [he]; decide, by rw [he], rfl⟩)
  | true =>
  obtain ⟨hpl, hpr⟩ := are_ok k ha
  have hlen := k.len
  have hnk := cnt_nok k (by omega) hpr
  cases fine with
  | false =>
    have he : sPlanned r plan false = 2 := by rw [sPlanned, if_neg (by simp [h0]), if_pos (by simp)]
    simp only [gos, eq_self, Nat.reduceLT, Nat.reduceEqDiff, Nat.reduceAdd, reduceCtorEq, reduceIte, ↓reduceIte, tt, vgo, vout, vguard, callOf, vop, ev, cv, vfill]
    subst hQ
    exact FnPost.plain trivial (v := .tup [.nilp, .agg (cI zL), vi 2]) (fun h2 e => by simp only [Tryz.f82, vres, vresL, vres1, gos, eq_self, Nat.reduceLT, Nat.reduceEqDiff, Nat.reduceAdd, reduceCtorEq, reduceIte, ↓reduceIte, tt, vload, e _]; rfl) (WkV.pure (by rfl)) (.inl ⟨by rw [he]; decide, by rw [he], rfl⟩)
  | true =>
  have hn5 : (cI (cntN plan)).length = 5 := by rw [cI_len, hnk.len]
  have ht5 : List.take 5 (cI (cntN plan)) = cI (cntN plan) := List.take_of_length_le (by omega)
  have hd5 : List.drop 5 (cI (cntN plan)) = [] := List.drop_eq_nil_of_le (by omega)
  have hone := cI_one (cntN plan)
  simp only [gos, eq_self, Nat.reduceLT, Nat.reduceEqDiff, reduceCtorEq, reduceIte, ↓reduceIte, vgo, vout, vguard, callOf, vop, ev]
  refine Cl.pu (c_counted plan (by omega) (fun x hx => by have := hpr x hx; omega)) ?_ rfl (by simp only [intoL, vI_into, Bool.and_true])
  simp only [gos, eq_self, Nat.reduceLT, Nat.reduceEqDiff, Nat.reduceAdd, reduceCtorEq, reduceIte, ↓reduceIte, tt, vgo, vout, vguard, callOf, vop, ev, vload, newRow, rms, hn5, ht5, hone]
  refine Cl.pu (c_bposs r k (cntN plan) hnk) ?_ rfl (by simp only [V.into, intoL, cI_into, Bool.and_true, rm_into])
  cases hq : sPossN r (cntN plan) with
  | false =>
    have he : sPlanned r plan true = 9 := by rw [sPlanned, if_neg (by simp [h0]), if_neg (by simp [ha]), if_pos hq]
    simp only [gos, eq_self, Nat.reduceLT, Nat.reduceEqDiff, Nat.reduceAdd, reduceCtorEq, reduceIte, ↓reduceIte, tt, vgo, vout, vguard, callOf, vop, ev, cv, vfill]
    subst hQ
    exact FnPost.plain trivial (v := .tup [.nilp, .agg (cI zL), vi 9]) (fun h2 e => by simp only [Tryz.f82, vres, vresL, vres1, gos, eq_self, Nat.reduceLT, Nat.reduceEqDiff, Nat.reduceAdd, reduceCtorEq, reduceIte, ↓reduceIte, tt, vload, e _]; rfl) (WkV.pure (by rfl)) (.inl ⟨by rw [he]; decide, by rw [he], rfl⟩)
  | true =>
    have he : sPlanned r plan true = 0 := by rw [sPlanned, if_neg (by simp [h0]), if_neg (by simp [ha]), if_neg (by simp [hq])]
    simp only [gos, eq_self, Nat.reduceLT, reduceIte, ↓reduceIte, vgo, vout, vguard, callOf, vop, ev]
    refine Wr.draw (by kernel_rfl) ?_
    simp only [gos, eq_self, Nat.reduceLT, Nat.reduceEqDiff, Nat.reduceAdd, reduceCtorEq, reduceIte, ↓reduceIte, tt, vgoD, voutD, vclsOk, vids, mayWrite, V.ids, vguard, callOf, vop, ev, cv, vload, clsAt, hn5, ht5, hone]
    subst hQ
    refine FnPost.plain trivial (v := .tup [.rop (bw r (.mp 90)), .agg (cI (cntN plan)), vi 0]) (fun h2 e => by simp only [Tryz.f82, vres, vresL, vres1, gos, eq_self, Nat.reduceLT, Nat.reduceEqDiff, reduceCtorEq, reduceIte, ↓reduceIte, tt, vload, e _, hn5, ht5]) (WkV.forgetF (h' := [(90, ⟨0, .map []⟩)]) ?_ ?_ ?_ rfl) (.inr ⟨he, rfl, rfl⟩)
    · intro i e he2
      simp only [Heap.get] at he2 ⊢
      split at he2
      · rename_i h; subst h; exact he2
      · cases he2
    · intro i hi; cases hi
    · simp only [V.into, intoL, cI_into, Bool.and_true]
      rw [bw_into _ _ _ rfl]
theorem c_plannedN (r : Rm) (hr : r.wf) (plan : List Int) (hp : (plan.length : Int) ≤ 1000000) (fine : Bool) (h0 : sPlanned r plan fine ≠ 0) : Pu Tryz.prog (.fn 82 [] []) [.agg r.cs, vI plan, .bool fine] (.tup [.nilp, .agg (cI zL), vi (sPlanned r plan fine)]) :=
  (c_planned r hr plan hp fine).mono fun v h' h => by
    rcases h with ⟨h1, rfl, rfl⟩ | ⟨h1, rfl, rfl⟩
    · exact ⟨rfl, rfl⟩
    · exact absurd h1 h0
theorem n_planned (r : Rm) (hr : r.wf) (plan : List Int) (hp : (plan.length : Int) ≤ 1000000) (fine : Bool) (h0 : sPlanned r plan fine = 0) : NewB Tryz.prog (.fn 82 [] []) [.agg r.cs, vI plan, .bool fine] (.tup [.rop (bw r (.mp 90)), .agg (cI (cntN plan)), vi 0]) 90 ⟨0, .map []⟩ :=
  NewB.of ((c_planned r hr plan hp fine).mono fun v h' h => by
    rcases h with ⟨h1, rfl, rfl⟩ | ⟨h1, rfl, rfl⟩
    · exact absurd h0 h1
    · exact ⟨rfl, rfl⟩) rfl (by simp only [V.into, intoL, vI_into, Bool.and_true, rm_into])
/-- What a plan that is possible tells. -/
theorem planned_ok {r : Rm} {plan : List Int} {fine : Bool} (h : sPlanned r plan fine = 0) : RmOk r ∧ sAre r plan = true ∧ fine = true ∧ sPossN r (cntN plan) = true ∧ (∀ x ∈ plan, 0 ≤ x ∧ x ≤ r.cu.last) ∧ NOk (cntN plan) := by
  unfold sPlanned at h
  split at h
  · rename_i h1; exact absurd h h1
  · rename_i h1
    have k := rmOk_of (r := r) (by omega)
    split at h
    · cases h
    · rename_i h2
      simp only [Bool.or_eq_true, Bool.not_eq_true', not_or, Bool.not_eq_false] at h2
      split at h
      · cases h
      · rename_i h3
        obtain ⟨a1, a2⟩ := are_ok k h2.1
        have := k.len
        exact ⟨k, h2.1, h2.2, by simpa using h3, a2, cnt_nok k (by omega) a2⟩
def sPlayR (r : Rm) (plan : List Int) : List Int × Int := if sPlanned r plan true = 0 then (nb r (cntN plan), 0) else ([], sPlanned r plan true)
theorem c_bPlay (r : Rm) (hr : r.wf) (plan : List Int) (hp : (plan.length : Int) ≤ 1000000) : Pu Tryz.prog (.fn 24 [] []) [.agg r.cs, vI plan] (.tup [vI (sPlayR r plan).1, vi (sPlayR r plan).2]) := by
  refine Ev.fn Tryz.func24 rfl rfl (Fn.body tabOk Tryz.func24 rfl (Nat.le_of_ble_eq_true rfl) (Ks.ok (fz := (fzn [7])) (cl := (cln [])) tabOk mixed ?_))
  generalize hQ : FnPost tt Tryz.f24 _ _ = Q
  simp only [Tryz.f24, List.nil_append, List.append_nil, argsEnv, Nat.reduceAdd]
  simp only [gos, eq_self, Nat.reduceLT, Nat.reduceEqDiff, reduceCtorEq, reduceIte, ↓reduceIte, tt, vgo, vout, vguard, callOf, vop, ev, cv, vload, newRow, rms]
  by_cases h0 : sPlanned r plan true = 0
  case neg =>
    refine Cl.pu (c_plannedN r hr plan hp true h0) ?_ rfl (by simp only [V.into, intoL, vI_into, Bool.and_true, rm_into])
    have hb : (sPlanned r plan true != 0) = true := by simp [h0]
    have hn5 : (cI zL).length = 5 := rfl
    have ht5 : List.take 5 (cI zL) = cI zL := rfl
    have hd5 : List.drop 5 (cI zL) = [] := rfl
    have hone : oneL (cI zL) = true := rfl
    simp only [gos, eq_self, Nat.reduceLT, Nat.reduceEqDiff, Nat.reduceAdd, reduceCtorEq, reduceIte, ↓reduceIte, tt, vgo, vout, vguard, callOf, vop, ev, cv, vbin, vint, isShift, isNilConst, newRow, hb, hn5, hone]
    subst hQ
    have hr2 : sPlayR r plan = ([], sPlanned r plan true) := by rw [sPlayR, if_neg h0]
    rw [hr2]
    exact FnPost.plain trivial (v := .tup [.sl0, vi (sPlanned r plan true)]) (fun h2 e => by rfl) (WkV.trans (WkV.less (v' := .tup [vI [], vi (sPlanned r plan true)]) (ImpV.tup ⟨sl0_vI, ImpV.refl _, trivial⟩)) (WkV.pure (by simp only [V.into, intoL, vI_into, Bool.and_true]))) ⟨rfl, rfl⟩
  refine Cl.newN (n_planned r hr plan hp true h0) rfl ?_
  obtain ⟨k, ha, _, hq, hpr, hnk⟩ := planned_ok h0
  have hl := k.A.k0.last
  have z0 : ((0 : Int) != 0) = false := rfl
  have hn5 : (cI (cntN plan)).length = 5 := by rw [cI_len, hnk.len]
  have ht5 : List.take 5 (cI (cntN plan)) = cI (cntN plan) := List.take_of_length_le (by omega)
  have hd5 : List.drop 5 (cI (cntN plan)) = [] := List.drop_eq_nil_of_le (by omega)
  have hone := cI_one (cntN plan)
  simp only [gos, eq_self, Nat.reduceLT, Nat.reduceEqDiff, Nat.reduceAdd, reduceCtorEq, reduceIte, ↓reduceIte, tt, vgo, vout, vguard, callOf, vop, ev, cv, vbin, vint, isShift, isNilConst, vload, newRow, rms, hn5, ht5, hone]
  refine Cl.pu (c_bbk r hl (cntN plan) hnk.len fun i _ => n_bu k hnk i) ?_ rfl (by simp only [V.into, intoL, cI_into, Bool.and_true, rm_into])
  simp only [gos, eq_self, Nat.reduceLT, reduceIte, ↓reduceIte, vgo, vout, vguard, callOf, vop, ev, cv]
  subst hQ
  have hr2 : sPlayR r plan = (nb r (cntN plan), 0) := by rw [sPlayR, if_pos h0]
  rw [hr2]
  exact FnPost.plain trivial (v := .tup [vI (nb r (cntN plan)), vi 0]) (fun h2 e => by rfl) (WkV.pure (by simp only [V.into, intoL, vI_into, Bool.and_true])) ⟨rfl, rfl⟩
def sKeepsR (r : Rm) (plan : List Int) : Int × Int := if sPlanned r plan true = 0 then (keV r (cntN plan), 0) else (0, sPlanned r plan true)
theorem c_bKeeps (r : Rm) (hr : r.wf) (plan : List Int) (hp : (plan.length : Int) ≤ 1000000) : Pu Tryz.prog (.fn 61 [] []) [.agg r.cs, vI plan] (.tup [vi (sKeepsR r plan).1, vi (sKeepsR r plan).2]) := by
  refine Ev.fn Tryz.func61 rfl rfl (Fn.body tabOk Tryz.func61 rfl (Nat.le_of_ble_eq_true rfl) (Ks.ok (fz := (fzn [7])) (cl := (cln [])) tabOk mixed ?_))
  generalize hQ : FnPost tt Tryz.f61 _ _ = Q
  simp only [Tryz.f61, List.nil_append, List.append_nil, argsEnv, Nat.reduceAdd]
  simp only [gos, eq_self, Nat.reduceLT, Nat.reduceEqDiff, reduceCtorEq, reduceIte, ↓reduceIte, tt, vgo, vout, vguard, callOf, vop, ev, cv, vload, newRow, rms]
  by_cases h0 : sPlanned r plan true = 0
  case neg =>
    refine Cl.pu (c_plannedN r hr plan hp true h0) ?_ rfl (by simp only [V.into, intoL, vI_into, Bool.and_true, rm_into])
    have hb : (sPlanned r plan true != 0) = true := by simp [h0]
    have hn5 : (cI zL).length = 5 := rfl
    have ht5 : List.take 5 (cI zL) = cI zL := rfl
    have hd5 : List.drop 5 (cI zL) = [] := rfl
    have hone : oneL (cI zL) = true := rfl
    simp only [gos, eq_self, Nat.reduceLT, Nat.reduceEqDiff, Nat.reduceAdd, reduceCtorEq, reduceIte, ↓reduceIte, tt, vgo, vout, vguard, callOf, vop, ev, cv, vbin, vint, isShift, isNilConst, newRow, hb, hn5, hone]
    subst hQ
    have hr2 : sKeepsR r plan = (0, sPlanned r plan true) := by rw [sKeepsR, if_neg h0]
    rw [hr2]
    exact FnPost.plain trivial (v := .tup [vi 0, vi (sPlanned r plan true)]) (fun h2 e => by rfl) (WkV.pure (by simp only [V.into, intoL, Bool.and_true])) ⟨rfl, rfl⟩
  refine Cl.newN (n_planned r hr plan hp true h0) rfl ?_
  obtain ⟨k, ha, _, hq, hpr, hnk⟩ := planned_ok h0
  have hl := k.A.k0.last
  have z0 : ((0 : Int) != 0) = false := rfl
  have hn5 : (cI (cntN plan)).length = 5 := by rw [cI_len, hnk.len]
  have ht5 : List.take 5 (cI (cntN plan)) = cI (cntN plan) := List.take_of_length_le (by omega)
  have hd5 : List.drop 5 (cI (cntN plan)) = [] := List.drop_eq_nil_of_le (by omega)
  have hone := cI_one (cntN plan)
  simp only [gos, eq_self, Nat.reduceLT, Nat.reduceEqDiff, Nat.reduceAdd, reduceCtorEq, reduceIte, ↓reduceIte, tt, vgo, vout, vguard, callOf, vop, ev, cv, vbin, vint, isShift, isNilConst, vload, newRow, hn5, ht5, hone]
  refine Cl.mk (c_bkeepsK r k [] (BMemo.nil r) 90 (by decide) (cntN plan) hnk [(7, ⟨0, .row (cI (cntN plan))⟩)] rfl) ?_
  rintro v h' ⟨rfl, rfl⟩
  simp only [gos, eq_self, Nat.reduceLT, reduceIte, ↓reduceIte, vgo, vout, vguard, callOf, vop, ev, cv]
  subst hQ
  have hr2 : sKeepsR r plan = (keV r (cntN plan), 0) := by rw [sKeepsR, if_pos h0]
  rw [hr2]
  exact FnPost.plain trivial (v := .tup [vi (keV r (cntN plan)), vi 0]) (fun h2 e => by rfl) (WkV.pure (by simp only [V.into, intoL, Bool.and_true])) ⟨rfl, rfl⟩
def sProveP (r : Rm) (plan : List Int) : Bool := decide ((sKeepsR r plan).2 = 0) && decide ((sKeepsR r plan).1 = 1)
end Go.Vm

set_option linter.unusedVariables false
set_option linter.unusedSimpArgs false
set_option maxRecDepth 100000
namespace Go.Vm
open Go.Proofs
/-! ### lists of lists -/
theorem vI_frz (i v : Nat) (cs : List V) (l : List Int) : (vI l).frz i v cs = vI l := by simp only [vI, V.frz, cI_frz]
end Go.Vm

set_option linter.unusedVariables false
set_option linter.unusedSimpArgs false
set_option maxRecDepth 100000
namespace Go.Vm
open Go.Proofs
/-! ### what the body of a loop over all sure plans does -/
def runX {α σ : Type} (step : α → σ → Bool × σ) : List α → σ → Bool × σ
  | [], x => (true, x)
  | s :: r, x => match step s x with
    | (true, x') => runX step r x'
    | (false, x') => (false, x')
theorem runX_append {α σ : Type} (step : α → σ → Bool × σ) : ∀ (a b : List α) (x : σ), runX step (a ++ b) x = match runX step a x with | (true, x') => runX step b x' | (false, x') => (false, x')
  | [], b, x => rfl
  | s :: a, b, x => by
    simp only [List.cons_append, runX]
    cases h : step s x with
    | mk t y =>
      cases t with
      | false => rfl
      | true => exact runX_append step a b y
def GoodX {α σ : Type} (step : α → σ → Bool × σ) (ok : α → σ → Prop) : List α → σ → Prop
  | [], _ => True
  | s :: r, x => ok s x ∧ ((step s x).1 = true → GoodX step ok r (step s x).2)
theorem GoodX_append {α σ : Type} {step : α → σ → Bool × σ} {ok : α → σ → Prop} : ∀ {a b : List α} {x : σ}, GoodX step ok (a ++ b) x → GoodX step ok a x ∧ ((runX step a x).1 = true → GoodX step ok b (runX step a x).2)
  | [], b, x, g => ⟨trivial, fun _ => g⟩
  | s :: a, b, x, g => by
    simp only [List.cons_append, GoodX] at g
    simp only [GoodX, runX]
    cases h : step s x with
    | mk t y =>
      rw [h] at g
      cases t with
      | false => exact ⟨⟨g.1, fun e => by simp at e⟩, fun e => by simp at e⟩
      | true =>
        obtain ⟨g1, g2⟩ := GoodX_append (g.2 rfl)
        exact ⟨⟨g.1, fun _ => g1⟩, g2⟩
end Go.Vm

set_option linter.unusedVariables false
set_option linter.unusedSimpArgs false
set_option maxRecDepth 100000
namespace Go.Vm
open Go.Proofs
/-! ### all sure plans, one after the other -/
def mH (M : MemoI) (h : Heap) : Heap := (90, ⟨0, .map (memoI M)⟩) :: h
structure YP (P : Program) {σ : Type} (yv : V) (hp : σ → Heap) (step : List Int → σ → Bool × σ) (ok : List Int → σ → Prop) : Prop where
  call : ∀ s x M, ok s x → Ev P yv [vI s] (mH M (hp x)) fun v h' => v = .bool (step s x).1 ∧ h' = mH M (hp (step s x).2)
  into : ∀ x M, yv.into (domP (mH M (hp x))) = true
  closed : ∀ x M, intoH (domP (mH M (hp x))) (mH M (hp x)) = true
  dom : ∀ x y i, domP (hp x) i = domP (hp y) i
  a4 : ∀ x, (hp x).get 4 = none
  a7 : ∀ x, (hp x).get 7 = none
  a12 : ∀ x, (hp x).get 12 = none
  a90 : ∀ x, (hp x).get 90 = none
  fy : ∀ v cs, yv.frz 7 v cs = yv
  fh : ∀ x v cs, frzH 7 v cs (hp x) = hp x
  nl : ∀ x, noLoopOn 7 (hp x) = true
  one : yv.cells? = some [yv]
def addV (r : Rm) (out : List Int) (yv : V) : V := .fn 133 [] [.rop [.rop (bw r (.mp 90))], .rop [yv], .rop [vI out], .ptr 4 0 0]
def plH (r : Rm) (out : List Int) (yv : V) (M : MemoI) (h : Heap) : Heap := (90, ⟨0, .map (memoI M)⟩) :: (4, ⟨0, .row [addV r out yv]⟩) :: h
theorem plH_get (r : Rm) (out : List Int) (yv : V) (M : MemoI) (h : Heap) (i : Nat) : (plH r out yv M h).get i = if i = 90 then some ⟨0, .map (memoI M)⟩ else if i = 4 then some ⟨0, .row [addV r out yv]⟩ else h.get i := by
  simp only [plH, Heap.get]
theorem plH_dom {P : Program} {σ : Type} {yv : V} {hp : σ → Heap} {step : List Int → σ → Bool × σ} {ok : List Int → σ → Prop} (Y : YP P yv hp step ok) (r : Rm) (out : List Int) (M M' : MemoI) (x y : σ) (i : Nat) : domP (plH r out yv M (hp x)) i = domP (plH r out yv M' (hp y)) i := by
  have := Y.dom x y i
  simp only [domP, plH_get] at this ⊢
  split
  · rfl
  · split
    · rfl
    · exact this
theorem plH_sub {P : Program} {σ : Type} {yv : V} {hp : σ → Heap} {step : List Int → σ → Bool × σ} {ok : List Int → σ → Prop} (Y : YP P yv hp step ok) (r : Rm) (out : List Int) (M : MemoI) (x : σ) (i : Nat) (h : domP (mH M (hp x)) i = true) : domP (plH r out yv M (hp x)) i = true := by
  simp only [domP, plH_get, mH, Heap.get] at h ⊢
  split
  · rfl
  · rename_i h9
    rw [if_neg h9] at h
    split
    · rfl
    · exact h
theorem plH_add {P : Program} {σ : Type} {yv : V} {hp : σ → Heap} {step : List Int → σ → Bool × σ} {ok : List Int → σ → Prop} (Y : YP P yv hp step ok) (r : Rm) (out : List Int) (M : MemoI) (x : σ) : (addV r out yv).into (domP (plH r out yv M (hp x))) = true := by
  simp only [addV, V.into, intoL, vI_into, Bool.and_true, Bool.true_and]
  rw [bw_into _ _ _ (by simp [V.into, domP, plH_get]), V.into_mono (plH_sub Y r out M x) _ (Y.into x M)]
  simp [domP, plH_get]
theorem plH_closed {P : Program} {σ : Type} {yv : V} {hp : σ → Heap} {step : List Int → σ → Bool × σ} {ok : List Int → σ → Prop} (Y : YP P yv hp step ok) (r : Rm) (out : List Int) (M : MemoI) (x : σ) : intoH (domP (plH r out yv M (hp x))) (plH r out yv M (hp x)) = true := by
  have h1 := plH_add Y r out M x
  have h2 := intoH_mono (plH_sub Y r out M x) _ (Y.closed x M)
  rw [show plH r out yv M (hp x) = (90, ⟨0, .map (memoI M)⟩) :: (4, ⟨0, .row [addV r out yv]⟩) :: hp x from rfl] at h1 h2 ⊢
  simp only [mH, intoH, Blk.into, memoI_into, Bool.true_and] at h2
  simp only [intoH, Blk.into, memoI_into, intoL, h1, h2, Bool.and_self]
theorem YP.callH {P : Program} {σ : Type} {yv : V} {hp : σ → Heap} {step : List Int → σ → Bool × σ} {ok : List Int → σ → Prop} (Y : YP P yv hp step ok) (r : Rm) (out : List Int) (M : MemoI) (p : List Int) (x : σ) (ho : ok p x) :
    Ev P yv [vI p] (plH r out yv M (hp x)) fun v h' => v = .bool (step p x).1 ∧ h' = plH r out yv M (hp (step p x).2) := by
  have hcons : ∀ (x : σ) i, Heap.get (mH M (hp x) ++ [(4, ⟨0, .row [addV r out yv]⟩)]) i = (plH r out yv M (hp x)).get i := fun x i => by
    rw [Heap.get_append, plH_get]
    simp only [mH, Heap.get]
    by_cases h9 : i = 90
    · subst h9; simp
    · by_cases h4 : i = 4
      · subst h4; simp [Y.a4 x]
      · simp [h9, h4]
  have hno : ∀ (x : σ) i e, (mH M (hp x)).get i = some e → Heap.get [(4, ⟨0, .row [addV r out yv]⟩)] i = none := fun x i e he => by
    simp only [Heap.get]
    rw [if_neg (fun h => by subst h; simp only [mH, Heap.get] at he; rw [if_neg (by decide), Y.a4 x] at he; cases he)]
  refine ((Y.call p x M ho).frame' [(4, ⟨0, .row [addV r out yv]⟩)] (hcons x) (hno x) (Y.into x M) (by simp only [intoL, vI_into, Bool.and_true]) (Y.closed x M) ?_).norm ?_
  · rintro v h' ⟨_, rfl⟩
    exact hno _
  · rintro v h'' ⟨h', ⟨rfl, rfl⟩, rfl⟩
    exact ⟨_, hcons _, rfl, rfl⟩
theorem memoI_frz (i v : Nat) (cs : List V) : ∀ m : MemoI, frzPs i v cs (memoI m) = memoI m
  | [] => rfl
  | (k, b) :: m => by simp only [memoI, frzPs, V.frz, cI_frz, memoI_frz i v cs m]
theorem Wk.forget2 {p : Nat → Bool} {ρ ρ' : Env} {h h' : Heap} (hρ : subE ρ ρ') (hh : ∀ i e, h'.get i = some e → h.get i = some e) (hp : ∀ i, p i = true → domP h' i = true) (hi : intoE (domP h') ρ' = true) (hb : intoH (domP h') h' = true) : Wk p ρ h ρ' h' := by
  intro g w N T E H
  have H' := H.cut hh hb
  refine ⟨g.cut (domP h'), ⟨E.size, fun s c e => (E.look s c (subE_ok hρ s c e)).sub (g.cut_sub _) _ _ (intoE_ok hi s c e)⟩, H', ?_, fun i v x hpi e => by simp [Gh.cut, hp i hpi, e]⟩
  refine ⟨rfl, rfl, rfl, Nat.le_refl _, fun _ _ _ => rfl, ?_, fun _ _ _ e => e, fun _ _ e => .inl e⟩
  rintro B ⟨i, e, c, h1, h2⟩ _
  refine ⟨i, e, c, hh i e h1, ?_⟩
  simp only [Gh.cut] at h2
  split at h2
  · exact h2
  · cases h2
def leavesP (r : Rm) (out : List Int) (m i : Nat) (plan n : List Int) : List (List Int) := ((genB r out m i plan n).filter fun y => sSureN r y.2).map (·.1)
set_option maxHeartbeats 4000000 in
theorem c_padd (r : Rm) (k : RmOk r) (out : List Int) (hout : (out.length : Int) ≤ 1000000) {σ : Type} (yv : V) (hp : σ → Heap) (step : List Int → σ → Bool × σ) (ok : List Int → σ → Prop) (Y : YP Tryz.prog yv hp step ok) :
    ∀ (m i : Nat) (plan n : List Int) (M : MemoI) (x : σ), i + m = r.ba.length → plan.length ≤ i → n.length = 5 → (∀ j : Nat, 0 ≤ gi n j ∧ gi n j ≤ (i : Int)) → BMemo r M → GoodX step ok (leavesP r out m i plan n) x →
    Ev Tryz.prog (addV r out yv) [vI plan, .agg (cI n), vi i] (plH r out yv M (hp x)) fun v h' => ∃ M', BMemo r M' ∧ v = .bool (runX step (leavesP r out m i plan n) x).1 ∧ h' = plH r out yv M' (hp (runX step (leavesP r out m i plan n) x).2)
  | 0, i, plan, n, M, x, hi, hpl, hn, hni, HM, hok => by
    have hlen := k.len
    have hnk : NOk n := ⟨hn, fun j => by have := hni j; omega⟩
    have hn5 : (cI n).length = 5 := by rw [cI_len, hn]
    have ht5 : List.take 5 (cI n) = cI n := List.take_of_length_le (by omega)
    have hone := cI_one n
    have hy : yv.cells? = some [yv] := Y.one
    unfold addV
    refine Ev.fn Tryz.func133 rfl rfl (Fn.body tabOk Tryz.func133 rfl (Nat.le_of_ble_eq_true rfl) (Ks.ok (fz := (fzn [])) (cl := (cln [])) tabOk mixed ?_))
    generalize hQ : FnPost tt Tryz.f133 _ _ = Q
    simp only [Tryz.f133, List.nil_append, List.cons_append, argsEnv, Nat.reduceAdd]
    have hd : decide ((i : Int) = (r.ba.length : Int)) = true := by rw [decide_eq_true_eq]; omega
    simp only [gos, eq_self, Nat.reduceLT, Nat.reduceEqDiff, reduceCtorEq, reduceIte, ↓reduceIte, tt, vgo, vout, vguard, callOf, vop, ev, cv, vbin, vint, isShift, isNilConst, vload, vlen, newRow, bws, hn5, ht5, vR, hd, plH]
    refine Cl.mk (c_bsureK r k M HM 90 (by decide) n hnk ((4, ⟨0, .row [addV r out yv]⟩) :: hp x) (by simp only [Heap.get]; simp [Y.a90 x])) ?_
    rintro v h' ⟨rfl, rfl⟩
    have hM2 := HM.su (n := n) hn
    cases hs : sSureN r n with
    | false =>
      have hl : leavesP r out 0 i plan n = [] := by simp [leavesP, genB, hs]
      simp only [gos, eq_self, Nat.reduceLT, Nat.reduceEqDiff, reduceIte, ↓reduceIte, vgo, vout, vguard, callOf, vop, ev, cv]
      subst hQ
      rw [hl]
      exact FnPost.plain trivial (v := .bool true) (fun h2 e => by rfl) WkV.refl ⟨suMM r M n, hM2, rfl, rfl⟩
    | true =>
      have hl : leavesP r out 0 i plan n = [plan] := by simp [leavesP, genB, hs]
      rw [hl] at hok
      simp only [gos, eq_self, Nat.reduceLT, Nat.reduceEqDiff, reduceCtorEq, reduceIte, ↓reduceIte, tt, vgo, vout, vguard, callOf, vop, ev, vload]
      refine Cl.mk (Y.callH r out (suMM r M n) plan x hok.1) ?_
      rintro v h' ⟨rfl, rfl⟩
      simp only [gos, eq_self, Nat.reduceLT, Nat.reduceEqDiff, reduceIte, ↓reduceIte, vgo, vout, vguard, callOf, vop, ev]
      subst hQ
      have hone1 : runX step [plan] x = step plan x := by
        simp only [runX]
        cases h : step plan x with
        | mk t y => cases t <;> rfl
      rw [hl, hone1]
      exact FnPost.plain trivial (v := .bool (step plan x).1) (fun h2 e => by rfl) WkV.refl ⟨suMM r M n, hM2, rfl, rfl⟩
  | m + 1, i, plan, n, M, x, hi, hpl, hn, hni, HM, hok => by
    have hlen := k.len
    have hlast := k.A.k0.last
    have hnk : NOk n := ⟨hn, fun j => by have := hni j; omega⟩
    have hn5 : (cI n).length = 5 := by rw [cI_len, hn]
    have ht5 : List.take 5 (cI n) = cI n := List.take_of_length_le (by omega)
    have hone := cI_one n
    have hy : yv.cells? = some [yv] := Y.one
    have hil : (i : Int) < r.ba.length := by omega
    have hb := k.ba _ (List.mem_of_getElem? (gR_get hil))
    unfold addV
    refine Ev.fn Tryz.func133 rfl rfl (Fn.body tabOk Tryz.func133 rfl (Nat.le_of_ble_eq_true rfl) (Ks.ok (fz := (fzn [12])) (cl := (cln [(9, .ex), (10, .ex)])) tabOk mixed ?_))
    generalize hQ : FnPost tt Tryz.f133 _ _ = Q
    simp only [Tryz.f133, List.nil_append, List.cons_append, argsEnv, Nat.reduceAdd]
    have hd : decide ((i : Int) = (r.ba.length : Int)) = false := by rw [decide_eq_false_iff_not]; omega
    simp only [gos, eq_self, Nat.reduceLT, Nat.reduceEqDiff, reduceCtorEq, reduceIte, ↓reduceIte, tt, vgo, vout, vguard, callOf, vop, ev, cv, vbin, vint, isShift, isNilConst, vload, vlen, newRow, bws, vR, hd, plH]
    refine Cl.pu (c_Contains out i hout) ?_ rfl (by simp only [V.into, intoL, vI_into, Bool.and_true])
    cases ho : out.any fun y => decide ((i : Int) = y) with
    | true =>
      have hg : leavesP r out (m + 1) i plan n = leavesP r out m (i + 1) plan n := by
        have : outB out i = true := ho
        simp only [leavesP, genB, this, if_true]
      rw [hg] at hok
      simp only [gos, eq_self, Nat.reduceLT, Nat.reduceEqDiff, reduceCtorEq, reduceIte, ↓reduceIte, tt, vgo, vout, vguard, callOf, vop, ev, cv, vbin, vint, isShift, isNilConst, vload, hn5, ht5, i64_succ (show (i : Int) < 9223372036854775807 by omega)]
      refine Cl.mk (c_padd r k out hout yv hp step ok Y m (i + 1) plan n M x (by omega) (by omega) hn (fun j => by have := hni j; omega) HM hok) ?_
      rintro v h' ⟨M', HM', rfl, rfl⟩
      simp only [gos, eq_self, Nat.reduceLT, reduceIte, ↓reduceIte, vgo, vout, vguard, callOf, vop, ev]
      subst hQ
      rw [hg]
      exact FnPost.plain trivial (fun h2 e => by rfl) WkV.refl ⟨M', HM', rfl, rfl⟩
    | false =>
      have e0 := cR_at (Int.natCast_nonneg i) hil
      rw [Int.toNat_natCast] at e0
      simp only [gos, eq_self, Nat.reduceLT, Nat.reduceEqDiff, reduceCtorEq, reduceIte, ↓reduceIte, tt, vgo, vout, vguard, callOf, vop, ev, vload, bws, vR, hil, Int.natCast_nonneg, Int.toNat_natCast, e0]
      refine Cl.pu (c_first (gR r.ba i)) ?_
      simp only [gos, eq_self, Nat.reduceLT, reduceIte, ↓reduceIte, vgo, vout, vguard, callOf, vop, ev]
      let f : Int → List (List Int) := fun h => if sPossN r (inc n h) = true then leavesP r out m (i + 1) (plan ++ [h]) (inc n h) else []
      have hgen : leavesP r out (m + 1) i plan n = (rangeI (gR r.ba i).lo (gR r.ba i).hi).flatMap f := by
        have hob : outB out i = false := ho
        simp only [leavesP, genB, hob, Bool.false_eq_true, if_false]
        rw [List.filter_flatMap, List.map_flatMap]
        simp only [List.flatMap_def]
        congr 1
        apply List.map_congr_left
        intro h _
        simp only [f]
        split <;> rfl
      refine W.loop tabOk mixed (fun a : Nat × MemoI × σ => ([(0, vI plan), (2, vi i), (3, .rop [.rop (bw r (.mp 90))]), (4, .rop [yv]), (5, .rop [vI out]), (6, .ptr 4 0 0), (8, .rop (cI n)), (11, vi ((gR r.ba i).lo + a.1))], plH r out yv a.2.1 (hp a.2.2))) (fun a => (rangeI (gR r.ba i).lo (gR r.ba i).hi).length - a.1)
        (fun a => a.1 ≤ (rangeI (gR r.ba i).lo (gR r.ba i).hi).length ∧ BMemo r a.2.1 ∧ runX step (((rangeI (gR r.ba i).lo (gR r.ba i).hi).take a.1).flatMap f) x = (true, a.2.2)) (0, M, x) ⟨by simp, HM, rfl⟩ (Wk.env (by simp [subE, Env.get])) ?_
      rintro ⟨j, M1, x1⟩ ⟨hj, HM1, hrun⟩
      simp only at hj HM1 hrun ⊢
      have hrl := rangeI_len (gR r.ba i).lo (gR r.ba i).hi
      have hd2 : List.drop 13 (bw r (.mp 90)) = [vR r.ba, .mp 90] := rfl
      have a12 := Y.a12 x1
      have a7 := Y.a7 x1
      by_cases hjl : (gR r.ba i).lo + (j : Int) ≤ (gR r.ba i).hi
      · obtain ⟨hv, hhv⟩ : ∃ hv : Int, hv = (gR r.ba i).lo + (j : Int) := ⟨_, rfl⟩
        have hx0 : 0 ≤ hv := by omega
        have hx5 : hv < ((5 : Nat) : Int) := by omega
        have hxl : hv < n.length := by rw [hn]; omega
        have hat := cI_at hx0 hxl
        rw [Nat.mul_one] at hat
        have hgv := hni hv.toNat
        rw [show ((hv.toNat : Nat) : Int) = hv by omega] at hgv
        have w1 := i64_in (show -9223372036854775808 ≤ gi n hv + 1 by omega) (show gi n hv + 1 ≤ 9223372036854775807 by omega)
        have hset : List.take hv.toNat (cI n) ++ [V.int IntKind.i64 (gi n hv + 1)] ++ List.drop (hv.toNat + 1) (cI n) = cI (inc n hv) := by
          rw [inc]; exact cI_set _ (by rw [hn]; omega)
        have hc5 : hv.toNat + 1 ≤ 5 := by omega
        have hnl : (inc n hv).length = 5 := by rw [inc_len, hn]
        have hni2 : ∀ q : Nat, 0 ≤ gi (inc n hv) q ∧ gi (inc n hv) q ≤ ((i + 1 : Nat) : Int) := fun q => by
          rw [inc_gi hx0 hxl q]
          have := hni q
          split <;> omega
        have hnk2 : NOk (inc n hv) := ⟨hnl, fun q => by have := hni2 q; omega⟩
        have hn52 : (cI (inc n hv)).length = 5 := by rw [cI_len, hnl]
        have ht52 : List.take 5 (cI (inc n hv)) = cI (inc n hv) := List.take_of_length_le (by omega)
        have hd5 : List.drop 5 (cI n) = [] := List.drop_eq_nil_of_le (by omega)
        rw [← hhv] at hjl ⊢
        simp only [gos, eq_self, Nat.reduceLT, Nat.reduceEqDiff, reduceCtorEq, reduceIte, ↓reduceIte, tt, vgo, vout, vguard, callOf, vop, ev, vload, bws, vR, hil, Int.natCast_nonneg, Int.toNat_natCast, e0, plH]
        refine Cl.pu (c_last (gR r.ba i)) ?_
        simp only [gos, eq_self, Nat.reduceLT, Nat.reduceEqDiff, Nat.reduceAdd, reduceCtorEq, reduceIte, ↓reduceIte, tt, vgo, vout, vguard, callOf, vop, ev, vbin, vint, isShift, isNilConst, vload, newRow, hjl, hn5, ht5, hone, a12, Heap.get_set]
        refine Wr.at tabOk 0 ?_
        refine Wa.mk (ρ2 := [(0, vI plan), (2, vi i), (3, .rop [.rop (bw r (.mp 90))]), (4, .rop [yv]), (5, .rop [vI out]), (6, .ptr 4 0 0), (8, .rop (cI n)), (11, vi hv), (12, .ptr 12 0 0)]) (h2 := (12, ⟨0, .row (cI n)⟩) :: plH r out yv M1 (hp x1)) (Wk.heap (fun q => ?_) (by simp [subE, Env.get])) ?_
        · simp only [plH, Heap.get, Heap.get_set]
          by_cases h12 : q = 12
          · subst h12; simp
          · simp [h12]
        simp only [plH]
        simp only [gos, eq_self, Nat.reduceLT, Nat.reduceEqDiff, reduceCtorEq, reduceIte, ↓reduceIte, tt, vgo, vout, vguard, callOf, vop, ev, cv, vbin, vint, isShift, isNilConst, vload, hn5, hat, w1, hset, hc5, hx0, hx5, Nat.mul_one, Nat.zero_add]
        refine Wr.tail tabOk mixed (tgL [(12, 1), (4, 2), (7, 3), (79, 3)]) [cP, cP, cP, cP, some ([1], []), cP, cP, some ([2], []), cP, some ([3], [3]), cP, cP, some ([3], [3]), some ([1], []), cP, cP, none, cP, cP] 16 (by kernel_rfl) (by kernel_rfl) ?_
        simp only [gos, eq_self, Nat.reduceLT, Nat.reduceEqDiff, Nat.reduceAdd, Nat.reduceLeDiff, reduceCtorEq, reduceIte, ↓reduceIte, tt, vgoD, voutD, vclsOk, vids, mayWrite, V.ids, vguard, callOf, vop, ev, vload, clsAt, bws, hn52, ht52, List.take, List.zipIdx, List.map]
        refine CD.pu (c_bposs r k (inc n hv) hnk2) ?_ rfl (by simp only [V.into, intoL, cI_into, Bool.and_true, rm_into])
        have hrdx : (rangeI (gR r.ba i).lo (gR r.ba i).hi)[j]? = some hv := by
          rw [rangeI_get (by omega), hhv]
        have hnext : runX step (((rangeI (gR r.ba i).lo (gR r.ba i).hi).take (j + 1)).flatMap f) x = runX step (f hv) x1 := by
          rw [List.take_add_one, hrdx, List.flatMap_append, runX_append, hrun]
          simp
        have hw : IntKind.i64.wrap (hv + 1) = hv + 1 := i64_in (by omega) (by omega)
        have hdomx : ∀ (y : σ) (M2 : MemoI) q, orD (domP (plH r out yv M (hp x))) [] q = true → domP (plH r out yv M2 (hp y)) q = true := fun y M2 q hq => by
          simp only [orD, List.contains_nil, Bool.or_false] at hq
          rw [plH_dom Y r out M M2 x y] at hq
          exact hq
        have henvi : ∀ y M2, intoE (domP (plH r out yv M2 (hp y))) [(0, vI plan), (2, vi i), (3, .rop [.rop (bw r (.mp 90))]), (4, .rop [yv]), (5, .rop [vI out]), (6, .ptr 4 0 0), (8, .rop (cI n)), (11, vi hv)] = true := fun y M2 => by
          simp only [intoE, V.into, intoL, cI_into, vI_into, Bool.true_and, Bool.and_true]
          rw [bw_into _ _ _ (by simp [V.into, domP, plH_get]), V.into_mono (plH_sub Y r out M2 y) _ (Y.into y M2)]
          simp [domP, plH_get]
        cases hpo : sPossN r (inc n hv) with
        | false =>
          simp only [gos, eq_self, Nat.reduceLT, Nat.reduceEqDiff, reduceIte, ↓reduceIte, vgoD, voutD, vclsOk, vids, mayWrite, vguard, callOf, vop, ev]
          refine Wa.mk (ρ2 := [(74, .und), (75, .und), (79, .und), (80, .und), (82, .und), (73, .bool false), (0, vI plan), (2, vi i), (3, .rop [.rop (bw r (.mp 90))]), (4, .rop [yv]), (5, .rop [vI out]), (6, .ptr 4 0 0), (8, .rop (cI n)), (11, vi hv)]) (h2 := plH r out yv M1 (hp x1)) (Wk.forget2 (by simp [subE, Env.get]) (fun q e hq => ?_) (hdomx x1 M1) ?_ (plH_closed Y r out M1 x1)) ?_
          · rw [plH_get] at hq
            simp only [Heap.get]
            by_cases h12 : q = 12
            · subst h12; rw [if_neg (by decide), if_neg (by decide), a12] at hq; cases hq
            · rw [if_neg h12]; exact hq
          · have := henvi x1 M1
            simp only [intoE, V.into, intoL, cI_into, vI_into, Bool.true_and, Bool.and_true] at this ⊢
            exact this
          simp only [gos, eq_self, Nat.reduceLT, Nat.reduceEqDiff, reduceCtorEq, reduceIte, ↓reduceIte, vgo, vout, vguard, callOf, vop, ev, cv, vbin, vint, isShift, isNilConst, hw]
          refine Nx.mk (j + 1, M1, x1) (show _ - (j + 1) < _ - j by omega) ⟨by simp only; omega, HM1, ?_⟩ (Wk.env ?_)
          · rw [hnext]; simp only [f, hpo]; rfl
          · have hw2 : (gR r.ba i).lo + ((j + 1 : Nat) : Int) = hv + 1 := by omega
            simp only [hw2]
            simp [subE, Env.get]
        | true =>
          simp only [gos, eq_self, Nat.reduceLT, Nat.reduceEqDiff, reduceCtorEq, reduceIte, ↓reduceIte, tt, vgoD, voutD, vclsOk, vids, mayWrite, V.ids, vguard, callOf, vop, ev, vload]
          refine CD.new (n_Clone plan (by omega)) (by simp [Heap.get, a7]) rfl rfl ?_
          have hcl : (cI plan).length = plan.length := cI_len plan
          have hcm : plan.length ≤ 999999 := by omega
          have hi1 : IntKind.i64.wrap ((i : Int) + 1) = (i : Int) + 1 := i64_in (by omega) (by omega)
          simp only [gos, eq_self, Nat.reduceLT, Nat.reduceEqDiff, Nat.reduceAdd, Nat.reduceLeDiff, reduceCtorEq, reduceIte, ↓reduceIte, tt, vgoD, voutD, vclsOk, vids, mayWrite, V.ids, vguard, callOf, vop, ev, cv, vbin, vint, isShift, isNilConst, vload, vfill, vappend, srcOf, hn52, ht52, hcl, hcm, hi1, Heap.get_set, Nat.mul_one]
          have hll : (plan ++ [hv]).length = plan.length + 1 := by simp
          have ht7 : List.take (plan.length + 1) (cI (plan ++ [hv])) = cI (plan ++ [hv]) := List.take_of_length_le (by rw [cI_len, hll]; omega)
          refine Wa.mk (Wk.trans (Wk.heap (ρ' := [(73, .bool true), (74, addV r out yv), (79, .own 7 1 0 1 (plan.length + 1)), (80, .agg (cI (inc n hv))), (82, vi ((i : Int) + 1)), (0, vI plan), (2, vi i), (3, .rop [.rop (bw r (.mp 90))]), (4, .rop [yv]), (5, .rop [vI out]), (6, .ptr 4 0 0), (8, .rop (cI n)), (11, vi hv)]) (h' := (7, ⟨1, .row (cI plan ++ [vi hv])⟩) :: (12, ⟨0, .row (cI (inc n hv))⟩) :: (90, ⟨0, .map (memoI M1)⟩) :: (4, ⟨0, .row [addV r out yv]⟩) :: hp x1) (fun q => ?_) (by simp [subE, Env.get])) (Wk.trans (Wk.freeze 7 (ver := 1) (cs := cI plan ++ [vi hv]) ?_ ?_ ?_ ?_) (Wk.forget2 (ρ' := [(73, .bool true), (74, addV r out yv), (79, vI (plan ++ [hv])), (80, .agg (cI (inc n hv))), (82, vi ((i : Int) + 1)), (0, vI plan), (2, vi i), (3, .rop [.rop (bw r (.mp 90))]), (4, .rop [yv]), (5, .rop [vI out]), (6, .ptr 4 0 0), (8, .rop (cI n)), (11, vi hv)]) (h' := plH r out yv M1 (hp x1)) ?_ ?_ (hdomx x1 M1) ?_ (plH_closed Y r out M1 x1)))) ?_
          · simp only [Heap.get, Heap.get_set]
            by_cases h7 : q = 7
            · subst h7; simp
            · simp [h7]
          · simp [Heap.get]
          · simp [orD, domP, Heap.get, Y.a7 x]
          · rw [← cI_snoc]; exact cI_into _ _
          · simp [noLoopOn, Y.nl x1]
          · simp only [← cI_snoc, frzE, V.frz, frzL, addV, bw_frz, vI_frz, cI_frz, Y.fy, subE, Env.get]
            simp [hll, ht7, vI]
          · simp only [← cI_snoc, frzH, V.frz, frzL, Blk.frz, addV, bw_frz, vI_frz, cI_frz, Y.fy, Y.fh, memoI_frz]
            intro q e hq
            rw [plH_get] at hq
            by_cases h12 : q = 12
            · subst h12; rw [if_neg (by decide), if_neg (by decide), a12] at hq; cases hq
            · simp [Heap.get, h12]
              exact hq
          · have := henvi x1 M1
            simp only [intoE, V.into, intoL, cI_into, vI_into, Bool.true_and, Bool.and_true] at this ⊢
            rw [plH_add Y r out M1 x1]
            exact this
          simp only [gos, eq_self, Nat.reduceLT, Nat.reduceEqDiff, reduceIte, ↓reduceIte, vgo, vout, vguard, callOf, ev]
          have hf : f hv = leavesP r out m (i + 1) (plan ++ [hv]) (inc n hv) := by simp only [f, hpo]; rfl
          have hgood : GoodX step ok (f hv) x1 := by
            rw [hgen] at hok
            rw [← List.take_append_drop j (rangeI (gR r.ba i).lo (gR r.ba i).hi), List.flatMap_append] at hok
            have g1 := (GoodX_append hok).2
            rw [hrun] at g1
            have g2 := g1 rfl
            rw [List.drop_eq_getElem?_toList_append, hrdx] at g2
            exact (GoodX_append g2).1
          rw [hf] at hgood hnext
          refine Cl.mk (c_padd r k out hout yv hp step ok Y m (i + 1) (plan ++ [hv]) (inc n hv) M1 x1 (by omega) (by rw [hll]; omega) hnl hni2 HM1 hgood) ?_
          rintro v h' ⟨M2, HM2, rfl, rfl⟩
          cases hr : runX step (leavesP r out m (i + 1) (plan ++ [hv]) (inc n hv)) x1 with
          | mk t x2 =>
            rw [hr] at hnext
            cases t with
            | true =>
              simp only [gos, eq_self, Nat.reduceLT, Nat.reduceEqDiff, reduceCtorEq, reduceIte, ↓reduceIte, vgo, vout, vguard, callOf, vop, ev, cv, vbin, vint, isShift, isNilConst, hw]
              refine Nx.mk (j + 1, M2, x2) (show _ - (j + 1) < _ - j by omega) ⟨by simp only; omega, HM2, hnext⟩ (Wk.env ?_)
              have hw2 : (gR r.ba i).lo + ((j + 1 : Nat) : Int) = hv + 1 := by omega
              simp only [hw2]
              simp [subE, Env.get]
            | false =>
              have hrest : runX step (leavesP r out (m + 1) i plan n) x = (false, x2) := by
                rw [hgen, ← List.take_append_drop (j + 1) (rangeI (gR r.ba i).lo (gR r.ba i).hi), List.flatMap_append, runX_append, hnext]
              simp only [gos, eq_self, Nat.reduceLT, Nat.reduceEqDiff, reduceIte, ↓reduceIte, vgo, vout, vguard, callOf, vop, ev, cv]
              subst hQ
              rw [hrest]
              exact FnPost.plain trivial (v := .bool false) (fun h2 e => by rfl) WkV.refl ⟨M2, HM2, rfl, rfl⟩
      · have hie : j = (rangeI (gR r.ba i).lo (gR r.ba i).hi).length := by omega
        have hrest : runX step (leavesP r out (m + 1) i plan n) x = (true, x1) := by
          rw [hgen]
          rw [hie, List.take_length] at hrun
          exact hrun
        simp only [gos, eq_self, Nat.reduceLT, Nat.reduceEqDiff, reduceCtorEq, reduceIte, ↓reduceIte, tt, vgo, vout, vguard, callOf, vop, ev, vload, bws, vR, hil, Int.natCast_nonneg, Int.toNat_natCast, e0, plH]
        refine Cl.pu (c_last (gR r.ba i)) ?_
        simp only [gos, eq_self, Nat.reduceLT, Nat.reduceEqDiff, reduceIte, ↓reduceIte, vgo, vout, vguard, callOf, vop, ev, cv, vbin, vint, isShift, isNilConst, hjl]
        subst hQ
        rw [hrest]
        exact FnPost.plain trivial (v := .bool true) (fun h2 e => by rfl) WkV.refl ⟨M1, HM1, rfl, rfl⟩
end Go.Vm

set_option linter.unusedVariables false
set_option linter.unusedSimpArgs false
set_option maxRecDepth 100000
namespace Go.Vm
open Go.Proofs
/-! ### the iterator over all sure plans -/
def plansV (r : Rm) (out : List Int) : V := .fn 132 [] [.rop [.rop (bw r (.mp 90))], .rop [vI out]]
theorem c_plans (r : Rm) (out : List Int) (h : Heap) : Ev Tryz.prog (.fn 89 [] []) [.rop (bw r (.mp 90)), vI out] h fun v h' => v = plansV r out ∧ h' = h := by
  refine Ev.fn Tryz.func89 rfl rfl (Fn.body tabOk Tryz.func89 rfl (Nat.le_of_ble_eq_true rfl) (Ks.ok (fz := (fzn [])) (cl := (cln [])) tabOk mixed ?_))
  generalize hQ : FnPost tt Tryz.f89 _ _ = Q
  simp only [Tryz.f89, List.nil_append, List.append_nil, argsEnv, Nat.reduceAdd]
  have hone : (vI out).cells? = some [vI out] := rfl
  simp only [gos, eq_self, Nat.reduceLT, Nat.reduceEqDiff, reduceCtorEq, reduceIte, ↓reduceIte, vgo, vout, vguard, callOf, vop, ev, cv, newRow, hone]
  subst hQ
  exact FnPost.plain trivial (v := plansV r out) (fun h2 e => by rfl) WkV.refl ⟨rfl, rfl⟩
set_option maxHeartbeats 2000000 in
theorem c_plans1 (r : Rm) (k : RmOk r) (out : List Int) (hout : (out.length : Int) ≤ 1000000) {σ : Type} (yv : V) (hp : σ → Heap) (step : List Int → σ → Bool × σ) (ok : List Int → σ → Prop) (Y : YP Tryz.prog yv hp step ok) (M : MemoI) (HM : BMemo r M) (x0 : σ) (hok : GoodX step ok (plL r out) x0) :
    Ev Tryz.prog (plansV r out) [yv] (mH M (hp x0)) fun v h' => ∃ M', BMemo r M' ∧ h' = mH M' (hp (runX step (plL r out) x0).2) := by
  have a4 := Y.a4 x0
  have a90 := Y.a90 x0
  unfold plansV
  refine Ev.fn Tryz.func132 rfl rfl (Fn.body tabOk Tryz.func132 rfl (Nat.le_of_ble_eq_true rfl) (Ks.ok (fz := (fzn [4])) (cl := (cln [(3, .ex)])) tabOk mixed ?_))
  generalize hQ : FnPost tt Tryz.f132 _ _ = Q
  simp only [Tryz.f132, List.nil_append, List.cons_append, argsEnv, Nat.reduceAdd]
  have hy : yv.cells? = some [yv] := Y.one
  simp only [gos, eq_self, Nat.reduceLT, Nat.reduceEqDiff, Nat.reduceAdd, reduceCtorEq, reduceIte, ↓reduceIte, tt, vgo, vout, vguard, callOf, vop, ev, newRow, mH, a4, hy, Heap.get_set]
  refine Wr.at tabOk 0 ?_
  simp only [gos]
  refine Wa.mk (ρ2 := [(4, .ptr 4 0 0)]) (h2 := plH r out yv M (hp x0)) (Wk.heap (fun q => ?_) (by simp [subE, Env.get])) ?_
  · simp only [plH, Heap.get, Heap.get_set, addV]
    by_cases h4 : q = 4
    · subst h4; simp
    · simp [h4]
  simp only [plH]
  simp only [gos, eq_self, Nat.reduceLT, Nat.reduceEqDiff, reduceCtorEq, reduceIte, ↓reduceIte, tt, vgo, vout, vguard, callOf, vop, ev, cv, vload, vfill]
  refine Cl.less (cs := [vI [], .agg (cI zL), vi (0 : Nat)]) (ImpV.refl _) ⟨sl0_vI, ImpV.refl _, ImpV.refl _, trivial⟩ (Cl.mk (c_padd r k out hout yv hp step ok Y r.ba.length 0 [] zL M x0 (by omega) (by simp) rfl (fun j => by rw [zL_gi]; omega) HM hok) ?_)
  rintro v h' ⟨M', HM', rfl, rfl⟩
  simp only [gos]
  subst hQ
  have hl : leavesP r out r.ba.length 0 [] zL = plL r out := rfl
  rw [hl]
  refine FnPost.plain trivial (v := .tup []) (fun h2 e => by rfl) (WkV.forgetF ?_ ?_ ?_ ?_) ⟨M', HM', rfl⟩
  · intro i e he
    rw [plH_get]
    simp only [mH, Heap.get] at he
    by_cases h9 : i = 90
    · rw [if_pos h9] at he ⊢; exact he
    · rw [if_neg h9] at he ⊢
      rw [if_neg (fun h => by subst h; rw [Y.a4] at he; cases he)]
      exact he
  · intro i hp
    have := Y.dom x0 (runX step (plL r out) x0).2 i
    simp only [domP, mH, Heap.get] at hp this ⊢
    split
    · rfl
    · rename_i h9
      rw [if_neg h9] at hp
      rw [← this]; exact hp
  · rfl
  · exact Y.closed _ _
end Go.Vm

set_option linter.unusedVariables false
set_option linter.unusedSimpArgs false
set_option maxRecDepth 100000
namespace Go.Vm
open Go.Proofs
/-! ### Plan: the first sure plan -/
def stepP (p : List Int) (x : Option (List Int)) : Bool × Option (List Int) := (false, some p)
theorem runX_stepP : ∀ l : List (List Int), (runX stepP l none).2 = l.head?
  | [] => rfl
  | p :: l => rfl
def oV : Option (List Int) → V
  | none => .sl0
  | some p => vI p
theorem oV_into (p : Nat → Bool) (x : Option (List Int)) : (oV x).into p = true := by
  cases x with
  | none => rfl
  | some l => simp only [oV, vI_into]
theorem oV_frz (i v : Nat) (cs : List V) (x : Option (List Int)) : (oV x).frz i v cs = oV x := by
  cases x with
  | none => rfl
  | some l => exact vI_frz i v cs l
def planH (r : Rm) (ps : List Tmp) (sa sb : Code) (x : Option (List Int)) : Heap :=
  [(2, ⟨0, .row [oV x]⟩), (3, ⟨0, .row [vi 0]⟩), (51, ⟨0, .dfr true⟩), (50, lent (if x.isSome then .done else .ready) (if x.isSome then some .ret else none) 32 19 [(16, plansV r []), (15, .rop (bw r (.mp 90))), (2, .ptr 2 0 0), (3, .ptr 3 0 0), (4, .rop (bw r (.mp 90)))] ps sa sb 51)]
theorem planH_closed (r : Rm) (ps : List Tmp) (sa sb : Code) (x : Option (List Int)) (M : MemoI) : intoH (domP (mH M (planH r ps sa sb x))) (mH M (planH r ps sa sb x)) = true := by
  simp only [planH, mH, intoH, lent, Blk.into, intoE, V.into, intoL, vI_into, Bool.true_and, Bool.and_true, memoI_into, oV_into, plansV, domP, Heap.get]
  rw [bw_into _ _ _ (by simp [V.into, domP, Heap.get])]
  rfl
theorem planH_dom (r : Rm) (ps : List Tmp) (sa sb : Code) (x y : Option (List Int)) (i : Nat) : domP (planH r ps sa sb x) i = domP (planH r ps sa sb y) i := by
  simp only [planH, domP, Heap.get]
  repeat' split
  all_goals rfl
def sPlanR (r : Rm) : List Int × Int := if sCheckR r = 0 then match plL r [] with | [] => ([], 10) | p :: _ => (p, 0) else ([], sCheckR r)
set_option maxHeartbeats 2000000 in
theorem c_bPlan (r : Rm) (hr : r.wf) : Pu Tryz.prog (.fn 32 [] []) [.agg r.cs] (.tup [vI (sPlanR r).1, vi (sPlanR r).2]) := by
  refine Ev.fn Tryz.func32 rfl rfl (Fn.body tabOk Tryz.func32 rfl (Nat.le_of_ble_eq_true rfl) (Ks.ok (fz := (fzn [2, 3])) (cl := (cln [(4, .ex)])) tabOk mixed ?_))
  generalize hQ : FnPost tt Tryz.f32 _ _ = Q
  simp only [Tryz.f32, List.nil_append, List.append_nil, argsEnv]
  simp only [gos, eq_self, Nat.reduceLT, Nat.reduceEqDiff, reduceCtorEq, reduceIte, ↓reduceIte, tt, vgo, vout, vguard, callOf, vop, ev, vload, newRow, rms]
  by_cases h0 : sCheckR r = 0
  case neg =>
    refine Cl.pu (c_baskN r hr h0) ?_ rfl (by simp only [V.into, intoL, Bool.and_true, rm_into])
    have hb : (sCheckR r != 0) = true := by simp [h0]
    simp only [gos, eq_self, Nat.reduceLT, Nat.reduceEqDiff, Nat.reduceAdd, reduceCtorEq, reduceIte, ↓reduceIte, tt, vgo, vout, vguard, callOf, vop, ev, cv, vbin, vint, isShift, isNilConst, hb]
    subst hQ
    have hr2 : sPlanR r = ([], sCheckR r) := by rw [sPlanR, if_neg h0]
    rw [hr2]
    exact FnPost.plain trivial (v := .tup [.sl0, vi (sCheckR r)]) (fun h2 e => by
      have e2 := e 2
      have e3 := e 3
      simp only [Heap.get, if_true] at e2 e3
      rw [if_neg (by decide)] at e3
      simp only [Tryz.f32, vres, vresL, vres1, gos, eq_self, Nat.reduceLT, Nat.reduceEqDiff, reduceCtorEq, reduceIte, ↓reduceIte, tt, vload, e2, e3]) (WkV.trans (WkV.less (v' := .tup [vI [], vi (sCheckR r)]) (ImpV.tup ⟨sl0_vI, ImpV.refl _, trivial⟩)) (WkV.pure (by simp only [V.into, intoL, vI_into, Bool.and_true]))) ⟨rfl, rfl⟩
  refine Cl.newN (n_bask r hr h0) rfl ?_
  have k := rmOk_of h0
  have z0 : ((0 : Int) != 0) = false := rfl
  simp only [gos, eq_self, Nat.reduceLT, Nat.reduceEqDiff, reduceIte, ↓reduceIte, vgo, vout, vguard, callOf, vop, ev, cv, vbin, vint, isShift, isNilConst]
  refine Wr.at tabOk 0 ?_
  simp only [gos]
  refine Wa.mk (ρ2 := [(2, .ptr 2 0 0), (3, .ptr 3 0 0), (4, .rop (bw r (.mp 90)))]) (h2 := mH [] [(2, ⟨0, .row [.sl0]⟩), (3, ⟨0, .row [vi 0]⟩)]) (Wk.heap (fun q => ?_) (by simp [subE, Env.get])) ?_
  · simp only [mH, memoI, Heap.get]
    by_cases h9 : q = 90
    · subst h9; simp
    · simp [h9]
  simp only [mH, gos, eq_self, Nat.reduceLT, Nat.reduceEqDiff, reduceIte, ↓reduceIte, vgo, vout, vguard, callOf, vop, ev, cv]
  refine Cl.less (cs := [.rop (bw r (.mp 90)), vI []]) (ImpV.refl _) ⟨ImpV.refl _, sl0_vI, trivial⟩ (Cl.mk (c_plans r [] _) ?_)
  rintro v h' ⟨rfl, rfl⟩
  simp only [gos]
  refine W.rangeFuncG 50 51 rfl rfl (by decide) rfl ?_
  intro sa sb hsa hsb
  have Y : YP Tryz.prog (.yl 50) (planH r [17] sa sb) stepP (fun p x => x = none) := by
    refine ⟨?_, ?_, ?_, ?_, ?_, ?_, ?_, ?_, ?_, ?_, ?_, rfl⟩
    · rintro p x M rfl
      refine (Ev.roundG (i := 50) (pd := none) tabOk mixed (fzn []) (cln []) rfl rfl rfl (S := fun v h' => v = .bool (stepP p none).1 ∧ h' = mH M (planH r [17] sa sb (stepP p none).2)) ?_)
      intro L Q2 hQ2 Q1 hQ1
      refine W.named hsa ?_
      simp only [gos, eq_self, Nat.reduceLT, reduceIte, ↓reduceIte, vgo, vout, vguard, callOf, vop, ev, putL, planH, mH]
      refine hQ1 _ _ none rfl (W.named hsb ?_)
      simp only [gos, eq_self, Nat.reduceLT, Nat.reduceEqDiff, Nat.reduceAdd, reduceCtorEq, reduceIte, ↓reduceIte, tt, vgo, vout, vguard, callOf, vop, ev, cv]
      exact hQ2 _ _ _ _ ⟨.busy, none, rfl, rfl, rfl⟩
    · intro x M; rfl
    · exact fun x M => planH_closed r [17] sa sb x M
    · exact planH_dom r [17] sa sb
    · intro x; rfl
    · intro x; rfl
    · intro x; rfl
    · intro x; rfl
    · intro v cs; rfl
    · intro x v cs
      simp only [planH, frzH, Blk.frz, frzE, V.frz, frzL, lent, plansV, bw_frz, vI_frz, oV_frz]
      rfl
    · intro x
      simp only [planH, noLoopOn, lent]
      rfl
  refine (c_plans1 r k [] (by simp) (.yl 50) _ _ _ Y [] (BMemo.nil r) none ?_).mono ?_
  · cases h : plL r [] with
    | nil => trivial
    | cons p l => exact ⟨rfl, fun e => by cases e⟩
  rintro v h' ⟨M', HM', rfl⟩
  rw [runX_stepP]
  cases hl : plL r [] with
  | nil =>
    have hr2 : sPlanR r = ([], 10) := by rw [sPlanR, if_pos h0, hl]
    refine ⟨.ready, none, rfl, by decide, ?_⟩
    simp only [gos, eq_self, Nat.reduceLT, Nat.reduceEqDiff, Nat.reduceAdd, reduceCtorEq, reduceIte, ↓reduceIte, tt, vgo, vout, vguard, callOf, vop, ev, cv, planH, mH, List.head?_nil, oV]
    subst hQ
    refine FnPost.defer trivial (by decide) (by simp [Heap.get]) (v := .tup [.sl0, vi 10]) (fun h2 e => ?_) (fun h2 e => (WkV.trans (WkV.less (v' := .tup [vI [], vi 10]) (ImpV.tup ⟨sl0_vI, ImpV.refl _, trivial⟩)) (WkV.pure (by simp only [V.into, intoL, vI_into, Bool.and_true])))) ⟨by rw [hr2], rfl⟩
    have e2 : h2.get 2 = some ⟨0, .row [.sl0]⟩ := (e 2 (by decide)).trans rfl
    have e3 : h2.get 3 = some ⟨0, .row [vi 10]⟩ := (e 3 (by decide)).trans rfl
    simp only [Tryz.f32, vres, vresL, vres1, gos, eq_self, Nat.reduceLT, Nat.reduceEqDiff, reduceCtorEq, reduceIte, ↓reduceIte, tt, vload, e2, e3]
  | cons p l =>
    have hr2 : sPlanR r = (p, 0) := by rw [sPlanR, if_pos h0, hl]
    refine ⟨.done, some .ret, rfl, by decide, ?_⟩
    simp only [gos, eq_self, Nat.reduceEqDiff, reduceIte, ↓reduceIte, planH, mH, oV]
    subst hQ
    refine FnPost.defer trivial (by decide) (by simp [Heap.get]) (v := .tup [vI p, vi 0]) (fun h2 e => ?_) (fun h2 e => WkV.pure (by simp only [V.into, intoL, vI_into, Bool.and_true])) ⟨by rw [hr2], rfl⟩
    have e2 : h2.get 2 = some ⟨0, .row [vI p]⟩ := (e 2 (by decide)).trans rfl
    have e3 : h2.get 3 = some ⟨0, .row [vi 0]⟩ := (e 3 (by decide)).trans rfl
    simp only [Tryz.f32, vres, vresL, vres1, gos, eq_self, Nat.reduceLT, Nat.reduceEqDiff, reduceCtorEq, reduceIte, ↓reduceIte, tt, vload, e2, e3]
end Go.Vm

set_option linter.unusedVariables false
set_option linter.unusedSimpArgs false
set_option maxRecDepth 100000
namespace Go.Vm
/-! ### bath: what the reference computes, and that it is the same -/
def zerosN (n : Nat) : List Int := List.replicate n 0
def rNumN (r : Rm) (plan : List Int) (b : Nat) : Nat → List Int
  | 0 => zerosN (r.cu.last + 1).toNat
  | i + 1 => if b.testBit i = true then inc (rNumN r plan b i) (gi plan i) else rNumN r plan b i
def rNum (r : Rm) (plan : List Int) (b : Nat) : List Int := rNumN r plan b plan.length
def rBk (r : Rm) (m : List Int) : List Int := m.map fun x => r.bu * x
def rCanBe (r : Rm) (m : List Int) : Bool := (List.range m.length).all fun (i : Nat) => decide (gi m i ≤ r.pl) && decide (gi r.cu.want i + r.bu * gi m i ≤ 20)
def rKe (r : Rm) (l : List Tr2) (m : List Int) : Int := rWholes r.cu l r.cu.coal (addL r.cu.want (rBk r m))
def rSureM (r : Rm) (l : List Tr2) (m : List Int) : Bool := rCanBe r m && decide (rKe r l m = 1)
def rPlansF (r : Rm) (b : Nat) : Nat → List Int → List (List Int)
  | 0, p => [p]
  | k + 1, p => if b.testBit p.length = true then (rangeI (gR r.ba p.length).lo (gR r.ba p.length).hi).flatMap fun h => rPlansF r b k (p ++ [h]) else rPlansF r b k (p ++ [0])
def rSures (r : Rm) (l : List Tr2) (b : Nat) : List (List Int) := (rPlansF r b r.ba.length []).filter fun p => rSureM r l (rNum r p b)
theorem rBk_gi (r : Rm) (m : List Int) {i : Nat} (h : i < m.length) : gi (rBk r m) i = r.bu * gi m i := by
  simp only [rBk, gi, Int.toNat_natCast, List.getD_eq_getElem?_getD, List.getElem?_map, List.getElem?_eq_getElem h]; rfl
theorem sure_ref {r : Rm} (k : RmOk r) {n m : List Int} (hm : (m.length : Int) = r.cu.last + 1) (hag : ∀ i : Nat, (i : Int) ≤ r.cu.last → gi n i = gi m i) (h0 : ∀ i : Nat, (i : Int) ≤ r.cu.last → 0 ≤ gi m i) :
    sPossN r n = rCanBe r m ∧ (sPossN r n = true → keV r n = rKe r (rTruths r.cu) m) ∧ sSureN r n = rSureM r (rTruths r.cu) m := by
  have hl := k.A.k0.last
  have e1 : sPossN r n = rCanBe r m := by
    rw [sPossN, rCanBe, show m.length = (r.cu.last + 1).toNat by omega]
    refine range_all_congr fun i hi => ?_
    have hi2 : (i : Int) ≤ r.cu.last := by omega
    rw [hag i hi2, sRoom]
    by_cases hz : gi m i = 0
    · have hw := (k.A.k0.want.2 _ (gi_mem (show i < r.cu.want.length by have := k.A.k0.want.1; omega))).2
      have hp := k.pl
      simp [hz, hp.1, hw]
    · simp [hz]
  have e2 : nb r n = rBk r m := by
    refine list_ext (by have := nb_len k n; simp only [rBk, List.length_map]; omega) fun i hi => ?_
    have hi2 : (i : Int) ≤ r.cu.last := by have := nb_len k n; omega
    rw [nb_gi hi2, rBk_gi r m (by omega), hag i hi2]
  have e3 : sPossN r n = true → keV r n = rKe r (rTruths r.cu) m := fun hp => by
    rw [keV_eq k (fun i hi => by rw [hag i hi]; exact h0 i hi) hp, rKe, e2]
  refine ⟨e1, e3, ?_⟩
  rw [sSureN, rSureM, ← e1]
  cases hp : sPossN r n with
  | false => rfl
  | true => rw [e3 hp]
/-! plans -/
def pk (b : Nat) : Nat → List Int → List Int
  | _, [] => []
  | i, x :: p => if b.testBit i = true then x :: pk b (i + 1) p else pk b (i + 1) p
def rSuf (r : Rm) (b : Nat) : Nat → Nat → List (List Int)
  | 0, _ => [[]]
  | k + 1, i => if b.testBit i = true then (rangeI (gR r.ba i).lo (gR r.ba i).hi).flatMap fun h => (rSuf r b k (i + 1)).map (h :: ·) else (rSuf r b k (i + 1)).map (0 :: ·)
theorem rPlansF_suf (r : Rm) (b : Nat) : ∀ (k : Nat) (p : List Int), rPlansF r b k p = (rSuf r b k p.length).map (p ++ ·)
  | 0, p => by simp [rPlansF, rSuf]
  | k + 1, p => by
    rw [rPlansF, rSuf]
    split
    · rw [List.map_flatMap]
      simp only [List.flatMap_def]
      congr 1
      apply List.map_congr_left
      intro h _
      rw [rPlansF_suf r b k, List.map_map]
      simp only [List.length_append, List.length_cons, List.length_nil]
      apply List.map_congr_left
      intro q _
      simp
    · rw [rPlansF_suf r b k, List.map_map]
      simp only [List.length_append, List.length_cons, List.length_nil]
      apply List.map_congr_left
      intro q _
      simp
theorem suf_all (r : Rm) {b : Nat} {out : List Int} : ∀ (k i : Nat), (∀ j, i ≤ j → j < i + k → outB out j = !b.testBit j) → allP r out k i = (rSuf r b k i).map (pk b i)
  | 0, i, _ => by simp [allP, rSuf, pk]
  | k + 1, i, h => by
    have ih := suf_all r (b := b) (out := out) k (i + 1) fun j h1 h2 => h j (by omega) (by omega)
    have h0 := h i (by omega) (by omega)
    rw [allP, rSuf, h0]
    cases hb : b.testBit i with
    | true =>
      simp only [Bool.not_true, Bool.false_eq_true, if_false, if_true]
      rw [List.map_flatMap]
      simp only [List.flatMap_def]
      congr 1
      apply List.map_congr_left
      intro x _
      rw [ih, List.map_map, List.map_map]
      apply List.map_congr_left
      intro q _
      simp [pk, hb]
    | false =>
      simp only [Bool.not_false, if_true, Bool.false_eq_true, if_false]
      rw [ih, List.map_map]
      apply List.map_congr_left
      intro q _
      simp [pk, hb]
theorem pk_snoc (b : Nat) (x : Int) : ∀ (l : List Int) (i : Nat), pk b i (l ++ [x]) = pk b i l ++ if b.testBit (i + l.length) = true then [x] else []
  | [], i => by simp [pk]
  | y :: l, i => by
    rw [List.cons_append, pk, pk, pk_snoc b x l (i + 1), List.length_cons, show i + 1 + l.length = i + (l.length + 1) by omega]
    split <;> rfl
theorem addC_snoc (n a : List Int) (x : Int) : addC n (a ++ [x]) = inc (addC n a) x := by simp [addC]
theorem rNumN_eq (r : Rm) (p : List Int) (b : Nat) : ∀ j, j ≤ p.length → rNumN r p b j = addC (zerosN (r.cu.last + 1).toNat) (pk b 0 (p.take j))
  | 0, _ => by simp [rNumN, pk, addC]
  | j + 1, hj => by
    have e : p.take (j + 1) = p.take j ++ [gi p j] := gi_take (by omega)
    rw [rNumN, e, pk_snoc, rNumN_eq r p b j (by omega), List.length_take, Nat.min_eq_left (by omega), Nat.zero_add]
    split
    · rw [addC_snoc]
    · rw [List.append_nil]
theorem rNum_eq (r : Rm) (p : List Int) (b : Nat) : rNum r p b = addC (zerosN (r.cu.last + 1).toNat) (pk b 0 p) := by
  rw [rNum, rNumN_eq r p b _ (Nat.le_refl _), List.take_length]
theorem zerosN_gi (n : Nat) (i : Int) : gi (zerosN n) i = 0 := gi_zeros n i
/-- The numbers of a plan, in both ways. -/
theorem num_same {r : Rm} (k : RmOk r) {q : List Int} (hq : ∀ h ∈ q, 0 ≤ h ∧ h ≤ r.cu.last) (i : Nat) : gi (cntN q) i = gi (addC (zerosN (r.cu.last + 1).toNat) q) i ∧ 0 ≤ gi (cntN q) i := by
  have hl := k.A.k0.last
  have e1 := addC_gi q zL (fun h hh => by have := hq h hh; simp only [zL, List.length_cons, List.length_nil]; omega) i
  have e2 := addC_gi q (zerosN (r.cu.last + 1).toNat) (fun h hh => by have := hq h hh; simp only [zerosN, List.length_replicate]; omega) i
  rw [cntN, e1, e2, zL_gi, zerosN_gi]
  omega
theorem num_ref {r : Rm} (k : RmOk r) {q : List Int} (hq : ∀ h ∈ q, 0 ≤ h ∧ h ≤ r.cu.last) {m : List Int} (hm : m = addC (zerosN (r.cu.last + 1).toNat) q) :
    sPossN r (cntN q) = rCanBe r m ∧ (sPossN r (cntN q) = true → keV r (cntN q) = rKe r (rTruths r.cu) m) ∧ sSureN r (cntN q) = rSureM r (rTruths r.cu) m := by
  have hl := k.A.k0.last
  refine sure_ref k (by rw [hm, addC_len]; simp only [zerosN, List.length_replicate]; omega) (fun i _ => by rw [hm]; exact (num_same k hq i).1) fun i _ => by
    rw [hm, ← (num_same k hq i).1]; exact (num_same k hq i).2
theorem sures_map {r : Rm} (k : RmOk r) {b : Nat} {out : List Int} (h : ∀ j, j < r.ba.length → outB out j = !b.testBit j) : plL r out = (rSures r (rTruths r.cu) b).map (pk b 0) := by
  rw [plL_eq k, rSures, rPlansF_suf, suf_all r (b := b) (out := out) r.ba.length 0 (fun j _ hj => h j (by omega))]
  simp only [List.nil_append, List.map_id', List.length_nil]
  rw [List.filter_map]
  congr 1
  apply List.filter_congr
  intro p hp
  simp only [Function.comp]
  have hpa : pk b 0 p ∈ allP r out r.ba.length 0 := by
    rw [suf_all r (b := b) (out := out) r.ba.length 0 (fun j _ hj => h j (by omega))]
    exact List.mem_map.2 ⟨p, hp, rfl⟩
  have hq := allP_mem k (show 0 + r.ba.length ≤ r.ba.length by omega) _ hpa
  exact (num_ref k hq (rNum_eq r p b)).2.2
theorem pk_full {b n : Nat} (hb : ∀ j, j < n → b.testBit j = true) : ∀ (p : List Int) (i : Nat), i + p.length ≤ n → pk b i p = p
  | [], i, _ => rfl
  | x :: p, i, h => by
    rw [List.length_cons] at h
    rw [pk, if_pos (hb i (by omega)), pk_full hb p (i + 1) (by omega)]
end Go.Vm

set_option linter.unusedVariables false
set_option linter.unusedSimpArgs false
set_option maxRecDepth 100000
namespace Go.Vm
/-! ### the hours at which a bath may be had -/
theorem allP_len0 (r : Rm) : ∀ (m i : Nat), ∀ p ∈ allP r [] m i, p.length = m
  | 0, i, p, hp => by simp only [allP, List.mem_singleton] at hp; subst hp; rfl
  | m + 1, i, p, hp => by
    rw [allP, if_neg (by simp [outB])] at hp
    simp only [List.mem_flatMap, List.mem_map] at hp
    obtain ⟨h, _, q, hq, rfl⟩ := hp
    simp [allP_len0 r m (i + 1) q hq]
theorem flat_lenB {α β : Type} (f : α → List β) (b : Nat) : ∀ l : List α, (∀ x ∈ l, (f x).length ≤ b) → (l.flatMap f).length ≤ l.length * b
  | [], _ => by simp
  | x :: l, h => by
    have h1 := h x (by simp)
    have h2 := flat_lenB f b l fun y hy => h y (by simp [hy])
    simp only [List.flatMap_cons, List.length_append, List.length_cons, Nat.succ_mul]
    omega
theorem allP_count {r : Rm} (k : RmOk r) (out : List Int) : ∀ (m i : Nat), i + m ≤ r.ba.length → (allP r out m i).length ≤ 5 ^ m
  | 0, i, _ => by simp [allP]
  | m + 1, i, hi => by
    have ih := allP_count k out m (i + 1) (by omega)
    rw [allP]
    split
    · rw [Nat.pow_succ]; omega
    · have hl := k.A.k0.last
      have hb := k.ba _ (List.mem_of_getElem? (gR_get (show (i : Int) < r.ba.length by omega)))
      have hr := rangeI_len (gR r.ba i).lo (gR r.ba i).hi
      have h1 := flat_lenB (fun h => (allP r out m (i + 1)).map (h :: ·)) (5 ^ m) (rangeI (gR r.ba i).lo (gR r.ba i).hi) fun x _ => by simpa using ih
      have h2 : (rangeI (gR r.ba i).lo (gR r.ba i).hi).length * 5 ^ m ≤ 5 * 5 ^ m := Nat.mul_le_mul_right _ (by omega)
      rw [Nat.pow_succ]; omega
theorem plL_count {r : Rm} (k : RmOk r) (out : List Int) : (plL r out).length ≤ 3125 := by
  rw [plL_eq k]
  have h1 := allP_count k out r.ba.length 0 (by omega)
  have h2 := List.length_filter_le (fun p => sSureN r (cntN p)) (allP r out r.ba.length 0)
  have h3 : (5 : Nat) ^ r.ba.length ≤ 5 ^ 5 := Nat.pow_le_pow_right (by omega) k.len
  omega
theorem plL_mem0 {r : Rm} (k : RmOk r) {p : List Int} (h : p ∈ plL r []) : p.length = r.ba.length ∧ ∀ x ∈ p, 0 ≤ x ∧ x ≤ r.cu.last := by
  rw [plL_eq k, List.mem_filter] at h
  exact ⟨allP_len0 r _ _ p h.1, allP_mem k (by omega) p h.1⟩
def sHoursL (r : Rm) (i : Nat) : List Int := (rangeI (gR r.ba i).lo (gR r.ba i).hi).filter fun h => (plL r []).any fun p => decide (gi p i = h)
def sHoursR (r : Rm) (bath : Int) : List Int × Int := if sCheckR r = 0 then (if sIn bath 0 (r.ba.length - 1) = true then (sHoursL r bath.toNat, 0) else ([], 2)) else ([], sCheckR r)
/-- How often each hour is met. -/
def cntH (l : List (List Int)) (i : Nat) : List Int := addC zL (l.map fun p => gi p i)
theorem cntH_len (l : List (List Int)) (i : Nat) : (cntH l i).length = 5 := by rw [cntH, addC_len]; rfl
theorem cntH_gi {r : Rm} (k : RmOk r) {i : Nat} (hi : i < r.ba.length) (h : Nat) : gi (cntH (plL r []) i) h = (plL r []).countP fun p => decide (gi p i = h) := by
  have hl := k.A.k0.last
  rw [cntH, addC_gi _ _ (fun x hx => ?_), zL_gi, List.countP_map, Int.zero_add]
  · congr 1
    apply congrArg (fun f => List.countP f (plL r []))
    funext p
    simp only [Function.comp]
    exact decide_eq_decide.2 eq_comm
  · simp only [List.mem_map] at hx
    obtain ⟨p, hp, rfl⟩ := hx
    obtain ⟨h1, h2⟩ := plL_mem0 k hp
    have := h2 _ (gi_mem (l := p) (i := i) (by omega))
    have hz : (zL.length : Int) = 5 := rfl
    omega
theorem cntH_pos {r : Rm} (k : RmOk r) {i : Nat} (hi : i < r.ba.length) (h : Nat) : decide (0 < gi (cntH (plL r []) i) h) = (plL r []).any fun p => decide (gi p i = h) := by
  rw [cntH_gi k hi]
  rw [Bool.eq_iff_iff, decide_eq_true_eq, List.any_eq_true]
  rw [show (0 : Int) = ((0 : Nat) : Int) from rfl, Int.ofNat_lt, List.countP_pos_iff]
end Go.Vm

set_option linter.unusedVariables false
set_option linter.unusedSimpArgs false
set_option maxRecDepth 100000
namespace Go.Vm
open Go.Proofs
/-! ### Hours -/
def stepHr (i : Nat) (p : List Int) (c : List Int) : Bool × List Int := (true, inc c (gi p i))
theorem runX_stepHr (i : Nat) : ∀ (l : List (List Int)) (c : List Int), runX (stepHr i) l c = (true, addC c (l.map fun p => gi p i))
  | [], c => rfl
  | p :: l, c => by
    simp only [runX, stepHr]
    exact runX_stepHr i l _
structure OkHr (r : Rm) (p : List Int) (c : List Int) : Prop where
  pl : p.length = r.ba.length
  pm : ∀ x ∈ p, 0 ≤ x ∧ x ≤ r.cu.last
  cl : c.length = 5
  cb : ∀ j : Nat, 0 ≤ gi c j ∧ gi c j ≤ 1000000
theorem good_hr {r : Rm} (k : RmOk r) {i : Nat} (hi : i < r.ba.length) : ∀ (l : List (List Int)) (c : List Int), (∀ p ∈ l, p.length = r.ba.length ∧ ∀ x ∈ p, 0 ≤ x ∧ x ≤ r.cu.last) → c.length = 5 → (∀ j : Nat, 0 ≤ gi c j ∧ gi c j + l.length ≤ 1000000) → GoodX (stepHr i) (OkHr r) l c
  | [], c, _, _, _ => trivial
  | p :: l, c, h, hc, hb => by
    have h1 := h p (by simp)
    have hl := k.A.k0.last
    have hx := h1.2 _ (gi_mem (l := p) (i := i) (by omega))
    refine ⟨⟨h1.1, h1.2, hc, fun j => by have := hb j; omega⟩, fun _ => good_hr k hi l _ (fun q hq => h q (by simp [hq])) (by simp only [stepHr]; rw [inc_len, hc]) fun j => ?_⟩
    have := hb j
    simp only [stepHr, List.length_cons] at this ⊢
    rw [inc_gi hx.1 (by omega)]
    split <;> omega
def hrE (r : Rm) (i : Nat) : Env := [(32, plansV r []), (31, .rop (bw r (.mp 90))), (2, .rop r.cs), (3, .rop [vi i]), (6, .rop (bw r (.mp 90))), (8, .ptr 8 0 0), (9, .ptr 9 0 0), (10, .ptr 10 0 0)]
def hrH (r : Rm) (i : Nat) (ps : List Tmp) (sa sb : Code) (c : List Int) : Heap :=
  [(8, ⟨0, .row [.fn 90 [] []]⟩), (9, ⟨0, .row [.fn 91 [] []]⟩), (10, ⟨0, .row (cI c)⟩), (51, ⟨0, .dfr true⟩), (50, lent .ready none 33 71 (hrE r i) ps sa sb 51)]
theorem hrH_closed (r : Rm) (i : Nat) (ps : List Tmp) (sa sb : Code) (c : List Int) (M : MemoI) : intoH (domP (mH M (hrH r i ps sa sb c))) (mH M (hrH r i ps sa sb c)) = true := by
  simp only [hrH, hrE, mH, intoH, lent, Blk.into, intoE, V.into, intoL, cI_into, vI_into, Bool.true_and, Bool.and_true, memoI_into, plansV, domP, Heap.get, rm_into]
  rw [bw_into _ _ _ (by simp [V.into, domP, Heap.get])]
  rfl
theorem hrH_dom (r : Rm) (i : Nat) (ps : List Tmp) (sa sb : Code) (x y : List Int) (j : Nat) : domP (hrH r i ps sa sb x) j = domP (hrH r i ps sa sb y) j := by
  simp only [hrH, domP, Heap.get]
  repeat' split
  all_goals rfl
set_option maxHeartbeats 2000000 in
theorem c_bHours (r : Rm) (hr : r.wf) (bath : Int) (hb64 : -9223372036854775808 ≤ bath ∧ bath ≤ 9223372036854775807) : Pu Tryz.prog (.fn 33 [] []) [.agg r.cs, vi bath] (.tup [vI (sHoursR r bath).1, vi (sHoursR r bath).2]) := by
  refine Ev.fn Tryz.func33 rfl rfl (Fn.body tabOk Tryz.func33 rfl (Nat.le_of_ble_eq_true rfl) (Ks.ok (fz := (fzn [8, 9, 10])) (cl := (cln [(8, .ex), (11, .ex), (12, .d (tgL [(8, 1)]) [cP, some ([1], []), cP, cP, cP, cP, cP, cP, cP]), (13, .d (tgL [(9, 1)]) [cP, cP, some ([1], []), cP, cP, cP, cP, cP, cP, cP])])) tabOk mixed ?_))
  generalize hQ : FnPost tt Tryz.f33 _ _ = Q
  simp only [Tryz.f33, List.nil_append, List.append_nil, argsEnv, Nat.reduceAdd]
  simp only [gos, eq_self, Nat.reduceLT, Nat.reduceEqDiff, reduceCtorEq, reduceIte, ↓reduceIte, tt, vgo, vout, vguard, callOf, vop, ev, cv, vload, newRow, rms]
  by_cases h0 : sCheckR r = 0
  case neg =>
    refine Cl.pu (c_baskN r hr h0) ?_ rfl (by simp only [V.into, intoL, Bool.and_true, rm_into])
    have hb : (sCheckR r != 0) = true := by simp [h0]
    simp only [gos, eq_self, Nat.reduceLT, Nat.reduceEqDiff, reduceIte, ↓reduceIte, vgo, vout, vguard, callOf, vop, ev, cv, vbin, vint, isShift, isNilConst, hb]
    subst hQ
    have hr2 : sHoursR r bath = ([], sCheckR r) := by rw [sHoursR, if_neg h0]
    rw [hr2]
    exact FnPost.plain trivial (v := .tup [.sl0, vi (sCheckR r)]) (fun h2 e => by rfl) (WkV.trans (WkV.less (v' := .tup [vI [], vi (sCheckR r)]) (ImpV.tup ⟨sl0_vI, ImpV.refl _, trivial⟩)) (WkV.pure (by simp only [V.into, intoL, vI_into, Bool.and_true]))) ⟨rfl, rfl⟩
  refine Cl.newN (n_bask r hr h0) rfl ?_
  have k := rmOk_of h0
  have hl := k.A.k0.last
  have hba := k.len
  have z0 : ((0 : Int) != 0) = false := rfl
  have hw1 : IntKind.i64.wrap ((r.ba.length : Int) - 1) = (r.ba.length : Int) - 1 := i64_in (by omega) (by omega)
  simp only [gos, eq_self, Nat.reduceLT, Nat.reduceEqDiff, reduceCtorEq, reduceIte, ↓reduceIte, tt, vgo, vout, vguard, callOf, vop, ev, cv, vbin, vint, isShift, isNilConst, vload, vlen, rms, vR, hw1]
  refine Cl.pu (c_bwithin bath 0 ((r.ba.length : Int) - 1)) ?_
  cases hin : sIn bath 0 ((r.ba.length : Int) - 1) with
  | false =>
    simp only [gos, eq_self, Nat.reduceLT, Nat.reduceEqDiff, reduceIte, ↓reduceIte, vgo, vout, vguard, callOf, vop, ev, cv]
    subst hQ
    have hr2 : sHoursR r bath = ([], 2) := by rw [sHoursR, if_pos h0, if_neg (by simp [hin])]
    rw [hr2]
    exact FnPost.plain trivial (v := .tup [.sl0, vi 2]) (fun h2 e => by rfl) (WkV.trans (WkV.less (v' := .tup [vI [], vi 2]) (ImpV.tup ⟨sl0_vI, ImpV.refl _, trivial⟩)) (WkV.pure (by simp only [V.into, intoL, vI_into, Bool.and_true]))) ⟨rfl, rfl⟩
  | true =>
    have hin2 := hin
    simp only [sIn, Bool.and_eq_true, decide_eq_true_eq] at hin2
    obtain ⟨i, rfl⟩ : ∃ i : Nat, bath = i := ⟨bath.toNat, by omega⟩
    have hil : (i : Int) < r.ba.length := by omega
    simp only [gos, eq_self, Nat.reduceLT, Nat.reduceEqDiff, Nat.reduceAdd, reduceCtorEq, reduceIte, ↓reduceIte, tt, vgo, vout, vguard, callOf, vop, ev, newRow, vfill]
    refine Wr.at tabOk 0 ?_
    simp only [gos]
    refine Wa.mk (ρ2 := [(2, .rop r.cs), (3, .rop [vi i]), (6, .rop (bw r (.mp 90))), (8, .ptr 8 0 0), (9, .ptr 9 0 0), (10, .ptr 10 0 0)]) (h2 := mH [] [(8, ⟨0, .row [.fn 90 [] []]⟩), (9, ⟨0, .row [.fn 91 [] []]⟩), (10, ⟨0, .row (cI zL)⟩)]) (Wk.heap (fun q => rfl) (by simp [subE, Env.get])) ?_
    simp only [mH, gos, eq_self, Nat.reduceLT, Nat.reduceEqDiff, reduceIte, ↓reduceIte, vgo, vout, vguard, callOf, vop, ev, cv]
    refine Cl.less (cs := [.rop (bw r (.mp 90)), vI []]) (ImpV.refl _) ⟨ImpV.refl _, sl0_vI, trivial⟩ (Cl.mk (c_plans r [] _) ?_)
    rintro v h' ⟨rfl, rfl⟩
    simp only [gos]
    refine W.rangeFuncG 50 51 rfl rfl (by decide) rfl ?_
    intro sa sb hsa hsb
    have Y : YP Tryz.prog (.yl 50) (hrH r i [33] sa sb) (stepHr i) (OkHr r) := by
      refine ⟨?_, ?_, ?_, ?_, ?_, ?_, ?_, ?_, ?_, ?_, ?_, rfl⟩
      · rintro p c M ok
        refine (Ev.roundG (i := 50) (pd := none) tabOk mixed (fzn []) (cln []) rfl rfl rfl (S := fun v h' => v = .bool (stepHr i p c).1 ∧ h' = mH M (hrH r i [33] sa sb (stepHr i p c).2)) ?_)
        intro L Q2 hQ2 Q1 hQ1
        have hpi : (i : Int) < p.length := by rw [ok.pl]; omega
        have hx := ok.pm _ (gi_mem (l := p) (i := i) (by omega))
        have hx5 : gi p i < ((5 : Nat) : Int) := by omega
        have hcl := ok.cl
        have hxl : gi p i < c.length := by rw [hcl]; omega
        have hat := cI_at hx.1 hxl
        rw [Nat.mul_one] at hat
        have hcb := ok.cb (gi p i).toNat
        rw [show (((gi p i).toNat : Nat) : Int) = gi p i by omega] at hcb
        have w1 := i64_in (show -9223372036854775808 ≤ gi c (gi p i) + 1 by omega) (show gi c (gi p i) + 1 ≤ 9223372036854775807 by omega)
        have hset : List.take (gi p i).toNat (cI c) ++ [V.int IntKind.i64 (gi c (gi p i) + 1)] ++ List.drop ((gi p i).toNat + 1) (cI c) = cI (inc c (gi p i)) := by
          rw [inc]; exact cI_set _ (by rw [hcl]; omega)
        have hc5 : (gi p i).toNat + 1 ≤ 5 := by omega
        have hn5 : (cI c).length = 5 := by rw [cI_len, hcl]
        have hatp := cI_at (Int.natCast_nonneg i) hpi
        rw [Int.toNat_natCast, Nat.mul_one] at hatp
        refine W.named hsa ?_
        simp only [gos, eq_self, Nat.reduceLT, reduceIte, ↓reduceIte, vgo, vout, vguard, callOf, vop, ev, putL, hrH, hrE, mH]
        refine hQ1 _ _ none rfl (W.named hsb ?_)
        simp only [gos, eq_self, Nat.reduceLT, Nat.reduceEqDiff, reduceCtorEq, reduceIte, ↓reduceIte, tt, vgo, vout, vguard, callOf, vop, ev, cv, vbin, vint, isShift, isNilConst, vload, vI, hpi, hatp, hx.1, hx5, hat, w1, hset, hc5, hn5, Int.natCast_nonneg, Nat.mul_one, Nat.zero_add, Int.toNat_natCast]
        exact hQ2 _ _ _ _ ⟨.busy, none, rfl, rfl, rfl⟩
      · intro x M; rfl
      · exact fun x M => hrH_closed r i [33] sa sb x M
      · exact hrH_dom r i [33] sa sb
      · intro x; rfl
      · intro x; rfl
      · intro x; rfl
      · intro x; rfl
      · intro v cs; rfl
      · intro x v cs
        simp only [hrH, hrE, frzH, Blk.frz, frzE, V.frz, frzL, lent, plansV, bw_frz, vI_frz, rm_frz, cI_frz]
        rfl
      · intro x
        simp only [hrH, noLoopOn, lent]
        rfl
    have hgood : GoodX (stepHr i) (OkHr r) (plL r []) zL := good_hr k (by omega) _ _ (fun p hp => plL_mem0 k hp) rfl fun j => by
      have := plL_count k []
      rw [zL_gi]; omega
    refine (c_plans1 r k [] (by simp) (.yl 50) _ _ _ Y [] (BMemo.nil r) zL hgood).mono ?_
    rintro v h' ⟨M', HM', rfl⟩
    rw [runX_stepHr]
    refine ⟨.ready, none, rfl, by decide, ?_⟩
    rw [show addC zL ((plL r []).map fun p => gi p i) = cntH (plL r []) i from rfl]
    generalize hC : cntH (plL r []) i = C
    simp only [gos, eq_self, Nat.reduceEqDiff, reduceIte, ↓reduceIte, hrH, hrE, mH]
    refine Wr.at tabOk 0 ?_
    simp only [gos]
    refine Wa.mk (ρ2 := [(2, .rop r.cs), (3, .rop [vi i]), (8, .ptr 8 0 0), (9, .ptr 9 0 0), (10, .ptr 10 0 0)]) (h2 := [(8, ⟨0, .row [.fn 90 [] []]⟩), (9, ⟨0, .row [.fn 91 [] []]⟩), (10, ⟨0, .row (cI C)⟩), (51, ⟨0, .dfr true⟩)]) (Wk.forget (by simp [subE, Env.get]) (by simp [subH, Heap.get]) (fun j hp => by
      simp only [orD, domP, Heap.get, List.contains_cons, List.contains_nil, Bool.or_false] at hp ⊢
      have : j = 51 := by simpa using hp
      subst this; rfl) (by simp only [intoE, V.into, intoL, Bool.true_and, Bool.and_true, domP, Heap.get, rm_into]; try rfl) (by simp only [intoH, Blk.into, V.into, intoL, cI_into, Bool.and_true]; try rfl)) ?_
    have hbi := k.ba _ (List.mem_of_getElem? (gR_get hil))
    have e0 := cR_at (Int.natCast_nonneg i) hil
    rw [Int.toNat_natCast] at e0
    have hC5 : (cI C).length = 5 := by rw [cI_len, ← hC, cntH_len]
    simp only [gos, eq_self, Nat.reduceLT, Nat.reduceEqDiff, reduceIte, ↓reduceIte, vgo, vout, vguard, callOf, vop, ev, cv]
    refine Wr.draw (by kernel_rfl) ?_
    simp only [gos, eq_self, Nat.reduceLT, Nat.reduceEqDiff, Nat.reduceAdd, reduceCtorEq, reduceIte, ↓reduceIte, tt, vgoD, voutD, vclsOk, vids, mayWrite, V.ids, vguard, callOf, vop, ev, vload, clsAt, rms, vR, hil, Int.natCast_nonneg, Int.toNat_natCast, e0]
    refine CD.pu (c_first (gR r.ba i)) ?_
    simp only [gos, eq_self, Nat.reduceLT, reduceIte, ↓reduceIte, vgoD, voutD, vclsOk, vids, mayWrite, vguard, callOf, vop, ev]
    let F : Int → Bool := fun h => (plL r []).any fun p => decide (gi p i = h)
    let R := rangeI (gR r.ba i).lo (gR r.ba i).hi
    have hrl := rangeI_len (gR r.ba i).lo (gR r.ba i).hi
    refine W.loop tabOk mixed (fun j : Nat => ([(2, .rop r.cs), (3, .rop [vi i]), (8, .ptr 8 0 0), (9, .ptr 9 0 0), (10, .ptr 10 0 0), (12, .own 69 ((R.take j).filter F).length 0 1 ((R.take j).filter F).length), (13, vi ((gR r.ba i).lo + j))], [(8, ⟨0, .row [.fn 90 [] []]⟩), (9, ⟨0, .row [.fn 91 [] []]⟩), (10, ⟨0, .row (cI C)⟩), (51, ⟨0, .dfr true⟩), (69, ⟨((R.take j).filter F).length, .row (cI ((R.take j).filter F))⟩)])) (fun j => R.length - j) (fun j => j ≤ R.length) 0 (Nat.zero_le _) (Wk.trans (Wk.sl0E 12 69 1 rfl rfl) (Wk.env (by simp [subE, Env.get]))) ?_
    intro j hj
    by_cases hjl : (gR r.ba i).lo + (j : Int) ≤ (gR r.ba i).hi
    · obtain ⟨hv, hhv⟩ : ∃ hv : Int, hv = (gR r.ba i).lo + (j : Int) := ⟨_, rfl⟩
      have hx0 : 0 ≤ hv := by omega
      have hx5 : hv < ((5 : Nat) : Int) := by omega
      have hxl : hv < C.length := by rw [← hC, cntH_len]; omega
      have hat := cI_at hx0 hxl
      rw [Nat.mul_one] at hat
      have hpos := cntH_pos k (show i < r.ba.length by omega) hv.toNat
      rw [show ((hv.toNat : Nat) : Int) = hv by omega, hC] at hpos
      have hw : IntKind.i64.wrap (hv + 1) = hv + 1 := i64_in (by omega) (by omega)
      rw [← hhv] at hjl ⊢
      simp only [gos, eq_self, Nat.reduceEqDiff, reduceIte, ↓reduceIte]
      refine Wr.draw (by kernel_rfl) ?_
      simp only [gos, eq_self, Nat.reduceLT, Nat.reduceEqDiff, Nat.reduceAdd, reduceCtorEq, reduceIte, ↓reduceIte, tt, vgoD, voutD, vclsOk, vids, mayWrite, V.ids, vguard, callOf, vop, ev, vload, clsAt, rms, vR, hil, Int.natCast_nonneg, Int.toNat_natCast, e0]
      refine CD.pu (c_last (gR r.ba i)) ?_
      have hgt : ((plL r []).any fun p => decide (gi p i = hv)) = F hv := rfl
      simp only [gos, eq_self, Nat.reduceLT, Nat.reduceEqDiff, reduceCtorEq, reduceIte, ↓reduceIte, tt, vgo, vout, vgoD, voutD, vclsOk, vids, mayWrite, vguard, callOf, vop, ev, cv, vbin, vint, isShift, isNilConst, vload, hjl, hx0, hx5, hat, Nat.zero_add, Nat.mul_one, hpos]
      have hsx : (R.take (j + 1)).filter F = (R.take j).filter F ++ (if F hv = true then [hv] else []) := by
        rw [List.take_add_one, show R[j]? = some hv from by rw [hhv]; exact rangeI_get (by omega), List.filter_append]
        congr 1
        simp only [Option.toList_some, List.filter]
        cases F hv <;> rfl
      have hRl : R.length ≤ 5 := by show (rangeI _ _).length ≤ 5; omega
      have hfl : ((R.take j).filter F).length ≤ 5 := Nat.le_trans (List.length_filter_le _ _) (by rw [List.length_take]; omega)
      have hl1 : (cI ((R.take j).filter F)).length = ((R.take j).filter F).length := cI_len _
      have hl9 : ((R.take j).filter F).length ≤ 999999 := by omega
      have hjR : j < R.length := by show j < (rangeI _ _).length; omega
      have hw2 : (gR r.ba i).lo + ((j + 1 : Nat) : Int) = hv + 1 := by omega
      cases hF : F hv with
      | true =>
        rw [hF, if_pos rfl] at hsx
        rw [hgt, hF]
        simp only [gos, eq_self, Nat.reduceLT, Nat.reduceEqDiff, Nat.reduceAdd, Nat.reduceLeDiff, reduceCtorEq, reduceIte, ↓reduceIte, tt, vgo, vout, vguard, callOf, vop, ev, cv, vbin, vint, isShift, isNilConst, vfill, vappend, srcOf, hl1, hl9, hw, Nat.mul_one]
        refine Nx.mk (j + 1) (show _ - (j + 1) < _ - j by omega) (by omega) (Wk.heap (fun q => ?_) ?_)
        · rw [hsx, cI_snoc, List.length_append]; rfl
        · simp only [hw2]
          simp [subE, Env.get, hsx]
      | false =>
        rw [hF, if_neg (by simp)] at hsx
        rw [hgt, hF]
        simp only [gos, eq_self, Nat.reduceLT, Nat.reduceEqDiff, reduceIte, ↓reduceIte, vgo, vout, vguard, callOf, vop, ev, cv, vbin, vint, isShift, isNilConst, hw]
        refine Nx.mk (j + 1) (show _ - (j + 1) < _ - j by omega) (by omega) ?_
        simp only [hw2]
        rw [hsx, List.append_nil]
        exact Wk.env (by simp [subE, Env.get])
    · have hjR : j = R.length := by
        have : R.length = (rangeI (gR r.ba i).lo (gR r.ba i).hi).length := rfl
        omega
      simp only [gos, eq_self, Nat.reduceEqDiff, reduceIte, ↓reduceIte]
      refine Wr.draw (by kernel_rfl) ?_
      simp only [gos, eq_self, Nat.reduceLT, Nat.reduceEqDiff, Nat.reduceAdd, reduceCtorEq, reduceIte, ↓reduceIte, tt, vgoD, voutD, vclsOk, vids, mayWrite, V.ids, vguard, callOf, vop, ev, vload, clsAt, rms, vR, hil, Int.natCast_nonneg, Int.toNat_natCast, e0]
      refine CD.pu (c_last (gR r.ba i)) ?_
      simp only [gos, eq_self, Nat.reduceLT, Nat.reduceEqDiff, reduceIte, ↓reduceIte, vgo, vout, vgoD, voutD, vclsOk, vids, mayWrite, vguard, callOf, vop, ev, cv, vbin, vint, isShift, isNilConst, hjl]
      subst hQ
      have hr2 : sHoursR r i = (sHoursL r i, 0) := by rw [sHoursR, if_pos h0, if_pos hin, Int.toNat_natCast]
      have hT : (R.take j).filter F = sHoursL r i := by rw [hjR, List.take_length]; rfl
      rw [hr2, hT]
      have ht : (cI (sHoursL r i)).take (sHoursL r i).length = cI (sHoursL r i) := List.take_of_length_le (by rw [cI_len]; omega)
      refine FnPost.defer trivial (by decide) (by simp [Heap.get]) (v := .tup [.own 69 (sHoursL r i).length 0 1 (sHoursL r i).length, vi 0]) (fun h2 e => by rfl) (fun h2 e => WkV.trans (WkV.forgetF (h' := [(69, ⟨(sHoursL r i).length, .row (cI (sHoursL r i))⟩)]) (fun q en he => ?_) (fun q hq => by simp [domP, Heap.get] at hq) ?_ ?_) (WkV.frz 69 (v' := .tup [vI (sHoursL r i), vi 0]) (h' := []) (ver := (sHoursL r i).length) (cs := cI (sHoursL r i)) rfl rfl (cI_into _ _) rfl ?_ ?_ WkV.refl)) ⟨rfl, rfl⟩
      · simp only [Heap.get] at he
        split at he
        · rename_i h69
          subst h69
          rw [e 69 (by decide), ← he]; rfl
        · cases he
      · simp only [V.into, intoL, Bool.and_true, domP, Heap.get]; try rfl
      · simp only [intoH, Blk.into, cI_into, Bool.and_true]; try rfl
      · simp [V.frz, frzL, vI, ht]
      · simp [frzH]
end Go.Vm

set_option linter.unusedVariables false
set_option linter.unusedSimpArgs false
set_option maxRecDepth 100000
namespace Go.Vm
open Go.Proofs
theorem memoI_ren (s : Nat → Nat) : ∀ m : MemoI, renPs s (memoI m) = memoI m
  | [] => rfl
  | (k, b) :: m => by simp only [memoI, renPs, V.ren, cI_ren, memoI_ren s m]
/-! ### rest: is there a sure plan without some baths -/
def stepRs (p : List Int) (x : Bool) : Bool × Bool := (false, true)
theorem runX_stepRs : ∀ l : List (List Int), (runX stepRs l false).2 = !l.isEmpty
  | [] => rfl
  | p :: l => rfl
def rsH (r : Rm) (out : List Int) (ps : List Tmp) (sa sb : Code) (x : Bool) : Heap :=
  [(40, ⟨0, .row [.bool x]⟩), (51, ⟨0, .dfr true⟩), (50, lent (if x then .done else .ready) (if x then some .ret else none) 99 9 [(7, plansV r out), (6, vI out), (5, .rop (bw r (.mp 90))), (4, .ptr 40 0 0), (0, .rop (bw r (.mp 90))), (1, vI out)] ps sa sb 51)]
theorem rsH_closed (r : Rm) (out : List Int) (ps : List Tmp) (sa sb : Code) (x : Bool) (M : MemoI) : intoH (domP (mH M (rsH r out ps sa sb x))) (mH M (rsH r out ps sa sb x)) = true := by
  simp only [rsH, mH, intoH, lent, Blk.into, intoE, V.into, intoL, vI_into, Bool.true_and, Bool.and_true, memoI_into, plansV, domP, Heap.get]
  rw [bw_into _ _ _ (by simp [V.into, domP, Heap.get])]
  rfl
theorem rsH_dom (r : Rm) (out : List Int) (ps : List Tmp) (sa sb : Code) (x y : Bool) (j : Nat) : domP (rsH r out ps sa sb x) j = domP (rsH r out ps sa sb y) j := by
  simp only [rsH, domP, Heap.get]
  repeat' split
  all_goals rfl
set_option maxHeartbeats 2000000 in
theorem c_rest (r : Rm) (k : RmOk r) (out : List Int) (hout : (out.length : Int) ≤ 1000000) (M : MemoI) (HM : BMemo r M) : Ev Tryz.prog (.fn 99 [] []) [.rop (bw r (.mp 90)), vI out] [(90, ⟨0, .map (memoI M)⟩)] fun v h' => ∃ M', BMemo r M' ∧ v = .bool (!(plL r out).isEmpty) ∧ h' = [(90, ⟨0, .map (memoI M')⟩)] := by
  refine Ev.fn Tryz.func99 rfl rfl (Fn.body tabOk Tryz.func99 rfl (Nat.le_of_ble_eq_true rfl) (Ks.ok (fz := (fzn [4])) (cl := (cln [(1, .ex)])) tabOk mixed ?_))
  generalize hQ : FnPost tt Tryz.f99 _ _ = Q
  simp only [Tryz.f99, List.nil_append, List.append_nil, argsEnv, Nat.reduceAdd]
  simp only [gos, eq_self, Nat.reduceLT, Nat.reduceEqDiff, reduceCtorEq, reduceIte, ↓reduceIte, tt, vgo, vout, vguard, callOf, vop, newRow]
  refine Wr.at tabOk 0 ?_
  simp only [gos]
  refine Wa.mk (Wk.ren 4 40 rfl rfl) ?_
  simp only [renE, renH, V.ren, renL, Blk.ren, sw, bw_ren, vI, cI_ren, memoI_ren, gos, eq_self, Nat.reduceLT, Nat.reduceEqDiff, reduceCtorEq, reduceIte, ↓reduceIte, vgo, vout, vguard, callOf, vop, ev]
  rw [show V.ro out.length (cI out) = vI out from rfl]
  refine Cl.mk (c_plans r out _) ?_
  rintro v h' ⟨rfl, rfl⟩
  simp only [gos]
  refine W.rangeFuncG 50 51 rfl rfl (by decide) rfl ?_
  intro sa sb hsa hsb
  have Y : YP Tryz.prog (.yl 50) (rsH r out [8] sa sb) stepRs (fun p x => x = false) := by
    refine ⟨?_, ?_, ?_, ?_, ?_, ?_, ?_, ?_, ?_, ?_, ?_, rfl⟩
    · rintro p x M rfl
      refine (Ev.roundG (i := 50) (pd := none) tabOk mixed (fzn []) (cln []) rfl rfl rfl (S := fun v h' => v = .bool (stepRs p false).1 ∧ h' = mH M (rsH r out [8] sa sb (stepRs p false).2)) ?_)
      intro L Q2 hQ2 Q1 hQ1
      refine W.named hsa ?_
      simp only [gos, reduceIte, ↓reduceIte, putL, rsH, mH]
      refine hQ1 _ _ none rfl (W.named hsb ?_)
      simp only [gos, eq_self, Nat.reduceLT, Nat.reduceEqDiff, Nat.reduceAdd, reduceCtorEq, reduceIte, ↓reduceIte, tt, vgo, vout, vguard, callOf, vop, ev, cv]
      exact hQ2 _ _ _ _ ⟨.busy, none, rfl, rfl, rfl⟩
    · intro x M; rfl
    · exact fun x M => rsH_closed r out [8] sa sb x M
    · exact rsH_dom r out [8] sa sb
    · intro x; rfl
    · intro x; rfl
    · intro x; rfl
    · intro x; rfl
    · intro v cs; rfl
    · intro x v cs
      simp only [rsH, frzH, Blk.frz, frzE, V.frz, frzL, lent, plansV, bw_frz, vI_frz]
      rfl
    · intro x
      simp only [rsH, noLoopOn, lent]
      rfl
  refine (c_plans1 r k out hout (.yl 50) _ _ _ Y M HM false ?_).mono ?_
  · cases h : plL r out with
    | nil => trivial
    | cons p l => exact ⟨rfl, fun e => by cases e⟩
  rintro v h' ⟨M', HM', rfl⟩
  rw [runX_stepRs]
  cases hl : (plL r out).isEmpty with
  | true =>
    refine ⟨.ready, none, rfl, by decide, ?_⟩
    simp only [gos, eq_self, Nat.reduceLT, Nat.reduceEqDiff, Nat.reduceAdd, reduceCtorEq, reduceIte, ↓reduceIte, tt, vgo, vout, vguard, callOf, vop, ev, cv, rsH, mH]
    subst hQ
    refine FnPost.defer trivial (by decide) (by simp [Heap.get]) (v := .bool false) (fun h2 e => ?_) (v3 := .bool false) (h3 := [(90, ⟨0, .map (memoI M')⟩)]) (fun h2 e => WkV.forgetF (fun q en he => ?_) (fun q hq => ?_) rfl ?_) ⟨M', HM', by rw [hl]; rfl, rfl⟩
    · have e2 : h2.get 40 = some ⟨0, .row [.bool false]⟩ := (e 40 (by decide)).trans rfl
      simp only [Tryz.f99, vres, vresL, vres1, gos, eq_self, Nat.reduceLT, Nat.reduceEqDiff, reduceCtorEq, reduceIte, ↓reduceIte, tt, vload, e2]
    · simp only [Heap.get] at he
      split at he
      · rename_i h90
        subst h90
        rw [e 90 (by decide), ← he]; rfl
      · cases he
    · simpa [domP, Heap.get] using hq
    · simp only [intoH, Blk.into, memoI_into, Bool.and_self]
  | false =>
    refine ⟨.done, some .ret, rfl, by decide, ?_⟩
    simp only [gos, eq_self, Nat.reduceEqDiff, reduceIte, ↓reduceIte, rsH, mH]
    subst hQ
    refine FnPost.defer trivial (by decide) (by simp [Heap.get]) (v := .bool true) (fun h2 e => ?_) (v3 := .bool true) (h3 := [(90, ⟨0, .map (memoI M')⟩)]) (fun h2 e => WkV.forgetF (fun q en he => ?_) (fun q hq => ?_) rfl ?_) ⟨M', HM', by rw [hl]; rfl, rfl⟩
    · have e2 : h2.get 40 = some ⟨0, .row [.bool true]⟩ := (e 40 (by decide)).trans rfl
      simp only [Tryz.f99, vres, vresL, vres1, gos, eq_self, Nat.reduceLT, Nat.reduceEqDiff, reduceCtorEq, reduceIte, ↓reduceIte, tt, vload, e2]
    · simp only [Heap.get] at he
      split at he
      · rename_i h90
        subst h90
        rw [e 90 (by decide), ← he]; rfl
      · cases he
    · simpa [domP, Heap.get] using hq
    · simp only [intoH, Blk.into, memoI_into, Bool.and_self]
/-- Over the memo and whatever else, when the memo that comes back is only known to be one. -/
theorem Ev.memoE {P : Program} {fv : V} {args : List V} {v : V} {r : Rm} {mi : Nat} {m : MemoI} (c : Ev P fv args [(mi, ⟨0, .map (memoI m)⟩)] fun v' h' => ∃ M', BMemo r M' ∧ v' = v ∧ h' = [(mi, ⟨0, .map (memoI M')⟩)]) (k : Heap) (hk : k.get mi = none)
    (hf : fv.into (domP [(mi, ⟨0, .map (memoI m)⟩)]) = true) (ha : intoL (domP [(mi, ⟨0, .map (memoI m)⟩)]) args = true) :
    Ev P fv args ((mi, ⟨0, .map (memoI m)⟩) :: k) fun v' h' => ∃ M', BMemo r M' ∧ v' = v ∧ h' = (mi, ⟨0, .map (memoI M')⟩) :: k := by
  have hsub : ∀ (X : MemoI) (i : Nat) (e : Ent), Heap.get [(mi, ⟨0, .map (memoI X)⟩)] i = some e → k.get i = none := fun X i e he => by
    simp only [Heap.get] at he
    by_cases h : i = mi
    · subst h; exact hk
    · rw [if_neg h] at he; cases he
  refine (c.frame k (hsub m) hf ha ?_ ?_).mono ?_
  · simp only [intoH, Blk.into, memoI_into, Bool.and_self]
  · rintro v' h' ⟨M', _, _, rfl⟩
    exact hsub _
  · rintro v' h'' ⟨h', ⟨M', HM', rfl, rfl⟩, rfl⟩
    exact ⟨M', HM', rfl, rfl⟩
theorem c_restK (r : Rm) (k : RmOk r) (out : List Int) (hout : (out.length : Int) ≤ 1000000) (M : MemoI) (HM : BMemo r M) (h : Heap) (hk : h.get 90 = none) : Ev Tryz.prog (.fn 99 [] []) [.rop (bw r (.mp 90)), vI out] ((90, ⟨0, .map (memoI M)⟩) :: h) fun v h' => ∃ M', BMemo r M' ∧ v = .bool (!(plL r out).isEmpty) ∧ h' = (90, ⟨0, .map (memoI M')⟩) :: h :=
  (c_rest r k out hout M HM).memoE h hk rfl (by simp only [intoL, V.into, bw_dom, vI_into, Bool.and_self])
end Go.Vm

set_option linter.unusedVariables false
set_option linter.unusedSimpArgs false
set_option maxRecDepth 100000
namespace Go.Vm
open Go.Proofs
/-! ### Give: the baths that must be given up -/
def sRest (r : Rm) (out : List Int) : Bool := !(plL r out).isEmpty
def giveF (r : Rm) : Nat → List Int → Int → Option (List Int)
  | 0, out, _ => if sRest r out = true then some out else none
  | m + 1, out, first => (rangeI first (r.ba.length - ((m + 1 : Nat) : Int))).findSome? fun i => giveF r m (out ++ [i]) (i + 1)
def giveV (r : Rm) : V := .fn 98 [] [.ptr 46 0 0, .ptr 44 0 0, .rop r.cs, .ptr 47 0 0]
def gvH (r : Rm) (M : MemoI) (f : Option (List Int)) : Heap := [(90, ⟨0, .map (memoI M)⟩), (46, ⟨0, .row [oV f]⟩), (44, ⟨0, .row [.rop (bw r (.mp 90))]⟩), (47, ⟨0, .row [giveV r]⟩)]
set_option maxHeartbeats 4000000 in
theorem c_give1 (r : Rm) (k : RmOk r) : ∀ (m : Nat) (out : List Int) (first : Int) (f : Option (List Int)) (M : MemoI), BMemo r M → out.length + m ≤ r.ba.length → 0 ≤ first ∧ first ≤ 100 →
    Ev Tryz.prog (giveV r) [vI out, vi first, vi m] (gvH r M f) fun v h' => ∃ f' M', BMemo r M' ∧ (∀ l, giveF r m out first = some l → f' = some l) ∧ v = .bool (giveF r m out first).isSome ∧ h' = gvH r M' f'
  | 0, out, first, f, M, HM, hlen, hfi => by
    have hrd := k.len
    unfold giveV
    refine Ev.fn Tryz.func98 rfl rfl (Fn.body tabOk Tryz.func98 rfl (Nat.le_of_ble_eq_true rfl) (Ks.ok (fz := (fzn [])) (cl := (cln [])) tabOk mixed ?_))
    generalize hQ : FnPost tt Tryz.f98 _ _ = Q
    simp only [Tryz.f98, List.nil_append, List.cons_append, argsEnv, Nat.reduceAdd]
    have hd0 : decide (((0 : Nat) : Int) = 0) = true := rfl
    simp only [gos, eq_self, Nat.reduceLT, Nat.reduceEqDiff, Nat.reduceAdd, reduceCtorEq, reduceIte, ↓reduceIte, tt, vgo, vout, vguard, callOf, vop, ev, cv, vbin, vint, isShift, isNilConst, vload, hd0, gvH]
    refine Cl.mk (c_restK r k out (by omega) M HM _ rfl) ?_
    rintro v h' ⟨M', HM', rfl, rfl⟩
    simp only [gos, eq_self, Nat.reduceLT, reduceIte, ↓reduceIte, vgo, vout, vguard, callOf, vop, ev]
    subst hQ
    refine FnPost.plain trivial (v := .bool (sRest r out)) (fun h2 e => by rfl) WkV.refl ⟨some out, M', HM', ?_, ?_, rfl⟩
    · intro l hl
      simp only [giveF] at hl
      split at hl
      · exact hl
      · cases hl
    · simp only [giveF]
      cases sRest r out <;> rfl
  | m + 1, out, first, f, M, HM, hlen, hfi => by
    have hrd := k.len
    unfold giveV
    refine Ev.fn Tryz.func98 rfl rfl (Fn.body tabOk Tryz.func98 rfl (Nat.le_of_ble_eq_true rfl) (Ks.ok (fz := (fzn [])) (cl := (cln [(7, .ex)])) tabOk mixed ?_))
    generalize hQ : FnPost tt Tryz.f98 _ _ = Q
    simp only [Tryz.f98, List.nil_append, List.cons_append, argsEnv, Nat.reduceAdd]
    have hd0 : decide (((m + 1 : Nat) : Int) = 0) = false := by rw [decide_eq_false_iff_not]; omega
    simp only [gos, eq_self, Nat.reduceLT, Nat.reduceEqDiff, reduceCtorEq, reduceIte, ↓reduceIte, vgo, vout, vguard, callOf, vop, ev, cv, vbin, vint, isShift, isNilConst, vI, hd0, gvH]
    refine W.loop tabOk mixed (fun a : Nat × Option (List Int) × MemoI => ([(0, vI out), (2, vi (m + 1 : Nat)), (3, .ptr 46 0 0), (4, .ptr 44 0 0), (5, .rop r.cs), (6, .ptr 47 0 0), (11, vi (first + a.1))], gvH r a.2.2 a.2.1)) (fun a => 10 - a.1)
      (fun a => BMemo r a.2.2 ∧ (a.1 = 0 ∨ first + (a.1 : Int) ≤ r.ba.length - ((m + 1 : Nat) : Int) + 1) ∧ ∀ j : Nat, j < a.1 → giveF r m (out ++ [first + (j : Int)]) (first + j + 1) = none) (0, f, M) ⟨HM, .inl rfl, fun j hj => by simp at hj⟩ (Wk.env (by simp [subE, Env.get, vI])) ?_
    rintro ⟨i, f1, M1⟩ ⟨HM1, hi, hno⟩
    simp only at hi hno HM1 ⊢
    have hsub := i64_in (show -9223372036854775808 ≤ (r.ba.length : Int) - ((m + 1 : Nat) : Int) by omega) (show (r.ba.length : Int) - ((m + 1 : Nat) : Int) ≤ 9223372036854775807 by omega)
    by_cases hil : first + (i : Int) ≤ r.ba.length - ((m + 1 : Nat) : Int)
    · simp only [gos, eq_self, Nat.reduceLT, Nat.reduceEqDiff, reduceCtorEq, reduceIte, ↓reduceIte, tt, vgo, vout, vguard, callOf, vop, ev, vbin, vint, isShift, isNilConst, vload, vlen, rms, vR, hsub, hil]
      refine Wr.last tabOk mixed (tgL [(7, 1), (33, 1)]) [cL, cP, some ([1], [1]), cP, cP, some ([1], [1]), cP, cP, cP, cP, none] _ (by kernel_rfl) (by kernel_rfl) rfl ?_
      simp only [gos, eq_self, Nat.reduceLT, Nat.reduceEqDiff, Nat.reduceAdd, reduceCtorEq, reduceIte, ↓reduceIte, tt, vgoD, voutD, vclsOk, vids, mayWrite, V.ids, vguard, callOf, vop, ev, vload, clsAt, gvH, List.dropLast, List.getLast]
      refine CD.new (n_Clone out (by omega)) rfl rfl rfl ?_
      have hcl : (cI out).length = out.length := cI_len out
      have hcm : out.length ≤ 999999 := by omega
      have hm1 : ((m + 1 : Nat) : Int) - 1 = (m : Int) := by omega
      simp only [gos, eq_self, Nat.reduceLT, Nat.reduceEqDiff, Nat.reduceAdd, Nat.reduceLeDiff, reduceCtorEq, reduceIte, ↓reduceIte, tt, vgoD, voutD, vclsOk, vids, mayWrite, V.ids, vguard, callOf, vop, ev, cv, vbin, vint, isShift, isNilConst, vfill, vappend, srcOf, hcl, hcm, Nat.mul_one, i64_in (show -9223372036854775808 ≤ first + (i : Int) + 1 by omega) (show first + (i : Int) + 1 ≤ 9223372036854775807 by omega), hm1, i64_in (show -9223372036854775808 ≤ (m : Int) by omega) (show (m : Int) ≤ 9223372036854775807 by omega)]
      refine Wa.mk (Wk.freeze 7 (ver := 1) (cs := cI out ++ [vi (first + i)]) rfl rfl (by rw [← cI_snoc]; exact cI_into _ _) rfl) ?_
      rw [← cI_snoc]
      simp only [frzE, frzH, V.frz, frzL, Blk.frz, giveV, rm_frz, bw_frz, oV_frz, memoI_frz, vI_frz, gos, eq_self, Nat.reduceLT, Nat.reduceEqDiff, reduceCtorEq, reduceIte, ↓reduceIte, vgo, vout, vguard, callOf, ev]
      have hll : (out ++ [first + (i : Int)]).length = out.length + 1 := by simp
      have ht : List.take ((out.length + 1) * 1) (cI (out ++ [first + (i : Int)])) = cI (out ++ [first + (i : Int)]) := List.take_of_length_le (by rw [cI_len, hll]; omega)
      rw [ht, show V.ro (out.length + 1) (cI (out ++ [first + (i : Int)])) = vI (out ++ [first + (i : Int)]) by rw [vI, hll]]
      refine Cl.mk (c_give1 r k m (out ++ [first + (i : Int)]) (first + i + 1) f1 M1 HM1 (by rw [hll]; omega) (by omega)) ?_
      rintro v h' ⟨f2, M2, HM2, hf2, rfl, rfl⟩
      cases hr : giveF r m (out ++ [first + (i : Int)]) (first + i + 1) with
      | some l =>
        simp only [gos, eq_self, Nat.reduceLT, Nat.reduceEqDiff, reduceIte, ↓reduceIte, vgo, vout, vguard, callOf, vop, ev, cv, Option.isSome_some]
        subst hQ
        have hrr : giveF r (m + 1) out first = some l := by
          rw [giveF]
          exact findSome_some (i := i) hil hr hno
        rw [hrr]
        exact FnPost.plain trivial (v := .bool true) (fun h2 e => by rfl) WkV.refl ⟨f2, M2, HM2, fun l' e => by rw [hf2 l hr]; exact e, rfl, rfl⟩
      | none =>
        simp only [gos, eq_self, Nat.reduceLT, Nat.reduceEqDiff, reduceCtorEq, reduceIte, ↓reduceIte, vgo, vout, vguard, callOf, vop, ev, cv, vbin, vint, isShift, isNilConst, Option.isSome_none]
        refine Nx.mk (i + 1, f2, M2) (show 10 - (i + 1) < 10 - i by omega) ⟨HM2, .inr (by simp only; omega), fun j hj => ?_⟩ (Wk.env ?_)
        · rcases Nat.lt_succ_iff_lt_or_eq.1 hj with h | rfl
          · exact hno j h
          · exact hr
        · have hw : IntKind.i64.wrap (first + ((i : Int) + 1)) = first + ((i : Int) + 1) := i64_in (by omega) (by omega)
          simp [subE, Env.get, vI, Int.add_assoc, hw]
    · have hrr : giveF r (m + 1) out first = none := by
        rw [giveF]
        exact findSome_none fun j hj => hno j (by omega)
      simp only [gos, eq_self, Nat.reduceLT, Nat.reduceEqDiff, reduceCtorEq, reduceIte, ↓reduceIte, tt, vgo, vout, vguard, callOf, vop, ev, cv, vbin, vint, isShift, isNilConst, vload, vlen, rms, vR, hsub, hil]
      subst hQ
      rw [hrr]
      exact FnPost.plain trivial (v := .bool false) (fun h2 e => by rfl) WkV.refl ⟨f1, M1, HM1, (fun l e => by cases e), rfl, rfl⟩
end Go.Vm

set_option linter.unusedVariables false
set_option linter.unusedSimpArgs false
set_option maxRecDepth 100000
namespace Go.Vm
open Go.Proofs
theorem allP_outs (r : Rm) (out : List Int) : ∀ (m i : Nat), (∀ j : Nat, i ≤ j → j < i + m → outB out j = true) → allP r out m i = [[]]
  | 0, i, _ => rfl
  | m + 1, i, h => by
    rw [allP, if_pos (h i (by omega) (by omega))]
    exact allP_outs r out m (i + 1) fun j h1 h2 => h j (by omega) (by omega)
theorem rest_all {r : Rm} (k : RmOk r) (hs : sSureN r zL = true) : sRest r (upto r.ba.length) = true := by
  have h : allP r (upto r.ba.length) r.ba.length 0 = [[]] := allP_outs r _ _ _ fun j _ hj => by
    simp only [outB, List.any_eq_true]
    exact ⟨(j : Int), by simp only [upto, List.mem_map, List.mem_range]; exact ⟨j, by omega, rfl⟩, by simp⟩
  rw [sRest, plL_eq k, h]
  have : sSureN r (cntN []) = true := hs
  simp [this]
theorem give_all {r : Rm} (k : RmOk r) (hs : sSureN r zL = true) : ∀ (m i : Nat), i + m = r.ba.length → (giveF r m (upto i) i).isSome = true
  | 0, i, h => by
    have hp : sRest r (upto i) = true := by rw [show i = r.ba.length by omega]; exact rest_all k hs
    simp [giveF, hp]
  | m + 1, i, h => by
    have ih := give_all k hs m (i + 1) (by omega)
    rw [giveF, Option.isSome_iff_exists]
    obtain ⟨l, hl⟩ := Option.isSome_iff_exists.1 ih
    have e : upto (i + 1) = upto i ++ [(i : Int)] := by simp [upto, List.range_succ]
    refine ⟨l, findSome_some (i := 0) (by omega) ?_ fun j hj => by omega⟩
    rw [← hl, e]
    simp
def giveAll (r : Rm) : Option (List Int) := (rangeI 0 r.ba.length).findSome? fun many => giveF r many.toNat [] 0
theorem giveAll_some {r : Rm} (k : RmOk r) (hs : sSureN r zL = true) : ∃ l, giveAll r = some l := by
  have h := give_all k hs r.ba.length 0 (by omega)
  cases hc : giveAll r with
  | some l => exact ⟨l, rfl⟩
  | none =>
    exfalso
    rw [giveAll, List.findSome?_eq_none_iff] at hc
    have := hc (r.ba.length : Int) (by simp only [rangeI, List.mem_map, List.mem_range]; exact ⟨r.ba.length, by omega, by omega⟩)
    rw [Int.toNat_natCast] at this
    have e : upto 0 = [] := rfl
    rw [e] at h
    simp [this] at h
def sGiveR (r : Rm) : List Int × Int := if sCheckR r = 0 then (if sSureN r zL = true then ((giveAll r).getD [], 0) else ([], 10)) else ([], sCheckR r)
set_option maxHeartbeats 2000000 in
theorem c_bGive (r : Rm) (hr : r.wf) : Pu Tryz.prog (.fn 39 [] []) [.agg r.cs] (.tup [vI (sGiveR r).1, vi (sGiveR r).2]) := by
  refine Ev.fn Tryz.func39 rfl rfl (Fn.body tabOk Tryz.func39 rfl (Nat.le_of_ble_eq_true rfl) (Ks.ok (fz := (fzn [4, 6, 7])) (cl := (cln [(9, .ex)])) tabOk mixed ?_))
  generalize hQ : FnPost tt Tryz.f39 _ _ = Q
  simp only [Tryz.f39, List.nil_append, List.append_nil, argsEnv]
  simp only [gos, eq_self, Nat.reduceLT, Nat.reduceEqDiff, reduceCtorEq, reduceIte, ↓reduceIte, vgo, vout, vguard, callOf, vop, ev, cv, newRow]
  refine W.scope tabOk mixed ?_
  simp only [gos, eq_self, Nat.reduceLT, Nat.reduceEqDiff, reduceCtorEq, reduceIte, ↓reduceIte, tt, vgo, vout, vguard, callOf, vop, ev, vload, rms]
  by_cases h0 : sCheckR r = 0
  case neg =>
    refine Cl.pu (c_baskN r hr h0) ?_ rfl (by simp only [V.into, intoL, Bool.and_true, rm_into])
    have hb : (sCheckR r != 0) = true := by simp [h0]
    simp only [gos, eq_self, Nat.reduceLT, Nat.reduceEqDiff, Nat.reduceAdd, reduceCtorEq, reduceIte, ↓reduceIte, tt, vgo, vout, vguard, callOf, vop, ev, cv, vbin, vint, isShift, isNilConst, newRow, hb]
    subst hQ
    have hr2 : sGiveR r = ([], sCheckR r) := by rw [sGiveR, if_neg h0]
    rw [hr2]
    exact FnPost.plain trivial (v := .tup [.sl0, vi (sCheckR r)]) (fun h2 e => by rfl) (WkV.trans (WkV.less (v' := .tup [vI [], vi (sCheckR r)]) (ImpV.tup ⟨sl0_vI, ImpV.refl _, trivial⟩)) (WkV.pure (by simp only [V.into, intoL, vI_into, Bool.and_true]))) ⟨rfl, rfl⟩
  refine Cl.newN (n_bask r hr h0) rfl ?_
  have k := rmOk_of h0
  have hl := k.A.k0.last
  have hba := k.len
  have z0 : ((0 : Int) != 0) = false := rfl
  simp only [gos, eq_self, Nat.reduceLT, Nat.reduceEqDiff, Nat.reduceAdd, reduceCtorEq, reduceIte, ↓reduceIte, tt, vgo, vout, vguard, callOf, vop, ev, cv, vbin, vint, isShift, isNilConst, vload, newRow, vfill]
  have hnz : NOk zL := ⟨rfl, fun j => by rw [zL_gi]; omega⟩
  refine Cl.mk (c_bsureK r k [] (BMemo.nil r) 90 (by decide) zL hnz _ rfl) ?_
  rintro v h' ⟨rfl, rfl⟩
  have HM : BMemo r (suMM r [] zL) := (BMemo.nil r).su rfl
  generalize hMM : suMM r [] zL = M0 at HM ⊢
  cases hs : sSureN r zL with
  | false =>
    simp only [gos, eq_self, Nat.reduceLT, Nat.reduceEqDiff, reduceIte, ↓reduceIte, vgo, vout, vguard, callOf, vop, ev, cv]
    subst hQ
    have hr2 : sGiveR r = ([], 10) := by rw [sGiveR, if_pos h0, if_neg (by simp [hs])]
    rw [hr2]
    exact FnPost.plain trivial (v := .tup [.sl0, vi 10]) (fun h2 e => by rfl) (WkV.trans (WkV.less (v' := .tup [vI [], vi 10]) (ImpV.tup ⟨sl0_vI, ImpV.refl _, trivial⟩)) (WkV.pure (by simp only [V.into, intoL, vI_into, Bool.and_true]))) ⟨rfl, rfl⟩
  | true =>
    simp only [gos, eq_self, Nat.reduceLT, Nat.reduceEqDiff, Nat.reduceAdd, reduceCtorEq, reduceIte, ↓reduceIte, tt, vgo, vout, vguard, callOf, vop, ev, newRow]
    refine Wr.at tabOk 0 ?_
    simp only [gos]
    refine Wa.mk (ρ2 := [(7, .ptr 47 0 0), (6, .ptr 46 0 0), (1, .rop r.cs)]) (h2 := gvH r M0 none) (Wk.trans (Wk.env (ρ' := [(7, .ptr 7 0 0), (6, .ptr 6 0 0), (1, .rop r.cs)]) (by simp [subE, Env.get])) (Wk.trans (Wk.ren 4 44 rfl rfl) (Wk.trans (Wk.ren 6 46 rfl rfl) (Wk.trans (Wk.ren 7 47 rfl rfl) (Wk.heap (fun q => ?_) ?_))))) ?_
    · simp only [renH, V.ren, renL, Blk.ren, sw, bw_ren, rm_ren, memoI_ren, gvH, giveV, oV]
      simp only [Heap.get]
      by_cases h1 : q = 90
      · subst h1; rfl
      · by_cases h2 : q = 46
        · subst h2; rfl
        · by_cases h3 : q = 44
          · subst h3; rfl
          · by_cases h4 : q = 47
            · subst h4; rfl
            · simp [h1, h2, h3, h4]
    · simp only [renE, V.ren, sw, rm_ren]
      simp [subE, Env.get]
    simp only [gvH]
    simp only [gos, eq_self, Nat.reduceLT, Nat.reduceEqDiff, reduceCtorEq, reduceIte, ↓reduceIte, tt, vgo, vout, vguard, callOf, vop, ev, cv, vbin, vint, isShift, isNilConst, vload, vlen, rms, vR, i64_in (show -9223372036854775808 ≤ (r.ba.length : Int) + 1 by omega) (show (r.ba.length : Int) + 1 ≤ 9223372036854775807 by omega)]
    refine W.loop tabOk mixed (fun a : Nat × Option (List Int) × MemoI => ([(1, .rop r.cs), (6, .ptr 46 0 0), (7, .ptr 47 0 0), (25, vi ((r.ba.length : Int) + 1)), (26, vi a.1)], gvH r a.2.2 a.2.1)) (fun a => r.ba.length + 1 - a.1)
      (fun a => BMemo r a.2.2 ∧ a.1 ≤ r.ba.length + 1 ∧ ∀ j : Nat, j < a.1 → giveF r j [] 0 = none) (0, none, M0) ⟨HM, by simp, fun j hj => by simp at hj⟩ (Wk.env (by simp [subE, Env.get])) ?_
    rintro ⟨i, f1, M1⟩ ⟨HM1, hi, hno⟩
    simp only at hi hno HM1 ⊢
    by_cases hil : (i : Int) < (r.ba.length : Int) + 1
    · simp only [gos, eq_self, Nat.reduceLT, Nat.reduceEqDiff, reduceCtorEq, reduceIte, ↓reduceIte, tt, vgo, vout, vguard, callOf, vop, ev, cv, vbin, vint, isShift, isNilConst, vload, hil, gvH]
      refine Cl.less (cs := [vI [], vi 0, vi i]) (ImpV.refl _) ⟨sl0_vI, ImpV.refl _, ImpV.refl _, trivial⟩ (Cl.mk (c_give1 r k i [] 0 f1 M1 HM1 (by simp; omega) (by omega)) ?_)
      rintro v h' ⟨f2, M2, HM2, hf2, rfl, rfl⟩
      cases hr3 : giveF r i [] 0 with
      | some l =>
        simp only [gos, eq_self, Nat.reduceLT, Nat.reduceEqDiff, reduceCtorEq, reduceIte, ↓reduceIte, tt, vgo, vout, vguard, callOf, vop, ev, cv, vload, Option.isSome_some, hf2 l hr3, gvH, oV]
        subst hQ
        have hrr : giveAll r = some l := by
          rw [giveAll]
          have e0 : ∀ n : Nat, ((0 : Int) + n).toNat = n := fun n => by omega
          exact findSome_some (i := i) (by omega) (by rw [e0]; exact hr3) (fun j hj => by rw [e0]; exact hno j hj)
        have hrs : sGiveR r = (l, 0) := by rw [sGiveR, if_pos h0, if_pos hs, hrr]; rfl
        rw [hrs]
        exact FnPost.plain trivial (v := .tup [vI l, vi 0]) (fun h2 e => by rfl) (WkV.pure (by simp only [V.into, intoL, vI_into, Bool.and_true])) ⟨rfl, rfl⟩
      | none =>
        simp only [gos, eq_self, Nat.reduceLT, Nat.reduceEqDiff, reduceIte, ↓reduceIte, vgo, vout, vguard, callOf, vop, ev, cv, vbin, vint, isShift, isNilConst, Option.isSome_none]
        refine Nx.mk (i + 1, f2, M2) (show r.ba.length + 1 - (i + 1) < r.ba.length + 1 - i by omega) ⟨HM2, by simp only; omega, fun j hj => ?_⟩ (Wk.env ?_)
        · rcases Nat.lt_succ_iff_lt_or_eq.1 hj with h | rfl
          · exact hno j h
          · exact hr3
        · simp [subE, Env.get, i64_succ (show (i : Int) < 9223372036854775807 by omega)]
    · exfalso
      obtain ⟨l, hl⟩ := giveAll_some k hs
      have : giveAll r = none := by
        rw [giveAll]
        refine findSome_none fun j hj => ?_
        rw [show ((0 : Int) + (j : Int)).toNat = j by omega]
        exact hno j (by omega)
      rw [hl] at this
      cases this
end Go.Vm

set_option linter.unusedVariables false
set_option linter.unusedSimpArgs false
set_option maxRecDepth 100000
namespace Go.Vm
open Go.Proofs
/-! ### Most: the most baths, hour by hour -/
def sumN (n : List Int) (j : Nat) : Int := ((n.take j).foldl (· + ·) 0)
theorem sumN_succ {n : List Int} {j : Nat} (h : (j : Int) < n.length) : sumN n (j + 1) = sumN n j + gi n j := by
  rw [sumN, gi_take h, List.foldl_append]; rfl
theorem sumN_le {n : List Int} (hn : NOk n) : ∀ j : Nat, j ≤ 5 → 0 ≤ sumN n j ∧ sumN n j ≤ 1000 * j
  | 0, _ => by simp [sumN]
  | j + 1, h => by
    have ih := sumN_le hn j (by omega)
    have := hn.le j
    rw [sumN_succ (by rw [hn.len]; omega)]
    omega
theorem c_bsum (n : List Int) (hn : NOk n) : Pu Tryz.prog (.fn 103 [] []) [.agg (cI n)] (vi (sumN n 5)) := by
  have hn5 : (cI n).length = 5 := by rw [cI_len, hn.len]
  have ht5 : List.take 5 (cI n) = cI n := List.take_of_length_le (by omega)
  have hone := cI_one n
  refine Ev.fn Tryz.func103 rfl rfl (Fn.body tabOk Tryz.func103 rfl (Nat.le_of_ble_eq_true rfl) (Ks.ok (fz := (fzn [])) (cl := (cln [])) tabOk mixed ?_))
  generalize hQ : FnPost tt Tryz.f103 _ _ = Q
  simp only [Tryz.f103, List.nil_append, List.append_nil, argsEnv]
  simp only [gos, eq_self, Nat.reduceLT, Nat.reduceEqDiff, reduceCtorEq, reduceIte, ↓reduceIte, tt, vgo, vout, vguard, callOf, vop, ev, cv, vload, newRow, hn5, ht5]
  refine W.loop tabOk mixed (fun j : Nat => ([(2, vi (sumN n j)), (5, .agg (cI n)), (6, vi j)], [])) (fun j => 5 - j) (fun j => j ≤ 5) 0 (by omega) (Wk.env (by simp [subE, Env.get, sumN])) ?_
  intro j hj
  by_cases hil : (j : Int) < 5
  · have hx := cI_at (Int.natCast_nonneg j) (show (j : Int) < n.length by rw [hn.len]; omega)
    rw [Int.toNat_natCast, Nat.mul_one] at hx
    have hx5 : (j : Int) < ((5 : Nat) : Int) := by omega
    have h1 := sumN_le hn j hj
    have h2 := hn.le j
    have hw := i64_in (show -9223372036854775808 ≤ sumN n j + gi n j by omega) (show sumN n j + gi n j ≤ 9223372036854775807 by omega)
    simp only [gos, eq_self, Nat.reduceLT, Nat.reduceEqDiff, reduceIte, ↓reduceIte, tt, vgo, vout, vguard, callOf, vop, ev, cv, vbin, vint, isShift, isNilConst, hil, hx5, hx, hw, Int.natCast_nonneg, Int.toNat_natCast, Nat.mul_one]
    refine Nx.mk (j + 1) (show 5 - (j + 1) < 5 - j by omega) (show j + 1 ≤ 5 by omega) (Wk.env ?_)
    rw [sumN_succ (by rw [hn.len]; omega)]
    simp [subE, Env.get, i64_succ (show (j : Int) < 9223372036854775807 by omega)]
  · have : j = 5 := by omega
    subst this
    simp only [gos, eq_self, Nat.reduceLT, Nat.reduceEqDiff, reduceIte, ↓reduceIte, vgo, vout, vguard, callOf, vop, ev, cv, vbin, vint, isShift, isNilConst, hil]
    subst hQ
    exact FnPost.plain trivial (fun h2 e => by first | rfl | (simp only [Tryz.f103, vres, vresL, vres1, e _, gos, if_true, if_false, ne_eq, eq_self, Nat.reduceLT, Nat.reduceEqDiff, Nat.reduceAdd, Nat.reduceMul, Nat.reduceLeDiff, Nat.reduceBEq, reduceCtorEq, reduceIte, Array.toList, ↓reduceIte, tt, vgo, vout, vgoD, voutD, vclsOk, vids, mayWrite, V.ids, V.mids, vguard, callOf, vop, ev, cv, vbin, vint, isShift, isNilConst, vnil, isNilSlice, vload, vlen, newRow, vfill, vslice, entOf, vappend, srcOf, vcopy, vlookup, vupdate, mapOk, keyOf, intsOf, clsAt]; try rfl)) (WkV.pure (by simp only [V.into])) ⟨rfl, rfl⟩
theorem gi_setN {l : List Int} {i : Nat} (x : Int) (h : i < l.length) (j : Nat) : gi (l.set i x) j = if i = j then x else gi l j := by
  by_cases e : i = j
  · subst e; rw [if_pos rfl, gi_set_self x h]
  · rw [if_neg e, gi_set_ne x e]
/-- All assignments that are sure, hour by hour; the first that is not ends a row. -/
def leavesM (r : Rm) : Nat → Nat → List Int → List (List Int)
  | 0, _, n => [n]
  | m + 1, h, n => ((rangeI 0 r.pl).takeWhile fun v => sSureN r (n.set h v)).flatMap fun v => leavesM r m (h + 1) (n.set h v)
def bestM (b : List Int) (l : List (List Int)) : List Int := l.foldl (fun b n => if sumN b 5 < sumN n 5 then n else b) b
def mostV (r : Rm) : V := .fn 101 [] [.rop r.cs, .ptr 46 0 0, .ptr 44 0 0, .ptr 48 0 0]
def mgH (r : Rm) (M : MemoI) (b : List Int) : Heap := [(90, ⟨0, .map (memoI M)⟩), (46, ⟨0, .row (cI b)⟩), (44, ⟨0, .row [.rop (bw r (.mp 90))]⟩), (48, ⟨0, .row [mostV r]⟩)]
theorem mgH_closed (r : Rm) (M : MemoI) (b : List Int) : intoH (domP (mgH r M b)) (mgH r M b) = true := by
  simp only [mgH, intoH, Blk.into, V.into, intoL, cI_into, Bool.true_and, Bool.and_true, memoI_into, mostV, rm_into]
  rw [bw_into _ _ _ (by simp [V.into, domP, Heap.get])]
  rfl
theorem mgH_dom (r : Rm) (M M' : MemoI) (b b' : List Int) (i : Nat) (h : domP (mgH r M b) i = true) : domP (mgH r M' b') i = true := by
  simp only [domP, mgH, Heap.get] at h ⊢
  repeat' split
  all_goals first | rfl | simp_all
theorem mg_app {r : Rm} {M : MemoI} {b : List Int} {e0 e : Ent} {i : Nat} (he : (mgH r M b).get i = some e) : Heap.get ((90, ⟨0, .map (memoI M)⟩) :: (46, ⟨0, .row (cI b)⟩) :: (44, ⟨0, .row [.rop (bw r (.mp 90))]⟩) :: (48, ⟨0, .row [mostV r]⟩) :: [(6, e0)]) i = some e := by
  show Heap.get (mgH r M b ++ [(6, e0)]) i = some e
  rw [Heap.get_append, he]; rfl
theorem takeWhile_take {p : Int → Bool} : ∀ {l : List Int} {j : Nat}, j ≤ l.length → (∀ i : Nat, i < j → p (gi l i) = true) → (j = l.length ∨ p (gi l j) = false) → l.takeWhile p = l.take j
  | [], j, hj, _, _ => by simp
  | x :: l, 0, hj, _, h => by
    rcases h with h | h
    · simp at h
    · have : p x = false := h
      simp [List.takeWhile, this]
  | x :: l, j + 1, hj, h1, h2 => by
    have h0 : p x = true := h1 0 (by omega)
    rw [List.takeWhile_cons_of_pos h0, List.take_succ_cons]
    congr 1
    refine takeWhile_take (by simpa using hj) (fun i hi => h1 (i + 1) (by omega)) ?_
    rcases h2 with h2 | h2
    · left; simpa using h2
    · right; exact h2
theorem leavesM_nok {r : Rm} (k : RmOk r) : ∀ (m h : Nat) (n : List Int), NOk n → h + m ≤ 5 → ∀ x ∈ leavesM r m h n, NOk x
  | 0, h, n, hn, _, x, hx => by
    simp only [leavesM, List.mem_singleton] at hx
    subst hx; exact hn
  | m + 1, h, n, hn, hh, x, hx => by
    simp only [leavesM, List.mem_flatMap] at hx
    obtain ⟨v, hv, hx⟩ := hx
    have hv1 := rangeI_mem ((List.takeWhile_prefix _).subset hv)
    have hp := k.pl
    refine leavesM_nok k m (h + 1) _ ⟨by simp [hn.len], fun j => ?_⟩ (by omega) x hx
    have := hn.le j
    rw [gi_setN _ (by rw [hn.len]; omega)]
    split <;> omega
theorem nok_set {n : List Int} (hn : NOk n) {h : Nat} (hh : h < 5) {v : Int} (hv : 0 ≤ v ∧ v ≤ 1000) : NOk (n.set h v) := ⟨by simp [hn.len], fun j => by
  have := hn.le j
  rw [gi_setN _ (by rw [hn.len]; omega)]
  split <;> omega⟩
theorem bestM_nok {l : List (List Int)} : ∀ {b : List Int}, NOk b → (∀ x ∈ l, NOk x) → NOk (bestM b l) := by
  induction l with
  | nil => intro b hb _; exact hb
  | cons x l ih =>
    intro b hb h
    rw [bestM, List.foldl_cons]
    refine ih ?_ fun y hy => h y (by simp [hy])
    split
    · exact h x (by simp)
    · exact hb
theorem bestM_append (b : List Int) (l m : List (List Int)) : bestM b (l ++ m) = bestM (bestM b l) m := List.foldl_append
theorem mostK {P : Program} {r : Rm} {n : List Int} {h : Int} {M : MemoI} {b b' : List Int} (q : Nat) (hq : q ≠ 90 ∧ q ≠ 46 ∧ q ≠ 44 ∧ q ≠ 48) (e : Ent) (c : Ev P (mostV r) [.agg (cI n), vi h] (mgH r M b) fun v h' => ∃ M', BMemo r M' ∧ h' = mgH r M' b') :
    Ev P (mostV r) [.agg (cI n), vi h] ((90, ⟨0, .map (memoI M)⟩) :: (46, ⟨0, .row (cI b)⟩) :: (44, ⟨0, .row [.rop (bw r (.mp 90))]⟩) :: (48, ⟨0, .row [mostV r]⟩) :: [(q, e)]) fun v h' => ∃ M', BMemo r M' ∧ h' = (90, ⟨0, .map (memoI M')⟩) :: (46, ⟨0, .row (cI b')⟩) :: (44, ⟨0, .row [.rop (bw r (.mp 90))]⟩) :: (48, ⟨0, .row [mostV r]⟩) :: [(q, e)] := by
  have hno : ∀ (M : MemoI) (b : List Int) (i : Nat) (e1 : Ent), (mgH r M b).get i = some e1 → Heap.get [(q, e)] i = none := fun M b i e1 he => by
    simp only [Heap.get]
    rw [if_neg]
    rintro rfl
    simp [mgH, Heap.get, hq] at he
  refine (c.frame [(q, e)] (hno M b) ?_ ?_ (mgH_closed r M b) ?_).mono ?_
  · simp only [mostV, V.into, intoL, Bool.true_and, Bool.and_true, rm_into, mgH, domP, Heap.get]; rfl
  · simp only [V.into, intoL, cI_into, Bool.and_true]
  · rintro v h' ⟨M', _, rfl⟩
    exact hno _ _
  · rintro v h'' ⟨h', ⟨M', HM', rfl⟩, rfl⟩
    exact ⟨M', HM', rfl⟩
set_option maxHeartbeats 4000000 in
theorem c_most1 (r : Rm) (k : RmOk r) : ∀ (m h : Nat) (n b : List Int) (M : MemoI), BMemo r M → NOk n → NOk b → (h : Int) + m = r.cu.last + 1 →
    Ev Tryz.prog (mostV r) [.agg (cI n), vi h] (mgH r M b) fun v h' => ∃ M', BMemo r M' ∧ h' = mgH r M' (bestM b (leavesM r m h n))
  | 0, h, n, b, M, HM, hn, hb, hh => by
    have hl := k.A.k0.last
    have hn5 : (cI n).length = 5 := by rw [cI_len, hn.len]
    have ht5 : List.take 5 (cI n) = cI n := List.take_of_length_le (by omega)
    have hd5 : List.drop 5 (cI n) = [] := List.drop_eq_nil_of_le (by omega)
    have hb5 : (cI b).length = 5 := by rw [cI_len, hb.len]
    have htb5 : List.take 5 (cI b) = cI b := List.take_of_length_le (by omega)
    have hdb5 : List.drop 5 (cI b) = [] := List.drop_eq_nil_of_le (by omega)
    have hone := cI_one n
    have honeb := cI_one b
    unfold mostV
    refine Ev.fn Tryz.func101 rfl rfl (Fn.body tabOk Tryz.func101 rfl (Nat.le_of_ble_eq_true rfl) (Ks.ok (fz := (fzn [6])) (cl := (cln [(2, .d (tgL [(6, 1), (46, 2)]) [some ([1], []), some ([2], []), cP, cP, some ([1], []), cP, some ([2], []), cP, cP, cP])])) tabOk mixed ?_))
    generalize hQ : FnPost tt Tryz.f101 _ _ = Q
    simp only [Tryz.f101, List.nil_append, List.cons_append, argsEnv, Nat.reduceAdd]
    simp only [gos, eq_self, Nat.reduceLT, Nat.reduceEqDiff, reduceCtorEq, reduceIte, ↓reduceIte, tt, vgo, vout, vguard, callOf, vop, ev, vload, newRow, mgH, rms, hone]
    refine Cl.pu (c_hours r (by constructor <;> omega)) ?_ rfl (by simp only [V.into, intoL, Bool.and_true, rm_into])
    have hd : decide ((h : Int) = r.cu.last + 1) = true := by rw [decide_eq_true_eq]; omega
    simp only [gos, eq_self, Nat.reduceLT, Nat.reduceEqDiff, reduceIte, ↓reduceIte, vgo, vout, vguard, callOf, vop, ev, vbin, vint, isShift, isNilConst, hd]
    refine Wr.draw (by kernel_rfl) ?_
    have hnl := hn.len
    have hbl := hb.len
    simp only [gos, ne_eq, eq_self, Nat.reduceLT, Nat.reduceEqDiff, Nat.reduceAdd, reduceCtorEq, reduceIte, ↓reduceIte, tt, vgoD, voutD, vclsOk, vids, mayWrite, V.ids, vguard, callOf, vop, ev, vbin, isNilConst, vload, clsAt, hn5, ht5, hb5, htb5, intsOf_cI, hnl, hbl]
    have hout : bestM b (leavesM r 0 h n) = if sumN b 5 < sumN n 5 then n else b := rfl
    cases hnb : (n != b) with
    | false =>
      have e : n = b := by simpa using hnb
      subst e
      simp only [gos, eq_self, Nat.reduceLT, Nat.reduceEqDiff, reduceIte, ↓reduceIte, vgoD, voutD, vclsOk, vids, mayWrite, vguard, callOf, vop, ev, cv]
      subst hQ
      rw [hout, if_neg (by omega)]
      refine FnPost.plain trivial (v := .tup []) (fun h2 e => by rfl) (WkV.forgetF (fun i e he => mg_app he) (fun i hp => mgH_dom _ _ _ _ _ _ hp) rfl (mgH_closed r M n)) ⟨M, HM, rfl⟩
    | true =>
      simp only [gos, eq_self, Nat.reduceLT, Nat.reduceEqDiff, reduceIte, ↓reduceIte, vgoD, voutD, vguard, callOf, ev]
      refine CD.pu (c_bsum n hn) ?_ rfl (by simp only [V.into, intoL, cI_into, Bool.and_true])
      simp only [gos, eq_self, Nat.reduceLT, Nat.reduceEqDiff, reduceCtorEq, reduceIte, ↓reduceIte, tt, vgoD, voutD, vclsOk, vids, mayWrite, V.ids, vguard, callOf, vop, ev, vload, hb5, htb5]
      refine CD.pu (c_bsum b hb) ?_ rfl (by simp only [V.into, intoL, cI_into, Bool.and_true])
      by_cases hlt : sumN b 5 < sumN n 5
      · simp only [gos, eq_self, Nat.reduceLT, Nat.reduceEqDiff, Nat.reduceAdd, reduceCtorEq, reduceIte, ↓reduceIte, tt, vgo, vout, vgoD, voutD, vclsOk, vids, mayWrite, vguard, callOf, vop, ev, vbin, vint, isShift, isNilConst, vload, hlt, hn5, ht5, hb5, hdb5, hone]
        subst hQ
        rw [hout, if_pos hlt]
        refine FnPost.plain trivial (v := .tup []) (fun h2 e => by rfl) (WkV.forgetF (fun i e he => mg_app he) (fun i hp => mgH_dom _ _ _ _ _ _ hp) rfl (mgH_closed r M n)) ⟨M, HM, rfl⟩
      · simp only [gos, eq_self, Nat.reduceLT, Nat.reduceEqDiff, reduceIte, ↓reduceIte, vgoD, voutD, vclsOk, vids, mayWrite, vguard, callOf, vop, ev, vbin, vint, isShift, isNilConst, hlt]
        subst hQ
        rw [hout, if_neg hlt]
        refine FnPost.plain trivial (v := .tup []) (fun h2 e => by rfl) (WkV.forgetF (fun i e he => mg_app he) (fun i hp => mgH_dom _ _ _ _ _ _ hp) rfl (mgH_closed r M b)) ⟨M, HM, rfl⟩
  | m + 1, h, n, b, M, HM, hn, hb, hh => by
    have hl := k.A.k0.last
    have hpl := k.pl
    have hn5 : (cI n).length = 5 := by rw [cI_len, hn.len]
    have ht5 : List.take 5 (cI n) = cI n := List.take_of_length_le (by omega)
    have hd5 : List.drop 5 (cI n) = [] := List.drop_eq_nil_of_le (by omega)
    have hone := cI_one n
    unfold mostV
    refine Ev.fn Tryz.func101 rfl rfl (Fn.body tabOk Tryz.func101 rfl (Nat.le_of_ble_eq_true rfl) (Ks.ok (fz := (fzn [6])) (cl := (cln [])) tabOk mixed ?_))
    generalize hQ : FnPost tt Tryz.f101 _ _ = Q
    simp only [Tryz.f101, List.nil_append, List.cons_append, argsEnv, Nat.reduceAdd]
    simp only [gos, eq_self, Nat.reduceLT, Nat.reduceEqDiff, reduceCtorEq, reduceIte, ↓reduceIte, tt, vgo, vout, vguard, callOf, vop, ev, vload, newRow, mgH, rms, hone]
    refine Cl.pu (c_hours r (by constructor <;> omega)) ?_ rfl (by simp only [V.into, intoL, Bool.and_true, rm_into])
    have hd : decide ((h : Int) = r.cu.last + 1) = false := by rw [decide_eq_false_iff_not]; omega
    have h11 : List.drop 12 r.cs = [vi r.pl, vR r.ba] := rfl
    simp only [gos, eq_self, Nat.reduceLT, Nat.reduceEqDiff, Nat.reduceAdd, Nat.reduceMul, Nat.reduceLeDiff, reduceCtorEq, reduceIte, ↓reduceIte, tt, vgo, vout, vguard, callOf, vop, ev, cv, vbin, vint, isShift, isNilConst, vload, vfill, hd, rms]
    refine Cl.pu (c_bmin2 r.pl 5) ?_
    have hmin : min r.pl 5 = r.pl := by omega
    have hw1 : IntKind.i64.wrap (r.pl + 1) = r.pl + 1 := i64_in (by omega) (by omega)
    simp only [gos, eq_self, Nat.reduceLT, reduceIte, ↓reduceIte, vgo, vout, vguard, callOf, vop, ev, cv, vbin, vint, isShift, isNilConst, hmin, hw1]
    let R := rangeI 0 r.pl
    have hR : R.length = (r.pl + 1).toNat := by show (rangeI 0 r.pl).length = _; rw [rangeI_len]; congr 1; omega
    have hgR : ∀ v : Nat, v < R.length → gi R (v : Int) = v := fun v hv => by
      have h1 : R[v]? = some (v : Int) := by show (rangeI 0 r.pl)[v]? = _; rw [rangeI_get (by omega)]; congr 1; omega
      rw [gi_get (l := R) (by omega)] at h1
      simpa using h1
    let f : Int → List (List Int) := fun v => leavesM r m (h + 1) (n.set h v)
    refine W.loop tabOk mixed (fun a : Nat × List Int × MemoI × List Int => ([(1, vi h), (2, .rop r.cs), (3, .ptr 46 0 0), (4, .ptr 44 0 0), (5, .ptr 48 0 0), (6, .ptr 6 0 0), (28, vi (r.pl + 1)), (29, vi a.1)], (90, ⟨0, .map (memoI a.2.2.1)⟩) :: (46, ⟨0, .row (cI a.2.2.2)⟩) :: (44, ⟨0, .row [.rop (bw r (.mp 90))]⟩) :: (48, ⟨0, .row [mostV r]⟩) :: [(6, ⟨0, .row (cI a.2.1)⟩)])) (fun a => R.length - a.1)
      (fun a => a.1 ≤ R.length ∧ NOk a.2.1 ∧ (∀ x, a.2.1.set h x = n.set h x) ∧ BMemo r a.2.2.1 ∧ a.2.2.2 = bestM b ((R.take a.1).flatMap f) ∧ ∀ v : Nat, v < a.1 → sSureN r (n.set h (v : Int)) = true) (0, n, M, b) ⟨by simp, hn, fun _ => rfl, HM, rfl, fun v hv => by simp at hv⟩ (Wk.env (by simp [subE, Env.get])) ?_
    rintro ⟨j, cur, M1, b1⟩ ⟨hj, hcur, hset, HM1, hb1, hsu⟩
    simp only at hj hcur hset HM1 hb1 hsu ⊢
    by_cases hjl : (j : Int) < r.pl + 1
    · have hc5 : (cI cur).length = 5 := by rw [cI_len, hcur.len]
      have hh5 : (h : Int) < ((5 : Nat) : Int) := by omega
      have hh6 : h + 1 ≤ 5 := by omega
      have hst : List.take h (cI cur) ++ [V.int IntKind.i64 (j : Int)] ++ List.drop (h + 1) (cI cur) = cI (n.set h (j : Int)) := by
        rw [← hset]; exact cI_set _ (by rw [hcur.len]; omega)
      have hnok : NOk (n.set h (j : Int)) := nok_set hn (by omega) (by omega)
      have hs5 : (cI (n.set h (j : Int))).length = 5 := by rw [cI_len, hnok.len]
      have hst5 : List.take 5 (cI (n.set h (j : Int))) = cI (n.set h (j : Int)) := List.take_of_length_le (by omega)
      simp only [gos, eq_self, Nat.reduceLT, Nat.reduceEqDiff, reduceCtorEq, reduceIte, ↓reduceIte, tt, vgo, vout, vguard, callOf, vop, ev, vbin, vint, isShift, isNilConst, vload, hjl, hh5, hh6, hc5, hst, Int.natCast_nonneg, Int.toNat_natCast, Nat.mul_one, Nat.zero_add, hs5, hst5]
      refine Cl.mk (c_bsureK r k M1 HM1 90 (by decide) (n.set h (j : Int)) hnok _ rfl) ?_
      rintro v h' ⟨rfl, rfl⟩
      have HM2 : BMemo r (suMM r M1 (n.set h (j : Int))) := HM1.su hnok.len
      generalize suMM r M1 (n.set h (j : Int)) = M2 at HM2 ⊢
      cases hs : sSureN r (n.set h (j : Int)) with
      | false =>
        simp only [gos, eq_self, Nat.reduceLT, reduceIte, ↓reduceIte, vgo, vout, vguard, callOf, vop, ev]
        subst hQ
        have htw : leavesM r (m + 1) h n = (R.take j).flatMap f := by
          have h1 : R.takeWhile (fun v => sSureN r (n.set h v)) = R.take j := takeWhile_take hj (fun v hv => by rw [hgR v (by omega)]; exact hsu v hv) (.inr (by rw [hgR j (by omega)]; exact hs))
          rw [leavesM, h1]
        rw [htw, ← hb1]
        exact FnPost.plain trivial (v := .tup []) (fun h2 e => by rfl) (WkV.forgetF (fun i e he => mg_app he) (fun i hp => mgH_dom _ _ _ _ _ _ hp) rfl (mgH_closed r M2 b1)) ⟨M2, HM2, rfl⟩
      | true =>
        have hb1n : NOk b1 := by
          rw [hb1]
          refine bestM_nok hb fun x hx => ?_
          simp only [List.mem_flatMap] at hx
          obtain ⟨v, hv, hx⟩ := hx
          have hv1 := rangeI_mem (List.mem_of_mem_take hv)
          exact leavesM_nok k m (h + 1) _ (nok_set hn (by omega) (by omega)) (by omega) x hx
        simp only [gos, eq_self, Nat.reduceLT, Nat.reduceEqDiff, reduceCtorEq, reduceIte, ↓reduceIte, tt, vgo, vout, vguard, callOf, vop, ev, cv, vbin, vint, isShift, isNilConst, vload, hs5, hst5, i64_succ (show (h : Int) < 9223372036854775807 by omega)]
        refine Cl.mk (mostK 6 (by decide) _ (c_most1 r k m (h + 1) (n.set h (j : Int)) b1 M2 HM2 hnok hb1n (by omega))) ?_
        rintro v h' ⟨M3, HM3, rfl⟩
        simp only [gos, eq_self, Nat.reduceLT, Nat.reduceEqDiff, reduceIte, ↓reduceIte, vgo, vout, vguard, callOf, vop, ev, cv, vbin, vint, isShift, isNilConst, i64_succ (show (j : Int) < 9223372036854775807 by omega)]
        refine Nx.mk (j + 1, n.set h (j : Int), M3, bestM b1 (leavesM r m (h + 1) (n.set h (j : Int)))) (show R.length - (j + 1) < R.length - j by omega) ⟨by simp only; omega, hnok, fun x => by simp only; rw [List.set_set], HM3, ?_, fun v hv => ?_⟩ (Wk.env (by simp [subE, Env.get]))
        · simp only
          rw [List.take_add_one, show R[j]? = some (j : Int) from by show (rangeI 0 r.pl)[j]? = _; rw [rangeI_get (by omega)]; congr 1; omega, List.flatMap_append, bestM_append, ← hb1]
          simp [f]
        · rcases Nat.lt_succ_iff_lt_or_eq.1 hv with h1 | rfl
          · exact hsu v h1
          · exact hs
    · have hjR : j = R.length := by omega
      simp only [gos, eq_self, Nat.reduceLT, Nat.reduceEqDiff, reduceIte, ↓reduceIte, vgo, vout, vguard, callOf, vop, ev, vbin, vint, isShift, isNilConst, hjl]
      subst hQ
      have htw : leavesM r (m + 1) h n = (R.take j).flatMap f := by
        have h1 : R.takeWhile (fun v => sSureN r (n.set h v)) = R.take j := takeWhile_take hj (fun v hv => by rw [hgR v (by omega)]; exact hsu v hv) (.inl hjR)
        rw [leavesM, h1]
      rw [htw, ← hb1]
      exact FnPost.plain trivial (v := .tup []) (fun h2 e => by rfl) (WkV.forgetF (fun i e he => mg_app he) (fun i hp => mgH_dom _ _ _ _ _ _ hp) rfl (mgH_closed r M1 b1)) ⟨M1, HM1, rfl⟩
end Go.Vm

set_option linter.unusedVariables false
set_option linter.unusedSimpArgs false
set_option maxRecDepth 100000
namespace Go.Vm
open Go.Proofs
def mostN (r : Rm) : List Int := bestM zL (leavesM r (r.cu.last + 1).toNat 0 zL)
def sMostR (r : Rm) : List Int × Int := if sCheckR r = 0 then (if sSureN r zL = true then ((mostN r).take (r.cu.last + 1).toNat, 0) else ([], 10)) else ([], sCheckR r)
theorem cI_takeN (l : List Int) (k : Nat) : (cI l).take k = cI (l.take k) := by simp only [cI, List.map_take]
set_option maxHeartbeats 2000000 in
theorem c_bMost (r : Rm) (hr : r.wf) : Pu Tryz.prog (.fn 41 [] []) [.agg r.cs] (.tup [vI (sMostR r).1, vi (sMostR r).2]) := by
  refine Ev.fn Tryz.func41 rfl rfl (Fn.body tabOk Tryz.func41 rfl (Nat.le_of_ble_eq_true rfl) (Ks.ok (fz := (fzn [4, 6, 7, 8])) (cl := (cln [(9, .ex), (10, .ex)])) tabOk mixed ?_))
  generalize hQ : FnPost tt Tryz.f41 _ _ = Q
  simp only [Tryz.f41, List.nil_append, List.append_nil, argsEnv]
  simp only [gos, eq_self, Nat.reduceLT, Nat.reduceEqDiff, reduceCtorEq, reduceIte, ↓reduceIte, tt, vgo, vout, vguard, callOf, vop, ev, cv, vload, newRow, rms]
  by_cases h0 : sCheckR r = 0
  case neg =>
    refine Cl.pu (c_baskN r hr h0) ?_ rfl (by simp only [V.into, intoL, Bool.and_true, rm_into])
    have hb : (sCheckR r != 0) = true := by simp [h0]
    simp only [gos, eq_self, Nat.reduceLT, Nat.reduceEqDiff, Nat.reduceAdd, reduceCtorEq, reduceIte, ↓reduceIte, tt, vgo, vout, vguard, callOf, vop, ev, cv, vbin, vint, isShift, isNilConst, newRow, hb]
    subst hQ
    have hr2 : sMostR r = ([], sCheckR r) := by rw [sMostR, if_neg h0]
    rw [hr2]
    exact FnPost.plain trivial (v := .tup [.sl0, vi (sCheckR r)]) (fun h2 e => by rfl) (WkV.trans (WkV.less (v' := .tup [vI [], vi (sCheckR r)]) (ImpV.tup ⟨sl0_vI, ImpV.refl _, trivial⟩)) (WkV.pure (by simp only [V.into, intoL, vI_into, Bool.and_true]))) ⟨rfl, rfl⟩
  refine Cl.newN (n_bask r hr h0) rfl ?_
  have k := rmOk_of h0
  have hl := k.A.k0.last
  have z0 : ((0 : Int) != 0) = false := rfl
  have hz5 : (cI zL).length = 5 := rfl
  simp only [gos, eq_self, Nat.reduceLT, Nat.reduceEqDiff, Nat.reduceAdd, reduceCtorEq, reduceIte, ↓reduceIte, tt, vgo, vout, vguard, callOf, vop, ev, cv, vbin, vint, isShift, isNilConst, vload, newRow]
  have hnz : NOk zL := ⟨rfl, fun j => by rw [zL_gi]; omega⟩
  refine Cl.mk (c_bsureK r k [] (BMemo.nil r) 90 (by decide) zL hnz _ rfl) ?_
  rintro v h' ⟨rfl, rfl⟩
  have HM : BMemo r (suMM r [] zL) := (BMemo.nil r).su rfl
  generalize hMM : suMM r [] zL = M0 at HM ⊢
  cases hs : sSureN r zL with
  | false =>
    simp only [gos, eq_self, Nat.reduceLT, Nat.reduceEqDiff, reduceIte, ↓reduceIte, vgo, vout, vguard, callOf, vop, ev, cv]
    subst hQ
    have hr2 : sMostR r = ([], 10) := by rw [sMostR, if_pos h0, if_neg (by simp [hs])]
    rw [hr2]
    exact FnPost.plain trivial (v := .tup [.sl0, vi 10]) (fun h2 e => by rfl) (WkV.trans (WkV.less (v' := .tup [vI [], vi 10]) (ImpV.tup ⟨sl0_vI, ImpV.refl _, trivial⟩)) (WkV.pure (by simp only [V.into, intoL, vI_into, Bool.and_true]))) ⟨rfl, rfl⟩
  | true =>
    simp only [gos, eq_self, Nat.reduceLT, Nat.reduceEqDiff, Nat.reduceAdd, reduceCtorEq, reduceIte, ↓reduceIte, tt, vgo, vout, vguard, callOf, vop, ev, newRow]
    refine Wr.at tabOk 0 ?_
    simp only [gos]
    refine Wa.mk (ρ2 := [(8, .ptr 48 0 0), (7, .ptr 47 0 0), (6, .ptr 46 0 0), (1, .rop r.cs)]) (h2 := (90, ⟨0, .map (memoI M0)⟩) :: (46, ⟨0, .row (cI zL)⟩) :: (44, ⟨0, .row [.rop (bw r (.mp 90))]⟩) :: (48, ⟨0, .row [mostV r]⟩) :: [(47, ⟨0, .row (cI zL)⟩)]) (Wk.trans (Wk.env (ρ' := [(8, .ptr 8 0 0), (7, .ptr 7 0 0), (6, .ptr 6 0 0), (1, .rop r.cs)]) (by simp [subE, Env.get])) (Wk.trans (Wk.ren 4 44 rfl rfl) (Wk.trans (Wk.ren 6 46 rfl rfl) (Wk.trans (Wk.ren 7 47 rfl rfl) (Wk.trans (Wk.ren 8 48 rfl rfl) (Wk.heap (fun q => ?_) ?_)))))) ?_
    · simp only [renH, V.ren, renL, Blk.ren, sw, bw_ren, rm_ren, memoI_ren, mostV]
      simp only [Heap.get]
      by_cases h1 : q = 90
      · subst h1; rfl
      · by_cases h2 : q = 46
        · subst h2; rfl
        · by_cases h3 : q = 44
          · subst h3; rfl
          · by_cases h4 : q = 48
            · subst h4; rfl
            · by_cases h5 : q = 47
              · subst h5; rfl
              · simp [h1, h2, h3, h4, h5]
    · simp only [renE, V.ren, sw, rm_ren]
      simp [subE, Env.get]
    have ht5 : List.take 5 (cI zL) = cI zL := rfl
    simp only [gos, eq_self, Nat.reduceLT, Nat.reduceEqDiff, reduceCtorEq, reduceIte, ↓reduceIte, tt, vgo, vout, vguard, callOf, vop, ev, cv, vload, hz5, ht5]
    refine Cl.mk (mostK 47 (by decide) _ (c_most1 r k (r.cu.last + 1).toNat 0 zL zL M0 HM hnz hnz (by omega))) ?_
    rintro v h' ⟨M1, HM1, rfl⟩
    have hbn : NOk (mostN r) := bestM_nok hnz fun x hx => leavesM_nok k _ 0 zL hnz (by omega) x hx
    rw [show bestM zL (leavesM r (r.cu.last + 1).toNat 0 zL) = mostN r from rfl]
    have hB5 : (cI (mostN r)).length = 5 := by rw [cI_len, hbn.len]
    simp only [gos, eq_self, Nat.reduceEqDiff, reduceIte, ↓reduceIte]
    refine Wr.at tabOk 0 ?_
    simp only [gos]
    refine Wa.mk (Wk.trans (Wk.forget (ρ' := [(6, .ptr 46 0 0), (1, .rop r.cs)]) (h' := [(46, ⟨0, .row (cI (mostN r))⟩)]) (by simp [subE, Env.get]) (by simp [subH, Heap.get]) (fun j hp => by simp [orD, domP, Heap.get] at hp) (by simp only [intoE, V.into, Bool.and_true, domP, Heap.get, rm_into]; try rfl) (by simp only [intoH, Blk.into, cI_into, Bool.and_true]; try rfl)) (Wk.freeze 46 rfl rfl (cI_into _ _) rfl)) ?_
    simp only [frzE, frzH, V.frz, rm_frz, gos, eq_self, Nat.reduceLT, Nat.reduceEqDiff, reduceCtorEq, reduceIte, ↓reduceIte, tt, vgo, vout, vguard, callOf, vop, ev, vload, rms]
    refine Cl.pu (c_hours r (by constructor <;> omega)) ?_ rfl (by simp only [V.into, intoL, Bool.and_true, rm_into])
    have hle : r.cu.last + 1 ≤ ((5 : Nat) : Int) := by omega
    have hge : 0 ≤ r.cu.last + 1 := by omega
    simp only [gos, eq_self, Nat.reduceLT, Nat.reduceEqDiff, reduceIte, ↓reduceIte, tt, vgo, vout, vguard, callOf, vop, ev, vslice, hB5, hle, hge, cI_takeN, Nat.mul_one]
    have hr2 : sMostR r = ((mostN r).take (r.cu.last + 1).toNat, 0) := by rw [sMostR, if_pos h0, if_pos hs]
    generalize hL : (mostN r).take (r.cu.last + 1).toNat = L at hr2 ⊢
    have hLl : L.length = (r.cu.last + 1).toNat := by rw [← hL, List.length_take, hbn.len]; omega
    rw [show V.ro (r.cu.last + 1).toNat (cI L) = vI L by rw [vI, hLl]]
    refine Cl.newN (n_Clone L (by omega)) rfl ?_
    simp only [gos, eq_self, Nat.reduceLT, reduceIte, ↓reduceIte, vgo, vout, vguard, callOf, vop, ev, cv]
    subst hQ
    rw [hr2]
    have ht : (cI L).take (L.length * 1) = cI L := List.take_of_length_le (by rw [cI_len]; omega)
    refine FnPost.plain trivial (v := .tup [.own 7 0 0 1 L.length, vi 0]) (fun h2 e => by rfl) (WkV.frz 7 (v' := .tup [vI L, vi 0]) (h' := []) (ver := 0) (cs := cI L) rfl rfl (cI_into _ _) rfl ?_ ?_ WkV.refl) ⟨rfl, rfl⟩
    · simp only [V.frz, frzL, vI, if_pos, List.drop_zero, ht]
    · simp [frzH]
end Go.Vm

set_option linter.unusedVariables false
set_option linter.unusedSimpArgs false
set_option maxRecDepth 100000
namespace Go.Vm
open Go.Proofs
/-! ### Free: how many more baths of an hour stay sure -/
def addN1 (n : List Int) (h : Nat) (m : Nat) : List Int := n.set h (gi n h + m)
def freeN (r : Rm) (n : List Int) (h : Nat) : Nat := ((List.range 6).takeWhile fun m => sSureN r (addN1 n h (m + 1))).length
def sFreeR (r : Rm) (plan : List Int) (hour : Int) : Int × Int :=
  if sPlanned r plan (sIn hour 0 r.cu.last) = 0 then (if sSureN r (cntN plan) = true then ((freeN r (cntN plan) hour.toNat : Nat), 0) else (0, 10)) else (0, sPlanned r plan (sIn hour 0 r.cu.last))
theorem sure_pl {r : Rm} (k : RmOk r) {n : List Int} {h : Nat} (hh : (h : Int) ≤ r.cu.last) (h0 : gi n h ≠ 0) (hs : sSureN r n = true) : gi n h ≤ r.pl := by
  have hl := k.A.k0.last
  simp only [sSureN, sPossN, Bool.and_eq_true, List.all_eq_true, List.mem_range] at hs
  have := hs.1 h (by omega)
  simp only [sRoom, Bool.or_eq_true, Bool.and_eq_true, decide_eq_true_eq] at this
  rcases this with h1 | h1
  · exact absurd h1 h0
  · exact h1.1
theorem takeWhile_len {p : Nat → Bool} : ∀ {n j : Nat}, j < n → (∀ i, i < j → p i = true) → p j = false → ((List.range n).takeWhile p).length = j := by
  intro n j hj h1 h2
  have e : List.range n = List.range j ++ (j :: (List.range' (j + 1) (n - j - 1))) := by
    rw [List.range_eq_range', List.range_eq_range', show n = j + (n - j) by omega, ← List.range'_append_1, Nat.zero_add]
    congr 1
    rw [show n - j = (n - j - 1) + 1 by omega, List.range'_succ]
    congr 2
    omega
  rw [e, List.takeWhile_append_of_pos (fun x hx => h1 x (by simpa using hx)), List.takeWhile_cons_of_neg (by simp [h2])]
  simp
set_option maxHeartbeats 2000000 in
theorem c_bFree (r : Rm) (hr : r.wf) (plan : List Int) (hp : (plan.length : Int) ≤ 1000000) (hour : Int) (hh64 : -9223372036854775808 ≤ hour ∧ hour ≤ 9223372036854775807) : Pu Tryz.prog (.fn 43 [] []) [.agg r.cs, vI plan, vi hour] (.tup [vi (sFreeR r plan hour).1, vi (sFreeR r plan hour).2]) := by
  refine Ev.fn Tryz.func43 rfl rfl (Fn.body tabOk Tryz.func43 rfl (Nat.le_of_ble_eq_true rfl) (Ks.ok (fz := (fzn [9])) (cl := (cln [(1, .d (tgL [(90, 1), (9, 2)]) [cP, cP, cP, cP, cP, cP, cP, some ([1], [1]), cP, cP, cP, cP, some ([2], [2]), cP, some ([2], [2]), cP])])) tabOk mixed ?_))
  generalize hQ : FnPost tt Tryz.f43 _ _ = Q
  simp only [Tryz.f43, List.nil_append, List.append_nil, argsEnv, Nat.reduceAdd]
  simp only [gos, eq_self, Nat.reduceLT, Nat.reduceEqDiff, reduceCtorEq, reduceIte, ↓reduceIte, vgo, vout, vguard, callOf, vop, ev, cv, newRow]
  refine Wr.draw (by kernel_rfl) ?_
  simp only [gos, eq_self, Nat.reduceLT, Nat.reduceEqDiff, Nat.reduceAdd, reduceCtorEq, reduceIte, ↓reduceIte, tt, vgoD, voutD, vclsOk, vids, mayWrite, V.ids, vguard, callOf, vop, ev, cv, vload, clsAt, rms]
  refine CD.pu (c_bwithin hour 0 r.cu.last) ?_
  generalize hF : sIn hour 0 r.cu.last = F
  simp only [gos, eq_self, Nat.reduceLT, Nat.reduceEqDiff, reduceIte, ↓reduceIte, vgoD, voutD, vguard, callOf, ev]
  by_cases h0 : sPlanned r plan F = 0
  case neg =>
    refine CD.pu (c_plannedN r hr plan hp F h0) ?_ rfl (by simp only [V.into, intoL, vI_into, Bool.and_true, rm_into])
    have hb : (sPlanned r plan F != 0) = true := by simp [h0]
    have hn5 : (cI zL).length = 5 := rfl
    have ht5 : List.take 5 (cI zL) = cI zL := rfl
    have hd5 : List.drop 5 (cI zL) = [] := rfl
    have hone : oneL (cI zL) = true := rfl
    simp only [gos, eq_self, Nat.reduceLT, Nat.reduceEqDiff, Nat.reduceAdd, reduceCtorEq, reduceIte, ↓reduceIte, tt, vgo, vout, vgoD, voutD, vclsOk, vids, mayWrite, V.ids, vguard, callOf, vop, ev, cv, vbin, vint, isShift, isNilConst, newRow, hb, hn5, hone]
    subst hQ
    have hr2 : sFreeR r plan hour = (0, sPlanned r plan F) := by rw [sFreeR, hF, if_neg h0]
    rw [hr2]
    exact FnPost.plain trivial (v := .tup [vi 0, vi (sPlanned r plan F)]) (fun h2 e => by rfl) (WkV.pure (by simp only [V.into, intoL, Bool.and_true])) ⟨rfl, rfl⟩
  refine CD.new (n_planned r hr plan hp F h0) rfl rfl rfl ?_
  obtain ⟨k, ha, hFt, hq, hpr, hnk⟩ := planned_ok h0
  have hl := k.A.k0.last
  have hpl := k.pl
  have z0 : ((0 : Int) != 0) = false := rfl
  have hn5 : (cI (cntN plan)).length = 5 := by rw [cI_len, hnk.len]
  have ht5 : List.take 5 (cI (cntN plan)) = cI (cntN plan) := List.take_of_length_le (by omega)
  have hd5 : List.drop 5 (cI (cntN plan)) = [] := List.drop_eq_nil_of_le (by omega)
  have hone := cI_one (cntN plan)
  simp only [gos, eq_self, Nat.reduceLT, Nat.reduceEqDiff, Nat.reduceAdd, reduceCtorEq, reduceIte, ↓reduceIte, tt, vgo, vout, vgoD, voutD, vclsOk, vids, mayWrite, V.ids, vguard, callOf, vop, ev, cv, vbin, vint, isShift, isNilConst, vload, newRow, hn5, ht5, hone]
  refine Cl.mk (c_bsureK r k [] (BMemo.nil r) 90 (by decide) (cntN plan) hnk _ rfl) ?_
  rintro v h' ⟨rfl, rfl⟩
  have HM : BMemo r (suMM r [] (cntN plan)) := (BMemo.nil r).su hnk.len
  generalize suMM r [] (cntN plan) = M0 at HM ⊢
  cases hs : sSureN r (cntN plan) with
  | false =>
    simp only [gos, eq_self, Nat.reduceLT, Nat.reduceEqDiff, reduceIte, ↓reduceIte, vgo, vout, vguard, callOf, vop, ev, cv]
    subst hQ
    have hr2 : sFreeR r plan hour = (0, 10) := by rw [sFreeR, hF, if_pos h0, if_neg (by simp [hs])]
    rw [hr2]
    exact FnPost.plain trivial (v := .tup [vi 0, vi 10]) (fun h2 e => by rfl) (WkV.pure (by simp only [V.into, intoL, Bool.and_true])) ⟨rfl, rfl⟩
  | true =>
    have hF2 : sIn hour 0 r.cu.last = true := hF.trans hFt
    simp only [sIn, Bool.and_eq_true, decide_eq_true_eq] at hF2
    obtain ⟨h, rfl⟩ : ∃ h : Nat, hour = h := ⟨hour.toNat, by omega⟩
    generalize hN : cntN plan = n at *
    have hn0 : gi n h ≤ 5 := by
      by_cases e : gi n h = 0
      · omega
      · have := sure_pl k (h := h) (by omega) e hs; omega
    have hn1 := hnk.le h
    have hh5 : (h : Int) < ((5 : Nat) : Int) := by omega
    have hh6 : h + 1 ≤ 5 := by omega
    have hA : ∀ m : Nat, m ≤ 7 → NOk (addN1 n h m) := fun m hm => nok_set hnk (by omega) (by omega)
    have hAg : ∀ m : Nat, gi (addN1 n h m) h = gi n h + m := fun m => by rw [addN1, gi_set_self _ (by rw [hnk.len]; omega)]
    have hstep : ∀ m : Nat, List.take h (cI (addN1 n h m)) ++ [V.int IntKind.i64 (gi n h + m + 1)] ++ List.drop (h + 1) (cI (addN1 n h m)) = cI (addN1 n h (m + 1)) := fun m => by
      rw [show addN1 n h (m + 1) = (addN1 n h m).set h (gi n h + m + 1) from by simp only [addN1, List.set_set]; congr 1; omega]
      exact cI_set _ (by rw [addN1, List.length_set, hnk.len]; omega)
    have hat : ∀ m : Nat, List.drop h (cI (addN1 n h m)) = vi (gi n h + m) :: cI (List.drop (h + 1) (addN1 n h m)) := fun m => by
      have := cI_at (l := addN1 n h m) (Int.natCast_nonneg h) (by rw [addN1, List.length_set, hnk.len]; omega)
      rw [Int.toNat_natCast, Nat.mul_one, hAg] at this
      exact this
    have hA0 : addN1 n h 0 = n := by
      refine list_ext (by simp [addN1]) fun q hq => ?_
      rw [addN1, gi_setN _ (by rw [hnk.len]; omega)]
      split
      · subst_vars; omega
      · rfl
    have hat0 := hat 0
    have hst0 := hstep 0
    rw [hA0, show gi n h + ((0 : Nat) : Int) = gi n h by omega] at hat0 hst0
    rw [Nat.zero_add] at hst0
    have hw0 := i64_in (show -9223372036854775808 ≤ gi n h + 1 by omega) (show gi n h + 1 ≤ 9223372036854775807 by omega)
    simp only [gos, eq_self, Nat.reduceLT, Nat.reduceEqDiff, reduceCtorEq, reduceIte, ↓reduceIte, tt, vgo, vout, vguard, callOf, vop, ev, cv, vbin, vint, isShift, isNilConst, vload, hn5, hat0, hst0, hw0, hh5, hh6, Int.natCast_nonneg, Int.toNat_natCast, Nat.mul_one, Nat.zero_add]
    refine W.loop tabOk mixed (fun a : Nat × MemoI => ([(2, vi h), (8, .rop (bw r (.mp 90))), (9, .ptr 9 0 0), (11, vi a.1)], (90, ⟨0, .map (memoI a.2)⟩) :: [(9, ⟨0, .row (cI (addN1 n h (a.1 + 1)))⟩)])) (fun a => 6 - a.1)
      (fun a => a.1 ≤ 5 ∧ BMemo r a.2 ∧ ∀ q : Nat, q < a.1 → sSureN r (addN1 n h (q + 1)) = true) (0, M0) ⟨by simp, HM, fun q hq => by simp at hq⟩ (Wk.env (by simp [subE, Env.get])) ?_
    rintro ⟨j, M1⟩ ⟨hj, HM1, hsu⟩
    simp only at hj HM1 hsu ⊢
    have hk1 := hA (j + 1) (by omega)
    have hc5 : (cI (addN1 n h (j + 1))).length = 5 := by rw [cI_len, hk1.len]
    have hct5 : List.take 5 (cI (addN1 n h (j + 1))) = cI (addN1 n h (j + 1)) := List.take_of_length_le (by omega)
    simp only [gos, eq_self, Nat.reduceLT, Nat.reduceEqDiff, reduceCtorEq, reduceIte, ↓reduceIte, tt, vgo, vout, vguard, callOf, vop, ev, vload, hc5, hct5]
    refine Cl.mk (c_bsureK r k M1 HM1 90 (by decide) (addN1 n h (j + 1)) hk1 _ rfl) ?_
    rintro v h' ⟨rfl, rfl⟩
    have HM2 : BMemo r (suMM r M1 (addN1 n h (j + 1))) := HM1.su hk1.len
    generalize suMM r M1 (addN1 n h (j + 1)) = M2 at HM2 ⊢
    cases hs2 : sSureN r (addN1 n h (j + 1)) with
    | true =>
      have h5 := sure_pl k (h := h) (by omega) (by rw [hAg]; omega) hs2
      rw [hAg] at h5
      have hatj := hat (j + 1)
      have hstj := hstep (j + 1)
      have hwj := i64_in (show -9223372036854775808 ≤ gi n h + ((j + 1 : Nat) : Int) + 1 by omega) (show gi n h + ((j + 1 : Nat) : Int) + 1 ≤ 9223372036854775807 by omega)
      simp only [gos, eq_self, Nat.reduceLT, Nat.reduceEqDiff, reduceCtorEq, reduceIte, ↓reduceIte, tt, vgo, vout, vguard, callOf, vop, ev, cv, vbin, vint, isShift, isNilConst, vload, hc5, hatj, hstj, hwj, hh5, hh6, Int.natCast_nonneg, Int.toNat_natCast, Nat.mul_one, Nat.zero_add, i64_succ (show (j : Int) < 9223372036854775807 by omega)]
      refine Nx.mk (j + 1, M2) (show 6 - (j + 1) < 6 - j by omega) ⟨by simp only; omega, HM2, fun q hq => ?_⟩ (Wk.env (by simp [subE, Env.get]))
      rcases Nat.lt_succ_iff_lt_or_eq.1 hq with h1 | rfl
      · exact hsu q h1
      · exact hs2
    | false =>
      simp only [gos, eq_self, Nat.reduceLT, Nat.reduceEqDiff, reduceIte, ↓reduceIte, vgo, vout, vguard, callOf, vop, ev, cv]
      subst hQ
      have hfr : freeN r n h = j := takeWhile_len (by omega) hsu hs2
      have hr2 : sFreeR r plan h = ((j : Int), 0) := by rw [sFreeR, hF, if_pos h0, hN, if_pos hs, Int.toNat_natCast, hfr]
      rw [hr2]
      exact FnPost.plain trivial (v := .tup [vi j, vi 0]) (fun h2 e => by rfl) (WkV.pure (by simp only [V.into, intoL, Bool.and_true])) ⟨rfl, rfl⟩
end Go.Vm

set_option linter.unusedVariables false
set_option linter.unusedSimpArgs false
set_option maxRecDepth 100000
namespace Go.Vm
open Go.Proofs
/-! ### Coal: the least coal of a plan -/
def cuB (r : Rm) (plan : List Int) : Cu := { r.cu with want := sAdd (nb r (cntN plan)) r.cu.want r.cu.want.length }
def sCoalR (r : Rm) (plan : List Int) : List Int × Int :=
  if sPlanned r plan true = 0 then (if 0 < (r.cu.readings.length : Int) then ([], 8) else sLeastA (cuB r plan)) else ([], sPlanned r plan true)
set_option maxHeartbeats 2000000 in
theorem c_bCoal (r : Rm) (hr : r.wf) (plan : List Int) (hp : (plan.length : Int) ≤ 1000000) : Pu Tryz.prog (.fn 47 [] []) [.agg r.cs, vI plan] (.tup [vI (sCoalR r plan).1, vi (sCoalR r plan).2]) := by
  refine Ev.fn Tryz.func47 rfl rfl (Fn.body tabOk Tryz.func47 rfl (Nat.le_of_ble_eq_true rfl) (Ks.ok (fz := (fzn [7, 9])) (cl := (cln [(7, .ex), (13, .ex)])) tabOk mixed ?_))
  generalize hQ : FnPost tt Tryz.f47 _ _ = Q
  simp only [Tryz.f47, List.nil_append, List.append_nil, argsEnv, Nat.reduceAdd]
  simp only [gos, eq_self, Nat.reduceLT, Nat.reduceEqDiff, reduceCtorEq, reduceIte, ↓reduceIte, tt, vgo, vout, vguard, callOf, vop, ev, cv, vload, newRow, rms]
  by_cases h0 : sPlanned r plan true = 0
  case neg =>
    refine Cl.pu (c_plannedN r hr plan hp true h0) ?_ rfl (by simp only [V.into, intoL, vI_into, Bool.and_true, rm_into])
    have hb : (sPlanned r plan true != 0) = true := by simp [h0]
    have hn5 : (cI zL).length = 5 := rfl
    have ht5 : List.take 5 (cI zL) = cI zL := rfl
    have hd5 : List.drop 5 (cI zL) = [] := rfl
    have hone : oneL (cI zL) = true := rfl
    simp only [gos, eq_self, Nat.reduceLT, Nat.reduceEqDiff, Nat.reduceAdd, reduceCtorEq, reduceIte, ↓reduceIte, tt, vgo, vout, vguard, callOf, vop, ev, cv, vbin, vint, isShift, isNilConst, newRow, hb, hn5, hone]
    subst hQ
    have hr2 : sCoalR r plan = ([], sPlanned r plan true) := by rw [sCoalR, if_neg h0]
    rw [hr2]
    exact FnPost.plain trivial (v := .tup [.sl0, vi (sPlanned r plan true)]) (fun h2 e => by rfl) (WkV.trans (WkV.less (v' := .tup [vI [], vi (sPlanned r plan true)]) (ImpV.tup ⟨sl0_vI, ImpV.refl _, trivial⟩)) (WkV.pure (by simp only [V.into, intoL, vI_into, Bool.and_true]))) ⟨rfl, rfl⟩
  refine Cl.newN (n_planned r hr plan hp true h0) rfl ?_
  obtain ⟨k, ha, _, hq, hpr, hnk⟩ := planned_ok h0
  have hl := k.A.k0.last
  have z0 : ((0 : Int) != 0) = false := rfl
  have hn5 : (cI (cntN plan)).length = 5 := by rw [cI_len, hnk.len]
  have ht5 : List.take 5 (cI (cntN plan)) = cI (cntN plan) := List.take_of_length_le (by omega)
  have hd5 : List.drop 5 (cI (cntN plan)) = [] := List.drop_eq_nil_of_le (by omega)
  have hone := cI_one (cntN plan)
  simp only [gos, eq_self, Nat.reduceLT, Nat.reduceEqDiff, Nat.reduceAdd, reduceCtorEq, reduceIte, ↓reduceIte, tt, vgo, vout, vguard, callOf, vop, ev, cv, vbin, vint, isShift, isNilConst, vload, vlen, newRow, rms, vD, hn5, hone]
  by_cases hrd : 0 < (r.cu.readings.length : Int)
  · simp only [gos, eq_self, Nat.reduceLT, Nat.reduceEqDiff, reduceIte, ↓reduceIte, vgo, vout, vguard, callOf, vop, ev, cv, hrd]
    subst hQ
    have hr2 : sCoalR r plan = ([], 8) := by rw [sCoalR, if_pos h0, if_pos hrd]
    rw [hr2]
    exact FnPost.plain trivial (v := .tup [.sl0, vi 8]) (fun h2 e => by rfl) (WkV.trans (WkV.less (v' := .tup [vI [], vi 8]) (ImpV.tup ⟨sl0_vI, ImpV.refl _, trivial⟩)) (WkV.pure (by simp only [V.into, intoL, vI_into, Bool.and_true]))) ⟨rfl, rfl⟩
  have hcone : oneL r.cu.cs = true := rfl
  simp only [gos, eq_self, Nat.reduceLT, Nat.reduceEqDiff, Nat.reduceAdd, Nat.reduceLeDiff, reduceCtorEq, reduceIte, ↓reduceIte, tt, vgo, vout, vguard, callOf, vop, ev, vload, newRow, hrd, rms, hcone]
  refine Wr.at tabOk 0 ?_
  simp only [gos]
  refine Wa.mk (Wk.trans (Wk.forget (ρ' := [(2, .rop r.cs), (7, .ptr 7 0 0), (9, .ptr 9 0 0)]) (h' := [(7, ⟨0, .row (cI (cntN plan))⟩), (9, ⟨0, .row r.cu.cs⟩)]) (by simp [subE, Env.get]) (by simp [subH, Heap.get]) (fun j hp => by simp [orD, domP, Heap.get] at hp) (by simp only [intoE, V.into, Bool.true_and, Bool.and_true, domP, Heap.get, rm_into]; try rfl) (by simp only [intoH, Blk.into, cI_into, cu_into, Bool.and_true]; try rfl)) (Wk.ren 9 49 rfl rfl)) ?_
  simp only [renE, renH, V.ren, Blk.ren, sw, rm_ren, cu_ren, cI_ren, gos, eq_self, Nat.reduceLT, Nat.reduceEqDiff, reduceCtorEq, reduceIte, ↓reduceIte, tt, vgo, vout, vguard, callOf, vop, ev, vload, rms, hn5, ht5]
  refine Cl.newN (n_bbk r hl (cntN plan) hnk.len fun i _ => n_bu k hnk i) rfl ?_
  simp only [gos, eq_self, Nat.reduceLT, Nat.reduceEqDiff, Nat.reduceAdd, Nat.reduceLeDiff, reduceCtorEq, reduceIte, ↓reduceIte, tt, vgo, vout, vguard, callOf, vop, ev, cv, vload, vlen, rms, vI]
  have hnbl := nb_len k (cntN plan)
  have hwl : (r.cu.want.length : Int) = r.cu.last + 1 := k.A.k0.want.1
  have hBb : ∀ i : Nat, (i : Int) ≤ r.cu.last → 0 ≤ gi (nb r (cntN plan)) i ∧ gi (nb r (cntN plan)) i ≤ 9000 := fun i hi => by
    have hb := k.bu
    have hn := hnk.le i
    have h1 : 0 ≤ r.bu * gi (cntN plan) i := Int.mul_nonneg (by omega) hn.1
    have h2 : r.bu * gi (cntN plan) i ≤ 9 * 1000 := Int.mul_le_mul hb.2 hn.2 hn.1 (by omega)
    rw [nb_gi hi]; omega
  generalize hB : nb r (cntN plan) = B at hnbl hBb ⊢
  have hL : B.length = (r.cu.last + 1).toNat := by omega
  rw [← hL]
  refine W.loop tabOk mixed (fun i : Nat => ([(2, .rop r.cs), (9, .ptr 49 0 0), (35, vI r.cu.want), (36, vi r.cu.want.length), (37, vi i)], [(49, ⟨0, .row [vi r.cu.last, vi r.cu.start, vi r.cu.most, vi r.cu.per, vi r.cu.shovels, vI r.cu.coal, .own 9 0 0 1 B.length, vi r.cu.heat.lo, vi r.cu.heat.hi, vR r.cu.loss, vD r.cu.readings]⟩), (9, ⟨0, .row (cI (sAdd B r.cu.want i))⟩)])) (fun i => r.cu.want.length - i) (fun i => i ≤ r.cu.want.length) 0 (Nat.zero_le _)
    (Wk.forget (by simp [subE, Env.get, vI]) (by simp [subH, Heap.get, Cu.cs, sAdd]) (fun j hp => by simp [orD, domP, Heap.get] at hp) (by simp only [intoE, V.into, vI_into, Bool.true_and, Bool.and_true, domP, Heap.get, rm_into]; try rfl) (by simp only [intoH, Blk.into, V.into, intoL, cI_into, vI_into, vR_into, vD_into, Bool.true_and, Bool.and_true, domP, Heap.get]; try rfl)) ?_
  intro i hi
  by_cases hil : (i : Int) < r.cu.want.length
  · have hwm := k.A.k0.want.2 _ (gi_mem (l := r.cu.want) (i := i) (by omega))
    have hbm := hBb i (by omega)
    have hat := cI_at (Int.natCast_nonneg i) hil
    rw [Int.toNat_natCast, Nat.mul_one] at hat
    have hsl := sAdd_len B r.cu.want i
    have hil3 : (i : Int) < (sAdd B r.cu.want i).length := by rw [hsl]; omega
    have hcur : gi (sAdd B r.cu.want i) i = gi B i := sAdd_ge B r.cu.want i i (Nat.le_refl _)
    have e2 := cI_at (Int.natCast_nonneg i) hil3
    rw [Int.toNat_natCast, Nat.mul_one, hcur] at e2
    have hw := i64_in (show -9223372036854775808 ≤ gi B i + gi r.cu.want i by omega) (show gi B i + gi r.cu.want i ≤ 9223372036854775807 by omega)
    have hilB : (i : Int) < B.length := by omega
    have hset : List.take i (cI (sAdd B r.cu.want i)) ++ [V.int IntKind.i64 (gi B i + gi r.cu.want i)] ++ List.drop (i + 1) (cI (sAdd B r.cu.want i)) = cI (sAdd B r.cu.want (i + 1)) := by
      rw [sAdd, hcur]; exact cI_set _ (by omega)
    have hlc : (cI (sAdd B r.cu.want i)).length = B.length := by rw [cI_len, hsl]
    have hle : i + 1 ≤ B.length := by omega
    simp only [gos, eq_self, Nat.reduceLT, Nat.reduceEqDiff, reduceCtorEq, reduceIte, ↓reduceIte, tt, vgo, vout, vguard, callOf, vop, ev, cv, vbin, vint, isShift, isNilConst, vload, vI, hil, hilB, hat, e2, hw, hset, hlc, hle, Int.natCast_nonneg, Int.toNat_natCast, Nat.mul_one, Nat.zero_add]
    exact Nx.mk (i + 1) (show r.cu.want.length - (i + 1) < r.cu.want.length - i by omega) (by omega) (Wk.env (by simp [subE, Env.get, i64_succ (show (i : Int) < 9223372036854775807 by omega)]))
  · have hie : i = r.cu.want.length := by omega
    subst hie
    have hsl := sAdd_len B r.cu.want r.cu.want.length
    have hct : List.take B.length (cI (sAdd B r.cu.want r.cu.want.length)) = cI (sAdd B r.cu.want r.cu.want.length) := List.take_of_length_le (by rw [cI_len, hsl]; omega)
    simp only [gos, eq_self, Nat.reduceLT, Nat.reduceEqDiff, reduceIte, ↓reduceIte, vgo, vout, vguard, callOf, vop, ev, vbin, vint, isShift, isNilConst, vI, hil]
    refine Wr.at tabOk 0 ?_
    simp only [gos]
    refine Wa.mk (Wk.freeze 9 rfl rfl (cI_into _ _) rfl) ?_
    simp only [frzE, frzH, V.frz, frzL, Blk.frz, rm_frz, vR, vD, cI_frz, cR_frz, cD_frz, gos, eq_self, Nat.reduceLT, Nat.reduceEqDiff, Nat.reduceAdd, reduceCtorEq, reduceIte, ↓reduceIte, tt, vgo, vout, vguard, callOf, vop, ev, vload, Nat.mul_one, hct]
    have hagg : V.agg [V.int IntKind.i64 r.cu.last, V.int IntKind.i64 r.cu.start, V.int IntKind.i64 r.cu.most, V.int IntKind.i64 r.cu.per, V.int IntKind.i64 r.cu.shovels, V.ro r.cu.coal.length (cI r.cu.coal), V.ro B.length (cI (sAdd B r.cu.want r.cu.want.length)), V.int IntKind.i64 r.cu.heat.lo, V.int IntKind.i64 r.cu.heat.hi, V.ro r.cu.loss.length (cR r.cu.loss), V.ro r.cu.readings.length (cD r.cu.readings)] = V.agg (cuB r plan).cs := by
      have e : (cuB r plan).want = sAdd B r.cu.want r.cu.want.length := by simp only [cuB, hB]
      simp only [Cu.cs, e, vI, hsl]
      rfl
    rw [hagg]
    have hwf : (cuB r plan).wf := by
      have w := hr.cu
      have e : (cuB r plan).want.length = B.length := by simp only [cuB, hB, hsl]
      exact ⟨w.last, w.coal, by rw [e]; omega, w.loss, w.readings⟩
    refine Cl.pu (c_Least (cuB r plan) hwf) ?_ rfl (by simp only [V.into, intoL, cu_into, Bool.and_true])
    simp only [gos, eq_self, Nat.reduceLT, Nat.reduceEqDiff, reduceIte, ↓reduceIte, vgo, vout, vguard, callOf, vop, ev]
    subst hQ
    have hr2 : sCoalR r plan = sLeastA (cuB r plan) := by rw [sCoalR, if_pos h0, if_neg hrd]
    rw [hr2]
    exact FnPost.plain trivial (v := .tup [vI (sLeastA (cuB r plan)).1, vi (sLeastA (cuB r plan)).2]) (fun h2 e => by rfl) (WkV.pure (by simp only [V.into, intoL, vI_into, Bool.and_true])) ⟨rfl, rfl⟩
end Go.Vm

set_option linter.unusedVariables false
set_option linter.unusedSimpArgs false
set_option maxRecDepth 100000
namespace Go.Vm
open Go.Proofs
/-! ### the reference of baths: the small functions -/
theorem shl1b {i : Nat} (h : i < 6) : IntKind.i64.wrap (1 * 2 ^ min ((i : Int)).toNat IntKind.i64.bits) = 2 ^ i := by
  have : ∀ i : Fin 6, IntKind.i64.wrap (1 * 2 ^ min (((i : Nat) : Int)).toNat IntKind.i64.bits) = 2 ^ (i : Nat) := by decide +kernel
  exact this ⟨i, h⟩
theorem sub1b {i : Nat} (h : i < 6) : IntKind.i64.wrap ((2 : Int) ^ i - 1) = 2 ^ i - 1 := by
  have : ∀ i : Fin 6, IntKind.i64.wrap ((2 : Int) ^ (i : Nat) - 1) = 2 ^ (i : Nat) - 1 := by decide +kernel
  exact this ⟨i, h⟩
theorem c_r9Full (r : Rm) (hb : r.ba.length ≤ 5) : Pu Tryz.prog (.fn 36 [] []) [.agg r.cs] (vi ((2 : Int) ^ r.ba.length - 1)) := by
  refine Ev.fn Tryz.func36 rfl rfl (Fn.body tabOk Tryz.func36 rfl (Nat.le_of_ble_eq_true rfl) (Ks.ok (fz := (fzn [])) (cl := (cln [])) tabOk mixed ?_))
  generalize hQ : FnPost tt Tryz.f36 _ _ = Q
  simp only [Tryz.f36, List.nil_append, List.append_nil, argsEnv]
  have hw := u64_in (n := (r.ba.length : Int)) (by omega) (by omega)
  have hn : ¬ (r.ba.length : Int) < 0 := by omega
  simp only [gos, eq_self, Nat.reduceLT, Nat.reduceEqDiff, reduceCtorEq, reduceIte, ↓reduceIte, tt, vgo, vout, vguard, callOf, vop, ev, cv, vbin, vint, isShift, isNilConst, vload, vlen, newRow, rms, vR, hw, hn, shl1b (i := r.ba.length) (by omega), sub1b (i := r.ba.length) (by omega)]
  subst hQ
  exact FnPost.plain trivial (fun h2 e => by first | rfl | (simp only [Tryz.f36, vres, vresL, vres1, e _, gos, if_true, if_false, ne_eq, eq_self, Nat.reduceLT, Nat.reduceEqDiff, Nat.reduceAdd, Nat.reduceMul, Nat.reduceLeDiff, Nat.reduceBEq, reduceCtorEq, reduceIte, Array.toList, ↓reduceIte, tt, vgo, vout, vgoD, voutD, vclsOk, vids, mayWrite, V.ids, V.mids, vguard, callOf, vop, ev, cv, vbin, vint, isShift, isNilConst, vnil, isNilSlice, vload, vlen, newRow, vfill, vslice, entOf, vappend, srcOf, vcopy, vlookup, vupdate, mapOk, keyOf, intsOf, clsAt]; try rfl)) (WkV.pure (by simp only [V.into])) ⟨rfl, rfl⟩
def bkI (r : Rm) (n : List Int) (i : Nat) : List Int := (List.range n.length).map fun (j : Nat) => if j < i then r.bu * gi n j else 0
theorem bkI_len (r : Rm) (n : List Int) (i : Nat) : (bkI r n i).length = n.length := by simp [bkI]
theorem bkI_zero (r : Rm) (n : List Int) : bkI r n 0 = List.replicate n.length 0 := by
  rw [List.eq_replicate_iff]
  refine ⟨bkI_len r n 0, fun x hx => ?_⟩
  simp only [bkI, List.mem_map] at hx
  obtain ⟨j, _, rfl⟩ := hx
  simp
theorem bkI_gi (r : Rm) (n : List Int) (i : Nat) {j : Nat} (hj : j < n.length) : gi (bkI r n i) j = if j < i then r.bu * gi n j else 0 := gi_map hj
theorem bkI_succ (r : Rm) (n : List Int) {i : Nat} (hi : i < n.length) : (bkI r n i).set i (r.bu * gi n i) = bkI r n (i + 1) := by
  refine list_ext (by simp [bkI_len]) fun j hj => ?_
  rw [List.length_set, bkI_len] at hj
  rw [bkI_gi r n (i + 1) hj]
  by_cases e : j = i
  · subst e; rw [gi_set_self _ (by rw [bkI_len]; omega), if_pos (by omega)]
  · rw [gi_set_ne _ (fun h => e h.symm), bkI_gi r n i hj]
    by_cases h : j < i
    · rw [if_pos h, if_pos (by omega)]
    · rw [if_neg h, if_neg (by omega)]
theorem bkI_all (r : Rm) (n : List Int) : bkI r n n.length = rBk r n := by
  refine list_ext (by simp [bkI_len, rBk]) fun j hj => ?_
  rw [bkI_len] at hj
  rw [bkI_gi r n _ hj, if_pos hj, rBk_gi r n hj]
theorem c_r9Buckets (r : Rm) (n : List Int) (hb : 0 ≤ r.bu ∧ r.bu ≤ 1000) (hl : (n.length : Int) ≤ 100000) (hn : ∀ x ∈ n, 0 ≤ x ∧ x ≤ 1000) : Pu Tryz.prog (.fn 31 [] []) [.agg r.cs, vI n] (vI (rBk r n)) := by
  refine Ev.fn Tryz.func31 rfl rfl (Fn.body tabOk Tryz.func31 rfl (Nat.le_of_ble_eq_true rfl) (Ks.ok (fz := (fzn [])) (cl := (cln [(5, .d (tgL [(9, 1)]) [cP, cP, cP, cP, cP, cP, cP, cP, cP, cP, some ([1], [1])])])) tabOk mixed ?_))
  generalize hQ : FnPost tt Tryz.f31 _ _ = Q
  simp only [Tryz.f31, List.nil_append, List.append_nil, argsEnv, Nat.reduceAdd]
  have hle : (n.length : Int) ≤ 1000000 := by omega
  simp only [gos, eq_self, Nat.reduceLT, Nat.reduceEqDiff, Nat.reduceLeDiff, reduceCtorEq, reduceIte, ↓reduceIte, tt, vgo, vout, vguard, callOf, vop, ev, cv, vlen, newRow, vI, hle, Int.natCast_nonneg, Int.toNat_natCast]
  refine W.loop tabOk mixed (fun i : Nat => ([(1, vI n), (2, .rop r.cs), (5, .own 9 0 0 1 n.length), (6, vi i)], [(9, ⟨0, .row (cI (bkI r n i))⟩)])) (fun i => n.length - i) (fun i => i ≤ n.length) 0 (by omega) (Wk.heap (fun j => ?_) (by simp [subE, Env.get, vI])) ?_
  · rw [bkI_zero, ← zeros_vi]
  intro i hi
  by_cases hil : (i : Int) < n.length
  · have hat := cI_at (Int.natCast_nonneg i) hil
    rw [Int.toNat_natCast, Nat.mul_one] at hat
    have hm := hn _ (gi_mem (l := n) (i := i) (by omega))
    have h1 : 0 ≤ r.bu * gi n i := Int.mul_nonneg hb.1 hm.1
    have h2 : r.bu * gi n i ≤ 1000 * 1000 := Int.mul_le_mul hb.2 hm.2 hm.1 (by omega)
    have hw := i64_in (show -9223372036854775808 ≤ r.bu * gi n i by omega) (show r.bu * gi n i ≤ 9223372036854775807 by omega)
    have hc : i + 1 ≤ (cI (bkI r n i)).length := by rw [cI_len, bkI_len]; omega
    have hst : List.take i (cI (bkI r n i)) ++ [V.int IntKind.i64 (r.bu * gi n i)] ++ List.drop (i + 1) (cI (bkI r n i)) = cI (bkI r n (i + 1)) := by
      rw [← bkI_succ r n (by omega)]; exact cI_set _ (by rw [bkI_len]; omega)
    simp only [gos, eq_self, Nat.reduceLT, Nat.reduceEqDiff, reduceIte, ↓reduceIte, tt, vgo, vout, vguard, callOf, vop, ev, vbin, vint, isShift, isNilConst, vlen, vI, hil]
    refine Wr.draw (by kernel_rfl) ?_
    simp only [gos, eq_self, Nat.reduceLT, Nat.reduceEqDiff, Nat.reduceAdd, reduceCtorEq, reduceIte, ↓reduceIte, tt, vgo, vout, vgoD, voutD, vclsOk, vids, mayWrite, V.ids, vguard, callOf, vop, ev, cv, vbin, vint, isShift, isNilConst, vload, clsAt, rms, hil, Int.natCast_nonneg, Int.toNat_natCast, Nat.mul_one, Nat.zero_add, hat, hw, hc, hst]
    exact Nx.mk (i + 1) (show n.length - (i + 1) < n.length - i by omega) (show i + 1 ≤ n.length by omega) (Wk.env (by simp [subE, Env.get, i64_succ (show (i : Int) < 9223372036854775807 by omega)]))
  · have hie : i = n.length := by omega
    subst hie
    simp only [gos, eq_self, Nat.reduceLT, Nat.reduceEqDiff, reduceIte, ↓reduceIte, tt, vgo, vout, vguard, callOf, vop, ev, vbin, vint, isShift, isNilConst, vlen, vI, hil]
    rw [bkI_all]
    subst hQ
    have hl2 : (rBk r n).length = n.length := by simp [rBk]
    have ht : (cI (rBk r n)).take n.length = cI (rBk r n) := List.take_of_length_le (by rw [cI_len]; omega)
    refine FnPost.plain trivial (v := .own 9 0 0 1 n.length) (fun h2 e => by rfl) (WkV.frz 9 (v' := vI (rBk r n)) (h' := []) (ver := 0) (cs := cI (rBk r n)) rfl rfl (cI_into _ _) rfl ?_ ?_ WkV.refl) ⟨rfl, rfl⟩
    · simp [V.frz, vI, ht, hl2]
    · simp [frzH]
end Go.Vm

set_option linter.unusedVariables false
set_option linter.unusedSimpArgs false
set_option maxRecDepth 100000
namespace Go.Vm
open Go.Proofs
theorem c_r9CanBe (r : Rm) (m : List Int) (hb : 0 ≤ r.bu ∧ r.bu ≤ 1000) (hl : (m.length : Int) ≤ 100000) (hw : m.length ≤ r.cu.want.length) (hwb : ∀ x ∈ r.cu.want, 0 ≤ x ∧ x ≤ 1000) (hm : ∀ x ∈ m, 0 ≤ x ∧ x ≤ 1000) : Pu Tryz.prog (.fn 58 [] []) [.agg r.cs, vI m] (.bool (rCanBe r m)) := by
  refine Ev.fn Tryz.func58 rfl rfl (Fn.body tabOk Tryz.func58 rfl (Nat.le_of_ble_eq_true rfl) (Ks.ok (fz := (fzn [])) (cl := (cln [(4, .d tg0 [cP, cP, cP, cP, cP, cP, cP, cP, cP, cP, cP, cP, cP, cP, cP, cP, cP, cP, cP, cP, cP, cP, cP, cP])])) tabOk mixed ?_))
  generalize hQ : FnPost tt Tryz.f58 _ _ = Q
  simp only [Tryz.f58, List.nil_append, List.append_nil, argsEnv, Nat.reduceAdd]
  simp only [gos, eq_self, Nat.reduceLT, Nat.reduceEqDiff, reduceCtorEq, reduceIte, ↓reduceIte, vgo, vout, vguard, callOf, vop, ev, cv, newRow, vI]
  refine W.loop tabOk mixed (fun i : Nat => ([(1, vI m), (2, .rop r.cs), (5, vi i)], [])) (fun i => m.length - i) (fun i => i ≤ m.length ∧ ∀ j < i, (decide (gi m j ≤ r.pl) && decide (gi r.cu.want j + r.bu * gi m j ≤ 20)) = true) 0 ⟨by omega, fun j hj => by omega⟩ (Wk.env (by simp [subE, Env.get, vI])) ?_
  rintro i ⟨hi, hj⟩
  by_cases hil : (i : Int) < m.length
  · have hilw : (i : Int) < r.cu.want.length := by omega
    have hat := cI_at (Int.natCast_nonneg i) hil
    have hatw := cI_at (Int.natCast_nonneg i) hilw
    rw [Int.toNat_natCast, Nat.mul_one] at hat hatw
    have hmm := hm _ (gi_mem (l := m) (i := i) (by omega))
    have hww := hwb _ (gi_mem (l := r.cu.want) (i := i) (by omega))
    have h1 : 0 ≤ r.bu * gi m i := Int.mul_nonneg hb.1 hmm.1
    have h2 : r.bu * gi m i ≤ 1000 * 1000 := Int.mul_le_mul hb.2 hmm.2 hmm.1 (by omega)
    have hw1 := i64_in (show -9223372036854775808 ≤ r.bu * gi m i by omega) (show r.bu * gi m i ≤ 9223372036854775807 by omega)
    have hw2 := i64_in (show -9223372036854775808 ≤ gi r.cu.want i + r.bu * gi m i by omega) (show gi r.cu.want i + r.bu * gi m i ≤ 9223372036854775807 by omega)
    simp only [gos, eq_self, Nat.reduceLT, Nat.reduceEqDiff, reduceIte, ↓reduceIte, tt, vgo, vout, vguard, callOf, vop, ev, vbin, vint, isShift, isNilConst, vlen, vI, hil]
    refine Wr.draw (by kernel_rfl) ?_
    by_cases hpl : r.pl < gi m i
    · simp only [gos, eq_self, Nat.reduceLT, Nat.reduceEqDiff, Nat.reduceAdd, reduceCtorEq, reduceIte, ↓reduceIte, tt, vgo, vout, vgoD, voutD, vclsOk, vids, mayWrite, V.ids, vguard, callOf, vop, ev, cv, vbin, vint, isShift, isNilConst, vload, clsAt, rms, hil, hat, hpl, Int.natCast_nonneg, Int.toNat_natCast, Nat.mul_one]
      subst hQ
      exact FnPost.plain trivial (fun h2 e => by first | rfl | (simp only [Tryz.f58, vres, vresL, vres1, e _, gos, if_true, if_false, ne_eq, eq_self, Nat.reduceLT, Nat.reduceEqDiff, Nat.reduceAdd, Nat.reduceMul, Nat.reduceLeDiff, Nat.reduceBEq, reduceCtorEq, reduceIte, Array.toList, ↓reduceIte, tt, vgo, vout, vgoD, voutD, vclsOk, vids, mayWrite, V.ids, V.mids, vguard, callOf, vop, ev, cv, vbin, vint, isShift, isNilConst, vnil, isNilSlice, vload, vlen, newRow, vfill, vslice, entOf, vappend, srcOf, vcopy, vlookup, vupdate, mapOk, keyOf, intsOf, clsAt]; try rfl)) (WkV.pure (by simp only [V.into])) ⟨by rw [rCanBe, range_all_false (i := i) (by omega) (by simp; omega)], rfl⟩
    · by_cases h20 : 20 < gi r.cu.want i + r.bu * gi m i
      · simp only [gos, eq_self, Nat.reduceLT, Nat.reduceEqDiff, Nat.reduceAdd, reduceCtorEq, reduceIte, ↓reduceIte, tt, vgo, vout, vgoD, voutD, vclsOk, vids, mayWrite, V.ids, vguard, callOf, vop, ev, cv, vbin, vint, isShift, isNilConst, vload, clsAt, rms, vI, hil, hilw, hat, hatw, hw1, hw2, hpl, h20, Int.natCast_nonneg, Int.toNat_natCast, Nat.mul_one]
        subst hQ
        exact FnPost.plain trivial (fun h2 e => by first | rfl | (simp only [Tryz.f58, vres, vresL, vres1, e _, gos, if_true, if_false, ne_eq, eq_self, Nat.reduceLT, Nat.reduceEqDiff, Nat.reduceAdd, Nat.reduceMul, Nat.reduceLeDiff, Nat.reduceBEq, reduceCtorEq, reduceIte, Array.toList, ↓reduceIte, tt, vgo, vout, vgoD, voutD, vclsOk, vids, mayWrite, V.ids, V.mids, vguard, callOf, vop, ev, cv, vbin, vint, isShift, isNilConst, vnil, isNilSlice, vload, vlen, newRow, vfill, vslice, entOf, vappend, srcOf, vcopy, vlookup, vupdate, mapOk, keyOf, intsOf, clsAt]; try rfl)) (WkV.pure (by simp only [V.into])) ⟨by rw [rCanBe, range_all_false (i := i) (by omega) (by simp; omega)], rfl⟩
      · simp only [gos, eq_self, Nat.reduceLT, Nat.reduceEqDiff, Nat.reduceAdd, reduceCtorEq, reduceIte, ↓reduceIte, tt, vgo, vout, vgoD, voutD, vclsOk, vids, mayWrite, V.ids, vguard, callOf, vop, ev, cv, vbin, vint, isShift, isNilConst, vload, clsAt, rms, vI, hil, hilw, hat, hatw, hw1, hw2, hpl, h20, Int.natCast_nonneg, Int.toNat_natCast, Nat.mul_one]
        refine Nx.mk (i + 1) (show m.length - (i + 1) < m.length - i by omega) ⟨by omega, fun j hlt => ?_⟩ (Wk.env (by simp [subE, Env.get, i64_succ (show (i : Int) < 9223372036854775807 by omega)]))
        rcases Nat.lt_or_eq_of_le (Nat.le_of_lt_succ hlt) with h | rfl
        · exact hj j h
        · simp; omega
  · simp only [gos, eq_self, Nat.reduceLT, Nat.reduceEqDiff, reduceIte, ↓reduceIte, tt, vgo, vout, vguard, callOf, vop, ev, cv, vbin, vint, isShift, isNilConst, vlen, vI, hil]
    subst hQ
    exact FnPost.plain trivial (fun h2 e => by first | rfl | (simp only [Tryz.f58, vres, vresL, vres1, e _, gos, if_true, if_false, ne_eq, eq_self, Nat.reduceLT, Nat.reduceEqDiff, Nat.reduceAdd, Nat.reduceMul, Nat.reduceLeDiff, Nat.reduceBEq, reduceCtorEq, reduceIte, Array.toList, ↓reduceIte, tt, vgo, vout, vgoD, voutD, vclsOk, vids, mayWrite, V.ids, V.mids, vguard, callOf, vop, ev, cv, vbin, vint, isShift, isNilConst, vnil, isNilSlice, vload, vlen, newRow, vfill, vslice, entOf, vappend, srcOf, vcopy, vlookup, vupdate, mapOk, keyOf, intsOf, clsAt]; try rfl)) (WkV.pure (by simp only [V.into])) ⟨by rw [rCanBe, range_all_true fun j hj' => hj j (by omega)], rfl⟩
end Go.Vm

set_option linter.unusedVariables false
set_option linter.unusedSimpArgs false
set_option maxRecDepth 100000
namespace Go.Vm
open Go.Proofs
/-- The bounds under which the reference's functions of a room and numbers of baths are followed. -/
structure MOk (r : Rm) (m : List Int) : Prop where
  bu : 0 ≤ r.bu ∧ r.bu ≤ 1000
  len : (m.length : Int) ≤ 100000
  wl : r.cu.want.length = m.length
  wb : ∀ x ∈ r.cu.want, 0 ≤ x ∧ x ≤ 1000
  mb : ∀ x ∈ m, 0 ≤ x ∧ x ≤ 900
end Go.Vm

set_option linter.unusedVariables false
set_option linter.unusedSimpArgs false
set_option maxRecDepth 100000
namespace Go.Vm
open Go.Proofs
theorem rNumN_len (r : Rm) (plan : List Int) (b : Nat) : ∀ i, (rNumN r plan b i).length = (r.cu.last + 1).toNat
  | 0 => by simp [rNumN, zerosN]
  | i + 1 => by
    rw [rNumN]
    split
    · rw [inc_len, rNumN_len r plan b i]
    · exact rNumN_len r plan b i
theorem rNumN_le (r : Rm) (plan : List Int) (b : Nat) (hp : ∀ x ∈ plan, 0 ≤ x ∧ x ≤ r.cu.last) : ∀ i, i ≤ plan.length → ∀ j : Nat, 0 ≤ gi (rNumN r plan b i) j ∧ gi (rNumN r plan b i) j ≤ i
  | 0, _, j => by rw [rNumN, zerosN, gi_zeros]; omega
  | i + 1, hi, j => by
    have ih := rNumN_le r plan b hp i (by omega) j
    have hx := hp _ (gi_mem (l := plan) (i := i) (by omega))
    rw [rNumN]
    split
    · rw [inc_gi hx.1 (by rw [rNumN_len]; omega)]
      split <;> omega
    · omega
theorem c_r9Numbers (r : Rm) (hl : 0 ≤ r.cu.last ∧ r.cu.last ≤ 4) (plan : List Int) (hp : plan.length ≤ 5) (hm : ∀ x ∈ plan, 0 ≤ x ∧ x ≤ r.cu.last) (b : Nat) (hb : b < 32) : Pu Tryz.prog (.fn 75 [] []) [.agg r.cs, vI plan, vi b] (vI (rNum r plan b)) := by
  refine Ev.fn Tryz.func75 rfl rfl (Fn.body tabOk Tryz.func75 rfl (Nat.le_of_ble_eq_true rfl) (Ks.ok (fz := (fzn [])) (cl := (cln [])) tabOk mixed ?_))
  generalize hQ : FnPost tt Tryz.f75 _ _ = Q
  simp only [Tryz.f75, List.nil_append, List.append_nil, argsEnv, Nat.reduceAdd]
  have hw : IntKind.i64.wrap (r.cu.last + 1) = r.cu.last + 1 := i64_in (by omega) (by omega)
  have hge : 0 ≤ r.cu.last + 1 := by omega
  have hle : r.cu.last + 1 ≤ 1000000 := by omega
  simp only [gos, eq_self, Nat.reduceLT, Nat.reduceEqDiff, Nat.reduceLeDiff, reduceCtorEq, reduceIte, ↓reduceIte, tt, vgo, vout, vguard, callOf, vop, ev, cv, vbin, vint, isShift, isNilConst, vload, newRow, rms, vI, hw, hge, hle]
  let L := (r.cu.last + 1).toNat
  refine W.loop tabOk mixed (fun i : Nat => ([(1, vI plan), (2, vi b), (7, .own 13 0 0 1 (r.cu.last + 1).toNat), (8, vi i)], [(13, ⟨0, .row (cI (rNumN r plan b i))⟩)])) (fun i => plan.length - i) (fun i => i ≤ plan.length) 0 (by omega) (Wk.heap (fun j => ?_) (by simp [subE, Env.get, vI])) ?_
  · rw [show rNumN r plan b 0 = List.replicate (r.cu.last + 1).toNat 0 from rfl, ← zeros_vi]
  intro i hi
  have hnl := rNumN_len r plan b i
  by_cases hil : (i : Int) < plan.length
  · have hx := hm _ (gi_mem (l := plan) (i := i) (by omega))
    have hat := cI_at (Int.natCast_nonneg i) hil
    rw [Int.toNat_natCast, Nat.mul_one] at hat
    have hw1 := u64_in (n := (i : Int)) (by omega) (by omega)
    have hn : ¬ (i : Int) < 0 := by omega
    have hs := shr5 hb (p := i) (by omega)
    have hbt := bit5 hb (p := i) (by omega)
    have z2 : ¬ (2 : Int) = 0 := by omega
    have hsx : rNumN r plan b (i + 1) = if b.testBit i = true then inc (rNumN r plan b i) (gi plan i) else rNumN r plan b i := rfl
    cases ht : b.testBit i with
    | true =>
      rw [ht, if_pos rfl] at hsx
      have hxl : gi plan i < (rNumN r plan b i).length := by rw [hnl]; omega
      have hxL : gi plan i < (((r.cu.last + 1).toNat : Nat) : Int) := by omega
      have e2 := cI_at hx.1 hxl
      rw [Nat.mul_one] at e2
      have hge2 := rNumN_le r plan b hm i hi (gi plan i).toNat
      rw [show (((gi plan i).toNat : Nat) : Int) = gi plan i by omega] at hge2
      have hw2 := i64_in (show -9223372036854775808 ≤ gi (rNumN r plan b i) (gi plan i) + 1 by omega) (show gi (rNumN r plan b i) (gi plan i) + 1 ≤ 9223372036854775807 by omega)
      have hc : (gi plan i).toNat + 1 ≤ (cI (rNumN r plan b i)).length := by rw [cI_len, hnl]; omega
      have hst : List.take (gi plan i).toNat (cI (rNumN r plan b i)) ++ [V.int IntKind.i64 (gi (rNumN r plan b i) (gi plan i) + 1)] ++ List.drop ((gi plan i).toNat + 1) (cI (rNumN r plan b i)) = cI (rNumN r plan b (i + 1)) := by
        rw [hsx, inc]; exact cI_set _ (by rw [hnl]; omega)
      simp only [gos, eq_self, Nat.reduceLT, Nat.reduceEqDiff, reduceCtorEq, reduceIte, ↓reduceIte, tt, vgo, vout, vguard, callOf, vop, ev, cv, vbin, vint, isShift, isNilConst, vload, vlen, vI, hil, hw1, hn, hs, hbt, ht, z2]
      simp only [gos, eq_self, Nat.reduceLT, Nat.reduceEqDiff, reduceCtorEq, reduceIte, ↓reduceIte, tt, vgo, vout, vguard, callOf, vop, ev, cv, vbin, vint, isShift, isNilConst, vload, hat, hx.1, hxL, e2, hw2, hc, hst, Int.toNat_natCast, Nat.mul_one, Nat.zero_add]
      exact Nx.mk (i + 1) (show plan.length - (i + 1) < plan.length - i by omega) (show i + 1 ≤ plan.length by omega) (Wk.env (by simp [subE, Env.get, i64_succ (show (i : Int) < 9223372036854775807 by omega)]))
    | false =>
      rw [ht, if_neg (by simp)] at hsx
      simp only [gos, eq_self, Nat.reduceLT, Nat.reduceEqDiff, reduceIte, ↓reduceIte, tt, vgo, vout, vguard, callOf, vop, ev, cv, vbin, vint, isShift, isNilConst, vlen, vI, hil, hw1, hn, hs, hbt, ht, z2]
      exact Nx.mk (i + 1) (show plan.length - (i + 1) < plan.length - i by omega) (show i + 1 ≤ plan.length by omega) (by rw [hsx]; exact Wk.env (by simp [subE, Env.get, i64_succ (show (i : Int) < 9223372036854775807 by omega)]))
  · have hie : i = plan.length := by omega
    subst hie
    simp only [gos, eq_self, Nat.reduceLT, Nat.reduceEqDiff, reduceIte, ↓reduceIte, tt, vgo, vout, vguard, callOf, vop, ev, vbin, vint, isShift, isNilConst, vlen, vI, hil]
    subst hQ
    rw [show rNum r plan b = rNumN r plan b plan.length from rfl]
    have ht : (cI (rNumN r plan b plan.length)).take (r.cu.last + 1).toNat = cI (rNumN r plan b plan.length) := List.take_of_length_le (by rw [cI_len, hnl]; omega)
    refine FnPost.plain trivial (v := .own 13 0 0 1 (r.cu.last + 1).toNat) (fun h2 e => by rfl) (WkV.frz 13 (v' := vI (rNumN r plan b plan.length)) (h' := []) (ver := 0) (cs := cI (rNumN r plan b plan.length)) rfl rfl (cI_into _ _) rfl ?_ ?_ WkV.refl) ⟨rfl, rfl⟩
    · simp [V.frz, vI, ht, hnl]
    · simp [frzH]
end Go.Vm

set_option linter.unusedVariables false
set_option linter.unusedSimpArgs false
set_option maxRecDepth 100000
namespace Go.Vm
open Go.Proofs
def rIsPlan (r : Rm) (plan : List Int) (b : Nat) : Bool := decide (plan.length = r.ba.length) && (List.range plan.length).all fun i => !b.testBit i || sIn (gi plan i) (gR r.ba i).lo (gR r.ba i).hi
theorem c_r9IsPlan (r : Rm) (hba : r.ba.length ≤ 5) (plan : List Int) (hp : (plan.length : Int) ≤ 1000000) (b : Nat) (hb : b < 32) : Pu Tryz.prog (.fn 65 [] []) [.agg r.cs, vI plan, vi b] (.bool (rIsPlan r plan b)) := by
  refine Ev.fn Tryz.func65 rfl rfl (Fn.body tabOk Tryz.func65 rfl (Nat.le_of_ble_eq_true rfl) (Ks.ok (fz := (fzn [])) (cl := (cln [(6, .d tg0 [cP, cP, cP, cP, cP, cP, cP, cP, cP, cP, cP, cP, cP, cP, cP, cP, cP, cP, cP, cP, cP, cP, cP, cP, cP, cP])])) tabOk mixed ?_))
  generalize hQ : FnPost tt Tryz.f65 _ _ = Q
  simp only [Tryz.f65, List.nil_append, List.append_nil, argsEnv, Nat.reduceAdd]
  by_cases hl : plan.length = r.ba.length
  case neg =>
    have hb2 : ((plan.length : Int) != (r.ba.length : Int)) = true := by simp; omega
    simp only [gos, eq_self, Nat.reduceLT, Nat.reduceEqDiff, reduceCtorEq, reduceIte, ↓reduceIte, tt, vgo, vout, vguard, callOf, vop, ev, cv, vbin, vint, isShift, isNilConst, vload, vlen, newRow, rms, vI, vR, hb2]
    subst hQ
    exact FnPost.plain trivial (fun h2 e => by first | rfl | (simp only [Tryz.f65, vres, vresL, vres1, e _, gos, if_true, if_false, ne_eq, eq_self, Nat.reduceLT, Nat.reduceEqDiff, Nat.reduceAdd, Nat.reduceMul, Nat.reduceLeDiff, Nat.reduceBEq, reduceCtorEq, reduceIte, Array.toList, ↓reduceIte, tt, vgo, vout, vgoD, voutD, vclsOk, vids, mayWrite, V.ids, V.mids, vguard, callOf, vop, ev, cv, vbin, vint, isShift, isNilConst, vnil, isNilSlice, vload, vlen, newRow, vfill, vslice, entOf, vappend, srcOf, vcopy, vlookup, vupdate, mapOk, keyOf, intsOf, clsAt]; try rfl)) (WkV.pure (by simp only [V.into])) ⟨by simp [rIsPlan, hl], rfl⟩
  have hne : ((plan.length : Int) != (r.ba.length : Int)) = false := by simp [hl]
  simp only [gos, eq_self, Nat.reduceLT, Nat.reduceEqDiff, reduceCtorEq, reduceIte, ↓reduceIte, tt, vgo, vout, vguard, callOf, vop, ev, cv, vbin, vint, isShift, isNilConst, vload, vlen, newRow, rms, vI, vR, hne]
  refine W.loop tabOk mixed (fun i : Nat => ([(1, vI plan), (2, vi b), (3, .rop r.cs), (7, vi i)], [])) (fun i => plan.length - i) (fun i => i ≤ plan.length ∧ ∀ j < i, (!b.testBit j || sIn (gi plan j) (gR r.ba j).lo (gR r.ba j).hi) = true) 0 ⟨by omega, fun j hj => by omega⟩ (Wk.env (by simp [subE, Env.get, vI])) ?_
  rintro i ⟨hi, hj⟩
  by_cases hil : (i : Int) < plan.length
  · have hilb : (i : Int) < r.ba.length := by omega
    have hat := cI_at (Int.natCast_nonneg i) hil
    have hab := cR_at (Int.natCast_nonneg i) hilb
    rw [Int.toNat_natCast] at hat hab
    rw [Nat.mul_one] at hat
    have hw1 := u64_in (n := (i : Int)) (by omega) (by omega)
    have hn : ¬ (i : Int) < 0 := by omega
    have hs := shr5 hb (p := i) (by omega)
    have hbt := bit5 hb (p := i) (by omega)
    have z2 : ¬ (2 : Int) = 0 := by omega
    simp only [gos, eq_self, Nat.reduceLT, Nat.reduceEqDiff, reduceIte, ↓reduceIte, tt, vgo, vout, vguard, callOf, vop, ev, vbin, vint, isShift, isNilConst, vlen, vI, hil]
    refine Wr.draw (by kernel_rfl) ?_
    cases ht : b.testBit i with
    | false =>
      simp only [gos, eq_self, Nat.reduceLT, Nat.reduceEqDiff, Nat.reduceAdd, reduceIte, ↓reduceIte, tt, vgo, vout, vgoD, voutD, vclsOk, vids, mayWrite, vguard, callOf, vop, ev, cv, vbin, vint, isShift, isNilConst, clsAt, hw1, hn, hs, hbt, ht, z2]
      refine Nx.mk (i + 1) (show plan.length - (i + 1) < plan.length - i by omega) ⟨by omega, fun j hlt => ?_⟩ (Wk.env (by simp [subE, Env.get, i64_succ (show (i : Int) < 9223372036854775807 by omega)]))
      rcases Nat.lt_or_eq_of_le (Nat.le_of_lt_succ hlt) with h | rfl
      · exact hj j h
      · simp [ht]
    | true =>
      simp only [gos, eq_self, Nat.reduceLT, Nat.reduceEqDiff, Nat.reduceAdd, reduceCtorEq, reduceIte, ↓reduceIte, tt, vgoD, voutD, vclsOk, vids, mayWrite, V.ids, vguard, callOf, vop, ev, cv, vbin, vint, isShift, isNilConst, vload, clsAt, hil, hw1, hn, hs, hbt, ht, z2]
      simp only [gos, eq_self, Nat.reduceLT, Nat.reduceEqDiff, reduceCtorEq, reduceIte, ↓reduceIte, tt, vgoD, voutD, vclsOk, vids, mayWrite, V.ids, vguard, callOf, vop, ev, vload, rms, vR, hilb, hat, hab, Int.natCast_nonneg, Int.toNat_natCast, Nat.mul_one]
      refine CD.pu (c_rIn (gi plan i) (gR r.ba i).lo (gR r.ba i).hi) ?_
      cases h2 : sIn (gi plan i) (gR r.ba i).lo (gR r.ba i).hi with
      | false =>
        simp only [gos, eq_self, Nat.reduceLT, Nat.reduceEqDiff, reduceIte, ↓reduceIte, vgo, vout, vgoD, voutD, vclsOk, vids, mayWrite, vguard, callOf, vop, ev, cv]
        subst hQ
        exact FnPost.plain trivial (fun h2 e => by first | rfl | (simp only [Tryz.f65, vres, vresL, vres1, e _, gos, if_true, if_false, ne_eq, eq_self, Nat.reduceLT, Nat.reduceEqDiff, Nat.reduceAdd, Nat.reduceMul, Nat.reduceLeDiff, Nat.reduceBEq, reduceCtorEq, reduceIte, Array.toList, ↓reduceIte, tt, vgo, vout, vgoD, voutD, vclsOk, vids, mayWrite, V.ids, V.mids, vguard, callOf, vop, ev, cv, vbin, vint, isShift, isNilConst, vnil, isNilSlice, vload, vlen, newRow, vfill, vslice, entOf, vappend, srcOf, vcopy, vlookup, vupdate, mapOk, keyOf, intsOf, clsAt]; try rfl)) (WkV.pure (by simp only [V.into])) ⟨by rw [rIsPlan, range_all_false (i := i) (by omega) (by simp [ht, h2])]; simp, rfl⟩
      | true =>
        simp only [gos, eq_self, Nat.reduceLT, Nat.reduceEqDiff, reduceIte, ↓reduceIte, vgo, vout, vgoD, voutD, vclsOk, vids, mayWrite, vguard, callOf, vop, ev, cv, vbin, vint, isShift, isNilConst]
        refine Nx.mk (i + 1) (show plan.length - (i + 1) < plan.length - i by omega) ⟨by omega, fun j hlt => ?_⟩ (Wk.env (by simp [subE, Env.get, i64_succ (show (i : Int) < 9223372036854775807 by omega)]))
        rcases Nat.lt_or_eq_of_le (Nat.le_of_lt_succ hlt) with h | rfl
        · exact hj j h
        · simp [h2]
  · simp only [gos, eq_self, Nat.reduceLT, Nat.reduceEqDiff, reduceIte, ↓reduceIte, tt, vgo, vout, vguard, callOf, vop, ev, cv, vbin, vint, isShift, isNilConst, vlen, vI, hil]
    subst hQ
    exact FnPost.plain trivial (fun h2 e => by first | rfl | (simp only [Tryz.f65, vres, vresL, vres1, e _, gos, if_true, if_false, ne_eq, eq_self, Nat.reduceLT, Nat.reduceEqDiff, Nat.reduceAdd, Nat.reduceMul, Nat.reduceLeDiff, Nat.reduceBEq, reduceCtorEq, reduceIte, Array.toList, ↓reduceIte, tt, vgo, vout, vgoD, voutD, vclsOk, vids, mayWrite, V.ids, V.mids, vguard, callOf, vop, ev, cv, vbin, vint, isShift, isNilConst, vnil, isNilSlice, vload, vlen, newRow, vfill, vslice, entOf, vappend, srcOf, vcopy, vlookup, vupdate, mapOk, keyOf, intsOf, clsAt]; try rfl)) (WkV.pure (by simp only [V.into])) ⟨by rw [rIsPlan, range_all_true fun j hj' => hj j (by omega)]; simp [hl], rfl⟩
end Go.Vm

set_option linter.unusedVariables false
set_option linter.unusedSimpArgs false
set_option maxRecDepth 100000
namespace Go.Vm
open Go.Proofs
/-! ### the reference's Fault of a room -/
set_option maxHeartbeats 2000000 in
theorem c_r9Fault (r : Rm) (hr : r.wf) : Pu Tryz.prog (.fn 73 [] []) [.agg r.cs] (vi (sCheckR r)) := by
  refine Ev.fn Tryz.func73 rfl rfl (Fn.body tabOk Tryz.func73 rfl (Nat.le_of_ble_eq_true rfl) (Ks.ok (fz := (fzn [5])) (cl := (cln [])) tabOk mixed ?_))
  generalize hQ : FnPost tt Tryz.f73 _ _ = Q
  simp only [Tryz.f73, List.nil_append, List.append_nil, argsEnv]
  have hone : oneL r.cu.cs = true := rfl
  simp only [gos, eq_self, Nat.reduceLT, Nat.reduceEqDiff, Nat.reduceLeDiff, reduceCtorEq, reduceIte, ↓reduceIte, tt, vgo, vout, vguard, callOf, vop, ev, cv, vload, newRow, rms]
  refine Cl.pu (c_rFault r.cu hr.cu) ?_ rfl (by simp only [V.into, intoL, cu_into, Bool.and_true])
  by_cases h0 : sCheck r.cu = 0
  case neg =>
    have hb : (sCheck r.cu != 0) = true := by simp [h0]
    simp only [gos, eq_self, Nat.reduceLT, Nat.reduceEqDiff, reduceIte, ↓reduceIte, vgo, vout, vguard, callOf, vop, ev, cv, vbin, vint, isShift, isNilConst, hb]
    have ha : sAsked r.cu true = sCheck r.cu := by simp [sAsked, h0]
    subst hQ
    exact FnPost.plain trivial (fun h2 e => by first | rfl | (simp only [Tryz.f73, vres, vresL, vres1, e _, gos, if_true, if_false, ne_eq, eq_self, Nat.reduceLT, Nat.reduceEqDiff, Nat.reduceAdd, Nat.reduceMul, Nat.reduceLeDiff, Nat.reduceBEq, reduceCtorEq, reduceIte, Array.toList, ↓reduceIte, tt, vgo, vout, vgoD, voutD, vclsOk, vids, mayWrite, V.ids, V.mids, vguard, callOf, vop, ev, cv, vbin, vint, isShift, isNilConst, vnil, isNilSlice, vload, vlen, newRow, vfill, vslice, entOf, vappend, srcOf, vcopy, vlookup, vupdate, mapOk, keyOf, intsOf, clsAt]; try rfl)) (WkV.pure (by simp only [V.into])) ⟨by simp [sCheckR, ha, h0], rfl⟩
  have hb : (sCheck r.cu != 0) = false := by simp [h0]
  have k0 := sCheck_ok h0
  simp only [gos, eq_self, Nat.reduceLT, Nat.reduceEqDiff, Nat.reduceLeDiff, reduceCtorEq, reduceIte, ↓reduceIte, tt, vgo, vout, vguard, callOf, vop, ev, cv, vbin, vint, isShift, isNilConst, vload, rms, hb]
  refine Cl.pu (c_rTruths r.cu k0) ?_ rfl (by simp only [V.into, intoL, cu_into, Bool.and_true])
  by_cases hnt : rTruths r.cu = []
  · have hd : decide (((rTruths r.cu).length : Int) = 0) = true := by simp [hnt]
    simp only [gos, eq_self, Nat.reduceLT, reduceIte, ↓reduceIte, tt, vgo, vout, vguard, callOf, vop, ev, cv, vbin, vint, isShift, isNilConst, vlen, vT, hd]
    have ha : sAsked r.cu true = 11 := by simp [sAsked, h0, (same_nil k0).2 hnt]
    subst hQ
    exact FnPost.plain trivial (fun h2 e => by first | rfl | (simp only [Tryz.f73, vres, vresL, vres1, e _, gos, if_true, if_false, ne_eq, eq_self, Nat.reduceLT, Nat.reduceEqDiff, Nat.reduceAdd, Nat.reduceMul, Nat.reduceLeDiff, Nat.reduceBEq, reduceCtorEq, reduceIte, Array.toList, ↓reduceIte, tt, vgo, vout, vgoD, voutD, vclsOk, vids, mayWrite, V.ids, V.mids, vguard, callOf, vop, ev, cv, vbin, vint, isShift, isNilConst, vnil, isNilSlice, vload, vlen, newRow, vfill, vslice, entOf, vappend, srcOf, vcopy, vlookup, vupdate, mapOk, keyOf, intsOf, clsAt]; try rfl)) (WkV.pure (by simp only [V.into])) ⟨by simp [sCheckR, ha], rfl⟩
  have hd : decide (((rTruths r.cu).length : Int) = 0) = false := by
    rw [decide_eq_false_iff_not]
    intro h
    exact hnt (List.length_eq_zero_iff.1 (by omega))
  have ha : sAsked r.cu true = 0 := by
    have : sTruth r.cu ≠ [] := fun h => hnt ((same_nil k0).1 h)
    simp [sAsked, h0, this]
  simp only [gos, eq_self, Nat.reduceLT, Nat.reduceEqDiff, reduceCtorEq, reduceIte, ↓reduceIte, tt, vgo, vout, vguard, callOf, vop, ev, cv, vbin, vint, isShift, isNilConst, vload, vlen, rms, vT, hd]
  by_cases h1 : 5 < r.pl
  · simp only [gos, eq_self, Nat.reduceLT, Nat.reduceEqDiff, reduceIte, ↓reduceIte, vgo, vout, vguard, callOf, vop, ev, cv, h1]
    subst hQ
    exact FnPost.plain trivial (fun h2 e => by first | rfl | (simp only [Tryz.f73, vres, vresL, vres1, e _, gos, if_true, if_false, ne_eq, eq_self, Nat.reduceLT, Nat.reduceEqDiff, Nat.reduceAdd, Nat.reduceMul, Nat.reduceLeDiff, Nat.reduceBEq, reduceCtorEq, reduceIte, Array.toList, ↓reduceIte, tt, vgo, vout, vgoD, voutD, vclsOk, vids, mayWrite, V.ids, V.mids, vguard, callOf, vop, ev, cv, vbin, vint, isShift, isNilConst, vnil, isNilSlice, vload, vlen, newRow, vfill, vslice, entOf, vappend, srcOf, vcopy, vlookup, vupdate, mapOk, keyOf, intsOf, clsAt]; try rfl)) (WkV.pure (by simp only [V.into])) ⟨by simp [sCheckR, ha, h1], rfl⟩
  by_cases h2 : 5 < (r.ba.length : Int)
  · simp only [gos, eq_self, Nat.reduceLT, Nat.reduceEqDiff, reduceCtorEq, reduceIte, ↓reduceIte, tt, vgo, vout, vguard, callOf, vop, ev, cv, vbin, vint, isShift, isNilConst, vload, vlen, rms, vR, h1, h2]
    subst hQ
    exact FnPost.plain trivial (fun h2 e => by first | rfl | (simp only [Tryz.f73, vres, vresL, vres1, e _, gos, if_true, if_false, ne_eq, eq_self, Nat.reduceLT, Nat.reduceEqDiff, Nat.reduceAdd, Nat.reduceMul, Nat.reduceLeDiff, Nat.reduceBEq, reduceCtorEq, reduceIte, Array.toList, ↓reduceIte, tt, vgo, vout, vgoD, voutD, vclsOk, vids, mayWrite, V.ids, V.mids, vguard, callOf, vop, ev, cv, vbin, vint, isShift, isNilConst, vnil, isNilSlice, vload, vlen, newRow, vfill, vslice, entOf, vappend, srcOf, vcopy, vlookup, vupdate, mapOk, keyOf, intsOf, clsAt]; try rfl)) (WkV.pure (by simp only [V.into])) ⟨by simp [sCheckR, ha, h2], rfl⟩
  have hC : sCheckR r = if (decide (r.pl < 0) || (!sIn r.bu 1 9 || !r.ba.all (sValid r))) = true then 1 else 0 := by simp [sCheckR, ha, h1, h2]
  by_cases h3 : r.bu < 1
  · simp only [gos, eq_self, Nat.reduceLT, Nat.reduceEqDiff, reduceCtorEq, reduceIte, ↓reduceIte, tt, vgo, vout, vguard, callOf, vop, ev, cv, vbin, vint, isShift, isNilConst, vload, vlen, rms, vR, h1, h2, h3]
    subst hQ
    exact FnPost.plain trivial (fun h2 e => by first | rfl | (simp only [Tryz.f73, vres, vresL, vres1, e _, gos, if_true, if_false, ne_eq, eq_self, Nat.reduceLT, Nat.reduceEqDiff, Nat.reduceAdd, Nat.reduceMul, Nat.reduceLeDiff, Nat.reduceBEq, reduceCtorEq, reduceIte, Array.toList, ↓reduceIte, tt, vgo, vout, vgoD, voutD, vclsOk, vids, mayWrite, V.ids, V.mids, vguard, callOf, vop, ev, cv, vbin, vint, isShift, isNilConst, vnil, isNilSlice, vload, vlen, newRow, vfill, vslice, entOf, vappend, srcOf, vcopy, vlookup, vupdate, mapOk, keyOf, intsOf, clsAt]; try rfl)) (WkV.pure (by simp only [V.into])) ⟨by rw [hC, if_pos (by simp [sIn]; omega)], rfl⟩
  by_cases h4 : 9 < r.bu
  · simp only [gos, eq_self, Nat.reduceLT, Nat.reduceEqDiff, reduceCtorEq, reduceIte, ↓reduceIte, tt, vgo, vout, vguard, callOf, vop, ev, cv, vbin, vint, isShift, isNilConst, vload, vlen, rms, vR, h1, h2, h3, h4]
    subst hQ
    exact FnPost.plain trivial (fun h2 e => by first | rfl | (simp only [Tryz.f73, vres, vresL, vres1, e _, gos, if_true, if_false, ne_eq, eq_self, Nat.reduceLT, Nat.reduceEqDiff, Nat.reduceAdd, Nat.reduceMul, Nat.reduceLeDiff, Nat.reduceBEq, reduceCtorEq, reduceIte, Array.toList, ↓reduceIte, tt, vgo, vout, vgoD, voutD, vclsOk, vids, mayWrite, V.ids, V.mids, vguard, callOf, vop, ev, cv, vbin, vint, isShift, isNilConst, vnil, isNilSlice, vload, vlen, newRow, vfill, vslice, entOf, vappend, srcOf, vcopy, vlookup, vupdate, mapOk, keyOf, intsOf, clsAt]; try rfl)) (WkV.pure (by simp only [V.into])) ⟨by rw [hC, if_pos (by simp [sIn]; omega)], rfl⟩
  by_cases h5 : r.pl < 0
  · simp only [gos, eq_self, Nat.reduceLT, Nat.reduceEqDiff, reduceCtorEq, reduceIte, ↓reduceIte, tt, vgo, vout, vguard, callOf, vop, ev, cv, vbin, vint, isShift, isNilConst, vload, vlen, rms, vR, h1, h2, h3, h4, h5]
    subst hQ
    exact FnPost.plain trivial (fun h2 e => by first | rfl | (simp only [Tryz.f73, vres, vresL, vres1, e _, gos, if_true, if_false, ne_eq, eq_self, Nat.reduceLT, Nat.reduceEqDiff, Nat.reduceAdd, Nat.reduceMul, Nat.reduceLeDiff, Nat.reduceBEq, reduceCtorEq, reduceIte, Array.toList, ↓reduceIte, tt, vgo, vout, vgoD, voutD, vclsOk, vids, mayWrite, V.ids, V.mids, vguard, callOf, vop, ev, cv, vbin, vint, isShift, isNilConst, vnil, isNilSlice, vload, vlen, newRow, vfill, vslice, entOf, vappend, srcOf, vcopy, vlookup, vupdate, mapOk, keyOf, intsOf, clsAt]; try rfl)) (WkV.pure (by simp only [V.into])) ⟨by rw [hC, if_pos (by simp [h5])], rfl⟩
  simp only [gos, eq_self, Nat.reduceLT, Nat.reduceEqDiff, reduceCtorEq, reduceIte, ↓reduceIte, tt, vgo, vout, vguard, callOf, vop, ev, cv, vbin, vint, isShift, isNilConst, vload, vlen, rms, vR, h1, h2, h3, h4, h5]
  refine W.loop tabOk mixed (fun i : Nat => ([(1, .rop r.cs), (4, vi i)], [])) (fun i => r.ba.length - i) (fun i => i ≤ r.ba.length ∧ ∀ j < i, sValid r (gR r.ba j) = true) 0 ⟨by omega, fun j hj => by omega⟩ (Wk.env (by simp [subE, Env.get])) ?_
  rintro i ⟨hi, hj⟩
  by_cases hil : (i : Int) < r.ba.length
  · have hab := cR_at (Int.natCast_nonneg i) hil
    rw [Int.toNat_natCast] at hab
    have hno : sValid r (gR r.ba i) = false → sCheckR r = 1 := fun hv => by
      rw [hC, if_pos]
      have : r.ba.all (sValid r) = false := by
        rw [List.all_eq_false]
        exact ⟨_, List.mem_of_getElem? (gR_get hil), by simp [hv]⟩
      simp [this]
    by_cases g1 : (gR r.ba i).lo < 0
    · simp only [gos, eq_self, Nat.reduceLT, Nat.reduceEqDiff, Nat.reduceAdd, reduceCtorEq, reduceIte, ↓reduceIte, tt, vgo, vout, vguard, callOf, vop, ev, cv, vbin, vint, isShift, isNilConst, vload, vlen, newRow, rms, vR, hil, hab, Int.natCast_nonneg, Int.toNat_natCast, g1]
      subst hQ
      exact FnPost.plain trivial (fun h2 e => by first | rfl | (simp only [Tryz.f73, vres, vresL, vres1, e _, gos, if_true, if_false, ne_eq, eq_self, Nat.reduceLT, Nat.reduceEqDiff, Nat.reduceAdd, Nat.reduceMul, Nat.reduceLeDiff, Nat.reduceBEq, reduceCtorEq, reduceIte, Array.toList, ↓reduceIte, tt, vgo, vout, vgoD, voutD, vclsOk, vids, mayWrite, V.ids, V.mids, vguard, callOf, vop, ev, cv, vbin, vint, isShift, isNilConst, vnil, isNilSlice, vload, vlen, newRow, vfill, vslice, entOf, vappend, srcOf, vcopy, vlookup, vupdate, mapOk, keyOf, intsOf, clsAt]; try rfl)) (WkV.pure (by simp only [V.into])) ⟨by rw [hno (by simp [sValid]; omega)], rfl⟩
    by_cases g2 : (gR r.ba i).hi < (gR r.ba i).lo
    · simp only [gos, eq_self, Nat.reduceLT, Nat.reduceEqDiff, Nat.reduceAdd, reduceCtorEq, reduceIte, ↓reduceIte, tt, vgo, vout, vguard, callOf, vop, ev, cv, vbin, vint, isShift, isNilConst, vload, vlen, newRow, rms, vR, hil, hab, Int.natCast_nonneg, Int.toNat_natCast, g1, g2]
      subst hQ
      exact FnPost.plain trivial (fun h2 e => by first | rfl | (simp only [Tryz.f73, vres, vresL, vres1, e _, gos, if_true, if_false, ne_eq, eq_self, Nat.reduceLT, Nat.reduceEqDiff, Nat.reduceAdd, Nat.reduceMul, Nat.reduceLeDiff, Nat.reduceBEq, reduceCtorEq, reduceIte, Array.toList, ↓reduceIte, tt, vgo, vout, vgoD, voutD, vclsOk, vids, mayWrite, V.ids, V.mids, vguard, callOf, vop, ev, cv, vbin, vint, isShift, isNilConst, vnil, isNilSlice, vload, vlen, newRow, vfill, vslice, entOf, vappend, srcOf, vcopy, vlookup, vupdate, mapOk, keyOf, intsOf, clsAt]; try rfl)) (WkV.pure (by simp only [V.into])) ⟨by rw [hno (by simp [sValid]; omega)], rfl⟩
    by_cases g3 : r.cu.last < (gR r.ba i).hi
    · simp only [gos, eq_self, Nat.reduceLT, Nat.reduceEqDiff, Nat.reduceAdd, reduceCtorEq, reduceIte, ↓reduceIte, tt, vgo, vout, vguard, callOf, vop, ev, cv, vbin, vint, isShift, isNilConst, vload, vlen, newRow, rms, vR, hil, hab, Int.natCast_nonneg, Int.toNat_natCast, g1, g2, g3]
      subst hQ
      exact FnPost.plain trivial (fun h2 e => by first | rfl | (simp only [Tryz.f73, vres, vresL, vres1, e _, gos, if_true, if_false, ne_eq, eq_self, Nat.reduceLT, Nat.reduceEqDiff, Nat.reduceAdd, Nat.reduceMul, Nat.reduceLeDiff, Nat.reduceBEq, reduceCtorEq, reduceIte, Array.toList, ↓reduceIte, tt, vgo, vout, vgoD, voutD, vclsOk, vids, mayWrite, V.ids, V.mids, vguard, callOf, vop, ev, cv, vbin, vint, isShift, isNilConst, vnil, isNilSlice, vload, vlen, newRow, vfill, vslice, entOf, vappend, srcOf, vcopy, vlookup, vupdate, mapOk, keyOf, intsOf, clsAt]; try rfl)) (WkV.pure (by simp only [V.into])) ⟨by rw [hno (by simp [sValid]; omega)], rfl⟩
    simp only [gos, eq_self, Nat.reduceLT, Nat.reduceEqDiff, Nat.reduceAdd, reduceCtorEq, reduceIte, ↓reduceIte, tt, vgo, vout, vguard, callOf, vop, ev, cv, vbin, vint, isShift, isNilConst, vload, vlen, newRow, rms, vR, hil, hab, Int.natCast_nonneg, Int.toNat_natCast, g1, g2, g3]
    refine Nx.mk (i + 1) (show r.ba.length - (i + 1) < r.ba.length - i by omega) ⟨by omega, fun j hlt => ?_⟩ (Wk.forget (by simp [subE, Env.get, i64_succ (show (i : Int) < 9223372036854775807 by omega)]) (by simp [subH]) (fun j hp => by simp [orD, domP, Heap.get] at hp) (by simp only [intoE, V.into, Bool.and_true, rm_into]; try rfl) (by simp only [intoH]))
    rcases Nat.lt_or_eq_of_le (Nat.le_of_lt_succ hlt) with h | rfl
    · exact hj j h
    · simp [sValid]; omega
  · simp only [gos, eq_self, Nat.reduceLT, Nat.reduceEqDiff, reduceCtorEq, reduceIte, ↓reduceIte, tt, vgo, vout, vguard, callOf, vop, ev, cv, vbin, vint, isShift, isNilConst, vload, vlen, rms, vR, hil]
    have hall : r.ba.all (sValid r) = true := by
      rw [List.all_eq_true]
      intro x hx
      obtain ⟨j, hjl, rfl⟩ := List.mem_iff_getElem.1 hx
      have h8 := gR_get (l := r.ba) (i := j) (by omega)
      rw [List.getElem?_eq_getElem hjl] at h8
      injection h8 with h8
      rw [h8]
      exact hj j (by omega)
    subst hQ
    exact FnPost.plain trivial (fun h2 e => by first | rfl | (simp only [Tryz.f73, vres, vresL, vres1, e _, gos, if_true, if_false, ne_eq, eq_self, Nat.reduceLT, Nat.reduceEqDiff, Nat.reduceAdd, Nat.reduceMul, Nat.reduceLeDiff, Nat.reduceBEq, reduceCtorEq, reduceIte, Array.toList, ↓reduceIte, tt, vgo, vout, vgoD, voutD, vclsOk, vids, mayWrite, V.ids, V.mids, vguard, callOf, vop, ev, cv, vbin, vint, isShift, isNilConst, vnil, isNilSlice, vload, vlen, newRow, vfill, vslice, entOf, vappend, srcOf, vcopy, vlookup, vupdate, mapOk, keyOf, intsOf, clsAt]; try rfl)) (WkV.pure (by simp only [V.into])) ⟨by rw [hC, if_neg (by simp [hall, sIn]; omega)], rfl⟩
end Go.Vm

set_option linter.unusedVariables false
set_option linter.unusedSimpArgs false
set_option maxRecDepth 100000
namespace Go.Vm
open Go.Proofs
/-! ### the laws' helpers for rooms -/
theorem c_list9 (l : List Int) (hl : (l.length : Int) ≤ 1000000) : Pu Tryz.prog (.fn 26 [] []) [vI l] (vI l) := by
  refine Ev.fn Tryz.func26 rfl rfl (Fn.body tabOk Tryz.func26 rfl (Nat.le_of_ble_eq_true rfl) (Ks.ok (fz := (fzn [])) (cl := (cln [])) tabOk mixed ?_))
  generalize hQ : FnPost tt Tryz.f26 _ _ = Q
  simp only [Tryz.f26, List.nil_append, List.append_nil, argsEnv]
  have hl2 : l.length ≤ 1000000 := by omega
  simp only [gos, eq_self, Nat.reduceLT, Nat.reduceLeDiff, reduceCtorEq, reduceIte, ↓reduceIte, tt, vgo, vout, vguard, callOf, vop, ev, cv, vappend, srcOf, vI, cI_len, Nat.mul_one, cI_one, hl2]
  subst hQ
  have ht : (cI l).take l.length = cI l := List.take_of_length_le (by rw [cI_len]; omega)
  refine FnPost.plain trivial (v := .own 4 0 0 1 l.length) (fun h2 e => by rfl) (WkV.frz 4 (v' := vI l) (h' := []) (ver := 0) (cs := cI l) rfl rfl (cI_into _ _) rfl ?_ ?_ WkV.refl) ⟨rfl, rfl⟩
  · simp [V.frz, vI, ht]
  · simp [frzH]
theorem c_ints9 (a b : List Int) (ha : (a.length : Int) ≤ 1000000) : Pu Tryz.prog (.fn 30 [] []) [vI a, vI b] (.bool (decide (a = b))) := by
  refine Ev.fn Tryz.func30 rfl rfl (Fn.body tabOk Tryz.func30 rfl (Nat.le_of_ble_eq_true rfl) (Ks.ok (fz := (fzn [])) (cl := (cln [(6, .d tg0 [cP, cP, cP, cP, cP, cP, cP, cP, cP])])) tabOk mixed ?_))
  generalize hQ : FnPost tt Tryz.f30 _ _ = Q
  simp only [Tryz.f30, List.nil_append, List.append_nil, argsEnv, Nat.reduceAdd]
  by_cases h : (a.length : Int) = b.length
  case neg =>
    have hb : ((a.length : Int) != b.length) = true := by simp only [bne_iff_ne, ne_eq, h, not_false_eq_true]
    simp only [gos, eq_self, Nat.reduceLT, Nat.reduceEqDiff, reduceCtorEq, reduceIte, ↓reduceIte, tt, vgo, vout, vguard, callOf, vop, ev, cv, vbin, vint, isShift, isNilConst, vlen, vI, hb]
    subst hQ
    exact FnPost.plain trivial (fun h2 e => by first | rfl | (simp only [Tryz.f30, vres, vresL, vres1, e _, gos, if_true, if_false, ne_eq, eq_self, Nat.reduceLT, Nat.reduceEqDiff, Nat.reduceAdd, Nat.reduceMul, Nat.reduceLeDiff, Nat.reduceBEq, reduceCtorEq, reduceIte, Array.toList, ↓reduceIte, tt, vgo, vout, vgoD, voutD, vclsOk, vids, mayWrite, V.ids, V.mids, vguard, callOf, vop, ev, cv, vbin, vint, isShift, isNilConst, vnil, isNilSlice, vload, vlen, newRow, vfill, vslice, entOf, vappend, srcOf, vcopy, vlookup, vupdate, mapOk, keyOf, intsOf, clsAt]; try rfl)) (WkV.pure (by simp only [V.into])) ⟨by rw [decide_eq_false]; intro e; rw [e] at h; exact h rfl, rfl⟩
  have hb : ((a.length : Int) != b.length) = false := by rw [bne_eq_false_iff_eq]; exact h
  simp only [gos, eq_self, Nat.reduceLT, Nat.reduceEqDiff, reduceCtorEq, reduceIte, ↓reduceIte, tt, vgo, vout, vguard, callOf, vop, ev, cv, vbin, vint, isShift, isNilConst, vlen, vI, hb]
  refine W.loop tabOk mixed (fun i : Nat => ([(0, vI a), (1, vI b), (5, vi i)], [])) (fun i => a.length - i) (fun i => i ≤ a.length ∧ a.take i = b.take i) 0 ⟨by omega, by simp⟩ (Wk.env (by simp [subE, Env.get, vI])) ?_
  rintro i ⟨hi, ht⟩
  by_cases hil : (i : Int) < a.length
  · have hil2 : (i : Int) < b.length := by omega
    simp only [gos, eq_self, Nat.reduceLT, Nat.reduceEqDiff, reduceCtorEq, reduceIte, ↓reduceIte, tt, vgo, vout, vguard, callOf, vop, ev, vbin, vint, isShift, isNilConst, vlen, vI, hil]
    refine Wr.draw (by kernel_rfl) ?_
    simp only [gos, eq_self, Nat.reduceLT, Nat.reduceEqDiff, Nat.reduceAdd, reduceCtorEq, reduceIte, ↓reduceIte, tt, vgoD, voutD, vclsOk, vids, mayWrite, V.ids, vguard, callOf, vop, ev, vbin, vint, isShift, isNilConst, vload, clsAt, hil, hil2, cI_at (Int.natCast_nonneg i) hil, cI_at (Int.natCast_nonneg i) hil2]
    by_cases hg : gi a i = gi b i
    · have hb : (gi a i != gi b i) = false := by rw [bne_eq_false_iff_eq]; exact hg
      simp only [gos, eq_self, Nat.reduceLT, Nat.reduceEqDiff, reduceCtorEq, reduceIte, ↓reduceIte, vgo, vout, vguard, callOf, vop, ev, cv, vbin, vint, isShift, isNilConst, hb]
      exact Nx.mk (i + 1) (show a.length - (i + 1) < a.length - i by omega) ⟨by omega, by rw [gi_take hil, gi_take hil2, ht, hg]⟩ (Wk.env (by simp [subE, Env.get, i64_succ (show (i : Int) < 9223372036854775807 by omega)]))
    · have hb : (gi a i != gi b i) = true := by simp only [bne_iff_ne, ne_eq, hg, not_false_eq_true]
      simp only [gos, eq_self, Nat.reduceLT, Nat.reduceEqDiff, reduceIte, ↓reduceIte, vgo, vout, vguard, callOf, vop, ev, cv, hb]
      subst hQ
      exact FnPost.plain trivial (fun h2 e => by first | rfl | (simp only [Tryz.f30, vres, vresL, vres1, e _, gos, if_true, if_false, ne_eq, eq_self, Nat.reduceLT, Nat.reduceEqDiff, Nat.reduceAdd, Nat.reduceMul, Nat.reduceLeDiff, Nat.reduceBEq, reduceCtorEq, reduceIte, Array.toList, ↓reduceIte, tt, vgo, vout, vgoD, voutD, vclsOk, vids, mayWrite, V.ids, V.mids, vguard, callOf, vop, ev, cv, vbin, vint, isShift, isNilConst, vnil, isNilSlice, vload, vlen, newRow, vfill, vslice, entOf, vappend, srcOf, vcopy, vlookup, vupdate, mapOk, keyOf, intsOf, clsAt]; try rfl)) (WkV.pure (by simp only [V.into])) ⟨by rw [decide_eq_false]; intro e; rw [e] at hg; exact hg rfl, rfl⟩
  · simp only [gos, eq_self, Nat.reduceLT, Nat.reduceEqDiff, reduceCtorEq, reduceIte, ↓reduceIte, tt, vgo, vout, vguard, callOf, vop, ev, cv, vbin, vint, isShift, isNilConst, vlen, vI, hil]
    have e1 : a.take i = a := List.take_of_length_le (by omega)
    have e2 : b.take i = b := List.take_of_length_le (by omega)
    subst hQ
    exact FnPost.plain trivial (fun h2 e => by first | rfl | (simp only [Tryz.f30, vres, vresL, vres1, e _, gos, if_true, if_false, ne_eq, eq_self, Nat.reduceLT, Nat.reduceEqDiff, Nat.reduceAdd, Nat.reduceMul, Nat.reduceLeDiff, Nat.reduceBEq, reduceCtorEq, reduceIte, Array.toList, ↓reduceIte, tt, vgo, vout, vgoD, voutD, vclsOk, vids, mayWrite, V.ids, V.mids, vguard, callOf, vop, ev, cv, vbin, vint, isShift, isNilConst, vnil, isNilSlice, vload, vlen, newRow, vfill, vslice, entOf, vappend, srcOf, vcopy, vlookup, vupdate, mapOk, keyOf, intsOf, clsAt]; try rfl)) (WkV.pure (by simp only [V.into])) ⟨by rw [decide_eq_true]; rw [← e1, ← e2, ht], rfl⟩
theorem c_fault9 (r : Rm) (hr : r.wf) : Pu Tryz.prog (.fn 29 [] []) [.agg r.cs] (vi (sCheckR r)) := by
  refine Ev.fn Tryz.func29 rfl rfl (Fn.body tabOk Tryz.func29 rfl (Nat.le_of_ble_eq_true rfl) (Ks.ok (fz := (fzn [])) (cl := (cln [])) tabOk mixed ?_))
  generalize hQ : FnPost tt Tryz.f29 _ _ = Q
  simp only [Tryz.f29, List.nil_append, List.append_nil, argsEnv]
  simp only [gos, eq_self, Nat.reduceLT, Nat.reduceEqDiff, reduceCtorEq, reduceIte, ↓reduceIte, tt, vgo, vout, vguard, callOf, vop, ev, cv, vload, newRow, rms]
  refine Cl.pu (c_r9Fault r hr) ?_ rfl (by simp only [V.into, intoL, Bool.and_true, rm_into])
  simp only [gos, eq_self, Nat.reduceLT, reduceIte, ↓reduceIte, vgo, vout, vguard, callOf, vop, ev]
  subst hQ
  exact FnPost.plain trivial (fun h2 e => by first | rfl | (simp only [Tryz.f29, vres, vresL, vres1, e _, gos, if_true, if_false, ne_eq, eq_self, Nat.reduceLT, Nat.reduceEqDiff, Nat.reduceAdd, Nat.reduceMul, Nat.reduceLeDiff, Nat.reduceBEq, reduceCtorEq, reduceIte, Array.toList, ↓reduceIte, tt, vgo, vout, vgoD, voutD, vclsOk, vids, mayWrite, V.ids, V.mids, vguard, callOf, vop, ev, cv, vbin, vint, isShift, isNilConst, vnil, isNilSlice, vload, vlen, newRow, vfill, vslice, entOf, vappend, srcOf, vcopy, vlookup, vupdate, mapOk, keyOf, intsOf, clsAt]; try rfl)) (WkV.pure (by simp only [V.into])) ⟨rfl, rfl⟩
def sThinR (r : Rm) : Bool := sThin r.cu && (!decide (7 < (r.ba.length : Int)) && (decide (sCheckR r ≠ 0) || (decide ((r.ba.length : Int) ≤ 4) && decide (r.pl ≤ 3))))
theorem thinR_wf {r : Rm} (hl : I64 r.cu.last) (h : sThinR r = true) : r.wf := by
  simp only [sThinR, Bool.and_eq_true, Bool.not_eq_true', decide_eq_false_iff_not] at h
  exact ⟨thin_wf hl h.1, by omega⟩
theorem c_Thin9 (r : Rm) (hl : I64 r.cu.last) : Pu Tryz.prog (.fn 22 [] []) [.agg r.cs] (.bool (sThinR r)) := by
  refine Ev.fn Tryz.func22 rfl rfl (Fn.body tabOk Tryz.func22 rfl (Nat.le_of_ble_eq_true rfl) (Ks.ok (fz := (fzn [])) (cl := (cln [])) tabOk mixed ?_))
  generalize hQ : FnPost tt Tryz.f22 _ _ = Q
  simp only [Tryz.f22, List.nil_append, List.append_nil, argsEnv]
  have hone : oneL r.cu.cs = true := rfl
  simp only [gos, eq_self, Nat.reduceLT, Nat.reduceEqDiff, Nat.reduceLeDiff, reduceCtorEq, reduceIte, ↓reduceIte, tt, vgo, vout, vguard, callOf, vop, ev, cv, vload, newRow, rms]
  refine Cl.pu (c_Thin r.cu hl) ?_ rfl (by simp only [V.into, intoL, cu_into, Bool.and_true])
  cases ht : sThin r.cu with
  | false =>
    simp only [gos, eq_self, Nat.reduceLT, Nat.reduceEqDiff, reduceIte, ↓reduceIte, vgo, vout, vguard, callOf, vop, ev, cv]
    subst hQ
    exact FnPost.plain trivial (fun h2 e => by first | rfl | (simp only [Tryz.f22, vres, vresL, vres1, e _, gos, if_true, if_false, ne_eq, eq_self, Nat.reduceLT, Nat.reduceEqDiff, Nat.reduceAdd, Nat.reduceMul, Nat.reduceLeDiff, Nat.reduceBEq, reduceCtorEq, reduceIte, Array.toList, ↓reduceIte, tt, vgo, vout, vgoD, voutD, vclsOk, vids, mayWrite, V.ids, V.mids, vguard, callOf, vop, ev, cv, vbin, vint, isShift, isNilConst, vnil, isNilSlice, vload, vlen, newRow, vfill, vslice, entOf, vappend, srcOf, vcopy, vlookup, vupdate, mapOk, keyOf, intsOf, clsAt]; try rfl)) (WkV.pure (by simp only [V.into])) ⟨by simp [sThinR, ht], rfl⟩
  | true =>
    by_cases h7 : 7 < (r.ba.length : Int)
    · simp only [gos, eq_self, Nat.reduceLT, Nat.reduceEqDiff, reduceCtorEq, reduceIte, ↓reduceIte, tt, vgo, vout, vguard, callOf, vop, ev, cv, vbin, vint, isShift, isNilConst, vload, vlen, rms, vR, h7]
      subst hQ
      exact FnPost.plain trivial (fun h2 e => by first | rfl | (simp only [Tryz.f22, vres, vresL, vres1, e _, gos, if_true, if_false, ne_eq, eq_self, Nat.reduceLT, Nat.reduceEqDiff, Nat.reduceAdd, Nat.reduceMul, Nat.reduceLeDiff, Nat.reduceBEq, reduceCtorEq, reduceIte, Array.toList, ↓reduceIte, tt, vgo, vout, vgoD, voutD, vclsOk, vids, mayWrite, V.ids, V.mids, vguard, callOf, vop, ev, cv, vbin, vint, isShift, isNilConst, vnil, isNilSlice, vload, vlen, newRow, vfill, vslice, entOf, vappend, srcOf, vcopy, vlookup, vupdate, mapOk, keyOf, intsOf, clsAt]; try rfl)) (WkV.pure (by simp only [V.into])) ⟨by simp [sThinR, ht, h7], rfl⟩
    have hr : r.wf := ⟨thin_wf hl ht, by omega⟩
    simp only [gos, eq_self, Nat.reduceLT, Nat.reduceEqDiff, reduceCtorEq, reduceIte, ↓reduceIte, tt, vgo, vout, vguard, callOf, vop, ev, cv, vbin, vint, isShift, isNilConst, vload, vlen, rms, vR, h7]
    refine Cl.pu (c_r9Fault r hr) ?_ rfl (by simp only [V.into, intoL, Bool.and_true, rm_into])
    by_cases h0 : sCheckR r = 0
    case neg =>
      have hb : (sCheckR r != 0) = true := by simp [h0]
      simp only [gos, eq_self, Nat.reduceLT, Nat.reduceEqDiff, reduceIte, ↓reduceIte, vgo, vout, vguard, callOf, vop, ev, cv, vbin, vint, isShift, isNilConst, hb]
      subst hQ
      exact FnPost.plain trivial (fun h2 e => by first | rfl | (simp only [Tryz.f22, vres, vresL, vres1, e _, gos, if_true, if_false, ne_eq, eq_self, Nat.reduceLT, Nat.reduceEqDiff, Nat.reduceAdd, Nat.reduceMul, Nat.reduceLeDiff, Nat.reduceBEq, reduceCtorEq, reduceIte, Array.toList, ↓reduceIte, tt, vgo, vout, vgoD, voutD, vclsOk, vids, mayWrite, V.ids, V.mids, vguard, callOf, vop, ev, cv, vbin, vint, isShift, isNilConst, vnil, isNilSlice, vload, vlen, newRow, vfill, vslice, entOf, vappend, srcOf, vcopy, vlookup, vupdate, mapOk, keyOf, intsOf, clsAt]; try rfl)) (WkV.pure (by simp only [V.into])) ⟨by simp [sThinR, ht, h7, h0], rfl⟩
    have hb : (sCheckR r != 0) = false := by simp [h0]
    by_cases h4 : (r.ba.length : Int) ≤ 4
    · simp only [gos, eq_self, Nat.reduceLT, Nat.reduceEqDiff, reduceCtorEq, reduceIte, ↓reduceIte, tt, vgo, vout, vguard, callOf, vop, ev, cv, vbin, vint, isShift, isNilConst, vload, vlen, rms, vR, hb, h4]
      subst hQ
      exact FnPost.plain trivial (fun h2 e => by first | rfl | (simp only [Tryz.f22, vres, vresL, vres1, e _, gos, if_true, if_false, ne_eq, eq_self, Nat.reduceLT, Nat.reduceEqDiff, Nat.reduceAdd, Nat.reduceMul, Nat.reduceLeDiff, Nat.reduceBEq, reduceCtorEq, reduceIte, Array.toList, ↓reduceIte, tt, vgo, vout, vgoD, voutD, vclsOk, vids, mayWrite, V.ids, V.mids, vguard, callOf, vop, ev, cv, vbin, vint, isShift, isNilConst, vnil, isNilSlice, vload, vlen, newRow, vfill, vslice, entOf, vappend, srcOf, vcopy, vlookup, vupdate, mapOk, keyOf, intsOf, clsAt]; try rfl)) (WkV.pure (by simp only [V.into])) ⟨by simp [sThinR, ht, h7, h0, h4], rfl⟩
    · simp only [gos, eq_self, Nat.reduceLT, Nat.reduceEqDiff, reduceCtorEq, reduceIte, ↓reduceIte, tt, vgo, vout, vguard, callOf, vop, ev, cv, vbin, vint, isShift, isNilConst, vload, vlen, rms, vR, hb, h4]
      subst hQ
      exact FnPost.plain trivial (fun h2 e => by first | rfl | (simp only [Tryz.f22, vres, vresL, vres1, e _, gos, if_true, if_false, ne_eq, eq_self, Nat.reduceLT, Nat.reduceEqDiff, Nat.reduceAdd, Nat.reduceMul, Nat.reduceLeDiff, Nat.reduceBEq, reduceCtorEq, reduceIte, Array.toList, ↓reduceIte, tt, vgo, vout, vgoD, voutD, vclsOk, vids, mayWrite, V.ids, V.mids, vguard, callOf, vop, ev, cv, vbin, vint, isShift, isNilConst, vnil, isNilSlice, vload, vlen, newRow, vfill, vslice, entOf, vappend, srcOf, vcopy, vlookup, vupdate, mapOk, keyOf, intsOf, clsAt]; try rfl)) (WkV.pure (by simp only [V.into])) ⟨by simp [sThinR, ht, h7, h0, h4], rfl⟩
def sReadyR (r : Rm) : Bool := sThinR r && decide (sCheckR r = 0)
theorem c_ready9 (r : Rm) (hl : I64 r.cu.last) : Pu Tryz.prog (.fn 50 [] []) [.agg r.cs] (.bool (sReadyR r)) := by
  refine Ev.fn Tryz.func50 rfl rfl (Fn.body tabOk Tryz.func50 rfl (Nat.le_of_ble_eq_true rfl) (Ks.ok (fz := (fzn [])) (cl := (cln [])) tabOk mixed ?_))
  generalize hQ : FnPost tt Tryz.f50 _ _ = Q
  simp only [Tryz.f50, List.nil_append, List.append_nil, argsEnv]
  simp only [gos, eq_self, Nat.reduceLT, Nat.reduceEqDiff, reduceCtorEq, reduceIte, ↓reduceIte, tt, vgo, vout, vguard, callOf, vop, ev, cv, vload, newRow, rms]
  refine Cl.pu (c_Thin9 r hl) ?_ rfl (by simp only [V.into, intoL, Bool.and_true, rm_into])
  cases ht : sThinR r with
  | false =>
    simp only [gos, eq_self, Nat.reduceLT, Nat.reduceEqDiff, reduceIte, ↓reduceIte, vgo, vout, vguard, callOf, vop, ev, cv]
    subst hQ
    exact FnPost.plain trivial (fun h2 e => by first | rfl | (simp only [Tryz.f50, vres, vresL, vres1, e _, gos, if_true, if_false, ne_eq, eq_self, Nat.reduceLT, Nat.reduceEqDiff, Nat.reduceAdd, Nat.reduceMul, Nat.reduceLeDiff, Nat.reduceBEq, reduceCtorEq, reduceIte, Array.toList, ↓reduceIte, tt, vgo, vout, vgoD, voutD, vclsOk, vids, mayWrite, V.ids, V.mids, vguard, callOf, vop, ev, cv, vbin, vint, isShift, isNilConst, vnil, isNilSlice, vload, vlen, newRow, vfill, vslice, entOf, vappend, srcOf, vcopy, vlookup, vupdate, mapOk, keyOf, intsOf, clsAt]; try rfl)) (WkV.pure (by simp only [V.into])) ⟨by simp [sReadyR, ht], rfl⟩
  | true =>
    simp only [gos, eq_self, Nat.reduceLT, Nat.reduceEqDiff, reduceCtorEq, reduceIte, ↓reduceIte, tt, vgo, vout, vguard, callOf, vop, ev, vload, rms]
    refine Cl.pu (c_fault9 r (thinR_wf hl ht)) ?_ rfl (by simp only [V.into, intoL, Bool.and_true, rm_into])
    simp only [gos, eq_self, Nat.reduceLT, Nat.reduceEqDiff, reduceIte, ↓reduceIte, vgo, vout, vguard, callOf, vop, ev, cv, vbin, vint, isShift, isNilConst]
    subst hQ
    exact FnPost.plain trivial (fun h2 e => by first | rfl | (simp only [Tryz.f50, vres, vresL, vres1, e _, gos, if_true, if_false, ne_eq, eq_self, Nat.reduceLT, Nat.reduceEqDiff, Nat.reduceAdd, Nat.reduceMul, Nat.reduceLeDiff, Nat.reduceBEq, reduceCtorEq, reduceIte, Array.toList, ↓reduceIte, tt, vgo, vout, vgoD, voutD, vclsOk, vids, mayWrite, V.ids, V.mids, vguard, callOf, vop, ev, cv, vbin, vint, isShift, isNilConst, vnil, isNilSlice, vload, vlen, newRow, vfill, vslice, entOf, vappend, srcOf, vcopy, vlookup, vupdate, mapOk, keyOf, intsOf, clsAt]; try rfl)) (WkV.pure (by simp only [V.into])) ⟨by simp [sReadyR, ht], rfl⟩
/-- A room that a law can use. -/
theorem ready9_ok {r : Rm} (hl : I64 r.cu.last) (h : sReadyR r = true) : r.wf ∧ sCheckR r = 0 ∧ RmOk r ∧ (r.ba.length : Int) ≤ 4 ∧ r.pl ≤ 3 := by
  simp only [sReadyR, Bool.and_eq_true, decide_eq_true_eq] at h
  have h2 := h.1
  simp only [sThinR, Bool.and_eq_true, Bool.or_eq_true, decide_eq_true_eq] at h2
  exact ⟨thinR_wf hl h.1, h.2, rmOk_of h.2, by have := h2.2.2; rcases this with h3 | h3; exact absurd h.2 h3; exact h3⟩
theorem wk_room (r : Rm) (i : Nat) (h : r.ba.length = i) :
    WkV (domP []) (.agg [vi r.cu.last, vi r.cu.start, vi r.cu.most, vi r.cu.per, vi r.cu.shovels, vI r.cu.coal, vI r.cu.want, vi r.cu.heat.lo, vi r.cu.heat.hi, vR r.cu.loss, vD r.cu.readings, vi r.bu, vi r.pl, .own 36 i 0 2 i])
      [(2, ⟨0, .row [vi r.cu.last, vi r.cu.start, vi r.cu.most, vi r.cu.per, vi r.cu.shovels, vI r.cu.coal, vI r.cu.want, vi r.cu.heat.lo, vi r.cu.heat.hi, vR r.cu.loss, vD r.cu.readings, vi r.bu, vi r.pl, .own 36 i 0 2 i]⟩), (3, ⟨0, .row [vi r.cu.last, vi r.cu.start, vi r.cu.most, vi r.cu.per, vi r.cu.shovels, vI r.cu.coal, vI r.cu.want, vi r.cu.heat.lo, vi r.cu.heat.hi, vR r.cu.loss, vD r.cu.readings, vi r.bu, vi r.pl, .own 36 i 0 2 i]⟩), (36, ⟨i, .row (cR r.ba)⟩)]
      (.agg r.cs) [] := by
  have e1 : (cR r.ba).take (i * 2) = cR r.ba := List.take_of_length_le (by rw [cR_len]; omega)
  have e2 : V.ro i (cR r.ba) = vR r.ba := by rw [vR, h]
  refine WkV.frz 36 (v' := .agg r.cs) (h' := [(2, ⟨0, .row r.cs⟩), (3, ⟨0, .row r.cs⟩)]) (ver := i) (cs := cR r.ba) rfl rfl (cR_into _ _) rfl ?_ ?_ (WkV.pure (by simp only [V.into, rm_into]))
  · simp only [V.frz, frzL, if_true, List.drop_zero, e1, e2, vI, vR, vD, cI_frz, cR_frz, cD_frz]; rfl
  · simp only [frzH, Blk.frz, V.frz, frzL, if_true, List.drop_zero, e1, e2, vI, vR, vD, cI_frz, cR_frz, cD_frz]; rfl
set_option maxHeartbeats 4000000 in
theorem c_Room (r : Rm) (hr : r.wf) : Pu Tryz.prog (.fn 25 [] []) [.agg r.cs] (.agg r.cs) := by
  refine Ev.fn Tryz.func25 rfl rfl (Fn.body tabOk Tryz.func25 rfl (Nat.le_of_ble_eq_true rfl) (Ks.ok (fz := (fzn [2, 3])) (cl := (cln [(1, .d tg0 [cP, cP, cP, cP, cP, cP, cP, cP, cW, cW]), (5, .d (tgL [(36, 1)]) [cP, cL, cP, cP, cP, cP, cP, cP, cP, cP, cP, cP, cP, cP, cP, cP, some ([1], [1]), cP, cW])])) tabOk mixed ?_))
  generalize hQ : FnPost tt Tryz.f25 _ _ = Q
  simp only [Tryz.f25, List.nil_append, List.append_nil, argsEnv]
  have hone : oneL r.cu.cs = true := rfl
  simp only [gos, eq_self, Nat.reduceLT, Nat.reduceEqDiff, reduceCtorEq, reduceIte, ↓reduceIte, tt, vgo, vout, vguard, callOf, vop, ev, newRow]
  refine Wr.draw (by kernel_rfl) ?_
  simp only [gos, eq_self, Nat.reduceLT, Nat.reduceEqDiff, Nat.reduceAdd, Nat.reduceLeDiff, reduceCtorEq, reduceIte, ↓reduceIte, tt, vgoD, voutD, vclsOk, vids, mayWrite, V.ids, vguard, callOf, vop, ev, vload, clsAt, rms]
  refine CD.pu (c_lCopper r.cu hr.cu) ?_ rfl (by simp only [V.into, intoL, cu_into, Bool.and_true])
  simp only [gos, eq_self, Nat.reduceLT, Nat.reduceEqDiff, Nat.reduceAdd, Nat.reduceLeDiff, reduceCtorEq, reduceIte, ↓reduceIte, tt, vgo, vout, vgoD, voutD, vclsOk, vids, mayWrite, V.ids, vguard, callOf, vop, ev, cv, vload, newRow, vfill, rms, Cu.cs]
  refine W.loop tabOk mixed (fun i : Nat => ([(1, .rop r.cs), (2, .ptr 2 0 0), (3, .ptr 3 0 0), (4, vi i)], [(2, ⟨0, .row [vi 0, vi 0, vi 0, vi 0, vi 0, .sl0, .sl0, vi 0, vi 0, .sl0, .sl0, vi 0, vi 0, .sl0]⟩), (3, ⟨0, .row [vi r.cu.last, vi r.cu.start, vi r.cu.most, vi r.cu.per, vi r.cu.shovels, vI r.cu.coal, vI r.cu.want, vi r.cu.heat.lo, vi r.cu.heat.hi, vR r.cu.loss, vD r.cu.readings, vi r.bu, vi r.pl, .own 36 i 0 2 i]⟩), (36, ⟨i, .row (cR (r.ba.take i))⟩)])) (fun i => r.ba.length - i) (fun i => i ≤ r.ba.length) 0 (by omega)
    (Wk.trans (Wk.sl0H 3 13 36 2 rfl rfl rfl) (Wk.env (by simp [subE, Env.get]))) ?_
  intro i hi
  by_cases hil : (i : Int) < r.ba.length
  · have hn : (cR (r.ba.take i)).length = i * 2 := by rw [cR_len, List.length_take]; omega
    have hi9 : i ≤ 999999 := by have := hr.ba; omega
    simp only [gos, eq_self, Nat.reduceLT, Nat.reduceEqDiff, reduceCtorEq, reduceIte, ↓reduceIte, tt, vgo, vout, vguard, callOf, vop, ev, vbin, vint, isShift, isNilConst, vload, vlen, rms, vR, hil]
    refine Wr.draw (by kernel_rfl) ?_
    simp only [gos, eq_self, Nat.reduceLT, Nat.reduceEqDiff, Nat.reduceAdd, Nat.reduceMul, Nat.reduceLeDiff, reduceCtorEq, reduceIte, ↓reduceIte, tt, vgo, vout, vgoD, voutD, vclsOk, vids, mayWrite, V.ids, vguard, callOf, vop, ev, cv, vbin, vint, isShift, isNilConst, vload, vfill, vappend, srcOf, clsAt, rms, vR, hil, cR_at (Int.natCast_nonneg i) hil, hn, hi9]
    refine Nx.mk (i + 1) (show r.ba.length - (i + 1) < r.ba.length - i by omega) (by omega) (Wk.heap (fun j => ?_) ?_)
    · rw [take_snocR hil, cR_snoc]
    · simp [subE, Env.get, i64_succ (show (i : Int) < 9223372036854775807 by omega)]
  have e : r.ba.take i = r.ba := List.take_of_length_le (by omega)
  have hie : i = r.ba.length := by omega
  simp only [gos, eq_self, Nat.reduceLT, Nat.reduceEqDiff, Nat.reduceAdd, reduceCtorEq, reduceIte, ↓reduceIte, tt, vgo, vout, vguard, callOf, vop, ev, vbin, vint, isShift, isNilConst, vload, vlen, rms, vR, hil, e]
  subst hQ
  exact FnPost.plain trivial (v := .agg [vi r.cu.last, vi r.cu.start, vi r.cu.most, vi r.cu.per, vi r.cu.shovels, vI r.cu.coal, vI r.cu.want, vi r.cu.heat.lo, vi r.cu.heat.hi, vR r.cu.loss, vD r.cu.readings, vi r.bu, vi r.pl, .own 36 i 0 2 i]) (fun h2 e => by simp only [Tryz.f25, vres, vresL, vres1, gos, eq_self, Nat.reduceLT, Nat.reduceEqDiff, Nat.reduceAdd, reduceCtorEq, reduceIte, ↓reduceIte, tt, vload, e _]; rfl) (wk_room r i hie.symm) ⟨rfl, rfl⟩
end Go.Vm

set_option linter.unusedVariables false
set_option linter.unusedSimpArgs false
set_option maxRecDepth 100000
namespace Go.Vm
open Go.Proofs
/-! ### the document's examples of rooms -/
theorem ImpV.aggR {l m : List V} (i : impL l m) : ImpV (.agg l) (.agg m) := fun g x h => by
  simp only [VR] at h ⊢
  obtain ⟨vs, e, h⟩ := h
  exact ⟨vs, e, impL_ok i h⟩
theorem c_span9 (a b : Int) : Pu Tryz.prog (.fn 123 [] []) [vi a, vi b] (.agg [vi a, vi b]) := by
  refine Ev.fn Tryz.func123 rfl rfl (Fn.body tabOk Tryz.func123 rfl (Nat.le_of_ble_eq_true rfl) (Ks.ok (fz := (fzn [4])) (cl := (cln [])) tabOk mixed ?_))
  generalize hQ : FnPost tt Tryz.f123 _ _ = Q
  simp only [Tryz.f123, List.nil_append, List.append_nil, argsEnv, Nat.reduceAdd]
  simp only [gos, eq_self, Nat.reduceLT, Nat.reduceEqDiff, Nat.reduceAdd, Nat.reduceLeDiff, reduceCtorEq, reduceIte, ↓reduceIte, tt, vgo, vout, vguard, callOf, vop, ev, newRow, vfill]
  subst hQ
  exact FnPost.plain trivial (fun h2 e => by first | rfl | (simp only [Tryz.f123, vres, vresL, vres1, e _, gos, eq_self, Nat.reduceLT, Nat.reduceEqDiff, Nat.reduceAdd, reduceCtorEq, reduceIte, ↓reduceIte, tt, vload]; try rfl)) (WkV.pure (by simp only [V.into, intoL, Bool.and_true])) ⟨rfl, rfl⟩
def exB : List Rg := [⟨0, 1⟩, ⟨1, 1⟩, ⟨0, 2⟩]
def exRm (n : Nat) (w : Int) : Rm := ⟨⟨2, 7, 60, 4, 3, [2, 1, 0], [w, 1, 1], ⟨10, 12⟩, [⟨2, 3⟩, ⟨4, 4⟩, ⟨0, 2⟩], []⟩, 2, 2, exB.take n⟩
def exRs (n : Nat) (w : Int) : List V := [vi 2, vi 7, vi 60, vi 4, vi 3, vI [2, 1, 0], vI [w, 1, 1], vi 10, vi 12, vR [⟨2, 3⟩, ⟨4, 4⟩, ⟨0, 2⟩], .sl0, vi 2, vi 2, vR (exB.take n)]
theorem sl0_vD : ImpV .sl0 (vD []) := ImpV.sl0
theorem exRm_wf (n : Nat) (w : Int) : (exRm n w).wf := by
  refine ⟨⟨⟨by simp [exRm], by simp [exRm]⟩, by simp [exRm], by simp [exRm], by simp [exRm], by simp [exRm]⟩, ?_⟩
  have : (exB.take n).length ≤ 3 := by rw [List.length_take]; simp [exB]; omega
  simp only [exRm]; omega
set_option maxHeartbeats 1000000 in
theorem c_three9 (n : Nat) (hn : n ≤ 3) (w : Int) : Pu Tryz.prog (.fn 81 [] []) [vi n, vi w] (.agg (exRm n w).cs) := by
  refine Ev.fn Tryz.func81 rfl rfl (Fn.body tabOk Tryz.func81 rfl (Nat.le_of_ble_eq_true rfl) (Ks.ok (fz := (fzn [4, 5])) (cl := (cln [(3, .d tg0 [cL, cP, cP, cP, cP, cW])])) tabOk mixed ?_))
  generalize hQ : FnPost tt Tryz.f81 _ _ = Q
  simp only [Tryz.f81, List.nil_append, List.append_nil, argsEnv, Nat.reduceAdd]
  have h1 : (0 : Int) ≤ n := by omega
  have h2 : (n : Int) ≤ 3 := by omega
  simp only [gos, eq_self, Nat.reduceLT, Nat.reduceEqDiff, Nat.reduceAdd, Nat.reduceMul, Nat.reduceLeDiff, reduceCtorEq, reduceIte, ↓reduceIte, tt, vgo, vout, vguard, callOf, vop, ev, cv, newRow, vfill]
  refine Cl.pu (c_span9 _ _) ?_
  simp only [gos, eq_self, Nat.reduceLT, reduceIte, ↓reduceIte, vgo, vout, vguard, callOf, ev, cv]
  refine Cl.pu (c_span9 _ _) ?_
  simp only [gos, eq_self, Nat.reduceLT, reduceIte, ↓reduceIte, vgo, vout, vguard, callOf, ev, cv]
  refine Cl.pu (c_span9 _ _) ?_
  simp only [gos, eq_self, Nat.reduceLT, reduceIte, ↓reduceIte, vgo, vout, vguard, callOf, ev, cv]
  refine Cl.pu (c_span9 _ _) ?_
  simp only [gos, eq_self, Nat.reduceLT, Nat.reduceEqDiff, Nat.reduceAdd, Nat.reduceMul, Nat.reduceLeDiff, reduceCtorEq, reduceIte, ↓reduceIte, tt, vgo, vout, vguard, callOf, vop, ev, cv, newRow, vfill]
  refine Wr.draw (by kernel_rfl) ?_
  have h3 : ((n : Int)).toNat = n := Int.toNat_natCast n
  have h4 : V.ro n (List.take (n * 2) [V.int IntKind.i64 0, V.int IntKind.i64 1, V.int IntKind.i64 1, V.int IntKind.i64 1, V.int IntKind.i64 0, V.int IntKind.i64 2]) = vR (exB.take n) := by
    match n, hn with
    | 0, _ => rfl
    | 1, _ => rfl
    | 2, _ => rfl
    | 3, _ => rfl
  have h2' : (n : Int) ≤ ((3 : Nat) : Int) := h2
  simp only [gos, eq_self, Nat.reduceLT, Nat.reduceEqDiff, Nat.reduceAdd, Nat.reduceLeDiff, reduceCtorEq, reduceIte, ↓reduceIte, tt, vgoD, voutD, vclsOk, vids, mayWrite, V.ids, vguard, callOf, vop, ev, cv, vload, vfill, vslice, clsAt, h1, h2', h3, h4]
  subst hQ
  exact FnPost.plain trivial (v := .agg (exRs n w)) (fun h2 e => by simp only [Tryz.f81, vres, vresL, vres1, gos, eq_self, Nat.reduceLT, Nat.reduceEqDiff, Nat.reduceAdd, reduceCtorEq, reduceIte, ↓reduceIte, tt, vload, e _]; rfl) (WkV.trans (WkV.less (v' := .agg (exRm n w).cs) (ImpV.aggR ⟨ImpV.refl _, ImpV.refl _, ImpV.refl _, ImpV.refl _, ImpV.refl _, ImpV.refl _, ImpV.refl _, ImpV.refl _, ImpV.refl _, ImpV.refl _, sl0_vD, ImpV.refl _, ImpV.refl _, ImpV.refl _, trivial⟩)) (WkV.pure (by simp only [V.into, rm_into]))) ⟨rfl, rfl⟩
end Go.Vm

set_option linter.unusedVariables false
set_option linter.unusedSimpArgs false
set_option maxRecDepth 100000
namespace Go.Vm
open Go.Proofs
theorem aw_1 : sPlayR (exRm 3 1) [0, 1, 2] = ([2, 2, 2], 0) := by decide +kernel
theorem aw_2 : sKeepsR (exRm 3 1) [0, 1, 2] = (3, 0) := by decide +kernel
theorem aw_3 : sPlanR (exRm 2 1) = ([0, 1], 0) := by decide +kernel
theorem aw_4 : sHoursR (exRm 2 1) 0 = ([0, 1], 0) := by decide +kernel
theorem aw_5 : sGiveR (exRm 3 1) = ([0], 0) := by decide +kernel
theorem aw_6 : sMostR (exRm 3 1) = ([0, 0, 2], 0) := by decide +kernel
theorem aw_7 : sFreeR (exRm 1 1) [0] 1 = (1, 0) := by decide +kernel
theorem aw_8 : sCoalR (exRm 2 1) [0, 1] = ([1, 2, 0], 0) := by decide +kernel
set_option maxHeartbeats 4000000 in
theorem c_awake9 : Pu Tryz.prog (.fn 23 [] []) [] (.bool true) := by
  have t1 : Pu Tryz.prog (.fn 81 [] []) [vi 1, vi 1] (.agg (exRm 1 1).cs) := c_three9 1 (by omega) 1
  have t2 : Pu Tryz.prog (.fn 81 [] []) [vi 2, vi 1] (.agg (exRm 2 1).cs) := c_three9 2 (by omega) 1
  have t3 : Pu Tryz.prog (.fn 81 [] []) [vi 3, vi 1] (.agg (exRm 3 1).cs) := c_three9 3 (by omega) 1
  have p1 := c_bPlay (exRm 3 1) (exRm_wf 3 1) [0, 1, 2] (by simp)
  rw [aw_1] at p1
  have p2 := c_bKeeps (exRm 3 1) (exRm_wf 3 1) [0, 1, 2] (by simp)
  rw [aw_2] at p2
  have p3 := c_bPlan (exRm 2 1) (exRm_wf 2 1)
  rw [aw_3] at p3
  have p4 := c_bHours (exRm 2 1) (exRm_wf 2 1) 0 ⟨by omega, by omega⟩
  rw [aw_4] at p4
  have p5 := c_bGive (exRm 3 1) (exRm_wf 3 1)
  rw [aw_5] at p5
  have p6 := c_bMost (exRm 3 1) (exRm_wf 3 1)
  rw [aw_6] at p6
  have p7 := c_bFree (exRm 1 1) (exRm_wf 1 1) [0] (by simp) 1 ⟨by omega, by omega⟩
  rw [aw_7] at p7
  have p8 := c_bCoal (exRm 2 1) (exRm_wf 2 1) [0, 1] (by simp)
  rw [aw_8] at p8
  refine Ev.fn Tryz.func23 rfl rfl (Fn.body tabOk Tryz.func23 rfl (Nat.le_of_ble_eq_true rfl) (Ks.ok (fz := (fzn [])) (cl := (cln [])) tabOk mixed ?_))
  generalize hQ : FnPost tt Tryz.f23 _ _ = Q
  simp only [Tryz.f23, List.append_nil, argsEnv]
  simp only [gos, eq_self, Nat.reduceLT, reduceIte, ↓reduceIte, vgo, vout, vguard, callOf, vop, ev, cv]
  refine Cl.pu t3 ?_
  simp only [gos, eq_self, Nat.reduceLT, Nat.reduceEqDiff, Nat.reduceAdd, Nat.reduceMul, Nat.reduceLeDiff, reduceCtorEq, reduceIte, ↓reduceIte, tt, vgo, vout, vguard, callOf, vop, ev, cv, vfill]
  refine Cl.pu p1 ?_ rfl (by simp only [V.into, intoL, Bool.and_true, rm_into]; try rfl)
  simp only [gos, eq_self, Nat.reduceLT, Nat.reduceEqDiff, reduceIte, ↓reduceIte, vgo, vout, vguard, callOf, vop, ev, cv]
  refine Cl.pu t3 ?_
  simp only [gos, eq_self, Nat.reduceLT, Nat.reduceEqDiff, Nat.reduceAdd, Nat.reduceMul, Nat.reduceLeDiff, reduceCtorEq, reduceIte, ↓reduceIte, tt, vgo, vout, vguard, callOf, vop, ev, cv, vfill]
  refine Cl.pu p2 ?_ rfl (by simp only [V.into, intoL, Bool.and_true, rm_into]; try rfl)
  simp only [gos, eq_self, Nat.reduceLT, Nat.reduceEqDiff, reduceIte, ↓reduceIte, vgo, vout, vguard, callOf, vop, ev, cv]
  refine Cl.pu t2 ?_
  simp only [gos, eq_self, Nat.reduceLT, reduceIte, ↓reduceIte, vgo, vout, vguard, callOf, ev]
  refine Cl.pu p3 ?_ rfl (by simp only [V.into, intoL, Bool.and_true, rm_into]; try rfl)
  simp only [gos, eq_self, Nat.reduceLT, Nat.reduceEqDiff, reduceIte, ↓reduceIte, vgo, vout, vguard, callOf, vop, ev, cv]
  refine Cl.pu t2 ?_
  simp only [gos, eq_self, Nat.reduceLT, reduceIte, ↓reduceIte, vgo, vout, vguard, callOf, ev, cv]
  refine Cl.pu p4 ?_ rfl (by simp only [V.into, intoL, Bool.and_true, rm_into]; try rfl)
  simp only [gos, eq_self, Nat.reduceLT, Nat.reduceEqDiff, reduceIte, ↓reduceIte, vgo, vout, vguard, callOf, vop, ev, cv]
  refine Cl.pu t3 ?_
  simp only [gos, eq_self, Nat.reduceLT, reduceIte, ↓reduceIte, vgo, vout, vguard, callOf, ev]
  refine Cl.pu p5 ?_ rfl (by simp only [V.into, intoL, Bool.and_true, rm_into]; try rfl)
  simp only [gos, eq_self, Nat.reduceLT, Nat.reduceEqDiff, reduceIte, ↓reduceIte, vgo, vout, vguard, callOf, vop, ev, cv]
  refine Cl.pu t3 ?_
  simp only [gos, eq_self, Nat.reduceLT, reduceIte, ↓reduceIte, vgo, vout, vguard, callOf, ev]
  refine Cl.pu p6 ?_ rfl (by simp only [V.into, intoL, Bool.and_true, rm_into]; try rfl)
  simp only [gos, eq_self, Nat.reduceLT, Nat.reduceEqDiff, reduceIte, ↓reduceIte, vgo, vout, vguard, callOf, vop, ev, cv]
  refine Cl.pu t1 ?_
  simp only [gos, eq_self, Nat.reduceLT, Nat.reduceEqDiff, Nat.reduceAdd, Nat.reduceMul, Nat.reduceLeDiff, reduceCtorEq, reduceIte, ↓reduceIte, tt, vgo, vout, vguard, callOf, vop, ev, cv, vfill]
  refine Cl.pu p7 ?_ rfl (by simp only [V.into, intoL, Bool.and_true, rm_into]; try rfl)
  simp only [gos, eq_self, Nat.reduceLT, Nat.reduceEqDiff, reduceIte, ↓reduceIte, vgo, vout, vguard, callOf, vop, ev, cv]
  refine Cl.pu t2 ?_
  simp only [gos, eq_self, Nat.reduceLT, Nat.reduceEqDiff, Nat.reduceAdd, Nat.reduceMul, Nat.reduceLeDiff, reduceCtorEq, reduceIte, ↓reduceIte, tt, vgo, vout, vguard, callOf, vop, ev, cv, vfill]
  refine Cl.pu p8 ?_ rfl (by simp only [V.into, intoL, Bool.and_true, rm_into]; try rfl)
  have a1 : decide ((0 : Int) = 0) = true := rfl
  have a2 : decide ((3 : Int) = 3) = true := rfl
  have a3 : decide ((1 : Int) = 1) = true := rfl
  simp only [gos, eq_self, Nat.reduceLT, Nat.reduceEqDiff, reduceIte, ↓reduceIte, vgo, vout, vguard, callOf, vop, ev]
  simp only [List.append]
  simp only [gos, eq_self, Nat.reduceLT, Nat.reduceEqDiff, Nat.reduceAdd, Nat.reduceMul, Nat.reduceLeDiff, reduceCtorEq, reduceIte, ↓reduceIte, tt, vgo, vout, vguard, callOf, vop, ev, cv, vbin, vint, isShift, isNilConst, vfill]
  refine Cl.pu (c_ints9 [2, 2, 2] [2, 2, 2] (by simp)) ?_
  simp only [gos, eq_self, Nat.reduceLT, Nat.reduceEqDiff, Nat.reduceAdd, Nat.reduceMul, Nat.reduceLeDiff, reduceCtorEq, reduceIte, ↓reduceIte, tt, vgo, vout, vguard, callOf, vop, ev, cv, vbin, vint, isShift, isNilConst, vfill]
  refine Cl.pu (c_ints9 [0, 1] [0, 1] (by simp)) ?_
  simp only [gos, eq_self, Nat.reduceLT, Nat.reduceEqDiff, Nat.reduceAdd, Nat.reduceMul, Nat.reduceLeDiff, reduceCtorEq, reduceIte, ↓reduceIte, tt, vgo, vout, vguard, callOf, vop, ev, cv, vbin, vint, isShift, isNilConst, vfill]
  refine Cl.pu (c_ints9 [0, 1] [0, 1] (by simp)) ?_
  simp only [gos, eq_self, Nat.reduceLT, Nat.reduceEqDiff, Nat.reduceAdd, Nat.reduceMul, Nat.reduceLeDiff, reduceCtorEq, reduceIte, ↓reduceIte, tt, vgo, vout, vguard, callOf, vop, ev, cv, vbin, vint, isShift, isNilConst, vfill]
  refine Cl.pu (c_ints9 [0] [0] (by simp)) ?_
  simp only [gos, eq_self, Nat.reduceLT, Nat.reduceEqDiff, Nat.reduceAdd, Nat.reduceMul, Nat.reduceLeDiff, reduceCtorEq, reduceIte, ↓reduceIte, tt, vgo, vout, vguard, callOf, vop, ev, cv, vbin, vint, isShift, isNilConst, vfill]
  refine Cl.pu (c_ints9 [0, 0, 2] [0, 0, 2] (by simp)) ?_
  simp only [gos, eq_self, Nat.reduceLT, Nat.reduceEqDiff, Nat.reduceAdd, Nat.reduceMul, Nat.reduceLeDiff, reduceCtorEq, reduceIte, ↓reduceIte, tt, vgo, vout, vguard, callOf, vop, ev, cv, vbin, vint, isShift, isNilConst, vfill]
  refine Cl.pu (c_ints9 [1, 2, 0] [1, 2, 0] (by simp)) ?_
  simp only [gos, eq_self, Nat.reduceLT, Nat.reduceEqDiff, reduceIte, ↓reduceIte, vgo, vout, vguard, callOf, vop, ev]
  subst hQ
  exact FnPost.plain trivial (fun h2 e => by first | rfl | (simp only [Tryz.f23, vres, vresL, vres1, e _, gos, if_true, if_false, ne_eq, eq_self, Nat.reduceLT, Nat.reduceEqDiff, Nat.reduceAdd, Nat.reduceMul, Nat.reduceLeDiff, Nat.reduceBEq, reduceCtorEq, reduceIte, Array.toList, ↓reduceIte, tt, vgo, vout, vgoD, voutD, vclsOk, vids, mayWrite, V.ids, V.mids, vguard, callOf, vop, ev, cv, vbin, vint, isShift, isNilConst, vnil, isNilSlice, vload, vlen, newRow, vfill, vslice, entOf, vappend, srcOf, vcopy, vlookup, vupdate, mapOk, keyOf, intsOf, clsAt]; try rfl)) (WkV.pure (by simp only [V.into])) ⟨rfl, rfl⟩
end Go.Vm

set_option linter.unusedVariables false
set_option linter.unusedSimpArgs false
set_option maxRecDepth 100000
namespace Go.Vm
open Go.Proofs
/-! ### a plan by words -/
def sCh (r : Rm) (l : List Int) (i : Nat) : Int := (gR r.ba i).lo + (sWord l i).tmod ((gR r.ba i).hi - (gR r.ba i).lo + 1)
def chN (r : Rm) (l : List Int) (i : Nat) : List Int := (List.range i).map fun j => sCh r l j
def sChosen (r : Rm) (l : List Int) : List Int := chN r l r.ba.length
theorem chN_succ (r : Rm) (l : List Int) (i : Nat) : chN r l (i + 1) = chN r l i ++ [sCh r l i] := by simp [chN, List.range_succ]
theorem chN_len (r : Rm) (l : List Int) (i : Nat) : (chN r l i).length = i := by simp [chN]
theorem sCh_in {r : Rm} (k : RmOk r) {l : List Int} (h : ∀ x ∈ l, 0 ≤ x ∧ x ≤ 65535) {i : Nat} (hi : i < r.ba.length) : (gR r.ba i).lo ≤ sCh r l i ∧ sCh r l i ≤ (gR r.ba i).hi := by
  have hb := k.ba _ (List.mem_of_getElem? (gR_get (show (i : Int) < r.ba.length by omega)))
  have hw := sWord_le h i
  have := tmod_le hw.1 (s := (gR r.ba i).hi - (gR r.ba i).lo + 1) (by omega)
  simp only [sCh]; omega
theorem chN_gi (r : Rm) (l : List Int) {i j : Nat} (h : j < i) : gi (chN r l i) j = sCh r l j := gi_map h
set_option maxHeartbeats 2000000 in
theorem c_Chosen (r : Rm) (k : RmOk r) (l : List Int) (h : ∀ x ∈ l, 0 ≤ x ∧ x ≤ 65535) : Pu Tryz.prog (.fn 64 [] []) [.agg r.cs, vW l] (vI (sChosen r l)) := by
  refine Ev.fn Tryz.func64 rfl rfl (Fn.body tabOk Tryz.func64 rfl (Nat.le_of_ble_eq_true rfl) (Ks.ok (fz := (fzn [7])) (cl := (cln [(8, .d (tgL [(45, 1)]) [cP, cP, cL, cP, cP, cL, cP, cL, cP, cP, cP, cP, cP, some ([1], [1]), cP])])) tabOk mixed ?_))
  generalize hQ : FnPost tt Tryz.f64 _ _ = Q
  simp only [Tryz.f64, List.nil_append, List.append_nil, argsEnv, Nat.reduceAdd]
  have hl5 := k.len
  simp only [gos, eq_self, Nat.reduceLT, Nat.reduceEqDiff, reduceCtorEq, reduceIte, ↓reduceIte, vgo, vout, vguard, callOf, vop, ev, cv, newRow]
  refine W.loop tabOk mixed (fun i : Nat => ([(1, vW l), (2, .rop r.cs), (5, .own 45 i 0 1 i), (6, vi i)], [(45, ⟨i, .row (cI (chN r l i))⟩)])) (fun i => r.ba.length - i) (fun i => i ≤ r.ba.length) 0 (by omega) (Wk.trans (Wk.sl0E 5 45 1 rfl rfl) (Wk.env (by simp [subE, Env.get]))) ?_
  intro i hi
  by_cases hil : (i : Int) < r.ba.length
  · have hab := cR_at (Int.natCast_nonneg i) hil
    rw [Int.toNat_natCast] at hab
    have hb := k.ba _ (List.mem_of_getElem? (gR_get hil))
    have hl := k.A.k0.last
    have hsi := sCh_in k h (i := i) (by omega)
    have hw := sWord_le h i
    have w1 := i64_in (show -9223372036854775808 ≤ (gR r.ba i).hi - (gR r.ba i).lo by omega) (show (gR r.ba i).hi - (gR r.ba i).lo ≤ 9223372036854775807 by omega)
    have w2 := i64_in (show -9223372036854775808 ≤ (gR r.ba i).hi - (gR r.ba i).lo + 1 by omega) (show (gR r.ba i).hi - (gR r.ba i).lo + 1 ≤ 9223372036854775807 by omega)
    have w3 : IntKind.i64.wrap ((gR r.ba i).lo + (sWord l i).tmod ((gR r.ba i).hi - (gR r.ba i).lo + 1)) = sCh r l i := by
      rw [i64_in (by simp only [sCh] at hsi; omega) (by simp only [sCh] at hsi; omega)]; rfl
    have z1 : ¬ (gR r.ba i).hi - (gR r.ba i).lo + 1 = 0 := by omega
    have hn : (cI (chN r l i)).length = i * 1 := by rw [cI_len, chN_len]; omega
    have hi9 : i ≤ 999999 := by omega
    by_cases hn0 : l = []
    · have z0 : ¬ 0 < ((l.length : Nat) : Int) := by simp [hn0]
      have ew : sWord l i = 0 := by simp [sWord, hn0]
      rw [ew] at w3
      simp only [gos, eq_self, Nat.reduceLT, Nat.reduceEqDiff, Nat.reduceAdd, reduceCtorEq, reduceIte, ↓reduceIte, tt, vgo, vout, vguard, callOf, vop, ev, cv, vbin, vint, isShift, isNilConst, vload, vlen, newRow, rms, vR, vW, hil, hab, Int.natCast_nonneg, Int.toNat_natCast, z0]
      refine Wr.draw (by kernel_rfl) ?_
      simp only [gos, eq_self, Nat.reduceLT, Nat.reduceEqDiff, Nat.reduceAdd, Nat.reduceMul, Nat.reduceLeDiff, reduceCtorEq, reduceIte, ↓reduceIte, tt, vgo, vout, vgoD, voutD, vclsOk, vids, mayWrite, V.ids, vguard, callOf, vop, ev, cv, vbin, vint, isShift, isNilConst, vload, vfill, vappend, srcOf, clsAt, w1, w2, w3, z1, hn, hi9]
      refine Nx.mk (i + 1) (show r.ba.length - (i + 1) < r.ba.length - i by omega) (show i + 1 ≤ r.ba.length by omega) (Wk.forget ?_ ?_ (fun j hp => by simp [orD, domP, Heap.get] at hp) ?_ ?_)
      · simp [subE, Env.get, i64_succ (show (i : Int) < 9223372036854775807 by omega)]
      · rw [chN_succ, cI_snoc]; simp [subH, Heap.get]
      · simp only [intoE, V.into, Bool.true_and, Bool.and_true, rm_into, cW16_into, domP, Heap.get]; rfl
      · simp only [intoH, Blk.into, cI_into, Bool.and_self]
    · have hp := List.length_pos_iff.2 hn0
      have z0 : 0 < ((l.length : Nat) : Int) := by omega
      have z2 : ¬ ((l.length : Nat) : Int) = 0 := by omega
      have hm : (i : Int).tmod (l.length : Int) = ((i % l.length : Nat) : Int) := by rw [Int.tmod_eq_emod_of_nonneg (by omega)]; rfl
      have hlt : ((i % l.length : Nat) : Int) < l.length := by have := Nat.mod_lt i hp; omega
      have e1 := cW16_at hlt
      have e2 : (((i % l.length : Nat) : Int)).toNat = i % l.length := Int.toNat_natCast _
      have e3 : 0 ≤ ((i % l.length : Nat) : Int) := Int.natCast_nonneg _
      have ew : sWord l i = gi l ((i % l.length : Nat) : Int) := by simp only [sWord, if_neg hn0]
      rw [ew] at w3 hw
      have w4 := i64_in (show -9223372036854775808 ≤ gi l ((i % l.length : Nat) : Int) by omega) (show gi l ((i % l.length : Nat) : Int) ≤ 9223372036854775807 by omega)
      simp only [gos, eq_self, Nat.reduceLT, Nat.reduceEqDiff, Nat.reduceAdd, reduceCtorEq, reduceIte, ↓reduceIte, tt, vgo, vout, vguard, callOf, vop, ev, cv, vbin, vint, isShift, isNilConst, vload, vlen, newRow, rms, vR, vW, hil, hab, Int.natCast_nonneg, Int.toNat_natCast, z0, z2, hm, hlt, e2, e3, Nat.mul_one, e1, w4]
      refine Wr.draw (by kernel_rfl) ?_
      simp only [gos, eq_self, Nat.reduceLT, Nat.reduceEqDiff, Nat.reduceAdd, Nat.reduceMul, Nat.reduceLeDiff, reduceCtorEq, reduceIte, ↓reduceIte, tt, vgo, vout, vgoD, voutD, vclsOk, vids, mayWrite, V.ids, vguard, callOf, vop, ev, cv, vbin, vint, isShift, isNilConst, vload, vfill, vappend, srcOf, clsAt, w1, w2, w3, z1, hn, hi9]
      refine Nx.mk (i + 1) (show r.ba.length - (i + 1) < r.ba.length - i by omega) (show i + 1 ≤ r.ba.length by omega) (Wk.forget ?_ ?_ (fun j hp => by simp [orD, domP, Heap.get] at hp) ?_ ?_)
      · simp [subE, Env.get, i64_succ (show (i : Int) < 9223372036854775807 by omega)]
      · rw [chN_succ, cI_snoc]; simp [subH, Heap.get]
      · simp only [intoE, V.into, Bool.true_and, Bool.and_true, rm_into, cW16_into, domP, Heap.get]; rfl
      · simp only [intoH, Blk.into, cI_into, Bool.and_self]
  · have hie : i = r.ba.length := by omega
    simp only [gos, eq_self, Nat.reduceLT, Nat.reduceEqDiff, reduceCtorEq, reduceIte, ↓reduceIte, tt, vgo, vout, vguard, callOf, vop, ev, vbin, vint, isShift, isNilConst, vload, vlen, rms, vR, hil]
    subst hQ
    have hl := chN_len r l i
    have ht : (cI (chN r l i)).take i = cI (chN r l i) := List.take_of_length_le (by rw [cI_len]; omega)
    rw [sChosen, ← hie]
    refine FnPost.plain trivial (v := .own 45 i 0 1 i) (fun h2 e => by rfl) (WkV.frz 45 (v' := vI (chN r l i)) (h' := []) (ver := i) (cs := cI (chN r l i)) rfl rfl (cI_into _ _) rfl ?_ ?_ WkV.refl) ⟨rfl, rfl⟩
    · simp [V.frz, vI, ht, hl]
    · simp [frzH]
end Go.Vm

set_option linter.unusedVariables false
set_option linter.unusedSimpArgs false
set_option maxRecDepth 100000
namespace Go.Vm
/-! ### the fewest baths that can be given back -/
def restN (r : Rm) (b : Nat) : Bool := !(rSures r (rTruths r.cu) b).isEmpty
theorem rest_out {r : Rm} (k : RmOk r) {out : List Int} {b : Nat} (h : ∀ j, j < r.ba.length → b.testBit j = !outB out j) : sRest r out = restN r b := by
  rw [sRest, restN, sures_map k (b := b) fun j hj => by rw [h j hj, Bool.not_not], List.isEmpty_map]
theorem giveF_find (r : Rm) : ∀ (m : Nat) (out : List Int) (first : Int), giveF r m out first = (combos r.ba.length m out first).find? (sRest r)
  | 0, out, first => by
    rw [giveF, combos, List.find?_cons]
    cases h : sRest r out <;> simp []
  | m + 1, out, first => by
    rw [giveF, combos, List.find?_flatMap]
    congr 1
    funext i
    exact giveF_find r m _ _
theorem giveAll_find (r : Rm) : giveAll r = (allSets r.ba.length).find? (sRest r) := by
  rw [giveAll, allSets, List.find?_flatMap]
  congr 1
  funext i
  exact giveF_find r _ _ _
/-- What the program finds: the first set, and what is so of it. -/
theorem give_first {r : Rm} (k : RmOk r) (hs : sSureN r zL = true) : ∃ b, b < 2 ^ r.ba.length ∧ giveAll r = some (sBits b) ∧ restN r (2 ^ r.ba.length - 1 - b) = true ∧
    ∀ j, j < 2 ^ r.ba.length → restN r (2 ^ r.ba.length - 1 - j) = true → (perm r.ba.length).idxOf b ≤ (perm r.ba.length).idxOf j := by
  have hn : r.ba.length < 6 := by have := k.len; omega
  obtain ⟨l, hl⟩ := giveAll_some k hs
  have e : (allSets r.ba.length).find? (sRest r) = ((perm r.ba.length).find? fun b => restN r (2 ^ r.ba.length - 1 - b)).map sBits := by
    rw [perm_sets hn, List.find?_map]
    congr 1
    refine find_congr fun b hb => ?_
    exact rest_out k fun i hi => mask_bits hn (perm_lt hn b hb) hi
  rw [giveAll_find, e] at hl
  cases hf : (perm r.ba.length).find? fun b => restN r (2 ^ r.ba.length - 1 - b) with
  | none => rw [hf] at hl; cases hl
  | some b =>
    obtain ⟨h1, h2, h3⟩ := find_first hf
    exact ⟨b, perm_lt hn b h2, by rw [giveAll_find, e, hf]; rfl, h1, fun j hj hp => h3 j (perm_mem hn hj) hp⟩
theorem give_best {r : Rm} (k : RmOk r) (hs : sSureN r zL = true) : ∃ b, b < 2 ^ r.ba.length ∧ giveAll r = some (sBits b) ∧ restN r (2 ^ r.ba.length - 1 - b) = true ∧ ∀ j, j < 2 ^ r.ba.length → restN r (2 ^ r.ba.length - 1 - j) = true → lShorter (sBits j) (sBits b) = false := by
  have hn : r.ba.length < 6 := by have := k.len; omega
  obtain ⟨b, h1, h2, h3, h4⟩ := give_first k hs
  refine ⟨b, h1, h2, h3, fun j hj hP => ?_⟩
  have := h4 j hj hP
  rw [perm_rk hn hj h1, decide_eq_false (by omega)]
/-- Any sure plan needs that no baths are sure. -/
theorem sure_zero {r : Rm} (k : RmOk r) {n : List Int} (h0 : ∀ i : Nat, (i : Int) ≤ r.cu.last → 0 ≤ gi n i) (h : sSureN r n = true) : sSureN r zL = true :=
  sure_le k (fun i hi => by rw [zL_gi]; exact ⟨Int.le_refl _, h0 i hi⟩) h
theorem cnt_nonneg {r : Rm} (k : RmOk r) {p : List Int} (hp : ∀ h ∈ p, 0 ≤ h ∧ h ≤ r.cu.last) (i : Nat) : 0 ≤ gi (cntN p) i := (num_same k hp i).2
theorem rest_zero {r : Rm} (k : RmOk r) {out : List Int} (h : sRest r out = true) : sSureN r zL = true := by
  rw [sRest, Bool.not_eq_true', List.isEmpty_eq_false_iff] at h
  obtain ⟨p, hp⟩ := List.exists_mem_of_ne_nil _ h
  rw [plL_eq k, List.mem_filter] at hp
  exact sure_zero k (fun i _ => cnt_nonneg k (allP_mem k (by omega) p hp.1) i) hp.2
/-- The list of the baths that are not among some bits. -/
def outs (n b : Nat) : List Int := ((List.range n).filter fun i => !b.testBit i).map fun (i : Nat) => (i : Int)
theorem outs_out (n b : Nat) {j : Nat} (hj : j < n) : outB (outs n b) j = !b.testBit j := by
  rw [Bool.eq_iff_iff, outB, List.any_eq_true]
  constructor
  · rintro ⟨x, hx, he⟩
    simp only [outs, List.mem_map, List.mem_filter] at hx
    obtain ⟨i, ⟨_, hb⟩, rfl⟩ := hx
    have : j = i := by have := of_decide_eq_true he; omega
    rw [this]; exact hb
  · intro h
    exact ⟨j, by simp only [outs, List.mem_map, List.mem_filter, List.mem_range]; exact ⟨j, ⟨hj, h⟩, rfl⟩, by simp⟩
theorem restN_zero {r : Rm} (k : RmOk r) {b : Nat} (h : restN r b = true) : sSureN r zL = true := by
  rw [← rest_out k (out := outs r.ba.length b) fun j hj => by rw [outs_out _ _ hj, Bool.not_not]] at h
  exact rest_zero k h
/-! the reference's -/
def rGiveS (r : Rm) (l : List Tr2) (o : Option (List Int)) (b : Nat) : Option (List Int) :=
  if ((match o with | none => true | some best => lShorter (sBits b) best) && !(rSures r l (2 ^ r.ba.length - 1 - b)).isEmpty) = true then some (sBits b) else o
def rGiveN (r : Rm) (l : List Tr2) (i : Nat) : Option (List Int) := (List.range i).foldl (rGiveS r l) none
theorem rGiveN_succ (r : Rm) (l : List Tr2) (i : Nat) : rGiveN r l (i + 1) = rGiveS r l (rGiveN r l i) i := by simp only [rGiveN, List.range_succ, List.foldl_append]; rfl
def rGive (r : Rm) (l : List Tr2) : Option (List Int) := rGiveN r l (2 ^ r.ba.length)
theorem gfold {r : Rm} (hn : r.ba.length < 6) : ∀ i, i ≤ 2 ^ r.ba.length →
    (rGiveN r (rTruths r.cu) i = none ∧ ∀ j, j < i → restN r (2 ^ r.ba.length - 1 - j) = false) ∨
    ∃ b, b < 2 ^ r.ba.length ∧ rGiveN r (rTruths r.cu) i = some (sBits b) ∧ restN r (2 ^ r.ba.length - 1 - b) = true ∧ ∀ j, j < i → restN r (2 ^ r.ba.length - 1 - j) = true → (perm r.ba.length).idxOf b ≤ (perm r.ba.length).idxOf j
  | 0, _ => .inl ⟨rfl, fun j hj => by omega⟩
  | i + 1, hi => by
    have hib : i < 2 ^ r.ba.length := by omega
    rw [rGiveN_succ]
    rcases gfold hn i (by omega) with ⟨h1, h2⟩ | ⟨b, h1, h2, h3, h4⟩
    · rw [h1, rGiveS]
      cases hc : restN r (2 ^ r.ba.length - 1 - i) with
      | true =>
        rw [restN] at hc
        rw [hc]
        exact .inr ⟨i, hib, rfl, hc, fun j hj hp => by
          rcases Nat.lt_succ_iff_lt_or_eq.1 hj with hj | rfl
          · rw [h2 j hj] at hp; cases hp
          · exact Nat.le_refl _⟩
      | false =>
        have hc2 := hc
        rw [restN] at hc
        rw [hc]
        exact .inl ⟨rfl, fun j hj => by
          rcases Nat.lt_succ_iff_lt_or_eq.1 hj with hj | rfl
          · exact h2 j hj
          · exact hc2⟩
    · rw [h2, rGiveS]
      simp only [perm_rk hn hib h1]
      by_cases hc : (decide ((perm r.ba.length).idxOf i < (perm r.ba.length).idxOf b) && !(rSures r (rTruths r.cu) (2 ^ r.ba.length - 1 - i)).isEmpty) = true
      · rw [if_pos hc]
        rw [Bool.and_eq_true, decide_eq_true_eq] at hc
        refine .inr ⟨i, hib, rfl, hc.2, fun j hj hp => ?_⟩
        rcases Nat.lt_succ_iff_lt_or_eq.1 hj with hj | rfl
        · have := h4 j hj hp; omega
        · exact Nat.le_refl _
      · rw [if_neg hc]
        refine .inr ⟨b, h1, rfl, h3, fun j hj hp => ?_⟩
        rcases Nat.lt_succ_iff_lt_or_eq.1 hj with hj | rfl
        · exact h4 j hj hp
        · rw [Bool.and_eq_true, decide_eq_true_eq] at hc
          rcases Nat.lt_or_ge ((perm r.ba.length).idxOf j) ((perm r.ba.length).idxOf b) with hlt | hge
          · exact absurd ⟨hlt, hp⟩ hc
          · exact hge
theorem give_same {r : Rm} (k : RmOk r) : rGive r (rTruths r.cu) = if sSureN r zL = true then giveAll r else none := by
  have hn : r.ba.length < 6 := by have := k.len; omega
  rcases gfold hn (2 ^ r.ba.length) (Nat.le_refl _) with ⟨h1, h2⟩ | ⟨b, h1, h2, h3, h4⟩
  · by_cases hs : sSureN r zL = true
    · obtain ⟨b, g1, g2, g3, g4⟩ := give_first k hs
      have := h2 b g1
      rw [g3] at this; cases this
    · rw [if_neg hs, rGive, h1]
  · have hs := restN_zero k h3
    obtain ⟨x, g1, g2, g3, g4⟩ := give_first k hs
    have a1 := h4 x g1 g3
    have a2 := g4 b h1 h3
    have := idxOf_inj (perm_mem hn h1) (perm_mem hn g1) (by omega)
    rw [if_pos hs, rGive, h2, g2, this]
end Go.Vm

set_option linter.unusedVariables false
set_option linter.unusedSimpArgs false
set_option maxRecDepth 100000
namespace Go.Vm
/-! ### the most baths -/
theorem padN_len {l : List Int} (h : l.length ≤ 5) : (pad5 l).length = 5 := by simp [pad5]; omega
theorem padN_set {pre : List Int} (h : pre.length < 5) (v : Int) : (pad5 pre).set pre.length v = pad5 (pre ++ [v]) := by
  rw [pad5, List.set_append_right _ _ (Nat.le_refl _), Nat.sub_self, show 5 - pre.length = (5 - (pre ++ [v]).length) + 1 by simp; omega, List.replicate_succ, List.set_cons_zero, pad5, List.append_assoc]; rfl
theorem sumN_pad {l : List Int} (h : l.length ≤ 5) : sumN (pad5 l) 5 = l.sum := by
  have e : ∀ (m : List Int) (n : Int), m.foldl (· + ·) n = n + m.sum := by
    intro m
    induction m with
    | nil => intro n; simp
    | cons x m ih => intro n; rw [List.foldl_cons, ih, List.sum_cons]; omega
  have hr : ∀ n : Nat, (List.replicate n (0 : Int)).sum = 0 := fun n => by
    induction n with
    | zero => rfl
    | succ n ih => rw [List.replicate_succ, List.sum_cons, ih]; rfl
  rw [sumN, List.take_of_length_le (by rw [padN_len h]; omega), e, pad5, List.sum_append, hr]; omega
theorem padN_take {l : List Int} {m : Nat} (h : l.length = m) : (pad5 l).take m = l := by
  rw [pad5, ← h, List.take_left]
theorem rangeI_mono {p : Int → Bool} {lo hi : Int} (h : ∀ a b, lo ≤ a → a ≤ b → p b = true → p a = true) : (rangeI lo hi).takeWhile p = (rangeI lo hi).filter p := by
  have e : ∀ l : List Int, l.Pairwise (· < ·) → (∀ x ∈ l, lo ≤ x) → l.takeWhile p = l.filter p := by
    intro l
    induction l with
    | nil => intro _ _; rfl
    | cons x l ih =>
      intro hp hl
      rw [List.pairwise_cons] at hp
      cases hx : p x with
      | true => rw [List.takeWhile_cons_of_pos hx, List.filter_cons_of_pos hx, ih hp.2 fun y hy => hl y (by simp [hy])]
      | false =>
        rw [List.takeWhile_cons_of_neg (by simp [hx]), List.filter_cons_of_neg (by simp [hx])]
        symm
        rw [List.filter_eq_nil_iff]
        intro y hy hpy
        rw [h x y (hl x (by simp)) (Int.le_of_lt (hp.1 y hy)) hpy] at hx
        cases hx
  exact e _ (rangeI_pair lo hi) fun x hx => (mem_rangeI.1 hx).1
theorem flat_filter {α β : Type} (p : α → Bool) (f g : α → List β) : ∀ l : List α, (∀ x ∈ l, p x = true → f x = g x) → (∀ x ∈ l, p x = false → g x = []) → (l.filter p).flatMap f = l.flatMap g
  | [], _, _ => rfl
  | x :: l, h1, h2 => by
    have ih := flat_filter p f g l (fun y hy => h1 y (by simp [hy])) fun y hy => h2 y (by simp [hy])
    cases hx : p x with
    | true => rw [List.filter_cons_of_pos hx, List.flatMap_cons, List.flatMap_cons, ih, h1 x (by simp) hx]
    | false => rw [List.filter_cons_of_neg (by simp [hx]), List.flatMap_cons, ih, h2 x (by simp) hx]; rfl
theorem gi_append_ge {pre l : List Int} (h : ∀ x ∈ l, 0 ≤ x) (i : Nat) : gi pre i ≤ gi (pre ++ l) i := by
  by_cases hi : i < pre.length
  · simp only [gi, Int.toNat_natCast, List.getD_eq_getElem?_getD, List.getElem?_append_left hi]; exact Int.le_refl _
  · have e : gi pre i = 0 := by simp only [gi, Int.toNat_natCast, List.getD_eq_getElem?_getD, List.getElem?_eq_none (show pre.length ≤ i by omega)]; rfl
    rw [e]
    by_cases hi2 : i < (pre ++ l).length
    · simp only [gi, Int.toNat_natCast, List.getD_eq_getElem?_getD, List.getElem?_append_right (show pre.length ≤ i by omega)]
      rw [List.length_append] at hi2
      rw [List.getElem?_eq_getElem (by omega)]
      exact h _ (List.getElem_mem _)
    · simp only [gi, Int.toNat_natCast, List.getD_eq_getElem?_getD, List.getElem?_eq_none (show (pre ++ l).length ≤ i by omega)]; exact Int.le_refl _
theorem gi_ge0 {l : List Int} (h : ∀ x ∈ l, 0 ≤ x) (i : Nat) : 0 ≤ gi l i := by
  have := gi_append_ge (pre := []) h i
  simp only [List.nil_append] at this
  have e : gi [] (i : Int) = 0 := by simp [gi]
  omega
theorem gi_snoc (pre : List Int) (v : Int) (i : Nat) : gi (pre ++ [v]) i = if i = pre.length then v else gi pre i := by
  simp only [gi, Int.toNat_natCast, List.getD_eq_getElem?_getD]
  rcases Nat.lt_trichotomy i pre.length with h | h | h
  · rw [List.getElem?_append_left h, if_neg (by omega)]
  · subst h; rw [if_pos rfl, List.getElem?_append_right (Nat.le_refl _)]; simp
  · rw [if_neg (by omega), List.getElem?_eq_none (by simp; omega), List.getElem?_eq_none (by omega)]
theorem leavesM_eq {r : Rm} (k : RmOk r) : ∀ (m : Nat) (pre : List Int), pre.length + m ≤ 5 → (∀ x ∈ pre, 0 ≤ x) → sSureN r (pad5 pre) = true →
    leavesM r m pre.length (pad5 pre) = ((digs r.pl m).map fun l => pad5 (pre ++ l)).filter (sSureN r)
  | 0, pre, _, _, hs => by simp [leavesM, digs, hs]
  | m + 1, pre, hl, h0, hs => by
    have hp5 : pre.length < 5 := by omega
    have hset : ∀ v, (pad5 pre).set pre.length v = pad5 (pre ++ [v]) := padN_set hp5
    rw [leavesM]
    simp only [hset]
    rw [rangeI_mono (p := fun v => sSureN r (pad5 (pre ++ [v]))) fun a b ha hab hb => sure_le k (fun i _ => by
      rw [pad5_gi, pad5_gi, gi_snoc, gi_snoc]
      have := gi_ge0 h0 i
      split <;> omega) hb]
    rw [digs, List.map_flatMap, List.filter_flatMap]
    refine flat_filter _ _ _ _ (fun v hv hpv => ?_) fun v hv hpv => ?_
    · have hv := mem_rangeI.1 hv
      have ih := leavesM_eq k m (pre ++ [v]) (by simp; omega) (fun x hx => by rcases List.mem_append.1 hx with h | h; exact h0 x h; rw [List.mem_singleton.1 h]; exact hv.1) hpv
      rw [List.length_append] at ih
      rw [show pre.length + 1 = pre.length + [v].length from rfl, ih, List.map_map]
      congr 1
      apply List.map_congr_left
      intro l _
      simp
    · rw [List.filter_eq_nil_iff]
      intro x hx hsx
      simp only [List.mem_map] at hx
      obtain ⟨_, ⟨l, hl, rfl⟩, rfl⟩ := hx
      have hv := mem_rangeI.1 hv
      have hl2 := (digs_mem.1 hl).2
      rw [sure_le k (fun i _ => by
        rw [pad5_gi, pad5_gi, show pre ++ v :: l = (pre ++ [v]) ++ l by simp]
        exact ⟨gi_ge0 (fun x hx => by rcases List.mem_append.1 hx with h | h; exact h0 x h; rw [List.mem_singleton.1 h]; exact hv.1) i, gi_append_ge (fun x hx => (hl2 x hx).1) i⟩) hsx] at hpv
      cases hpv
/-! the best of a list -/
def bestL (b : List Int) (l : List (List Int)) : List Int := l.foldl (fun b x => if b.sum < x.sum then x else b) b
theorem bestM_pad : ∀ (l : List (List Int)) (b : List Int), b.length ≤ 5 → (∀ x ∈ l, x.length ≤ 5) → bestM (pad5 b) (l.map pad5) = pad5 (bestL b l)
  | [], b, _, _ => rfl
  | x :: l, b, hb, hl => by
    have ih := bestM_pad l
    have hx := hl x (by simp)
    have hl2 : ∀ y ∈ l, y.length ≤ 5 := fun y hy => hl y (by simp [hy])
    simp only [bestM, bestL, List.map_cons, List.foldl_cons, sumN_pad hb, sumN_pad hx] at ih ⊢
    split
    · exact ih x hx hl2
    · exact ih b hb hl2
theorem bestL_spec : ∀ (l : List (List Int)) (b : List Int), l.Pairwise (fun a b => lBefore a b = true) → (∀ x ∈ l, lBefore b x = true) →
    (bestL b l = b ∨ bestL b l ∈ l) ∧ ∀ x ∈ b :: l, x.sum < (bestL b l).sum ∨ (x.sum = (bestL b l).sum ∧ (bestL b l = x ∨ lBefore (bestL b l) x = true))
  | [], b, _, _ => ⟨.inl rfl, fun x hx => by rw [List.mem_singleton.1 hx]; exact .inr ⟨rfl, .inl rfl⟩⟩
  | y :: l, b, hp, hb => by
    rw [List.pairwise_cons] at hp
    by_cases h : b.sum < y.sum
    · have e : bestL b (y :: l) = bestL y l := by simp only [bestL, List.foldl_cons, h, if_true]
      obtain ⟨g1, g2⟩ := bestL_spec l y hp.2 hp.1
      rw [e]
      refine ⟨.inr (by rcases g1 with h | h; rw [h]; simp; simp [h]), fun x hx => ?_⟩
      rcases List.mem_cons.1 hx with rfl | hx
      · left
        rcases g2 y (by simp) with h2 | ⟨h2, _⟩ <;> omega
      · exact g2 x hx
    · have e : bestL b (y :: l) = bestL b l := by simp only [bestL, List.foldl_cons, h, if_false]
      obtain ⟨g1, g2⟩ := bestL_spec l b hp.2 fun x hx => hb x (by simp [hx])
      rw [e]
      refine ⟨by rcases g1 with h | h; exact .inl h; exact .inr (by simp [h]), fun x hx => ?_⟩
      rcases List.mem_cons.1 hx with rfl | hx
      · exact g2 x (by simp)
      · rcases List.mem_cons.1 hx with rfl | hx
        · have hbx := hb x (by simp)
          rcases g2 b (by simp) with h2 | ⟨h2, h3⟩
          · left; omega
          · rcases Int.lt_or_le x.sum (bestL b l).sum with h4 | h4
            · exact .inl h4
            · refine .inr ⟨by omega, ?_⟩
              rcases h3 with h3 | h3
              · rw [h3]; exact .inr hbx
              · rcases g1 with g1 | g1
                · rw [g1]; exact .inr hbx
                · exfalso
                  have h5 := hb _ (List.mem_cons_of_mem _ g1)
                  rw [lBefore_asymm h5] at h3; cases h3
        · exact g2 x (by simp [hx])
theorem digs_zero {s : Int} (hs : 0 ≤ s) : ∀ k, ∃ l, digs s k = List.replicate k 0 :: l
  | 0 => ⟨[], rfl⟩
  | k + 1 => by
    obtain ⟨l, hl⟩ := digs_zero hs k
    obtain ⟨m, hm⟩ : ∃ m, rangeI 0 s = 0 :: m := by
      rw [rangeI, show (s + 1 - 0).toNat = s.toNat + 1 by omega, List.range_succ_eq_map]
      exact ⟨_, rfl⟩
    rw [digs, hm, List.flatMap_cons, hl, List.map_cons, List.cons_append]
    exact ⟨_, rfl⟩
/-- The lists of numbers of baths that are sure. -/
def sureL (r : Rm) : List (List Int) := (digs r.pl (r.cu.last + 1).toNat).filter fun l => sSureN r (pad5 l)
theorem pad_zero (m : Nat) (h : m ≤ 5) : pad5 (List.replicate m 0) = zL := by
  have : ∀ m : Fin 6, pad5 (List.replicate (m : Nat) 0) = zL := by decide +kernel
  exact this ⟨m, by omega⟩
theorem sureL_zero {r : Rm} (k : RmOk r) (hs : sSureN r zL = true) : ∃ l, sureL r = List.replicate (r.cu.last + 1).toNat 0 :: l := by
  have hl := k.A.k0.last
  obtain ⟨l, h⟩ := digs_zero k.pl.1 (r.cu.last + 1).toNat
  rw [sureL, h, List.filter_cons_of_pos (by rw [pad_zero _ (by omega)]; exact hs)]
  exact ⟨_, rfl⟩
theorem sureL_len {r : Rm} {x : List Int} (h : x ∈ sureL r) : x.length = (r.cu.last + 1).toNat := (digs_mem.1 (List.mem_filter.1 h).1).1
theorem mostN_eq {r : Rm} (k : RmOk r) (hs : sSureN r zL = true) : mostN r = pad5 (bestL (List.replicate (r.cu.last + 1).toNat 0) (sureL r)) := by
  have hl := k.A.k0.last
  have e := leavesM_eq k (r.cu.last + 1).toNat [] (by simp; omega) (fun x hx => by simp at hx) hs
  rw [List.filter_map] at e
  have e2 : leavesM r (r.cu.last + 1).toNat 0 zL = (sureL r).map pad5 := e
  rw [mostN, e2, ← pad_zero (r.cu.last + 1).toNat (by omega), bestM_pad _ _ (by simp; omega) fun x hx => by rw [sureL_len hx]; omega]
/-- What Most returns. -/
def mostF (r : Rm) : List Int := bestL (List.replicate (r.cu.last + 1).toNat 0) (sureL r)
theorem mostF_spec {r : Rm} (k : RmOk r) (hs : sSureN r zL = true) : mostF r ∈ sureL r ∧ ∀ x ∈ sureL r, x.sum < (mostF r).sum ∨ (x.sum = (mostF r).sum ∧ (mostF r = x ∨ lBefore (mostF r) x = true)) := by
  obtain ⟨l, hl⟩ := sureL_zero k hs
  have hp : (sureL r).Pairwise (fun a b => lBefore a b = true) := (digs_pair _ _).filter _
  have e : mostF r = bestL (List.replicate (r.cu.last + 1).toNat 0) l := by
    rw [mostF, hl, bestL, List.foldl_cons, if_neg (by omega)]; rfl
  rw [hl, List.pairwise_cons] at hp
  obtain ⟨g1, g2⟩ := bestL_spec l _ hp.2 hp.1
  rw [e, hl]
  exact ⟨by rcases g1 with h | h; rw [h]; simp; simp [h], g2⟩
theorem most_eq {r : Rm} (k : RmOk r) (hs : sSureN r zL = true) : (mostN r).take (r.cu.last + 1).toNat = mostF r := by
  rw [mostN_eq k hs]
  exact padN_take (sureL_len (mostF_spec k hs).1)
/-! the reference's -/
def rOther (r : Rm) (n : Int) : List Int := lowD (r.pl + 1) n (r.cu.last + 1).toNat
def rOthers (r : Rm) : Nat := (r.pl + 1).toNat ^ (r.cu.last + 1).toNat
theorem others_eq {r : Rm} (h : 0 ≤ r.pl) : digs r.pl (r.cu.last + 1).toNat = (List.range (rOthers r)).map fun (n : Nat) => rOther r n := by
  obtain ⟨S, hS⟩ : ∃ S : Nat, (S : Int) = r.pl + 1 := ⟨(r.pl + 1).toNat, by omega⟩
  have e := digs_eq S (by omega) (r.cu.last + 1).toNat
  rw [show (S : Int) - 1 = r.pl by omega] at e
  rw [e, rOthers, ← hS, Int.toNat_natCast]
  simp only [rOther, hS]
def rMostS (r : Rm) (l : List Tr2) (o : Option (List Int)) (x : List Int) : Option (List Int) :=
  if ((match o with | none => true | some b => decide (b.sum < x.sum)) && rSureM r l x) = true then some x else o
def rMostN (r : Rm) (l : List Tr2) (i : Nat) : Option (List Int) := (List.range i).foldl (fun o (n : Nat) => rMostS r l o (rOther r n)) none
theorem rMostN_succ (r : Rm) (l : List Tr2) (i : Nat) : rMostN r l (i + 1) = rMostS r l (rMostN r l i) (rOther r i) := by simp only [rMostN, List.range_succ, List.foldl_append]; rfl
def rMost (r : Rm) (l : List Tr2) : Option (List Int) := rMostN r l (rOthers r)
theorem sure_dig {r : Rm} (k : RmOk r) {x : List Int} (h : x ∈ digs r.pl (r.cu.last + 1).toNat) : rSureM r (rTruths r.cu) x = sSureN r (pad5 x) := by
  have hl := k.A.k0.last
  have h2 := digs_mem.1 h
  exact (sure_ref k (m := x) (by omega) (fun i _ => pad5_gi x i) fun i _ => gi_ge0 (fun y hy => (h2.2 y hy).1) i).2.2.symm
theorem fold_filter {p : List Int → Bool} : ∀ (L : List (List Int)) (b : List Int), L.foldl (fun (o : Option (List Int)) x => if ((match o with | none => true | some b => decide (b.sum < x.sum)) && p x) = true then some x else o) (some b) = some (bestL b (L.filter p))
  | [], b => rfl
  | x :: L, b => by
    rw [List.foldl_cons]
    cases hp : p x with
    | false => simp only [Bool.and_false, Bool.false_eq_true, if_false]; rw [fold_filter L b, List.filter_cons_of_neg (by simp [hp])]
    | true =>
      rw [List.filter_cons_of_pos hp]
      simp only [Bool.and_true, decide_eq_true_eq]
      split
      · rename_i h; rw [fold_filter L x]; simp only [bestL, List.foldl_cons, h, if_true]
      · rename_i h; rw [fold_filter L b]; simp only [bestL, List.foldl_cons, h, if_false]
theorem fold_none {p : List Int → Bool} : ∀ (L : List (List Int)), (∀ x ∈ L, p x = false) → L.foldl (fun (o : Option (List Int)) x => if ((match o with | none => true | some b => decide (b.sum < x.sum)) && p x) = true then some x else o) none = none
  | [], _ => rfl
  | x :: L, h => by
    rw [List.foldl_cons, h x (by simp)]
    simp only [Bool.and_false, Bool.false_eq_true, if_false]
    exact fold_none L fun y hy => h y (by simp [hy])
theorem most_same {r : Rm} (k : RmOk r) : rMost r (rTruths r.cu) = if sSureN r zL = true then some (mostF r) else none := by
  have hl := k.A.k0.last
  have e : rMost r (rTruths r.cu) = (digs r.pl (r.cu.last + 1).toNat).foldl (fun (o : Option (List Int)) x => if ((match o with | none => true | some b => decide (b.sum < x.sum)) && rSureM r (rTruths r.cu) x) = true then some x else o) none := by
    rw [others_eq k.pl.1, List.foldl_map]; rfl
  rw [e]
  have e2 : (digs r.pl (r.cu.last + 1).toNat).filter (rSureM r (rTruths r.cu)) = sureL r := List.filter_congr fun x hx => sure_dig k hx
  obtain ⟨l, hz⟩ := digs_zero k.pl.1 (r.cu.last + 1).toNat
  have hz2 := sure_dig k (x := List.replicate (r.cu.last + 1).toNat 0) (by rw [hz]; simp)
  rw [pad_zero _ (by omega)] at hz2
  by_cases hs : sSureN r zL = true
  · rw [if_pos hs]
    rw [hs] at hz2
    have e3 : sureL r = List.replicate (r.cu.last + 1).toNat 0 :: l.filter (rSureM r (rTruths r.cu)) := by rw [← e2, hz, List.filter_cons_of_pos hz2]
    rw [hz, List.foldl_cons]
    simp only [hz2, Bool.and_self, if_true]
    rw [fold_filter, mostF, e3, bestL, bestL, List.foldl_cons, if_neg (by omega)]
  · rw [if_neg hs]
    refine fold_none _ fun x hx => ?_
    cases hp : rSureM r (rTruths r.cu) x with
    | false => rfl
    | true =>
      exfalso
      have h2 := digs_mem.1 hx
      rw [sure_dig k hx] at hp
      exact hs (sure_zero k (fun i _ => by rw [pad5_gi]; exact gi_ge0 (fun y hy => (h2.2 y hy).1) i) hp)
end Go.Vm

set_option linter.unusedVariables false
set_option linter.unusedSimpArgs false
set_option maxRecDepth 100000
namespace Go.Vm
open Go.Proofs
/-! ### plans, in both ways -/
theorem are_plan (r : Rm) (plan : List Int) : rIsPlan r plan (2 ^ r.ba.length - 1) = sAre r plan := by
  rw [rIsPlan, sAre]
  by_cases h : plan.length = r.ba.length
  · rw [h]
    congr 1
    refine range_all_congr fun i hi => ?_
    rw [testBit_ones]; simp [hi]
  · simp [h]
theorem num_full {r : Rm} {plan : List Int} (h : plan.length = r.ba.length) : rNum r plan (2 ^ r.ba.length - 1) = addC (zerosN (r.cu.last + 1).toNat) plan := by
  rw [rNum_eq, pk_full (n := r.ba.length) (fun j hj => by rw [testBit_ones]; simp [hj]) plan 0 (by omega)]
def rPlanE (r : Rm) (plan : List Int) (fine : Bool) : Int :=
  if sCheckR r ≠ 0 then sCheckR r else if (!rIsPlan r plan (2 ^ r.ba.length - 1) || !fine) = true then 2 else if rCanBe r (rNum r plan (2 ^ r.ba.length - 1)) = false then 9 else 0
def rPlanL (r : Rm) (plan : List Int) (fine : Bool) : List Int := if rPlanE r plan fine = 0 then rNum r plan (2 ^ r.ba.length - 1) else []
theorem planned_same (r : Rm) (plan : List Int) (fine : Bool) : rPlanE r plan fine = sPlanned r plan fine := by
  rw [rPlanE, sPlanned, are_plan]
  by_cases h0 : sCheckR r = 0
  · have hn : ¬ (sCheckR r ≠ 0) := by simp [h0]
    rw [if_neg hn, if_neg hn]
    split
    · rfl
    · rename_i h
      have k := rmOk_of h0
      simp only [Bool.or_eq_true, Bool.not_eq_true', not_or, Bool.not_eq_false] at h
      obtain ⟨h1, h2⟩ := are_ok k h.1
      rw [(num_ref k h2 (num_full h1)).1]
  · rw [if_pos h0, if_pos h0]
theorem num_plan {r : Rm} (k : RmOk r) {plan : List Int} (h : sAre r plan = true) : nb r (cntN plan) = rBk r (rNum r plan (2 ^ r.ba.length - 1)) := by
  have hl := k.A.k0.last
  obtain ⟨h1, h2⟩ := are_ok k h
  rw [num_full h1]
  refine list_ext (by have := nb_len k (cntN plan); simp only [rBk, List.length_map, addC_len, zerosN, List.length_replicate]; omega) fun i hi => ?_
  have hi2 : (i : Int) ≤ r.cu.last := by have := nb_len k (cntN plan); omega
  rw [nb_gi hi2, rBk_gi r _ (by rw [addC_len]; simp only [zerosN, List.length_replicate]; omega), (num_same k h2 i).1]
theorem keV_plan {r : Rm} (k : RmOk r) {plan : List Int} (h : sAre r plan = true) (hp : sPossN r (cntN plan) = true) : keV r (cntN plan) = rKe r (rTruths r.cu) (rNum r plan (2 ^ r.ba.length - 1)) := by
  obtain ⟨h1, h2⟩ := are_ok k h
  exact (num_ref k h2 (num_full h1)).2.1 hp
theorem sure_plan {r : Rm} (k : RmOk r) {plan : List Int} (h : sAre r plan = true) : sSureN r (cntN plan) = rSureM r (rTruths r.cu) (rNum r plan (2 ^ r.ba.length - 1)) := by
  obtain ⟨h1, h2⟩ := are_ok k h
  exact (num_ref k h2 (num_full h1)).2.2
theorem full_nat (n : Nat) : (2 : Int) ^ n - 1 = ((2 ^ n - 1 : Nat) : Int) := by
  have h1 : 1 ≤ 2 ^ n := Nat.one_le_two_pow
  rw [Int.natCast_sub h1, Int.natCast_pow]; rfl
theorem full_lt {r : Rm} (k : RmOk r) : 2 ^ r.ba.length - 1 < 32 := by have := k.len; have := pow5 (n := r.ba.length) (by omega); have := Nat.two_pow_pos r.ba.length; omega
theorem num_mok {r : Rm} (k : RmOk r) {plan : List Int} (h : sAre r plan = true) : MOk r (rNum r plan (2 ^ r.ba.length - 1)) := by
  have hl := k.A.k0.last
  have hb := k.bu
  have hw := k.A.k0.want
  obtain ⟨h1, h2⟩ := are_ok k h
  have hlen : (rNum r plan (2 ^ r.ba.length - 1)).length = (r.cu.last + 1).toNat := by rw [num_full h1, addC_len]; simp [zerosN]
  refine ⟨by omega, by omega, by omega, fun x hx => by have := hw.2 x hx; omega, fun x hx => ?_⟩
  obtain ⟨i, hi, rfl⟩ := mem_gi hx
  have h3 := rNumN_le r plan (2 ^ r.ba.length - 1) h2 plan.length (Nat.le_refl _) i
  have h4 := k.len
  simp only [rNum] at h3 ⊢
  omega
theorem can_tr {r : Rm} (k : RmOk r) {m : List Int} (hm : (m.length : Int) = r.cu.last + 1) (h0 : ∀ x ∈ m, 0 ≤ x) (hc : rCanBe r m = true) : ∀ t ∈ rTruths r.cu, TrOk r.cu t r.cu.coal (addL r.cu.want (rBk r m)) := fun t ht => by
  have k0 := k.A.k0
  have hl := k0.last
  have hT := rTr_ok k0 _ t ht
  have T := hT.tr k0
  refine ⟨⟨T.play.last, T.play.most, T.play.start, T.play.per, T.play.heat, T.play.loss, T.play.coal, ?_⟩, T.len⟩
  have hw := k0.want
  refine ⟨by rw [addL_len']; exact hw.1, fun x hx => ?_⟩
  obtain ⟨i, hi, rfl⟩ := mem_gi hx
  rw [addL_len'] at hi
  rw [addL_gi hi, rBk_gi r m (by omega)]
  rw [rCanBe, List.all_eq_true] at hc
  have h2 := hc i (List.mem_range.2 (by omega))
  simp only [Bool.and_eq_true, decide_eq_true_eq] at h2
  have h3 := (hw.2 _ (gi_mem (l := r.cu.want) (i := i) hi)).1
  have hb := k.bu
  have := Int.mul_nonneg (show 0 ≤ r.bu by omega) (h0 _ (gi_mem (l := m) (i := i) (by omega)))
  omega
theorem c_planned9 (r : Rm) (hr : r.wf) (plan : List Int) (hp : (plan.length : Int) ≤ 1000000) (fine : Bool) : Pu Tryz.prog (.fn 27 [] []) [.agg r.cs, vI plan, .bool fine] (.tup [vI (rPlanL r plan fine), vi (rPlanE r plan fine)]) := by
  refine Ev.fn Tryz.func27 rfl rfl (Fn.body tabOk Tryz.func27 rfl (Nat.le_of_ble_eq_true rfl) (Ks.ok (fz := (fzn [])) (cl := (cln [(4, .d tg0 [cP, cP, cP, cP, cP, cP, cP, cP, cP, cP]), (6, .d tg0 [cP, cP, cP, cP, cP, cP])])) tabOk mixed ?_))
  generalize hQ : FnPost tt Tryz.f27 _ _ = Q
  simp only [Tryz.f27, List.nil_append, List.append_nil, argsEnv, Nat.reduceAdd]
  simp only [gos, eq_self, Nat.reduceLT, Nat.reduceEqDiff, reduceCtorEq, reduceIte, ↓reduceIte, tt, vgo, vout, vguard, callOf, vop, ev, cv, vload, newRow, rms]
  refine Cl.pu (c_fault9 r hr) ?_ rfl (by simp only [V.into, intoL, Bool.and_true, rm_into])
  by_cases h0 : sCheckR r = 0
  case neg =>
    have hb : (sCheckR r != 0) = true := by simp [h0]
    simp only [gos, eq_self, Nat.reduceLT, Nat.reduceEqDiff, reduceIte, ↓reduceIte, vgo, vout, vguard, callOf, vop, ev, cv, vbin, vint, isShift, isNilConst, hb]
    subst hQ
    have e1 : rPlanE r plan fine = sCheckR r := by rw [rPlanE, if_pos h0]
    have e2 : rPlanL r plan fine = [] := by rw [rPlanL, e1, if_neg h0]
    rw [e1, e2]
    exact FnPost.plain trivial (v := .tup [.sl0, vi (sCheckR r)]) (fun h2 e => by rfl) WkV.nil1 ⟨rfl, rfl⟩
  have hb : (sCheckR r != 0) = false := by simp [h0]
  have k := rmOk_of h0
  have hE : rPlanE r plan fine = if (!rIsPlan r plan (2 ^ r.ba.length - 1) || !fine) = true then 2 else if rCanBe r (rNum r plan (2 ^ r.ba.length - 1)) = false then 9 else 0 := by rw [rPlanE, if_neg (by simp [h0])]
  simp only [gos, eq_self, Nat.reduceLT, Nat.reduceEqDiff, reduceIte, ↓reduceIte, vgo, vout, vguard, callOf, vop, ev, cv, vbin, vint, isShift, isNilConst, hb]
  refine Wr.draw (by kernel_rfl) ?_
  simp only [gos, eq_self, Nat.reduceLT, Nat.reduceEqDiff, Nat.reduceAdd, reduceCtorEq, reduceIte, ↓reduceIte, tt, vgoD, voutD, vclsOk, vids, mayWrite, V.ids, vguard, callOf, vop, ev, vload, clsAt, rms]
  refine CD.pu (c_r9Full r k.len) ?_ rfl (by simp only [V.into, intoL, Bool.and_true, rm_into])
  rw [full_nat]
  simp only [gos, eq_self, Nat.reduceLT, Nat.reduceEqDiff, reduceIte, ↓reduceIte, vgoD, voutD, vguard, callOf, ev]
  refine CD.pu (c_r9IsPlan r k.len plan hp (2 ^ r.ba.length - 1) (full_lt k)) ?_ rfl (by simp only [V.into, intoL, vI_into, Bool.and_true, rm_into])
  have no : ∀ e, rPlanE r plan fine = e → e ≠ 0 → rPlanL r plan fine = [] := fun e h1 h2 => by rw [rPlanL, h1, if_neg h2]
  cases hi : rIsPlan r plan (2 ^ r.ba.length - 1) with
  | false =>
    simp only [gos, eq_self, Nat.reduceLT, Nat.reduceEqDiff, reduceIte, ↓reduceIte, vgo, vout, vgoD, voutD, vclsOk, vids, mayWrite, vguard, callOf, vop, ev, cv]
    subst hQ
    have e1 : rPlanE r plan fine = 2 := by rw [hE, hi]; rfl
    rw [no 2 e1 (by omega), e1]
    exact FnPost.plain trivial (v := .tup [.sl0, vi 2]) (fun h2 e => by rfl) WkV.nil1 ⟨rfl, rfl⟩
  | true =>
    cases hf : fine with
    | false =>
      simp only [gos, eq_self, Nat.reduceLT, Nat.reduceEqDiff, reduceCtorEq, reduceIte, ↓reduceIte, vgo, vout, vgoD, voutD, vclsOk, vids, mayWrite, vguard, callOf, vop, ev, cv]
      subst hQ
      subst hf
      have e1 : rPlanE r plan false = 2 := by rw [hE, hi]; rfl
      rw [no 2 e1 (by omega), e1]
      exact FnPost.plain trivial (v := .tup [.sl0, vi 2]) (fun h2 e => by rfl) WkV.nil1 ⟨rfl, rfl⟩
    | true =>
      subst hf
      rw [hi] at hE
      have ha : sAre r plan = true := by rw [← are_plan]; exact hi
      obtain ⟨h1, h2⟩ := are_ok k ha
      have hM := num_mok k ha
      have hl := k.A.k0.last
      simp only [gos, eq_self, Nat.reduceLT, Nat.reduceEqDiff, reduceCtorEq, reduceIte, ↓reduceIte, vgoD, voutD, vclsOk, vids, mayWrite, vguard, callOf, vop, ev]
      refine Wr.draw (by kernel_rfl) ?_
      simp only [gos, eq_self, Nat.reduceLT, Nat.reduceEqDiff, Nat.reduceAdd, reduceCtorEq, reduceIte, ↓reduceIte, tt, vgoD, voutD, vclsOk, vids, mayWrite, V.ids, vguard, callOf, vop, ev, vload, clsAt, rms]
      refine CD.pu (c_r9Full r k.len) ?_ rfl (by simp only [V.into, intoL, Bool.and_true, rm_into])
      rw [full_nat]
      simp only [gos, eq_self, Nat.reduceLT, Nat.reduceEqDiff, reduceIte, ↓reduceIte, vgoD, voutD, vguard, callOf, ev]
      refine CD.pu (c_r9Numbers r hl plan (by have := k.len; omega) h2 (2 ^ r.ba.length - 1) (full_lt k)) ?_ rfl (by simp only [V.into, intoL, vI_into, Bool.and_true, rm_into])
      simp only [gos, eq_self, Nat.reduceLT, Nat.reduceEqDiff, reduceCtorEq, reduceIte, ↓reduceIte, tt, vgo, vout, vgoD, voutD, vclsOk, vids, mayWrite, vguard, callOf, vop, ev, vload, rms]
      refine Cl.pu (c_r9CanBe r (rNum r plan (2 ^ r.ba.length - 1)) hM.bu hM.len (by have := hM.wl; omega) hM.wb fun x hx => by have := hM.mb x hx; omega) ?_ rfl (by simp only [V.into, intoL, vI_into, Bool.and_true, rm_into])
      cases hc : rCanBe r (rNum r plan (2 ^ r.ba.length - 1)) with
      | false =>
        simp only [gos, eq_self, Nat.reduceLT, Nat.reduceEqDiff, reduceIte, ↓reduceIte, vgo, vout, vguard, callOf, vop, ev, cv]
        subst hQ
        have e1 : rPlanE r plan true = 9 := by rw [hE, hc]; rfl
        rw [no 9 e1 (by omega), e1]
        exact FnPost.plain trivial (v := .tup [.sl0, vi 9]) (fun h2 e => by rfl) WkV.nil1 ⟨rfl, rfl⟩
      | true =>
        simp only [gos, eq_self, Nat.reduceLT, Nat.reduceEqDiff, reduceIte, ↓reduceIte, vgo, vout, vguard, callOf, vop, ev, cv]
        subst hQ
        have e1 : rPlanE r plan true = 0 := by rw [hE, hc]; rfl
        have e2 : rPlanL r plan true = rNum r plan (2 ^ r.ba.length - 1) := by rw [rPlanL, e1, if_pos rfl]
        rw [e1, e2]
        exact FnPost.plain trivial (v := .tup [vI (rNum r plan (2 ^ r.ba.length - 1)), vi 0]) (fun h2 e => by rfl) WkV.refl ⟨rfl, rfl⟩
end Go.Vm

set_option linter.unusedVariables false
set_option linter.unusedSimpArgs false
set_option maxRecDepth 100000
namespace Go.Vm
/-! ### plans of a room that a law can use -/
theorem chosen_len (r : Rm) (l : List Int) : (sChosen r l).length = r.ba.length := chN_len r l _
theorem chosen_are {r : Rm} (k : RmOk r) {l : List Int} (h : ∀ x ∈ l, 0 ≤ x ∧ x ≤ 65535) : sAre r (sChosen r l) = true := by
  rw [sAre, chosen_len, decide_eq_true rfl, Bool.true_and, List.all_eq_true]
  intro i hi
  have hi := List.mem_range.1 hi
  have := sCh_in k h hi
  rw [sChosen, chN_gi r l hi]
  simp only [sIn, Bool.and_eq_true, decide_eq_true_eq]
  exact this
theorem planned_two {r : Rm} (h0 : sCheckR r = 0) {plan : List Int} (ha : sAre r plan = true) : sPlanned r plan true = if sPossN r (cntN plan) = true then 0 else 9 := by
  have hn : ¬ (sCheckR r ≠ 0) := by simp [h0]
  rw [sPlanned, if_neg hn, ha, if_neg (by simp)]
  cases sPossN r (cntN plan) <;> rfl
theorem prove_iff (r : Rm) (plan : List Int) : sProveP r plan = true ↔ sCheckR r = 0 ∧ sAre r plan = true ∧ sSureN r (cntN plan) = true := by
  have hK : sProveP r plan = true ↔ sPlanned r plan true = 0 ∧ keV r (cntN plan) = 1 := by
    rw [sProveP, sKeepsR]
    by_cases h : sPlanned r plan true = 0
    · rw [if_pos h]; simp [h]
    · rw [if_neg h]; simp [h]
  rw [hK]
  constructor
  · rintro ⟨h1, h2⟩
    obtain ⟨k, ha, _, hpo, _, _⟩ := planned_ok h1
    refine ⟨?_, ha, by simp [sSureN, hpo, h2]⟩
    unfold sPlanned at h1
    by_cases h0 : sCheckR r = 0
    · exact h0
    · rw [if_pos h0] at h1; exact absurd h1 h0
  · rintro ⟨h0, ha, hs⟩
    simp only [sSureN, Bool.and_eq_true, decide_eq_true_eq] at hs
    exact ⟨by rw [planned_two h0 ha, if_pos hs.1], hs.2⟩
theorem prove_of {r : Rm} (h0 : sCheckR r = 0) {plan : List Int} (ha : sAre r plan = true) : sProveP r plan = sSureN r (cntN plan) := by
  rw [Bool.eq_iff_iff, prove_iff]
  exact ⟨fun h => h.2.2, fun h => ⟨h0, ha, h⟩⟩
theorem addL_poss {r : Rm} (k : RmOk r) {n : List Int} (h0 : ∀ i : Nat, (i : Int) ≤ r.cu.last → 0 ≤ gi n i) (hp : sPossN r n = true) : ∀ x ∈ addL r.cu.want (nb r n), 0 ≤ x ∧ x ≤ 20 := fun x hx => by
  have hl := k.A.k0.last
  have hw := k.A.k0.want
  obtain ⟨i, hi, rfl⟩ := mem_gi hx
  rw [addL_len'] at hi
  have hi2 : (i : Int) ≤ r.cu.last := by omega
  rw [addL_gi hi, nb_gi hi2]
  have h1 := h0 i hi2
  have h2 := hw.2 _ (gi_mem (l := r.cu.want) (i := i) hi)
  rw [sPossN, List.all_eq_true] at hp
  have h3 := hp i (List.mem_range.2 (by omega))
  simp only [sRoom, Bool.or_eq_true, Bool.and_eq_true, decide_eq_true_eq] at h3
  have hb := k.bu
  have := Int.mul_nonneg (show 0 ≤ r.bu by omega) h1
  rcases h3 with h3 | ⟨h3, h4⟩
  · rw [h3]; omega
  · omega
/-- Coppers with another Want and no readings. -/
def cuW (c : Cu) (w : List Int) : Cu := { c with want := w, readings := [] }
theorem cuW_ok {c : Cu} (k : CuOk c) {w : List Int} (h1 : (w.length : Int) = c.last + 1) (h2 : ∀ x ∈ w, 0 ≤ x ∧ x ≤ 20) : CuOk (cuW c w) :=
  ⟨k.last, by simp [cuW], k.most, k.start, k.per, k.shovels, k.coal, ⟨h1, h2⟩, k.heat, k.loss, fun r hr => by simp [cuW] at hr, k.many⟩
theorem whole_loop {c : Cu} {coal want hot : List Int} {t : Tr2} (hh : ∀ i : Nat, (i : Int) ≤ c.last → gi hot i = (sHeat c (tS t) coal want i).tdiv c.per) (hl : 0 ≤ c.last) :
    ((List.range (c.last + 1).toNat).all fun i => decide (gi want i ≤ gi hot i)) = wholeI c coal want t := by
  rw [Bool.eq_iff_iff, whole_iff, List.all_eq_true]
  constructor
  · intro h i hi
    have := h i (List.mem_range.2 hi)
    rw [decide_eq_true_eq, hh i (by omega)] at this
    exact this
  · intro h i hi
    have hi := List.mem_range.1 hi
    rw [decide_eq_true_eq, hh i (by omega)]
    exact h i hi
theorem CD.impR {P : Program} {tt : Tab} {fz : Nat → Bool} {cl : Cl0} {b : Frame} {N : Nat} {p : Nat → Bool} {Q : Post} {k : List Itm} {ρ : Env} {D : List Nat} {h : Heap} {tag : Nat → Nat} {all : List Oper} {cc : Cls} {os : List (Oper × Cls)} {d : Option Nat} {fv : V} {as' cs : List V} {v : V}
    (j : impL as' cs) (c : Pu P fv cs v) (r : RD P tt fz cl b N p Q tag all os k (ρ.put d v) D h) (hf : fv.into (fun _ => false) = true := by rfl) (ha : intoL (fun _ => false) as' = true := by rfl) : CD P tt fz cl b N p Q tag all cc d fv as' os k ρ D h :=
  CD.pu (Ev.less (ImpV.refl _) j c) r hf ha
/-- Coppers whose readings are the nil slice. -/
theorem impRd {a b d e f g h i j k : V} : ImpV (.agg [a, b, d, e, f, g, h, i, j, k, .sl0]) (.agg [a, b, d, e, f, g, h, i, j, k, vD []]) :=
  ImpV.aggR ⟨ImpV.refl _, ImpV.refl _, ImpV.refl _, ImpV.refl _, ImpV.refl _, ImpV.refl _, ImpV.refl _, ImpV.refl _, ImpV.refl _, ImpV.refl _, ImpV.sl0, trivial⟩
end Go.Vm
