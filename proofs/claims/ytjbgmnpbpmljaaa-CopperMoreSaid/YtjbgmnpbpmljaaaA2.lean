import Derived.Test.YtjbgmnpbpmljaaaA1
set_option linter.unusedVariables false
set_option linter.unusedSimpArgs false
set_option maxRecDepth 100000
namespace Go.Vm
open Go.Proofs
/-- What coal is known to be sure. -/
abbrev Memo := List (List Int × Bool)
def memoV : Memo → List (V × V)
  | [] => []
  | (k, b) :: r => (.agg (cI k), .bool b) :: memoV r
def mget (key : List Int) : Memo → Option Bool
  | [] => none
  | (k, b) :: r => if key = k then some b else mget key r
def okM (m : Memo) : Prop := ∀ x ∈ m, x.1.length = 5
theorem intsOf_cI : ∀ l : List Int, intsOf (cI l) = some l
  | [] => rfl
  | x :: l => by
    have := intsOf_cI l
    simp only [cI, List.map_cons, intsOf] at this ⊢
    rw [this]
theorem vfind_memo {key : List Int} : ∀ {m : Memo}, okM m → vfind 5 key (memoV m) = some ((mget key m).map V.bool)
  | [], _ => rfl
  | (k, b) :: r, h => by
    have h5 : k.length = 5 := h (k, b) (by simp)
    simp only [memoV, vfind, intsOf_cI, h5, if_true, mget]
    split
    · rfl
    · exact vfind_memo fun x hx => h x (by simp [hx])
theorem memoV_snoc (m : Memo) (k : List Int) (b : Bool) : memoV (m ++ [(k, b)]) = memoV m ++ [(.agg (cI k), .bool b)] := by
  induction m with
  | nil => rfl
  | cons x r ih => obtain ⟨k', b'⟩ := x; simp only [List.cons_append, memoV, ih]
theorem copy50 {l : List Int} (h : l.length ≤ 5) : List.take l.length (cI l) ++ List.drop (0 + l.length) [vi 0, vi 0, vi 0, vi 0, vi 0] = cI (pad5 l) := by
  match l, h with
  | [], _ => rfl
  | [x], _ => rfl
  | [x, y], _ => rfl
  | [x, y, z], _ => rfl
  | [x, y, z, u], _ => rfl
  | [x, y, z, u, v], _ => rfl
theorem memo_into (p : Nat → Bool) : ∀ m : Memo, intoPs p (memoV m) = true
  | [] => rfl
  | (k, b) :: r => by simp only [memoV, intoPs, V.into, cI_into, memo_into p r, Bool.and_self]
theorem wcs_imp (c : Cu) (tr : List Sc) (m : V) : impL (wcs c tr m) (wcs c tr .any) :=
  ⟨ImpV.refl _, ImpV.refl _, ImpV.refl _, ImpV.refl _, ImpV.refl _, ImpV.refl _, ImpV.refl _, ImpV.refl _, ImpV.refl _, ImpV.refl _, ImpV.refl _, ImpV.refl _, ImpV.any _, trivial⟩
def sSure (c : Cu) (tr : List Sc) (m : Memo) (coal : List Int) : Bool := (mget (pad5 coal) m).getD (tr.all fun s => sKept c coal c.want s)
def sSureM (c : Cu) (tr : List Sc) (m : Memo) (coal : List Int) : Memo := match mget (pad5 coal) m with
  | some _ => m
  | none => m ++ [(pad5 coal, tr.all fun s => sKept c coal c.want s)]
set_option maxHeartbeats 2000000 in
theorem c_sure (c : Cu) (tr : List Sc) (m : Memo) (mi : Nat) (h5 : mi ≠ 5) (hm : okM m) (coal : List Int) (hok : okS tr) (htl : (tr.length : Int) ≤ 1000000) (hcl : coal.length ≤ 5) (k : ∀ s ∈ tr, PlayOk c s coal c.want) :
    Ev Try.prog (.fn 113 [] []) [.rop (wcs c tr (.mp mi)), vI coal] [(mi, ⟨0, .map (memoV m)⟩)] fun v h' => v = .bool (sSure c tr m coal) ∧ h' = [(mi, ⟨0, .map (memoV (sSureM c tr m coal))⟩)] := by
  refine Ev.fn Try.func113 rfl rfl (Fn.body tabOk Try.func113 rfl (Nat.le_of_ble_eq_true rfl) (Ks.ok (fz := (fzn [5])) (cl := (cln [(2, .d tg0 [cL, cP, cW]), (3, .d tg0 [cP, cP, cP, cP, cL, cL, cP, cP, cP, cP, cP]), (6, .d tg0 [cP, cP, cP, cP, cL, cP, cW])])) tabOk mixed ?_))
  generalize hQ : FnPost tt Try.f113 _ _ = Q
  simp only [Try.f113, List.nil_append, List.append_nil, List.cons_append, argsEnv, Nat.reduceAdd]
  have h5' : ¬ 5 = mi := fun e => h5 e.symm
  simp only [gos, if_true, if_false, ne_eq, eq_self, Nat.reduceLT, Nat.reduceEqDiff, Nat.reduceAdd, Nat.reduceMul, Nat.reduceLeDiff, Nat.reduceBEq, reduceCtorEq, reduceIte, Array.toList, ↓reduceIte, tt, vgo, vout, vgoD, voutD, vclsOk, vids, mayWrite, V.ids, V.mids, vguard, callOf, vop, ev, cv, vbin, vint, isShift, isNilConst, vnil, isNilSlice, vload, vlen, newRow, vfill, vslice, entOf, vappend, srcOf, vcopy, vlookup, vupdate, mapOk, keyOf, intsOf, clsAt, h5, h5']
  refine Wr.draw (by kernel_rfl) ?_
  simp only [gos, if_true, if_false, ne_eq, eq_self, Nat.reduceLT, Nat.reduceEqDiff, Nat.reduceAdd, Nat.reduceMul, Nat.reduceLeDiff, Nat.reduceBEq, reduceCtorEq, reduceIte, Array.toList, ↓reduceIte, tt, vgo, vout, vgoD, voutD, vclsOk, vids, mayWrite, V.ids, V.mids, vguard, callOf, vop, ev, cv, vbin, vint, isShift, isNilConst, vnil, isNilSlice, vload, vlen, newRow, vfill, vslice, entOf, vappend, srcOf, vcopy, vlookup, vupdate, mapOk, keyOf, intsOf, clsAt, h5, h5', vI, cI_len, Nat.mul_one, cI_one, Nat.min_eq_left hcl]
  rw [show List.take coal.length (cI coal) ++ List.drop (0 + coal.length) [V.int IntKind.i64 0, V.int IntKind.i64 0, V.int IntKind.i64 0, V.int IntKind.i64 0, V.int IntKind.i64 0] = cI (pad5 coal) from copy50 hcl]
  have hp5 : (pad5 coal).length = 5 := by simp [pad5]; omega
  have ht5 : List.take 5 (cI (pad5 coal)) = cI (pad5 coal) := List.take_of_length_le (by rw [cI_len]; omega)
  refine Wr.draw (by kernel_rfl) ?_
  cases hg : mget (pad5 coal) m with
  | some b =>
    simp only [gos, if_true, if_false, ne_eq, eq_self, Nat.reduceLT, Nat.reduceEqDiff, Nat.reduceAdd, Nat.reduceMul, Nat.reduceLeDiff, Nat.reduceBEq, reduceCtorEq, reduceIte, Array.toList, ↓reduceIte, tt, vgo, vout, vgoD, voutD, vclsOk, vids, mayWrite, V.ids, V.mids, vguard, callOf, vop, ev, cv, vbin, vint, isShift, isNilConst, vnil, isNilSlice, vload, vlen, newRow, vfill, vslice, entOf, vappend, srcOf, vcopy, vlookup, vupdate, mapOk, keyOf, intsOf, clsAt, h5, h5', hp5, ht5, cI_len, intsOf_cI, vfind_memo hm, hg]
    subst hQ
    refine FnPost.plain trivial (v := .bool b) (fun h2 e => by rfl) (WkV.drop (h' := [(mi, ⟨0, .map (memoV m)⟩)]) (by simp [subH, Heap.get]) (fun j hp => by simpa [domP, Heap.get] using hp) rfl (by simp only [intoH, Blk.into, memo_into, Bool.and_self])) ⟨by simp [sSure, hg], by simp [sSureM, hg]⟩
  | none =>
    simp only [gos, if_true, if_false, ne_eq, eq_self, Nat.reduceLT, Nat.reduceEqDiff, Nat.reduceAdd, Nat.reduceMul, Nat.reduceLeDiff, Nat.reduceBEq, reduceCtorEq, reduceIte, Array.toList, ↓reduceIte, tt, vgo, vout, vgoD, voutD, vclsOk, vids, mayWrite, V.ids, V.mids, vguard, callOf, vop, ev, cv, vbin, vint, isShift, isNilConst, vnil, isNilSlice, vload, vlen, newRow, vfill, vslice, entOf, vappend, srcOf, vcopy, vlookup, vupdate, mapOk, keyOf, intsOf, clsAt, h5, h5', hp5, ht5, cI_len, intsOf_cI, vfind_memo hm, hg]
    refine Cl.imp (cs := [vS tr, .fn 133 [] [.rop [.rop (wcs c tr .any)], .rop [vI coal]]]) (ImpV.refl _) ⟨ImpV.refl _, ImpV.fn trivial ⟨ImpV.rop ⟨ImpV.rop (wcs_imp c tr _), trivial⟩, ImpV.refl _, trivial⟩, trivial⟩
      (Cl.pu (c_all_Sc _ [] _ (sKept c coal c.want) tr hok htl rfl (by simp only [V.into, intoL, cB_into, vB_into, cI_into, cR_into, cD_into, cS_into, vS_into, vI_into, vR_into, vD_into, cu_into, Bool.true_and, Bool.and_true, wc_any]) fun x hx => c_sure1 c tr coal x (k x hx)) ?_ rfl (by simp only [V.into, intoL, cB_into, vB_into, cI_into, cR_into, cD_into, cS_into, vS_into, vI_into, vR_into, vD_into, cu_into, Bool.true_and, Bool.and_true, wc_any]))
    simp only [gos, if_true, if_false, ne_eq, eq_self, Nat.reduceLT, Nat.reduceEqDiff, Nat.reduceAdd, Nat.reduceMul, Nat.reduceLeDiff, Nat.reduceBEq, reduceCtorEq, reduceIte, Array.toList, ↓reduceIte, tt, vgo, vout, vgoD, voutD, vclsOk, vids, mayWrite, V.ids, V.mids, vguard, callOf, vop, ev, cv, vbin, vint, isShift, isNilConst, vnil, isNilSlice, vload, vlen, newRow, vfill, vslice, entOf, vappend, srcOf, vcopy, vlookup, vupdate, mapOk, keyOf, intsOf, clsAt]
    refine Wr.draw (by kernel_rfl) ?_
    simp only [gos, if_true, if_false, ne_eq, eq_self, Nat.reduceLT, Nat.reduceEqDiff, Nat.reduceAdd, Nat.reduceMul, Nat.reduceLeDiff, Nat.reduceBEq, reduceCtorEq, reduceIte, Array.toList, ↓reduceIte, tt, vgo, vout, vgoD, voutD, vclsOk, vids, mayWrite, V.ids, V.mids, vguard, callOf, vop, ev, cv, vbin, vint, isShift, isNilConst, vnil, isNilSlice, vload, vlen, newRow, vfill, vslice, entOf, vappend, srcOf, vcopy, vlookup, vupdate, mapOk, keyOf, intsOf, clsAt, h5, h5', hp5, ht5, cI_len, intsOf_cI, vfind_memo hm, hg]
    subst hQ
    refine FnPost.plain trivial (v := .bool (tr.all (sKept c coal c.want))) (fun h2 e => by rfl) (WkV.drop (h' := [(mi, ⟨0, .map (memoV (sSureM c tr m coal))⟩)]) (by simp [subH, Heap.get, sSureM, hg, memoV_snoc]) (fun j hp => by simpa [domP, Heap.get] using hp) rfl (by simp only [intoH, Blk.into, memo_into, Bool.and_self])) ⟨by simp [sSure, hg], rfl⟩
end Go.Vm
set_option linter.unusedVariables false
set_option linter.unusedSimpArgs false
set_option maxRecDepth 100000
namespace Go.Vm
open Go.Proofs
theorem gi_take {l : List Int} {i : Nat} (h : (i : Int) < l.length) : l.take (i + 1) = l.take i ++ [gi l i] := by
  rw [List.take_add_one, gi_get h]; rfl
/-- The sum, as 64 bits hold it. -/
def sSum (l : List Int) : Int := l.foldl (fun n x => IntKind.i64.wrap (n + x)) 0
theorem c_sum (l : List Int) (hl : (l.length : Int) ≤ 1000000) : Pu Try.prog (.fn 114 [] []) [vI l] (vi (sSum l)) := by
  refine Ev.fn Try.func114 rfl rfl (Fn.body tabOk Try.func114 rfl (Nat.le_of_ble_eq_true rfl) (Ks.ok (fz := (fzn [])) (cl := (cln [])) tabOk mixed ?_))
  generalize hQ : FnPost tt Try.f114 _ _ = Q
  simp only [Try.f114, List.nil_append, List.append_nil, List.cons_append, argsEnv, Nat.reduceAdd]
  simp only [gos, if_true, if_false, ne_eq, eq_self, Nat.reduceLT, Nat.reduceEqDiff, Nat.reduceAdd, Nat.reduceMul, Nat.reduceLeDiff, Nat.reduceBEq, reduceCtorEq, reduceIte, Array.toList, ↓reduceIte, tt, vgo, vout, vgoD, voutD, vclsOk, vids, mayWrite, V.ids, V.mids, vguard, callOf, vop, ev, cv, vbin, vint, isShift, isNilConst, vnil, isNilSlice, vload, vlen, newRow, vfill, vslice, entOf, vappend, srcOf, vcopy, vlookup, vupdate, mapOk, keyOf, intsOf, clsAt, vI]
  refine W.loop tabOk mixed (fun i : Nat => ([(2, vi (sSum (l.take i))), (5, vI l), (6, vi l.length), (7, vi i)], [])) (fun i => l.length - i) (fun i => i ≤ l.length) 0 (by omega) (Wk.env (by simp [subE, Env.get, vI, sSum])) ?_
  intro i hi
  by_cases hil : (i : Int) < l.length
  · have hs : sSum (l.take (i + 1)) = IntKind.i64.wrap (sSum (l.take i) + gi l i) := by rw [gi_take hil, sSum, List.foldl_append]; rfl
    simp only [gos, if_true, if_false, ne_eq, eq_self, Nat.reduceLT, Nat.reduceEqDiff, Nat.reduceAdd, Nat.reduceMul, Nat.reduceLeDiff, Nat.reduceBEq, reduceCtorEq, reduceIte, Array.toList, ↓reduceIte, tt, vgo, vout, vgoD, voutD, vclsOk, vids, mayWrite, V.ids, V.mids, vguard, callOf, vop, ev, cv, vbin, vint, isShift, isNilConst, vnil, isNilSlice, vload, vlen, newRow, vfill, vslice, entOf, vappend, srcOf, vcopy, vlookup, vupdate, mapOk, keyOf, intsOf, clsAt, vI, hil, cI_at (Int.natCast_nonneg i) hil]
    exact Nx.mk (i + 1) (show l.length - (i + 1) < l.length - i by omega) (by omega) (Wk.env (by simp [subE, Env.get, vI, hs, i64_succ (show (i : Int) < 9223372036854775807 by omega)]))
  · have e : l.take i = l := List.take_of_length_le (by omega)
    simp only [gos, if_true, if_false, ne_eq, eq_self, Nat.reduceLT, Nat.reduceEqDiff, Nat.reduceAdd, Nat.reduceMul, Nat.reduceLeDiff, Nat.reduceBEq, reduceCtorEq, reduceIte, Array.toList, ↓reduceIte, tt, vgo, vout, vgoD, voutD, vclsOk, vids, mayWrite, V.ids, V.mids, vguard, callOf, vop, ev, cv, vbin, vint, isShift, isNilConst, vnil, isNilSlice, vload, vlen, newRow, vfill, vslice, entOf, vappend, srcOf, vcopy, vlookup, vupdate, mapOk, keyOf, intsOf, clsAt, vI, hil, e]
    subst hQ
    exact FnPost.plain trivial (fun h2 e => by first | rfl | (simp only [Try.f114, vres, vresL, vres1, e _, gos, if_true, if_false, ne_eq, eq_self, Nat.reduceLT, Nat.reduceEqDiff, Nat.reduceAdd, Nat.reduceMul, Nat.reduceLeDiff, Nat.reduceBEq, reduceCtorEq, reduceIte, Array.toList, ↓reduceIte, tt, vgo, vout, vgoD, voutD, vclsOk, vids, mayWrite, V.ids, V.mids, vguard, callOf, vop, ev, cv, vbin, vint, isShift, isNilConst, vnil, isNilSlice, vload, vlen, newRow, vfill, vslice, entOf, vappend, srcOf, vcopy, vlookup, vupdate, mapOk, keyOf, intsOf, clsAt]; try rfl)) (WkV.pure (by simp only [V.into, intoL, cB_into, vB_into, cI_into, cR_into, cD_into, cS_into, vS_into, vI_into, vR_into, vD_into, cu_into, Bool.true_and, Bool.and_true])) ⟨rfl, rfl⟩
end Go.Vm
set_option linter.unusedVariables false
set_option linter.unusedSimpArgs false
set_option maxRecDepth 100000
namespace Go.Vm
open Go.Proofs
theorem cR_frz (i v : Nat) (cs : List V) : ∀ l : List Rg, frzL i v cs (cR l) = cR l
  | [] => rfl
  | x :: l => by simp only [cR, frzL, V.frz, cR_frz i v cs l]
theorem cD_frz (i v : Nat) (cs : List V) : ∀ l : List Rd, frzL i v cs (cD l) = cD l
  | [] => rfl
  | x :: l => by simp only [cD, frzL, V.frz, cD_frz i v cs l]
theorem frzL_append (i v : Nat) (cs : List V) : ∀ a b : List V, frzL i v cs (a ++ b) = frzL i v cs a ++ frzL i v cs b
  | [], b => rfl
  | x :: a, b => by simp only [List.cons_append, frzL, frzL_append i v cs a b]
theorem cS_frz (i v : Nat) (cs : List V) : ∀ l : List Sc, frzL i v cs (cS l) = cS l
  | [] => rfl
  | x :: l => by simp only [cS, frzL, V.frz, frzL_append, cI_frz, cS_frz i v cs l]
theorem wcs_frz (i v : Nat) (cs : List V) (c : Cu) (tr : List Sc) : frzL i v cs (wcs c tr .any) = wcs c tr .any := by
  simp only [wcs, frzL, V.frz, vI, vR, vD, vS, cI_frz, cR_frz, cD_frz, cS_frz]
/-- The first i numbers of more are added. -/
def sAdd (want more : List Int) : Nat → List Int
  | 0 => want
  | i + 1 => (sAdd want more i).set i (gi (sAdd want more i) i + gi more i)
theorem sAdd_len (want more : List Int) : ∀ i, (sAdd want more i).length = want.length
  | 0 => rfl
  | i + 1 => by rw [sAdd, List.length_set, sAdd_len want more i]
theorem gi_set_ne {l : List Int} {i j : Nat} (x : Int) (h : i ≠ j) : gi (l.set i x) j = gi l j := by
  simp only [gi, Int.toNat_natCast, List.getD_eq_getElem?_getD]
  rw [List.getElem?_set_ne h]
theorem sAdd_ge (want more : List Int) : ∀ (i j : Nat), i ≤ j → gi (sAdd want more i) j = gi want j
  | 0, _, _ => rfl
  | i + 1, j, h => by rw [sAdd, gi_set_ne _ (by omega), sAdd_ge want more i j (by omega)]
theorem cI_set {l : List Int} {i : Nat} (x : Int) (h : i < l.length) : (cI l).take i ++ [vi x] ++ (cI l).drop (i + 1) = cI (l.set i x) := by
  simp only [cI]
  rw [← List.map_take, ← List.map_drop, List.set_eq_take_append_cons_drop, if_pos h]
  simp
def sWith (c : Cu) (tr : List Sc) (more : List Int) : Int :=
  sVerdict (sBounds (tr.map fun s => if (sPast c c.coal (sAdd c.want more more.length) s).kept.any (fun y => decide (false = y)) then 0 else 1))
set_option maxHeartbeats 2000000 in
theorem c_with (c : Cu) (tr : List Sc) (more : List Int) (htl : (tr.length : Int) ≤ 1000000) (hok : okS tr) (hw : c.want.length ≤ 5) (hm : more.length = c.want.length) (hb : ∀ i, i < c.want.length → 0 ≤ gi c.want i ∧ gi c.want i ≤ 20 ∧ 0 ≤ gi more i ∧ gi more i ≤ 20)
    (hpl : ∀ s ∈ tr, PlayOk c s c.coal (sAdd c.want more more.length)) :
    Pu Try.prog (.fn 86 [] []) [.rop (wcs c tr .any), vI more] (vi (sWith c tr more)) := by
  refine Ev.fn Try.func86 rfl rfl (Fn.body tabOk Try.func86 rfl (Nat.le_of_ble_eq_true rfl) (Ks.ok (fz := (fzn [])) (cl := (cln [(7, .ex)])) tabOk mixed ?_))
  generalize hQ : FnPost tt Try.f86 _ _ = Q
  simp only [Try.f86, List.nil_append, List.append_nil, List.cons_append, argsEnv, Nat.reduceAdd]
  simp only [gos, if_true, if_false, ne_eq, eq_self, Nat.reduceLT, Nat.reduceEqDiff, Nat.reduceAdd, Nat.reduceMul, Nat.reduceLeDiff, Nat.reduceBEq, reduceCtorEq, reduceIte, Array.toList, ↓reduceIte, tt, vgo, vout, vgoD, voutD, vclsOk, vids, mayWrite, V.ids, V.mids, vguard, callOf, vop, ev, cv, vbin, vint, isShift, isNilConst, vnil, isNilSlice, vload, vlen, newRow, vfill, vslice, entOf, vappend, srcOf, vcopy, vlookup, vupdate, mapOk, keyOf, intsOf, clsAt]
  refine Cl.mk (c_Clone c.want (by omega) [] rfl) ?_
  rintro v h' ⟨rfl, rfl⟩
  simp only [gos, if_true, if_false, ne_eq, eq_self, Nat.reduceLT, Nat.reduceEqDiff, Nat.reduceAdd, Nat.reduceMul, Nat.reduceLeDiff, Nat.reduceBEq, reduceCtorEq, reduceIte, Array.toList, ↓reduceIte, tt, vgo, vout, vgoD, voutD, vclsOk, vids, mayWrite, V.ids, V.mids, vguard, callOf, vop, ev, cv, vbin, vint, isShift, isNilConst, vnil, isNilSlice, vload, vlen, newRow, vfill, vslice, entOf, vappend, srcOf, vcopy, vlookup, vupdate, mapOk, keyOf, intsOf, clsAt, vI]
  refine W.loop tabOk mixed (fun i : Nat => ([(0, .rop (wcs c tr .any)), (5, .own 7 0 0 1 c.want.length), (14, vI more), (15, vi more.length), (16, vi i)], [(7, ⟨0, .row (cI (sAdd c.want more i))⟩)])) (fun i => more.length - i) (fun i => i ≤ more.length) 0 (by omega) (Wk.env (by simp [subE, Env.get, vI])) ?_
  intro i hi
  by_cases hil : (i : Int) < more.length
  · have hil2 : (i : Int) < c.want.length := by omega
    have hil3 : (i : Int) < (sAdd c.want more i).length := by rw [sAdd_len]; exact hil2
    have hcur : gi (sAdd c.want more i) i = gi c.want i := sAdd_ge c.want more i i (Nat.le_refl _)
    have hbb := hb i (by omega)
    have hi2 : (↑i : Int).toNat = i := Int.toNat_natCast i
    have hle : i + 1 ≤ (cI (sAdd c.want more i)).length := by rw [cI_len]; omega
    have e1 : List.drop i (cI more) = vi (gi more i) :: cI (more.drop (i + 1)) := by have := cI_at (Int.natCast_nonneg i) hil; rwa [hi2, Nat.mul_one] at this
    have e2 : List.drop i (cI (sAdd c.want more i)) = vi (gi (sAdd c.want more i) i) :: cI ((sAdd c.want more i).drop (i + 1)) := by have := cI_at (Int.natCast_nonneg i) hil3; rwa [hi2, Nat.mul_one] at this
    have e3 : List.take i (cI (sAdd c.want more i)) ++ [vi (gi c.want i + gi more i)] ++ List.drop (i + 1) (cI (sAdd c.want more i)) = cI (sAdd c.want more (i + 1)) := by
      rw [cI_set _ (by omega), sAdd, hcur]
    simp only [gos, if_true, if_false, ne_eq, eq_self, Nat.reduceLT, Nat.reduceEqDiff, Nat.reduceAdd, Nat.reduceMul, Nat.reduceLeDiff, Nat.reduceBEq, reduceCtorEq, reduceIte, Array.toList, ↓reduceIte, tt, vgo, vout, vgoD, voutD, vclsOk, vids, mayWrite, V.ids, V.mids, vguard, callOf, vop, ev, cv, vbin, vint, isShift, isNilConst, vnil, isNilSlice, vload, vlen, newRow, vfill, vslice, entOf, vappend, srcOf, vcopy, vlookup, vupdate, mapOk, keyOf, intsOf, clsAt, vI, hil, hil2, e1, e2, hcur, i64_in (show -9223372036854775808 ≤ gi c.want i + gi more i by omega) (show gi c.want i + gi more i ≤ 9223372036854775807 by omega), Nat.mul_one, hi2, hle, Nat.zero_add]
    rw [show List.take i (cI (sAdd c.want more i)) ++ [V.int IntKind.i64 (gi c.want i + gi more i)] ++ List.drop (i + 1) (cI (sAdd c.want more i)) = cI (sAdd c.want more (i + 1)) from e3]
    exact Nx.mk (i + 1) (show more.length - (i + 1) < more.length - i by omega) (by omega) (Wk.env (by simp [subE, Env.get, vI, i64_succ (show (i : Int) < 9223372036854775807 by omega)]))
  · have hie : i = more.length := by omega
    have hlen := sAdd_len c.want more i
    simp only [gos, if_true, if_false, ne_eq, eq_self, Nat.reduceLT, Nat.reduceEqDiff, Nat.reduceAdd, Nat.reduceMul, Nat.reduceLeDiff, Nat.reduceBEq, reduceCtorEq, reduceIte, Array.toList, ↓reduceIte, tt, vgo, vout, vgoD, voutD, vclsOk, vids, mayWrite, V.ids, V.mids, vguard, callOf, vop, ev, cv, vbin, vint, isShift, isNilConst, vnil, isNilSlice, vload, vlen, newRow, vfill, vslice, entOf, vappend, srcOf, vcopy, vlookup, vupdate, mapOk, keyOf, intsOf, clsAt, vI, hil]
    refine Wr.at tabOk 3 ?_
    simp only [gos, if_true, if_false, ne_eq, eq_self, Nat.reduceLT, Nat.reduceEqDiff, Nat.reduceAdd, Nat.reduceMul, Nat.reduceLeDiff, Nat.reduceBEq, reduceCtorEq, reduceIte, Array.toList, ↓reduceIte, tt, vgo, vout, vgoD, voutD, vclsOk, vids, mayWrite, V.ids, V.mids, vguard, callOf, vop, ev, cv, vbin, vint, isShift, isNilConst, vnil, isNilSlice, vload, vlen, newRow, vfill, vslice, entOf, vappend, srcOf, vcopy, vlookup, vupdate, mapOk, keyOf, intsOf, clsAt]
    refine Wa.mk (Wk.freeze 7 rfl rfl (cI_into _ _) rfl) ?_
    have ht : List.take c.want.length (cI (sAdd c.want more i)) = cI (sAdd c.want more i) := List.take_of_length_le (by rw [cI_len]; omega)
    simp only [frzE, frzH, V.frz, frzL, gos, if_true, if_false, ne_eq, eq_self, Nat.reduceLT, Nat.reduceEqDiff, Nat.reduceAdd, Nat.reduceMul, Nat.reduceLeDiff, Nat.reduceBEq, reduceCtorEq, reduceIte, Array.toList, ↓reduceIte, tt, vgo, vout, vgoD, voutD, vclsOk, vids, mayWrite, V.ids, V.mids, vguard, callOf, vop, ev, cv, vbin, vint, isShift, isNilConst, vnil, isNilSlice, vload, vlen, newRow, vfill, vslice, entOf, vappend, srcOf, vcopy, vlookup, vupdate, mapOk, keyOf, intsOf, clsAt, Nat.mul_one, ht, wcs_frz, cI_frz]
    have hv : V.ro c.want.length (cI (sAdd c.want more i)) = vI (sAdd c.want more i) := by rw [vI, hlen]
    rw [hv]
    rw [← hie] at hpl
    have hq : ∀ s ∈ tr, Pu Try.prog (.fn 123 [] []) [.agg (sPast c c.coal (sAdd c.want more i) s).cs, vi 0] (vi (if (sPast c c.coal (sAdd c.want more i) s).kept.any (fun y => decide (false = y)) then 0 else 1)) := fun s hs => by
      have hk := sPlay_inv (hpl s hs) (c.last + 1).toNat (by have := (hpl s hs).last; omega)
      have := (hpl s hs).last
      exact c_pwhole _ 0 (by simp only [sPast]; omega)
    refine Cl.pu (c_bounds _ (fun p => if p.kept.any (fun y => decide (false = y)) then 0 else 1) c tr (sAdd c.want more i) 0 htl hok hpl hq) ?_ rfl (by simp only [V.into, intoL, cB_into, vB_into, cI_into, cR_into, cD_into, cS_into, vS_into, vI_into, vR_into, vD_into, cu_into, Bool.true_and, Bool.and_true, wc_any])
    simp only [gos, if_true, if_false, ne_eq, eq_self, Nat.reduceLT, Nat.reduceEqDiff, Nat.reduceAdd, Nat.reduceMul, Nat.reduceLeDiff, Nat.reduceBEq, reduceCtorEq, reduceIte, Array.toList, ↓reduceIte, tt, vgo, vout, vgoD, voutD, vclsOk, vids, mayWrite, V.ids, V.mids, vguard, callOf, vop, ev, cv, vbin, vint, isShift, isNilConst, vnil, isNilSlice, vload, vlen, newRow, vfill, vslice, entOf, vappend, srcOf, vcopy, vlookup, vupdate, mapOk, keyOf, intsOf, clsAt]
    refine Cl.pu (c_verdict _) ?_
    simp only [gos, if_true, if_false, ne_eq, eq_self, Nat.reduceLT, Nat.reduceEqDiff, Nat.reduceAdd, Nat.reduceMul, Nat.reduceLeDiff, Nat.reduceBEq, reduceCtorEq, reduceIte, Array.toList, ↓reduceIte, tt, vgo, vout, vgoD, voutD, vclsOk, vids, mayWrite, V.ids, V.mids, vguard, callOf, vop, ev, cv, vbin, vint, isShift, isNilConst, vnil, isNilSlice, vload, vlen, newRow, vfill, vslice, entOf, vappend, srcOf, vcopy, vlookup, vupdate, mapOk, keyOf, intsOf, clsAt]
    subst hQ
    exact FnPost.plain trivial (fun h2 e => by first | rfl | (simp only [Try.f86, vres, vresL, vres1, e _, gos, if_true, if_false, ne_eq, eq_self, Nat.reduceLT, Nat.reduceEqDiff, Nat.reduceAdd, Nat.reduceMul, Nat.reduceLeDiff, Nat.reduceBEq, reduceCtorEq, reduceIte, Array.toList, ↓reduceIte, tt, vgo, vout, vgoD, voutD, vclsOk, vids, mayWrite, V.ids, V.mids, vguard, callOf, vop, ev, cv, vbin, vint, isShift, isNilConst, vnil, isNilSlice, vload, vlen, newRow, vfill, vslice, entOf, vappend, srcOf, vcopy, vlookup, vupdate, mapOk, keyOf, intsOf, clsAt]; try rfl)) (WkV.pure (by simp only [V.into, intoL, cB_into, vB_into, cI_into, cR_into, cD_into, cS_into, vS_into, vI_into, vR_into, vD_into, cu_into, Bool.true_and, Bool.and_true])) ⟨by simp only [sWith, hie], rfl⟩
end Go.Vm
set_option linter.unusedVariables false
set_option linter.unusedSimpArgs false
set_option maxRecDepth 100000
namespace Go.Vm
open Go.Proofs
/-! ### all truths, in their order -/
def rangeI (lo hi : Int) : List Int := (List.range (hi + 1 - lo).toNat).map fun (i : Nat) => lo + i
def genH (c : Cu) : Nat → Nat → List Int → List (List Int)
  | 0, _, ls => [ls]
  | k + 1, hour, ls => (rangeI (gR c.loss hour).lo (gR c.loss hour).hi).flatMap fun n => genH c k (hour + 1) (ls.set hour n)
def runAll {σ : Type} (step : Sc → σ → Bool × σ) : List Sc → σ → Bool × σ
  | [], x => (true, x)
  | s :: r, x => match step s x with
    | (true, x') => runAll step r x'
    | (false, x') => (false, x')
theorem runAll_append {σ : Type} (step : Sc → σ → Bool × σ) : ∀ (a b : List Sc) (x : σ), runAll step (a ++ b) x = match runAll step a x with
    | (true, x') => runAll step b x'
    | (false, x') => (false, x')
  | [], b, x => rfl
  | s :: a, b, x => by
    simp only [List.cons_append, runAll]
    cases h : step s x with
    | mk t x' => cases t <;> simp only [runAll_append step a b x']
/-- The losses of these hours alone are looked at. -/
theorem genH_congr (c : Cu) : ∀ (k hour : Nat) (l1 l2 : List Int), l1.length = l2.length → (∀ j, j < hour ∨ hour + k ≤ j → l1[j]? = l2[j]?) → genH c k hour l1 = genH c k hour l2
  | 0, hour, l1, l2, hl, h => by
    simp only [genH]
    have : l1 = l2 := List.ext_getElem? fun j => h j (by omega)
    rw [this]
  | k + 1, hour, l1, l2, hl, h => by
    simp only [genH]
    congr 1
    funext n
    refine genH_congr c k (hour + 1) _ _ (by simp [hl]) fun j hj => ?_
    by_cases e : hour = j
    · subst e
      by_cases hh : hour < l1.length
      · rw [List.getElem?_set_self hh, List.getElem?_set_self (by omega)]
      · rw [List.getElem?_eq_none (by simp; omega), List.getElem?_eq_none (by simp; omega)]
    · rw [List.getElem?_set_ne e, List.getElem?_set_ne e]
      exact h j (by omega)
end Go.Vm
set_option linter.unusedVariables false
set_option linter.unusedSimpArgs false
set_option maxRecDepth 100000
namespace Go.Vm
open Go.Proofs
/-- A run through a list in which each step is one that may be done. -/
def Good {σ : Type} (step : Sc → σ → Bool × σ) (ok : Sc → σ → Prop) : List Sc → σ → Prop
  | [], _ => True
  | s :: r, x => ok s x ∧ ((step s x).1 = true → Good step ok r (step s x).2)
theorem Good_append {σ : Type} {step : Sc → σ → Bool × σ} {ok : Sc → σ → Prop} : ∀ {a b : List Sc} {x : σ}, Good step ok (a ++ b) x → Good step ok a x ∧ ((runAll step a x).1 = true → Good step ok b (runAll step a x).2)
  | [], b, x, g => ⟨trivial, fun _ => g⟩
  | s :: a, b, x, g => by
    simp only [List.cons_append, Good] at g
    simp only [Good, runAll]
    cases h : step s x with
    | mk t y =>
      rw [h] at g
      cases t with
      | false => exact ⟨⟨g.1, fun e => by simp at e⟩, fun e => by simp at e⟩
      | true =>
        obtain ⟨g1, g2⟩ := Good_append (g.2 rfl)
        exact ⟨⟨g.1, fun _ => g1⟩, g2⟩
/-- What a body of a loop over all truths does. -/
structure YOk (P : Program) {σ : Type} (yv : V) (hp : σ → Heap) (step : Sc → σ → Bool × σ) (ok : Sc → σ → Prop) : Prop where
  call : ∀ s x, ok s x → Ev P yv [.agg s.cs] (hp x) fun v h' => v = .bool (step s x).1 ∧ h' = hp (step s x).2
  into : ∀ x, yv.into (domP (hp x)) = true
  closed : ∀ x, intoH (domP (hp x)) (hp x) = true
  dom : ∀ x y i, domP (hp x) i = domP (hp y) i
  a3 : ∀ x, (hp x).get 3 = none
  a4 : ∀ x, (hp x).get 4 = none
  one : yv.cells? = some [yv]
def chooseV (c : Cu) (yv : V) : V := .fn 136 [] [.rop c.cs, .rop [yv], .ptr 3 0 0, .ptr 4 0 0]
def chH (c : Cu) (yv : V) (heat : Int) (ls : List Int) (h : Heap) : Heap := (3, ⟨0, .row (vi heat :: cI ls)⟩) :: (4, ⟨0, .row [chooseV c yv]⟩) :: h
theorem Heap.get_cons2 {e3 e4 : Ent} {h : Heap} {i : Nat} (a3 : h.get 3 = none) (a4 : h.get 4 = none) : Heap.get (h ++ [(3, e3), (4, e4)]) i = Heap.get ((3, e3) :: (4, e4) :: h) i := by
  rw [Heap.get_append]
  simp only [Heap.get]
  by_cases h3 : i = 3
  · subst h3; simp [a3]
  · by_cases h4 : i = 4
    · subst h4; simp [a4]
    · simp [h3, h4]
theorem YOk.callH {P : Program} {σ : Type} {yv : V} {hp : σ → Heap} {step : Sc → σ → Bool × σ} {ok : Sc → σ → Prop} (Y : YOk P yv hp step ok) (c : Cu) (heat : Int) (ls : List Int) (x : σ) (ho : ok ⟨heat, ls⟩ x) :
    Ev P yv [.agg (vi heat :: cI ls)] (chH c yv heat ls (hp x)) fun v h' => v = .bool (step ⟨heat, ls⟩ x).1 ∧ h' = chH c yv heat ls (hp (step ⟨heat, ls⟩ x).2) := by
  refine ((Y.call ⟨heat, ls⟩ x ho).frame' [(3, ⟨0, .row (vi heat :: cI ls)⟩), (4, ⟨0, .row [chooseV c yv]⟩)] (fun i => Heap.get_cons2 (Y.a3 x) (Y.a4 x)) ?_ (Y.into x) (by simp only [V.into, intoL, cB_into, vB_into, cI_into, cR_into, cD_into, cS_into, vS_into, vI_into, vR_into, vD_into, cu_into, Bool.true_and, Bool.and_true, Sc.cs]) (Y.closed x) ?_).norm ?_
  · intro i e he
    simp only [Heap.get]
    have h3 : i ≠ 3 := fun h => by subst h; rw [Y.a3 x] at he; cases he
    have h4 : i ≠ 4 := fun h => by subst h; rw [Y.a4 x] at he; cases he
    rw [if_neg h3, if_neg h4]
  · rintro v h' ⟨_, rfl⟩ i e he
    simp only [Heap.get]
    have h3 : i ≠ 3 := fun h => by subst h; rw [Y.a3 _] at he; cases he
    have h4 : i ≠ 4 := fun h => by subst h; rw [Y.a4 _] at he; cases he
    rw [if_neg h3, if_neg h4]
  · rintro v h'' ⟨h', ⟨rfl, rfl⟩, rfl⟩
    exact ⟨_, fun i => Heap.get_cons2 (Y.a3 _) (Y.a4 _), rfl, rfl⟩
set_option maxHeartbeats 2000000 in
theorem c_choose (c : Cu) (k0 : CuOk c) {σ : Type} (yv : V) (hp : σ → Heap) (step : Sc → σ → Bool × σ) (ok : Sc → σ → Prop) (Y : YOk Try.prog yv hp step ok) (heat : Int) :
    ∀ (k hour : Nat) (ls : List Int) (x : σ), (hour : Int) + k = c.last + 1 → ls.length = 5 → Good step ok ((genH c k hour ls).map fun l => ⟨heat, l⟩) x →
    Ev Try.prog (chooseV c yv) [vi hour] (chH c yv heat ls (hp x)) fun v h' => ∃ ls', ls'.length = 5 ∧ (∀ j, j < hour ∨ hour + k ≤ j → ls'[j]? = ls[j]?) ∧
      v = .bool (runAll step ((genH c k hour ls).map fun l => ⟨heat, l⟩) x).1 ∧ h' = chH c yv heat ls' (hp (runAll step ((genH c k hour ls).map fun l => ⟨heat, l⟩) x).2)
  | 0, hour, ls, x, hh, hl, hok => by
    have hgt : c.last < (hour : Int) := by omega
    unfold chooseV
    refine Ev.fn Try.func136 rfl rfl (Fn.body tabOk Try.func136 rfl (Nat.le_of_ble_eq_true rfl) (Ks.ok (fz := (fzn [])) (cl := (cln [])) tabOk mixed ?_))
    generalize hQ : FnPost tt Try.f136 _ _ = Q
    simp only [Try.f136, List.nil_append, List.append_nil, List.cons_append, argsEnv, Nat.reduceAdd]
    have hl5 : (cI ls).length = 5 := by rw [cI_len]; exact hl
    have ht5 : List.take 5 (cI ls) = cI ls := List.take_of_length_le (by omega)
    simp only [gos, if_true, if_false, ne_eq, eq_self, Nat.reduceLT, Nat.reduceEqDiff, Nat.reduceAdd, Nat.reduceMul, Nat.reduceLeDiff, Nat.reduceBEq, reduceCtorEq, reduceIte, Array.toList, ↓reduceIte, tt, vgo, vout, vgoD, voutD, vclsOk, vids, mayWrite, V.ids, V.mids, vguard, callOf, vop, ev, cv, vbin, vint, isShift, isNilConst, vnil, isNilSlice, vload, vlen, newRow, vfill, vslice, entOf, vappend, srcOf, vcopy, vlookup, vupdate, mapOk, keyOf, intsOf, clsAt, hgt, chH, chooseV, hl5, ht5]
    refine Cl.mk (Y.callH c heat ls x hok.1) ?_
    rintro v h' ⟨rfl, rfl⟩
    simp only [gos, if_true, if_false, ne_eq, eq_self, Nat.reduceLT, Nat.reduceEqDiff, Nat.reduceAdd, Nat.reduceMul, Nat.reduceLeDiff, Nat.reduceBEq, reduceCtorEq, reduceIte, Array.toList, ↓reduceIte, tt, vgo, vout, vgoD, voutD, vclsOk, vids, mayWrite, V.ids, V.mids, vguard, callOf, vop, ev, cv, vbin, vint, isShift, isNilConst, vnil, isNilSlice, vload, vlen, newRow, vfill, vslice, entOf, vappend, srcOf, vcopy, vlookup, vupdate, mapOk, keyOf, intsOf, clsAt]
    subst hQ
    have hone : runAll step (List.map (fun l => (⟨heat, l⟩ : Sc)) (genH c 0 hour ls)) x = step ⟨heat, ls⟩ x := by
      simp only [genH, List.map_cons, List.map_nil, runAll]
      cases h : step ⟨heat, ls⟩ x with
      | mk t y => cases t <;> rfl
    rw [hone]
    exact FnPost.plain trivial (fun h2 e => by rfl) WkV.refl ⟨ls, hl, fun _ _ => rfl, rfl, rfl⟩
  | k + 1, hour, ls, x, hh, hl, hok => by
    have hle : ¬ c.last < (hour : Int) := by omega
    have hll : (hour : Int) < c.loss.length := by have := k0.loss.1; omega
    have hin := k0.loss.2 _ (List.mem_of_getElem? (gR_get hll))
    have hsz := size_le hin
    simp only [sInside, Bool.and_eq_true, decide_eq_true_eq] at hin
    have hlast := k0.last
    unfold chooseV
    refine Ev.fn Try.func136 rfl rfl (Fn.body tabOk Try.func136 rfl (Nat.le_of_ble_eq_true rfl) (Ks.ok (fz := (fzn [])) (cl := (cln [])) tabOk mixed ?_))
    generalize hQ : FnPost tt Try.f136 _ _ = Q
    simp only [Try.f136, List.nil_append, List.append_nil, List.cons_append, argsEnv, Nat.reduceAdd]
    simp only [gos, if_true, if_false, ne_eq, eq_self, Nat.reduceLT, Nat.reduceEqDiff, Nat.reduceAdd, Nat.reduceMul, Nat.reduceLeDiff, Nat.reduceBEq, reduceCtorEq, reduceIte, Array.toList, ↓reduceIte, tt, vgo, vout, vgoD, voutD, vclsOk, vids, mayWrite, V.ids, V.mids, vguard, callOf, vop, ev, cv, vbin, vint, isShift, isNilConst, vnil, isNilSlice, vload, vlen, newRow, vfill, vslice, entOf, vappend, srcOf, vcopy, vlookup, vupdate, mapOk, keyOf, intsOf, clsAt, hle, chH, chooseV, vR, hll, cR_at (Int.natCast_nonneg hour) hll]
    let f : Int → List Sc := fun n => (genH c k (hour + 1) (ls.set hour n)).map fun l => ⟨heat, l⟩
    refine W.loop tabOk mixed (fun a : Nat × List Int × σ => ([(0, vi hour), (1, .rop c.cs), (2, .rop [yv]), (3, .ptr 3 0 0), (4, .ptr 4 0 0), (7, vi ((gR c.loss hour).lo + a.1))], chH c yv heat a.2.1 (hp a.2.2))) (fun a => (rangeI (gR c.loss hour).lo (gR c.loss hour).hi).length - a.1)
      (fun a => a.1 ≤ (rangeI (gR c.loss hour).lo (gR c.loss hour).hi).length ∧ a.2.1.length = 5 ∧ (∀ j, j < hour ∨ hour + (k + 1) ≤ j → a.2.1[j]? = ls[j]?) ∧ runAll step (((rangeI (gR c.loss hour).lo (gR c.loss hour).hi).take a.1).flatMap f) x = (true, a.2.2)) (0, ls, x) ⟨by simp, hl, fun _ _ => rfl, rfl⟩ (Wk.env (by simp [subE, Env.get])) ?_
    rintro ⟨i, ls1, x1⟩ ⟨hi, hl1, hag, hrun⟩
    simp only at hi hl1 hag hrun ⊢
    have hrl : (rangeI (gR c.loss hour).lo (gR c.loss hour).hi).length = ((gR c.loss hour).hi + 1 - (gR c.loss hour).lo).toNat := by simp [rangeI]
    have hh5 : (hour : Int) < ((5 : Nat) : Int) := by omega
    have hi2 : (↑hour : Int).toNat = hour := Int.toNat_natCast hour
    have hl6 : (cI ls1).length = 5 := by rw [cI_len]; exact hl1
    by_cases hil : (gR c.loss hour).lo + (i : Int) ≤ (gR c.loss hour).hi
    · have hst : List.take (1 + hour) (vi heat :: cI ls1) ++ [vi ((gR c.loss hour).lo + i)] ++ List.drop (1 + hour) (cI ls1) = vi heat :: cI (ls1.set hour ((gR c.loss hour).lo + i)) := by
        rw [show 1 + hour = hour + 1 by omega, List.take_succ_cons, ← cI_set _ (by omega)]
        simp
      have hcond : 1 + hour + 1 ≤ 6 := by omega
      have hcond2 : 1 + hour ≤ 5 := by omega
      have e0 := cR_at (Int.natCast_nonneg hour) hll
      rw [hi2] at e0
      have e1 : List.drop (hour * 2 + 1) (cR c.loss) = vi (gR c.loss hour).hi :: cR (c.loss.drop (hour + 1)) := by rw [← List.drop_drop, e0]; rfl
      simp only [gos, if_true, if_false, ne_eq, eq_self, Nat.reduceLT, Nat.reduceEqDiff, Nat.reduceAdd, Nat.reduceMul, Nat.reduceLeDiff, Nat.reduceBEq, reduceCtorEq, reduceIte, Array.toList, ↓reduceIte, tt, vgo, vout, vgoD, voutD, vclsOk, vids, mayWrite, V.ids, V.mids, vguard, callOf, vop, ev, cv, vbin, vint, isShift, isNilConst, vnil, isNilSlice, vload, vlen, newRow, vfill, vslice, entOf, vappend, srcOf, vcopy, vlookup, vupdate, mapOk, keyOf, intsOf, clsAt, chH, chooseV, vR, hll, e0, e1, hcond2, hst, hil, hh5, hi2, Nat.mul_one, hl6, hcond]
      have hgen : genH c k (hour + 1) (ls1.set hour ((gR c.loss hour).lo + i)) = genH c k (hour + 1) (ls.set hour ((gR c.loss hour).lo + i)) := by
        refine genH_congr c k (hour + 1) _ _ (by simp [hl, hl1]) fun j hj => ?_
        by_cases e : hour = j
        · subst e
          rw [List.getElem?_set_self (by omega), List.getElem?_set_self (by omega)]
        · rw [List.getElem?_set_ne e, List.getElem?_set_ne e]
          exact hag j (by omega)
      have hstep : (rangeI (gR c.loss hour).lo (gR c.loss hour).hi)[i]? = some ((gR c.loss hour).lo + i) := by
        simp only [rangeI, List.getElem?_map]
        rw [List.getElem?_range (by omega)]; rfl
      have hnext : runAll step (((rangeI (gR c.loss hour).lo (gR c.loss hour).hi).take (i + 1)).flatMap f) x = runAll step (f ((gR c.loss hour).lo + i)) x1 := by
        rw [List.take_add_one, hstep, List.flatMap_append, runAll_append, hrun]
        simp
      rw [i64_succ (show (hour : Int) < 9223372036854775807 by omega)]
      have hf : List.map (fun l => (⟨heat, l⟩ : Sc)) (genH c k (hour + 1) (ls1.set hour ((gR c.loss hour).lo + i))) = f ((gR c.loss hour).lo + i) := by rw [hgen]
      have hgood : Good step ok (f ((gR c.loss hour).lo + i)) x1 := by
        have g0 : Good step ok ((rangeI (gR c.loss hour).lo (gR c.loss hour).hi).flatMap f) x := by
          have := hok
          simp only [genH, List.map_flatMap] at this
          exact this
        rw [← List.take_append_drop i (rangeI (gR c.loss hour).lo (gR c.loss hour).hi), List.flatMap_append] at g0
        have g1 := (Good_append g0).2
        rw [hrun] at g1
        have g2 := g1 rfl
        rw [List.drop_eq_getElem?_toList_append, hstep] at g2
        exact (Good_append g2).1
      refine Cl.mk (c_choose c k0 yv hp step ok Y heat k (hour + 1) (ls1.set hour ((gR c.loss hour).lo + i)) x1 (by omega) (by simp [hl1]) (by rw [hf]; exact hgood)) ?_
      rintro v h' ⟨ls2, hl2, hag2, rfl, rfl⟩
      rw [hf]
      cases hr : runAll step (f ((gR c.loss hour).lo + i)) x1 with
      | mk t x2 =>
        rw [hr] at hnext
        cases t with
        | true =>
          simp only [gos, if_true, if_false, ne_eq, eq_self, Nat.reduceLT, Nat.reduceEqDiff, Nat.reduceAdd, Nat.reduceMul, Nat.reduceLeDiff, Nat.reduceBEq, reduceCtorEq, reduceIte, Array.toList, ↓reduceIte, tt, vgo, vout, vgoD, voutD, vclsOk, vids, mayWrite, V.ids, V.mids, vguard, callOf, vop, ev, cv, vbin, vint, isShift, isNilConst, vnil, isNilSlice, vload, vlen, newRow, vfill, vslice, entOf, vappend, srcOf, vcopy, vlookup, vupdate, mapOk, keyOf, intsOf, clsAt]
          refine Nx.mk (i + 1, ls2, x2) (show _ - (i + 1) < _ - i by omega) ⟨by simp only; omega, hl2, fun j hj => ?_, hnext⟩ (Wk.env ?_)
          · rw [hag2 j (by omega), List.getElem?_set_ne (by omega), hag j hj]
          · have hb1 := hin
            have hw : IntKind.i64.wrap ((gR c.loss hour).lo + ((i : Int) + 1)) = (gR c.loss hour).lo + ((i : Int) + 1) := i64_in (by omega) (by omega)
            simp [subE, Env.get, Int.add_assoc, hw]
        | false =>
          have hrest : runAll step (List.map (fun l => (⟨heat, l⟩ : Sc)) (genH c (k + 1) hour ls)) x = (false, x2) := by
            simp only [genH, List.map_flatMap]
            rw [← List.take_append_drop (i + 1) (rangeI (gR c.loss hour).lo (gR c.loss hour).hi), List.flatMap_append, runAll_append]
            rw [show runAll step (List.flatMap (fun n => List.map (fun l => (⟨heat, l⟩ : Sc)) (genH c k (hour + 1) (ls.set hour n))) (List.take (i + 1) (rangeI (gR c.loss hour).lo (gR c.loss hour).hi))) x = (false, x2) from hnext]
          simp only [gos, if_true, if_false, ne_eq, eq_self, Nat.reduceLT, Nat.reduceEqDiff, Nat.reduceAdd, Nat.reduceMul, Nat.reduceLeDiff, Nat.reduceBEq, reduceCtorEq, reduceIte, Array.toList, ↓reduceIte, tt, vgo, vout, vgoD, voutD, vclsOk, vids, mayWrite, V.ids, V.mids, vguard, callOf, vop, ev, cv, vbin, vint, isShift, isNilConst, vnil, isNilSlice, vload, vlen, newRow, vfill, vslice, entOf, vappend, srcOf, vcopy, vlookup, vupdate, mapOk, keyOf, intsOf, clsAt]
          subst hQ
          rw [hrest]
          exact FnPost.plain trivial (v := .bool false) (fun h2 e => by rfl) WkV.refl ⟨ls2, hl2, fun j hj => by rw [hag2 j (by omega), List.getElem?_set_ne (by omega), hag j (by omega)], rfl, rfl⟩
    · have hie : i = (rangeI (gR c.loss hour).lo (gR c.loss hour).hi).length := by omega
      have e0 := cR_at (Int.natCast_nonneg hour) hll
      rw [hi2] at e0
      have e1 : List.drop (hour * 2 + 1) (cR c.loss) = vi (gR c.loss hour).hi :: cR (c.loss.drop (hour + 1)) := by rw [← List.drop_drop, e0]; rfl
      have hrest : runAll step (List.map (fun l => (⟨heat, l⟩ : Sc)) (genH c (k + 1) hour ls)) x = (true, x1) := by
        simp only [genH, List.map_flatMap]
        rw [hie, List.take_length] at hrun
        exact hrun
      simp only [gos, if_true, if_false, ne_eq, eq_self, Nat.reduceLT, Nat.reduceEqDiff, Nat.reduceAdd, Nat.reduceMul, Nat.reduceLeDiff, Nat.reduceBEq, reduceCtorEq, reduceIte, Array.toList, ↓reduceIte, tt, vgo, vout, vgoD, voutD, vclsOk, vids, mayWrite, V.ids, V.mids, vguard, callOf, vop, ev, cv, vbin, vint, isShift, isNilConst, vnil, isNilSlice, vload, vlen, newRow, vfill, vslice, entOf, vappend, srcOf, vcopy, vlookup, vupdate, mapOk, keyOf, intsOf, clsAt, chH, chooseV, vR, hll, e0, e1, hil, hi2, Nat.mul_one]
      subst hQ
      rw [hrest]
      exact FnPost.plain trivial (v := .bool true) (fun h2 e => by rfl) WkV.refl ⟨ls1, hl1, hag, rfl, rfl⟩
end Go.Vm
set_option linter.unusedVariables false
set_option linter.unusedSimpArgs false
set_option maxRecDepth 100000
namespace Go.Vm
open Go.Proofs
/-- What is known, with the heap's list in another form. -/
theorem Wk.heap {p : Nat → Bool} {ρ ρ' : Env} {h h' : Heap} (e : HEq' h h') (hρ : subE ρ ρ') : Wk p ρ h ρ' h' := fun g w N T E H =>
  ⟨g, ⟨E.size, fun s c e' => E.look s c (subE_ok hρ s c e')⟩, H.congr e, (Tr.refl g h w).congr (fun _ => rfl) e, Kp.refl p g⟩
/-- The blocks that a function forgets when it ends. -/
theorem WkV.forgetF {p : Nat → Bool} {v : V} {h h' : Heap} (hh : ∀ i e, h'.get i = some e → h.get i = some e) (hp : ∀ i, p i = true → domP h' i = true) (hi : v.into (domP h') = true) (hb : intoH (domP h') h' = true) : WkV p v h v h' := by
  intro g w x hv H
  have H' := H.cut hh hb
  refine ⟨g.cut (domP h'), hv.sub (g.cut_sub _) _ _ hi, H', ?_, fun i v x hpi e => by simp [Gh.cut, hp i hpi, e]⟩
  refine ⟨rfl, rfl, rfl, Nat.le_refl _, fun _ _ _ => rfl, ?_, fun _ _ _ e => e, fun _ _ e => .inl e⟩
  rintro B ⟨i, e, c, h1, h2⟩ _
  refine ⟨i, e, c, hh i e h1, ?_⟩
  simp only [Gh.cut] at h2
  split at h2
  · exact h2
  · cases h2
def zL : List Int := [0, 0, 0, 0, 0]
/-- All truths, in the order of the program. -/
def truths (c : Cu) : List Sc := (rangeI c.heat.lo c.heat.hi).flatMap fun h => (genH c (c.last + 1).toNat 0 zL).map fun l => ⟨h, l⟩
theorem rangeI_len (lo hi : Int) : (rangeI lo hi).length = (hi + 1 - lo).toNat := by simp [rangeI]
theorem rangeI_get {lo hi : Int} {i : Nat} (h : lo + (i : Int) ≤ hi) : (rangeI lo hi)[i]? = some (lo + i) := by
  simp only [rangeI, List.getElem?_map]
  rw [List.getElem?_range (by omega)]; rfl
theorem rangeI_mem {lo hi x : Int} (h : x ∈ rangeI lo hi) : lo ≤ x ∧ x ≤ hi := by
  simp only [rangeI, List.mem_map, List.mem_range] at h
  obtain ⟨i, h1, rfl⟩ := h
  omega
theorem genH_ok (c : Cu) (k0 : CuOk c) : ∀ (k hour : Nat) (ls : List Int), (hour : Int) + k ≤ c.last + 1 → (ls.length = 5 ∧ ∀ x ∈ ls, 0 ≤ x ∧ x ≤ 99) → ∀ l ∈ genH c k hour ls, l.length = 5 ∧ ∀ x ∈ l, 0 ≤ x ∧ x ≤ 99
  | 0, hour, ls, hh, hl, l, hm => by
    simp only [genH, List.mem_singleton] at hm
    subst hm; exact hl
  | k + 1, hour, ls, hh, hl, l, hm => by
    simp only [genH, List.mem_flatMap] at hm
    obtain ⟨n, h1, h2⟩ := hm
    have hll : (hour : Int) < c.loss.length := by have := k0.loss.1; omega
    have hin := k0.loss.2 _ (List.mem_of_getElem? (gR_get hll))
    simp only [sInside, Bool.and_eq_true, decide_eq_true_eq] at hin
    have := rangeI_mem h1
    refine genH_ok c k0 k (hour + 1) _ (by omega) ⟨by simp [hl.1], fun x hx => ?_⟩ l h2
    rcases List.mem_or_eq_of_mem_set hx with hx | rfl
    · exact hl.2 x hx
    · omega
theorem truths_ok {c : Cu} (k0 : CuOk c) {s : Sc} (h : s ∈ truths c) : ScOk c s := by
  simp only [truths, List.mem_flatMap, List.mem_map] at h
  obtain ⟨n, h1, l, h2, rfl⟩ := h
  have := rangeI_mem h1
  have hin := k0.heat
  simp only [sInside, Bool.and_eq_true, decide_eq_true_eq] at hin
  have hl := k0.last
  exact ⟨by simp only; omega, genH_ok c k0 _ 0 zL (by omega) ⟨rfl, by simp [zL]⟩ l h2⟩
set_option maxHeartbeats 2000000 in
theorem c_scenes1 (c : Cu) (k0 : CuOk c) {σ : Type} (yv : V) (hp : σ → Heap) (step : Sc → σ → Bool × σ) (ok : Sc → σ → Prop) (Y : YOk Try.prog yv hp step ok) (x0 : σ) (hok : Good step ok (truths c) x0) :
    Ev Try.prog (.fn 135 [] [.rop c.cs]) [yv] (hp x0) fun v h' => h' = hp (runAll step (truths c) x0).2 := by
  have hin := k0.heat
  simp only [sInside, Bool.and_eq_true, decide_eq_true_eq] at hin
  have hlast := k0.last
  have a3 := Y.a3 x0
  have a4 := Y.a4 x0
  refine Ev.fn Try.func135 rfl rfl (Fn.body tabOk Try.func135 rfl (Nat.le_of_ble_eq_true rfl) (Ks.ok (fz := (fzn [3, 4])) (cl := (cln [])) tabOk mixed ?_))
  generalize hQ : FnPost tt Try.f135 _ _ = Q
  simp only [Try.f135, List.nil_append, List.append_nil, List.cons_append, argsEnv, Nat.reduceAdd]
  have hy : yv.cells? = some [yv] := Y.one
  simp only [gos, if_true, if_false, ne_eq, eq_self, Nat.reduceLT, Nat.reduceEqDiff, Nat.reduceAdd, Nat.reduceMul, Nat.reduceLeDiff, Nat.reduceBEq, reduceCtorEq, reduceIte, Array.toList, ↓reduceIte, tt, vgo, vout, vgoD, voutD, vclsOk, vids, mayWrite, V.ids, V.mids, vguard, callOf, vop, ev, cv, vbin, vint, isShift, isNilConst, vnil, isNilSlice, vload, vlen, newRow, vfill, vslice, entOf, vappend, srcOf, vcopy, vlookup, vupdate, mapOk, keyOf, intsOf, clsAt, Heap.get_set, a3, a4, hy]
  let g : Int → List Sc := fun h => (genH c (c.last + 1).toNat 0 zL).map fun l => ⟨h, l⟩
  refine W.loop tabOk mixed (fun a : Nat × List Int × σ => ([(0, yv), (1, .rop c.cs), (2, .rop [yv]), (3, .ptr 3 0 0), (4, .ptr 4 0 0)], chH c yv (c.heat.lo + a.1) a.2.1 (hp a.2.2))) (fun a => (rangeI c.heat.lo c.heat.hi).length - a.1)
    (fun a => a.1 ≤ (rangeI c.heat.lo c.heat.hi).length ∧ a.2.1.length = 5 ∧ (∀ j, (c.last + 1).toNat ≤ j → a.2.1[j]? = zL[j]?) ∧ runAll step (((rangeI c.heat.lo c.heat.hi).take a.1).flatMap g) x0 = (true, a.2.2)) (0, zL, x0) ⟨by simp, rfl, fun _ _ => rfl, rfl⟩ (Wk.heap ?_ (by simp [subE, Env.get])) ?_
  · intro i
    simp only [Heap.get_set, chH, Heap.get]
    by_cases h3 : i = 3
    · subst h3; simp [cI, zL]
    · by_cases h4 : i = 4
      · subst h4; simp [chooseV]
      · simp only [h3, h4, if_false]
  rintro ⟨i, ls, x⟩ ⟨hi, hl, hag, hrun⟩
  simp only at hi hl hag hrun ⊢
  have hrl := rangeI_len c.heat.lo c.heat.hi
  have hl6 : (cI ls).length = 5 := by rw [cI_len]; exact hl
  by_cases hil : c.heat.lo + (i : Int) ≤ c.heat.hi
  · simp only [gos, if_true, if_false, ne_eq, eq_self, Nat.reduceLT, Nat.reduceEqDiff, Nat.reduceAdd, Nat.reduceMul, Nat.reduceLeDiff, Nat.reduceBEq, reduceCtorEq, reduceIte, Array.toList, ↓reduceIte, tt, vgo, vout, vgoD, voutD, vclsOk, vids, mayWrite, V.ids, V.mids, vguard, callOf, vop, ev, cv, vbin, vint, isShift, isNilConst, vnil, isNilSlice, vload, vlen, newRow, vfill, vslice, entOf, vappend, srcOf, vcopy, vlookup, vupdate, mapOk, keyOf, intsOf, clsAt, chH, chooseV, hil, hl6]
    have hgen : genH c (c.last + 1).toNat 0 ls = genH c (c.last + 1).toNat 0 zL := genH_congr c _ _ _ _ (by simp [hl, zL]) fun j hj => hag j (by omega)
    have hgood : Good step ok (g (c.heat.lo + i)) x := by
      have g0 : Good step ok ((rangeI c.heat.lo c.heat.hi).flatMap g) x0 := hok
      rw [← List.take_append_drop i (rangeI c.heat.lo c.heat.hi), List.flatMap_append] at g0
      have g1 := (Good_append g0).2
      rw [hrun] at g1
      have g2 := g1 rfl
      rw [List.drop_eq_getElem?_toList_append, rangeI_get hil] at g2
      exact (Good_append g2).1
    have hnext : runAll step (((rangeI c.heat.lo c.heat.hi).take (i + 1)).flatMap g) x0 = runAll step (g (c.heat.lo + i)) x := by
      rw [List.take_add_one, rangeI_get hil, List.flatMap_append, runAll_append, hrun]
      simp
    refine Cl.mk (c_choose c k0 yv hp step ok Y (c.heat.lo + i) (c.last + 1).toNat 0 ls x (by omega) hl (by rw [hgen]; exact hgood)) ?_
    rintro v h' ⟨ls2, hl2, hag2, rfl, rfl⟩
    rw [hgen, show List.map (fun l => (⟨c.heat.lo + i, l⟩ : Sc)) (genH c (c.last + 1).toNat 0 zL) = g (c.heat.lo + i) from rfl]
    have hl7 : (cI ls2).length = 5 := by rw [cI_len]; exact hl2
    cases hr : runAll step (g (c.heat.lo + i)) x with
    | mk t x2 =>
      rw [hr] at hnext
      cases t with
      | true =>
        simp only [gos, if_true, if_false, ne_eq, eq_self, Nat.reduceLT, Nat.reduceEqDiff, Nat.reduceAdd, Nat.reduceMul, Nat.reduceLeDiff, Nat.reduceBEq, reduceCtorEq, reduceIte, Array.toList, ↓reduceIte, tt, vgo, vout, vgoD, voutD, vclsOk, vids, mayWrite, V.ids, V.mids, vguard, callOf, vop, ev, cv, vbin, vint, isShift, isNilConst, vnil, isNilSlice, vload, vlen, newRow, vfill, vslice, entOf, vappend, srcOf, vcopy, vlookup, vupdate, mapOk, keyOf, intsOf, clsAt, chH, chooseV, hl7]
        refine Nx.mk (i + 1, ls2, x2) (show _ - (i + 1) < _ - i by omega) ⟨by simp only; omega, hl2, fun j hj => ?_, hnext⟩ ?_
        · rw [hag2 j (by omega), hag j hj]
        · have e2 : c.heat.lo + (i : Int) + 1 = c.heat.lo + ((i + 1 : Nat) : Int) := by omega
          rw [i64_in (show -9223372036854775808 ≤ c.heat.lo + (i : Int) + 1 by omega) (show c.heat.lo + (i : Int) + 1 ≤ 9223372036854775807 by omega), e2]
          exact Wk.env (by simp [subE, Env.get])
      | false =>
        have hrest : runAll step (truths c) x0 = (false, x2) := by
          unfold truths
          rw [← List.take_append_drop (i + 1) (rangeI c.heat.lo c.heat.hi), List.flatMap_append, runAll_append]
          rw [show runAll step (List.flatMap (fun h => List.map (fun l => (⟨h, l⟩ : Sc)) (genH c (c.last + 1).toNat 0 zL)) (List.take (i + 1) (rangeI c.heat.lo c.heat.hi))) x0 = (false, x2) from hnext]
        simp only [gos, if_true, if_false, ne_eq, eq_self, Nat.reduceLT, Nat.reduceEqDiff, Nat.reduceAdd, Nat.reduceMul, Nat.reduceLeDiff, Nat.reduceBEq, reduceCtorEq, reduceIte, Array.toList, ↓reduceIte, tt, vgo, vout, vgoD, voutD, vclsOk, vids, mayWrite, V.ids, V.mids, vguard, callOf, vop, ev, cv, vbin, vint, isShift, isNilConst, vnil, isNilSlice, vload, vlen, newRow, vfill, vslice, entOf, vappend, srcOf, vcopy, vlookup, vupdate, mapOk, keyOf, intsOf, clsAt]
        subst hQ
        rw [hrest]
        refine FnPost.plain trivial (v := .tup []) (fun h2 e => by rfl) (WkV.forgetF ?_ ?_ ?_ ?_) rfl
        · intro i e he
          simp only [chH, Heap.get]
          rw [if_neg (fun h => by subst h; rw [Y.a3] at he; cases he), if_neg (fun h => by subst h; rw [Y.a4] at he; cases he)]
          exact he
        · intro i hp; rw [Y.dom _ x0]; exact hp
        · rfl
        · exact Y.closed _
  · have hie : i = (rangeI c.heat.lo c.heat.hi).length := by omega
    have hrest : runAll step (truths c) x0 = (true, x) := by
      rw [hie, List.take_length] at hrun
      exact hrun
    simp only [gos, if_true, if_false, ne_eq, eq_self, Nat.reduceLT, Nat.reduceEqDiff, Nat.reduceAdd, Nat.reduceMul, Nat.reduceLeDiff, Nat.reduceBEq, reduceCtorEq, reduceIte, Array.toList, ↓reduceIte, tt, vgo, vout, vgoD, voutD, vclsOk, vids, mayWrite, V.ids, V.mids, vguard, callOf, vop, ev, cv, vbin, vint, isShift, isNilConst, vnil, isNilSlice, vload, vlen, newRow, vfill, vslice, entOf, vappend, srcOf, vcopy, vlookup, vupdate, mapOk, keyOf, intsOf, clsAt, chH, chooseV, hil, hl6]
    subst hQ
    rw [hrest]
    refine FnPost.plain trivial (v := .tup []) (fun h2 e => by rfl) (WkV.forgetF ?_ ?_ ?_ ?_) rfl
    · intro i e he
      simp only [chH, Heap.get]
      rw [if_neg (fun h => by subst h; rw [Y.a3] at he; cases he), if_neg (fun h => by subst h; rw [Y.a4] at he; cases he)]
      exact he
    · intro i hp; rw [Y.dom _ x0]; exact hp
    · rfl
    · exact Y.closed _
theorem c_scenes (c : Cu) (hc : c.wf) : Pu Try.prog (.fn 119 [] []) [.agg c.cs] (.fn 135 [] [.rop c.cs]) := by
  refine Ev.fn Try.func119 rfl rfl (Fn.body tabOk Try.func119 rfl (Nat.le_of_ble_eq_true rfl) (Ks.ok (fz := (fzn [])) (cl := (cln [])) tabOk mixed ?_))
  generalize hQ : FnPost tt Try.f119 _ _ = Q
  simp only [Try.f119, List.nil_append, List.append_nil, List.cons_append, argsEnv, Nat.reduceAdd]
  simp only [gos, if_true, if_false, ne_eq, eq_self, Nat.reduceLT, Nat.reduceEqDiff, Nat.reduceAdd, Nat.reduceMul, Nat.reduceLeDiff, Nat.reduceBEq, reduceCtorEq, reduceIte, Array.toList, ↓reduceIte, tt, vgo, vout, vgoD, voutD, vclsOk, vids, mayWrite, V.ids, V.mids, vguard, callOf, vop, ev, cv, vbin, vint, isShift, isNilConst, vnil, isNilSlice, vload, vlen, newRow, vfill, vslice, entOf, vappend, srcOf, vcopy, vlookup, vupdate, mapOk, keyOf, intsOf, clsAt]
  subst hQ
  exact FnPost.plain trivial (fun h2 e => by first | rfl | (simp only [Try.f119, vres, vresL, vres1, e _, gos, if_true, if_false, ne_eq, eq_self, Nat.reduceLT, Nat.reduceEqDiff, Nat.reduceAdd, Nat.reduceMul, Nat.reduceLeDiff, Nat.reduceBEq, reduceCtorEq, reduceIte, Array.toList, ↓reduceIte, tt, vgo, vout, vgoD, voutD, vclsOk, vids, mayWrite, V.ids, V.mids, vguard, callOf, vop, ev, cv, vbin, vint, isShift, isNilConst, vnil, isNilSlice, vload, vlen, newRow, vfill, vslice, entOf, vappend, srcOf, vcopy, vlookup, vupdate, mapOk, keyOf, intsOf, clsAt]; try rfl)) (WkV.pure (by simp only [V.into, intoL, cB_into, vB_into, cI_into, cR_into, cD_into, cS_into, vS_into, vI_into, vR_into, vD_into, cu_into, Bool.true_and, Bool.and_true])) ⟨rfl, rfl⟩
end Go.Vm
set_option linter.unusedVariables false
set_option linter.unusedSimpArgs false
set_option maxRecDepth 100000
namespace Go.Vm
open Go.Proofs
/-- What is known when a function comes back, said anew. -/
theorem Ev.weakV {P : Program} {fv : V} {args : List V} {h : Heap} {R R2 : V → Heap → Prop} (e : Ev P fv args h R) (n : ∀ v h', R v h' → ∃ v2 h2, WkV (domP h) v h' v2 h2 ∧ R2 v2 h2) : Ev P fv args h R2 := by
  intro g w fc vs h1 h2 H
  obtain ⟨fr0, hb, e⟩ := e g w fc vs h1 h2 H
  refine ⟨fr0, hb, fun c cs => ?_⟩
  obtain ⟨v, h', vc, g', w', r, st, hv, hH, hT, hle⟩ := e c cs
  obtain ⟨v2, h2, wk, r2⟩ := n v h' r
  obtain ⟨g2, hv2, H2, t2, k2⟩ := wk g' w' vc hv hH
  refine ⟨v2, h2, vc, g2, w', r2, st, hv2, H2, hT.trans t2, ⟨fun i v x _ hm => ?_, fun B o v e => t2.romono _ _ _ (hle.ro _ _ _ e)⟩⟩
  obtain ⟨en, h3, _⟩ := H.dom i v (by rw [hm]; simp)
  exact k2 i v x (by simp [domP, h3]) (hle.m _ _ _ rfl hm)
section
variable {P : Program} {tt : Tab} {fz : Nat → Bool} {cl : Cl0} {b : Frame} {N : Nat} {p : Nat → Bool} {Q : Post} {k : List Itm} {ρ : Env} {D : List Nat} {h : Heap}
/-- A loop over a function; its code gets a name. -/
theorem W.rangeFuncG (lj dj : Nat) (hl : h.get lj = none) (hd : h.get dj = none) (hne : lj ≠ dj) (hb : b.roundOf = none) {f : Operand} {ps : Array Tmp} {sa bd : Code}
    (e : ∀ sa2 bd2, sa2 = sa → bd2 = bd → Ev P (ev ρ f) [.yl lj] ((h.set dj ⟨0, .dfr true⟩).set lj (lent .ready none b.fn N ρ ps.toList sa2 bd2 dj)) fun _ h' => RfPost (fun x ρ D h => R P tt fz cl b N p Q k x ρ D h) lj dj b.fn N ρ D ps.toList sa2 bd2 h') :
    W P tt fz cl b N p Q (.rangeFunc f ps sa bd) k ρ D h := W.rangeFunc lj dj hl hd hne hb (e sa bd rfl rfl)
theorem W.named {c c' : Code} (e : c' = c) (w : W P tt fz cl b N p Q c k ρ D h) : W P tt fz cl b N p Q c' k ρ D h := e ▸ w
end
/-- A call of yield; what must hold at the ends gets names. -/
theorem Ev.roundG {P : Program} {tt : Tab} {N : Nat} {ρ : Env} {h : Heap} (K : TabOk P tt) (hm : P.follows .mixedOrders = true) (fz : Nat → Bool) (cl : Cl0) {i : Nat} {pd : Option Code} {fn : FuncId} {ps : List Tmp} {sa bd : Code} {dj : Nat} (hi : h.get i = some (lent .ready pd fn N ρ ps sa bd dj)) {args : List V} (hl : ps.length = args.length) (hN : lts N ps = true) {S : V → Heap → Prop}
    (e : ∀ L Q2, (∀ x ρ' D' h', RPost i fn N ρ ps sa bd dj S x ρ' D' h' → Q2 x ρ' D' h') → ∀ Q1 : Post, (∀ ρ1 h1 pd, h1.get i = some (lent .ready pd fn N ρ ps sa bd dj) → W P tt fz cl (rbase fn L) N (domP h) Q2 bd [] ρ1 [] (h1.set i (lent .busy pd fn N ρ ps sa bd dj)) → Q1 .normal ρ1 [] h1) →
      W P tt fz cl (rbase fn L) N (domP h) Q1 sa [] (putL ρ ps args) [] h) : Ev P (.yl i) args h S :=
  Ev.roundW K hm fz cl hi hl hN fun L => e L _ (fun _ _ _ _ q => q) _ fun ρ1 h1 pd h2 w => ⟨pd, rfl, rfl, h2, w⟩
/-- The end of a function in which deferred calls were gathered: none. -/
theorem FnPost.defer {tt : Tab} {fn : Func} {p : Nat → Bool} {R : V → Heap → Prop} {x : Xit} {ρ : Env} {D : List Nat} {h : Heap} (hx : match x with | .exit _ => False | _ => True) (hn : D.Nodup) (hd : ∀ i ∈ D, h.get i = some ⟨0, .dfr true⟩) {v : V}
    (hv : ∀ h2, (∀ i, i ∉ D → h2.get i = h.get i) → vres tt ρ h2 fn.results.toList = some v) {v3 : V} {h3 : Heap} (k : ∀ h2, (∀ i, i ∉ D → h2.get i = h.get i) → WkV p v h2 v3 h3) (r : R v3 h3) : FnPost tt fn p R x ρ D h :=
  ⟨hx, hn, hd, fun h2 e => ⟨v, hv h2 e, v3, h3, k h2 e, r⟩⟩
theorem cI_ren (s : Nat → Nat) : ∀ l : List Int, renL s (cI l) = cI l
  | [] => rfl
  | x :: l => by simp only [cI, List.map_cons, renL, V.ren]; exact congrArg _ (cI_ren s l)
theorem cR_ren (s : Nat → Nat) : ∀ l : List Rg, renL s (cR l) = cR l
  | [] => rfl
  | x :: l => by simp only [cR, renL, V.ren, cR_ren s l]
theorem cD_ren (s : Nat → Nat) : ∀ l : List Rd, renL s (cD l) = cD l
  | [] => rfl
  | x :: l => by simp only [cD, renL, V.ren, cD_ren s l]
theorem cu_ren (s : Nat → Nat) (c : Cu) : renL s c.cs = c.cs := by
  simp only [Cu.cs, renL, V.ren, vI, vR, vD, cI_ren, cR_ren, cD_ren]
/-- The first truth of which f is true ends it. -/
def stopAt (f : Sc → Bool) (s : Sc) (x : Bool) : Bool × Bool := if f s then (false, true) else (true, x)
theorem runAll_stopAt (f : Sc → Bool) : ∀ (l : List Sc), (runAll (stopAt f) l false).2 = l.any f
  | [] => rfl
  | s :: l => by
    simp only [runAll, stopAt, List.any_cons]
    by_cases h : f s = true
    · simp [h]
    · simp only [Bool.not_eq_true] at h
      simp [h, runAll_stopAt f l]
theorem Good_stopAt {ok : Sc → Prop} (f : Sc → Bool) : ∀ {l : List Sc}, (∀ s ∈ l, ok s) → Good (stopAt f) (fun s x => ok s ∧ x = false) l false
  | [], _ => trivial
  | s :: l, h => by
    refine ⟨⟨h s (by simp), rfl⟩, fun e => ?_⟩
    simp only [stopAt] at e ⊢
    split
    · rename_i hf; rw [if_pos hf] at e; cases e
    · exact Good_stopAt f fun s' hs => h s' (by simp [hs])
def possH (c : Cu) (out : List Int) (ps : List Tmp) (sa sb : Code) (x : Bool) : Heap :=
  [(40, ⟨0, .row [.bool x]⟩), (51, ⟨0, .dfr true⟩), (50, lent (if x then .done else .ready) (if x then some .ret else none) 90 13 [(7, .fn 135 [] [.rop c.cs]), (6, .agg c.cs), (4, .ptr 40 0 0), (3, .rop [vI out]), (2, .rop c.cs), (0, .agg c.cs), (1, vI out)] ps sa sb 51)]
theorem possH_closed (c : Cu) (out : List Int) (ps : List Tmp) (sa sb : Code) (x : Bool) : intoH (domP (possH c out ps sa sb x)) (possH c out ps sa sb x) = true := by
  simp only [possH, intoH, lent, Blk.into, intoE, V.into, intoL, cB_into, vB_into, cI_into, cR_into, cD_into, cS_into, vS_into, vI_into, vR_into, vD_into, cu_into, Bool.true_and, Bool.and_true, intoPs, domP, Heap.get]
  rfl
theorem possH_dom (c : Cu) (out : List Int) (ps : List Tmp) (sa sb : Code) (x y : Bool) (i : Nat) : domP (possH c out ps sa sb x) i = domP (possH c out ps sa sb y) i := by
  simp only [possH, domP, Heap.get]
  repeat' split
  all_goals rfl
set_option maxHeartbeats 2000000 in
theorem c_possible (c : Cu) (k0 : CuOk c) (hc : c.wf) (out : List Int) (ho : (out.length : Int) ≤ 1000000) : Pu Try.prog (.fn 90 [] []) [.agg c.cs, vI out] (.bool ((truths c).any fun s => sRight c s out)) := by
  refine Ev.fn Try.func90 rfl rfl (Fn.body tabOk Try.func90 rfl (Nat.le_of_ble_eq_true rfl) (Ks.ok (fz := (fzn [4])) (cl := (cln [(0, .ex)])) tabOk mixed ?_))
  generalize hQ : FnPost tt Try.f90 _ _ = Q
  simp only [Try.f90, List.nil_append, List.append_nil, List.cons_append, argsEnv, Nat.reduceAdd]
  simp only [gos, if_true, if_false, ne_eq, eq_self, Nat.reduceLT, Nat.reduceEqDiff, Nat.reduceAdd, Nat.reduceMul, Nat.reduceLeDiff, Nat.reduceBEq, reduceCtorEq, reduceIte, Array.toList, ↓reduceIte, tt, vgo, vout, vgoD, voutD, vclsOk, vids, mayWrite, V.ids, V.mids, vguard, callOf, vop, ev, cv, vbin, vint, isShift, isNilConst, vnil, isNilSlice, vload, vlen, newRow, vfill, vslice, entOf, vappend, srcOf, vcopy, vlookup, vupdate, mapOk, keyOf, intsOf, clsAt]
  refine Wr.at tabOk 3 ?_
  simp only [gos, if_true, if_false, ne_eq, eq_self, Nat.reduceLT, Nat.reduceEqDiff, Nat.reduceAdd, Nat.reduceMul, Nat.reduceLeDiff, Nat.reduceBEq, reduceCtorEq, reduceIte, Array.toList, ↓reduceIte, tt, vgo, vout, vgoD, voutD, vclsOk, vids, mayWrite, V.ids, V.mids, vguard, callOf, vop, ev, cv, vbin, vint, isShift, isNilConst, vnil, isNilSlice, vload, vlen, newRow, vfill, vslice, entOf, vappend, srcOf, vcopy, vlookup, vupdate, mapOk, keyOf, intsOf, clsAt]
  refine Wa.mk (Wk.ren 4 40 rfl rfl) ?_
  simp only [renE, renH, V.ren, renL, Blk.ren, sw, cu_ren, vI, cI_ren, gos, if_true, if_false, ne_eq, eq_self, Nat.reduceLT, Nat.reduceEqDiff, Nat.reduceAdd, Nat.reduceMul, Nat.reduceLeDiff, Nat.reduceBEq, reduceCtorEq, reduceIte, Array.toList, ↓reduceIte, tt, vgo, vout, vgoD, voutD, vclsOk, vids, mayWrite, V.ids, V.mids, vguard, callOf, vop, ev, cv, vbin, vint, isShift, isNilConst, vnil, isNilSlice, vload, vlen, newRow, vfill, vslice, entOf, vappend, srcOf, vcopy, vlookup, vupdate, mapOk, keyOf, intsOf, clsAt]
  rw [show V.ro out.length (cI out) = vI out from rfl]
  refine Cl.pu (c_scenes c hc) ?_ rfl (by simp only [V.into, intoL, cB_into, vB_into, cI_into, cR_into, cD_into, cS_into, vS_into, vI_into, vR_into, vD_into, cu_into, Bool.true_and, Bool.and_true])
  simp only [gos, if_true, if_false, ne_eq, eq_self, Nat.reduceLT, Nat.reduceEqDiff, Nat.reduceAdd, Nat.reduceMul, Nat.reduceLeDiff, Nat.reduceBEq, reduceCtorEq, reduceIte, Array.toList, ↓reduceIte, tt, vgo, vout, vgoD, voutD, vclsOk, vids, mayWrite, V.ids, V.mids, vguard, callOf, vop, ev, cv, vbin, vint, isShift, isNilConst, vnil, isNilSlice, vload, vlen, newRow, vfill, vslice, entOf, vappend, srcOf, vcopy, vlookup, vupdate, mapOk, keyOf, intsOf, clsAt]
  refine W.rangeFuncG 50 51 rfl rfl (by decide) rfl ?_
  intro sa sb hsa hsb
  have Y : YOk Try.prog (.yl 50) (possH c out [8] sa sb) (stopAt fun s => sRight c s out) (fun s x => ScOk c s ∧ x = false) := by
    refine ⟨?_, ?_, ?_, ?_, ?_, ?_, rfl⟩
    · rintro s x ⟨hs, rfl⟩
      have hl6 : (cI s.loss).length = 5 := by rw [cI_len]; exact hs.loss.1
      have ht5 : List.take 5 (cI s.loss) = cI s.loss := List.take_of_length_le (by omega)
      have hd5 : List.drop 5 (cI s.loss) = [] := List.drop_eq_nil_of_le (by omega)
      refine (Ev.roundG (i := 50) (pd := none) tabOk mixed (fzn [5]) (cln []) rfl rfl rfl (S := fun v h' => v = .bool (stopAt (fun s => sRight c s out) s false).1 ∧ h' = possH c out [8] sa sb (stopAt (fun s => sRight c s out) s false).2 ++ [(5, ⟨0, .row s.cs⟩)]) ?_).weakV ?_
      · intro L Q2 hQ2 Q1 hQ1
        refine W.named hsa ?_
        simp only [gos, if_true, if_false, ne_eq, eq_self, Nat.reduceLT, Nat.reduceEqDiff, Nat.reduceAdd, Nat.reduceMul, Nat.reduceLeDiff, Nat.reduceBEq, reduceCtorEq, reduceIte, Array.toList, ↓reduceIte, tt, vgo, vout, vgoD, voutD, vclsOk, vids, mayWrite, V.ids, V.mids, vguard, callOf, vop, ev, cv, vbin, vint, isShift, isNilConst, vnil, isNilSlice, vload, vlen, newRow, vfill, vslice, entOf, vappend, srcOf, vcopy, vlookup, vupdate, mapOk, keyOf, intsOf, clsAt, putL, possH, Sc.cs, hl6, ht5, hd5, cI_one]
        refine hQ1 _ _ none rfl (W.named hsb ?_)
        simp only [gos, if_true, if_false, ne_eq, eq_self, Nat.reduceLT, Nat.reduceEqDiff, Nat.reduceAdd, Nat.reduceMul, Nat.reduceLeDiff, Nat.reduceBEq, reduceCtorEq, reduceIte, Array.toList, ↓reduceIte, tt, vgo, vout, vgoD, voutD, vclsOk, vids, mayWrite, V.ids, V.mids, vguard, callOf, vop, ev, cv, vbin, vint, isShift, isNilConst, vnil, isNilSlice, vload, vlen, newRow, vfill, vslice, entOf, vappend, srcOf, vcopy, vlookup, vupdate, mapOk, keyOf, intsOf, clsAt, hl6, ht5, hd5]
        refine Cl.pu (c_right c s out (k0.play0 hs) k0.hours hc.readings ho) ?_ rfl (by simp only [V.into, intoL, cB_into, vB_into, cI_into, cR_into, cD_into, cS_into, vS_into, vI_into, vR_into, vD_into, cu_into, Bool.true_and, Bool.and_true, Sc.cs])
        cases hr : sRight c s out with
        | true =>
          simp only [gos, if_true, if_false, ne_eq, eq_self, Nat.reduceLT, Nat.reduceEqDiff, Nat.reduceAdd, Nat.reduceMul, Nat.reduceLeDiff, Nat.reduceBEq, reduceCtorEq, reduceIte, Array.toList, ↓reduceIte, tt, vgo, vout, vgoD, voutD, vclsOk, vids, mayWrite, V.ids, V.mids, vguard, callOf, vop, ev, cv, vbin, vint, isShift, isNilConst, vnil, isNilSlice, vload, vlen, newRow, vfill, vslice, entOf, vappend, srcOf, vcopy, vlookup, vupdate, mapOk, keyOf, intsOf, clsAt]
          refine hQ2 _ _ _ _ ⟨.busy, none, rfl, ?_, ?_⟩
          · simp only [stopAt, hr]; rfl
          · simp only [stopAt, hr, possH, Sc.cs]; rfl
        | false =>
          simp only [gos, if_true, if_false, ne_eq, eq_self, Nat.reduceLT, Nat.reduceEqDiff, Nat.reduceAdd, Nat.reduceMul, Nat.reduceLeDiff, Nat.reduceBEq, reduceCtorEq, reduceIte, Array.toList, ↓reduceIte, tt, vgo, vout, vgoD, voutD, vclsOk, vids, mayWrite, V.ids, V.mids, vguard, callOf, vop, ev, cv, vbin, vint, isShift, isNilConst, vnil, isNilSlice, vload, vlen, newRow, vfill, vslice, entOf, vappend, srcOf, vcopy, vlookup, vupdate, mapOk, keyOf, intsOf, clsAt]
          refine hQ2 _ _ _ _ ⟨.busy, none, rfl, ?_, ?_⟩
          · simp only [stopAt, hr]; rfl
          · simp only [stopAt, hr, possH, Sc.cs]; rfl
      · rintro v h' ⟨rfl, rfl⟩
        refine ⟨_, _, WkV.forgetF (h' := possH c out [8] sa sb (stopAt (fun s => sRight c s out) s false).2) (fun i e he => by rw [Heap.get_append, he]; rfl) (fun i hi => by rw [possH_dom _ _ _ _ _ _ false]; exact hi) rfl (possH_closed _ _ _ _ _ _), rfl, rfl⟩
    · intro x; rfl
    · exact possH_closed c out [8] sa sb
    · exact possH_dom c out [8] sa sb
    · intro x; rfl
    · intro x; rfl
  refine (c_scenes1 c k0 (.yl 50) _ _ _ Y false (Good_stopAt _ fun s hs => truths_ok k0 hs)).mono ?_
  rintro v h' rfl
  rw [runAll_stopAt]
  cases hr : (truths c).any fun s => sRight c s out with
  | true =>
    refine ⟨.done, some .ret, rfl, by decide, ?_⟩
    simp only [gos, if_true, if_false, ne_eq, eq_self, Nat.reduceLT, Nat.reduceEqDiff, Nat.reduceAdd, Nat.reduceMul, Nat.reduceLeDiff, Nat.reduceBEq, reduceCtorEq, reduceIte, Array.toList, ↓reduceIte, tt, vgo, vout, vgoD, voutD, vclsOk, vids, mayWrite, V.ids, V.mids, vguard, callOf, vop, ev, cv, vbin, vint, isShift, isNilConst, vnil, isNilSlice, vload, vlen, newRow, vfill, vslice, entOf, vappend, srcOf, vcopy, vlookup, vupdate, mapOk, keyOf, intsOf, clsAt, possH]
    subst hQ
    refine FnPost.defer trivial (by decide) (by simp [Heap.get]) (v := .bool true) (fun h2 e => ?_) (fun h2 e => WkV.pure rfl) ⟨by rw [hr], rfl⟩
    have e40 : h2.get 40 = some ⟨0, .row [.bool true]⟩ := (e 40 (by decide)).trans rfl
    simp only [Try.f90, vres, vresL, vres1, gos, if_true, if_false, ne_eq, eq_self, Nat.reduceLT, Nat.reduceEqDiff, Nat.reduceAdd, Nat.reduceMul, Nat.reduceLeDiff, Nat.reduceBEq, reduceCtorEq, reduceIte, Array.toList, ↓reduceIte, tt, vgo, vout, vgoD, voutD, vclsOk, vids, mayWrite, V.ids, V.mids, vguard, callOf, vop, ev, cv, vbin, vint, isShift, isNilConst, vnil, isNilSlice, vload, vlen, newRow, vfill, vslice, entOf, vappend, srcOf, vcopy, vlookup, vupdate, mapOk, keyOf, intsOf, clsAt, e40]
  | false =>
    refine ⟨.ready, none, rfl, by decide, ?_⟩
    simp only [gos, if_true, if_false, ne_eq, eq_self, Nat.reduceLT, Nat.reduceEqDiff, Nat.reduceAdd, Nat.reduceMul, Nat.reduceLeDiff, Nat.reduceBEq, reduceCtorEq, reduceIte, Array.toList, ↓reduceIte, tt, vgo, vout, vgoD, voutD, vclsOk, vids, mayWrite, V.ids, V.mids, vguard, callOf, vop, ev, cv, vbin, vint, isShift, isNilConst, vnil, isNilSlice, vload, vlen, newRow, vfill, vslice, entOf, vappend, srcOf, vcopy, vlookup, vupdate, mapOk, keyOf, intsOf, clsAt, possH]
    subst hQ
    refine FnPost.defer trivial (by decide) (by simp [Heap.get]) (v := .bool false) (fun h2 e => ?_) (fun h2 e => WkV.pure rfl) ⟨by rw [hr], rfl⟩
    have e40 : h2.get 40 = some ⟨0, .row [.bool false]⟩ := (e 40 (by decide)).trans rfl
    simp only [Try.f90, vres, vresL, vres1, gos, if_true, if_false, ne_eq, eq_self, Nat.reduceLT, Nat.reduceEqDiff, Nat.reduceAdd, Nat.reduceMul, Nat.reduceLeDiff, Nat.reduceBEq, reduceCtorEq, reduceIte, Array.toList, ↓reduceIte, tt, vgo, vout, vgoD, voutD, vclsOk, vids, mayWrite, V.ids, V.mids, vguard, callOf, vop, ev, cv, vbin, vint, isShift, isNilConst, vnil, isNilSlice, vload, vlen, newRow, vfill, vslice, entOf, vappend, srcOf, vcopy, vlookup, vupdate, mapOk, keyOf, intsOf, clsAt, e40]
end Go.Vm
set_option linter.unusedVariables false
set_option linter.unusedSimpArgs false
set_option maxRecDepth 100000
namespace Go.Vm
open Go.Proofs
/-! ### there are at most 2000 truths -/
def pL : List Rg → Int
  | [] => 1
  | r :: l => sSize r * pL l
theorem pL_pos : ∀ {l : List Rg}, (∀ r ∈ l, 1 ≤ sSize r) → 1 ≤ pL l
  | [], _ => by simp [pL]
  | r :: l, h => by
    have h1 := h r (by simp)
    have h2 := pL_pos (l := l) fun x hx => h x (by simp [hx])
    have := Int.mul_le_mul h1 h2 (by omega) (by omega)
    simp only [pL]; omega
theorem sManyL_ge : ∀ (l : List Rg) (n : Int), 0 ≤ n → (∀ r ∈ l, 1 ≤ sSize r) → min (n * pL l) 2001 ≤ sManyL n l
  | [], n, hn, _ => by simp only [pL, sManyL, List.foldl_nil]; omega
  | r :: l, n, hn, h => by
    have h1 := h r (by simp)
    have h2 := pL_pos (l := l) fun x hx => h x (by simp [hx])
    have hm : 0 ≤ n * sSize r := Int.mul_nonneg hn (by omega)
    have ih := sManyL_ge l (min (n * sSize r) 2001) (by omega) fun x hx => h x (by simp [hx])
    have e : sManyL n (r :: l) = sManyL (min (n * sSize r) 2001) l := rfl
    rw [e, pL, ← Int.mul_assoc]
    refine Int.le_trans ?_ ih
    by_cases hc : n * sSize r ≤ 2001
    · rw [Int.min_eq_left hc]; exact Int.le_refl _
    · rw [show min (n * sSize r) 2001 = 2001 by omega]
      have : 2001 * 1 ≤ 2001 * pL l := Int.mul_le_mul_of_nonneg_left h2 (by omega)
      omega
theorem flat_len {α β : Type} (f : α → List β) (m : Nat) : ∀ (l : List α), (∀ x ∈ l, (f x).length = m) → (l.flatMap f).length = l.length * m
  | [], _ => by simp
  | x :: l, h => by
    rw [List.flatMap_cons, List.length_append, flat_len f m l fun y hy => h y (by simp [hy]), h x (by simp), List.length_cons, Nat.add_mul]
    omega
theorem genH_len (c : Cu) : ∀ (k hour : Nat) (ls : List Int), hour + k ≤ c.loss.length → (∀ r ∈ c.loss, 1 ≤ sSize r) → ((genH c k hour ls).length : Int) = pL ((c.loss.drop hour).take k)
  | 0, hour, ls, _, _ => by simp [genH, pL]
  | k + 1, hour, ls, h, hs => by
    have hll : (hour : Int) < c.loss.length := by omega
    have e : c.loss.drop hour = gR c.loss hour :: c.loss.drop (hour + 1) := by
      have := gR_drop (l := c.loss) (n := hour) (by omega) hll
      rwa [Int.toNat_natCast] at this
    have hr : 1 ≤ sSize (gR c.loss hour) := hs _ (List.mem_of_getElem? (gR_get hll))
    obtain ⟨m, hm⟩ : ∃ m, ∀ n, (genH c k (hour + 1) (ls.set hour n)).length = m := by
      refine ⟨(genH c k (hour + 1) ls).length, fun n => ?_⟩
      have h1 := genH_len c k (hour + 1) (ls.set hour n) (by omega) hs
      have h2 := genH_len c k (hour + 1) ls (by omega) hs
      omega
    have h1 := genH_len c k (hour + 1) (ls.set hour 0) (by omega) hs
    rw [genH, flat_len _ m _ fun n _ => hm n, e, List.take_succ_cons, pL, ← h1, hm, rangeI_len, Int.natCast_mul]
    congr 1
    simp only [sSize] at hr ⊢
    omega
theorem truths_len {c : Cu} (k : CuOk c) : ((truths c).length : Int) ≤ 2000 := by
  have hs : ∀ r ∈ c.loss, 1 ≤ sSize r := fun r hr => by
    have := k.loss.2 r hr
    simp only [sInside, Bool.and_eq_true, decide_eq_true_eq] at this
    simp only [sSize]; omega
  have hh : 1 ≤ sSize c.heat := by
    have := k.heat
    simp only [sInside, Bool.and_eq_true, decide_eq_true_eq] at this
    simp only [sSize]; omega
  have h1 := genH_len c (c.last + 1).toNat 0 zL (by have := k.loss.1; omega) hs
  rw [List.drop_zero, List.take_of_length_le (by have := k.loss.1; omega)] at h1
  have h2 := sManyL_ge c.loss (sSize c.heat) (by omega) hs
  have h3 := k.many
  simp only [sMany] at h3
  rw [truths, flat_len _ (genH c (c.last + 1).toNat 0 zL).length _ fun n _ => by simp, Int.natCast_mul, h1, rangeI_len]
  have : ((c.heat.hi + 1 - c.heat.lo).toNat : Int) = sSize c.heat := by simp only [sSize] at hh ⊢; omega
  rw [this]
  omega
end Go.Vm
set_option linter.unusedVariables false
set_option linter.unusedSimpArgs false
set_option maxRecDepth 100000
namespace Go.Vm
open Go.Proofs
/-- The truths that are right, in their order. -/
def askAdd (c : Cu) (s : Sc) (tr : List Sc) : List Sc := if sRight c s [] = true ∧ tr.getLast? ≠ some s then tr ++ [s] else tr
def askStep (c : Cu) (s : Sc) (tr : List Sc) : Bool × List Sc := (true, askAdd c s tr)
def sTruth (c : Cu) : List Sc := (runAll (askStep c) (truths c) []).2
def askOk (c : Cu) (s : Sc) (tr : List Sc) : Prop := ScOk c s ∧ okS tr ∧ (tr.length : Int) + 1 ≤ 1000000
theorem askAdd_len (c : Cu) (s : Sc) (tr : List Sc) : (askAdd c s tr).length ≤ tr.length + 1 := by
  unfold askAdd; split <;> simp
theorem askAdd_ok {c : Cu} {s : Sc} {tr : List Sc} (hs : ScOk c s) (h : okS tr) : okS (askAdd c s tr) := by
  unfold askAdd; split
  · intro x hx
    simp only [List.mem_append, List.mem_singleton] at hx
    rcases hx with hx | rfl
    · exact h x hx
    · exact hs.loss.1
  · exact h
theorem Good_ask (c : Cu) (l : List Sc) : ∀ (tr : List Sc), (∀ s ∈ l, ScOk c s) → okS tr → (tr.length : Int) + l.length ≤ 1000000 → Good (askStep c) (askOk c) l tr := by
  induction l with
  | nil => intro tr _ _ _; trivial
  | cons s l ih =>
    intro tr hs h hl
    have h1 := hs s (by simp)
    have h2 := askAdd_len c s tr
    simp only [List.length_cons, Int.natCast_add, Int.cast_ofNat_Int] at hl
    exact ⟨⟨h1, h, by omega⟩, fun _ => ih (askAdd c s tr) (fun x hx => hs x (by simp [hx])) (askAdd_ok h1 h) (by omega)⟩
theorem ask_ok (c : Cu) (l : List Sc) : ∀ (tr : List Sc), (∀ s ∈ l, ScOk c s) → okS tr → okS (runAll (askStep c) l tr).2 := by
  induction l with
  | nil => intro tr _ h; exact h
  | cons s l ih =>
    intro tr hs h
    exact ih (askAdd c s tr) (fun x hx => hs x (by simp [hx])) (askAdd_ok (hs s (by simp)) h)
theorem ask_len (c : Cu) (l : List Sc) : ∀ (tr : List Sc), ((runAll (askStep c) l tr).2.length : Int) ≤ tr.length + l.length := by
  induction l with
  | nil => intro tr; simp [runAll]
  | cons s l ih =>
    intro tr
    have h2 := askAdd_len c s tr
    have := ih (askAdd c s tr)
    simp only [runAll, askStep, List.length_cons] at this ⊢
    omega
theorem cS_snoc : ∀ (l : List Sc) (s : Sc), cS (l ++ [s]) = cS l ++ (vi s.heat :: cI s.loss)
  | [], s => by simp [cS]
  | x :: l, s => by simp [cS, cS_snoc l s]
theorem intsOf_sc (h : Int) (l : List Int) : intsOf (vi h :: cI l) = some (h :: l) := intsOf_cI (h :: l)
def askH (c : Cu) (ps : List Tmp) (sa sb : Code) (tr : List Sc) : Heap :=
  [(17, ⟨0, .map []⟩), (19, ⟨0, .row [vi c.last, vi c.start, vi c.most, vi c.per, vi c.shovels, vI c.coal, vI c.want, vi c.heat.lo, vi c.heat.hi, vR c.loss, vD c.readings, .own 57 tr.length 0 6 tr.length, .mp 17]⟩), (7, ⟨0, .row [.ptr 19 0 0]⟩), (57, ⟨tr.length, .row (cS tr)⟩), (51, ⟨0, .dfr true⟩),
   (50, lent .ready none 79 67 [(21, .fn 135 [] [.rop c.cs]), (20, .agg c.cs), (2, .rop c.cs), (7, .ptr 7 0 0), (4, .nilp), (5, vi 0)] ps sa sb 51)]
theorem askH_closed (c : Cu) (ps : List Tmp) (sa sb : Code) (tr : List Sc) : intoH (domP (askH c ps sa sb tr)) (askH c ps sa sb tr) = true := by
  simp only [askH, intoH, lent, Blk.into, intoE, V.into, intoL, cB_into, vB_into, cI_into, cR_into, cD_into, cS_into, vS_into, vI_into, vR_into, vD_into, cu_into, Bool.true_and, Bool.and_true, intoPs, domP, Heap.get]
  rfl
theorem askH_dom (c : Cu) (ps : List Tmp) (sa sb : Code) (x y : List Sc) (i : Nat) : domP (askH c ps sa sb x) i = domP (askH c ps sa sb y) i := by
  simp only [askH, domP, Heap.get]
  repeat' split
  all_goals rfl
def sAsked (c : Cu) (fine : Bool) : Int := if sCheck c ≠ 0 then sCheck c else if fine = false then 2 else if sTruth c = [] then 11 else 0
/-- What asked returns: the error, or coppers at work. -/
def AskPost (c : Cu) (e : Int) (v : V) (h' : Heap) : Prop :=
  (e ≠ 0 ∧ v = .tup [.nilp, vi e] ∧ h' = []) ∨ (e = 0 ∧ v = .tup [.rop (wcs c (sTruth c) (.mp 17)), vi 0] ∧ h' = [(17, ⟨0, .map []⟩)])
set_option maxHeartbeats 4000000 in
theorem c_asked (c : Cu) (hc : c.wf) (fine : Bool) : Ev Try.prog (.fn 79 [] []) [.agg c.cs, .bool fine] [] (AskPost c (sAsked c fine)) := by
  refine Ev.fn Try.func79 rfl rfl (Fn.body tabOk Try.func79 rfl (Nat.le_of_ble_eq_true rfl) (Ks.ok (fz := (fzn [7, 17, 19])) (cl := (cln [(6, .ex)])) tabOk mixed ?_))
  generalize hQ : FnPost tt Try.f79 _ _ = Q
  simp only [Try.f79, List.nil_append, List.append_nil, List.cons_append, argsEnv, Nat.reduceAdd]
  simp only [gos, if_true, if_false, ne_eq, eq_self, Nat.reduceLT, Nat.reduceEqDiff, Nat.reduceAdd, Nat.reduceMul, Nat.reduceLeDiff, Nat.reduceBEq, reduceCtorEq, reduceIte, Array.toList, ↓reduceIte, tt, vgo, vout, vgoD, voutD, vclsOk, vids, mayWrite, V.ids, V.mids, vguard, callOf, vop, ev, cv, vbin, vint, isShift, isNilConst, vnil, isNilSlice, vload, vlen, newRow, vfill, vslice, entOf, vappend, srcOf, vcopy, vlookup, vupdate, mapOk, keyOf, intsOf, clsAt]
  refine Cl.pu (c_Check c hc) ?_ rfl (by simp only [V.into, intoL, cB_into, vB_into, cI_into, cR_into, cD_into, cS_into, vS_into, vI_into, vR_into, vD_into, cu_into, Bool.true_and, Bool.and_true])
  by_cases h0 : sCheck c = 0
  case neg =>
    have hb : (sCheck c != 0) = true := by simp [h0]
    simp only [gos, if_true, if_false, ne_eq, eq_self, Nat.reduceLT, Nat.reduceEqDiff, Nat.reduceAdd, Nat.reduceMul, Nat.reduceLeDiff, Nat.reduceBEq, reduceCtorEq, reduceIte, Array.toList, ↓reduceIte, tt, vgo, vout, vgoD, voutD, vclsOk, vids, mayWrite, V.ids, V.mids, vguard, callOf, vop, ev, cv, vbin, vint, isShift, isNilConst, vnil, isNilSlice, vload, vlen, newRow, vfill, vslice, entOf, vappend, srcOf, vcopy, vlookup, vupdate, mapOk, keyOf, intsOf, clsAt, hb]
    subst hQ
    exact FnPost.plain trivial (fun h2 e => by rfl) (WkV.refl) (.inl ⟨by simp [sAsked, h0], by simp [sAsked, h0], rfl⟩)
  have hb : (sCheck c != 0) = false := by simp [h0]
  have k0 := sCheck_ok h0
  simp only [gos, if_true, if_false, ne_eq, eq_self, Nat.reduceLT, Nat.reduceEqDiff, Nat.reduceAdd, Nat.reduceMul, Nat.reduceLeDiff, Nat.reduceBEq, reduceCtorEq, reduceIte, Array.toList, ↓reduceIte, tt, vgo, vout, vgoD, voutD, vclsOk, vids, mayWrite, V.ids, V.mids, vguard, callOf, vop, ev, cv, vbin, vint, isShift, isNilConst, vnil, isNilSlice, vload, vlen, newRow, vfill, vslice, entOf, vappend, srcOf, vcopy, vlookup, vupdate, mapOk, keyOf, intsOf, clsAt, hb]
  cases fine
  case false =>
    simp only [gos, if_true, if_false, ne_eq, eq_self, Nat.reduceLT, Nat.reduceEqDiff, Nat.reduceAdd, Nat.reduceMul, Nat.reduceLeDiff, Nat.reduceBEq, reduceCtorEq, reduceIte, Array.toList, ↓reduceIte, tt, vgo, vout, vgoD, voutD, vclsOk, vids, mayWrite, V.ids, V.mids, vguard, callOf, vop, ev, cv, vbin, vint, isShift, isNilConst, vnil, isNilSlice, vload, vlen, newRow, vfill, vslice, entOf, vappend, srcOf, vcopy, vlookup, vupdate, mapOk, keyOf, intsOf, clsAt]
    subst hQ
    exact FnPost.plain trivial (fun h2 e => by rfl) (WkV.refl) (.inl ⟨by simp [sAsked, h0], by simp [sAsked, h0], rfl⟩)
  simp only [gos, if_true, if_false, ne_eq, eq_self, Nat.reduceLT, Nat.reduceEqDiff, Nat.reduceAdd, Nat.reduceMul, Nat.reduceLeDiff, Nat.reduceBEq, reduceCtorEq, reduceIte, Array.toList, ↓reduceIte, tt, vgo, vout, vgoD, voutD, vclsOk, vids, mayWrite, V.ids, V.mids, vguard, callOf, vop, ev, cv, vbin, vint, isShift, isNilConst, vnil, isNilSlice, vload, vlen, newRow, vfill, vslice, entOf, vappend, srcOf, vcopy, vlookup, vupdate, mapOk, keyOf, intsOf, clsAt]
  refine Wr.at tabOk 6 ?_
  simp only [gos, if_true, if_false, ne_eq, eq_self, Nat.reduceLT, Nat.reduceEqDiff, Nat.reduceAdd, Nat.reduceMul, Nat.reduceLeDiff, Nat.reduceBEq, reduceCtorEq, reduceIte, Array.toList, ↓reduceIte, tt, vgo, vout, vgoD, voutD, vclsOk, vids, mayWrite, V.ids, V.mids, vguard, callOf, vop, ev, cv, vbin, vint, isShift, isNilConst, vnil, isNilSlice, vload, vlen, newRow, vfill, vslice, entOf, vappend, srcOf, vcopy, vlookup, vupdate, mapOk, keyOf, intsOf, clsAt, Cu.cs]
  refine Wa.mk (Wk.trans (Wk.sl0H 19 11 57 6 rfl rfl rfl) (Wk.env (ρ' := [(2, .rop c.cs), (7, .ptr 7 0 0), (4, .nilp), (5, vi 0)]) (by simp [subE, Env.get, Cu.cs]))) ?_
  simp only [gos, if_true, if_false, ne_eq, eq_self, Nat.reduceLT, Nat.reduceEqDiff, Nat.reduceAdd, Nat.reduceMul, Nat.reduceLeDiff, Nat.reduceBEq, reduceCtorEq, reduceIte, Array.toList, ↓reduceIte, tt, vgo, vout, vgoD, voutD, vclsOk, vids, mayWrite, V.ids, V.mids, vguard, callOf, vop, ev, cv, vbin, vint, isShift, isNilConst, vnil, isNilSlice, vload, vlen, newRow, vfill, vslice, entOf, vappend, srcOf, vcopy, vlookup, vupdate, mapOk, keyOf, intsOf, clsAt, List.set]
  refine Cl.pu (c_scenes c hc) ?_ rfl (by simp only [V.into, intoL, cB_into, vB_into, cI_into, cR_into, cD_into, cS_into, vS_into, vI_into, vR_into, vD_into, cu_into, Bool.true_and, Bool.and_true])
  simp only [gos, if_true, if_false, ne_eq, eq_self, Nat.reduceLT, Nat.reduceEqDiff, Nat.reduceAdd, Nat.reduceMul, Nat.reduceLeDiff, Nat.reduceBEq, reduceCtorEq, reduceIte, Array.toList, ↓reduceIte, tt, vgo, vout, vgoD, voutD, vclsOk, vids, mayWrite, V.ids, V.mids, vguard, callOf, vop, ev, cv, vbin, vint, isShift, isNilConst, vnil, isNilSlice, vload, vlen, newRow, vfill, vslice, entOf, vappend, srcOf, vcopy, vlookup, vupdate, mapOk, keyOf, intsOf, clsAt]
  refine W.rangeFuncG 50 51 rfl rfl (by decide) rfl ?_
  intro sa sb hsa hsb
  have Y : YOk Try.prog (.yl 50) (askH c [22] sa sb) (askStep c) (askOk c) := by
    refine ⟨?_, ?_, ?_, ?_, ?_, ?_, rfl⟩
    · rintro s tr ⟨hs, htr, htl⟩
      have hl6 : (cI s.loss).length = 5 := by rw [cI_len]; exact hs.loss.1
      have ht5 : List.take 5 (cI s.loss) = cI s.loss := List.take_of_length_le (by omega)
      have hd5 : List.drop 5 (cI s.loss) = [] := List.drop_eq_nil_of_le (by omega)
      refine (Ev.roundG (i := 50) (pd := none) tabOk mixed (fzn [8]) (cln [(9, .d tg0 [cP, cL, cP, cP, cL, cP, cP, cL, cP, cP, cP, cL, cP, cP, cL, cL, cP, cP, cL, cP, cP, cP, cL, cL, cP, cP, cP]), (10, .d (tgL [(57, 1)]) [cL, cL, cP, cP, cL, cL, cP, some ([1], [1]), cP, cP, cW])]) rfl rfl rfl (S := fun v h' => v = .bool true ∧ h' = askH c [22] sa sb (askAdd c s tr) ++ [(8, ⟨0, .row s.cs⟩)]) ?_).weakV ?_
      · intro L Q2 hQ2 Q1 hQ1
        refine W.named hsa ?_
        simp only [gos, if_true, if_false, ne_eq, eq_self, Nat.reduceLT, Nat.reduceEqDiff, Nat.reduceAdd, Nat.reduceMul, Nat.reduceLeDiff, Nat.reduceBEq, reduceCtorEq, reduceIte, Array.toList, ↓reduceIte, tt, vgo, vout, vgoD, voutD, vclsOk, vids, mayWrite, V.ids, V.mids, vguard, callOf, vop, ev, cv, vbin, vint, isShift, isNilConst, vnil, isNilSlice, vload, vlen, newRow, vfill, vslice, entOf, vappend, srcOf, vcopy, vlookup, vupdate, mapOk, keyOf, intsOf, clsAt, putL, askH, Sc.cs, hl6, ht5, hd5, cI_one]
        refine hQ1 _ _ none rfl (W.named hsb ?_)
        simp only [gos, if_true, if_false, ne_eq, eq_self, Nat.reduceLT, Nat.reduceEqDiff, Nat.reduceAdd, Nat.reduceMul, Nat.reduceLeDiff, Nat.reduceBEq, reduceCtorEq, reduceIte, Array.toList, ↓reduceIte, tt, vgo, vout, vgoD, voutD, vclsOk, vids, mayWrite, V.ids, V.mids, vguard, callOf, vop, ev, cv, vbin, vint, isShift, isNilConst, vnil, isNilSlice, vload, vlen, newRow, vfill, vslice, entOf, vappend, srcOf, vcopy, vlookup, vupdate, mapOk, keyOf, intsOf, clsAt, hl6, ht5, hd5]
        refine Wr.draw (by kernel_rfl) ?_
        simp only [gos, if_true, if_false, ne_eq, eq_self, Nat.reduceLT, Nat.reduceEqDiff, Nat.reduceAdd, Nat.reduceMul, Nat.reduceLeDiff, Nat.reduceBEq, reduceCtorEq, reduceIte, Array.toList, ↓reduceIte, tt, vgo, vout, vgoD, voutD, vclsOk, vids, mayWrite, V.ids, V.mids, vguard, callOf, vop, ev, cv, vbin, vint, isShift, isNilConst, vnil, isNilSlice, vload, vlen, newRow, vfill, vslice, entOf, vappend, srcOf, vcopy, vlookup, vupdate, mapOk, keyOf, intsOf, clsAt, hl6, ht5, hd5]
        have hq : Pu Try.prog (.fn 101 [] []) [.agg c.cs, .agg (vi s.heat :: cI s.loss), .sl0] (.bool (sRight c s [])) :=
          Ev.imp (cs := [.agg c.cs, .agg s.cs, vI []]) (ImpV.refl _) ⟨ImpV.refl _, ImpV.refl _, sl0_vI, trivial⟩ (c_right c s [] (k0.play0 hs) k0.hours hc.readings (by simp))
        refine CD.pu hq ?_ rfl (by simp only [V.into, intoL, cB_into, vB_into, cI_into, cR_into, cD_into, cS_into, vS_into, vI_into, vR_into, vD_into, cu_into, Bool.true_and, Bool.and_true])
        cases hr : sRight c s [] with
        | false =>
          simp only [gos, if_true, if_false, ne_eq, eq_self, Nat.reduceLT, Nat.reduceEqDiff, Nat.reduceAdd, Nat.reduceMul, Nat.reduceLeDiff, Nat.reduceBEq, reduceCtorEq, reduceIte, Array.toList, ↓reduceIte, tt, vgo, vout, vgoD, voutD, vclsOk, vids, mayWrite, V.ids, V.mids, vguard, callOf, vop, ev, cv, vbin, vint, isShift, isNilConst, vnil, isNilSlice, vload, vlen, newRow, vfill, vslice, entOf, vappend, srcOf, vcopy, vlookup, vupdate, mapOk, keyOf, intsOf, clsAt, hl6, ht5, hd5]
          refine hQ2 _ _ _ _ ⟨.busy, none, rfl, rfl, ?_⟩
          simp only [askAdd, hr, askH, Sc.cs]; rfl
        | true =>
          by_cases htn : tr.length = 0
          · have hb : decide ((tr.length : Int) = 0) = true := by simp [htn]
            have hcl : (cS tr).length = tr.length * 6 := cS_len htr
            have htl2 : tr.length ≤ 999999 := by omega
            simp only [gos, if_true, if_false, ne_eq, eq_self, Nat.reduceLT, Nat.reduceEqDiff, Nat.reduceAdd, Nat.reduceMul, Nat.reduceLeDiff, Nat.reduceBEq, reduceCtorEq, reduceIte, Array.toList, ↓reduceIte, tt, vgo, vout, vgoD, voutD, vclsOk, vids, mayWrite, V.ids, V.mids, vguard, callOf, vop, ev, cv, vbin, vint, isShift, isNilConst, vnil, isNilSlice, vload, vlen, newRow, vfill, vslice, entOf, vappend, srcOf, vcopy, vlookup, vupdate, mapOk, keyOf, intsOf, clsAt, hl6, ht5, hd5, hb]
            refine Wr.draw (by kernel_rfl) ?_
            simp only [gos, if_true, if_false, ne_eq, eq_self, Nat.reduceLT, Nat.reduceEqDiff, Nat.reduceAdd, Nat.reduceMul, Nat.reduceLeDiff, Nat.reduceBEq, reduceCtorEq, reduceIte, Array.toList, ↓reduceIte, tt, vgo, vout, vgoD, voutD, vclsOk, vids, mayWrite, V.ids, V.mids, vguard, callOf, vop, ev, cv, vbin, vint, isShift, isNilConst, vnil, isNilSlice, vload, vlen, newRow, vfill, vslice, entOf, vappend, srcOf, vcopy, vlookup, vupdate, mapOk, keyOf, intsOf, clsAt, hl6, ht5, hd5, hcl, htl2, cI_one]
            have hadd : askAdd c s tr = tr ++ [s] := by
              have : tr = [] := List.length_eq_zero_iff.1 htn
              simp [askAdd, hr, this]
            refine hQ2 _ _ _ _ ⟨.busy, none, rfl, rfl, ?_⟩
            simp only [hadd, askH, Sc.cs, cS_snoc, List.length_append, List.length_singleton]; rfl
          · have hb : decide ((tr.length : Int) = 0) = false := by simp [htn]
            have hcl : (cS tr).length = tr.length * 6 := cS_len htr
            have htl2 : tr.length ≤ 999999 := by omega
            have hw : IntKind.i64.wrap ((tr.length : Int) - 1) = ((tr.length - 1 : Nat) : Int) := by rw [i64_in (by omega) (by omega)]; omega
            have hlt : ((tr.length - 1 : Nat) : Int) < (tr.length : Int) := by omega
            have hi2 : (((tr.length - 1 : Nat) : Int)).toNat = tr.length - 1 := Int.toNat_natCast _
            have hx5 : (cI (gS tr (tr.length - 1 : Nat)).loss).length = 5 := by rw [cI_len]; exact htr _ (gS_mem (by omega) (by omega))
            have hat : List.drop ((tr.length - 1) * 6) (cS tr) = vi (gS tr (tr.length - 1 : Nat)).heat :: (cI (gS tr (tr.length - 1 : Nat)).loss ++ cS (tr.drop (tr.length - 1 + 1))) := by
              have := cS_at htr (Int.natCast_nonneg (tr.length - 1)) hlt
              rwa [Int.toNat_natCast] at this
            have hxl : (gS tr (tr.length - 1 : Nat)).loss.length = 5 := htr _ (gS_mem (by omega) (by omega))
            have hlast : tr.getLast? = some (gS tr (tr.length - 1 : Nat)) := by rw [List.getLast?_eq_getElem?]; exact gS_get hlt
            have hsl := hs.loss.1
            generalize gS tr (tr.length - 1 : Nat) = x at hx5 hat hxl hlast
            have hle5 : 5 ≤ (cI x.loss ++ cS (tr.drop (tr.length - 1 + 1))).length := by rw [List.length_append, hx5]; omega
            have htk : List.take 5 (cI x.loss ++ cS (tr.drop (tr.length - 1 + 1))) = cI x.loss := by rw [List.take_append_of_le_length (by omega), List.take_of_length_le (by omega)]
            have hn1 : (x.heat :: x.loss != s.heat :: s.loss) = decide (x ≠ s) := by
              obtain ⟨a, l⟩ := x; obtain ⟨b, m⟩ := s
              simp [bne, Bool.beq_eq_decide_eq]
            simp only [gos, if_true, if_false, ne_eq, eq_self, Nat.reduceLT, Nat.reduceEqDiff, Nat.reduceAdd, Nat.reduceMul, Nat.reduceLeDiff, Nat.reduceBEq, reduceCtorEq, reduceIte, Array.toList, ↓reduceIte, tt, vgo, vout, vgoD, voutD, vclsOk, vids, mayWrite, V.ids, V.mids, vguard, callOf, vop, ev, cv, vbin, vint, isShift, isNilConst, vnil, isNilSlice, vload, vlen, newRow, vfill, vslice, entOf, vappend, srcOf, vcopy, vlookup, vupdate, mapOk, keyOf, intsOf, clsAt, hl6, ht5, hd5, hb, hw, hlt, hi2, hat, hcl, hx5, Nat.zero_add, hle5, htk, intsOf_cI, hxl, hsl, hn1]
            by_cases hxs : x = s
            · have hdx : decide (x ≠ s) = false := by simp [hxs]
              have hadd : askAdd c s tr = tr := by simp [askAdd, hr, hlast, hxs]
              simp only [← ne_eq, gos, if_true, if_false, ne_eq, eq_self, Nat.reduceLT, Nat.reduceEqDiff, Nat.reduceAdd, Nat.reduceMul, Nat.reduceLeDiff, Nat.reduceBEq, reduceCtorEq, reduceIte, Array.toList, ↓reduceIte, tt, vgo, vout, vgoD, voutD, vclsOk, vids, mayWrite, V.ids, V.mids, vguard, callOf, vop, ev, cv, vbin, vint, isShift, isNilConst, vnil, isNilSlice, vload, vlen, newRow, vfill, vslice, entOf, vappend, srcOf, vcopy, vlookup, vupdate, mapOk, keyOf, intsOf, clsAt, hdx]
              refine hQ2 _ _ _ _ ⟨.busy, none, rfl, rfl, ?_⟩
              simp only [hadd, askH, Sc.cs]; rfl
            · have hdx : decide (x ≠ s) = true := by simp [hxs]
              have hadd : askAdd c s tr = tr ++ [s] := by simp [askAdd, hr, hlast, hxs]
              simp only [gos, if_true, if_false, ne_eq, eq_self, Nat.reduceLT, Nat.reduceEqDiff, Nat.reduceAdd, Nat.reduceMul, Nat.reduceLeDiff, Nat.reduceBEq, reduceCtorEq, reduceIte, Array.toList, ↓reduceIte, tt, vgo, vout, vgoD, voutD, vclsOk, vids, mayWrite, V.ids, V.mids, vguard, callOf, vop, ev, cv, vbin, vint, isShift, isNilConst, vnil, isNilSlice, vload, vlen, newRow, vfill, vslice, entOf, vappend, srcOf, vcopy, vlookup, vupdate, mapOk, keyOf, intsOf, clsAt, hdx]
              refine Wr.draw (by kernel_rfl) ?_
              simp only [gos, if_true, if_false, ne_eq, eq_self, Nat.reduceLT, Nat.reduceEqDiff, Nat.reduceAdd, Nat.reduceMul, Nat.reduceLeDiff, Nat.reduceBEq, reduceCtorEq, reduceIte, Array.toList, ↓reduceIte, tt, vgo, vout, vgoD, voutD, vclsOk, vids, mayWrite, V.ids, V.mids, vguard, callOf, vop, ev, cv, vbin, vint, isShift, isNilConst, vnil, isNilSlice, vload, vlen, newRow, vfill, vslice, entOf, vappend, srcOf, vcopy, vlookup, vupdate, mapOk, keyOf, intsOf, clsAt, hl6, ht5, hd5, hcl, htl2, cI_one]
              refine hQ2 _ _ _ _ ⟨.busy, none, rfl, rfl, ?_⟩
              simp only [hadd, askH, Sc.cs, cS_snoc, List.length_append, List.length_singleton]; rfl
      · rintro v h' ⟨rfl, rfl⟩
        refine ⟨_, _, WkV.forgetF (h' := askH c [22] sa sb (askAdd c s tr)) (fun i e he => by rw [Heap.get_append, he]; rfl) (fun i hi => by rw [askH_dom _ _ _ _ _ tr]; exact hi) rfl (askH_closed _ _ _ _ _), rfl, rfl⟩
    · intro x; rfl
    · exact askH_closed c [22] sa sb
    · exact askH_dom c [22] sa sb
    · intro x; rfl
    · intro x; rfl
  have htl := truths_len k0
  have hall : ∀ s ∈ truths c, ScOk c s := fun s hs => truths_ok k0 hs
  refine (c_scenes1 c k0 (.yl 50) _ _ _ Y [] (Good_ask c _ [] hall (by intro s hs; cases hs) (by simp only [List.length_nil]; omega))).mono ?_
  rintro v h' rfl
  have hT1 := ask_ok c (truths c) [] hall (by intro s hs; cases hs)
  have hT2 := ask_len c (truths c) []
  rw [show (runAll (askStep c) (truths c) []).2 = sTruth c from rfl] at hT1 hT2 ⊢
  refine ⟨.ready, none, rfl, by decide, ?_⟩
  by_cases htn : sTruth c = []
  · have hb : decide (((sTruth c).length : Int) = 0) = true := by simp [htn]
    simp only [gos, if_true, if_false, ne_eq, eq_self, Nat.reduceLT, Nat.reduceEqDiff, Nat.reduceAdd, Nat.reduceMul, Nat.reduceLeDiff, Nat.reduceBEq, reduceCtorEq, reduceIte, Array.toList, ↓reduceIte, tt, vgo, vout, vgoD, voutD, vclsOk, vids, mayWrite, V.ids, V.mids, vguard, callOf, vop, ev, cv, vbin, vint, isShift, isNilConst, vnil, isNilSlice, vload, vlen, newRow, vfill, vslice, entOf, vappend, srcOf, vcopy, vlookup, vupdate, mapOk, keyOf, intsOf, clsAt, askH, hb]
    subst hQ
    refine FnPost.defer trivial (by decide) (by simp [Heap.get]) (v := .tup [.nilp, vi 11]) (fun h2 e => ?_) (fun h2 e => WkV.forgetF (h' := []) (fun i e he => by cases he) (fun i hi => by cases hi) rfl rfl) (.inl ⟨by simp [sAsked, h0, htn], by simp [sAsked, h0, htn], rfl⟩)
    rfl
  · have hb : decide (((sTruth c).length : Int) = 0) = false := by
      rw [decide_eq_false_iff_not]
      intro h; exact htn (List.length_eq_zero_iff.1 (by omega))
    simp only [gos, if_true, if_false, ne_eq, eq_self, Nat.reduceLT, Nat.reduceEqDiff, Nat.reduceAdd, Nat.reduceMul, Nat.reduceLeDiff, Nat.reduceBEq, reduceCtorEq, reduceIte, Array.toList, ↓reduceIte, tt, vgo, vout, vgoD, voutD, vclsOk, vids, mayWrite, V.ids, V.mids, vguard, callOf, vop, ev, cv, vbin, vint, isShift, isNilConst, vnil, isNilSlice, vload, vlen, newRow, vfill, vslice, entOf, vappend, srcOf, vcopy, vlookup, vupdate, mapOk, keyOf, intsOf, clsAt, askH, hb]
    subst hQ
    have hcl : (cS (sTruth c)).length = (sTruth c).length * 6 := cS_len hT1
    have htk : (cS (sTruth c)).take ((sTruth c).length * 6) = cS (sTruth c) := List.take_of_length_le (by omega)
    refine FnPost.defer trivial (by decide) (by simp [Heap.get]) (v := .tup [.ptr 19 0 0, vi 0]) (v3 := .tup [.rop (wcs c (sTruth c) (.mp 17)), vi 0]) (h3 := [(17, ⟨0, .map []⟩)]) (fun h2 e => by rfl) (fun h2 e => ?_) (.inr ⟨by simp [sAsked, h0, htn], rfl, rfl⟩)
    generalize sTruth c = tr at hcl htk e ⊢
    let h5 : Heap := [(17, ⟨0, .map []⟩), (19, ⟨0, .row [vi c.last, vi c.start, vi c.most, vi c.per, vi c.shovels, vI c.coal, vI c.want, vi c.heat.lo, vi c.heat.hi, vR c.loss, vD c.readings, .own 57 tr.length 0 6 tr.length, .mp 17]⟩), (57, ⟨tr.length, .row (cS tr)⟩)]
    refine WkV.trans (v1 := .tup [.ptr 19 0 0, vi 0]) (h1 := h5) (WkV.forgetF ?_ ?_ rfl ?_) ?_
    · intro i en he
      have h51 : i ≠ 51 := by rintro rfl; cases he
      rw [e i (by simpa using h51)]
      simp only [h5, Heap.get] at he ⊢
      repeat' split at he
      all_goals (first | (cases he; done) | skip)
      all_goals simp_all
    · intro i hi; cases hi
    · simp only [h5, intoH, Blk.into, intoE, V.into, intoL, cB_into, vB_into, cI_into, cR_into, cD_into, cS_into, vS_into, vI_into, vR_into, vD_into, cu_into, Bool.true_and, Bool.and_true, intoPs, domP, Heap.get]
      rfl
    · refine WkV.frz 57 (ver := tr.length) (cs := cS tr) (v' := .tup [.ptr 19 0 0, vi 0]) (h' := [(17, ⟨0, .map []⟩), (19, ⟨0, .row (wcs c tr (.mp 17))⟩)]) rfl rfl (cS_into _ _) rfl (by simp [V.frz, frzL]) ?_ ?_
      · simp only [h5, frzH, Blk.frz, frzPs, frzL, V.frz, vI, vR, vD, cI_frz, cR_frz, cD_frz, if_true, List.drop_zero, htk, wcs, vS]
        simp
      refine WkV.frz 19 (ver := 0) (cs := wcs c tr (.mp 17)) (v' := .tup [.rop (wcs c tr (.mp 17)), vi 0]) (h' := [(17, ⟨0, .map []⟩)]) rfl rfl (wc_into _ _ _ _ rfl) rfl (by simp [V.frz, frzL]) (by simp [frzH, Blk.frz, frzPs]) ?_
      exact WkV.refl
end Go.Vm
set_option linter.unusedVariables false
set_option linter.unusedSimpArgs false
set_option maxRecDepth 100000
namespace Go.Vm
open Go.Proofs
theorem WkV.imp {p : Nat → Bool} {v v' : V} {h : Heap} (i : ImpV v v') : WkV p v h v' h := fun g w x hv H => ⟨g, i g x hv, H, Tr.refl g h w, Kp.refl p g⟩
theorem ImpV.tup {l m : List V} (i : impL l m) : ImpV (.tup l) (.tup m) := fun g x h => by
  simp only [VR] at h ⊢
  obtain ⟨vs, e, hc⟩ := h
  exact ⟨vs, e, impL_ok i hc⟩
/-- Coppers at work, or nothing. -/
def askV (c : Cu) (e : Int) : V := if e = 0 then .rop (wcs c (sTruth c) .any) else .nilp
theorem c_asked0 (c : Cu) (hc : c.wf) (fine : Bool) : Pu Try.prog (.fn 79 [] []) [.agg c.cs, .bool fine] (.tup [askV c (sAsked c fine), vi (sAsked c fine)]) := by
  refine (c_asked c hc fine).weakV ?_
  rintro v h' (⟨h0, rfl, rfl⟩ | ⟨h0, rfl, rfl⟩)
  · exact ⟨_, _, WkV.refl, by simp [askV, h0], rfl⟩
  · refine ⟨_, _, WkV.trans (WkV.imp (v' := .tup [.rop (wcs c (sTruth c) .any), vi 0]) (ImpV.tup ⟨ImpV.rop (wcs_imp _ _ _), ImpV.refl _, trivial⟩)) (WkV.forgetF (h' := []) (fun i e he => by cases he) (fun i hi => by cases hi) ?_ rfl), ?_, rfl⟩
    · simp only [V.into, intoL, cB_into, vB_into, cI_into, cR_into, cD_into, cS_into, vS_into, vI_into, vR_into, vD_into, cu_into, Bool.true_and, Bool.and_true, wc_any]
    · simp [askV, h0]
/-- What is known when asked returns no error. -/
structure AskOk (c : Cu) (fine : Bool) : Prop where
  chk : sCheck c = 0
  k0 : CuOk c
  fine : fine = true
  ne : sTruth c ≠ []
  ok : okS (sTruth c)
  len : ((sTruth c).length : Int) ≤ 2000
  sc : ∀ s ∈ sTruth c, ScOk c s
  mem : ∀ s ∈ sTruth c, s ∈ truths c ∧ sRight c s [] = true
theorem ask_mem (c : Cu) (l : List Sc) : ∀ (tr : List Sc), ∀ s ∈ (runAll (askStep c) l tr).2, s ∈ tr ∨ (s ∈ l ∧ sRight c s [] = true) := by
  induction l with
  | nil => intro tr s hs; exact .inl hs
  | cons x l ih =>
    intro tr s hs
    rcases ih (askAdd c x tr) s hs with h | h
    · unfold askAdd at h
      split at h
      · rename_i hr
        simp only [List.mem_append, List.mem_singleton] at h
        rcases h with h | rfl
        · exact .inl h
        · exact .inr ⟨by simp, hr.1⟩
      · exact .inl h
    · exact .inr ⟨by simp [h.1], h.2⟩
theorem askOk_of {c : Cu} {fine : Bool} (h : sAsked c fine = 0) : AskOk c fine := by
  unfold sAsked at h
  split at h
  · rename_i h1; exact absurd h h1
  rename_i h1
  split at h
  · cases h
  rename_i h2
  split at h
  · cases h
  rename_i h3
  have h0 : sCheck c = 0 := Classical.not_not.1 h1
  have k0 := sCheck_ok h0
  have hall : ∀ s ∈ truths c, ScOk c s := fun s hs => truths_ok k0 hs
  have hm : ∀ s ∈ sTruth c, s ∈ truths c ∧ sRight c s [] = true := fun s hs => by
    rcases ask_mem c (truths c) [] s hs with h | h
    · cases h
    · exact h
  refine ⟨h0, k0, by simpa using h2, h3, ask_ok c (truths c) [] hall (by intro s hs; cases hs), ?_, fun s hs => hall s (hm s hs).1, hm⟩
  have h4 := ask_len c (truths c) []
  have h5 := truths_len k0
  simp only [List.length_nil] at h4
  simp only [sTruth]; omega
/-- The bounds of an answer of an hour. -/
def sB (c : Cu) (f : Past → Int) : Rg := sBounds ((sTruth c).map fun s => f (sPast c c.coal c.want s))
def sHotB (c : Cu) (i : Int) : Rg := sB c fun p => gi p.hot i
def sLeftB (c : Cu) (i : Int) : Rg := sB c fun p => gi p.left i
def nR (n : Int) (f : Int → Rg) : List Rg := (List.range n.toNat).map fun (i : Nat) => f i
def nI (n : Int) (f : Int → Int) : List Int := (List.range n.toNat).map fun (i : Nat) => f i
theorem nR_succ (i : Nat) (f : Int → Rg) : nR ((i + 1 : Nat) : Int) f = nR i f ++ [f i] := by simp [nR, List.range_succ]
theorem nI_succ (i : Nat) (f : Int → Int) : nI ((i + 1 : Nat) : Int) f = nI i f ++ [f i] := by simp [nI, List.range_succ]
theorem nR_len (i : Nat) (f : Int → Rg) : (nR i f).length = i := by simp [nR]
theorem nI_len (i : Nat) (f : Int → Int) : (nI i f).length = i := by simp [nI]
theorem cR_snoc : ∀ (l : List Rg) (r : Rg), cR (l ++ [r]) = cR l ++ [vi r.lo, vi r.hi]
  | [], r => rfl
  | x :: l, r => by simp [cR, cR_snoc l r]
def sBoundsA (c : Cu) : List Rg × List Rg × Int :=
  if sAsked c true = 0 then (nR (c.last + 1) (sHotB c), nR (c.last + 1) (sLeftB c), 0) else ([], [], sAsked c true)
def bdSt (c : Cu) (i : Nat) : Env × Heap :=
  ([(1, .rop c.cs), (2, .own 29 i 0 2 i), (3, .own 38 i 0 2 i), (4, vi 0), (5, .rop (wcs c (sTruth c) .any)), (17, vi (c.last + 1)), (18, vi i)], [(29, ⟨i, .row (cR (nR i (sHotB c)))⟩), (38, ⟨i, .row (cR (nR i (sLeftB c)))⟩)])
theorem wk_two (i : Nat) (H L : List Rg) (h1 : H.length = i) (h2 : L.length = i) {a : V} (ha : a = vi 0) :
    WkV (domP []) (.tup [.own 29 i 0 2 i, .own 38 i 0 2 i, a]) [(29, ⟨i, .row (cR H)⟩), (38, ⟨i, .row (cR L)⟩)] (.tup [vR H, vR L, a]) [] := by
  have e1 : (cR H).take (i * 2) = cR H := List.take_of_length_le (by rw [cR_len]; omega)
  have e2 : (cR L).take (i * 2) = cR L := List.take_of_length_le (by rw [cR_len]; omega)
  subst ha
  refine WkV.frz 29 (v' := .tup [.ro i (cR H), .own 38 i 0 2 i, vi 0]) (h' := [(38, ⟨i, .row (cR L)⟩)]) (ver := i) (cs := cR H) rfl rfl (cR_into _ _) rfl ?_ ?_ ?_
  · simp [V.frz, frzL, e1]
  · simp [frzH, Blk.frz, V.frz, frzL, cR_frz]
  refine WkV.frz 38 (v' := .tup [.ro i (cR H), .ro i (cR L), vi 0]) (h' := []) (ver := i) (cs := cR L) rfl rfl (cR_into _ _) rfl ?_ ?_ ?_
  · simp [V.frz, frzL, e2, cR_frz]
  · simp [frzH]
  have : V.tup [vR H, vR L, vi 0] = .tup [.ro i (cR H), .ro i (cR L), vi 0] := by simp only [vR, h1, h2]
  rw [this]
  exact WkV.refl
set_option maxHeartbeats 2000000 in
theorem c_Bounds (c : Cu) (hc : c.wf) : Pu Try.prog (.fn 22 [] []) [.agg c.cs] (.tup [vR (sBoundsA c).1, vR (sBoundsA c).2.1, vi (sBoundsA c).2.2]) := by
  refine Ev.fn Try.func22 rfl rfl (Fn.body tabOk Try.func22 rfl (Nat.le_of_ble_eq_true rfl) (Ks.ok (fz := (fzn [])) (cl := (cln [])) tabOk mixed ?_))
  generalize hQ : FnPost tt Try.f22 _ _ = Q
  simp only [Try.f22, List.nil_append, List.append_nil, List.cons_append, argsEnv, Nat.reduceAdd]
  simp only [gos, if_true, if_false, ne_eq, eq_self, Nat.reduceLT, Nat.reduceEqDiff, Nat.reduceAdd, Nat.reduceMul, Nat.reduceLeDiff, Nat.reduceBEq, reduceCtorEq, reduceIte, Array.toList, ↓reduceIte, tt, vgo, vout, vgoD, voutD, vclsOk, vids, mayWrite, V.ids, V.mids, vguard, callOf, vop, ev, cv, vbin, vint, isShift, isNilConst, vnil, isNilSlice, vload, vlen, newRow, vfill, vslice, entOf, vappend, srcOf, vcopy, vlookup, vupdate, mapOk, keyOf, intsOf, clsAt]
  refine Cl.pu (c_asked0 c hc true) ?_ rfl (by simp only [V.into, intoL, cB_into, vB_into, cI_into, cR_into, cD_into, cS_into, vS_into, vI_into, vR_into, vD_into, cu_into, Bool.true_and, Bool.and_true])
  by_cases h0 : sAsked c true = 0
  case neg =>
    have hb : (sAsked c true != 0) = true := by simp [h0]
    simp only [gos, if_true, if_false, ne_eq, eq_self, Nat.reduceLT, Nat.reduceEqDiff, Nat.reduceAdd, Nat.reduceMul, Nat.reduceLeDiff, Nat.reduceBEq, reduceCtorEq, reduceIte, Array.toList, ↓reduceIte, tt, vgo, vout, vgoD, voutD, vclsOk, vids, mayWrite, V.ids, V.mids, vguard, callOf, vop, ev, cv, vbin, vint, isShift, isNilConst, vnil, isNilSlice, vload, vlen, newRow, vfill, vslice, entOf, vappend, srcOf, vcopy, vlookup, vupdate, mapOk, keyOf, intsOf, clsAt, hb]
    subst hQ
    have hr : sBoundsA c = ([], [], sAsked c true) := by simp [sBoundsA, h0]
    rw [hr]
    exact FnPost.plain trivial (v := .tup [.sl0, .sl0, vi (sAsked c true)]) (fun h2 e => by rfl) (WkV.nil2 rfl) ⟨rfl, rfl⟩
  have A := askOk_of h0
  have hl := A.k0.last
  have hb : (sAsked c true != 0) = false := by simp [h0]
  simp only [gos, if_true, if_false, ne_eq, eq_self, Nat.reduceLT, Nat.reduceEqDiff, Nat.reduceAdd, Nat.reduceMul, Nat.reduceLeDiff, Nat.reduceBEq, reduceCtorEq, reduceIte, Array.toList, ↓reduceIte, tt, vgo, vout, vgoD, voutD, vclsOk, vids, mayWrite, V.ids, V.mids, vguard, callOf, vop, ev, cv, vbin, vint, isShift, isNilConst, vnil, isNilSlice, vload, vlen, newRow, vfill, vslice, entOf, vappend, srcOf, vcopy, vlookup, vupdate, mapOk, keyOf, intsOf, clsAt, hb, askV, h0, i64_in (show -9223372036854775808 ≤ c.last + 1 by omega) (show c.last + 1 ≤ 9223372036854775807 by omega)]
  have hq : ∀ s ∈ sTruth c, PlayOk c s c.coal c.want := fun s hs => A.k0.play0 (A.sc s hs)
  refine W.loop tabOk mixed (bdSt c) (fun i => (c.last + 1).toNat - i) (fun i => (i : Int) ≤ c.last + 1) 0 (by omega) (Wk.trans (Wk.sl0E 2 29 2 rfl rfl) (Wk.trans (Wk.sl0E 3 38 2 rfl rfl) (Wk.env ?_))) ?_
  · simp [subE, Env.get, bdSt]
  intro i hi
  by_cases hil : (i : Int) < c.last + 1
  · have hn1 : (cR (nR i (sHotB c))).length = i * 2 := by rw [cR_len, nR_len]
    have hn2 : (cR (nR i (sLeftB c))).length = i * 2 := by rw [cR_len, nR_len]
    have hi9 : i ≤ 999999 := by omega
    simp only [gos, if_true, if_false, ne_eq, eq_self, Nat.reduceLT, Nat.reduceEqDiff, Nat.reduceAdd, Nat.reduceMul, Nat.reduceLeDiff, Nat.reduceBEq, reduceCtorEq, reduceIte, Array.toList, ↓reduceIte, tt, vgo, vout, vgoD, voutD, vclsOk, vids, mayWrite, V.ids, V.mids, vguard, callOf, vop, ev, cv, vbin, vint, isShift, isNilConst, vnil, isNilSlice, vload, vlen, newRow, vfill, vslice, entOf, vappend, srcOf, vcopy, vlookup, vupdate, mapOk, keyOf, intsOf, clsAt, bdSt, hil]
    refine Cl.pu (c_bounds _ (fun p => gi p.hot i) c (sTruth c) c.want i (by have := A.len; omega) A.ok hq ?_) ?_ rfl (by simp only [V.into, intoL, cB_into, vB_into, cI_into, cR_into, cD_into, cS_into, vS_into, vI_into, vR_into, vD_into, cu_into, Bool.true_and, Bool.and_true, wc_any])
    · intro s hs
      have := (sPlay_inv (hq s hs) (c.last + 1).toNat (by omega)).2.2.1
      exact c_pbuckets _ i (by omega) (by simp only [sPast]; omega)
    simp only [gos, if_true, if_false, ne_eq, eq_self, Nat.reduceLT, Nat.reduceEqDiff, Nat.reduceAdd, Nat.reduceMul, Nat.reduceLeDiff, Nat.reduceBEq, reduceCtorEq, reduceIte, Array.toList, ↓reduceIte, tt, vgo, vout, vgoD, voutD, vclsOk, vids, mayWrite, V.ids, V.mids, vguard, callOf, vop, ev, cv, vbin, vint, isShift, isNilConst, vnil, isNilSlice, vload, vlen, newRow, vfill, vslice, entOf, vappend, srcOf, vcopy, vlookup, vupdate, mapOk, keyOf, intsOf, clsAt, hn1, hn2, hi9]
    refine Cl.pu (c_bounds _ (fun p => gi p.left i) c (sTruth c) c.want i (by have := A.len; omega) A.ok hq ?_) ?_ rfl (by simp only [V.into, intoL, cB_into, vB_into, cI_into, cR_into, cD_into, cS_into, vS_into, vI_into, vR_into, vD_into, cu_into, Bool.true_and, Bool.and_true, wc_any])
    · intro s hs
      have := (sPlay_inv (hq s hs) (c.last + 1).toNat (by omega)).2.2.2.1
      exact c_prest _ i (by omega) (by simp only [sPast]; omega)
    simp only [gos, if_true, if_false, ne_eq, eq_self, Nat.reduceLT, Nat.reduceEqDiff, Nat.reduceAdd, Nat.reduceMul, Nat.reduceLeDiff, Nat.reduceBEq, reduceCtorEq, reduceIte, Array.toList, ↓reduceIte, tt, vgo, vout, vgoD, voutD, vclsOk, vids, mayWrite, V.ids, V.mids, vguard, callOf, vop, ev, cv, vbin, vint, isShift, isNilConst, vnil, isNilSlice, vload, vlen, newRow, vfill, vslice, entOf, vappend, srcOf, vcopy, vlookup, vupdate, mapOk, keyOf, intsOf, clsAt, hn1, hn2, hi9]
    refine Nx.mk (i + 1) (show (c.last + 1).toNat - (i + 1) < (c.last + 1).toNat - i by omega) (by omega) (Wk.heap (fun j => ?_) ?_)
    · simp only [bdSt, nR_succ, cR_snoc]; rfl
    · simp [subE, Env.get, bdSt, i64_succ (show (i : Int) < 9223372036854775807 by omega)]
  · have hie : ((i : Nat) : Int) = c.last + 1 := by omega
    simp only [gos, if_true, if_false, ne_eq, eq_self, Nat.reduceLT, Nat.reduceEqDiff, Nat.reduceAdd, Nat.reduceMul, Nat.reduceLeDiff, Nat.reduceBEq, reduceCtorEq, reduceIte, Array.toList, ↓reduceIte, tt, vgo, vout, vgoD, voutD, vclsOk, vids, mayWrite, V.ids, V.mids, vguard, callOf, vop, ev, cv, vbin, vint, isShift, isNilConst, vnil, isNilSlice, vload, vlen, newRow, vfill, vslice, entOf, vappend, srcOf, vcopy, vlookup, vupdate, mapOk, keyOf, intsOf, clsAt, bdSt, hil]
    subst hQ
    have hr : sBoundsA c = (nR i (sHotB c), nR i (sLeftB c), 0) := by rw [sBoundsA, if_pos h0, hie]
    rw [hr]
    refine FnPost.plain trivial (v := .tup [.own 29 i 0 2 i, .own 38 i 0 2 i, vi 0]) (fun h2 e => by rfl) ?_ ⟨rfl, rfl⟩
    exact wk_two i _ _ (nR_len _ _) (nR_len _ _) rfl
end Go.Vm
set_option linter.unusedVariables false
set_option linter.unusedSimpArgs false
set_option maxRecDepth 100000
namespace Go.Vm
open Go.Proofs
/-- An own block is lent for a call of a function that only reads; the result does not speak of blocks. -/
theorem Ev.lend {P : Program} {fv fv' : V} {args args' : List V} {v : V} {h : Heap} (i : Nat) {ver : Nat} {cs : List V} (hi : h.get i = some ⟨ver, .row cs⟩) (hc : intoL (fun j => decide (j ≠ i)) cs = true) (hl : noLoopOn i h = true)
    (hf : fv.frz i ver cs = fv') (ha : frzL i ver cs args = args') (c : Pu P fv' args' v) (hv : ∀ g g' x, VR g v x → VR g' v x) (hf2 : fv'.into (fun _ => false) = true := by rfl) (ha2 : intoL (fun _ => false) args' = true := by rfl) :
    Ev P fv args h fun v' h' => v' = v ∧ h' = h := by
  intro g w fc vs h1 h2 H
  obtain ⟨g', hv', H', t', _⟩ := (WkV.of_wk (p := fun _ => false) (v := .tup (fv :: args)) (v' := .tup (fv' :: args')) (h := h) (h' := frzH i ver cs h) (by
    have := Wk.freeze (p := fun _ => false) (ρ := [(0, .tup (fv :: args))]) i hi rfl hc hl
    simpa only [frzE, V.frz, frzL, hf, ha] using this)) g w (.tuple (fc :: vs).toArray) (by
      simp only [VR]; exact ⟨(fc :: vs).toArray, rfl, VRL.cons h1 h2⟩) H
  simp only [VR] at hv'
  obtain ⟨us, e1, hv'⟩ := hv'
  injection e1 with e1; subst e1
  simp only [VRL] at hv'
  obtain ⟨u, us', e2, k1, k2⟩ := hv'
  injection e2 with e2 e3; subst e2; subst e3
  have Hc : HRel (g'.cut (domP [])) [] w := H'.cut (fun i e he => by cases he) rfl
  obtain ⟨fr0, hbg, c⟩ := c (g'.cut (domP [])) w fc vs (k1.sub (g'.cut_sub _) _ _ hf2) (k2.sub (g'.cut_sub _) _ _ ha2) Hc
  refine ⟨fr0, hbg, fun cl cs' => ?_⟩
  obtain ⟨v1, h'', vc, g1, w1, ⟨rfl, rfl⟩, st, hv1, H1, T1, hle⟩ := c cl cs'
  have hun : ∀ B, B < w.heap.size → w1.heap[B]? = w.heap[B]? := fun B hB => T1.mods B hB (by rintro ⟨j, e, c', hj, _⟩; cases hj)
  refine ⟨_, h, vc, g, w1, ⟨rfl, rfl⟩, st, hv _ _ _ hv1, ⟨fun B o x e => ?_, fun j e he => ?_, H.inj, H.apart, H.dom⟩, ⟨T1.os, T1.tape, T1.output, T1.size, fun B hB _ => hun B hB, fun B o _ => o, fun _ _ _ e => e, fun _ _ e => .inl e⟩, Gh.le.refl g⟩
  · exact H1.ro B o x (hle.ro _ _ _ (t'.romono _ _ _ e))
  · obtain ⟨x, h3, h4⟩ := H.own j e he
    exact ⟨x, h3, h4.le (Gh.le.refl g) fun B cc hx => by subst hx; exact hun B (H.lt ⟨j, e, cc, he, h3⟩)⟩
/-! ### Keeps -/
def sKeepsA (c : Cu) : List Int × Int :=
  if sAsked c true = 0 then (nI (c.last + 1) fun i => sVerdict (sB c fun p => if gB p.kept i then 1 else 0), 0) else ([], sAsked c true)
def kpF (c : Cu) (i : Int) : Int := sVerdict (sB c fun p => if gB p.kept i then 1 else 0)
def kpSt (c : Cu) (i : Nat) : Env × Heap :=
  ([(1, .rop c.cs), (6, .own 31 i 0 1 i), (4, .rop (wcs c (sTruth c) .any)), (18, vi (c.last + 1)), (19, vi i)], [(31, ⟨i, .row (cI (nI i (kpF c)))⟩)])
theorem WkV.nil1 {a : V} : WkV (domP []) (.tup [.sl0, a]) [] (.tup [vI [], a]) [] := WkV.imp (ImpV.tup ⟨sl0_vI, ImpV.refl _, trivial⟩)
set_option maxHeartbeats 2000000 in
theorem c_Keeps (c : Cu) (hc : c.wf) : Pu Try.prog (.fn 53 [] []) [.agg c.cs] (.tup [vI (sKeepsA c).1, vi (sKeepsA c).2]) := by
  refine Ev.fn Try.func53 rfl rfl (Fn.body tabOk Try.func53 rfl (Nat.le_of_ble_eq_true rfl) (Ks.ok (fz := (fzn [])) (cl := (cln [])) tabOk mixed ?_))
  generalize hQ : FnPost tt Try.f53 _ _ = Q
  simp only [Try.f53, List.nil_append, List.append_nil, List.cons_append, argsEnv, Nat.reduceAdd]
  simp only [gos, if_true, if_false, ne_eq, eq_self, Nat.reduceLT, Nat.reduceEqDiff, Nat.reduceAdd, Nat.reduceMul, Nat.reduceLeDiff, Nat.reduceBEq, reduceCtorEq, reduceIte, Array.toList, ↓reduceIte, tt, vgo, vout, vgoD, voutD, vclsOk, vids, mayWrite, V.ids, V.mids, vguard, callOf, vop, ev, cv, vbin, vint, isShift, isNilConst, vnil, isNilSlice, vload, vlen, newRow, vfill, vslice, entOf, vappend, srcOf, vcopy, vlookup, vupdate, mapOk, keyOf, intsOf, clsAt]
  refine Cl.pu (c_asked0 c hc true) ?_ rfl (by simp only [V.into, intoL, cB_into, vB_into, cI_into, cR_into, cD_into, cS_into, vS_into, vI_into, vR_into, vD_into, cu_into, Bool.true_and, Bool.and_true])
  by_cases h0 : sAsked c true = 0
  case neg =>
    have hb : (sAsked c true != 0) = true := by simp [h0]
    simp only [gos, if_true, if_false, ne_eq, eq_self, Nat.reduceLT, Nat.reduceEqDiff, Nat.reduceAdd, Nat.reduceMul, Nat.reduceLeDiff, Nat.reduceBEq, reduceCtorEq, reduceIte, Array.toList, ↓reduceIte, tt, vgo, vout, vgoD, voutD, vclsOk, vids, mayWrite, V.ids, V.mids, vguard, callOf, vop, ev, cv, vbin, vint, isShift, isNilConst, vnil, isNilSlice, vload, vlen, newRow, vfill, vslice, entOf, vappend, srcOf, vcopy, vlookup, vupdate, mapOk, keyOf, intsOf, clsAt, hb]
    subst hQ
    have hr : sKeepsA c = ([], sAsked c true) := by simp [sKeepsA, h0]
    rw [hr]
    exact FnPost.plain trivial (v := .tup [.sl0, vi (sAsked c true)]) (fun h2 e => by rfl) WkV.nil1 ⟨rfl, rfl⟩
  have A := askOk_of h0
  have hl := A.k0.last
  have hb : (sAsked c true != 0) = false := by simp [h0]
  simp only [gos, if_true, if_false, ne_eq, eq_self, Nat.reduceLT, Nat.reduceEqDiff, Nat.reduceAdd, Nat.reduceMul, Nat.reduceLeDiff, Nat.reduceBEq, reduceCtorEq, reduceIte, Array.toList, ↓reduceIte, tt, vgo, vout, vgoD, voutD, vclsOk, vids, mayWrite, V.ids, V.mids, vguard, callOf, vop, ev, cv, vbin, vint, isShift, isNilConst, vnil, isNilSlice, vload, vlen, newRow, vfill, vslice, entOf, vappend, srcOf, vcopy, vlookup, vupdate, mapOk, keyOf, intsOf, clsAt, hb, askV, h0, i64_in (show -9223372036854775808 ≤ c.last + 1 by omega) (show c.last + 1 ≤ 9223372036854775807 by omega)]
  have hq : ∀ s ∈ sTruth c, PlayOk c s c.coal c.want := fun s hs => A.k0.play0 (A.sc s hs)
  refine W.loop tabOk mixed (kpSt c) (fun i => (c.last + 1).toNat - i) (fun i => (i : Int) ≤ c.last + 1) 0 (by omega) (Wk.trans (Wk.sl0E 6 31 1 rfl rfl) (Wk.env ?_)) ?_
  · simp [subE, Env.get, kpSt]
  intro i hi
  by_cases hil : (i : Int) < c.last + 1
  · have hn1 : (cI (nI i (kpF c))).length = i := by rw [cI_len, nI_len]
    have hi9 : i ≤ 999999 := by omega
    simp only [gos, if_true, if_false, ne_eq, eq_self, Nat.reduceLT, Nat.reduceEqDiff, Nat.reduceAdd, Nat.reduceMul, Nat.reduceLeDiff, Nat.reduceBEq, reduceCtorEq, reduceIte, Array.toList, ↓reduceIte, tt, vgo, vout, vgoD, voutD, vclsOk, vids, mayWrite, V.ids, V.mids, vguard, callOf, vop, ev, cv, vbin, vint, isShift, isNilConst, vnil, isNilSlice, vload, vlen, newRow, vfill, vslice, entOf, vappend, srcOf, vcopy, vlookup, vupdate, mapOk, keyOf, intsOf, clsAt, kpSt, hil]
    refine Cl.pu (c_bounds _ (fun p => if gB p.kept i then 1 else 0) c (sTruth c) c.want i (by have := A.len; omega) A.ok hq ?_) ?_ rfl (by simp only [V.into, intoL, cB_into, vB_into, cI_into, cR_into, cD_into, cS_into, vS_into, vI_into, vR_into, vD_into, cu_into, Bool.true_and, Bool.and_true, wc_any])
    · intro s hs
      have := (sPlay_inv (hq s hs) (c.last + 1).toNat (by omega)).2.2.2.2
      exact c_pfulfilled _ i (by omega) (by simp only [sPast]; omega)
    simp only [gos, if_true, if_false, ne_eq, eq_self, Nat.reduceLT, Nat.reduceEqDiff, Nat.reduceAdd, Nat.reduceMul, Nat.reduceLeDiff, Nat.reduceBEq, reduceCtorEq, reduceIte, Array.toList, ↓reduceIte, tt, vgo, vout, vgoD, voutD, vclsOk, vids, mayWrite, V.ids, V.mids, vguard, callOf, vop, ev, cv, vbin, vint, isShift, isNilConst, vnil, isNilSlice, vload, vlen, newRow, vfill, vslice, entOf, vappend, srcOf, vcopy, vlookup, vupdate, mapOk, keyOf, intsOf, clsAt, hn1, hi9]
    refine Cl.pu (c_verdict _) ?_
    simp only [gos, if_true, if_false, ne_eq, eq_self, Nat.reduceLT, Nat.reduceEqDiff, Nat.reduceAdd, Nat.reduceMul, Nat.reduceLeDiff, Nat.reduceBEq, reduceCtorEq, reduceIte, Array.toList, ↓reduceIte, tt, vgo, vout, vgoD, voutD, vclsOk, vids, mayWrite, V.ids, V.mids, vguard, callOf, vop, ev, cv, vbin, vint, isShift, isNilConst, vnil, isNilSlice, vload, vlen, newRow, vfill, vslice, entOf, vappend, srcOf, vcopy, vlookup, vupdate, mapOk, keyOf, intsOf, clsAt, hn1, hi9, Nat.mul_one]
    refine Nx.mk (i + 1) (show (c.last + 1).toNat - (i + 1) < (c.last + 1).toNat - i by omega) (by omega) (Wk.heap (fun j => ?_) ?_)
    · simp only [kpSt, nI_succ, cI_snoc]; rfl
    · simp [subE, Env.get, kpSt, i64_succ (show (i : Int) < 9223372036854775807 by omega)]
  · have hie : ((i : Nat) : Int) = c.last + 1 := by omega
    simp only [gos, if_true, if_false, ne_eq, eq_self, Nat.reduceLT, Nat.reduceEqDiff, Nat.reduceAdd, Nat.reduceMul, Nat.reduceLeDiff, Nat.reduceBEq, reduceCtorEq, reduceIte, Array.toList, ↓reduceIte, tt, vgo, vout, vgoD, voutD, vclsOk, vids, mayWrite, V.ids, V.mids, vguard, callOf, vop, ev, cv, vbin, vint, isShift, isNilConst, vnil, isNilSlice, vload, vlen, newRow, vfill, vslice, entOf, vappend, srcOf, vcopy, vlookup, vupdate, mapOk, keyOf, intsOf, clsAt, kpSt, hil]
    subst hQ
    have hr : sKeepsA c = (nI i (kpF c), 0) := by rw [sKeepsA, if_pos h0, hie]; rfl
    rw [hr]
    refine FnPost.plain trivial (v := .tup [.own 31 i 0 1 i, vi 0]) (fun h2 e => by rfl) ?_ ⟨rfl, rfl⟩
    have hn1 : (nI i (kpF c)).length = i := nI_len _ _
    have ht : (cI (nI i (kpF c))).take i = cI (nI i (kpF c)) := List.take_of_length_le (by rw [cI_len]; omega)
    refine WkV.frz 31 (v' := .tup [vI (nI i (kpF c)), vi 0]) (h' := []) (ver := i) (cs := cI (nI i (kpF c))) rfl rfl (cI_into _ _) rfl ?_ ?_ WkV.refl
    · simp [V.frz, frzL, vI, hn1, ht]
    · simp [frzH]
/-! ### More -/
def sMoreA (c : Cu) (more : List Int) : Int × Int :=
  if sAsked c (sPromised c more) = 0 then (sWith c (sTruth c) more, 0) else (0, sAsked c (sPromised c more))
theorem sAdd_get (want more : List Int) : ∀ (i j : Nat), j < want.length → gi (sAdd want more i) j = if j < i then gi want j + gi more j else gi want j
  | 0, j, _ => by simp [sAdd]
  | i + 1, j, hj => by
    have hl := sAdd_len want more i
    by_cases h : i = j
    · subst h
      have : gi (sAdd want more (i + 1)) i = gi (sAdd want more i) i + gi more i := by
        simp only [sAdd, gi, Int.toNat_natCast, List.getD_eq_getElem?_getD]
        rw [List.getElem?_set_self (by omega)]; rfl
      rw [this, sAdd_get want more i i hj]
      simp
    · rw [sAdd, gi_set_ne _ h, sAdd_get want more i j hj]
      by_cases h2 : j < i
      · rw [if_pos h2, if_pos (by omega)]
      · rw [if_neg h2, if_neg (by omega)]
theorem mem_gi {l : List Int} {x : Int} (h : x ∈ l) : ∃ j : Nat, j < l.length ∧ gi l j = x := by
  obtain ⟨j, hj, rfl⟩ := List.mem_iff_getElem.1 h
  exact ⟨j, hj, by rw [gi, Int.toNat_natCast, List.getD_eq_getElem?_getD, List.getElem?_eq_getElem hj]; rfl⟩
/-- Promises that can be added. -/
theorem with_ok {c : Cu} (k : CuOk c) {more : List Int} (h1 : (more.length : Int) = c.last + 1) (h2 : ∀ x ∈ more, 0 ≤ x ∧ x ≤ 20) {s : Sc} (hs : ScOk c s) : PlayOk c s c.coal (sAdd c.want more more.length) := by
  have hw := k.want
  refine k.play hs ⟨k.coal.1, fun x hx => by have := k.coal.2 x hx; have := k.shovels; omega⟩ ⟨by rw [sAdd_len]; exact hw.1, fun x hx => ?_⟩
  obtain ⟨j, hj, rfl⟩ := mem_gi hx
  rw [sAdd_len] at hj
  rw [sAdd_get _ _ _ _ hj]
  have a1 := hw.2 _ (gi_mem hj)
  split
  · have a2 := h2 _ (gi_mem (l := more) (i := j) (by omega))
    omega
  · omega
theorem with_b {c : Cu} (k : CuOk c) {more : List Int} (h1 : (more.length : Int) = c.last + 1) (h2 : ∀ x ∈ more, 0 ≤ x ∧ x ≤ 20) : ∀ i, i < c.want.length → 0 ≤ gi c.want i ∧ gi c.want i ≤ 20 ∧ 0 ≤ gi more i ∧ gi more i ≤ 20 := fun i hi => by
  have a1 := k.want.2 _ (gi_mem hi)
  have a2 := h2 _ (gi_mem (l := more) (i := i) (by have := k.want.1; omega))
  exact ⟨a1.1, a1.2, a2.1, a2.2⟩
theorem promised_ok {c : Cu} {l : List Int} (h : sPromised c l = true) : (l.length : Int) = c.last + 1 ∧ ∀ x ∈ l, 0 ≤ x ∧ x ≤ 20 := by
  simp only [sPromised, sIn, Bool.and_eq_true, decide_eq_true_eq, List.all_eq_true] at h
  exact h
set_option maxHeartbeats 2000000 in
theorem c_More (c : Cu) (hc : c.wf) (more : List Int) (hm : (more.length : Int) ≤ 1000000) : Pu Try.prog (.fn 27 [] []) [.agg c.cs, vI more] (.tup [vi (sMoreA c more).1, vi (sMoreA c more).2]) := by
  refine Ev.fn Try.func27 rfl rfl (Fn.body tabOk Try.func27 rfl (Nat.le_of_ble_eq_true rfl) (Ks.ok (fz := (fzn [])) (cl := (cln [(1, .d tg0 [cP, cP, cP, cP, cP, cP, cP, cP, cP, cP])])) tabOk mixed ?_))
  generalize hQ : FnPost tt Try.f27 _ _ = Q
  simp only [Try.f27, List.nil_append, List.append_nil, List.cons_append, argsEnv, Nat.reduceAdd]
  simp only [gos, if_true, if_false, ne_eq, eq_self, Nat.reduceLT, Nat.reduceEqDiff, Nat.reduceAdd, Nat.reduceMul, Nat.reduceLeDiff, Nat.reduceBEq, reduceCtorEq, reduceIte, Array.toList, ↓reduceIte, tt, vgo, vout, vgoD, voutD, vclsOk, vids, mayWrite, V.ids, V.mids, vguard, callOf, vop, ev, cv, vbin, vint, isShift, isNilConst, vnil, isNilSlice, vload, vlen, newRow, vfill, vslice, entOf, vappend, srcOf, vcopy, vlookup, vupdate, mapOk, keyOf, intsOf, clsAt]
  refine Wr.draw (by kernel_rfl) ?_
  simp only [gos, if_true, if_false, ne_eq, eq_self, Nat.reduceLT, Nat.reduceEqDiff, Nat.reduceAdd, Nat.reduceMul, Nat.reduceLeDiff, Nat.reduceBEq, reduceCtorEq, reduceIte, Array.toList, ↓reduceIte, tt, vgo, vout, vgoD, voutD, vclsOk, vids, mayWrite, V.ids, V.mids, vguard, callOf, vop, ev, cv, vbin, vint, isShift, isNilConst, vnil, isNilSlice, vload, vlen, newRow, vfill, vslice, entOf, vappend, srcOf, vcopy, vlookup, vupdate, mapOk, keyOf, intsOf, clsAt]
  refine CD.pu (c_promised c more hc.last hm) ?_ rfl (by simp only [V.into, intoL, cB_into, vB_into, cI_into, cR_into, cD_into, cS_into, vS_into, vI_into, vR_into, vD_into, cu_into, Bool.true_and, Bool.and_true])
  simp only [gos, if_true, if_false, ne_eq, eq_self, Nat.reduceLT, Nat.reduceEqDiff, Nat.reduceAdd, Nat.reduceMul, Nat.reduceLeDiff, Nat.reduceBEq, reduceCtorEq, reduceIte, Array.toList, ↓reduceIte, tt, vgo, vout, vgoD, voutD, vclsOk, vids, mayWrite, V.ids, V.mids, vguard, callOf, vop, ev, cv, vbin, vint, isShift, isNilConst, vnil, isNilSlice, vload, vlen, newRow, vfill, vslice, entOf, vappend, srcOf, vcopy, vlookup, vupdate, mapOk, keyOf, intsOf, clsAt]
  refine CD.pu (c_asked0 c hc (sPromised c more)) ?_ rfl (by simp only [V.into, intoL, cB_into, vB_into, cI_into, cR_into, cD_into, cS_into, vS_into, vI_into, vR_into, vD_into, cu_into, Bool.true_and, Bool.and_true])
  by_cases h0 : sAsked c (sPromised c more) = 0
  case neg =>
    have hb : (sAsked c (sPromised c more) != 0) = true := by simp [h0]
    simp only [gos, if_true, if_false, ne_eq, eq_self, Nat.reduceLT, Nat.reduceEqDiff, Nat.reduceAdd, Nat.reduceMul, Nat.reduceLeDiff, Nat.reduceBEq, reduceCtorEq, reduceIte, Array.toList, ↓reduceIte, tt, vgo, vout, vgoD, voutD, vclsOk, vids, mayWrite, V.ids, V.mids, vguard, callOf, vop, ev, cv, vbin, vint, isShift, isNilConst, vnil, isNilSlice, vload, vlen, newRow, vfill, vslice, entOf, vappend, srcOf, vcopy, vlookup, vupdate, mapOk, keyOf, intsOf, clsAt, hb]
    subst hQ
    have hr : sMoreA c more = (0, sAsked c (sPromised c more)) := by simp [sMoreA, h0]
    rw [hr]
    exact FnPost.plain trivial (fun h2 e => by rfl) WkV.refl ⟨rfl, rfl⟩
  have A := askOk_of h0
  have hp := promised_ok A.fine
  have hb : (sAsked c (sPromised c more) != 0) = false := by simp [h0]
  simp only [gos, if_true, if_false, ne_eq, eq_self, Nat.reduceLT, Nat.reduceEqDiff, Nat.reduceAdd, Nat.reduceMul, Nat.reduceLeDiff, Nat.reduceBEq, reduceCtorEq, reduceIte, Array.toList, ↓reduceIte, tt, vgo, vout, vgoD, voutD, vclsOk, vids, mayWrite, V.ids, V.mids, vguard, callOf, vop, ev, cv, vbin, vint, isShift, isNilConst, vnil, isNilSlice, vload, vlen, newRow, vfill, vslice, entOf, vappend, srcOf, vcopy, vlookup, vupdate, mapOk, keyOf, intsOf, clsAt, hb, askV, h0]
  refine Cl.pu (c_with c (sTruth c) more (by have := A.len; omega) A.ok (by have := A.k0.want.1; have := A.k0.last; omega) (by have := A.k0.want.1; omega) (with_b A.k0 hp.1 hp.2) fun s hs => with_ok A.k0 hp.1 hp.2 (A.sc s hs)) ?_ rfl (by simp only [V.into, intoL, cB_into, vB_into, cI_into, cR_into, cD_into, cS_into, vS_into, vI_into, vR_into, vD_into, cu_into, Bool.true_and, Bool.and_true, wc_any])
  simp only [gos, if_true, if_false, ne_eq, eq_self, Nat.reduceLT, Nat.reduceEqDiff, Nat.reduceAdd, Nat.reduceMul, Nat.reduceLeDiff, Nat.reduceBEq, reduceCtorEq, reduceIte, Array.toList, ↓reduceIte, tt, vgo, vout, vgoD, voutD, vclsOk, vids, mayWrite, V.ids, V.mids, vguard, callOf, vop, ev, cv, vbin, vint, isShift, isNilConst, vnil, isNilSlice, vload, vlen, newRow, vfill, vslice, entOf, vappend, srcOf, vcopy, vlookup, vupdate, mapOk, keyOf, intsOf, clsAt]
  subst hQ
  have hr : sMoreA c more = (sWith c (sTruth c) more, 0) := by simp [sMoreA, h0]
  rw [hr]
  exact FnPost.plain trivial (fun h2 e => by rfl) WkV.refl ⟨rfl, rfl⟩
end Go.Vm
set_option linter.unusedVariables false
set_option linter.unusedSimpArgs false
set_option maxRecDepth 100000
namespace Go.Vm
open Go.Proofs
/-- A number of buckets more in an hour. -/
def moreAt (c : Cu) (hour n : Int) : List Int := (List.replicate (c.last + 1).toNat 0).set hour.toNat n
def sSpareA (c : Cu) (hour : Int) : Int × Int :=
  if sAsked c (sIn hour 0 c.last) = 0 then (match (List.range 21).find? fun (j : Nat) => decide (sWith c (sTruth c) (moreAt c hour (20 - j)) = 1) with
    | some j => (20 - j, 0)
    | none => (0, 10)) else (0, sAsked c (sIn hour 0 c.last))
theorem moreAt_len (c : Cu) (hour n : Int) : (moreAt c hour n).length = (c.last + 1).toNat := by simp [moreAt]
theorem moreAt_le {c : Cu} {hour n : Int} (h : 0 ≤ n ∧ n ≤ 20) : ∀ x ∈ moreAt c hour n, 0 ≤ x ∧ x ≤ 20 := fun x hx => by
  rcases List.mem_or_eq_of_mem_set hx with hx | rfl
  · rw [List.mem_replicate] at hx; omega
  · exact h
theorem moreAt_set (c : Cu) (hour n m : Int) : (moreAt c hour m).set hour.toNat n = moreAt c hour n := by simp [moreAt]
theorem moreAt_zero (c : Cu) (hour : Int) : moreAt c hour 0 = List.replicate (c.last + 1).toNat 0 := by
  refine List.ext_getElem? fun j => ?_
  simp only [moreAt, List.getElem?_set, List.getElem?_replicate, List.length_replicate]
  by_cases h : hour.toNat = j
  · simp [h]
  · simp [h]
theorem zeros_vi : ∀ n : Nat, zeros [vi 0] n = cI (List.replicate n 0)
  | 0 => rfl
  | n + 1 => by simp only [zeros, List.replicate_succ, cI, List.map_cons, zeros_vi n]; rfl
theorem find_range {p : Nat → Bool} {n : Nat} : ∀ {a : Nat}, a < n → p a = true → (∀ j, j < a → p j = false) → (List.range n).find? p = some a := by
  intro a ha h1 h2
  rw [List.find?_eq_some_iff_getElem]
  refine ⟨h1, a, by simpa using ha, by simp, fun j hj => ?_⟩
  simp [h2 j hj]
set_option maxHeartbeats 2000000 in
theorem c_Spare (c : Cu) (hc : c.wf) (hour : Int) : Pu Try.prog (.fn 29 [] []) [.agg c.cs, vi hour] (.tup [vi (sSpareA c hour).1, vi (sSpareA c hour).2]) := by
  refine Ev.fn Try.func29 rfl rfl (Fn.body tabOk Try.func29 rfl (Nat.le_of_ble_eq_true rfl) (Ks.ok (fz := (fzn [24])) (cl := (cln [(1, .d tg0 [cP, cP, cP, cP, cP, cP, cP, cP, cP, cP])])) tabOk mixed ?_))
  generalize hQ : FnPost tt Try.f29 _ _ = Q
  simp only [Try.f29, List.nil_append, List.append_nil, List.cons_append, argsEnv, Nat.reduceAdd]
  simp only [gos, if_true, if_false, ne_eq, eq_self, Nat.reduceLT, Nat.reduceEqDiff, Nat.reduceAdd, Nat.reduceMul, Nat.reduceLeDiff, Nat.reduceBEq, reduceCtorEq, reduceIte, Array.toList, ↓reduceIte, tt, vgo, vout, vgoD, voutD, vclsOk, vids, mayWrite, V.ids, V.mids, vguard, callOf, vop, ev, cv, vbin, vint, isShift, isNilConst, vnil, isNilSlice, vload, vlen, newRow, vfill, vslice, entOf, vappend, srcOf, vcopy, vlookup, vupdate, mapOk, keyOf, intsOf, clsAt]
  refine Wr.draw (by kernel_rfl) ?_
  simp only [gos, if_true, if_false, ne_eq, eq_self, Nat.reduceLT, Nat.reduceEqDiff, Nat.reduceAdd, Nat.reduceMul, Nat.reduceLeDiff, Nat.reduceBEq, reduceCtorEq, reduceIte, Array.toList, ↓reduceIte, tt, vgo, vout, vgoD, voutD, vclsOk, vids, mayWrite, V.ids, V.mids, vguard, callOf, vop, ev, cv, vbin, vint, isShift, isNilConst, vnil, isNilSlice, vload, vlen, newRow, vfill, vslice, entOf, vappend, srcOf, vcopy, vlookup, vupdate, mapOk, keyOf, intsOf, clsAt]
  refine CD.pu (c_hour c hour) ?_ rfl (by simp only [V.into, intoL, cB_into, vB_into, cI_into, cR_into, cD_into, cS_into, vS_into, vI_into, vR_into, vD_into, cu_into, Bool.true_and, Bool.and_true])
  simp only [gos, if_true, if_false, ne_eq, eq_self, Nat.reduceLT, Nat.reduceEqDiff, Nat.reduceAdd, Nat.reduceMul, Nat.reduceLeDiff, Nat.reduceBEq, reduceCtorEq, reduceIte, Array.toList, ↓reduceIte, tt, vgo, vout, vgoD, voutD, vclsOk, vids, mayWrite, V.ids, V.mids, vguard, callOf, vop, ev, cv, vbin, vint, isShift, isNilConst, vnil, isNilSlice, vload, vlen, newRow, vfill, vslice, entOf, vappend, srcOf, vcopy, vlookup, vupdate, mapOk, keyOf, intsOf, clsAt]
  refine CD.pu (c_asked0 c hc (sIn hour 0 c.last)) ?_ rfl (by simp only [V.into, intoL, cB_into, vB_into, cI_into, cR_into, cD_into, cS_into, vS_into, vI_into, vR_into, vD_into, cu_into, Bool.true_and, Bool.and_true])
  by_cases h0 : sAsked c (sIn hour 0 c.last) = 0
  case neg =>
    have hb : (sAsked c (sIn hour 0 c.last) != 0) = true := by simp [h0]
    simp only [gos, if_true, if_false, ne_eq, eq_self, Nat.reduceLT, Nat.reduceEqDiff, Nat.reduceAdd, Nat.reduceMul, Nat.reduceLeDiff, Nat.reduceBEq, reduceCtorEq, reduceIte, Array.toList, ↓reduceIte, tt, vgo, vout, vgoD, voutD, vclsOk, vids, mayWrite, V.ids, V.mids, vguard, callOf, vop, ev, cv, vbin, vint, isShift, isNilConst, vnil, isNilSlice, vload, vlen, newRow, vfill, vslice, entOf, vappend, srcOf, vcopy, vlookup, vupdate, mapOk, keyOf, intsOf, clsAt, hb]
    subst hQ
    have hr : sSpareA c hour = (0, sAsked c (sIn hour 0 c.last)) := by simp [sSpareA, h0]
    rw [hr]
    exact FnPost.plain trivial (fun h2 e => by rfl) WkV.refl ⟨rfl, rfl⟩
  have A := askOk_of h0
  have hf := A.fine
  simp only [sIn, Bool.and_eq_true, decide_eq_true_eq] at hf
  have hl := A.k0.last
  have hb : (sAsked c (sIn hour 0 c.last) != 0) = false := by simp [h0]
  have hn : ((c.last + 1).toNat : Int) = c.last + 1 := by omega
  have hge : 0 ≤ c.last + 1 := by omega
  have hle : c.last + 1 ≤ 1000000 := by omega
  simp only [gos, if_true, if_false, ne_eq, eq_self, Nat.reduceLT, Nat.reduceEqDiff, Nat.reduceAdd, Nat.reduceMul, Nat.reduceLeDiff, Nat.reduceBEq, reduceCtorEq, reduceIte, Array.toList, ↓reduceIte, tt, vgo, vout, vgoD, voutD, vclsOk, vids, mayWrite, V.ids, V.mids, vguard, callOf, vop, ev, cv, vbin, vint, isShift, isNilConst, vnil, isNilSlice, vload, vlen, newRow, vfill, vslice, entOf, vappend, srcOf, vcopy, vlookup, vupdate, mapOk, keyOf, intsOf, clsAt, hb, askV, h0, i64_in (show -9223372036854775808 ≤ c.last + 1 by omega) (show c.last + 1 ≤ 9223372036854775807 by omega), hge, hle]
  refine W.loop tabOk mixed (fun a : Nat × Int => ([(1, vi hour), (6, .rop (wcs c (sTruth c) .any)), (8, .own 24 0 0 1 (c.last + 1).toNat), (9, vi (20 - (a.1 : Int)))], [(24, ⟨0, .row (cI (moreAt c hour a.2))⟩)])) (fun a => 21 - a.1)
    (fun a => a.1 ≤ 21 ∧ ∀ j, j < a.1 → decide (sWith c (sTruth c) (moreAt c hour (20 - (j : Nat))) = 1) = false) (0, 0) ⟨by simp, by intro j hj; simp at hj⟩ (Wk.heap (fun j => ?_) (by simp [subE, Env.get])) ?_
  · simp only [moreAt_zero]
    rw [← zeros_vi]
  rintro ⟨a, m⟩ ⟨ha, hno⟩
  simp only at ha hno ⊢
  by_cases hil : a < 21
  · have hc1 : decide (0 ≤ 20 - (a : Int)) = true := by rw [decide_eq_true_eq]; omega
    have hh1 : 0 ≤ hour := hf.1
    have hh2 : hour < ((c.last + 1).toNat : Int) := by omega
    have hh3 : hour.toNat + 1 ≤ (cI (moreAt c hour m)).length := by rw [cI_len, moreAt_len]; omega
    have hset : List.take hour.toNat (cI (moreAt c hour m)) ++ [vi (20 - (a : Int))] ++ List.drop (hour.toNat + 1) (cI (moreAt c hour m)) = cI (moreAt c hour (20 - (a : Int))) := by
      rw [cI_set _ (by rw [moreAt_len]; omega), moreAt_set]
    simp only [gos, if_true, if_false, ne_eq, eq_self, Nat.reduceLT, Nat.reduceEqDiff, Nat.reduceAdd, Nat.reduceMul, Nat.reduceLeDiff, Nat.reduceBEq, reduceCtorEq, reduceIte, Array.toList, ↓reduceIte, tt, vgo, vout, vgoD, voutD, vclsOk, vids, mayWrite, V.ids, V.mids, vguard, callOf, vop, ev, cv, vbin, vint, isShift, isNilConst, vnil, isNilSlice, vload, vlen, newRow, vfill, vslice, entOf, vappend, srcOf, vcopy, vlookup, vupdate, mapOk, keyOf, intsOf, clsAt, hc1, hh1, hh2, hh3, hset, Nat.zero_add, Nat.mul_one]
    have hmo := moreAt_le (c := c) (hour := hour) (n := 20 - (a : Int)) (by omega)
    have hml : ((moreAt c hour (20 - (a : Int))).length : Int) = c.last + 1 := by rw [moreAt_len]; omega
    have htk : List.take (c.last + 1).toNat (cI (moreAt c hour (20 - (a : Int)))) = cI (moreAt c hour (20 - (a : Int))) := List.take_of_length_le (by rw [cI_len]; omega)
    refine Cl.mk (Ev.lend 24 (ver := 0) (cs := cI (moreAt c hour (20 - (a : Int)))) (args' := [.rop (wcs c (sTruth c) .any), vI (moreAt c hour (20 - (a : Int)))]) rfl (cI_into _ _) rfl rfl ?_
      (c_with c (sTruth c) (moreAt c hour (20 - (a : Int))) (by have := A.len; omega) A.ok (by have := A.k0.want.1; omega) (by have := A.k0.want.1; omega) (with_b A.k0 hml hmo) fun s hs => with_ok A.k0 hml hmo (A.sc s hs)) (fun _ _ _ h => by simpa only [VR] using h) rfl (by simp only [V.into, intoL, cB_into, vB_into, cI_into, cR_into, cD_into, cS_into, vS_into, vI_into, vR_into, vD_into, cu_into, Bool.true_and, Bool.and_true, wc_any])) ?_
    · simp only [frzL, V.frz, wcs_frz, if_true, List.drop_zero, Nat.mul_one, htk, vI]
      rw [moreAt_len]
    rintro v h' ⟨rfl, rfl⟩
    by_cases hw : sWith c (sTruth c) (moreAt c hour (20 - (a : Int))) = 1
    · have hd : decide (sWith c (sTruth c) (moreAt c hour (20 - (a : Int))) = 1) = true := by simp [hw]
      simp only [gos, if_true, if_false, ne_eq, eq_self, Nat.reduceLT, Nat.reduceEqDiff, Nat.reduceAdd, Nat.reduceMul, Nat.reduceLeDiff, Nat.reduceBEq, reduceCtorEq, reduceIte, Array.toList, ↓reduceIte, tt, vgo, vout, vgoD, voutD, vclsOk, vids, mayWrite, V.ids, V.mids, vguard, callOf, vop, ev, cv, vbin, vint, isShift, isNilConst, vnil, isNilSlice, vload, vlen, newRow, vfill, vslice, entOf, vappend, srcOf, vcopy, vlookup, vupdate, mapOk, keyOf, intsOf, clsAt, hd]
      subst hQ
      have hr : sSpareA c hour = (20 - (a : Int), 0) := by rw [sSpareA, if_pos h0, find_range hil hd hno]
      rw [hr]
      exact FnPost.plain trivial (v := .tup [vi (20 - (a : Int)), vi 0]) (fun h2 e => by rfl) (WkV.pure rfl) ⟨rfl, rfl⟩
    · have hd : decide (sWith c (sTruth c) (moreAt c hour (20 - (a : Int))) = 1) = false := by simp [hw]
      simp only [gos, if_true, if_false, ne_eq, eq_self, Nat.reduceLT, Nat.reduceEqDiff, Nat.reduceAdd, Nat.reduceMul, Nat.reduceLeDiff, Nat.reduceBEq, reduceCtorEq, reduceIte, Array.toList, ↓reduceIte, tt, vgo, vout, vgoD, voutD, vclsOk, vids, mayWrite, V.ids, V.mids, vguard, callOf, vop, ev, cv, vbin, vint, isShift, isNilConst, vnil, isNilSlice, vload, vlen, newRow, vfill, vslice, entOf, vappend, srcOf, vcopy, vlookup, vupdate, mapOk, keyOf, intsOf, clsAt, hd]
      refine Nx.mk (a + 1, 20 - (a : Int)) (show 21 - (a + 1) < 21 - a by omega) ⟨by simp only; omega, fun j hj => ?_⟩ (Wk.env ?_)
      · rcases Nat.lt_succ_iff_lt_or_eq.1 hj with h | rfl
        · exact hno j h
        · exact hd
      · have e2 : (20 - (a : Int)) - 1 = 20 - ((a + 1 : Nat) : Int) := by omega
        rw [i64_in (show -9223372036854775808 ≤ 20 - (a : Int) - 1 by omega) (show 20 - (a : Int) - 1 ≤ 9223372036854775807 by omega), e2]
        simp [subE, Env.get]
  · have ha21 : a = 21 := by omega
    subst ha21
    have hc1 : decide (0 ≤ 20 - ((21 : Nat) : Int)) = false := by decide
    simp only [gos, if_true, if_false, ne_eq, eq_self, Nat.reduceLT, Nat.reduceEqDiff, Nat.reduceAdd, Nat.reduceMul, Nat.reduceLeDiff, Nat.reduceBEq, reduceCtorEq, reduceIte, Array.toList, ↓reduceIte, tt, vgo, vout, vgoD, voutD, vclsOk, vids, mayWrite, V.ids, V.mids, vguard, callOf, vop, ev, cv, vbin, vint, isShift, isNilConst, vnil, isNilSlice, vload, vlen, newRow, vfill, vslice, entOf, vappend, srcOf, vcopy, vlookup, vupdate, mapOk, keyOf, intsOf, clsAt, hc1]
    subst hQ
    have hr : sSpareA c hour = (0, 10) := by
      rw [sSpareA, if_pos h0, List.find?_eq_none.2]
      intro j hj
      rw [List.mem_range] at hj
      simp [hno j hj]
    rw [hr]
    exact FnPost.plain trivial (v := .tup [vi 0, vi 10]) (fun h2 e => by rfl) (WkV.pure rfl) ⟨rfl, rfl⟩
/-! ### Lacks -/
def sLacksA (c : Cu) : Int × Int :=
  if (sKeepsA c).2 = 0 then (if sIdx (fun v => v != 1) (sKeepsA c).1 < 0 then (0, 7) else (sIdx (fun v => v != 1) (sKeepsA c).1, 0)) else (0, (sKeepsA c).2)
theorem c_Lacks1 (n : Int) : Pu Try.prog (.fn 116 [] []) [vi n] (.bool (n != 1)) := by
  refine Ev.fn Try.func116 rfl rfl (Fn.body tabOk Try.func116 rfl (Nat.le_of_ble_eq_true rfl) (Ks.ok (fz := (fzn [])) (cl := (cln [])) tabOk mixed ?_))
  generalize hQ : FnPost tt Try.f116 _ _ = Q
  simp only [Try.f116, List.nil_append, List.append_nil, List.cons_append, argsEnv, Nat.reduceAdd]
  simp only [gos, if_true, if_false, ne_eq, eq_self, Nat.reduceLT, Nat.reduceEqDiff, Nat.reduceAdd, Nat.reduceMul, Nat.reduceLeDiff, Nat.reduceBEq, reduceCtorEq, reduceIte, Array.toList, ↓reduceIte, tt, vgo, vout, vgoD, voutD, vclsOk, vids, mayWrite, V.ids, V.mids, vguard, callOf, vop, ev, cv, vbin, vint, isShift, isNilConst, vnil, isNilSlice, vload, vlen, newRow, vfill, vslice, entOf, vappend, srcOf, vcopy, vlookup, vupdate, mapOk, keyOf, intsOf, clsAt]
  subst hQ
  exact FnPost.plain trivial (fun h2 e => by first | rfl | (simp only [Try.f116, vres, vresL, vres1, e _, gos, if_true, if_false, ne_eq, eq_self, Nat.reduceLT, Nat.reduceEqDiff, Nat.reduceAdd, Nat.reduceMul, Nat.reduceLeDiff, Nat.reduceBEq, reduceCtorEq, reduceIte, Array.toList, ↓reduceIte, tt, vgo, vout, vgoD, voutD, vclsOk, vids, mayWrite, V.ids, V.mids, vguard, callOf, vop, ev, cv, vbin, vint, isShift, isNilConst, vnil, isNilSlice, vload, vlen, newRow, vfill, vslice, entOf, vappend, srcOf, vcopy, vlookup, vupdate, mapOk, keyOf, intsOf, clsAt]; try rfl)) (WkV.pure (by simp only [V.into, intoL, cB_into, vB_into, cI_into, cR_into, cD_into, cS_into, vS_into, vI_into, vR_into, vD_into, cu_into, Bool.true_and, Bool.and_true])) ⟨rfl, rfl⟩
theorem keeps_len (c : Cu) : ((sKeepsA c).1.length : Int) ≤ 1000000 := by
  unfold sKeepsA
  split
  · rename_i h
    have := (askOk_of h).k0.last
    simp only [nI, List.length_map, List.length_range]; omega
  · simp
theorem c_Lacks (c : Cu) (hc : c.wf) : Pu Try.prog (.fn 70 [] []) [.agg c.cs] (.tup [vi (sLacksA c).1, vi (sLacksA c).2]) := by
  refine Ev.fn Try.func70 rfl rfl (Fn.body tabOk Try.func70 rfl (Nat.le_of_ble_eq_true rfl) (Ks.ok (fz := (fzn [])) (cl := (cln [])) tabOk mixed ?_))
  generalize hQ : FnPost tt Try.f70 _ _ = Q
  simp only [Try.f70, List.nil_append, List.append_nil, List.cons_append, argsEnv, Nat.reduceAdd]
  simp only [gos, if_true, if_false, ne_eq, eq_self, Nat.reduceLT, Nat.reduceEqDiff, Nat.reduceAdd, Nat.reduceMul, Nat.reduceLeDiff, Nat.reduceBEq, reduceCtorEq, reduceIte, Array.toList, ↓reduceIte, tt, vgo, vout, vgoD, voutD, vclsOk, vids, mayWrite, V.ids, V.mids, vguard, callOf, vop, ev, cv, vbin, vint, isShift, isNilConst, vnil, isNilSlice, vload, vlen, newRow, vfill, vslice, entOf, vappend, srcOf, vcopy, vlookup, vupdate, mapOk, keyOf, intsOf, clsAt]
  refine Cl.pu (c_Keeps c hc) ?_ rfl (by simp only [V.into, intoL, cB_into, vB_into, cI_into, cR_into, cD_into, cS_into, vS_into, vI_into, vR_into, vD_into, cu_into, Bool.true_and, Bool.and_true])
  by_cases h0 : (sKeepsA c).2 = 0
  case neg =>
    have hb : ((sKeepsA c).2 != 0) = true := by simp [h0]
    simp only [gos, if_true, if_false, ne_eq, eq_self, Nat.reduceLT, Nat.reduceEqDiff, Nat.reduceAdd, Nat.reduceMul, Nat.reduceLeDiff, Nat.reduceBEq, reduceCtorEq, reduceIte, Array.toList, ↓reduceIte, tt, vgo, vout, vgoD, voutD, vclsOk, vids, mayWrite, V.ids, V.mids, vguard, callOf, vop, ev, cv, vbin, vint, isShift, isNilConst, vnil, isNilSlice, vload, vlen, newRow, vfill, vslice, entOf, vappend, srcOf, vcopy, vlookup, vupdate, mapOk, keyOf, intsOf, clsAt, hb]
    subst hQ
    have hr : sLacksA c = (0, (sKeepsA c).2) := by rw [sLacksA, if_neg h0]
    rw [hr]
    exact FnPost.plain trivial (fun h2 e => by rfl) WkV.refl ⟨rfl, rfl⟩
  have hb : ((sKeepsA c).2 != 0) = false := by simp [h0]
  simp only [gos, if_true, if_false, ne_eq, eq_self, Nat.reduceLT, Nat.reduceEqDiff, Nat.reduceAdd, Nat.reduceMul, Nat.reduceLeDiff, Nat.reduceBEq, reduceCtorEq, reduceIte, Array.toList, ↓reduceIte, tt, vgo, vout, vgoD, voutD, vclsOk, vids, mayWrite, V.ids, V.mids, vguard, callOf, vop, ev, cv, vbin, vint, isShift, isNilConst, vnil, isNilSlice, vload, vlen, newRow, vfill, vslice, entOf, vappend, srcOf, vcopy, vlookup, vupdate, mapOk, keyOf, intsOf, clsAt, hb]
  refine Cl.pu (c_IndexFunc_int _ (fun v => v != 1) (sKeepsA c).1 (keeps_len c) rfl fun x _ => c_Lacks1 x) ?_ rfl (by simp only [V.into, intoL, cB_into, vB_into, cI_into, cR_into, cD_into, cS_into, vS_into, vI_into, vR_into, vD_into, cu_into, Bool.true_and, Bool.and_true])
  by_cases hi : sIdx (fun v => v != 1) (sKeepsA c).1 < 0
  · have hd : decide (sIdx (fun v => v != 1) (sKeepsA c).1 < 0) = true := by simp only [hi, decide_true]
    simp only [gos, if_true, if_false, ne_eq, eq_self, Nat.reduceLT, Nat.reduceEqDiff, Nat.reduceAdd, Nat.reduceMul, Nat.reduceLeDiff, Nat.reduceBEq, reduceCtorEq, reduceIte, Array.toList, ↓reduceIte, tt, vgo, vout, vgoD, voutD, vclsOk, vids, mayWrite, V.ids, V.mids, vguard, callOf, vop, ev, cv, vbin, vint, isShift, isNilConst, vnil, isNilSlice, vload, vlen, newRow, vfill, vslice, entOf, vappend, srcOf, vcopy, vlookup, vupdate, mapOk, keyOf, intsOf, clsAt, hi]
    subst hQ
    exact FnPost.plain trivial (fun h2 e => by first | rfl | (simp only [Try.f70, vres, vresL, vres1, e _, gos, if_true, if_false, ne_eq, eq_self, Nat.reduceLT, Nat.reduceEqDiff, Nat.reduceAdd, Nat.reduceMul, Nat.reduceLeDiff, Nat.reduceBEq, reduceCtorEq, reduceIte, Array.toList, ↓reduceIte, tt, vgo, vout, vgoD, voutD, vclsOk, vids, mayWrite, V.ids, V.mids, vguard, callOf, vop, ev, cv, vbin, vint, isShift, isNilConst, vnil, isNilSlice, vload, vlen, newRow, vfill, vslice, entOf, vappend, srcOf, vcopy, vlookup, vupdate, mapOk, keyOf, intsOf, clsAt]; try rfl)) (WkV.pure (by simp only [V.into, intoL, cB_into, vB_into, cI_into, cR_into, cD_into, cS_into, vS_into, vI_into, vR_into, vD_into, cu_into, Bool.true_and, Bool.and_true])) ⟨by rw [sLacksA, if_pos h0, if_pos hi], rfl⟩
  · simp only [gos, if_true, if_false, ne_eq, eq_self, Nat.reduceLT, Nat.reduceEqDiff, Nat.reduceAdd, Nat.reduceMul, Nat.reduceLeDiff, Nat.reduceBEq, reduceCtorEq, reduceIte, Array.toList, ↓reduceIte, tt, vgo, vout, vgoD, voutD, vclsOk, vids, mayWrite, V.ids, V.mids, vguard, callOf, vop, ev, cv, vbin, vint, isShift, isNilConst, vnil, isNilSlice, vload, vlen, newRow, vfill, vslice, entOf, vappend, srcOf, vcopy, vlookup, vupdate, mapOk, keyOf, intsOf, clsAt, hi]
    subst hQ
    exact FnPost.plain trivial (fun h2 e => by first | rfl | (simp only [Try.f70, vres, vresL, vres1, e _, gos, if_true, if_false, ne_eq, eq_self, Nat.reduceLT, Nat.reduceEqDiff, Nat.reduceAdd, Nat.reduceMul, Nat.reduceLeDiff, Nat.reduceBEq, reduceCtorEq, reduceIte, Array.toList, ↓reduceIte, tt, vgo, vout, vgoD, voutD, vclsOk, vids, mayWrite, V.ids, V.mids, vguard, callOf, vop, ev, cv, vbin, vint, isShift, isNilConst, vnil, isNilSlice, vload, vlen, newRow, vfill, vslice, entOf, vappend, srcOf, vcopy, vlookup, vupdate, mapOk, keyOf, intsOf, clsAt]; try rfl)) (WkV.pure (by simp only [V.into, intoL, cB_into, vB_into, cI_into, cR_into, cD_into, cS_into, vS_into, vI_into, vR_into, vD_into, cu_into, Bool.true_and, Bool.and_true])) ⟨by rw [sLacksA, if_pos h0, if_neg hi], rfl⟩
end Go.Vm
set_option linter.unusedVariables false
set_option linter.unusedSimpArgs false
set_option maxRecDepth 100000
namespace Go.Vm
open Go.Proofs
theorem c_askedN (c : Cu) (hc : c.wf) (fine : Bool) (h0 : sAsked c fine ≠ 0) : Ev Try.prog (.fn 79 [] []) [.agg c.cs, .bool fine] [] fun v h' => v = .tup [.nilp, vi (sAsked c fine)] ∧ h' = [] :=
  (c_asked c hc fine).mono fun v h' h => by
    rcases h with ⟨_, h1, h2⟩ | ⟨h, _⟩
    · exact ⟨h1, h2⟩
    · exact absurd h h0
theorem c_askedY (c : Cu) (hc : c.wf) (fine : Bool) (h0 : sAsked c fine = 0) : Ev Try.prog (.fn 79 [] []) [.agg c.cs, .bool fine] [] fun v h' => v = .tup [.rop (wcs c (sTruth c) (.mp 17)), vi 0] ∧ h' = [(17, ⟨0, .map []⟩)] :=
  (c_asked c hc fine).mono fun v h' h => by
    rcases h with ⟨h, _⟩ | ⟨_, h1, h2⟩
    · exact absurd h0 h
    · exact ⟨h1, h2⟩
/-- Whether coal is sure. -/
def sSureP (c : Cu) (coal : List Int) : Bool := (sTruth c).all fun s => sKept c coal c.want s
def sProveCoal (c : Cu) (coal : List Int) (many : Int) : Bool := decide (sAsked c (sIsCoal c coal) = 0) && (decide (sSum coal ≤ many) && sSureP c coal)
theorem coal_ok {c : Cu} {l : List Int} (h : sIsCoal c l = true) : (l.length : Int) = c.last + 1 ∧ ∀ x ∈ l, 0 ≤ x ∧ x ≤ c.shovels := by
  simp only [sIsCoal, sIn, Bool.and_eq_true, decide_eq_true_eq, List.all_eq_true] at h
  exact h
theorem coal_play {c : Cu} (k : CuOk c) {l : List Int} (h : (l.length : Int) = c.last + 1 ∧ ∀ x ∈ l, 0 ≤ x ∧ x ≤ c.shovels) {s : Sc} (hs : ScOk c s) : PlayOk c s l c.want :=
  k.play hs ⟨h.1, fun x hx => by have := h.2 x hx; have := k.shovels; omega⟩ ⟨k.want.1, fun x hx => by have := k.want.2 x hx; omega⟩
set_option maxHeartbeats 2000000 in
theorem c_ProveCoal (c : Cu) (hc : c.wf) (coal : List Int) (hm : (coal.length : Int) ≤ 1000000) (many : Int) : Pu Try.prog (.fn 65 [] []) [.agg c.cs, vI coal, vi many] (.bool (sProveCoal c coal many)) := by
  refine Ev.fn Try.func65 rfl rfl (Fn.body tabOk Try.func65 rfl (Nat.le_of_ble_eq_true rfl) (Ks.ok (fz := (fzn [])) (cl := (cln [(1, .d tg0 [cP, cP, cP, cP, none, cP, cP, cP, cP, cP])])) tabOk mixed ?_))
  generalize hQ : FnPost tt Try.f65 _ _ = Q
  simp only [Try.f65, List.nil_append, List.append_nil, List.cons_append, argsEnv, Nat.reduceAdd]
  simp only [gos, if_true, if_false, ne_eq, eq_self, Nat.reduceLT, Nat.reduceEqDiff, Nat.reduceAdd, Nat.reduceMul, Nat.reduceLeDiff, Nat.reduceBEq, reduceCtorEq, reduceIte, Array.toList, ↓reduceIte, tt, vgo, vout, vgoD, voutD, vclsOk, vids, mayWrite, V.ids, V.mids, vguard, callOf, vop, ev, cv, vbin, vint, isShift, isNilConst, vnil, isNilSlice, vload, vlen, newRow, vfill, vslice, entOf, vappend, srcOf, vcopy, vlookup, vupdate, mapOk, keyOf, intsOf, clsAt]
  refine Wr.draw (by kernel_rfl) ?_
  simp only [gos, if_true, if_false, ne_eq, eq_self, Nat.reduceLT, Nat.reduceEqDiff, Nat.reduceAdd, Nat.reduceMul, Nat.reduceLeDiff, Nat.reduceBEq, reduceCtorEq, reduceIte, Array.toList, ↓reduceIte, tt, vgo, vout, vgoD, voutD, vclsOk, vids, mayWrite, V.ids, V.mids, vguard, callOf, vop, ev, cv, vbin, vint, isShift, isNilConst, vnil, isNilSlice, vload, vlen, newRow, vfill, vslice, entOf, vappend, srcOf, vcopy, vlookup, vupdate, mapOk, keyOf, intsOf, clsAt]
  refine CD.pu (c_isCoal c coal hc.last hm) ?_ rfl (by simp only [V.into, intoL, cB_into, vB_into, cI_into, cR_into, cD_into, cS_into, vS_into, vI_into, vR_into, vD_into, cu_into, Bool.true_and, Bool.and_true])
  simp only [gos, if_true, if_false, ne_eq, eq_self, Nat.reduceLT, Nat.reduceEqDiff, Nat.reduceAdd, Nat.reduceMul, Nat.reduceLeDiff, Nat.reduceBEq, reduceCtorEq, reduceIte, Array.toList, ↓reduceIte, tt, vgo, vout, vgoD, voutD, vclsOk, vids, mayWrite, V.ids, V.mids, vguard, callOf, vop, ev, cv, vbin, vint, isShift, isNilConst, vnil, isNilSlice, vload, vlen, newRow, vfill, vslice, entOf, vappend, srcOf, vcopy, vlookup, vupdate, mapOk, keyOf, intsOf, clsAt]
  by_cases h0 : sAsked c (sIsCoal c coal) = 0
  case neg =>
    refine CD.ev _ _ (c_askedN c hc (sIsCoal c coal) h0) ?_
    simp only [gos, if_true, if_false, ne_eq, eq_self, Nat.reduceLT, Nat.reduceEqDiff, Nat.reduceAdd, Nat.reduceMul, Nat.reduceLeDiff, Nat.reduceBEq, reduceCtorEq, reduceIte, Array.toList, ↓reduceIte, tt, vgo, vout, vgoD, voutD, vclsOk, vids, mayWrite, V.ids, V.mids, vguard, callOf, vop, ev, cv, vbin, vint, isShift, isNilConst, vnil, isNilSlice, vload, vlen, newRow, vfill, vslice, entOf, vappend, srcOf, vcopy, vlookup, vupdate, mapOk, keyOf, intsOf, clsAt, h0]
    subst hQ
    exact FnPost.plain trivial (fun h2 e => by first | rfl | (simp only [Try.f65, vres, vresL, vres1, e _, gos, if_true, if_false, ne_eq, eq_self, Nat.reduceLT, Nat.reduceEqDiff, Nat.reduceAdd, Nat.reduceMul, Nat.reduceLeDiff, Nat.reduceBEq, reduceCtorEq, reduceIte, Array.toList, ↓reduceIte, tt, vgo, vout, vgoD, voutD, vclsOk, vids, mayWrite, V.ids, V.mids, vguard, callOf, vop, ev, cv, vbin, vint, isShift, isNilConst, vnil, isNilSlice, vload, vlen, newRow, vfill, vslice, entOf, vappend, srcOf, vcopy, vlookup, vupdate, mapOk, keyOf, intsOf, clsAt]; try rfl)) (WkV.pure (by simp only [V.into, intoL, cB_into, vB_into, cI_into, cR_into, cD_into, cS_into, vS_into, vI_into, vR_into, vD_into, cu_into, Bool.true_and, Bool.and_true])) ⟨by simp [sProveCoal, h0], rfl⟩
  have A := askOk_of h0
  have hp := coal_ok A.fine
  refine CD.ev _ _ (c_askedY c hc (sIsCoal c coal) h0) ?_
  simp only [gos, if_true, if_false, ne_eq, eq_self, Nat.reduceLT, Nat.reduceEqDiff, Nat.reduceAdd, Nat.reduceMul, Nat.reduceLeDiff, Nat.reduceBEq, reduceCtorEq, reduceIte, Array.toList, ↓reduceIte, tt, vgo, vout, vgoD, voutD, vclsOk, vids, mayWrite, V.ids, V.mids, vguard, callOf, vop, ev, cv, vbin, vint, isShift, isNilConst, vnil, isNilSlice, vload, vlen, newRow, vfill, vslice, entOf, vappend, srcOf, vcopy, vlookup, vupdate, mapOk, keyOf, intsOf, clsAt]
  refine Cl.pu (c_sum coal hm) ?_ rfl (by simp only [V.into, intoL, cB_into, vB_into, cI_into, cR_into, cD_into, cS_into, vS_into, vI_into, vR_into, vD_into, cu_into, Bool.true_and, Bool.and_true])
  by_cases h1 : sSum coal ≤ many
  case neg =>
    simp only [gos, if_true, if_false, ne_eq, eq_self, Nat.reduceLT, Nat.reduceEqDiff, Nat.reduceAdd, Nat.reduceMul, Nat.reduceLeDiff, Nat.reduceBEq, reduceCtorEq, reduceIte, Array.toList, ↓reduceIte, tt, vgo, vout, vgoD, voutD, vclsOk, vids, mayWrite, V.ids, V.mids, vguard, callOf, vop, ev, cv, vbin, vint, isShift, isNilConst, vnil, isNilSlice, vload, vlen, newRow, vfill, vslice, entOf, vappend, srcOf, vcopy, vlookup, vupdate, mapOk, keyOf, intsOf, clsAt, h1]
    subst hQ
    exact FnPost.plain trivial (v := .bool false) (fun h2 e => by rfl) (WkV.pure rfl) ⟨by simp [sProveCoal, h1], rfl⟩
  simp only [gos, if_true, if_false, ne_eq, eq_self, Nat.reduceLT, Nat.reduceEqDiff, Nat.reduceAdd, Nat.reduceMul, Nat.reduceLeDiff, Nat.reduceBEq, reduceCtorEq, reduceIte, Array.toList, ↓reduceIte, tt, vgo, vout, vgoD, voutD, vclsOk, vids, mayWrite, V.ids, V.mids, vguard, callOf, vop, ev, cv, vbin, vint, isShift, isNilConst, vnil, isNilSlice, vload, vlen, newRow, vfill, vslice, entOf, vappend, srcOf, vcopy, vlookup, vupdate, mapOk, keyOf, intsOf, clsAt, h1]
  refine Cl.mk (c_sure c (sTruth c) [] 17 (by decide) (by intro x hx; cases hx) coal A.ok (by have := A.len; omega) (by have := A.k0.last; omega) fun s hs => coal_play A.k0 hp (A.sc s hs)) ?_
  rintro v h' ⟨rfl, rfl⟩
  simp only [gos, if_true, if_false, ne_eq, eq_self, Nat.reduceLT, Nat.reduceEqDiff, Nat.reduceAdd, Nat.reduceMul, Nat.reduceLeDiff, Nat.reduceBEq, reduceCtorEq, reduceIte, Array.toList, ↓reduceIte, tt, vgo, vout, vgoD, voutD, vclsOk, vids, mayWrite, V.ids, V.mids, vguard, callOf, vop, ev, cv, vbin, vint, isShift, isNilConst, vnil, isNilSlice, vload, vlen, newRow, vfill, vslice, entOf, vappend, srcOf, vcopy, vlookup, vupdate, mapOk, keyOf, intsOf, clsAt]
  subst hQ
  have hr : sProveCoal c coal many = sSure c (sTruth c) [] coal := by simp [sProveCoal, h0, h1, sSureP, sSure, mget]
  rw [hr]
  exact FnPost.plain trivial (v := .bool (sSure c (sTruth c) [] coal)) (fun h2 e => by rfl) (WkV.pure rfl) ⟨rfl, rfl⟩
end Go.Vm
set_option linter.unusedVariables false
set_option linter.unusedSimpArgs false
set_option maxRecDepth 100000
namespace Go.Vm
open Go.Proofs
/-! ### the least coal -/
theorem findSome_some {α : Type} {f : Int → Option α} {lo hi : Int} {i : Nat} {l : α} (h : lo + (i : Int) ≤ hi) (hs : f (lo + i) = some l) (hn : ∀ j : Nat, j < i → f (lo + j) = none) : (rangeI lo hi).findSome? f = some l := by
  rw [← List.take_append_drop i (rangeI lo hi), List.findSome?_append]
  have e1 : ((rangeI lo hi).take i).findSome? f = none := by
    rw [List.findSome?_eq_none_iff]
    intro x hx
    obtain ⟨j, hj, rfl⟩ := List.mem_iff_getElem.1 hx
    rw [List.getElem_take]
    simp only [List.length_take] at hj
    have := rangeI_get (lo := lo) (hi := hi) (i := j) (by omega)
    rw [List.getElem?_eq_getElem (by omega)] at this
    injection this with this
    rw [this]; exact hn j (by omega)
  rw [e1, List.drop_eq_getElem?_toList_append, rangeI_get h]
  simp [hs]
theorem findSome_none {α : Type} {f : Int → Option α} {lo hi : Int} (hn : ∀ j : Nat, lo + (j : Int) ≤ hi → f (lo + j) = none) : (rangeI lo hi).findSome? f = none := by
  rw [List.findSome?_eq_none_iff]
  intro x hx
  simp only [rangeI, List.mem_map, List.mem_range] at hx
  obtain ⟨j, h1, rfl⟩ := hx
  exact hn j (by omega)
/-- The first coal, in their order, that begins so, has so many shovels more, and is sure. -/
def addF (c : Cu) (P : List Int → Bool) : Nat → List Int → Int → Option (List Int)
  | 0, coal, many => if many = 0 ∧ P coal = true then some coal else none
  | k + 1, coal, many => (rangeI 0 (min c.shovels many)).findSome? fun n => addF c P k (coal ++ [n]) (many - n)
structure MemoOk (c : Cu) (m : Memo) : Prop where
  ok : okM m
  is : ∀ x ∈ m, ∃ coal, (coal.length : Int) = c.last + 1 ∧ x.1 = pad5 coal ∧ x.2 = sSureP c coal
theorem mget_mem {key : List Int} {b : Bool} : ∀ {m : Memo}, mget key m = some b → (key, b) ∈ m
  | [], h => by simp [mget] at h
  | (k, x) :: r, h => by
    simp only [mget] at h
    split at h
    · rename_i hk; injection h with h; subst h; subst hk; simp
    · simp [mget_mem h]
theorem pad5_inj {a b : List Int} (h : a.length = b.length) (e : pad5 a = pad5 b) : a = b := by
  simp only [pad5] at e
  exact (List.append_inj e h).1
theorem memo_sure {c : Cu} {m : Memo} (M : MemoOk c m) {coal : List Int} (h : (coal.length : Int) = c.last + 1) : sSure c (sTruth c) m coal = sSureP c coal := by
  unfold sSure
  cases hg : mget (pad5 coal) m with
  | none => rfl
  | some b =>
    obtain ⟨d, h1, h2, h3⟩ := M.is _ (mget_mem hg)
    have := pad5_inj (by omega) h2
    subst this
    simp only at h3
    rw [h3]; rfl
theorem memo_step {c : Cu} {m : Memo} (M : MemoOk c m) {coal : List Int} (hl : c.last ≤ 4) (h : (coal.length : Int) = c.last + 1) : MemoOk c (sSureM c (sTruth c) m coal) := by
  unfold sSureM
  split
  · exact M
  · refine ⟨fun x hx => ?_, fun x hx => ?_⟩
    · simp only [List.mem_append, List.mem_singleton] at hx
      rcases hx with hx | rfl
      · exact M.ok x hx
      · simp [pad5]; omega
    · simp only [List.mem_append, List.mem_singleton] at hx
      rcases hx with hx | rfl
      · exact M.is x hx
      · exact ⟨coal, h, rfl, rfl⟩
def fV : Option (List Int) → V
  | none => .sl0
  | some l => vI l
def leastV (c : Cu) : V := .fn 112 [] [.rop c.cs, .ptr 6 0 0, .rop [.rop (wcs c (sTruth c) (.mp 17))], .ptr 70 0 0]
def leH (c : Cu) (m : Memo) (f : Option (List Int)) : Heap := [(17, ⟨0, .map (memoV m)⟩), (6, ⟨0, .row [fV f]⟩), (70, ⟨0, .row [leastV c]⟩)]
theorem fV_into (p : Nat → Bool) (f : Option (List Int)) : (fV f).into p = true := by
  cases f
  · rfl
  · exact vI_into p _
theorem fV_frz (i v : Nat) (cs : List V) (f : Option (List Int)) : (fV f).frz i v cs = fV f := by
  cases f
  · rfl
  · simp only [fV, vI, V.frz, cI_frz]
theorem on_fV {f : Option (List Int)} : V.one (fV f) = true := by cases f <;> rfl
theorem ce_fV {f : Option (List Int)} : V.cells? (fV f) = some [fV f] := by cases f <;> rfl
theorem cu_frz (i v : Nat) (cs : List V) (c : Cu) : frzL i v cs c.cs = c.cs := by
  simp only [Cu.cs, frzL, V.frz, vI, vR, vD, cI_frz, cR_frz, cD_frz]
theorem wcs_frz' (i v : Nat) (cs : List V) (c : Cu) (tr : List Sc) (m : V) : frzL i v cs (wcs c tr m) = wcs c tr (m.frz i v cs) := by
  simp only [wcs, frzL, V.frz, vI, vR, vD, vS, cI_frz, cR_frz, cD_frz, cS_frz]
theorem memo_frz (i v : Nat) (cs : List V) : ∀ m : Memo, frzPs i v cs (memoV m) = memoV m
  | [] => rfl
  | (k, b) :: r => by simp only [memoV, frzPs, V.frz, cI_frz, memo_frz i v cs r]
set_option maxHeartbeats 4000000 in
theorem c_add (c : Cu) (A : AskOk c true) : ∀ (k : Nat) (coal : List Int) (many : Int) (m : Memo) (f : Option (List Int)), (coal.length : Int) + k = c.last + 1 → (∀ x ∈ coal, 0 ≤ x ∧ x ≤ c.shovels) → 0 ≤ many ∧ many ≤ 1000 → MemoOk c m →
    Ev Try.prog (leastV c) [vI coal, vi many] (leH c m f) fun v h' => ∃ m' f', MemoOk c m' ∧ (∀ l, addF c (sSureP c) k coal many = some l → f' = some l) ∧ v = .bool (addF c (sSureP c) k coal many).isSome ∧ h' = leH c m' f'
  | 0, coal, many, m, f, hlen, hco, hmany, M => by
    have hl := A.k0.last
    have hlen' : (coal.length : Int) = c.last + 1 := by omega
    unfold leastV
    refine Ev.fn Try.func112 rfl rfl (Fn.body tabOk Try.func112 rfl (Nat.le_of_ble_eq_true rfl) (Ks.ok (fz := (fzn [])) (cl := (cln [])) tabOk mixed ?_))
    generalize hQ : FnPost tt Try.f112 _ _ = Q
    simp only [Try.f112, List.nil_append, List.append_nil, List.cons_append, argsEnv, Nat.reduceAdd]
    have hd : decide ((coal.length : Int) = c.last + 1) = true := by simp only [hlen', decide_true]
    simp only [gos, if_true, if_false, ne_eq, eq_self, Nat.reduceLT, Nat.reduceEqDiff, Nat.reduceAdd, Nat.reduceMul, Nat.reduceLeDiff, Nat.reduceBEq, reduceCtorEq, reduceIte, Array.toList, ↓reduceIte, tt, vgo, vout, vgoD, voutD, vclsOk, vids, mayWrite, V.ids, V.mids, vguard, callOf, vop, ev, cv, vbin, vint, isShift, isNilConst, vnil, isNilSlice, vload, vlen, newRow, vfill, vslice, entOf, vappend, srcOf, vcopy, vlookup, vupdate, mapOk, keyOf, intsOf, clsAt, vI, hd, i64_in (show -9223372036854775808 ≤ c.last + 1 by omega) (show c.last + 1 ≤ 9223372036854775807 by omega), leH]
    by_cases h0 : many = 0
    · have hd0 : decide (many = 0) = true := by simp only [h0, decide_true]
      simp only [gos, if_true, if_false, ne_eq, eq_self, Nat.reduceLT, Nat.reduceEqDiff, Nat.reduceAdd, Nat.reduceMul, Nat.reduceLeDiff, Nat.reduceBEq, reduceCtorEq, reduceIte, Array.toList, ↓reduceIte, tt, vgo, vout, vgoD, voutD, vclsOk, vids, mayWrite, V.ids, V.mids, vguard, callOf, vop, ev, cv, vbin, vint, isShift, isNilConst, vnil, isNilSlice, vload, vlen, newRow, vfill, vslice, entOf, vappend, srcOf, vcopy, vlookup, vupdate, mapOk, keyOf, intsOf, clsAt, vI, hd0]
      have hsub : ∀ (X : Memo) (i : Nat) (e : Ent), Heap.get [(17, ⟨0, .map (memoV X)⟩)] i = some e → Heap.get [(6, ⟨0, .row [vI coal]⟩), (70, ⟨0, .row [leastV c]⟩)] i = none := fun X i e he => by
        simp only [Heap.get] at he ⊢
        by_cases h17 : i = 17
        · subst h17; rfl
        · rw [if_neg h17] at he; cases he
      refine Cl.mk ((c_sure c (sTruth c) m 17 (by decide) M.ok coal A.ok (by have := A.len; omega) (by omega) fun s hs => coal_play A.k0 ⟨hlen', hco⟩ (A.sc s hs)).frame [(6, ⟨0, .row [vI coal]⟩), (70, ⟨0, .row [leastV c]⟩)] (hsub m) rfl ?_ ?_ ?_) ?_
      · simp only [V.into, intoL, cB_into, vB_into, cI_into, cR_into, cD_into, cS_into, vS_into, vI_into, vR_into, vD_into, cu_into, Bool.true_and, Bool.and_true]
        rw [wc_into _ _ _ _ (by rfl)]
      · simp only [intoH, Blk.into, memo_into, Bool.and_self]
      · rintro v h' ⟨_, rfl⟩
        exact hsub _
      rintro v h'' ⟨h', ⟨rfl, rfl⟩, rfl⟩
      simp only [gos, if_true, if_false, ne_eq, eq_self, Nat.reduceLT, Nat.reduceEqDiff, Nat.reduceAdd, Nat.reduceMul, Nat.reduceLeDiff, Nat.reduceBEq, reduceCtorEq, reduceIte, Array.toList, ↓reduceIte, tt, vgo, vout, vgoD, voutD, vclsOk, vids, mayWrite, V.ids, V.mids, vguard, callOf, vop, ev, cv, vbin, vint, isShift, isNilConst, vnil, isNilSlice, vload, vlen, newRow, vfill, vslice, entOf, vappend, srcOf, vcopy, vlookup, vupdate, mapOk, keyOf, intsOf, clsAt]
      subst hQ
      have hs := memo_sure M hlen'
      refine FnPost.plain trivial (v := .bool (sSure c (sTruth c) m coal)) (fun h2 e => by rfl) WkV.refl ⟨sSureM c (sTruth c) m coal, some coal, memo_step M (by omega) hlen', ?_, ?_, rfl⟩
      · intro l hl'
        simp only [addF] at hl'
        split at hl'
        · exact hl'
        · cases hl'
      · rw [hs]
        simp only [addF, h0, true_and]
        cases sSureP c coal <;> rfl
    · have hd0 : decide (many = 0) = false := by simp only [h0, decide_false]
      simp only [gos, if_true, if_false, ne_eq, eq_self, Nat.reduceLT, Nat.reduceEqDiff, Nat.reduceAdd, Nat.reduceMul, Nat.reduceLeDiff, Nat.reduceBEq, reduceCtorEq, reduceIte, Array.toList, ↓reduceIte, tt, vgo, vout, vgoD, voutD, vclsOk, vids, mayWrite, V.ids, V.mids, vguard, callOf, vop, ev, cv, vbin, vint, isShift, isNilConst, vnil, isNilSlice, vload, vlen, newRow, vfill, vslice, entOf, vappend, srcOf, vcopy, vlookup, vupdate, mapOk, keyOf, intsOf, clsAt, vI, hd0]
      subst hQ
      refine FnPost.plain trivial (v := .bool false) (fun h2 e => by rfl) WkV.refl ⟨m, some coal, M, ?_, ?_, rfl⟩
      · intro l hl'
        simp only [addF, h0, false_and, if_false] at hl'
        cases hl'
      · simp only [addF, h0, false_and, if_false]; rfl
  | k + 1, coal, many, m, f, hlen, hco, hmany, M => by
    have hl := A.k0.last
    have hsh := A.k0.shovels
    unfold leastV
    refine Ev.fn Try.func112 rfl rfl (Fn.body tabOk Try.func112 rfl (Nat.le_of_ble_eq_true rfl) (Ks.ok (fz := (fzn [])) (cl := (cln [(7, .ex)])) tabOk mixed ?_))
    generalize hQ : FnPost tt Try.f112 _ _ = Q
    simp only [Try.f112, List.nil_append, List.append_nil, List.cons_append, argsEnv, Nat.reduceAdd]
    have hd : decide ((coal.length : Int) = c.last + 1) = false := by rw [decide_eq_false_iff_not]; omega
    have hmin : 0 ≤ min c.shovels many ∧ min c.shovels many ≤ 3 := by omega
    simp only [gos, if_true, if_false, ne_eq, eq_self, Nat.reduceLT, Nat.reduceEqDiff, Nat.reduceAdd, Nat.reduceMul, Nat.reduceLeDiff, Nat.reduceBEq, reduceCtorEq, reduceIte, Array.toList, ↓reduceIte, tt, vgo, vout, vgoD, voutD, vclsOk, vids, mayWrite, V.ids, V.mids, vguard, callOf, vop, ev, cv, vbin, vint, isShift, isNilConst, vnil, isNilSlice, vload, vlen, newRow, vfill, vslice, entOf, vappend, srcOf, vcopy, vlookup, vupdate, mapOk, keyOf, intsOf, clsAt, vI, hd, i64_in (show -9223372036854775808 ≤ c.last + 1 by omega) (show c.last + 1 ≤ 9223372036854775807 by omega), leH]
    refine Cl.pu (c_min2 c.shovels many) ?_
    simp only [gos, if_true, if_false, ne_eq, eq_self, Nat.reduceLT, Nat.reduceEqDiff, Nat.reduceAdd, Nat.reduceMul, Nat.reduceLeDiff, Nat.reduceBEq, reduceCtorEq, reduceIte, Array.toList, ↓reduceIte, tt, vgo, vout, vgoD, voutD, vclsOk, vids, mayWrite, V.ids, V.mids, vguard, callOf, vop, ev, cv, vbin, vint, isShift, isNilConst, vnil, isNilSlice, vload, vlen, newRow, vfill, vslice, entOf, vappend, srcOf, vcopy, vlookup, vupdate, mapOk, keyOf, intsOf, clsAt, i64_in (show -9223372036854775808 ≤ min c.shovels many + 1 by omega) (show min c.shovels many + 1 ≤ 9223372036854775807 by omega)]
    refine W.loop tabOk mixed (fun a : Nat × Memo × Option (List Int) => ([(0, vI coal), (1, vi many), (2, .rop c.cs), (3, .ptr 6 0 0), (4, .rop [.rop (wcs c (sTruth c) (.mp 17))]), (5, .ptr 70 0 0), (29, vi (min c.shovels many + 1)), (30, vi a.1)], leH c a.2.1 a.2.2)) (fun a => (min c.shovels many + 1).toNat - a.1)
      (fun a => (a.1 : Int) ≤ min c.shovels many + 1 ∧ MemoOk c a.2.1 ∧ ∀ j : Nat, j < a.1 → addF c (sSureP c) k (coal ++ [(j : Int)]) (many - j) = none) (0, m, f) ⟨by simp only; omega, M, fun j hj => by simp at hj⟩ (Wk.env (by simp [subE, Env.get, vI])) ?_
    rintro ⟨i, m1, f1⟩ ⟨hi, M1, hno⟩
    simp only at hi M1 hno ⊢
    by_cases hil : (i : Int) < min c.shovels many + 1
    · simp only [gos, if_true, if_false, ne_eq, eq_self, Nat.reduceLT, Nat.reduceEqDiff, Nat.reduceAdd, Nat.reduceMul, Nat.reduceLeDiff, Nat.reduceBEq, reduceCtorEq, reduceIte, Array.toList, ↓reduceIte, tt, vgo, vout, vgoD, voutD, vclsOk, vids, mayWrite, V.ids, V.mids, vguard, callOf, vop, ev, cv, vbin, vint, isShift, isNilConst, vnil, isNilSlice, vload, vlen, newRow, vfill, vslice, entOf, vappend, srcOf, vcopy, vlookup, vupdate, mapOk, keyOf, intsOf, clsAt, hil]
      refine Wr.last tabOk mixed (tgL [(7, 1), (38, 1)]) [cL, cP, some ([1], [1]), cP, cP, some ([1], [1]), cP, cP, cP, none] _ (by kernel_rfl) (by kernel_rfl) rfl ?_
      simp only [gos, if_true, if_false, ne_eq, eq_self, Nat.reduceLT, Nat.reduceEqDiff, Nat.reduceAdd, Nat.reduceMul, Nat.reduceLeDiff, Nat.reduceBEq, reduceCtorEq, reduceIte, Array.toList, ↓reduceIte, tt, vgo, vout, vgoD, voutD, vclsOk, vids, mayWrite, V.ids, V.mids, vguard, callOf, vop, ev, cv, vbin, vint, isShift, isNilConst, vnil, isNilSlice, vload, vlen, newRow, vfill, vslice, entOf, vappend, srcOf, vcopy, vlookup, vupdate, mapOk, keyOf, intsOf, clsAt, leH, List.dropLast, List.getLast]
      refine CD.new (n_Clone coal (by omega)) rfl rfl rfl ?_
      have hcl : (cI coal).length = coal.length := cI_len coal
      have hcm : coal.length ≤ 999999 := by omega
      simp only [gos, if_true, if_false, ne_eq, eq_self, Nat.reduceLT, Nat.reduceEqDiff, Nat.reduceAdd, Nat.reduceMul, Nat.reduceLeDiff, Nat.reduceBEq, reduceCtorEq, reduceIte, Array.toList, ↓reduceIte, tt, vgo, vout, vgoD, voutD, vclsOk, vids, mayWrite, V.ids, V.mids, vguard, callOf, vop, ev, cv, vbin, vint, isShift, isNilConst, vnil, isNilSlice, vload, vlen, newRow, vfill, vslice, entOf, vappend, srcOf, vcopy, vlookup, vupdate, mapOk, keyOf, intsOf, clsAt, hcl, hcm, Nat.mul_one, i64_in (show -9223372036854775808 ≤ many - (i : Int) by omega) (show many - (i : Int) ≤ 9223372036854775807 by omega)]
      refine Wa.mk (Wk.freeze 7 (ver := 1) (cs := cI coal ++ [vi i]) (by rfl) (by rfl) (by rw [← cI_snoc]; exact cI_into _ _) (by rfl)) ?_
      rw [← cI_snoc]
      simp only [frzE, frzH, V.frz, frzL, Blk.frz, leastV, cu_frz, wcs_frz', memo_frz, fV_frz, vI, cI_frz, gos, if_true, if_false, ne_eq, eq_self, Nat.reduceLT, Nat.reduceEqDiff, Nat.reduceAdd, Nat.reduceMul, Nat.reduceLeDiff, Nat.reduceBEq, reduceCtorEq, reduceIte, Array.toList, ↓reduceIte, tt, vgo, vout, vgoD, voutD, vclsOk, vids, mayWrite, V.ids, V.mids, vguard, callOf, vop, ev, cv, vbin, vint, isShift, isNilConst, vnil, isNilSlice, vload, vlen, newRow, vfill, vslice, entOf, vappend, srcOf, vcopy, vlookup, vupdate, mapOk, keyOf, intsOf, clsAt]
      have hll : (coal ++ [(i : Int)]).length = coal.length + 1 := by simp
      have ht : List.take ((coal.length + 1) * 1) (cI (coal ++ [(i : Int)])) = cI (coal ++ [(i : Int)]) := List.take_of_length_le (by rw [cI_len, hll]; omega)
      rw [ht, show V.ro (coal.length + 1) (cI (coal ++ [(i : Int)])) = vI (coal ++ [(i : Int)]) by rw [vI, hll]]
      refine Cl.mk (c_add c A k (coal ++ [(i : Int)]) (many - i) m1 f1 (by rw [hll]; omega) ?_ (by omega) M1) ?_
      · intro x hx
        simp only [List.mem_append, List.mem_singleton] at hx
        rcases hx with hx | rfl
        · exact hco x hx
        · omega
      rintro v h' ⟨m2, f2, M2, hf2, rfl, rfl⟩
      cases hr : addF c (sSureP c) k (coal ++ [(i : Int)]) (many - i) with
      | some l =>
        simp only [gos, if_true, if_false, ne_eq, eq_self, Nat.reduceLT, Nat.reduceEqDiff, Nat.reduceAdd, Nat.reduceMul, Nat.reduceLeDiff, Nat.reduceBEq, reduceCtorEq, reduceIte, Array.toList, ↓reduceIte, tt, vgo, vout, vgoD, voutD, vclsOk, vids, mayWrite, V.ids, V.mids, vguard, callOf, vop, ev, cv, vbin, vint, isShift, isNilConst, vnil, isNilSlice, vload, vlen, newRow, vfill, vslice, entOf, vappend, srcOf, vcopy, vlookup, vupdate, mapOk, keyOf, intsOf, clsAt, Option.isSome_some]
        subst hQ
        have hrr : addF c (sSureP c) (k + 1) coal many = some l := by
          rw [addF]
          have e0 : ∀ n : Nat, (0 : Int) + n = n := fun n => by omega
          exact findSome_some (i := i) (by omega) (by rw [e0]; exact hr) (fun j hj => by rw [e0]; exact hno j hj)
        rw [hrr]
        exact FnPost.plain trivial (v := .bool true) (fun h2 e => by rfl) WkV.refl ⟨m2, f2, M2, fun l' e => by rw [hf2 l hr]; exact e, rfl, rfl⟩
      | none =>
        simp only [gos, if_true, if_false, ne_eq, eq_self, Nat.reduceLT, Nat.reduceEqDiff, Nat.reduceAdd, Nat.reduceMul, Nat.reduceLeDiff, Nat.reduceBEq, reduceCtorEq, reduceIte, Array.toList, ↓reduceIte, tt, vgo, vout, vgoD, voutD, vclsOk, vids, mayWrite, V.ids, V.mids, vguard, callOf, vop, ev, cv, vbin, vint, isShift, isNilConst, vnil, isNilSlice, vload, vlen, newRow, vfill, vslice, entOf, vappend, srcOf, vcopy, vlookup, vupdate, mapOk, keyOf, intsOf, clsAt, Option.isSome_none]
        refine Nx.mk (i + 1, m2, f2) (show (min c.shovels many + 1).toNat - (i + 1) < (min c.shovels many + 1).toNat - i by omega) ⟨by simp only; omega, M2, fun j hj => ?_⟩ (Wk.env ?_)
        · rcases Nat.lt_succ_iff_lt_or_eq.1 hj with h | rfl
          · exact hno j h
          · exact hr
        · simp [subE, Env.get, vI, i64_succ (show (i : Int) < 9223372036854775807 by omega)]
    · have hrr : addF c (sSureP c) (k + 1) coal many = none := by
        rw [addF]
        refine findSome_none fun j hj => ?_
        rw [Int.zero_add]
        exact hno j (by omega)
      simp only [gos, if_true, if_false, ne_eq, eq_self, Nat.reduceLT, Nat.reduceEqDiff, Nat.reduceAdd, Nat.reduceMul, Nat.reduceLeDiff, Nat.reduceBEq, reduceCtorEq, reduceIte, Array.toList, ↓reduceIte, tt, vgo, vout, vgoD, voutD, vclsOk, vids, mayWrite, V.ids, V.mids, vguard, callOf, vop, ev, cv, vbin, vint, isShift, isNilConst, vnil, isNilSlice, vload, vlen, newRow, vfill, vslice, entOf, vappend, srcOf, vcopy, vlookup, vupdate, mapOk, keyOf, intsOf, clsAt, hil]
      subst hQ
      rw [hrr]
      exact FnPost.plain trivial (v := .bool false) (fun h2 e => by rfl) WkV.refl ⟨m1, f1, M1, (fun l e => nomatch e), rfl, rfl⟩
end Go.Vm
set_option linter.unusedVariables false
set_option linter.unusedSimpArgs false
set_option maxRecDepth 100000
namespace Go.Vm
open Go.Proofs
theorem Ex.scope {P : Program} {b : Frame} {N : Nat} {p : Nat → Bool} {ρ : Env} {D : List Nat} {h : Heap} {Q : Xit → Env → List Nat → Heap → Prop} {c : Code} (e : Ex P b N p ρ D h c Q) : Ex P b N p ρ D h (.scope c) Q := by
  intro g w T Ds k cs h1 h2 h3
  obtain ⟨x', ρ1, D1, hp1, g1, w1, T1, Ds1, q, E1, d1, H1, t1, k1, a1⟩ := e g w T Ds (.inScope c :: k) cs h1 h2 h3
  cases x' with
  | normal => exact ⟨.normal, ρ1, D1, hp1, g1, w1, T1, Ds1, q, E1, d1, H1, t1, k1, ((Steps.one st_scope).trans a1).trans (.one st_inScope)⟩
  | exit id' =>
    obtain ⟨k2, s, ek⟩ := a1
    exact ⟨.exit id', ρ1, D1, hp1, g1, w1, T1, Ds1, q, E1, d1, H1, t1, k1, k2, (Steps.one st_scope).trans s, by rw [ek]; simp [exitTo]⟩
  | ret =>
    obtain ⟨k2, s⟩ := a1
    exact ⟨.ret, ρ1, D1, hp1, g1, w1, T1, Ds1, q, E1, d1, H1, t1, k1, k2, (Steps.one st_scope).trans s⟩
theorem W.scope {P : Program} {tt : Tab} {fz : Nat → Bool} {cl : Cl0} {b : Frame} {N : Nat} {p : Nat → Bool} {Q : Post} {k : List Itm} {ρ : Env} {D : List Nat} {h : Heap} (K : TabOk P tt) (hm : P.follows .mixedOrders = true) {c : Code} (w : W P tt fz cl b N p Q c k ρ D h) : W P tt fz cl b N p Q (.scope c) k ρ D h := Ex.scope (Wp.ok K hm c w)
theorem memo_nil (c : Cu) : MemoOk c [] := ⟨(by intro y hy; cases hy), (by intro y hy; cases hy)⟩
def leastF (c : Cu) : Option (List Int) := (rangeI 0 (c.shovels * (c.last + 1))).findSome? fun many => addF c (sSureP c) (c.last + 1).toNat [] many
def sLeastA (c : Cu) : List Int × Int :=
  if sAsked c true = 0 then (match leastF c with
    | some l => (l, 0)
    | none => ([], 10)) else ([], sAsked c true)
theorem wcs_ren (s : Nat → Nat) (c : Cu) (tr : List Sc) (m : V) : renL s (wcs c tr m) = wcs c tr (m.ren s) := by
  have hS : ∀ l : List Sc, renL s (cS l) = cS l := fun l => by
    induction l with
    | nil => rfl
    | cons x l ih =>
      have : ∀ a b : List V, renL s (a ++ b) = renL s a ++ renL s b := fun a b => by
        induction a with
        | nil => rfl
        | cons y a ih => simp only [List.cons_append, renL, ih]
      simp only [cS, renL, V.ren, this, cI_ren, ih]
  simp only [wcs, renL, V.ren, vI, vR, vD, vS, cI_ren, cR_ren, cD_ren, hS]
set_option maxHeartbeats 2000000 in
theorem c_Least (c : Cu) (hc : c.wf) : Pu Try.prog (.fn 64 [] []) [.agg c.cs] (.tup [vI (sLeastA c).1, vi (sLeastA c).2]) := by
  refine Ev.fn Try.func64 rfl rfl (Fn.body tabOk Try.func64 rfl (Nat.le_of_ble_eq_true rfl) (Ks.ok (fz := (fzn [4, 6, 7])) (cl := (cln [(6, .ex)])) tabOk mixed ?_))
  generalize hQ : FnPost tt Try.f64 _ _ = Q
  simp only [Try.f64, List.nil_append, List.append_nil, List.cons_append, argsEnv, Nat.reduceAdd]
  simp only [gos, if_true, if_false, ne_eq, eq_self, Nat.reduceLT, Nat.reduceEqDiff, Nat.reduceAdd, Nat.reduceMul, Nat.reduceLeDiff, Nat.reduceBEq, reduceCtorEq, reduceIte, Array.toList, ↓reduceIte, tt, vgo, vout, vgoD, voutD, vclsOk, vids, mayWrite, V.ids, V.mids, vguard, callOf, vop, ev, cv, vbin, vint, isShift, isNilConst, vnil, isNilSlice, vload, vlen, newRow, vfill, vslice, entOf, vappend, srcOf, vcopy, vlookup, vupdate, mapOk, keyOf, intsOf, clsAt]
  refine W.scope tabOk mixed ?_
  simp only [gos, if_true, if_false, ne_eq, eq_self, Nat.reduceLT, Nat.reduceEqDiff, Nat.reduceAdd, Nat.reduceMul, Nat.reduceLeDiff, Nat.reduceBEq, reduceCtorEq, reduceIte, Array.toList, ↓reduceIte, tt, vgo, vout, vgoD, voutD, vclsOk, vids, mayWrite, V.ids, V.mids, vguard, callOf, vop, ev, cv, vbin, vint, isShift, isNilConst, vnil, isNilSlice, vload, vlen, newRow, vfill, vslice, entOf, vappend, srcOf, vcopy, vlookup, vupdate, mapOk, keyOf, intsOf, clsAt]
  by_cases h0 : sAsked c true = 0
  case neg =>
    refine Cl.mk (c_askedN c hc true h0) ?_
    rintro v h' ⟨rfl, rfl⟩
    have hb : (sAsked c true != 0) = true := by simp [h0]
    simp only [gos, if_true, if_false, ne_eq, eq_self, Nat.reduceLT, Nat.reduceEqDiff, Nat.reduceAdd, Nat.reduceMul, Nat.reduceLeDiff, Nat.reduceBEq, reduceCtorEq, reduceIte, Array.toList, ↓reduceIte, tt, vgo, vout, vgoD, voutD, vclsOk, vids, mayWrite, V.ids, V.mids, vguard, callOf, vop, ev, cv, vbin, vint, isShift, isNilConst, vnil, isNilSlice, vload, vlen, newRow, vfill, vslice, entOf, vappend, srcOf, vcopy, vlookup, vupdate, mapOk, keyOf, intsOf, clsAt, hb]
    subst hQ
    have hr : sLeastA c = ([], sAsked c true) := by simp [sLeastA, h0]
    rw [hr]
    exact FnPost.plain trivial (v := .tup [.sl0, vi (sAsked c true)]) (fun h2 e => by rfl) (WkV.trans (WkV.pure rfl) WkV.nil1) ⟨rfl, rfl⟩
  refine Cl.mk (c_askedY c hc true h0) ?_
  rintro v h' ⟨rfl, rfl⟩
  have A := askOk_of h0
  have hl := A.k0.last
  have hsh := A.k0.shovels
  simp only [gos, if_true, if_false, ne_eq, eq_self, Nat.reduceLT, Nat.reduceEqDiff, Nat.reduceAdd, Nat.reduceMul, Nat.reduceLeDiff, Nat.reduceBEq, reduceCtorEq, reduceIte, Array.toList, ↓reduceIte, tt, vgo, vout, vgoD, voutD, vclsOk, vids, mayWrite, V.ids, V.mids, vguard, callOf, vop, ev, cv, vbin, vint, isShift, isNilConst, vnil, isNilSlice, vload, vlen, newRow, vfill, vslice, entOf, vappend, srcOf, vcopy, vlookup, vupdate, mapOk, keyOf, intsOf, clsAt]
  refine Wr.at tabOk 2 ?_
  simp only [gos, if_true, if_false, ne_eq, eq_self, Nat.reduceLT, Nat.reduceEqDiff, Nat.reduceAdd, Nat.reduceMul, Nat.reduceLeDiff, Nat.reduceBEq, reduceCtorEq, reduceIte, Array.toList, ↓reduceIte, tt, vgo, vout, vgoD, voutD, vclsOk, vids, mayWrite, V.ids, V.mids, vguard, callOf, vop, ev, cv, vbin, vint, isShift, isNilConst, vnil, isNilSlice, vload, vlen, newRow, vfill, vslice, entOf, vappend, srcOf, vcopy, vlookup, vupdate, mapOk, keyOf, intsOf, clsAt]
  refine Wa.mk (Wk.trans (Wk.freeze 4 rfl rfl (by simp only [intoL, V.into]; rw [wc_into _ _ _ _ (by rfl)]; rfl) rfl) (Wk.ren 7 70 rfl rfl)) ?_
  simp only [frzE, frzH, V.frz, frzL, Blk.frz, renE, renH, V.ren, renL, Blk.ren, sw, cu_frz, wcs_frz', cu_ren, wcs_ren, frzPs, renPs, gos, if_true, if_false, ne_eq, eq_self, Nat.reduceLT, Nat.reduceEqDiff, Nat.reduceAdd, Nat.reduceMul, Nat.reduceLeDiff, Nat.reduceBEq, reduceCtorEq, reduceIte, Array.toList, ↓reduceIte, tt, vgo, vout, vgoD, voutD, vclsOk, vids, mayWrite, V.ids, V.mids, vguard, callOf, vop, ev, cv, vbin, vint, isShift, isNilConst, vnil, isNilSlice, vload, vlen, newRow, vfill, vslice, entOf, vappend, srcOf, vcopy, vlookup, vupdate, mapOk, keyOf, intsOf, clsAt]
  have hX : 0 ≤ c.shovels * (c.last + 1) ∧ c.shovels * (c.last + 1) ≤ 15 := by
    have : c.shovels = 0 ∨ c.shovels = 1 ∨ c.shovels = 2 ∨ c.shovels = 3 := by omega
    rcases this with e | e | e | e <;> rw [e] <;> omega
  have hT : (((c.last + 1).toNat : Nat) : Int) = c.last + 1 := by omega
  rw [i64_in (show -9223372036854775808 ≤ c.last + 1 by omega) (show c.last + 1 ≤ 9223372036854775807 by omega)]
  generalize hx : c.shovels * (c.last + 1) = x at hX ⊢
  rw [i64_in (show -9223372036854775808 ≤ x by omega) (show x ≤ 9223372036854775807 by omega), i64_in (show -9223372036854775808 ≤ x + 1 by omega) (show x + 1 ≤ 9223372036854775807 by omega)]
  refine W.loop tabOk mixed (fun a : Nat × Memo × Option (List Int) => ([(1, .rop c.cs), (2, .sl0), (3, vi 0), (6, .ptr 6 0 0), (7, .ptr 70 0 0), (8, .bool false), (25, vi (x + 1)), (26, vi a.1)], leH c a.2.1 a.2.2)) (fun a => (x + 1).toNat - a.1)
    (fun a => (a.1 : Int) ≤ x + 1 ∧ MemoOk c a.2.1 ∧ ∀ j : Nat, j < a.1 → addF c (sSureP c) (c.last + 1).toNat [] (j : Int) = none) (0, [], none) ⟨by simp only; omega, memo_nil c, fun j hj => by simp at hj⟩ (Wk.env (by simp [subE, Env.get])) ?_
  rintro ⟨i, m1, f1⟩ ⟨hi, M1, hno⟩
  simp only at hi M1 hno ⊢
  by_cases hil : (i : Int) < x + 1
  · simp only [gos, if_true, if_false, ne_eq, eq_self, Nat.reduceLT, Nat.reduceEqDiff, Nat.reduceAdd, Nat.reduceMul, Nat.reduceLeDiff, Nat.reduceBEq, reduceCtorEq, reduceIte, Array.toList, ↓reduceIte, tt, vgo, vout, vgoD, voutD, vclsOk, vids, mayWrite, V.ids, V.mids, vguard, callOf, vop, ev, cv, vbin, vint, isShift, isNilConst, vnil, isNilSlice, vload, vlen, newRow, vfill, vslice, entOf, vappend, srcOf, vcopy, vlookup, vupdate, mapOk, keyOf, intsOf, clsAt, hil, leH]
    refine Cl.imp (cs := [vI [], vi i]) (ImpV.refl _) ⟨sl0_vI, ImpV.refl _, trivial⟩ (Cl.mk (c_add c A (c.last + 1).toNat [] i m1 f1 (by simp; omega) (by intro y hy; cases hy) (by omega) M1) ?_)
    rintro v h' ⟨m2, f2, M2, hf2, rfl, rfl⟩
    cases hr : addF c (sSureP c) (c.last + 1).toNat [] (i : Int) with
    | some l =>
      simp only [gos, if_true, if_false, ne_eq, eq_self, Nat.reduceLT, Nat.reduceEqDiff, Nat.reduceAdd, Nat.reduceMul, Nat.reduceLeDiff, Nat.reduceBEq, reduceCtorEq, reduceIte, Array.toList, ↓reduceIte, tt, vgo, vout, vgoD, voutD, vclsOk, vids, mayWrite, V.ids, V.mids, vguard, callOf, vop, ev, cv, vbin, vint, isShift, isNilConst, vnil, isNilSlice, vload, vlen, newRow, vfill, vslice, entOf, vappend, srcOf, vcopy, vlookup, vupdate, mapOk, keyOf, intsOf, clsAt, Option.isSome_some, hf2 l hr, leH, fV]
      subst hQ
      have hrr : leastF c = some l := by
        rw [leastF, hx]
        have e0 : ∀ n : Nat, (0 : Int) + n = n := fun n => by omega
        exact findSome_some (i := i) (by omega) (by rw [e0]; exact hr) (fun j hj => by rw [e0]; exact hno j hj)
      have hrs : sLeastA c = (l, 0) := by rw [sLeastA, if_pos h0, hrr]
      rw [hrs]
      exact FnPost.plain trivial (v := .tup [vI l, vi 0]) (fun h2 e => by rfl) (WkV.pure (by simp only [V.into, intoL, cB_into, vB_into, cI_into, cR_into, cD_into, cS_into, vS_into, vI_into, vR_into, vD_into, cu_into, Bool.true_and, Bool.and_true])) ⟨rfl, rfl⟩
    | none =>
      simp only [gos, if_true, if_false, ne_eq, eq_self, Nat.reduceLT, Nat.reduceEqDiff, Nat.reduceAdd, Nat.reduceMul, Nat.reduceLeDiff, Nat.reduceBEq, reduceCtorEq, reduceIte, Array.toList, ↓reduceIte, tt, vgo, vout, vgoD, voutD, vclsOk, vids, mayWrite, V.ids, V.mids, vguard, callOf, vop, ev, cv, vbin, vint, isShift, isNilConst, vnil, isNilSlice, vload, vlen, newRow, vfill, vslice, entOf, vappend, srcOf, vcopy, vlookup, vupdate, mapOk, keyOf, intsOf, clsAt, Option.isSome_none]
      refine Nx.mk (i + 1, m2, f2) (show (x + 1).toNat - (i + 1) < (x + 1).toNat - i by omega) ⟨by simp only; omega, M2, fun j hj => ?_⟩ (Wk.env ?_)
      · rcases Nat.lt_succ_iff_lt_or_eq.1 hj with h | rfl
        · exact hno j h
        · exact hr
      · simp [subE, Env.get, vI, i64_succ (show (i : Int) < 9223372036854775807 by omega)]
  · have hrr : leastF c = none := by
      rw [leastF, hx]
      refine findSome_none fun j hj => ?_
      rw [Int.zero_add]
      exact hno j (by omega)
    simp only [gos, if_true, if_false, ne_eq, eq_self, Nat.reduceLT, Nat.reduceEqDiff, Nat.reduceAdd, Nat.reduceMul, Nat.reduceLeDiff, Nat.reduceBEq, reduceCtorEq, reduceIte, Array.toList, ↓reduceIte, tt, vgo, vout, vgoD, voutD, vclsOk, vids, mayWrite, V.ids, V.mids, vguard, callOf, vop, ev, cv, vbin, vint, isShift, isNilConst, vnil, isNilSlice, vload, vlen, newRow, vfill, vslice, entOf, vappend, srcOf, vcopy, vlookup, vupdate, mapOk, keyOf, intsOf, clsAt, hil]
    subst hQ
    have hrs : sLeastA c = ([], 10) := by rw [sLeastA, if_pos h0, hrr]
    rw [hrs]
    exact FnPost.plain trivial (v := .tup [.sl0, vi 10]) (fun h2 e => by rfl) (WkV.trans (WkV.pure rfl) WkV.nil1) ⟨rfl, rfl⟩
end Go.Vm
set_option linter.unusedVariables false
set_option linter.unusedSimpArgs false
set_option maxRecDepth 100000
namespace Go.Vm
open Go.Proofs
/-- The coppers with their first readings alone. -/
def cut (c : Cu) (n : Nat) : Cu := { c with readings := c.readings.take n }
theorem cut_ok {c : Cu} (k : CuOk c) (n : Nat) : CuOk (cut c n) :=
  ⟨k.last, by have := k.rds; simp only [cut, List.length_take]; omega, k.most, k.start, k.per, k.shovels, k.coal, k.want, k.heat, k.loss, fun r hr => k.readings r (List.mem_of_mem_take hr), k.many⟩
theorem cut_cs (c : Cu) (n : Nat) : (cut c n).cs = [vi c.last, vi c.start, vi c.most, vi c.per, vi c.shovels, vI c.coal, vI c.want, vi c.heat.lo, vi c.heat.hi, vR c.loss, vD (c.readings.take n)] := rfl
def sPoss (c : Cu) (out : List Int) : Bool := (truths c).any fun s => sRight c s out
def sFirstA (c : Cu) : Int × Int :=
  if sCheck c = 0 then (match (List.range c.readings.length).find? fun i => !(sPoss (cut c (i + 1)) []) with
    | some i => (i, 0)
    | none => (0, 7)) else (0, sCheck c)
theorem cD_take : ∀ (l : List Rd) (n : Nat), (cD l).take (n * 3) = cD (l.take n)
  | l, 0 => by simp [cD]
  | [], n + 1 => by simp [cD]
  | r :: l, n + 1 => by rw [show (n + 1) * 3 = n * 3 + 1 + 1 + 1 by omega]; simp [cD, cD_take l n]
theorem cu_one (c : Cu) : oneL c.cs = true := rfl
def cuR (c : Cu) (r : List Rd) : Cu := { c with readings := r }
set_option maxHeartbeats 2000000 in
theorem c_First (c : Cu) (hc : c.wf) : Pu Try.prog (.fn 36 [] []) [.agg c.cs] (.tup [vi (sFirstA c).1, vi (sFirstA c).2]) := by
  refine Ev.fn Try.func36 rfl rfl (Fn.body tabOk Try.func36 rfl (Nat.le_of_ble_eq_true rfl) (Ks.ok (fz := (fzn [5])) (cl := (cln [])) tabOk mixed ?_))
  generalize hQ : FnPost tt Try.f36 _ _ = Q
  simp only [Try.f36, List.nil_append, List.append_nil, List.cons_append, argsEnv, Nat.reduceAdd]
  simp only [gos, if_true, if_false, ne_eq, eq_self, Nat.reduceLT, Nat.reduceEqDiff, Nat.reduceAdd, Nat.reduceMul, Nat.reduceLeDiff, Nat.reduceBEq, reduceCtorEq, reduceIte, Array.toList, ↓reduceIte, tt, vgo, vout, vgoD, voutD, vclsOk, vids, mayWrite, V.ids, V.mids, vguard, callOf, vop, ev, cv, vbin, vint, isShift, isNilConst, vnil, isNilSlice, vload, vlen, newRow, vfill, vslice, entOf, vappend, srcOf, vcopy, vlookup, vupdate, mapOk, keyOf, intsOf, clsAt]
  refine Cl.pu (c_Check c hc) ?_ rfl (by simp only [V.into, intoL, cB_into, vB_into, cI_into, cR_into, cD_into, cS_into, vS_into, vI_into, vR_into, vD_into, cu_into, Bool.true_and, Bool.and_true])
  by_cases h0 : sCheck c = 0
  case neg =>
    have hb : (sCheck c != 0) = true := by simp [h0]
    simp only [gos, if_true, if_false, ne_eq, eq_self, Nat.reduceLT, Nat.reduceEqDiff, Nat.reduceAdd, Nat.reduceMul, Nat.reduceLeDiff, Nat.reduceBEq, reduceCtorEq, reduceIte, Array.toList, ↓reduceIte, tt, vgo, vout, vgoD, voutD, vclsOk, vids, mayWrite, V.ids, V.mids, vguard, callOf, vop, ev, cv, vbin, vint, isShift, isNilConst, vnil, isNilSlice, vload, vlen, newRow, vfill, vslice, entOf, vappend, srcOf, vcopy, vlookup, vupdate, mapOk, keyOf, intsOf, clsAt, hb]
    subst hQ
    exact FnPost.plain trivial (fun h2 e => by first | rfl | (simp only [Try.f36, vres, vresL, vres1, e _, gos, if_true, if_false, ne_eq, eq_self, Nat.reduceLT, Nat.reduceEqDiff, Nat.reduceAdd, Nat.reduceMul, Nat.reduceLeDiff, Nat.reduceBEq, reduceCtorEq, reduceIte, Array.toList, ↓reduceIte, tt, vgo, vout, vgoD, voutD, vclsOk, vids, mayWrite, V.ids, V.mids, vguard, callOf, vop, ev, cv, vbin, vint, isShift, isNilConst, vnil, isNilSlice, vload, vlen, newRow, vfill, vslice, entOf, vappend, srcOf, vcopy, vlookup, vupdate, mapOk, keyOf, intsOf, clsAt]; try rfl)) (WkV.pure (by simp only [V.into, intoL, cB_into, vB_into, cI_into, cR_into, cD_into, cS_into, vS_into, vI_into, vR_into, vD_into, cu_into, Bool.true_and, Bool.and_true])) ⟨by simp [sFirstA, h0], rfl⟩
  have hb : (sCheck c != 0) = false := by simp [h0]
  have k0 := sCheck_ok h0
  have hrd := k0.rds
  simp only [gos, if_true, if_false, ne_eq, eq_self, Nat.reduceLT, Nat.reduceEqDiff, Nat.reduceAdd, Nat.reduceMul, Nat.reduceLeDiff, Nat.reduceBEq, reduceCtorEq, reduceIte, Array.toList, ↓reduceIte, tt, vgo, vout, vgoD, voutD, vclsOk, vids, mayWrite, V.ids, V.mids, vguard, callOf, vop, ev, cv, vbin, vint, isShift, isNilConst, vnil, isNilSlice, vload, vlen, newRow, vfill, vslice, entOf, vappend, srcOf, vcopy, vlookup, vupdate, mapOk, keyOf, intsOf, clsAt, hb, cu_one, vD]
  refine W.loop tabOk mixed (fun a : Nat × List Rd => ([(1, .rop c.cs), (5, .ptr 5 0 0), (15, vi c.readings.length), (16, vi a.1)], [(5, ⟨0, .row (cuR c a.2).cs⟩)])) (fun a => c.readings.length - a.1)
    (fun a => a.1 ≤ c.readings.length ∧ ∀ j, j < a.1 → (!(sPoss (cut c (j + 1)) [])) = false) (0, c.readings) ⟨by simp, fun j hj => by simp at hj⟩ (Wk.env (by simp [subE, Env.get])) ?_
  rintro ⟨i, r⟩ ⟨hi, hno⟩
  simp only at hi hno ⊢
  by_cases hil : (i : Int) < c.readings.length
  · have h1 : 0 ≤ (i : Int) + 1 := by omega
    have h2 : (i : Int) + 1 ≤ c.readings.length := by omega
    have h3 : ((i : Int) + 1).toNat = i + 1 := by omega
    simp only [gos, if_true, if_false, ne_eq, eq_self, Nat.reduceLT, Nat.reduceEqDiff, Nat.reduceAdd, Nat.reduceMul, Nat.reduceLeDiff, Nat.reduceBEq, reduceCtorEq, reduceIte, Array.toList, ↓reduceIte, tt, vgo, vout, vgoD, voutD, vclsOk, vids, mayWrite, V.ids, V.mids, vguard, callOf, vop, ev, cv, vbin, vint, isShift, isNilConst, vnil, isNilSlice, vload, vlen, newRow, vfill, vslice, entOf, vappend, srcOf, vcopy, vlookup, vupdate, mapOk, keyOf, intsOf, clsAt, vD, hil, i64_in (show -9223372036854775808 ≤ (i : Int) + 1 by omega) (show (i : Int) + 1 ≤ 9223372036854775807 by omega), h1, h2, h3, cuR, Cu.cs]
    have hv : V.ro (i + 1) (List.take ((i + 1) * 3) (cD c.readings)) = vD (c.readings.take (i + 1)) := by
      rw [cD_take, vD, List.length_take, Nat.min_eq_left (by omega)]
    rw [hv]
    refine Cl.imp (cs := [.agg (cut c (i + 1)).cs, vI []]) (ImpV.refl _) ⟨ImpV.refl _, sl0_vI, trivial⟩ (Cl.pu (c_possible (cut c (i + 1)) (cut_ok k0 (i + 1)) (cut_ok k0 (i + 1)).wf [] (by simp)) ?_ rfl (by simp only [V.into, intoL, cB_into, vB_into, cI_into, cR_into, cD_into, cS_into, vS_into, vI_into, vR_into, vD_into, cu_into, Bool.true_and, Bool.and_true]))
    rw [show ((truths (cut c (i + 1))).any fun s => sRight (cut c (i + 1)) s []) = sPoss (cut c (i + 1)) [] from rfl]
    cases hp : sPoss (cut c (i + 1)) [] with
    | true =>
      simp only [gos, if_true, if_false, ne_eq, eq_self, Nat.reduceLT, Nat.reduceEqDiff, Nat.reduceAdd, Nat.reduceMul, Nat.reduceLeDiff, Nat.reduceBEq, reduceCtorEq, reduceIte, Array.toList, ↓reduceIte, tt, vgo, vout, vgoD, voutD, vclsOk, vids, mayWrite, V.ids, V.mids, vguard, callOf, vop, ev, cv, vbin, vint, isShift, isNilConst, vnil, isNilSlice, vload, vlen, newRow, vfill, vslice, entOf, vappend, srcOf, vcopy, vlookup, vupdate, mapOk, keyOf, intsOf, clsAt]
      refine Nx.mk (i + 1, c.readings.take (i + 1)) (show c.readings.length - (i + 1) < c.readings.length - i by omega) ⟨by simp only; omega, fun j hj => ?_⟩ (Wk.env ?_)
      · rcases Nat.lt_succ_iff_lt_or_eq.1 hj with h | rfl
        · exact hno j h
        · rw [hp]; rfl
      · simp [subE, Env.get, Cu.cs, vD, i64_succ (show (i : Int) < 9223372036854775807 by omega)]
    | false =>
      simp only [gos, if_true, if_false, ne_eq, eq_self, Nat.reduceLT, Nat.reduceEqDiff, Nat.reduceAdd, Nat.reduceMul, Nat.reduceLeDiff, Nat.reduceBEq, reduceCtorEq, reduceIte, Array.toList, ↓reduceIte, tt, vgo, vout, vgoD, voutD, vclsOk, vids, mayWrite, V.ids, V.mids, vguard, callOf, vop, ev, cv, vbin, vint, isShift, isNilConst, vnil, isNilSlice, vload, vlen, newRow, vfill, vslice, entOf, vappend, srcOf, vcopy, vlookup, vupdate, mapOk, keyOf, intsOf, clsAt]
      subst hQ
      have hr : sFirstA c = ((i : Int), 0) := by
        rw [sFirstA, if_pos h0, find_range (a := i) (by omega) (by rw [hp]; rfl) hno]
      rw [hr]
      exact FnPost.plain trivial (v := .tup [vi i, vi 0]) (fun h2 e => by rfl) (WkV.pure rfl) ⟨rfl, rfl⟩
  · have hie : i = c.readings.length := by omega
    simp only [gos, if_true, if_false, ne_eq, eq_self, Nat.reduceLT, Nat.reduceEqDiff, Nat.reduceAdd, Nat.reduceMul, Nat.reduceLeDiff, Nat.reduceBEq, reduceCtorEq, reduceIte, Array.toList, ↓reduceIte, tt, vgo, vout, vgoD, voutD, vclsOk, vids, mayWrite, V.ids, V.mids, vguard, callOf, vop, ev, cv, vbin, vint, isShift, isNilConst, vnil, isNilSlice, vload, vlen, newRow, vfill, vslice, entOf, vappend, srcOf, vcopy, vlookup, vupdate, mapOk, keyOf, intsOf, clsAt, hil]
    subst hQ
    have hr : sFirstA c = (0, 7) := by
      rw [sFirstA, if_pos h0, List.find?_eq_none.2]
      intro j hj
      rw [List.mem_range] at hj
      rw [hno j (by omega)]; simp
    rw [hr]
    exact FnPost.plain trivial (v := .tup [vi 0, vi 7]) (fun h2 e => by rfl) (WkV.pure rfl) ⟨rfl, rfl⟩
end Go.Vm
set_option linter.unusedVariables false
set_option linter.unusedSimpArgs false
set_option maxRecDepth 100000
namespace Go.Vm
open Go.Proofs
/-! ### the smallest set -/
def leaveF (c : Cu) : Nat → List Int → Int → Option (List Int)
  | 0, out, _ => if sPoss c out = true then some out else none
  | m + 1, out, first => (rangeI first (c.readings.length - ((m + 1 : Nat) : Int))).findSome? fun i => leaveF c m (out ++ [i]) (i + 1)
def leaveV (c : Cu) : V := .fn 91 [] [.ptr 5 0 0, .rop c.cs, .ptr 6 0 0]
def lvH (c : Cu) (f : Option (List Int)) : Heap := [(5, ⟨0, .row [fV f]⟩), (6, ⟨0, .row [leaveV c]⟩)]
set_option maxHeartbeats 4000000 in
theorem c_leave (c : Cu) (k0 : CuOk c) : ∀ (m : Nat) (out : List Int) (first : Int) (f : Option (List Int)), out.length + m ≤ c.readings.length → 0 ≤ first ∧ first ≤ 100 →
    Ev Try.prog (leaveV c) [vI out, vi first, vi m] (lvH c f) fun v h' => ∃ f', (∀ l, leaveF c m out first = some l → f' = some l) ∧ v = .bool (leaveF c m out first).isSome ∧ h' = lvH c f'
  | 0, out, first, f, hlen, hfi => by
    have hrd := k0.rds
    unfold leaveV
    refine Ev.fn Try.func91 rfl rfl (Fn.body tabOk Try.func91 rfl (Nat.le_of_ble_eq_true rfl) (Ks.ok (fz := (fzn [])) (cl := (cln [])) tabOk mixed ?_))
    generalize hQ : FnPost tt Try.f91 _ _ = Q
    simp only [Try.f91, List.nil_append, List.append_nil, List.cons_append, argsEnv, Nat.reduceAdd]
    have hd0 : decide (((0 : Nat) : Int) = 0) = true := rfl
    simp only [gos, if_true, if_false, ne_eq, eq_self, Nat.reduceLT, Nat.reduceEqDiff, Nat.reduceAdd, Nat.reduceMul, Nat.reduceLeDiff, Nat.reduceBEq, reduceCtorEq, reduceIte, Array.toList, ↓reduceIte, tt, vgo, vout, vgoD, voutD, vclsOk, vids, mayWrite, V.ids, V.mids, vguard, callOf, vop, ev, cv, vbin, vint, isShift, isNilConst, vnil, isNilSlice, vload, vlen, newRow, vfill, vslice, entOf, vappend, srcOf, vcopy, vlookup, vupdate, mapOk, keyOf, intsOf, clsAt, vI, hd0, lvH]
    refine Cl.pu (c_possible c k0 k0.wf out (by omega)) ?_ rfl (by simp only [V.into, intoL, cB_into, vB_into, cI_into, cR_into, cD_into, cS_into, vS_into, vI_into, vR_into, vD_into, cu_into, Bool.true_and, Bool.and_true])
    rw [show ((truths c).any fun s => sRight c s out) = sPoss c out from rfl]
    simp only [gos, if_true, if_false, ne_eq, eq_self, Nat.reduceLT, Nat.reduceEqDiff, Nat.reduceAdd, Nat.reduceMul, Nat.reduceLeDiff, Nat.reduceBEq, reduceCtorEq, reduceIte, Array.toList, ↓reduceIte, tt, vgo, vout, vgoD, voutD, vclsOk, vids, mayWrite, V.ids, V.mids, vguard, callOf, vop, ev, cv, vbin, vint, isShift, isNilConst, vnil, isNilSlice, vload, vlen, newRow, vfill, vslice, entOf, vappend, srcOf, vcopy, vlookup, vupdate, mapOk, keyOf, intsOf, clsAt]
    subst hQ
    refine FnPost.plain trivial (v := .bool (sPoss c out)) (fun h2 e => by rfl) WkV.refl ⟨some out, ?_, ?_, rfl⟩
    · intro l hl
      simp only [leaveF] at hl
      split at hl
      · exact hl
      · cases hl
    · simp only [leaveF]
      cases sPoss c out <;> rfl
  | m + 1, out, first, f, hlen, hfi => by
    have hrd := k0.rds
    unfold leaveV
    refine Ev.fn Try.func91 rfl rfl (Fn.body tabOk Try.func91 rfl (Nat.le_of_ble_eq_true rfl) (Ks.ok (fz := (fzn [])) (cl := (cln [(7, .ex)])) tabOk mixed ?_))
    generalize hQ : FnPost tt Try.f91 _ _ = Q
    simp only [Try.f91, List.nil_append, List.append_nil, List.cons_append, argsEnv, Nat.reduceAdd]
    have hd0 : decide (((m + 1 : Nat) : Int) = 0) = false := by rw [decide_eq_false_iff_not]; omega
    simp only [gos, if_true, if_false, ne_eq, eq_self, Nat.reduceLT, Nat.reduceEqDiff, Nat.reduceAdd, Nat.reduceMul, Nat.reduceLeDiff, Nat.reduceBEq, reduceCtorEq, reduceIte, Array.toList, ↓reduceIte, tt, vgo, vout, vgoD, voutD, vclsOk, vids, mayWrite, V.ids, V.mids, vguard, callOf, vop, ev, cv, vbin, vint, isShift, isNilConst, vnil, isNilSlice, vload, vlen, newRow, vfill, vslice, entOf, vappend, srcOf, vcopy, vlookup, vupdate, mapOk, keyOf, intsOf, clsAt, vI, hd0, lvH]
    refine W.loop tabOk mixed (fun a : Nat × Option (List Int) => ([(0, vI out), (2, vi (m + 1 : Nat)), (3, .ptr 5 0 0), (4, .rop c.cs), (5, .ptr 6 0 0), (10, vi (first + a.1))], lvH c a.2)) (fun a => 10 - a.1)
      (fun a => (a.1 = 0 ∨ first + (a.1 : Int) ≤ c.readings.length - ((m + 1 : Nat) : Int) + 1) ∧ ∀ j : Nat, j < a.1 → leaveF c m (out ++ [first + (j : Int)]) (first + j + 1) = none) (0, f) ⟨.inl rfl, fun j hj => by simp at hj⟩ (Wk.env (by simp [subE, Env.get, vI])) ?_
    rintro ⟨i, f1⟩ ⟨hi, hno⟩
    simp only at hi hno ⊢
    have hsub := i64_in (show -9223372036854775808 ≤ (c.readings.length : Int) - ((m + 1 : Nat) : Int) by omega) (show (c.readings.length : Int) - ((m + 1 : Nat) : Int) ≤ 9223372036854775807 by omega)
    by_cases hil : first + (i : Int) ≤ c.readings.length - ((m + 1 : Nat) : Int)
    · simp only [gos, if_true, if_false, ne_eq, eq_self, Nat.reduceLT, Nat.reduceEqDiff, Nat.reduceAdd, Nat.reduceMul, Nat.reduceLeDiff, Nat.reduceBEq, reduceCtorEq, reduceIte, Array.toList, ↓reduceIte, tt, vgo, vout, vgoD, voutD, vclsOk, vids, mayWrite, V.ids, V.mids, vguard, callOf, vop, ev, cv, vbin, vint, isShift, isNilConst, vnil, isNilSlice, vload, vlen, newRow, vfill, vslice, entOf, vappend, srcOf, vcopy, vlookup, vupdate, mapOk, keyOf, intsOf, clsAt, vD, hsub, hil]
      refine Wr.last tabOk mixed (tgL [(7, 1), (32, 1)]) [cL, cP, some ([1], [1]), cP, cP, some ([1], [1]), cP, cP, cP, cP, none] _ (by kernel_rfl) (by kernel_rfl) rfl ?_
      simp only [gos, if_true, if_false, ne_eq, eq_self, Nat.reduceLT, Nat.reduceEqDiff, Nat.reduceAdd, Nat.reduceMul, Nat.reduceLeDiff, Nat.reduceBEq, reduceCtorEq, reduceIte, Array.toList, ↓reduceIte, tt, vgo, vout, vgoD, voutD, vclsOk, vids, mayWrite, V.ids, V.mids, vguard, callOf, vop, ev, cv, vbin, vint, isShift, isNilConst, vnil, isNilSlice, vload, vlen, newRow, vfill, vslice, entOf, vappend, srcOf, vcopy, vlookup, vupdate, mapOk, keyOf, intsOf, clsAt, lvH, List.dropLast, List.getLast]
      refine CD.new (n_Clone out (by omega)) rfl rfl rfl ?_
      have hcl : (cI out).length = out.length := cI_len out
      have hcm : out.length ≤ 999999 := by omega
      have hm1 : ((m + 1 : Nat) : Int) - 1 = (m : Int) := by omega
      simp only [gos, if_true, if_false, ne_eq, eq_self, Nat.reduceLT, Nat.reduceEqDiff, Nat.reduceAdd, Nat.reduceMul, Nat.reduceLeDiff, Nat.reduceBEq, reduceCtorEq, reduceIte, Array.toList, ↓reduceIte, tt, vgo, vout, vgoD, voutD, vclsOk, vids, mayWrite, V.ids, V.mids, vguard, callOf, vop, ev, cv, vbin, vint, isShift, isNilConst, vnil, isNilSlice, vload, vlen, newRow, vfill, vslice, entOf, vappend, srcOf, vcopy, vlookup, vupdate, mapOk, keyOf, intsOf, clsAt, hcl, hcm, Nat.mul_one, i64_in (show -9223372036854775808 ≤ first + (i : Int) + 1 by omega) (show first + (i : Int) + 1 ≤ 9223372036854775807 by omega), hm1, i64_in (show -9223372036854775808 ≤ (m : Int) by omega) (show (m : Int) ≤ 9223372036854775807 by omega)]
      refine Wa.mk (Wk.freeze 7 (ver := 1) (cs := cI out ++ [vi (first + i)]) rfl rfl (by rw [← cI_snoc]; exact cI_into _ _) rfl) ?_
      rw [← cI_snoc]
      simp only [frzE, frzH, V.frz, frzL, Blk.frz, leaveV, cu_frz, fV_frz, vI, cI_frz, gos, if_true, if_false, ne_eq, eq_self, Nat.reduceLT, Nat.reduceEqDiff, Nat.reduceAdd, Nat.reduceMul, Nat.reduceLeDiff, Nat.reduceBEq, reduceCtorEq, reduceIte, Array.toList, ↓reduceIte, tt, vgo, vout, vgoD, voutD, vclsOk, vids, mayWrite, V.ids, V.mids, vguard, callOf, vop, ev, cv, vbin, vint, isShift, isNilConst, vnil, isNilSlice, vload, vlen, newRow, vfill, vslice, entOf, vappend, srcOf, vcopy, vlookup, vupdate, mapOk, keyOf, intsOf, clsAt]
      have hll : (out ++ [first + (i : Int)]).length = out.length + 1 := by simp
      have ht : List.take ((out.length + 1) * 1) (cI (out ++ [first + (i : Int)])) = cI (out ++ [first + (i : Int)]) := List.take_of_length_le (by rw [cI_len, hll]; omega)
      rw [ht, show V.ro (out.length + 1) (cI (out ++ [first + (i : Int)])) = vI (out ++ [first + (i : Int)]) by rw [vI, hll]]
      refine Cl.mk (c_leave c k0 m (out ++ [first + (i : Int)]) (first + i + 1) f1 (by rw [hll]; omega) (by omega)) ?_
      rintro v h' ⟨f2, hf2, rfl, rfl⟩
      cases hr : leaveF c m (out ++ [first + (i : Int)]) (first + i + 1) with
      | some l =>
        simp only [gos, if_true, if_false, ne_eq, eq_self, Nat.reduceLT, Nat.reduceEqDiff, Nat.reduceAdd, Nat.reduceMul, Nat.reduceLeDiff, Nat.reduceBEq, reduceCtorEq, reduceIte, Array.toList, ↓reduceIte, tt, vgo, vout, vgoD, voutD, vclsOk, vids, mayWrite, V.ids, V.mids, vguard, callOf, vop, ev, cv, vbin, vint, isShift, isNilConst, vnil, isNilSlice, vload, vlen, newRow, vfill, vslice, entOf, vappend, srcOf, vcopy, vlookup, vupdate, mapOk, keyOf, intsOf, clsAt, Option.isSome_some]
        subst hQ
        have hrr : leaveF c (m + 1) out first = some l := by
          rw [leaveF]
          exact findSome_some (i := i) hil hr hno
        rw [hrr]
        exact FnPost.plain trivial (v := .bool true) (fun h2 e => by rfl) WkV.refl ⟨f2, fun l' e => by rw [hf2 l hr]; exact e, rfl, rfl⟩
      | none =>
        simp only [gos, if_true, if_false, ne_eq, eq_self, Nat.reduceLT, Nat.reduceEqDiff, Nat.reduceAdd, Nat.reduceMul, Nat.reduceLeDiff, Nat.reduceBEq, reduceCtorEq, reduceIte, Array.toList, ↓reduceIte, tt, vgo, vout, vgoD, voutD, vclsOk, vids, mayWrite, V.ids, V.mids, vguard, callOf, vop, ev, cv, vbin, vint, isShift, isNilConst, vnil, isNilSlice, vload, vlen, newRow, vfill, vslice, entOf, vappend, srcOf, vcopy, vlookup, vupdate, mapOk, keyOf, intsOf, clsAt, Option.isSome_none]
        refine Nx.mk (i + 1, f2) (show 10 - (i + 1) < 10 - i by omega) ⟨.inr (by simp only; omega), fun j hj => ?_⟩ (Wk.env ?_)
        · rcases Nat.lt_succ_iff_lt_or_eq.1 hj with h | rfl
          · exact hno j h
          · exact hr
        · have hw : IntKind.i64.wrap (first + ((i : Int) + 1)) = first + ((i : Int) + 1) := i64_in (by omega) (by omega)
          simp [subE, Env.get, vI, Int.add_assoc, hw]
    · have hrr : leaveF c (m + 1) out first = none := by
        rw [leaveF]
        exact findSome_none fun j hj => hno j (by omega)
      simp only [gos, if_true, if_false, ne_eq, eq_self, Nat.reduceLT, Nat.reduceEqDiff, Nat.reduceAdd, Nat.reduceMul, Nat.reduceLeDiff, Nat.reduceBEq, reduceCtorEq, reduceIte, Array.toList, ↓reduceIte, tt, vgo, vout, vgoD, voutD, vclsOk, vids, mayWrite, V.ids, V.mids, vguard, callOf, vop, ev, cv, vbin, vint, isShift, isNilConst, vnil, isNilSlice, vload, vlen, newRow, vfill, vslice, entOf, vappend, srcOf, vcopy, vlookup, vupdate, mapOk, keyOf, intsOf, clsAt, vD, hsub, hil]
      subst hQ
      rw [hrr]
      exact FnPost.plain trivial (v := .bool false) (fun h2 e => by rfl) WkV.refl ⟨f1, (fun l e => nomatch e), rfl, rfl⟩
theorem genH_ne (c : Cu) (k0 : CuOk c) : ∀ (k hour : Nat) (ls : List Int), hour + k ≤ c.loss.length → genH c k hour ls ≠ []
  | 0, hour, ls, _ => by simp [genH]
  | k + 1, hour, ls, h => by
    have hll : (hour : Int) < c.loss.length := by omega
    have hin := k0.loss.2 _ (List.mem_of_getElem? (gR_get hll))
    simp only [sInside, Bool.and_eq_true, decide_eq_true_eq] at hin
    have h1 := genH_ne c k0 k (hour + 1) (ls.set hour (gR c.loss hour).lo) (by omega)
    obtain ⟨x, hx⟩ := List.exists_mem_of_ne_nil _ h1
    refine List.ne_nil_of_mem (a := x) ?_
    simp only [genH, List.mem_flatMap]
    refine ⟨(gR c.loss hour).lo, ?_, hx⟩
    simp only [rangeI, List.mem_map, List.mem_range]
    exact ⟨0, by omega, by simp⟩
theorem truths_ne {c : Cu} (k0 : CuOk c) : truths c ≠ [] := by
  have hh := k0.heat
  simp only [sInside, Bool.and_eq_true, decide_eq_true_eq] at hh
  obtain ⟨x, hx⟩ := List.exists_mem_of_ne_nil _ (genH_ne c k0 (c.last + 1).toNat 0 zL (by have := k0.loss.1; omega))
  refine List.ne_nil_of_mem (a := (⟨c.heat.lo, x⟩ : Sc)) ?_
  simp only [truths, List.mem_flatMap, List.mem_map]
  refine ⟨c.heat.lo, ?_, x, hx, rfl⟩
  simp only [rangeI, List.mem_map, List.mem_range]
  exact ⟨0, by omega, by simp⟩
/-- The first n numbers. -/
def upto (n : Nat) : List Int := (List.range n).map fun (i : Nat) => (i : Int)
theorem leave_all {c : Cu} (k0 : CuOk c) : ∀ (m i : Nat), i + m = c.readings.length → (leaveF c m (upto i) i).isSome = true
  | 0, i, h => by
    have hp : sPoss c (upto i) = true := by
      obtain ⟨x, hx⟩ := List.exists_mem_of_ne_nil _ (truths_ne k0)
      rw [sPoss, List.any_eq_true]
      refine ⟨x, hx, sRight_true fun j hj => ?_⟩
      have : (upto i).any (fun y => decide ((j : Int) = y)) = true := by
        rw [List.any_eq_true]
        exact ⟨(j : Int), by simp only [upto, List.mem_map, List.mem_range]; exact ⟨j, by omega, rfl⟩, by simp⟩
      simp [sRead1, this]
    simp [leaveF, hp]
  | m + 1, i, h => by
    have ih := leave_all k0 m (i + 1) (by omega)
    rw [leaveF, Option.isSome_iff_exists]
    obtain ⟨l, hl⟩ := Option.isSome_iff_exists.1 ih
    have e : upto (i + 1) = upto i ++ [(i : Int)] := by simp [upto, List.range_succ]
    refine ⟨l, findSome_some (i := 0) (by omega) ?_ fun j hj => by omega⟩
    rw [← hl, e]
    simp
def leaveAll (c : Cu) : Option (List Int) := (rangeI 0 c.readings.length).findSome? fun many => leaveF c many.toNat [] 0
theorem leaveAll_some {c : Cu} (k0 : CuOk c) : ∃ l, leaveAll c = some l := by
  have h := leave_all k0 c.readings.length 0 (by omega)
  cases hc : leaveAll c with
  | some l => exact ⟨l, rfl⟩
  | none =>
    exfalso
    rw [leaveAll, List.findSome?_eq_none_iff] at hc
    have := hc (c.readings.length : Int) (by simp only [rangeI, List.mem_map, List.mem_range]; exact ⟨c.readings.length, by omega, by omega⟩)
    rw [Int.toNat_natCast] at this
    have e : upto 0 = [] := rfl
    rw [e] at h
    simp [this] at h
def sLeaveA (c : Cu) : List Int × Int := if sCheck c = 0 then ((leaveAll c).getD [], 0) else ([], sCheck c)
set_option maxHeartbeats 2000000 in
theorem c_Leave (c : Cu) (hc : c.wf) : Pu Try.prog (.fn 37 [] []) [.agg c.cs] (.tup [vI (sLeaveA c).1, vi (sLeaveA c).2]) := by
  refine Ev.fn Try.func37 rfl rfl (Fn.body tabOk Try.func37 rfl (Nat.le_of_ble_eq_true rfl) (Ks.ok (fz := (fzn [5, 6])) (cl := (cln [])) tabOk mixed ?_))
  generalize hQ : FnPost tt Try.f37 _ _ = Q
  simp only [Try.f37, List.nil_append, List.append_nil, List.cons_append, argsEnv, Nat.reduceAdd]
  simp only [gos, if_true, if_false, ne_eq, eq_self, Nat.reduceLT, Nat.reduceEqDiff, Nat.reduceAdd, Nat.reduceMul, Nat.reduceLeDiff, Nat.reduceBEq, reduceCtorEq, reduceIte, Array.toList, ↓reduceIte, tt, vgo, vout, vgoD, voutD, vclsOk, vids, mayWrite, V.ids, V.mids, vguard, callOf, vop, ev, cv, vbin, vint, isShift, isNilConst, vnil, isNilSlice, vload, vlen, newRow, vfill, vslice, entOf, vappend, srcOf, vcopy, vlookup, vupdate, mapOk, keyOf, intsOf, clsAt]
  refine Cl.pu (c_Check c hc) ?_ rfl (by simp only [V.into, intoL, cB_into, vB_into, cI_into, cR_into, cD_into, cS_into, vS_into, vI_into, vR_into, vD_into, cu_into, Bool.true_and, Bool.and_true])
  by_cases h0 : sCheck c = 0
  case neg =>
    have hb : (sCheck c != 0) = true := by simp [h0]
    simp only [gos, if_true, if_false, ne_eq, eq_self, Nat.reduceLT, Nat.reduceEqDiff, Nat.reduceAdd, Nat.reduceMul, Nat.reduceLeDiff, Nat.reduceBEq, reduceCtorEq, reduceIte, Array.toList, ↓reduceIte, tt, vgo, vout, vgoD, voutD, vclsOk, vids, mayWrite, V.ids, V.mids, vguard, callOf, vop, ev, cv, vbin, vint, isShift, isNilConst, vnil, isNilSlice, vload, vlen, newRow, vfill, vslice, entOf, vappend, srcOf, vcopy, vlookup, vupdate, mapOk, keyOf, intsOf, clsAt, hb]
    subst hQ
    have hr : sLeaveA c = ([], sCheck c) := by simp [sLeaveA, h0]
    rw [hr]
    exact FnPost.plain trivial (v := .tup [.sl0, vi (sCheck c)]) (fun h2 e => by rfl) WkV.nil1 ⟨rfl, rfl⟩
  have hb : (sCheck c != 0) = false := by simp [h0]
  have k0 := sCheck_ok h0
  have hrd := k0.rds
  simp only [gos, if_true, if_false, ne_eq, eq_self, Nat.reduceLT, Nat.reduceEqDiff, Nat.reduceAdd, Nat.reduceMul, Nat.reduceLeDiff, Nat.reduceBEq, reduceCtorEq, reduceIte, Array.toList, ↓reduceIte, tt, vgo, vout, vgoD, voutD, vclsOk, vids, mayWrite, V.ids, V.mids, vguard, callOf, vop, ev, cv, vbin, vint, isShift, isNilConst, vnil, isNilSlice, vload, vlen, newRow, vfill, vslice, entOf, vappend, srcOf, vcopy, vlookup, vupdate, mapOk, keyOf, intsOf, clsAt, hb, vD, i64_in (show -9223372036854775808 ≤ (c.readings.length : Int) + 1 by omega) (show (c.readings.length : Int) + 1 ≤ 9223372036854775807 by omega)]
  refine W.loop tabOk mixed (fun a : Nat × Option (List Int) => ([(1, .rop c.cs), (5, .ptr 5 0 0), (6, .ptr 6 0 0), (17, vi ((c.readings.length : Int) + 1)), (18, vi a.1)], lvH c a.2)) (fun a => c.readings.length + 1 - a.1)
    (fun a => a.1 ≤ c.readings.length + 1 ∧ ∀ j : Nat, j < a.1 → leaveF c j [] 0 = none) (0, none) ⟨by simp, fun j hj => by simp at hj⟩ (Wk.env (by simp [subE, Env.get])) ?_
  rintro ⟨i, f1⟩ ⟨hi, hno⟩
  simp only at hi hno ⊢
  by_cases hil : (i : Int) < (c.readings.length : Int) + 1
  · simp only [gos, if_true, if_false, ne_eq, eq_self, Nat.reduceLT, Nat.reduceEqDiff, Nat.reduceAdd, Nat.reduceMul, Nat.reduceLeDiff, Nat.reduceBEq, reduceCtorEq, reduceIte, Array.toList, ↓reduceIte, tt, vgo, vout, vgoD, voutD, vclsOk, vids, mayWrite, V.ids, V.mids, vguard, callOf, vop, ev, cv, vbin, vint, isShift, isNilConst, vnil, isNilSlice, vload, vlen, newRow, vfill, vslice, entOf, vappend, srcOf, vcopy, vlookup, vupdate, mapOk, keyOf, intsOf, clsAt, hil, lvH]
    refine Cl.imp (cs := [vI [], vi 0, vi i]) (ImpV.refl _) ⟨sl0_vI, ImpV.refl _, ImpV.refl _, trivial⟩ (Cl.mk (c_leave c k0 i [] 0 f1 (by simp; omega) (by omega)) ?_)
    rintro v h' ⟨f2, hf2, rfl, rfl⟩
    cases hr : leaveF c i [] 0 with
    | some l =>
      simp only [gos, if_true, if_false, ne_eq, eq_self, Nat.reduceLT, Nat.reduceEqDiff, Nat.reduceAdd, Nat.reduceMul, Nat.reduceLeDiff, Nat.reduceBEq, reduceCtorEq, reduceIte, Array.toList, ↓reduceIte, tt, vgo, vout, vgoD, voutD, vclsOk, vids, mayWrite, V.ids, V.mids, vguard, callOf, vop, ev, cv, vbin, vint, isShift, isNilConst, vnil, isNilSlice, vload, vlen, newRow, vfill, vslice, entOf, vappend, srcOf, vcopy, vlookup, vupdate, mapOk, keyOf, intsOf, clsAt, Option.isSome_some, hf2 l hr, lvH, fV]
      subst hQ
      have hrr : leaveAll c = some l := by
        rw [leaveAll]
        have e0 : ∀ n : Nat, ((0 : Int) + n).toNat = n := fun n => by omega
        exact findSome_some (i := i) (by omega) (by rw [e0]; exact hr) (fun j hj => by rw [e0]; exact hno j hj)
      have hrs : sLeaveA c = (l, 0) := by rw [sLeaveA, if_pos h0, hrr]; rfl
      rw [hrs]
      exact FnPost.plain trivial (v := .tup [vI l, vi 0]) (fun h2 e => by rfl) (WkV.pure (by simp only [V.into, intoL, cB_into, vB_into, cI_into, cR_into, cD_into, cS_into, vS_into, vI_into, vR_into, vD_into, cu_into, Bool.true_and, Bool.and_true])) ⟨rfl, rfl⟩
    | none =>
      simp only [gos, if_true, if_false, ne_eq, eq_self, Nat.reduceLT, Nat.reduceEqDiff, Nat.reduceAdd, Nat.reduceMul, Nat.reduceLeDiff, Nat.reduceBEq, reduceCtorEq, reduceIte, Array.toList, ↓reduceIte, tt, vgo, vout, vgoD, voutD, vclsOk, vids, mayWrite, V.ids, V.mids, vguard, callOf, vop, ev, cv, vbin, vint, isShift, isNilConst, vnil, isNilSlice, vload, vlen, newRow, vfill, vslice, entOf, vappend, srcOf, vcopy, vlookup, vupdate, mapOk, keyOf, intsOf, clsAt, Option.isSome_none]
      refine Nx.mk (i + 1, f2) (show c.readings.length + 1 - (i + 1) < c.readings.length + 1 - i by omega) ⟨by simp only; omega, fun j hj => ?_⟩ (Wk.env ?_)
      · rcases Nat.lt_succ_iff_lt_or_eq.1 hj with h | rfl
        · exact hno j h
        · exact hr
      · simp [subE, Env.get, i64_succ (show (i : Int) < 9223372036854775807 by omega)]
  · exfalso
    obtain ⟨l, hl⟩ := leaveAll_some k0
    have : leaveAll c = none := by
      rw [leaveAll]
      refine findSome_none fun j hj => ?_
      rw [show ((0 : Int) + (j : Int)).toNat = j by omega]
      exact hno j (by omega)
    rw [hl] at this
    cases this
end Go.Vm
set_option linter.unusedVariables false
set_option linter.unusedSimpArgs false
set_option maxRecDepth 100000
namespace Go.Vm
open Go.Proofs
/-! ### the reference: what is valid -/
theorem c_rIn (a b c : Int) : Pu Try.prog (.fn 32 [] []) [vi a, vi b, vi c] (.bool (sIn a b c)) := by
  refine Ev.fn Try.func32 rfl rfl (Fn.body tabOk Try.func32 rfl (Nat.le_of_ble_eq_true rfl) (Ks.ok (fz := (fzn [])) (cl := (cln [])) tabOk mixed ?_))
  generalize hQ : FnPost tt Try.f32 _ _ = Q
  simp only [Try.f32, List.nil_append, List.append_nil, List.cons_append, argsEnv, Nat.reduceAdd]
  by_cases h : b ≤ a
  · simp only [gos, if_true, if_false, ne_eq, eq_self, Nat.reduceLT, Nat.reduceEqDiff, Nat.reduceAdd, Nat.reduceMul, Nat.reduceLeDiff, Nat.reduceBEq, reduceCtorEq, reduceIte, Array.toList, ↓reduceIte, tt, vgo, vout, vgoD, voutD, vclsOk, vids, mayWrite, V.ids, V.mids, vguard, callOf, vop, ev, cv, vbin, vint, isShift, isNilConst, vnil, isNilSlice, vload, vlen, newRow, vfill, vslice, entOf, vappend, srcOf, vcopy, vlookup, vupdate, mapOk, keyOf, intsOf, clsAt, h]
    subst hQ
    exact FnPost.plain trivial (fun h2 e => by first | rfl | (simp only [Try.f32, vres, vresL, vres1, e _, gos, if_true, if_false, ne_eq, eq_self, Nat.reduceLT, Nat.reduceEqDiff, Nat.reduceAdd, Nat.reduceMul, Nat.reduceLeDiff, Nat.reduceBEq, reduceCtorEq, reduceIte, Array.toList, ↓reduceIte, tt, vgo, vout, vgoD, voutD, vclsOk, vids, mayWrite, V.ids, V.mids, vguard, callOf, vop, ev, cv, vbin, vint, isShift, isNilConst, vnil, isNilSlice, vload, vlen, newRow, vfill, vslice, entOf, vappend, srcOf, vcopy, vlookup, vupdate, mapOk, keyOf, intsOf, clsAt]; try rfl)) (WkV.pure (by simp only [V.into, intoL, cB_into, vB_into, cI_into, cR_into, cD_into, cS_into, vS_into, vI_into, vR_into, vD_into, cu_into, Bool.true_and, Bool.and_true])) ⟨by simp [sIn, h], rfl⟩
  · simp only [gos, if_true, if_false, ne_eq, eq_self, Nat.reduceLT, Nat.reduceEqDiff, Nat.reduceAdd, Nat.reduceMul, Nat.reduceLeDiff, Nat.reduceBEq, reduceCtorEq, reduceIte, Array.toList, ↓reduceIte, tt, vgo, vout, vgoD, voutD, vclsOk, vids, mayWrite, V.ids, V.mids, vguard, callOf, vop, ev, cv, vbin, vint, isShift, isNilConst, vnil, isNilSlice, vload, vlen, newRow, vfill, vslice, entOf, vappend, srcOf, vcopy, vlookup, vupdate, mapOk, keyOf, intsOf, clsAt, h]
    subst hQ
    exact FnPost.plain trivial (fun h2 e => by first | rfl | (simp only [Try.f32, vres, vresL, vres1, e _, gos, if_true, if_false, ne_eq, eq_self, Nat.reduceLT, Nat.reduceEqDiff, Nat.reduceAdd, Nat.reduceMul, Nat.reduceLeDiff, Nat.reduceBEq, reduceCtorEq, reduceIte, Array.toList, ↓reduceIte, tt, vgo, vout, vgoD, voutD, vclsOk, vids, mayWrite, V.ids, V.mids, vguard, callOf, vop, ev, cv, vbin, vint, isShift, isNilConst, vnil, isNilSlice, vload, vlen, newRow, vfill, vslice, entOf, vappend, srcOf, vcopy, vlookup, vupdate, mapOk, keyOf, intsOf, clsAt]; try rfl)) (WkV.pure (by simp only [V.into, intoL, cB_into, vB_into, cI_into, cR_into, cD_into, cS_into, vS_into, vI_into, vR_into, vD_into, cu_into, Bool.true_and, Bool.and_true])) ⟨by simp [sIn, h], rfl⟩
theorem c_rIs (n : Int) (r : Rg) : Pu Try.prog (.fn 111 [] []) [vi n, .agg [vi r.lo, vi r.hi]] (.bool (sIn n r.lo r.hi)) := by
  refine Ev.fn Try.func111 rfl rfl (Fn.body tabOk Try.func111 rfl (Nat.le_of_ble_eq_true rfl) (Ks.ok (fz := (fzn [])) (cl := (cln [])) tabOk mixed ?_))
  generalize hQ : FnPost tt Try.f111 _ _ = Q
  simp only [Try.f111, List.nil_append, List.append_nil, List.cons_append, argsEnv, Nat.reduceAdd]
  simp only [gos, if_true, if_false, ne_eq, eq_self, Nat.reduceLT, Nat.reduceEqDiff, Nat.reduceAdd, Nat.reduceMul, Nat.reduceLeDiff, Nat.reduceBEq, reduceCtorEq, reduceIte, Array.toList, ↓reduceIte, tt, vgo, vout, vgoD, voutD, vclsOk, vids, mayWrite, V.ids, V.mids, vguard, callOf, vop, ev, cv, vbin, vint, isShift, isNilConst, vnil, isNilSlice, vload, vlen, newRow, vfill, vslice, entOf, vappend, srcOf, vcopy, vlookup, vupdate, mapOk, keyOf, intsOf, clsAt]
  refine Cl.pu (c_rIn _ _ _) ?_
  simp only [gos, if_true, if_false, ne_eq, eq_self, Nat.reduceLT, Nat.reduceEqDiff, Nat.reduceAdd, Nat.reduceMul, Nat.reduceLeDiff, Nat.reduceBEq, reduceCtorEq, reduceIte, Array.toList, ↓reduceIte, tt, vgo, vout, vgoD, voutD, vclsOk, vids, mayWrite, V.ids, V.mids, vguard, callOf, vop, ev, cv, vbin, vint, isShift, isNilConst, vnil, isNilSlice, vload, vlen, newRow, vfill, vslice, entOf, vappend, srcOf, vcopy, vlookup, vupdate, mapOk, keyOf, intsOf, clsAt]
  subst hQ
  exact FnPost.plain trivial (fun h2 e => by first | rfl | (simp only [Try.f111, vres, vresL, vres1, e _, gos, if_true, if_false, ne_eq, eq_self, Nat.reduceLT, Nat.reduceEqDiff, Nat.reduceAdd, Nat.reduceMul, Nat.reduceLeDiff, Nat.reduceBEq, reduceCtorEq, reduceIte, Array.toList, ↓reduceIte, tt, vgo, vout, vgoD, voutD, vclsOk, vids, mayWrite, V.ids, V.mids, vguard, callOf, vop, ev, cv, vbin, vint, isShift, isNilConst, vnil, isNilSlice, vload, vlen, newRow, vfill, vslice, entOf, vappend, srcOf, vcopy, vlookup, vupdate, mapOk, keyOf, intsOf, clsAt]; try rfl)) (WkV.pure (by simp only [V.into, intoL, cB_into, vB_into, cI_into, cR_into, cD_into, cS_into, vS_into, vI_into, vR_into, vD_into, cu_into, Bool.true_and, Bool.and_true])) ⟨rfl, rfl⟩
theorem c_rInside (r : Rg) (n : Int) : Pu Try.prog (.fn 118 [] []) [.agg [vi r.lo, vi r.hi], vi n] (.bool (sInside r n)) := by
  refine Ev.fn Try.func118 rfl rfl (Fn.body tabOk Try.func118 rfl (Nat.le_of_ble_eq_true rfl) (Ks.ok (fz := (fzn [])) (cl := (cln [])) tabOk mixed ?_))
  generalize hQ : FnPost tt Try.f118 _ _ = Q
  simp only [Try.f118, List.nil_append, List.append_nil, List.cons_append, argsEnv, Nat.reduceAdd]
  by_cases h : 0 ≤ r.lo
  · by_cases h2 : r.lo ≤ r.hi
    · simp only [gos, if_true, if_false, ne_eq, eq_self, Nat.reduceLT, Nat.reduceEqDiff, Nat.reduceAdd, Nat.reduceMul, Nat.reduceLeDiff, Nat.reduceBEq, reduceCtorEq, reduceIte, Array.toList, ↓reduceIte, tt, vgo, vout, vgoD, voutD, vclsOk, vids, mayWrite, V.ids, V.mids, vguard, callOf, vop, ev, cv, vbin, vint, isShift, isNilConst, vnil, isNilSlice, vload, vlen, newRow, vfill, vslice, entOf, vappend, srcOf, vcopy, vlookup, vupdate, mapOk, keyOf, intsOf, clsAt, h, h2]
      subst hQ
      exact FnPost.plain trivial (fun h2 e => by first | rfl | (simp only [Try.f118, vres, vresL, vres1, e _, gos, if_true, if_false, ne_eq, eq_self, Nat.reduceLT, Nat.reduceEqDiff, Nat.reduceAdd, Nat.reduceMul, Nat.reduceLeDiff, Nat.reduceBEq, reduceCtorEq, reduceIte, Array.toList, ↓reduceIte, tt, vgo, vout, vgoD, voutD, vclsOk, vids, mayWrite, V.ids, V.mids, vguard, callOf, vop, ev, cv, vbin, vint, isShift, isNilConst, vnil, isNilSlice, vload, vlen, newRow, vfill, vslice, entOf, vappend, srcOf, vcopy, vlookup, vupdate, mapOk, keyOf, intsOf, clsAt]; try rfl)) (WkV.pure (by simp only [V.into, intoL, cB_into, vB_into, cI_into, cR_into, cD_into, cS_into, vS_into, vI_into, vR_into, vD_into, cu_into, Bool.true_and, Bool.and_true])) ⟨by simp [sInside, h, h2], rfl⟩
    · simp only [gos, if_true, if_false, ne_eq, eq_self, Nat.reduceLT, Nat.reduceEqDiff, Nat.reduceAdd, Nat.reduceMul, Nat.reduceLeDiff, Nat.reduceBEq, reduceCtorEq, reduceIte, Array.toList, ↓reduceIte, tt, vgo, vout, vgoD, voutD, vclsOk, vids, mayWrite, V.ids, V.mids, vguard, callOf, vop, ev, cv, vbin, vint, isShift, isNilConst, vnil, isNilSlice, vload, vlen, newRow, vfill, vslice, entOf, vappend, srcOf, vcopy, vlookup, vupdate, mapOk, keyOf, intsOf, clsAt, h, h2]
      subst hQ
      exact FnPost.plain trivial (fun h2 e => by first | rfl | (simp only [Try.f118, vres, vresL, vres1, e _, gos, if_true, if_false, ne_eq, eq_self, Nat.reduceLT, Nat.reduceEqDiff, Nat.reduceAdd, Nat.reduceMul, Nat.reduceLeDiff, Nat.reduceBEq, reduceCtorEq, reduceIte, Array.toList, ↓reduceIte, tt, vgo, vout, vgoD, voutD, vclsOk, vids, mayWrite, V.ids, V.mids, vguard, callOf, vop, ev, cv, vbin, vint, isShift, isNilConst, vnil, isNilSlice, vload, vlen, newRow, vfill, vslice, entOf, vappend, srcOf, vcopy, vlookup, vupdate, mapOk, keyOf, intsOf, clsAt]; try rfl)) (WkV.pure (by simp only [V.into, intoL, cB_into, vB_into, cI_into, cR_into, cD_into, cS_into, vS_into, vI_into, vR_into, vD_into, cu_into, Bool.true_and, Bool.and_true])) ⟨by simp [sInside, h, h2], rfl⟩
  · simp only [gos, if_true, if_false, ne_eq, eq_self, Nat.reduceLT, Nat.reduceEqDiff, Nat.reduceAdd, Nat.reduceMul, Nat.reduceLeDiff, Nat.reduceBEq, reduceCtorEq, reduceIte, Array.toList, ↓reduceIte, tt, vgo, vout, vgoD, voutD, vclsOk, vids, mayWrite, V.ids, V.mids, vguard, callOf, vop, ev, cv, vbin, vint, isShift, isNilConst, vnil, isNilSlice, vload, vlen, newRow, vfill, vslice, entOf, vappend, srcOf, vcopy, vlookup, vupdate, mapOk, keyOf, intsOf, clsAt, h]
    subst hQ
    exact FnPost.plain trivial (fun h2 e => by first | rfl | (simp only [Try.f118, vres, vresL, vres1, e _, gos, if_true, if_false, ne_eq, eq_self, Nat.reduceLT, Nat.reduceEqDiff, Nat.reduceAdd, Nat.reduceMul, Nat.reduceLeDiff, Nat.reduceBEq, reduceCtorEq, reduceIte, Array.toList, ↓reduceIte, tt, vgo, vout, vgoD, voutD, vclsOk, vids, mayWrite, V.ids, V.mids, vguard, callOf, vop, ev, cv, vbin, vint, isShift, isNilConst, vnil, isNilSlice, vload, vlen, newRow, vfill, vslice, entOf, vappend, srcOf, vcopy, vlookup, vupdate, mapOk, keyOf, intsOf, clsAt]; try rfl)) (WkV.pure (by simp only [V.into, intoL, cB_into, vB_into, cI_into, cR_into, cD_into, cS_into, vS_into, vI_into, vR_into, vD_into, cu_into, Bool.true_and, Bool.and_true])) ⟨by simp [sInside, h], rfl⟩
theorem c_rSize (r : Rg) (h1 : I64 (r.hi - r.lo)) (h2 : I64 (sSize r)) : Pu Try.prog (.fn 96 [] []) [.agg [vi r.lo, vi r.hi]] (vi (sSize r)) := by
  refine Ev.fn Try.func96 rfl rfl (Fn.body tabOk Try.func96 rfl (Nat.le_of_ble_eq_true rfl) (Ks.ok (fz := (fzn [])) (cl := (cln [])) tabOk mixed ?_))
  generalize hQ : FnPost tt Try.f96 _ _ = Q
  simp only [Try.f96, List.nil_append, List.append_nil, List.cons_append, argsEnv, Nat.reduceAdd]
  simp only [gos, if_true, if_false, ne_eq, eq_self, Nat.reduceLT, Nat.reduceEqDiff, Nat.reduceAdd, Nat.reduceMul, Nat.reduceLeDiff, Nat.reduceBEq, reduceCtorEq, reduceIte, Array.toList, ↓reduceIte, tt, vgo, vout, vgoD, voutD, vclsOk, vids, mayWrite, V.ids, V.mids, vguard, callOf, vop, ev, cv, vbin, vint, isShift, isNilConst, vnil, isNilSlice, vload, vlen, newRow, vfill, vslice, entOf, vappend, srcOf, vcopy, vlookup, vupdate, mapOk, keyOf, intsOf, clsAt, i64_in h1.1 h1.2]
  subst hQ
  exact FnPost.plain trivial (fun h2 e => by first | rfl | (simp only [Try.f96, vres, vresL, vres1, e _, gos, if_true, if_false, ne_eq, eq_self, Nat.reduceLT, Nat.reduceEqDiff, Nat.reduceAdd, Nat.reduceMul, Nat.reduceLeDiff, Nat.reduceBEq, reduceCtorEq, reduceIte, Array.toList, ↓reduceIte, tt, vgo, vout, vgoD, voutD, vclsOk, vids, mayWrite, V.ids, V.mids, vguard, callOf, vop, ev, cv, vbin, vint, isShift, isNilConst, vnil, isNilSlice, vload, vlen, newRow, vfill, vslice, entOf, vappend, srcOf, vcopy, vlookup, vupdate, mapOk, keyOf, intsOf, clsAt]; try rfl)) (WkV.pure (by simp only [V.into, intoL, cB_into, vB_into, cI_into, cR_into, cD_into, cS_into, vS_into, vI_into, vR_into, vD_into, cu_into, Bool.true_and, Bool.and_true])) ⟨by rw [i64_in (n := r.hi - r.lo + 1) h2.1 h2.2]; rfl, rfl⟩
def rEach (c : Cu) (l : List Int) (most : Int) : Bool := decide ((l.length : Int) = c.last + 1) && l.all fun n => sIn n 0 most
theorem c_rEach (c : Cu) (l : List Int) (most : Int) (hc : I64 c.last) (hl : (l.length : Int) ≤ 1000000) : Pu Try.prog (.fn 31 [] []) [.agg c.cs, vI l, vi most] (.bool (rEach c l most)) := by
  refine Ev.fn Try.func31 rfl rfl (Fn.body tabOk Try.func31 rfl (Nat.le_of_ble_eq_true rfl) (Ks.ok (fz := (fzn [])) (cl := (cln [])) tabOk mixed ?_))
  generalize hQ : FnPost tt Try.f31 _ _ = Q
  simp only [Try.f31, List.nil_append, List.append_nil, List.cons_append, argsEnv, Nat.reduceAdd]
  have e := len_wrap hc (k := l.length) hl
  by_cases h : (l.length : Int) = c.last + 1
  case neg =>
    have hb2 : ((l.length : Int) != IntKind.i64.wrap (c.last + 1)) = true := by rw [bne_iff_ne, ne_eq, e]; exact h
    simp only [gos, if_true, if_false, ne_eq, eq_self, Nat.reduceLT, Nat.reduceEqDiff, Nat.reduceAdd, Nat.reduceMul, Nat.reduceLeDiff, Nat.reduceBEq, reduceCtorEq, reduceIte, Array.toList, ↓reduceIte, tt, vgo, vout, vgoD, voutD, vclsOk, vids, mayWrite, V.ids, V.mids, vguard, callOf, vop, ev, cv, vbin, vint, isShift, isNilConst, vnil, isNilSlice, vload, vlen, newRow, vfill, vslice, entOf, vappend, srcOf, vcopy, vlookup, vupdate, mapOk, keyOf, intsOf, clsAt, vI, hb2]
    subst hQ
    exact FnPost.plain trivial (fun h2 e => by first | rfl | (simp only [Try.f31, vres, vresL, vres1, e _, gos, if_true, if_false, ne_eq, eq_self, Nat.reduceLT, Nat.reduceEqDiff, Nat.reduceAdd, Nat.reduceMul, Nat.reduceLeDiff, Nat.reduceBEq, reduceCtorEq, reduceIte, Array.toList, ↓reduceIte, tt, vgo, vout, vgoD, voutD, vclsOk, vids, mayWrite, V.ids, V.mids, vguard, callOf, vop, ev, cv, vbin, vint, isShift, isNilConst, vnil, isNilSlice, vload, vlen, newRow, vfill, vslice, entOf, vappend, srcOf, vcopy, vlookup, vupdate, mapOk, keyOf, intsOf, clsAt]; try rfl)) (WkV.pure (by simp only [V.into, intoL, cB_into, vB_into, cI_into, cR_into, cD_into, cS_into, vS_into, vI_into, vR_into, vD_into, cu_into, Bool.true_and, Bool.and_true])) ⟨by simp [rEach, h], rfl⟩
  have hb2 : ((l.length : Int) != IntKind.i64.wrap (c.last + 1)) = false := by rw [bne_eq_false_iff_eq, e]; exact h
  simp only [gos, if_true, if_false, ne_eq, eq_self, Nat.reduceLT, Nat.reduceEqDiff, Nat.reduceAdd, Nat.reduceMul, Nat.reduceLeDiff, Nat.reduceBEq, reduceCtorEq, reduceIte, Array.toList, ↓reduceIte, tt, vgo, vout, vgoD, voutD, vclsOk, vids, mayWrite, V.ids, V.mids, vguard, callOf, vop, ev, cv, vbin, vint, isShift, isNilConst, vnil, isNilSlice, vload, vlen, newRow, vfill, vslice, entOf, vappend, srcOf, vcopy, vlookup, vupdate, mapOk, keyOf, intsOf, clsAt, vI, hb2]
  refine W.loop tabOk mixed (fun i : Nat => ([(1, vI l), (2, vi most), (3, .rop c.cs), (7, vi i)], [])) (fun i => l.length - i) (fun i => i ≤ l.length ∧ ∀ j : Nat, j < i → sIn (gi l j) 0 most = true) 0 ⟨by omega, fun j hj => by omega⟩ (Wk.env (by simp [subE, Env.get, vI])) ?_
  rintro i ⟨hi, hno⟩
  by_cases hil : (i : Int) < l.length
  · simp only [gos, if_true, if_false, ne_eq, eq_self, Nat.reduceLT, Nat.reduceEqDiff, Nat.reduceAdd, Nat.reduceMul, Nat.reduceLeDiff, Nat.reduceBEq, reduceCtorEq, reduceIte, Array.toList, ↓reduceIte, tt, vgo, vout, vgoD, voutD, vclsOk, vids, mayWrite, V.ids, V.mids, vguard, callOf, vop, ev, cv, vbin, vint, isShift, isNilConst, vnil, isNilSlice, vload, vlen, newRow, vfill, vslice, entOf, vappend, srcOf, vcopy, vlookup, vupdate, mapOk, keyOf, intsOf, clsAt, vI, hil, cI_at (Int.natCast_nonneg i) hil]
    refine Cl.pu (c_rIn _ _ _) ?_
    cases hr : sIn (gi l i) 0 most with
    | true =>
      simp only [gos, if_true, if_false, ne_eq, eq_self, Nat.reduceLT, Nat.reduceEqDiff, Nat.reduceAdd, Nat.reduceMul, Nat.reduceLeDiff, Nat.reduceBEq, reduceCtorEq, reduceIte, Array.toList, ↓reduceIte, tt, vgo, vout, vgoD, voutD, vclsOk, vids, mayWrite, V.ids, V.mids, vguard, callOf, vop, ev, cv, vbin, vint, isShift, isNilConst, vnil, isNilSlice, vload, vlen, newRow, vfill, vslice, entOf, vappend, srcOf, vcopy, vlookup, vupdate, mapOk, keyOf, intsOf, clsAt]
      refine Nx.mk (i + 1) (show l.length - (i + 1) < l.length - i by omega) ⟨by omega, fun j hj => ?_⟩ (Wk.env (by simp [subE, Env.get, vI, i64_succ (show (i : Int) < 9223372036854775807 by omega)]))
      rcases Nat.lt_succ_iff_lt_or_eq.1 hj with h | rfl
      · exact hno j h
      · exact hr
    | false =>
      simp only [gos, if_true, if_false, ne_eq, eq_self, Nat.reduceLT, Nat.reduceEqDiff, Nat.reduceAdd, Nat.reduceMul, Nat.reduceLeDiff, Nat.reduceBEq, reduceCtorEq, reduceIte, Array.toList, ↓reduceIte, tt, vgo, vout, vgoD, voutD, vclsOk, vids, mayWrite, V.ids, V.mids, vguard, callOf, vop, ev, cv, vbin, vint, isShift, isNilConst, vnil, isNilSlice, vload, vlen, newRow, vfill, vslice, entOf, vappend, srcOf, vcopy, vlookup, vupdate, mapOk, keyOf, intsOf, clsAt]
      subst hQ
      exact FnPost.plain trivial (fun h2 e => by first | rfl | (simp only [Try.f31, vres, vresL, vres1, e _, gos, if_true, if_false, ne_eq, eq_self, Nat.reduceLT, Nat.reduceEqDiff, Nat.reduceAdd, Nat.reduceMul, Nat.reduceLeDiff, Nat.reduceBEq, reduceCtorEq, reduceIte, Array.toList, ↓reduceIte, tt, vgo, vout, vgoD, voutD, vclsOk, vids, mayWrite, V.ids, V.mids, vguard, callOf, vop, ev, cv, vbin, vint, isShift, isNilConst, vnil, isNilSlice, vload, vlen, newRow, vfill, vslice, entOf, vappend, srcOf, vcopy, vlookup, vupdate, mapOk, keyOf, intsOf, clsAt]; try rfl)) (WkV.pure (by simp only [V.into, intoL, cB_into, vB_into, cI_into, cR_into, cD_into, cS_into, vS_into, vI_into, vR_into, vD_into, cu_into, Bool.true_and, Bool.and_true])) ⟨by simp only [rEach, all_gi_false (f := fun n => sIn n 0 most) hil hr, Bool.and_false], rfl⟩
  · simp only [gos, if_true, if_false, ne_eq, eq_self, Nat.reduceLT, Nat.reduceEqDiff, Nat.reduceAdd, Nat.reduceMul, Nat.reduceLeDiff, Nat.reduceBEq, reduceCtorEq, reduceIte, Array.toList, ↓reduceIte, tt, vgo, vout, vgoD, voutD, vclsOk, vids, mayWrite, V.ids, V.mids, vguard, callOf, vop, ev, cv, vbin, vint, isShift, isNilConst, vnil, isNilSlice, vload, vlen, newRow, vfill, vslice, entOf, vappend, srcOf, vcopy, vlookup, vupdate, mapOk, keyOf, intsOf, clsAt, vI, hil]
    subst hQ
    exact FnPost.plain trivial (fun h2 e => by first | rfl | (simp only [Try.f31, vres, vresL, vres1, e _, gos, if_true, if_false, ne_eq, eq_self, Nat.reduceLT, Nat.reduceEqDiff, Nat.reduceAdd, Nat.reduceMul, Nat.reduceLeDiff, Nat.reduceBEq, reduceCtorEq, reduceIte, Array.toList, ↓reduceIte, tt, vgo, vout, vgoD, voutD, vclsOk, vids, mayWrite, V.ids, V.mids, vguard, callOf, vop, ev, cv, vbin, vint, isShift, isNilConst, vnil, isNilSlice, vload, vlen, newRow, vfill, vslice, entOf, vappend, srcOf, vcopy, vlookup, vupdate, mapOk, keyOf, intsOf, clsAt]; try rfl)) (WkV.pure (by simp only [V.into, intoL, cB_into, vB_into, cI_into, cR_into, cD_into, cS_into, vS_into, vI_into, vR_into, vD_into, cu_into, Bool.true_and, Bool.and_true])) ⟨by rw [rEach, h, all_gi (f := fun n => sIn n 0 most) fun j hj => hno j (by omega)]; simp, rfl⟩
def rMany (c : Cu) : Int := c.loss.foldl (fun m r => min 3000 (m * sSize r)) (sSize c.heat)
def rManyL (n : Int) (l : List Rg) : Int := l.foldl (fun m r => min 3000 (m * sSize r)) n
theorem rManyL_succ {l : List Rg} {n : Int} {i : Nat} (hi : (i : Int) < l.length) : rManyL n (l.take (i + 1)) = min 3000 (rManyL n (l.take i) * sSize (gR l i)) := by
  have e : l.take (i + 1) = l.take i ++ [gR l i] := by rw [List.take_add_one, gR_get hi]; rfl
  rw [e, rManyL, List.foldl_append]; rfl
theorem rManyL_le {n : Int} (hn : 1 ≤ n ∧ n ≤ 3000) : ∀ {l : List Rg}, (∀ r ∈ l, sInside r 99 = true) → 1 ≤ rManyL n l ∧ rManyL n l ≤ 3000
  | [], _ => hn
  | r :: l, h => by
    have hr := size_le (h r (by simp))
    have h0 : 1 ≤ n * sSize r := by have := Int.mul_le_mul hn.1 hr.1 (by omega) (by omega); omega
    exact rManyL_le (n := min 3000 (n * sSize r)) (by omega) fun x hx => h x (by simp [hx])
theorem c_rMany (c : Cu) (hh : sInside c.heat 99 = true) (hl : (c.loss.length : Int) ≤ 1000000) (hall : ∀ r ∈ c.loss, sInside r 99 = true) : Pu Try.prog (.fn 47 [] []) [.agg c.cs] (vi (rMany c)) := by
  have hz := size_le hh
  refine Ev.fn Try.func47 rfl rfl (Fn.body tabOk Try.func47 rfl (Nat.le_of_ble_eq_true rfl) (Ks.ok (fz := (fzn [])) (cl := (cln [])) tabOk mixed ?_))
  generalize hQ : FnPost tt Try.f47 _ _ = Q
  simp only [Try.f47, List.nil_append, List.append_nil, List.cons_append, argsEnv, Nat.reduceAdd]
  simp only [gos, if_true, if_false, ne_eq, eq_self, Nat.reduceLT, Nat.reduceEqDiff, Nat.reduceAdd, Nat.reduceMul, Nat.reduceLeDiff, Nat.reduceBEq, reduceCtorEq, reduceIte, Array.toList, ↓reduceIte, tt, vgo, vout, vgoD, voutD, vclsOk, vids, mayWrite, V.ids, V.mids, vguard, callOf, vop, ev, cv, vbin, vint, isShift, isNilConst, vnil, isNilSlice, vload, vlen, newRow, vfill, vslice, entOf, vappend, srcOf, vcopy, vlookup, vupdate, mapOk, keyOf, intsOf, clsAt]
  refine Cl.pu (c_rSize c.heat ⟨by omega, by omega⟩ ⟨by omega, by omega⟩) ?_
  simp only [gos, if_true, if_false, ne_eq, eq_self, Nat.reduceLT, Nat.reduceEqDiff, Nat.reduceAdd, Nat.reduceMul, Nat.reduceLeDiff, Nat.reduceBEq, reduceCtorEq, reduceIte, Array.toList, ↓reduceIte, tt, vgo, vout, vgoD, voutD, vclsOk, vids, mayWrite, V.ids, V.mids, vguard, callOf, vop, ev, cv, vbin, vint, isShift, isNilConst, vnil, isNilSlice, vload, vlen, newRow, vfill, vslice, entOf, vappend, srcOf, vcopy, vlookup, vupdate, mapOk, keyOf, intsOf, clsAt, vR]
  refine W.loop tabOk mixed (fun i : Nat => ([(1, .rop c.cs), (3, vi (rManyL (sSize c.heat) (c.loss.take i))), (4, vi i)], [])) (fun i => c.loss.length - i) (fun i => i ≤ c.loss.length) 0 (by omega) (Wk.env (by simp [subE, Env.get, vR, rManyL])) ?_
  intro i hi
  by_cases hil : (i : Int) < c.loss.length
  · simp only [gos, if_true, if_false, ne_eq, eq_self, Nat.reduceLT, Nat.reduceEqDiff, Nat.reduceAdd, Nat.reduceMul, Nat.reduceLeDiff, Nat.reduceBEq, reduceCtorEq, reduceIte, Array.toList, ↓reduceIte, tt, vgo, vout, vgoD, voutD, vclsOk, vids, mayWrite, V.ids, V.mids, vguard, callOf, vop, ev, cv, vbin, vint, isShift, isNilConst, vnil, isNilSlice, vload, vlen, newRow, vfill, vslice, entOf, vappend, srcOf, vcopy, vlookup, vupdate, mapOk, keyOf, intsOf, clsAt, vR, hil, cR_at (Int.natCast_nonneg i) hil]
    have hr := size_le (hall _ (List.mem_of_getElem? (gR_get hil)))
    have hm := rManyL_le (n := sSize c.heat) ⟨by omega, by omega⟩ (l := c.loss.take i) fun r hr => hall r (List.mem_of_mem_take hr)
    refine Cl.pu (c_rSize (gR c.loss i) ⟨by omega, by omega⟩ ⟨by omega, by omega⟩) ?_
    have h0 : 0 ≤ rManyL (sSize c.heat) (c.loss.take i) * sSize (gR c.loss i) := Int.mul_nonneg (by omega) (by omega)
    have h100 : rManyL (sSize c.heat) (c.loss.take i) * sSize (gR c.loss i) ≤ 3000 * 100 := Int.mul_le_mul hm.2 hr.2.1 (by omega) (by omega)
    simp only [gos, if_true, if_false, ne_eq, eq_self, Nat.reduceLT, Nat.reduceEqDiff, Nat.reduceAdd, Nat.reduceMul, Nat.reduceLeDiff, Nat.reduceBEq, reduceCtorEq, reduceIte, Array.toList, ↓reduceIte, tt, vgo, vout, vgoD, voutD, vclsOk, vids, mayWrite, V.ids, V.mids, vguard, callOf, vop, ev, cv, vbin, vint, isShift, isNilConst, vnil, isNilSlice, vload, vlen, newRow, vfill, vslice, entOf, vappend, srcOf, vcopy, vlookup, vupdate, mapOk, keyOf, intsOf, clsAt, i64_in (show -9223372036854775808 ≤ rManyL (sSize c.heat) (c.loss.take i) * sSize (gR c.loss i) by omega) (show rManyL (sSize c.heat) (c.loss.take i) * sSize (gR c.loss i) ≤ 9223372036854775807 by omega)]
    exact Nx.mk (i + 1) (show c.loss.length - (i + 1) < c.loss.length - i by omega) (by omega) (Wk.env (by simp [subE, Env.get, vR, rManyL_succ hil, i64_succ (show (i : Int) < 9223372036854775807 by omega)]))
  · simp only [gos, if_true, if_false, ne_eq, eq_self, Nat.reduceLT, Nat.reduceEqDiff, Nat.reduceAdd, Nat.reduceMul, Nat.reduceLeDiff, Nat.reduceBEq, reduceCtorEq, reduceIte, Array.toList, ↓reduceIte, tt, vgo, vout, vgoD, voutD, vclsOk, vids, mayWrite, V.ids, V.mids, vguard, callOf, vop, ev, cv, vbin, vint, isShift, isNilConst, vnil, isNilSlice, vload, vlen, newRow, vfill, vslice, entOf, vappend, srcOf, vcopy, vlookup, vupdate, mapOk, keyOf, intsOf, clsAt, vR, hil]
    have e : c.loss.take i = c.loss := List.take_of_length_le (by omega)
    rw [e]
    subst hQ
    exact FnPost.plain trivial (fun h2 e => by first | rfl | (simp only [Try.f47, vres, vresL, vres1, e _, gos, if_true, if_false, ne_eq, eq_self, Nat.reduceLT, Nat.reduceEqDiff, Nat.reduceAdd, Nat.reduceMul, Nat.reduceLeDiff, Nat.reduceBEq, reduceCtorEq, reduceIte, Array.toList, ↓reduceIte, tt, vgo, vout, vgoD, voutD, vclsOk, vids, mayWrite, V.ids, V.mids, vguard, callOf, vop, ev, cv, vbin, vint, isShift, isNilConst, vnil, isNilSlice, vload, vlen, newRow, vfill, vslice, entOf, vappend, srcOf, vcopy, vlookup, vupdate, mapOk, keyOf, intsOf, clsAt]; try rfl)) (WkV.pure (by simp only [V.into, intoL, cB_into, vB_into, cI_into, cR_into, cD_into, cS_into, vS_into, vI_into, vR_into, vD_into, cu_into, Bool.true_and, Bool.and_true])) ⟨rfl, rfl⟩
end Go.Vm
set_option linter.unusedVariables false
set_option linter.unusedSimpArgs false
set_option maxRecDepth 100000
namespace Go.Vm
open Go.Proofs
theorem many_same : ∀ (l : List Rg) (a b : Int), 1 ≤ a → 1 ≤ b → min a 2001 = min b 2001 → (∀ r ∈ l, 1 ≤ sSize r) → min (sManyL a l) 2001 = min (rManyL b l) 2001
  | [], a, b, _, _, h, _ => h
  | r :: l, a, b, ha, hb, h, hs => by
    have h1 := hs r (by simp)
    have e1 : sManyL a (r :: l) = sManyL (min (a * sSize r) 2001) l := rfl
    have e2 : rManyL b (r :: l) = rManyL (min 3000 (b * sSize r)) l := rfl
    have m1 : a * 1 ≤ a * sSize r := Int.mul_le_mul_of_nonneg_left h1 (by omega)
    have m2 : b * 1 ≤ b * sSize r := Int.mul_le_mul_of_nonneg_left h1 (by omega)
    rw [e1, e2]
    refine many_same l _ _ (by omega) (by omega) ?_ fun x hx => hs x (by simp [hx])
    by_cases hab : a = b
    · subst hab; omega
    · omega
theorem many_iff {c : Cu} (hh : sInside c.heat 99 = true) (hall : ∀ r ∈ c.loss, sInside r 99 = true) : (2000 < rMany c) = (2000 < sMany c) := by
  have hz := size_le hh
  have := many_same c.loss (sSize c.heat) (sSize c.heat) (by omega) (by omega) rfl fun r hr => (size_le (hall r hr)).1
  have e : rMany c = rManyL (sSize c.heat) c.loss := rfl
  rw [e, sMany]
  apply propext
  omega
set_option maxHeartbeats 2000000 in
theorem c_rFault (c : Cu) (hc : c.wf) : Pu Try.prog (.fn 78 [] []) [.agg c.cs] (vi (sCheck c)) := by
  refine Ev.fn Try.func78 rfl rfl (Fn.body tabOk Try.func78 rfl (Nat.le_of_ble_eq_true rfl) (Ks.ok (fz := (fzn [])) (cl := (cln [(13, .d tg0 [cP, cP, cP, cP, cP, cP, cP, cP, cP, cP, cP, cP, cP, cP, cP, cP, cP, cP, cP, cP])])) tabOk mixed ?_))
  generalize hQ : FnPost tt Try.f78 _ _ = Q
  simp only [Try.f78, List.nil_append, List.append_nil, List.cons_append, argsEnv, Nat.reduceAdd]
  by_cases h1 : 4 < c.last
  · simp only [gos, if_true, if_false, ne_eq, eq_self, Nat.reduceLT, Nat.reduceEqDiff, Nat.reduceAdd, Nat.reduceMul, Nat.reduceLeDiff, Nat.reduceBEq, reduceCtorEq, reduceIte, Array.toList, ↓reduceIte, tt, vgo, vout, vgoD, voutD, vclsOk, vids, mayWrite, V.ids, V.mids, vguard, callOf, vop, ev, cv, vbin, vint, isShift, isNilConst, vnil, isNilSlice, vload, vlen, newRow, vfill, vslice, entOf, vappend, srcOf, vcopy, vlookup, vupdate, mapOk, keyOf, intsOf, clsAt, h1]
    subst hQ
    exact FnPost.plain trivial (fun h2 e => by first | rfl | (simp only [Try.f78, vres, vresL, vres1, e _, gos, if_true, if_false, ne_eq, eq_self, Nat.reduceLT, Nat.reduceEqDiff, Nat.reduceAdd, Nat.reduceMul, Nat.reduceLeDiff, Nat.reduceBEq, reduceCtorEq, reduceIte, Array.toList, ↓reduceIte, tt, vgo, vout, vgoD, voutD, vclsOk, vids, mayWrite, V.ids, V.mids, vguard, callOf, vop, ev, cv, vbin, vint, isShift, isNilConst, vnil, isNilSlice, vload, vlen, newRow, vfill, vslice, entOf, vappend, srcOf, vcopy, vlookup, vupdate, mapOk, keyOf, intsOf, clsAt]; try rfl)) (WkV.pure (by simp only [V.into, intoL, cB_into, vB_into, cI_into, cR_into, cD_into, cS_into, vS_into, vI_into, vR_into, vD_into, cu_into, Bool.true_and, Bool.and_true])) ⟨by simp [sCheck, h1], rfl⟩
  by_cases h2 : 5 < (c.readings.length : Int)
  · simp only [gos, if_true, if_false, ne_eq, eq_self, Nat.reduceLT, Nat.reduceEqDiff, Nat.reduceAdd, Nat.reduceMul, Nat.reduceLeDiff, Nat.reduceBEq, reduceCtorEq, reduceIte, Array.toList, ↓reduceIte, tt, vgo, vout, vgoD, voutD, vclsOk, vids, mayWrite, V.ids, V.mids, vguard, callOf, vop, ev, cv, vbin, vint, isShift, isNilConst, vnil, isNilSlice, vload, vlen, newRow, vfill, vslice, entOf, vappend, srcOf, vcopy, vlookup, vupdate, mapOk, keyOf, intsOf, clsAt, h1, h2, vD]
    subst hQ
    exact FnPost.plain trivial (fun h2 e => by first | rfl | (simp only [Try.f78, vres, vresL, vres1, e _, gos, if_true, if_false, ne_eq, eq_self, Nat.reduceLT, Nat.reduceEqDiff, Nat.reduceAdd, Nat.reduceMul, Nat.reduceLeDiff, Nat.reduceBEq, reduceCtorEq, reduceIte, Array.toList, ↓reduceIte, tt, vgo, vout, vgoD, voutD, vclsOk, vids, mayWrite, V.ids, V.mids, vguard, callOf, vop, ev, cv, vbin, vint, isShift, isNilConst, vnil, isNilSlice, vload, vlen, newRow, vfill, vslice, entOf, vappend, srcOf, vcopy, vlookup, vupdate, mapOk, keyOf, intsOf, clsAt]; try rfl)) (WkV.pure (by simp only [V.into, intoL, cB_into, vB_into, cI_into, cR_into, cD_into, cS_into, vS_into, vI_into, vR_into, vD_into, cu_into, Bool.true_and, Bool.and_true])) ⟨by simp [sCheck, h1, h2], rfl⟩
  by_cases h3 : c.last < 0
  · simp only [gos, if_true, if_false, ne_eq, eq_self, Nat.reduceLT, Nat.reduceEqDiff, Nat.reduceAdd, Nat.reduceMul, Nat.reduceLeDiff, Nat.reduceBEq, reduceCtorEq, reduceIte, Array.toList, ↓reduceIte, tt, vgo, vout, vgoD, voutD, vclsOk, vids, mayWrite, V.ids, V.mids, vguard, callOf, vop, ev, cv, vbin, vint, isShift, isNilConst, vnil, isNilSlice, vload, vlen, newRow, vfill, vslice, entOf, vappend, srcOf, vcopy, vlookup, vupdate, mapOk, keyOf, intsOf, clsAt, h1, h2, h3, vD]
    subst hQ
    exact FnPost.plain trivial (fun h2 e => by first | rfl | (simp only [Try.f78, vres, vresL, vres1, e _, gos, if_true, if_false, ne_eq, eq_self, Nat.reduceLT, Nat.reduceEqDiff, Nat.reduceAdd, Nat.reduceMul, Nat.reduceLeDiff, Nat.reduceBEq, reduceCtorEq, reduceIte, Array.toList, ↓reduceIte, tt, vgo, vout, vgoD, voutD, vclsOk, vids, mayWrite, V.ids, V.mids, vguard, callOf, vop, ev, cv, vbin, vint, isShift, isNilConst, vnil, isNilSlice, vload, vlen, newRow, vfill, vslice, entOf, vappend, srcOf, vcopy, vlookup, vupdate, mapOk, keyOf, intsOf, clsAt]; try rfl)) (WkV.pure (by simp only [V.into, intoL, cB_into, vB_into, cI_into, cR_into, cD_into, cS_into, vS_into, vI_into, vR_into, vD_into, cu_into, Bool.true_and, Bool.and_true])) ⟨by simp [sCheck, sBad1, h1, h2, h3], rfl⟩
  simp only [gos, if_true, if_false, ne_eq, eq_self, Nat.reduceLT, Nat.reduceEqDiff, Nat.reduceAdd, Nat.reduceMul, Nat.reduceLeDiff, Nat.reduceBEq, reduceCtorEq, reduceIte, Array.toList, ↓reduceIte, tt, vgo, vout, vgoD, voutD, vclsOk, vids, mayWrite, V.ids, V.mids, vguard, callOf, vop, ev, cv, vbin, vint, isShift, isNilConst, vnil, isNilSlice, vload, vlen, newRow, vfill, vslice, entOf, vappend, srcOf, vcopy, vlookup, vupdate, mapOk, keyOf, intsOf, clsAt, h1, h2, h3, vD]
  refine Cl.pu (c_rIn _ _ _) ?_
  cases h4 : sIn c.most 0 999
  · have hb : sBad1 c = true := by
      simp only [sIn, Bool.and_eq_false_iff, decide_eq_false_iff_not] at h4
      simp only [sBad1, sIn, Bool.or_eq_true, decide_eq_true_eq, Bool.not_eq_true', Bool.and_eq_false_iff, decide_eq_false_iff_not]
      omega
    simp only [gos, if_true, if_false, ne_eq, eq_self, Nat.reduceLT, Nat.reduceEqDiff, Nat.reduceAdd, Nat.reduceMul, Nat.reduceLeDiff, Nat.reduceBEq, reduceCtorEq, reduceIte, Array.toList, ↓reduceIte, tt, vgo, vout, vgoD, voutD, vclsOk, vids, mayWrite, V.ids, V.mids, vguard, callOf, vop, ev, cv, vbin, vint, isShift, isNilConst, vnil, isNilSlice, vload, vlen, newRow, vfill, vslice, entOf, vappend, srcOf, vcopy, vlookup, vupdate, mapOk, keyOf, intsOf, clsAt]
    subst hQ
    exact FnPost.plain trivial (fun h2 e => by first | rfl | (simp only [Try.f78, vres, vresL, vres1, e _, gos, if_true, if_false, ne_eq, eq_self, Nat.reduceLT, Nat.reduceEqDiff, Nat.reduceAdd, Nat.reduceMul, Nat.reduceLeDiff, Nat.reduceBEq, reduceCtorEq, reduceIte, Array.toList, ↓reduceIte, tt, vgo, vout, vgoD, voutD, vclsOk, vids, mayWrite, V.ids, V.mids, vguard, callOf, vop, ev, cv, vbin, vint, isShift, isNilConst, vnil, isNilSlice, vload, vlen, newRow, vfill, vslice, entOf, vappend, srcOf, vcopy, vlookup, vupdate, mapOk, keyOf, intsOf, clsAt]; try rfl)) (WkV.pure (by simp only [V.into, intoL, cB_into, vB_into, cI_into, cR_into, cD_into, cS_into, vS_into, vI_into, vR_into, vD_into, cu_into, Bool.true_and, Bool.and_true])) ⟨by simp [sCheck, h1, h2, hb], rfl⟩
  simp only [gos, if_true, if_false, ne_eq, eq_self, Nat.reduceLT, Nat.reduceEqDiff, Nat.reduceAdd, Nat.reduceMul, Nat.reduceLeDiff, Nat.reduceBEq, reduceCtorEq, reduceIte, Array.toList, ↓reduceIte, tt, vgo, vout, vgoD, voutD, vclsOk, vids, mayWrite, V.ids, V.mids, vguard, callOf, vop, ev, cv, vbin, vint, isShift, isNilConst, vnil, isNilSlice, vload, vlen, newRow, vfill, vslice, entOf, vappend, srcOf, vcopy, vlookup, vupdate, mapOk, keyOf, intsOf, clsAt]
  refine Cl.pu (c_rIn _ _ _) ?_
  cases h5 : sIn c.start 0 c.most
  · simp only [gos, if_true, if_false, ne_eq, eq_self, Nat.reduceLT, Nat.reduceEqDiff, Nat.reduceAdd, Nat.reduceMul, Nat.reduceLeDiff, Nat.reduceBEq, reduceCtorEq, reduceIte, Array.toList, ↓reduceIte, tt, vgo, vout, vgoD, voutD, vclsOk, vids, mayWrite, V.ids, V.mids, vguard, callOf, vop, ev, cv, vbin, vint, isShift, isNilConst, vnil, isNilSlice, vload, vlen, newRow, vfill, vslice, entOf, vappend, srcOf, vcopy, vlookup, vupdate, mapOk, keyOf, intsOf, clsAt]
    subst hQ
    exact FnPost.plain trivial (fun h2 e => by first | rfl | (simp only [Try.f78, vres, vresL, vres1, e _, gos, if_true, if_false, ne_eq, eq_self, Nat.reduceLT, Nat.reduceEqDiff, Nat.reduceAdd, Nat.reduceMul, Nat.reduceLeDiff, Nat.reduceBEq, reduceCtorEq, reduceIte, Array.toList, ↓reduceIte, tt, vgo, vout, vgoD, voutD, vclsOk, vids, mayWrite, V.ids, V.mids, vguard, callOf, vop, ev, cv, vbin, vint, isShift, isNilConst, vnil, isNilSlice, vload, vlen, newRow, vfill, vslice, entOf, vappend, srcOf, vcopy, vlookup, vupdate, mapOk, keyOf, intsOf, clsAt]; try rfl)) (WkV.pure (by simp only [V.into, intoL, cB_into, vB_into, cI_into, cR_into, cD_into, cS_into, vS_into, vI_into, vR_into, vD_into, cu_into, Bool.true_and, Bool.and_true])) ⟨by simp [sCheck, sBad1, h1, h2, h5], rfl⟩
  simp only [gos, if_true, if_false, ne_eq, eq_self, Nat.reduceLT, Nat.reduceEqDiff, Nat.reduceAdd, Nat.reduceMul, Nat.reduceLeDiff, Nat.reduceBEq, reduceCtorEq, reduceIte, Array.toList, ↓reduceIte, tt, vgo, vout, vgoD, voutD, vclsOk, vids, mayWrite, V.ids, V.mids, vguard, callOf, vop, ev, cv, vbin, vint, isShift, isNilConst, vnil, isNilSlice, vload, vlen, newRow, vfill, vslice, entOf, vappend, srcOf, vcopy, vlookup, vupdate, mapOk, keyOf, intsOf, clsAt]
  refine Cl.pu (c_rIn _ _ _) ?_
  cases h6 : sIn c.per 1 20
  · simp only [gos, if_true, if_false, ne_eq, eq_self, Nat.reduceLT, Nat.reduceEqDiff, Nat.reduceAdd, Nat.reduceMul, Nat.reduceLeDiff, Nat.reduceBEq, reduceCtorEq, reduceIte, Array.toList, ↓reduceIte, tt, vgo, vout, vgoD, voutD, vclsOk, vids, mayWrite, V.ids, V.mids, vguard, callOf, vop, ev, cv, vbin, vint, isShift, isNilConst, vnil, isNilSlice, vload, vlen, newRow, vfill, vslice, entOf, vappend, srcOf, vcopy, vlookup, vupdate, mapOk, keyOf, intsOf, clsAt]
    subst hQ
    exact FnPost.plain trivial (fun h2 e => by first | rfl | (simp only [Try.f78, vres, vresL, vres1, e _, gos, if_true, if_false, ne_eq, eq_self, Nat.reduceLT, Nat.reduceEqDiff, Nat.reduceAdd, Nat.reduceMul, Nat.reduceLeDiff, Nat.reduceBEq, reduceCtorEq, reduceIte, Array.toList, ↓reduceIte, tt, vgo, vout, vgoD, voutD, vclsOk, vids, mayWrite, V.ids, V.mids, vguard, callOf, vop, ev, cv, vbin, vint, isShift, isNilConst, vnil, isNilSlice, vload, vlen, newRow, vfill, vslice, entOf, vappend, srcOf, vcopy, vlookup, vupdate, mapOk, keyOf, intsOf, clsAt]; try rfl)) (WkV.pure (by simp only [V.into, intoL, cB_into, vB_into, cI_into, cR_into, cD_into, cS_into, vS_into, vI_into, vR_into, vD_into, cu_into, Bool.true_and, Bool.and_true])) ⟨by simp [sCheck, sBad1, h1, h2, h6], rfl⟩
  simp only [gos, if_true, if_false, ne_eq, eq_self, Nat.reduceLT, Nat.reduceEqDiff, Nat.reduceAdd, Nat.reduceMul, Nat.reduceLeDiff, Nat.reduceBEq, reduceCtorEq, reduceIte, Array.toList, ↓reduceIte, tt, vgo, vout, vgoD, voutD, vclsOk, vids, mayWrite, V.ids, V.mids, vguard, callOf, vop, ev, cv, vbin, vint, isShift, isNilConst, vnil, isNilSlice, vload, vlen, newRow, vfill, vslice, entOf, vappend, srcOf, vcopy, vlookup, vupdate, mapOk, keyOf, intsOf, clsAt]
  refine Cl.pu (c_rIn _ _ _) ?_
  cases h7 : sIn c.shovels 0 3
  · simp only [gos, if_true, if_false, ne_eq, eq_self, Nat.reduceLT, Nat.reduceEqDiff, Nat.reduceAdd, Nat.reduceMul, Nat.reduceLeDiff, Nat.reduceBEq, reduceCtorEq, reduceIte, Array.toList, ↓reduceIte, tt, vgo, vout, vgoD, voutD, vclsOk, vids, mayWrite, V.ids, V.mids, vguard, callOf, vop, ev, cv, vbin, vint, isShift, isNilConst, vnil, isNilSlice, vload, vlen, newRow, vfill, vslice, entOf, vappend, srcOf, vcopy, vlookup, vupdate, mapOk, keyOf, intsOf, clsAt]
    subst hQ
    exact FnPost.plain trivial (fun h2 e => by first | rfl | (simp only [Try.f78, vres, vresL, vres1, e _, gos, if_true, if_false, ne_eq, eq_self, Nat.reduceLT, Nat.reduceEqDiff, Nat.reduceAdd, Nat.reduceMul, Nat.reduceLeDiff, Nat.reduceBEq, reduceCtorEq, reduceIte, Array.toList, ↓reduceIte, tt, vgo, vout, vgoD, voutD, vclsOk, vids, mayWrite, V.ids, V.mids, vguard, callOf, vop, ev, cv, vbin, vint, isShift, isNilConst, vnil, isNilSlice, vload, vlen, newRow, vfill, vslice, entOf, vappend, srcOf, vcopy, vlookup, vupdate, mapOk, keyOf, intsOf, clsAt]; try rfl)) (WkV.pure (by simp only [V.into, intoL, cB_into, vB_into, cI_into, cR_into, cD_into, cS_into, vS_into, vI_into, vR_into, vD_into, cu_into, Bool.true_and, Bool.and_true])) ⟨by simp [sCheck, sBad1, h1, h2, h7], rfl⟩
  have hb1 : sBad1 c = false := by
    simp only [sIn, Bool.and_eq_true, decide_eq_true_eq] at h4
    have : ¬ 999 < c.most := by omega
    simp [sBad1, h3, h5, h6, h7, this]
  simp only [gos, if_true, if_false, ne_eq, eq_self, Nat.reduceLT, Nat.reduceEqDiff, Nat.reduceAdd, Nat.reduceMul, Nat.reduceLeDiff, Nat.reduceBEq, reduceCtorEq, reduceIte, Array.toList, ↓reduceIte, tt, vgo, vout, vgoD, voutD, vclsOk, vids, mayWrite, V.ids, V.mids, vguard, callOf, vop, ev, cv, vbin, vint, isShift, isNilConst, vnil, isNilSlice, vload, vlen, newRow, vfill, vslice, entOf, vappend, srcOf, vcopy, vlookup, vupdate, mapOk, keyOf, intsOf, clsAt]
  refine Cl.pu (c_rEach c c.coal c.shovels hc.last hc.coal) ?_ rfl (by simp only [V.into, intoL, cB_into, vB_into, cI_into, cR_into, cD_into, cS_into, vS_into, vI_into, vR_into, vD_into, cu_into, Bool.true_and, Bool.and_true])
  cases h8 : rEach c c.coal c.shovels
  · have h8' : sIsCoal c c.coal = false := h8
    simp only [gos, if_true, if_false, ne_eq, eq_self, Nat.reduceLT, Nat.reduceEqDiff, Nat.reduceAdd, Nat.reduceMul, Nat.reduceLeDiff, Nat.reduceBEq, reduceCtorEq, reduceIte, Array.toList, ↓reduceIte, tt, vgo, vout, vgoD, voutD, vclsOk, vids, mayWrite, V.ids, V.mids, vguard, callOf, vop, ev, cv, vbin, vint, isShift, isNilConst, vnil, isNilSlice, vload, vlen, newRow, vfill, vslice, entOf, vappend, srcOf, vcopy, vlookup, vupdate, mapOk, keyOf, intsOf, clsAt]
    subst hQ
    exact FnPost.plain trivial (fun h2 e => by first | rfl | (simp only [Try.f78, vres, vresL, vres1, e _, gos, if_true, if_false, ne_eq, eq_self, Nat.reduceLT, Nat.reduceEqDiff, Nat.reduceAdd, Nat.reduceMul, Nat.reduceLeDiff, Nat.reduceBEq, reduceCtorEq, reduceIte, Array.toList, ↓reduceIte, tt, vgo, vout, vgoD, voutD, vclsOk, vids, mayWrite, V.ids, V.mids, vguard, callOf, vop, ev, cv, vbin, vint, isShift, isNilConst, vnil, isNilSlice, vload, vlen, newRow, vfill, vslice, entOf, vappend, srcOf, vcopy, vlookup, vupdate, mapOk, keyOf, intsOf, clsAt]; try rfl)) (WkV.pure (by simp only [V.into, intoL, cB_into, vB_into, cI_into, cR_into, cD_into, cS_into, vS_into, vI_into, vR_into, vD_into, cu_into, Bool.true_and, Bool.and_true])) ⟨by simp [sCheck, hb1, sBad2, h1, h2, h8'], rfl⟩
  simp only [gos, if_true, if_false, ne_eq, eq_self, Nat.reduceLT, Nat.reduceEqDiff, Nat.reduceAdd, Nat.reduceMul, Nat.reduceLeDiff, Nat.reduceBEq, reduceCtorEq, reduceIte, Array.toList, ↓reduceIte, tt, vgo, vout, vgoD, voutD, vclsOk, vids, mayWrite, V.ids, V.mids, vguard, callOf, vop, ev, cv, vbin, vint, isShift, isNilConst, vnil, isNilSlice, vload, vlen, newRow, vfill, vslice, entOf, vappend, srcOf, vcopy, vlookup, vupdate, mapOk, keyOf, intsOf, clsAt]
  refine Cl.pu (c_rEach c c.want 20 hc.last hc.want) ?_ rfl (by simp only [V.into, intoL, cB_into, vB_into, cI_into, cR_into, cD_into, cS_into, vS_into, vI_into, vR_into, vD_into, cu_into, Bool.true_and, Bool.and_true])
  cases h9 : rEach c c.want 20
  · have h9' : sPromised c c.want = false := h9
    simp only [gos, if_true, if_false, ne_eq, eq_self, Nat.reduceLT, Nat.reduceEqDiff, Nat.reduceAdd, Nat.reduceMul, Nat.reduceLeDiff, Nat.reduceBEq, reduceCtorEq, reduceIte, Array.toList, ↓reduceIte, tt, vgo, vout, vgoD, voutD, vclsOk, vids, mayWrite, V.ids, V.mids, vguard, callOf, vop, ev, cv, vbin, vint, isShift, isNilConst, vnil, isNilSlice, vload, vlen, newRow, vfill, vslice, entOf, vappend, srcOf, vcopy, vlookup, vupdate, mapOk, keyOf, intsOf, clsAt]
    subst hQ
    exact FnPost.plain trivial (fun h2 e => by first | rfl | (simp only [Try.f78, vres, vresL, vres1, e _, gos, if_true, if_false, ne_eq, eq_self, Nat.reduceLT, Nat.reduceEqDiff, Nat.reduceAdd, Nat.reduceMul, Nat.reduceLeDiff, Nat.reduceBEq, reduceCtorEq, reduceIte, Array.toList, ↓reduceIte, tt, vgo, vout, vgoD, voutD, vclsOk, vids, mayWrite, V.ids, V.mids, vguard, callOf, vop, ev, cv, vbin, vint, isShift, isNilConst, vnil, isNilSlice, vload, vlen, newRow, vfill, vslice, entOf, vappend, srcOf, vcopy, vlookup, vupdate, mapOk, keyOf, intsOf, clsAt]; try rfl)) (WkV.pure (by simp only [V.into, intoL, cB_into, vB_into, cI_into, cR_into, cD_into, cS_into, vS_into, vI_into, vR_into, vD_into, cu_into, Bool.true_and, Bool.and_true])) ⟨by simp [sCheck, hb1, sBad2, h1, h2, h9'], rfl⟩
  have h8' : sIsCoal c c.coal = true := h8
  have h9' : sPromised c c.want = true := h9
  simp only [gos, if_true, if_false, ne_eq, eq_self, Nat.reduceLT, Nat.reduceEqDiff, Nat.reduceAdd, Nat.reduceMul, Nat.reduceLeDiff, Nat.reduceBEq, reduceCtorEq, reduceIte, Array.toList, ↓reduceIte, tt, vgo, vout, vgoD, voutD, vclsOk, vids, mayWrite, V.ids, V.mids, vguard, callOf, vop, ev, cv, vbin, vint, isShift, isNilConst, vnil, isNilSlice, vload, vlen, newRow, vfill, vslice, entOf, vappend, srcOf, vcopy, vlookup, vupdate, mapOk, keyOf, intsOf, clsAt]
  refine Cl.pu (c_rInside _ _) ?_
  cases h10 : sInside c.heat 99
  · simp only [gos, if_true, if_false, ne_eq, eq_self, Nat.reduceLT, Nat.reduceEqDiff, Nat.reduceAdd, Nat.reduceMul, Nat.reduceLeDiff, Nat.reduceBEq, reduceCtorEq, reduceIte, Array.toList, ↓reduceIte, tt, vgo, vout, vgoD, voutD, vclsOk, vids, mayWrite, V.ids, V.mids, vguard, callOf, vop, ev, cv, vbin, vint, isShift, isNilConst, vnil, isNilSlice, vload, vlen, newRow, vfill, vslice, entOf, vappend, srcOf, vcopy, vlookup, vupdate, mapOk, keyOf, intsOf, clsAt]
    subst hQ
    exact FnPost.plain trivial (fun h2 e => by first | rfl | (simp only [Try.f78, vres, vresL, vres1, e _, gos, if_true, if_false, ne_eq, eq_self, Nat.reduceLT, Nat.reduceEqDiff, Nat.reduceAdd, Nat.reduceMul, Nat.reduceLeDiff, Nat.reduceBEq, reduceCtorEq, reduceIte, Array.toList, ↓reduceIte, tt, vgo, vout, vgoD, voutD, vclsOk, vids, mayWrite, V.ids, V.mids, vguard, callOf, vop, ev, cv, vbin, vint, isShift, isNilConst, vnil, isNilSlice, vload, vlen, newRow, vfill, vslice, entOf, vappend, srcOf, vcopy, vlookup, vupdate, mapOk, keyOf, intsOf, clsAt]; try rfl)) (WkV.pure (by simp only [V.into, intoL, cB_into, vB_into, cI_into, cR_into, cD_into, cS_into, vS_into, vI_into, vR_into, vD_into, cu_into, Bool.true_and, Bool.and_true])) ⟨by simp [sCheck, hb1, sBad2, h1, h2, h10], rfl⟩
  simp only [gos, if_true, if_false, ne_eq, eq_self, Nat.reduceLT, Nat.reduceEqDiff, Nat.reduceAdd, Nat.reduceMul, Nat.reduceLeDiff, Nat.reduceBEq, reduceCtorEq, reduceIte, Array.toList, ↓reduceIte, tt, vgo, vout, vgoD, voutD, vclsOk, vids, mayWrite, V.ids, V.mids, vguard, callOf, vop, ev, cv, vbin, vint, isShift, isNilConst, vnil, isNilSlice, vload, vlen, newRow, vfill, vslice, entOf, vappend, srcOf, vcopy, vlookup, vupdate, mapOk, keyOf, intsOf, clsAt, vR, i64_in (show -9223372036854775808 ≤ c.last + 1 by omega) (show c.last + 1 ≤ 9223372036854775807 by omega)]
  by_cases h11 : (c.loss.length : Int) = c.last + 1
  case neg =>
    have hb : ((c.loss.length : Int) != c.last + 1) = true := by simp [h11]
    simp only [gos, if_true, if_false, ne_eq, eq_self, Nat.reduceLT, Nat.reduceEqDiff, Nat.reduceAdd, Nat.reduceMul, Nat.reduceLeDiff, Nat.reduceBEq, reduceCtorEq, reduceIte, Array.toList, ↓reduceIte, tt, vgo, vout, vgoD, voutD, vclsOk, vids, mayWrite, V.ids, V.mids, vguard, callOf, vop, ev, cv, vbin, vint, isShift, isNilConst, vnil, isNilSlice, vload, vlen, newRow, vfill, vslice, entOf, vappend, srcOf, vcopy, vlookup, vupdate, mapOk, keyOf, intsOf, clsAt, hb]
    subst hQ
    exact FnPost.plain trivial (fun h2 e => by first | rfl | (simp only [Try.f78, vres, vresL, vres1, e _, gos, if_true, if_false, ne_eq, eq_self, Nat.reduceLT, Nat.reduceEqDiff, Nat.reduceAdd, Nat.reduceMul, Nat.reduceLeDiff, Nat.reduceBEq, reduceCtorEq, reduceIte, Array.toList, ↓reduceIte, tt, vgo, vout, vgoD, voutD, vclsOk, vids, mayWrite, V.ids, V.mids, vguard, callOf, vop, ev, cv, vbin, vint, isShift, isNilConst, vnil, isNilSlice, vload, vlen, newRow, vfill, vslice, entOf, vappend, srcOf, vcopy, vlookup, vupdate, mapOk, keyOf, intsOf, clsAt]; try rfl)) (WkV.pure (by simp only [V.into, intoL, cB_into, vB_into, cI_into, cR_into, cD_into, cS_into, vS_into, vI_into, vR_into, vD_into, cu_into, Bool.true_and, Bool.and_true])) ⟨by simp [sCheck, hb1, sBad2, h1, h2, h11], rfl⟩
  have hb : ((c.loss.length : Int) != c.last + 1) = false := by simp [h11]
  simp only [gos, if_true, if_false, ne_eq, eq_self, Nat.reduceLT, Nat.reduceEqDiff, Nat.reduceAdd, Nat.reduceMul, Nat.reduceLeDiff, Nat.reduceBEq, reduceCtorEq, reduceIte, Array.toList, ↓reduceIte, tt, vgo, vout, vgoD, voutD, vclsOk, vids, mayWrite, V.ids, V.mids, vguard, callOf, vop, ev, cv, vbin, vint, isShift, isNilConst, vnil, isNilSlice, vload, vlen, newRow, vfill, vslice, entOf, vappend, srcOf, vcopy, vlookup, vupdate, mapOk, keyOf, intsOf, clsAt, hb, vR]
  refine W.loop tabOk mixed (fun i : Nat => ([(1, .rop c.cs), (3, vi i)], [])) (fun i => c.loss.length - i) (fun i => i ≤ c.loss.length ∧ ∀ j : Nat, j < i → sInside (gR c.loss j) 99 = true) 0 ⟨by omega, fun j hj => by omega⟩ (Wk.env (by simp [subE, Env.get])) ?_
  rintro i ⟨hi, hno⟩
  by_cases hil : (i : Int) < c.loss.length
  · simp only [gos, if_true, if_false, ne_eq, eq_self, Nat.reduceLT, Nat.reduceEqDiff, Nat.reduceAdd, Nat.reduceMul, Nat.reduceLeDiff, Nat.reduceBEq, reduceCtorEq, reduceIte, Array.toList, ↓reduceIte, tt, vgo, vout, vgoD, voutD, vclsOk, vids, mayWrite, V.ids, V.mids, vguard, callOf, vop, ev, cv, vbin, vint, isShift, isNilConst, vnil, isNilSlice, vload, vlen, newRow, vfill, vslice, entOf, vappend, srcOf, vcopy, vlookup, vupdate, mapOk, keyOf, intsOf, clsAt, vR, hil, cR_at (Int.natCast_nonneg i) hil]
    refine Cl.pu (c_rInside _ _) ?_
    cases hr : sInside (gR c.loss i) 99 with
    | true =>
      simp only [gos, if_true, if_false, ne_eq, eq_self, Nat.reduceLT, Nat.reduceEqDiff, Nat.reduceAdd, Nat.reduceMul, Nat.reduceLeDiff, Nat.reduceBEq, reduceCtorEq, reduceIte, Array.toList, ↓reduceIte, tt, vgo, vout, vgoD, voutD, vclsOk, vids, mayWrite, V.ids, V.mids, vguard, callOf, vop, ev, cv, vbin, vint, isShift, isNilConst, vnil, isNilSlice, vload, vlen, newRow, vfill, vslice, entOf, vappend, srcOf, vcopy, vlookup, vupdate, mapOk, keyOf, intsOf, clsAt]
      refine Nx.mk (i + 1) (show c.loss.length - (i + 1) < c.loss.length - i by omega) ⟨by omega, fun j hj => ?_⟩ (Wk.env (by simp [subE, Env.get, i64_succ (show (i : Int) < 9223372036854775807 by omega)]))
      rcases Nat.lt_succ_iff_lt_or_eq.1 hj with h | rfl
      · exact hno j h
      · exact hr
    | false =>
      have h12 : (c.loss.all fun r => sInside r 99) = false := by
        rw [Bool.eq_false_iff]; intro ha
        rw [List.all_eq_true] at ha
        rw [ha _ (List.mem_of_getElem? (gR_get hil))] at hr; cases hr
      simp only [gos, if_true, if_false, ne_eq, eq_self, Nat.reduceLT, Nat.reduceEqDiff, Nat.reduceAdd, Nat.reduceMul, Nat.reduceLeDiff, Nat.reduceBEq, reduceCtorEq, reduceIte, Array.toList, ↓reduceIte, tt, vgo, vout, vgoD, voutD, vclsOk, vids, mayWrite, V.ids, V.mids, vguard, callOf, vop, ev, cv, vbin, vint, isShift, isNilConst, vnil, isNilSlice, vload, vlen, newRow, vfill, vslice, entOf, vappend, srcOf, vcopy, vlookup, vupdate, mapOk, keyOf, intsOf, clsAt]
      subst hQ
      exact FnPost.plain trivial (fun h2 e => by first | rfl | (simp only [Try.f78, vres, vresL, vres1, e _, gos, if_true, if_false, ne_eq, eq_self, Nat.reduceLT, Nat.reduceEqDiff, Nat.reduceAdd, Nat.reduceMul, Nat.reduceLeDiff, Nat.reduceBEq, reduceCtorEq, reduceIte, Array.toList, ↓reduceIte, tt, vgo, vout, vgoD, voutD, vclsOk, vids, mayWrite, V.ids, V.mids, vguard, callOf, vop, ev, cv, vbin, vint, isShift, isNilConst, vnil, isNilSlice, vload, vlen, newRow, vfill, vslice, entOf, vappend, srcOf, vcopy, vlookup, vupdate, mapOk, keyOf, intsOf, clsAt]; try rfl)) (WkV.pure (by simp only [V.into, intoL, cB_into, vB_into, cI_into, cR_into, cD_into, cS_into, vS_into, vI_into, vR_into, vD_into, cu_into, Bool.true_and, Bool.and_true])) ⟨by simp only [sCheck, hb1, sBad2, h1, h2, h12]; simp, rfl⟩
  have hall : ∀ r ∈ c.loss, sInside r 99 = true := fun r hr => by
    obtain ⟨j, hj, rfl⟩ := List.mem_iff_getElem.1 hr
    have := hno j (by omega)
    rwa [gR, Int.toNat_natCast, List.getD_eq_getElem?_getD, List.getElem?_eq_getElem hj] at this
  have h12 : (c.loss.all fun r => sInside r 99) = true := by rw [List.all_eq_true]; exact hall
  simp only [gos, if_true, if_false, ne_eq, eq_self, Nat.reduceLT, Nat.reduceEqDiff, Nat.reduceAdd, Nat.reduceMul, Nat.reduceLeDiff, Nat.reduceBEq, reduceCtorEq, reduceIte, Array.toList, ↓reduceIte, tt, vgo, vout, vgoD, voutD, vclsOk, vids, mayWrite, V.ids, V.mids, vguard, callOf, vop, ev, cv, vbin, vint, isShift, isNilConst, vnil, isNilSlice, vload, vlen, newRow, vfill, vslice, entOf, vappend, srcOf, vcopy, vlookup, vupdate, mapOk, keyOf, intsOf, clsAt, vR, hil, vD]
  refine W.loop tabOk mixed (fun i : Nat => ([(1, .rop c.cs), (4, vi i)], [])) (fun i => c.readings.length - i) (fun i => i ≤ c.readings.length ∧ ∀ j : Nat, j < i → sReading c (gD c.readings j) = true) 0 ⟨by omega, fun j hj => by omega⟩ (Wk.env (by simp [subE, Env.get])) ?_
  clear hi hil hno i
  rintro i ⟨hi, hno⟩
  by_cases hil : (i : Int) < c.readings.length
  · have h13f : sReading c (gD c.readings i) = false → (c.readings.all fun r => sReading c r) = false := fun hr => by
      rw [Bool.eq_false_iff]; intro ha
      rw [List.all_eq_true] at ha
      rw [ha _ (List.mem_of_getElem? (gD_get hil))] at hr; cases hr
    simp only [gos, if_true, if_false, ne_eq, eq_self, Nat.reduceLT, Nat.reduceEqDiff, Nat.reduceAdd, Nat.reduceMul, Nat.reduceLeDiff, Nat.reduceBEq, reduceCtorEq, reduceIte, Array.toList, ↓reduceIte, tt, vgo, vout, vgoD, voutD, vclsOk, vids, mayWrite, V.ids, V.mids, vguard, callOf, vop, ev, cv, vbin, vint, isShift, isNilConst, vnil, isNilSlice, vload, vlen, newRow, vfill, vslice, entOf, vappend, srcOf, vcopy, vlookup, vupdate, mapOk, keyOf, intsOf, clsAt, vD, hil]
    refine Wr.draw (by kernel_rfl) ?_
    simp only [gos, if_true, if_false, ne_eq, eq_self, Nat.reduceLT, Nat.reduceEqDiff, Nat.reduceAdd, Nat.reduceMul, Nat.reduceLeDiff, Nat.reduceBEq, reduceCtorEq, reduceIte, Array.toList, ↓reduceIte, tt, vgo, vout, vgoD, voutD, vclsOk, vids, mayWrite, V.ids, V.mids, vguard, callOf, vop, ev, cv, vbin, vint, isShift, isNilConst, vnil, isNilSlice, vload, vlen, newRow, vfill, vslice, entOf, vappend, srcOf, vcopy, vlookup, vupdate, mapOk, keyOf, intsOf, clsAt, vD, hil, cD_at (Int.natCast_nonneg i) hil]
    refine CD.pu (c_rIn _ _ _) ?_
    cases hr : sIn (gD c.readings i).hour 0 c.last with
    | false =>
      have h13 := h13f (by simp [sReading, hr])
      simp only [gos, if_true, if_false, ne_eq, eq_self, Nat.reduceLT, Nat.reduceEqDiff, Nat.reduceAdd, Nat.reduceMul, Nat.reduceLeDiff, Nat.reduceBEq, reduceCtorEq, reduceIte, Array.toList, ↓reduceIte, tt, vgo, vout, vgoD, voutD, vclsOk, vids, mayWrite, V.ids, V.mids, vguard, callOf, vop, ev, cv, vbin, vint, isShift, isNilConst, vnil, isNilSlice, vload, vlen, newRow, vfill, vslice, entOf, vappend, srcOf, vcopy, vlookup, vupdate, mapOk, keyOf, intsOf, clsAt]
      subst hQ
      exact FnPost.plain trivial (fun h2 e => by first | rfl | (simp only [Try.f78, vres, vresL, vres1, e _, gos, if_true, if_false, ne_eq, eq_self, Nat.reduceLT, Nat.reduceEqDiff, Nat.reduceAdd, Nat.reduceMul, Nat.reduceLeDiff, Nat.reduceBEq, reduceCtorEq, reduceIte, Array.toList, ↓reduceIte, tt, vgo, vout, vgoD, voutD, vclsOk, vids, mayWrite, V.ids, V.mids, vguard, callOf, vop, ev, cv, vbin, vint, isShift, isNilConst, vnil, isNilSlice, vload, vlen, newRow, vfill, vslice, entOf, vappend, srcOf, vcopy, vlookup, vupdate, mapOk, keyOf, intsOf, clsAt]; try rfl)) (WkV.pure (by simp only [V.into, intoL, cB_into, vB_into, cI_into, cR_into, cD_into, cS_into, vS_into, vI_into, vR_into, vD_into, cu_into, Bool.true_and, Bool.and_true])) ⟨by simp only [sCheck, hb1, sBad2, h1, h2, h13]; simp, rfl⟩
    | true =>
      simp only [gos, if_true, if_false, ne_eq, eq_self, Nat.reduceLT, Nat.reduceEqDiff, Nat.reduceAdd, Nat.reduceMul, Nat.reduceLeDiff, Nat.reduceBEq, reduceCtorEq, reduceIte, Array.toList, ↓reduceIte, tt, vgo, vout, vgoD, voutD, vclsOk, vids, mayWrite, V.ids, V.mids, vguard, callOf, vop, ev, cv, vbin, vint, isShift, isNilConst, vnil, isNilSlice, vload, vlen, newRow, vfill, vslice, entOf, vappend, srcOf, vcopy, vlookup, vupdate, mapOk, keyOf, intsOf, clsAt, vD, hil, cD_at (Int.natCast_nonneg i) hil]
      refine CD.pu (c_rInside _ _) ?_
      cases hr2 : sInside (gD c.readings i).b 999 with
      | false =>
        have h13 := h13f (by simp [sReading, hr, hr2])
        simp only [gos, if_true, if_false, ne_eq, eq_self, Nat.reduceLT, Nat.reduceEqDiff, Nat.reduceAdd, Nat.reduceMul, Nat.reduceLeDiff, Nat.reduceBEq, reduceCtorEq, reduceIte, Array.toList, ↓reduceIte, tt, vgo, vout, vgoD, voutD, vclsOk, vids, mayWrite, V.ids, V.mids, vguard, callOf, vop, ev, cv, vbin, vint, isShift, isNilConst, vnil, isNilSlice, vload, vlen, newRow, vfill, vslice, entOf, vappend, srcOf, vcopy, vlookup, vupdate, mapOk, keyOf, intsOf, clsAt]
        subst hQ
        exact FnPost.plain trivial (fun h2 e => by first | rfl | (simp only [Try.f78, vres, vresL, vres1, e _, gos, if_true, if_false, ne_eq, eq_self, Nat.reduceLT, Nat.reduceEqDiff, Nat.reduceAdd, Nat.reduceMul, Nat.reduceLeDiff, Nat.reduceBEq, reduceCtorEq, reduceIte, Array.toList, ↓reduceIte, tt, vgo, vout, vgoD, voutD, vclsOk, vids, mayWrite, V.ids, V.mids, vguard, callOf, vop, ev, cv, vbin, vint, isShift, isNilConst, vnil, isNilSlice, vload, vlen, newRow, vfill, vslice, entOf, vappend, srcOf, vcopy, vlookup, vupdate, mapOk, keyOf, intsOf, clsAt]; try rfl)) (WkV.pure (by simp only [V.into, intoL, cB_into, vB_into, cI_into, cR_into, cD_into, cS_into, vS_into, vI_into, vR_into, vD_into, cu_into, Bool.true_and, Bool.and_true])) ⟨by simp only [sCheck, hb1, sBad2, h1, h2, h13]; simp, rfl⟩
      | true =>
        simp only [gos, if_true, if_false, ne_eq, eq_self, Nat.reduceLT, Nat.reduceEqDiff, Nat.reduceAdd, Nat.reduceMul, Nat.reduceLeDiff, Nat.reduceBEq, reduceCtorEq, reduceIte, Array.toList, ↓reduceIte, tt, vgo, vout, vgoD, voutD, vclsOk, vids, mayWrite, V.ids, V.mids, vguard, callOf, vop, ev, cv, vbin, vint, isShift, isNilConst, vnil, isNilSlice, vload, vlen, newRow, vfill, vslice, entOf, vappend, srcOf, vcopy, vlookup, vupdate, mapOk, keyOf, intsOf, clsAt]
        refine Nx.mk (i + 1) (show c.readings.length - (i + 1) < c.readings.length - i by omega) ⟨by omega, fun j hj => ?_⟩ (Wk.env (by simp [subE, Env.get, i64_succ (show (i : Int) < 9223372036854775807 by omega)]))
        rcases Nat.lt_succ_iff_lt_or_eq.1 hj with h | rfl
        · exact hno j h
        · simp [sReading, hr, hr2]
  have h13 : (c.readings.all fun r => sReading c r) = true := by
    rw [List.all_eq_true]
    intro r hr
    obtain ⟨j, hj, rfl⟩ := List.mem_iff_getElem.1 hr
    have := hno j (by omega)
    rwa [gD, Int.toNat_natCast, List.getD_eq_getElem?_getD, List.getElem?_eq_getElem hj] at this
  have hb2 : sBad2 c = false := by simp only [sBad2, h8', h9', h10, h11, h12, h13]; simp
  simp only [gos, if_true, if_false, ne_eq, eq_self, Nat.reduceLT, Nat.reduceEqDiff, Nat.reduceAdd, Nat.reduceMul, Nat.reduceLeDiff, Nat.reduceBEq, reduceCtorEq, reduceIte, Array.toList, ↓reduceIte, tt, vgo, vout, vgoD, voutD, vclsOk, vids, mayWrite, V.ids, V.mids, vguard, callOf, vop, ev, cv, vbin, vint, isShift, isNilConst, vnil, isNilSlice, vload, vlen, newRow, vfill, vslice, entOf, vappend, srcOf, vcopy, vlookup, vupdate, mapOk, keyOf, intsOf, clsAt, vD, hil]
  refine Cl.pu (c_rMany c h10 hc.loss hall) ?_ rfl (by simp only [V.into, intoL, cB_into, vB_into, cI_into, cR_into, cD_into, cS_into, vS_into, vI_into, vR_into, vD_into, cu_into, Bool.true_and, Bool.and_true])
  have hm := many_iff h10 hall
  by_cases h14 : 2000 < rMany c
  · have h15 : 2000 < sMany c := by rw [← hm]; exact h14
    simp only [gos, if_true, if_false, ne_eq, eq_self, Nat.reduceLT, Nat.reduceEqDiff, Nat.reduceAdd, Nat.reduceMul, Nat.reduceLeDiff, Nat.reduceBEq, reduceCtorEq, reduceIte, Array.toList, ↓reduceIte, tt, vgo, vout, vgoD, voutD, vclsOk, vids, mayWrite, V.ids, V.mids, vguard, callOf, vop, ev, cv, vbin, vint, isShift, isNilConst, vnil, isNilSlice, vload, vlen, newRow, vfill, vslice, entOf, vappend, srcOf, vcopy, vlookup, vupdate, mapOk, keyOf, intsOf, clsAt, h14]
    subst hQ
    exact FnPost.plain trivial (fun h2 e => by first | rfl | (simp only [Try.f78, vres, vresL, vres1, e _, gos, if_true, if_false, ne_eq, eq_self, Nat.reduceLT, Nat.reduceEqDiff, Nat.reduceAdd, Nat.reduceMul, Nat.reduceLeDiff, Nat.reduceBEq, reduceCtorEq, reduceIte, Array.toList, ↓reduceIte, tt, vgo, vout, vgoD, voutD, vclsOk, vids, mayWrite, V.ids, V.mids, vguard, callOf, vop, ev, cv, vbin, vint, isShift, isNilConst, vnil, isNilSlice, vload, vlen, newRow, vfill, vslice, entOf, vappend, srcOf, vcopy, vlookup, vupdate, mapOk, keyOf, intsOf, clsAt]; try rfl)) (WkV.pure (by simp only [V.into, intoL, cB_into, vB_into, cI_into, cR_into, cD_into, cS_into, vS_into, vI_into, vR_into, vD_into, cu_into, Bool.true_and, Bool.and_true])) ⟨by simp [sCheck, hb1, hb2, h1, h2, h15], rfl⟩
  · have h15 : ¬ 2000 < sMany c := by rw [← hm]; exact h14
    simp only [gos, if_true, if_false, ne_eq, eq_self, Nat.reduceLT, Nat.reduceEqDiff, Nat.reduceAdd, Nat.reduceMul, Nat.reduceLeDiff, Nat.reduceBEq, reduceCtorEq, reduceIte, Array.toList, ↓reduceIte, tt, vgo, vout, vgoD, voutD, vclsOk, vids, mayWrite, V.ids, V.mids, vguard, callOf, vop, ev, cv, vbin, vint, isShift, isNilConst, vnil, isNilSlice, vload, vlen, newRow, vfill, vslice, entOf, vappend, srcOf, vcopy, vlookup, vupdate, mapOk, keyOf, intsOf, clsAt, h14]
    subst hQ
    exact FnPost.plain trivial (fun h2 e => by first | rfl | (simp only [Try.f78, vres, vresL, vres1, e _, gos, if_true, if_false, ne_eq, eq_self, Nat.reduceLT, Nat.reduceEqDiff, Nat.reduceAdd, Nat.reduceMul, Nat.reduceLeDiff, Nat.reduceBEq, reduceCtorEq, reduceIte, Array.toList, ↓reduceIte, tt, vgo, vout, vgoD, voutD, vclsOk, vids, mayWrite, V.ids, V.mids, vguard, callOf, vop, ev, cv, vbin, vint, isShift, isNilConst, vnil, isNilSlice, vload, vlen, newRow, vfill, vslice, entOf, vappend, srcOf, vcopy, vlookup, vupdate, mapOk, keyOf, intsOf, clsAt]; try rfl)) (WkV.pure (by simp only [V.into, intoL, cB_into, vB_into, cI_into, cR_into, cD_into, cS_into, vS_into, vI_into, vR_into, vD_into, cu_into, Bool.true_and, Bool.and_true])) ⟨by simp [sCheck, hb1, hb2, h1, h2, h15], rfl⟩
end Go.Vm
