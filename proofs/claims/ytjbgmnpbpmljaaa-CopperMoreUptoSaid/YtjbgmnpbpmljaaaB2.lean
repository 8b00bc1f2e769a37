import Derived.Test.YtjbgmnpbpmljaaaB1
set_option linter.unusedVariables false
set_option linter.unusedSimpArgs false
set_option maxRecDepth 100000
namespace Go.Vm
open Go.Proofs
/-- An own block is lent for a call of a function that only reads; the result does not speak of blocks. -/
theorem Ev.lend {P : Program} {fv fv' : V} {args args' : List V} {v : V} {h : Heap} (i : Nat) {ver : Nat} {cs : List V} (hi : h.get i = some ⟨ver, .row cs⟩) (hc : intoL (fun j => decide (j ≠ i)) cs = true) (hl : noLoopOn i h = true)
    (hf : fv.frz i ver cs = fv') (ha : frzL i ver cs args = args') (c : Pu P fv' args' v) (hv : ∀ g g' x, VR g v x → VR g' v x) (hf2 : fv'.into (fun _ => false) = true := by rfl) (ha2 : intoL (fun _ => false) args' = true := by rfl) :
    Ev P fv args h fun v' h' => v' = v ∧ h' = h := by
  intro g w fc vs h1 h2 H
  obtain ⟨g', hv', H', t', _⟩ := (WkV.of_wk (p := fun _ => false) (v := .tup (fv :: args)) (v' := .tup (fv' :: args')) (h := h) (h' := frzH i ver cs h) (by
    have := Wk.freeze (p := fun _ => false) (ρ := [(0, .tup (fv :: args))]) i hi rfl hc hl
    simpa only [frzE, V.frz, frzL, hf, ha] using this)) g w (.tuple (fc :: vs).toArray) (by
      simp only [VR]; exact ⟨(fc :: vs).toArray, rfl, VRL.cons h1 h2⟩) H
  simp only [VR] at hv'
  obtain ⟨us, e1, hv'⟩ := hv'
  injection e1 with e1; subst e1
  simp only [VRL] at hv'
  obtain ⟨u, us', e2, k1, k2⟩ := hv'
  injection e2 with e2 e3; subst e2; subst e3
  have Hc : HRel (g'.cut (domP [])) [] w := H'.cut (fun i e he => by cases he) rfl
  obtain ⟨fr0, hbg, c⟩ := c (g'.cut (domP [])) w fc vs (k1.sub (g'.cut_sub _) _ _ hf2) (k2.sub (g'.cut_sub _) _ _ ha2) Hc
  refine ⟨fr0, hbg, fun cl cs' => ?_⟩
  obtain ⟨v1, h'', vc, g1, w1, ⟨rfl, rfl⟩, st, hv1, H1, T1, hle⟩ := c cl cs'
  have hun : ∀ B, B < w.heap.size → w1.heap[B]? = w.heap[B]? := fun B hB => T1.mods B hB (by rintro ⟨j, e, c', hj, _⟩; cases hj)
  refine ⟨_, h, vc, g, w1, ⟨rfl, rfl⟩, st, hv _ _ _ hv1, ⟨fun B o x e => ?_, fun j e he => ?_, H.inj, H.apart, H.dom⟩, ⟨T1.os, T1.tape, T1.output, T1.size, fun B hB _ => hun B hB, fun B o _ => o, fun _ _ _ e => e, fun _ _ e => .inl e⟩, Gh.le.refl g⟩
  · exact H1.ro B o x (hle.ro _ _ _ (t'.romono _ _ _ e))
  · obtain ⟨x, h3, h4⟩ := H.own j e he
    exact ⟨x, h3, h4.le (Gh.le.refl g) fun B cc hx => by subst hx; exact hun B (H.lt ⟨j, e, cc, he, h3⟩)⟩
/-! ### Keeps -/
def sKeepsA (c : Cu) : List Int × Int :=
  if sAsked c true = 0 then (nI (c.last + 1) fun i => sVerdict (sB c fun p => if gB p.kept i then 1 else 0), 0) else ([], sAsked c true)
def kpF (c : Cu) (i : Int) : Int := sVerdict (sB c fun p => if gB p.kept i then 1 else 0)
def kpSt (c : Cu) (i : Nat) : Env × Heap :=
  ([(1, .rop c.cs), (6, .own 31 i 0 1 i), (4, .rop (wcs c (sTruth c) .any)), (18, vi (c.last + 1)), (19, vi i)], [(31, ⟨i, .row (cI (nI i (kpF c)))⟩)])
theorem WkV.nil1 {a : V} : WkV (domP []) (.tup [.sl0, a]) [] (.tup [vI [], a]) [] := WkV.less (ImpV.tup ⟨sl0_vI, ImpV.refl _, trivial⟩)
set_option maxHeartbeats 2000000 in
theorem c_Keeps (c : Cu) (hc : c.wf) : Pu Try.prog (.fn 53 [] []) [.agg c.cs] (.tup [vI (sKeepsA c).1, vi (sKeepsA c).2]) := by
  refine Ev.fn Try.func53 rfl rfl (Fn.body tabOk Try.func53 rfl (Nat.le_of_ble_eq_true rfl) (Ks.ok (fz := (fzn [])) (cl := (cln [])) tabOk mixed ?_))
  generalize hQ : FnPost tt Try.f53 _ _ = Q
  simp only [Try.f53, List.nil_append, List.append_nil, argsEnv]
  simp only [gos, eq_self, Nat.reduceLT, Nat.reduceEqDiff, reduceCtorEq, reduceIte, ↓reduceIte, tt, vgo, vout, vguard, callOf, vop, ev, cv, vload, newRow]
  refine Cl.pu (c_asked0 c hc true) ?_ rfl (by simp only [V.into, intoL, cu_into, Bool.and_true])
  by_cases h0 : sAsked c true = 0
  case neg =>
    have hb : (sAsked c true != 0) = true := by simp [h0]
    simp only [gos, eq_self, Nat.reduceLT, Nat.reduceEqDiff, reduceIte, ↓reduceIte, vgo, vout, vguard, callOf, vop, ev, cv, vbin, vint, isShift, isNilConst, hb]
    subst hQ
    have hr : sKeepsA c = ([], sAsked c true) := by simp [sKeepsA, h0]
    rw [hr]
    exact FnPost.plain trivial (v := .tup [.sl0, vi (sAsked c true)]) (fun h2 e => by rfl) WkV.nil1 ⟨rfl, rfl⟩
  have A := askOk_of h0
  have hl := A.k0.last
  have hb : (sAsked c true != 0) = false := by simp [h0]
  simp only [gos, eq_self, Nat.reduceLT, Nat.reduceEqDiff, reduceCtorEq, reduceIte, ↓reduceIte, tt, vgo, vout, vguard, callOf, vop, ev, cv, vbin, vint, isShift, isNilConst, vload, askV, h0, i64_in (show -9223372036854775808 ≤ c.last + 1 by omega) (show c.last + 1 ≤ 9223372036854775807 by omega)]
  have hq : ∀ s ∈ sTruth c, PlayOk c s c.coal c.want := fun s hs => A.k0.play0 (A.sc s hs)
  refine W.loop tabOk mixed (kpSt c) (fun i => (c.last + 1).toNat - i) (fun i => (i : Int) ≤ c.last + 1) 0 (by omega) (Wk.trans (Wk.sl0E 6 31 1 rfl rfl) (Wk.env ?_)) ?_
  · simp [subE, Env.get, kpSt]
  intro i hi
  by_cases hil : (i : Int) < c.last + 1
  · have hn1 : (cI (nI i (kpF c))).length = i := by rw [cI_len, nI_len]
    have hi9 : i ≤ 999999 := by omega
    simp only [gos, eq_self, Nat.reduceLT, Nat.reduceEqDiff, Nat.reduceAdd, reduceCtorEq, reduceIte, ↓reduceIte, tt, vgo, vout, vguard, callOf, vop, ev, vbin, vint, isShift, isNilConst, vload, vfill, kpSt, hil]
    refine Cl.pu (c_bounds _ (fun p => if gB p.kept i then 1 else 0) c (sTruth c) c.want i (by have := A.len; omega) A.ok hq ?_) ?_ rfl (by simp only [V.into, intoL, vI_into, Bool.and_true, wc_any])
    · intro s hs
      have := (sPlay_inv (hq s hs) (c.last + 1).toNat (by omega)).2.2.2.2
      exact c_pfulfilled _ i (by omega) (by simp only [sPast]; omega)
    simp only [gos, eq_self, Nat.reduceLT, reduceIte, ↓reduceIte, vgo, vout, vguard, callOf, ev]
    refine Cl.pu (c_verdict _) ?_
    simp only [gos, eq_self, Nat.reduceLT, Nat.reduceEqDiff, Nat.reduceAdd, Nat.reduceLeDiff, reduceCtorEq, reduceIte, ↓reduceIte, tt, vgo, vout, vguard, callOf, vop, ev, cv, vbin, vint, isShift, isNilConst, vfill, vappend, srcOf, hn1, hi9, Nat.mul_one]
    refine Nx.mk (i + 1) (show (c.last + 1).toNat - (i + 1) < (c.last + 1).toNat - i by omega) (by omega) (Wk.heap (fun j => ?_) ?_)
    · simp only [kpSt, nI_succ, cI_snoc]; rfl
    · simp [subE, Env.get, kpSt, i64_succ (show (i : Int) < 9223372036854775807 by omega)]
  · have hie : ((i : Nat) : Int) = c.last + 1 := by omega
    simp only [gos, eq_self, Nat.reduceLT, Nat.reduceEqDiff, reduceIte, ↓reduceIte, vgo, vout, vguard, callOf, vop, ev, cv, vbin, vint, isShift, isNilConst, kpSt, hil]
    subst hQ
    have hr : sKeepsA c = (nI i (kpF c), 0) := by rw [sKeepsA, if_pos h0, hie]; rfl
    rw [hr]
    refine FnPost.plain trivial (v := .tup [.own 31 i 0 1 i, vi 0]) (fun h2 e => by rfl) ?_ ⟨rfl, rfl⟩
    have hn1 : (nI i (kpF c)).length = i := nI_len _ _
    have ht : (cI (nI i (kpF c))).take i = cI (nI i (kpF c)) := List.take_of_length_le (by rw [cI_len]; omega)
    refine WkV.frz 31 (v' := .tup [vI (nI i (kpF c)), vi 0]) (h' := []) (ver := i) (cs := cI (nI i (kpF c))) rfl rfl (cI_into _ _) rfl ?_ ?_ WkV.refl
    · simp [V.frz, frzL, vI, hn1, ht]
    · simp [frzH]
/-! ### More -/
def sMoreA (c : Cu) (more : List Int) : Int × Int :=
  if sAsked c (sPromised c more) = 0 then (sWith c (sTruth c) more, 0) else (0, sAsked c (sPromised c more))
theorem sAdd_get (want more : List Int) : ∀ (i j : Nat), j < want.length → gi (sAdd want more i) j = if j < i then gi want j + gi more j else gi want j
  | 0, j, _ => by simp [sAdd]
  | i + 1, j, hj => by
    have hl := sAdd_len want more i
    by_cases h : i = j
    · subst h
      have : gi (sAdd want more (i + 1)) i = gi (sAdd want more i) i + gi more i := by
        simp only [sAdd, gi, Int.toNat_natCast, List.getD_eq_getElem?_getD]
        rw [List.getElem?_set_self (by omega)]; rfl
      rw [this, sAdd_get want more i i hj]
      simp
    · rw [sAdd, gi_set_ne _ h, sAdd_get want more i j hj]
      by_cases h2 : j < i
      · rw [if_pos h2, if_pos (by omega)]
      · rw [if_neg h2, if_neg (by omega)]
theorem mem_gi {l : List Int} {x : Int} (h : x ∈ l) : ∃ j : Nat, j < l.length ∧ gi l j = x := by
  obtain ⟨j, hj, rfl⟩ := List.mem_iff_getElem.1 h
  exact ⟨j, hj, by rw [gi, Int.toNat_natCast, List.getD_eq_getElem?_getD, List.getElem?_eq_getElem hj]; rfl⟩
/-- Promises that can be added. -/
theorem with_ok {c : Cu} (k : CuOk c) {more : List Int} (h1 : (more.length : Int) = c.last + 1) (h2 : ∀ x ∈ more, 0 ≤ x ∧ x ≤ 20) {s : Sc} (hs : ScOk c s) : PlayOk c s c.coal (sAdd c.want more more.length) := by
  have hw := k.want
  refine k.play hs ⟨k.coal.1, fun x hx => by have := k.coal.2 x hx; have := k.shovels; omega⟩ ⟨by rw [sAdd_len]; exact hw.1, fun x hx => ?_⟩
  obtain ⟨j, hj, rfl⟩ := mem_gi hx
  rw [sAdd_len] at hj
  rw [sAdd_get _ _ _ _ hj]
  have a1 := hw.2 _ (gi_mem hj)
  split
  · have a2 := h2 _ (gi_mem (l := more) (i := j) (by omega))
    omega
  · omega
theorem with_b {c : Cu} (k : CuOk c) {more : List Int} (h1 : (more.length : Int) = c.last + 1) (h2 : ∀ x ∈ more, 0 ≤ x ∧ x ≤ 20) : ∀ i, i < c.want.length → 0 ≤ gi c.want i ∧ gi c.want i ≤ 20 ∧ 0 ≤ gi more i ∧ gi more i ≤ 20 := fun i hi => by
  have a1 := k.want.2 _ (gi_mem hi)
  have a2 := h2 _ (gi_mem (l := more) (i := i) (by have := k.want.1; omega))
  exact ⟨a1.1, a1.2, a2.1, a2.2⟩
theorem promised_ok {c : Cu} {l : List Int} (h : sPromised c l = true) : (l.length : Int) = c.last + 1 ∧ ∀ x ∈ l, 0 ≤ x ∧ x ≤ 20 := by
  simp only [sPromised, sIn, Bool.and_eq_true, decide_eq_true_eq, List.all_eq_true] at h
  exact h
set_option maxHeartbeats 2000000 in
theorem c_More (c : Cu) (hc : c.wf) (more : List Int) (hm : (more.length : Int) ≤ 1000000) : Pu Try.prog (.fn 27 [] []) [.agg c.cs, vI more] (.tup [vi (sMoreA c more).1, vi (sMoreA c more).2]) := by
  refine Ev.fn Try.func27 rfl rfl (Fn.body tabOk Try.func27 rfl (Nat.le_of_ble_eq_true rfl) (Ks.ok (fz := (fzn [])) (cl := (cln [(1, .d tg0 [cP, cP, cP, cP, cP, cP, cP, cP, cP, cP])])) tabOk mixed ?_))
  generalize hQ : FnPost tt Try.f27 _ _ = Q
  simp only [Try.f27, List.nil_append, List.append_nil, argsEnv, Nat.reduceAdd]
  simp only [gos, eq_self, Nat.reduceLT, reduceCtorEq, reduceIte, ↓reduceIte, vgo, vout, vguard, callOf, vop, ev, cv, newRow]
  refine Wr.draw (by kernel_rfl) ?_
  simp only [gos, eq_self, Nat.reduceLT, Nat.reduceEqDiff, Nat.reduceAdd, reduceCtorEq, reduceIte, ↓reduceIte, tt, vgoD, voutD, vclsOk, vids, mayWrite, V.ids, vguard, callOf, vop, ev, vload, clsAt]
  refine CD.pu (c_promised c more hc.last hm) ?_ rfl (by simp only [V.into, intoL, vI_into, cu_into, Bool.and_true])
  simp only [gos, eq_self, Nat.reduceLT, Nat.reduceEqDiff, reduceIte, ↓reduceIte, vgoD, voutD, vguard, callOf, ev]
  refine CD.pu (c_asked0 c hc (sPromised c more)) ?_ rfl (by simp only [V.into, intoL, cu_into, Bool.and_true])
  by_cases h0 : sAsked c (sPromised c more) = 0
  case neg =>
    have hb : (sAsked c (sPromised c more) != 0) = true := by simp [h0]
    simp only [gos, eq_self, Nat.reduceLT, Nat.reduceEqDiff, reduceIte, ↓reduceIte, vgo, vout, vgoD, voutD, vclsOk, vids, mayWrite, vguard, callOf, vop, ev, cv, vbin, vint, isShift, isNilConst, hb]
    subst hQ
    have hr : sMoreA c more = (0, sAsked c (sPromised c more)) := by simp [sMoreA, h0]
    rw [hr]
    exact FnPost.plain trivial (fun h2 e => by rfl) WkV.refl ⟨rfl, rfl⟩
  have A := askOk_of h0
  have hp := promised_ok A.fine
  have hb : (sAsked c (sPromised c more) != 0) = false := by simp [h0]
  simp only [gos, eq_self, Nat.reduceLT, Nat.reduceEqDiff, reduceCtorEq, reduceIte, ↓reduceIte, vgo, vout, vgoD, voutD, vclsOk, vids, mayWrite, vguard, callOf, vop, ev, cv, vbin, vint, isShift, isNilConst, askV, h0]
  refine Cl.pu (c_with c (sTruth c) more (by have := A.len; omega) A.ok (by have := A.k0.want.1; have := A.k0.last; omega) (by have := A.k0.want.1; omega) (with_b A.k0 hp.1 hp.2) fun s hs => with_ok A.k0 hp.1 hp.2 (A.sc s hs)) ?_ rfl (by simp only [V.into, intoL, vI_into, Bool.and_true, wc_any])
  simp only [gos, eq_self, Nat.reduceLT, reduceIte, ↓reduceIte, vgo, vout, vguard, callOf, vop, ev, cv]
  subst hQ
  have hr : sMoreA c more = (sWith c (sTruth c) more, 0) := by simp [sMoreA, h0]
  rw [hr]
  exact FnPost.plain trivial (fun h2 e => by rfl) WkV.refl ⟨rfl, rfl⟩
end Go.Vm

set_option linter.unusedVariables false
set_option linter.unusedSimpArgs false
set_option maxRecDepth 100000
namespace Go.Vm
open Go.Proofs
/-- A number of buckets more in an hour. -/
def moreAt (c : Cu) (hour n : Int) : List Int := (List.replicate (c.last + 1).toNat 0).set hour.toNat n
def sSpareA (c : Cu) (hour : Int) : Int × Int :=
  if sAsked c (sIn hour 0 c.last) = 0 then (match (List.range 21).find? fun (j : Nat) => decide (sWith c (sTruth c) (moreAt c hour (20 - j)) = 1) with
    | some j => (20 - j, 0)
    | none => (0, 10)) else (0, sAsked c (sIn hour 0 c.last))
theorem moreAt_len (c : Cu) (hour n : Int) : (moreAt c hour n).length = (c.last + 1).toNat := by simp [moreAt]
theorem moreAt_le {c : Cu} {hour n : Int} (h : 0 ≤ n ∧ n ≤ 20) : ∀ x ∈ moreAt c hour n, 0 ≤ x ∧ x ≤ 20 := fun x hx => by
  rcases List.mem_or_eq_of_mem_set hx with hx | rfl
  · rw [List.mem_replicate] at hx; omega
  · exact h
theorem moreAt_set (c : Cu) (hour n m : Int) : (moreAt c hour m).set hour.toNat n = moreAt c hour n := by simp [moreAt]
theorem moreAt_zero (c : Cu) (hour : Int) : moreAt c hour 0 = List.replicate (c.last + 1).toNat 0 := by
  refine List.ext_getElem? fun j => ?_
  simp only [moreAt, List.getElem?_set, List.getElem?_replicate, List.length_replicate]
  by_cases h : hour.toNat = j
  · simp [h]
  · simp [h]
theorem zeros_vi : ∀ n : Nat, zeros [vi 0] n = cI (List.replicate n 0)
  | 0 => rfl
  | n + 1 => by simp only [zeros, List.replicate_succ, cI, List.map_cons, zeros_vi n]; rfl
theorem find_range {p : Nat → Bool} {n : Nat} : ∀ {a : Nat}, a < n → p a = true → (∀ j, j < a → p j = false) → (List.range n).find? p = some a := by
  intro a ha h1 h2
  rw [List.find?_eq_some_iff_getElem]
  refine ⟨h1, a, by simpa using ha, by simp, fun j hj => ?_⟩
  simp [h2 j hj]
set_option maxHeartbeats 2000000 in
theorem c_Spare (c : Cu) (hc : c.wf) (hour : Int) : Pu Try.prog (.fn 29 [] []) [.agg c.cs, vi hour] (.tup [vi (sSpareA c hour).1, vi (sSpareA c hour).2]) := by
  refine Ev.fn Try.func29 rfl rfl (Fn.body tabOk Try.func29 rfl (Nat.le_of_ble_eq_true rfl) (Ks.ok (fz := (fzn [24])) (cl := (cln [(1, .d tg0 [cP, cP, cP, cP, cP, cP, cP, cP, cP, cP])])) tabOk mixed ?_))
  generalize hQ : FnPost tt Try.f29 _ _ = Q
  simp only [Try.f29, List.nil_append, List.append_nil, argsEnv, Nat.reduceAdd]
  simp only [gos, eq_self, Nat.reduceLT, Nat.reduceEqDiff, reduceCtorEq, reduceIte, ↓reduceIte, vgo, vout, vguard, callOf, vop, ev, cv, newRow]
  refine Wr.draw (by kernel_rfl) ?_
  simp only [gos, eq_self, Nat.reduceLT, Nat.reduceEqDiff, Nat.reduceAdd, reduceCtorEq, reduceIte, ↓reduceIte, tt, vgoD, voutD, vclsOk, vids, mayWrite, V.ids, vguard, callOf, vop, ev, vload, clsAt]
  refine CD.pu (c_hour c hour) ?_ rfl (by simp only [V.into, intoL, cu_into, Bool.and_true])
  simp only [gos, eq_self, Nat.reduceLT, Nat.reduceEqDiff, reduceIte, ↓reduceIte, vgoD, voutD, vguard, callOf, ev]
  refine CD.pu (c_asked0 c hc (sIn hour 0 c.last)) ?_ rfl (by simp only [V.into, intoL, cu_into, Bool.and_true])
  by_cases h0 : sAsked c (sIn hour 0 c.last) = 0
  case neg =>
    have hb : (sAsked c (sIn hour 0 c.last) != 0) = true := by simp [h0]
    simp only [gos, eq_self, Nat.reduceLT, Nat.reduceEqDiff, reduceIte, ↓reduceIte, vgo, vout, vgoD, voutD, vclsOk, vids, mayWrite, vguard, callOf, vop, ev, cv, vbin, vint, isShift, isNilConst, hb]
    subst hQ
    have hr : sSpareA c hour = (0, sAsked c (sIn hour 0 c.last)) := by simp [sSpareA, h0]
    rw [hr]
    exact FnPost.plain trivial (fun h2 e => by rfl) WkV.refl ⟨rfl, rfl⟩
  have A := askOk_of h0
  have hf := A.fine
  simp only [sIn, Bool.and_eq_true, decide_eq_true_eq] at hf
  have hl := A.k0.last
  have hb : (sAsked c (sIn hour 0 c.last) != 0) = false := by simp [h0]
  have hn : ((c.last + 1).toNat : Int) = c.last + 1 := by omega
  have hge : 0 ≤ c.last + 1 := by omega
  have hle : c.last + 1 ≤ 1000000 := by omega
  simp only [gos, eq_self, Nat.reduceLT, Nat.reduceEqDiff, Nat.reduceLeDiff, reduceCtorEq, reduceIte, ↓reduceIte, tt, vgo, vout, vgoD, voutD, vclsOk, vids, mayWrite, vguard, callOf, vop, ev, cv, vbin, vint, isShift, isNilConst, vload, askV, h0, i64_in (show -9223372036854775808 ≤ c.last + 1 by omega) (show c.last + 1 ≤ 9223372036854775807 by omega), hge, hle]
  refine W.loop tabOk mixed (fun a : Nat × Int => ([(1, vi hour), (6, .rop (wcs c (sTruth c) .any)), (8, .own 24 0 0 1 (c.last + 1).toNat), (9, vi (20 - (a.1 : Int)))], [(24, ⟨0, .row (cI (moreAt c hour a.2))⟩)])) (fun a => 21 - a.1)
    (fun a => a.1 ≤ 21 ∧ ∀ j, j < a.1 → decide (sWith c (sTruth c) (moreAt c hour (20 - (j : Nat))) = 1) = false) (0, 0) ⟨by simp, by intro j hj; simp at hj⟩ (Wk.heap (fun j => ?_) (by simp [subE, Env.get])) ?_
  · simp only [moreAt_zero]
    rw [← zeros_vi]
  rintro ⟨a, m⟩ ⟨ha, hno⟩
  simp only at ha hno ⊢
  by_cases hil : a < 21
  · have hc1 : decide (0 ≤ 20 - (a : Int)) = true := by rw [decide_eq_true_eq]; omega
    have hh1 : 0 ≤ hour := hf.1
    have hh2 : hour < ((c.last + 1).toNat : Int) := by omega
    have hh3 : hour.toNat + 1 ≤ (cI (moreAt c hour m)).length := by rw [cI_len, moreAt_len]; omega
    have hset : List.take hour.toNat (cI (moreAt c hour m)) ++ [vi (20 - (a : Int))] ++ List.drop (hour.toNat + 1) (cI (moreAt c hour m)) = cI (moreAt c hour (20 - (a : Int))) := by
      rw [cI_set _ (by rw [moreAt_len]; omega), moreAt_set]
    simp only [gos, eq_self, Nat.reduceLT, Nat.reduceEqDiff, reduceCtorEq, reduceIte, ↓reduceIte, tt, vgo, vout, vguard, callOf, vop, ev, cv, vbin, vint, isShift, isNilConst, hc1, hh1, hh2, hh3, hset, Nat.zero_add, Nat.mul_one]
    have hmo := moreAt_le (c := c) (hour := hour) (n := 20 - (a : Int)) (by omega)
    have hml : ((moreAt c hour (20 - (a : Int))).length : Int) = c.last + 1 := by rw [moreAt_len]; omega
    have htk : List.take (c.last + 1).toNat (cI (moreAt c hour (20 - (a : Int)))) = cI (moreAt c hour (20 - (a : Int))) := List.take_of_length_le (by rw [cI_len]; omega)
    refine Cl.mk (Ev.lend 24 (ver := 0) (cs := cI (moreAt c hour (20 - (a : Int)))) (args' := [.rop (wcs c (sTruth c) .any), vI (moreAt c hour (20 - (a : Int)))]) rfl (cI_into _ _) rfl rfl ?_
      (c_with c (sTruth c) (moreAt c hour (20 - (a : Int))) (by have := A.len; omega) A.ok (by have := A.k0.want.1; omega) (by have := A.k0.want.1; omega) (with_b A.k0 hml hmo) fun s hs => with_ok A.k0 hml hmo (A.sc s hs)) (fun _ _ _ h => by simpa only [VR] using h) rfl (by simp only [V.into, intoL, vI_into, Bool.and_true, wc_any])) ?_
    · simp only [frzL, V.frz, wcs_frz, if_true, List.drop_zero, Nat.mul_one, htk, vI]
      rw [moreAt_len]
    rintro v h' ⟨rfl, rfl⟩
    by_cases hw : sWith c (sTruth c) (moreAt c hour (20 - (a : Int))) = 1
    · have hd : decide (sWith c (sTruth c) (moreAt c hour (20 - (a : Int))) = 1) = true := by simp [hw]
      simp only [gos, eq_self, Nat.reduceLT, Nat.reduceEqDiff, reduceIte, ↓reduceIte, vgo, vout, vguard, callOf, vop, ev, cv, vbin, vint, isShift, isNilConst, hd]
      subst hQ
      have hr : sSpareA c hour = (20 - (a : Int), 0) := by rw [sSpareA, if_pos h0, find_range hil hd hno]
      rw [hr]
      exact FnPost.plain trivial (v := .tup [vi (20 - (a : Int)), vi 0]) (fun h2 e => by rfl) (WkV.pure rfl) ⟨rfl, rfl⟩
    · have hd : decide (sWith c (sTruth c) (moreAt c hour (20 - (a : Int))) = 1) = false := by simp [hw]
      simp only [gos, eq_self, Nat.reduceLT, Nat.reduceEqDiff, reduceIte, ↓reduceIte, vgo, vout, vguard, callOf, vop, ev, cv, vbin, vint, isShift, isNilConst, hd]
      refine Nx.mk (a + 1, 20 - (a : Int)) (show 21 - (a + 1) < 21 - a by omega) ⟨by simp only; omega, fun j hj => ?_⟩ (Wk.env ?_)
      · rcases Nat.lt_succ_iff_lt_or_eq.1 hj with h | rfl
        · exact hno j h
        · exact hd
      · have e2 : (20 - (a : Int)) - 1 = 20 - ((a + 1 : Nat) : Int) := by omega
        rw [i64_in (show -9223372036854775808 ≤ 20 - (a : Int) - 1 by omega) (show 20 - (a : Int) - 1 ≤ 9223372036854775807 by omega), e2]
        simp [subE, Env.get]
  · have ha21 : a = 21 := by omega
    subst ha21
    have hc1 : decide (0 ≤ 20 - ((21 : Nat) : Int)) = false := by decide
    simp only [gos, eq_self, Nat.reduceLT, Nat.reduceEqDiff, reduceIte, ↓reduceIte, vgo, vout, vguard, callOf, vop, ev, cv, vbin, vint, isShift, isNilConst, hc1]
    subst hQ
    have hr : sSpareA c hour = (0, 10) := by
      rw [sSpareA, if_pos h0, List.find?_eq_none.2]
      intro j hj
      rw [List.mem_range] at hj
      simp [hno j hj]
    rw [hr]
    exact FnPost.plain trivial (v := .tup [vi 0, vi 10]) (fun h2 e => by rfl) (WkV.pure rfl) ⟨rfl, rfl⟩
/-! ### Lacks -/
end Go.Vm

set_option linter.unusedVariables false
set_option linter.unusedSimpArgs false
set_option maxRecDepth 100000
namespace Go.Vm
open Go.Proofs
theorem c_askedN (c : Cu) (hc : c.wf) (fine : Bool) (h0 : sAsked c fine ≠ 0) : Ev Try.prog (.fn 79 [] []) [.agg c.cs, .bool fine] [] fun v h' => v = .tup [.nilp, vi (sAsked c fine)] ∧ h' = [] :=
  (c_asked c hc fine).mono fun v h' h => by
    rcases h with ⟨_, h1, h2⟩ | ⟨h, _⟩
    · exact ⟨h1, h2⟩
    · exact absurd h h0
theorem c_askedY (c : Cu) (hc : c.wf) (fine : Bool) (h0 : sAsked c fine = 0) : Ev Try.prog (.fn 79 [] []) [.agg c.cs, .bool fine] [] fun v h' => v = .tup [.rop (wcs c (sTruth c) (.mp 17)), vi 0] ∧ h' = [(17, ⟨0, .map []⟩)] :=
  (c_asked c hc fine).mono fun v h' h => by
    rcases h with ⟨h, _⟩ | ⟨_, h1, h2⟩
    · exact absurd h0 h
    · exact ⟨h1, h2⟩
/-- Whether coal is sure. -/
def sSureP (c : Cu) (coal : List Int) : Bool := (sTruth c).all fun s => sKept c coal c.want s
theorem coal_play {c : Cu} (k : CuOk c) {l : List Int} (h : (l.length : Int) = c.last + 1 ∧ ∀ x ∈ l, 0 ≤ x ∧ x ≤ c.shovels) {s : Sc} (hs : ScOk c s) : PlayOk c s l c.want :=
  k.play hs ⟨h.1, fun x hx => by have := h.2 x hx; have := k.shovels; omega⟩ ⟨k.want.1, fun x hx => by have := k.want.2 x hx; omega⟩
end Go.Vm

set_option linter.unusedVariables false
set_option linter.unusedSimpArgs false
set_option maxRecDepth 100000
namespace Go.Vm
open Go.Proofs
/-! ### the least coal -/
theorem findSome_some {α : Type} {f : Int → Option α} {lo hi : Int} {i : Nat} {l : α} (h : lo + (i : Int) ≤ hi) (hs : f (lo + i) = some l) (hn : ∀ j : Nat, j < i → f (lo + j) = none) : (rangeI lo hi).findSome? f = some l := by
  rw [← List.take_append_drop i (rangeI lo hi), List.findSome?_append]
  have e1 : ((rangeI lo hi).take i).findSome? f = none := by
    rw [List.findSome?_eq_none_iff]
    intro x hx
    obtain ⟨j, hj, rfl⟩ := List.mem_iff_getElem.1 hx
    rw [List.getElem_take]
    simp only [List.length_take] at hj
    have := rangeI_get (lo := lo) (hi := hi) (i := j) (by omega)
    rw [List.getElem?_eq_getElem (by omega)] at this
    injection this with this
    rw [this]; exact hn j (by omega)
  rw [e1, List.drop_eq_getElem?_toList_append, rangeI_get h]
  simp [hs]
theorem findSome_none {α : Type} {f : Int → Option α} {lo hi : Int} (hn : ∀ j : Nat, lo + (j : Int) ≤ hi → f (lo + j) = none) : (rangeI lo hi).findSome? f = none := by
  rw [List.findSome?_eq_none_iff]
  intro x hx
  simp only [rangeI, List.mem_map, List.mem_range] at hx
  obtain ⟨j, h1, rfl⟩ := hx
  exact hn j (by omega)
/-- The first coal, in their order, that begins so, has so many shovels more, and is sure. -/
def addF (c : Cu) (P : List Int → Bool) : Nat → List Int → Int → Option (List Int)
  | 0, coal, many => if many = 0 ∧ P coal = true then some coal else none
  | k + 1, coal, many => (rangeI 0 (min c.shovels many)).findSome? fun n => addF c P k (coal ++ [n]) (many - n)
structure MemoOk (c : Cu) (m : Memo) : Prop where
  ok : okM m
  is : ∀ x ∈ m, ∃ coal, (coal.length : Int) = c.last + 1 ∧ x.1 = pad5 coal ∧ x.2 = sSureP c coal
theorem mget_mem {key : List Int} {b : Bool} : ∀ {m : Memo}, mget key m = some b → (key, b) ∈ m
  | [], h => by simp [mget] at h
  | (k, x) :: r, h => by
    simp only [mget] at h
    split at h
    · rename_i hk; injection h with h; subst h; subst hk; simp
    · simp [mget_mem h]
theorem pad5_inj {a b : List Int} (h : a.length = b.length) (e : pad5 a = pad5 b) : a = b := by
  simp only [pad5] at e
  exact (List.append_inj e h).1
theorem memo_sure {c : Cu} {m : Memo} (M : MemoOk c m) {coal : List Int} (h : (coal.length : Int) = c.last + 1) : sSure c (sTruth c) m coal = sSureP c coal := by
  unfold sSure
  cases hg : mget (pad5 coal) m with
  | none => rfl
  | some b =>
    obtain ⟨d, h1, h2, h3⟩ := M.is _ (mget_mem hg)
    have := pad5_inj (by omega) h2
    subst this
    simp only at h3
    rw [h3]; rfl
theorem memo_step {c : Cu} {m : Memo} (M : MemoOk c m) {coal : List Int} (hl : c.last ≤ 4) (h : (coal.length : Int) = c.last + 1) : MemoOk c (sSureM c (sTruth c) m coal) := by
  unfold sSureM
  split
  · exact M
  · refine ⟨fun x hx => ?_, fun x hx => ?_⟩
    · simp only [List.mem_append, List.mem_singleton] at hx
      rcases hx with hx | rfl
      · exact M.ok x hx
      · simp [pad5]; omega
    · simp only [List.mem_append, List.mem_singleton] at hx
      rcases hx with hx | rfl
      · exact M.is x hx
      · exact ⟨coal, h, rfl, rfl⟩
def fV : Option (List Int) → V
  | none => .sl0
  | some l => vI l
def leastV (c : Cu) : V := .fn 112 [] [.rop c.cs, .ptr 6 0 0, .rop [.rop (wcs c (sTruth c) (.mp 17))], .ptr 70 0 0]
def leH (c : Cu) (m : Memo) (f : Option (List Int)) : Heap := [(17, ⟨0, .map (memoV m)⟩), (6, ⟨0, .row [fV f]⟩), (70, ⟨0, .row [leastV c]⟩)]
theorem fV_frz (i v : Nat) (cs : List V) (f : Option (List Int)) : (fV f).frz i v cs = fV f := by
  cases f
  · rfl
  · simp only [fV, vI, V.frz, cI_frz]
theorem cu_frz (i v : Nat) (cs : List V) (c : Cu) : frzL i v cs c.cs = c.cs := by
  simp only [Cu.cs, frzL, V.frz, vI, vR, vD, cI_frz, cR_frz, cD_frz]
theorem wcs_frz' (i v : Nat) (cs : List V) (c : Cu) (tr : List Sc) (m : V) : frzL i v cs (wcs c tr m) = wcs c tr (m.frz i v cs) := by
  simp only [wcs, frzL, V.frz, vI, vR, vD, vS, cI_frz, cR_frz, cD_frz, cS_frz]
theorem memo_frz (i v : Nat) (cs : List V) : ∀ m : Memo, frzPs i v cs (memoV m) = memoV m
  | [] => rfl
  | (k, b) :: r => by simp only [memoV, frzPs, V.frz, cI_frz, memo_frz i v cs r]
set_option maxHeartbeats 4000000 in
theorem c_add (c : Cu) (A : AskOk c true) : ∀ (k : Nat) (coal : List Int) (many : Int) (m : Memo) (f : Option (List Int)), (coal.length : Int) + k = c.last + 1 → (∀ x ∈ coal, 0 ≤ x ∧ x ≤ c.shovels) → 0 ≤ many ∧ many ≤ 1000 → MemoOk c m →
    Ev Try.prog (leastV c) [vI coal, vi many] (leH c m f) fun v h' => ∃ m' f', MemoOk c m' ∧ (∀ l, addF c (sSureP c) k coal many = some l → f' = some l) ∧ v = .bool (addF c (sSureP c) k coal many).isSome ∧ h' = leH c m' f'
  | 0, coal, many, m, f, hlen, hco, hmany, M => by
    have hl := A.k0.last
    have hlen' : (coal.length : Int) = c.last + 1 := by omega
    unfold leastV
    refine Ev.fn Try.func112 rfl rfl (Fn.body tabOk Try.func112 rfl (Nat.le_of_ble_eq_true rfl) (Ks.ok (fz := (fzn [])) (cl := (cln [])) tabOk mixed ?_))
    generalize hQ : FnPost tt Try.f112 _ _ = Q
    simp only [Try.f112, List.nil_append, List.cons_append, argsEnv, Nat.reduceAdd]
    have hd : decide ((coal.length : Int) = c.last + 1) = true := by simp only [hlen', decide_true]
    simp only [gos, eq_self, Nat.reduceLT, Nat.reduceEqDiff, Nat.reduceAdd, reduceCtorEq, reduceIte, ↓reduceIte, tt, vgo, vout, vguard, callOf, vop, ev, cv, vbin, vint, isShift, isNilConst, vload, vlen, vI, hd, i64_in (show -9223372036854775808 ≤ c.last + 1 by omega) (show c.last + 1 ≤ 9223372036854775807 by omega), leH]
    by_cases h0 : many = 0
    · have hd0 : decide (many = 0) = true := by simp only [h0, decide_true]
      simp only [gos, eq_self, Nat.reduceLT, Nat.reduceEqDiff, reduceCtorEq, reduceIte, ↓reduceIte, vgo, vout, vguard, callOf, vop, ev, hd0]
      have hsub : ∀ (X : Memo) (i : Nat) (e : Ent), Heap.get [(17, ⟨0, .map (memoV X)⟩)] i = some e → Heap.get [(6, ⟨0, .row [vI coal]⟩), (70, ⟨0, .row [leastV c]⟩)] i = none := fun X i e he => by
        simp only [Heap.get] at he ⊢
        by_cases h17 : i = 17
        · subst h17; rfl
        · rw [if_neg h17] at he; cases he
      refine Cl.mk ((c_sure c (sTruth c) m 17 (by decide) M.ok coal A.ok (by have := A.len; omega) (by omega) fun s hs => coal_play A.k0 ⟨hlen', hco⟩ (A.sc s hs)).frame [(6, ⟨0, .row [vI coal]⟩), (70, ⟨0, .row [leastV c]⟩)] (hsub m) rfl ?_ ?_ ?_) ?_
      · simp only [V.into, intoL, vI_into, Bool.and_true]
        rw [wc_into _ _ _ _ (by rfl)]
      · simp only [intoH, Blk.into, memo_into, Bool.and_self]
      · rintro v h' ⟨_, rfl⟩
        exact hsub _
      rintro v h'' ⟨h', ⟨rfl, rfl⟩, rfl⟩
      simp only [gos, eq_self, Nat.reduceLT, Nat.reduceEqDiff, reduceIte, ↓reduceIte, vgo, vout, vguard, callOf, vop, ev]
      subst hQ
      have hs := memo_sure M hlen'
      refine FnPost.plain trivial (v := .bool (sSure c (sTruth c) m coal)) (fun h2 e => by rfl) WkV.refl ⟨sSureM c (sTruth c) m coal, some coal, memo_step M (by omega) hlen', ?_, ?_, rfl⟩
      · intro l hl'
        simp only [addF] at hl'
        split at hl'
        · exact hl'
        · cases hl'
      · rw [hs]
        simp only [addF, h0, true_and]
        cases sSureP c coal <;> rfl
    · have hd0 : decide (many = 0) = false := by simp only [h0, decide_false]
      simp only [gos, eq_self, Nat.reduceLT, Nat.reduceEqDiff, reduceIte, ↓reduceIte, vgo, vout, vguard, callOf, vop, ev, cv, hd0]
      subst hQ
      refine FnPost.plain trivial (v := .bool false) (fun h2 e => by rfl) WkV.refl ⟨m, some coal, M, ?_, ?_, rfl⟩
      · intro l hl'
        simp only [addF, h0, false_and, if_false] at hl'
        cases hl'
      · simp only [addF, h0, false_and, if_false]; rfl
  | k + 1, coal, many, m, f, hlen, hco, hmany, M => by
    have hl := A.k0.last
    have hsh := A.k0.shovels
    unfold leastV
    refine Ev.fn Try.func112 rfl rfl (Fn.body tabOk Try.func112 rfl (Nat.le_of_ble_eq_true rfl) (Ks.ok (fz := (fzn [])) (cl := (cln [(7, .ex)])) tabOk mixed ?_))
    generalize hQ : FnPost tt Try.f112 _ _ = Q
    simp only [Try.f112, List.nil_append, List.cons_append, argsEnv, Nat.reduceAdd]
    have hd : decide ((coal.length : Int) = c.last + 1) = false := by rw [decide_eq_false_iff_not]; omega
    have hmin : 0 ≤ min c.shovels many ∧ min c.shovels many ≤ 3 := by omega
    simp only [gos, eq_self, Nat.reduceLT, Nat.reduceEqDiff, Nat.reduceAdd, Nat.reduceMul, Nat.reduceLeDiff, reduceCtorEq, reduceIte, ↓reduceIte, tt, vgo, vout, vguard, callOf, vop, ev, cv, vbin, vint, isShift, isNilConst, vload, vlen, vfill, vI, hd, i64_in (show -9223372036854775808 ≤ c.last + 1 by omega) (show c.last + 1 ≤ 9223372036854775807 by omega), leH]
    refine Cl.pu (c_min2 c.shovels many) ?_
    simp only [gos, eq_self, Nat.reduceLT, reduceIte, ↓reduceIte, vgo, vout, vguard, callOf, vop, ev, cv, vbin, vint, isShift, isNilConst, i64_in (show -9223372036854775808 ≤ min c.shovels many + 1 by omega) (show min c.shovels many + 1 ≤ 9223372036854775807 by omega)]
    refine W.loop tabOk mixed (fun a : Nat × Memo × Option (List Int) => ([(0, vI coal), (1, vi many), (2, .rop c.cs), (3, .ptr 6 0 0), (4, .rop [.rop (wcs c (sTruth c) (.mp 17))]), (5, .ptr 70 0 0), (29, vi (min c.shovels many + 1)), (30, vi a.1)], leH c a.2.1 a.2.2)) (fun a => (min c.shovels many + 1).toNat - a.1)
      (fun a => (a.1 : Int) ≤ min c.shovels many + 1 ∧ MemoOk c a.2.1 ∧ ∀ j : Nat, j < a.1 → addF c (sSureP c) k (coal ++ [(j : Int)]) (many - j) = none) (0, m, f) ⟨by simp only; omega, M, fun j hj => by simp at hj⟩ (Wk.env (by simp [subE, Env.get, vI])) ?_
    rintro ⟨i, m1, f1⟩ ⟨hi, M1, hno⟩
    simp only at hi M1 hno ⊢
    by_cases hil : (i : Int) < min c.shovels many + 1
    · simp only [gos, eq_self, Nat.reduceLT, Nat.reduceEqDiff, reduceCtorEq, reduceIte, ↓reduceIte, vgo, vout, vguard, callOf, vop, ev, vbin, vint, isShift, isNilConst, hil]
      refine Wr.last tabOk mixed (tgL [(7, 1), (38, 1)]) [cL, cP, some ([1], [1]), cP, cP, some ([1], [1]), cP, cP, cP, none] _ (by kernel_rfl) (by kernel_rfl) rfl ?_
      simp only [gos, eq_self, Nat.reduceLT, Nat.reduceEqDiff, Nat.reduceAdd, reduceCtorEq, reduceIte, ↓reduceIte, tt, vgoD, voutD, vclsOk, vids, mayWrite, V.ids, vguard, callOf, vop, ev, vload, clsAt, leH, List.dropLast, List.getLast]
      refine CD.new (n_Clone coal (by omega)) rfl rfl rfl ?_
      have hcl : (cI coal).length = coal.length := cI_len coal
      have hcm : coal.length ≤ 999999 := by omega
      simp only [gos, eq_self, Nat.reduceLT, Nat.reduceEqDiff, Nat.reduceAdd, Nat.reduceLeDiff, reduceCtorEq, reduceIte, ↓reduceIte, tt, vgoD, voutD, vclsOk, vids, mayWrite, V.ids, vguard, callOf, vop, ev, vbin, vint, isShift, isNilConst, vfill, vappend, srcOf, hcl, hcm, Nat.mul_one, i64_in (show -9223372036854775808 ≤ many - (i : Int) by omega) (show many - (i : Int) ≤ 9223372036854775807 by omega)]
      refine Wa.mk (Wk.freeze 7 (ver := 1) (cs := cI coal ++ [vi i]) (by rfl) (by rfl) (by rw [← cI_snoc]; exact cI_into _ _) (by rfl)) ?_
      rw [← cI_snoc]
      simp only [frzE, frzH, V.frz, frzL, Blk.frz, leastV, cu_frz, wcs_frz', memo_frz, fV_frz, vI, cI_frz, gos, eq_self, Nat.reduceLT, Nat.reduceEqDiff, reduceCtorEq, reduceIte, ↓reduceIte, vgo, vout, vguard, callOf, ev]
      have hll : (coal ++ [(i : Int)]).length = coal.length + 1 := by simp
      have ht : List.take ((coal.length + 1) * 1) (cI (coal ++ [(i : Int)])) = cI (coal ++ [(i : Int)]) := List.take_of_length_le (by rw [cI_len, hll]; omega)
      rw [ht, show V.ro (coal.length + 1) (cI (coal ++ [(i : Int)])) = vI (coal ++ [(i : Int)]) by rw [vI, hll]]
      refine Cl.mk (c_add c A k (coal ++ [(i : Int)]) (many - i) m1 f1 (by rw [hll]; omega) ?_ (by omega) M1) ?_
      · intro x hx
        simp only [List.mem_append, List.mem_singleton] at hx
        rcases hx with hx | rfl
        · exact hco x hx
        · omega
      rintro v h' ⟨m2, f2, M2, hf2, rfl, rfl⟩
      cases hr : addF c (sSureP c) k (coal ++ [(i : Int)]) (many - i) with
      | some l =>
        simp only [gos, eq_self, Nat.reduceLT, Nat.reduceEqDiff, reduceIte, ↓reduceIte, vgo, vout, vguard, callOf, vop, ev, cv, Option.isSome_some]
        subst hQ
        have hrr : addF c (sSureP c) (k + 1) coal many = some l := by
          rw [addF]
          have e0 : ∀ n : Nat, (0 : Int) + n = n := fun n => by omega
          exact findSome_some (i := i) (by omega) (by rw [e0]; exact hr) (fun j hj => by rw [e0]; exact hno j hj)
        rw [hrr]
        exact FnPost.plain trivial (v := .bool true) (fun h2 e => by rfl) WkV.refl ⟨m2, f2, M2, fun l' e => by rw [hf2 l hr]; exact e, rfl, rfl⟩
      | none =>
        simp only [gos, eq_self, Nat.reduceLT, Nat.reduceEqDiff, reduceCtorEq, reduceIte, ↓reduceIte, vgo, vout, vguard, callOf, vop, ev, cv, vbin, vint, isShift, isNilConst, Option.isSome_none]
        refine Nx.mk (i + 1, m2, f2) (show (min c.shovels many + 1).toNat - (i + 1) < (min c.shovels many + 1).toNat - i by omega) ⟨by simp only; omega, M2, fun j hj => ?_⟩ (Wk.env ?_)
        · rcases Nat.lt_succ_iff_lt_or_eq.1 hj with h | rfl
          · exact hno j h
          · exact hr
        · simp [subE, Env.get, i64_succ (show (i : Int) < 9223372036854775807 by omega)]
    · have hrr : addF c (sSureP c) (k + 1) coal many = none := by
        rw [addF]
        refine findSome_none fun j hj => ?_
        rw [Int.zero_add]
        exact hno j (by omega)
      simp only [gos, eq_self, Nat.reduceLT, Nat.reduceEqDiff, reduceCtorEq, reduceIte, ↓reduceIte, vgo, vout, vguard, callOf, vop, ev, cv, vbin, vint, isShift, isNilConst, hil]
      subst hQ
      rw [hrr]
      exact FnPost.plain trivial (v := .bool false) (fun h2 e => by rfl) WkV.refl ⟨m1, f1, M1, (fun l e => by cases e), rfl, rfl⟩
end Go.Vm

set_option linter.unusedVariables false
set_option linter.unusedSimpArgs false
set_option maxRecDepth 100000
namespace Go.Vm
open Go.Proofs
theorem Ex.scope {P : Program} {b : Frame} {N : Nat} {p : Nat → Bool} {ρ : Env} {D : List Nat} {h : Heap} {Q : Xit → Env → List Nat → Heap → Prop} {c : Code} (e : Ex P b N p ρ D h c Q) : Ex P b N p ρ D h (.scope c) Q := by
  intro g w T Ds k cs h1 h2 h3
  obtain ⟨x', ρ1, D1, hp1, g1, w1, T1, Ds1, q, E1, d1, H1, t1, k1, a1⟩ := e g w T Ds (.inScope c :: k) cs h1 h2 h3
  cases x' with
  | normal => exact ⟨.normal, ρ1, D1, hp1, g1, w1, T1, Ds1, q, E1, d1, H1, t1, k1, ((Steps.one st_scope).trans a1).trans (.one st_inScope)⟩
  | exit id' =>
    obtain ⟨k2, s, ek⟩ := a1
    exact ⟨.exit id', ρ1, D1, hp1, g1, w1, T1, Ds1, q, E1, d1, H1, t1, k1, k2, (Steps.one st_scope).trans s, by rw [ek]; simp [exitTo]⟩
  | ret =>
    obtain ⟨k2, s⟩ := a1
    exact ⟨.ret, ρ1, D1, hp1, g1, w1, T1, Ds1, q, E1, d1, H1, t1, k1, k2, (Steps.one st_scope).trans s⟩
theorem W.scope {P : Program} {tt : Tab} {fz : Nat → Bool} {cl : Cl0} {b : Frame} {N : Nat} {p : Nat → Bool} {Q : Post} {k : List Itm} {ρ : Env} {D : List Nat} {h : Heap} (K : TabOk P tt) (hm : P.follows .mixedOrders = true) {c : Code} (w : W P tt fz cl b N p Q c k ρ D h) : W P tt fz cl b N p Q (.scope c) k ρ D h := Ex.scope (Wp.ok K hm c w)
theorem memo_nil (c : Cu) : MemoOk c [] := ⟨(by intro y hy; cases hy), (by intro y hy; cases hy)⟩
def leastF (c : Cu) : Option (List Int) := (rangeI 0 (c.shovels * (c.last + 1))).findSome? fun many => addF c (sSureP c) (c.last + 1).toNat [] many
def sLeastA (c : Cu) : List Int × Int :=
  if sAsked c true = 0 then (match leastF c with
    | some l => (l, 0)
    | none => ([], 10)) else ([], sAsked c true)
theorem wcs_ren (s : Nat → Nat) (c : Cu) (tr : List Sc) (m : V) : renL s (wcs c tr m) = wcs c tr (m.ren s) := by
  have hS : ∀ l : List Sc, renL s (cS l) = cS l := fun l => by
    induction l with
    | nil => rfl
    | cons x l ih =>
      have : ∀ a b : List V, renL s (a ++ b) = renL s a ++ renL s b := fun a b => by
        induction a with
        | nil => rfl
        | cons y a ih => simp only [List.cons_append, renL, ih]
      simp only [cS, renL, V.ren, this, cI_ren, ih]
  simp only [wcs, renL, V.ren, vI, vR, vD, vS, cI_ren, cR_ren, cD_ren, hS]
set_option maxHeartbeats 2000000 in
theorem c_Least (c : Cu) (hc : c.wf) : Pu Try.prog (.fn 64 [] []) [.agg c.cs] (.tup [vI (sLeastA c).1, vi (sLeastA c).2]) := by
  refine Ev.fn Try.func64 rfl rfl (Fn.body tabOk Try.func64 rfl (Nat.le_of_ble_eq_true rfl) (Ks.ok (fz := (fzn [4, 6, 7])) (cl := (cln [(6, .ex)])) tabOk mixed ?_))
  generalize hQ : FnPost tt Try.f64 _ _ = Q
  simp only [Try.f64, List.nil_append, List.append_nil, argsEnv]
  simp only [gos, eq_self, Nat.reduceLT, Nat.reduceEqDiff, reduceCtorEq, reduceIte, ↓reduceIte, vgo, vout, vguard, callOf, vop, ev, cv, newRow]
  refine W.scope tabOk mixed ?_
  simp only [gos, eq_self, Nat.reduceLT, Nat.reduceEqDiff, reduceCtorEq, reduceIte, ↓reduceIte, tt, vgo, vout, vguard, callOf, vop, ev, cv, vload]
  by_cases h0 : sAsked c true = 0
  case neg =>
    refine Cl.mk (c_askedN c hc true h0) ?_
    rintro v h' ⟨rfl, rfl⟩
    have hb : (sAsked c true != 0) = true := by simp [h0]
    simp only [gos, eq_self, Nat.reduceLT, Nat.reduceEqDiff, Nat.reduceAdd, reduceCtorEq, reduceIte, ↓reduceIte, tt, vgo, vout, vguard, callOf, vop, ev, cv, vbin, vint, isShift, isNilConst, newRow, hb]
    subst hQ
    have hr : sLeastA c = ([], sAsked c true) := by simp [sLeastA, h0]
    rw [hr]
    exact FnPost.plain trivial (v := .tup [.sl0, vi (sAsked c true)]) (fun h2 e => by rfl) (WkV.trans (WkV.pure rfl) WkV.nil1) ⟨rfl, rfl⟩
  refine Cl.mk (c_askedY c hc true h0) ?_
  rintro v h' ⟨rfl, rfl⟩
  have A := askOk_of h0
  have hl := A.k0.last
  have hsh := A.k0.shovels
  simp only [gos, eq_self, Nat.reduceLT, Nat.reduceEqDiff, Nat.reduceAdd, reduceCtorEq, reduceIte, ↓reduceIte, tt, vgo, vout, vguard, callOf, vop, ev, cv, vbin, vint, isShift, isNilConst, newRow]
  refine Wr.at tabOk 2 ?_
  simp only [gos, eq_self, Nat.reduceLT, Nat.reduceEqDiff, Nat.reduceAdd, reduceCtorEq, reduceIte, ↓reduceIte, tt, vgo, vout, vguard, callOf, vop, ev]
  refine Wa.mk (Wk.trans (Wk.freeze 4 rfl rfl (by simp only [intoL, V.into]; rw [wc_into _ _ _ _ (by rfl)]; rfl) rfl) (Wk.ren 7 70 rfl rfl)) ?_
  simp only [frzE, frzH, V.frz, frzL, Blk.frz, renE, renH, V.ren, renL, Blk.ren, sw, cu_frz, wcs_frz', cu_ren, wcs_ren, frzPs, renPs, gos, eq_self, Nat.reduceLT, Nat.reduceEqDiff, reduceCtorEq, reduceIte, ↓reduceIte, tt, vgo, vout, vguard, callOf, vop, ev, cv, vbin, vint, isShift, isNilConst, vload]
  have hX : 0 ≤ c.shovels * (c.last + 1) ∧ c.shovels * (c.last + 1) ≤ 15 := by
    have : c.shovels = 0 ∨ c.shovels = 1 ∨ c.shovels = 2 ∨ c.shovels = 3 := by omega
    rcases this with e | e | e | e <;> rw [e] <;> omega
  have hT : (((c.last + 1).toNat : Nat) : Int) = c.last + 1 := by omega
  rw [i64_in (show -9223372036854775808 ≤ c.last + 1 by omega) (show c.last + 1 ≤ 9223372036854775807 by omega)]
  generalize hx : c.shovels * (c.last + 1) = x at hX ⊢
  rw [i64_in (show -9223372036854775808 ≤ x by omega) (show x ≤ 9223372036854775807 by omega), i64_in (show -9223372036854775808 ≤ x + 1 by omega) (show x + 1 ≤ 9223372036854775807 by omega)]
  refine W.loop tabOk mixed (fun a : Nat × Memo × Option (List Int) => ([(1, .rop c.cs), (2, .sl0), (3, vi 0), (6, .ptr 6 0 0), (7, .ptr 70 0 0), (8, .bool false), (25, vi (x + 1)), (26, vi a.1)], leH c a.2.1 a.2.2)) (fun a => (x + 1).toNat - a.1)
    (fun a => (a.1 : Int) ≤ x + 1 ∧ MemoOk c a.2.1 ∧ ∀ j : Nat, j < a.1 → addF c (sSureP c) (c.last + 1).toNat [] (j : Int) = none) (0, [], none) ⟨by simp only; omega, memo_nil c, fun j hj => by simp at hj⟩ (Wk.env (by simp [subE, Env.get])) ?_
  rintro ⟨i, m1, f1⟩ ⟨hi, M1, hno⟩
  simp only at hi M1 hno ⊢
  by_cases hil : (i : Int) < x + 1
  · simp only [gos, eq_self, Nat.reduceLT, Nat.reduceEqDiff, reduceCtorEq, reduceIte, ↓reduceIte, tt, vgo, vout, vguard, callOf, vop, ev, cv, vbin, vint, isShift, isNilConst, vload, hil, leH]
    refine Cl.less (cs := [vI [], vi i]) (ImpV.refl _) ⟨sl0_vI, ImpV.refl _, trivial⟩ (Cl.mk (c_add c A (c.last + 1).toNat [] i m1 f1 (by simp; omega) (by intro y hy; cases hy) (by omega) M1) ?_)
    rintro v h' ⟨m2, f2, M2, hf2, rfl, rfl⟩
    cases hr : addF c (sSureP c) (c.last + 1).toNat [] (i : Int) with
    | some l =>
      simp only [gos, eq_self, Nat.reduceLT, Nat.reduceEqDiff, reduceCtorEq, reduceIte, ↓reduceIte, tt, vgo, vout, vguard, callOf, vop, ev, cv, vload, Option.isSome_some, hf2 l hr, leH, fV]
      subst hQ
      have hrr : leastF c = some l := by
        rw [leastF, hx]
        have e0 : ∀ n : Nat, (0 : Int) + n = n := fun n => by omega
        exact findSome_some (i := i) (by omega) (by rw [e0]; exact hr) (fun j hj => by rw [e0]; exact hno j hj)
      have hrs : sLeastA c = (l, 0) := by rw [sLeastA, if_pos h0, hrr]
      rw [hrs]
      exact FnPost.plain trivial (v := .tup [vI l, vi 0]) (fun h2 e => by rfl) (WkV.pure (by simp only [V.into, intoL, vI_into, Bool.and_true])) ⟨rfl, rfl⟩
    | none =>
      simp only [gos, eq_self, Nat.reduceLT, Nat.reduceEqDiff, reduceIte, ↓reduceIte, vgo, vout, vguard, callOf, vop, ev, cv, vbin, vint, isShift, isNilConst, Option.isSome_none]
      refine Nx.mk (i + 1, m2, f2) (show (x + 1).toNat - (i + 1) < (x + 1).toNat - i by omega) ⟨by simp only; omega, M2, fun j hj => ?_⟩ (Wk.env ?_)
      · rcases Nat.lt_succ_iff_lt_or_eq.1 hj with h | rfl
        · exact hno j h
        · exact hr
      · simp [subE, Env.get, i64_succ (show (i : Int) < 9223372036854775807 by omega)]
  · have hrr : leastF c = none := by
      rw [leastF, hx]
      refine findSome_none fun j hj => ?_
      rw [Int.zero_add]
      exact hno j (by omega)
    simp only [gos, eq_self, Nat.reduceLT, Nat.reduceEqDiff, reduceIte, ↓reduceIte, vgo, vout, vguard, callOf, vop, ev, cv, vbin, vint, isShift, isNilConst, hil]
    subst hQ
    have hrs : sLeastA c = ([], 10) := by rw [sLeastA, if_pos h0, hrr]
    rw [hrs]
    exact FnPost.plain trivial (v := .tup [.sl0, vi 10]) (fun h2 e => by rfl) (WkV.trans (WkV.pure rfl) WkV.nil1) ⟨rfl, rfl⟩
end Go.Vm

set_option linter.unusedVariables false
set_option linter.unusedSimpArgs false
set_option maxRecDepth 100000
namespace Go.Vm
open Go.Proofs
/-- The coppers with their first readings alone. -/
def cut (c : Cu) (n : Nat) : Cu := { c with readings := c.readings.take n }
theorem cut_ok {c : Cu} (k : CuOk c) (n : Nat) : CuOk (cut c n) :=
  ⟨k.last, by have := k.rds; simp only [cut, List.length_take]; omega, k.most, k.start, k.per, k.shovels, k.coal, k.want, k.heat, k.loss, fun r hr => k.readings r (List.mem_of_mem_take hr), k.many⟩
def sPoss (c : Cu) (out : List Int) : Bool := (truths c).any fun s => sRight c s out
def sFirstA (c : Cu) : Int × Int :=
  if sCheck c = 0 then (match (List.range c.readings.length).find? fun i => !(sPoss (cut c (i + 1)) []) with
    | some i => (i, 0)
    | none => (0, 7)) else (0, sCheck c)
theorem cD_take : ∀ (l : List Rd) (n : Nat), (cD l).take (n * 3) = cD (l.take n)
  | l, 0 => by simp [cD]
  | [], n + 1 => by simp [cD]
  | r :: l, n + 1 => by rw [show (n + 1) * 3 = n * 3 + 1 + 1 + 1 by omega]; simp [cD, cD_take l n]
theorem cu_one (c : Cu) : oneL c.cs = true := rfl
def cuR (c : Cu) (r : List Rd) : Cu := { c with readings := r }
set_option maxHeartbeats 2000000 in
theorem c_First (c : Cu) (hc : c.wf) : Pu Try.prog (.fn 36 [] []) [.agg c.cs] (.tup [vi (sFirstA c).1, vi (sFirstA c).2]) := by
  refine Ev.fn Try.func36 rfl rfl (Fn.body tabOk Try.func36 rfl (Nat.le_of_ble_eq_true rfl) (Ks.ok (fz := (fzn [5])) (cl := (cln [])) tabOk mixed ?_))
  generalize hQ : FnPost tt Try.f36 _ _ = Q
  simp only [Try.f36, List.nil_append, List.append_nil, argsEnv]
  simp only [gos, eq_self, Nat.reduceLT, Nat.reduceEqDiff, reduceCtorEq, reduceIte, ↓reduceIte, tt, vgo, vout, vguard, callOf, vop, ev, cv, vload, newRow]
  refine Cl.pu (c_Check c hc) ?_ rfl (by simp only [V.into, intoL, cu_into, Bool.and_true])
  by_cases h0 : sCheck c = 0
  case neg =>
    have hb : (sCheck c != 0) = true := by simp [h0]
    simp only [gos, eq_self, Nat.reduceLT, Nat.reduceEqDiff, reduceIte, ↓reduceIte, vgo, vout, vguard, callOf, vop, ev, cv, vbin, vint, isShift, isNilConst, hb]
    subst hQ
    exact FnPost.plain trivial (fun h2 e => by first | rfl | (simp only [Try.f36, vres, vresL, vres1, e _, gos, if_true, if_false, ne_eq, eq_self, Nat.reduceLT, Nat.reduceEqDiff, Nat.reduceAdd, Nat.reduceMul, Nat.reduceLeDiff, Nat.reduceBEq, reduceCtorEq, reduceIte, Array.toList, ↓reduceIte, tt, vgo, vout, vgoD, voutD, vclsOk, vids, mayWrite, V.ids, V.mids, vguard, callOf, vop, ev, cv, vbin, vint, isShift, isNilConst, vnil, isNilSlice, vload, vlen, newRow, vfill, vslice, entOf, vappend, srcOf, vcopy, vlookup, vupdate, mapOk, keyOf, intsOf, clsAt]; try rfl)) (WkV.pure (by simp only [V.into, intoL, Bool.and_true])) ⟨by simp [sFirstA, h0], rfl⟩
  have hb : (sCheck c != 0) = false := by simp [h0]
  have k0 := sCheck_ok h0
  have hrd := k0.rds
  simp only [gos, eq_self, Nat.reduceLT, Nat.reduceEqDiff, Nat.reduceAdd, reduceCtorEq, reduceIte, ↓reduceIte, tt, vgo, vout, vguard, callOf, vop, ev, cv, vbin, vint, isShift, isNilConst, vload, vlen, newRow, hb, cu_one, vD]
  refine W.loop tabOk mixed (fun a : Nat × List Rd => ([(1, .rop c.cs), (5, .ptr 5 0 0), (15, vi c.readings.length), (16, vi a.1)], [(5, ⟨0, .row (cuR c a.2).cs⟩)])) (fun a => c.readings.length - a.1)
    (fun a => a.1 ≤ c.readings.length ∧ ∀ j, j < a.1 → (!(sPoss (cut c (j + 1)) [])) = false) (0, c.readings) ⟨by simp, fun j hj => by simp at hj⟩ (Wk.env (by simp [subE, Env.get])) ?_
  rintro ⟨i, r⟩ ⟨hi, hno⟩
  simp only at hi hno ⊢
  by_cases hil : (i : Int) < c.readings.length
  · have h1 : 0 ≤ (i : Int) + 1 := by omega
    have h2 : (i : Int) + 1 ≤ c.readings.length := by omega
    have h3 : ((i : Int) + 1).toNat = i + 1 := by omega
    simp only [gos, eq_self, Nat.reduceLT, Nat.reduceEqDiff, Nat.reduceAdd, reduceCtorEq, reduceIte, ↓reduceIte, tt, vgo, vout, vguard, callOf, vop, ev, cv, vbin, vint, isShift, isNilConst, vload, vslice, vD, hil, i64_in (show -9223372036854775808 ≤ (i : Int) + 1 by omega) (show (i : Int) + 1 ≤ 9223372036854775807 by omega), h1, h2, h3, cuR, Cu.cs]
    have hv : V.ro (i + 1) (List.take ((i + 1) * 3) (cD c.readings)) = vD (c.readings.take (i + 1)) := by
      rw [cD_take, vD, List.length_take, Nat.min_eq_left (by omega)]
    rw [hv]
    refine Cl.less (cs := [.agg (cut c (i + 1)).cs, vI []]) (ImpV.refl _) ⟨ImpV.refl _, sl0_vI, trivial⟩ (Cl.pu (c_possible (cut c (i + 1)) (cut_ok k0 (i + 1)) (cut_ok k0 (i + 1)).wf [] (by simp)) ?_ rfl (by simp only [V.into, intoL, vI_into, cu_into, Bool.and_true]))
    rw [show ((truths (cut c (i + 1))).any fun s => sRight (cut c (i + 1)) s []) = sPoss (cut c (i + 1)) [] from rfl]
    cases hp : sPoss (cut c (i + 1)) [] with
    | true =>
      simp only [gos, eq_self, Nat.reduceLT, Nat.reduceEqDiff, reduceIte, ↓reduceIte, vgo, vout, vguard, callOf, vop, ev, cv, vbin, vint, isShift, isNilConst]
      refine Nx.mk (i + 1, c.readings.take (i + 1)) (show c.readings.length - (i + 1) < c.readings.length - i by omega) ⟨by simp only; omega, fun j hj => ?_⟩ (Wk.env ?_)
      · rcases Nat.lt_succ_iff_lt_or_eq.1 hj with h | rfl
        · exact hno j h
        · rw [hp]; rfl
      · simp [subE, Env.get, i64_succ (show (i : Int) < 9223372036854775807 by omega)]
    | false =>
      simp only [gos, eq_self, Nat.reduceLT, Nat.reduceEqDiff, reduceIte, ↓reduceIte, vgo, vout, vguard, callOf, vop, ev, cv]
      subst hQ
      have hr : sFirstA c = ((i : Int), 0) := by
        rw [sFirstA, if_pos h0, find_range (a := i) (by omega) (by rw [hp]; rfl) hno]
      rw [hr]
      exact FnPost.plain trivial (v := .tup [vi i, vi 0]) (fun h2 e => by rfl) (WkV.pure rfl) ⟨rfl, rfl⟩
  · have hie : i = c.readings.length := by omega
    simp only [gos, eq_self, Nat.reduceLT, Nat.reduceEqDiff, reduceIte, ↓reduceIte, vgo, vout, vguard, callOf, vop, ev, cv, vbin, vint, isShift, isNilConst, hil]
    subst hQ
    have hr : sFirstA c = (0, 7) := by
      rw [sFirstA, if_pos h0, List.find?_eq_none.2]
      intro j hj
      rw [List.mem_range] at hj
      rw [hno j (by omega)]; simp
    rw [hr]
    exact FnPost.plain trivial (v := .tup [vi 0, vi 7]) (fun h2 e => by rfl) (WkV.pure rfl) ⟨rfl, rfl⟩
end Go.Vm

set_option linter.unusedVariables false
set_option linter.unusedSimpArgs false
set_option maxRecDepth 100000
namespace Go.Vm
open Go.Proofs
/-! ### the smallest set -/
def leaveF (c : Cu) : Nat → List Int → Int → Option (List Int)
  | 0, out, _ => if sPoss c out = true then some out else none
  | m + 1, out, first => (rangeI first (c.readings.length - ((m + 1 : Nat) : Int))).findSome? fun i => leaveF c m (out ++ [i]) (i + 1)
def leaveV (c : Cu) : V := .fn 91 [] [.ptr 5 0 0, .rop c.cs, .ptr 6 0 0]
def lvH (c : Cu) (f : Option (List Int)) : Heap := [(5, ⟨0, .row [fV f]⟩), (6, ⟨0, .row [leaveV c]⟩)]
set_option maxHeartbeats 4000000 in
theorem c_leave (c : Cu) (k0 : CuOk c) : ∀ (m : Nat) (out : List Int) (first : Int) (f : Option (List Int)), out.length + m ≤ c.readings.length → 0 ≤ first ∧ first ≤ 100 →
    Ev Try.prog (leaveV c) [vI out, vi first, vi m] (lvH c f) fun v h' => ∃ f', (∀ l, leaveF c m out first = some l → f' = some l) ∧ v = .bool (leaveF c m out first).isSome ∧ h' = lvH c f'
  | 0, out, first, f, hlen, hfi => by
    have hrd := k0.rds
    unfold leaveV
    refine Ev.fn Try.func91 rfl rfl (Fn.body tabOk Try.func91 rfl (Nat.le_of_ble_eq_true rfl) (Ks.ok (fz := (fzn [])) (cl := (cln [])) tabOk mixed ?_))
    generalize hQ : FnPost tt Try.f91 _ _ = Q
    simp only [Try.f91, List.nil_append, List.cons_append, argsEnv, Nat.reduceAdd]
    have hd0 : decide (((0 : Nat) : Int) = 0) = true := rfl
    simp only [gos, eq_self, Nat.reduceLT, Nat.reduceEqDiff, Nat.reduceAdd, reduceCtorEq, reduceIte, ↓reduceIte, tt, vgo, vout, vguard, callOf, vop, ev, cv, vbin, vint, isShift, isNilConst, vload, vI, hd0, lvH]
    refine Cl.pu (c_possible c k0 k0.wf out (by omega)) ?_ rfl (by simp only [V.into, intoL, cI_into, cu_into, Bool.and_true])
    rw [show ((truths c).any fun s => sRight c s out) = sPoss c out from rfl]
    simp only [gos, eq_self, Nat.reduceLT, reduceIte, ↓reduceIte, vgo, vout, vguard, callOf, vop, ev]
    subst hQ
    refine FnPost.plain trivial (v := .bool (sPoss c out)) (fun h2 e => by rfl) WkV.refl ⟨some out, ?_, ?_, rfl⟩
    · intro l hl
      simp only [leaveF] at hl
      split at hl
      · exact hl
      · cases hl
    · simp only [leaveF]
      cases sPoss c out <;> rfl
  | m + 1, out, first, f, hlen, hfi => by
    have hrd := k0.rds
    unfold leaveV
    refine Ev.fn Try.func91 rfl rfl (Fn.body tabOk Try.func91 rfl (Nat.le_of_ble_eq_true rfl) (Ks.ok (fz := (fzn [])) (cl := (cln [(7, .ex)])) tabOk mixed ?_))
    generalize hQ : FnPost tt Try.f91 _ _ = Q
    simp only [Try.f91, List.nil_append, List.cons_append, argsEnv, Nat.reduceAdd]
    have hd0 : decide (((m + 1 : Nat) : Int) = 0) = false := by rw [decide_eq_false_iff_not]; omega
    simp only [gos, eq_self, Nat.reduceLT, Nat.reduceEqDiff, reduceCtorEq, reduceIte, ↓reduceIte, vgo, vout, vguard, callOf, vop, ev, cv, vbin, vint, isShift, isNilConst, vI, hd0, lvH]
    refine W.loop tabOk mixed (fun a : Nat × Option (List Int) => ([(0, vI out), (2, vi (m + 1 : Nat)), (3, .ptr 5 0 0), (4, .rop c.cs), (5, .ptr 6 0 0), (10, vi (first + a.1))], lvH c a.2)) (fun a => 10 - a.1)
      (fun a => (a.1 = 0 ∨ first + (a.1 : Int) ≤ c.readings.length - ((m + 1 : Nat) : Int) + 1) ∧ ∀ j : Nat, j < a.1 → leaveF c m (out ++ [first + (j : Int)]) (first + j + 1) = none) (0, f) ⟨.inl rfl, fun j hj => by simp at hj⟩ (Wk.env (by simp [subE, Env.get, vI])) ?_
    rintro ⟨i, f1⟩ ⟨hi, hno⟩
    simp only at hi hno ⊢
    have hsub := i64_in (show -9223372036854775808 ≤ (c.readings.length : Int) - ((m + 1 : Nat) : Int) by omega) (show (c.readings.length : Int) - ((m + 1 : Nat) : Int) ≤ 9223372036854775807 by omega)
    by_cases hil : first + (i : Int) ≤ c.readings.length - ((m + 1 : Nat) : Int)
    · simp only [gos, eq_self, Nat.reduceLT, Nat.reduceEqDiff, reduceCtorEq, reduceIte, ↓reduceIte, tt, vgo, vout, vguard, callOf, vop, ev, vbin, vint, isShift, isNilConst, vload, vlen, vD, hsub, hil]
      refine Wr.last tabOk mixed (tgL [(7, 1), (32, 1)]) [cL, cP, some ([1], [1]), cP, cP, some ([1], [1]), cP, cP, cP, cP, none] _ (by kernel_rfl) (by kernel_rfl) rfl ?_
      simp only [gos, eq_self, Nat.reduceLT, Nat.reduceEqDiff, Nat.reduceAdd, reduceCtorEq, reduceIte, ↓reduceIte, tt, vgoD, voutD, vclsOk, vids, mayWrite, V.ids, vguard, callOf, vop, ev, vload, clsAt, lvH, List.dropLast, List.getLast]
      refine CD.new (n_Clone out (by omega)) rfl rfl rfl ?_
      have hcl : (cI out).length = out.length := cI_len out
      have hcm : out.length ≤ 999999 := by omega
      have hm1 : ((m + 1 : Nat) : Int) - 1 = (m : Int) := by omega
      simp only [gos, eq_self, Nat.reduceLT, Nat.reduceEqDiff, Nat.reduceAdd, Nat.reduceLeDiff, reduceCtorEq, reduceIte, ↓reduceIte, tt, vgoD, voutD, vclsOk, vids, mayWrite, V.ids, vguard, callOf, vop, ev, cv, vbin, vint, isShift, isNilConst, vfill, vappend, srcOf, hcl, hcm, Nat.mul_one, i64_in (show -9223372036854775808 ≤ first + (i : Int) + 1 by omega) (show first + (i : Int) + 1 ≤ 9223372036854775807 by omega), hm1, i64_in (show -9223372036854775808 ≤ (m : Int) by omega) (show (m : Int) ≤ 9223372036854775807 by omega)]
      refine Wa.mk (Wk.freeze 7 (ver := 1) (cs := cI out ++ [vi (first + i)]) rfl rfl (by rw [← cI_snoc]; exact cI_into _ _) rfl) ?_
      rw [← cI_snoc]
      simp only [frzE, frzH, V.frz, frzL, Blk.frz, leaveV, cu_frz, fV_frz, vI, cI_frz, gos, eq_self, Nat.reduceLT, Nat.reduceEqDiff, reduceCtorEq, reduceIte, ↓reduceIte, vgo, vout, vguard, callOf, ev]
      have hll : (out ++ [first + (i : Int)]).length = out.length + 1 := by simp
      have ht : List.take ((out.length + 1) * 1) (cI (out ++ [first + (i : Int)])) = cI (out ++ [first + (i : Int)]) := List.take_of_length_le (by rw [cI_len, hll]; omega)
      rw [ht, show V.ro (out.length + 1) (cI (out ++ [first + (i : Int)])) = vI (out ++ [first + (i : Int)]) by rw [vI, hll]]
      refine Cl.mk (c_leave c k0 m (out ++ [first + (i : Int)]) (first + i + 1) f1 (by rw [hll]; omega) (by omega)) ?_
      rintro v h' ⟨f2, hf2, rfl, rfl⟩
      cases hr : leaveF c m (out ++ [first + (i : Int)]) (first + i + 1) with
      | some l =>
        simp only [gos, eq_self, Nat.reduceLT, Nat.reduceEqDiff, reduceIte, ↓reduceIte, vgo, vout, vguard, callOf, vop, ev, cv, Option.isSome_some]
        subst hQ
        have hrr : leaveF c (m + 1) out first = some l := by
          rw [leaveF]
          exact findSome_some (i := i) hil hr hno
        rw [hrr]
        exact FnPost.plain trivial (v := .bool true) (fun h2 e => by rfl) WkV.refl ⟨f2, fun l' e => by rw [hf2 l hr]; exact e, rfl, rfl⟩
      | none =>
        simp only [gos, eq_self, Nat.reduceLT, Nat.reduceEqDiff, reduceCtorEq, reduceIte, ↓reduceIte, vgo, vout, vguard, callOf, vop, ev, cv, vbin, vint, isShift, isNilConst, Option.isSome_none]
        refine Nx.mk (i + 1, f2) (show 10 - (i + 1) < 10 - i by omega) ⟨.inr (by simp only; omega), fun j hj => ?_⟩ (Wk.env ?_)
        · rcases Nat.lt_succ_iff_lt_or_eq.1 hj with h | rfl
          · exact hno j h
          · exact hr
        · have hw : IntKind.i64.wrap (first + ((i : Int) + 1)) = first + ((i : Int) + 1) := i64_in (by omega) (by omega)
          simp [subE, Env.get, Int.add_assoc, hw]
    · have hrr : leaveF c (m + 1) out first = none := by
        rw [leaveF]
        exact findSome_none fun j hj => hno j (by omega)
      simp only [gos, eq_self, Nat.reduceLT, Nat.reduceEqDiff, reduceCtorEq, reduceIte, ↓reduceIte, tt, vgo, vout, vguard, callOf, vop, ev, cv, vbin, vint, isShift, isNilConst, vload, vlen, vD, hsub, hil]
      subst hQ
      rw [hrr]
      exact FnPost.plain trivial (v := .bool false) (fun h2 e => by rfl) WkV.refl ⟨f1, (fun l e => by cases e), rfl, rfl⟩
theorem genH_ne (c : Cu) (k0 : CuOk c) : ∀ (k hour : Nat) (ls : List Int), hour + k ≤ c.loss.length → genH c k hour ls ≠ []
  | 0, hour, ls, _ => by simp [genH]
  | k + 1, hour, ls, h => by
    have hll : (hour : Int) < c.loss.length := by omega
    have hin := k0.loss.2 _ (List.mem_of_getElem? (gR_get hll))
    simp only [sInside, Bool.and_eq_true, decide_eq_true_eq] at hin
    have h1 := genH_ne c k0 k (hour + 1) (ls.set hour (gR c.loss hour).lo) (by omega)
    obtain ⟨x, hx⟩ := List.exists_mem_of_ne_nil _ h1
    refine List.ne_nil_of_mem (a := x) ?_
    simp only [genH, List.mem_flatMap]
    refine ⟨(gR c.loss hour).lo, ?_, hx⟩
    simp only [rangeI, List.mem_map, List.mem_range]
    exact ⟨0, by omega, by simp⟩
theorem truths_ne {c : Cu} (k0 : CuOk c) : truths c ≠ [] := by
  have hh := k0.heat
  simp only [sInside, Bool.and_eq_true, decide_eq_true_eq] at hh
  obtain ⟨x, hx⟩ := List.exists_mem_of_ne_nil _ (genH_ne c k0 (c.last + 1).toNat 0 zL (by have := k0.loss.1; omega))
  refine List.ne_nil_of_mem (a := (⟨c.heat.lo, x⟩ : Sc)) ?_
  simp only [truths, List.mem_flatMap, List.mem_map]
  refine ⟨c.heat.lo, ?_, x, hx, rfl⟩
  simp only [rangeI, List.mem_map, List.mem_range]
  exact ⟨0, by omega, by simp⟩
/-- The first n numbers. -/
def upto (n : Nat) : List Int := (List.range n).map fun (i : Nat) => (i : Int)
theorem leave_all {c : Cu} (k0 : CuOk c) : ∀ (m i : Nat), i + m = c.readings.length → (leaveF c m (upto i) i).isSome = true
  | 0, i, h => by
    have hp : sPoss c (upto i) = true := by
      obtain ⟨x, hx⟩ := List.exists_mem_of_ne_nil _ (truths_ne k0)
      rw [sPoss, List.any_eq_true]
      refine ⟨x, hx, sRight_true fun j hj => ?_⟩
      have : (upto i).any (fun y => decide ((j : Int) = y)) = true := by
        rw [List.any_eq_true]
        exact ⟨(j : Int), by simp only [upto, List.mem_map, List.mem_range]; exact ⟨j, by omega, rfl⟩, by simp⟩
      simp [sRead1, this]
    simp [leaveF, hp]
  | m + 1, i, h => by
    have ih := leave_all k0 m (i + 1) (by omega)
    rw [leaveF, Option.isSome_iff_exists]
    obtain ⟨l, hl⟩ := Option.isSome_iff_exists.1 ih
    have e : upto (i + 1) = upto i ++ [(i : Int)] := by simp [upto, List.range_succ]
    refine ⟨l, findSome_some (i := 0) (by omega) ?_ fun j hj => by omega⟩
    rw [← hl, e]
    simp
def leaveAll (c : Cu) : Option (List Int) := (rangeI 0 c.readings.length).findSome? fun many => leaveF c many.toNat [] 0
theorem leaveAll_some {c : Cu} (k0 : CuOk c) : ∃ l, leaveAll c = some l := by
  have h := leave_all k0 c.readings.length 0 (by omega)
  cases hc : leaveAll c with
  | some l => exact ⟨l, rfl⟩
  | none =>
    exfalso
    rw [leaveAll, List.findSome?_eq_none_iff] at hc
    have := hc (c.readings.length : Int) (by simp only [rangeI, List.mem_map, List.mem_range]; exact ⟨c.readings.length, by omega, by omega⟩)
    rw [Int.toNat_natCast] at this
    have e : upto 0 = [] := rfl
    rw [e] at h
    simp [this] at h
def sLeaveA (c : Cu) : List Int × Int := if sCheck c = 0 then ((leaveAll c).getD [], 0) else ([], sCheck c)
set_option maxHeartbeats 2000000 in
theorem c_Leave (c : Cu) (hc : c.wf) : Pu Try.prog (.fn 37 [] []) [.agg c.cs] (.tup [vI (sLeaveA c).1, vi (sLeaveA c).2]) := by
  refine Ev.fn Try.func37 rfl rfl (Fn.body tabOk Try.func37 rfl (Nat.le_of_ble_eq_true rfl) (Ks.ok (fz := (fzn [5, 6])) (cl := (cln [])) tabOk mixed ?_))
  generalize hQ : FnPost tt Try.f37 _ _ = Q
  simp only [Try.f37, List.nil_append, List.append_nil, argsEnv]
  simp only [gos, eq_self, Nat.reduceLT, Nat.reduceEqDiff, reduceCtorEq, reduceIte, ↓reduceIte, tt, vgo, vout, vguard, callOf, vop, ev, cv, vload, newRow]
  refine Cl.pu (c_Check c hc) ?_ rfl (by simp only [V.into, intoL, cu_into, Bool.and_true])
  by_cases h0 : sCheck c = 0
  case neg =>
    have hb : (sCheck c != 0) = true := by simp [h0]
    simp only [gos, eq_self, Nat.reduceLT, Nat.reduceEqDiff, reduceIte, ↓reduceIte, vgo, vout, vguard, callOf, vop, ev, cv, vbin, vint, isShift, isNilConst, hb]
    subst hQ
    have hr : sLeaveA c = ([], sCheck c) := by simp [sLeaveA, h0]
    rw [hr]
    exact FnPost.plain trivial (v := .tup [.sl0, vi (sCheck c)]) (fun h2 e => by rfl) WkV.nil1 ⟨rfl, rfl⟩
  have hb : (sCheck c != 0) = false := by simp [h0]
  have k0 := sCheck_ok h0
  have hrd := k0.rds
  simp only [gos, eq_self, Nat.reduceLT, Nat.reduceEqDiff, Nat.reduceAdd, reduceCtorEq, reduceIte, ↓reduceIte, tt, vgo, vout, vguard, callOf, vop, ev, cv, vbin, vint, isShift, isNilConst, vload, vlen, newRow, hb, vD, i64_in (show -9223372036854775808 ≤ (c.readings.length : Int) + 1 by omega) (show (c.readings.length : Int) + 1 ≤ 9223372036854775807 by omega)]
  refine W.loop tabOk mixed (fun a : Nat × Option (List Int) => ([(1, .rop c.cs), (5, .ptr 5 0 0), (6, .ptr 6 0 0), (17, vi ((c.readings.length : Int) + 1)), (18, vi a.1)], lvH c a.2)) (fun a => c.readings.length + 1 - a.1)
    (fun a => a.1 ≤ c.readings.length + 1 ∧ ∀ j : Nat, j < a.1 → leaveF c j [] 0 = none) (0, none) ⟨by simp, fun j hj => by simp at hj⟩ (Wk.env (by simp [subE, Env.get])) ?_
  rintro ⟨i, f1⟩ ⟨hi, hno⟩
  simp only at hi hno ⊢
  by_cases hil : (i : Int) < (c.readings.length : Int) + 1
  · simp only [gos, eq_self, Nat.reduceLT, Nat.reduceEqDiff, reduceCtorEq, reduceIte, ↓reduceIte, tt, vgo, vout, vguard, callOf, vop, ev, cv, vbin, vint, isShift, isNilConst, vload, hil, lvH]
    refine Cl.less (cs := [vI [], vi 0, vi i]) (ImpV.refl _) ⟨sl0_vI, ImpV.refl _, ImpV.refl _, trivial⟩ (Cl.mk (c_leave c k0 i [] 0 f1 (by simp; omega) (by omega)) ?_)
    rintro v h' ⟨f2, hf2, rfl, rfl⟩
    cases hr : leaveF c i [] 0 with
    | some l =>
      simp only [gos, eq_self, Nat.reduceLT, Nat.reduceEqDiff, reduceCtorEq, reduceIte, ↓reduceIte, tt, vgo, vout, vguard, callOf, vop, ev, cv, vload, Option.isSome_some, hf2 l hr, lvH, fV]
      subst hQ
      have hrr : leaveAll c = some l := by
        rw [leaveAll]
        have e0 : ∀ n : Nat, ((0 : Int) + n).toNat = n := fun n => by omega
        exact findSome_some (i := i) (by omega) (by rw [e0]; exact hr) (fun j hj => by rw [e0]; exact hno j hj)
      have hrs : sLeaveA c = (l, 0) := by rw [sLeaveA, if_pos h0, hrr]; rfl
      rw [hrs]
      exact FnPost.plain trivial (v := .tup [vI l, vi 0]) (fun h2 e => by rfl) (WkV.pure (by simp only [V.into, intoL, vI_into, Bool.and_true])) ⟨rfl, rfl⟩
    | none =>
      simp only [gos, eq_self, Nat.reduceLT, Nat.reduceEqDiff, reduceIte, ↓reduceIte, vgo, vout, vguard, callOf, vop, ev, cv, vbin, vint, isShift, isNilConst, Option.isSome_none]
      refine Nx.mk (i + 1, f2) (show c.readings.length + 1 - (i + 1) < c.readings.length + 1 - i by omega) ⟨by simp only; omega, fun j hj => ?_⟩ (Wk.env ?_)
      · rcases Nat.lt_succ_iff_lt_or_eq.1 hj with h | rfl
        · exact hno j h
        · exact hr
      · simp [subE, Env.get, i64_succ (show (i : Int) < 9223372036854775807 by omega)]
  · exfalso
    obtain ⟨l, hl⟩ := leaveAll_some k0
    have : leaveAll c = none := by
      rw [leaveAll]
      refine findSome_none fun j hj => ?_
      rw [show ((0 : Int) + (j : Int)).toNat = j by omega]
      exact hno j (by omega)
    rw [hl] at this
    cases this
end Go.Vm

set_option linter.unusedVariables false
set_option linter.unusedSimpArgs false
set_option maxRecDepth 100000
namespace Go.Vm
open Go.Proofs
/-! ### the reference: what is valid -/
theorem c_rIn (a b c : Int) : Pu Try.prog (.fn 32 [] []) [vi a, vi b, vi c] (.bool (sIn a b c)) := by
  refine Ev.fn Try.func32 rfl rfl (Fn.body tabOk Try.func32 rfl (Nat.le_of_ble_eq_true rfl) (Ks.ok (fz := (fzn [])) (cl := (cln [])) tabOk mixed ?_))
  generalize hQ : FnPost tt Try.f32 _ _ = Q
  simp only [Try.f32, List.nil_append, List.append_nil, argsEnv, Nat.reduceAdd]
  by_cases h : b ≤ a
  · simp only [gos, eq_self, Nat.reduceLT, Nat.reduceEqDiff, reduceCtorEq, reduceIte, ↓reduceIte, vgo, vout, vguard, callOf, vop, ev, cv, vbin, vint, isShift, isNilConst, h]
    subst hQ
    exact FnPost.plain trivial (fun h2 e => by first | rfl | (simp only [Try.f32, vres, vresL, vres1, e _, gos, if_true, if_false, ne_eq, eq_self, Nat.reduceLT, Nat.reduceEqDiff, Nat.reduceAdd, Nat.reduceMul, Nat.reduceLeDiff, Nat.reduceBEq, reduceCtorEq, reduceIte, Array.toList, ↓reduceIte, tt, vgo, vout, vgoD, voutD, vclsOk, vids, mayWrite, V.ids, V.mids, vguard, callOf, vop, ev, cv, vbin, vint, isShift, isNilConst, vnil, isNilSlice, vload, vlen, newRow, vfill, vslice, entOf, vappend, srcOf, vcopy, vlookup, vupdate, mapOk, keyOf, intsOf, clsAt]; try rfl)) (WkV.pure (by simp only [V.into])) ⟨by simp [sIn, h], rfl⟩
  · simp only [gos, eq_self, Nat.reduceLT, Nat.reduceEqDiff, reduceCtorEq, reduceIte, ↓reduceIte, vgo, vout, vguard, callOf, vop, ev, cv, vbin, vint, isShift, isNilConst, h]
    subst hQ
    exact FnPost.plain trivial (fun h2 e => by first | rfl | (simp only [Try.f32, vres, vresL, vres1, e _, gos, if_true, if_false, ne_eq, eq_self, Nat.reduceLT, Nat.reduceEqDiff, Nat.reduceAdd, Nat.reduceMul, Nat.reduceLeDiff, Nat.reduceBEq, reduceCtorEq, reduceIte, Array.toList, ↓reduceIte, tt, vgo, vout, vgoD, voutD, vclsOk, vids, mayWrite, V.ids, V.mids, vguard, callOf, vop, ev, cv, vbin, vint, isShift, isNilConst, vnil, isNilSlice, vload, vlen, newRow, vfill, vslice, entOf, vappend, srcOf, vcopy, vlookup, vupdate, mapOk, keyOf, intsOf, clsAt]; try rfl)) (WkV.pure (by simp only [V.into])) ⟨by simp [sIn, h], rfl⟩
theorem c_rIs (n : Int) (r : Rg) : Pu Try.prog (.fn 111 [] []) [vi n, .agg [vi r.lo, vi r.hi]] (.bool (sIn n r.lo r.hi)) := by
  refine Ev.fn Try.func111 rfl rfl (Fn.body tabOk Try.func111 rfl (Nat.le_of_ble_eq_true rfl) (Ks.ok (fz := (fzn [])) (cl := (cln [])) tabOk mixed ?_))
  generalize hQ : FnPost tt Try.f111 _ _ = Q
  simp only [Try.f111, List.nil_append, List.append_nil, argsEnv, Nat.reduceAdd]
  simp only [gos, eq_self, Nat.reduceLT, Nat.reduceEqDiff, reduceCtorEq, reduceIte, ↓reduceIte, tt, vgo, vout, vguard, callOf, vop, ev, cv, vload, newRow]
  refine Cl.pu (c_rIn _ _ _) ?_
  simp only [gos, eq_self, Nat.reduceLT, reduceIte, ↓reduceIte, vgo, vout, vguard, callOf, vop, ev]
  subst hQ
  exact FnPost.plain trivial (fun h2 e => by first | rfl | (simp only [Try.f111, vres, vresL, vres1, e _, gos, if_true, if_false, ne_eq, eq_self, Nat.reduceLT, Nat.reduceEqDiff, Nat.reduceAdd, Nat.reduceMul, Nat.reduceLeDiff, Nat.reduceBEq, reduceCtorEq, reduceIte, Array.toList, ↓reduceIte, tt, vgo, vout, vgoD, voutD, vclsOk, vids, mayWrite, V.ids, V.mids, vguard, callOf, vop, ev, cv, vbin, vint, isShift, isNilConst, vnil, isNilSlice, vload, vlen, newRow, vfill, vslice, entOf, vappend, srcOf, vcopy, vlookup, vupdate, mapOk, keyOf, intsOf, clsAt]; try rfl)) (WkV.pure (by simp only [V.into])) ⟨rfl, rfl⟩
theorem c_rInside (r : Rg) (n : Int) : Pu Try.prog (.fn 118 [] []) [.agg [vi r.lo, vi r.hi], vi n] (.bool (sInside r n)) := by
  refine Ev.fn Try.func118 rfl rfl (Fn.body tabOk Try.func118 rfl (Nat.le_of_ble_eq_true rfl) (Ks.ok (fz := (fzn [])) (cl := (cln [])) tabOk mixed ?_))
  generalize hQ : FnPost tt Try.f118 _ _ = Q
  simp only [Try.f118, List.nil_append, List.append_nil, argsEnv, Nat.reduceAdd]
  by_cases h : 0 ≤ r.lo
  · by_cases h2 : r.lo ≤ r.hi
    · simp only [gos, eq_self, Nat.reduceLT, Nat.reduceEqDiff, reduceCtorEq, reduceIte, ↓reduceIte, tt, vgo, vout, vguard, callOf, vop, ev, cv, vbin, vint, isShift, isNilConst, vload, newRow, h, h2]
      subst hQ
      exact FnPost.plain trivial (fun h2 e => by first | rfl | (simp only [Try.f118, vres, vresL, vres1, e _, gos, if_true, if_false, ne_eq, eq_self, Nat.reduceLT, Nat.reduceEqDiff, Nat.reduceAdd, Nat.reduceMul, Nat.reduceLeDiff, Nat.reduceBEq, reduceCtorEq, reduceIte, Array.toList, ↓reduceIte, tt, vgo, vout, vgoD, voutD, vclsOk, vids, mayWrite, V.ids, V.mids, vguard, callOf, vop, ev, cv, vbin, vint, isShift, isNilConst, vnil, isNilSlice, vload, vlen, newRow, vfill, vslice, entOf, vappend, srcOf, vcopy, vlookup, vupdate, mapOk, keyOf, intsOf, clsAt]; try rfl)) (WkV.pure (by simp only [V.into])) ⟨by simp [sInside, h, h2], rfl⟩
    · simp only [gos, eq_self, Nat.reduceLT, Nat.reduceEqDiff, reduceCtorEq, reduceIte, ↓reduceIte, tt, vgo, vout, vguard, callOf, vop, ev, cv, vbin, vint, isShift, isNilConst, vload, newRow, h, h2]
      subst hQ
      exact FnPost.plain trivial (fun h2 e => by first | rfl | (simp only [Try.f118, vres, vresL, vres1, e _, gos, if_true, if_false, ne_eq, eq_self, Nat.reduceLT, Nat.reduceEqDiff, Nat.reduceAdd, Nat.reduceMul, Nat.reduceLeDiff, Nat.reduceBEq, reduceCtorEq, reduceIte, Array.toList, ↓reduceIte, tt, vgo, vout, vgoD, voutD, vclsOk, vids, mayWrite, V.ids, V.mids, vguard, callOf, vop, ev, cv, vbin, vint, isShift, isNilConst, vnil, isNilSlice, vload, vlen, newRow, vfill, vslice, entOf, vappend, srcOf, vcopy, vlookup, vupdate, mapOk, keyOf, intsOf, clsAt]; try rfl)) (WkV.pure (by simp only [V.into])) ⟨by simp [sInside, h, h2], rfl⟩
  · simp only [gos, eq_self, Nat.reduceLT, Nat.reduceEqDiff, reduceCtorEq, reduceIte, ↓reduceIte, tt, vgo, vout, vguard, callOf, vop, ev, cv, vbin, vint, isShift, isNilConst, vload, newRow, h]
    subst hQ
    exact FnPost.plain trivial (fun h2 e => by first | rfl | (simp only [Try.f118, vres, vresL, vres1, e _, gos, if_true, if_false, ne_eq, eq_self, Nat.reduceLT, Nat.reduceEqDiff, Nat.reduceAdd, Nat.reduceMul, Nat.reduceLeDiff, Nat.reduceBEq, reduceCtorEq, reduceIte, Array.toList, ↓reduceIte, tt, vgo, vout, vgoD, voutD, vclsOk, vids, mayWrite, V.ids, V.mids, vguard, callOf, vop, ev, cv, vbin, vint, isShift, isNilConst, vnil, isNilSlice, vload, vlen, newRow, vfill, vslice, entOf, vappend, srcOf, vcopy, vlookup, vupdate, mapOk, keyOf, intsOf, clsAt]; try rfl)) (WkV.pure (by simp only [V.into])) ⟨by simp [sInside, h], rfl⟩
theorem c_rSize (r : Rg) (h1 : I64 (r.hi - r.lo)) (h2 : I64 (sSize r)) : Pu Try.prog (.fn 96 [] []) [.agg [vi r.lo, vi r.hi]] (vi (sSize r)) := by
  refine Ev.fn Try.func96 rfl rfl (Fn.body tabOk Try.func96 rfl (Nat.le_of_ble_eq_true rfl) (Ks.ok (fz := (fzn [])) (cl := (cln [])) tabOk mixed ?_))
  generalize hQ : FnPost tt Try.f96 _ _ = Q
  simp only [Try.f96, List.nil_append, List.append_nil, argsEnv]
  simp only [gos, eq_self, Nat.reduceLT, Nat.reduceEqDiff, reduceCtorEq, reduceIte, ↓reduceIte, tt, vgo, vout, vguard, callOf, vop, ev, cv, vbin, vint, isShift, isNilConst, vload, newRow, i64_in h1.1 h1.2]
  subst hQ
  exact FnPost.plain trivial (fun h2 e => by first | rfl | (simp only [Try.f96, vres, vresL, vres1, e _, gos, if_true, if_false, ne_eq, eq_self, Nat.reduceLT, Nat.reduceEqDiff, Nat.reduceAdd, Nat.reduceMul, Nat.reduceLeDiff, Nat.reduceBEq, reduceCtorEq, reduceIte, Array.toList, ↓reduceIte, tt, vgo, vout, vgoD, voutD, vclsOk, vids, mayWrite, V.ids, V.mids, vguard, callOf, vop, ev, cv, vbin, vint, isShift, isNilConst, vnil, isNilSlice, vload, vlen, newRow, vfill, vslice, entOf, vappend, srcOf, vcopy, vlookup, vupdate, mapOk, keyOf, intsOf, clsAt]; try rfl)) (WkV.pure (by simp only [V.into])) ⟨by rw [i64_in (n := r.hi - r.lo + 1) h2.1 h2.2]; rfl, rfl⟩
def rEach (c : Cu) (l : List Int) (most : Int) : Bool := decide ((l.length : Int) = c.last + 1) && l.all fun n => sIn n 0 most
theorem c_rEach (c : Cu) (l : List Int) (most : Int) (hc : I64 c.last) (hl : (l.length : Int) ≤ 1000000) : Pu Try.prog (.fn 31 [] []) [.agg c.cs, vI l, vi most] (.bool (rEach c l most)) := by
  refine Ev.fn Try.func31 rfl rfl (Fn.body tabOk Try.func31 rfl (Nat.le_of_ble_eq_true rfl) (Ks.ok (fz := (fzn [])) (cl := (cln [])) tabOk mixed ?_))
  generalize hQ : FnPost tt Try.f31 _ _ = Q
  simp only [Try.f31, List.nil_append, List.append_nil, argsEnv, Nat.reduceAdd]
  have e := len_wrap hc (k := l.length) hl
  by_cases h : (l.length : Int) = c.last + 1
  case neg =>
    have hb2 : ((l.length : Int) != IntKind.i64.wrap (c.last + 1)) = true := by rw [bne_iff_ne, ne_eq, e]; exact h
    simp only [gos, eq_self, Nat.reduceLT, Nat.reduceEqDiff, reduceCtorEq, reduceIte, ↓reduceIte, tt, vgo, vout, vguard, callOf, vop, ev, cv, vbin, vint, isShift, isNilConst, vload, vlen, newRow, vI, hb2]
    subst hQ
    exact FnPost.plain trivial (fun h2 e => by first | rfl | (simp only [Try.f31, vres, vresL, vres1, e _, gos, if_true, if_false, ne_eq, eq_self, Nat.reduceLT, Nat.reduceEqDiff, Nat.reduceAdd, Nat.reduceMul, Nat.reduceLeDiff, Nat.reduceBEq, reduceCtorEq, reduceIte, Array.toList, ↓reduceIte, tt, vgo, vout, vgoD, voutD, vclsOk, vids, mayWrite, V.ids, V.mids, vguard, callOf, vop, ev, cv, vbin, vint, isShift, isNilConst, vnil, isNilSlice, vload, vlen, newRow, vfill, vslice, entOf, vappend, srcOf, vcopy, vlookup, vupdate, mapOk, keyOf, intsOf, clsAt]; try rfl)) (WkV.pure (by simp only [V.into])) ⟨by simp [rEach, h], rfl⟩
  have hb2 : ((l.length : Int) != IntKind.i64.wrap (c.last + 1)) = false := by rw [bne_eq_false_iff_eq, e]; exact h
  simp only [gos, eq_self, Nat.reduceLT, Nat.reduceEqDiff, reduceCtorEq, reduceIte, ↓reduceIte, tt, vgo, vout, vguard, callOf, vop, ev, cv, vbin, vint, isShift, isNilConst, vload, vlen, newRow, vI, hb2]
  refine W.loop tabOk mixed (fun i : Nat => ([(1, vI l), (2, vi most), (3, .rop c.cs), (7, vi i)], [])) (fun i => l.length - i) (fun i => i ≤ l.length ∧ ∀ j : Nat, j < i → sIn (gi l j) 0 most = true) 0 ⟨by omega, fun j hj => by omega⟩ (Wk.env (by simp [subE, Env.get, vI])) ?_
  rintro i ⟨hi, hno⟩
  by_cases hil : (i : Int) < l.length
  · simp only [gos, eq_self, Nat.reduceLT, Nat.reduceEqDiff, reduceCtorEq, reduceIte, ↓reduceIte, tt, vgo, vout, vguard, callOf, vop, ev, cv, vbin, vint, isShift, isNilConst, vload, vlen, vI, hil, cI_at (Int.natCast_nonneg i) hil]
    refine Cl.pu (c_rIn _ _ _) ?_
    cases hr : sIn (gi l i) 0 most with
    | true =>
      simp only [gos, eq_self, Nat.reduceLT, Nat.reduceEqDiff, reduceIte, ↓reduceIte, vgo, vout, vguard, callOf, vop, ev, cv, vbin, vint, isShift, isNilConst]
      refine Nx.mk (i + 1) (show l.length - (i + 1) < l.length - i by omega) ⟨by omega, fun j hj => ?_⟩ (Wk.env (by simp [subE, Env.get, i64_succ (show (i : Int) < 9223372036854775807 by omega)]))
      rcases Nat.lt_succ_iff_lt_or_eq.1 hj with h | rfl
      · exact hno j h
      · exact hr
    | false =>
      simp only [gos, eq_self, Nat.reduceLT, reduceIte, ↓reduceIte, vgo, vout, vguard, callOf, vop, ev, cv]
      subst hQ
      exact FnPost.plain trivial (fun h2 e => by first | rfl | (simp only [Try.f31, vres, vresL, vres1, e _, gos, if_true, if_false, ne_eq, eq_self, Nat.reduceLT, Nat.reduceEqDiff, Nat.reduceAdd, Nat.reduceMul, Nat.reduceLeDiff, Nat.reduceBEq, reduceCtorEq, reduceIte, Array.toList, ↓reduceIte, tt, vgo, vout, vgoD, voutD, vclsOk, vids, mayWrite, V.ids, V.mids, vguard, callOf, vop, ev, cv, vbin, vint, isShift, isNilConst, vnil, isNilSlice, vload, vlen, newRow, vfill, vslice, entOf, vappend, srcOf, vcopy, vlookup, vupdate, mapOk, keyOf, intsOf, clsAt]; try rfl)) (WkV.pure (by simp only [V.into])) ⟨by simp only [rEach, all_gi_false (f := fun n => sIn n 0 most) hil hr, Bool.and_false], rfl⟩
  · simp only [gos, eq_self, Nat.reduceLT, Nat.reduceEqDiff, reduceIte, ↓reduceIte, tt, vgo, vout, vguard, callOf, vop, ev, cv, vbin, vint, isShift, isNilConst, vlen, vI, hil]
    subst hQ
    exact FnPost.plain trivial (fun h2 e => by first | rfl | (simp only [Try.f31, vres, vresL, vres1, e _, gos, if_true, if_false, ne_eq, eq_self, Nat.reduceLT, Nat.reduceEqDiff, Nat.reduceAdd, Nat.reduceMul, Nat.reduceLeDiff, Nat.reduceBEq, reduceCtorEq, reduceIte, Array.toList, ↓reduceIte, tt, vgo, vout, vgoD, voutD, vclsOk, vids, mayWrite, V.ids, V.mids, vguard, callOf, vop, ev, cv, vbin, vint, isShift, isNilConst, vnil, isNilSlice, vload, vlen, newRow, vfill, vslice, entOf, vappend, srcOf, vcopy, vlookup, vupdate, mapOk, keyOf, intsOf, clsAt]; try rfl)) (WkV.pure (by simp only [V.into])) ⟨by rw [rEach, h, all_gi (f := fun n => sIn n 0 most) fun j hj => hno j (by omega)]; simp, rfl⟩
def rMany (c : Cu) : Int := c.loss.foldl (fun m r => min 3000 (m * sSize r)) (sSize c.heat)
def rManyL (n : Int) (l : List Rg) : Int := l.foldl (fun m r => min 3000 (m * sSize r)) n
theorem rManyL_succ {l : List Rg} {n : Int} {i : Nat} (hi : (i : Int) < l.length) : rManyL n (l.take (i + 1)) = min 3000 (rManyL n (l.take i) * sSize (gR l i)) := by
  have e : l.take (i + 1) = l.take i ++ [gR l i] := by rw [List.take_add_one, gR_get hi]; rfl
  rw [e, rManyL, List.foldl_append]; rfl
theorem rManyL_le {n : Int} (hn : 1 ≤ n ∧ n ≤ 3000) : ∀ {l : List Rg}, (∀ r ∈ l, sInside r 99 = true) → 1 ≤ rManyL n l ∧ rManyL n l ≤ 3000
  | [], _ => hn
  | r :: l, h => by
    have hr := size_le (h r (by simp))
    have h0 : 1 ≤ n * sSize r := by have := Int.mul_le_mul hn.1 hr.1 (by omega) (by omega); omega
    exact rManyL_le (n := min 3000 (n * sSize r)) (by omega) fun x hx => h x (by simp [hx])
theorem c_rMany (c : Cu) (hh : sInside c.heat 99 = true) (hl : (c.loss.length : Int) ≤ 1000000) (hall : ∀ r ∈ c.loss, sInside r 99 = true) : Pu Try.prog (.fn 47 [] []) [.agg c.cs] (vi (rMany c)) := by
  have hz := size_le hh
  refine Ev.fn Try.func47 rfl rfl (Fn.body tabOk Try.func47 rfl (Nat.le_of_ble_eq_true rfl) (Ks.ok (fz := (fzn [])) (cl := (cln [])) tabOk mixed ?_))
  generalize hQ : FnPost tt Try.f47 _ _ = Q
  simp only [Try.f47, List.nil_append, List.append_nil, argsEnv]
  simp only [gos, eq_self, Nat.reduceLT, Nat.reduceEqDiff, Nat.reduceLeDiff, reduceCtorEq, reduceIte, ↓reduceIte, tt, vgo, vout, vguard, callOf, vop, ev, cv, vload, newRow]
  refine Cl.pu (c_rSize c.heat ⟨by omega, by omega⟩ ⟨by omega, by omega⟩) ?_
  simp only [gos, eq_self, Nat.reduceLT, reduceIte, ↓reduceIte, vgo, vout, vguard, callOf, vop, ev, cv]
  refine W.loop tabOk mixed (fun i : Nat => ([(1, .rop c.cs), (3, vi (rManyL (sSize c.heat) (c.loss.take i))), (4, vi i)], [])) (fun i => c.loss.length - i) (fun i => i ≤ c.loss.length) 0 (by omega) (Wk.env (by simp [subE, Env.get, rManyL])) ?_
  intro i hi
  by_cases hil : (i : Int) < c.loss.length
  · simp only [gos, eq_self, Nat.reduceLT, Nat.reduceEqDiff, reduceCtorEq, reduceIte, ↓reduceIte, tt, vgo, vout, vguard, callOf, vop, ev, vbin, vint, isShift, isNilConst, vload, vlen, vR, hil, cR_at (Int.natCast_nonneg i) hil]
    have hr := size_le (hall _ (List.mem_of_getElem? (gR_get hil)))
    have hm := rManyL_le (n := sSize c.heat) ⟨by omega, by omega⟩ (l := c.loss.take i) fun r hr => hall r (List.mem_of_mem_take hr)
    refine Cl.pu (c_rSize (gR c.loss i) ⟨by omega, by omega⟩ ⟨by omega, by omega⟩) ?_
    have h0 : 0 ≤ rManyL (sSize c.heat) (c.loss.take i) * sSize (gR c.loss i) := Int.mul_nonneg (by omega) (by omega)
    have h100 : rManyL (sSize c.heat) (c.loss.take i) * sSize (gR c.loss i) ≤ 3000 * 100 := Int.mul_le_mul hm.2 hr.2.1 (by omega) (by omega)
    simp only [gos, eq_self, Nat.reduceLT, Nat.reduceEqDiff, reduceIte, ↓reduceIte, vgo, vout, vguard, callOf, vop, ev, cv, vbin, vint, isShift, isNilConst, i64_in (show -9223372036854775808 ≤ rManyL (sSize c.heat) (c.loss.take i) * sSize (gR c.loss i) by omega) (show rManyL (sSize c.heat) (c.loss.take i) * sSize (gR c.loss i) ≤ 9223372036854775807 by omega)]
    exact Nx.mk (i + 1) (show c.loss.length - (i + 1) < c.loss.length - i by omega) (by omega) (Wk.env (by simp [subE, Env.get, rManyL_succ hil, i64_succ (show (i : Int) < 9223372036854775807 by omega)]))
  · simp only [gos, eq_self, Nat.reduceLT, Nat.reduceEqDiff, reduceCtorEq, reduceIte, ↓reduceIte, tt, vgo, vout, vguard, callOf, vop, ev, vbin, vint, isShift, isNilConst, vload, vlen, vR, hil]
    have e : c.loss.take i = c.loss := List.take_of_length_le (by omega)
    rw [e]
    subst hQ
    exact FnPost.plain trivial (fun h2 e => by first | rfl | (simp only [Try.f47, vres, vresL, vres1, e _, gos, if_true, if_false, ne_eq, eq_self, Nat.reduceLT, Nat.reduceEqDiff, Nat.reduceAdd, Nat.reduceMul, Nat.reduceLeDiff, Nat.reduceBEq, reduceCtorEq, reduceIte, Array.toList, ↓reduceIte, tt, vgo, vout, vgoD, voutD, vclsOk, vids, mayWrite, V.ids, V.mids, vguard, callOf, vop, ev, cv, vbin, vint, isShift, isNilConst, vnil, isNilSlice, vload, vlen, newRow, vfill, vslice, entOf, vappend, srcOf, vcopy, vlookup, vupdate, mapOk, keyOf, intsOf, clsAt]; try rfl)) (WkV.pure (by simp only [V.into])) ⟨rfl, rfl⟩
end Go.Vm

set_option linter.unusedVariables false
set_option linter.unusedSimpArgs false
set_option maxRecDepth 100000
namespace Go.Vm
open Go.Proofs
theorem many_same : ∀ (l : List Rg) (a b : Int), 1 ≤ a → 1 ≤ b → min a 2001 = min b 2001 → (∀ r ∈ l, 1 ≤ sSize r) → min (sManyL a l) 2001 = min (rManyL b l) 2001
  | [], a, b, _, _, h, _ => h
  | r :: l, a, b, ha, hb, h, hs => by
    have h1 := hs r (by simp)
    have e1 : sManyL a (r :: l) = sManyL (min (a * sSize r) 2001) l := rfl
    have e2 : rManyL b (r :: l) = rManyL (min 3000 (b * sSize r)) l := rfl
    have m1 : a * 1 ≤ a * sSize r := Int.mul_le_mul_of_nonneg_left h1 (by omega)
    have m2 : b * 1 ≤ b * sSize r := Int.mul_le_mul_of_nonneg_left h1 (by omega)
    rw [e1, e2]
    refine many_same l _ _ (by omega) (by omega) ?_ fun x hx => hs x (by simp [hx])
    by_cases hab : a = b
    · subst hab; omega
    · omega
theorem many_iff {c : Cu} (hh : sInside c.heat 99 = true) (hall : ∀ r ∈ c.loss, sInside r 99 = true) : (2000 < rMany c) = (2000 < sMany c) := by
  have hz := size_le hh
  have := many_same c.loss (sSize c.heat) (sSize c.heat) (by omega) (by omega) rfl fun r hr => (size_le (hall r hr)).1
  have e : rMany c = rManyL (sSize c.heat) c.loss := rfl
  rw [e, sMany]
  apply propext
  omega
set_option maxHeartbeats 2000000 in
theorem c_rFault (c : Cu) (hc : c.wf) : Pu Try.prog (.fn 78 [] []) [.agg c.cs] (vi (sCheck c)) := by
  refine Ev.fn Try.func78 rfl rfl (Fn.body tabOk Try.func78 rfl (Nat.le_of_ble_eq_true rfl) (Ks.ok (fz := (fzn [])) (cl := (cln [(13, .d tg0 [cP, cP, cP, cP, cP, cP, cP, cP, cP, cP, cP, cP, cP, cP, cP, cP, cP, cP, cP, cP])])) tabOk mixed ?_))
  generalize hQ : FnPost tt Try.f78 _ _ = Q
  simp only [Try.f78, List.nil_append, List.append_nil, argsEnv]
  by_cases h1 : 4 < c.last
  · simp only [gos, eq_self, Nat.reduceLT, Nat.reduceEqDiff, reduceCtorEq, reduceIte, ↓reduceIte, tt, vgo, vout, vguard, callOf, vop, ev, cv, vbin, vint, isShift, isNilConst, vload, newRow, h1]
    subst hQ
    exact FnPost.plain trivial (fun h2 e => by first | rfl | (simp only [Try.f78, vres, vresL, vres1, e _, gos, if_true, if_false, ne_eq, eq_self, Nat.reduceLT, Nat.reduceEqDiff, Nat.reduceAdd, Nat.reduceMul, Nat.reduceLeDiff, Nat.reduceBEq, reduceCtorEq, reduceIte, Array.toList, ↓reduceIte, tt, vgo, vout, vgoD, voutD, vclsOk, vids, mayWrite, V.ids, V.mids, vguard, callOf, vop, ev, cv, vbin, vint, isShift, isNilConst, vnil, isNilSlice, vload, vlen, newRow, vfill, vslice, entOf, vappend, srcOf, vcopy, vlookup, vupdate, mapOk, keyOf, intsOf, clsAt]; try rfl)) (WkV.pure (by simp only [V.into])) ⟨by simp [sCheck, h1], rfl⟩
  by_cases h2 : 5 < (c.readings.length : Int)
  · simp only [gos, eq_self, Nat.reduceLT, Nat.reduceEqDiff, reduceCtorEq, reduceIte, ↓reduceIte, tt, vgo, vout, vguard, callOf, vop, ev, cv, vbin, vint, isShift, isNilConst, vload, vlen, newRow, h1, h2, vD]
    subst hQ
    exact FnPost.plain trivial (fun h2 e => by first | rfl | (simp only [Try.f78, vres, vresL, vres1, e _, gos, if_true, if_false, ne_eq, eq_self, Nat.reduceLT, Nat.reduceEqDiff, Nat.reduceAdd, Nat.reduceMul, Nat.reduceLeDiff, Nat.reduceBEq, reduceCtorEq, reduceIte, Array.toList, ↓reduceIte, tt, vgo, vout, vgoD, voutD, vclsOk, vids, mayWrite, V.ids, V.mids, vguard, callOf, vop, ev, cv, vbin, vint, isShift, isNilConst, vnil, isNilSlice, vload, vlen, newRow, vfill, vslice, entOf, vappend, srcOf, vcopy, vlookup, vupdate, mapOk, keyOf, intsOf, clsAt]; try rfl)) (WkV.pure (by simp only [V.into])) ⟨by simp [sCheck, h1, h2], rfl⟩
  by_cases h3 : c.last < 0
  · simp only [gos, eq_self, Nat.reduceLT, Nat.reduceEqDiff, reduceCtorEq, reduceIte, ↓reduceIte, tt, vgo, vout, vguard, callOf, vop, ev, cv, vbin, vint, isShift, isNilConst, vload, vlen, newRow, h1, h2, h3, vD]
    subst hQ
    exact FnPost.plain trivial (fun h2 e => by first | rfl | (simp only [Try.f78, vres, vresL, vres1, e _, gos, if_true, if_false, ne_eq, eq_self, Nat.reduceLT, Nat.reduceEqDiff, Nat.reduceAdd, Nat.reduceMul, Nat.reduceLeDiff, Nat.reduceBEq, reduceCtorEq, reduceIte, Array.toList, ↓reduceIte, tt, vgo, vout, vgoD, voutD, vclsOk, vids, mayWrite, V.ids, V.mids, vguard, callOf, vop, ev, cv, vbin, vint, isShift, isNilConst, vnil, isNilSlice, vload, vlen, newRow, vfill, vslice, entOf, vappend, srcOf, vcopy, vlookup, vupdate, mapOk, keyOf, intsOf, clsAt]; try rfl)) (WkV.pure (by simp only [V.into])) ⟨by simp [sCheck, sBad1, h1, h2, h3], rfl⟩
  simp only [gos, eq_self, Nat.reduceLT, Nat.reduceEqDiff, reduceCtorEq, reduceIte, ↓reduceIte, tt, vgo, vout, vguard, callOf, vop, ev, cv, vbin, vint, isShift, isNilConst, vload, vlen, newRow, h1, h2, h3, vD]
  refine Cl.pu (c_rIn _ _ _) ?_
  cases h4 : sIn c.most 0 999
  · have hb : sBad1 c = true := by
      simp only [sIn, Bool.and_eq_false_iff, decide_eq_false_iff_not] at h4
      simp only [sBad1, sIn, Bool.or_eq_true, decide_eq_true_eq, Bool.not_eq_true', Bool.and_eq_false_iff, decide_eq_false_iff_not]
      omega
    simp only [gos, eq_self, Nat.reduceLT, Nat.reduceEqDiff, reduceIte, ↓reduceIte, vgo, vout, vguard, callOf, vop, ev, cv]
    subst hQ
    exact FnPost.plain trivial (fun h2 e => by first | rfl | (simp only [Try.f78, vres, vresL, vres1, e _, gos, if_true, if_false, ne_eq, eq_self, Nat.reduceLT, Nat.reduceEqDiff, Nat.reduceAdd, Nat.reduceMul, Nat.reduceLeDiff, Nat.reduceBEq, reduceCtorEq, reduceIte, Array.toList, ↓reduceIte, tt, vgo, vout, vgoD, voutD, vclsOk, vids, mayWrite, V.ids, V.mids, vguard, callOf, vop, ev, cv, vbin, vint, isShift, isNilConst, vnil, isNilSlice, vload, vlen, newRow, vfill, vslice, entOf, vappend, srcOf, vcopy, vlookup, vupdate, mapOk, keyOf, intsOf, clsAt]; try rfl)) (WkV.pure (by simp only [V.into])) ⟨by simp [sCheck, h1, h2, hb], rfl⟩
  simp only [gos, eq_self, Nat.reduceLT, Nat.reduceEqDiff, reduceCtorEq, reduceIte, ↓reduceIte, tt, vgo, vout, vguard, callOf, vop, ev, cv, vload]
  refine Cl.pu (c_rIn _ _ _) ?_
  cases h5 : sIn c.start 0 c.most
  · simp only [gos, eq_self, Nat.reduceLT, Nat.reduceEqDiff, reduceIte, ↓reduceIte, vgo, vout, vguard, callOf, vop, ev, cv]
    subst hQ
    exact FnPost.plain trivial (fun h2 e => by first | rfl | (simp only [Try.f78, vres, vresL, vres1, e _, gos, if_true, if_false, ne_eq, eq_self, Nat.reduceLT, Nat.reduceEqDiff, Nat.reduceAdd, Nat.reduceMul, Nat.reduceLeDiff, Nat.reduceBEq, reduceCtorEq, reduceIte, Array.toList, ↓reduceIte, tt, vgo, vout, vgoD, voutD, vclsOk, vids, mayWrite, V.ids, V.mids, vguard, callOf, vop, ev, cv, vbin, vint, isShift, isNilConst, vnil, isNilSlice, vload, vlen, newRow, vfill, vslice, entOf, vappend, srcOf, vcopy, vlookup, vupdate, mapOk, keyOf, intsOf, clsAt]; try rfl)) (WkV.pure (by simp only [V.into])) ⟨by simp [sCheck, sBad1, h1, h2, h5], rfl⟩
  simp only [gos, eq_self, Nat.reduceLT, Nat.reduceEqDiff, reduceCtorEq, reduceIte, ↓reduceIte, tt, vgo, vout, vguard, callOf, vop, ev, cv, vload]
  refine Cl.pu (c_rIn _ _ _) ?_
  cases h6 : sIn c.per 1 20
  · simp only [gos, eq_self, Nat.reduceLT, Nat.reduceEqDiff, reduceIte, ↓reduceIte, vgo, vout, vguard, callOf, vop, ev, cv]
    subst hQ
    exact FnPost.plain trivial (fun h2 e => by first | rfl | (simp only [Try.f78, vres, vresL, vres1, e _, gos, if_true, if_false, ne_eq, eq_self, Nat.reduceLT, Nat.reduceEqDiff, Nat.reduceAdd, Nat.reduceMul, Nat.reduceLeDiff, Nat.reduceBEq, reduceCtorEq, reduceIte, Array.toList, ↓reduceIte, tt, vgo, vout, vgoD, voutD, vclsOk, vids, mayWrite, V.ids, V.mids, vguard, callOf, vop, ev, cv, vbin, vint, isShift, isNilConst, vnil, isNilSlice, vload, vlen, newRow, vfill, vslice, entOf, vappend, srcOf, vcopy, vlookup, vupdate, mapOk, keyOf, intsOf, clsAt]; try rfl)) (WkV.pure (by simp only [V.into])) ⟨by simp [sCheck, sBad1, h1, h2, h6], rfl⟩
  simp only [gos, eq_self, Nat.reduceLT, Nat.reduceEqDiff, reduceCtorEq, reduceIte, ↓reduceIte, tt, vgo, vout, vguard, callOf, vop, ev, cv, vload]
  refine Cl.pu (c_rIn _ _ _) ?_
  cases h7 : sIn c.shovels 0 3
  · simp only [gos, eq_self, Nat.reduceLT, Nat.reduceEqDiff, reduceIte, ↓reduceIte, vgo, vout, vguard, callOf, vop, ev, cv]
    subst hQ
    exact FnPost.plain trivial (fun h2 e => by first | rfl | (simp only [Try.f78, vres, vresL, vres1, e _, gos, if_true, if_false, ne_eq, eq_self, Nat.reduceLT, Nat.reduceEqDiff, Nat.reduceAdd, Nat.reduceMul, Nat.reduceLeDiff, Nat.reduceBEq, reduceCtorEq, reduceIte, Array.toList, ↓reduceIte, tt, vgo, vout, vgoD, voutD, vclsOk, vids, mayWrite, V.ids, V.mids, vguard, callOf, vop, ev, cv, vbin, vint, isShift, isNilConst, vnil, isNilSlice, vload, vlen, newRow, vfill, vslice, entOf, vappend, srcOf, vcopy, vlookup, vupdate, mapOk, keyOf, intsOf, clsAt]; try rfl)) (WkV.pure (by simp only [V.into])) ⟨by simp [sCheck, sBad1, h1, h2, h7], rfl⟩
  have hb1 : sBad1 c = false := by
    simp only [sIn, Bool.and_eq_true, decide_eq_true_eq] at h4
    have : ¬ 999 < c.most := by omega
    simp [sBad1, h3, h5, h6, h7, this]
  simp only [gos, eq_self, Nat.reduceLT, Nat.reduceEqDiff, reduceCtorEq, reduceIte, ↓reduceIte, tt, vgo, vout, vguard, callOf, vop, ev, vload]
  refine Cl.pu (c_rEach c c.coal c.shovels hc.last hc.coal) ?_ rfl (by simp only [V.into, intoL, vI_into, cu_into, Bool.and_true])
  cases h8 : rEach c c.coal c.shovels
  · have h8' : sIsCoal c c.coal = false := h8
    simp only [gos, eq_self, Nat.reduceLT, Nat.reduceEqDiff, reduceIte, ↓reduceIte, vgo, vout, vguard, callOf, vop, ev, cv]
    subst hQ
    exact FnPost.plain trivial (fun h2 e => by first | rfl | (simp only [Try.f78, vres, vresL, vres1, e _, gos, if_true, if_false, ne_eq, eq_self, Nat.reduceLT, Nat.reduceEqDiff, Nat.reduceAdd, Nat.reduceMul, Nat.reduceLeDiff, Nat.reduceBEq, reduceCtorEq, reduceIte, Array.toList, ↓reduceIte, tt, vgo, vout, vgoD, voutD, vclsOk, vids, mayWrite, V.ids, V.mids, vguard, callOf, vop, ev, cv, vbin, vint, isShift, isNilConst, vnil, isNilSlice, vload, vlen, newRow, vfill, vslice, entOf, vappend, srcOf, vcopy, vlookup, vupdate, mapOk, keyOf, intsOf, clsAt]; try rfl)) (WkV.pure (by simp only [V.into])) ⟨by simp [sCheck, hb1, sBad2, h1, h2, h8'], rfl⟩
  simp only [gos, eq_self, Nat.reduceLT, Nat.reduceEqDiff, reduceCtorEq, reduceIte, ↓reduceIte, tt, vgo, vout, vguard, callOf, vop, ev, cv, vload]
  refine Cl.pu (c_rEach c c.want 20 hc.last hc.want) ?_ rfl (by simp only [V.into, intoL, vI_into, cu_into, Bool.and_true])
  cases h9 : rEach c c.want 20
  · have h9' : sPromised c c.want = false := h9
    simp only [gos, eq_self, Nat.reduceLT, Nat.reduceEqDiff, reduceIte, ↓reduceIte, vgo, vout, vguard, callOf, vop, ev, cv]
    subst hQ
    exact FnPost.plain trivial (fun h2 e => by first | rfl | (simp only [Try.f78, vres, vresL, vres1, e _, gos, if_true, if_false, ne_eq, eq_self, Nat.reduceLT, Nat.reduceEqDiff, Nat.reduceAdd, Nat.reduceMul, Nat.reduceLeDiff, Nat.reduceBEq, reduceCtorEq, reduceIte, Array.toList, ↓reduceIte, tt, vgo, vout, vgoD, voutD, vclsOk, vids, mayWrite, V.ids, V.mids, vguard, callOf, vop, ev, cv, vbin, vint, isShift, isNilConst, vnil, isNilSlice, vload, vlen, newRow, vfill, vslice, entOf, vappend, srcOf, vcopy, vlookup, vupdate, mapOk, keyOf, intsOf, clsAt]; try rfl)) (WkV.pure (by simp only [V.into])) ⟨by simp [sCheck, hb1, sBad2, h1, h2, h9'], rfl⟩
  have h8' : sIsCoal c c.coal = true := h8
  have h9' : sPromised c c.want = true := h9
  simp only [gos, eq_self, Nat.reduceLT, Nat.reduceEqDiff, Nat.reduceLeDiff, reduceCtorEq, reduceIte, ↓reduceIte, tt, vgo, vout, vguard, callOf, vop, ev, cv, vload]
  refine Cl.pu (c_rInside _ _) ?_
  cases h10 : sInside c.heat 99
  · simp only [gos, eq_self, Nat.reduceLT, Nat.reduceEqDiff, reduceIte, ↓reduceIte, vgo, vout, vguard, callOf, vop, ev, cv]
    subst hQ
    exact FnPost.plain trivial (fun h2 e => by first | rfl | (simp only [Try.f78, vres, vresL, vres1, e _, gos, if_true, if_false, ne_eq, eq_self, Nat.reduceLT, Nat.reduceEqDiff, Nat.reduceAdd, Nat.reduceMul, Nat.reduceLeDiff, Nat.reduceBEq, reduceCtorEq, reduceIte, Array.toList, ↓reduceIte, tt, vgo, vout, vgoD, voutD, vclsOk, vids, mayWrite, V.ids, V.mids, vguard, callOf, vop, ev, cv, vbin, vint, isShift, isNilConst, vnil, isNilSlice, vload, vlen, newRow, vfill, vslice, entOf, vappend, srcOf, vcopy, vlookup, vupdate, mapOk, keyOf, intsOf, clsAt]; try rfl)) (WkV.pure (by simp only [V.into])) ⟨by simp [sCheck, hb1, sBad2, h1, h2, h10], rfl⟩
  simp only [gos, eq_self, Nat.reduceLT, Nat.reduceEqDiff, reduceCtorEq, reduceIte, ↓reduceIte, tt, vgo, vout, vguard, callOf, vop, ev, cv, vbin, vint, isShift, isNilConst, vload, vlen, vR, i64_in (show -9223372036854775808 ≤ c.last + 1 by omega) (show c.last + 1 ≤ 9223372036854775807 by omega)]
  by_cases h11 : (c.loss.length : Int) = c.last + 1
  case neg =>
    have hb : ((c.loss.length : Int) != c.last + 1) = true := by simp [h11]
    simp only [gos, eq_self, Nat.reduceLT, Nat.reduceEqDiff, reduceIte, ↓reduceIte, vgo, vout, vguard, callOf, vop, ev, cv, hb]
    subst hQ
    exact FnPost.plain trivial (fun h2 e => by first | rfl | (simp only [Try.f78, vres, vresL, vres1, e _, gos, if_true, if_false, ne_eq, eq_self, Nat.reduceLT, Nat.reduceEqDiff, Nat.reduceAdd, Nat.reduceMul, Nat.reduceLeDiff, Nat.reduceBEq, reduceCtorEq, reduceIte, Array.toList, ↓reduceIte, tt, vgo, vout, vgoD, voutD, vclsOk, vids, mayWrite, V.ids, V.mids, vguard, callOf, vop, ev, cv, vbin, vint, isShift, isNilConst, vnil, isNilSlice, vload, vlen, newRow, vfill, vslice, entOf, vappend, srcOf, vcopy, vlookup, vupdate, mapOk, keyOf, intsOf, clsAt]; try rfl)) (WkV.pure (by simp only [V.into])) ⟨by simp [sCheck, hb1, sBad2, h1, h2, h11], rfl⟩
  have hb : ((c.loss.length : Int) != c.last + 1) = false := by simp [h11]
  simp only [gos, eq_self, Nat.reduceLT, Nat.reduceEqDiff, reduceIte, ↓reduceIte, vgo, vout, vguard, callOf, vop, ev, cv, hb]
  refine W.loop tabOk mixed (fun i : Nat => ([(1, .rop c.cs), (3, vi i)], [])) (fun i => c.loss.length - i) (fun i => i ≤ c.loss.length ∧ ∀ j : Nat, j < i → sInside (gR c.loss j) 99 = true) 0 ⟨by omega, fun j hj => by omega⟩ (Wk.env (by simp [subE, Env.get])) ?_
  rintro i ⟨hi, hno⟩
  by_cases hil : (i : Int) < c.loss.length
  · simp only [gos, eq_self, Nat.reduceLT, Nat.reduceEqDiff, reduceCtorEq, reduceIte, ↓reduceIte, tt, vgo, vout, vguard, callOf, vop, ev, cv, vbin, vint, isShift, isNilConst, vload, vlen, vR, hil, cR_at (Int.natCast_nonneg i) hil]
    refine Cl.pu (c_rInside _ _) ?_
    cases hr : sInside (gR c.loss i) 99 with
    | true =>
      simp only [gos, eq_self, Nat.reduceLT, Nat.reduceEqDiff, reduceIte, ↓reduceIte, vgo, vout, vguard, callOf, vop, ev, cv, vbin, vint, isShift, isNilConst]
      refine Nx.mk (i + 1) (show c.loss.length - (i + 1) < c.loss.length - i by omega) ⟨by omega, fun j hj => ?_⟩ (Wk.env (by simp [subE, Env.get, i64_succ (show (i : Int) < 9223372036854775807 by omega)]))
      rcases Nat.lt_succ_iff_lt_or_eq.1 hj with h | rfl
      · exact hno j h
      · exact hr
    | false =>
      have h12 : (c.loss.all fun r => sInside r 99) = false := by
        rw [Bool.eq_false_iff]; intro ha
        rw [List.all_eq_true] at ha
        rw [ha _ (List.mem_of_getElem? (gR_get hil))] at hr; cases hr
      simp only [gos, eq_self, Nat.reduceLT, Nat.reduceEqDiff, reduceIte, ↓reduceIte, vgo, vout, vguard, callOf, vop, ev, cv]
      subst hQ
      exact FnPost.plain trivial (fun h2 e => by first | rfl | (simp only [Try.f78, vres, vresL, vres1, e _, gos, if_true, if_false, ne_eq, eq_self, Nat.reduceLT, Nat.reduceEqDiff, Nat.reduceAdd, Nat.reduceMul, Nat.reduceLeDiff, Nat.reduceBEq, reduceCtorEq, reduceIte, Array.toList, ↓reduceIte, tt, vgo, vout, vgoD, voutD, vclsOk, vids, mayWrite, V.ids, V.mids, vguard, callOf, vop, ev, cv, vbin, vint, isShift, isNilConst, vnil, isNilSlice, vload, vlen, newRow, vfill, vslice, entOf, vappend, srcOf, vcopy, vlookup, vupdate, mapOk, keyOf, intsOf, clsAt]; try rfl)) (WkV.pure (by simp only [V.into])) ⟨by simp only [sCheck, hb1, sBad2, h1, h2, h12]; simp, rfl⟩
  have hall : ∀ r ∈ c.loss, sInside r 99 = true := fun r hr => by
    obtain ⟨j, hj, rfl⟩ := List.mem_iff_getElem.1 hr
    have := hno j (by omega)
    rwa [gR, Int.toNat_natCast, List.getD_eq_getElem?_getD, List.getElem?_eq_getElem hj] at this
  have h12 : (c.loss.all fun r => sInside r 99) = true := by rw [List.all_eq_true]; exact hall
  simp only [gos, eq_self, Nat.reduceLT, Nat.reduceEqDiff, reduceCtorEq, reduceIte, ↓reduceIte, tt, vgo, vout, vguard, callOf, vop, ev, cv, vbin, vint, isShift, isNilConst, vload, vlen, vR, hil]
  refine W.loop tabOk mixed (fun i : Nat => ([(1, .rop c.cs), (4, vi i)], [])) (fun i => c.readings.length - i) (fun i => i ≤ c.readings.length ∧ ∀ j : Nat, j < i → sReading c (gD c.readings j) = true) 0 ⟨by omega, fun j hj => by omega⟩ (Wk.env (by simp [subE, Env.get])) ?_
  clear hi hil hno i
  rintro i ⟨hi, hno⟩
  by_cases hil : (i : Int) < c.readings.length
  · have h13f : sReading c (gD c.readings i) = false → (c.readings.all fun r => sReading c r) = false := fun hr => by
      rw [Bool.eq_false_iff]; intro ha
      rw [List.all_eq_true] at ha
      rw [ha _ (List.mem_of_getElem? (gD_get hil))] at hr; cases hr
    simp only [gos, eq_self, Nat.reduceLT, Nat.reduceEqDiff, reduceCtorEq, reduceIte, ↓reduceIte, tt, vgo, vout, vguard, callOf, vop, ev, vbin, vint, isShift, isNilConst, vload, vlen, vD, hil]
    refine Wr.draw (by kernel_rfl) ?_
    simp only [gos, eq_self, Nat.reduceLT, Nat.reduceEqDiff, Nat.reduceAdd, reduceCtorEq, reduceIte, ↓reduceIte, tt, vgoD, voutD, vclsOk, vids, mayWrite, V.ids, vguard, callOf, vop, ev, cv, vload, clsAt, vD, hil, cD_at (Int.natCast_nonneg i) hil]
    refine CD.pu (c_rIn _ _ _) ?_
    cases hr : sIn (gD c.readings i).hour 0 c.last with
    | false =>
      have h13 := h13f (by simp [sReading, hr])
      simp only [gos, eq_self, Nat.reduceLT, Nat.reduceEqDiff, reduceIte, ↓reduceIte, vgo, vout, vgoD, voutD, vclsOk, vids, mayWrite, vguard, callOf, vop, ev, cv]
      subst hQ
      exact FnPost.plain trivial (fun h2 e => by first | rfl | (simp only [Try.f78, vres, vresL, vres1, e _, gos, if_true, if_false, ne_eq, eq_self, Nat.reduceLT, Nat.reduceEqDiff, Nat.reduceAdd, Nat.reduceMul, Nat.reduceLeDiff, Nat.reduceBEq, reduceCtorEq, reduceIte, Array.toList, ↓reduceIte, tt, vgo, vout, vgoD, voutD, vclsOk, vids, mayWrite, V.ids, V.mids, vguard, callOf, vop, ev, cv, vbin, vint, isShift, isNilConst, vnil, isNilSlice, vload, vlen, newRow, vfill, vslice, entOf, vappend, srcOf, vcopy, vlookup, vupdate, mapOk, keyOf, intsOf, clsAt]; try rfl)) (WkV.pure (by simp only [V.into])) ⟨by simp only [sCheck, hb1, sBad2, h1, h2, h13]; simp, rfl⟩
    | true =>
      simp only [gos, eq_self, Nat.reduceLT, Nat.reduceEqDiff, reduceCtorEq, reduceIte, ↓reduceIte, tt, vgoD, voutD, vclsOk, vids, mayWrite, V.ids, vguard, callOf, vop, ev, cv, vload, vD, hil, cD_at (Int.natCast_nonneg i) hil]
      refine CD.pu (c_rInside _ _) ?_
      cases hr2 : sInside (gD c.readings i).b 999 with
      | false =>
        have h13 := h13f (by simp [sReading, hr, hr2])
        simp only [gos, eq_self, Nat.reduceLT, Nat.reduceEqDiff, reduceIte, ↓reduceIte, vgo, vout, vgoD, voutD, vclsOk, vids, mayWrite, vguard, callOf, vop, ev, cv]
        subst hQ
        exact FnPost.plain trivial (fun h2 e => by first | rfl | (simp only [Try.f78, vres, vresL, vres1, e _, gos, if_true, if_false, ne_eq, eq_self, Nat.reduceLT, Nat.reduceEqDiff, Nat.reduceAdd, Nat.reduceMul, Nat.reduceLeDiff, Nat.reduceBEq, reduceCtorEq, reduceIte, Array.toList, ↓reduceIte, tt, vgo, vout, vgoD, voutD, vclsOk, vids, mayWrite, V.ids, V.mids, vguard, callOf, vop, ev, cv, vbin, vint, isShift, isNilConst, vnil, isNilSlice, vload, vlen, newRow, vfill, vslice, entOf, vappend, srcOf, vcopy, vlookup, vupdate, mapOk, keyOf, intsOf, clsAt]; try rfl)) (WkV.pure (by simp only [V.into])) ⟨by simp only [sCheck, hb1, sBad2, h1, h2, h13]; simp, rfl⟩
      | true =>
        simp only [gos, eq_self, Nat.reduceLT, Nat.reduceEqDiff, reduceIte, ↓reduceIte, vgo, vout, vgoD, voutD, vclsOk, vids, mayWrite, vguard, callOf, vop, ev, cv, vbin, vint, isShift, isNilConst]
        refine Nx.mk (i + 1) (show c.readings.length - (i + 1) < c.readings.length - i by omega) ⟨by omega, fun j hj => ?_⟩ (Wk.env (by simp [subE, Env.get, i64_succ (show (i : Int) < 9223372036854775807 by omega)]))
        rcases Nat.lt_succ_iff_lt_or_eq.1 hj with h | rfl
        · exact hno j h
        · simp [sReading, hr, hr2]
  have h13 : (c.readings.all fun r => sReading c r) = true := by
    rw [List.all_eq_true]
    intro r hr
    obtain ⟨j, hj, rfl⟩ := List.mem_iff_getElem.1 hr
    have := hno j (by omega)
    rwa [gD, Int.toNat_natCast, List.getD_eq_getElem?_getD, List.getElem?_eq_getElem hj] at this
  have hb2 : sBad2 c = false := by simp only [sBad2, h8', h9', h10, h11, h12, h13]; simp
  simp only [gos, eq_self, Nat.reduceLT, Nat.reduceEqDiff, reduceCtorEq, reduceIte, ↓reduceIte, tt, vgo, vout, vguard, callOf, vop, ev, vbin, vint, isShift, isNilConst, vload, vlen, vD, hil]
  refine Cl.pu (c_rMany c h10 hc.loss hall) ?_ rfl (by simp only [V.into, intoL, cu_into, Bool.and_true])
  have hm := many_iff h10 hall
  by_cases h14 : 2000 < rMany c
  · have h15 : 2000 < sMany c := by rw [← hm]; exact h14
    simp only [gos, eq_self, Nat.reduceLT, Nat.reduceEqDiff, reduceIte, ↓reduceIte, vgo, vout, vguard, callOf, vop, ev, cv, vbin, vint, isShift, isNilConst, h14]
    subst hQ
    exact FnPost.plain trivial (fun h2 e => by first | rfl | (simp only [Try.f78, vres, vresL, vres1, e _, gos, if_true, if_false, ne_eq, eq_self, Nat.reduceLT, Nat.reduceEqDiff, Nat.reduceAdd, Nat.reduceMul, Nat.reduceLeDiff, Nat.reduceBEq, reduceCtorEq, reduceIte, Array.toList, ↓reduceIte, tt, vgo, vout, vgoD, voutD, vclsOk, vids, mayWrite, V.ids, V.mids, vguard, callOf, vop, ev, cv, vbin, vint, isShift, isNilConst, vnil, isNilSlice, vload, vlen, newRow, vfill, vslice, entOf, vappend, srcOf, vcopy, vlookup, vupdate, mapOk, keyOf, intsOf, clsAt]; try rfl)) (WkV.pure (by simp only [V.into])) ⟨by simp [sCheck, hb1, hb2, h1, h2, h15], rfl⟩
  · have h15 : ¬ 2000 < sMany c := by rw [← hm]; exact h14
    simp only [gos, eq_self, Nat.reduceLT, Nat.reduceEqDiff, reduceIte, ↓reduceIte, vgo, vout, vguard, callOf, vop, ev, cv, vbin, vint, isShift, isNilConst, h14]
    subst hQ
    exact FnPost.plain trivial (fun h2 e => by first | rfl | (simp only [Try.f78, vres, vresL, vres1, e _, gos, if_true, if_false, ne_eq, eq_self, Nat.reduceLT, Nat.reduceEqDiff, Nat.reduceAdd, Nat.reduceMul, Nat.reduceLeDiff, Nat.reduceBEq, reduceCtorEq, reduceIte, Array.toList, ↓reduceIte, tt, vgo, vout, vgoD, voutD, vclsOk, vids, mayWrite, V.ids, V.mids, vguard, callOf, vop, ev, cv, vbin, vint, isShift, isNilConst, vnil, isNilSlice, vload, vlen, newRow, vfill, vslice, entOf, vappend, srcOf, vcopy, vlookup, vupdate, mapOk, keyOf, intsOf, clsAt]; try rfl)) (WkV.pure (by simp only [V.into])) ⟨by simp [sCheck, hb1, hb2, h1, h2, h15], rfl⟩
end Go.Vm

set_option linter.unusedVariables false
set_option linter.unusedSimpArgs false
set_option maxRecDepth 100000
namespace Go.Vm
open Go.Proofs
/-! ### the reference: the heat -/
/-- The truth as the program has it. -/
def tS (t : Tr2) : Sc := ⟨t.heat, pad5 t.loss⟩
theorem pad5_gi (l : List Int) (i : Int) : gi (pad5 l) i = gi l i := by
  simp only [gi, pad5, List.getD_eq_getElem?_getD, List.getElem?_append, List.getElem?_replicate]
  by_cases h : i.toNat < l.length
  · simp [h]
  · rw [if_neg h, List.getElem?_eq_none (by omega)]
    split <;> simp
/-- The heat of an hour before any bucket is drawn. -/
def sHeat (c : Cu) (s : Sc) (coal want : List Int) (i : Nat) : Int := max 0 (min c.most ((sPlay c s coal want i).1 + gi coal i * s.heat) - gi s.loss i)
theorem sPlay_heat (c : Cu) (s : Sc) (coal want : List Int) (i : Nat) : (sPlay c s coal want (i + 1)).1 = if gi want i ≤ (sHeat c s coal want i).tdiv c.per then sHeat c s coal want i - gi want i * c.per else 0 := by
  simp only [sPlay, sHeat]
  by_cases h : gi want i ≤ (max 0 (min c.most ((sPlay c s coal want i).1 + gi coal i * s.heat) - gi s.loss i)).tdiv c.per <;> simp [h]
structure TrOk (c : Cu) (t : Tr2) (coal want : List Int) : Prop where
  play : PlayOk c (tS t) coal want
  len : (t.loss.length : Int) = c.last + 1
theorem sHeat_le {c : Cu} {s : Sc} {coal want : List Int} (k : PlayOk c s coal want) {i : Nat} (hi : (i : Int) ≤ c.last) : 0 ≤ sHeat c s coal want i ∧ sHeat c s coal want i ≤ 999 := by
  have := k.most
  have hl := (k.loss.2 _ (gi_mem (l := s.loss) (i := i) (by have := k.loss.1; have := k.last; omega)))
  simp only [sHeat]
  omega
set_option maxHeartbeats 2000000 in
theorem c_rLeft_of (c : Cu) (t : Tr2) (coal want : List Int) (k : TrOk c t coal want) (i : Nat) (hi : (i : Int) ≤ c.last) (e : Pu Try.prog (.fn 95 [] []) [.agg c.cs, .agg t.cs, vI coal, vI want, vi i] (vi (sHeat c (tS t) coal want i))) :
    Pu Try.prog (.fn 45 [] []) [.agg c.cs, .agg t.cs, vI coal, vI want, vi i] (vi (sPlay c (tS t) coal want (i + 1)).1) := by
  refine Ev.fn Try.func45 rfl rfl (Fn.body tabOk Try.func45 rfl (Nat.le_of_ble_eq_true rfl) (Ks.ok (fz := (fzn [])) (cl := (cln [(2, .d tg0 [cP, cP, cP, cP, cP, cP, cP, cP, cP]), (4, .d tg0 [cP, cP, cP, cP, cP, cP, cP, cP, cP, cP])])) tabOk mixed ?_))
  generalize hQ : FnPost tt Try.f45 _ _ = Q
  simp only [Try.f45, List.nil_append, List.append_nil, argsEnv, Nat.reduceAdd]
  have hts : t.cs.take 2 = t.cs := rfl
  have htn : t.cs.length = 2 := rfl
  simp only [gos, eq_self, Nat.reduceLT, Nat.reduceEqDiff, reduceCtorEq, reduceIte, ↓reduceIte, tt, vgo, vout, vguard, callOf, vop, ev, cv, vload, newRow, hts, htn]
  refine Cl.pu e ?_ rfl (by simp only [V.into, intoL, vI_into, cu_into, Bool.and_true, Tr2.cs])
  have hpos : ¬ c.per = 0 := by have := k.play.per; omega
  have hw : (i : Int) < want.length := by have := k.play.want.1; omega
  have hh := sHeat_le k.play hi
  have hww := k.play.want.2 _ (gi_mem (l := want) (i := i) (by omega))
  have hper := k.play.per
  have hsp := sPlay_heat c (tS t) coal want i
  have hsp2 := sPlay_inv k.play (i + 1) (by omega)
  generalize sHeat c (tS t) coal want i = x at hh hsp ⊢
  generalize sPlay c (tS t) coal want (i + 1) = y at hsp hsp2 hQ ⊢
  have hd0 : 0 ≤ x.tdiv c.per := Int.tdiv_nonneg hh.1 (by omega)
  have hd9 : x.tdiv c.per ≤ 999 := by have := Int.tdiv_le_self c.per hh.1; omega
  have hm0 : 0 ≤ c.per * gi want i := Int.mul_nonneg (by omega) hww.1
  have hm9 : c.per * gi want i ≤ 20 * 40 := Int.mul_le_mul hper.2 hww.2 hww.1 (by omega)
  by_cases hk : x.tdiv c.per < gi want i
  · simp only [gos, eq_self, Nat.reduceLT, reduceIte, ↓reduceIte, vgo, vout, vguard, callOf, vop, ev, vI]
    refine Wr.draw (by kernel_rfl) ?_
    simp only [gos, eq_self, Nat.reduceLT, Nat.reduceEqDiff, Nat.reduceAdd, reduceCtorEq, reduceIte, ↓reduceIte, tt, vgo, vout, vgoD, voutD, vclsOk, vids, mayWrite, V.ids, vguard, callOf, vop, ev, cv, vbin, vint, isShift, isNilConst, vload, clsAt, hw, cI_at (Int.natCast_nonneg i) hw, hpos, i64_in (show -9223372036854775808 ≤ x.tdiv c.per by omega) (show x.tdiv c.per ≤ 9223372036854775807 by omega), hk]
    subst hQ
    exact FnPost.plain trivial (fun h2 e => by first | rfl | (simp only [Try.f45, vres, vresL, vres1, e _, gos, if_true, if_false, ne_eq, eq_self, Nat.reduceLT, Nat.reduceEqDiff, Nat.reduceAdd, Nat.reduceMul, Nat.reduceLeDiff, Nat.reduceBEq, reduceCtorEq, reduceIte, Array.toList, ↓reduceIte, tt, vgo, vout, vgoD, voutD, vclsOk, vids, mayWrite, V.ids, V.mids, vguard, callOf, vop, ev, cv, vbin, vint, isShift, isNilConst, vnil, isNilSlice, vload, vlen, newRow, vfill, vslice, entOf, vappend, srcOf, vcopy, vlookup, vupdate, mapOk, keyOf, intsOf, clsAt]; try rfl)) (WkV.pure (by simp only [V.into])) ⟨by rw [hsp, if_neg (by omega)], rfl⟩
  · simp only [gos, eq_self, Nat.reduceLT, reduceIte, ↓reduceIte, vgo, vout, vguard, callOf, vop, ev, vI]
    refine Wr.draw (by kernel_rfl) ?_
    simp only [gos, eq_self, Nat.reduceLT, Nat.reduceEqDiff, Nat.reduceAdd, reduceCtorEq, reduceIte, ↓reduceIte, tt, vgoD, voutD, vclsOk, vids, mayWrite, V.ids, vguard, callOf, vop, ev, vbin, vint, isShift, isNilConst, vload, clsAt, hw, cI_at (Int.natCast_nonneg i) hw, hpos, i64_in (show -9223372036854775808 ≤ x.tdiv c.per by omega) (show x.tdiv c.per ≤ 9223372036854775807 by omega), hk]
    refine Wr.draw (by kernel_rfl) ?_
    simp only [gos, eq_self, Nat.reduceLT, Nat.reduceEqDiff, Nat.reduceAdd, reduceCtorEq, reduceIte, ↓reduceIte, tt, vgoD, voutD, vclsOk, vids, mayWrite, V.ids, vguard, callOf, vop, ev, vbin, vint, isShift, isNilConst, vload, clsAt, hw, cI_at (Int.natCast_nonneg i) hw, i64_in (show -9223372036854775808 ≤ c.per * gi want i by omega) (show c.per * gi want i ≤ 9223372036854775807 by omega), i64_in (show -9223372036854775808 ≤ x - c.per * gi want i by omega) (show x - c.per * gi want i ≤ 9223372036854775807 by omega)]
    subst hQ
    exact FnPost.plain trivial (fun h2 e => by first | rfl | (simp only [Try.f45, vres, vresL, vres1, e _, gos, if_true, if_false, ne_eq, eq_self, Nat.reduceLT, Nat.reduceEqDiff, Nat.reduceAdd, Nat.reduceMul, Nat.reduceLeDiff, Nat.reduceBEq, reduceCtorEq, reduceIte, Array.toList, ↓reduceIte, tt, vgo, vout, vgoD, voutD, vclsOk, vids, mayWrite, V.ids, V.mids, vguard, callOf, vop, ev, cv, vbin, vint, isShift, isNilConst, vnil, isNilSlice, vload, vlen, newRow, vfill, vslice, entOf, vappend, srcOf, vcopy, vlookup, vupdate, mapOk, keyOf, intsOf, clsAt]; try rfl)) (WkV.pure (by simp only [V.into])) ⟨by rw [hsp, if_pos (by omega), Int.mul_comm (gi want i)], rfl⟩
set_option maxHeartbeats 2000000 in
theorem c_rHeat (c : Cu) (t : Tr2) (coal want : List Int) (k : TrOk c t coal want) : ∀ (i : Nat), (i : Int) ≤ c.last → Pu Try.prog (.fn 95 [] []) [.agg c.cs, .agg t.cs, vI coal, vI want, vi i] (vi (sHeat c (tS t) coal want i)) := by
  have hl := k.play.last
  intro i
  induction i with
  | zero =>
    intro hi
    refine Ev.fn Try.func95 rfl rfl (Fn.body tabOk Try.func95 rfl (Nat.le_of_ble_eq_true rfl) (Ks.ok (fz := (fzn [])) (cl := (cln [(4, .d tg0 [cP, cP, cP, cP, cP, cP, cP, cP, cP, cP, cP, cP, cP, cP, cP, cP, cP, cP, cP, cP])])) tabOk mixed ?_))
    generalize hQ : FnPost tt Try.f95 _ _ = Q
    simp only [Try.f95, List.nil_append, List.append_nil, argsEnv, Nat.reduceAdd]
    have hts : t.cs.take 2 = t.cs := rfl
    have htn : t.cs.length = 2 := rfl
    have h0 : decide (0 < ((0 : Nat) : Int)) = false := rfl
    simp only [gos, eq_self, Nat.reduceLT, Nat.reduceEqDiff, reduceCtorEq, reduceIte, ↓reduceIte, tt, vgo, vout, vguard, callOf, vop, ev, cv, vbin, vint, isShift, isNilConst, vload, newRow, h0]
    have hm := k.play.most
    have hst := k.play.start
    have hcl : (((0 : Nat) : Int) : Int) < coal.length := by have := k.play.coal.1; omega
    have hll : (((0 : Nat) : Int) : Int) < t.loss.length := by have := k.len; omega
    have hcc := k.play.coal.2 _ (gi_mem (l := coal) (i := 0) (by omega))
    have hlo := k.play.loss.2 _ (gi_mem (l := (tS t).loss) (i := 0) (by have := k.play.loss.1; omega))
    have hhe := k.play.heat
    have hx := (sPlay_inv k.play (0) (by omega))
    have hx1 := hx.1
    have hx2 := hx.2.1
    have e1 : gi (tS t).loss (0 : Nat) = gi t.loss (0 : Nat) := pad5_gi _ _
    have e2 : (tS t).heat = t.heat := rfl
    have hsh : sHeat c (tS t) coal want (0) = max 0 (min c.most ((sPlay c (tS t) coal want (0)).1 + gi coal (0 : Nat) * (tS t).heat) - gi (tS t).loss (0 : Nat)) := rfl
    rw [hsh] at hQ
    rw [e1] at hlo hQ
    rw [e2] at hhe hQ
    rw [show c.start = (sPlay c (tS t) coal want 0).1 from rfl]
    generalize (sPlay c (tS t) coal want (0)).1 = x at hx1 hx2 hQ ⊢
    have hp0 : 0 ≤ gi coal (0 : Nat) * t.heat := Int.mul_nonneg hcc.1 hhe.1
    have hp9 : gi coal (0 : Nat) * t.heat ≤ 3 * 99 := Int.mul_le_mul hcc.2 hhe.2 hhe.1 (by omega)
    try simp only [gos, if_true, if_false, ne_eq, eq_self, Nat.reduceLT, Nat.reduceEqDiff, Nat.reduceAdd, Nat.reduceMul, Nat.reduceLeDiff, Nat.reduceBEq, reduceCtorEq, reduceIte, Array.toList, ↓reduceIte, tt, vgo, vout, vgoD, voutD, vclsOk, vids, mayWrite, V.ids, V.mids, vguard, callOf, vop, ev, cv, vbin, vint, isShift, isNilConst, vnil, isNilSlice, vload, vlen, newRow, vfill, vslice, entOf, vappend, srcOf, vcopy, vlookup, vupdate, mapOk, keyOf, intsOf, clsAt]
    refine Wr.draw (by kernel_rfl) ?_
    simp only [gos, eq_self, Nat.reduceLT, Nat.reduceEqDiff, Nat.reduceAdd, reduceCtorEq, reduceIte, ↓reduceIte, tt, vgoD, voutD, vclsOk, vids, mayWrite, V.ids, vguard, callOf, vop, ev, cv, vbin, vint, isShift, isNilConst, vload, clsAt, vI, hcl, hll, cI_at (Int.natCast_nonneg _) hcl, cI_at (Int.natCast_nonneg _) hll, Tr2.cs, i64_in (show -9223372036854775808 ≤ gi coal (0 : Nat) * t.heat by omega) (show gi coal (0 : Nat) * t.heat ≤ 9223372036854775807 by omega), i64_in (show -9223372036854775808 ≤ x + gi coal (0 : Nat) * t.heat by omega) (show x + gi coal (0 : Nat) * t.heat ≤ 9223372036854775807 by omega)]
    rw [i64_in (show -9223372036854775808 ≤ min c.most (x + gi coal (0 : Nat) * t.heat) - gi t.loss (0 : Nat) by omega) (show min c.most (x + gi coal (0 : Nat) * t.heat) - gi t.loss (0 : Nat) ≤ 9223372036854775807 by omega)]
    subst hQ
    exact FnPost.plain trivial (fun h2 e => by first | rfl | (simp only [Try.f95, vres, vresL, vres1, e _, gos, if_true, if_false, ne_eq, eq_self, Nat.reduceLT, Nat.reduceEqDiff, Nat.reduceAdd, Nat.reduceMul, Nat.reduceLeDiff, Nat.reduceBEq, reduceCtorEq, reduceIte, Array.toList, ↓reduceIte, tt, vgo, vout, vgoD, voutD, vclsOk, vids, mayWrite, V.ids, V.mids, vguard, callOf, vop, ev, cv, vbin, vint, isShift, isNilConst, vnil, isNilSlice, vload, vlen, newRow, vfill, vslice, entOf, vappend, srcOf, vcopy, vlookup, vupdate, mapOk, keyOf, intsOf, clsAt]; try rfl)) (WkV.pure (by simp only [V.into])) ⟨rfl, rfl⟩
  | succ i ih =>
    intro hi
    have eL := c_rLeft_of c t coal want k i (by omega) (ih (by omega))
    refine Ev.fn Try.func95 rfl rfl (Fn.body tabOk Try.func95 rfl (Nat.le_of_ble_eq_true rfl) (Ks.ok (fz := (fzn [])) (cl := (cln [(4, .d tg0 [cP, cP, cP, cP, cP, cP, cP, cP, cP, cP, cP, cP, cP, cP, cP, cP, cP, cP, cP, cP])])) tabOk mixed ?_))
    generalize hQ : FnPost tt Try.f95 _ _ = Q
    simp only [Try.f95, List.nil_append, List.append_nil, argsEnv, Nat.reduceAdd]
    have hts : t.cs.take 2 = t.cs := rfl
    have htn : t.cs.length = 2 := rfl
    have h0 : decide (0 < ((i + 1 : Nat) : Int)) = true := by rw [decide_eq_true_eq]; omega
    have h1 : IntKind.i64.wrap (((i + 1 : Nat) : Int) - 1) = (i : Int) := by rw [i64_in (by omega) (by omega)]; omega
    simp only [gos, eq_self, Nat.reduceLT, Nat.reduceEqDiff, reduceCtorEq, reduceIte, ↓reduceIte, tt, vgo, vout, vguard, callOf, vop, ev, cv, vbin, vint, isShift, isNilConst, vload, newRow, hts, htn, h0, h1]
    refine Cl.pu eL ?_ rfl (by simp only [V.into, intoL, vI_into, cu_into, Bool.and_true, Tr2.cs])
    have hm := k.play.most
    have hst := k.play.start
    have hcl : (((i + 1 : Nat) : Int) : Int) < coal.length := by have := k.play.coal.1; omega
    have hll : (((i + 1 : Nat) : Int) : Int) < t.loss.length := by have := k.len; omega
    have hcc := k.play.coal.2 _ (gi_mem (l := coal) (i := i + 1) (by omega))
    have hlo := k.play.loss.2 _ (gi_mem (l := (tS t).loss) (i := i + 1) (by have := k.play.loss.1; omega))
    have hhe := k.play.heat
    have hx := (sPlay_inv k.play (i + 1) (by omega))
    have hx1 := hx.1
    have hx2 := hx.2.1
    have e1 : gi (tS t).loss (i + 1 : Nat) = gi t.loss (i + 1 : Nat) := pad5_gi _ _
    have e2 : (tS t).heat = t.heat := rfl
    have hsh : sHeat c (tS t) coal want (i + 1) = max 0 (min c.most ((sPlay c (tS t) coal want (i + 1)).1 + gi coal (i + 1 : Nat) * (tS t).heat) - gi (tS t).loss (i + 1 : Nat)) := rfl
    rw [hsh] at hQ
    rw [e1] at hlo hQ
    rw [e2] at hhe hQ
    generalize (sPlay c (tS t) coal want (i + 1)).1 = x at hx1 hx2 hQ ⊢
    have hp0 : 0 ≤ gi coal (i + 1 : Nat) * t.heat := Int.mul_nonneg hcc.1 hhe.1
    have hp9 : gi coal (i + 1 : Nat) * t.heat ≤ 3 * 99 := Int.mul_le_mul hcc.2 hhe.2 hhe.1 (by omega)
    try simp only [gos, eq_self, Nat.reduceLT, reduceIte, ↓reduceIte, vgo, vout, vguard, callOf, vop, ev]
    refine Wr.draw (by kernel_rfl) ?_
    simp only [gos, eq_self, Nat.reduceLT, Nat.reduceEqDiff, Nat.reduceAdd, reduceCtorEq, reduceIte, ↓reduceIte, tt, vgoD, voutD, vclsOk, vids, mayWrite, V.ids, vguard, callOf, vop, ev, cv, vbin, vint, isShift, isNilConst, vload, clsAt, vI, hcl, hll, cI_at (Int.natCast_nonneg _) hcl, cI_at (Int.natCast_nonneg _) hll, Tr2.cs, i64_in (show -9223372036854775808 ≤ gi coal (i + 1 : Nat) * t.heat by omega) (show gi coal (i + 1 : Nat) * t.heat ≤ 9223372036854775807 by omega), i64_in (show -9223372036854775808 ≤ x + gi coal (i + 1 : Nat) * t.heat by omega) (show x + gi coal (i + 1 : Nat) * t.heat ≤ 9223372036854775807 by omega)]
    rw [i64_in (show -9223372036854775808 ≤ min c.most (x + gi coal (i + 1 : Nat) * t.heat) - gi t.loss (i + 1 : Nat) by omega) (show min c.most (x + gi coal (i + 1 : Nat) * t.heat) - gi t.loss (i + 1 : Nat) ≤ 9223372036854775807 by omega)]
    subst hQ
    exact FnPost.plain trivial (fun h2 e => by first | rfl | (simp only [Try.f95, vres, vresL, vres1, e _, gos, if_true, if_false, ne_eq, eq_self, Nat.reduceLT, Nat.reduceEqDiff, Nat.reduceAdd, Nat.reduceMul, Nat.reduceLeDiff, Nat.reduceBEq, reduceCtorEq, reduceIte, Array.toList, ↓reduceIte, tt, vgo, vout, vgoD, voutD, vclsOk, vids, mayWrite, V.ids, V.mids, vguard, callOf, vop, ev, cv, vbin, vint, isShift, isNilConst, vnil, isNilSlice, vload, vlen, newRow, vfill, vslice, entOf, vappend, srcOf, vcopy, vlookup, vupdate, mapOk, keyOf, intsOf, clsAt]; try rfl)) (WkV.pure (by simp only [V.into])) ⟨rfl, rfl⟩
theorem c_rHot (c : Cu) (t : Tr2) (coal want : List Int) (k : TrOk c t coal want) (i : Nat) (hi : (i : Int) ≤ c.last) : Pu Try.prog (.fn 44 [] []) [.agg c.cs, .agg t.cs, vI coal, vI want, vi i] (vi ((sHeat c (tS t) coal want i).tdiv c.per)) := by
  refine Ev.fn Try.func44 rfl rfl (Fn.body tabOk Try.func44 rfl (Nat.le_of_ble_eq_true rfl) (Ks.ok (fz := (fzn [])) (cl := (cln [(1, .d tg0 [cP, cP, cP, cP, cP, cP, cP, cP, cP, cP])])) tabOk mixed ?_))
  generalize hQ : FnPost tt Try.f44 _ _ = Q
  simp only [Try.f44, List.nil_append, List.append_nil, argsEnv, Nat.reduceAdd]
  have hts : t.cs.take 2 = t.cs := rfl
  have htn : t.cs.length = 2 := rfl
  simp only [gos, eq_self, Nat.reduceLT, Nat.reduceEqDiff, reduceCtorEq, reduceIte, ↓reduceIte, vgo, vout, vguard, callOf, vop, ev, cv, newRow]
  refine Wr.draw (by kernel_rfl) ?_
  simp only [gos, eq_self, Nat.reduceLT, Nat.reduceEqDiff, Nat.reduceAdd, reduceCtorEq, reduceIte, ↓reduceIte, tt, vgoD, voutD, vclsOk, vids, mayWrite, V.ids, vguard, callOf, vop, ev, vload, clsAt, hts, htn]
  refine CD.pu (c_rHeat c t coal want k i hi) ?_ rfl (by simp only [V.into, intoL, vI_into, cu_into, Bool.and_true, Tr2.cs])
  have hh := sHeat_le k.play hi
  have hper := k.play.per
  have hpos : ¬ c.per = 0 := by omega
  have hd0 : 0 ≤ (sHeat c (tS t) coal want i).tdiv c.per := Int.tdiv_nonneg hh.1 (by omega)
  have hd9 : (sHeat c (tS t) coal want i).tdiv c.per ≤ 999 := by have := Int.tdiv_le_self c.per hh.1; omega
  simp only [gos, eq_self, Nat.reduceLT, Nat.reduceEqDiff, reduceCtorEq, reduceIte, ↓reduceIte, tt, vgoD, voutD, vclsOk, vids, mayWrite, V.ids, vguard, callOf, vop, ev, vbin, vint, isShift, isNilConst, vload, hpos, i64_in (show -9223372036854775808 ≤ (sHeat c (tS t) coal want i).tdiv c.per by omega) (show (sHeat c (tS t) coal want i).tdiv c.per ≤ 9223372036854775807 by omega)]
  subst hQ
  exact FnPost.plain trivial (fun h2 e => by first | rfl | (simp only [Try.f44, vres, vresL, vres1, e _, gos, if_true, if_false, ne_eq, eq_self, Nat.reduceLT, Nat.reduceEqDiff, Nat.reduceAdd, Nat.reduceMul, Nat.reduceLeDiff, Nat.reduceBEq, reduceCtorEq, reduceIte, Array.toList, ↓reduceIte, tt, vgo, vout, vgoD, voutD, vclsOk, vids, mayWrite, V.ids, V.mids, vguard, callOf, vop, ev, cv, vbin, vint, isShift, isNilConst, vnil, isNilSlice, vload, vlen, newRow, vfill, vslice, entOf, vappend, srcOf, vcopy, vlookup, vupdate, mapOk, keyOf, intsOf, clsAt]; try rfl)) (WkV.pure (by simp only [V.into])) ⟨rfl, rfl⟩
theorem c_rKept (c : Cu) (t : Tr2) (coal want : List Int) (k : TrOk c t coal want) (i : Nat) (hi : (i : Int) ≤ c.last) : Pu Try.prog (.fn 117 [] []) [.agg c.cs, .agg t.cs, vI coal, vI want, vi i] (.bool (decide (gi want i ≤ (sHeat c (tS t) coal want i).tdiv c.per))) := by
  refine Ev.fn Try.func117 rfl rfl (Fn.body tabOk Try.func117 rfl (Nat.le_of_ble_eq_true rfl) (Ks.ok (fz := (fzn [])) (cl := (cln [(1, .d tg0 [cP, cP, cP, cP, cP, cP, cP, cP, cP, cP, cP, cP])])) tabOk mixed ?_))
  generalize hQ : FnPost tt Try.f117 _ _ = Q
  simp only [Try.f117, List.nil_append, List.append_nil, argsEnv, Nat.reduceAdd]
  have hts : t.cs.take 2 = t.cs := rfl
  have htn : t.cs.length = 2 := rfl
  simp only [gos, eq_self, Nat.reduceLT, Nat.reduceEqDiff, reduceCtorEq, reduceIte, ↓reduceIte, vgo, vout, vguard, callOf, vop, ev, cv, newRow]
  refine Wr.draw (by kernel_rfl) ?_
  simp only [gos, eq_self, Nat.reduceLT, Nat.reduceEqDiff, Nat.reduceAdd, reduceCtorEq, reduceIte, ↓reduceIte, tt, vgoD, voutD, vclsOk, vids, mayWrite, V.ids, vguard, callOf, vop, ev, vload, clsAt, hts, htn]
  refine CD.pu (c_rHot c t coal want k i hi) ?_ rfl (by simp only [V.into, intoL, vI_into, cu_into, Bool.and_true, Tr2.cs])
  have hw : (i : Int) < want.length := by have := k.play.want.1; omega
  simp only [gos, eq_self, Nat.reduceLT, Nat.reduceEqDiff, reduceCtorEq, reduceIte, ↓reduceIte, tt, vgoD, voutD, vclsOk, vids, mayWrite, V.ids, vguard, callOf, vop, ev, vbin, vint, isShift, isNilConst, vload, vI, hw, cI_at (Int.natCast_nonneg i) hw]
  subst hQ
  exact FnPost.plain trivial (fun h2 e => by first | rfl | (simp only [Try.f117, vres, vresL, vres1, e _, gos, if_true, if_false, ne_eq, eq_self, Nat.reduceLT, Nat.reduceEqDiff, Nat.reduceAdd, Nat.reduceMul, Nat.reduceLeDiff, Nat.reduceBEq, reduceCtorEq, reduceIte, Array.toList, ↓reduceIte, tt, vgo, vout, vgoD, voutD, vclsOk, vids, mayWrite, V.ids, V.mids, vguard, callOf, vop, ev, cv, vbin, vint, isShift, isNilConst, vnil, isNilSlice, vload, vlen, newRow, vfill, vslice, entOf, vappend, srcOf, vcopy, vlookup, vupdate, mapOk, keyOf, intsOf, clsAt]; try rfl)) (WkV.pure (by simp only [V.into])) ⟨rfl, rfl⟩
end Go.Vm

set_option linter.unusedVariables false
set_option linter.unusedSimpArgs false
set_option maxRecDepth 100000
namespace Go.Vm
open Go.Proofs
/-! ### the reference: the truth with a number -/
def nthL : List Rg → Int → List Int
  | [], _ => []
  | r :: l, n => (r.lo + n.tmod (sSize r)) :: nthL l (n.tdiv (sSize r))
def nthQ : List Rg → Int → Int
  | [], n => n
  | r :: l, n => nthQ l (n.tdiv (sSize r))
theorem nthL_snoc : ∀ (l : List Rg) (r : Rg) (n : Int), nthL (l ++ [r]) n = nthL l n ++ [r.lo + (nthQ l n).tmod (sSize r)]
  | [], r, n => rfl
  | x :: l, r, n => by simp only [List.cons_append, nthL, nthQ, nthL_snoc l r]
theorem nthQ_snoc : ∀ (l : List Rg) (r : Rg) (n : Int), nthQ (l ++ [r]) n = (nthQ l n).tdiv (sSize r)
  | [], r, n => rfl
  | x :: l, r, n => by simp only [List.cons_append, nthQ, nthQ_snoc l r]
theorem nthL_len : ∀ (l : List Rg) (n : Int), (nthL l n).length = l.length
  | [], _ => rfl
  | r :: l, n => by simp [nthL, nthL_len l]
theorem nthQ_le : ∀ (l : List Rg) (n : Int), 0 ≤ n → (∀ r ∈ l, 1 ≤ sSize r) → 0 ≤ nthQ l n ∧ nthQ l n ≤ n
  | [], n, h, _ => ⟨h, Int.le_refl _⟩
  | r :: l, n, h, hs => by
    have h1 := hs r (by simp)
    have h2 : 0 ≤ n.tdiv (sSize r) := Int.tdiv_nonneg h (by omega)
    have h3 := Int.tdiv_le_self (sSize r) h
    have := nthQ_le l (n.tdiv (sSize r)) h2 fun x hx => hs x (by simp [hx])
    simp only [nthQ]; omega
theorem take_snocR {l : List Rg} {i : Nat} (h : (i : Int) < l.length) : l.take (i + 1) = l.take i ++ [gR l i] := by rw [List.take_add_one, gR_get h]; rfl
def rNth (c : Cu) (n : Int) : Tr2 := ⟨c.heat.lo + n.tmod (sSize c.heat), nthL c.loss (n.tdiv (sSize c.heat))⟩
theorem tmod_le {n s : Int} (h : 0 ≤ n) (hs : 1 ≤ s) : 0 ≤ n.tmod s ∧ n.tmod s ≤ s - 1 := by
  have h1 := Int.tmod_nonneg s h
  have h2 := Int.tmod_lt_of_pos n (b := s) (by omega)
  omega
theorem wk_nth (i : Nat) (x y : Int) (l : List Int) (h : l.length = i) : WkV (domP []) (.agg [vi x, .own 45 i 0 1 i]) [(4, ⟨0, .row [vi x, .own 45 i 0 1 i]⟩), (5, ⟨0, .row [vi x, .own 45 i 0 1 i]⟩), (45, ⟨i, .row (cI l)⟩)] (.agg [vi x, vI l]) [] := by
  have e1 : (cI l).take i = cI l := List.take_of_length_le (by rw [cI_len]; omega)
  refine WkV.frz 45 (v' := .agg [vi x, .ro i (cI l)]) (h' := [(4, ⟨0, .row [vi x, .ro i (cI l)]⟩), (5, ⟨0, .row [vi x, .ro i (cI l)]⟩)]) (ver := i) (cs := cI l) rfl rfl (cI_into _ _) rfl ?_ ?_ ?_
  · simp [V.frz, frzL, e1]
  · simp [frzH, Blk.frz, V.frz, frzL, e1]
  have : V.agg [vi x, vI l] = .agg [vi x, .ro i (cI l)] := by simp only [vI, h]
  rw [this]
  exact WkV.pure (by simp only [V.into, intoL, cI_into, Bool.and_true])
set_option maxHeartbeats 2000000 in
theorem c_rNth (c : Cu) (k0 : CuOk c) (n : Int) (hn : 0 ≤ n ∧ n ≤ 100000) : Pu Try.prog (.fn 46 [] []) [.agg c.cs, vi n] (.agg (rNth c n).cs) := by
  have hll := k0.loss.1
  have hlast := k0.last
  have hin := k0.heat
  have hz := size_le hin
  simp only [sInside, Bool.and_eq_true, decide_eq_true_eq] at hin
  have hs : ∀ r ∈ c.loss, 1 ≤ sSize r := fun r hr => (size_le (k0.loss.2 r hr)).1
  refine Ev.fn Try.func46 rfl rfl (Fn.body tabOk Try.func46 rfl (Nat.le_of_ble_eq_true rfl) (Ks.ok (fz := (fzn [4, 5, 7])) (cl := (cln [(1, .d tg0 [cP, cP, cP, cP, cP, cP, cP, cP, cP, cP, cW, cW]), (7, .d (tgL [(45, 1)]) [cP, cL, cP, cL, cP, cL, cP, cP, cP, cP, some ([1], [1]), cP, cW])])) tabOk mixed ?_))
  generalize hQ : FnPost tt Try.f46 _ _ = Q
  simp only [Try.f46, List.nil_append, List.append_nil, argsEnv, Nat.reduceAdd]
  simp only [gos, eq_self, Nat.reduceLT, Nat.reduceEqDiff, reduceCtorEq, reduceIte, ↓reduceIte, tt, vgo, vout, vguard, callOf, vop, ev, newRow]
  refine Wr.draw (by kernel_rfl) ?_
  simp only [gos, eq_self, Nat.reduceLT, Nat.reduceEqDiff, Nat.reduceAdd, Nat.reduceLeDiff, reduceCtorEq, reduceIte, ↓reduceIte, tt, vgoD, voutD, vclsOk, vids, mayWrite, V.ids, vguard, callOf, vop, ev, vload, clsAt]
  refine CD.pu (c_rSize c.heat ⟨by omega, by omega⟩ ⟨by omega, by omega⟩) ?_
  have hs0 : ¬ sSize c.heat = 0 := by omega
  have hm := tmod_le hn.1 hz.1
  have hd0 : 0 ≤ n.tdiv (sSize c.heat) := Int.tdiv_nonneg hn.1 (by omega)
  have hd9 := Int.tdiv_le_self (sSize c.heat) hn.1
  simp only [gos, eq_self, Nat.reduceLT, Nat.reduceEqDiff, Nat.reduceAdd, Nat.reduceLeDiff, reduceCtorEq, reduceIte, ↓reduceIte, tt, vgo, vout, vgoD, voutD, vclsOk, vids, mayWrite, V.ids, vguard, callOf, vop, ev, vbin, vint, isShift, isNilConst, vload, newRow, vfill, hs0, i64_in (show -9223372036854775808 ≤ c.heat.lo + n.tmod (sSize c.heat) by omega) (show c.heat.lo + n.tmod (sSize c.heat) ≤ 9223372036854775807 by omega)]
  refine Cl.pu (c_rSize c.heat ⟨by omega, by omega⟩ ⟨by omega, by omega⟩) ?_
  simp only [gos, eq_self, Nat.reduceLT, Nat.reduceEqDiff, reduceIte, ↓reduceIte, vgo, vout, vguard, callOf, vop, ev, cv, vbin, vint, isShift, isNilConst, hs0, i64_in (show -9223372036854775808 ≤ n.tdiv (sSize c.heat) by omega) (show n.tdiv (sSize c.heat) ≤ 9223372036854775807 by omega)]
  refine W.loop tabOk mixed (fun i : Nat => ([(1, vi (nthQ (c.loss.take i) (n.tdiv (sSize c.heat)))), (2, .rop c.cs), (4, .ptr 4 0 0), (5, .ptr 5 0 0), (6, vi i)], [(4, ⟨0, .row [vi 0, .sl0]⟩), (5, ⟨0, .row [vi (c.heat.lo + n.tmod (sSize c.heat)), .own 45 i 0 1 i]⟩), (45, ⟨i, .row (cI (nthL (c.loss.take i) (n.tdiv (sSize c.heat))))⟩)])) (fun i => c.loss.length - i) (fun i => i ≤ c.loss.length) 0 (by omega)
    (Wk.trans (Wk.sl0H 5 1 45 1 rfl rfl rfl) (Wk.env (by simp [subE, Env.get, nthQ]))) ?_
  intro i hi
  by_cases hil : (i : Int) < c.loss.length
  · have hir := size_le (k0.loss.2 _ (List.mem_of_getElem? (gR_get hil)))
    have hirl := k0.loss.2 _ (List.mem_of_getElem? (gR_get hil))
    simp only [sInside, Bool.and_eq_true, decide_eq_true_eq] at hirl
    have hq := nthQ_le (c.loss.take i) (n.tdiv (sSize c.heat)) hd0 fun r hr => hs r (List.mem_of_mem_take hr)
    have hmm := tmod_le hq.1 hir.1
    have hn1 : (cI (nthL (c.loss.take i) (n.tdiv (sSize c.heat)))).length = i := by rw [cI_len, nthL_len, List.length_take]; omega
    have hi9 : i ≤ 999999 := by omega
    have hs1 : ¬ sSize (gR c.loss i) = 0 := by omega
    simp only [gos, eq_self, Nat.reduceLT, Nat.reduceEqDiff, Nat.reduceAdd, reduceCtorEq, reduceIte, ↓reduceIte, tt, vgo, vout, vguard, callOf, vop, ev, vbin, vint, isShift, isNilConst, vload, vlen, newRow, vR, hil, cR_at (Int.natCast_nonneg i) hil]
    refine Wr.draw (by kernel_rfl) ?_
    simp only [gos, eq_self, Nat.reduceLT, Nat.reduceEqDiff, Nat.reduceAdd, reduceCtorEq, reduceIte, ↓reduceIte, tt, vgoD, voutD, vclsOk, vids, mayWrite, V.ids, vguard, callOf, vop, ev, vload, clsAt]
    refine CD.pu (c_rSize (gR c.loss i) ⟨by omega, by omega⟩ ⟨by omega, by omega⟩) ?_
    have hQL : nthL (c.loss.take (i + 1)) (n.tdiv (sSize c.heat)) = nthL (c.loss.take i) (n.tdiv (sSize c.heat)) ++ [(gR c.loss i).lo + (nthQ (c.loss.take i) (n.tdiv (sSize c.heat))).tmod (sSize (gR c.loss i))] := by rw [take_snocR hil, nthL_snoc]
    have hQQ : nthQ (c.loss.take (i + 1)) (n.tdiv (sSize c.heat)) = (nthQ (c.loss.take i) (n.tdiv (sSize c.heat))).tdiv (sSize (gR c.loss i)) := by rw [take_snocR hil, nthQ_snoc]
    generalize nthQ (c.loss.take i) (n.tdiv (sSize c.heat)) = q at hq hmm hQL hQQ ⊢
    have hq0 : 0 ≤ q.tdiv (sSize (gR c.loss i)) := Int.tdiv_nonneg hq.1 (by omega)
    have hq9 := Int.tdiv_le_self (sSize (gR c.loss i)) hq.1
    simp only [gos, eq_self, Nat.reduceLT, Nat.reduceEqDiff, Nat.reduceAdd, Nat.reduceLeDiff, reduceCtorEq, reduceIte, ↓reduceIte, tt, vgo, vout, vgoD, voutD, vclsOk, vids, mayWrite, V.ids, vguard, callOf, vop, ev, vbin, vint, isShift, isNilConst, vload, vfill, vappend, srcOf, hs1, hn1, hi9, Nat.mul_one, i64_in (show -9223372036854775808 ≤ (gR c.loss i).lo + q.tmod (sSize (gR c.loss i)) by omega) (show (gR c.loss i).lo + q.tmod (sSize (gR c.loss i)) ≤ 9223372036854775807 by omega)]
    refine Cl.pu (c_rSize (gR c.loss i) ⟨by omega, by omega⟩ ⟨by omega, by omega⟩) ?_
    simp only [gos, eq_self, Nat.reduceLT, Nat.reduceEqDiff, reduceIte, ↓reduceIte, vgo, vout, vguard, callOf, vop, ev, cv, vbin, vint, isShift, isNilConst, hs1, i64_in (show -9223372036854775808 ≤ q.tdiv (sSize (gR c.loss i)) by omega) (show q.tdiv (sSize (gR c.loss i)) ≤ 9223372036854775807 by omega)]
    refine Nx.mk (i + 1) (show c.loss.length - (i + 1) < c.loss.length - i by omega) (by omega) (Wk.forget ?_ ?_ (fun j hp => by simp [orD, domP, Heap.get] at hp) ?_ ?_)
    · simp [subE, Env.get, hQQ, i64_succ (show (i : Int) < 9223372036854775807 by omega)]
    · rw [hQL, cI_snoc]
      simp [subH, Heap.get]
    · simp only [intoE, V.into, cu_into, Bool.true_and, Bool.and_true, domP, Heap.get]; rfl
    · simp only [intoH, Blk.into, V.into, intoL, cI_into, Bool.true_and, Bool.and_true, domP, Heap.get]; rfl
  · have hie : i = c.loss.length := by omega
    have e : c.loss.take i = c.loss := List.take_of_length_le (by omega)
    simp only [gos, eq_self, Nat.reduceLT, Nat.reduceEqDiff, Nat.reduceAdd, reduceCtorEq, reduceIte, ↓reduceIte, tt, vgo, vout, vguard, callOf, vop, ev, vbin, vint, isShift, isNilConst, vload, vlen, vR, hil]
    rw [e]
    have hl := nthL_len c.loss (n.tdiv (sSize c.heat))
    subst hQ
    exact FnPost.plain trivial (v := .agg [vi (c.heat.lo + n.tmod (sSize c.heat)), .own 45 i 0 1 i]) (fun h2 e => by simp only [Try.f46, vres, vresL, vres1, gos, eq_self, Nat.reduceLT, Nat.reduceEqDiff, Nat.reduceAdd, reduceCtorEq, reduceIte, ↓reduceIte, tt, vload, e _]) (wk_nth i _ 0 _ (by omega)) ⟨rfl, rfl⟩
end Go.Vm

set_option linter.unusedVariables false
set_option linter.unusedSimpArgs false
set_option maxRecDepth 100000
namespace Go.Vm
open Go.Proofs
/-! ### the reference: which readings are right -/
def bitsI (f : Nat → Bool) : Nat → Int
  | 0 => 0
  | i + 1 => if f i then bitsI f i + 2 ^ i else bitsI f i
theorem bitsI_le (f : Nat → Bool) : ∀ i, 0 ≤ bitsI f i ∧ bitsI f i < 2 ^ i
  | 0 => by simp [bitsI]
  | i + 1 => by
    have := bitsI_le f i
    have e : (2 : Int) ^ (i + 1) = 2 ^ i + 2 ^ i := by rw [Int.pow_succ]; omega
    simp only [bitsI]
    split <;> omega
/-- A reading is right in a truth. -/
def rOk (c : Cu) (t : Tr2) (i : Nat) : Bool := sIn ((sHeat c (tS t) c.coal c.want (gD c.readings i).hour.toNat).tdiv c.per) (gD c.readings i).b.lo (gD c.readings i).b.hi
def rRight (c : Cu) (t : Tr2) : Int := bitsI (rOk c t) c.readings.length
def rFull (c : Cu) : Int := 2 ^ c.readings.length - 1
theorem u64_in {n : Int} (h1 : 0 ≤ n) (h2 : n ≤ 9223372036854775807) : IntKind.u64.wrap n = n := by
  simp [IntKind.wrap, IntKind.bits, IntKind.signed]
  omega
theorem shl1 {i : Nat} (h : i < 6) : IntKind.i64.wrap (1 * 2 ^ min ((i : Int)).toNat IntKind.i64.bits) = 2 ^ i := by
  have : ∀ i : Fin 6, IntKind.i64.wrap (1 * 2 ^ min (((i : Nat) : Int)).toNat IntKind.i64.bits) = 2 ^ (i : Nat) := by decide +kernel
  exact this ⟨i, h⟩
theorem or1 {i : Nat} (h : i < 5) {x : Int} (h1 : 0 ≤ x) (h2 : x < 2 ^ i) : vbits .or .i64 x (2 ^ i) = x + 2 ^ i := by
  have : ∀ i : Fin 5, ∀ x : Fin 16, (x : Nat) < 2 ^ (i : Nat) → vbits .or .i64 ((x : Nat) : Int) (2 ^ (i : Nat)) = ((x : Nat) : Int) + 2 ^ (i : Nat) := by decide +kernel
  have h16 : (2 : Int) ^ i ≤ 16 := by
    have : ∀ i : Fin 5, (2 : Int) ^ (i : Nat) ≤ 16 := by decide
    exact this ⟨i, h⟩
  have h3 : (x.toNat : Int) = x := by omega
  have h4 : x.toNat < 2 ^ i := by
    have : ((x.toNat : Nat) : Int) < ((2 ^ i : Nat) : Int) := by rw [h3, Int.natCast_pow]; exact h2
    omega
  have := this ⟨i, h⟩ ⟨x.toNat, by omega⟩ h4
  rwa [h3] at this
theorem full_sub {i : Nat} (h : i < 6) : IntKind.i64.wrap ((2 : Int) ^ i - 1) = 2 ^ i - 1 := by
  have : ∀ i : Fin 6, IntKind.i64.wrap ((2 : Int) ^ (i : Nat) - 1) = 2 ^ (i : Nat) - 1 := by decide +kernel
  exact this ⟨i, h⟩
theorem c_rFull (c : Cu) (hr : (c.readings.length : Int) ≤ 5) : Pu Try.prog (.fn 55 [] []) [.agg c.cs] (vi (rFull c)) := by
  refine Ev.fn Try.func55 rfl rfl (Fn.body tabOk Try.func55 rfl (Nat.le_of_ble_eq_true rfl) (Ks.ok (fz := (fzn [])) (cl := (cln [])) tabOk mixed ?_))
  generalize hQ : FnPost tt Try.f55 _ _ = Q
  simp only [Try.f55, List.nil_append, List.append_nil, argsEnv]
  have hw := u64_in (n := (c.readings.length : Int)) (by omega) (by omega)
  have hn : ¬ (c.readings.length : Int) < 0 := by omega
  simp only [gos, eq_self, Nat.reduceLT, Nat.reduceEqDiff, reduceCtorEq, reduceIte, ↓reduceIte, tt, vgo, vout, vguard, callOf, vop, ev, cv, vbin, vint, isShift, isNilConst, vload, vlen, newRow, vD, hw, hn, shl1 (i := c.readings.length) (by omega), full_sub (i := c.readings.length) (by omega)]
  subst hQ
  exact FnPost.plain trivial (fun h2 e => by first | rfl | (simp only [Try.f55, vres, vresL, vres1, e _, gos, if_true, if_false, ne_eq, eq_self, Nat.reduceLT, Nat.reduceEqDiff, Nat.reduceAdd, Nat.reduceMul, Nat.reduceLeDiff, Nat.reduceBEq, reduceCtorEq, reduceIte, Array.toList, ↓reduceIte, tt, vgo, vout, vgoD, voutD, vclsOk, vids, mayWrite, V.ids, V.mids, vguard, callOf, vop, ev, cv, vbin, vint, isShift, isNilConst, vnil, isNilSlice, vload, vlen, newRow, vfill, vslice, entOf, vappend, srcOf, vcopy, vlookup, vupdate, mapOk, keyOf, intsOf, clsAt]; try rfl)) (WkV.pure (by simp only [V.into])) ⟨rfl, rfl⟩
set_option maxHeartbeats 2000000 in
theorem c_rRight (c : Cu) (k0 : CuOk c) (t : Tr2) (k : TrOk c t c.coal c.want) : Pu Try.prog (.fn 93 [] []) [.agg c.cs, .agg t.cs] (vi (rRight c t)) := by
  have hrd := k0.rds
  refine Ev.fn Try.func93 rfl rfl (Fn.body tabOk Try.func93 rfl (Nat.le_of_ble_eq_true rfl) (Ks.ok (fz := (fzn [7])) (cl := (cln [(6, .d tg0 [cP, cP, cP, cP, cP, cP, cP, cL, cP, cP, cL, cP])])) tabOk mixed ?_))
  generalize hQ : FnPost tt Try.f93 _ _ = Q
  simp only [Try.f93, List.nil_append, List.append_nil, argsEnv, Nat.reduceAdd]
  have hts : t.cs.take 2 = t.cs := rfl
  have htn : t.cs.length = 2 := rfl
  simp only [gos, eq_self, Nat.reduceLT, Nat.reduceEqDiff, reduceCtorEq, reduceIte, ↓reduceIte, vgo, vout, vguard, callOf, vop, ev, cv, newRow]
  refine W.loop tabOk mixed (fun i : Nat => ([(2, .rop c.cs), (3, .rop t.cs), (5, vi (bitsI (rOk c t) i)), (6, vi i)], [])) (fun i => c.readings.length - i) (fun i => i ≤ c.readings.length) 0 (by omega) (Wk.env (by simp [subE, Env.get, bitsI])) ?_
  intro i hi
  by_cases hil : (i : Int) < c.readings.length
  · have hrr := k0.hours _ (List.mem_of_getElem? (gD_get hil))
    have hh : ((((gD c.readings i).hour.toNat : Nat)) : Int) = (gD c.readings i).hour := by omega
    have e := c_rHot c t c.coal c.want k (gD c.readings i).hour.toNat (by omega)
    rw [hh] at e
    have hb := bitsI_le (rOk c t) i
    simp only [gos, eq_self, Nat.reduceLT, Nat.reduceEqDiff, Nat.reduceAdd, reduceCtorEq, reduceIte, ↓reduceIte, tt, vgo, vout, vguard, callOf, vop, ev, vbin, vint, isShift, isNilConst, vload, vlen, newRow, vD, hil, cD_at (Int.natCast_nonneg i) hil]
    refine Wr.draw (by kernel_rfl) ?_
    simp only [gos, eq_self, Nat.reduceLT, Nat.reduceEqDiff, Nat.reduceAdd, reduceCtorEq, reduceIte, ↓reduceIte, tt, vgoD, voutD, vclsOk, vids, mayWrite, V.ids, vguard, callOf, vop, ev, vload, clsAt, hts, htn]
    refine CD.pu e ?_ rfl (by simp only [V.into, intoL, vI_into, cu_into, Bool.and_true, Tr2.cs])
    simp only [gos, eq_self, Nat.reduceLT, Nat.reduceEqDiff, Nat.reduceAdd, reduceCtorEq, reduceIte, ↓reduceIte, tt, vgoD, voutD, vclsOk, vids, mayWrite, V.ids, vguard, callOf, vop, ev, vload]
    refine CD.pu (c_rIs _ _) ?_
    cases hok : rOk c t i with
    | true =>
      have hok2 := hok
      simp only [rOk] at hok2
      have hw := u64_in (n := (i : Int)) (by omega) (by omega)
      have hn : ¬ (i : Int) < 0 := by omega
      have hbs : bitsI (rOk c t) (i + 1) = bitsI (rOk c t) i + 2 ^ i := by simp only [bitsI, hok, if_true]
      simp only [gos, eq_self, Nat.reduceLT, Nat.reduceEqDiff, reduceIte, ↓reduceIte, tt, vgo, vout, vguard, callOf, vop, ev, cv, vbin, vint, isShift, isNilConst, hok2, hw, hn, shl1 (i := i) (by omega), or1 (i := i) (by omega) hb.1 hb.2]
      refine Nx.mk (i + 1) (show c.readings.length - (i + 1) < c.readings.length - i by omega) (by omega) (Wk.forget ?_ (by simp [subH]) (fun j hp => by simp [orD, domP, Heap.get] at hp) ?_ rfl)
      · simp [subE, Env.get, hbs, i64_succ (show (i : Int) < 9223372036854775807 by omega)]
      · simp only [intoE, V.into, intoL, vI_into, cu_into, Bool.and_true, Tr2.cs]
    | false =>
      have hok2 := hok
      simp only [rOk] at hok2
      have hbs : bitsI (rOk c t) (i + 1) = bitsI (rOk c t) i := by simp only [bitsI, hok]; rfl
      simp only [gos, eq_self, Nat.reduceLT, Nat.reduceEqDiff, reduceIte, ↓reduceIte, vgo, vout, vguard, callOf, vop, ev, cv, vbin, vint, isShift, isNilConst, hok2]
      refine Nx.mk (i + 1) (show c.readings.length - (i + 1) < c.readings.length - i by omega) (by omega) (Wk.forget ?_ (by simp [subH]) (fun j hp => by simp [orD, domP, Heap.get] at hp) ?_ rfl)
      · simp [subE, Env.get, hbs, i64_succ (show (i : Int) < 9223372036854775807 by omega)]
      · simp only [intoE, V.into, intoL, vI_into, cu_into, Bool.and_true, Tr2.cs]
  · have hie : i = c.readings.length := by omega
    simp only [gos, eq_self, Nat.reduceLT, Nat.reduceEqDiff, reduceCtorEq, reduceIte, ↓reduceIte, tt, vgo, vout, vguard, callOf, vop, ev, vbin, vint, isShift, isNilConst, vload, vlen, vD, hil]
    subst hQ
    exact FnPost.plain trivial (fun h2 e => by first | rfl | (simp only [Try.f93, vres, vresL, vres1, e _, gos, if_true, if_false, ne_eq, eq_self, Nat.reduceLT, Nat.reduceEqDiff, Nat.reduceAdd, Nat.reduceMul, Nat.reduceLeDiff, Nat.reduceBEq, reduceCtorEq, reduceIte, Array.toList, ↓reduceIte, tt, vgo, vout, vgoD, voutD, vclsOk, vids, mayWrite, V.ids, V.mids, vguard, callOf, vop, ev, cv, vbin, vint, isShift, isNilConst, vnil, isNilSlice, vload, vlen, newRow, vfill, vslice, entOf, vappend, srcOf, vcopy, vlookup, vupdate, mapOk, keyOf, intsOf, clsAt]; try rfl)) (WkV.pure (by simp only [V.into])) ⟨by rw [rRight, hie], rfl⟩
end Go.Vm

set_option linter.unusedVariables false
set_option linter.unusedSimpArgs false
set_option maxRecDepth 100000
namespace Go.Vm
open Go.Proofs
/-! ### the reference: all truths -/
def cT : List Tr2 → List V
  | [] => []
  | t :: l => vi t.heat :: vI t.loss :: cT l
def vT (l : List Tr2) : V := .ro l.length (cT l)
def gT (l : List Tr2) (n : Int) : Tr2 := l.getD n.toNat ⟨0, []⟩
theorem cT_len : ∀ l : List Tr2, (cT l).length = l.length * 2
  | [] => rfl
  | r :: l => by simp [cT, cT_len l]; omega
theorem cT_drop : ∀ (l : List Tr2) (i : Nat), (cT l).drop (i * 2) = cT (l.drop i)
  | l, 0 => by simp
  | [], i + 1 => by simp [cT]
  | r :: l, i + 1 => by rw [show (i + 1) * 2 = i * 2 + 1 + 1 by omega]; simp [cT, cT_drop l i]
theorem gT_drop {l : List Tr2} {n : Int} (h0 : 0 ≤ n) (h1 : n < l.length) : l.drop n.toNat = gT l n :: l.drop (n.toNat + 1) := by
  have : n.toNat < l.length := by omega
  rw [List.drop_eq_getElem_cons this, gT, List.getD_eq_getElem?_getD, List.getElem?_eq_getElem this]; rfl
theorem cT_at {l : List Tr2} {n : Int} (h0 : 0 ≤ n) (h1 : n < l.length) : (cT l).drop (n.toNat * 2) = vi (gT l n).heat :: vI (gT l n).loss :: cT (l.drop (n.toNat + 1)) := by
  rw [cT_drop, gT_drop h0 h1]; rfl
theorem gT_get {l : List Tr2} {i : Nat} (h : (i : Int) < l.length) : l[i]? = some (gT l i) := by
  have : i < l.length := by omega
  rw [gT, Int.toNat_natCast, List.getD_eq_getElem?_getD, List.getElem?_eq_getElem this]; rfl
theorem cT_into (p : Nat → Bool) : ∀ l : List Tr2, intoL p (cT l) = true
  | [] => rfl
  | x :: l => by simp only [cT, intoL, V.into, vI_into, Bool.true_and]; exact cT_into p l
theorem vT_into (p : Nat → Bool) (l : List Tr2) : (vT l).into p = true := by simp only [vT, V.into]; exact cT_into p l
theorem cT_snoc : ∀ (l : List Tr2) (t : Tr2), cT (l ++ [t]) = cT l ++ [vi t.heat, vI t.loss]
  | [], t => rfl
  | x :: l, t => by simp [cT, cT_snoc l t]
theorem nthL_ok : ∀ (l : List Rg) (n : Int), 0 ≤ n → (∀ r ∈ l, sInside r 99 = true) → ∀ x ∈ nthL l n, 0 ≤ x ∧ x ≤ 99
  | [], n, _, _, x, h => by simp [nthL] at h
  | r :: l, n, hn, hs, x, h => by
    have h1 := hs r (by simp)
    have hz := size_le h1
    simp only [sInside, Bool.and_eq_true, decide_eq_true_eq] at h1
    have hm := tmod_le hn hz.1
    simp only [nthL, List.mem_cons] at h
    rcases h with rfl | h
    · simp only [sSize] at hm ⊢; omega
    · exact nthL_ok l _ (Int.tdiv_nonneg hn (by omega)) (fun y hy => hs y (by simp [hy])) x h
theorem pad5_ok {l : List Int} (h : (l.length : Int) ≤ 5) (hl : ∀ x ∈ l, 0 ≤ x ∧ x ≤ 99) : (pad5 l).length = 5 ∧ ∀ x ∈ pad5 l, 0 ≤ x ∧ x ≤ 99 := by
  refine ⟨by simp [pad5]; omega, fun x hx => ?_⟩
  simp only [pad5, List.mem_append] at hx
  rcases hx with hx | hx
  · exact hl x hx
  · rw [List.mem_replicate] at hx; omega
/-- A truth of the reference that fits the coppers. -/
structure T2Ok (c : Cu) (t : Tr2) : Prop where
  sc : ScOk c (tS t)
  len : (t.loss.length : Int) = c.last + 1
theorem nth_ok {c : Cu} (k0 : CuOk c) {n : Int} (hn : 0 ≤ n) : T2Ok c (rNth c n) := by
  have hz := size_le k0.heat
  have hin := k0.heat
  simp only [sInside, Bool.and_eq_true, decide_eq_true_eq] at hin
  have hm := tmod_le hn hz.1
  have hl := k0.last
  have hl2 := k0.loss.1
  have h1 := nthL_len c.loss (n.tdiv (sSize c.heat))
  refine ⟨⟨?_, ?_⟩, ?_⟩
  · simp only [tS, rNth]; simp only [sSize] at hm ⊢; omega
  · exact pad5_ok (by simp only [rNth]; omega) (nthL_ok _ _ (Int.tdiv_nonneg hn (by omega)) k0.loss.2)
  · simp only [rNth]; omega
theorem T2Ok.tr {c : Cu} (k0 : CuOk c) {t : Tr2} (h : T2Ok c t) : TrOk c t c.coal c.want := ⟨k0.play0 h.sc, h.len⟩
def rIs (c : Cu) (t : Tr2) : Bool := decide (rRight c t = rFull c)
def rTr (c : Cu) (i : Nat) : List Tr2 := ((List.range i).map fun (n : Nat) => rNth c n).filter (rIs c)
def rTruths (c : Cu) : List Tr2 := rTr c (rMany c).toNat
theorem rTr_succ (c : Cu) (i : Nat) : rTr c (i + 1) = if rIs c (rNth c i) then rTr c i ++ [rNth c i] else rTr c i := by
  simp only [rTr, List.range_succ, List.map_append, List.filter_append, List.map_cons, List.map_nil]
  by_cases h : rIs c (rNth c i) = true
  · simp [h]
  · simp [h]
theorem rTr_len (c : Cu) (i : Nat) : (rTr c i).length ≤ i := by
  have := List.length_filter_le (rIs c) ((List.range i).map fun (n : Nat) => rNth c n)
  simpa [rTr] using this
theorem rMany_le {c : Cu} (k0 : CuOk c) : 1 ≤ rMany c ∧ rMany c ≤ 2000 := by
  have h := many_iff k0.heat k0.loss.2
  have hz := size_le k0.heat
  have h1 := rManyL_le (n := sSize c.heat) ⟨by omega, by omega⟩ (l := c.loss) k0.loss.2
  have e : rMany c = rManyL (sSize c.heat) c.loss := rfl
  have := k0.many
  have h2 : ¬ 2000 < rMany c := by rw [h]; omega
  omega
set_option maxHeartbeats 2000000 in
theorem c_rTruths (c : Cu) (k0 : CuOk c) : Pu Try.prog (.fn 43 [] []) [.agg c.cs] (vT (rTruths c)) := by
  have hM := rMany_le k0
  have hN : (((rMany c).toNat : Nat) : Int) = rMany c := by omega
  refine Ev.fn Try.func43 rfl rfl (Fn.body tabOk Try.func43 rfl (Nat.le_of_ble_eq_true rfl) (Ks.ok (fz := (fzn [5])) (cl := (cln [(6, .d tg0 [cP, cL, cP, cP, cP, cP])])) tabOk mixed ?_))
  generalize hQ : FnPost tt Try.f43 _ _ = Q
  simp only [Try.f43, List.nil_append, List.append_nil, argsEnv]
  simp only [gos, eq_self, Nat.reduceLT, Nat.reduceEqDiff, reduceCtorEq, reduceIte, ↓reduceIte, vgo, vout, vguard, callOf, vop, ev, cv, newRow]
  refine W.loop tabOk mixed (fun i : Nat => ([(1, .rop c.cs), (3, .own 24 (rTr c i).length 0 2 (rTr c i).length), (4, vi i)], [(24, ⟨(rTr c i).length, .row (cT (rTr c i))⟩)])) (fun i => (rMany c).toNat - i) (fun i => i ≤ (rMany c).toNat) 0 (by omega) (Wk.trans (Wk.sl0E 3 24 2 rfl rfl) (Wk.env (by simp [subE, Env.get, rTr]))) ?_
  intro i hi
  simp only [gos, eq_self, Nat.reduceLT, Nat.reduceEqDiff, reduceCtorEq, reduceIte, ↓reduceIte, tt, vgo, vout, vguard, callOf, vop, ev, vload]
  refine Cl.pu (c_rMany c k0.heat (by have := k0.loss.1; have := k0.last; omega) k0.loss.2) ?_ rfl (by simp only [V.into, intoL, cu_into, Bool.and_true])
  by_cases hil : (i : Int) < rMany c
  · have hno := nth_ok k0 (n := i) (by omega)
    have hts : ∀ t : Tr2, t.cs.take 2 = t.cs := fun _ => rfl
    have htn : ∀ t : Tr2, t.cs.length = 2 := fun _ => rfl
    have hto : ∀ t : Tr2, oneL t.cs = true := fun _ => rfl
    have htd : ∀ t : Tr2, List.drop 2 t.cs = [] := fun _ => rfl
    simp only [gos, eq_self, Nat.reduceLT, Nat.reduceEqDiff, reduceCtorEq, reduceIte, ↓reduceIte, tt, vgo, vout, vguard, callOf, vop, ev, vbin, vint, isShift, isNilConst, vload, hil]
    refine Cl.pu (c_rNth c k0 i (by omega)) ?_ rfl (by simp only [V.into, intoL, cu_into, Bool.and_true])
    simp only [gos, eq_self, Nat.reduceLT, Nat.reduceEqDiff, Nat.reduceAdd, reduceCtorEq, reduceIte, ↓reduceIte, tt, vgo, vout, vguard, callOf, vop, ev, newRow, htn, hto]
    refine Wr.draw (by kernel_rfl) ?_
    simp only [gos, eq_self, Nat.reduceLT, Nat.reduceEqDiff, Nat.reduceAdd, reduceCtorEq, reduceIte, ↓reduceIte, tt, vgoD, voutD, vclsOk, vids, mayWrite, V.ids, vguard, callOf, vop, ev, vload, clsAt, hts, htn]
    refine CD.pu (c_rRight c k0 (rNth c i) (hno.tr k0)) ?_ rfl (by simp only [V.into, intoL, vI_into, cu_into, Bool.and_true, Tr2.cs])
    simp only [gos, eq_self, Nat.reduceLT, Nat.reduceEqDiff, reduceCtorEq, reduceIte, ↓reduceIte, tt, vgoD, voutD, vclsOk, vids, mayWrite, V.ids, vguard, callOf, vop, ev, vload]
    refine CD.pu (c_rFull c k0.rds) ?_ rfl (by simp only [V.into, intoL, cu_into, Bool.and_true])
    have hlen : (cT (rTr c i)).length = (rTr c i).length * 2 := cT_len _
    have hl9 : (rTr c i).length ≤ 999999 := by have := rTr_len c i; omega
    by_cases hr : rRight c (rNth c i) = rFull c
    · have hs : rTr c (i + 1) = rTr c i ++ [rNth c i] := by rw [rTr_succ, if_pos (by simp [rIs, hr])]
      have hb : decide (rRight c (rNth c i) = rFull c) = true := by simp [hr]
      simp only [gos, eq_self, Nat.reduceLT, Nat.reduceEqDiff, Nat.reduceAdd, Nat.reduceMul, Nat.reduceLeDiff, reduceCtorEq, reduceIte, ↓reduceIte, tt, vgo, vout, vgoD, voutD, vclsOk, vids, mayWrite, vguard, callOf, vop, ev, cv, vbin, vint, isShift, isNilConst, vload, vfill, vappend, srcOf, hb, hts, htn, hto, hlen, hl9]
      refine Nx.mk (i + 1) (show (rMany c).toNat - (i + 1) < (rMany c).toNat - i by omega) (by omega) (Wk.forget ?_ ?_ (fun j hp => by simp [orD, domP, Heap.get] at hp) ?_ ?_)
      · simp [subE, Env.get, hs, i64_succ (show (i : Int) < 9223372036854775807 by omega)]
      · rw [hs, cT_snoc]
        simp [subH, Heap.get, Tr2.cs]
      · simp only [intoE, V.into, cu_into, Bool.true_and, Bool.and_true, domP, Heap.get]; rfl
      · simp only [intoH, Blk.into, cT_into, Bool.and_self]
    · have hs : rTr c (i + 1) = rTr c i := by rw [rTr_succ, if_neg (by simp [rIs, hr])]
      have hb : decide (rRight c (rNth c i) = rFull c) = false := by simp [hr]
      simp only [gos, eq_self, Nat.reduceLT, Nat.reduceEqDiff, reduceIte, ↓reduceIte, vgo, vout, vgoD, voutD, vclsOk, vids, mayWrite, vguard, callOf, vop, ev, cv, vbin, vint, isShift, isNilConst, hb]
      refine Nx.mk (i + 1) (show (rMany c).toNat - (i + 1) < (rMany c).toNat - i by omega) (by omega) (Wk.forget ?_ ?_ (fun j hp => by simp [orD, domP, Heap.get] at hp) ?_ ?_)
      · simp [subE, Env.get, hs, i64_succ (show (i : Int) < 9223372036854775807 by omega)]
      · rw [hs]; simp [subH, Heap.get]
      · simp only [intoE, V.into, cu_into, Bool.true_and, Bool.and_true, domP, Heap.get]; rfl
      · simp only [intoH, Blk.into, cT_into, Bool.and_self]
  · have hie : i = (rMany c).toNat := by omega
    simp only [gos, eq_self, Nat.reduceLT, Nat.reduceEqDiff, reduceIte, ↓reduceIte, vgo, vout, vguard, callOf, vop, ev, vbin, vint, isShift, isNilConst, hil]
    subst hQ
    have hlen : (cT (rTr c i)).length = (rTr c i).length * 2 := cT_len _
    have ht : (cT (rTr c i)).take ((rTr c i).length * 2) = cT (rTr c i) := List.take_of_length_le (by omega)
    rw [rTruths, ← hie]
    refine FnPost.plain trivial (v := .own 24 (rTr c i).length 0 2 (rTr c i).length) (fun h2 e => by rfl) (WkV.frz 24 (v' := vT (rTr c i)) (h' := []) (ver := (rTr c i).length) (cs := cT (rTr c i)) rfl rfl (cT_into _ _) rfl ?_ ?_ WkV.refl) ⟨rfl, rfl⟩
    · simp [V.frz, vT, ht]
    · simp [frzH]
end Go.Vm

set_option linter.unusedVariables false
set_option linter.unusedSimpArgs false
set_option maxRecDepth 100000
namespace Go.Vm
open Go.Proofs
/-! ### the reference: bounds and verdicts -/
def rVerdict (yes many : Int) : Int := if yes = many then 1 else if yes = 0 then 2 else 3
theorem c_rVerdict (y m : Int) : Pu Try.prog (.fn 89 [] []) [vi y, vi m] (vi (rVerdict y m)) := by
  refine Ev.fn Try.func89 rfl rfl (Fn.body tabOk Try.func89 rfl (Nat.le_of_ble_eq_true rfl) (Ks.ok (fz := (fzn [])) (cl := (cln [])) tabOk mixed ?_))
  generalize hQ : FnPost tt Try.f89 _ _ = Q
  simp only [Try.f89, List.nil_append, List.append_nil, argsEnv, Nat.reduceAdd]
  by_cases h1 : y = m
  · have hb : decide (y = m) = true := by simp [h1]
    simp only [gos, eq_self, Nat.reduceLT, Nat.reduceEqDiff, reduceCtorEq, reduceIte, ↓reduceIte, vgo, vout, vguard, callOf, vop, ev, cv, vbin, vint, isShift, isNilConst, hb]
    subst hQ
    exact FnPost.plain trivial (fun h2 e => by first | rfl | (simp only [Try.f89, vres, vresL, vres1, e _, gos, if_true, if_false, ne_eq, eq_self, Nat.reduceLT, Nat.reduceEqDiff, Nat.reduceAdd, Nat.reduceMul, Nat.reduceLeDiff, Nat.reduceBEq, reduceCtorEq, reduceIte, Array.toList, ↓reduceIte, tt, vgo, vout, vgoD, voutD, vclsOk, vids, mayWrite, V.ids, V.mids, vguard, callOf, vop, ev, cv, vbin, vint, isShift, isNilConst, vnil, isNilSlice, vload, vlen, newRow, vfill, vslice, entOf, vappend, srcOf, vcopy, vlookup, vupdate, mapOk, keyOf, intsOf, clsAt]; try rfl)) (WkV.pure (by simp only [V.into])) ⟨by simp [rVerdict, h1], rfl⟩
  · have hb : decide (y = m) = false := by simp [h1]
    by_cases h2 : y = 0
    · have hb2 : decide (y = 0) = true := by simp [h2]
      simp only [gos, eq_self, Nat.reduceLT, Nat.reduceEqDiff, reduceCtorEq, reduceIte, ↓reduceIte, vgo, vout, vguard, callOf, vop, ev, cv, vbin, vint, isShift, isNilConst, hb, hb2]
      subst hQ
      exact FnPost.plain trivial (fun h2 e => by first | rfl | (simp only [Try.f89, vres, vresL, vres1, e _, gos, if_true, if_false, ne_eq, eq_self, Nat.reduceLT, Nat.reduceEqDiff, Nat.reduceAdd, Nat.reduceMul, Nat.reduceLeDiff, Nat.reduceBEq, reduceCtorEq, reduceIte, Array.toList, ↓reduceIte, tt, vgo, vout, vgoD, voutD, vclsOk, vids, mayWrite, V.ids, V.mids, vguard, callOf, vop, ev, cv, vbin, vint, isShift, isNilConst, vnil, isNilSlice, vload, vlen, newRow, vfill, vslice, entOf, vappend, srcOf, vcopy, vlookup, vupdate, mapOk, keyOf, intsOf, clsAt]; try rfl)) (WkV.pure (by simp only [V.into])) ⟨by rw [rVerdict, if_neg h1, if_pos h2], rfl⟩
    · have hb2 : decide (y = 0) = false := by simp [h2]
      simp only [gos, eq_self, Nat.reduceLT, Nat.reduceEqDiff, reduceCtorEq, reduceIte, ↓reduceIte, vgo, vout, vguard, callOf, vop, ev, cv, vbin, vint, isShift, isNilConst, hb, hb2]
      subst hQ
      exact FnPost.plain trivial (fun h2 e => by first | rfl | (simp only [Try.f89, vres, vresL, vres1, e _, gos, if_true, if_false, ne_eq, eq_self, Nat.reduceLT, Nat.reduceEqDiff, Nat.reduceAdd, Nat.reduceMul, Nat.reduceLeDiff, Nat.reduceBEq, reduceCtorEq, reduceIte, Array.toList, ↓reduceIte, tt, vgo, vout, vgoD, voutD, vclsOk, vids, mayWrite, V.ids, V.mids, vguard, callOf, vop, ev, cv, vbin, vint, isShift, isNilConst, vnil, isNilSlice, vload, vlen, newRow, vfill, vslice, entOf, vappend, srcOf, vcopy, vlookup, vupdate, mapOk, keyOf, intsOf, clsAt]; try rfl)) (WkV.pure (by simp only [V.into])) ⟨by rw [rVerdict, if_neg h1, if_neg h2], rfl⟩
def keptI (c : Cu) (coal want : List Int) (t : Tr2) (i : Nat) : Bool := decide (gi want i ≤ (sHeat c (tS t) coal want i).tdiv c.per)
theorem count_snoc (l : List Tr2) (f : Tr2 → Bool) {i : Nat} (h : (i : Int) < l.length) : (l.take (i + 1)).countP f = (l.take i).countP f + (if f (gT l i) then 1 else 0) := by
  have e : l.take (i + 1) = l.take i ++ [gT l i] := by rw [List.take_add_one, gT_get h]; rfl
  rw [e, List.countP_append, List.countP_singleton]
def rKeeps (c : Cu) (l : List Tr2) (i : Nat) : Int := rVerdict (l.countP fun t => keptI c c.coal c.want t i) l.length
set_option maxHeartbeats 2000000 in
theorem c_rKeeps (c : Cu) (l : List Tr2) (hl : (l.length : Int) ≤ 1000000) (hok : ∀ t ∈ l, TrOk c t c.coal c.want) (hour : Nat) (hh : (hour : Int) ≤ c.last) :
    Pu Try.prog (.fn 71 [] []) [.agg c.cs, vT l, vi hour] (vi (rKeeps c l hour)) := by
  refine Ev.fn Try.func71 rfl rfl (Fn.body tabOk Try.func71 rfl (Nat.le_of_ble_eq_true rfl) (Ks.ok (fz := (fzn [])) (cl := (cln [(5, .d tg0 [cP, cP, cP, cP, cP, cP, cP, cP, cP, cP, cP])])) tabOk mixed ?_))
  generalize hQ : FnPost tt Try.f71 _ _ = Q
  simp only [Try.f71, List.nil_append, List.append_nil, argsEnv, Nat.reduceAdd]
  simp only [gos, eq_self, Nat.reduceLT, Nat.reduceEqDiff, reduceCtorEq, reduceIte, ↓reduceIte, vgo, vout, vguard, callOf, vop, ev, cv, newRow]
  refine W.loop tabOk mixed (fun i : Nat => ([(1, vT l), (2, vi hour), (3, .rop c.cs), (7, vi ((l.take i).countP fun t => keptI c c.coal c.want t hour)), (8, vi i)], [])) (fun i => l.length - i) (fun i => i ≤ l.length) 0 (by omega) (Wk.env (by simp [subE, Env.get])) ?_
  intro i hi
  by_cases hil : (i : Int) < l.length
  · have ht := hok _ (List.mem_of_getElem? (gT_get hil))
    have hcs := count_snoc l (fun t => keptI c c.coal c.want t hour) hil
    have hle : (l.take i).countP (fun t => keptI c c.coal c.want t hour) ≤ i := Nat.le_trans List.countP_le_length (by rw [List.length_take]; exact Nat.min_le_left _ _)
    simp only [gos, eq_self, Nat.reduceLT, Nat.reduceEqDiff, reduceIte, ↓reduceIte, tt, vgo, vout, vguard, callOf, vop, ev, vbin, vint, isShift, isNilConst, vlen, vT, hil]
    refine Wr.draw (by kernel_rfl) ?_
    simp only [gos, eq_self, Nat.reduceLT, Nat.reduceEqDiff, Nat.reduceAdd, reduceCtorEq, reduceIte, ↓reduceIte, tt, vgoD, voutD, vclsOk, vids, mayWrite, V.ids, vguard, callOf, vop, ev, vload, clsAt, hil, cT_at (Int.natCast_nonneg i) hil]
    refine CD.pu (c_rKept c (gT l i) c.coal c.want ht hour hh) ?_ rfl (by simp only [V.into, intoL, vI_into, cu_into, Bool.and_true])
    rw [show decide (gi c.want hour ≤ (sHeat c (tS (gT l i)) c.coal c.want hour).tdiv c.per) = keptI c c.coal c.want (gT l i) hour from rfl]
    cases hk : keptI c c.coal c.want (gT l i) hour with
    | true =>
      rw [hk] at hcs
      simp only [gos, eq_self, Nat.reduceLT, Nat.reduceEqDiff, reduceIte, ↓reduceIte, vgo, vout, vguard, callOf, vop, ev, cv, vbin, vint, isShift, isNilConst, i64_succ (show (((l.take i).countP fun t => keptI c c.coal c.want t hour : Nat) : Int) < 9223372036854775807 by omega)]
      exact Nx.mk (i + 1) (show l.length - (i + 1) < l.length - i by omega) (by omega) (Wk.env (by simp [subE, Env.get, hcs, i64_succ (show (i : Int) < 9223372036854775807 by omega)]))
    | false =>
      rw [hk] at hcs
      simp only [gos, eq_self, Nat.reduceLT, Nat.reduceEqDiff, reduceIte, ↓reduceIte, vgo, vout, vguard, callOf, vop, ev, cv, vbin, vint, isShift, isNilConst]
      exact Nx.mk (i + 1) (show l.length - (i + 1) < l.length - i by omega) (by omega) (Wk.env (by simp [subE, Env.get, hcs, i64_succ (show (i : Int) < 9223372036854775807 by omega)]))
  · have e : l.take i = l := List.take_of_length_le (by omega)
    simp only [gos, eq_self, Nat.reduceLT, Nat.reduceEqDiff, reduceIte, ↓reduceIte, tt, vgo, vout, vguard, callOf, vop, ev, vbin, vint, isShift, isNilConst, vlen, vT, hil, e]
    refine Cl.pu (c_rVerdict _ _) ?_
    simp only [gos, eq_self, Nat.reduceLT, reduceIte, ↓reduceIte, vgo, vout, vguard, callOf, vop, ev]
    subst hQ
    exact FnPost.plain trivial (fun h2 e => by first | rfl | (simp only [Try.f71, vres, vresL, vres1, e _, gos, if_true, if_false, ne_eq, eq_self, Nat.reduceLT, Nat.reduceEqDiff, Nat.reduceAdd, Nat.reduceMul, Nat.reduceLeDiff, Nat.reduceBEq, reduceCtorEq, reduceIte, Array.toList, ↓reduceIte, tt, vgo, vout, vgoD, voutD, vclsOk, vids, mayWrite, V.ids, V.mids, vguard, callOf, vop, ev, cv, vbin, vint, isShift, isNilConst, vnil, isNilSlice, vload, vlen, newRow, vfill, vslice, entOf, vappend, srcOf, vcopy, vlookup, vupdate, mapOk, keyOf, intsOf, clsAt]; try rfl)) (WkV.pure (by simp only [V.into])) ⟨rfl, rfl⟩
end Go.Vm

set_option linter.unusedVariables false
set_option linter.unusedSimpArgs false
set_option maxRecDepth 100000
namespace Go.Vm
open Go.Proofs
/-! ### the laws' helpers -/
theorem c_to (r : Rg) : Pu Try.prog (.fn 26 [] []) [.agg [vi r.lo, vi r.hi]] (.agg [vi r.lo, vi r.hi]) := by
  refine Ev.fn Try.func26 rfl rfl (Fn.body tabOk Try.func26 rfl (Nat.le_of_ble_eq_true rfl) (Ks.ok (fz := (fzn [2])) (cl := (cln [])) tabOk mixed ?_))
  generalize hQ : FnPost tt Try.f26 _ _ = Q
  simp only [Try.f26, List.nil_append, List.append_nil, argsEnv]
  simp only [gos, eq_self, Nat.reduceLT, Nat.reduceEqDiff, Nat.reduceAdd, Nat.reduceLeDiff, reduceCtorEq, reduceIte, ↓reduceIte, tt, vgo, vout, vguard, callOf, vop, ev, vload, newRow, vfill]
  subst hQ
  exact FnPost.plain trivial (fun h2 e => by first | rfl | (simp only [Try.f26, vres, vresL, vres1, e _, gos, eq_self, Nat.reduceLT, Nat.reduceEqDiff, Nat.reduceAdd, reduceCtorEq, reduceIte, ↓reduceIte, tt, vload]; try rfl)) (WkV.pure (by simp only [V.into, intoL, Bool.and_true])) ⟨rfl, rfl⟩
theorem c_list (l : List Int) (hl : (l.length : Int) ≤ 1000000) : Pu Try.prog (.fn 28 [] []) [vI l] (vI l) := by
  refine Ev.fn Try.func28 rfl rfl (Fn.body tabOk Try.func28 rfl (Nat.le_of_ble_eq_true rfl) (Ks.ok (fz := (fzn [])) (cl := (cln [])) tabOk mixed ?_))
  generalize hQ : FnPost tt Try.f28 _ _ = Q
  simp only [Try.f28, List.nil_append, List.append_nil, argsEnv]
  have hl2 : l.length ≤ 1000000 := by omega
  simp only [gos, eq_self, Nat.reduceLT, Nat.reduceEqDiff, Nat.reduceLeDiff, reduceCtorEq, reduceIte, ↓reduceIte, tt, vgo, vout, vguard, callOf, vop, ev, cv, vfill, vappend, srcOf, vI, cI_len, Nat.mul_one, cI_one, hl2]
  subst hQ
  have ht : (cI l).take l.length = cI l := List.take_of_length_le (by rw [cI_len]; omega)
  refine FnPost.plain trivial (v := .own 5 0 0 1 l.length) (fun h2 e => by rfl) (WkV.frz 5 (v' := vI l) (h' := []) (ver := 0) (cs := cI l) rfl rfl (cI_into _ _) rfl ?_ ?_ WkV.refl) ⟨rfl, rfl⟩
  · simp [V.frz, vI, ht]
  · simp [frzH]
theorem wk_cop (c : Cu) (i j : Nat) (R : List Rg) (D : List Rd) (hR : R.length = i) (hD : D.length = j) :
    WkV (domP []) (.agg [vi c.last, vi c.start, vi c.most, vi c.per, vi c.shovels, vI c.coal, vI c.want, vi c.heat.lo, vi c.heat.hi, .own 42 i 0 2 i, .own 68 j 0 3 j])
      [(2, ⟨0, .row [vi c.last, vi c.start, vi c.most, vi c.per, vi c.shovels, vI c.coal, vI c.want, vi c.heat.lo, vi c.heat.hi, .own 42 i 0 2 i, .own 68 j 0 3 j]⟩), (3, ⟨0, .row [vi c.last, vi c.start, vi c.most, vi c.per, vi c.shovels, vI c.coal, vI c.want, vi c.heat.lo, vi c.heat.hi, .own 42 i 0 2 i, .own 68 j 0 3 j]⟩), (42, ⟨i, .row (cR R)⟩), (68, ⟨j, .row (cD D)⟩)]
      (.agg [vi c.last, vi c.start, vi c.most, vi c.per, vi c.shovels, vI c.coal, vI c.want, vi c.heat.lo, vi c.heat.hi, vR R, vD D]) [] := by
  have e1 : (cR R).take (i * 2) = cR R := List.take_of_length_le (by rw [cR_len]; omega)
  have e2 : (cD D).take (j * 3) = cD D := List.take_of_length_le (by rw [cD_len]; omega)
  refine WkV.frz 42 (v' := .agg [vi c.last, vi c.start, vi c.most, vi c.per, vi c.shovels, vI c.coal, vI c.want, vi c.heat.lo, vi c.heat.hi, .ro i (cR R), .own 68 j 0 3 j])
    (h' := [(2, ⟨0, .row [vi c.last, vi c.start, vi c.most, vi c.per, vi c.shovels, vI c.coal, vI c.want, vi c.heat.lo, vi c.heat.hi, .ro i (cR R), .own 68 j 0 3 j]⟩), (3, ⟨0, .row [vi c.last, vi c.start, vi c.most, vi c.per, vi c.shovels, vI c.coal, vI c.want, vi c.heat.lo, vi c.heat.hi, .ro i (cR R), .own 68 j 0 3 j]⟩), (68, ⟨j, .row (cD D)⟩)]) (ver := i) (cs := cR R) rfl rfl (cR_into _ _) rfl ?_ ?_ ?_
  · simp [V.frz, frzL, e1, vI, cI_frz]
  · simp [frzH, Blk.frz, V.frz, frzL, e1, cI_frz, cD_frz, vI]
  refine WkV.frz 68 (v' := .agg [vi c.last, vi c.start, vi c.most, vi c.per, vi c.shovels, vI c.coal, vI c.want, vi c.heat.lo, vi c.heat.hi, .ro i (cR R), .ro j (cD D)])
    (h' := [(2, ⟨0, .row [vi c.last, vi c.start, vi c.most, vi c.per, vi c.shovels, vI c.coal, vI c.want, vi c.heat.lo, vi c.heat.hi, .ro i (cR R), .ro j (cD D)]⟩), (3, ⟨0, .row [vi c.last, vi c.start, vi c.most, vi c.per, vi c.shovels, vI c.coal, vI c.want, vi c.heat.lo, vi c.heat.hi, .ro i (cR R), .ro j (cD D)]⟩)]) (ver := j) (cs := cD D) rfl rfl (cD_into _ _) rfl ?_ ?_ ?_
  · simp [V.frz, frzL, e2, vI, cI_frz, cR_frz]
  · simp [frzH, Blk.frz, V.frz, frzL, e2, cI_frz, cR_frz, vI]
  rw [show V.ro i (cR R) = vR R by rw [vR, hR], show V.ro j (cD D) = vD D by rw [vD, hD]]
  exact WkV.pure (by simp only [V.into, intoL, vI_into, vR_into, vD_into, Bool.and_true])
theorem cD_snoc : ∀ (l : List Rd) (r : Rd), cD (l ++ [r]) = cD l ++ [vi r.hour, vi r.b.lo, vi r.b.hi]
  | [], r => rfl
  | x :: l, r => by simp [cD, cD_snoc l r]
set_option maxHeartbeats 4000000 in
theorem c_lCopper (c : Cu) (hc : c.wf) : Pu Try.prog (.fn 23 [] []) [.agg c.cs] (.agg c.cs) := by
  refine Ev.fn Try.func23 rfl rfl (Fn.body tabOk Try.func23 rfl (Nat.le_of_ble_eq_true rfl) (Ks.ok (fz := (fzn [2, 3])) (cl := (cln [(1, .d tg0 [cP, cP, cP, cP, cP, cP, cP, cP, cP, cP, cP, cP, cP, cP, cP, cP, cP, cP, cP, cP, cW, cW]), (5, .d (tgL [(42, 1)]) [cP, cL, cP, cP, cP, cP, cP, cP, cP, some ([1], [1]), cP, cW]), (9, .d (tgL [(68, 1)]) [cP, cL, cP, cP, cP, cP, cP, cP, cP, cP, cP, cP, cP, cP, cP, cP, cP, some ([1], [1]), cP, cW])])) tabOk mixed ?_))
  generalize hQ : FnPost tt Try.f23 _ _ = Q
  simp only [Try.f23, List.nil_append, List.append_nil, argsEnv]
  simp only [gos, eq_self, Nat.reduceLT, Nat.reduceEqDiff, reduceCtorEq, reduceIte, ↓reduceIte, tt, vgo, vout, vguard, callOf, vop, ev, newRow]
  refine Wr.draw (by kernel_rfl) ?_
  simp only [gos, eq_self, Nat.reduceLT, Nat.reduceEqDiff, Nat.reduceAdd, reduceCtorEq, reduceIte, ↓reduceIte, tt, vgoD, voutD, vclsOk, vids, mayWrite, V.ids, vguard, callOf, vop, ev, vload, clsAt]
  refine CD.pu (c_list c.coal hc.coal) ?_ rfl (by simp only [intoL, vI_into, Bool.and_true])
  simp only [gos, eq_self, Nat.reduceLT, Nat.reduceEqDiff, reduceCtorEq, reduceIte, ↓reduceIte, tt, vgoD, voutD, vclsOk, vids, mayWrite, V.ids, vguard, callOf, vop, ev, vload]
  refine CD.pu (c_list c.want hc.want) ?_ rfl (by simp only [intoL, vI_into, Bool.and_true])
  simp only [gos, eq_self, Nat.reduceLT, Nat.reduceEqDiff, Nat.reduceLeDiff, reduceCtorEq, reduceIte, ↓reduceIte, tt, vgoD, voutD, vclsOk, vids, mayWrite, V.ids, vguard, callOf, vop, ev, vload]
  refine CD.pu (c_to c.heat) ?_
  simp only [gos, eq_self, Nat.reduceLT, Nat.reduceEqDiff, Nat.reduceAdd, Nat.reduceLeDiff, reduceCtorEq, reduceIte, ↓reduceIte, tt, vgo, vout, vgoD, voutD, vclsOk, vids, mayWrite, V.ids, vguard, callOf, vop, ev, cv, newRow, vfill]
  let row : Nat → Nat → List V := fun i j => [vi c.last, vi c.start, vi c.most, vi c.per, vi c.shovels, vI c.coal, vI c.want, vi c.heat.lo, vi c.heat.hi, .own 42 i 0 2 i, .own 68 j 0 3 j]
  refine W.loop tabOk mixed (fun i : Nat => ([(1, .rop c.cs), (2, .ptr 2 0 0), (3, .ptr 3 0 0), (4, vi i)], [(2, ⟨0, .row [vi 0, vi 0, vi 0, vi 0, vi 0, .sl0, .sl0, vi 0, vi 0, .sl0, .sl0]⟩), (3, ⟨0, .row [vi c.last, vi c.start, vi c.most, vi c.per, vi c.shovels, vI c.coal, vI c.want, vi c.heat.lo, vi c.heat.hi, .own 42 i 0 2 i, .own 68 0 0 3 0]⟩), (42, ⟨i, .row (cR (c.loss.take i))⟩), (68, ⟨0, .row (cD [])⟩)])) (fun i => c.loss.length - i) (fun i => i ≤ c.loss.length) 0 (by omega)
    (Wk.trans (Wk.sl0H 3 9 42 2 rfl rfl rfl) (Wk.trans (Wk.sl0H 3 10 68 3 rfl rfl rfl) (Wk.env (by simp [subE, Env.get])))) ?_
  intro i hi
  by_cases hil : (i : Int) < c.loss.length
  · have hn : (cR (c.loss.take i)).length = i * 2 := by rw [cR_len, List.length_take]; omega
    have hi9 : i ≤ 999999 := by have := hc.loss; omega
    simp only [gos, eq_self, Nat.reduceLT, Nat.reduceEqDiff, reduceCtorEq, reduceIte, ↓reduceIte, tt, vgo, vout, vguard, callOf, vop, ev, vbin, vint, isShift, isNilConst, vload, vlen, vR, hil]
    refine Wr.draw (by kernel_rfl) ?_
    simp only [gos, eq_self, Nat.reduceLT, Nat.reduceEqDiff, Nat.reduceAdd, reduceCtorEq, reduceIte, ↓reduceIte, tt, vgoD, voutD, vclsOk, vids, mayWrite, V.ids, vguard, callOf, vop, ev, vload, clsAt, vR, hil, cR_at (Int.natCast_nonneg i) hil]
    refine CD.pu (c_to _) ?_
    simp only [gos, eq_self, Nat.reduceLT, Nat.reduceEqDiff, Nat.reduceAdd, Nat.reduceMul, Nat.reduceLeDiff, reduceCtorEq, reduceIte, ↓reduceIte, tt, vgo, vout, vgoD, voutD, vclsOk, vids, mayWrite, V.ids, vguard, callOf, vop, ev, cv, vbin, vint, isShift, isNilConst, vfill, vappend, srcOf, hn, hi9]
    refine Nx.mk (i + 1) (show c.loss.length - (i + 1) < c.loss.length - i by omega) (by omega) (Wk.heap (fun j => ?_) ?_)
    · rw [take_snocR hil, cR_snoc]
    · simp [subE, Env.get, i64_succ (show (i : Int) < 9223372036854775807 by omega)]
  have e : c.loss.take i = c.loss := List.take_of_length_le (by omega)
  have hie : i = c.loss.length := by omega
  simp only [gos, eq_self, Nat.reduceLT, Nat.reduceEqDiff, reduceCtorEq, reduceIte, ↓reduceIte, tt, vgo, vout, vguard, callOf, vop, ev, cv, vbin, vint, isShift, isNilConst, vload, vlen, vR, hil, e]
  refine W.loop tabOk mixed (fun j : Nat => ([(1, .rop c.cs), (2, .ptr 2 0 0), (3, .ptr 3 0 0), (5, vi j)], [(2, ⟨0, .row [vi 0, vi 0, vi 0, vi 0, vi 0, .sl0, .sl0, vi 0, vi 0, .sl0, .sl0]⟩), (3, ⟨0, .row [vi c.last, vi c.start, vi c.most, vi c.per, vi c.shovels, vI c.coal, vI c.want, vi c.heat.lo, vi c.heat.hi, .own 42 i 0 2 i, .own 68 j 0 3 j]⟩), (42, ⟨i, .row (cR c.loss)⟩), (68, ⟨j, .row (cD (c.readings.take j))⟩)])) (fun j => c.readings.length - j) (fun j => j ≤ c.readings.length) 0 (by omega)
    (Wk.env (by simp [subE, Env.get])) ?_
  intro j hj
  by_cases hjl : (j : Int) < c.readings.length
  · have hn : (cD (c.readings.take j)).length = j * 3 := by rw [cD_len, List.length_take]; omega
    have hj9 : j ≤ 999999 := by have := hc.readings; omega
    have ed : c.readings.take (j + 1) = c.readings.take j ++ [gD c.readings j] := by rw [List.take_add_one, gD_get hjl]; rfl
    simp only [gos, eq_self, Nat.reduceLT, Nat.reduceEqDiff, reduceCtorEq, reduceIte, ↓reduceIte, tt, vgo, vout, vguard, callOf, vop, ev, vbin, vint, isShift, isNilConst, vload, vlen, vD, hjl]
    refine Wr.draw (by kernel_rfl) ?_
    simp only [gos, eq_self, Nat.reduceLT, Nat.reduceEqDiff, Nat.reduceAdd, reduceCtorEq, reduceIte, ↓reduceIte, tt, vgoD, voutD, vclsOk, vids, mayWrite, V.ids, vguard, callOf, vop, ev, vload, clsAt, vD, hjl, cD_at (Int.natCast_nonneg j) hjl]
    refine CD.pu (c_to _) ?_
    simp only [gos, eq_self, Nat.reduceLT, Nat.reduceEqDiff, Nat.reduceAdd, Nat.reduceMul, Nat.reduceLeDiff, reduceCtorEq, reduceIte, ↓reduceIte, tt, vgo, vout, vgoD, voutD, vclsOk, vids, mayWrite, V.ids, vguard, callOf, vop, ev, cv, vbin, vint, isShift, isNilConst, vfill, vappend, srcOf, hn, hj9]
    refine Nx.mk (j + 1) (show c.readings.length - (j + 1) < c.readings.length - j by omega) (by omega) (Wk.heap (fun k => ?_) ?_)
    · rw [ed, cD_snoc]
    · simp [subE, Env.get, i64_succ (show (j : Int) < 9223372036854775807 by omega)]
  have e2 : c.readings.take j = c.readings := List.take_of_length_le (by omega)
  have hje : j = c.readings.length := by omega
  simp only [gos, eq_self, Nat.reduceLT, Nat.reduceEqDiff, Nat.reduceAdd, reduceCtorEq, reduceIte, ↓reduceIte, tt, vgo, vout, vguard, callOf, vop, ev, vbin, vint, isShift, isNilConst, vload, vlen, vD, hjl, e2]
  subst hQ
  exact FnPost.plain trivial (v := .agg [vi c.last, vi c.start, vi c.most, vi c.per, vi c.shovels, vI c.coal, vI c.want, vi c.heat.lo, vi c.heat.hi, .own 42 i 0 2 i, .own 68 j 0 3 j]) (fun h2 e => by simp only [Try.f23, vres, vresL, vres1, gos, eq_self, Nat.reduceLT, Nat.reduceEqDiff, Nat.reduceAdd, reduceCtorEq, reduceIte, ↓reduceIte, tt, vload, e _]) (wk_cop c i j c.loss c.readings hie.symm hje.symm) ⟨rfl, rfl⟩
end Go.Vm

set_option linter.unusedVariables false
set_option linter.unusedSimpArgs false
set_option maxRecDepth 100000
namespace Go.Vm
open Go.Proofs
theorem c_fault (c : Cu) (hc : c.wf) : Pu Try.prog (.fn 30 [] []) [.agg c.cs] (vi (sCheck c)) := by
  refine Ev.fn Try.func30 rfl rfl (Fn.body tabOk Try.func30 rfl (Nat.le_of_ble_eq_true rfl) (Ks.ok (fz := (fzn [])) (cl := (cln [])) tabOk mixed ?_))
  generalize hQ : FnPost tt Try.f30 _ _ = Q
  simp only [Try.f30, List.nil_append, List.append_nil, argsEnv]
  simp only [gos, eq_self, Nat.reduceLT, Nat.reduceEqDiff, reduceCtorEq, reduceIte, ↓reduceIte, tt, vgo, vout, vguard, callOf, vop, ev, cv, vload, newRow]
  refine Cl.pu (c_rFault c hc) ?_ rfl (by simp only [V.into, intoL, cu_into, Bool.and_true])
  simp only [gos, eq_self, Nat.reduceLT, reduceIte, ↓reduceIte, vgo, vout, vguard, callOf, vop, ev]
  subst hQ
  exact FnPost.plain trivial (fun h2 e => by first | rfl | (simp only [Try.f30, vres, vresL, vres1, e _, gos, if_true, if_false, ne_eq, eq_self, Nat.reduceLT, Nat.reduceEqDiff, Nat.reduceAdd, Nat.reduceMul, Nat.reduceLeDiff, Nat.reduceBEq, reduceCtorEq, reduceIte, Array.toList, ↓reduceIte, tt, vgo, vout, vgoD, voutD, vclsOk, vids, mayWrite, V.ids, V.mids, vguard, callOf, vop, ev, cv, vbin, vint, isShift, isNilConst, vnil, isNilSlice, vload, vlen, newRow, vfill, vslice, entOf, vappend, srcOf, vcopy, vlookup, vupdate, mapOk, keyOf, intsOf, clsAt]; try rfl)) (WkV.pure (by simp only [V.into])) ⟨rfl, rfl⟩
/-- What sure returns. -/
def rSureE (c : Cu) : Int := if sCheck c ≠ 0 then sCheck c else if rTruths c = [] then 11 else 0
def rSureL (c : Cu) : List Tr2 := if sCheck c ≠ 0 then [] else rTruths c
theorem sl0_vT : ImpV .sl0 (vT []) := ImpV.sl0
theorem WkV.nilT {a : V} : WkV (domP []) (.tup [.sl0, a]) [] (.tup [vT [], a]) [] := WkV.less (ImpV.tup ⟨sl0_vT, ImpV.refl _, trivial⟩)
theorem c_lsure (c : Cu) (hc : c.wf) : Pu Try.prog (.fn 24 [] []) [.agg c.cs] (.tup [vT (rSureL c), vi (rSureE c)]) := by
  refine Ev.fn Try.func24 rfl rfl (Fn.body tabOk Try.func24 rfl (Nat.le_of_ble_eq_true rfl) (Ks.ok (fz := (fzn [])) (cl := (cln [])) tabOk mixed ?_))
  generalize hQ : FnPost tt Try.f24 _ _ = Q
  simp only [Try.f24, List.nil_append, List.append_nil, argsEnv]
  simp only [gos, eq_self, Nat.reduceLT, Nat.reduceEqDiff, reduceCtorEq, reduceIte, ↓reduceIte, tt, vgo, vout, vguard, callOf, vop, ev, cv, vload, newRow]
  refine Cl.pu (c_fault c hc) ?_ rfl (by simp only [V.into, intoL, cu_into, Bool.and_true])
  by_cases h0 : sCheck c = 0
  case neg =>
    have hb : (sCheck c != 0) = true := by simp [h0]
    simp only [gos, eq_self, Nat.reduceLT, Nat.reduceEqDiff, reduceIte, ↓reduceIte, vgo, vout, vguard, callOf, vop, ev, cv, vbin, vint, isShift, isNilConst, hb]
    subst hQ
    have e1 : rSureE c = sCheck c := by simp [rSureE, h0]
    have e2 : rSureL c = [] := by simp [rSureL, h0]
    rw [e1, e2]
    exact FnPost.plain trivial (v := .tup [.sl0, vi (sCheck c)]) (fun h2 e => by rfl) WkV.nilT ⟨rfl, rfl⟩
  have hb : (sCheck c != 0) = false := by simp [h0]
  have k0 := sCheck_ok h0
  simp only [gos, eq_self, Nat.reduceLT, Nat.reduceEqDiff, reduceCtorEq, reduceIte, ↓reduceIte, tt, vgo, vout, vguard, callOf, vop, ev, cv, vbin, vint, isShift, isNilConst, vload, hb]
  refine Cl.pu (c_rTruths c k0) ?_ rfl (by simp only [V.into, intoL, cu_into, Bool.and_true])
  have e2 : rSureL c = rTruths c := by simp [rSureL, h0]
  by_cases hn : rTruths c = []
  · have hd : decide (((rTruths c).length : Int) = 0) = true := by simp [hn]
    simp only [gos, eq_self, Nat.reduceLT, reduceIte, ↓reduceIte, tt, vgo, vout, vguard, callOf, vop, ev, cv, vbin, vint, isShift, isNilConst, vlen, vT, hd]
    subst hQ
    have e1 : rSureE c = 11 := by simp [rSureE, h0, hn]
    rw [e1, e2, hn]
    exact FnPost.plain trivial (v := .tup [.sl0, vi 11]) (fun h2 e => by rfl) WkV.nilT ⟨rfl, rfl⟩
  · have hd : decide (((rTruths c).length : Int) = 0) = false := by simp [hn]
    simp only [gos, eq_self, Nat.reduceLT, Nat.reduceEqDiff, reduceIte, ↓reduceIte, tt, vgo, vout, vguard, callOf, vop, ev, cv, vbin, vint, isShift, isNilConst, vlen, vT, hd]
    subst hQ
    have e1 : rSureE c = 0 := by simp [rSureE, h0, hn]
    rw [e1, e2]
    exact FnPost.plain trivial (fun h2 e => by rfl) WkV.refl ⟨rfl, rfl⟩
/-- Thin coppers. -/
def sThin (c : Cu) : Bool := !decide (7 < (c.coal.length : Int)) && (!decide (7 < (c.want.length : Int)) && (!decide (7 < (c.loss.length : Int)) && (!decide (7 < (c.readings.length : Int)) && (decide (sCheck c ≠ 0) || decide (rMany c ≤ 60)))))
set_option maxHeartbeats 1000000 in
theorem c_Thin (c : Cu) (hl : I64 c.last) : Pu Try.prog (.fn 20 [] []) [.agg c.cs] (.bool (sThin c)) := by
  refine Ev.fn Try.func20 rfl rfl (Fn.body tabOk Try.func20 rfl (Nat.le_of_ble_eq_true rfl) (Ks.ok (fz := (fzn [])) (cl := (cln [])) tabOk mixed ?_))
  generalize hQ : FnPost tt Try.f20 _ _ = Q
  simp only [Try.f20, List.nil_append, List.append_nil, argsEnv]
  by_cases h1 : 7 < (c.coal.length : Int)
  · simp only [gos, eq_self, Nat.reduceLT, Nat.reduceEqDiff, reduceCtorEq, reduceIte, ↓reduceIte, tt, vgo, vout, vguard, callOf, vop, ev, cv, vbin, vint, isShift, isNilConst, vload, vlen, newRow, vI, h1]
    subst hQ
    exact FnPost.plain trivial (fun h2 e => by first | rfl | (simp only [Try.f20, vres, vresL, vres1, e _, gos, if_true, if_false, ne_eq, eq_self, Nat.reduceLT, Nat.reduceEqDiff, Nat.reduceAdd, Nat.reduceMul, Nat.reduceLeDiff, Nat.reduceBEq, reduceCtorEq, reduceIte, Array.toList, ↓reduceIte, tt, vgo, vout, vgoD, voutD, vclsOk, vids, mayWrite, V.ids, V.mids, vguard, callOf, vop, ev, cv, vbin, vint, isShift, isNilConst, vnil, isNilSlice, vload, vlen, newRow, vfill, vslice, entOf, vappend, srcOf, vcopy, vlookup, vupdate, mapOk, keyOf, intsOf, clsAt]; try rfl)) (WkV.pure (by simp only [V.into])) ⟨by simp [sThin, h1], rfl⟩
  by_cases h2 : 7 < (c.want.length : Int)
  · simp only [gos, eq_self, Nat.reduceLT, Nat.reduceEqDiff, reduceCtorEq, reduceIte, ↓reduceIte, tt, vgo, vout, vguard, callOf, vop, ev, cv, vbin, vint, isShift, isNilConst, vload, vlen, newRow, vI, h1, h2]
    subst hQ
    exact FnPost.plain trivial (fun h2 e => by first | rfl | (simp only [Try.f20, vres, vresL, vres1, e _, gos, if_true, if_false, ne_eq, eq_self, Nat.reduceLT, Nat.reduceEqDiff, Nat.reduceAdd, Nat.reduceMul, Nat.reduceLeDiff, Nat.reduceBEq, reduceCtorEq, reduceIte, Array.toList, ↓reduceIte, tt, vgo, vout, vgoD, voutD, vclsOk, vids, mayWrite, V.ids, V.mids, vguard, callOf, vop, ev, cv, vbin, vint, isShift, isNilConst, vnil, isNilSlice, vload, vlen, newRow, vfill, vslice, entOf, vappend, srcOf, vcopy, vlookup, vupdate, mapOk, keyOf, intsOf, clsAt]; try rfl)) (WkV.pure (by simp only [V.into])) ⟨by simp [sThin, h1, h2], rfl⟩
  by_cases h3 : 7 < (c.loss.length : Int)
  · simp only [gos, eq_self, Nat.reduceLT, Nat.reduceEqDiff, reduceCtorEq, reduceIte, ↓reduceIte, tt, vgo, vout, vguard, callOf, vop, ev, cv, vbin, vint, isShift, isNilConst, vload, vlen, newRow, vI, vR, h1, h2, h3]
    subst hQ
    exact FnPost.plain trivial (fun h2 e => by first | rfl | (simp only [Try.f20, vres, vresL, vres1, e _, gos, if_true, if_false, ne_eq, eq_self, Nat.reduceLT, Nat.reduceEqDiff, Nat.reduceAdd, Nat.reduceMul, Nat.reduceLeDiff, Nat.reduceBEq, reduceCtorEq, reduceIte, Array.toList, ↓reduceIte, tt, vgo, vout, vgoD, voutD, vclsOk, vids, mayWrite, V.ids, V.mids, vguard, callOf, vop, ev, cv, vbin, vint, isShift, isNilConst, vnil, isNilSlice, vload, vlen, newRow, vfill, vslice, entOf, vappend, srcOf, vcopy, vlookup, vupdate, mapOk, keyOf, intsOf, clsAt]; try rfl)) (WkV.pure (by simp only [V.into])) ⟨by simp [sThin, h1, h2, h3], rfl⟩
  by_cases h4 : 7 < (c.readings.length : Int)
  · simp only [gos, eq_self, Nat.reduceLT, Nat.reduceEqDiff, reduceCtorEq, reduceIte, ↓reduceIte, tt, vgo, vout, vguard, callOf, vop, ev, cv, vbin, vint, isShift, isNilConst, vload, vlen, newRow, vI, vR, vD, h1, h2, h3, h4]
    subst hQ
    exact FnPost.plain trivial (fun h2 e => by first | rfl | (simp only [Try.f20, vres, vresL, vres1, e _, gos, if_true, if_false, ne_eq, eq_self, Nat.reduceLT, Nat.reduceEqDiff, Nat.reduceAdd, Nat.reduceMul, Nat.reduceLeDiff, Nat.reduceBEq, reduceCtorEq, reduceIte, Array.toList, ↓reduceIte, tt, vgo, vout, vgoD, voutD, vclsOk, vids, mayWrite, V.ids, V.mids, vguard, callOf, vop, ev, cv, vbin, vint, isShift, isNilConst, vnil, isNilSlice, vload, vlen, newRow, vfill, vslice, entOf, vappend, srcOf, vcopy, vlookup, vupdate, mapOk, keyOf, intsOf, clsAt]; try rfl)) (WkV.pure (by simp only [V.into])) ⟨by simp [sThin, h1, h2, h3, h4], rfl⟩
  have hc : c.wf := ⟨hl, by omega, by omega, by omega, by omega⟩
  simp only [gos, eq_self, Nat.reduceLT, Nat.reduceEqDiff, reduceCtorEq, reduceIte, ↓reduceIte, tt, vgo, vout, vguard, callOf, vop, ev, cv, vbin, vint, isShift, isNilConst, vload, vlen, newRow, vI, vR, vD, h1, h2, h3, h4]
  refine Cl.pu (c_rFault c hc) ?_ rfl (by simp only [V.into, intoL, cu_into, Bool.and_true])
  by_cases h0 : sCheck c = 0
  · have k0 := sCheck_ok h0
    have hb : (sCheck c != 0) = false := by simp [h0]
    simp only [gos, eq_self, Nat.reduceLT, Nat.reduceEqDiff, reduceCtorEq, reduceIte, ↓reduceIte, tt, vgo, vout, vguard, callOf, vop, ev, cv, vbin, vint, isShift, isNilConst, vload, hb]
    refine Cl.pu (c_rMany c k0.heat hc.loss k0.loss.2) ?_ rfl (by simp only [V.into, intoL, cu_into, Bool.and_true])
    simp only [gos, eq_self, Nat.reduceLT, Nat.reduceEqDiff, reduceIte, ↓reduceIte, vgo, vout, vguard, callOf, vop, ev, cv, vbin, vint, isShift, isNilConst]
    subst hQ
    exact FnPost.plain trivial (fun h2 e => by first | rfl | (simp only [Try.f20, vres, vresL, vres1, e _, gos, if_true, if_false, ne_eq, eq_self, Nat.reduceLT, Nat.reduceEqDiff, Nat.reduceAdd, Nat.reduceMul, Nat.reduceLeDiff, Nat.reduceBEq, reduceCtorEq, reduceIte, Array.toList, ↓reduceIte, tt, vgo, vout, vgoD, voutD, vclsOk, vids, mayWrite, V.ids, V.mids, vguard, callOf, vop, ev, cv, vbin, vint, isShift, isNilConst, vnil, isNilSlice, vload, vlen, newRow, vfill, vslice, entOf, vappend, srcOf, vcopy, vlookup, vupdate, mapOk, keyOf, intsOf, clsAt]; try rfl)) (WkV.pure (by simp only [V.into])) ⟨by simp [sThin, h1, h2, h3, h4, h0], rfl⟩
  · have hb : (sCheck c != 0) = true := by simp [h0]
    simp only [gos, eq_self, Nat.reduceLT, Nat.reduceEqDiff, reduceIte, ↓reduceIte, vgo, vout, vguard, callOf, vop, ev, cv, vbin, vint, isShift, isNilConst, hb]
    subst hQ
    exact FnPost.plain trivial (fun h2 e => by first | rfl | (simp only [Try.f20, vres, vresL, vres1, e _, gos, if_true, if_false, ne_eq, eq_self, Nat.reduceLT, Nat.reduceEqDiff, Nat.reduceAdd, Nat.reduceMul, Nat.reduceLeDiff, Nat.reduceBEq, reduceCtorEq, reduceIte, Array.toList, ↓reduceIte, tt, vgo, vout, vgoD, voutD, vclsOk, vids, mayWrite, V.ids, V.mids, vguard, callOf, vop, ev, cv, vbin, vint, isShift, isNilConst, vnil, isNilSlice, vload, vlen, newRow, vfill, vslice, entOf, vappend, srcOf, vcopy, vlookup, vupdate, mapOk, keyOf, intsOf, clsAt]; try rfl)) (WkV.pure (by simp only [V.into])) ⟨by simp [sThin, h1, h2, h3, h4, h0], rfl⟩
theorem thin_wf {c : Cu} (hl : I64 c.last) (h : sThin c = true) : c.wf := by
  simp only [sThin, Bool.and_eq_true, Bool.not_eq_true', decide_eq_false_iff_not] at h
  exact ⟨hl, by omega, by omega, by omega, by omega⟩
theorem c_same (a b : List Int) (ha : (a.length : Int) ≤ 1000000) : Pu Try.prog (.fn 39 [] []) [vI a, vI b] (.bool (decide (a = b))) := by
  refine Ev.fn Try.func39 rfl rfl (Fn.body tabOk Try.func39 rfl (Nat.le_of_ble_eq_true rfl) (Ks.ok (fz := (fzn [])) (cl := (cln [(6, .d tg0 [cP, cP, cP, cP, cP, cP, cP, cP, cP])])) tabOk mixed ?_))
  generalize hQ : FnPost tt Try.f39 _ _ = Q
  simp only [Try.f39, List.nil_append, List.append_nil, argsEnv, Nat.reduceAdd]
  by_cases h : (a.length : Int) = b.length
  case neg =>
    have hb : ((a.length : Int) != b.length) = true := by simp only [bne_iff_ne, ne_eq, h, not_false_eq_true]
    simp only [gos, eq_self, Nat.reduceLT, Nat.reduceEqDiff, reduceCtorEq, reduceIte, ↓reduceIte, tt, vgo, vout, vguard, callOf, vop, ev, cv, vbin, vint, isShift, isNilConst, vlen, vI, hb]
    subst hQ
    exact FnPost.plain trivial (fun h2 e => by first | rfl | (simp only [Try.f39, vres, vresL, vres1, e _, gos, if_true, if_false, ne_eq, eq_self, Nat.reduceLT, Nat.reduceEqDiff, Nat.reduceAdd, Nat.reduceMul, Nat.reduceLeDiff, Nat.reduceBEq, reduceCtorEq, reduceIte, Array.toList, ↓reduceIte, tt, vgo, vout, vgoD, voutD, vclsOk, vids, mayWrite, V.ids, V.mids, vguard, callOf, vop, ev, cv, vbin, vint, isShift, isNilConst, vnil, isNilSlice, vload, vlen, newRow, vfill, vslice, entOf, vappend, srcOf, vcopy, vlookup, vupdate, mapOk, keyOf, intsOf, clsAt]; try rfl)) (WkV.pure (by simp only [V.into])) ⟨by rw [decide_eq_false]; intro e; rw [e] at h; exact h rfl, rfl⟩
  have hb : ((a.length : Int) != b.length) = false := by rw [bne_eq_false_iff_eq]; exact h
  simp only [gos, eq_self, Nat.reduceLT, Nat.reduceEqDiff, reduceCtorEq, reduceIte, ↓reduceIte, tt, vgo, vout, vguard, callOf, vop, ev, cv, vbin, vint, isShift, isNilConst, vlen, vI, hb]
  refine W.loop tabOk mixed (fun i : Nat => ([(0, vI a), (1, vI b), (5, vi i)], [])) (fun i => a.length - i) (fun i => i ≤ a.length ∧ a.take i = b.take i) 0 ⟨by omega, by simp⟩ (Wk.env (by simp [subE, Env.get, vI])) ?_
  rintro i ⟨hi, ht⟩
  by_cases hil : (i : Int) < a.length
  · have hil2 : (i : Int) < b.length := by omega
    simp only [gos, eq_self, Nat.reduceLT, Nat.reduceEqDiff, reduceCtorEq, reduceIte, ↓reduceIte, tt, vgo, vout, vguard, callOf, vop, ev, vbin, vint, isShift, isNilConst, vlen, vI, hil]
    refine Wr.draw (by kernel_rfl) ?_
    simp only [gos, eq_self, Nat.reduceLT, Nat.reduceEqDiff, Nat.reduceAdd, reduceCtorEq, reduceIte, ↓reduceIte, tt, vgoD, voutD, vclsOk, vids, mayWrite, V.ids, vguard, callOf, vop, ev, vbin, vint, isShift, isNilConst, vload, clsAt, hil, hil2, cI_at (Int.natCast_nonneg i) hil, cI_at (Int.natCast_nonneg i) hil2]
    by_cases hg : gi a i = gi b i
    · have hb : (gi a i != gi b i) = false := by rw [bne_eq_false_iff_eq]; exact hg
      simp only [gos, eq_self, Nat.reduceLT, Nat.reduceEqDiff, reduceCtorEq, reduceIte, ↓reduceIte, vgo, vout, vguard, callOf, vop, ev, cv, vbin, vint, isShift, isNilConst, hb]
      exact Nx.mk (i + 1) (show a.length - (i + 1) < a.length - i by omega) ⟨by omega, by rw [gi_take hil, gi_take hil2, ht, hg]⟩ (Wk.env (by simp [subE, Env.get, i64_succ (show (i : Int) < 9223372036854775807 by omega)]))
    · have hb : (gi a i != gi b i) = true := by simp only [bne_iff_ne, ne_eq, hg, not_false_eq_true]
      simp only [gos, eq_self, Nat.reduceLT, Nat.reduceEqDiff, reduceIte, ↓reduceIte, vgo, vout, vguard, callOf, vop, ev, cv, hb]
      subst hQ
      exact FnPost.plain trivial (fun h2 e => by first | rfl | (simp only [Try.f39, vres, vresL, vres1, e _, gos, if_true, if_false, ne_eq, eq_self, Nat.reduceLT, Nat.reduceEqDiff, Nat.reduceAdd, Nat.reduceMul, Nat.reduceLeDiff, Nat.reduceBEq, reduceCtorEq, reduceIte, Array.toList, ↓reduceIte, tt, vgo, vout, vgoD, voutD, vclsOk, vids, mayWrite, V.ids, V.mids, vguard, callOf, vop, ev, cv, vbin, vint, isShift, isNilConst, vnil, isNilSlice, vload, vlen, newRow, vfill, vslice, entOf, vappend, srcOf, vcopy, vlookup, vupdate, mapOk, keyOf, intsOf, clsAt]; try rfl)) (WkV.pure (by simp only [V.into])) ⟨by rw [decide_eq_false]; intro e; rw [e] at hg; exact hg rfl, rfl⟩
  · simp only [gos, eq_self, Nat.reduceLT, Nat.reduceEqDiff, reduceCtorEq, reduceIte, ↓reduceIte, tt, vgo, vout, vguard, callOf, vop, ev, cv, vbin, vint, isShift, isNilConst, vlen, vI, hil]
    have e1 : a.take i = a := List.take_of_length_le (by omega)
    have e2 : b.take i = b := List.take_of_length_le (by omega)
    subst hQ
    exact FnPost.plain trivial (fun h2 e => by first | rfl | (simp only [Try.f39, vres, vresL, vres1, e _, gos, if_true, if_false, ne_eq, eq_self, Nat.reduceLT, Nat.reduceEqDiff, Nat.reduceAdd, Nat.reduceMul, Nat.reduceLeDiff, Nat.reduceBEq, reduceCtorEq, reduceIte, Array.toList, ↓reduceIte, tt, vgo, vout, vgoD, voutD, vclsOk, vids, mayWrite, V.ids, V.mids, vguard, callOf, vop, ev, cv, vbin, vint, isShift, isNilConst, vnil, isNilSlice, vload, vlen, newRow, vfill, vslice, entOf, vappend, srcOf, vcopy, vlookup, vupdate, mapOk, keyOf, intsOf, clsAt]; try rfl)) (WkV.pure (by simp only [V.into])) ⟨by rw [decide_eq_true]; rw [← e1, ← e2, ht], rfl⟩
theorem c_between (a b : Int) : Pu Try.prog (.fn 77 [] []) [vi a, vi b] (.agg [vi a, vi b]) := by
  refine Ev.fn Try.func77 rfl rfl (Fn.body tabOk Try.func77 rfl (Nat.le_of_ble_eq_true rfl) (Ks.ok (fz := (fzn [4])) (cl := (cln [])) tabOk mixed ?_))
  generalize hQ : FnPost tt Try.f77 _ _ = Q
  simp only [Try.f77, List.nil_append, List.append_nil, argsEnv, Nat.reduceAdd]
  simp only [gos, eq_self, Nat.reduceLT, Nat.reduceEqDiff, Nat.reduceAdd, Nat.reduceLeDiff, reduceCtorEq, reduceIte, ↓reduceIte, tt, vgo, vout, vguard, callOf, vop, ev, newRow, vfill]
  subst hQ
  exact FnPost.plain trivial (fun h2 e => by first | rfl | (simp only [Try.f77, vres, vresL, vres1, e _, gos, eq_self, Nat.reduceLT, Nat.reduceEqDiff, Nat.reduceAdd, reduceCtorEq, reduceIte, ↓reduceIte, tt, vload]; try rfl)) (WkV.pure (by simp only [V.into, intoL, Bool.and_true])) ⟨rfl, rfl⟩
theorem c_lTruth (t : Tr2) (hl : (t.loss.length : Int) ≤ 1000000) : Pu Try.prog (.fn 49 [] []) [.agg t.cs] (.agg t.cs) := by
  refine Ev.fn Try.func49 rfl rfl (Fn.body tabOk Try.func49 rfl (Nat.le_of_ble_eq_true rfl) (Ks.ok (fz := (fzn [2])) (cl := (cln [(1, .d tg0 [cP, cP, cP, cP, cP, cP, cW])])) tabOk mixed ?_))
  generalize hQ : FnPost tt Try.f49 _ _ = Q
  simp only [Try.f49, List.nil_append, List.append_nil, argsEnv]
  simp only [gos, eq_self, Nat.reduceLT, Nat.reduceEqDiff, reduceCtorEq, reduceIte, ↓reduceIte, tt, vgo, vout, vguard, callOf, vop, ev, newRow, Tr2.cs]
  refine Wr.draw (by kernel_rfl) ?_
  simp only [gos, eq_self, Nat.reduceLT, Nat.reduceEqDiff, Nat.reduceAdd, reduceCtorEq, reduceIte, ↓reduceIte, tt, vgoD, voutD, vclsOk, vids, mayWrite, V.ids, vguard, callOf, vop, ev, vload, clsAt]
  refine CD.pu (c_list t.loss hl) ?_ rfl (by simp only [intoL, vI_into, Bool.and_true])
  simp only [gos, eq_self, Nat.reduceLT, Nat.reduceEqDiff, Nat.reduceAdd, Nat.reduceLeDiff, reduceCtorEq, reduceIte, ↓reduceIte, tt, vgoD, voutD, vclsOk, vids, mayWrite, V.ids, vguard, callOf, vop, ev, vfill]
  subst hQ
  exact FnPost.plain trivial (v := .agg [vi t.heat, vI t.loss]) (fun h2 e => by simp only [Try.f49, vres, vresL, vres1, gos, eq_self, Nat.reduceLT, Nat.reduceEqDiff, Nat.reduceAdd, reduceCtorEq, reduceIte, ↓reduceIte, tt, vload, e _]) (WkV.pure (by simp only [V.into, intoL, vI_into, Bool.and_true])) ⟨rfl, rfl⟩
/-- The coppers of the document's examples. -/
def exR : List Rd := [⟨0, ⟨6, 6⟩⟩, ⟨2, ⟨3, 3⟩⟩, ⟨0, ⟨7, 7⟩⟩]
def exC (n : Nat) : Cu := ⟨2, 7, 60, 4, 3, [2, 1, 0], [3, 2, 2], ⟨10, 12⟩, [⟨2, 3⟩, ⟨4, 4⟩, ⟨0, 2⟩], exR.take n⟩
def exCs (n : Nat) (w : V) : List V := [vi 2, vi 7, vi 60, vi 4, vi 3, vI [2, 1, 0], w, vi 10, vi 12, vR [⟨2, 3⟩, ⟨4, 4⟩, ⟨0, 2⟩], vD (exR.take n)]
set_option maxHeartbeats 1000000 in
theorem c_three0 (n : Nat) (hn : n ≤ 3) : Ev Try.prog (.fn 75 [] []) [vi n] [] fun v h' => v = .agg (exCs n (.own 12 0 0 1 3)) ∧ h' = [(12, ⟨0, .row [vi 3, vi 2, vi 2]⟩)] := by
  refine Ev.fn Try.func75 rfl rfl (Fn.body tabOk Try.func75 rfl (Nat.le_of_ble_eq_true rfl) (Ks.ok (fz := (fzn [2, 12])) (cl := (cln [(2, .d (tgL [(12, 1)]) [cP, some ([1], [1]), cP, cP, cP, cP, cP, cP, cP, cP, cP, cW])])) tabOk mixed ?_))
  generalize hQ : FnPost tt Try.f75 _ _ = Q
  simp only [Try.f75, List.nil_append, List.append_nil, argsEnv]
  have h1 : (0 : Int) ≤ n := by omega
  have h2 : (n : Int) ≤ 3 := by omega
  simp only [gos, eq_self, Nat.reduceLT, Nat.reduceEqDiff, reduceCtorEq, reduceIte, ↓reduceIte, tt, vgo, vout, vguard, callOf, vop, ev, cv, newRow]
  refine Cl.pu (c_between _ _) ?_
  simp only [gos, eq_self, Nat.reduceLT, Nat.reduceAdd, reduceIte, ↓reduceIte, tt, vgo, vout, vguard, callOf, vop, ev, cv, vfill]
  refine Cl.pu (c_between _ _) ?_
  simp only [gos, eq_self, Nat.reduceLT, Nat.reduceAdd, Nat.reduceLeDiff, reduceIte, ↓reduceIte, tt, vgo, vout, vguard, callOf, vop, ev, cv, vfill]
  refine Cl.pu (c_between _ _) ?_
  simp only [gos, eq_self, Nat.reduceLT, Nat.reduceEqDiff, Nat.reduceAdd, Nat.reduceMul, Nat.reduceLeDiff, reduceCtorEq, reduceIte, ↓reduceIte, tt, vgo, vout, vguard, callOf, vop, ev, vfill]
  refine Wr.draw (by kernel_rfl) ?_
  simp only [gos, eq_self, Nat.reduceLT, Nat.reduceEqDiff, Nat.reduceAdd, Nat.reduceMul, Nat.reduceLeDiff, reduceCtorEq, reduceIte, ↓reduceIte, tt, vgoD, voutD, vclsOk, vids, mayWrite, vguard, callOf, vop, ev, cv, vfill, clsAt]
  refine CD.pu (c_between _ _) ?_
  simp only [gos, eq_self, Nat.reduceLT, reduceIte, ↓reduceIte, vgoD, voutD, vguard, callOf, ev, cv]
  refine CD.pu (c_between _ _) ?_
  simp only [gos, eq_self, Nat.reduceLT, reduceIte, ↓reduceIte, vgoD, voutD, vguard, callOf, ev, cv]
  refine CD.pu (c_between _ _) ?_
  simp only [gos, eq_self, Nat.reduceLT, reduceIte, ↓reduceIte, vgoD, voutD, vguard, callOf, ev, cv]
  refine CD.pu (c_between _ _) ?_
  simp only [gos, eq_self, Nat.reduceLT, Nat.reduceEqDiff, Nat.reduceAdd, Nat.reduceMul, Nat.reduceLeDiff, reduceCtorEq, reduceIte, ↓reduceIte, tt, vgoD, voutD, vclsOk, vids, mayWrite, V.ids, vguard, callOf, vop, ev, vfill, vslice]
  have h3 : ((n : Int)).toNat = n := Int.toNat_natCast n
  have h4 : V.ro n (List.take (n * 3) [V.int IntKind.i64 0, vi 6, vi 6, V.int IntKind.i64 2, vi 3, vi 3, V.int IntKind.i64 0, vi 7, vi 7]) = vD (exR.take n) := by
    match n, hn with
    | 0, _ => rfl
    | 1, _ => rfl
    | 2, _ => rfl
    | 3, _ => rfl
  have h2' : (n : Int) ≤ ((3 : Nat) : Int) := h2
  simp only [gos, eq_self, Nat.reduceLT, Nat.reduceEqDiff, Nat.reduceAdd, Nat.reduceLeDiff, reduceCtorEq, reduceIte, ↓reduceIte, tt, vgoD, voutD, vclsOk, vids, mayWrite, V.ids, vguard, callOf, vop, ev, cv, vfill, h2', h3, h4]
  subst hQ
  exact FnPost.plain trivial (v := .agg (exCs n (.own 12 0 0 1 3))) (fun h2 e => by simp only [Try.f75, vres, vresL, vres1, gos, eq_self, Nat.reduceLT, Nat.reduceEqDiff, Nat.reduceAdd, reduceCtorEq, reduceIte, ↓reduceIte, tt, vload, e _]; rfl) (WkV.forgetF (h' := [(12, ⟨0, .row [vi 3, vi 2, vi 2]⟩)]) (fun i e he => by
    simp only [Heap.get] at he ⊢
    split at he
    · rename_i h; subst h; exact he
    · cases he) (fun i hi => by cases hi) (by simp only [exCs, V.into, intoL, vI_into, vR_into, vD_into, Bool.true_and, Bool.and_true]; rfl) rfl) ⟨rfl, rfl⟩
theorem c_three (n : Nat) (hn : n ≤ 3) : Pu Try.prog (.fn 75 [] []) [vi n] (.agg (exC n).cs) :=
  (c_three0 n hn).weakV fun v h' ⟨e1, e2⟩ => by
    subst e1; subst e2
    refine ⟨.agg (exC n).cs, [], WkV.frz 12 (v' := .agg (exC n).cs) (h' := []) (ver := 0) (cs := [vi 3, vi 2, vi 2]) rfl rfl rfl rfl ?_ ?_ WkV.refl, rfl, rfl⟩
    · simp only [exCs, exC, Cu.cs, V.frz, frzL, vI, vR, vD, cI_frz, cR_frz, cD_frz]; rfl
    · simp [frzH]
def exW (n : Int) : Cu := { exC 0 with want := [3, 2, n] }
theorem c_wanting (n : Int) : Pu Try.prog (.fn 76 [] []) [vi n] (.agg (exW n).cs) := by
  refine Ev.fn Try.func76 rfl rfl (Fn.body tabOk Try.func76 rfl (Nat.le_of_ble_eq_true rfl) (Ks.ok (fz := (fzn [2, 3])) (cl := (cln [])) tabOk mixed ?_))
  generalize hQ : FnPost tt Try.f76 _ _ = Q
  simp only [Try.f76, List.nil_append, List.append_nil, argsEnv]
  simp only [gos, eq_self, Nat.reduceLT, reduceCtorEq, reduceIte, ↓reduceIte, tt, vgo, vout, vguard, callOf, vop, ev, cv, newRow]
  refine Cl.mk ((c_three0 0 (by omega)).frame [(2, ⟨0, .row [vi 0, vi 0, vi 0, vi 0, vi 0, .sl0, .sl0, vi 0, vi 0, .sl0, .sl0]⟩)] (fun i e he => by cases he) rfl rfl rfl ?_) ?_
  · rintro v h' ⟨_, rfl⟩ i e he
    simp only [Heap.get] at he ⊢
    split at he
    · rename_i h; subst h; rfl
    · cases he
  rintro v h'' ⟨h', ⟨rfl, rfl⟩, rfl⟩
  have a1 : ((0 : Int) ≤ 2) = True := by decide
  have a2 : ((2 : Int) < ((3 : Nat) : Int)) = True := by decide
  have a3 : (Int.toNat 2) = 2 := rfl
  simp only [gos, eq_self, Nat.reduceLT, Nat.reduceEqDiff, Nat.reduceAdd, Nat.reduceMul, reduceCtorEq, reduceIte, ↓reduceIte, tt, vgo, vout, vguard, callOf, vop, ev, cv, vload, newRow, exCs, vI, vR, vD, a1, a2, a3]
  subst hQ
  let w : V := .own 12 0 0 1 3
  let row : List V := [vi 2, vi 7, vi 60, vi 4, vi 3, vI [2, 1, 0], .own 12 0 0 1 3, vi 10, vi 12, vR [⟨2, 3⟩, ⟨4, 4⟩, ⟨0, 2⟩], vD []]
  refine FnPost.plain trivial (v := .agg row) (fun h2 e => by simp only [Try.f76, vres, vresL, vres1, gos, eq_self, Nat.reduceLT, Nat.reduceEqDiff, Nat.reduceAdd, reduceCtorEq, reduceIte, ↓reduceIte, tt, vload, e _]; rfl) (v3 := .agg (exW n).cs) (h3 := []) ?_ ⟨rfl, rfl⟩
  refine WkV.frz 12 (v' := .agg (exW n).cs) (h' := [(2, ⟨0, .row (exW n).cs⟩), (3, ⟨0, .row (exW n).cs⟩)]) (ver := 0) (cs := [vi 3, vi 2, vi n]) rfl rfl rfl rfl ?_ ?_ (WkV.pure (by simp only [V.into, cu_into]))
  · simp only [row, exW, exC, Cu.cs, V.frz, frzL, vI, vR, vD, cI_frz, cR_frz, cD_frz]; rfl
  · simp only [frzH, Blk.frz, exW, exC, Cu.cs, V.frz, frzL, vI, vR, vD, cI_frz, cR_frz, cD_frz]; rfl
end Go.Vm

set_option linter.unusedVariables false
set_option linter.unusedSimpArgs false
set_option maxRecDepth 100000
namespace Go.Vm
open Go.Proofs
theorem exC_wf (n : Nat) (hn : n ≤ 3) : (exC n).wf := by
  refine ⟨⟨by simp [exC], by simp [exC]⟩, by simp [exC], by simp [exC], by simp [exC], ?_⟩
  have : (exR.take n).length ≤ 3 := by rw [List.length_take]; simp [exR]; omega
  simp only [exC]; omega
theorem exW_wf (n : Int) : (exW n).wf := ⟨⟨by simp [exW, exC], by simp [exW, exC]⟩, by simp [exW, exC], by simp [exW, exC], by simp [exW, exC], by simp [exW, exC]⟩
set_option maxHeartbeats 4000000 in
theorem c_awake : Pu Try.prog (.fn 21 [] []) [] (.bool true) := by
  have t0 : Pu Try.prog (.fn 75 [] []) [vi 0] (.agg (exC 0).cs) := c_three 0 (by omega)
  have t1 : Pu Try.prog (.fn 75 [] []) [vi 1] (.agg (exC 1).cs) := c_three 1 (by omega)
  have t2 : Pu Try.prog (.fn 75 [] []) [vi 2] (.agg (exC 2).cs) := c_three 2 (by omega)
  have t3 : Pu Try.prog (.fn 75 [] []) [vi 3] (.agg (exC 3).cs) := c_three 3 (by omega)
  have p1 := c_Play (exC 0) ⟨10, [3, 4, 2]⟩ (exC_wf 0 (by omega)) (by simp)
  rw [show sPlayA (exC 0) ⟨10, [3, 4, 2]⟩ = ([6, 4, 2], [12, 10, 0], 0) by decide +kernel] at p1
  have p2 := c_Bounds (exC 1) (exC_wf 1 (by omega))
  rw [show sBoundsA (exC 1) = ([⟨6, 6⟩, ⟨4, 5⟩, ⟨2, 3⟩], [⟨12, 15⟩, ⟨10, 14⟩, ⟨0, 6⟩], 0) by decide +kernel] at p2
  have p3 := c_Keeps (exW 3) (exW_wf 3)
  rw [show sKeepsA (exW 3) = ([1, 1, 3], 0) by decide +kernel] at p3
  have p4 := c_More (exC 0) (exC_wf 0 (by omega)) [2, 1, 0] (by simp)
  rw [show sMoreA (exC 0) [2, 1, 0] = (2, 0) by decide +kernel] at p4
  have p5 := c_Spare (exC 2) (exC_wf 2 (by omega)) 2
  rw [show sSpareA (exC 2) 2 = (1, 0) by decide +kernel] at p5
  have p6 := c_Least (exC 0) (exC_wf 0 (by omega))
  rw [show sLeastA (exC 0) = ([1, 1, 1], 0) by decide +kernel] at p6
  have p7 := c_First (exC 3) (exC_wf 3 (by omega))
  rw [show sFirstA (exC 3) = (2, 0) by decide +kernel] at p7
  have p8 := c_Leave (exC 3) (exC_wf 3 (by omega))
  rw [show sLeaveA (exC 3) = ([0], 0) by decide +kernel] at p8
  refine Ev.fn Try.func21 rfl rfl (Fn.body tabOk Try.func21 rfl (Nat.le_of_ble_eq_true rfl) (Ks.ok (fz := (fzn [])) (cl := (cln [(9, .d tg0 [cP, cP, cP, cP, cP, cP, cP, cP, cP, cP, cP, cP, cP, cP, cP, cP, cP, cP, cP, cP, cP, cP, cP, cP, cP, cP, cP, cP, cP, cP, cP, cP, cP, cP, cP, cP, cP, cP, cP, cP, cP, cP, cP, cP, cP, cP, cP, cP, cP, cP, cP, cP, cP, cP, cP, cP, cP, cP, cP, cP, cP, cP, cP, cP, cP, cP, cP, cP, cP, cP, cP, cP, cP, cP, cP, cP, cP, cP, cP, cP, cP, cP, cP, cP, cP, cP, cP, cP, cP, cP, cP, cP])])) tabOk mixed ?_))
  generalize hQ : FnPost tt Try.f21 _ _ = Q
  simp only [Try.f21, List.append_nil, argsEnv]
  simp only [gos, eq_self, Nat.reduceLT, Nat.reduceEqDiff, reduceCtorEq, reduceIte, ↓reduceIte, vgo, vout, vguard, callOf, vop, ev, cv]
  refine Cl.pu t0 ?_
  simp only [gos, eq_self, Nat.reduceLT, Nat.reduceEqDiff, Nat.reduceAdd, Nat.reduceMul, Nat.reduceLeDiff, reduceCtorEq, reduceIte, ↓reduceIte, tt, vgo, vout, vguard, callOf, vop, ev, cv, vfill]
  refine Cl.pu p1 ?_ rfl (by simp only [V.into, intoL, cu_into, Bool.and_true])
  simp only [gos, eq_self, Nat.reduceLT, Nat.reduceEqDiff, reduceIte, ↓reduceIte, vgo, vout, vguard, callOf, vop, ev, cv]
  refine Cl.pu t1 ?_
  simp only [gos, eq_self, Nat.reduceLT, reduceIte, ↓reduceIte, vgo, vout, vguard, callOf, ev]
  refine Cl.pu p2 ?_ rfl (by simp only [V.into, intoL, cu_into, Bool.and_true])
  simp only [gos, eq_self, Nat.reduceLT, Nat.reduceEqDiff, reduceIte, ↓reduceIte, vgo, vout, vguard, callOf, vop, ev, cv]
  refine Cl.pu (c_wanting 3) ?_
  simp only [gos, eq_self, Nat.reduceLT, reduceIte, ↓reduceIte, vgo, vout, vguard, callOf, ev]
  refine Cl.pu p3 ?_ rfl (by simp only [V.into, intoL, cu_into, Bool.and_true])
  simp only [gos, eq_self, Nat.reduceLT, Nat.reduceEqDiff, reduceIte, ↓reduceIte, vgo, vout, vguard, callOf, vop, ev, cv]
  refine Cl.pu t0 ?_
  simp only [gos, eq_self, Nat.reduceLT, Nat.reduceEqDiff, Nat.reduceAdd, Nat.reduceMul, Nat.reduceLeDiff, reduceCtorEq, reduceIte, ↓reduceIte, tt, vgo, vout, vguard, callOf, vop, ev, cv, vfill]
  refine Cl.pu p4 ?_ rfl (by simp only [V.into, intoL, cu_into, Bool.and_true])
  simp only [gos, eq_self, Nat.reduceLT, Nat.reduceEqDiff, reduceIte, ↓reduceIte, vgo, vout, vguard, callOf, vop, ev, cv]
  refine Cl.pu t2 ?_
  simp only [gos, eq_self, Nat.reduceLT, reduceIte, ↓reduceIte, vgo, vout, vguard, callOf, ev, cv]
  refine Cl.pu p5 ?_ rfl (by simp only [V.into, intoL, cu_into, Bool.and_true])
  simp only [gos, eq_self, Nat.reduceLT, Nat.reduceEqDiff, reduceIte, ↓reduceIte, vgo, vout, vguard, callOf, vop, ev, cv]
  refine Cl.pu t0 ?_
  simp only [gos, eq_self, Nat.reduceLT, reduceIte, ↓reduceIte, vgo, vout, vguard, callOf, ev]
  refine Cl.pu p6 ?_ rfl (by simp only [V.into, intoL, cu_into, Bool.and_true])
  simp only [gos, eq_self, Nat.reduceLT, Nat.reduceEqDiff, reduceIte, ↓reduceIte, vgo, vout, vguard, callOf, vop, ev, cv]
  refine Cl.pu t3 ?_
  simp only [gos, eq_self, Nat.reduceLT, reduceIte, ↓reduceIte, vgo, vout, vguard, callOf, ev]
  refine Cl.pu p7 ?_ rfl (by simp only [V.into, intoL, cu_into, Bool.and_true])
  simp only [gos, eq_self, Nat.reduceLT, Nat.reduceEqDiff, reduceIte, ↓reduceIte, vgo, vout, vguard, callOf, vop, ev, cv]
  refine Cl.pu t3 ?_
  simp only [gos, eq_self, Nat.reduceLT, reduceIte, ↓reduceIte, vgo, vout, vguard, callOf, ev]
  refine Cl.pu p8 ?_ rfl (by simp only [V.into, intoL, cu_into, Bool.and_true])
  simp only [gos, eq_self, Nat.reduceLT, Nat.reduceEqDiff, reduceIte, ↓reduceIte, vgo, vout, vguard, callOf, vop, ev]
  refine Wr.draw (by kernel_rfl) ?_
  have a1 : decide ((0 : Int) = 0) = true := rfl
  have a3 : decide (((3 : Nat) : Int) = 3) = true := rfl
  have a2 : decide ((1 : Int) = 1) = true := rfl
  have c1 : ([4, 5] == [(4 : Int), 5]) = true := rfl
  have c2 : ([0, 6] == [(0 : Int), 6]) = true := rfl
  have b1 : ((0 : Int) ≤ 1) = True := by decide
  have b2 : ((1 : Int) < ((3 : Nat) : Int)) = True := by decide
  have b3 : ((0 : Int) ≤ 2) = True := by decide
  have b4 : ((2 : Int) < ((3 : Nat) : Int)) = True := by decide
  have b5 : Int.toNat 1 = 1 := rfl
  have b6 : Int.toNat 2 = 2 := rfl
  simp only [List.append]
  simp only [gos, eq_self, Nat.reduceLT, Nat.reduceEqDiff, Nat.reduceAdd, Nat.reduceMul, Nat.reduceLeDiff, reduceCtorEq, reduceIte, ↓reduceIte, tt, vgoD, voutD, vclsOk, vids, mayWrite, vguard, callOf, vop, ev, cv, vbin, vint, isShift, isNilConst, vfill, clsAt, vR, cR]
  refine CD.pu (c_same [6, 4, 2] [6, 4, 2] (by simp)) ?_
  simp only [gos, eq_self, Nat.reduceLT, Nat.reduceEqDiff, Nat.reduceAdd, Nat.reduceMul, Nat.reduceLeDiff, reduceCtorEq, reduceIte, ↓reduceIte, tt, vgoD, voutD, vclsOk, vids, mayWrite, vguard, callOf, vop, ev, cv, vfill]
  refine CD.pu (c_same [12, 10, 0] [12, 10, 0] (by simp)) ?_
  simp only [gos, eq_self, Nat.reduceLT, Nat.reduceEqDiff, Nat.reduceAdd, Nat.reduceMul, Nat.reduceLeDiff, reduceCtorEq, reduceIte, ↓reduceIte, tt, vgoD, voutD, vclsOk, vids, mayWrite, V.ids, vguard, callOf, vop, ev, cv, vbin, vint, isShift, isNilConst, vload, vlen, a3, b1, b2, b5]
  refine CD.pu (c_between 4 5) ?_
  simp only [gos, ne_eq, eq_self, Nat.reduceLT, Nat.reduceEqDiff, Nat.reduceAdd, Nat.reduceMul, reduceCtorEq, reduceIte, ↓reduceIte, tt, vgoD, voutD, vclsOk, vids, mayWrite, V.ids, vguard, callOf, vop, ev, cv, vbin, isNilConst, vload, intsOf, b3, b4, b6]
  refine CD.pu (c_between 0 6) ?_
  simp only [gos, ne_eq, eq_self, Nat.reduceLT, Nat.reduceEqDiff, Nat.reduceAdd, Nat.reduceMul, Nat.reduceLeDiff, reduceCtorEq, reduceIte, ↓reduceIte, tt, vgoD, voutD, vclsOk, vids, mayWrite, vguard, callOf, vop, ev, cv, vbin, vint, isShift, isNilConst, vfill, intsOf]
  refine CD.pu (c_same [1, 1, 3] [1, 1, 3] (by simp)) ?_
  simp only [gos, eq_self, Nat.reduceLT, Nat.reduceEqDiff, Nat.reduceAdd, Nat.reduceMul, Nat.reduceLeDiff, reduceCtorEq, reduceIte, ↓reduceIte, tt, vgoD, voutD, vclsOk, vids, mayWrite, vguard, callOf, vop, ev, cv, vbin, vint, isShift, isNilConst, vfill]
  refine CD.pu (c_same [1, 1, 1] [1, 1, 1] (by simp)) ?_
  simp only [gos, eq_self, Nat.reduceLT, Nat.reduceEqDiff, Nat.reduceAdd, Nat.reduceMul, Nat.reduceLeDiff, reduceCtorEq, reduceIte, ↓reduceIte, tt, vgoD, voutD, vclsOk, vids, mayWrite, vguard, callOf, vop, ev, cv, vbin, vint, isShift, isNilConst, vfill]
  refine CD.pu (c_same [0] [0] (by simp)) ?_
  simp only [gos, eq_self, Nat.reduceLT, Nat.reduceEqDiff, reduceIte, ↓reduceIte, vgoD, voutD, vclsOk, vids, mayWrite, vguard, callOf, vop, ev]
  subst hQ
  exact FnPost.plain trivial (v := .bool true) (fun h2 e => by rfl) WkV.refl ⟨rfl, rfl⟩
end Go.Vm

set_option linter.unusedVariables false
set_option linter.unusedSimpArgs false
namespace Go.Vm
/-! ### the plain law: the truths of the program are those of the reference -/
/-- A truth, whatever the readings are. -/
structure Listed (c : Cu) (t : Tr2) : Prop where
  heat : c.heat.lo ≤ t.heat ∧ t.heat ≤ c.heat.hi
  len : t.loss.length = c.loss.length
  loss : ∀ i : Nat, i < c.loss.length → (gR c.loss i).lo ≤ gi t.loss i ∧ gi t.loss i ≤ (gR c.loss i).hi
theorem mem_rangeI {lo hi x : Int} : x ∈ rangeI lo hi ↔ lo ≤ x ∧ x ≤ hi := by
  refine ⟨rangeI_mem, fun h => ?_⟩
  simp only [rangeI, List.mem_map, List.mem_range]
  exact ⟨(x - lo).toNat, by omega, by omega⟩
theorem gi_set_self {l : List Int} {i : Nat} (x : Int) (h : i < l.length) : gi (l.set i x) i = x := by
  simp only [gi, Int.toNat_natCast, List.getD_eq_getElem?_getD]
  rw [List.getElem?_set_self h]; rfl
theorem gi_of_get {l m : List Int} {i : Nat} (h : l[i]? = m[i]?) : gi l i = gi m i := by
  simp only [gi, Int.toNat_natCast, List.getD_eq_getElem?_getD, h]
theorem mem_genH (c : Cu) : ∀ (k hour : Nat) (ls l : List Int), hour + k ≤ ls.length →
    (l ∈ genH c k hour ls ↔ l.length = ls.length ∧ (∀ j, j < hour ∨ hour + k ≤ j → l[j]? = ls[j]?) ∧ ∀ j : Nat, hour ≤ j → j < hour + k → (gR c.loss j).lo ≤ gi l j ∧ gi l j ≤ (gR c.loss j).hi)
  | 0, hour, ls, l, _ => by
    simp only [genH, List.mem_singleton]
    constructor
    · rintro rfl; exact ⟨rfl, fun _ _ => rfl, fun j h1 h2 => by omega⟩
    · rintro ⟨_, h, _⟩
      exact List.ext_getElem? fun j => h j (by omega)
  | k + 1, hour, ls, l, hh => by
    simp only [genH, List.mem_flatMap, mem_rangeI]
    constructor
    · rintro ⟨n, hn, hm⟩
      obtain ⟨h1, h2, h3⟩ := (mem_genH c k (hour + 1) (ls.set hour n) l (by simp; omega)).1 hm
      refine ⟨by simpa using h1, fun j hj => ?_, fun j h4 h5 => ?_⟩
      · rw [h2 j (by omega), List.getElem?_set_ne (by omega)]
      · by_cases e : hour = j
        · subst e
          rw [gi_of_get (h2 hour (by omega)), gi_set_self _ (by omega)]
          exact hn
        · exact h3 j (by omega) (by omega)
    · rintro ⟨h1, h2, h3⟩
      refine ⟨gi l hour, h3 hour (by omega) (by omega), (mem_genH c k (hour + 1) (ls.set hour (gi l hour)) l (by simp; omega)).2 ⟨by simpa using h1, fun j hj => ?_, fun j h4 h5 => h3 j (by omega) (by omega)⟩⟩
      by_cases e : hour = j
      · subst e
        rw [List.getElem?_set_self (by omega)]
        exact gi_get (by omega)
      · rw [List.getElem?_set_ne e]
        exact h2 j (by omega)
theorem pad5_get {l : List Int} (j : Nat) (h : j < l.length) : (pad5 l)[j]? = l[j]? := by
  rw [pad5, List.getElem?_append_left h]
theorem pad5_ge {l : List Int} (j : Nat) (h : l.length ≤ j) (hl : l.length ≤ 5) : (pad5 l)[j]? = zL[j]? := by
  rw [pad5, List.getElem?_append_right h, List.getElem?_replicate]
  by_cases hj : j < 5
  · rw [if_pos (by omega)]
    have : ∀ k : Fin 5, zL[(k : Nat)]? = some 0 := by decide
    exact (this ⟨j, hj⟩).symm
  · rw [if_neg (by omega), List.getElem?_eq_none (by simp [zL]; omega)]
theorem mem_truths {c : Cu} (k0 : CuOk c) (s : Sc) : s ∈ truths c ↔ ∃ t, Listed c t ∧ s = tS t := by
  have hl := k0.loss.1
  have hla := k0.last
  have hn : (c.last + 1).toNat = c.loss.length := by omega
  simp only [truths, List.mem_flatMap, List.mem_map, mem_rangeI]
  rw [hn]
  constructor
  · rintro ⟨h, hh, l, hm, rfl⟩
    obtain ⟨h1, h2, h3⟩ := (mem_genH c c.loss.length 0 zL l (by simp [zL]; omega)).1 hm
    have hz : l.length = 5 := h1
    have hlen : (l.take c.loss.length).length = c.loss.length := by rw [List.length_take]; omega
    refine ⟨⟨h, l.take c.loss.length⟩, ⟨hh, hlen, fun i hi => ?_⟩, ?_⟩
    · have : gi (l.take c.loss.length) i = gi l i := gi_of_get (by rw [List.getElem?_take, if_pos hi])
      simp only [this]
      exact h3 i (by omega) (by omega)
    · simp only [tS, Sc.mk.injEq, true_and]
      refine List.ext_getElem? fun j => ?_
      by_cases hj : j < c.loss.length
      · rw [pad5_get j (by omega), List.getElem?_take, if_pos hj]
      · rw [pad5_ge j (by omega) (by omega)]
        exact h2 j (by omega)
  · rintro ⟨t, ⟨ht, hle, hlo⟩, rfl⟩
    refine ⟨t.heat, ht, pad5 t.loss, (mem_genH c c.loss.length 0 zL (pad5 t.loss) (by simp [zL]; omega)).2 ⟨?_, fun j hj => ?_, fun j h4 h5 => ?_⟩, rfl⟩
    · simp [pad5, zL]; omega
    · rcases hj with hj | hj
      · omega
      · exact pad5_ge j (by omega) (by omega)
    · rw [pad5_gi]; exact hlo j (by omega)
/-! the truths by number -/
def encL : List Rg → List Int → Int
  | [], _ => 0
  | r :: rs, l => (gi l 0 - r.lo) + sSize r * encL rs (l.drop 1)
theorem gi_cons_zero (x : Int) (l : List Int) : gi (x :: l) 0 = x := rfl
theorem encL_ok : ∀ (rs : List Rg) (l : List Int), l.length = rs.length → (∀ r ∈ rs, 1 ≤ sSize r) → (∀ i : Nat, i < rs.length → (gR rs i).lo ≤ gi l i ∧ gi l i ≤ (gR rs i).hi) →
    0 ≤ encL rs l ∧ encL rs l < pL rs ∧ nthL rs (encL rs l) = l
  | [], l, hl, _, _ => by
    have : l = [] := List.length_eq_zero_iff.1 hl
    subst this
    simp [encL, pL, nthL]
  | r :: rs, [], hl, _, _ => by simp at hl
  | r :: rs, x :: l, hl, hs, hb => by
    have hr := hs r (by simp)
    have h0 := hb 0 (by simp)
    have e0 : gR (r :: rs) (0 : Nat) = r := rfl
    have e1 : gi (x :: l) (0 : Nat) = x := rfl
    rw [e0, e1] at h0
    obtain ⟨i1, i2, i3⟩ := encL_ok rs l (by simpa using hl) (fun y hy => hs y (by simp [hy])) (fun i hi => by
      have := hb (i + 1) (by simp; omega)
      have a1 : gR (r :: rs) ((i + 1 : Nat) : Int) = gR rs i := by simp only [gR, Int.toNat_natCast, List.getD_cons_succ]
      have a2 : gi (x :: l) ((i + 1 : Nat) : Int) = gi l i := by simp only [gi, Int.toNat_natCast, List.getD_cons_succ]
      rwa [a1, a2] at this)
    have en : encL (r :: rs) (x :: l) = (x - r.lo) + sSize r * encL rs l := by simp only [encL, gi_cons_zero, List.drop_succ_cons, List.drop_zero]
    have hxs : 0 ≤ x - r.lo ∧ x - r.lo < sSize r := by simp only [sSize] at hr ⊢; omega
    have hm : 0 ≤ sSize r * encL rs l := Int.mul_nonneg (by omega) i1
    have hm2 : sSize r * (encL rs l + 1) ≤ sSize r * pL rs := Int.mul_le_mul_of_nonneg_left (by omega) (by omega)
    rw [Int.mul_add] at hm2
    have hn : 0 ≤ (x - r.lo) + sSize r * encL rs l := by omega
    have t1 : ((x - r.lo) + sSize r * encL rs l).tmod (sSize r) = x - r.lo := by
      rw [Int.tmod_eq_emod_of_nonneg hn, Int.add_mul_emod_self_left, Int.emod_eq_of_lt hxs.1 hxs.2]
    have t2 : ((x - r.lo) + sSize r * encL rs l).tdiv (sSize r) = encL rs l := by
      rw [Int.tdiv_eq_ediv_of_nonneg hn, Int.add_mul_ediv_left _ _ (by omega), Int.ediv_eq_zero_of_lt hxs.1 hxs.2]; omega
    rw [en]
    refine ⟨hn, by simp only [pL]; omega, ?_⟩
    simp only [nthL, t1, t2, i3]
    congr 1
    omega
theorem rManyL_3000 : ∀ (l : List Rg), (∀ r ∈ l, 1 ≤ sSize r) → rManyL 3000 l = 3000
  | [], _ => rfl
  | r :: l, h => by
    have h1 := h r (by simp)
    have e : rManyL 3000 (r :: l) = rManyL (min 3000 (3000 * sSize r)) l := rfl
    rw [e, show min 3000 (3000 * sSize r) = 3000 by omega]
    exact rManyL_3000 l fun x hx => h x (by simp [hx])
theorem rManyL_eq : ∀ (l : List Rg) (n : Int), (∀ r ∈ l, 1 ≤ sSize r) → rManyL n l < 3000 → rManyL n l = n * pL l
  | [], n, _, _ => by simp [rManyL, pL]
  | r :: l, n, h, hlt => by
    have e : rManyL n (r :: l) = rManyL (min 3000 (n * sSize r)) l := rfl
    rw [e] at hlt ⊢
    by_cases hc : 3000 ≤ n * sSize r
    · rw [show min 3000 (n * sSize r) = 3000 by omega, rManyL_3000 l fun x hx => h x (by simp [hx])] at hlt
      omega
    · rw [show min 3000 (n * sSize r) = n * sSize r by omega] at hlt ⊢
      rw [rManyL_eq l _ (fun x hx => h x (by simp [hx])) hlt, pL, Int.mul_assoc]
theorem nth_listed {c : Cu} (k0 : CuOk c) {n : Int} (hn : 0 ≤ n) : Listed c (rNth c n) := by
  have hz := size_le k0.heat
  have hin := k0.heat
  simp only [sInside, Bool.and_eq_true, decide_eq_true_eq] at hin
  have hm := tmod_le hn hz.1
  refine ⟨by simp only [rNth]; simp only [sSize] at hm ⊢; omega, by simp only [rNth, nthL_len], ?_⟩
  have key : ∀ (rs : List Rg) (n : Int), 0 ≤ n → (∀ r ∈ rs, 1 ≤ sSize r) → ∀ i : Nat, i < rs.length → (gR rs i).lo ≤ gi (nthL rs n) i ∧ gi (nthL rs n) i ≤ (gR rs i).hi := by
    intro rs
    induction rs with
    | nil => intro n _ _ i hi; simp at hi
    | cons r rs ih =>
      intro n hn hs i hi
      have hr := hs r (by simp)
      have hm := tmod_le hn hr
      cases i with
      | zero =>
        have a1 : gR (r :: rs) ((0 : Nat) : Int) = r := rfl
        have a2 : gi (nthL (r :: rs) n) ((0 : Nat) : Int) = r.lo + n.tmod (sSize r) := rfl
        rw [a1, a2]
        simp only [sSize] at hm ⊢; omega
      | succ i =>
        have a1 : gR (r :: rs) ((i + 1 : Nat) : Int) = gR rs i := by simp only [gR, Int.toNat_natCast, List.getD_cons_succ]
        have a2 : gi (nthL (r :: rs) n) ((i + 1 : Nat) : Int) = gi (nthL rs (n.tdiv (sSize r))) i := by simp only [nthL, gi, Int.toNat_natCast, List.getD_cons_succ]
        rw [a1, a2]
        exact ih _ (Int.tdiv_nonneg hn (by omega)) (fun x hx => hs x (by simp [hx])) i (by simpa using hi)
  exact key c.loss _ (Int.tdiv_nonneg hn (by omega)) fun r hr => (size_le (k0.loss.2 r hr)).1
theorem nth_surj {c : Cu} (k0 : CuOk c) {t : Tr2} (h : Listed c t) : ∃ n : Nat, (n : Int) < rMany c ∧ rNth c n = t := by
  have hz := size_le k0.heat
  have hs : ∀ r ∈ c.loss, 1 ≤ sSize r := fun r hr => (size_le (k0.loss.2 r hr)).1
  obtain ⟨h1, h2, h3⟩ := encL_ok c.loss t.loss h.len hs h.loss
  have hM := rMany_le k0
  have e : rMany c = sSize c.heat * pL c.loss := rManyL_eq c.loss (sSize c.heat) hs (by have : rMany c = rManyL (sSize c.heat) c.loss := rfl; omega)
  have hx : 0 ≤ t.heat - c.heat.lo ∧ t.heat - c.heat.lo < sSize c.heat := by have := h.heat; simp only [sSize]; omega
  have hm : 0 ≤ sSize c.heat * encL c.loss t.loss := Int.mul_nonneg (by omega) h1
  have hm2 : sSize c.heat * (encL c.loss t.loss + 1) ≤ sSize c.heat * pL c.loss := Int.mul_le_mul_of_nonneg_left (by omega) (by omega)
  rw [Int.mul_add] at hm2
  have hn : 0 ≤ (t.heat - c.heat.lo) + sSize c.heat * encL c.loss t.loss := by omega
  have t1 : ((t.heat - c.heat.lo) + sSize c.heat * encL c.loss t.loss).tmod (sSize c.heat) = t.heat - c.heat.lo := by
    rw [Int.tmod_eq_emod_of_nonneg hn, Int.add_mul_emod_self_left, Int.emod_eq_of_lt hx.1 hx.2]
  have t2 : ((t.heat - c.heat.lo) + sSize c.heat * encL c.loss t.loss).tdiv (sSize c.heat) = encL c.loss t.loss := by
    rw [Int.tdiv_eq_ediv_of_nonneg hn, Int.add_mul_ediv_left _ _ (by omega), Int.ediv_eq_zero_of_lt hx.1 hx.2]; omega
  refine ⟨((t.heat - c.heat.lo) + sSize c.heat * encL c.loss t.loss).toNat, by omega, ?_⟩
  rw [show ((((t.heat - c.heat.lo) + sSize c.heat * encL c.loss t.loss).toNat : Nat) : Int) = (t.heat - c.heat.lo) + sSize c.heat * encL c.loss t.loss by omega]
  simp only [rNth, t1, t2, h3]
  cases t
  simp only [Tr2.mk.injEq, and_true]
  omega
end Go.Vm

set_option linter.unusedVariables false
set_option linter.unusedSimpArgs false
namespace Go.Vm
/-! ### what is hot, left and kept, by hour -/
theorem sPlay_hot (c : Cu) (s : Sc) (coal want : List Int) : ∀ n, (sPlay c s coal want n).2.hot = (List.range n).map (fun (i : Nat) => (sHeat c s coal want i).tdiv c.per) ∧
    (sPlay c s coal want n).2.left = (List.range n).map (fun (i : Nat) => (sPlay c s coal want (i + 1)).1) ∧ (sPlay c s coal want n).2.kept = (List.range n).map (fun (i : Nat) => decide (gi want i ≤ (sHeat c s coal want i).tdiv c.per))
  | 0 => ⟨rfl, rfl, rfl⟩
  | n + 1 => by
    obtain ⟨h1, h2, h3⟩ := sPlay_hot c s coal want n
    have e : sPlay c s coal want (n + 1) = ((sPlay c s coal want (n + 1)).1, ⟨(sPlay c s coal want n).2.hot ++ [(sHeat c s coal want n).tdiv c.per], (sPlay c s coal want n).2.left ++ [(sPlay c s coal want (n + 1)).1], (sPlay c s coal want n).2.kept ++ [decide (gi want n ≤ (sHeat c s coal want n).tdiv c.per)]⟩) := rfl
    rw [e]
    simp only [h1, h2, h3, List.range_succ, List.map_append, List.map_cons, List.map_nil, and_true]
theorem gi_map {f : Nat → Int} {n i : Nat} (h : i < n) : gi ((List.range n).map f) i = f i := by
  simp only [gi, Int.toNat_natCast, List.getD_eq_getElem?_getD, List.getElem?_map]
  rw [List.getElem?_range h]; rfl
theorem gB_map {f : Nat → Bool} {n i : Nat} (h : i < n) : gB ((List.range n).map f) i = f i := by
  simp only [gB, Int.toNat_natCast, List.getD_eq_getElem?_getD, List.getElem?_map]
  rw [List.getElem?_range h]; rfl
theorem past_hot {c : Cu} (coal want : List Int) (s : Sc) {i : Nat} (hi : (i : Int) ≤ c.last) : gi (sPast c coal want s).hot i = (sHeat c s coal want i).tdiv c.per := by
  rw [sPast, (sPlay_hot c s coal want _).1, gi_map (by omega)]
theorem past_kept {c : Cu} (coal want : List Int) (s : Sc) {i : Nat} (hi : (i : Int) ≤ c.last) : gB (sPast c coal want s).kept i = decide (gi want i ≤ (sHeat c s coal want i).tdiv c.per) := by
  rw [sPast, (sPlay_hot c s coal want _).2.2, gB_map (by omega)]
theorem dec_not (x : Bool) : decide (false = x) = !x := by cases x <;> rfl
theorem past_whole {c : Cu} (coal want : List Int) (s : Sc) : ((sPast c coal want s).kept.any fun y => decide (false = y)) = !((List.range (c.last + 1).toNat).all fun (i : Nat) => decide (gi want i ≤ (sHeat c s coal want i).tdiv c.per)) := by
  rw [sPast, (sPlay_hot c s coal want _).2.2, List.any_map, List.not_all_eq_any_not]
  congr 1
  funext i
  simp only [Function.comp]
  exact dec_not _
/-! ### all readings are right -/
theorem bitsI_full (f : Nat → Bool) : ∀ n, bitsI f n = 2 ^ n - 1 ↔ ∀ i, i < n → f i = true
  | 0 => by simp [bitsI]
  | n + 1 => by
    have ih := bitsI_full f n
    have hb := bitsI_le f n
    have e : (2 : Int) ^ (n + 1) = 2 ^ n + 2 ^ n := by rw [Int.pow_succ]; omega
    simp only [bitsI]
    constructor
    · intro h i hi
      by_cases hf : f n = true
      · rw [if_pos hf] at h
        rcases Nat.lt_succ_iff_lt_or_eq.1 hi with h1 | rfl
        · exact ih.1 (by omega) i h1
        · exact hf
      · rw [if_neg hf] at h; omega
    · intro h
      rw [if_pos (h n (by omega)), ih.2 fun i hi => h i (by omega)]
      omega
theorem rOk_eq {c : Cu} (k0 : CuOk c) (t : Tr2) {i : Nat} (hi : i < c.readings.length) : sRead1 c (tS t) [] i = rOk c t i := by
  have hr := k0.hours _ (List.mem_of_getElem? (gD_get (l := c.readings) (i := i) (by omega)))
  have := past_hot c.coal c.want (tS t) (c := c) (i := (gD c.readings i).hour.toNat) (by omega)
  rw [show (((gD c.readings i).hour.toNat : Nat) : Int) = (gD c.readings i).hour by omega, sPast] at this
  simp only [sRead1, List.any_nil, Bool.false_or, rOk, this]
theorem right_iff {c : Cu} (k0 : CuOk c) (t : Tr2) : rRight c t = rFull c ↔ sRight c (tS t) [] = true := by
  rw [rRight, rFull, bitsI_full]
  simp only [sRight, List.all_eq_true, List.mem_range]
  exact ⟨fun h i hi => by rw [rOk_eq k0 t hi]; exact h i hi, fun h i hi => by rw [← rOk_eq k0 t hi]; exact h i hi⟩
/-! ### the same truths -/
theorem ask_all (c : Cu) (l : List Sc) : ∀ (tr : List Sc), (∀ s ∈ tr, s ∈ (runAll (askStep c) l tr).2) ∧ ∀ s ∈ l, sRight c s [] = true → s ∈ (runAll (askStep c) l tr).2 := by
  induction l with
  | nil => intro tr; exact ⟨fun s hs => hs, fun s hs => by cases hs⟩
  | cons x l ih =>
    intro tr
    obtain ⟨i1, i2⟩ := ih (askAdd c x tr)
    have hsub : ∀ s ∈ tr, s ∈ askAdd c x tr := fun s hs => by
      unfold askAdd; split
      · simp [hs]
      · exact hs
    refine ⟨fun s hs => i1 s (hsub s hs), fun s hs hr => ?_⟩
    rcases List.mem_cons.1 hs with rfl | hs
    · refine i1 s ?_
      unfold askAdd; split
      · simp
      · rename_i hn
        have : tr.getLast? = some s := by
          cases h : decide (tr.getLast? = some s) with
          | true => simpa using h
          | false => exact absurd ⟨hr, by simpa using h⟩ hn
        exact List.mem_of_getLast? this
    · exact i2 s hs hr
theorem mem_sTruth (c : Cu) (s : Sc) : s ∈ sTruth c ↔ s ∈ truths c ∧ sRight c s [] = true := by
  constructor
  · intro h
    rcases ask_mem c (truths c) [] s h with h | h
    · cases h
    · exact h
  · rintro ⟨h1, h2⟩
    exact (ask_all c (truths c) []).2 s h1 h2
theorem mem_rTruths (c : Cu) (t : Tr2) : t ∈ rTruths c ↔ (∃ n : Nat, n < (rMany c).toNat ∧ rNth c n = t) ∧ rRight c t = rFull c := by
  simp only [rTruths, rTr, List.mem_filter, List.mem_map, List.mem_range, rIs, decide_eq_true_eq]
theorem mem_rTruths' {c : Cu} (k0 : CuOk c) (t : Tr2) : t ∈ rTruths c ↔ Listed c t ∧ sRight c (tS t) [] = true := by
  rw [mem_rTruths, right_iff k0]
  constructor
  · rintro ⟨⟨n, _, rfl⟩, h⟩
    exact ⟨nth_listed k0 (by omega), h⟩
  · rintro ⟨h1, h2⟩
    obtain ⟨n, h3, h4⟩ := nth_surj k0 h1
    exact ⟨⟨n, by omega, h4⟩, h2⟩
theorem same_truths {c : Cu} (k0 : CuOk c) (s : Sc) : s ∈ sTruth c ↔ ∃ t ∈ rTruths c, s = tS t := by
  rw [mem_sTruth, mem_truths k0]
  constructor
  · rintro ⟨⟨t, h1, rfl⟩, h2⟩
    exact ⟨t, (mem_rTruths' k0 t).2 ⟨h1, h2⟩, rfl⟩
  · rintro ⟨t, h1, rfl⟩
    obtain ⟨h2, h3⟩ := (mem_rTruths' k0 t).1 h1
    exact ⟨⟨t, h2, rfl⟩, h3⟩
theorem same_nil {c : Cu} (k0 : CuOk c) : sTruth c = [] ↔ rTruths c = [] := by
  constructor
  · intro h
    cases hr : rTruths c with
    | nil => rfl
    | cons t l =>
      have := (same_truths k0 (tS t)).2 ⟨t, by rw [hr]; simp, rfl⟩
      rw [h] at this; cases this
  · intro h
    cases hr : sTruth c with
    | nil => rfl
    | cons s l =>
      obtain ⟨t, ht, _⟩ := (same_truths k0 s).1 (by rw [hr]; simp)
      rw [h] at ht; cases ht
/-! ### the bounds are the same -/
theorem fold_wider : ∀ (l : List Int) (r : Rg), (l.foldl sWider r).lo ≤ r.lo ∧ (∀ x ∈ l, (l.foldl sWider r).lo ≤ x) ∧ ((l.foldl sWider r).lo = r.lo ∨ (l.foldl sWider r).lo ∈ l) ∧
    r.hi ≤ (l.foldl sWider r).hi ∧ (∀ x ∈ l, x ≤ (l.foldl sWider r).hi) ∧ ((l.foldl sWider r).hi = r.hi ∨ (l.foldl sWider r).hi ∈ l)
  | [], r => ⟨Int.le_refl _, by simp, .inl rfl, Int.le_refl _, by simp, .inl rfl⟩
  | n :: l, r => by
    obtain ⟨h1, h2, h3, h4, h5, h6⟩ := fold_wider l (sWider r n)
    simp only [List.foldl_cons]
    have a1 : (sWider r n).lo = min r.lo n := rfl
    have a2 : (sWider r n).hi = max r.hi n := rfl
    rw [a1] at h1 h3
    rw [a2] at h4 h6
    refine ⟨by omega, ?_, ?_, by omega, ?_, ?_⟩
    · intro x hx
      rcases List.mem_cons.1 hx with rfl | hx
      · omega
      · exact h2 x hx
    · rcases h3 with h | h
      · by_cases hc : r.lo ≤ n
        · exact .inl (by omega)
        · exact .inr (by simp; left; omega)
      · exact .inr (by simp [h])
    · intro x hx
      rcases List.mem_cons.1 hx with rfl | hx
      · omega
      · exact h5 x hx
    · rcases h6 with h | h
      · by_cases hc : n ≤ r.hi
        · exact .inl (by omega)
        · exact .inr (by simp; left; omega)
      · exact .inr (by simp [h])
end Go.Vm

set_option linter.unusedVariables false
set_option linter.unusedSimpArgs false
namespace Go.Vm
/-! ### verdicts are the same -/
theorem sVerdict_01 {α : Type} (p : α → Bool) {l : List α} (hne : l ≠ []) : sVerdict (sBounds (l.map fun s => if p s = true then 1 else 0)) = if l.all p then 1 else if l.any p then 3 else 2 := by
  have hm : ∀ x ∈ l.map (fun s => if p s = true then (1 : Int) else 0), x = 0 ∨ x = 1 := fun x hx => by
    obtain ⟨s, _, rfl⟩ := List.mem_map.1 hx
    by_cases h : p s = true <;> simp [h]
  have hone : (1 : Int) ∈ l.map (fun s => if p s = true then (1 : Int) else 0) ↔ l.any p = true := by
    simp only [List.mem_map, List.any_eq_true]
    constructor
    · rintro ⟨s, h1, h2⟩
      refine ⟨s, h1, ?_⟩
      by_cases h : p s = true
      · exact h
      · rw [if_neg h] at h2; cases h2
    · rintro ⟨s, h1, h2⟩; exact ⟨s, h1, if_pos h2⟩
  have hzero : (0 : Int) ∈ l.map (fun s => if p s = true then (1 : Int) else 0) ↔ ¬ l.all p = true := by
    simp only [List.mem_map, List.all_eq_true]
    constructor
    · rintro ⟨s, h1, h2⟩ ha
      rw [if_pos (ha s h1)] at h2; cases h2
    · intro h
      cases hf : l.find? (fun s => !p s) with
      | some s =>
        have h1 := List.find?_some hf
        exact ⟨s, List.mem_of_find?_eq_some hf, if_neg (by simpa using h1)⟩
      | none =>
        exfalso; apply h
        intro s hs
        have := List.find?_eq_none.1 hf s hs
        simpa using this
  generalize hns : l.map (fun s => if p s = true then (1 : Int) else 0) = ns at hm hone hzero ⊢
  cases ns with
  | nil => exact absurd (List.map_eq_nil_iff.1 hns) hne
  | cons n r =>
    have e : sBounds (n :: r) = (n :: r).foldl sWider ⟨n, n⟩ := rfl
    obtain ⟨h1, h2, h3, h4, h5, h6⟩ := fold_wider (n :: r) ⟨n, n⟩
    rw [e]
    generalize (n :: r).foldl sWider ⟨n, n⟩ = A at h1 h2 h3 h4 h5 h6 ⊢
    have m1 : A.lo ∈ n :: r := by
      rcases h3 with h | h
      · simp only at h; rw [h]; simp
      · exact h
    have m2 : A.hi ∈ n :: r := by
      rcases h6 with h | h
      · simp only at h; rw [h]; simp
      · exact h
    have b1 := hm _ m1
    have b2 := hm _ m2
    by_cases ha : l.all p = true
    · have hlo : A.lo = 1 := by
        rcases b1 with b | b
        · rw [b] at m1; exact absurd ha (hzero.1 m1)
        · exact b
      rw [if_pos ha, sVerdict, if_pos (by omega)]
    · have hlo : A.lo = 0 := by
        have := h2 _ (hzero.2 ha)
        omega
      rw [if_neg ha, sVerdict, if_neg (by omega)]
      by_cases hn : l.any p = true
      · have := h5 _ (hone.2 hn)
        rw [if_pos hn, if_neg (by omega)]
      · have : A.hi = 0 := by
          rcases b2 with b | b
          · exact b
          · rw [b] at m2; exact absurd (hone.1 m2) hn
        rw [if_neg hn, if_pos this]
theorem rVerdict_count {α : Type} (q : α → Bool) {l : List α} (hne : l ≠ []) : rVerdict (l.countP q) l.length = if l.all q then 1 else if l.any q then 3 else 2 := by
  have h1 : l.countP q = l.length ↔ l.all q = true := by rw [List.countP_eq_length, List.all_eq_true]
  have h2 : l.countP q = 0 ↔ ¬ l.any q = true := by
    rw [List.countP_eq_zero, List.any_eq_true]
    exact ⟨fun h ⟨x, hx, hq⟩ => h x hx hq, fun h x hx hq => h ⟨x, hx, hq⟩⟩
  have hl : l.length ≠ 0 := fun h => hne (List.length_eq_zero_iff.1 h)
  unfold rVerdict
  by_cases ha : l.all q = true
  · rw [if_pos (by have := h1.2 ha; omega), if_pos ha]
  · rw [if_neg (fun h => ha (h1.1 (by omega))), if_neg ha]
    by_cases hn : l.any q = true
    · rw [if_neg (fun h => (h2.1 (by omega)) hn), if_pos hn]
    · rw [if_pos (by have := h2.2 hn; omega), if_neg hn]
theorem verdict_same {c : Cu} (k0 : CuOk c) (hne : sTruth c ≠ []) (p : Sc → Bool) (q : Tr2 → Bool) (h : ∀ t, p (tS t) = q t) :
    sVerdict (sBounds ((sTruth c).map fun s => if p s = true then 1 else 0)) = rVerdict ((rTruths c).countP q) (rTruths c).length := by
  have hne2 : rTruths c ≠ [] := fun e => hne ((same_nil k0).2 e)
  rw [sVerdict_01 p hne, rVerdict_count q hne2]
  have e1 : (sTruth c).all p = (rTruths c).all q := by
    rw [Bool.eq_iff_iff, List.all_eq_true, List.all_eq_true]
    constructor
    · intro ha t ht; rw [← h]; exact ha _ ((same_truths k0 _).2 ⟨t, ht, rfl⟩)
    · intro ha s hs
      obtain ⟨t, ht, rfl⟩ := (same_truths k0 s).1 hs
      rw [h]; exact ha t ht
  have e2 : (sTruth c).any p = (rTruths c).any q := by
    rw [Bool.eq_iff_iff, List.any_eq_true, List.any_eq_true]
    constructor
    · rintro ⟨s, hs, hp⟩
      obtain ⟨t, ht, rfl⟩ := (same_truths k0 s).1 hs
      exact ⟨t, ht, by rw [← h]; exact hp⟩
    · rintro ⟨t, ht, hq⟩
      exact ⟨tS t, (same_truths k0 _).2 ⟨t, ht, rfl⟩, by rw [h]; exact hq⟩
  rw [e1, e2]
theorem keeps_same {c : Cu} (A : AskOk c true) {i : Nat} (hi : (i : Int) ≤ c.last) : kpF c i = rKeeps c (rTruths c) i := by
  exact verdict_same A.k0 A.ne (fun s => gB (sPast c c.coal c.want s).kept i) (fun t => keptI c c.coal c.want t i) fun t => past_kept c.coal c.want (tS t) hi
/-- All promises are kept in a truth. -/
def wholeI (c : Cu) (coal want : List Int) (t : Tr2) : Bool := (List.range (c.last + 1).toNat).all fun i => keptI c coal want t i
def rWholes (c : Cu) (l : List Tr2) (coal want : List Int) : Int := rVerdict (l.countP fun t => wholeI c coal want t) l.length
theorem wholes_same {c : Cu} (k0 : CuOk c) (hne : sTruth c ≠ []) (coal want : List Int) : sVerdict (sBounds ((sTruth c).map fun s => if (sPast c coal want s).kept.any (fun y => decide (false = y)) then 0 else 1)) = rWholes c (rTruths c) coal want := by
  have e : (fun s : Sc => if (sPast c coal want s).kept.any (fun y => decide (false = y)) = true then (0 : Int) else 1) = fun s => if sKept c coal want s = true then 1 else 0 := by
    funext s
    by_cases h : ((sPast c coal want s).kept.any fun y => decide (false = y)) = true
    · have h2 : sKept c coal want s = false := by rw [sKept, h]; rfl
      rw [if_pos h, if_neg (by rw [h2]; simp)]
    · have h2 : sKept c coal want s = true := by
        rw [Bool.not_eq_true] at h
        rw [sKept, h]; rfl
      rw [if_neg h, if_pos h2]
  rw [e]
  refine verdict_same k0 hne (fun s => sKept c coal want s) (fun t => wholeI c coal want t) fun t => ?_
  simp only [sKept]
  rw [past_whole, Bool.not_not]
  rfl
/-- The numbers of two lists, added. -/
def addL (a b : List Int) : List Int := (List.range a.length).map fun (i : Nat) => gi a i + gi b i
theorem sAdd_eq {a b : List Int} : sAdd a b a.length = addL a b := by
  refine List.ext_getElem? fun j => ?_
  by_cases hj : j < a.length
  · have h1 := sAdd_get a b a.length j hj
    rw [if_pos hj] at h1
    have hl := sAdd_len a b a.length
    rw [gi_get (l := sAdd a b a.length) (by omega), h1, addL, List.getElem?_map, List.getElem?_range hj]
    rfl
  · rw [List.getElem?_eq_none (by rw [sAdd_len]; omega), List.getElem?_eq_none (by simp [addL]; omega)]
theorem with_same {c : Cu} (k0 : CuOk c) (hne : sTruth c ≠ []) {more : List Int} (hm : more.length = c.want.length) : sWith c (sTruth c) more = rWholes c (rTruths c) c.coal (addL c.want more) := by
  have := wholes_same k0 hne c.coal (addL c.want more)
  rw [← this, sWith, hm, sAdd_eq]
end Go.Vm

set_option linter.unusedVariables false
set_option linter.unusedSimpArgs false
set_option maxRecDepth 100000
namespace Go.Vm
open Go.Proofs
/-! ### the reference: all promises; spare buckets; the hour that may lack -/
set_option maxHeartbeats 1000000 in
theorem c_rWhole (c : Cu) (t : Tr2) (coal want : List Int) (k : TrOk c t coal want) : Pu Try.prog (.fn 88 [] []) [.agg c.cs, .agg t.cs, vI coal, vI want] (.bool (wholeI c coal want t)) := by
  have hl := k.play.last
  refine Ev.fn Try.func88 rfl rfl (Fn.body tabOk Try.func88 rfl (Nat.le_of_ble_eq_true rfl) (Ks.ok (fz := (fzn [])) (cl := (cln [])) tabOk mixed ?_))
  generalize hQ : FnPost tt Try.f88 _ _ = Q
  simp only [Try.f88, List.nil_append, List.append_nil, argsEnv, Nat.reduceAdd]
  have hts : t.cs.take 2 = t.cs := rfl
  have htn : t.cs.length = 2 := rfl
  simp only [gos, eq_self, Nat.reduceLT, Nat.reduceEqDiff, reduceCtorEq, reduceIte, ↓reduceIte, vgo, vout, vguard, callOf, vop, ev, cv, newRow]
  refine W.loop tabOk mixed (fun i : Nat => ([(2, vI coal), (3, vI want), (4, .rop c.cs), (5, .rop t.cs), (9, vi i)], [])) (fun i => (c.last + 1).toNat - i) (fun i => (i : Int) ≤ c.last + 1 ∧ ∀ j : Nat, j < i → keptI c coal want t j = true) 0 ⟨by omega, fun j hj => by omega⟩ (Wk.env (by simp [subE, Env.get])) ?_
  rintro i ⟨hi, hno⟩
  by_cases hil : (i : Int) ≤ c.last
  · simp only [gos, eq_self, Nat.reduceLT, Nat.reduceEqDiff, reduceCtorEq, reduceIte, ↓reduceIte, tt, vgo, vout, vguard, callOf, vop, ev, vbin, vint, isShift, isNilConst, vload, hil, hts, htn]
    refine Cl.pu (c_rKept c t coal want k i hil) ?_ rfl (by simp only [V.into, intoL, vI_into, cu_into, Bool.and_true, Tr2.cs])
    rw [show decide (gi want i ≤ (sHeat c (tS t) coal want i).tdiv c.per) = keptI c coal want t i from rfl]
    cases hk : keptI c coal want t i with
    | true =>
      simp only [gos, eq_self, Nat.reduceLT, Nat.reduceEqDiff, reduceIte, ↓reduceIte, vgo, vout, vguard, callOf, vop, ev, cv, vbin, vint, isShift, isNilConst]
      refine Nx.mk (i + 1) (show (c.last + 1).toNat - (i + 1) < (c.last + 1).toNat - i by omega) ⟨by omega, fun j hj => ?_⟩ (Wk.env (by simp [subE, Env.get, i64_succ (show (i : Int) < 9223372036854775807 by omega)]))
      rcases Nat.lt_succ_iff_lt_or_eq.1 hj with h | rfl
      · exact hno j h
      · exact hk
    | false =>
      simp only [gos, eq_self, Nat.reduceLT, reduceIte, ↓reduceIte, vgo, vout, vguard, callOf, vop, ev, cv]
      have hf : wholeI c coal want t = false := by
        rw [Bool.eq_false_iff]; intro ha
        simp only [wholeI, List.all_eq_true, List.mem_range] at ha
        rw [ha i (by omega)] at hk; cases hk
      subst hQ
      exact FnPost.plain trivial (fun h2 e => by first | rfl | (simp only [Try.f88, vres, vresL, vres1, e _, gos, if_true, if_false, ne_eq, eq_self, Nat.reduceLT, Nat.reduceEqDiff, Nat.reduceAdd, Nat.reduceMul, Nat.reduceLeDiff, Nat.reduceBEq, reduceCtorEq, reduceIte, Array.toList, ↓reduceIte, tt, vgo, vout, vgoD, voutD, vclsOk, vids, mayWrite, V.ids, V.mids, vguard, callOf, vop, ev, cv, vbin, vint, isShift, isNilConst, vnil, isNilSlice, vload, vlen, newRow, vfill, vslice, entOf, vappend, srcOf, vcopy, vlookup, vupdate, mapOk, keyOf, intsOf, clsAt]; try rfl)) (WkV.pure (by simp only [V.into])) ⟨by rw [hf], rfl⟩
  · simp only [gos, eq_self, Nat.reduceLT, Nat.reduceEqDiff, reduceCtorEq, reduceIte, ↓reduceIte, tt, vgo, vout, vguard, callOf, vop, ev, cv, vbin, vint, isShift, isNilConst, vload, hil]
    have ht : wholeI c coal want t = true := by
      simp only [wholeI, List.all_eq_true, List.mem_range]
      exact fun j hj => hno j (by omega)
    subst hQ
    exact FnPost.plain trivial (fun h2 e => by first | rfl | (simp only [Try.f88, vres, vresL, vres1, e _, gos, if_true, if_false, ne_eq, eq_self, Nat.reduceLT, Nat.reduceEqDiff, Nat.reduceAdd, Nat.reduceMul, Nat.reduceLeDiff, Nat.reduceBEq, reduceCtorEq, reduceIte, Array.toList, ↓reduceIte, tt, vgo, vout, vgoD, voutD, vclsOk, vids, mayWrite, V.ids, V.mids, vguard, callOf, vop, ev, cv, vbin, vint, isShift, isNilConst, vnil, isNilSlice, vload, vlen, newRow, vfill, vslice, entOf, vappend, srcOf, vcopy, vlookup, vupdate, mapOk, keyOf, intsOf, clsAt]; try rfl)) (WkV.pure (by simp only [V.into])) ⟨by rw [ht], rfl⟩
set_option maxHeartbeats 1000000 in
theorem c_rWholes (c : Cu) (l : List Tr2) (coal want : List Int) (hl : (l.length : Int) ≤ 1000000) (hok : ∀ t ∈ l, TrOk c t coal want) : Pu Try.prog (.fn 33 [] []) [.agg c.cs, vT l, vI coal, vI want] (vi (rWholes c l coal want)) := by
  refine Ev.fn Try.func33 rfl rfl (Fn.body tabOk Try.func33 rfl (Nat.le_of_ble_eq_true rfl) (Ks.ok (fz := (fzn [])) (cl := (cln [(5, .d tg0 [cP, cP, cP, cP, cP, cP, cP, cP])])) tabOk mixed ?_))
  generalize hQ : FnPost tt Try.f33 _ _ = Q
  simp only [Try.f33, List.nil_append, List.append_nil, argsEnv, Nat.reduceAdd]
  simp only [gos, eq_self, Nat.reduceLT, Nat.reduceEqDiff, reduceCtorEq, reduceIte, ↓reduceIte, vgo, vout, vguard, callOf, vop, ev, cv, newRow]
  refine W.loop tabOk mixed (fun i : Nat => ([(1, vT l), (2, vI coal), (3, vI want), (4, .rop c.cs), (9, vi ((l.take i).countP fun t => wholeI c coal want t)), (10, vi i)], [])) (fun i => l.length - i) (fun i => i ≤ l.length) 0 (by omega) (Wk.env (by simp [subE, Env.get])) ?_
  intro i hi
  by_cases hil : (i : Int) < l.length
  · have ht := hok _ (List.mem_of_getElem? (gT_get hil))
    have hcs := count_snoc l (fun t => wholeI c coal want t) hil
    have hle : (l.take i).countP (fun t => wholeI c coal want t) ≤ i := Nat.le_trans List.countP_le_length (by rw [List.length_take]; exact Nat.min_le_left _ _)
    simp only [gos, eq_self, Nat.reduceLT, Nat.reduceEqDiff, reduceIte, ↓reduceIte, tt, vgo, vout, vguard, callOf, vop, ev, vbin, vint, isShift, isNilConst, vlen, vT, hil]
    refine Wr.draw (by kernel_rfl) ?_
    simp only [gos, eq_self, Nat.reduceLT, Nat.reduceEqDiff, Nat.reduceAdd, reduceCtorEq, reduceIte, ↓reduceIte, tt, vgoD, voutD, vclsOk, vids, mayWrite, V.ids, vguard, callOf, vop, ev, vload, clsAt, hil, cT_at (Int.natCast_nonneg i) hil]
    refine CD.pu (c_rWhole c (gT l i) coal want ht) ?_ rfl (by simp only [V.into, intoL, vI_into, cu_into, Bool.and_true])
    cases hk : wholeI c coal want (gT l i) with
    | true =>
      rw [hk] at hcs
      simp only [gos, eq_self, Nat.reduceLT, Nat.reduceEqDiff, reduceIte, ↓reduceIte, vgo, vout, vguard, callOf, vop, ev, cv, vbin, vint, isShift, isNilConst, i64_succ (show (((l.take i).countP fun t => wholeI c coal want t : Nat) : Int) < 9223372036854775807 by omega)]
      exact Nx.mk (i + 1) (show l.length - (i + 1) < l.length - i by omega) (by omega) (Wk.env (by simp [subE, Env.get, hcs, i64_succ (show (i : Int) < 9223372036854775807 by omega)]))
    | false =>
      rw [hk] at hcs
      simp only [gos, eq_self, Nat.reduceLT, Nat.reduceEqDiff, reduceIte, ↓reduceIte, vgo, vout, vguard, callOf, vop, ev, cv, vbin, vint, isShift, isNilConst]
      exact Nx.mk (i + 1) (show l.length - (i + 1) < l.length - i by omega) (by omega) (Wk.env (by simp [subE, Env.get, hcs, i64_succ (show (i : Int) < 9223372036854775807 by omega)]))
  · have e : l.take i = l := List.take_of_length_le (by omega)
    simp only [gos, eq_self, Nat.reduceLT, Nat.reduceEqDiff, reduceIte, ↓reduceIte, tt, vgo, vout, vguard, callOf, vop, ev, vbin, vint, isShift, isNilConst, vlen, vT, hil, e]
    refine Cl.pu (c_rVerdict _ _) ?_
    simp only [gos, eq_self, Nat.reduceLT, reduceIte, ↓reduceIte, vgo, vout, vguard, callOf, vop, ev]
    subst hQ
    exact FnPost.plain trivial (fun h2 e => by first | rfl | (simp only [Try.f33, vres, vresL, vres1, e _, gos, if_true, if_false, ne_eq, eq_self, Nat.reduceLT, Nat.reduceEqDiff, Nat.reduceAdd, Nat.reduceMul, Nat.reduceLeDiff, Nat.reduceBEq, reduceCtorEq, reduceIte, Array.toList, ↓reduceIte, tt, vgo, vout, vgoD, voutD, vclsOk, vids, mayWrite, V.ids, V.mids, vguard, callOf, vop, ev, cv, vbin, vint, isShift, isNilConst, vnil, isNilSlice, vload, vlen, newRow, vfill, vslice, entOf, vappend, srcOf, vcopy, vlookup, vupdate, mapOk, keyOf, intsOf, clsAt]; try rfl)) (WkV.pure (by simp only [V.into])) ⟨rfl, rfl⟩
theorem addL_len (a b : List Int) : (addL a b).length = a.length := by simp [addL]
def addN (a b : List Int) (n : Nat) : List Int := (List.range n).map fun (i : Nat) => gi a i + gi b i
theorem addN_succ (a b : List Int) (n : Nat) : addN a b (n + 1) = addN a b n ++ [gi a n + gi b n] := by simp [addN, List.range_succ]
set_option maxHeartbeats 1000000 in
theorem c_rSum (a b : List Int) (ha : (a.length : Int) ≤ 100000) (hb : a.length ≤ b.length) (hx : ∀ i : Nat, i < a.length → -1000000 ≤ gi a i + gi b i ∧ gi a i + gi b i ≤ 1000000) : Pu Try.prog (.fn 34 [] []) [vI a, vI b] (vI (addL a b)) := by
  refine Ev.fn Try.func34 rfl rfl (Fn.body tabOk Try.func34 rfl (Nat.le_of_ble_eq_true rfl) (Ks.ok (fz := (fzn [])) (cl := (cln [(5, .d (tgL [(24, 1)]) [cP, cP, cP, cP, cP, cP, cP, cP, cP, cP, cP, some ([1], [1]), cP])])) tabOk mixed ?_))
  generalize hQ : FnPost tt Try.f34 _ _ = Q
  simp only [Try.f34, List.nil_append, List.append_nil, argsEnv, Nat.reduceAdd]
  simp only [gos, eq_self, Nat.reduceLT, Nat.reduceEqDiff, reduceCtorEq, reduceIte, ↓reduceIte, vgo, vout, vguard, callOf, vop, ev, cv, vI]
  refine W.loop tabOk mixed (fun i : Nat => ([(0, vI a), (1, vI b), (5, .own 24 i 0 1 i), (6, vi i)], [(24, ⟨i, .row (cI (addN a b i))⟩)])) (fun i => a.length - i) (fun i => i ≤ a.length) 0 (by omega) (Wk.trans (Wk.sl0E 5 24 1 rfl rfl) (Wk.env (by simp [subE, Env.get, vI]))) ?_
  intro i hi
  by_cases hil : (i : Int) < a.length
  · have hil2 : (i : Int) < b.length := by omega
    have hxx := hx i (by omega)
    have hn : (cI (addN a b i)).length = i * 1 := by rw [cI_len]; simp [addN]
    have hi9 : i ≤ 999999 := by omega
    simp only [gos, eq_self, Nat.reduceLT, Nat.reduceEqDiff, reduceCtorEq, reduceIte, ↓reduceIte, tt, vgo, vout, vguard, callOf, vop, ev, vbin, vint, isShift, isNilConst, vlen, vI, hil]
    refine Wr.draw (by kernel_rfl) ?_
    simp only [gos, eq_self, Nat.reduceLT, Nat.reduceEqDiff, Nat.reduceAdd, Nat.reduceMul, Nat.reduceLeDiff, reduceCtorEq, reduceIte, ↓reduceIte, tt, vgo, vout, vgoD, voutD, vclsOk, vids, mayWrite, V.ids, vguard, callOf, vop, ev, cv, vbin, vint, isShift, isNilConst, vload, vfill, vappend, srcOf, clsAt, hil, hil2, cI_at (Int.natCast_nonneg i) hil, cI_at (Int.natCast_nonneg i) hil2, hn, hi9, i64_in (show -9223372036854775808 ≤ gi a i + gi b i by omega) (show gi a i + gi b i ≤ 9223372036854775807 by omega)]
    refine Nx.mk (i + 1) (show a.length - (i + 1) < a.length - i by omega) (by omega) (Wk.heap (fun j => ?_) ?_)
    · rw [addN_succ, cI_snoc]
    · simp [subE, Env.get, i64_succ (show (i : Int) < 9223372036854775807 by omega)]
  · have hie : i = a.length := by omega
    simp only [gos, eq_self, Nat.reduceLT, Nat.reduceEqDiff, reduceCtorEq, reduceIte, ↓reduceIte, tt, vgo, vout, vguard, callOf, vop, ev, vbin, vint, isShift, isNilConst, vlen, vI, hil]
    subst hQ
    have hl : (addN a b i).length = i := by simp [addN]
    have ht : (cI (addN a b i)).take i = cI (addN a b i) := List.take_of_length_le (by rw [cI_len]; omega)
    have e : addL a b = addN a b i := by rw [hie]; rfl
    rw [e]
    refine FnPost.plain trivial (v := .own 24 i 0 1 i) (fun h2 e => by rfl) (WkV.frz 24 (v' := vI (addN a b i)) (h' := []) (ver := i) (cs := cI (addN a b i)) rfl rfl (cI_into _ _) rfl ?_ ?_ WkV.refl) ⟨rfl, rfl⟩
    · simp [V.frz, vI, ht, hl]
    · simp [frzH]
theorem c_rSingle (c : Cu) (hl : 0 ≤ c.last ∧ c.last ≤ 4) (hour n : Int) (hh : 0 ≤ hour ∧ hour ≤ c.last) : Pu Try.prog (.fn 73 [] []) [.agg c.cs, vi hour, vi n] (vI (moreAt c hour n)) := by
  refine Ev.fn Try.func73 rfl rfl (Fn.body tabOk Try.func73 rfl (Nat.le_of_ble_eq_true rfl) (Ks.ok (fz := (fzn [11])) (cl := (cln [])) tabOk mixed ?_))
  generalize hQ : FnPost tt Try.f73 _ _ = Q
  simp only [Try.f73, List.nil_append, List.append_nil, argsEnv, Nat.reduceAdd]
  have hge : 0 ≤ c.last + 1 := by omega
  have hle : c.last + 1 ≤ 1000000 := by omega
  have h1 : 0 ≤ hour := hh.1
  have h2 : hour < ((c.last + 1).toNat : Int) := by omega
  have hm0 := moreAt_zero c hour
  have hz : zeros [V.int IntKind.i64 0] (c.last + 1).toNat = cI (moreAt c hour 0) := by rw [hm0]; exact zeros_vi _
  have hlen : hour.toNat + 1 ≤ (cI (moreAt c hour 0)).length := by rw [cI_len, moreAt_len]; omega
  have hset : List.take hour.toNat (cI (moreAt c hour 0)) ++ [vi n] ++ List.drop (hour.toNat + 1) (cI (moreAt c hour 0)) = cI (moreAt c hour n) := by
    rw [cI_set _ (by rw [moreAt_len]; omega), moreAt_set]
  simp only [gos, eq_self, Nat.reduceLT, Nat.reduceEqDiff, Nat.reduceLeDiff, reduceCtorEq, reduceIte, ↓reduceIte, tt, vgo, vout, vguard, callOf, vop, ev, cv, vbin, vint, isShift, isNilConst, vload, newRow, i64_in (show -9223372036854775808 ≤ c.last + 1 by omega) (show c.last + 1 ≤ 9223372036854775807 by omega), hge, hle, h1, h2, Nat.zero_add, Nat.mul_one, hz, hlen, hset]
  subst hQ
  have hl2 := moreAt_len c hour n
  have ht : (cI (moreAt c hour n)).take (c.last + 1).toNat = cI (moreAt c hour n) := List.take_of_length_le (by rw [cI_len]; omega)
  refine FnPost.plain trivial (v := .own 11 0 0 1 (c.last + 1).toNat) (fun h2 e => by rfl) (WkV.frz 11 (v' := vI (moreAt c hour n)) (h' := []) (ver := 0) (cs := cI (moreAt c hour n)) rfl rfl (cI_into _ _) rfl ?_ ?_ WkV.refl) ⟨rfl, rfl⟩
  · simp [V.frz, vI, ht, hl2]
  · simp [frzH]
/-- The greatest number that is kept. -/
def rSpare (c : Cu) (l : List Tr2) (hour : Int) : Nat → Int
  | 0 => -1
  | n + 1 => if rWholes c l c.coal (addL c.want (moreAt c hour (n : Int))) = 1 then (n : Int) else rSpare c l hour n
set_option maxHeartbeats 1000000 in
theorem c_rSpare (c : Cu) (k0 : CuOk c) (l : List Tr2) (hl : (l.length : Int) ≤ 1000000) (hok : ∀ t ∈ l, T2Ok c t) (hour : Int) (hh : 0 ≤ hour ∧ hour ≤ c.last) : Pu Try.prog (.fn 35 [] []) [.agg c.cs, vT l, vi hour] (vi (rSpare c l hour 21)) := by
  have hla := k0.last
  have hw := k0.want
  refine Ev.fn Try.func35 rfl rfl (Fn.body tabOk Try.func35 rfl (Nat.le_of_ble_eq_true rfl) (Ks.ok (fz := (fzn [])) (cl := (cln [(5, .d tg0 [cP, cP, cP, cP, cP, cP, cP, cP, cP, cP, cP, cP, cP])])) tabOk mixed ?_))
  generalize hQ : FnPost tt Try.f35 _ _ = Q
  simp only [Try.f35, List.nil_append, List.append_nil, argsEnv, Nat.reduceAdd]
  simp only [gos, eq_self, Nat.reduceLT, Nat.reduceEqDiff, reduceCtorEq, reduceIte, ↓reduceIte, vgo, vout, vguard, callOf, vop, ev, cv, newRow]
  refine W.loop tabOk mixed (fun i : Nat => ([(1, vT l), (2, vi hour), (3, .rop c.cs), (7, vi (rSpare c l hour i)), (8, vi i)], [])) (fun i => 21 - i) (fun i => i ≤ 21) 0 (by omega) (Wk.env (by simp [subE, Env.get, rSpare])) ?_
  intro i hi
  by_cases hil : i ≤ 20
  · have hd : decide ((i : Int) ≤ 20) = true := by rw [decide_eq_true_eq]; omega
    have hmo := moreAt_le (c := c) (hour := hour) (n := (i : Int)) (by omega)
    have hml := moreAt_len c hour (i : Int)
    have hmi : ((moreAt c hour (i : Int)).length : Int) = c.last + 1 := by rw [hml]; omega
    simp only [gos, eq_self, Nat.reduceLT, Nat.reduceEqDiff, reduceIte, ↓reduceIte, vgo, vout, vguard, callOf, vop, ev, cv, vbin, vint, isShift, isNilConst, hd]
    refine Wr.draw (by kernel_rfl) ?_
    simp only [gos, eq_self, Nat.reduceLT, Nat.reduceEqDiff, Nat.reduceAdd, reduceCtorEq, reduceIte, ↓reduceIte, tt, vgoD, voutD, vclsOk, vids, mayWrite, V.ids, vguard, callOf, vop, ev, vload, clsAt]
    refine CD.pu (c_rSingle c hla hour i hh) ?_ rfl (by simp only [V.into, intoL, cu_into, Bool.and_true])
    simp only [gos, eq_self, Nat.reduceLT, Nat.reduceEqDiff, reduceIte, ↓reduceIte, vgoD, voutD, vguard, callOf, ev]
    refine CD.pu (c_rSum c.want (moreAt c hour i) (by omega) (by omega) (fun j hj => by have := with_b k0 hmi hmo j hj; omega)) ?_ rfl (by simp only [intoL, vI_into, Bool.and_true])
    simp only [gos, eq_self, Nat.reduceLT, Nat.reduceEqDiff, reduceIte, ↓reduceIte, vgoD, voutD, vguard, callOf, ev]
    refine CD.pu (c_rWholes c l c.coal (addL c.want (moreAt c hour i)) hl (fun t ht => ⟨?_, (hok t ht).len⟩)) ?_ rfl (by simp only [V.into, intoL, vI_into, cu_into, Bool.and_true, vT_into])
    · rw [← sAdd_eq, show c.want.length = (moreAt c hour (i : Int)).length by omega]
      exact with_ok k0 hmi hmo (hok t ht).sc
    by_cases hr : rWholes c l c.coal (addL c.want (moreAt c hour (i : Int))) = 1
    · have hb : decide (rWholes c l c.coal (addL c.want (moreAt c hour (i : Int))) = 1) = true := by simp [hr]
      have hs : rSpare c l hour (i + 1) = (i : Int) := by simp [rSpare, hr]
      simp only [gos, eq_self, Nat.reduceLT, Nat.reduceEqDiff, reduceIte, ↓reduceIte, vgo, vout, vgoD, voutD, vclsOk, vids, mayWrite, vguard, callOf, vop, ev, cv, vbin, vint, isShift, isNilConst, hb]
      exact Nx.mk (i + 1) (show 21 - (i + 1) < 21 - i by omega) (by omega) (Wk.env (by simp [subE, Env.get, hs, i64_succ (show (i : Int) < 9223372036854775807 by omega)]))
    · have hb : decide (rWholes c l c.coal (addL c.want (moreAt c hour (i : Int))) = 1) = false := by simp [hr]
      have hs : rSpare c l hour (i + 1) = rSpare c l hour i := by simp [rSpare, hr]
      simp only [gos, eq_self, Nat.reduceLT, Nat.reduceEqDiff, reduceIte, ↓reduceIte, vgo, vout, vgoD, voutD, vclsOk, vids, mayWrite, vguard, callOf, vop, ev, cv, vbin, vint, isShift, isNilConst, hb]
      exact Nx.mk (i + 1) (show 21 - (i + 1) < 21 - i by omega) (by omega) (Wk.env (by simp [subE, Env.get, hs, i64_succ (show (i : Int) < 9223372036854775807 by omega)]))
  · have hie : i = 21 := by omega
    subst hie
    have hd : decide (((21 : Nat) : Int) ≤ 20) = false := by decide
    simp only [gos, eq_self, Nat.reduceLT, Nat.reduceEqDiff, reduceIte, ↓reduceIte, vgo, vout, vguard, callOf, vop, ev, cv, vbin, vint, isShift, isNilConst, hd]
    subst hQ
    exact FnPost.plain trivial (fun h2 e => by first | rfl | (simp only [Try.f35, vres, vresL, vres1, e _, gos, if_true, if_false, ne_eq, eq_self, Nat.reduceLT, Nat.reduceEqDiff, Nat.reduceAdd, Nat.reduceMul, Nat.reduceLeDiff, Nat.reduceBEq, reduceCtorEq, reduceIte, Array.toList, ↓reduceIte, tt, vgo, vout, vgoD, voutD, vclsOk, vids, mayWrite, V.ids, V.mids, vguard, callOf, vop, ev, cv, vbin, vint, isShift, isNilConst, vnil, isNilSlice, vload, vlen, newRow, vfill, vslice, entOf, vappend, srcOf, vcopy, vlookup, vupdate, mapOk, keyOf, intsOf, clsAt]; try rfl)) (WkV.pure (by simp only [V.into])) ⟨rfl, rfl⟩
def rLacks (c : Cu) (l : List Tr2) : Int := match (List.range (c.last + 1).toNat).find? fun i => decide (rKeeps c l i ≠ 1) with
  | some i => i
  | none => -1
set_option maxHeartbeats 1000000 in
theorem c_rLacks (c : Cu) (k0 : CuOk c) (l : List Tr2) (hl : (l.length : Int) ≤ 1000000) (hok : ∀ t ∈ l, TrOk c t c.coal c.want) : Pu Try.prog (.fn 72 [] []) [.agg c.cs, vT l] (vi (rLacks c l)) := by
  have hla := k0.last
  refine Ev.fn Try.func72 rfl rfl (Fn.body tabOk Try.func72 rfl (Nat.le_of_ble_eq_true rfl) (Ks.ok (fz := (fzn [])) (cl := (cln [])) tabOk mixed ?_))
  generalize hQ : FnPost tt Try.f72 _ _ = Q
  simp only [Try.f72, List.nil_append, List.append_nil, argsEnv, Nat.reduceAdd]
  simp only [gos, eq_self, Nat.reduceLT, reduceIte, ↓reduceIte, vgo, vout, vguard, callOf, vop, ev, cv, newRow]
  refine W.loop tabOk mixed (fun i : Nat => ([(1, vT l), (2, .rop c.cs), (5, vi i)], [])) (fun i => (c.last + 1).toNat - i) (fun i => (i : Int) ≤ c.last + 1 ∧ ∀ j : Nat, j < i → decide (rKeeps c l j ≠ 1) = false) 0 ⟨by omega, fun j hj => by omega⟩ (Wk.env (by simp [subE, Env.get])) ?_
  rintro i ⟨hi, hno⟩
  by_cases hil : (i : Int) ≤ c.last
  · simp only [gos, ne_eq, eq_self, Nat.reduceLT, Nat.reduceEqDiff, reduceCtorEq, reduceIte, ↓reduceIte, tt, vgo, vout, vguard, callOf, vop, ev, vbin, vint, isShift, isNilConst, vload, hil]
    refine Cl.pu (c_rKeeps c l hl hok i hil) ?_ rfl (by simp only [V.into, intoL, cu_into, Bool.and_true, vT_into])
    by_cases hr : rKeeps c l i = 1
    · have hb : (rKeeps c l i != 1) = false := by rw [bne_eq_false_iff_eq]; exact hr
      simp only [gos, eq_self, Nat.reduceLT, Nat.reduceEqDiff, reduceIte, ↓reduceIte, vgo, vout, vguard, callOf, vop, ev, cv, vbin, vint, isShift, isNilConst, hb]
      refine Nx.mk (i + 1) (show (c.last + 1).toNat - (i + 1) < (c.last + 1).toNat - i by omega) ⟨by omega, fun j hj => ?_⟩ (Wk.env (by simp [subE, Env.get, i64_succ (show (i : Int) < 9223372036854775807 by omega)]))
      rcases Nat.lt_succ_iff_lt_or_eq.1 hj with h | rfl
      · exact hno j h
      · simp [hr]
    · have hb : (rKeeps c l i != 1) = true := by simp only [bne_iff_ne, ne_eq, hr, not_false_eq_true]
      simp only [gos, eq_self, Nat.reduceLT, Nat.reduceEqDiff, reduceIte, ↓reduceIte, vgo, vout, vguard, callOf, vop, ev, cv, vbin, vint, isShift, isNilConst, hb]
      subst hQ
      exact FnPost.plain trivial (fun h2 e => by first | rfl | (simp only [Try.f72, vres, vresL, vres1, e _, gos, if_true, if_false, ne_eq, eq_self, Nat.reduceLT, Nat.reduceEqDiff, Nat.reduceAdd, Nat.reduceMul, Nat.reduceLeDiff, Nat.reduceBEq, reduceCtorEq, reduceIte, Array.toList, ↓reduceIte, tt, vgo, vout, vgoD, voutD, vclsOk, vids, mayWrite, V.ids, V.mids, vguard, callOf, vop, ev, cv, vbin, vint, isShift, isNilConst, vnil, isNilSlice, vload, vlen, newRow, vfill, vslice, entOf, vappend, srcOf, vcopy, vlookup, vupdate, mapOk, keyOf, intsOf, clsAt]; try rfl)) (WkV.pure (by simp only [V.into])) ⟨by rw [rLacks, find_range (a := i) (by omega) (by simp [hr]) hno], rfl⟩
  · simp only [gos, ne_eq, eq_self, Nat.reduceLT, Nat.reduceEqDiff, reduceCtorEq, reduceIte, ↓reduceIte, tt, vgo, vout, vguard, callOf, vop, ev, cv, vbin, vint, isShift, isNilConst, vload, hil]
    subst hQ
    exact FnPost.plain trivial (fun h2 e => by first | rfl | (simp only [Try.f72, vres, vresL, vres1, e _, gos, if_true, if_false, ne_eq, eq_self, Nat.reduceLT, Nat.reduceEqDiff, Nat.reduceAdd, Nat.reduceMul, Nat.reduceLeDiff, Nat.reduceBEq, reduceCtorEq, reduceIte, Array.toList, ↓reduceIte, tt, vgo, vout, vgoD, voutD, vclsOk, vids, mayWrite, V.ids, V.mids, vguard, callOf, vop, ev, cv, vbin, vint, isShift, isNilConst, vnil, isNilSlice, vload, vlen, newRow, vfill, vslice, entOf, vappend, srcOf, vcopy, vlookup, vupdate, mapOk, keyOf, intsOf, clsAt]; try rfl)) (WkV.pure (by simp only [V.into])) ⟨by rw [rLacks, List.find?_eq_none.2 (fun j hj => by rw [List.mem_range] at hj; rw [hno j (by omega)]; simp)], rfl⟩
end Go.Vm

set_option linter.unusedVariables false
set_option linter.unusedSimpArgs false
set_option maxRecDepth 100000
namespace Go.Vm
open Go.Proofs
/-! ### the reference: is an argument a truth? -/
set_option maxHeartbeats 1000000 in
theorem c_rIsListed (c : Cu) (k0 : CuOk c) (t : Tr2) (htl : (t.loss.length : Int) ≤ 1000000) : Pu Try.prog (.fn 61 [] []) [.agg c.cs, .agg t.cs] (.bool (sScOk c t)) := by
  have hl := k0.last
  have hll := k0.loss.1
  refine Ev.fn Try.func61 rfl rfl (Fn.body tabOk Try.func61 rfl (Nat.le_of_ble_eq_true rfl) (Ks.ok (fz := (fzn [])) (cl := (cln [(6, .d tg0 [cP, cP, cP, cP, cP, cP, cP, cP, cP, cP, cP, cP])])) tabOk mixed ?_))
  generalize hQ : FnPost tt Try.f61 _ _ = Q
  simp only [Try.f61, List.nil_append, List.append_nil, argsEnv, Nat.reduceAdd]
  have hts : t.cs.take 2 = t.cs := rfl
  simp only [gos, eq_self, Nat.reduceLT, Nat.reduceEqDiff, Nat.reduceLeDiff, reduceCtorEq, reduceIte, ↓reduceIte, tt, vgo, vout, vguard, callOf, vop, ev, cv, vload, newRow, Tr2.cs]
  refine Cl.pu (c_rIs _ _) ?_
  cases h1 : sIn t.heat c.heat.lo c.heat.hi with
  | false =>
    simp only [gos, eq_self, Nat.reduceLT, Nat.reduceEqDiff, reduceIte, ↓reduceIte, vgo, vout, vguard, callOf, vop, ev, cv]
    subst hQ
    exact FnPost.plain trivial (v := .bool false) (fun h2 e => by rfl) WkV.refl ⟨by simp [sScOk, h1], rfl⟩
  | true =>
  by_cases h2 : (t.loss.length : Int) = c.last + 1
  case neg =>
    have hb : ((t.loss.length : Int) != c.loss.length) = true := by rw [bne_iff_ne, ne_eq, hll]; exact h2
    simp only [gos, eq_self, Nat.reduceLT, Nat.reduceEqDiff, reduceCtorEq, reduceIte, ↓reduceIte, tt, vgo, vout, vguard, callOf, vop, ev, cv, vbin, vint, isShift, isNilConst, vload, vlen, vI, vR, hb]
    subst hQ
    exact FnPost.plain trivial (v := .bool false) (fun h2 e => by rfl) WkV.refl ⟨by simp [sScOk, h2], rfl⟩
  have hb : ((t.loss.length : Int) != c.loss.length) = false := by rw [bne_eq_false_iff_eq]; omega
  simp only [gos, eq_self, Nat.reduceLT, Nat.reduceEqDiff, reduceCtorEq, reduceIte, ↓reduceIte, tt, vgo, vout, vguard, callOf, vop, ev, cv, vbin, vint, isShift, isNilConst, vload, vlen, vI, vR, hb]
  refine W.loop tabOk mixed (fun i : Nat => ([(2, .rop c.cs), (3, .rop [vi t.heat, vI t.loss]), (5, vi i)], [])) (fun i => t.loss.length - i) (fun i => i ≤ t.loss.length ∧ ∀ j : Nat, j < i → sIn (gi t.loss j) (gR c.loss j).lo (gR c.loss j).hi = true) 0 ⟨by omega, fun j hj => by omega⟩ (Wk.env (by simp [subE, Env.get, vI])) ?_
  rintro i ⟨hi, hno⟩
  by_cases hil : (i : Int) < t.loss.length
  · have hil2 : (i : Int) < c.loss.length := by omega
    simp only [gos, eq_self, Nat.reduceLT, Nat.reduceEqDiff, reduceCtorEq, reduceIte, ↓reduceIte, tt, vgo, vout, vguard, callOf, vop, ev, vbin, vint, isShift, isNilConst, vload, vlen, vI, hil]
    refine Wr.draw (by kernel_rfl) ?_
    simp only [gos, eq_self, Nat.reduceLT, Nat.reduceEqDiff, Nat.reduceAdd, reduceCtorEq, reduceIte, ↓reduceIte, tt, vgoD, voutD, vclsOk, vids, mayWrite, V.ids, vguard, callOf, vop, ev, vload, clsAt, vR, hil, hil2, cI_at (Int.natCast_nonneg i) hil, cR_at (Int.natCast_nonneg i) hil2]
    refine CD.pu (c_rIs _ _) ?_
    cases hr : sIn (gi t.loss i) (gR c.loss i).lo (gR c.loss i).hi with
    | true =>
      simp only [gos, eq_self, Nat.reduceLT, Nat.reduceEqDiff, reduceIte, ↓reduceIte, vgo, vout, vgoD, voutD, vclsOk, vids, mayWrite, vguard, callOf, vop, ev, cv, vbin, vint, isShift, isNilConst]
      refine Nx.mk (i + 1) (show t.loss.length - (i + 1) < t.loss.length - i by omega) ⟨by omega, fun j hj => ?_⟩ (Wk.env (by simp [subE, Env.get, i64_succ (show (i : Int) < 9223372036854775807 by omega)]))
      rcases Nat.lt_succ_iff_lt_or_eq.1 hj with h | rfl
      · exact hno j h
      · exact hr
    | false =>
      simp only [gos, eq_self, Nat.reduceLT, Nat.reduceEqDiff, reduceIte, ↓reduceIte, vgo, vout, vgoD, voutD, vclsOk, vids, mayWrite, vguard, callOf, vop, ev, cv]
      subst hQ
      exact FnPost.plain trivial (v := .bool false) (fun h2 e => by rfl) WkV.refl ⟨by rw [sScOk, range_all_false (i := i) (by omega) hr, Bool.and_false], rfl⟩
  · simp only [gos, eq_self, Nat.reduceLT, Nat.reduceEqDiff, reduceCtorEq, reduceIte, ↓reduceIte, tt, vgo, vout, vguard, callOf, vop, ev, cv, vbin, vint, isShift, isNilConst, vload, vlen, vI, hil]
    subst hQ
    refine FnPost.plain trivial (v := .bool true) (fun h2 e => by rfl) WkV.refl ⟨?_, rfl⟩
    have : ((List.range t.loss.length).all fun (i : Nat) => sIn (gi t.loss i) (gR c.loss i).lo (gR c.loss i).hi) = true := by
      rw [List.all_eq_true]
      intro j hj
      rw [List.mem_range] at hj
      exact hno j (by omega)
    rw [sScOk, h1, this]
    simp [h2]
theorem t2ok_of {c : Cu} (k0 : CuOk c) {t : Tr2} (h : sScOk c t = true) : T2Ok c t ∧ sScene c t = tS t := by
  have e : sScene c t = tS t := by rw [sScene, if_pos h]; rfl
  have h1 := scOk_of k0 h
  rw [e] at h1
  simp only [sScOk, Bool.and_eq_true, decide_eq_true_eq] at h
  exact ⟨⟨h1, h.1.2⟩, e⟩
def rIsTruth (c : Cu) (t : Tr2) : Bool := sScOk c t && decide (rRight c t = rFull c)
theorem c_rIsTruth (c : Cu) (k0 : CuOk c) (t : Tr2) (htl : (t.loss.length : Int) ≤ 1000000) : Pu Try.prog (.fn 60 [] []) [.agg c.cs, .agg t.cs] (.bool (rIsTruth c t)) := by
  refine Ev.fn Try.func60 rfl rfl (Fn.body tabOk Try.func60 rfl (Nat.le_of_ble_eq_true rfl) (Ks.ok (fz := (fzn [])) (cl := (cln [(1, .d tg0 [cP, cP, cP, cP, cP, cP, cP, cP, cP, cP, cP, cP])])) tabOk mixed ?_))
  generalize hQ : FnPost tt Try.f60 _ _ = Q
  simp only [Try.f60, List.nil_append, List.append_nil, argsEnv, Nat.reduceAdd]
  have hts : t.cs.take 2 = t.cs := rfl
  have htn : t.cs.length = 2 := rfl
  simp only [gos, eq_self, Nat.reduceLT, Nat.reduceEqDiff, reduceCtorEq, reduceIte, ↓reduceIte, vgo, vout, vguard, callOf, vop, ev, cv, newRow]
  refine Wr.draw (by kernel_rfl) ?_
  simp only [gos, eq_self, Nat.reduceLT, Nat.reduceEqDiff, Nat.reduceAdd, reduceCtorEq, reduceIte, ↓reduceIte, tt, vgoD, voutD, vclsOk, vids, mayWrite, V.ids, vguard, callOf, vop, ev, vload, clsAt, hts, htn]
  refine CD.pu (c_rIsListed c k0 t htl) ?_ rfl (by simp only [V.into, intoL, vI_into, cu_into, Bool.and_true, Tr2.cs])
  cases h : sScOk c t with
  | false =>
    simp only [gos, eq_self, Nat.reduceLT, Nat.reduceEqDiff, reduceIte, ↓reduceIte, vgoD, voutD, vclsOk, vids, mayWrite, vguard, callOf, vop, ev, cv]
    subst hQ
    exact FnPost.plain trivial (fun h2 e => by first | rfl | (simp only [Try.f60, vres, vresL, vres1, e _, gos, if_true, if_false, ne_eq, eq_self, Nat.reduceLT, Nat.reduceEqDiff, Nat.reduceAdd, Nat.reduceMul, Nat.reduceLeDiff, Nat.reduceBEq, reduceCtorEq, reduceIte, Array.toList, ↓reduceIte, tt, vgo, vout, vgoD, voutD, vclsOk, vids, mayWrite, V.ids, V.mids, vguard, callOf, vop, ev, cv, vbin, vint, isShift, isNilConst, vnil, isNilSlice, vload, vlen, newRow, vfill, vslice, entOf, vappend, srcOf, vcopy, vlookup, vupdate, mapOk, keyOf, intsOf, clsAt]; try rfl)) (WkV.pure (by simp only [V.into])) ⟨by simp [rIsTruth, h], rfl⟩
  | true =>
    obtain ⟨h2, _⟩ := t2ok_of k0 h
    simp only [gos, eq_self, Nat.reduceLT, Nat.reduceEqDiff, reduceCtorEq, reduceIte, ↓reduceIte, tt, vgoD, voutD, vclsOk, vids, mayWrite, V.ids, vguard, callOf, vop, ev, vload, hts, htn]
    refine CD.pu (c_rRight c k0 t (h2.tr k0)) ?_ rfl (by simp only [V.into, intoL, vI_into, cu_into, Bool.and_true, Tr2.cs])
    simp only [gos, eq_self, Nat.reduceLT, Nat.reduceEqDiff, reduceCtorEq, reduceIte, ↓reduceIte, tt, vgoD, voutD, vclsOk, vids, mayWrite, V.ids, vguard, callOf, vop, ev, vload]
    refine CD.pu (c_rFull c k0.rds) ?_ rfl (by simp only [V.into, intoL, cu_into, Bool.and_true])
    simp only [gos, eq_self, Nat.reduceLT, Nat.reduceEqDiff, reduceIte, ↓reduceIte, vgoD, voutD, vclsOk, vids, mayWrite, vguard, callOf, vop, ev, vbin, vint, isShift, isNilConst]
    subst hQ
    exact FnPost.plain trivial (fun h2 e => by first | rfl | (simp only [Try.f60, vres, vresL, vres1, e _, gos, if_true, if_false, ne_eq, eq_self, Nat.reduceLT, Nat.reduceEqDiff, Nat.reduceAdd, Nat.reduceMul, Nat.reduceLeDiff, Nat.reduceBEq, reduceCtorEq, reduceIte, Array.toList, ↓reduceIte, tt, vgo, vout, vgoD, voutD, vclsOk, vids, mayWrite, V.ids, V.mids, vguard, callOf, vop, ev, cv, vbin, vint, isShift, isNilConst, vnil, isNilSlice, vload, vlen, newRow, vfill, vslice, entOf, vappend, srcOf, vcopy, vlookup, vupdate, mapOk, keyOf, intsOf, clsAt]; try rfl)) (WkV.pure (by simp only [V.into])) ⟨by simp [rIsTruth, h], rfl⟩
theorem prove_same {c : Cu} (k0 : CuOk c) (h0 : sCheck c = 0) (t : Tr2) : sProveTruth c t = rIsTruth c t := by
  simp only [sProveTruth, rIsTruth, h0, decide_true, Bool.true_and]
  cases h : sScOk c t with
  | false => rfl
  | true =>
    obtain ⟨_, e⟩ := t2ok_of k0 h
    rw [e, Bool.eq_iff_iff, Bool.true_and, Bool.true_and, decide_eq_true_eq, right_iff k0]
end Go.Vm

set_option linter.unusedVariables false
set_option linter.unusedSimpArgs false
set_option maxRecDepth 100000
namespace Go.Vm
open Go.Proofs
def sReady (c : Cu) : Bool := sThin c && decide (sCheck c = 0)
theorem c_ready (c : Cu) (hl : I64 c.last) : Pu Try.prog (.fn 42 [] []) [.agg c.cs] (.bool (sReady c)) := by
  refine Ev.fn Try.func42 rfl rfl (Fn.body tabOk Try.func42 rfl (Nat.le_of_ble_eq_true rfl) (Ks.ok (fz := (fzn [])) (cl := (cln [])) tabOk mixed ?_))
  generalize hQ : FnPost tt Try.f42 _ _ = Q
  simp only [Try.f42, List.nil_append, List.append_nil, argsEnv]
  simp only [gos, eq_self, Nat.reduceLT, Nat.reduceEqDiff, reduceCtorEq, reduceIte, ↓reduceIte, tt, vgo, vout, vguard, callOf, vop, ev, cv, vload, newRow]
  refine Cl.pu (c_Thin c hl) ?_ rfl (by simp only [V.into, intoL, cu_into, Bool.and_true])
  cases h : sThin c with
  | false =>
    simp only [gos, eq_self, Nat.reduceLT, Nat.reduceEqDiff, reduceIte, ↓reduceIte, vgo, vout, vguard, callOf, vop, ev, cv]
    subst hQ
    exact FnPost.plain trivial (fun h2 e => by first | rfl | (simp only [Try.f42, vres, vresL, vres1, e _, gos, if_true, if_false, ne_eq, eq_self, Nat.reduceLT, Nat.reduceEqDiff, Nat.reduceAdd, Nat.reduceMul, Nat.reduceLeDiff, Nat.reduceBEq, reduceCtorEq, reduceIte, Array.toList, ↓reduceIte, tt, vgo, vout, vgoD, voutD, vclsOk, vids, mayWrite, V.ids, V.mids, vguard, callOf, vop, ev, cv, vbin, vint, isShift, isNilConst, vnil, isNilSlice, vload, vlen, newRow, vfill, vslice, entOf, vappend, srcOf, vcopy, vlookup, vupdate, mapOk, keyOf, intsOf, clsAt]; try rfl)) (WkV.pure (by simp only [V.into])) ⟨by simp [sReady, h], rfl⟩
  | true =>
    simp only [gos, eq_self, Nat.reduceLT, Nat.reduceEqDiff, reduceCtorEq, reduceIte, ↓reduceIte, tt, vgo, vout, vguard, callOf, vop, ev, vload]
    refine Cl.pu (c_fault c (thin_wf hl h)) ?_ rfl (by simp only [V.into, intoL, cu_into, Bool.and_true])
    simp only [gos, eq_self, Nat.reduceLT, Nat.reduceEqDiff, reduceIte, ↓reduceIte, vgo, vout, vguard, callOf, vop, ev, cv, vbin, vint, isShift, isNilConst]
    subst hQ
    exact FnPost.plain trivial (fun h2 e => by first | rfl | (simp only [Try.f42, vres, vresL, vres1, e _, gos, if_true, if_false, ne_eq, eq_self, Nat.reduceLT, Nat.reduceEqDiff, Nat.reduceAdd, Nat.reduceMul, Nat.reduceLeDiff, Nat.reduceBEq, reduceCtorEq, reduceIte, Array.toList, ↓reduceIte, tt, vgo, vout, vgoD, voutD, vclsOk, vids, mayWrite, V.ids, V.mids, vguard, callOf, vop, ev, cv, vbin, vint, isShift, isNilConst, vnil, isNilSlice, vload, vlen, newRow, vfill, vslice, entOf, vappend, srcOf, vcopy, vlookup, vupdate, mapOk, keyOf, intsOf, clsAt]; try rfl)) (WkV.pure (by simp only [V.into])) ⟨by simp [sReady, h], rfl⟩
theorem ready_ok {c : Cu} (h : sReady c = true) : sThin c = true ∧ sCheck c = 0 := by
  simpa [sReady] using h
/-- An hour by a number. -/
theorem hour_of {c : Cu} (hl : 0 ≤ c.last ∧ c.last ≤ 4) {n : Int} (hn : 0 ≤ n) : ∃ k : Nat, (k : Int) = n.tmod (c.last + 1) ∧ (k : Int) ≤ c.last := by
  have h := tmod_le hn (s := c.last + 1) (by omega)
  exact ⟨(n.tmod (c.last + 1)).toNat, by omega, by omega⟩
end Go.Vm
