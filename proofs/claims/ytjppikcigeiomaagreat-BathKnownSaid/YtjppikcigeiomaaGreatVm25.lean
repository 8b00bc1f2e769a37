import Derived.Test.YtjppikcigeiomaaGreatVm24
set_option linter.unusedVariables false
set_option linter.unusedSimpArgs false
namespace Go.Vm

/-- The base of a round's frame. -/
def rbase (f : FuncId) (L : Nat) : Frame := { (default : Frame) with fn := f, kind := .normal, roundOf := some L }
def putL : Env → List Tmp → List V → Env
  | ρ, t :: ts, v :: vs => putL ((t, v) :: ρ) ts vs
  | ρ, _, _ => ρ
def lts (N : Nat) : List Tmp → Bool
  | [] => true
  | t :: ts => decide (t < N) && lts N ts
theorem ER.putL {g : Gh} {N : Nat} : ∀ {ps : List Tmp} {vs : List V} {as : List Value} {ρ : Env} {T : Array Value}, lts N ps = true → ps.length = vs.length → VRL g vs as → ER g N ρ T →
    ER g N (putL ρ ps vs) ((ps.zip as).foldl (fun tmps x => tmps.setIfInBounds x.1 x.2) T)
  | [], vs, as, ρ, T, _, hl, h, E => by
    cases vs with
    | nil => simpa [Vm.putL] using E
    | cons _ _ => simp at hl
  | t :: ts, [], as, ρ, T, _, hl, h, E => by simp at hl
  | t :: ts, v :: vs, as, ρ, T, ht, hl, h, E => by
    simp only [VRL] at h
    obtain ⟨x, as', rfl, h1, h2⟩ := h
    simp only [lts, Bool.and_eq_true, decide_eq_true_eq] at ht
    simp only [Vm.putL, List.zip_cons_cons, List.foldl_cons]
    exact ER.putL ht.2 (by simpa using hl) h2 (E.put ht.1 h1)

/-- The body of a round has come to its end. -/
def RPost (i : Nat) (fn : FuncId) (N : Nat) (ρ : Env) (ps : List Tmp) (as bd : Code) (dj : Nat) (R : V → Heap → Prop) : Xit → Env → List Nat → Heap → Prop := fun x ρ' D' h' =>
  ∃ st pd, h'.get i = some (lent st pd fn N ρ ps as bd dj) ∧ match x with
    | .normal => R (.bool true) (h'.set i (lent .ready none fn N ρ ps as bd dj))
    | .exit id => R (.bool false) (h'.set i (lent .done (some (.exit id)) fn N ρ ps as bd dj))
    | .ret => R (.bool false) (h'.set i (lent .done (some .ret) fn N ρ ps as bd dj))
/-- What is assigned ahead of the body. -/
def APost (P : Program) (L : Nat) (p : Nat → Bool) (i : Nat) (fn : FuncId) (N : Nat) (ρ : Env) (ps : List Tmp) (as bd : Code) (dj : Nat) (R : V → Heap → Prop) : Xit → Env → List Nat → Heap → Prop
  | .normal, ρ1, D1, h1 => D1 = [] ∧ ∃ pd, h1.get i = some (lent .ready pd fn N ρ ps as bd dj) ∧ Ex P (rbase fn L) N p ρ1 [] (h1.set i (lent .busy pd fn N ρ ps as bd dj)) bd (RPost i fn N ρ ps as bd dj R)
  | _, _, _, _ => False

/-- A call of yield. -/
theorem Ev.round {P : Program} {i : Nat} {h : Heap} {pd : Option Code} {fn : FuncId} {N : Nat} {ρ : Env} {ps : List Tmp} {as bd : Code} {dj : Nat} (hi : h.get i = some (lent .ready pd fn N ρ ps as bd dj)) {args : List V} (hl : ps.length = args.length) (hN : lts N ps = true) {R : V → Heap → Prop}
    (e : ∀ L, Ex P (rbase fn L) N (domP h) (putL ρ ps args) [] h as (APost P L (domP h) i fn N ρ ps as bd dj R)) : Ev P (.yl i) args h R := by
  intro g w fc vs h1 h2 H
  simp only [VR] at h1
  obtain ⟨L, c0, rfl, hm⟩ := h1
  obtain ⟨B, c, r, n1, n2, n3, n4, n5, n6, n7, n8, n9, n10⟩ := set_loop H hi
  have hB : B = L := by rw [hm] at n1; injection n1 with n1; injection n1 with n1; exact n1.symm
  subst hB
  have hvl := h2.length
  refine ⟨Frame.round B fn ((ps.zip vs).foldl (fun tmps x => tmps.setIfInBounds x.1 x.2) r.tmps) as bd .normal, ⟨.round B fn ((ps.zip vs).foldl (fun tmps x => tmps.setIfInBounds x.1 x.2) r.tmps) as bd, ?_, rfl⟩, fun cl cs => ?_⟩
  · have hs : vs.toArray.size = r.params.size := by rw [n6]; simp; omega
    have := run_yield (P := P) n2 hs
    rw [n5, n6, n7, n8] at this
    have hz : (ps.toArray.zip vs.toArray).foldl (fun tmps (x : Nat × Value) => tmps.setIfInBounds x.1 x.2) r.tmps = (ps.zip vs).foldl (fun tmps x => tmps.setIfInBounds x.1 x.2) r.tmps := by
      rw [List.zip_toArray, List.foldl_toArray]
    simp only [Deferred.ofValue, invoke, callFunc, Sem.run_bind, Sem.run_pure, Result.andThen_ok]
    simp only [Array.empty_append, Array.append_empty]
    rw [this]
    refine congrArg (fun z => Result.ok (Next.round B fn z as bd) w) ?_
    exact hz
  · have E0 := ER.putL hN hl h2 n9
    obtain ⟨x1, ρ1, D1, h1', g1, w1, T1, Ds1, q1, E1, d1, H1, t1, k1, a1⟩ := e B g w _ [] [.beginRound, .code bd] (cl :: cs) E0 (by simp [DRel]) H
    cases x1 with
    | exit id => exact q1.elim
    | ret => exact q1.elim
    | normal =>
      obtain ⟨rfl, pd1, hi1, e2⟩ := q1
      simp only [DRel] at d1; subst d1
      obtain ⟨B1, c1, r1, b1, b2, b3, b4, b5, b6, b7, b8, b9, b10⟩ := set_loop H1 hi1
      have hp : ∀ j v y, g.m j v = some y → domP h j = true := fun j v y hj => by
        obtain ⟨en, h3, _⟩ := H.dom j v (by rw [hj]; simp)
        simp [domP, h3]
      have hB1 : B1 = B := by
        have := k1 i 0 _ (hp _ _ _ hm) hm
        rw [b1] at this; injection this with this; injection this
      subst hB1
      obtain ⟨H2, t2⟩ := b10 .busy pd1
      have hbeg := run_beginRound (P := P) b2 b3
      rw [show ({ r1 with state := LoopState.busy } : Loop) = { r1 with state := .busy, pending := pd1 } by cases r1; simp at b4; simp [b4]] at hbeg
      obtain ⟨x3, ρ3, D3, h3', g3, w3, T3, Ds3, ⟨st3, pd3, hi3, q3⟩, E3, d3, H3, t3, k3, a3⟩ := e2 g1 _ T1 [] [] (cl :: cs) E1 (by simp [DRel]) H2
      obtain ⟨B4, c4, r4, f1, f2, f3, f4, f5, f6, f7, f8, f9, f10⟩ := set_loop H3 hi3
      have hB4 : B4 = B1 := by
        have h5 := k1 i 0 _ (hp _ _ _ hm) hm
        have := k3 i 0 _ (hp _ _ _ hm) h5
        rw [f1] at this; injection this with this; injection this
      subst hB4
      have kall := k1.trans k3
      have s0 : Steps P (lone (Frame.round B4 fn ((ps.zip vs).foldl (fun tmps x => tmps.setIfInBounds x.1 x.2) r.tmps) as bd .normal) (cl :: cs) w) (lone (cfg (rbase fn B4) T1 [] [.code bd]) (cl :: cs) (w1.putObj B4 (.loop { r1 with state := .busy, pending := pd1 }))) :=
        Steps.trans a1 (.one (st_beginRound (b := rbase fn B4) rfl hbeg))
      have t4 := (t1.trans t2).trans t3
      have gle : ∀ {jd : Option Code} {st : LoopState}, g.le g3 := fun {_ _} => ⟨fun j v y _ hj => kall j v y (hp _ _ _ hj) hj, t4.romono⟩
      cases x3 with
      | normal =>
        obtain ⟨H4, t5⟩ := f10 .ready none
        refine ⟨.bool true, _, .bool true, g3, _, q3, ?_, by simp [VR], H4, t4.trans t5, gle (jd := none) (st := .ready)⟩
        exact s0.trans (Steps.trans a3 (.one (st_round_end (b := rbase fn B4) rfl rfl (run_endRound (P := P) none f2))))
      | exit id =>
        obtain ⟨H4, t5⟩ := f10 .done (some (.exit id))
        obtain ⟨k2, s, ek⟩ := a3
        refine ⟨.bool false, _, .bool false, g3, _, q3, ?_, by simp [VR], H4, t4.trans t5, gle (jd := none) (st := .ready)⟩
        exact s0.trans (s.trans (.one (st_round_exit (b := rbase fn B4) rfl rfl (by rw [ek]; rfl) (run_endRound (P := P) (some (.exit id)) f2))))
      | ret =>
        obtain ⟨H4, t5⟩ := f10 .done (some .ret)
        obtain ⟨k2, s⟩ := a3
        refine ⟨.bool false, _, .bool false, g3, _, q3, ?_, by simp [VR], H4, t4.trans t5, gle (jd := none) (st := .ready)⟩
        exact s0.trans (s.trans (.one (st_round_ret (b := rbase fn B4) rfl rfl (run_endRound (P := P) (some .ret) f2))))
end Go.Vm
