import Derived.Test.YtjppikcigeiomaaGreatVm19
set_option linter.unusedVariables false
set_option linter.unusedSimpArgs false
namespace Go.Vm

/-! ### results -/
def vres1 (tt : Tab) (ρ : Env) (h : Heap) : ResultVar → Option V
  | .tmp t => ρ.get t
  | .cell a t => if (tt t).kind = 0 then none else match ρ.get a with
    | some (.rop cs) => vload (tt t) cs
    | some (.ptr i ver off) => match h.get i with
      | some ⟨v', .row cs⟩ => if ver = v' then vload (tt t) (cs.drop off) else none
      | _ => none
    | _ => none
def vresL (tt : Tab) (ρ : Env) (h : Heap) : List ResultVar → Option (List V)
  | [] => some []
  | r :: rs => match vres1 tt ρ h r, vresL tt ρ h rs with
    | some v, some vs => some (v :: vs)
    | _, _ => none
def vres (tt : Tab) (ρ : Env) (h : Heap) (rs : List ResultVar) : Option V :=
  match vresL tt ρ h rs with
  | some [v] => some v
  | some vs => some (.tup vs)
  | none => none
def res1 (T : Array Value) : ResultVar → Sem Value
  | .tmp t => pure (T.getD t undef)
  | .cell a t => do loadVar t (← asAddr (T.getD a undef))
theorem results_eq (fn : Func) (T : Array Value) : results fn T = (do let vs ← fn.results.mapM (res1 T); pure (if h : vs.size = 1 then vs[0] else .tuple vs)) := by
  unfold results
  congr 1
section
variable {P : Program} {tt : Tab} {g : Gh} {h : Heap} {w : World} {N : Nat} {ρ : Env} {T : Array Value}
theorem vres1_ok (K : TabOk P tt) (E : ER g N ρ T) (H : HRel g h w) {r : ResultVar} {v : V} (hv : vres1 tt ρ h r = some v) :
    ∃ vc, (res1 T r).run P w = .ok vc w ∧ VR g v vc := by
  cases r with
  | tmp t => exact ⟨_, rfl, E.look t v hv⟩
  | cell a t =>
    simp only [vres1] at hv
    split at hv
    · cases hv
    rename_i hk
    have key : ∃ B o cs, T.getD a undef = .pointer (some ⟨B, o, none⟩) ∧ CellsAt g w B o cs ∧ vload (tt t) cs = some v := by
      split at hv
      · rename_i cs ha
        have := E.look a _ ha
        simp only [VR] at this
        obtain ⟨B, o, e, hc⟩ := this
        exact ⟨B, o, cs, e, CellsAt.ro H hc, hv⟩
      · rename_i i ver off ha
        have := E.look a _ ha
        simp only [VR] at this
        obtain ⟨B, c, e, hm⟩ := this
        split at hv
        · rename_i v' cs hi
          split at hv
          · rename_i hve
            subst hve
            obtain ⟨x, h1, h2⟩ := H.own i _ hi
            simp only at h1; rw [hm] at h1; injection h1 with h1; subst h1
            exact ⟨B, off, _, e, CellsAt.own (i := i) h2 off, hv⟩
          · cases hv
        · cases hv
      · cases hv
    obtain ⟨B, o, cs, e, hc, hl⟩ := key
    obtain ⟨vc, h1, h2⟩ := loadVar_ok (K t hk) hc hl
    exact ⟨vc, by simp [res1, e, asAddr, h1], h2⟩
theorem vresL_ok (K : TabOk P tt) (E : ER g N ρ T) (H : HRel g h w) : ∀ {rs : List ResultVar} {vs : List V}, vresL tt ρ h rs = some vs →
    ∃ vcs, (rs.mapM (res1 T)).run P w = .ok vcs w ∧ VRL g vs vcs
  | [], vs, hv => by simp only [vresL, Option.some.injEq] at hv; subst hv; exact ⟨[], by simp, VRL.nil⟩
  | r :: rs, vs, hv => by
    simp only [vresL] at hv
    split at hv
    · rename_i v vs' h1 h2
      injection hv with hv; subst hv
      obtain ⟨vc, a1, a2⟩ := vres1_ok K E H h1
      obtain ⟨vcs, b1, b2⟩ := vresL_ok K E H h2
      refine ⟨vc :: vcs, ?_, VRL.cons a2 b2⟩
      rw [List.mapM_cons]
      simp only [Sem.run_bind, a1, b1, Result.andThen_ok, Sem.run_pure]
    · cases hv
theorem vres_ok (K : TabOk P tt) (E : ER g N ρ T) (H : HRel g h w) {fn : Func} {v : V} (hv : vres tt ρ h fn.results.toList = some v) : ∃ vc, (results fn T).run P w = .ok vc w ∧ VR g v vc := by
  unfold vres at hv
  split at hv
  · rename_i v' hl
    injection hv with hv; subst hv
    obtain ⟨vcs, h1, h2⟩ := vresL_ok K E H hl
    obtain ⟨vc, rfl⟩ : ∃ vc, vcs = [vc] := by
      have := h2.length
      simp at this
      exact List.length_eq_one_iff.1 this
    refine ⟨vc, ?_, by simp only [VRL] at h2; obtain ⟨a, b, e, h3, h4⟩ := h2; injection e with e1 e2; subst e1; exact h3⟩
    rw [results_eq]
    simp only [Array.mapM_eq_mapM_toList, Sem.run_bind, Sem.run_map]
    rw [h1]
    simp
  · rename_i vs hne hl
    injection hv with hv; subst hv
    obtain ⟨vcs, h1, h2⟩ := vresL_ok K E H hl
    refine ⟨.tuple vcs.toArray, ?_, by simp only [VR]; exact ⟨_, rfl, by simpa using h2⟩⟩
    rw [results_eq]
    simp only [Array.mapM_eq_mapM_toList, Sem.run_bind, Sem.run_map]
    rw [h1]
    have hlen := h2.length
    have hn1 : ¬ vcs.length = 1 := fun e => by
      rw [e] at hlen
      obtain ⟨q, hq⟩ := List.length_eq_one_iff.1 hlen.symm
      exact hne q hq
    simp [hn1]
  · cases hv
end

/-! ### the end of a function -/
def fbase (f : FuncId) : Frame := { (default : Frame) with fn := f, kind := .normal }
/-- The frame, on its way out. -/
def outf (b : Frame) (T : Array Value) (Ds : List Deferred) (todo : List Item) : Frame := { b with tmps := T, defers := Ds, todo := todo, mode := .returning }
theorem st_end {P : Program} {b : Frame} {T : Array Value} {Ds : List Deferred} {cs : List Frame} {w : World} (hb : b.roundOf = none) :
    step P (lone (cfg b T Ds []) cs w) = .next (lone (outf b T Ds []) cs w) :=
  step_lone_go (by simp [stepG, stepG.exec, cfg, outf, hb])
theorem st_ret {P : Program} {b : Frame} {T : Array Value} {Ds : List Deferred} {k : List Item} {cs : List Frame} {w : World} (hb : b.roundOf = none) :
    step P (lone (cfg b T Ds (.code .ret :: k)) cs w) = .next (lone (outf b T Ds (.code .ret :: k)) cs w) :=
  step_lone_go (by simp [stepG, stepG.exec, cfg, outf, hb])
theorem st_unwind {P : Program} {b : Frame} {T : Array Value} {Ds : List Deferred} {k : List Item} {cs : List Frame} {w : World} {B : Nat} (hB : w.heap[B]? = some (.deferred (some []))) :
    step P (lone (outf b T ({ target := .collected B, args := #[] } :: Ds) k) cs w) = .next (lone (outf b T Ds k) cs { w with heap := w.heap.setIfInBounds B (.deferred none) }) := by
  have hr : (Instr.takeDeferred B).run P w = .ok [] { w with heap := w.heap.setIfInBounds B (.deferred none) } := by
    simp [Instr.takeDeferred, getObj, setObj, Sem.run, hB]
  exact step_lone_go (by simp [stepG, unwind, outf, Sem.runT_eq, hr, GStep.bare_after])

def delAll (h : Heap) : List Nat → Heap
  | [] => h
  | i :: D => delAll (h.del i) D
def dfrAll (h : Heap) : List Nat → Prop
  | [] => True
  | i :: D => h.get i = some ⟨0, .dfr true⟩ ∧ dfrAll (h.del i) D
theorem HRel.del_dfr {g : Gh} {h : Heap} {w : World} (H : HRel g h w) {i B c : Nat} (hi : h.get i = some ⟨0, .dfr true⟩) (hm : g.m i 0 = some (.blk B c)) :
    HRel g (h.set i ⟨0, .dfr false⟩) { w with heap := w.heap.setIfInBounds B (.deferred none) } ∧ Tr g h w g (h.set i ⟨0, .dfr false⟩) { w with heap := w.heap.setIfInBounds B (.deferred none) } := by
  obtain ⟨x, h1, h2⟩ := H.own i _ hi
  simp only at h1 h2
  rw [hm] at h1; injection h1 with h1; subst h1
  simp only [BR, if_true] at h2
  have hlt : B < w.heap.size := (Array.getElem?_eq_some_iff.1 h2).1
  refine set_own (e := ⟨0, .dfr true⟩) H hi hm { w with heap := w.heap.setIfInBounds B (.deferred none) } rfl rfl rfl (by simp) (fun k hk => by simp [Array.getElem?_setIfInBounds, Ne.symm hk]) (.dfr false) ?_
  simp only [BR, Bool.false_eq_true, if_false]
  simp [Array.getElem?_setIfInBounds, hlt]

/-- The deferred calls of the loops over functions have been taken. -/
theorem unwind_ok {P : Program} {b : Frame} {T : Array Value} {k : List Item} {cs : List Frame} : ∀ (D : List Nat) {Ds : List Deferred} {g : Gh} {h : Heap} {w : World}, DRel g D Ds → HRel g h w → (∀ i ∈ D, h.get i = some ⟨0, .dfr true⟩) → D.Nodup →
    ∃ h' w', HRel g h' w' ∧ Tr g h w g h' w' ∧ (∀ i, i ∉ D → h'.get i = h.get i) ∧ Steps P (lone (outf b T Ds k) cs w) (lone (outf b T [] k) cs w')
  | [], Ds, g, h, w, hd, H, _, _ => by
    simp only [DRel] at hd; subst hd
    exact ⟨h, w, H, Tr.refl g h w, fun _ _ => rfl, .refl _ _⟩
  | i :: D, Ds, g, h, w, ⟨B, c, Ds', e, hm, hd⟩, H, hall, hnd => by
    subst e
    obtain ⟨H1, t1⟩ := H.del_dfr (hall i (by simp)) hm
    have hx : w.heap[B]? = some (.deferred (some [])) := by
      obtain ⟨x, h1, h2⟩ := H.own i _ (hall i (by simp))
      simp only at h1 h2
      rw [hm] at h1; injection h1 with h1; subst h1
      simpa only [BR, if_true] using h2
    have hnd' := List.nodup_cons.1 hnd
    obtain ⟨h', w', H2, t2, hg, s⟩ := unwind_ok (P := P) (b := b) (T := T) (k := k) (cs := cs) D hd H1 (fun j hj => by
      rw [Heap.get_set, if_neg (fun e => hnd'.1 (by rw [← e]; exact hj))]; exact hall j (by simp [hj])) hnd'.2
    refine ⟨h', w', H2, t1.trans t2, fun j hj => ?_, .head (st_unwind hx) s⟩
    rw [hg j (fun hm => hj (by simp [hm])), Heap.get_set, if_neg (fun e => hj (by simp [e]))]

/-- What a function comes to: its frame, ready to be left. -/
def Fn (P : Program) (f : FuncId) (args : List V) (h : Heap) (R : V → Heap → Prop) : Prop :=
  ∀ g w as, VRL g args as → HRel g h w → ∀ cs, ∃ v h' vc g' w' fr, R v h' ∧ Steps P (lone (Frame.enter P f as.toArray .normal) cs w) (lone fr cs w') ∧ fr.fn = f ∧ fr.leaving P w' (.returned vc) ∧
    VR g' v vc ∧ HRel g' h' w' ∧ Tr g h w g' h' w' ∧ g.le g'

def argsEnv : Nat → List V → Env
  | _, [] => []
  | n, v :: vs => (n, v) :: argsEnv (n + 1) vs
theorem argsEnv_get {g : Gh} : ∀ {vs : List V} {as : List Value} (n : Nat), VRL g vs as → ∀ s c, (argsEnv n vs).get s = some c → ∃ x, n ≤ s ∧ as[s - n]? = some x ∧ VR g c x
  | [], as, n, _, s, c, e => by cases e
  | v :: vs, as, n, h, s, c, e => by
    simp only [VRL] at h
    obtain ⟨x, as', rfl, h1, h2⟩ := h
    simp only [argsEnv, Env.get] at e
    by_cases hs : s = n
    · rw [if_pos hs] at e; injection e with e; subst e; subst hs
      exact ⟨x, Nat.le_refl _, by simp, h1⟩
    · rw [if_neg hs] at e
      obtain ⟨y, h3, h4, h5⟩ := argsEnv_get (n + 1) h2 s c e
      refine ⟨y, by omega, ?_, h5⟩
      rw [show s - n = (s - (n + 1)) + 1 by omega, List.getElem?_cons_succ]
      exact h4

section
variable {P : Program} {tt : Tab}
/-- What is known of the results may be said in another way. -/
def WkV (p : Nat → Bool) (v : V) (h : Heap) (v' : V) (h' : Heap) : Prop :=
  ∀ g w x, VR g v x → HRel g h w → ∃ g', VR g' v' x ∧ HRel g' h' w ∧ Tr g h w g' h' w ∧ Kp p g g'
theorem WkV.refl {p : Nat → Bool} {v : V} {h : Heap} : WkV p v h v h := fun g w x hv H => ⟨g, hv, H, Tr.refl g h w, Kp.refl p g⟩
theorem WkV.of_wk {p : Nat → Bool} {v v' : V} {h h' : Heap} (k : Wk p [(0, v)] h [(0, v')] h') : WkV p v h v' h' := fun g w x hv H => by
  obtain ⟨g', E, H', t, kp⟩ := k g w 1 #[x] ⟨rfl, fun s c e => by
    simp only [Env.get] at e
    split at e
    · rename_i hs; injection e with e; subst e; subst hs; exact hv
    · cases e⟩ H
  exact ⟨g', E.look 0 v' (by simp [Env.get]), H', t, kp⟩
def FnPost (tt : Tab) (fn : Func) (p : Nat → Bool) (R : V → Heap → Prop) (x : Xit) (ρ : Env) (D : List Nat) (h : Heap) : Prop :=
  (match x with | .exit _ => False | _ => True) ∧ D.Nodup ∧ (∀ i ∈ D, h.get i = some ⟨0, .dfr true⟩) ∧
  ∀ h2, (∀ i, i ∉ D → h2.get i = h.get i) → ∃ v, vres tt ρ h2 fn.results.toList = some v ∧ ∃ v3 h3, WkV p v h2 v3 h3 ∧ R v3 h3
theorem FnPost.plain {fn : Func} {p : Nat → Bool} {R : V → Heap → Prop} {x : Xit} {ρ : Env} {h : Heap} (hx : match x with | .exit _ => False | _ => True) {v : V} (hv : ∀ h2, HEq' h2 h → vres tt ρ h2 fn.results.toList = some v)
    {v3 : V} {h3 : Heap} (k : WkV p v h v3 h3) (r : R v3 h3) : FnPost tt fn p R x ρ [] h :=
  ⟨hx, List.nodup_nil, fun i hi => by simp at hi, fun h2 he => ⟨v, hv h2 fun i => he i (by simp), v3, h3, fun g w y h1 H => by
    have he' : HEq' h2 h := fun i => he i (by simp)
    obtain ⟨g', a1, a2, a3, a4⟩ := k g w y h1 (H.congr he')
    exact ⟨g', a1, a2, a3.congr he'.symm (fun _ => rfl), a4⟩, r⟩⟩

theorem Fn.body (K : TabOk P tt) {f : FuncId} {fn : Func} {c : Code} {args : List V} {h : Heap} {R : V → Heap → Prop} (hf : P.funcs[f]? = some fn) (hb : fn.body = some c) (hN : args.length ≤ fn.ntmps)
    (e : Ex P (fbase f) fn.ntmps (domP h) (argsEnv 0 args) [] h c (FnPost tt fn (domP h) R)) : Fn P f args h R := by
  intro g w as ha H cs
  have hal := ha.length
  have E0 : ER g fn.ntmps (argsEnv 0 args) (as.toArray ++ Array.replicate (fn.ntmps - as.toArray.size) undef) := by
    refine ⟨by simp; omega, fun s v hs => ?_⟩
    obtain ⟨x, _, h1, h2⟩ := argsEnv_get 0 ha s v hs
    rw [Nat.sub_zero] at h1
    have hlt : s < as.length := (List.getElem?_eq_some_iff.1 h1).1
    rw [Array.getD_eq_getD_getElem?, Array.getElem?_append_left (by simpa using hlt)]
    simpa [h1] using h2
  have hent : lone (Frame.enter P f as.toArray .normal) cs w = lone (cfg (fbase f) (as.toArray ++ Array.replicate (fn.ntmps - as.toArray.size) undef) [] [.code c]) cs w := by
    simp [Frame.enter, cfg, fbase, hf, hb]
    rfl
  obtain ⟨x, ρ', D', h', g', w', T', Ds', ⟨q1, q2, q3, q4⟩, E', d', H', t', k', a'⟩ := e g w _ [] [] cs E0 (by simp [DRel]) H
  have hout : ∃ k2, Steps P (lone (Frame.enter P f as.toArray .normal) cs w) (lone (outf (fbase f) T' Ds' k2) cs w') := by
    rw [hent]
    cases x with
    | normal => exact ⟨[], Steps.trans a' (.one (st_end rfl))⟩
    | exit id => exact q1.elim
    | ret => obtain ⟨k2, s⟩ := a'; exact ⟨_, s.trans (.one (st_ret rfl))⟩
  obtain ⟨k2, s1⟩ := hout
  obtain ⟨h2, w2, H2, t2, hg2, s2⟩ := unwind_ok (P := P) (b := fbase f) (T := T') (k := k2) (cs := cs) D' d' H' q3 q2
  obtain ⟨v, hv, v3, h3, wk, r⟩ := q4 h2 hg2
  obtain ⟨vc, hr, hvc⟩ := vres_ok K E' H2 hv
  obtain ⟨g3, hv3, H3, t3, k3⟩ := wk g' w2 vc hvc H2
  have tt' := (t'.trans t2).trans t3
  refine ⟨v3, h3, vc, g3, w2, outf (fbase f) T' [] k2, r, s1.trans s2, rfl, ⟨rfl, rfl, rfl, fn, hf, hr⟩, hv3, H3, tt', ⟨fun i ve y _ hm => ?_, tt'.romono⟩⟩
  have hp : domP h i = true := by
    obtain ⟨en, h1, _⟩ := H.dom i ve (by rw [hm]; simp)
    simp [domP, h1]
  exact k3 i ve y hp (k' i ve y hp hm)

/-- A function, called by its name or as a closure. -/
theorem Ev.fn {f : FuncId} {fn : Func} {first args cap : List V} {h : Heap} {R : V → Heap → Prop} (hf : P.funcs[f]? = some fn) (hb : fn.body.isSome = true) (hn : (fn.name == "runtime.NumGoroutine") = false)
    (c : Fn P f (first ++ args ++ cap) h R) : Ev P (.fn f first cap) args h R := by
  intro g w fc as h1 h2 H
  simp only [VR] at h1
  obtain ⟨fs, cs', rfl, hfs, hcs⟩ := h1
  have hnone : fn.body.isNone = false := by cases hbb : fn.body <;> simp [hbb] at hb ⊢
  refine ⟨Frame.enter P f (fs ++ as.toArray ++ cs') .normal, ⟨.enter f (fs ++ as.toArray ++ cs'), ?_, rfl⟩, fun cl cs => ?_⟩
  · simp only [Deferred.ofValue, invoke, callFunc, Sem.run_bind, Sem.run_pure, Result.andThen_ok, run_program, hf, hn, hnone, Bool.false_eq_true, if_false]
  · have e : fs ++ as.toArray ++ cs' = (fs.toList ++ as ++ cs'.toList).toArray := by apply Array.ext'; simp
    obtain ⟨v, h', vc, g', w', fr, r, s, hfn, hl, hv, H', t, le⟩ := c g w (fs.toList ++ as ++ cs'.toList) (VRL.append (VRL.append hfs h2) hcs) H (cl :: cs)
    rw [e]
    exact ⟨v, h', vc, g', w', r, s.trans (.one (step_leave_returned hl)), hv, H', t, le⟩
end
end Go.Vm
