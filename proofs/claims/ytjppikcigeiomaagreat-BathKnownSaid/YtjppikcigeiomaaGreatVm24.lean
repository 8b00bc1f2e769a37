import Derived.Test.YtjppikcigeiomaaGreatVm23
import Derived.RangeFuncRecord
set_option linter.unusedVariables false
set_option linter.unusedSimpArgs false
namespace Go.Vm

/-! ### range over a function -/
theorem alloc_at (w : World) (o : Obj) : (w.alloc o).heap[w.heap.size]? = some o := by
  show (w.heap.push o)[w.heap.size]? = some o
  simp
section
variable {P : Program} {b : Frame} {T : Array Value} {Ds : List Deferred} {k : List Item} {cs : List Frame} {w : World}
theorem st_beginRound {l : Nat} {w' : World} (hb : b.roundOf = some l) (hr : (Instr.beginRound l).run P w = .ok () w') :
    step P (lone (cfg b T Ds (.beginRound :: k)) cs w) = .next (lone (cfg b T Ds k) cs w') :=
  step_lone_go (by simp [stepG, stepG.exec, stepG.apply, cfg, hb, Sem.runT_eq, hr, Result.andThen, Frame.finish, GStep.bare_after])
theorem st_round_end {c : Frame} {l : Nat} {v : Value} {w' : World} (hb : b.roundOf = some l) (hk : b.kind = .normal) (hr : (Instr.endRound l none).run P w = .ok v w') :
    step P (lone (cfg b T Ds []) (c :: cs) w) = .next (lone (c.finish v) cs w') :=
  step_lone_go (by simp [stepG, stepG.exec, cfg, hb, hk, Sem.runT_eq, hr, doReturn, GStep.bare_after])
theorem st_round_ret {c : Frame} {l : Nat} {v : Value} {w' : World} (hb : b.roundOf = some l) (hk : b.kind = .normal) (hr : (Instr.endRound l (some .ret)).run P w = .ok v w') :
    step P (lone (cfg b T Ds (.code .ret :: k)) (c :: cs) w) = .next (lone (c.finish v) cs w') :=
  step_lone_go (by simp [stepG, stepG.exec, cfg, hb, hk, Sem.runT_eq, hr, doReturn, GStep.bare_after])
theorem st_round_exit {c : Frame} {l id : Nat} {v : Value} {w' : World} (hb : b.roundOf = some l) (hk : b.kind = .normal) (hx : exitTo id k = none) (hr : (Instr.endRound l (some (.exit id))).run P w = .ok v w') :
    step P (lone (cfg b T Ds (.code (.exit id) :: k)) (c :: cs) w) = .next (lone (c.finish v) cs w') :=
  step_lone_go (by simp [stepG, stepG.exec, cfg, hb, hk, hx, Sem.runT_eq, hr, doReturn, GStep.bare_after])
theorem st_endRange {l : Nat} {jump : Option Code} {w' : World} (h : (Instr.endLoop l).run P w = .ok jump w') :
    step P (lone (cfg b T Ds (.endRangeFunc l :: k)) cs w) = .next (lone (cfg b T Ds ((jump.map Item.code).toList ++ k)) cs w') :=
  step_lone_go (by simp [stepG, stepG.exec, cfg, Sem.runT_eq, h, GStep.bare_after])
theorem st_rangeFunc {g : Operand} {ps : Array Tmp} {assign body : Code} {l : Nat} {mark : List Deferred} {w1 : World} {fr0 : Frame}
    (he : (Instr.enterLoop b.fn T ps assign body b.roundOf).run P w = .ok (l, mark) w1)
    (hbg : Begins P (evT T g) [.func (.yield l) #[] #[]] w1 fr0) :
    step P (lone (cfg b T Ds (.code (.rangeFunc g ps assign body) :: k)) cs w) = .next (lone fr0 (cfg b T (mark ++ Ds) (.inRangeFunc l :: k) :: cs) w1) := by
  obtain ⟨nx, hnx, hfr⟩ := hbg
  have hev := cfg_eval b T (mark ++ Ds) (.inRangeFunc l :: k)
  simp only [cfg] at hev
  have hr : (do let d ← resolve (evT T) { callee := .value g, args := #[.const (.func (.yield l) #[] #[])], argTypes := #[] } 0; invoke d.target d.args : Sem Next).run P w1 = .ok nx w1 := by
    simp only [resolve]
    rw [show Array.map (evT T) #[Operand.const (Value.func (Fn.yield l) #[] #[])] = #[Value.func (Fn.yield l) #[] #[]] by simp [evT]]
    exact hnx
  refine step_lone_go ?_
  cases nx <;> simp only at hfr
  · subst hfr
    simp [stepG, stepG.exec, stepG.apply, cfg, Sem.runT_eq, he, hev, hr, GStep.bare_after]
  · subst hfr
    simp [stepG, stepG.exec, stepG.apply, cfg, Sem.runT_eq, he, hev, hr, GStep.bare_after]

/-- A loop's record. -/
def lent (st : LoopState) (pd : Option Code) (fn : FuncId) (N : Nat) (ρ : Env) (ps : List Tmp) (assign body : Code) (dj : Nat) : Ent := ⟨0, .loop st pd fn N ρ ps assign body dj⟩

/-- A turn of the record's state. -/
theorem set_loop {g : Gh} {h : Heap} {w : World} (H : HRel g h w) {i : Nat} {st : LoopState} {pd : Option Code} {fn : FuncId} {N : Nat} {ρ : Env} {ps : List Tmp} {as bd : Code} {dj : Nat}
    (hi : h.get i = some (lent st pd fn N ρ ps as bd dj)) : ∃ B c r, g.m i 0 = some (.blk B c) ∧ w.heap[B]? = some (.loop r) ∧ r.state = st ∧ r.pending = pd ∧ r.fn = fn ∧ r.params = ps.toArray ∧ r.assign = as ∧ r.body = bd ∧ ER g N ρ r.tmps ∧
      ∀ st' pd', HRel g (h.set i (lent st' pd' fn N ρ ps as bd dj)) (w.putObj B (.loop { r with state := st', pending := pd' })) ∧ Tr g h w g (h.set i (lent st' pd' fn N ρ ps as bd dj)) (w.putObj B (.loop { r with state := st', pending := pd' })) := by
  obtain ⟨x, h1, h2⟩ := H.own i _ hi
  simp only [lent] at h1 h2
  cases x with
  | virt => simp only [BR] at h2
  | blk B c =>
    simp only [BR] at h2
    obtain ⟨T, d, dc, h3, h4, h5⟩ := h2
    refine ⟨B, c, _, h1, h3, rfl, rfl, rfl, rfl, rfl, rfl, h4, fun st' pd' => ?_⟩
    refine set_own (e := lent st pd fn N ρ ps as bd dj) H hi h1 (w.putObj B _) rfl rfl rfl (by simp [World.putObj]) (fun k hk => World.putObj_heap_other hk) (.loop st' pd' fn N ρ ps as bd dj) ?_
    simp only [BR]
    have hlt : B < w.heap.size := (Array.getElem?_eq_some_iff.1 h3).1
    exact ⟨T, d, dc, World.putObj_heap_same hlt, h4, h5⟩

/-- The loop, and where it goes on. -/
def RfPost (Q : Xit → Env → List Nat → Heap → Prop) (lj dj : Nat) (fn : FuncId) (N : Nat) (ρ : Env) (D : List Nat) (ps : List Tmp) (as bd : Code) (h' : Heap) : Prop :=
  ∃ st pd, h'.get lj = some (lent st pd fn N ρ ps as bd dj) ∧ st ≠ .busy ∧
    match pd with
    | none => Q .normal ρ (dj :: D) (h'.set lj (lent .exhausted pd fn N ρ ps as bd dj))
    | some (.exit id) => Q (.exit id) ρ (dj :: D) (h'.set lj (lent .exhausted pd fn N ρ ps as bd dj))
    | some .ret => Q .ret ρ (dj :: D) (h'.set lj (lent .exhausted pd fn N ρ ps as bd dj))
    | _ => False
theorem Ex.rangeFunc {N : Nat} {p : Nat → Bool} {ρ : Env} {D : List Nat} {h : Heap} {Q : Xit → Env → List Nat → Heap → Prop} (lj dj : Nat) (hl : h.get lj = none) (hd : h.get dj = none) (hne : lj ≠ dj) (hb : b.roundOf = none)
    {f : Operand} {ps : Array Tmp} {as bd : Code}
    (e : Ev P (ev ρ f) [.yl lj] ((h.set dj ⟨0, .dfr true⟩).set lj (lent .ready none b.fn N ρ ps.toList as bd dj)) fun _ h' => RfPost Q lj dj b.fn N ρ D ps.toList as bd h') :
    Ex P b N p ρ D h (.rangeFunc f ps as bd) Q := by
  intro g w T Ds k cs E hD H
  obtain ⟨g1, l1, m1, H1, t1⟩ := new_own H hd (.deferred (some [])) 0 (.dfr true) (fun g' _ _ => by simp only [BR, if_true]; exact alloc_at w _)
  have hl1 : (h.set dj ⟨0, .dfr true⟩).get lj = none := by rw [Heap.get_set, if_neg hne]; exact hl
  let r : Loop := { state := .ready, pending := none, fn := b.fn, tmps := T, params := ps, assign := as, body := bd, defers := w.heap.size }
  obtain ⟨g2, l2, m2, H2, t2⟩ := new_own H1 hl1 (.loop r) 0 (.loop .ready none b.fn N ρ ps.toList as bd dj) (fun g' hle _ => by
    simp only [BR]
    exact ⟨T, w.heap.size, 0, alloc_at _ _, (E.le l1).le hle, hle.m _ _ _ rfl m1⟩)
  have hsz : (w.alloc (.deferred (some []))).heap.size = w.heap.size + 1 := by simp
  rw [hsz] at m2
  have l12 := l1.trans l2
  obtain ⟨fr0, hbg, e⟩ := e g2 _ (evT T f) [.func (.yield (w.heap.size + 1)) #[] #[]] ((ev_ok E f).le l12)
    (VRL.cons (by simp only [VR]; exact ⟨_, 0, rfl, m2⟩) VRL.nil) H2
  obtain ⟨v, h', vc, g3, w3, ⟨st, pd, hg, hst, hq⟩, s3, _, H3, t3, l3⟩ := e (cfg b T ({ target := .collected w.heap.size, args := #[] } :: Ds) (.inRangeFunc (w.heap.size + 1) :: k)) cs
  obtain ⟨B, c, r', n1, n2, n3, n4, _, _, _, _, _, n5⟩ := set_loop H3 hg
  have hB : B = w.heap.size + 1 := by
    have := l3.m _ _ _ rfl m2
    rw [n1] at this; injection this with this; injection this
  subst hB
  obtain ⟨H4, t4⟩ := n5 .exhausted pd
  have hend : (Instr.endLoop (w.heap.size + 1)).run P w3 = .ok pd (w3.putObj (w.heap.size + 1) (.loop { r' with state := .exhausted, pending := pd })) := by
    have := run_endLoop (P := P) n2 (by rw [n3]; exact hst)
    rw [this, n4]
  have hfin : (cfg b T ({ target := .collected w.heap.size, args := #[] } :: Ds) (.inRangeFunc (w.heap.size + 1) :: k)).finish vc = cfg b T ({ target := .collected w.heap.size, args := #[] } :: Ds) (.endRangeFunc (w.heap.size + 1) :: k) := rfl
  have henter : (Instr.enterLoop b.fn T ps as bd b.roundOf).run P w = .ok (w.heap.size + 1, [{ target := .collected w.heap.size, args := #[] }]) ((w.alloc (.deferred (some []))).alloc (.loop r)) := by
    rw [hb]; exact run_enterLoop_outer _ _ _ _ _
  have s1 : Steps P (lone (cfg b T Ds (.code (.rangeFunc f ps as bd) :: k)) cs w) (lone (cfg b T ({ target := .collected w.heap.size, args := #[] } :: Ds) ((pd.map Item.code).toList ++ k)) cs (w3.putObj (w.heap.size + 1) (.loop { r' with state := .exhausted, pending := pd }))) := by
    refine Steps.head (st_rangeFunc henter hbg) (Steps.trans s3 ?_)
    rw [hfin]
    exact .one (st_endRange hend)
  have lall := l12.trans l3
  have hDR : DRel g3 (dj :: D) ({ target := .collected w.heap.size, args := #[] } :: Ds) := by
    refine ⟨_, 0, _, rfl, (l2.trans l3).m _ _ _ rfl m1, hD.keep fun i hi v x hm => lall.m _ _ _ rfl hm⟩
  have tall := ((t1.trans t2).trans t3).trans t4
  have E3 := E.le lall
  cases pd with
  | none => exact ⟨.normal, ρ, _, _, g3, _, T, _, hq, E3, hDR, H4, tall, Kp.of_le lall, s1⟩
  | some cd =>
    cases cd <;> simp only at hq
    · exact ⟨.exit _, ρ, _, _, g3, _, T, _, hq, E3, hDR, H4, tall, Kp.of_le lall, k, s1, rfl⟩
    · exact ⟨.ret, ρ, _, _, g3, _, T, _, hq, E3, hDR, H4, tall, Kp.of_le lall, k, s1⟩
end
end Go.Vm
