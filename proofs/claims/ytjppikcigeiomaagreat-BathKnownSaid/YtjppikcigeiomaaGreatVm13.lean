import Derived.Test.YtjppikcigeiomaaGreatVm12
set_option linter.unusedVariables false
set_option linter.unusedSimpArgs false
namespace Go.Vm

/-- A frame at work. -/
def cfg (b : Frame) (T : Array Value) (Ds : List Deferred) (todo : List Item) : Frame :=
  { b with tmps := T, defers := Ds, todo := todo, mode := .run }
theorem cfg_eval (b : Frame) (T : Array Value) (Ds : List Deferred) (todo : List Item) : (cfg b T Ds todo).eval = evT T := by
  funext x; cases x <;> rfl

section
variable {P : Program} {b : Frame} {T : Array Value} {Ds : List Deferred} {k : List Item} {cs : List Frame} {w : World}
theorem st_skip : step P (lone (cfg b T Ds (.code .skip :: k)) cs w) = .next (lone (cfg b T Ds k) cs w) :=
  step_lone_go (by simp [stepG, stepG.exec, cfg])
theorem st_label {l : Nat} : step P (lone (cfg b T Ds (.code (.label l) :: k)) cs w) = .next (lone (cfg b T Ds k) cs w) :=
  step_lone_go (by simp [stepG, stepG.exec, cfg])
theorem st_inBlock {id : Nat} : step P (lone (cfg b T Ds (.inBlock id :: k)) cs w) = .next (lone (cfg b T Ds k) cs w) :=
  step_lone_go (by simp [stepG, stepG.exec, cfg])
theorem st_inScope {c : Code} : step P (lone (cfg b T Ds (.inScope c :: k)) cs w) = .next (lone (cfg b T Ds k) cs w) :=
  step_lone_go (by simp [stepG, stepG.exec, cfg])
theorem st_seq {x y : Code} : step P (lone (cfg b T Ds (.code (.seq x y) :: k)) cs w) = .next (lone (cfg b T Ds (.code x :: .code y :: k)) cs w) :=
  step_lone_go (by simp [stepG, stepG.exec, cfg])
theorem st_cond {c : Operand} {x y : Code} {t : Bool} (h : evT T c = .bool t) :
    step P (lone (cfg b T Ds (.code (.cond c x y) :: k)) cs w) = .next (lone (cfg b T Ds (.code (if t then x else y) :: k)) cs w) :=
  step_lone_go (by
    have := congrFun (cfg_eval b T Ds (.code (.cond c x y) :: k)) c
    simp only [cfg] at this
    simp [stepG, stepG.exec, cfg, this, h])
theorem st_block {id : Nat} {c : Code} : step P (lone (cfg b T Ds (.code (.block id c) :: k)) cs w) = .next (lone (cfg b T Ds (.code c :: .inBlock id :: k)) cs w) :=
  step_lone_go (by simp [stepG, stepG.exec, cfg])
theorem st_scope {c : Code} : step P (lone (cfg b T Ds (.code (.scope c) :: k)) cs w) = .next (lone (cfg b T Ds (.code c :: .inScope c :: k)) cs w) :=
  step_lone_go (by simp [stepG, stepG.exec, cfg])
theorem st_loop {c : Code} : step P (lone (cfg b T Ds (.code (.loop c) :: k)) cs w) = .next (lone (cfg b T Ds (.code c :: .inLoop c :: k)) cs w) :=
  step_lone_go (by simp [stepG, stepG.exec, cfg])
theorem st_inLoop {c : Code} : step P (lone (cfg b T Ds (.inLoop c :: k)) cs w) = .next (lone (cfg b T Ds (.code c :: .inLoop c :: k)) cs w) :=
  step_lone_go (by simp [stepG, stepG.exec, cfg])
theorem st_exit {id : Nat} {k' : List Item} (h : exitTo id k = some k') : step P (lone (cfg b T Ds (.code (.exit id) :: k)) cs w) = .next (lone (cfg b T Ds k') cs w) :=
  step_lone_go (by simp [stepG, stepG.exec, cfg, h])
theorem st_region {id : Nat} {ops : Array Oper} :
    step P (lone (cfg b T Ds (.code (.region id ops false) :: k)) cs w) = .next (lone (cfg b T Ds (.inRegion ops (List.range ops.size) :: k)) cs w) :=
  step_lone_go (by simp [stepG, stepG.exec, cfg])
theorem st_draw {id : Nat} {ops : Array Oper} :
    step P (lone (cfg b T Ds (.code (.region id ops true) :: k)) cs w) =
      .next (lone (cfg b T Ds (.inRegion ops (Region.schedule (P.follows .mixedOrders) ops (w.tape w.drawn (.order b.fn id))) :: k)) cs w.drew) :=
  step_lone_go (by simp [stepG, stepG.exec, cfg, choose, Sem.run, Question.forced, Question.cut])
theorem st_regionEnd {ops : Array Oper} : step P (lone (cfg b T Ds (.inRegion ops [] :: k)) cs w) = .next (lone (cfg b T Ds k) cs w) :=
  step_lone_go (by simp [stepG, stepG.exec, cfg])

/-- What stands in the slots behind an operation. -/
def putT (T : Array Value) : Option Nat → Value → Array Value
  | some d, v => T.setIfInBounds d v
  | none, _ => T
theorem finish_cfg {ops : Array Oper} {i : Nat} {rest : List Nat} {o : Oper} (ho : ops[i]? = some o) (v : Value) :
    (cfg b T Ds (.inRegion ops (i :: rest) :: k)).finish v = cfg b (putT T o.dst v) Ds (.inRegion ops rest :: k) := by
  cases h : o.dst <;> simp [Frame.finish, cfg, putT, ho, h]
theorem st_opSkip {ops : Array Oper} {i : Nat} {rest : List Nat} {o : Oper} (ho : ops[i]? = some o) (hw : Region.wanted o (yielded ops T) = false) :
    step P (lone (cfg b T Ds (.inRegion ops (i :: rest) :: k)) cs w) = .next (lone (cfg b (putT T o.dst undef) Ds (.inRegion ops rest :: k)) cs w) := by
  rw [← finish_cfg ho]
  exact step_lone_go (by simp [stepG, stepG.exec, cfg, ho, hw])
theorem stepG_op {ops : Array Oper} {i : Nat} {rest : List Nat} {o : Oper} (ho : ops[i]? = some o) (hw : Region.wanted o (yielded ops T) = true) (hd : ∀ c, o.op ≠ .defer c) :
    stepG P true { frame := cfg b T Ds (.inRegion ops (i :: rest) :: k), callers := cs, status := .running, dying := none } w =
      stepG.apply P true (cfg b T Ds (.inRegion ops (i :: rest) :: k)) cs none (execOp (evT T) o) w := by
  have he := cfg_eval b T Ds (.inRegion ops (i :: rest) :: k)
  simp only [cfg] at he
  have hx : stepG P true { frame := cfg b T Ds (.inRegion ops (i :: rest) :: k), callers := cs, status := .running, dying := none } w =
      stepG.oper P true (cfg b T Ds (.inRegion ops (i :: rest) :: k)) cs none w := by
    simp [stepG, stepG.exec, cfg, ho, hw]
  rw [hx]
  simp only [stepG.oper, Frame.oper?, cfg, ho]
  split
  · rename_i c _ hc; exact absurd hc (hd c)
  · rw [he]
theorem st_op {ops : Array Oper} {i : Nat} {rest : List Nat} {o : Oper} (ho : ops[i]? = some o) (hw : Region.wanted o (yielded ops T) = true) (hd : ∀ c, o.op ≠ .defer c)
    {nx : Next} {vc : Value} {w' : World} (hr : (execOp (evT T) o).run P w = .ok nx w') (hn : nxv nx = some vc) :
    step P (lone (cfg b T Ds (.inRegion ops (i :: rest) :: k)) cs w) = .next (lone (cfg b (putT T o.dst vc) Ds (.inRegion ops rest :: k)) cs w') := by
  rw [← finish_cfg ho]
  refine step_lone_go ?_
  rw [stepG_op ho hw hd]
  cases nx <;> simp only [nxv, Option.some.injEq, reduceCtorEq] at hn <;> subst hn <;> simp [stepG.apply, hr, GStep.bare_after]

/-- A call of a Go function. -/
theorem st_enter {ops : Array Oper} {i : Nat} {rest : List Nat} {o : Oper} (ho : ops[i]? = some o) (hw : Region.wanted o (yielded ops T) = true) (hd : ∀ c, o.op ≠ .defer c)
    {f : FuncId} {as : Array Value} {w' : World} (hr : (execOp (evT T) o).run P w = .ok (.enter f as) w') :
    step P (lone (cfg b T Ds (.inRegion ops (i :: rest) :: k)) cs w) = .next (lone (Frame.enter P f as .normal) (cfg b T Ds (.inRegion ops (i :: rest) :: k) :: cs) w') := by
  refine step_lone_go ?_
  rw [stepG_op ho hw hd]
  simp [stepG.apply, hr, GStep.bare_after, cfg]
theorem st_round {ops : Array Oper} {i : Nat} {rest : List Nat} {o : Oper} (ho : ops[i]? = some o) (hw : Region.wanted o (yielded ops T) = true) (hd : ∀ c, o.op ≠ .defer c)
    {l : Nat} {f : FuncId} {tm : Array Value} {as bd : Code} {w' : World} (hr : (execOp (evT T) o).run P w = .ok (.round l f tm as bd) w') :
    step P (lone (cfg b T Ds (.inRegion ops (i :: rest) :: k)) cs w) = .next (lone (Frame.round l f tm as bd .normal) (cfg b T Ds (.inRegion ops (i :: rest) :: k) :: cs) w') := by
  refine step_lone_go ?_
  rw [stepG_op ho hw hd]
  simp [stepG.apply, hr, GStep.bare_after, cfg]
end

/-! ### calls -/
/-- A function value that is called with these arguments begins with this frame. -/
def Begins (P : Program) (fc : Value) (as : List Value) (w : World) (fr0 : Frame) : Prop :=
  ∃ nx, (do let d ← Deferred.ofValue fc as.toArray; invoke d.target d.args : Sem Next).run P w = .ok nx w ∧
    match nx with
    | .enter f a => fr0 = Frame.enter P f a .normal
    | .round l f T a b => fr0 = Frame.round l f T a b .normal
    | _ => False
/-- A CONTRACT: called with these abstract values, over these own blocks, the function comes back, and of what it gives back R holds. -/
def Ev (P : Program) (fv : V) (args : List V) (h : Heap) (R : V → Heap → Prop) : Prop :=
  ∀ g w fc as, VR g fv fc → VRL g args as → HRel g h w → ∃ fr0, Begins P fc as w fr0 ∧
    ∀ c cs, ∃ v h' vc g' w', R v h' ∧ Steps P (lone fr0 (c :: cs) w) (lone (c.finish vc) cs w') ∧ VR g' v vc ∧ HRel g' h' w' ∧ Tr g h w g' h' w' ∧ g.le g'
theorem Ev.mono {P : Program} {fv : V} {args : List V} {h : Heap} {R R' : V → Heap → Prop} (e : Ev P fv args h R) (hr : ∀ v h', R v h' → R' v h') : Ev P fv args h R' := by
  intro g w fc as h1 h2 h3
  obtain ⟨fr0, hb, e⟩ := e g w fc as h1 h2 h3
  refine ⟨fr0, hb, fun c cs => ?_⟩
  obtain ⟨v, h', vc, g', w', r, rest⟩ := e c cs
  exact ⟨v, h', vc, g', w', hr _ _ r, rest⟩

/-- A pure contract: no own block is met, and the result is this one. -/
def Pu (P : Program) (fv : V) (args : List V) (v : V) : Prop := Ev P fv args [] fun v' h' => v' = v ∧ h' = []

theorem exec_call {P : Program} {T : Array Value} {dst : Option Nat} {ty : TypeId} {pos : String} {after : Array Edge} {gd : Option (Nat × Bool)} {f : Operand} {args : Array Operand} {ats : Array TypeId} {w : World} :
    (execOp (evT T) ⟨dst, .call { callee := .value f, args := args, argTypes := ats }, ty, pos, after, gd⟩).run P w = (do let d ← Deferred.ofValue (evT T f) (args.toList.map (evT T)).toArray; invoke d.target d.args : Sem Next).run P w := by
  simp only [execOp, resolve]
  rw [show args.map (evT T) = (args.toList.map (evT T)).toArray by apply Array.ext'; simp]
end Go.Vm
