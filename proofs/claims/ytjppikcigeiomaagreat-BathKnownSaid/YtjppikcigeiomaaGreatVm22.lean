import Derived.Test.YtjppikcigeiomaaGreatVm21
set_option linter.unusedVariables false
set_option linter.unusedSimpArgs false
namespace Go.Vm

/-- How a region is gone through: in the order of the text; in any order, by classes; or by hand. -/
inductive Md where
  | pl
  | ex
  | d (tag : Nat → Nat) (cls : List Cls)
abbrev Cl0 := Nat → Md
/-- Code, gone through: what must be shown. Loops are left as they stand. -/
def Wp (P : Program) (tt : Tab) (fz : Nat → Bool) (cl : Cl0) (b : Frame) (N : Nat) (p : Nat → Bool) : Code → Env → List Nat → Heap → (Xit → Env → List Nat → Heap → Prop) → Prop
  | .skip, ρ, D, h, Q => Q .normal ρ D h
  | .label _, ρ, D, h, Q => Q .normal ρ D h
  | .exit id, ρ, D, h, Q => Q (.exit id) ρ D h
  | .ret, ρ, D, h, Q => Q .ret ρ D h
  | .seq x y, ρ, D, h, Q => Wp P tt fz cl b N p x ρ D h (thenX (fun ρ D h => Wp P tt fz cl b N p y ρ D h Q) Q)
  | .cond c x y, ρ, D, h, Q => match ev ρ c with
    | .bool true => Wp P tt fz cl b N p x ρ D h Q
    | .bool false => Wp P tt fz cl b N p y ρ D h Q
    | _ => False
  | .block id c, ρ, D, h, Q => Wp P tt fz cl b N p c ρ D h (blockX id Q)
  | .region id ops dr, ρ, D, h, Q => match cl id with
    | .ex => Ex P b N p ρ D h (.region id ops dr) Q
    | .pl => dr = false ∧ RunL P tt fz N ops.toList ops.toList ρ h fun ρ' h' => Q .normal ρ' D h'
    | .d tag cls => dr = true ∧ chkB ops.toList cls = true ∧ RunD P tt fz N ops.toList tag ((ops.toList.zipIdx).map fun x => (x.1, clsAt cls x.2)) ρ h fun ρ' h' => Q .normal ρ' D h'
  | c, ρ, D, h, Q => Ex P b N p ρ D h c Q

section
variable {P : Program} {tt : Tab} {fz : Nat → Bool} {cl : Cl0} {b : Frame} {N : Nat} {p : Nat → Bool}
theorem Wp.ok (K : TabOk P tt) (hm : P.follows .mixedOrders = true) : ∀ (c : Code) {ρ : Env} {D : List Nat} {h : Heap} {Q : Xit → Env → List Nat → Heap → Prop}, Wp P tt fz cl b N p c ρ D h Q → Ex P b N p ρ D h c Q
  | .skip, ρ, D, h, Q, w => Ex.skip w
  | .label _, ρ, D, h, Q, w => Ex.label w
  | .exit _, ρ, D, h, Q, w => Ex.exit w
  | .ret, ρ, D, h, Q, w => Ex.ret w
  | .seq x y, ρ, D, h, Q, w => Ex.seq ((Wp.ok K hm x w).mono fun x' ρ' D' h' q => by
      cases x' with
      | normal => exact Wp.ok K hm y q
      | exit id => exact q
      | ret => exact q)
  | .cond c x y, ρ, D, h, Q, w => by
      simp only [Wp] at w
      split at w
      · rename_i hc; exact Ex.cond hc (Wp.ok K hm x w)
      · rename_i hc; exact Ex.cond hc (Wp.ok K hm y w)
      · exact w.elim
  | .block id c, ρ, D, h, Q, w => Ex.block (Wp.ok K hm c w)
  | .region id ops dr, ρ, D, h, Q, w => by
      simp only [Wp] at w
      split at w
      · exact w
      · obtain ⟨rfl, w⟩ := w; exact Ex.region K fz w
      · obtain ⟨rfl, w⟩ := w; exact Ex.draw K hm fz _ _ w.1 w.2
  | .loop _, ρ, D, h, Q, w => w
  | .scope _, ρ, D, h, Q, w => w
  | .rangeFunc .., ρ, D, h, Q, w => w
  | .goto _, ρ, D, h, Q, w => w
  | .refuse _, ρ, D, h, Q, w => w
end

/-! ### the same, with a stack in place of what goes on: for simp -/
inductive Itm where
  | code (c : Code)
  | blk (id : Nat)
  | wk (all rest : List Oper)
  | orc (all : List Oper) (o : Oper)
/-- A comparison of a slice with nil, of whatever outcome. -/
def OrcK (tt : Tab) (N : Nat) (all : List Oper) (o : Oper) (ρ : Env) (K : Env → Prop) : Prop :=
  dstOk N o.dst = true ∧ vguard ρ all o = some true ∧ ∃ op t x y u, o.op = .binOp op t x y u ∧ isNilConst y = true ∧ (∃ n, vlen (ev ρ x) = some n) ∧
    ∀ q, ∃ v, vnil tt (some q) op t (ev ρ x) = some v ∧ K (ρ.put o.dst v)
inductive Out where
  | ok (ρ : Env) (h : Heap)
  | call (fv : V) (args : List V)
  | bad
abbrev Post := Xit → Env → List Nat → Heap → Prop
def Ks (P : Program) (tt : Tab) (fz : Nat → Bool) (cl : Cl0) (b : Frame) (N : Nat) (p : Nat → Bool) (Q : Post) : List Itm → Post
  | [] => Q
  | .code y :: k => thenX (fun ρ D h => Wp P tt fz cl b N p y ρ D h (Ks P tt fz cl b N p Q k)) (Ks P tt fz cl b N p Q k)
  | .blk id :: k => blockX id (Ks P tt fz cl b N p Q k)
  | .wk all rest :: k => thenX (fun ρ D h => ∃ ρ2 h2, Wk (orD p D) ρ h ρ2 h2 ∧ RunL P tt fz N all rest ρ2 h2 fun ρ' h' => Ks P tt fz cl b N p Q k .normal ρ' D h') (Ks P tt fz cl b N p Q k)
  | .orc all o :: k => thenX (fun ρ D h => OrcK tt N all o ρ fun ρ' => Ks P tt fz cl b N p Q k .normal ρ' D h) (Ks P tt fz cl b N p Q k)
def W (P : Program) (tt : Tab) (fz : Nat → Bool) (cl : Cl0) (b : Frame) (N : Nat) (p : Nat → Bool) (Q : Post) (c : Code) (k : List Itm) (ρ : Env) (D : List Nat) (h : Heap) : Prop :=
  Wp P tt fz cl b N p c ρ D h (Ks P tt fz cl b N p Q k)
def R (P : Program) (tt : Tab) (fz : Nat → Bool) (cl : Cl0) (b : Frame) (N : Nat) (p : Nat → Bool) (Q : Post) (k : List Itm) (x : Xit) (ρ : Env) (D : List Nat) (h : Heap) : Prop :=
  Ks P tt fz cl b N p Q k x ρ D h
/-- At a branch. -/
def Br (P : Program) (tt : Tab) (fz : Nat → Bool) (cl : Cl0) (b : Frame) (N : Nat) (p : Nat → Bool) (Q : Post) (v : V) (x y : Code) (k : List Itm) (ρ : Env) (D : List Nat) (h : Heap) : Prop :=
  match v with
  | .bool true => W P tt fz cl b N p Q x k ρ D h
  | .bool false => W P tt fz cl b N p Q y k ρ D h
  | _ => False
def RL (P : Program) (tt : Tab) (fz : Nat → Bool) (cl : Cl0) (b : Frame) (N : Nat) (p : Nat → Bool) (Q : Post) (all os : List Oper) (k : List Itm) (ρ : Env) (D : List Nat) (h : Heap) : Prop :=
  RunL P tt fz N all os ρ h fun ρ' h' => R P tt fz cl b N p Q k .normal ρ' D h'
def RD (P : Program) (tt : Tab) (fz : Nat → Bool) (cl : Cl0) (b : Frame) (N : Nat) (p : Nat → Bool) (Q : Post) (tag : Nat → Nat) (all : List Oper) (os : List (Oper × Cls)) (k : List Itm) (ρ : Env) (D : List Nat) (h : Heap) : Prop :=
  RunD P tt fz N all tag os ρ h fun ρ' h' => R P tt fz cl b N p Q k .normal ρ' D h'
def Wa (P : Program) (tt : Tab) (fz : Nat → Bool) (cl : Cl0) (b : Frame) (N : Nat) (p : Nat → Bool) (Q : Post) (all rest : List Oper) (k : List Itm) (ρ : Env) (D : List Nat) (h : Heap) : Prop :=
  ∃ ρ2 h2, Wk (orD p D) ρ h ρ2 h2 ∧ RL P tt fz cl b N p Q all rest k ρ2 D h2
def Wo (P : Program) (tt : Tab) (fz : Nat → Bool) (cl : Cl0) (b : Frame) (N : Nat) (p : Nat → Bool) (Q : Post) (all : List Oper) (o : Oper) (k : List Itm) (ρ : Env) (D : List Nat) (h : Heap) : Prop :=
  OrcK tt N all o ρ fun ρ' => R P tt fz cl b N p Q k .normal ρ' D h
/-- One operation. -/
def vout (tt : Tab) (fz : Nat → Bool) (ρ : Env) (h : Heap) (o : Oper) : Out := match callOf o.op with
  | some (f, args) => .call (ev ρ f) (evL ρ args)
  | none => match vop tt fz none ρ h o.dst o.op with
    | some (v, h') => .ok (ρ.put o.dst v) h'
    | none => .bad
def vgo (tt : Tab) (fz : Nat → Bool) (N : Nat) (all : List Oper) (ρ : Env) (h : Heap) (o : Oper) : Out :=
  if dstOk N o.dst then match vguard ρ all o with
    | some false => .ok (ρ.put o.dst .und) h
    | some true => vout tt fz ρ h o
    | none => .bad
  else .bad
def vclsOk (fz : Nat → Bool) (tag : Nat → Nat) (ρ : Env) (d : Option Nat) (op : Op) (c : Cls) : Bool :=
  (vids fz ρ d op).all fun i => rdP tag c i && (!mayWrite fz d op || wrP tag c i)
def voutD (tt : Tab) (fz : Nat → Bool) (tag : Nat → Nat) (ρ : Env) (h : Heap) (o : Oper) (c : Cls) : Out := match callOf o.op with
  | some (f, args) => .call (ev ρ f) (evL ρ args)
  | none => if vclsOk fz tag ρ o.dst o.op c then match vop tt fz none ρ h o.dst o.op with
    | some (v, h') => .ok (ρ.put o.dst v) h'
    | none => .bad else .bad
def vgoD (tt : Tab) (fz : Nat → Bool) (N : Nat) (tag : Nat → Nat) (all : List Oper) (ρ : Env) (h : Heap) (o : Oper) (c : Cls) : Out :=
  if dstOk N o.dst then match vguard ρ all o with
    | some false => .ok (ρ.put o.dst .und) h
    | some true => voutD tt fz tag ρ h o c
    | none => .bad
  else .bad
section
variable (P : Program) (tt : Tab) (fz : Nat → Bool) (cl : Cl0) (b : Frame) (N : Nat) (p : Nat → Bool) (Q : Post)
/-- A call of a Go function; what goes on behind it. -/
def Cl (all : List Oper) (d : Option Nat) (fv : V) (args : List V) (os : List Oper) (k : List Itm) (ρ : Env) (D : List Nat) (h : Heap) : Prop :=
  Ev P fv args h fun v h' => RL P tt fz cl b N p Q all os k (ρ.put d v) D h'
def CD (tag : Nat → Nat) (all : List Oper) (c : Cls) (d : Option Nat) (fv : V) (args : List V) (os : List (Oper × Cls)) (k : List Itm) (ρ : Env) (D : List Nat) (h : Heap) : Prop :=
  (∃ v, fv.into (fun _ => false) = true ∧ intoL (fun _ => false) args = true ∧ Pu P fv args v ∧ RD P tt fz cl b N p Q tag all os k (ρ.put d v) D h) ∨
  (c = none ∧ ∃ v h', Ev P fv args h (fun v' h'' => v' = v ∧ HEq' h'' h') ∧ RD P tt fz cl b N p Q tag all os k (ρ.put d v) D h') ∨
  (∃ v j e, h.get j = none ∧ rdP tag c j = true ∧ wrP tag c j = true ∧ NewB P fv args v j e ∧ RD P tt fz cl b N p Q tag all os k (ρ.put d v) D (h.set j e))
def RO (all : List Oper) (d : Option Nat) (os : List Oper) (k : List Itm) (ρ : Env) (D : List Nat) (h : Heap) : Out → Prop
  | .ok ρ' h' => RL P tt fz cl b N p Q all os k ρ' D h'
  | .call fv args => Cl P tt fz cl b N p Q all d fv args os k ρ D h
  | .bad => False
def RDO (tag : Nat → Nat) (all : List Oper) (c : Cls) (d : Option Nat) (os : List (Oper × Cls)) (k : List Itm) (ρ : Env) (D : List Nat) (h : Heap) : Out → Prop
  | .ok ρ' h' => RD P tt fz cl b N p Q tag all os k ρ' D h'
  | .call fv args => CD P tt fz cl b N p Q tag all c d fv args os k ρ D h
  | .bad => False
end
/-- A region. -/
def Wr (P : Program) (tt : Tab) (fz : Nat → Bool) (cl : Cl0) (b : Frame) (N : Nat) (p : Nat → Bool) (Q : Post) (m : Md) (id : Nat) (ops : Array Oper) (dr : Bool) (k : List Itm) (ρ : Env) (D : List Nat) (h : Heap) : Prop := match m with
  | .ex => Ex P b N p ρ D h (.region id ops dr) (Ks P tt fz cl b N p Q k)
  | .pl => dr = false ∧ RL P tt fz cl b N p Q ops.toList ops.toList k ρ D h
  | .d tag cls => dr = true ∧ chkB ops.toList cls = true ∧ RD P tt fz cl b N p Q tag ops.toList ((ops.toList.zipIdx).map fun x => (x.1, clsAt cls x.2)) k ρ D h
def cln : List (Nat × Md) → Nat → Md
  | [], _ => .pl
  | (j, m) :: l, i => if i = j then m else cln l i
section
variable {P : Program} {tt : Tab} {fz : Nat → Bool} {cl : Cl0} {b : Frame} {N : Nat} {p : Nat → Bool} {Q : Post} {k : List Itm} {ρ : Env} {D : List Nat} {h : Heap}
theorem R_nil {x : Xit} : R P tt fz cl b N p Q [] x ρ D h = Q x ρ D h := rfl
theorem R_code {y : Code} : R P tt fz cl b N p Q (.code y :: k) .normal ρ D h = W P tt fz cl b N p Q y k ρ D h := rfl
theorem R_code_exit {y : Code} {id : Nat} : R P tt fz cl b N p Q (.code y :: k) (.exit id) ρ D h = R P tt fz cl b N p Q k (.exit id) ρ D h := rfl
theorem R_code_ret {y : Code} : R P tt fz cl b N p Q (.code y :: k) .ret ρ D h = R P tt fz cl b N p Q k .ret ρ D h := rfl
theorem R_blk {id : Nat} : R P tt fz cl b N p Q (.blk id :: k) .normal ρ D h = R P tt fz cl b N p Q k .normal ρ D h := rfl
theorem R_blk_exit {id id' : Nat} : R P tt fz cl b N p Q (.blk id :: k) (.exit id') ρ D h = if id' = id then R P tt fz cl b N p Q k .normal ρ D h else R P tt fz cl b N p Q k (.exit id') ρ D h := rfl
theorem R_blk_ret {id : Nat} : R P tt fz cl b N p Q (.blk id :: k) .ret ρ D h = R P tt fz cl b N p Q k .ret ρ D h := rfl
theorem R_wk {all rest : List Oper} : R P tt fz cl b N p Q (.wk all rest :: k) .normal ρ D h = Wa P tt fz cl b N p Q all rest k ρ D h := rfl
theorem R_orc {all : List Oper} {o : Oper} : R P tt fz cl b N p Q (.orc all o :: k) .normal ρ D h = Wo P tt fz cl b N p Q all o k ρ D h := rfl
theorem W_skip : W P tt fz cl b N p Q .skip k ρ D h = R P tt fz cl b N p Q k .normal ρ D h := rfl
theorem W_label {l : Nat} : W P tt fz cl b N p Q (.label l) k ρ D h = R P tt fz cl b N p Q k .normal ρ D h := rfl
theorem W_exit {id : Nat} : W P tt fz cl b N p Q (.exit id) k ρ D h = R P tt fz cl b N p Q k (.exit id) ρ D h := rfl
theorem W_ret : W P tt fz cl b N p Q .ret k ρ D h = R P tt fz cl b N p Q k .ret ρ D h := rfl
theorem W_seq {x y : Code} : W P tt fz cl b N p Q (.seq x y) k ρ D h = W P tt fz cl b N p Q x (.code y :: k) ρ D h := rfl
theorem W_block {id : Nat} {c : Code} : W P tt fz cl b N p Q (.block id c) k ρ D h = W P tt fz cl b N p Q c (.blk id :: k) ρ D h := rfl
theorem W_cond {c : Operand} {x y : Code} : W P tt fz cl b N p Q (.cond c x y) k ρ D h = Br P tt fz cl b N p Q (ev ρ c) x y k ρ D h := by
  unfold W Br; simp only [Wp]; split <;> rfl
theorem Br_true {x y : Code} : Br P tt fz cl b N p Q (.bool true) x y k ρ D h = W P tt fz cl b N p Q x k ρ D h := rfl
theorem Br_false {x y : Code} : Br P tt fz cl b N p Q (.bool false) x y k ρ D h = W P tt fz cl b N p Q y k ρ D h := rfl
theorem W_region {id : Nat} {ops : Array Oper} {dr : Bool} : W P tt fz cl b N p Q (.region id ops dr) k ρ D h = Wr P tt fz cl b N p Q (cl id) id ops dr k ρ D h := by
  unfold W Wr; simp only [Wp]; split <;> rfl
theorem Wr_pl {id : Nat} {ops : Array Oper} : Wr P tt fz cl b N p Q .pl id ops false k ρ D h = RL P tt fz cl b N p Q ops.toList ops.toList k ρ D h := by simp [Wr]
theorem RL_nil {all : List Oper} : RL P tt fz cl b N p Q all [] k ρ D h = R P tt fz cl b N p Q k .normal ρ D h := rfl
theorem RL_cons {all : List Oper} {o : Oper} {os : List Oper} : RL P tt fz cl b N p Q all (o :: os) k ρ D h = RO P tt fz cl b N p Q all o.dst os k ρ D h (vgo tt fz N all ρ h o) := by
  unfold RL vgo RunL StepK
  cases hd : dstOk N o.dst
  · simp [RO]
  · simp only [true_and, if_true]
    split
    · rename_i hg; simp only [hg]; rfl
    · rename_i hg; simp only [hg, vout]
      split
      · rename_i f args hc; simp only [hc]; rfl
      · rename_i hc; simp only [hc]
        split
        · rename_i hv; simp only [hv]; rfl
        · rename_i hv; simp only [hv]; rfl
    · rename_i hg; simp only [hg]; rfl
theorem RO_ok {all os : List Oper} {d : Option Nat} {ρ' : Env} {h' : Heap} : RO P tt fz cl b N p Q all d os k ρ D h (.ok ρ' h') = RL P tt fz cl b N p Q all os k ρ' D h' := rfl
theorem RO_call {all os : List Oper} {d : Option Nat} {fv : V} {args : List V} : RO P tt fz cl b N p Q all d os k ρ D h (.call fv args) = Cl P tt fz cl b N p Q all d fv args os k ρ D h := rfl
/-- A region that draws: checked, then gone through in the order of the text. -/
theorem Wr.draw {id : Nat} {ops : Array Oper} {tag : Nat → Nat} {cls : List Cls} (hc : chkB ops.toList cls = true)
    (r : RD P tt fz cl b N p Q tag ops.toList ((ops.toList.zipIdx).map fun x => (x.1, clsAt cls x.2)) k ρ D h) : Wr P tt fz cl b N p Q (.d tag cls) id ops true k ρ D h := ⟨rfl, hc, r⟩
theorem RD_nil {tag : Nat → Nat} {all : List Oper} : RD P tt fz cl b N p Q tag all [] k ρ D h = R P tt fz cl b N p Q k .normal ρ D h := rfl
theorem RD_cons {tag : Nat → Nat} {all : List Oper} {o : Oper} {c : Cls} {os : List (Oper × Cls)} : RD P tt fz cl b N p Q tag all ((o, c) :: os) k ρ D h = RDO P tt fz cl b N p Q tag all c o.dst os k ρ D h (vgoD tt fz N tag all ρ h o c) := by
  unfold RD vgoD RunD ActK
  cases hd : dstOk N o.dst
  · simp [RDO]
  · simp only [true_and, if_true]
    split
    · rename_i hg; simp only [hg]; rfl
    · rename_i hg; simp only [hg, voutD]
      split
      · rename_i f args hc; simp only [hc]; rfl
      · rename_i hc; simp only [hc]
        split
        · rename_i hv; simp only [hv, vclsOk]
          split
          · rename_i h1; simp only [h1, true_and]; rfl
          · rename_i h1; simp only [h1, Bool.false_eq_true, false_and]; rfl
        · rename_i hv; simp only [hv, ite_self]; rfl
    · rename_i hg; simp only [hg]; rfl
theorem RDO_ok {tag : Nat → Nat} {all : List Oper} {c : Cls} {os : List (Oper × Cls)} {d : Option Nat} {ρ' : Env} {h' : Heap} : RDO P tt fz cl b N p Q tag all c d os k ρ D h (.ok ρ' h') = RD P tt fz cl b N p Q tag all os k ρ' D h' := rfl
theorem RDO_call {tag : Nat → Nat} {all : List Oper} {c : Cls} {os : List (Oper × Cls)} {d : Option Nat} {fv : V} {args : List V} : RDO P tt fz cl b N p Q tag all c d os k ρ D h (.call fv args) = CD P tt fz cl b N p Q tag all c d fv args os k ρ D h := rfl
theorem Ks.ok (K : TabOk P tt) (hm : P.follows .mixedOrders = true) {c : Code} (w : W P tt fz cl b N p Q c [] ρ D h) : Ex P b N p ρ D h c Q := Wp.ok K hm c w
theorem Cl.mk {all os : List Oper} {d : Option Nat} {fv : V} {args : List V} {S : V → Heap → Prop} (e : Ev P fv args h S) (r : ∀ v h', S v h' → RL P tt fz cl b N p Q all os k (ρ.put d v) D h') : Cl P tt fz cl b N p Q all d fv args os k ρ D h :=
  e.mono r
end

/-- A pure contract at a call. -/
theorem Pu.use {P : Program} {fv : V} {args : List V} {v : V} {h : Heap} {R : V → Heap → Prop} (c : Pu P fv args v) (r : R v h) (hf : fv.into (fun _ => false) = true := by rfl) (ha : intoL (fun _ => false) args = true := by rfl) : Ev P fv args h R :=
  (c.frame hf ha h).mono fun v' h' ⟨e1, e2⟩ => by subst e1; subst e2; exact r

theorem Cl.pu {P : Program} {tt : Tab} {fz : Nat → Bool} {cl : Cl0} {b : Frame} {N : Nat} {p : Nat → Bool} {Q : Post} {k : List Itm} {ρ : Env} {D : List Nat} {h : Heap} {all os : List Oper} {d : Option Nat} {fv : V} {args : List V} {v : V}
    (c : Pu P fv args v) (r : RL P tt fz cl b N p Q all os k (ρ.put d v) D h) (hf : fv.into (fun _ => false) = true := by rfl) (ha : intoL (fun _ => false) args = true := by rfl) : Cl P tt fz cl b N p Q all d fv args os k ρ D h :=
  c.use r hf ha
theorem CD.pu {P : Program} {tt : Tab} {fz : Nat → Bool} {cl : Cl0} {b : Frame} {N : Nat} {p : Nat → Bool} {Q : Post} {k : List Itm} {ρ : Env} {D : List Nat} {h : Heap} {tag : Nat → Nat} {all : List Oper} {cc : Cls} {os : List (Oper × Cls)} {d : Option Nat} {fv : V} {args : List V} {v : V}
    (c : Pu P fv args v) (r : RD P tt fz cl b N p Q tag all os k (ρ.put d v) D h) (hf : fv.into (fun _ => false) = true := by rfl) (ha : intoL (fun _ => false) args = true := by rfl) : CD P tt fz cl b N p Q tag all cc d fv args os k ρ D h :=
  .inl ⟨v, hf, ha, c, r⟩

/-- A call in a region that draws, that changes own blocks. -/
theorem CD.ev {P : Program} {tt : Tab} {fz : Nat → Bool} {cl : Cl0} {b : Frame} {N : Nat} {p : Nat → Bool} {Q : Post} {k : List Itm} {ρ : Env} {D : List Nat} {h : Heap} {tag : Nat → Nat} {all : List Oper} {os : List (Oper × Cls)} {d : Option Nat} {fv : V} {args : List V} (v : V) (h' : Heap)
    (e : Ev P fv args h fun v' h'' => v' = v ∧ h'' = h') (r : RD P tt fz cl b N p Q tag all os k (ρ.put d v) D h') : CD P tt fz cl b N p Q tag all none d fv args os k ρ D h :=
  .inr (.inl ⟨rfl, v, h', e.mono fun _ _ ⟨a, c⟩ => ⟨a, fun i => by rw [c]⟩, r⟩)
/-- A call in a region that draws, that makes a new own block. -/
theorem CD.new {P : Program} {tt : Tab} {fz : Nat → Bool} {cl : Cl0} {b : Frame} {N : Nat} {p : Nat → Bool} {Q : Post} {k : List Itm} {ρ : Env} {D : List Nat} {h : Heap} {tag : Nat → Nat} {all : List Oper} {c : Cls} {os : List (Oper × Cls)} {d : Option Nat} {fv : V} {args : List V} {v : V} {j : Nat} {e : Ent}
    (nb : NewB P fv args v j e) (hj : h.get j = none) (hr : rdP tag c j = true) (hw : wrP tag c j = true) (r : RD P tt fz cl b N p Q tag all os k (ρ.put d v) D (h.set j e)) : CD P tt fz cl b N p Q tag all c d fv args os k ρ D h :=
  .inr (.inr ⟨v, j, e, hj, hr, hw, nb, r⟩)

/-! ### loops -/
/-- The next round's state, where a smaller number counts. -/
def Nx {ι : Type} (st : ι → Env × Heap) (ms : ι → Nat) (I : ι → Prop) (p : Nat → Bool) (D : List Nat) (a : ι) (ρ' : Env) (D' : List Nat) (h' : Heap) : Prop :=
  D' = D ∧ ∃ a', ms a' < ms a ∧ I a' ∧ Wk (orD p D) ρ' h' (st a').1 (st a').2
def LQ (P : Program) (tt : Tab) (fz : Nat → Bool) (cl : Cl0) (b : Frame) (N : Nat) (p : Nat → Bool) (Q : Post) (nx : Env → List Nat → Heap → Prop) (k : List Itm) : Post
  | .normal, ρ, D, h => nx ρ D h
  | x, ρ, D, h => R P tt fz cl b N p Q k x ρ D h
section
variable {P : Program} {tt : Tab} {fz : Nat → Bool} {cl : Cl0} {b : Frame} {N : Nat} {p : Nat → Bool} {Q : Post} {k : List Itm} {ρ : Env} {D : List Nat} {h : Heap}
theorem LQ_normal {nx : Env → List Nat → Heap → Prop} : LQ P tt fz cl b N p Q nx k .normal ρ D h = nx ρ D h := rfl
theorem LQ_exit {nx : Env → List Nat → Heap → Prop} {id : Nat} : LQ P tt fz cl b N p Q nx k (.exit id) ρ D h = R P tt fz cl b N p Q k (.exit id) ρ D h := rfl
theorem LQ_ret {nx : Env → List Nat → Heap → Prop} : LQ P tt fz cl b N p Q nx k .ret ρ D h = R P tt fz cl b N p Q k .ret ρ D h := rfl
/-- A loop whose rounds begin in the states 'st a'. -/
theorem W.loop (K : TabOk P tt) (hm : P.follows .mixedOrders = true) {ι : Type} (st : ι → Env × Heap) (ms : ι → Nat) (I : ι → Prop) (a0 : ι) {body : Code} (h0 : I a0) (w0 : Wk (orD p D) ρ h (st a0).1 (st a0).2)
    (hs : ∀ a, I a → W P tt fz cl b N p (LQ P tt fz cl b N p Q (Nx st ms I p D a) k) body [] (st a).1 D (st a).2) : W P tt fz cl b N p Q (.loop body) k ρ D h := by
  refine Ex.weaken w0 (Ex.loop (fun n ρ h => ∃ a, n = ms a ∧ I a ∧ ρ = (st a).1 ∧ h = (st a).2) ⟨a0, rfl, h0, rfl, rfl⟩ ?_)
  rintro n ρ h ⟨a, rfl, ia, rfl, rfl⟩
  refine (Ks.ok K hm (hs a ia)).mono fun x ρ' D' h' q => ?_
  cases x with
  | normal =>
    obtain ⟨e, a', hlt, i', wk⟩ := q
    exact ⟨e, ms a', hlt, _, _, wk, a', rfl, i', rfl, rfl⟩
  | exit id => exact q
  | ret => exact q
theorem Nx.mk {ι : Type} {st : ι → Env × Heap} {ms : ι → Nat} {I : ι → Prop} {a : ι} (a' : ι) (hl : ms a' < ms a) (i' : I a') (wk : Wk (orD p D) ρ h (st a').1 (st a').2) : Nx st ms I p D a ρ D h := ⟨rfl, a', hl, i', wk⟩
end

/-- The blocks that a function forgets when it ends. -/
theorem WkV.drop {p : Nat → Bool} {v : V} {h h' : Heap} (hh : subH h h') (hp : ∀ i, p i = true → domP h' i = true) (hi : v.into (domP h') = true) (hb : intoH (domP h') h' = true) : WkV p v h v h' :=
  WkV.of_wk (Wk.forget (ρ := [(0, v)]) (by simp [subE, Env.get]) hh hp (by simp [intoE, hi]) hb)
end Go.Vm
