import Derived.Test.YtjppikcigeiomaaGreatVm17
set_option linter.unusedVariables false
set_option linter.unusedSimpArgs false
namespace Go.Vm

/-- A region that draws, in the order of the text, each operation with what it reads and writes. -/
def RunD (P : Program) (tt : Tab) (fz : Nat → Bool) (N : Nat) (ops : List Oper) (tag : Nat → Nat) : List (Oper × Cls) → Env → Heap → (Env → Heap → Prop) → Prop
  | [], ρ, h, K => K ρ h
  | (o, c) :: os, ρ, h, K => ActK P tt fz N ops tag c o ρ h fun v h' => RunD P tt fz N ops tag os (ρ.put o.dst v) h' K

section
variable {P : Program} {tt : Tab} {fz : Nat → Bool} {N : Nat} {ops : List Oper} {tag : Nat → Nat} {cls : List Cls}
theorem ActK.ex {c : Cls} {o : Oper} {ρ : Env} {h : Heap} {K : V → Heap → Prop} (a : ActK P tt fz N ops tag c o ρ h K) : ∃ v h', Act P tt fz N ops tag c o ρ h v h' ∧ K v h' := by
  obtain ⟨hd, a⟩ := a
  unfold Act ActK
  split at a
  · rename_i hg
    exact ⟨.und, h, ⟨hd, ⟨rfl, fun _ => rfl⟩⟩, a⟩
  · rename_i hg
    split at a
    · rename_i f args hc
      rcases a with ⟨v, i1, i2, pu, hk⟩ | ⟨hcl, v, h', e, hk⟩ | ⟨v, j, e, hj, hr, hw, nb, hk⟩
      · exact ⟨v, h, ⟨hd, .inl ⟨v, i1, i2, pu, rfl, fun _ => rfl⟩⟩, hk⟩
      · exact ⟨v, h', ⟨hd, .inr (.inl ⟨hcl, v, h', e, rfl, fun _ => rfl⟩)⟩, hk⟩
      · exact ⟨v, h.set j e, ⟨hd, .inr (.inr ⟨v, j, e, hj, hr, hw, nb, rfl, fun _ => rfl⟩)⟩, hk⟩
    · rename_i hc
      split at a
      · rename_i v h' hv
        exact ⟨v, h', ⟨hd, ⟨a.1, rfl, fun _ => rfl⟩⟩, a.2⟩
      · exact a.elim
  · exact a.elim
theorem ch_of_runD {K : Env → Heap → Prop} : ∀ (os : List Oper) (n : Nat) (ρ : Env) (h : Heap), (∀ j, os[j]? = ops[n + j]?) →
    RunD P tt fz N ops tag ((os.zipIdx n).map fun x => (x.1, clsAt cls x.2)) ρ h K → ∃ ρ' h', Ch P tt fz N ops tag cls (List.range' n os.length) ρ h ρ' h' ∧ K ρ' h'
  | [], n, ρ, h, _, r => ⟨ρ, h, ⟨fun _ => rfl, fun _ => rfl⟩, r⟩
  | o :: os, n, ρ, h, he, r => by
    have h0 : ops[n]? = some o := by simpa using (he 0).symm
    simp only [List.zipIdx_cons, List.map_cons, RunD] at r
    obtain ⟨v, h1, a, r⟩ := ActK.ex r
    obtain ⟨ρ', h', c, k⟩ := ch_of_runD os (n + 1) _ h1 (fun j => by have := he (j + 1); simpa [Nat.add_assoc, Nat.add_comm 1 j] using this) r
    exact ⟨ρ', h', ⟨o, v, h1, h0, a, c⟩, k⟩
theorem stepK_of_act {c : Cls} {o : Oper} {ρ : Env} {h h1 : Heap} {v : V} {K : Env → Heap → Prop} (a : Act P tt fz N ops tag c o ρ h v h1) (k : ∀ h2, HEq' h2 h1 → K (ρ.put o.dst v) h2) : StepK P tt fz none N ops o ρ h K := by
  obtain ⟨hd, a⟩ := a
  refine ⟨hd, ?_⟩
  split at a
  · rename_i hg
    obtain ⟨rfl, e⟩ := a
    rw [hg]; exact k h e
  · rename_i hg
    rw [hg]
    split at a
    · rename_i f args hc
      simp only [hc]
      rcases a with ⟨v', i1, i2, pu, rfl, e⟩ | ⟨hcl, v', h', ev', rfl, e⟩ | ⟨v', j, en, hj, hr, hw, nb, rfl, e⟩
      · exact (pu.frame i1 i2 h).mono fun v'' h'' ⟨e1, e2⟩ => by subst e1; subst e2; exact k h'' e
      · exact ev'.mono fun v'' h'' ⟨e1, e2⟩ => by subst e1; exact k h'' fun i => (e2 i).trans (e i)
      · exact (nb h hj).mono fun v'' h'' ⟨e1, e2⟩ => by subst e1; exact k h'' fun i => (e2 i).trans (e i)
    · rename_i hc
      simp only [hc]
      split at a
      · rename_i v' h' hv
        obtain ⟨_, rfl, e⟩ := a
        simp only [hv]
        exact k h' e
      · exact a.elim
  · exact a.elim
theorem runI_of_ch (hc : ∀ i, clsOk (clsAt cls i) = true) : ∀ (is : List Nat) {ρ : Env} {h : Heap} {ρ' : Env} {h' : Heap}, Ch P tt fz N ops tag cls is ρ h ρ' h' → RunI P tt fz N ops is ρ h fun ρ2 h2 => EEq ρ2 ρ' ∧ HEq' h2 h'
  | [], ρ, h, ρ', h', c => c
  | i :: is, ρ, h, ρ', h', ⟨o, v, h1, ho, a, c⟩ => by
    simp only [RunI, ho]
    exact stepK_of_act a fun h2 e => runI_of_ch hc is (c.congr hc is (fun _ => rfl) fun i => (e i).symm)
end

/-! ### code -/
inductive Xit where
  | normal
  | exit (id : Nat)
  | ret

def DRel (g : Gh) : List Nat → List Deferred → Prop
  | [], ds => ds = []
  | i :: D, ds => ∃ B c ds', ds = { target := .collected B, args := #[] } :: ds' ∧ g.m i 0 = some (.blk B c) ∧ DRel g D ds'
theorem DRel.keep {g g' : Gh} : ∀ {D : List Nat} {ds : List Deferred}, (∀ i ∈ D, ∀ v x, g.m i v = some x → g'.m i v = some x) → DRel g D ds → DRel g' D ds
  | [], _, _, h => h
  | i :: D, ds, k, ⟨B, c, ds', e, h1, h2⟩ => ⟨B, c, ds', e, k i (by simp) _ _ h1, DRel.keep (fun j hj => k j (by simp [hj])) h2⟩

/-- What is kept of the protected blocks. -/
def Kp (p : Nat → Bool) (g g' : Gh) : Prop := ∀ i v x, p i = true → g.m i v = some x → g'.m i v = some x
theorem Kp.of_le {p : Nat → Bool} {g g' : Gh} (h : g.le g') : Kp p g g' := fun i v x _ e => h.m i v x rfl e
theorem Kp.refl (p : Nat → Bool) (g : Gh) : Kp p g g := fun _ _ _ _ e => e
theorem Kp.trans {p : Nat → Bool} {a b c : Gh} (h : Kp p a b) (k : Kp p b c) : Kp p a c := fun i v x hp e => k i v x hp (h i v x hp e)

def Arr (P : Program) (b : Frame) (k : List Item) (cs : List Frame) (m : Machine) (T : Array Value) (Ds : List Deferred) (w : World) : Xit → Prop
  | .normal => Steps P m (lone (cfg b T Ds k) cs w)
  | .exit id => ∃ k2, Steps P m (lone (cfg b T Ds (.code (.exit id) :: k2)) cs w) ∧ exitTo id k2 = exitTo id k
  | .ret => ∃ k2, Steps P m (lone (cfg b T Ds (.code .ret :: k2)) cs w)
theorem Arr.of_steps {P : Program} {b : Frame} {k : List Item} {cs : List Frame} {m m1 : Machine} {T : Array Value} {Ds : List Deferred} {w : World} {x : Xit} (s : Steps P m m1) (a : Arr P b k cs m1 T Ds w x) : Arr P b k cs m T Ds w x := by
  cases x with
  | normal => exact s.trans a
  | exit id => obtain ⟨k2, h1, h2⟩ := a; exact ⟨k2, s.trans h1, h2⟩
  | ret => obtain ⟨k2, h1⟩ := a; exact ⟨k2, s.trans h1⟩

/-- A PIECE OF CODE: from what is known of the slots and of one's own blocks, it comes to an exit of which Q holds. -/
def Ex (P : Program) (b : Frame) (N : Nat) (p : Nat → Bool) (ρ : Env) (D : List Nat) (h : Heap) (c : Code) (Q : Xit → Env → List Nat → Heap → Prop) : Prop :=
  ∀ g w T Ds k cs, ER g N ρ T → DRel g D Ds → HRel g h w →
    ∃ x ρ' D' h' g' w' T' Ds', Q x ρ' D' h' ∧ ER g' N ρ' T' ∧ DRel g' D' Ds' ∧ HRel g' h' w' ∧ Tr g h w g' h' w' ∧ Kp p g g' ∧
      Arr P b k cs (lone (cfg b T Ds (.code c :: k)) cs w) T' Ds' w' x

def plainItem : Item → Bool
  | .inBlock _ | .inScope _ => false
  | _ => true
theorem exitTo_plain {id : Nat} {x : Item} {k : List Item} (h : plainItem x = true) : exitTo id (x :: k) = exitTo id k := by
  cases x <;> simp [plainItem, exitTo] at h ⊢

section
variable {P : Program} {b : Frame} {N : Nat} {p : Nat → Bool} {ρ : Env} {D : List Nat} {h : Heap} {Q : Xit → Env → List Nat → Heap → Prop}
theorem Ex.mono {c : Code} {Q' : Xit → Env → List Nat → Heap → Prop} (e : Ex P b N p ρ D h c Q) (hq : ∀ x ρ D h, Q x ρ D h → Q' x ρ D h) : Ex P b N p ρ D h c Q' := by
  intro g w T Ds k cs h1 h2 h3
  obtain ⟨x, ρ', D', h', g', w', T', Ds', q, rest⟩ := e g w T Ds k cs h1 h2 h3
  exact ⟨x, ρ', D', h', g', w', T', Ds', hq _ _ _ _ q, rest⟩
theorem Ex.skip (q : Q .normal ρ D h) : Ex P b N p ρ D h .skip Q := fun g w T Ds k cs h1 h2 h3 =>
  ⟨.normal, ρ, D, h, g, w, T, Ds, q, h1, h2, h3, Tr.refl g h w, Kp.refl p g, .one st_skip⟩
theorem Ex.label {l : Nat} (q : Q .normal ρ D h) : Ex P b N p ρ D h (.label l) Q := fun g w T Ds k cs h1 h2 h3 =>
  ⟨.normal, ρ, D, h, g, w, T, Ds, q, h1, h2, h3, Tr.refl g h w, Kp.refl p g, .one st_label⟩
theorem Ex.exit {id : Nat} (q : Q (.exit id) ρ D h) : Ex P b N p ρ D h (.exit id) Q := fun g w T Ds k cs h1 h2 h3 =>
  ⟨.exit id, ρ, D, h, g, w, T, Ds, q, h1, h2, h3, Tr.refl g h w, Kp.refl p g, k, .refl _ _, rfl⟩
theorem Ex.ret (q : Q .ret ρ D h) : Ex P b N p ρ D h .ret Q := fun g w T Ds k cs h1 h2 h3 =>
  ⟨.ret, ρ, D, h, g, w, T, Ds, q, h1, h2, h3, Tr.refl g h w, Kp.refl p g, k, .refl _ _⟩

def thenX (next : Env → List Nat → Heap → Prop) (Q : Xit → Env → List Nat → Heap → Prop) : Xit → Env → List Nat → Heap → Prop
  | .normal, ρ, D, h => next ρ D h
  | x, ρ, D, h => Q x ρ D h
theorem Ex.seq {x y : Code} (e : Ex P b N p ρ D h x (thenX (fun ρ D h => Ex P b N p ρ D h y Q) Q)) : Ex P b N p ρ D h (.seq x y) Q := by
  intro g w T Ds k cs h1 h2 h3
  obtain ⟨x', ρ1, D1, hp1, g1, w1, T1, Ds1, q, E1, d1, H1, t1, k1, a1⟩ := e g w T Ds (.code y :: k) cs h1 h2 h3
  cases x' with
  | normal =>
    obtain ⟨x2, ρ2, D2, hp2, g2, w2, T2, Ds2, q2, E2, d2, H2, t2, k2, a2⟩ := q g1 w1 T1 Ds1 k cs E1 d1 H1
    exact ⟨x2, ρ2, D2, hp2, g2, w2, T2, Ds2, q2, E2, d2, H2, t1.trans t2, k1.trans k2, a2.of_steps ((Steps.one st_seq).trans a1)⟩
  | exit id =>
    obtain ⟨k2, s, ek⟩ := a1
    exact ⟨.exit id, ρ1, D1, hp1, g1, w1, T1, Ds1, q, E1, d1, H1, t1, k1, k2, (Steps.one st_seq).trans s, by rw [ek, exitTo_plain rfl]⟩
  | ret =>
    obtain ⟨k2, s⟩ := a1
    exact ⟨.ret, ρ1, D1, hp1, g1, w1, T1, Ds1, q, E1, d1, H1, t1, k1, k2, (Steps.one st_seq).trans s⟩
theorem Ex.cond {c : Operand} {x y : Code} {t : Bool} (hc : ev ρ c = .bool t) (e : Ex P b N p ρ D h (if t then x else y) Q) : Ex P b N p ρ D h (.cond c x y) Q := by
  intro g w T Ds k cs h1 h2 h3
  have hv := ev_ok h1 c
  rw [hc] at hv; simp only [VR] at hv
  obtain ⟨x', ρ1, D1, hp1, g1, w1, T1, Ds1, q, E1, d1, H1, t1, k1, a1⟩ := e g w T Ds k cs h1 h2 h3
  exact ⟨x', ρ1, D1, hp1, g1, w1, T1, Ds1, q, E1, d1, H1, t1, k1, a1.of_steps (.one (st_cond hv))⟩
def blockX (id : Nat) (Q : Xit → Env → List Nat → Heap → Prop) : Xit → Env → List Nat → Heap → Prop
  | .exit id', ρ, D, h => if id' = id then Q .normal ρ D h else Q (.exit id') ρ D h
  | x, ρ, D, h => Q x ρ D h
theorem Ex.block {id : Nat} {c : Code} (e : Ex P b N p ρ D h c (blockX id Q)) : Ex P b N p ρ D h (.block id c) Q := by
  intro g w T Ds k cs h1 h2 h3
  obtain ⟨x', ρ1, D1, hp1, g1, w1, T1, Ds1, q, E1, d1, H1, t1, k1, a1⟩ := e g w T Ds (.inBlock id :: k) cs h1 h2 h3
  cases x' with
  | normal => exact ⟨.normal, ρ1, D1, hp1, g1, w1, T1, Ds1, q, E1, d1, H1, t1, k1, ((Steps.one st_block).trans a1).trans (.one st_inBlock)⟩
  | exit id' =>
    obtain ⟨k2, s, ek⟩ := a1
    simp only [blockX] at q
    by_cases hid : id' = id
    · rw [if_pos hid] at q
      subst hid
      refine ⟨.normal, ρ1, D1, hp1, g1, w1, T1, Ds1, q, E1, d1, H1, t1, k1, ((Steps.one st_block).trans s).trans (.one (st_exit ?_))⟩
      rw [ek]; simp [exitTo]
    · rw [if_neg hid] at q
      refine ⟨.exit id', ρ1, D1, hp1, g1, w1, T1, Ds1, q, E1, d1, H1, t1, k1, k2, (Steps.one st_block).trans s, ?_⟩
      rw [ek]; simp [exitTo]
      intro h; exact absurd h.symm hid
  | ret =>
    obtain ⟨k2, s⟩ := a1
    exact ⟨.ret, ρ1, D1, hp1, g1, w1, T1, Ds1, q, E1, d1, H1, t1, k1, k2, (Steps.one st_block).trans s⟩

/-- What is known may be forgotten, or said in another way, where nothing moves. -/
def Wk (p : Nat → Bool) (ρ : Env) (h : Heap) (ρ' : Env) (h' : Heap) : Prop :=
  ∀ g w N T, ER g N ρ T → HRel g h w → ∃ g', ER g' N ρ' T ∧ HRel g' h' w ∧ Tr g h w g' h' w ∧ Kp p g g'
theorem Wk.refl : Wk p ρ h ρ h := fun g w N T E H => ⟨g, E, H, Tr.refl g h w, Kp.refl p g⟩
theorem Wk.trans {ρ1 ρ2 : Env} {h1 h2 : Heap} (a : Wk p ρ h ρ1 h1) (c : Wk p ρ1 h1 ρ2 h2) : Wk p ρ h ρ2 h2 := fun g w N T E H => by
  obtain ⟨g1, E1, H1, t1, k1⟩ := a g w N T E H
  obtain ⟨g2, E2, H2, t2, k2⟩ := c g1 w N T E1 H1
  exact ⟨g2, E2, H2, t1.trans t2, k1.trans k2⟩
def orD (p : Nat → Bool) (D : List Nat) : Nat → Bool := fun i => p i || D.contains i
theorem Ex.weaken {c : Code} {ρ' : Env} {h' : Heap} (wk : Wk (orD p D) ρ h ρ' h') (e : Ex P b N p ρ' D h' c Q) : Ex P b N p ρ D h c Q := by
  intro g w T Ds k cs h1 h2 h3
  obtain ⟨g1, E1, H1, t1, k1⟩ := wk g w N T h1 h3
  have d1 : DRel g1 D Ds := h2.keep fun i hi v x hm => k1 i v x (by simp [orD, hi]) hm
  have kp1 : Kp p g g1 := fun i v x hp hm => k1 i v x (by simp [orD, hp]) hm
  obtain ⟨x2, ρ2, D2, hp2, g2, w2, T2, Ds2, q2, E2, d2, H2, t2, k2, a2⟩ := e g1 w T Ds k cs E1 d1 H1
  exact ⟨x2, ρ2, D2, hp2, g2, w2, T2, Ds2, q2, E2, d2, H2, t1.trans t2, kp1.trans k2, a2⟩

/-- A loop: at each round's head I holds of a number that goes down. -/
theorem Ex.loop {body : Code} (I : Nat → Env → Heap → Prop) {n : Nat} (h0 : I n ρ h)
    (hs : ∀ n ρ h, I n ρ h → Ex P b N p ρ D h body (thenX (fun ρ' D' h' => D' = D ∧ ∃ m, m < n ∧ ∃ ρ2 h2, Wk (orD p D) ρ' h' ρ2 h2 ∧ I m ρ2 h2) Q)) : Ex P b N p ρ D h (.loop body) Q := by
  have key : ∀ n ρ h, I n ρ h → ∀ g w T Ds k cs, ER g N ρ T → DRel g D Ds → HRel g h w →
      ∃ x ρ' D' h' g' w' T' Ds', Q x ρ' D' h' ∧ ER g' N ρ' T' ∧ DRel g' D' Ds' ∧ HRel g' h' w' ∧ Tr g h w g' h' w' ∧ Kp p g g' ∧
        Arr P b k cs (lone (cfg b T Ds (.code body :: .inLoop body :: k)) cs w) T' Ds' w' x := by
    intro n
    induction n using Nat.strongRecOn with
    | ind n ih =>
      intro ρ h hi g w T Ds k cs h1 h2 h3
      obtain ⟨x', ρ1, D1, hp1, g1, w1, T1, Ds1, q, E1, d1, H1, t1, k1, a1⟩ := hs n ρ h hi g w T Ds (.inLoop body :: k) cs h1 h2 h3
      cases x' with
      | normal =>
        obtain ⟨rfl, m, hm, ρ2, hp2, wk, hI⟩ := q
        obtain ⟨g2, E2, H2, t2, k2⟩ := wk g1 w1 N T1 E1 H1
        have d2 : DRel g2 D1 Ds1 := d1.keep fun i hi v x hm => k2 i v x (by simp [orD, hi]) hm
        have kp2 : Kp p g1 g2 := fun i v x hp hm => k2 i v x (by simp [orD, hp]) hm
        obtain ⟨x3, ρ3, D3, hp3, g3, w3, T3, Ds3, q3, E3, d3, H3, t3, k3, a3⟩ := ih m hm ρ2 hp2 hI g2 w1 T1 Ds1 k cs E2 d2 H2
        exact ⟨x3, ρ3, D3, hp3, g3, w3, T3, Ds3, q3, E3, d3, H3, (t1.trans t2).trans t3, (k1.trans kp2).trans k3, a3.of_steps (Steps.trans a1 (.one st_inLoop))⟩
      | exit id =>
        obtain ⟨k2, s, ek⟩ := a1
        exact ⟨.exit id, ρ1, D1, hp1, g1, w1, T1, Ds1, q, E1, d1, H1, t1, k1, k2, s, by rw [ek, exitTo_plain rfl]⟩
      | ret =>
        obtain ⟨k2, s⟩ := a1
        exact ⟨.ret, ρ1, D1, hp1, g1, w1, T1, Ds1, q, E1, d1, H1, t1, k1, k2, s⟩
  intro g w T Ds k cs h1 h2 h3
  obtain ⟨x3, ρ3, D3, hp3, g3, w3, T3, Ds3, q3, E3, d3, H3, t3, k3, a3⟩ := key n ρ h h0 g w T Ds k cs h1 h2 h3
  exact ⟨x3, ρ3, D3, hp3, g3, w3, T3, Ds3, q3, E3, d3, H3, t3, k3, a3.of_steps (.one st_loop)⟩

theorem Ex.region {tt : Tab} (K : TabOk P tt) (fz : Nat → Bool) {id : Nat} {ops : Array Oper} (r : RunL P tt fz N ops.toList ops.toList ρ h fun ρ' h' => Q .normal ρ' D h') : Ex P b N p ρ D h (.region id ops false) Q := by
  intro g w T Ds k cs h1 h2 h3
  have r2 := runI_of_runL (ops := ops.toList) ops.toList 0 ρ h (fun j => by simp) r
  rw [← List.range_eq_range', Array.length_toList] at r2
  obtain ⟨ρ', h', g', w', T', q, E', H', t', l', s⟩ := runI_ok (b := b) (k := k) (cs := cs) (Ds := Ds) K _ h1 h3 r2
  exact ⟨.normal, ρ', D, h', g', w', T', Ds, q, E', h2.keep fun i _ v x hm => l'.m i v x rfl hm, H', t', Kp.of_le l', ((Steps.one st_region).trans s).trans (.one st_regionEnd)⟩
theorem Ex.draw {tt : Tab} (K : TabOk P tt) (hm : P.follows .mixedOrders = true) (fz : Nat → Bool) (tag : Nat → Nat) (cls : List Cls) {id : Nat} {ops : Array Oper} (hchk : chkB ops.toList cls = true)
    (r : RunD P tt fz N ops.toList tag ((ops.toList.zipIdx).map fun x => (x.1, clsAt cls x.2)) ρ h fun ρ' h' => Q .normal ρ' D h') : Ex P b N p ρ D h (.region id ops true) Q := by
  intro g w T Ds k cs h1 h2 h3
  have C := chk_ok hchk
  obtain ⟨ρ', h', c, q⟩ := ch_of_runD (cls := cls) ops.toList 0 ρ h (fun j => by simp) r
  rw [← List.range_eq_range', Array.length_toList] at c
  have hrem : rem ops.size (Array.replicate ops.size false) = List.range ops.size := by
    unfold rem
    rw [List.filter_eq_self]
    intro i hi
    simp at hi
    simp [Array.getD_eq_getD_getElem?, hi]
  obtain ⟨L, hL, hV⟩ := lin_ok (opsA := ops) rfl C ops.size (w.tape w.drawn (.order b.fn id)) (Array.replicate ops.size false) [] (by simp) (by rw [hrem]; simp) (fun j o e ho hj _ _ => by
    have hj2 : j < ops.size := by have := (List.getElem?_eq_some_iff.1 ho).1; simpa using this
    simp [Array.getD_eq_getD_getElem?, hj2] at hj)
  rw [hrem] at hV
  have cL := Ch.valid C.okc L _ hV c
  have rI := runI_of_ch C.okc L cL
  have hsch : Region.schedule (P.follows .mixedOrders) ops (w.tape w.drawn (.order b.fn id)) = L := by
    simp only [Region.schedule, hm, Bool.true_or, if_true, Region.linearise]
    simpa using hL
  obtain ⟨ρ2, hp2, g', w', T', ⟨e1, e2⟩, E', H', t', l', s⟩ := runI_ok (b := b) (k := k) (cs := cs) (Ds := Ds) K L h1 h3.drew rI
  refine ⟨.normal, ρ', D, h', g', w', T', Ds, q, E'.congr e1, h2.keep fun i _ v x hm => l'.m i v x rfl hm, H'.congr e2, ((Tr.drew g h w).trans t').congr (fun _ => rfl) e2, Kp.of_le l', ((Steps.one ?_).trans s).trans (.one st_regionEnd)⟩
  rw [st_draw, hsch]
end
end Go.Vm
