import Derived.Test.YtjppikcigeiomaaGreatVm15
set_option linter.unusedVariables false
set_option linter.unusedSimpArgs false
namespace Go.Vm

def HEq' (h h' : Heap) : Prop := ∀ i, h.get i = h'.get i
def EEq (ρ ρ' : Env) : Prop := ∀ s, ρ.get s = ρ'.get s

theorem HRel.congr {g : Gh} {h h' : Heap} {w : World} (e : HEq' h h') (H : HRel g h w) : HRel g h' w :=
  ⟨H.ro, fun i en hi => H.own i en (by rw [e]; exact hi), fun i j a b B c c' h1 h2 => H.inj i j a b B c c' (by rw [e]; exact h1) (by rw [e]; exact h2), fun i a B c o h1 => H.apart i a B c o (by rw [e]; exact h1), fun i v hv => by rw [← e]; exact H.dom i v hv⟩
theorem OwnB.congr {g : Gh} {h h' : Heap} (e : HEq' h h') {B : Nat} (o : OwnB g h B) : OwnB g h' B := by
  obtain ⟨i, en, c, h1, h2⟩ := o
  exact ⟨i, en, c, by rw [← e]; exact h1, h2⟩
theorem HEq'.symm {h h' : Heap} (e : HEq' h h') : HEq' h' h := fun i => (e i).symm
theorem Tr.congr {g g' : Gh} {h h' k k' : Heap} {w w' : World} (e : HEq' h k) (e' : HEq' h' k') (t : Tr g h w g' h' w') : Tr g k w g' k' w' :=
  ⟨t.os, t.tape, t.output, t.size, fun B hB hn => t.mods B hB fun ho => hn (ho.congr e), fun B ho hB => (t.own' B (ho.congr e'.symm) hB).congr e, t.romono, fun B o hv => by
    rcases t.ronew B o hv with h | h | h
    · exact .inl h
    · exact .inr (.inl h)
    · exact .inr (.inr (h.congr e))⟩
theorem ER.congr {g : Gh} {N : Nat} {ρ ρ' : Env} {T : Array Value} (e : EEq ρ ρ') (E : ER g N ρ T) : ER g N ρ' T := ⟨E.size, fun s c h => E.look s c (by rw [e]; exact h)⟩
theorem Ev.congr {P : Program} {fv : V} {args : List V} {h h2 : Heap} {R : V → Heap → Prop} (e : HEq' h h2) (c : Ev P fv args h R) : Ev P fv args h2 R := by
  intro g w fc as h1 h2' h3
  obtain ⟨fr0, hb, c⟩ := c g w fc as h1 h2' (h3.congr e.symm)
  refine ⟨fr0, hb, fun cl cs => ?_⟩
  obtain ⟨v, h', vc, g', w', r, rt, hv, hH, hT, hle⟩ := c cl cs
  exact ⟨v, h', vc, g', w', r, rt, hv, hH, hT.congr e (fun _ => rfl), hle⟩

/-- A pure contract over whatever own blocks. -/
theorem Pu.frame {P : Program} {fv : V} {args : List V} {v : V} (c : Pu P fv args v) (hf : fv.into (fun _ => false) = true) (ha : intoL (fun _ => false) args = true) (h : Heap) :
    Ev P fv args h fun v' h' => v' = v ∧ h' = h := by
  intro g w fc as h1 h2 H
  let g0 : Gh := ⟨fun _ _ => none, g.ro⟩
  have hs : g.sub (fun _ => false) g0 := ⟨fun i v x hp _ => (by cases hp), fun _ _ _ e => e⟩
  have H0 : HRel g0 [] w := ⟨H.ro, fun i e he => (by cases he), fun i j e e' B c c' he => (by cases he), fun i e B c o he => (by cases he), fun i v hv => absurd rfl hv⟩
  obtain ⟨fr0, hb, c⟩ := c g0 w fc as (h1.sub hs _ _ hf) (h2.sub hs _ _ ha) H0
  refine ⟨fr0, hb, fun cl cs => ?_⟩
  obtain ⟨v', h', vc, g', w', ⟨rfl, rfl⟩, rt, hv, H', T', hle⟩ := c cl cs
  have hno : ∀ B, ¬ OwnB g0 [] B := fun B ⟨i, e, c, he, _⟩ => by cases he
  have hm' : ∀ i v, g'.m i v = none := fun i v => by
    cases e : g'.m i v with
    | none => rfl
    | some x => obtain ⟨e', he, _⟩ := H'.dom i v (by rw [e]; simp); cases he
  let g2 : Gh := ⟨g.m, g'.ro⟩
  have l1 : g'.le g2 := ⟨fun i v x _ e => (by rw [hm'] at e; cases e), fun _ _ _ e => e⟩
  have l2 : g.le g2 := ⟨fun _ _ _ _ e => e, fun B o v e => T'.romono B o v e⟩
  have hblk : ∀ B, B < w.heap.size → w'.heap[B]? = w.heap[B]? := fun B hB => T'.mods B hB (hno B)
  refine ⟨v', h, vc, g2, w', ⟨rfl, rfl⟩, rt, hv.le l1, ⟨H'.ro, fun i e he => ?_, H.inj, fun i e B c o he hm => ?_, H.dom⟩, ?_, l2⟩
  · obtain ⟨x, h3, h4⟩ := H.own i e he
    exact ⟨x, h3, h4.le l2 fun B c hx => by subst hx; exact hblk B h4.lt⟩
  · show g'.ro B o = none
    cases e2 : g'.ro B o with
    | none => rfl
    | some x =>
      rcases T'.ronew B o (by rw [e2]; simp) with hh | hh | hh
      · exact absurd (H.apart i e B c o he hm) hh
      · have := H.lt ⟨i, e, c, he, hm⟩; omega
      · exact (hno B hh).elim
  · refine ⟨T'.os, T'.tape, T'.output, T'.size, fun B hB _ => hblk B hB, fun B ho _ => ho, T'.romono, fun B o e => ?_⟩
    rcases T'.ronew B o e with hh | hh | hh
    · exact .inl hh
    · exact .inr (.inl hh)
    · exact (hno B hh).elim

/-! ### operations in any order -/
/-- What an operation reads and writes of one's own blocks, by tags; none: all. -/
abbrev Cls := Option (List Nat × List Nat)
def rdP (tag : Nat → Nat) : Cls → Nat → Bool
  | none, _ => true
  | some (r, _), i => r.contains (tag i)
def wrP (tag : Nat → Nat) : Cls → Nat → Bool
  | none, _ => true
  | some (_, w), i => w.contains (tag i)
def namesOf (ops : List Oper) (o : Oper) : List Nat :=
  o.dst.toList ++ (tmpsOf o.op.operands.toList ++ (match o.guard with
    | none => []
    | some (j, _) => ((ops[j]?).bind (·.dst)).toList))

/-- A call that makes one new own block. -/
def NewB (P : Program) (fv : V) (args : List V) (v : V) (j : Nat) (e : Ent) : Prop := ∀ h2 : Heap, h2.get j = none → Ev P fv args h2 fun v' h'' => v' = v ∧ HEq' h'' (h2.set j e)
def ActK (P : Program) (tt : Tab) (fz : Nat → Bool) (N : Nat) (ops : List Oper) (tag : Nat → Nat) (cl : Cls) (o : Oper) (ρ : Env) (h : Heap) (K : V → Heap → Prop) : Prop :=
  dstOk N o.dst = true ∧
  match vguard ρ ops o with
  | some false => K .und h
  | some true => (match callOf o.op with
    | some (f, args) => (∃ v, (ev ρ f).into (fun _ => false) = true ∧ intoL (fun _ => false) (evL ρ args) = true ∧ Pu P (ev ρ f) (evL ρ args) v ∧ K v h) ∨
        (cl = none ∧ ∃ v h', Ev P (ev ρ f) (evL ρ args) h (fun v' h'' => v' = v ∧ HEq' h'' h') ∧ K v h') ∨
        (∃ v j e, h.get j = none ∧ rdP tag cl j = true ∧ wrP tag cl j = true ∧ NewB P (ev ρ f) (evL ρ args) v j e ∧ K v (h.set j e))
    | none => (match vop tt fz none ρ h o.dst o.op with
      | some (v, h') => ((vids fz ρ o.dst o.op).all fun i => rdP tag cl i && (!mayWrite fz o.dst o.op || wrP tag cl i)) = true ∧ K v h'
      | none => False))
  | none => False

section
variable {P : Program} {tt : Tab} {fz : Nat → Bool} {N : Nat} {ops : List Oper} {tag : Nat → Nat}
/-- An operation's own doing. -/
def Act (P : Program) (tt : Tab) (fz : Nat → Bool) (N : Nat) (ops : List Oper) (tag : Nat → Nat) (cl : Cls) (o : Oper) (ρ : Env) (h : Heap) (v : V) (h' : Heap) : Prop :=
  ActK P tt fz N ops tag cl o ρ h fun v' h'' => v' = v ∧ HEq' h'' h'

theorem vids_congr {ρ ρ2 : Env} {d : Option Nat} {op : Op} (hs : ∀ x ∈ op.operands.toList, ev ρ2 x = ev ρ x) : vids fz ρ2 d op = vids fz ρ d op := by
  cases op <;> simp only [vids]
  case load t a => rw [hs a (by simp [Op.operands])]
  case store t a x => rw [hs a (by simp [Op.operands])]
  case slice t x lo hi mx => rw [hs x (by simp [Op.operands])]
  case lookup t x ix ok => rw [hs x (by simp [Op.operands])]
  case mapUpdate t m k x => rw [hs m (by simp [Op.operands])]
  case call c =>
    obtain ⟨callee, args, ats⟩ := c
    cases callee with
    | value f => rfl
    | invoke r m => rfl
    | builtin b =>
      have hargs : ∀ x ∈ args.toList, ev ρ2 x = ev ρ x := fun x hx => hs x (by simp [Op.operands, Call.operands]; simpa using hx)
      simp only
      split
      · rename_i x y ha
        rw [hargs x (by rw [ha]; simp), hargs y (by rw [ha]; simp)]
      · rename_i x y ha
        rw [hargs x (by rw [ha]; simp), hargs y (by rw [ha]; simp)]
      · rfl

theorem names_op {o : Oper} {ρ ρ2 : Env} (hn : ∀ s ∈ namesOf ops o, ρ2.get s = ρ.get s) : (∀ x ∈ o.op.operands.toList, ev ρ2 x = ev ρ x) ∧ vguard ρ2 ops o = vguard ρ ops o := by
  constructor
  · intro x hx
    refine ev_congr fun t ht => hn t ?_
    subst ht
    simp [namesOf, mem_tmpsOf hx]
  · unfold vguard
    split
    · rfl
    · rename_i j want hg
      split
      · rfl
      · rename_i d hd
        rw [hn d (by simp [namesOf, hg, hd])]

theorem callOf_operands {op : Op} {f : Operand} {args : List Operand} (h : callOf op = some (f, args)) : ∀ x, (x = f ∨ x ∈ args) → x ∈ op.operands.toList := by
  obtain ⟨a, ats, rfl, rfl⟩ := callOf_some h
  intro x hx
  simp only [Op.operands, Call.operands, Array.toList_append, List.mem_append]
  rcases hx with rfl | hx
  · left; simp
  · right; exact hx

theorem act_local {cl : Cls} {o : Oper} {ρ ρ2 : Env} {h h2 h' : Heap} {v : V} (hc : ∀ i, wrP tag cl i = true → rdP tag cl i = true) (a : Act P tt fz N ops tag cl o ρ h v h')
    (hn : ∀ s ∈ namesOf ops o, ρ2.get s = ρ.get s) (hh : ∀ i, rdP tag cl i = true → h2.get i = h.get i) :
    (∃ h2', Act P tt fz N ops tag cl o ρ2 h2 v h2' ∧ ∀ i, h2'.get i = if wrP tag cl i = true then h'.get i else h2.get i) ∧ ∀ i, wrP tag cl i ≠ true → h'.get i = h.get i := by
  obtain ⟨hops, hgd⟩ := names_op hn
  obtain ⟨hd, a⟩ := a
  have same : HEq' h h' → ((∀ i, h2.get i = if wrP tag cl i = true then h'.get i else h2.get i) ∧ ∀ i, wrP tag cl i ≠ true → h'.get i = h.get i) := fun e => by
    refine ⟨fun i => ?_, fun i _ => (e i).symm⟩
    split
    · rename_i hw; rw [hh i (hc i hw), e i]
    · rfl
  split at a
  · rename_i hg
    obtain ⟨rfl, he⟩ := a
    refine ⟨⟨h2, ⟨hd, ?_⟩, (same he).1⟩, (same he).2⟩
    rw [hgd, hg]; first | exact ⟨rfl, fun _ => rfl⟩ | exact ⟨trivial, fun _ => rfl⟩
  · rename_i hg
    split at a
    · rename_i f args hcall
      have hmem := callOf_operands hcall
      have hf : ev ρ2 f = ev ρ f := hops f (hmem f (.inl rfl))
      have ha : evL ρ2 args = evL ρ args := evL_congr fun x hx => hops x (hmem x (.inr hx))
      rcases a with ⟨v', i1, i2, pu, rfl, he⟩ | ⟨rfl, v', h'', evc, rfl, he⟩ | ⟨v', j, e, hj, hr, hw, nb, rfl, he⟩
      · refine ⟨⟨h2, ⟨hd, ?_⟩, (same he).1⟩, (same he).2⟩
        rw [hgd, hg]
        simp only [hcall, hf, ha]
        exact .inl ⟨_, i1, i2, pu, by first | exact ⟨rfl, fun _ => rfl⟩ | exact ⟨trivial, fun _ => rfl⟩⟩
      · refine ⟨⟨h', ⟨hd, ?_⟩, fun i => by simp [wrP]⟩, fun i hi => absurd rfl hi⟩
        rw [hgd, hg]
        simp only [hcall, hf, ha]
        exact .inr (.inl ⟨by trivial, _, h'', evc.congr (fun i => (hh i rfl).symm), by first | rfl | trivial, he⟩)
      · refine ⟨⟨h2.set j e, ⟨hd, ?_⟩, fun i => ?_⟩, fun i hi => ?_⟩
        · rw [hgd, hg]
          simp only [hcall, hf, ha]
          exact .inr (.inr ⟨_, j, e, (hh j hr).trans hj, hr, hw, nb, by first | rfl | trivial, fun _ => rfl⟩)
        · rw [← he i, Heap.get_set, Heap.get_set]
          by_cases hij : i = j
          · subst hij; rw [if_pos rfl, if_pos hw, if_pos rfl]
          · rw [if_neg hij, if_neg hij]
            split
            · rename_i hwi; exact hh i (hc i hwi)
            · rfl
        · rw [← he i, Heap.get_set, if_neg (fun hij => hi (by rw [hij]; exact hw))]
    · rename_i hcall
      split at a
      · rename_i v' h'' hv
        obtain ⟨hall, rfl, he⟩ := a
        rw [List.all_eq_true] at hall
        have hrd : ∀ i ∈ vids fz ρ o.dst o.op, rdP tag cl i = true := fun i hi => by have := hall i hi; simp only [Bool.and_eq_true] at this; exact this.1
        obtain ⟨δ, h1, h2', h3⟩ := vop_local (ρ2 := ρ2) (h2 := h2) hops (fun i hi => hh i (hrd i hi)) hv
        have hwr : ∀ i e, δ = some (i, e) → wrP tag cl i = true := fun i e hi => by
          obtain ⟨m1, m2⟩ := h3 i e hi
          have := hall i m1
          simp only [m2, Bool.not_true, Bool.false_or, Bool.and_eq_true] at this
          exact this.2
        have hget : ∀ i, h'.get i = (apd h δ).get i := fun i => by rw [← he i, h1]
        refine ⟨⟨apd h2 δ, ⟨hd, ?_⟩, fun i => ?_⟩, fun i hi => ?_⟩
        · rw [hgd, hg]
          simp only [hcall, h2']
          refine ⟨?_, by first | exact ⟨rfl, fun _ => rfl⟩ | exact ⟨trivial, fun _ => rfl⟩⟩
          rw [vids_congr hops, List.all_eq_true]
          exact hall
        · rw [hget]
          cases hδ : δ with
          | none =>
            simp only [apd]
            split
            · rename_i hw; exact hh i (hc i hw)
            · rfl
          | some p =>
            obtain ⟨j, e⟩ := p
            simp only [apd, Heap.get_set]
            by_cases hij : i = j
            · subst hij; rw [if_pos rfl, if_pos (hwr i e hδ), if_pos rfl]
            · rw [if_neg hij, if_neg hij]
              split
              · rename_i hw; exact hh i (hc i hw)
              · rfl
        · rw [hget]
          cases hδ : δ with
          | none => rfl
          | some p =>
            obtain ⟨j, e⟩ := p
            simp only [apd, Heap.get_set]
            rw [if_neg (fun hij => hi (by rw [hij]; exact hwr j e hδ))]
      · exact a.elim
  · exact a.elim

/-- Two operations that have nothing to do with each other. -/
structure Indep (ops : List Oper) (tag : Nat → Nat) (c1 c2 : Cls) (o1 o2 : Oper) : Prop where
  d1 : ∀ d, o1.dst = some d → d ∉ namesOf ops o2
  d2 : ∀ d, o2.dst = some d → d ∉ namesOf ops o1
  w1 : ∀ i, wrP tag c1 i = true → rdP tag c2 i ≠ true
  w2 : ∀ i, wrP tag c2 i = true → rdP tag c1 i ≠ true

theorem put_get {ρ : Env} {d : Option Nat} {v : V} {s : Nat} (h : d ≠ some s) : (ρ.put d v).get s = ρ.get s := by
  cases d with
  | none => rfl
  | some d => simp only [Env.put, Env.get]; rw [if_neg (fun e => h (by rw [e]))]
theorem EEq.put {ρ ρ' : Env} (e : EEq ρ ρ') (d : Option Nat) (v : V) : EEq (ρ.put d v) (ρ'.put d v) := by
  cases d with
  | none => exact e
  | some d => intro s; simp only [Env.put, Env.get]; rw [e s]

theorem diamond {c1 c2 : Cls} {o1 o2 : Oper} {ρ : Env} {h h1 h2 : Heap} {v1 v2 : V} (hc1 : ∀ i, wrP tag c1 i = true → rdP tag c1 i = true) (hc2 : ∀ i, wrP tag c2 i = true → rdP tag c2 i = true)
    (I : Indep ops tag c1 c2 o1 o2) (a1 : Act P tt fz N ops tag c1 o1 ρ h v1 h1) (a2 : Act P tt fz N ops tag c2 o2 (ρ.put o1.dst v1) h1 v2 h2) :
    ∃ k1 k2, Act P tt fz N ops tag c2 o2 ρ h v2 k1 ∧ Act P tt fz N ops tag c1 o1 (ρ.put o2.dst v2) k1 v1 k2 ∧ HEq' k2 h2 ∧ EEq ((ρ.put o2.dst v2).put o1.dst v1) ((ρ.put o1.dst v1).put o2.dst v2) := by
  have f1 := (act_local hc1 a1 (fun s _ => rfl) (fun i _ => rfl)).2
  obtain ⟨⟨k1, b1, g1⟩, f2⟩ := act_local (ρ2 := ρ) (h2 := h) hc2 a2 (fun s hs => (put_get fun e => I.d1 s e hs).symm) (fun i hi => (f1 i fun hw => I.w1 i hw hi).symm)
  obtain ⟨⟨k2, b2, g2⟩, _⟩ := act_local (ρ2 := ρ.put o2.dst v2) (h2 := k1) hc1 a1 (fun s hs => put_get fun e => I.d2 s e hs) (fun i hi => by
    rw [g1 i, if_neg fun hw => I.w2 i hw hi])
  refine ⟨k1, k2, b1, b2, fun i => ?_, fun s => ?_⟩
  · rw [g2 i]
    by_cases hw : wrP tag c1 i = true
    · rw [if_pos hw, f2 i fun hw2 => I.w1 i hw (hc2 i hw2)]
    · rw [if_neg hw, g1 i]
      by_cases hw2 : wrP tag c2 i = true
      · rw [if_pos hw2]
      · rw [if_neg hw2, f2 i hw2, f1 i hw]
  · cases e1 : o1.dst with
    | none => rfl
    | some d1 =>
      cases e2 : o2.dst with
      | none => rfl
      | some d2 =>
        have hne : d1 ≠ d2 := fun e => I.d1 d1 e1 (by rw [e]; simp [namesOf, e2])
        simp only [Env.put, Env.get]
        by_cases hs1 : s = d1
        · subst hs1; rw [if_pos rfl, if_neg hne, if_pos rfl]
        · rw [if_neg hs1]
          by_cases hs2 : s = d2
          · subst hs2; rw [if_pos rfl]; simp
          · rw [if_neg hs2, if_neg hs2, if_neg hs1]
end
end Go.Vm
