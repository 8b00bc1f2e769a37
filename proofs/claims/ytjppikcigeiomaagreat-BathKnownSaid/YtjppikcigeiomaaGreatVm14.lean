import Derived.Test.YtjppikcigeiomaaGreatVm13
set_option linter.unusedVariables false
set_option linter.unusedSimpArgs false
namespace Go.Vm

def callOf : Op → Option (Operand × List Operand)
  | .call { callee := .value f, args, .. } => some (f, args.toList)
  | _ => none
def dstOk (N : Nat) : Option Nat → Bool
  | some d => decide (d < N)
  | none => true

/-- One operation, and what goes on behind it. -/
def StepK (P : Program) (tt : Tab) (fz : Nat → Bool) (orc : Option Bool) (N : Nat) (ops : List Oper) (o : Oper) (ρ : Env) (h : Heap) (K : Env → Heap → Prop) : Prop :=
  dstOk N o.dst = true ∧
  match vguard ρ ops o with
  | some false => K (ρ.put o.dst .und) h
  | some true => (match callOf o.op with
    | some (f, args) => Ev P (ev ρ f) (evL ρ args) h fun v h' => K (ρ.put o.dst v) h'
    | none => (match vop tt fz orc ρ h o.dst o.op with
      | some (v, h') => K (ρ.put o.dst v) h'
      | none => False))
  | none => False
/-- The operations in the order of the text. -/
def RunL (P : Program) (tt : Tab) (fz : Nat → Bool) (N : Nat) (ops : List Oper) : List Oper → Env → Heap → (Env → Heap → Prop) → Prop
  | [], ρ, h, K => K ρ h
  | o :: os, ρ, h, K => StepK P tt fz none N ops o ρ h fun ρ' h' => RunL P tt fz N ops os ρ' h' K
/-- The operations in some order, by their numbers. -/
def RunI (P : Program) (tt : Tab) (fz : Nat → Bool) (N : Nat) (ops : List Oper) : List Nat → Env → Heap → (Env → Heap → Prop) → Prop
  | [], ρ, h, K => K ρ h
  | i :: is, ρ, h, K => match ops[i]? with
    | none => False
    | some o => StepK P tt fz none N ops o ρ h fun ρ' h' => RunI P tt fz N ops is ρ' h' K

section
variable {P : Program} {tt : Tab} {fz : Nat → Bool} {orc : Option Bool} {N : Nat}
theorem StepK.mono {ops : List Oper} {o : Oper} {ρ : Env} {h : Heap} {K K' : Env → Heap → Prop} (hk : ∀ ρ h, K ρ h → K' ρ h) (s : StepK P tt fz orc N ops o ρ h K) : StepK P tt fz orc N ops o ρ h K' := by
  unfold StepK at s ⊢
  refine ⟨s.1, ?_⟩
  have s2 := s.2
  split at s2
  · exact hk _ _ s2
  · split at s2
    · exact s2.mono fun v h' => hk _ _
    · split at s2
      · exact hk _ _ s2
      · exact s2
  · exact s2

theorem wanted_ok {g : Gh} {ρ : Env} {T : Array Value} (E : ER g N ρ T) {ops : Array Oper} {o : Oper} {t : Bool} (hv : vguard ρ ops.toList o = some t) : Region.wanted o (yielded ops T) = t := by
  unfold vguard at hv
  unfold Region.wanted
  split at hv
  · rename_i hg; rw [hg]; simpa using hv
  · rename_i j want hg
    rw [hg]
    simp only
    split at hv
    · cases hv
    · rename_i d hd
      have hdd : (ops[j]?).bind (·.dst) = some d := by rw [← Array.getElem?_toList]; exact hd
      split at hv
      · rename_i bb hb
        have := E.look d _ hb
        simp only [VR] at this
        have hT : T[d]? = some (.bool bb) := by
          rw [Array.getD_eq_getD_getElem?] at this
          cases e : T[d]? with
          | none => rw [e] at this; simp [undef] at this
          | some q => rw [e] at this; simp at this; rw [this]
        unfold yielded
        rw [hdd]
        simp only [Option.bind_some, hT]
        injection hv with hv
      · rename_i hb
        have := E.look d _ hb
        simp only [VR] at this
        injection hv with hv
        unfold yielded
        rw [hdd, ← hv]
        simp only [Option.bind_some]
        rw [Array.getD_eq_getD_getElem?] at this
        cases e : T[d]? with
        | none => rfl
        | some q => rw [e] at this; simp at this; rw [this]; rfl
      · cases hv

theorem ER.putD {g : Gh} {ρ : Env} {T : Array Value} (h : ER g N ρ T) {d : Option Nat} (hd : dstOk N d = true) {v : V} {x : Value} (hv : VR g v x) : ER g N (ρ.put d v) (putT T d x) := by
  cases d with
  | none => exact h
  | some d => exact h.put (by simpa [dstOk] using hd) hv

theorem callOf_some {op : Op} {f : Operand} {args : List Operand} (h : callOf op = some (f, args)) : ∃ a ats, op = .call { callee := .value f, args := a, argTypes := ats } ∧ a.toList = args := by
  unfold callOf at h
  split at h
  · rename_i a ats
    simp only [Option.some.injEq, Prod.mk.injEq] at h
    obtain ⟨rfl, rfl⟩ := h
    exact ⟨_, _, rfl, rfl⟩
  · cases h
theorem vop_noDefer {ρ : Env} {h h' : Heap} {d : Option Nat} {op : Op} {v : V} (hv : vop tt fz orc ρ h d op = some (v, h')) : ∀ c, op ≠ .defer c := by
  rintro c rfl
  simp [vop] at hv

/-- One operation in the machine. -/
theorem step_ok (K : TabOk P tt) {g : Gh} {ρ : Env} {h : Heap} {w : World} {T : Array Value} {Ds : List Deferred} {b : Frame} {k : List Item} {cs : List Frame} {ops : Array Oper} {i : Nat} {rest : List Nat} {o : Oper} (ho : ops[i]? = some o)
    (E : ER g N ρ T) (H : HRel g h w) {Q : Env → Heap → Prop} (s : StepK P tt fz none N ops.toList o ρ h Q) :
    ∃ ρ' h' g' w' T', Q ρ' h' ∧ ER g' N ρ' T' ∧ HRel g' h' w' ∧ Tr g h w g' h' w' ∧ g.le g' ∧
      Steps P (lone (cfg b T Ds (.inRegion ops (i :: rest) :: k)) cs w) (lone (cfg b T' Ds (.inRegion ops rest :: k)) cs w') := by
  obtain ⟨hd, s⟩ := s
  split at s
  · rename_i hg
    exact ⟨_, _, g, w, _, s, E.putD hd (by simp [VR]), H, Tr.refl g h w, Gh.le.refl g, .one (st_opSkip ho (wanted_ok E hg))⟩
  · rename_i hg
    have hw := wanted_ok E hg
    split at s
    · rename_i f args hc
      obtain ⟨a, ats, hop, hal⟩ := callOf_some hc
      obtain ⟨fr0, ⟨nx, hnx, hfr⟩, s⟩ := s g w (evT T f) (args.map (evT T)) (ev_ok E f) (evL_ok E args) H
      obtain ⟨v, h', vc, g', w', hQ, hback, hv, hH, hT, hle⟩ := s (cfg b T Ds (.inRegion ops (i :: rest) :: k)) cs
      have hnd : ∀ c, o.op ≠ .defer c := fun c => by rw [hop]; simp
      have hex : (execOp (evT T) o).run P w = .ok nx w := by
        obtain ⟨dst, op, ty, pos, after, gd⟩ := o
        simp only at hop
        subst hop
        rw [exec_call, hal]
        exact hnx
      refine ⟨_, _, g', w', putT T o.dst vc, hQ, (E.le hle).putD hd hv, hH, hT, hle, ?_⟩
      rw [finish_cfg ho] at hback
      cases nx <;> simp only at hfr
      · subst hfr; exact .head (st_enter ho hw hnd hex) hback
      · subst hfr; exact .head (st_round ho hw hnd hex) hback
    · rename_i hc
      split at s
      · rename_i v h' hv
        obtain ⟨dst, op, ty, pos, after, gd⟩ := o
        obtain ⟨nx, vc, g', w', h1, h2, h3, h4, h5, h6⟩ := vop_ok (P := P) (ty := ty) (pos := pos) (after := after) (gd := gd) H E K (fun _ => rfl) hv
        exact ⟨_, _, g', w', _, s, (E.le h4).putD hd h3, h5, h6, h4, .one (st_op ho hw (vop_noDefer hv) h1 h2)⟩
      · exact s.elim
  · exact s.elim

theorem runI_ok (K : TabOk P tt) {b : Frame} {k : List Item} {cs : List Frame} {Ds : List Deferred} {ops : Array Oper} {Q : Env → Heap → Prop} : ∀ (is : List Nat) {g : Gh} {ρ : Env} {h : Heap} {w : World} {T : Array Value},
    ER g N ρ T → HRel g h w → RunI P tt fz N ops.toList is ρ h Q →
    ∃ ρ' h' g' w' T', Q ρ' h' ∧ ER g' N ρ' T' ∧ HRel g' h' w' ∧ Tr g h w g' h' w' ∧ g.le g' ∧
      Steps P (lone (cfg b T Ds (.inRegion ops is :: k)) cs w) (lone (cfg b T' Ds (.inRegion ops [] :: k)) cs w')
  | [], g, ρ, h, w, T, E, H, r => ⟨ρ, h, g, w, T, r, E, H, Tr.refl g h w, Gh.le.refl g, .refl _ _⟩
  | i :: is, g, ρ, h, w, T, E, H, r => by
    simp only [RunI] at r
    split at r
    · exact r.elim
    · rename_i o ho
      rw [Array.getElem?_toList] at ho
      obtain ⟨ρ1, h1, g1, w1, T1, r1, E1, H1, t1, l1, s1⟩ := step_ok (b := b) (k := k) (cs := cs) (Ds := Ds) (rest := is) K ho E H r
      obtain ⟨ρ2, h2, g2, w2, T2, r2, E2, H2, t2, l2, s2⟩ := runI_ok K is E1 H1 r1
      exact ⟨ρ2, h2, g2, w2, T2, r2, E2, H2, t1.trans t2, l1.trans l2, s1.trans s2⟩

theorem runI_of_runL {ops : List Oper} {Q : Env → Heap → Prop} : ∀ (os : List Oper) (n : Nat) (ρ : Env) (h : Heap), (∀ j, os[j]? = ops[n + j]?) → RunL P tt fz N ops os ρ h Q → RunI P tt fz N ops (List.range' n os.length) ρ h Q
  | [], n, ρ, h, _, r => r
  | o :: os, n, ρ, h, he, r => by
    have h0 : ops[n]? = some o := by simpa using (he 0).symm
    simp only [List.length_cons, List.range'_succ, RunI, h0]
    exact StepK.mono (fun ρ' h' r' => runI_of_runL os (n + 1) ρ' h' (fun j => by have := he (j + 1); simpa [Nat.add_assoc, Nat.add_comm 1 j] using this) r') r
end
end Go.Vm
