import Derived.Test.YtjppikcigeiomaaGreatVm27
set_option linter.unusedVariables false
set_option linter.unusedSimpArgs false
namespace Go.Vm

/-- An empty slice in a slot begins a block of one's own. -/
theorem Wk.sl0E {p : Nat → Bool} {ρ : Env} {h : Heap} (s id z : Nat) (hs : ρ.get s = some .sl0) (hn : h.get id = none) : Wk p ρ h ((s, .own id 0 0 z 0) :: ρ) (h.set id ⟨0, .row []⟩) := by
  intro g w N T E H
  obtain ⟨g', l, m, H', t⟩ := new_virt H hn
  refine ⟨g', ⟨E.size, fun k c e => ?_⟩, H', t, Kp.of_le l⟩
  simp only [Env.get] at e
  split at e
  · rename_i hk
    injection e with e; subst e; subst hk
    have := E.look k _ hs
    simp only [VR] at this ⊢
    obtain ⟨a, ha⟩ := this
    exact ⟨a, 0, ha, Nat.le_refl _, .virt, m, by simp⟩
  · exact (E.look k c e).le l
/-- An empty slice in a cell begins a block of one's own. -/
theorem Wk.sl0H {p : Nat → Bool} {ρ : Env} {h : Heap} (i j id z : Nat) {ver : Nat} {cs : List V} (hi : h.get i = some ⟨ver, .row cs⟩) (hs : cs[j]? = some .sl0) (hn : h.get id = none) :
    Wk p ρ h ρ ((h.set id ⟨0, .row []⟩).set i ⟨ver, .row (cs.set j (.own id 0 0 z 0))⟩) := by
  intro g w N T E H
  obtain ⟨g', l, m, H', t⟩ := new_virt H hn
  have hne : i ≠ id := fun e => by subst e; rw [hi] at hn; cases hn
  have hi' : (h.set id ⟨0, .row []⟩).get i = some ⟨ver, .row cs⟩ := by rw [Heap.get_set, if_neg hne]; exact hi
  obtain ⟨x, hx, hb⟩ := H'.own i _ hi'
  simp only at hx hb
  cases x with
  | virt => simp only [BR] at hb; subst hb; simp at hs
  | blk B c =>
    obtain ⟨H2, t2⟩ := set_own (e := ⟨ver, .row cs⟩) H' hi' hx w rfl rfl rfl rfl (fun _ _ => rfl) (.row (cs.set j (.own id 0 0 z 0))) (by
      simp only [BR] at hb ⊢
      obtain ⟨c0, el, h1, h2, pre, post, h3, h4⟩ := hb
      refine ⟨c0, el, h1, h2, pre, post, h3, VRL.of_get (by rw [List.length_set]; exact h4.length) fun k d v hd hv => ?_⟩
      rw [List.getElem?_set] at hd
      split at hd
      · rename_i hk
        subst hk
        split at hd
        · injection hd with hd; subst hd
          obtain ⟨v', h5, h6⟩ := h4.get hs
          rw [hv] at h5; injection h5 with h5; subst h5
          simp only [VR] at h6 ⊢
          obtain ⟨a, ha⟩ := h6
          exact ⟨a, 0, ha, Nat.le_refl _, .virt, m, by simp⟩
        · cases hd
      · obtain ⟨v', h5, h6⟩ := h4.get hd
        rw [hv] at h5; injection h5 with h5; subst h5; exact h6)
    exact ⟨g', E.le l, H2, t.trans t2, Kp.of_le l⟩
theorem WkV.trans {p : Nat → Bool} {v v1 v2 : V} {h h1 h2 : Heap} (a : WkV p v h v1 h1) (c : WkV p v1 h1 v2 h2) : WkV p v h v2 h2 := fun g w x hv H => by
  obtain ⟨g1, v1', H1, t1, k1⟩ := a g w x hv H
  obtain ⟨g2, v2', H2, t2, k2⟩ := c g1 w x v1' H1
  exact ⟨g2, v2', H2, t1.trans t2, k1.trans k2⟩
/-- At a function's end a block is only read from here on. -/
theorem WkV.frz {p : Nat → Bool} {v v' v3 : V} {h h' h3 : Heap} (i : Nat) {ver : Nat} {cs : List V} (hi : h.get i = some ⟨ver, .row cs⟩) (hp : p i = false) (hc : intoL (fun j => decide (j ≠ i)) cs = true) (hl : noLoopOn i h = true)
    (hv : v.frz i ver cs = v') (hh : frzH i ver cs h = h') (next : WkV p v' h' v3 h3) : WkV p v h v3 h3 := by
  subst hv; subst hh
  exact (WkV.of_wk (Wk.freeze (ρ := [(0, v)]) i hi hp hc hl)).trans next
/-- What is said of a value may be said less sharply. -/
def ImpV (a c : V) : Prop := ∀ g x, VR g a x → VR g c x
def impL : List V → List V → Prop
  | [], [] => True
  | a :: as, c :: cs => ImpV a c ∧ impL as cs
  | _, _ => False
theorem ImpV.refl (a : V) : ImpV a a := fun _ _ h => h
theorem impL_refl : ∀ l : List V, impL l l
  | [] => trivial
  | a :: l => ⟨ImpV.refl a, impL_refl l⟩
theorem impL_ok {g : Gh} : ∀ {as cs : List V} {vs : List Value}, impL as cs → VRL g as vs → VRL g cs vs
  | [], [], _, _, h => h
  | a :: as, c :: cs, vs, i, h => by
    simp only [VRL] at h
    obtain ⟨v, vs', rfl, h1, h2⟩ := h
    exact VRL.cons (i.1 g v h1) (impL_ok i.2 h2)
  | [], _ :: _, _, i, _ => i.elim
  | _ :: _, [], _, i, _ => i.elim
theorem impC_ok {g : Gh} {B : Nat} : ∀ {as cs : List V} {o : Nat}, impL as cs → VRC g B o as → VRC g B o cs
  | [], [], _, _, h => h
  | a :: as, c :: cs, o, i, h => by
    simp only [VRC] at h ⊢
    obtain ⟨⟨v, e, h1⟩, h2⟩ := h
    exact ⟨⟨v, e, i.1 g v h1⟩, impC_ok i.2 h2⟩
  | [], _ :: _, _, i, _ => i.elim
  | _ :: _, [], _, i, _ => i.elim
theorem ImpV.any (a : V) : ImpV a .any := fun _ _ _ => by simp only [VR]
theorem ImpV.sl0 : ImpV .sl0 (.ro 0 []) := fun g x h => by
  simp only [VR] at h ⊢
  obtain ⟨a, rfl⟩ := h
  exact ⟨a, 0, rfl, Nat.le_refl _, .inl (by simp)⟩
theorem ImpV.rop {as cs : List V} (i : impL as cs) : ImpV (.rop as) (.rop cs) := fun g x h => by
  simp only [VR] at h ⊢
  obtain ⟨B, o, e, hc⟩ := h
  exact ⟨B, o, e, impC_ok i hc⟩
theorem ImpV.fn {f : FuncId} {as cs bs ds : List V} (i : impL as cs) (j : impL bs ds) : ImpV (.fn f as bs) (.fn f cs ds) := fun g x h => by
  simp only [VR] at h ⊢
  obtain ⟨fs, c, e, h1, h2⟩ := h
  exact ⟨fs, c, e, impL_ok i h1, impL_ok j h2⟩
theorem Ev.less {P : Program} {fv fv' : V} {as cs : List V} {h : Heap} {R : V → Heap → Prop} (i : ImpV fv fv') (j : impL as cs) (e : Ev P fv' cs h R) : Ev P fv as h R :=
  fun g w fc vs h1 h2 H => e g w fc vs (i g fc h1) (impL_ok j h2) H
/-- A tag for each own block. -/
def tgL : List (Nat × Nat) → Nat → Nat
  | [], _ => 0
  | (j, t) :: l, i => if i = j then t else tgL l i
theorem Cl.less {P : Program} {tt : Tab} {fz : Nat → Bool} {cl : Cl0} {b : Frame} {N : Nat} {p : Nat → Bool} {Q : Post} {k : List Itm} {ρ : Env} {D : List Nat} {h : Heap} {all os : List Oper} {d : Option Nat} {fv fv' : V} {as cs : List V}
    (i : ImpV fv fv') (j : impL as cs) (r : Cl P tt fz cl b N p Q all d fv' cs os k ρ D h) : Cl P tt fz cl b N p Q all d fv as os k ρ D h := Ev.less i j r
/-- The results' blocks in another order. -/
theorem Ev.norm {P : Program} {fv : V} {args : List V} {h : Heap} {R R2 : V → Heap → Prop} (e : Ev P fv args h R) (n : ∀ v h', R v h' → ∃ h2, HEq' h' h2 ∧ R2 v h2) : Ev P fv args h R2 := by
  intro g w fc vs h1 h2 H
  obtain ⟨fr0, hb, e⟩ := e g w fc vs h1 h2 H
  refine ⟨fr0, hb, fun c cs => ?_⟩
  obtain ⟨v, h', vc, g', w', r, st, hv, hH, hT, hle⟩ := e c cs
  obtain ⟨h3, q, r2⟩ := n v h' r
  exact ⟨v, h3, vc, g', w', r2, st, hv, hH.congr q, hT.congr (fun _ => rfl) q, hle⟩
end Go.Vm
