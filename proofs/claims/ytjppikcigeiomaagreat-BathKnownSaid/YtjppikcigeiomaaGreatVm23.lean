import Derived.Test.YtjppikcigeiomaaGreatVm22
set_option linter.unusedVariables false
set_option linter.unusedSimpArgs false
namespace Go.Vm

theorem Heap.get_append : ∀ (a b : Heap) (i : Nat), Heap.get (a ++ b) i = (a.get i).or (b.get i)
  | [], b, i => by simp [Heap.get]
  | (j, e) :: a, b, i => by
    simp only [List.cons_append, Heap.get]
    by_cases h : i = j
    · simp [h]
    · simp [h, Heap.get_append a b i]

/-- A contract holds beside whatever other own blocks. -/
theorem Ev.frame {P : Program} {fv : V} {args : List V} {h0 : Heap} {R : V → Heap → Prop} (c : Ev P fv args h0 R) (k : Heap) (hd : ∀ i e, h0.get i = some e → k.get i = none)
    (hf : fv.into (domP h0) = true) (ha : intoL (domP h0) args = true) (hb : intoH (domP h0) h0 = true) (hR : ∀ v h', R v h' → ∀ i e, h'.get i = some e → k.get i = none) :
    Ev P fv args (h0 ++ k) fun v h'' => ∃ h', R v h' ∧ h'' = h' ++ k := by
  intro g w fc as h1 h2 H
  have hg0 : ∀ i e, h0.get i = some e → (h0 ++ k).get i = some e := fun i e he => by rw [Heap.get_append, he]; rfl
  have hgk : ∀ i e, k.get i = some e → (h0 ++ k).get i = some e := fun i e he => by
    rw [Heap.get_append]
    cases e0 : h0.get i with
    | none => simpa using he
    | some x => rw [hd i x e0] at he; cases he
  have H0 : HRel (g.cut (domP h0)) h0 w := H.cut hg0 hb
  have hcut : ∀ i v x, (g.cut (domP h0)).m i v = some x → g.m i v = some x ∧ domP h0 i = true := fun i v x e => by
    simp only [Gh.cut] at e
    by_cases hdm : domP h0 i = true
    · rw [if_pos hdm] at e; exact ⟨e, hdm⟩
    · rw [if_neg hdm] at e; cases e
  obtain ⟨fr0, hbg, c⟩ := c (g.cut (domP h0)) w fc as (h1.sub (g.cut_sub _) _ _ hf) (h2.sub (g.cut_sub _) _ _ ha) H0
  refine ⟨fr0, hbg, fun cl cs => ?_⟩
  obtain ⟨v, h', vc, g1, w1, r, st, hv, H1, T1, hle⟩ := c cl cs
  let g2 : Gh := ⟨fun i v => if (k.get i).isSome then g.m i v else g1.m i v, g1.ro⟩
  have hk' := hR v h' r
  have l1 : g1.le g2 := ⟨fun i v x _ e => by
    obtain ⟨en, h3, _⟩ := H1.dom i v (by rw [e]; simp)
    simp [g2, hk' i en h3, e], fun _ _ _ e => e⟩
  have l2 : g.le g2 := ⟨fun i v x _ e => by
    by_cases hk : (k.get i).isSome = true
    · simp [g2, hk, e]
    · simp only [g2, if_neg hk]
      obtain ⟨en, h3, _⟩ := H.dom i v (by rw [e]; simp)
      rw [Heap.get_append] at h3
      cases e0 : h0.get i with
      | none => rw [e0] at h3; simp only [Option.none_or] at h3; rw [h3] at hk; simp at hk
      | some y =>
        exact hle.m i v x rfl (by simp [Gh.cut, domP, e0, e]), fun B o v e => hle.ro B o v e⟩
  -- an own block of k is none of the contract's
  have hkb : ∀ i e B cc, k.get i = some e → g.m i e.ver = some (.blk B cc) → ¬ OwnB (g.cut (domP h0)) h0 B := by
    rintro i e B cc he hm ⟨j, e', c', hj, hm'⟩
    have := H.inj i j e e' B cc c' (hgk i e he) (hg0 j e' hj) hm (hcut _ _ _ hm').1
    subst this
    rw [hd i e' hj] at he; cases he
  have hblk : ∀ i e B cc, k.get i = some e → g.m i e.ver = some (.blk B cc) → w1.heap[B]? = w.heap[B]? := fun i e B cc he hm =>
    T1.mods B (H.lt ⟨i, e, cc, hgk i e he, hm⟩) (hkb i e B cc he hm)
  have hown2 : ∀ i e B cc, (h' ++ k).get i = some e → g2.m i e.ver = some (.blk B cc) → (h'.get i = some e ∧ g1.m i e.ver = some (.blk B cc)) ∨ (k.get i = some e ∧ g.m i e.ver = some (.blk B cc)) := fun i e B cc he hm => by
    rw [Heap.get_append] at he
    cases e0 : h'.get i with
    | none =>
      rw [e0] at he; simp only [Option.none_or] at he
      right; exact ⟨he, by simpa [g2, he] using hm⟩
    | some x =>
      rw [e0] at he; simp at he; subst he
      left; exact ⟨rfl, by simpa [g2, hk' i x e0] using hm⟩
  refine ⟨v, h' ++ k, vc, g2, w1, ⟨h', r, rfl⟩, st, hv.le l1, ⟨H1.ro, ?_, ?_, ?_, ?_⟩, ⟨T1.os, T1.tape, T1.output, T1.size, ?_, ?_, T1.romono, ?_⟩, l2⟩
  · intro i e he
    rw [Heap.get_append] at he
    cases e0 : h'.get i with
    | none =>
      rw [e0] at he; simp only [Option.none_or] at he
      obtain ⟨x, h3, h4⟩ := H.own i e (hgk i e he)
      exact ⟨x, l2.m _ _ _ rfl h3, h4.le l2 fun B cc hx => by subst hx; exact hblk i e B cc he h3⟩
    | some y =>
      rw [e0] at he; simp at he; subst he
      obtain ⟨x, h3, h4⟩ := H1.own i y e0
      exact ⟨x, l1.m _ _ _ rfl h3, h4.le l1 fun _ _ _ => rfl⟩
  · intro i j a b B c1 c2 ha' hb' m1 m2
    have lem : ∀ i j a b c1 c2, h'.get i = some a → g1.m i a.ver = some (.blk B c1) → k.get j = some b → g.m j b.ver = some (.blk B c2) → False := by
      intro i j a b c1 c2 e1 m1 e2 m2
      have hB := H.lt ⟨j, b, c2, hgk j b e2, m2⟩
      exact hkb j b B c2 e2 m2 (T1.own' B ⟨i, a, c1, e1, m1⟩ hB)
    rcases hown2 i a B c1 ha' m1 with ⟨e1, n1⟩ | ⟨e1, n1⟩ <;> rcases hown2 j b B c2 hb' m2 with ⟨e2, n2⟩ | ⟨e2, n2⟩
    · exact H1.inj i j a b B c1 c2 e1 e2 n1 n2
    · exact (lem i j a b c1 c2 e1 n1 e2 n2).elim
    · exact (lem j i b a c2 c1 e2 n2 e1 n1).elim
    · exact H.inj i j a b B c1 c2 (hgk _ _ e1) (hgk _ _ e2) n1 n2
  · intro i e B cc o he hm
    show g1.ro B o = none
    rcases hown2 i e B cc he hm with ⟨e1, n1⟩ | ⟨e1, n1⟩
    · exact H1.apart i e B cc o e1 n1
    · cases e2 : g1.ro B o with
      | none => rfl
      | some x =>
        rcases T1.ronew B o (by rw [e2]; simp) with hh | hh | hh
        · exact absurd (H.apart i e B cc o (hgk _ _ e1) n1) hh
        · have := H.lt ⟨i, e, cc, hgk _ _ e1, n1⟩; omega
        · exact (hkb i e B cc e1 n1 hh).elim
  · intro i v hv
    by_cases hk : (k.get i).isSome = true
    · obtain ⟨e, he⟩ := Option.isSome_iff_exists.1 hk
      simp only [g2, hk, if_true] at hv
      obtain ⟨en, h3, h4⟩ := H.dom i v hv
      rw [hgk i e he] at h3; injection h3 with h3; subst h3
      refine ⟨e, ?_, h4⟩
      rw [Heap.get_append]
      cases e0 : h'.get i with
      | none => simpa using he
      | some x => rw [hk' i x e0] at he; cases he
    · simp only [g2, if_neg hk] at hv
      obtain ⟨en, h3, h4⟩ := H1.dom i v hv
      exact ⟨en, by rw [Heap.get_append, h3]; rfl, h4⟩
  · intro B hB hn
    refine T1.mods B hB fun ⟨j, e', c', hj, hm'⟩ => hn ⟨j, e', c', hg0 _ _ hj, (hcut _ _ _ hm').1⟩
  · rintro B ⟨i, e, cc, he, hm⟩ hB
    rcases hown2 i e B cc he hm with ⟨e1, n1⟩ | ⟨e1, n1⟩
    · obtain ⟨j, e', c', hj, hm'⟩ := T1.own' B ⟨i, e, cc, e1, n1⟩ hB
      exact ⟨j, e', c', hg0 _ _ hj, (hcut _ _ _ hm').1⟩
    · exact ⟨i, e, cc, hgk _ _ e1, n1⟩
  · intro B o e
    rcases T1.ronew B o e with hh | hh | ⟨j, e', c', hj, hm'⟩
    · exact .inl hh
    · exact .inr (.inl hh)
    · exact .inr (.inr ⟨j, e', c', hg0 _ _ hj, (hcut _ _ _ hm').1⟩)

/-- The same, over whatever heap is made up so. -/
theorem Ev.frame' {P : Program} {fv : V} {args : List V} {h0 h : Heap} {R : V → Heap → Prop} (c : Ev P fv args h0 R) (k : Heap) (he : HEq' (h0 ++ k) h) (hd : ∀ i e, h0.get i = some e → k.get i = none)
    (hf : fv.into (domP h0) = true) (ha : intoL (domP h0) args = true) (hb : intoH (domP h0) h0 = true) (hR : ∀ v h', R v h' → ∀ i e, h'.get i = some e → k.get i = none) :
    Ev P fv args h fun v h'' => ∃ h', R v h' ∧ h'' = h' ++ k := (c.frame k hd hf ha hb hR).congr he
end Go.Vm
