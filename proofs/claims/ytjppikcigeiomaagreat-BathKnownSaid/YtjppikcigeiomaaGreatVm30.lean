import Derived.Test.YtjppikcigeiomaaGreatVm29
set_option linter.unusedVariables false
set_option linter.unusedSimpArgs false
namespace Go.Vm
/-! ### what lies within some own blocks lies within more -/
mutual
theorem V.into_mono {p q : Nat → Bool} (h : ∀ i, p i = true → q i = true) : ∀ v : V, v.into p = true → v.into q = true
  | .rop cs, hv => by simp only [V.into] at hv ⊢; exact intoL_mono h cs hv
  | .ptr i _ _, hv => by simp only [V.into] at hv ⊢; exact h i hv
  | .ro _ cs, hv => by simp only [V.into] at hv ⊢; exact intoL_mono h cs hv
  | .own i _ _ _ _, hv => by simp only [V.into] at hv ⊢; exact h i hv
  | .fn _ a b, hv => by
    simp only [V.into, Bool.and_eq_true] at hv ⊢
    exact ⟨intoL_mono h a hv.1, intoL_mono h b hv.2⟩
  | .yl i, hv => by simp only [V.into] at hv ⊢; exact h i hv
  | .mp i, hv => by simp only [V.into] at hv ⊢; exact h i hv
  | .agg cs, hv => by simp only [V.into] at hv ⊢; exact intoL_mono h cs hv
  | .tup cs, hv => by simp only [V.into] at hv ⊢; exact intoL_mono h cs hv
  | .any, _ => rfl
  | .und, _ => rfl
  | .int .., _ => rfl
  | .bool .., _ => rfl
  | .nilp, _ => rfl
  | .sl0, _ => rfl
  | .nilfn, _ => rfl
theorem intoL_mono {p q : Nat → Bool} (h : ∀ i, p i = true → q i = true) : ∀ l : List V, intoL p l = true → intoL q l = true
  | [], _ => rfl
  | c :: l, hv => by
    simp only [intoL, Bool.and_eq_true] at hv ⊢
    exact ⟨V.into_mono h c hv.1, intoL_mono h l hv.2⟩
end
theorem intoPs_mono {p q : Nat → Bool} (h : ∀ i, p i = true → q i = true) : ∀ l : List (V × V), intoPs p l = true → intoPs q l = true
  | [], _ => rfl
  | (a, b) :: l, hv => by
    simp only [intoPs, Bool.and_eq_true] at hv ⊢
    exact ⟨V.into_mono h a hv.1, V.into_mono h b hv.2.1, intoPs_mono h l hv.2.2⟩
theorem intoE_mono {p q : Nat → Bool} (h : ∀ i, p i = true → q i = true) : ∀ l : Env, intoE p l = true → intoE q l = true
  | [], _ => rfl
  | (s, c) :: l, hv => by
    simp only [intoE, Bool.and_eq_true] at hv ⊢
    exact ⟨V.into_mono h c hv.1, intoE_mono h l hv.2⟩
theorem intoH_mono {p q : Nat → Bool} (h : ∀ i, p i = true → q i = true) : ∀ l : Heap, intoH p l = true → intoH q l = true
  | [], _ => rfl
  | (s, e) :: l, hv => by
    simp only [intoH, Bool.and_eq_true] at hv ⊢
    refine ⟨?_, intoH_mono h l hv.2⟩
    have h1 := hv.1
    cases hb : e.blk with
    | row l => rw [hb] at h1; simp only [Blk.into] at h1 ⊢; exact intoL_mono h l h1
    | map es => rw [hb] at h1; simp only [Blk.into] at h1 ⊢; exact intoPs_mono h es h1
    | loop st pd fn N ρ ps sa bd d =>
      rw [hb] at h1
      simp only [Blk.into, Bool.and_eq_true] at h1 ⊢
      exact ⟨intoE_mono h ρ h1.1, h d h1.2⟩
    | dfr f => rfl
end Go.Vm
