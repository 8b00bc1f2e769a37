import Derived.Test.YtjppikcigeiomaaGreatVm18
set_option linter.unusedVariables false
set_option linter.unusedSimpArgs false
namespace Go.Vm

/-! ### forgetting -/
def domP (h : Heap) : Nat → Bool := fun i => (h.get i).isSome
def subE (ρ : Env) : Env → Prop
  | [] => True
  | (s, c) :: r => ρ.get s = some c ∧ subE ρ r
def subH (h : Heap) : Heap → Prop
  | [] => True
  | (i, e) :: r => h.get i = some e ∧ subH h r
def intoE (p : Nat → Bool) : Env → Bool
  | [] => true
  | (_, c) :: r => c.into p && intoE p r
def intoPs (p : Nat → Bool) : List (V × V) → Bool
  | [] => true
  | (a, b) :: r => a.into p && (b.into p && intoPs p r)
def Blk.into (p : Nat → Bool) : Blk → Bool
  | .row cs => intoL p cs
  | .map es => intoPs p es
  | .loop _ _ _ _ ρ _ _ _ d => intoE p ρ && p d
  | .dfr _ => true
def intoH (p : Nat → Bool) : Heap → Bool
  | [] => true
  | (_, e) :: r => e.blk.into p && intoH p r
theorem subE_ok {ρ : Env} : ∀ {ρ' : Env}, subE ρ ρ' → ∀ s c, ρ'.get s = some c → ρ.get s = some c
  | [], _, s, c, e => by cases e
  | (t, d) :: r, ⟨h1, h2⟩, s, c, e => by
    simp only [Env.get] at e
    by_cases hs : s = t
    · rw [if_pos hs] at e; injection e with e; subst e; subst hs; exact h1
    · rw [if_neg hs] at e; exact subE_ok h2 s c e
theorem subH_ok {h : Heap} : ∀ {h' : Heap}, subH h h' → ∀ i e, h'.get i = some e → h.get i = some e
  | [], _, s, c, e => by cases e
  | (t, d) :: r, ⟨h1, h2⟩, s, c, e => by
    simp only [Heap.get] at e
    by_cases hs : s = t
    · rw [if_pos hs] at e; injection e with e; subst e; subst hs; exact h1
    · rw [if_neg hs] at e; exact subH_ok h2 s c e
theorem intoE_ok {p : Nat → Bool} : ∀ {ρ : Env}, intoE p ρ = true → ∀ s c, ρ.get s = some c → c.into p = true
  | [], _, s, c, e => by cases e
  | (t, d) :: r, h, s, c, e => by
    simp only [intoE, Bool.and_eq_true] at h
    simp only [Env.get] at e
    by_cases hs : s = t
    · rw [if_pos hs] at e; injection e with e; subst e; exact h.1
    · rw [if_neg hs] at e; exact intoE_ok h.2 s c e
theorem intoH_ok {p : Nat → Bool} : ∀ {h : Heap}, intoH p h = true → ∀ i e, h.get i = some e → e.blk.into p = true
  | [], _, s, c, e => by cases e
  | (t, d) :: r, h, s, c, e => by
    simp only [intoH, Bool.and_eq_true] at h
    simp only [Heap.get] at e
    by_cases hs : s = t
    · rw [if_pos hs] at e; injection e with e; subst e; exact h.1
    · rw [if_neg hs] at e; exact intoH_ok h.2 s c e
theorem MR.sub {p : Nat → Bool} {g g' : Gh} (k : g.sub p g') : ∀ {ps : List (V × V)} {es : List MapEntry}, intoPs p ps = true → MR g ps es → MR g' ps es
  | [], _, _, h => by simpa only [MR] using h
  | (a, b) :: ps, es, hp, h => by
    simp only [MR, intoPs, Bool.and_eq_true] at h hp ⊢
    obtain ⟨e, es', rfl, h1, h2, h3⟩ := h
    exact ⟨e, es', rfl, h1.sub k _ _ hp.1, h2.sub k _ _ hp.2.1, MR.sub k hp.2.2 h3⟩
theorem ER.sub {p : Nat → Bool} {g g' : Gh} (k : g.sub p g') {N : Nat} {ρ : Env} {T : Array Value} (hp : intoE p ρ = true) (E : ER g N ρ T) : ER g' N ρ T :=
  ⟨E.size, fun s c e => (E.look s c e).sub k _ _ (intoE_ok hp s c e)⟩
theorem BR.sub {p : Nat → Bool} {g g' : Gh} (k : g.sub p g') {w : World} {x : Own} {b : Blk} (hp : b.into p = true) (h : BR g w x b) : BR g' w x b := by
  cases x with
  | virt => cases b <;> (simp only [BR] at h ⊢) <;> exact h
  | blk B c =>
    cases b with
    | row cs =>
      simp only [BR] at h ⊢
      obtain ⟨a, el, h1, h2, pre, post, h3, h4⟩ := h
      exact ⟨a, el, h1, h2, pre, post, h3, h4.sub k _ _ hp⟩
    | map es =>
      simp only [BR] at h ⊢
      obtain ⟨en, cl, h1, h2⟩ := h
      exact ⟨en, cl, h1, h2.sub k hp⟩
    | loop st pend fn N ρ params assign body dfr =>
      simp only [BR, Blk.into, Bool.and_eq_true] at h hp ⊢
      obtain ⟨T, d, dc, h1, h2, h3⟩ := h
      exact ⟨T, d, dc, h1, h2.sub k hp.1, k.m _ _ _ hp.2 h3⟩
    | dfr f => simpa only [BR] using h

/-- The ghost, cut down to what a heap names. -/
def Gh.cut (g : Gh) (p : Nat → Bool) : Gh := ⟨fun i v => if p i then g.m i v else none, g.ro⟩
theorem Gh.cut_sub (g : Gh) (p : Nat → Bool) : g.sub p (g.cut p) := ⟨fun i v x hp e => by simp [Gh.cut, hp, e], fun _ _ _ e => e⟩
theorem HRel.cut {g : Gh} {h h' : Heap} {w : World} (H : HRel g h w) (hh : ∀ i e, h'.get i = some e → h.get i = some e) (hb : intoH (domP h') h' = true) : HRel (g.cut (domP h')) h' w := by
  have hm : ∀ i v x, (g.cut (domP h')).m i v = some x → g.m i v = some x ∧ domP h' i = true := fun i v x e => by
    simp only [Gh.cut] at e
    by_cases hd : domP h' i = true
    · rw [if_pos hd] at e; exact ⟨e, hd⟩
    · rw [if_neg hd] at e; cases e
  refine ⟨H.ro, fun i e he => ?_, fun i j a b B c c' h1 h2 m1 m2 => H.inj i j a b B c c' (hh i a h1) (hh j b h2) (hm _ _ _ m1).1 (hm _ _ _ m2).1, fun i e B c o he m => H.apart i e B c o (hh i e he) (hm _ _ _ m).1, fun i v hv => ?_⟩
  · obtain ⟨x, h1, h2⟩ := H.own i e (hh i e he)
    exact ⟨x, by simp [Gh.cut, domP, he, h1], h2.sub (g.cut_sub _) (intoH_ok hb i e he)⟩
  · cases e : (g.cut (domP h')).m i v with
    | none => exact absurd e hv
    | some x =>
      obtain ⟨h1, h2⟩ := hm i v x e
      simp only [domP, Option.isSome_iff_exists] at h2
      obtain ⟨en, h3⟩ := h2
      obtain ⟨e2, h4, h5⟩ := H.dom i v (by rw [h1]; simp)
      rw [hh i en h3] at h4; injection h4 with h4; subst h4
      exact ⟨en, h3, h5⟩
theorem Wk.forget {p : Nat → Bool} {ρ ρ' : Env} {h h' : Heap} (hρ : subE ρ ρ') (hh : subH h h') (hp : ∀ i, p i = true → domP h' i = true) (hi : intoE (domP h') ρ' = true) (hb : intoH (domP h') h' = true) : Wk p ρ h ρ' h' := by
  intro g w N T E H
  have H' := H.cut (subH_ok hh) hb
  refine ⟨g.cut (domP h'), ⟨E.size, fun s c e => (E.look s c (subE_ok hρ s c e)).sub (g.cut_sub _) _ _ (intoE_ok hi s c e)⟩, H', ?_, fun i v x hpi e => by simp [Gh.cut, hp i hpi, e]⟩
  refine ⟨rfl, rfl, rfl, Nat.le_refl _, fun _ _ _ => rfl, ?_, fun _ _ _ e => e, fun _ _ e => .inl e⟩
  rintro B ⟨i, e, c, h1, h2⟩ _
  refine ⟨i, e, c, subH_ok hh i e h1, ?_⟩
  simp only [Gh.cut] at h2
  split at h2
  · exact h2
  · cases h2
/-- Only slots are forgotten. -/
theorem Wk.env {p : Nat → Bool} {ρ ρ' : Env} {h : Heap} (hρ : subE ρ ρ') : Wk p ρ h ρ' h := fun g w N T E H =>
  ⟨g, ⟨E.size, fun s c e => E.look s c (subE_ok hρ s c e)⟩, H, Tr.refl g h w, Kp.refl p g⟩

/-! ### freezing: an own block is only read from here on -/
mutual
def V.frz (i ver : Nat) (cs : List V) : V → V
  | .any => .any
  | .und => .und
  | .int k n => .int k n
  | .bool b => .bool b
  | .nilp => .nilp
  | .sl0 => .sl0
  | .nilfn => .nilfn
  | .rop l => .rop (frzL i ver cs l)
  | .ptr j v off => if j = i then (if v = ver then .rop (cs.drop off) else .any) else .ptr j v off
  | .ro n l => .ro n (frzL i ver cs l)
  | .own j v off s n => if j = i then (if v = ver then .ro n ((cs.drop off).take (n * s)) else .any) else .own j v off s n
  | .fn f a b => .fn f (frzL i ver cs a) (frzL i ver cs b)
  | .yl j => if j = i then .any else .yl j
  | .mp j => if j = i then .any else .mp j
  | .agg l => .agg (frzL i ver cs l)
  | .tup l => .tup (frzL i ver cs l)
def frzL (i ver : Nat) (cs : List V) : List V → List V
  | [] => []
  | c :: l => c.frz i ver cs :: frzL i ver cs l
end
def frzE (i ver : Nat) (cs : List V) : Env → Env
  | [] => []
  | (s, c) :: r => (s, c.frz i ver cs) :: frzE i ver cs r
def frzPs (i ver : Nat) (cs : List V) : List (V × V) → List (V × V)
  | [] => []
  | (a, b) :: r => (a.frz i ver cs, b.frz i ver cs) :: frzPs i ver cs r
def Blk.frz (i ver : Nat) (cs : List V) : Blk → Blk
  | .row l => .row (frzL i ver cs l)
  | .map es => .map (frzPs i ver cs es)
  | .loop st pend fn N ρ ps as bd d => .loop st pend fn N (frzE i ver cs ρ) ps as bd d
  | .dfr f => .dfr f
def frzH (i ver : Nat) (cs : List V) : Heap → Heap
  | [] => []
  | (j, e) :: r => if j = i then frzH i ver cs r else (j, ⟨e.ver, e.blk.frz i ver cs⟩) :: frzH i ver cs r
theorem frzE_get {i ver : Nat} {cs : List V} : ∀ {ρ : Env} {s : Nat}, (frzE i ver cs ρ).get s = (ρ.get s).map (V.frz i ver cs)
  | [], s => rfl
  | (t, c) :: r, s => by
    simp only [frzE, Env.get]
    split
    · rfl
    · exact frzE_get
theorem frzH_get {i ver : Nat} {cs : List V} : ∀ {h : Heap} {j : Nat}, (frzH i ver cs h).get j = if j = i then none else (h.get j).map fun e => ⟨e.ver, e.blk.frz i ver cs⟩
  | [], j => by simp [frzH, Heap.get]
  | (k, e) :: r, j => by
    simp only [frzH]
    by_cases hk : k = i
    · rw [if_pos hk, frzH_get]
      by_cases hj : j = i
      · rw [if_pos hj, if_pos hj]
      · rw [if_neg hj, if_neg hj]
        simp only [Heap.get]
        rw [if_neg (by omega)]
    · rw [if_neg hk]
      simp only [Heap.get, frzH_get]
      by_cases hj : j = k
      · subst hj; rw [if_pos rfl, if_neg hk, if_pos rfl]; rfl
      · rw [if_neg hj, if_neg hj]

structure Frz (g g' : Gh) (i ver : Nat) (cs : List V) : Prop where
  m : ∀ j v x, j ≠ i → g.m j v = some x → g'.m j v = some x
  ro : ∀ B o v, g.ro B o = some v → g'.ro B o = some v
  at' : ∀ x, g.m i ver = some x → match x with
    | .virt => cs = []
    | .blk B _ => VRC g' B 0 cs
mutual
theorem VR.frz {g g' : Gh} {i ver : Nat} {cs : List V} (F : Frz g g' i ver cs) : ∀ (c : V) (v : Value), VR g c v → VR g' (c.frz i ver cs) v
  | .any, v, h => by simp only [V.frz, VR]
  | .und, v, h => by simpa only [V.frz, VR] using h
  | .int .., v, h => by simpa only [V.frz, VR] using h
  | .bool .., v, h => by simpa only [V.frz, VR] using h
  | .nilp, v, h => by simpa only [V.frz, VR] using h
  | .sl0, v, h => by simpa only [V.frz, VR] using h
  | .nilfn, v, h => by simpa only [V.frz, VR] using h
  | .rop l, v, h => by
    simp only [V.frz, VR] at h ⊢
    obtain ⟨B, o, e, hc⟩ := h
    exact ⟨B, o, e, VRC.frz F B o l hc⟩
  | .ptr j ve off, v, h => by
    simp only [VR] at h
    obtain ⟨B, c, e, hm⟩ := h
    simp only [V.frz]
    by_cases hj : j = i
    · subst hj
      rw [if_pos rfl]
      by_cases hv : ve = ver
      · subst hv
        rw [if_pos rfl]
        have := F.at' _ hm
        simp only at this
        simp only [VR]
        exact ⟨B, off, e, by have := this.drop off; rwa [Nat.zero_add] at this⟩
      · rw [if_neg hv]; simp only [VR]
    · rw [if_neg hj]; simp only [VR]; exact ⟨B, c, e, F.m _ _ _ hj hm⟩
  | .ro n l, v, h => by
    simp only [V.frz, VR] at h ⊢
    obtain ⟨a, cap, e, hn, hc⟩ := h
    refine ⟨a, cap, e, hn, ?_⟩
    rcases hc with ⟨h0, h1⟩ | ⟨B, o, ea, hc⟩
    · left; subst h1; exact ⟨h0, by simp only [frzL]⟩
    · right; exact ⟨B, o, ea, VRC.frz F B o l hc⟩
  | .own j ve off s n, v, h => by
    simp only [VR] at h
    obtain ⟨a, cap, e, hn, x, hm, hx⟩ := h
    simp only [V.frz]
    by_cases hj : j = i
    · subst hj
      rw [if_pos rfl]
      by_cases hv : ve = ver
      · subst hv
        rw [if_pos rfl]
        have := F.at' _ hm
        simp only [VR]
        cases x with
        | virt =>
          simp only at this hx
          subst this
          exact ⟨a, cap, e, hn, .inl ⟨hx.1, by simp⟩⟩
        | blk B c =>
          simp only at this hx
          exact ⟨a, cap, e, hn, .inr ⟨B, off, hx.1, by have := this.drop off; rw [Nat.zero_add] at this; exact this.take _⟩⟩
      · rw [if_neg hv]; simp only [VR]
    · rw [if_neg hj]; simp only [VR]; exact ⟨a, cap, e, hn, x, F.m _ _ _ hj hm, hx⟩
  | .fn f a b, v, h => by
    simp only [V.frz, VR] at h ⊢
    obtain ⟨fs, cs', e, h1, h2⟩ := h
    exact ⟨fs, cs', e, VRL.frz F a _ h1, VRL.frz F b _ h2⟩
  | .yl j, v, h => by
    simp only [V.frz]
    by_cases hj : j = i
    · rw [if_pos hj]; simp only [VR]
    · rw [if_neg hj]; simp only [VR] at h ⊢; obtain ⟨B, c, e, hm⟩ := h; exact ⟨B, c, e, F.m _ _ _ hj hm⟩
  | .mp j, v, h => by
    simp only [V.frz]
    by_cases hj : j = i
    · rw [if_pos hj]; simp only [VR]
    · rw [if_neg hj]; simp only [VR] at h ⊢; obtain ⟨B, c, e, hm⟩ := h; exact ⟨B, c, e, F.m _ _ _ hj hm⟩
  | .agg l, v, h => by
    simp only [V.frz, VR] at h ⊢
    obtain ⟨vs, e, h1⟩ := h
    exact ⟨vs, e, VRL.frz F l _ h1⟩
  | .tup l, v, h => by
    simp only [V.frz, VR] at h ⊢
    obtain ⟨vs, e, h1⟩ := h
    exact ⟨vs, e, VRL.frz F l _ h1⟩
theorem VRL.frz {g g' : Gh} {i ver : Nat} {cs : List V} (F : Frz g g' i ver cs) : ∀ (l : List V) (vs : List Value), VRL g l vs → VRL g' (frzL i ver cs l) vs
  | [], vs, h => by simpa only [frzL, VRL] using h
  | c :: l, vs, h => by
    simp only [VRL] at h
    obtain ⟨v, vs', rfl, h1, h2⟩ := h
    simp only [frzL]
    exact VRL.cons (VR.frz F c v h1) (VRL.frz F l vs' h2)
theorem VRC.frz {g g' : Gh} {i ver : Nat} {cs : List V} (F : Frz g g' i ver cs) : ∀ (B o : Nat) (l : List V), VRC g B o l → VRC g' B o (frzL i ver cs l)
  | _, _, [], _ => by simp only [frzL, VRC]
  | B, o, c :: l, h => by
    simp only [frzL, VRC] at h ⊢
    obtain ⟨⟨v, e, h1⟩, h2⟩ := h
    exact ⟨⟨v, F.ro _ _ _ e, VR.frz F c v h1⟩, VRC.frz F B (o + 1) l h2⟩
end
theorem MR.frz {g g' : Gh} {i ver : Nat} {cs : List V} (F : Frz g g' i ver cs) : ∀ {ps : List (V × V)} {es : List MapEntry}, MR g ps es → MR g' (frzPs i ver cs ps) es
  | [], _, h => by simpa only [MR, frzPs] using h
  | (a, b) :: ps, es, h => by
    simp only [MR, frzPs] at h ⊢
    obtain ⟨e, es', rfl, h1, h2, h3⟩ := h
    exact ⟨e, es', rfl, VR.frz F _ _ h1, VR.frz F _ _ h2, MR.frz F h3⟩
theorem ER.frz {g g' : Gh} {i ver : Nat} {cs : List V} (F : Frz g g' i ver cs) {N : Nat} {ρ : Env} {T : Array Value} (E : ER g N ρ T) : ER g' N (frzE i ver cs ρ) T := by
  refine ⟨E.size, fun s c e => ?_⟩
  rw [frzE_get] at e
  simp only [Option.map_eq_some_iff] at e
  obtain ⟨d, h1, rfl⟩ := e
  exact VR.frz F _ _ (E.look s d h1)
def noLoopOn (i : Nat) : Heap → Bool
  | [] => true
  | (_, e) :: r => (match e.blk with
    | .loop _ _ _ _ _ _ _ _ d => decide (d ≠ i)
    | _ => true) && noLoopOn i r
theorem noLoopOn_ok {i : Nat} : ∀ {h : Heap}, noLoopOn i h = true → ∀ j e, h.get j = some e → ∀ st pend fn N ρ ps as bd d, e.blk = .loop st pend fn N ρ ps as bd d → d ≠ i
  | [], _, j, e, hj, _, _, _, _, _, _, _, _, _, _ => by cases hj
  | (k, x) :: r, hh, j, e, hj, st, pend, fn, N, ρ, ps, as, bd, d, he => by
    simp only [noLoopOn, Bool.and_eq_true] at hh
    simp only [Heap.get] at hj
    split at hj
    · injection hj with hj; subst hj
      rw [he] at hh
      simpa using hh.1
    · exact noLoopOn_ok hh.2 j e hj st pend fn N ρ ps as bd d he
theorem BR.frz {g g' : Gh} {i ver : Nat} {cs : List V} (F : Frz g g' i ver cs) {w : World} {x : Own} {b : Blk} (hd : ∀ st pend fn N ρ ps as bd d, b = .loop st pend fn N ρ ps as bd d → d ≠ i) (h : BR g w x b) : BR g' w x (b.frz i ver cs) := by
  cases b with
  | row l =>
    cases x with
    | virt => simp only [BR, Blk.frz] at h ⊢; subst h; simp only [frzL]
    | blk B c =>
      simp only [BR, Blk.frz] at h ⊢
      obtain ⟨a, el, h1, h2, pre, post, h3, h4⟩ := h
      exact ⟨a, el, h1, h2, pre, post, h3, VRL.frz F _ _ h4⟩
  | map es =>
    cases x with
    | virt => simp only [BR] at h
    | blk B c =>
      simp only [BR, Blk.frz] at h ⊢
      obtain ⟨en, cl, h1, h2⟩ := h
      exact ⟨en, cl, h1, h2.frz F⟩
  | loop st pend fn N ρ ps as bd d =>
    cases x with
    | virt => simp only [BR] at h
    | blk B c =>
      simp only [BR, Blk.frz] at h ⊢
      obtain ⟨T, dd, dc, h1, h2, h3⟩ := h
      exact ⟨T, dd, dc, h1, h2.frz F, F.m _ _ _ (hd _ _ _ _ _ _ _ _ _ rfl) h3⟩
  | dfr f =>
    cases x with
    | virt => simp only [BR] at h
    | blk B c => simpa only [BR, Blk.frz] using h

theorem Wk.freeze {p : Nat → Bool} {ρ : Env} {h : Heap} (i : Nat) {ver : Nat} {cs : List V} (hi : h.get i = some ⟨ver, .row cs⟩) (hp : p i = false) (hc : intoL (fun j => decide (j ≠ i)) cs = true) (hl : noLoopOn i h = true) :
    Wk p ρ h (frzE i ver cs ρ) (frzH i ver cs h) := by
  intro g w N T E H
  obtain ⟨x, hx, hb⟩ := H.own i _ hi
  simp only at hx hb
  -- the new ghost
  let rof : Nat → Nat → Option Value := fun B o => match x with
    | .virt => g.ro B o
    | .blk B0 _ => if B = B0 then (match w.heap[B0]? with
      | some (.cells c _ _) => if o < cs.length then c[o]? else none
      | _ => none) else g.ro B o
  let g' : Gh := ⟨fun j v => if j = i then none else g.m j v, rof⟩
  have hro : ∀ B o v, g.ro B o = some v → g'.ro B o = some v := fun B o v e => by
    simp only [g', rof]
    cases x with
    | virt => exact e
    | blk B0 c0 =>
      simp only
      by_cases hB : B = B0
      · subst hB; rw [H.apart i _ B c0 o hi hx] at e; cases e
      · rw [if_neg hB]; exact e
  have hm' : ∀ j v y, g'.m j v = some y → j ≠ i ∧ g.m j v = some y := fun j v y e => by
    simp only [g'] at e
    by_cases hj : j = i
    · rw [if_pos hj] at e; cases e
    · rw [if_neg hj] at e; exact ⟨hj, e⟩
  have hcut : g.sub (fun j => decide (j ≠ i)) g' := ⟨fun j v y hj e => by simp only [decide_eq_true_eq] at hj; simp only [g', if_neg hj]; exact e, hro⟩
  -- the cells of the block, as they are read from here on
  have hat : ∀ y, g.m i ver = some y → match y with
      | .virt => cs = []
      | .blk B _ => ∃ (c : Array Value) (el : TypeId) (fz : Nat × Nat) (pre : List Value), w.heap[B]? = some (.cells c el fz) ∧ VRL g cs pre ∧ (∀ j u, pre[j]? = some u → g'.ro B j = some u) := fun y hy => by
    rw [hx] at hy; injection hy with hy; subst hy
    cases x with
    | virt => simpa only [BR] using hb
    | blk B c0 =>
      simp only [BR] at hb
      obtain ⟨c, el, h1, h2, pre, post, h3, h4⟩ := hb
      refine ⟨c, el, _, pre, h1, h4, fun j u hj => ?_⟩
      have hjl : j < pre.length := (List.getElem?_eq_some_iff.1 hj).1
      simp only [g', rof, h1, if_true]
      rw [if_pos (by rw [← h4.length]; exact hjl), ← Array.getElem?_toList, h3, List.getElem?_append_left hjl]
      exact hj
  have F : Frz g g' i ver cs := by
    refine ⟨fun j v y hj e => by simp only [g', if_neg hj]; exact e, hro, fun y hy => ?_⟩
    have := hat y hy
    cases y with
    | virt => exact this
    | blk B c0 =>
      simp only at this ⊢
      obtain ⟨c, el, fzz, pre, h1, h2, h3⟩ := this
      refine VRC.of_get fun j d e => ?_
      obtain ⟨u, h4, h5⟩ := (h2.sub hcut _ _ hc).get e
      exact ⟨u, by rw [Nat.zero_add]; exact h3 j u h4, h5⟩
  have hget : ∀ j e', (frzH i ver cs h).get j = some e' → j ≠ i ∧ ∃ e, h.get j = some e ∧ e' = ⟨e.ver, e.blk.frz i ver cs⟩ := fun j e' he => by
    rw [frzH_get] at he
    by_cases hj : j = i
    · rw [if_pos hj] at he; cases he
    · rw [if_neg hj, Option.map_eq_some_iff] at he
      obtain ⟨e, h1, h2⟩ := he
      exact ⟨hj, e, h1, h2.symm⟩
  have hro2 : ∀ B o v, g'.ro B o = some v → g.ro B o = some v ∨ (∃ c0, x = .blk B c0) ∧ w.cell? ⟨B, o, none⟩ = some v := fun B o v e => by
    simp only [g', rof] at e
    cases x with
    | virt => exact .inl e
    | blk B0 c0 =>
      simp only at e
      by_cases hB : B = B0
      · subst hB
        rw [if_pos rfl] at e
        right
        refine ⟨⟨c0, rfl⟩, ?_⟩
        split at e
        · rename_i c el fzz hw
          split at e
          · rw [cell_row hw]; exact e
          · cases e
        · cases e
      · rw [if_neg hB] at e; exact .inl e
  refine ⟨g', E.frz F, ⟨?_, ?_, ?_, ?_, ?_⟩, ⟨rfl, rfl, rfl, Nat.le_refl _, fun _ _ _ => rfl, ?_, hro, ?_⟩, ?_⟩
  · intro B o v e
    rcases hro2 B o v e with e | ⟨_, e⟩
    · exact H.ro B o v e
    · exact e
  · intro j e' he
    obtain ⟨hj, e, h1, rfl⟩ := hget j e' he
    obtain ⟨y, h2, h3⟩ := H.own j e h1
    exact ⟨y, F.m _ _ _ hj h2, h3.frz F fun st pend fn N ρ ps as bd d hb => noLoopOn_ok hl j e h1 _ _ _ _ _ _ _ _ _ hb⟩
  · intro j k a b B c c' h1 h2 m1 m2
    obtain ⟨hj, ea, e1, rfl⟩ := hget j a h1
    obtain ⟨hk, eb, e2, rfl⟩ := hget k b h2
    exact H.inj j k ea eb B c c' e1 e2 (hm' _ _ _ m1).2 (hm' _ _ _ m2).2
  · intro j a B c o h1 m1
    obtain ⟨hj, ea, e1, rfl⟩ := hget j a h1
    have hm := (hm' _ _ _ m1).2
    cases e : g'.ro B o with
    | none => rfl
    | some v =>
      rcases hro2 B o v e with e | ⟨⟨c0, hB⟩, _⟩
      · rw [H.apart j ea B c o e1 hm] at e; cases e
      · subst hB; exact absurd (H.inj j i ea _ B c c0 e1 hi hm hx) hj
  · intro j v hv
    cases e : g'.m j v with
    | none => exact absurd e hv
    | some y =>
      obtain ⟨hj, hm⟩ := hm' _ _ _ e
      obtain ⟨en, h1, h2⟩ := H.dom j v (by rw [hm]; simp)
      exact ⟨⟨en.ver, en.blk.frz i ver cs⟩, by rw [frzH_get, if_neg hj, h1]; rfl, h2⟩
  · rintro B ⟨j, a, c, h1, m1⟩ _
    obtain ⟨hj, ea, e1, rfl⟩ := hget j a h1
    exact ⟨j, ea, c, e1, (hm' _ _ _ m1).2⟩
  · intro B o e
    cases e2 : g'.ro B o with
    | none => exact absurd e2 e
    | some v =>
      rcases hro2 B o v e2 with e3 | ⟨⟨c0, hB⟩, _⟩
      · left; rw [e3]; simp
      · right; right; subst hB; exact ⟨i, _, c0, hi, hx⟩
  · intro j v y hpj e
    refine F.m _ _ _ (fun hj => ?_) e
    subst hj; rw [hp] at hpj; cases hpj
end Go.Vm
