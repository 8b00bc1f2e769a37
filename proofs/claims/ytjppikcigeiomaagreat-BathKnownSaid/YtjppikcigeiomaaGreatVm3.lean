import Derived.Test.YtjppikcigeiomaaGreatVm2
set_option linter.unusedVariables false
set_option linter.unusedSimpArgs false
namespace Go.Vm

/-- An operand's value in a frame. -/
def evT (T : Array Value) : Operand → Value
  | .tmp t => T.getD t undef
  | .const v => v
  | .global g => .pointer (some ⟨g, 0, none⟩)
  | .func f => .func (.func f) #[] #[]

theorem cv_ok (g : Gh) : ∀ v : Value, VR g (cv v) v
  | .int .. | .bool .. | .nilFunc => by simp [cv, VR]
  | .pointer none => by simp [cv, VR]
  | .pointer (some _) => by simp [cv, VR]
  | .slice none 0 0 => by simp [cv, VR]
  | .slice none 0 (n + 1) | .slice none (n + 1) _ | .slice (some _) _ _ => by simp [cv, VR]
  | .float .. | .complex .. | .string .. | .map .. | .chan .. | .func .. | .iface .. | .nilIface | .agg .. | .tuple .. => by simp [cv, VR]
theorem ev_ok {g : Gh} {N : Nat} {ρ : Env} {T : Array Value} (h : ER g N ρ T) (x : Operand) : VR g (ev ρ x) (evT T x) := by
  cases x with
  | tmp t =>
    simp only [ev, evT]
    cases e : ρ.get t with
    | none => simp [VR]
    | some c => exact h.look t c e
  | const v => exact cv_ok g v
  | func f => simp [ev, evT, VR, VRL]
  | global x => simp [ev, VR]
theorem evL_ok {g : Gh} {N : Nat} {ρ : Env} {T : Array Value} (h : ER g N ρ T) : ∀ xs : List Operand, VRL g (evL ρ xs) (xs.map (evT T))
  | [] => VRL.nil
  | x :: xs => VRL.cons (ev_ok h x) (evL_ok h xs)

theorem ER.le {g g' : Gh} {N : Nat} {ρ : Env} {T : Array Value} (h : ER g N ρ T) (k : g.le g') : ER g' N ρ T :=
  ⟨h.size, fun s c e => (h.look s c e).le k⟩
theorem ER.put {g : Gh} {N : Nat} {ρ : Env} {T : Array Value} (h : ER g N ρ T) {d : Nat} (hd : d < N) {v : V} {x : Value} (hv : VR g v x) :
    ER g N ((d, v) :: ρ) (T.setIfInBounds d x) := by
  refine ⟨by simpa using h.size, fun s c e => ?_⟩
  simp only [Env.get] at e
  by_cases hs : s = d
  · subst hs
    rw [if_pos rfl] at e; injection e with e; subst e
    simpa [h.size, hd] using hv
  · rw [if_neg hs] at e
    have := h.look s c e
    simpa [Array.getD_eq_getD_getElem?, Array.getElem?_setIfInBounds, Ne.symm hs] using this

/-! ### cells -/
theorem cells?_ok {g : Gh} {c : V} {v : Value} {cs : List V} (h : VR g c v) (e : c.cells? = some cs) : VRL g cs v.cells.toList := by
  cases c <;> simp only [V.cells?, Option.some.injEq, reduceCtorEq] at e <;> subst e <;> simp only [VR] at h
  case agg cs => obtain ⟨vs, rfl, h⟩ := h; exact h
  case rop cs => obtain ⟨B, o, rfl, h⟩ := h; exact VRL.cons (by simp only [VR]; exact ⟨B, o, rfl, h⟩) VRL.nil
  case ptr => obtain ⟨B, c, rfl, h⟩ := h; exact VRL.cons (by simp only [VR]; exact ⟨B, c, rfl, h⟩) VRL.nil
  case sl0 => obtain ⟨a, rfl⟩ := h; exact VRL.cons (by simp [VR]) VRL.nil
  case ro => obtain ⟨a, cap, rfl, h⟩ := h; exact VRL.cons (by simp only [VR]; exact ⟨a, cap, rfl, h⟩) VRL.nil
  case own => obtain ⟨a, cap, rfl, h⟩ := h; exact VRL.cons (by simp only [VR]; exact ⟨a, cap, rfl, h⟩) VRL.nil
  case fn => obtain ⟨a, b, rfl, h⟩ := h; exact VRL.cons (by simp only [VR]; exact ⟨a, b, rfl, h⟩) VRL.nil
  case yl => obtain ⟨a, b, rfl, h⟩ := h; exact VRL.cons (by simp only [VR]; exact ⟨a, b, rfl, h⟩) VRL.nil
  case mp => obtain ⟨a, b, rfl, h⟩ := h; exact VRL.cons (by simp only [VR]; exact ⟨a, b, rfl, h⟩) VRL.nil
  all_goals (subst h; exact VRL.cons (by simp [VR]) VRL.nil)
theorem one_ok {g : Gh} {c : V} {v : Value} (h : VR g c v) (e : c.one = true) : v.oneCell' = true := by
  cases c <;> simp only [V.one, reduceCtorEq, Bool.false_eq_true] at e <;> simp only [VR] at h
  case rop cs => obtain ⟨B, o, rfl, h⟩ := h; rfl
  case ptr => obtain ⟨B, c, rfl, h⟩ := h; rfl
  case sl0 => obtain ⟨a, rfl⟩ := h; rfl
  case ro => obtain ⟨a, cap, rfl, h⟩ := h; rfl
  case own => obtain ⟨a, cap, rfl, h⟩ := h; rfl
  case fn => obtain ⟨a, b, rfl, h⟩ := h; rfl
  case yl => obtain ⟨a, b, rfl, h⟩ := h; rfl
  case mp => obtain ⟨a, b, rfl, h⟩ := h; rfl
  all_goals (subst h; rfl)
theorem oneL_ok {g : Gh} : ∀ {cs : List V} {vs : List Value}, VRL g cs vs → oneL cs = true → ∀ v ∈ vs, v.oneCell' = true
  | [], vs, h, _, v, hv => by simp only [VRL] at h; subst h; simp at hv
  | c :: cs, vs, h, e, v, hv => by
    simp only [VRL] at h
    obtain ⟨x, vs', rfl, h1, h2⟩ := h
    simp only [oneL, Bool.and_eq_true] at e
    rcases List.mem_cons.1 hv with rfl | hv
    · exact one_ok h1 e.1
    · exact oneL_ok h2 e.2 v hv

/-! ### blocks -/
theorem MR.le {g g' : Gh} (k : g.le g') : ∀ {ps : List (V × V)} {es : List MapEntry}, MR g ps es → MR g' ps es
  | [], _, h => by simpa only [MR] using h
  | (a, b) :: ps, es, h => by
    simp only [MR] at h ⊢
    obtain ⟨e, es', rfl, h1, h2, h3⟩ := h
    exact ⟨e, es', rfl, h1.le k, h2.le k, MR.le k h3⟩
/-- A block of one's own is as it was, where the world's block is. -/
theorem BR.le {g g' : Gh} (k : g.le g') {w w' : World} {x : Own} {b : Blk} (h : BR g w x b) (hw : ∀ B c, x = .blk B c → w'.heap[B]? = w.heap[B]?) : BR g' w' x b := by
  cases x with
  | virt => cases b <;> (simp only [BR] at h ⊢) <;> exact h
  | blk B c =>
    have e := hw B c rfl
    cases b with
    | row cs =>
      simp only [BR] at h ⊢
      obtain ⟨a, el, h1, h2, pre, post, h3, h4⟩ := h
      exact ⟨a, el, by rw [e, h1], h2, pre, post, h3, h4.le k⟩
    | map es =>
      simp only [BR] at h ⊢
      obtain ⟨en, cl, h1, h2⟩ := h
      exact ⟨en, cl, by rw [e, h1], h2.le k⟩
    | loop st pend fn N ρ params assign body dfr =>
      simp only [BR] at h ⊢
      obtain ⟨T, d, dc, h1, h2, h3⟩ := h
      exact ⟨T, d, dc, by rw [e, h1], h2.le k, k.m _ _ _ rfl h3⟩
    | dfr f =>
      simp only [BR] at h ⊢
      rw [e, h]

theorem BR.lt {g : Gh} {w : World} {B c : Nat} {b : Blk} (h : BR g w (.blk B c) b) : B < w.heap.size := by
  have key : ∃ o, w.heap[B]? = some o := by
    cases b <;> simp only [BR] at h
    · obtain ⟨a, el, h1, _⟩ := h; exact ⟨_, h1⟩
    · obtain ⟨a, el, h1, _⟩ := h; exact ⟨_, h1⟩
    · obtain ⟨a, el, _, h1, _⟩ := h; exact ⟨_, h1⟩
    · exact ⟨_, h⟩
  obtain ⟨o, ho⟩ := key
  exact (Array.getElem?_eq_some_iff.1 ho).1
theorem HRel.lt {g : Gh} {h : Heap} {w : World} (H : HRel g h w) {B : Nat} (hB : OwnB g h B) : B < w.heap.size := by
  obtain ⟨i, e, c, h1, h2⟩ := hB
  obtain ⟨x, h3, h4⟩ := H.own i e h1
  rw [h2] at h3; injection h3 with h3; subst h3
  exact h4.lt
theorem HRel.ro_lt {g : Gh} {h : Heap} {w : World} (H : HRel g h w) {B o : Nat} {v : Value} (e : g.ro B o = some v) : B < w.heap.size :=
  World.block_lt_of_cell? (w := w) (a := ⟨B, o, none⟩) (H.ro B o v e)
theorem HRel.ro_none {g : Gh} {h : Heap} {w : World} (H : HRel g h w) {B o : Nat} (hB : w.heap.size ≤ B) : g.ro B o = none := by
  cases e : g.ro B o with
  | none => rfl
  | some v => have := H.ro_lt e; omega

theorem cell_eq {w w' : World} {B o : Nat} (h : w'.heap[B]? = w.heap[B]?) : w'.cell? ⟨B, o, none⟩ = w.cell? ⟨B, o, none⟩ := by
  simp only [World.cell?, h]
theorem cell_row {w : World} {B o : Nat} {c : Array Value} {el : TypeId} {f : Nat × Nat} (h : w.heap[B]? = some (.cells c el f)) : w.cell? ⟨B, o, none⟩ = c[o]? := by
  simp [World.cell?, h]

theorem heap_alloc_old {w : World} {o : Obj} {B : Nat} (hB : B < w.heap.size) : (w.alloc o).heap[B]? = w.heap[B]? := by
  show (w.heap.push o)[B]? = _
  rw [Array.getElem?_push, if_neg (by omega)]
theorem heap_alloc_new {w : World} {o : Obj} : (w.alloc o).heap[w.heap.size]? = some o := by
  show (w.heap.push o)[w.heap.size]? = _
  simp

/-- A new block that is one's own. -/
theorem new_own {g : Gh} {h : Heap} {w : World} (H : HRel g h w) {i : Nat} (hi : h.get i = none) (o : Obj) (cap : Nat) (b : Blk)
    (hb : ∀ g', g.le g' → g'.m i 0 = some (.blk w.heap.size cap) → BR g' (w.alloc o) (.blk w.heap.size cap) b) :
    ∃ g', g.le g' ∧ g'.m i 0 = some (.blk w.heap.size cap) ∧ HRel g' (h.set i ⟨0, b⟩) (w.alloc o) ∧ Tr g h w g' (h.set i ⟨0, b⟩) (w.alloc o) := by
  let g' : Gh := ⟨fun j v => if j = i then (if v = 0 then some (.blk w.heap.size cap) else none) else g.m j v, g.ro⟩
  have hgi : ∀ v, g.m i v = none := fun v => by
    cases e : g.m i v with
    | none => rfl
    | some x =>
      obtain ⟨e', h1, _⟩ := H.dom i v (by rw [e]; simp)
      rw [hi] at h1; cases h1
  have hle : g.le g' := ⟨fun j v x _ e => by
    by_cases hj : j = i
    · subst hj; rw [hgi] at e; cases e
    · simpa [g', hj] using e, fun B o v e => e⟩
  have hold : ∀ j, j ≠ i → ∀ v, g'.m j v = g.m j v := fun j hj v => by simp [g', hj]
  have hgm : g'.m i 0 = some (.blk w.heap.size cap) := by simp [g']
  have hnew : ∀ v x, g'.m i v = some x → v = 0 ∧ x = .blk w.heap.size cap := fun v x e => by
    by_cases hv : v = 0
    · subst hv; rw [hgm] at e; injection e with e; exact ⟨rfl, e.symm⟩
    · simp [g', hv] at e
  refine ⟨g', hle, hgm, ⟨?_, ?_, ?_, ?_, ?_⟩, ?_⟩
  · intro B o' v e
    have := H.ro B o' v e
    rw [cell_eq (heap_alloc_old (H.ro_lt e))]; exact this
  · intro j e he
    rw [Heap.get_set] at he
    by_cases hj : j = i
    · subst hj; rw [if_pos rfl] at he; injection he with he; subst he
      exact ⟨_, hgm, hb g' hle hgm⟩
    · rw [if_neg hj] at he
      obtain ⟨x, h1, h2⟩ := H.own j e he
      refine ⟨x, by rw [hold j hj]; exact h1, h2.le hle fun B c hx => ?_⟩
      subst hx
      exact heap_alloc_old h2.lt
  · intro j k e e' B c c' he he' hm hm'
    rw [Heap.get_set] at he he'
    by_cases hj : j = i
    · subst hj
      by_cases hk : k = j
      · exact hk.symm
      · obtain ⟨_, e2⟩ := hnew _ _ hm
        injection e2 with e2 _
        rw [if_neg hk] at he'
        rw [hold k hk] at hm'
        have := H.lt ⟨k, e', c', he', hm'⟩
        omega
    · by_cases hk : k = i
      · subst hk
        obtain ⟨_, e2⟩ := hnew _ _ hm'
        injection e2 with e2 _
        rw [if_neg hj] at he
        rw [hold j hj] at hm
        have := H.lt ⟨j, e, c, he, hm⟩
        omega
      · rw [if_neg hj] at he
        rw [if_neg hk] at he'
        rw [hold j hj] at hm
        rw [hold k hk] at hm'
        exact H.inj j k e e' B c c' he he' hm hm'
  · intro j e B c o' he hm
    rw [Heap.get_set] at he
    by_cases hj : j = i
    · subst hj
      obtain ⟨_, e2⟩ := hnew _ _ hm
      injection e2 with e2 _
      exact H.ro_none (by omega)
    · rw [if_neg hj] at he
      rw [hold j hj] at hm
      exact H.apart j e B c o' he hm
  · intro j v hm
    by_cases hj : j = i
    · subst hj
      cases e : g'.m j v with
      | none => exact absurd e hm
      | some x => exact ⟨⟨0, b⟩, by rw [Heap.get_set, if_pos rfl], by rw [(hnew v x e).1]; exact Nat.le_refl _⟩
    · rw [hold j hj] at hm
      obtain ⟨e, h1, h2⟩ := H.dom j v hm
      exact ⟨e, by rw [Heap.get_set, if_neg hj]; exact h1, h2⟩
  · refine ⟨rfl, rfl, rfl, by simp, fun B hB _ => heap_alloc_old hB, ?_, fun _ _ _ e => e, fun B o' e => .inl e⟩
    rintro B ⟨j, e, c, he, hm⟩ hB
    rw [Heap.get_set] at he
    by_cases hj : j = i
    · subst hj
      obtain ⟨_, e2⟩ := hnew _ _ hm
      injection e2 with e2 _
      omega
    · rw [if_neg hj] at he
      rw [hold j hj] at hm
      exact ⟨j, e, c, he, hm⟩

/-- A new block that is only read from then on. -/
theorem new_ro {g : Gh} {h : Heap} {w : World} (H : HRel g h w) (c : Array Value) (el : TypeId) {cs : List V} (hc : VRL g cs c.toList) :
    ∃ g', g.le g' ∧ VRC g' w.heap.size 0 cs ∧ HRel g' h (w.alloc (.cells c el)) ∧ Tr g h w g' h (w.alloc (.cells c el)) := by
  let g' : Gh := ⟨g.m, fun B o => if B = w.heap.size then c[o]? else g.ro B o⟩
  have hro : ∀ B o v, g.ro B o = some v → g'.ro B o = some v := fun B o v e => by
    have := H.ro_lt e
    simp only [g']
    rw [if_neg (by omega)]; exact e
  have hle : g.le g' := ⟨fun j v x _ e => e, hro⟩
  refine ⟨g', hle, ?_, ⟨?_, ?_, ?_, ?_, ?_⟩, ?_⟩
  · refine VRC.of_get fun j c' e => ?_
    obtain ⟨v, h1, h2⟩ := hc.get e
    exact ⟨v, by simpa [g'] using h1, h2.le hle⟩
  · intro B o v e
    by_cases hB : B = w.heap.size
    · subst hB
      rw [cell_row heap_alloc_new]
      simpa [g'] using e
    · simp only [g', if_neg hB] at e
      rw [cell_eq (heap_alloc_old (H.ro_lt e))]
      exact H.ro B o v e
  · intro j e he
    obtain ⟨x, h1, h2⟩ := H.own j e he
    exact ⟨x, h1, h2.le hle fun B c hx => by subst hx; exact heap_alloc_old h2.lt⟩
  · exact H.inj
  · intro j e B c' o he hm
    have := H.lt ⟨j, e, c', he, hm⟩
    simp only [g']
    rw [if_neg (by omega)]
    exact H.apart j e B c' o he hm
  · exact H.dom
  · refine ⟨rfl, rfl, rfl, by simp, fun B hB _ => heap_alloc_old hB, fun B ho _ => ho, hro, fun B o e => ?_⟩
    by_cases hB : B = w.heap.size
    · exact .inr (.inl (by omega))
    · simp only [g', if_neg hB] at e
      exact .inl e

/-- An own block gets new contents (the same version). -/
theorem set_own {g : Gh} {h : Heap} {w : World} (H : HRel g h w) {i : Nat} {e : Ent} (hi : h.get i = some e) {B c : Nat} (hm : g.m i e.ver = some (.blk B c))
    (w' : World) (hos : w'.os = w.os) (ht : w'.tape = w.tape) (hout : w'.output = w.output) (hsz : w'.heap.size = w.heap.size) (hB : ∀ k, k ≠ B → w'.heap[k]? = w.heap[k]?)
    (b : Blk) (hb : BR g w' (.blk B c) b) : HRel g (h.set i ⟨e.ver, b⟩) w' ∧ Tr g h w g (h.set i ⟨e.ver, b⟩) w' := by
  have hget : ∀ j e', (h.set i ⟨e.ver, b⟩).get j = some e' → ∃ e0, h.get j = some e0 ∧ e'.ver = e0.ver := fun j e' he => by
    rw [Heap.get_set] at he
    by_cases hj : j = i
    · subst hj; rw [if_pos rfl] at he; injection he with he; subst he; exact ⟨e, hi, rfl⟩
    · rw [if_neg hj] at he; exact ⟨e', he, rfl⟩
  have hown : OwnB g h B := ⟨i, e, c, hi, hm⟩
  refine ⟨⟨?_, ?_, ?_, ?_, ?_⟩, ?_⟩
  · intro B' o v hv
    have : B' ≠ B := fun hBB => by subst hBB; rw [H.apart i e _ c o hi hm] at hv; cases hv
    rw [cell_eq (hB B' this)]
    exact H.ro B' o v hv
  · intro j e' he
    rw [Heap.get_set] at he
    by_cases hj : j = i
    · subst hj; rw [if_pos rfl] at he; injection he with he; subst he
      exact ⟨_, hm, hb⟩
    · rw [if_neg hj] at he
      obtain ⟨x, h1, h2⟩ := H.own j e' he
      refine ⟨x, h1, h2.le (Gh.le.refl g) fun B' c' hx => hB B' fun hBB => ?_⟩
      subst hx; subst hBB
      exact hj (H.inj j i e' e _ c' c he hi h1 hm)
  · intro j k e1 e2 B' c1 c2 h1 h2 m1 m2
    obtain ⟨d1, a1, v1⟩ := hget j e1 h1
    obtain ⟨d2, a2, v2⟩ := hget k e2 h2
    exact H.inj j k d1 d2 B' c1 c2 a1 a2 (v1 ▸ m1) (v2 ▸ m2)
  · intro j e1 B' c1 o h1 m1
    obtain ⟨d1, a1, v1⟩ := hget j e1 h1
    exact H.apart j d1 B' c1 o a1 (v1 ▸ m1)
  · intro j v hv
    obtain ⟨d, h1, h2⟩ := H.dom j v hv
    by_cases hj : j = i
    · subst hj
      rw [hi] at h1; injection h1 with h1; subst h1
      exact ⟨⟨e.ver, b⟩, by rw [Heap.get_set, if_pos rfl], h2⟩
    · exact ⟨d, by rw [Heap.get_set, if_neg hj]; exact h1, h2⟩
  · refine ⟨hos, ht, hout, by omega, fun B' _ hn => hB B' fun hBB => hn (hBB ▸ hown), ?_, fun _ _ _ e => e, fun _ _ e => .inl e⟩
    rintro B' ⟨j, e1, c1, h1, m1⟩ _
    obtain ⟨d1, a1, v1⟩ := hget j e1 h1
    exact ⟨j, d1, c1, a1, v1 ▸ m1⟩
end Go.Vm
