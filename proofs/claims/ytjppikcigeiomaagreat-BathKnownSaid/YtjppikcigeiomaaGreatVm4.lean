import Derived.Test.YtjppikcigeiomaaGreatVm3
set_option linter.unusedVariables false
set_option linter.unusedSimpArgs false
namespace Go.Vm

/-- A new block without memory: an empty slice of one's own. -/
theorem new_virt {g : Gh} {h : Heap} {w : World} (H : HRel g h w) {i : Nat} (hi : h.get i = none) :
    ∃ g', g.le g' ∧ g'.m i 0 = some .virt ∧ HRel g' (h.set i ⟨0, .row []⟩) w ∧ Tr g h w g' (h.set i ⟨0, .row []⟩) w := by
  let g' : Gh := ⟨fun j v => if j = i then (if v = 0 then some .virt else none) else g.m j v, g.ro⟩
  have hgi : ∀ v, g.m i v = none := fun v => by
    cases e : g.m i v with
    | none => rfl
    | some x =>
      obtain ⟨e', h1, _⟩ := H.dom i v (by rw [e]; simp)
      rw [hi] at h1; cases h1
  have hle : g.le g' := ⟨fun j v x _ e => by
    by_cases hj : j = i
    · subst hj; rw [hgi] at e; cases e
    · simpa [g', hj] using e, fun B o v e => e⟩
  have hold : ∀ j, j ≠ i → ∀ v, g'.m j v = g.m j v := fun j hj v => by simp [g', hj]
  have hgm : g'.m i 0 = some .virt := by simp [g']
  have hnew : ∀ v x, g'.m i v = some x → v = 0 ∧ x = .virt := fun v x e => by
    by_cases hv : v = 0
    · subst hv; rw [hgm] at e; injection e with e; exact ⟨rfl, e.symm⟩
    · simp [g', hv] at e
  have hno : ∀ v B c, g'.m i v ≠ some (.blk B c) := fun v B c e => by have := (hnew v _ e).2; cases this
  refine ⟨g', hle, hgm, ⟨H.ro, ?_, ?_, ?_, ?_⟩, ?_⟩
  · intro j e he
    rw [Heap.get_set] at he
    by_cases hj : j = i
    · subst hj; rw [if_pos rfl] at he; injection he with he; subst he
      exact ⟨_, hgm, by simp [BR]⟩
    · rw [if_neg hj] at he
      obtain ⟨x, h1, h2⟩ := H.own j e he
      exact ⟨x, by rw [hold j hj]; exact h1, h2.le hle fun _ _ _ => rfl⟩
  · intro j k e e' B c c' he he' hm hm'
    rw [Heap.get_set] at he he'
    by_cases hj : j = i
    · subst hj; exact (hno _ _ _ hm).elim
    · by_cases hk : k = i
      · subst hk; exact (hno _ _ _ hm').elim
      · rw [if_neg hj] at he
        rw [if_neg hk] at he'
        rw [hold j hj] at hm
        rw [hold k hk] at hm'
        exact H.inj j k e e' B c c' he he' hm hm'
  · intro j e B c o' he hm
    rw [Heap.get_set] at he
    by_cases hj : j = i
    · subst hj; exact (hno _ _ _ hm).elim
    · rw [if_neg hj] at he
      rw [hold j hj] at hm
      exact H.apart j e B c o' he hm
  · intro j v hm
    by_cases hj : j = i
    · subst hj
      cases e : g'.m j v with
      | none => exact absurd e hm
      | some x => exact ⟨⟨0, .row []⟩, by rw [Heap.get_set, if_pos rfl], by rw [(hnew v x e).1]; exact Nat.le_refl _⟩
    · rw [hold j hj] at hm
      obtain ⟨e, h1, h2⟩ := H.dom j v hm
      exact ⟨e, by rw [Heap.get_set, if_neg hj]; exact h1, h2⟩
  · refine ⟨rfl, rfl, rfl, Nat.le_refl _, fun B hB _ => rfl, ?_, fun _ _ _ e => e, fun B o' e => .inl e⟩
    rintro B ⟨j, e, c, he, hm⟩ hB
    rw [Heap.get_set] at he
    by_cases hj : j = i
    · subst hj; exact (hno _ _ _ hm).elim
    · rw [if_neg hj] at he
      rw [hold j hj] at hm
      exact ⟨j, e, c, he, hm⟩

/-- An own block goes over to its next version: in its place, or in a new block. -/
theorem bump_own {g : Gh} {h : Heap} {w : World} (H : HRel g h w) {i : Nat} {e : Ent} (hi : h.get i = some e) {x : Own} (hm : g.m i e.ver = some x)
    (w' : World) (hos : w'.os = w.os) (ht : w'.tape = w.tape) (hout : w'.output = w.output) (hsz : w.heap.size ≤ w'.heap.size)
    (hB : ∀ k, k < w.heap.size → (∀ c, x ≠ .blk k c) → w'.heap[k]? = w.heap[k]?) (B' c' : Nat) (hx : (∃ c, x = .blk B' c) ∨ w.heap.size ≤ B')
    (b : Blk) (hb : ∀ g', g.le g' → g'.m i (e.ver + 1) = some (.blk B' c') → BR g' w' (.blk B' c') b) :
    ∃ g', g.le g' ∧ g'.m i (e.ver + 1) = some (.blk B' c') ∧ HRel g' (h.set i ⟨e.ver + 1, b⟩) w' ∧ Tr g h w g' (h.set i ⟨e.ver + 1, b⟩) w' := by
  have hfresh : ∀ v, e.ver < v → g.m i v = none := fun v hv => by
    cases k : g.m i v with
    | none => rfl
    | some y =>
      obtain ⟨e', h1, h2⟩ := H.dom i v (by rw [k]; simp)
      rw [hi] at h1; injection h1 with h1; subst h1; omega
  let g' : Gh := ⟨fun j v => if j = i ∧ v = e.ver + 1 then some (.blk B' c') else g.m j v, g.ro⟩
  have hle : g.le g' := ⟨fun j v y _ k => by
    by_cases hj : j = i ∧ v = e.ver + 1
    · obtain ⟨rfl, rfl⟩ := hj; rw [hfresh _ (by omega)] at k; cases k
    · simp only [g', if_neg hj]; exact k, fun _ _ _ k => k⟩
  have hgm : g'.m i (e.ver + 1) = some (.blk B' c') := by simp [g']
  have hold : ∀ j v, ¬ (j = i ∧ v = e.ver + 1) → g'.m j v = g.m j v := fun j v hj => by simp only [g', if_neg hj]
  have hold' : ∀ j, j ≠ i → ∀ v, g'.m j v = g.m j v := fun j hj v => hold j v (fun hh => hj hh.1)
  -- the other own blocks are not touched
  have hother : ∀ j e1 B c, j ≠ i → h.get j = some e1 → g.m j e1.ver = some (.blk B c) → w'.heap[B]? = w.heap[B]? := fun j e1 B c hj h1 m1 => by
    refine hB B (H.lt ⟨j, e1, c, h1, m1⟩) fun c2 hx2 => ?_
    subst hx2
    exact hj (H.inj j i e1 e B c c2 h1 hi m1 hm)
  have hro : ∀ B o v, g.ro B o = some v → w'.heap[B]? = w.heap[B]? := fun B o v hv => by
    refine hB B (H.ro_lt hv) fun c2 hx2 => ?_
    subst hx2
    rw [H.apart i e B c2 o hi hm] at hv; cases hv
  refine ⟨g', hle, hgm, ⟨?_, ?_, ?_, ?_, ?_⟩, ?_⟩
  · intro B o v hv
    rw [cell_eq (hro B o v hv)]; exact H.ro B o v hv
  · intro j e1 he
    rw [Heap.get_set] at he
    by_cases hj : j = i
    · subst hj; rw [if_pos rfl] at he; injection he with he; subst he
      exact ⟨_, hgm, hb g' hle hgm⟩
    · rw [if_neg hj] at he
      obtain ⟨y, h1, h2⟩ := H.own j e1 he
      exact ⟨y, by rw [hold' j hj]; exact h1, h2.le hle fun B c hy => by subst hy; exact hother j e1 B c hj he h1⟩
  · -- two own blocks of one place
    have one : ∀ j e1 B c, j ≠ i → h.get j = some e1 → g.m j e1.ver = some (.blk B c) → B ≠ B' := fun j e1 B c hj h1 m1 hBB => by
      subst hBB
      rcases hx with ⟨c2, hx⟩ | hx
      · subst hx; exact hj (H.inj j i e1 e B c c2 h1 hi m1 hm)
      · have := H.lt ⟨j, e1, c, h1, m1⟩; omega
    intro j k e1 e2 B c1 c2 h1 h2 m1 m2
    rw [Heap.get_set] at h1 h2
    by_cases hj : j = i
    · by_cases hk : k = i
      · rw [hj, hk]
      · subst hj
        rw [if_pos rfl] at h1; injection h1 with h1; subst h1
        rw [hgm] at m1; injection m1 with m1; injection m1 with m1 _
        rw [if_neg hk] at h2; rw [hold' k hk] at m2
        exact ((one k e2 B c2 hk h2 m2) m1.symm).elim
    · by_cases hk : k = i
      · subst hk
        rw [if_pos rfl] at h2; injection h2 with h2; subst h2
        rw [hgm] at m2; injection m2 with m2; injection m2 with m2 _
        rw [if_neg hj] at h1; rw [hold' j hj] at m1
        exact ((one j e1 B c1 hj h1 m1) m2.symm).elim
      · rw [if_neg hj] at h1; rw [if_neg hk] at h2
        rw [hold' j hj] at m1; rw [hold' k hk] at m2
        exact H.inj j k e1 e2 B c1 c2 h1 h2 m1 m2
  · intro j e1 B c o he m1
    rw [Heap.get_set] at he
    by_cases hj : j = i
    · subst hj; rw [if_pos rfl] at he; injection he with he; subst he
      rw [hgm] at m1; injection m1 with m1; injection m1 with m1 _
      subst m1
      rcases hx with ⟨c2, hx⟩ | hx
      · subst hx; exact H.apart j e _ c2 o hi hm
      · exact H.ro_none hx
    · rw [if_neg hj] at he
      rw [hold' j hj] at m1
      exact H.apart j e1 B c o he m1
  · intro j v hv
    by_cases hj : j = i
    · subst hj
      refine ⟨⟨e.ver + 1, b⟩, by rw [Heap.get_set, if_pos rfl], ?_⟩
      by_cases hv1 : v = e.ver + 1
      · show v ≤ e.ver + 1; omega
      · rw [hold j v (fun hh => hv1 hh.2)] at hv
        obtain ⟨d, h1, h2⟩ := H.dom j v hv
        rw [hi] at h1; injection h1 with h1; subst h1
        show v ≤ e.ver + 1; omega
    · rw [hold' j hj] at hv
      obtain ⟨d, h1, h2⟩ := H.dom j v hv
      exact ⟨d, by rw [Heap.get_set, if_neg hj]; exact h1, h2⟩
  · refine ⟨hos, ht, hout, hsz, fun B hl hn => hB B hl fun c2 hx2 => hn (by subst hx2; exact ⟨i, e, c2, hi, hm⟩), ?_, fun _ _ _ k => k, fun _ _ k => .inl k⟩
    rintro B ⟨j, e1, c1, h1, m1⟩ hl
    rw [Heap.get_set] at h1
    by_cases hj : j = i
    · subst hj; rw [if_pos rfl] at h1; injection h1 with h1; subst h1
      rw [hgm] at m1; injection m1 with m1; injection m1 with m1 _
      subst m1
      rcases hx with ⟨c2, hx⟩ | hx
      · subst hx; exact ⟨j, e, c2, hi, hm⟩
      · omega
    · rw [if_neg hj] at h1; rw [hold' j hj] at m1
      exact ⟨j, e1, c1, h1, m1⟩

/-! ### what is known of the types -/
def isAggD : TypeDesc → Bool
  | .struct _ | .array _ _ => true
  | _ => false
structure RowOk (P : Program) (tt : Tab) (t : Nat) : Prop where
  info : ∃ i z, P.info? t = some i ∧ i.size = (tt t).size ∧ i.bytes = (tt t).bytes ∧ i.zero = some z ∧ ((tt t).agg = false → z.cells = #[z]) ∧ ∀ g, VRL g (tt t).zero z.cells.toList
  zlen : (tt t).zero.length = (tt t).size
  agg : ∃ d, P.underlying t = some d ∧ isAggD d = (tt t).agg
  k1 : (tt t).kind = 1 → P.underlying t = some (.int (tt t).ik)
  k2 : (tt t).kind = 2 → P.underlying t = some .bool
  k3 : (tt t).kind = 3 → P.underlying t = some (.slice (tt t).elem) ∧ (tt (tt t).elem).kind ≠ 0
  k4 : (tt t).kind = 4 → P.underlying t = some (.array (tt t).len (tt t).elem) ∧ (tt (tt t).elem).kind ≠ 0
  k5 : (tt t).kind = 5 → ∃ fs : Array Field, P.underlying t = some (.struct fs) ∧ fs.size = (tt t).flds.length ∧
    ∀ (f : Nat) (x : Nat × Nat × Bool), (tt t).flds[f]? = some x → ∃ (fl : Field) (i : TypeInfo) (d : TypeDesc), fs[f]? = some fl ∧ fl.offset = x.1 ∧ P.info? fl.type = some i ∧ i.size = x.2.1 ∧ P.underlying fl.type = some d ∧ isAggD d = x.2.2
  k6 : (tt t).kind = 6 → P.underlying t = some (.map (tt t).len (tt t).elem)
  ints : (tt t).ints = true → ∀ (a b : List Int) (w : World), a.length = (tt t).size → b.length = (tt t).size →
    (∀ op x y, (eqGuard op t x y (.agg (a.map (Value.int .i64)).toArray) (.agg (b.map (Value.int .i64)).toArray)).run P w = .ok () w) ∧
    (Op.equal t (.agg (a.map (Value.int .i64)).toArray) (.agg (b.map (Value.int .i64)).toArray)).run P w = .ok (a == b) w ∧
    ∀ e, (Instr.checkKey e 10000 t (.agg (a.map (Value.int .i64)).toArray)).run P w = .ok () w
def TabOk (P : Program) (tt : Tab) : Prop := ∀ t, (tt t).kind ≠ 0 → RowOk P tt t

theorem run_typeInfo {P : Program} {t : TypeId} {i : TypeInfo} (h : P.info? t = some i) (w : World) : (typeInfo t).run P w = .ok i w := by
  simp [typeInfo, h]
theorem run_sizeOf {P : Program} {tt : Tab} {t : Nat} (h : RowOk P tt t) (w : World) : (sizeOf t).run P w = .ok (tt t).size w := by
  obtain ⟨i, z, h1, h2, _⟩ := h.info
  simp [sizeOf, run_typeInfo h1, h2]
theorem run_isAgg {P : Program} {tt : Tab} {t : Nat} (h : RowOk P tt t) (w : World) : (isAgg t).run P w = .ok (tt t).agg w := by
  obtain ⟨d, h1, h2⟩ := h.agg
  simp only [isAgg, Sem.run_bind, run_underlying h1, Result.andThen_ok]
  rw [← h2]
  cases d <;> rfl
theorem run_isAgg' {P : Program} {t : Nat} {d : TypeDesc} (h : P.underlying t = some d) (w : World) :
    (isAgg t).run P w = .ok (isAggD d) w := by
  simp only [isAgg, Sem.run_bind, run_underlying h, Result.andThen_ok]
  cases d <;> rfl
theorem run_zeroValue {P : Program} {tt : Tab} {t : Nat} (h : RowOk P tt t) (w : World) : ∃ z, (zeroValue t).run P w = .ok z w ∧ ∀ g, VRL g (tt t).zero z.cells.toList := by
  obtain ⟨i, z, h1, _, _, h4, _, h5⟩ := h.info
  exact ⟨z, by simp [zeroValue, run_typeInfo h1, h4], h5⟩
end Go.Vm
