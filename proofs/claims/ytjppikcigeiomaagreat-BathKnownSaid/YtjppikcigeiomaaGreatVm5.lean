import Derived.Test.YtjppikcigeiomaaGreatVm4
set_option linter.unusedVariables false
set_option linter.unusedSimpArgs false
namespace Go.Vm

def nxv : Next → Option Value
  | .value v => some v
  | .skip => some undef
  | _ => none

/-- What an operation's run comes to. -/
def OpPost (P : Program) (g : Gh) (h : Heap) (w : World) (T : Array Value) (o : Oper) (v : V) (h' : Heap) : Prop :=
  ∃ nx vc g' w', (execOp (evT T) o).run P w = .ok nx w' ∧ nxv nx = some vc ∧ VR g' v vc ∧ g.le g' ∧ HRel g' h' w' ∧ Tr g h w g' h' w'

section
variable {P : Program} {tt : Tab} {g : Gh} {h : Heap} {w : World} {T : Array Value} {o : Oper} {v : V}

theorem post_pure {vc : Value} (H : HRel g h w) (hr : (execOp (evT T) o).run P w = .ok (.value vc) w) (hv : VR g v vc) : OpPost P g h w T o v h :=
  ⟨_, vc, g, w, hr, rfl, hv, Gh.le.refl g, H, Tr.refl g h w⟩

/-- The cells at (B, o) read as cs. -/
def CellsAt (g : Gh) (w : World) (B o : Nat) (cs : List V) : Prop :=
  ∃ vs, VRL g cs vs ∧ ∀ (j : Nat) v, vs[j]? = some v → w.cell? ⟨B, o + j, none⟩ = some v
theorem VRC.vals {g : Gh} {B : Nat} : ∀ {o : Nat} {cs : List V}, VRC g B o cs → ∃ vs, VRL g cs vs ∧ ∀ (j : Nat) v, vs[j]? = some v → g.ro B (o + j) = some v
  | o, [], _ => ⟨[], VRL.nil, fun j v e => by simp at e⟩
  | o, c :: cs, hh => by
    simp only [VRC] at hh
    obtain ⟨⟨v, e, h1⟩, h2⟩ := hh
    obtain ⟨vs, h3, h4⟩ := VRC.vals h2
    refine ⟨v :: vs, VRL.cons h1 h3, fun j x ex => ?_⟩
    cases j with
    | zero => simp at ex; subst ex; simpa using e
    | succ j => simp at ex; have := h4 j x ex; rwa [show o + 1 + j = o + (j + 1) by omega] at this
theorem CellsAt.ro (H : HRel g h w) {B o : Nat} {cs : List V} (hc : VRC g B o cs) : CellsAt g w B o cs := by
  obtain ⟨vs, h1, h2⟩ := hc.vals
  exact ⟨vs, h1, fun j v e => H.ro _ _ _ (h2 j v e)⟩
theorem CellsAt.own {B c i : Nat} {cs : List V} (hb : BR g w (.blk B c) (.row cs)) (off : Nat) : CellsAt g w B off (cs.drop off) := by
  simp only [BR] at hb
  obtain ⟨a, el, h1, h2, pre, post, h3, h4⟩ := hb
  refine ⟨pre.drop off, h4.drop off, fun j v e => ?_⟩
  rw [cell_row h1, ← Array.getElem?_toList, h3]
  rw [List.getElem?_drop] at e
  rw [List.getElem?_append_left (by have := List.getElem?_eq_some_iff.1 e; exact this.1)]
  exact e
theorem CellsAt.take {B o n : Nat} {cs : List V} (hc : CellsAt g w B o cs) : CellsAt g w B o (cs.take n) := by
  obtain ⟨vs, h1, h2⟩ := hc
  refine ⟨vs.take n, h1.take n, fun j v e => h2 j v ?_⟩
  rw [List.getElem?_take] at e
  split at e
  · exact e
  · cases e
theorem run_cells {B o : Nat} {cs : List V} (hc : CellsAt g w B o cs) : ∃ vs, (loadCells ⟨B, o, none⟩ cs.length).run P w = .ok vs.toArray w ∧ VRL g cs vs := by
  obtain ⟨vs, h1, h2⟩ := hc
  refine ⟨vs, ?_, h1⟩
  rw [← h1.length]
  exact run_loadCells_list w _ vs fun j v e => by rw [Addr.add_lit]; exact h2 j v e
theorem loadVar_ok {t : Nat} (hrow : RowOk P tt t) {B o : Nat} {cs : List V} (hc : CellsAt g w B o cs) {v : V} (hv : vload (tt t) cs = some v) :
    ∃ vc, (loadVar t ⟨B, o, none⟩).run P w = .ok vc w ∧ VR g v vc := by
  unfold vload at hv
  by_cases ha : (tt t).agg = true
  · rw [if_pos ha] at hv
    split at hv
    · rename_i hl
      injection hv with hv; subst hv
      obtain ⟨vs, h1, h2⟩ := run_cells (P := P) (hc.take (n := (tt t).size))
      rw [List.length_take, Nat.min_eq_left hl] at h1
      refine ⟨.agg vs.toArray, ?_, by simp only [VR]; exact ⟨_, rfl, by simpa using h2⟩⟩
      simp [loadVar, run_isAgg hrow, ha, run_sizeOf hrow, h1]
    · cases hv
  · rw [if_neg ha] at hv
    cases cs with
    | nil => simp at hv
    | cons c cs =>
      simp at hv; subst hv
      obtain ⟨vs, h1, h2⟩ := hc
      simp only [VRL] at h1
      obtain ⟨x, vs', rfl, h3, _⟩ := h1
      have h4 := h2 0 x (by simp)
      simp only [Nat.add_zero] at h4
      refine ⟨x, ?_, h3⟩
      simp [loadVar, run_isAgg hrow, ha, h4]
end
end Go.Vm
