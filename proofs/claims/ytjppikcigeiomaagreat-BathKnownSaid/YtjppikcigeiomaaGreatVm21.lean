import Derived.Test.YtjppikcigeiomaaGreatVm20
set_option linter.unusedVariables false
set_option linter.unusedSimpArgs false
namespace Go.Vm

/-! ### the table of types, held against the program by computation -/
def zeroB1 : V → Value → Bool
  | .any, _ => true
  | .int k n, .int k' n' => decide (k = k') && decide (n = n')
  | .bool b, .bool b' => decide (b = b')
  | .nilp, .pointer none => true
  | .sl0, .slice _ 0 0 => true
  | .nilfn, .nilFunc => true
  | _, _ => false
def zeroB : List V → List Value → Bool
  | [], [] => true
  | c :: cs, v :: vs => zeroB1 c v && zeroB cs vs
  | _, _ => false
theorem zeroB1_ok (g : Gh) : ∀ {c : V} {v : Value}, zeroB1 c v = true → VR g c v := by
  intro c v h
  unfold zeroB1 at h
  split at h
  · simp [VR]
  · simp only [Bool.and_eq_true, decide_eq_true_eq] at h; obtain ⟨rfl, rfl⟩ := h; simp [VR]
  · simp only [decide_eq_true_eq] at h; subst h; simp [VR]
  · simp [VR]
  · simp [VR]
  · simp [VR]
  · cases h
theorem zeroB_ok (g : Gh) : ∀ {cs : List V} {vs : List Value}, zeroB cs vs = true → VRL g cs vs
  | [], [], _ => VRL.nil
  | c :: cs, v :: vs, h => by
    simp only [zeroB, Bool.and_eq_true] at h
    exact VRL.cons (zeroB1_ok g h.1) (zeroB_ok g h.2)
  | [], _ :: _, h => by cases h
  | _ :: _, [], h => by cases h
def oneZ : Value → Bool
  | .agg _ => false
  | _ => true
theorem oneZ_ok {z : Value} (h : oneZ z = true) : z.cells = #[z] := by cases z <;> simp [oneZ] at h <;> rfl
def fldB (P : Program) : List Field → List (Nat × Nat × Bool) → Bool
  | [], [] => true
  | f :: fs, (off, sz, ag) :: xs => decide (f.offset = off) && (match P.info? f.type, P.underlying f.type with
    | some i, some d => decide (i.size = sz) && decide (isAggD d = ag)
    | _, _ => false) && fldB P fs xs
  | _, _ => false
def descB (P : Program) (tt : Tab) (t : Nat) (r : Row) : TypeDesc → Bool
  | .int k => decide (r.kind = 1) && decide (r.ik = k)
  | .bool => decide (r.kind = 2)
  | .slice e => decide (r.kind = 3) && decide (r.elem = e) && decide ((tt e).kind ≠ 0)
  | .array n e => decide (r.kind = 4) && decide (r.len = n) && decide (r.elem = e) && decide ((tt e).kind ≠ 0)
  | .struct fs => decide (r.kind = 5) && fldB P fs.toList r.flds
  | .map k e => decide (r.kind = 6) && decide (r.len = k) && decide (r.elem = e)
  | .pointer _ => decide (r.kind = 7)
  | .func _ _ _ => decide (r.kind = 8)
  | _ => false
def rowB (P : Program) (tt : Tab) (t : Nat) : Bool :=
  let r := tt t
  match P.info? t, P.underlying t with
  | some i, some d => decide (i.size = r.size) && decide (i.bytes = r.bytes) && (match i.zero with
    | some z => zeroB r.zero z.cells.toList && (r.agg || oneZ z)
    | none => false) && decide (r.zero.length = r.size) && decide (isAggD d = r.agg) && descB P tt t r d
  | _, _ => false
theorem fldB_ok {P : Program} : ∀ {fs : List Field} {xs : List (Nat × Nat × Bool)}, fldB P fs xs = true → fs.length = xs.length ∧
    ∀ (f : Nat) (x : Nat × Nat × Bool), xs[f]? = some x → ∃ (fl : Field) (i : TypeInfo) (d : TypeDesc), fs[f]? = some fl ∧ fl.offset = x.1 ∧ P.info? fl.type = some i ∧ i.size = x.2.1 ∧ P.underlying fl.type = some d ∧ isAggD d = x.2.2
  | [], [], _ => ⟨rfl, fun f x h => by simp at h⟩
  | f :: fs, (off, sz, ag) :: xs, h => by
    simp only [fldB, Bool.and_eq_true, decide_eq_true_eq] at h
    obtain ⟨⟨h1, h2⟩, h3⟩ := h
    obtain ⟨hl, ih⟩ := fldB_ok h3
    refine ⟨by simp [hl], fun j x hx => ?_⟩
    cases j with
    | zero =>
      simp at hx; subst hx
      split at h2
      · rename_i i d hi hd
        simp only [Bool.and_eq_true, decide_eq_true_eq] at h2
        exact ⟨f, i, d, by simp, h1, hi, h2.1, hd, h2.2⟩
      · cases h2
    | succ j =>
      simp at hx
      simpa using ih j x hx
  | [], _ :: _, h => by cases h
  | _ :: _, [], h => by cases h
theorem rowB_ok {P : Program} {tt : Tab} {t : Nat} (h : rowB P tt t = true)
    (hints : (tt t).ints = true → ∀ (a b : List Int) (w : World), a.length = (tt t).size → b.length = (tt t).size →
      (∀ op x y, (eqGuard op t x y (.agg (a.map (Value.int .i64)).toArray) (.agg (b.map (Value.int .i64)).toArray)).run P w = .ok () w) ∧
      (Op.equal t (.agg (a.map (Value.int .i64)).toArray) (.agg (b.map (Value.int .i64)).toArray)).run P w = .ok (a == b) w ∧
      ∀ e, (Instr.checkKey e 10000 t (.agg (a.map (Value.int .i64)).toArray)).run P w = .ok () w) : RowOk P tt t := by
  unfold rowB at h
  simp only at h
  split at h
  case h_2 => cases h
  rename_i i d hi hd
  simp only [Bool.and_eq_true, decide_eq_true_eq] at h
  obtain ⟨⟨⟨⟨⟨h1, h2⟩, h3⟩, h4⟩, h5⟩, h6⟩ := h
  split at h3
  case h_2 => cases h3
  rename_i z hz
  simp only [Bool.and_eq_true] at h3
  refine ⟨⟨i, z, hi, h1, h2, hz, fun ha => oneZ_ok (by simpa [ha] using h3.2), fun g => zeroB_ok g h3.1⟩, h4, ⟨d, hd, h5⟩, fun k => ?_, fun k => ?_, fun k => ?_, fun k => ?_, fun k => ?_, fun k => ?_, hints⟩
  · cases d <;> simp [descB, k] at h6
    rw [hd, h6]
  · cases d <;> simp [descB, k] at h6
    exact hd
  · cases d <;> simp [descB, k] at h6
    obtain ⟨h7, h8⟩ := h6
    exact ⟨by rw [hd, h7], by rw [h7]; exact h8⟩
  · cases d <;> simp [descB, k] at h6
    obtain ⟨⟨h7, h8⟩, h9⟩ := h6
    exact ⟨by rw [hd, h7, h8], by rw [h8]; exact h9⟩
  · cases d <;> simp [descB, k] at h6
    rename_i fs
    obtain ⟨h7, h8⟩ := fldB_ok h6
    refine ⟨fs, hd, by simpa using h7, fun f x hx => ?_⟩
    obtain ⟨fl, i', d', a1, a2⟩ := h8 f x hx
    exact ⟨fl, i', d', by rw [← Array.getElem?_toList]; exact a1, a2⟩
  · cases d <;> simp [descB, k] at h6
    rw [hd, h6.1, h6.2]
/-- The table stands, where each row does. -/
theorem tabOk_of {P : Program} {tt : Tab} (n : Nat) (h0 : ∀ t, n ≤ t → (tt t).kind = 0) (hr : (List.range n).all (fun t => decide ((tt t).kind = 0) || rowB P tt t) = true)
    (hints : ∀ t, (tt t).ints = true → ∀ (a b : List Int) (w : World), a.length = (tt t).size → b.length = (tt t).size →
      (∀ op x y, (eqGuard op t x y (.agg (a.map (Value.int .i64)).toArray) (.agg (b.map (Value.int .i64)).toArray)).run P w = .ok () w) ∧
      (Op.equal t (.agg (a.map (Value.int .i64)).toArray) (.agg (b.map (Value.int .i64)).toArray)).run P w = .ok (a == b) w ∧
      ∀ e, (Instr.checkKey e 10000 t (.agg (a.map (Value.int .i64)).toArray)).run P w = .ok () w) : TabOk P tt := by
  intro t ht
  by_cases hn : t < n
  · rw [List.all_eq_true] at hr
    have := hr t (List.mem_range.2 hn)
    simp only [Bool.or_eq_true, decide_eq_true_eq] at this
    rcases this with h | h
    · exact absurd h ht
    · exact rowB_ok h (hints t)
  · exact absurd (h0 t (by omega)) ht
end Go.Vm
