import Derived.Test.YtjppikcigeiomaaGreatVm6
set_option linter.unusedVariables false
set_option linter.unusedSimpArgs false
namespace Go.Vm

/-! ### lists -/
theorem foldl_set (off : Nat) : ∀ (l : List Value) (k : Nat) (a : Array Value), off + k + l.length ≤ a.size →
    ((l.zipIdx k).foldl (fun cs (x : Value × Nat) => cs.setIfInBounds (off + x.2) x.1) a).toList = a.toList.take (off + k) ++ l ++ a.toList.drop (off + k + l.length)
  | [], k, a, _ => by simp
  | v :: l, k, a, hl => by
    simp only [List.zipIdx_cons, List.foldl_cons]
    rw [foldl_set off l (k + 1) (a.setIfInBounds (off + k) v) (by simp at hl ⊢; omega)]
    have e := list_seg_step a.toList (off + k) v l (by simp at hl ⊢; omega)
    simpa [Array.toList_setIfInBounds, Nat.add_assoc] using e
theorem fill_cons (place : Nat → Option (Nat × Nat)) (cells : Array Value) (i : Nat) (v : Value) (rest : List (Nat × Value)) {off size : Nat} (hp : place i = some (off, size))
    (h1 : v.cells.size = size) (h2 : off + v.cells.size ≤ cells.size) :
    Instr.fill place cells ((i, v) :: rest) = Instr.fill place (cells.toList.take off ++ v.cells.toList ++ cells.toList.drop (off + v.cells.toList.length)).toArray rest := by
  simp only [Instr.fill, hp]
  rw [if_neg (by simp [h1]; omega)]
  congr 1
  apply Array.ext'
  have := foldl_set off v.cells.toList 0 cells (by simpa using h2)
  simp only [Nat.add_zero] at this
  show _ = List.take off cells.toList ++ v.cells.toList ++ List.drop (off + v.cells.toList.length) cells.toList
  rw [← this, ← Array.foldl_toList, Array.toList_zipIdx]
theorem zeros_length (z : List V) : ∀ n, (zeros z n).length = n * z.length
  | 0 => by simp [zeros]
  | n + 1 => by simp [zeros, zeros_length z n, Nat.succ_mul]; omega
theorem zeros_get (z : List V) (hz : 0 < z.length) : ∀ n j, j < n * z.length → (zeros z n)[j]? = z[j % z.length]?
  | 0, j, hj => by simp at hj
  | n + 1, j, hj => by
    simp only [zeros]
    by_cases h : j < z.length
    · rw [List.getElem?_append_left h, Nat.mod_eq_of_lt h]
    · rw [List.getElem?_append_right (by omega), zeros_get z hz n (j - z.length) (by rw [Nat.succ_mul] at hj; omega)]
      congr 1
      rw [Nat.mod_eq_sub_mod (a := j) (by omega)]
theorem zeros_ok {g : Gh} {z : List V} {c : Array Value} (hc : VRL g z c.toList) (n : Nat) :
    VRL g (zeros z n) ((Array.range (n * z.length)).map (c[· % c.size]!)).toList := by
  have hl := hc.length
  refine VRL.of_get (by simp [zeros_length]) fun j x v e1 e2 => ?_
  have hj : j < n * z.length := by
    have := (List.getElem?_eq_some_iff.1 e1).1
    rwa [zeros_length] at this
  have hz : 0 < z.length := by
    rcases Nat.eq_zero_or_pos z.length with h | h
    · rw [h] at hj; simp at hj
    · exact h
  rw [zeros_get z hz n j hj] at e1
  simp only [Array.toList_map, Array.toList_range, List.getElem?_map, List.getElem?_range hj, Option.map_some, Option.some.injEq] at e2
  have hsz : c.size = z.length := by simpa using hl
  obtain ⟨y, h1, h2⟩ := hc.get e1
  rw [hsz] at e2
  have hlt : j % z.length < c.size := by rw [hsz]; exact Nat.mod_lt _ hz
  rw [getElem!_pos c (j % z.length) hlt] at e2
  have h1' : c[j % z.length] = y := by
    rw [Array.getElem?_toList] at h1
    rw [Array.getElem?_eq_getElem hlt] at h1
    exact Option.some.inj h1
  rw [← e2, h1']; exact h2

section
variable {P : Program} {tt : Tab} {fz : Nat → Bool} {orc : Option Bool} {g : Gh} {h h' : Heap} {w : World} {N : Nat} {ρ : Env} {T : Array Value} {v : V} {dst : Option Nat} {ty : TypeId} {pos : String} {after : Array Edge} {gd : Option (Nat × Bool)}

theorem vfill_ok (E : ER g N ρ T) (place : Nat → Option (Nat × Nat)) : ∀ (ps : List (Nat × Operand)) (cs : List V) (c : Array Value) (out : List V), VRL g cs c.toList → vfill place cs (evP ρ ps) = some out →
    ∃ c', Instr.fill place c (ps.map fun p => (p.1, evT T p.2)) = some c' ∧ VRL g out c'.toList
  | [], cs, c, out, hc, hv => by
    simp only [evP, vfill, Option.some.injEq] at hv
    subst hv
    exact ⟨c, rfl, hc⟩
  | (i, x) :: ps, cs, c, out, hc, hv => by
    simp only [evP, vfill] at hv
    split at hv
    · rename_i off size vs hp hvs
      split at hv
      · rename_i hcond
        have hx := cells?_ok (ev_ok E x) hvs
        have hxl := hx.length
        have hcl := hc.length
        obtain ⟨c', h1, h2⟩ := vfill_ok E place ps _ (c.toList.take off ++ (evT T x).cells.toList ++ c.toList.drop (off + (evT T x).cells.toList.length)).toArray out
          (by rw [hxl]; exact VRL.append (VRL.append (hc.take off) hx) (hc.drop _)) hv
        refine ⟨c', ?_, h2⟩
        rw [List.map_cons, fill_cons place c i (evT T x) _ hp (by rw [← hcond.1, ← hxl]; simp) (by simp at hxl hcl; omega)]
        exact h1
      · cases hv
    · cases hv

theorem run_mapM_list {α β : Type} (f : α → Sem β) (φ : α → β) (w : World) : ∀ l : List α, (∀ x ∈ l, (f x).run P w = .ok (φ x) w) → (l.mapM f).run P w = .ok (l.map φ) w
  | [], _ => by simp
  | a :: l, hh => by
    rw [List.mapM_cons]
    simp [hh a (by simp), run_mapM_list f φ w l (fun x hx => hh x (by simp [hx]))]
theorem run_places {fs : Array Field} {sz : Field → Nat} (hs : ∀ x ∈ fs.toList, (sizeOf x.type).run P w = .ok (sz x) w) :
    (fs.mapM fun f => do pure (f.offset, ← sizeOf f.type) : Sem _).run P w = .ok (fs.map fun f => (f.offset, sz f)) w := by
  rw [Array.mapM_eq_mapM_toList]
  simp only [Sem.run_map]
  rw [run_mapM_list (P := P) _ (fun f => (f.offset, sz f)) w fs.toList (fun x hx => by simp [hs x hx])]
  simp only [Result.andThen_ok]
  congr 1
  apply Array.ext'
  simp

theorem op_build5 (H : HRel g h w) (E : ER g N ρ T) (K : TabOk P tt) {t : Nat} {ps : Array (Nat × Operand)} (hk : (tt t).kind = 5) {cs : List V}
    (hv : vfill (fun i => ((tt t).flds[i]?).map fun f => (f.1, f.2.1)) (tt t).zero (evP ρ ps.toList) = some cs) : OpPost P g h w T ⟨dst, .build t ps, ty, pos, after, gd⟩ (.agg cs) h := by
  have R := K t (by omega)
  obtain ⟨z, hz, hzv⟩ := run_zeroValue R w
  obtain ⟨fs, hu, hn, hf⟩ := R.k5 hk
  obtain ⟨c', h1, h2⟩ := vfill_ok E _ ps.toList _ z.cells cs (hzv g) hv
  let sz : Field → Nat := fun f => match P.info? f.type with | some i => i.size | none => 0
  have hall : ∀ x ∈ fs.toList, (sizeOf x.type).run P w = .ok (sz x) w := fun x hx => by
    obtain ⟨j, hj, hjx⟩ := List.mem_iff_getElem.1 hx
    simp at hj
    obtain ⟨fl, i, d, a1, a2, a3, a4, a5, a6⟩ := hf j _ (List.getElem?_eq_getElem (by omega))
    have : fl = x := by
      rw [Array.getElem?_eq_getElem hj] at a1
      have := Option.some.inj a1
      rw [← this, ← hjx]; simp
    subst this
    simp [sizeOf, run_typeInfo a3, sz, a3]
  have hplace : (fun (i : Nat) => (fs.map fun f => (f.offset, sz f))[i]?) = fun (i : Nat) => ((tt t).flds[i]?).map fun (f : Nat × Nat × Bool) => (f.1, f.2.1) := by
    funext i
    cases e : (tt t).flds[i]? with
    | none =>
      have : fs.size ≤ i := by rw [hn]; exact List.getElem?_eq_none_iff.1 e
      simp [Array.getElem?_eq_none this]
    | some x =>
      obtain ⟨fl, ii, d, a1, a2, a3, a4, a5, a6⟩ := hf i x e
      simp [a1, sz, a3, a2, a4]
  refine post_pure (vc := .agg c') H ?_ (by simp only [VR]; exact ⟨c', rfl, h2⟩)
  simp only [execOp, Instr.build, Sem.run_bind, hz, Result.andThen_ok, run_underlying hu, run_places hall]
  rw [show (fun x => (fs.map fun f => (f.offset, sz f))[x]?) = _ from hplace]
  simp only [Array.toList_map]
  rw [show List.map (fun x : Nat × Operand => match x with | (i, x) => (i, evT T x)) ps.toList = ps.toList.map fun p => (p.1, evT T p.2) from rfl, h1]
  rfl
theorem op_build4 (H : HRel g h w) (E : ER g N ρ T) (K : TabOk P tt) {t : Nat} {ps : Array (Nat × Operand)} (hk : (tt t).kind = 4) {cs : List V}
    (hv : vfill (fun i => some (i * (tt (tt t).elem).size, (tt (tt t).elem).size)) (tt t).zero (evP ρ ps.toList) = some cs) : OpPost P g h w T ⟨dst, .build t ps, ty, pos, after, gd⟩ (.agg cs) h := by
  have R := K t (by omega)
  obtain ⟨z, hz, hzv⟩ := run_zeroValue R w
  obtain ⟨hu, he⟩ := R.k4 hk
  have RE := K _ he
  obtain ⟨c', h1, h2⟩ := vfill_ok E _ ps.toList _ z.cells cs (hzv g) hv
  refine post_pure (vc := .agg c') H ?_ (by simp only [VR]; exact ⟨c', rfl, h2⟩)
  simp only [execOp, Instr.build, Sem.run_bind, hz, Result.andThen_ok, run_underlying hu, run_sizeOf RE]
  simp only [Array.toList_map]
  rw [show List.map (fun x : Nat × Operand => match x with | (i, x) => (i, evT T x)) ps.toList = ps.toList.map fun p => (p.1, evT T p.2) from rfl, h1]
  rfl
end
end Go.Vm
