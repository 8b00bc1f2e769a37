import Derived.Test.YtjppikcigeiomaaGreatVm7
set_option linter.unusedVariables false
set_option linter.unusedSimpArgs false
namespace Go.Vm
section
variable {P : Program} {tt : Tab} {fz : Nat → Bool} {orc : Option Bool} {g : Gh} {h h' : Heap} {w : World} {N : Nat} {ρ : Env} {T : Array Value} {v : V} {dst : Option Nat} {ty : TypeId} {pos : String} {after : Array Edge} {gd : Option (Nat × Bool)}

theorem op_buildSlice (H : HRel g h w) (E : ER g N ρ T) (K : TabOk P tt) {t len d : Nat} {ps : Array (Nat × Operand)} (hk : (tt t).kind = 3) (hlen : len * (tt (tt t).elem).size ≤ 10000) {cs : List V}
    (hv : vfill (fun i => some (i * (tt (tt t).elem).size, (tt (tt t).elem).size)) (zeros (tt (tt t).elem).zero len) (evP ρ ps.toList) = some cs)
    (hr : (len = 0 ∧ v = .sl0 ∧ h' = h) ∨ (v = .ro len cs ∧ h' = h) ∨ (h.get d = none ∧ cs.length = len * (tt (tt t).elem).size ∧ v = .own d 0 0 (tt (tt t).elem).size len ∧ h' = h.set d ⟨0, .row cs⟩)) :
    OpPost P g h w T ⟨dst, .buildSlice t len ps, ty, pos, after, gd⟩ v h' := by
  have R := K t (by omega)
  obtain ⟨hu, he⟩ := R.k3 hk
  have RE := K _ he
  obtain ⟨z, hz, hzv⟩ := run_zeroValue RE w
  have hzl := (hzv g).length
  -- the row of zeros that Go lays first
  let z' : Array Value := if len * (tt (tt t).elem).size = 0 then #[] else z.cells
  have hz' : (if len * (tt (tt t).elem).size = 0 then pure #[] else do pure (← zeroValue (tt t).elem).cells : Sem (Array Value)).run P w = .ok z' w := by
    simp only [Sem.run_ite, Sem.run_pure, Sem.run_bind, hz, Result.andThen_ok, z']
    split <;> rfl
  have hrow : VRL g (zeros (tt (tt t).elem).zero len) ((Array.range (len * (tt (tt t).elem).size)).map (z'[· % z'.size]!)).toList := by
    by_cases h0 : len * (tt (tt t).elem).size = 0
    · have : zeros (tt (tt t).elem).zero len = [] := List.eq_nil_of_length_eq_zero (by rw [zeros_length, RE.zlen]; exact h0)
      rw [this, h0]
      simp [VRL]
    · have : z' = z.cells := by simp only [z', if_neg h0]
      rw [this, ← RE.zlen]
      exact zeros_ok (hzv g) len
  obtain ⟨c', h1, h2⟩ := vfill_ok E _ ps.toList _ _ cs hrow hv
  have hrun : (execOp (evT T) ⟨dst, .buildSlice t len ps, ty, pos, after, gd⟩).run P w = .ok (.value (.slice (some ⟨w.heap.size, 0, none⟩) len len)) (w.alloc (.cells c' (tt t).elem)) := by
    simp only [execOp, Instr.buildSlice, Sem.run_bind, Result.andThen_ok, run_underlying hu, run_sizeOf RE]
    rw [if_neg (by omega)]
    have hmap : (ps.map fun (x : Nat × Operand) => (x.1, evT T x.2)).toList = ps.toList.map fun p => (p.1, evT T p.2) := by simp
    by_cases h0 : len * (tt (tt t).elem).size = 0
    · simp only [h0, if_true, z'] at h1 ⊢
      simp only [Sem.run_bind, Sem.run_pure, Result.andThen_ok, hmap, h1]
      rfl
    · simp only [h0, if_false, z'] at h1 ⊢
      simp only [Sem.run_bind, Sem.run_pure, Result.andThen_ok, hz, hmap, h1]
      rfl
  rcases hr with ⟨rfl, rfl, rfl⟩ | ⟨rfl, rfl⟩ | ⟨hd, hcl, rfl, rfl⟩
  · obtain ⟨g', a1, a2, a3, a4⟩ := new_ro H c' (tt t).elem h2
    exact ⟨_, _, g', _, hrun, rfl, by simp [VR], a1, a3, a4⟩
  · obtain ⟨g', a1, a2, a3, a4⟩ := new_ro H c' (tt t).elem h2
    exact ⟨_, _, g', _, hrun, rfl, by simp only [VR]; exact ⟨_, _, rfl, Nat.le_refl _, .inr ⟨_, _, rfl, a2⟩⟩, a1, a3, a4⟩
  · have hc'l := h2.length
    obtain ⟨g', a1, a2, a3, a4⟩ := new_own H hd (.cells c' (tt t).elem) c'.size (.row cs) (fun g' hle _ => by
      simp only [BR]
      exact ⟨c', _, heap_alloc_new, rfl, c'.toList, [], by simp, h2.le hle⟩)
    refine ⟨_, _, g', _, hrun, rfl, ?_, a1, a3, a4⟩
    simp only [VR]
    exact ⟨_, _, rfl, Nat.le_refl _, _, a2, rfl, by simp at hc'l; omega⟩

theorem fieldPlace_ok {a : Addr} {f : Field} {i : TypeInfo} (hi : P.info? f.type = some i) (h0 : i.size ≠ 0) : (fieldPlace a f).run P w = .ok (a.add f.offset) w := by
  simp [fieldPlace, sizeOf, run_typeInfo hi, h0]
theorem op_fieldAddr (H : HRel g h w) (E : ER g N ρ T) (K : TabOk P tt) {t f off sz : Nat} {ag : Bool} {x : Operand} (hk : (tt t).kind = 5) (hf : (tt t).flds[f]? = some (off, sz, ag)) (hs : sz ≠ 0)
    (hv : (∃ cs, ev ρ x = .rop cs ∧ v = .rop (cs.drop off)) ∨ ∃ i ver o, ev ρ x = .ptr i ver o ∧ v = .ptr i ver (o + off)) : OpPost P g h w T ⟨dst, .fieldAddr t x f, ty, pos, after, gd⟩ v h := by
  obtain ⟨fs, hu, _, hfs⟩ := (K t (by omega)).k5 hk
  obtain ⟨fl, i, d, a1, a2, a3, a4, a5, a6⟩ := hfs f _ hf
  simp only at a2 a4
  have hx := ev_ok E x
  rcases hv with ⟨cs, h1, rfl⟩ | ⟨j, ver, o, h1, rfl⟩ <;> rw [h1] at hx <;> simp only [VR] at hx
  · obtain ⟨B, o, e, hc⟩ := hx
    refine post_pure (vc := .pointer (some ⟨B, o + off, none⟩)) H ?_ (by simp only [VR]; exact ⟨_, _, rfl, hc.drop off⟩)
    simp [execOp, Instr.fieldAt, run_underlying hu, a1, e, Instr.sureAddr, fieldPlace_ok a3 (by omega), a2, Addr.add_lit]
  · obtain ⟨B, c, e, hc⟩ := hx
    refine post_pure (vc := .pointer (some ⟨B, o + off, none⟩)) H ?_ (by simp only [VR]; exact ⟨_, _, rfl, hc⟩)
    simp [execOp, Instr.fieldAt, run_underlying hu, a1, e, Instr.sureAddr, fieldPlace_ok a3 (by omega), a2, Addr.add_lit]
theorem op_field (H : HRel g h w) (E : ER g N ρ T) (K : TabOk P tt) {t f off sz : Nat} {ag : Bool} {x : Operand} {cs : List V} (hk : (tt t).kind = 5) (hf : (tt t).flds[f]? = some (off, sz, ag)) (hx : ev ρ x = .agg cs)
    (hv : if ag then off + sz ≤ cs.length ∧ v = .agg ((cs.drop off).take sz) else cs[off]? = some v) : OpPost P g h w T ⟨dst, .field t x f, ty, pos, after, gd⟩ v h := by
  obtain ⟨fs, hu, _, hfs⟩ := (K t (by omega)).k5 hk
  obtain ⟨fl, i, d, a1, a2, a3, a4, a5, a6⟩ := hfs f _ hf
  simp only at a2 a4 a6
  have hx' := ev_ok E x
  rw [hx] at hx'; simp only [VR] at hx'
  obtain ⟨vs, e, hvs⟩ := hx'
  have hag : (isAgg fl.type).run P w = .ok ag w := (run_isAgg' a5 w).trans (by rw [a6])
  clear a6 a5
  cases ag with
  | true =>
    simp only [if_true] at hv
    obtain ⟨hl, rfl⟩ := hv
    refine post_pure (vc := .agg (vs.extract off (off + sz))) H ?_ ?_
    · simp [execOp, Instr.field, run_underlying hu, a1, e, asAgg, part, hag, sizeOf, run_typeInfo a3, a4, a2]
    · simp only [VR]
      refine ⟨_, rfl, ?_⟩
      have : (vs.extract off (off + sz)).toList = (vs.toList.drop off).take sz := by simp [List.take_drop, Nat.add_comm]
      rw [this]
      exact (hvs.drop off).take sz
  | false =>
    simp only [Bool.false_eq_true, if_false] at hv
    obtain ⟨y, h1, h2⟩ := hvs.get hv
    refine post_pure (vc := y) H ?_ h2
    rw [Array.getElem?_toList] at h1
    simp [execOp, Instr.field, run_underlying hu, a1, e, asAgg, part, hag, a2, h1]

theorem op_index (H : HRel g h w) (E : ER g N ρ T) (K : TabOk P tt) {t : Nat} {x i : Operand} {k : IntKind} {n : Int} {cs : List V} (hi : ev ρ i = .int k n) (hx : ev ρ x = .agg cs) (hk : (tt t).kind = 4) (ha : (tt (tt t).elem).agg = false) (h0 : 0 ≤ n ∧ n < (tt t).len)
    (hv : (cs.drop (n.toNat * (tt (tt t).elem).size)).head? = some v) : OpPost P g h w T ⟨dst, .index t x i, ty, pos, after, gd⟩ v h := by
  have hx' := ev_ok E x
  have hi' := ev_ok E i
  rw [hi] at hi'; simp only [VR] at hi'
  rw [hx] at hx'; simp only [VR] at hx'
  obtain ⟨vs, e, hvs⟩ := hx'
  obtain ⟨hu, he⟩ := (K t (by omega)).k4 hk
  have RE := K _ he
  obtain ⟨d, a5, a6⟩ := RE.agg
  have hag : (isAgg (tt t).elem).run P w = .ok false w := (run_isAgg' a5 w).trans (by rw [a6, ha])
  rw [List.head?_drop] at hv
  obtain ⟨y, h1, h2⟩ := hvs.get hv
  refine post_pure (vc := y) H ?_ h2
  rw [Array.getElem?_toList] at h1
  simp [execOp, Instr.index, hi', asIntOf, run_underlying hu, e, part, hag, h0.1, h0.2, run_sizeOf RE, h1]
theorem op_indexAddr (H : HRel g h w) (E : ER g N ρ T) (K : TabOk P tt) {t : Nat} {x i : Operand} {k : IntKind} {n : Int} (hi : ev ρ i = .int k n) (h0 : 0 ≤ n)
    (hv : ((tt t).kind = 4 ∧ n < (tt t).len ∧ ((∃ cs, ev ρ x = .rop cs ∧ v = .rop (cs.drop (n.toNat * (tt (tt t).elem).size))) ∨ ∃ j ver o, ev ρ x = .ptr j ver o ∧ v = .ptr j ver (o + n.toNat * (tt (tt t).elem).size))) ∨
      ((tt t).kind = 3 ∧ ∃ len : Nat, n < len ∧ ((∃ cs, ev ρ x = .ro len cs ∧ v = .rop (cs.drop (n.toNat * (tt (tt t).elem).size))) ∨ ∃ j ver o, ev ρ x = .own j ver o (tt (tt t).elem).size len ∧ v = .ptr j ver (o + n.toNat * (tt (tt t).elem).size)))) :
    OpPost P g h w T ⟨dst, .indexAddr t x i, ty, pos, after, gd⟩ v h := by
  have hx := ev_ok E x
  have hi' := ev_ok E i
  rw [hi] at hi'; simp only [VR] at hi'
  rcases hv with ⟨hk, hl, hv⟩ | ⟨hk, len, hl, hv⟩
  · obtain ⟨hu, he⟩ := (K t (by omega)).k4 hk
    have RE := K _ he
    rcases hv with ⟨cs, h1, rfl⟩ | ⟨j, ver, o, h1, rfl⟩ <;> rw [h1] at hx <;> simp only [VR] at hx
    · obtain ⟨B, o, e, hc⟩ := hx
      refine post_pure (vc := .pointer (some ⟨B, o + n.toNat * (tt (tt t).elem).size, none⟩)) H ?_ (by simp only [VR]; exact ⟨_, _, rfl, hc.drop _⟩)
      simp [execOp, Instr.indexAt, hi', asIntOf, run_underlying hu, e, Instr.sureAddr, h0, hl, run_sizeOf RE, Addr.add_lit]
    · obtain ⟨B, c, e, hc⟩ := hx
      refine post_pure (vc := .pointer (some ⟨B, o + n.toNat * (tt (tt t).elem).size, none⟩)) H ?_ (by simp only [VR]; exact ⟨_, _, rfl, hc⟩)
      simp [execOp, Instr.indexAt, hi', asIntOf, run_underlying hu, e, Instr.sureAddr, h0, hl, run_sizeOf RE, Addr.add_lit]
  · obtain ⟨hu, he⟩ := (K t (by omega)).k3 hk
    have RE := K _ he
    rcases hv with ⟨cs, h1, rfl⟩ | ⟨j, ver, o, h1, rfl⟩ <;> rw [h1] at hx <;> simp only [VR] at hx
    · obtain ⟨a, cap, e, hcap, hc⟩ := hx
      rcases hc with ⟨hc, _⟩ | ⟨B, o, rfl, hc⟩
      · subst hc; omega
      · refine post_pure (vc := .pointer (some ⟨B, o + n.toNat * (tt (tt t).elem).size, none⟩)) H ?_ (by simp only [VR]; exact ⟨_, _, rfl, hc.drop _⟩)
        simp [execOp, Instr.indexAt, hi', asIntOf, run_underlying hu, e, h0, hl, run_sizeOf RE, Addr.add_lit]
    · obtain ⟨a, cap, e, hcap, y, hy, hc⟩ := hx
      cases y with
      | virt => simp only at hc; omega
      | blk B c =>
        simp only at hc
        obtain ⟨rfl, _⟩ := hc
        refine post_pure (vc := .pointer (some ⟨B, o + n.toNat * (tt (tt t).elem).size, none⟩)) H ?_ (by simp only [VR]; exact ⟨_, _, rfl, hy⟩)
        simp [execOp, Instr.indexAt, hi', asIntOf, run_underlying hu, e, h0, hl, run_sizeOf RE, Addr.add_lit]

theorem op_extract (H : HRel g h w) (E : ER g N ρ T) {x : Operand} {i : Nat} {cs : List V} (hx : ev ρ x = .tup cs) (hv : cs[i]? = some v) : OpPost P g h w T ⟨dst, .extract x i, ty, pos, after, gd⟩ v h := by
  have hx' := ev_ok E x
  rw [hx] at hx'; simp only [VR] at hx'
  obtain ⟨vs, e, hvs⟩ := hx'
  obtain ⟨y, h1, h2⟩ := hvs.get hv
  rw [Array.getElem?_toList] at h1
  refine post_pure (vc := y) H ?_ h2
  simp [execOp, Instr.extract, e, h1]
theorem op_makeFunc (H : HRel g h w) (E : ER g N ρ T) {f : FuncId} {first cap : Array Operand} : OpPost P g h w T ⟨dst, .makeFunc (.func f) first cap, ty, pos, after, gd⟩ (.fn f (evL ρ first.toList) (evL ρ cap.toList)) h := by
  refine post_pure (vc := .func (.func f) (first.map (evT T)) (cap.map (evT T))) H ?_ ?_
  · simp [execOp, Instr.makeFunc]
  · simp only [VR]
    exact ⟨_, _, rfl, by simpa using evL_ok E first.toList, by simpa using evL_ok E cap.toList⟩
theorem op_nilCheck (H : HRel g h w) (E : ER g N ρ T) {x : Operand} (hv : ev ρ x = v) (hk : (∃ i ver o, v = .ptr i ver o) ∨ (∃ cs, v = .rop cs) ∨ ∃ f a b, v = .fn f a b) : OpPost P g h w T ⟨dst, .nilCheck x, ty, pos, after, gd⟩ v h := by
  have hx := ev_ok E x
  rw [hv] at hx
  refine post_pure (vc := evT T x) H ?_ hx
  rcases hk with ⟨i, ver, o, rfl⟩ | ⟨cs, rfl⟩ | ⟨f, a, b, rfl⟩ <;> simp only [VR] at hx
  · obtain ⟨B, c, e, _⟩ := hx; simp [execOp, e]
  · obtain ⟨B, c, e, _⟩ := hx; simp [execOp, e]
  · obtain ⟨B, c, e, _⟩ := hx; simp [execOp, e]
theorem op_not (H : HRel g h w) (E : ER g N ρ T) {x : Operand} {t : Nat} {b : Bool} (hx : ev ρ x = .bool b) : OpPost P g h w T ⟨dst, .unOp .not t x, ty, pos, after, gd⟩ (.bool (!b)) h := by
  have hx' := ev_ok E x
  rw [hx] at hx'; simp only [VR] at hx'
  exact post_pure (vc := .bool (!b)) H (by simp [execOp, Op.unary, hx']) (by simp [VR])
theorem op_neg (H : HRel g h w) (E : ER g N ρ T) {x : Operand} {t : Nat} {k : IntKind} {n : Int} (hx : ev ρ x = .int k n) : OpPost P g h w T ⟨dst, .unOp .neg t x, ty, pos, after, gd⟩ (.int k (k.wrap (0 - n))) h := by
  have hx' := ev_ok E x
  rw [hx] at hx'; simp only [VR] at hx'
  exact post_pure (vc := .int k (k.wrap (0 - n))) H (by simp [execOp, Op.unary, hx', Op.intArith]) (by simp [VR])
theorem op_convert (H : HRel g h w) (E : ER g N ρ T) (K : TabOk P tt) {x : Operand} {s d : Nat} {k : IntKind} {n : Int} (hx : ev ρ x = .int k n) (hd : (tt d).kind = 1) (hs : (tt s).kind = 1) :
    OpPost P g h w T ⟨dst, .convert s d x, ty, pos, after, gd⟩ (.int (tt d).ik ((tt d).ik.wrap n)) h := by
  have hx' := ev_ok E x
  rw [hx] at hx'; simp only [VR] at hx'
  have h1 := (K d (by omega)).k1 hd
  have h2 := (K s (by omega)).k1 hs
  exact post_pure (vc := .int (tt d).ik ((tt d).ik.wrap n)) H (by simp [execOp, convert, run_underlying h1, run_underlying h2, hx', Conv.intToInt]) (by simp [VR])
theorem op_makeMap (H : HRel g h w) {t d : Nat} (hd : h.get d = none) : OpPost P g h w T ⟨dst, .makeMap t none, ty, pos, after, gd⟩ (.mp d) (h.set d ⟨0, .map []⟩) := by
  obtain ⟨g', a1, a2, a3, a4⟩ := new_own H hd (.map #[] 0) 0 (.map []) (fun g' hle _ => by
    simp only [BR]
    exact ⟨#[], 0, heap_alloc_new, by simp [MR]⟩)
  refine ⟨.value (.map (some w.heap.size)), _, g', _, rfl, rfl, ?_, a1, a3, a4⟩
  simp only [VR]
  exact ⟨_, _, rfl, a2⟩

theorem resolve_builtin (b : Builtin) (args : Array Operand) (argTypes : Array TypeId) (ty : TypeId) :
    resolve (evT T) { callee := .builtin b, args := args, argTypes := argTypes } ty = pure { target := .builtin b argTypes ty (args.map fun | .const _ => true | _ => false), args := args.map (evT T) } := rfl
theorem run_builtin (b : Builtin) (args : Array Operand) (argTypes : Array TypeId) :
    (execOp (evT T) ⟨dst, .call { callee := .builtin b, args := args, argTypes := argTypes }, ty, pos, after, gd⟩).run P w = (builtin b argTypes ty (args.map fun | .const _ => true | _ => false) (args.map (evT T))).run P w := by
  simp only [execOp, resolve_builtin, invoke]
  rfl
theorem op_len (H : HRel g h w) (E : ER g N ρ T) (K : TabOk P tt) {x : Operand} {t : Nat} {n : Int} {args : Array Operand} {ats : Array TypeId} (ha : args.toList = [x]) (hb : ats.toList = [t]) (hk : (tt t).kind = 3) (hv : vlen (ev ρ x) = some n) :
    OpPost P g h w T ⟨dst, .call { callee := .builtin .len, args := args, argTypes := ats }, ty, pos, after, gd⟩ (.int .i64 n) h := by
  have hx := ev_ok E x
  obtain rfl : args = #[x] := by apply Array.ext'; simpa using ha
  obtain rfl : ats = #[t] := by apply Array.ext'; simpa using hb
  have hu := ((K t (by omega)).k3 hk).1
  have hsl : ∃ a cap m, evT T x = .slice a m cap ∧ n = (m : Int) := by
    cases hc : ev ρ x <;> rw [hc] at hv hx <;> simp only [vlen, Option.some.injEq, reduceCtorEq] at hv <;> subst hv <;> simp only [VR] at hx
    · obtain ⟨a, e⟩ := hx; exact ⟨a, 0, 0, e, rfl⟩
    · obtain ⟨a, cap, e, _⟩ := hx; exact ⟨a, cap, _, e, rfl⟩
    · obtain ⟨a, cap, e, _⟩ := hx; exact ⟨a, cap, _, e, rfl⟩
  obtain ⟨a, cap, m, e, rfl⟩ := hsl
  refine post_pure (vc := .int .i64 m) H ?_ (by simp [VR])
  rw [run_builtin]
  simp [builtin, Builtin.len_, run_underlying hu, e, goInt]
theorem op_min (H : HRel g h w) (E : ER g N ρ T) {x y : Operand} {k k' : IntKind} {a b : Int} {args : Array Operand} {ats : Array TypeId} (ha : args.toList = [x, y]) (hx : ev ρ x = .int k a) (hy : ev ρ y = .int k' b) :
    OpPost P g h w T ⟨dst, .call { callee := .builtin .min, args := args, argTypes := ats }, ty, pos, after, gd⟩ (.int k (if b < a then b else a)) h := by
  obtain rfl : args = #[x, y] := by apply Array.ext'; simpa using ha
  have h1 := ev_ok E x
  have h2 := ev_ok E y
  rw [hx] at h1; rw [hy] at h2; simp only [VR] at h1 h2
  refine post_pure (vc := .int k (if b < a then b else a)) H ?_ (by simp [VR])
  rw [run_builtin]
  simp [builtin, Builtin.min_, h1, h2, Builtin.min2]
theorem op_min3 (H : HRel g h w) (E : ER g N ρ T) {x y z : Operand} {k k' k'' : IntKind} {a b c : Int} {args : Array Operand} {ats : Array TypeId} (ha : args.toList = [x, y, z]) (hx : ev ρ x = .int k a) (hy : ev ρ y = .int k' b) (hz : ev ρ z = .int k'' c) :
    OpPost P g h w T ⟨dst, .call { callee := .builtin .min, args := args, argTypes := ats }, ty, pos, after, gd⟩ (.int k (if c < (if b < a then b else a) then c else (if b < a then b else a))) h := by
  obtain rfl : args = #[x, y, z] := by apply Array.ext'; simpa using ha
  have h1 := ev_ok E x
  have h2 := ev_ok E y
  have h3 := ev_ok E z
  rw [hx] at h1; rw [hy] at h2; rw [hz] at h3; simp only [VR] at h1 h2 h3
  refine post_pure (vc := .int k (if c < (if b < a then b else a) then c else (if b < a then b else a))) H ?_ (by simp [VR])
  rw [run_builtin]
  simp [builtin, Builtin.min_, h1, h2, h3, Builtin.min2]
theorem op_max (H : HRel g h w) (E : ER g N ρ T) {x y : Operand} {k k' : IntKind} {a b : Int} {args : Array Operand} {ats : Array TypeId} (ha : args.toList = [x, y]) (hx : ev ρ x = .int k a) (hy : ev ρ y = .int k' b) :
    OpPost P g h w T ⟨dst, .call { callee := .builtin .max, args := args, argTypes := ats }, ty, pos, after, gd⟩ (.int k (if b > a then b else a)) h := by
  obtain rfl : args = #[x, y] := by apply Array.ext'; simpa using ha
  have h1 := ev_ok E x
  have h2 := ev_ok E y
  rw [hx] at h1; rw [hy] at h2; simp only [VR] at h1 h2
  refine post_pure (vc := .int k (if b > a then b else a)) H ?_ (by simp [VR])
  rw [run_builtin]
  simp [builtin, Builtin.max_, h1, h2, Builtin.max2]
end
end Go.Vm
