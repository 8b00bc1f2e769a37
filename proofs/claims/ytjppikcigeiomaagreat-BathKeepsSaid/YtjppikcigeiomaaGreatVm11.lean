import Derived.Test.YtjppikcigeiomaaGreatVm10
set_option linter.unusedVariables false
set_option linter.unusedSimpArgs false
namespace Go.Vm
section
variable {P : Program} {tt : Tab} {fz : Nat → Bool} {orc : Option Bool} {g : Gh} {h h' : Heap} {w : World} {N : Nat} {ρ : Env} {T : Array Value} {v : V} {dst : Option Nat} {ty : TypeId} {pos : String} {after : Array Edge} {gd : Option (Nat × Bool)}

theorem wrap_small {n : Int} (h0 : 0 ≤ n) (h1 : n ≤ 1000000) : IntKind.i64.wrap n = n := IntWalk.i64_in n (by omega)

theorem op_makeSlice (H : HRel g h w) (E : ER g N ρ T) (K : TabOk P tt) {d t : Nat} {l c : Operand} {n : Int} (hl : ev ρ l = .int .i64 n) (hc : ev ρ c = .int .i64 n) (h0 : 0 ≤ n) (h1 : n ≤ 1000000) (hk : (tt t).kind = 3)
    (hb : (tt (tt t).elem).bytes ≤ 4096) (hs : 0 < (tt (tt t).elem).size) (ho : oneL (tt (tt t).elem).zero = true) (hd : h.get d = none) :
    OpPost P g h w T ⟨dst, .makeSlice t l c, ty, pos, after, gd⟩ (.own d 0 0 (tt (tt t).elem).size n.toNat) (h.set d ⟨0, .row (zeros (tt (tt t).elem).zero n.toNat)⟩) := by
  have e1 := ev_ok E l
  have e2 := ev_ok E c
  rw [hl] at e1; rw [hc] at e2; simp only [VR] at e1 e2
  obtain ⟨hu, he⟩ := (K t (by omega)).k3 hk
  have RE := K _ he
  obtain ⟨ti, tz, hti, htis, htib, htz, _, hzv⟩ := RE.info
  have hw := wrap_small h0 h1
  have hz : ∀ w0 : World, (zeroValue (tt t).elem).run P w0 = .ok tz w0 := fun w0 => by simp [zeroValue, run_typeInfo hti, htz]
  have hbn : ¬ ((ti.bytes : Int) * n > 2 ^ 48) := by
    have : (ti.bytes : Int) * n ≤ 4096 * 1000000 := Int.mul_le_mul (by omega) h1 h0 (by omega)
    omega
  have hrow := zeros_ok (hzv g) n.toNat
  rw [RE.zlen] at hrow
  let c' : Array Value := (Array.range (n.toNat * (tt (tt t).elem).size)).map (tz.cells[· % tz.cells.size]!)
  have hrun : (execOp (evT T) ⟨dst, .makeSlice t l c, ty, pos, after, gd⟩).run P w = .ok (.value (.slice (some ⟨w.heap.size, 0, none⟩) n.toNat n.toNat)) (w.alloc (.cells c' (tt t).elem)) := by
    simp only [execOp, Instr.makeSlice, Sem.run_bind, run_underlying hu, Result.andThen_ok, e1, e2, asInt, asIntOf, Sem.run_pure, run_typeInfo hti, hw]
    have hneg : ¬ n < 0 := by omega
    simp only [hneg, decide_false, Bool.false_or, Bool.or_self, decide_eq_true_eq, hbn, Int.lt_irrefl, gt_iff_lt, Bool.false_eq_true, if_false]
    by_cases hz0 : n.toNat * (tt (tt t).elem).size = 0
    · simp only [Sem.run_bind, run_askRoom, Result.andThen_ok, run_sizeOf RE, hz0, if_true, Sem.run_pure, Go.newRow, run_newObj, World.alloc_eq, Sem.run_ite]
      have hr0 : (Array.range 0) = #[] := by apply Array.ext'; simp
      have : c' = #[] := by simp only [c', hz0, hr0]; simp
      rw [this, hr0]; simp
    · simp only [Sem.run_bind, run_askRoom, Result.andThen_ok, run_sizeOf RE, if_neg hz0, Sem.run_pure, Go.newRow, run_newObj, World.alloc_eq, Sem.run_ite, hz]
      rfl
  obtain ⟨g', a1, a2, a3, a4⟩ := new_own H hd (.cells c' (tt t).elem) c'.size (.row (zeros (tt (tt t).elem).zero n.toNat)) (fun g' hle _ => by
    simp only [BR]
    exact ⟨c', _, heap_alloc_new, rfl, c'.toList, [], by simp, hrow.le hle⟩)
  refine ⟨_, _, g', _, hrun, rfl, VR.own_blk a2 (Nat.le_refl _) ?_, a1, a3, a4⟩
  simp [c']

theorem op_slice (H : HRel g h w) (E : ER g N ρ T) (K : TabOk P tt) {t : Nat} {x : Operand} {lo hi mx : Option Operand} (hv : vslice tt (entOf h (ev ρ x)) t (ev ρ x) (lo.map (ev ρ)) (hi.map (ev ρ)) (mx.map (ev ρ)) = some v) :
    OpPost P g h w T ⟨dst, .slice t x lo hi mx, ty, pos, after, gd⟩ v h := by
  unfold vslice at hv
  simp only at hv
  cases lo with
  | some lop =>
    cases mx with
    | some _ => simp at hv
    | none =>
    simp only [Option.map_none, Option.map_some] at hv
    have hl := ev_ok E lop
    have hx := ev_ok E x
    split at hv
    case h_1 hq _ => cases hq
    case h_3 => cases hv
    rename_i kk k hq _
    injection hq with hq
    rw [hq] at hl; simp only [VR] at hl
    split at hv
    case h_2 => cases hv
    rename_i n cs hk hxe hhi
    obtain rfl : hi = none := by cases hi <;> simp at hhi ⊢
    split at hv
    case isFalse => cases hv
    rename_i hc
    obtain ⟨⟨hk0, hkn⟩, hcl⟩ := hc
    injection hv with hv; subst hv
    obtain ⟨hu, he⟩ := (K t (by omega)).k3 hk
    have RE := K _ he
    rw [hxe] at hx; simp only [VR] at hx
    obtain ⟨a, cap, e, hcap, hcs⟩ := hx
    have hk1 : (0 : Int) ≤ k ∧ k ≤ (n : Int) := ⟨hk0, hkn⟩
    refine post_pure (vc := .slice (if cap = k.toNat then a else a.map (·.add (k.toNat * (tt (tt t).elem).size))) (n - k.toNat) (cap - k.toNat)) H ?_ ?_
    · simp only [execOp, Instr.sliceAt, Instr.slice, Sem.run_bind, run_underlying hu, Result.andThen_ok, e, Sem.run_pure, Instr.sliceBounds, Option.map_none, Option.map_some, hl, Instr.sliceBound, asIntOf, Sem.run_ite, if_pos hk1, run_sizeOf RE]
      try simp
    · simp only [VR]
      refine ⟨_, _, rfl, by omega, ?_⟩
      by_cases hkk : k.toNat = n
      · left
        exact ⟨by omega, List.drop_eq_nil_of_le (by rw [hcl, hkk]; exact Nat.le_refl _)⟩
      · rcases hcs with ⟨h0, h00⟩ | ⟨B, o, ha, hcc⟩
        · omega
        · right
          rw [if_neg (by omega), ha]
          exact ⟨B, _, by simp only [Option.map_some, Addr.add_lit], hcc.drop _⟩
  | none =>
  cases mx with
  | some _ => simp at hv
  | none =>
  simp only [Option.map_none] at hv
  have hx := ev_ok E x
  split at hv
  case h_7 => cases hv
  case h_1 i ver off hk hxe hhi =>
    obtain rfl : hi = none := by cases hi <;> simp at hhi ⊢
    split at hv
    case h_2 => cases hv
    rename_i v' cs hi'
    rw [hxe] at hi'
    simp only [entOf] at hi'
    split at hv
    case isFalse => cases hv
    rename_i hc
    obtain ⟨rfl, hl⟩ := hc
    injection hv with hv; subst hv
    rw [hxe] at hx; simp only [VR] at hx
    obtain ⟨B, c, e, hm⟩ := hx
    obtain ⟨hu, he⟩ := (K t (by omega)).k4 hk
    have RE := K _ he
    obtain ⟨q, hq, hb⟩ := H.own i _ hi'
    simp only at hq; rw [hm] at hq; injection hq with hq; subst hq
    simp only [BR] at hb
    obtain ⟨a, el, h1, h2, pre, post, h3, h4⟩ := hb
    have hpl := h4.length
    have hal : a.size = pre.length + post.length := by rw [← Array.length_toList, h3]; simp
    refine post_pure (vc := .slice (some ⟨B, off, none⟩) (tt t).len (tt t).len) H ?_ (VR.own_blk hm (Nat.le_refl _) (by omega))
    simp only [execOp, Instr.sliceAt, Sem.run_bind, run_underlying hu, Result.andThen_ok, e, Instr.sureAddr, Sem.run_pure, Instr.sliceBounds, Option.map_none, run_sizeOf RE, Nat.sub_zero, Nat.zero_mul, Addr.add_zero', ite_self]
  case h_2 cs hk hxe hhi =>
    obtain rfl : hi = none := by cases hi <;> simp at hhi ⊢
    split at hv
    case isFalse => cases hv
    rename_i hl
    injection hv with hv; subst hv
    rw [hxe] at hx; simp only [VR] at hx
    obtain ⟨B, o, e, hc⟩ := hx
    obtain ⟨hu, he⟩ := (K t (by omega)).k4 hk
    have RE := K _ he
    refine post_pure (vc := .slice (some ⟨B, o, none⟩) (tt t).len (tt t).len) H ?_ (by simp only [VR]; exact ⟨_, _, rfl, Nat.le_refl _, .inr ⟨_, _, rfl, hc.take _⟩⟩)
    simp only [execOp, Instr.sliceAt, Sem.run_bind, run_underlying hu, Result.andThen_ok, e, Instr.sureAddr, Sem.run_pure, Instr.sliceBounds, Option.map_none, run_sizeOf RE, Nat.sub_zero, Nat.zero_mul, Addr.add_zero', ite_self]
  case h_3 cs k' kk hk hxe hhi =>
    rcases hi with _ | hop
    · simp at hhi
    simp only [Option.map_some, Option.some.injEq] at hhi
    have hh := ev_ok E hop
    rw [hhi] at hh; simp only [VR] at hh
    split at hv
    case isFalse => cases hv
    rename_i hl
    injection hv with hv; subst hv
    rw [hxe] at hx; simp only [VR] at hx
    obtain ⟨B, o, e, hc⟩ := hx
    obtain ⟨hu, he⟩ := (K t (by omega)).k4 hk
    have RE := K _ he
    have hk1 : (0 : Int) ≤ kk ∧ kk ≤ ((tt t).len : Int) := hl.1
    refine post_pure (vc := .slice (some ⟨B, o, none⟩) kk.toNat (tt t).len) H ?_ (by simp only [VR]; exact ⟨_, _, rfl, by omega, .inr ⟨_, _, rfl, hc.take _⟩⟩)
    simp only [execOp, Instr.sliceAt, Sem.run_bind, run_underlying hu, Result.andThen_ok, e, Instr.sureAddr, Sem.run_pure, Instr.sliceBounds, Option.map_none, Option.map_some, hh, Instr.sliceBound, asIntOf, Sem.run_ite, if_pos hk1, run_sizeOf RE, Nat.sub_zero, Nat.zero_mul, Addr.add_zero', ite_self]
  all_goals (
    rename_i hk hxe hhi
    obtain ⟨hu, he⟩ := (K t (by omega)).k3 hk
    have RE := K _ he
    rcases hi with _ | hop
    · simp at hhi
    simp only [Option.map_some, Option.some.injEq] at hhi
    have hh := ev_ok E hop
    rw [hhi] at hh; simp only [VR] at hh
    split at hv
    case isFalse => cases hv
    rename_i hc
    injection hv with hv; subst hv
    rw [hxe] at hx; simp only [VR] at hx)
  · obtain ⟨a, cap, e, hcap, hcs⟩ := hx
    rename_i n cs k' k
    have hk1 : (0 : Int) ≤ k ∧ k ≤ (cap : Int) := ⟨hc.1, by omega⟩
    refine post_pure (vc := .slice a k.toNat cap) H ?_ ?_
    · simp only [execOp, Instr.sliceAt, Instr.slice, Sem.run_bind, run_underlying hu, Result.andThen_ok, e, Sem.run_pure, Instr.sliceBounds, Option.map_none, Option.map_some, hh, Instr.sliceBound, asIntOf, Sem.run_ite, if_pos hk1, run_sizeOf RE, Nat.sub_zero, Nat.zero_mul]
      cases a <;> simp [Addr.add_zero']
    · simp only [VR]
      refine ⟨_, _, rfl, by omega, ?_⟩
      rcases hcs with ⟨h0, h00⟩ | ⟨B, o, ha, hcc⟩
      · left; subst h00; exact ⟨by omega, by simp⟩
      · right; exact ⟨B, o, ha, hcc.take _⟩
  · obtain ⟨a, e⟩ := hx
    rename_i k' k
    subst hc
    refine post_pure (vc := .slice a 0 0) H ?_ (by simp [VR])
    simp only [execOp, Instr.sliceAt, Instr.slice, Sem.run_bind, run_underlying hu, Result.andThen_ok, e, Sem.run_pure, Instr.sliceBounds, Option.map_none, Option.map_some, hh, Instr.sliceBound, asIntOf, Sem.run_ite, run_sizeOf RE, Nat.sub_zero, Nat.zero_mul]
    simp
  · obtain ⟨a, cap, e, hcap, q, hq, hcs⟩ := hx
    rename_i i ver off s n k' k
    have hk1 : (0 : Int) ≤ k ∧ k ≤ (cap : Int) := ⟨hc.1, by omega⟩
    refine post_pure (vc := .slice a k.toNat cap) H ?_ ?_
    · simp only [execOp, Instr.sliceAt, Instr.slice, Sem.run_bind, run_underlying hu, Result.andThen_ok, e, Sem.run_pure, Instr.sliceBounds, Option.map_none, Option.map_some, hh, Instr.sliceBound, asIntOf, Sem.run_ite, if_pos hk1, run_sizeOf RE, Nat.sub_zero, Nat.zero_mul]
      cases a <;> simp [Addr.add_zero']
    · cases q with
      | virt =>
        simp only at hcs
        obtain ⟨rfl, rfl⟩ := hcs
        rw [show k.toNat = 0 by omega]
        exact VR.own_virt hq
      | blk B c =>
        simp only at hcs
        obtain ⟨rfl, hcc⟩ := hcs
        exact VR.own_blk hq (by omega) hcc

theorem op_copy (H : HRel g h w) (E : ER g N ρ T) (K : TabOk P tt) {t : Nat} {x y : Operand} {args : Array Operand} {ats : Array TypeId} (ha : args.toList = [x, y]) (hb : ∃ r, ats.toList = t :: r)
    (hv : vcopy tt h t (ev ρ x) (ev ρ y) = some (v, h')) : OpPost P g h w T ⟨dst, .call { callee := .builtin .copy, args := args, argTypes := ats }, ty, pos, after, gd⟩ v h' := by
  obtain rfl : args = #[x, y] := by apply Array.ext'; simpa using ha
  have hat : ats[0]? = some t := by obtain ⟨r, hr⟩ := hb; rw [← Array.getElem?_toList, hr]; rfl
  unfold vcopy at hv
  simp only at hv
  split at hv
  case isFalse => cases hv
  rename_i hc
  obtain ⟨hk, hsz⟩ := hc
  obtain ⟨hu, he⟩ := (K t (by omega)).k3 hk
  have RE := K _ he
  split at hv
  case h_2 => cases hv
  rename_i m ys i ver off s n hsrc hbase
  split at hv
  case h_2 => cases hv
  rename_i v' cs hi
  split at hv
  case isFalse => cases hv
  rename_i hcond
  obtain ⟨hone, rfl, rfl, hl⟩ := hcond
  simp only [Option.some.injEq, Prod.mk.injEq] at hv
  obtain ⟨rfl, rfl⟩ := hv
  have hx := ev_ok E x
  have hy := ev_ok E y
  obtain ⟨ya, ycap, ey, hyl, hys⟩ := src_ok (P := P) H hy hsrc
  obtain ⟨vs, hfc, hvs⟩ := hys (min m n) (Nat.min_le_left _ _)
  rw [hbase] at hx; simp only [VR] at hx
  obtain ⟨a, cap, ex, hcap, q, hq, hh⟩ := hx
  obtain ⟨q', hq', hbr⟩ := H.own i _ hi
  simp only at hq'; rw [hq] at hq'; injection hq' with hq'; subst hq'
  have hvl := hvs.length
  have hmn : min m n * (tt (tt t).elem).size ≤ n * (tt (tt t).elem).size := Nat.mul_le_mul_right _ (Nat.min_le_right _ _)
  have hmm : min m n * (tt (tt t).elem).size ≤ m * (tt (tt t).elem).size := Nat.mul_le_mul_right _ (Nat.min_le_left _ _)
  have hvl' : vs.length = min m n * (tt (tt t).elem).size := by rw [hvl, List.length_take]; omega
  have hoy : oneL (ys.take (min m n * (tt (tt t).elem).size)) = true := by
    have : ∀ (l : List V) k, oneL l = true → oneL (l.take k) = true := by
      intro l; induction l with
      | nil => intro k _; simp [oneL]
      | cons c l ih => intro k hk; cases k with
        | zero => simp [oneL]
        | succ k => simp only [List.take_succ_cons, oneL, Bool.and_eq_true] at hk ⊢; exact ⟨hk.1, ih k hk.2⟩
    exact this _ _ hone
  have hexec : ∀ w', (∀ a', a = some a' → (storeCells a' vs).run P w = .ok () w') → (a = none → w' = w) →
      (execOp (evT T) ⟨dst, .call { callee := .builtin .copy, args := #[x, y], argTypes := ats }, ty, pos, after, gd⟩).run P w = .ok (.value (.int .i64 ((min m n : Nat) : Int))) w' := by
    intro w' hst hno
    rw [run_builtin, show (#[x, y] : Array Operand).map (evT T) = #[evT T x, evT T y] by simp, ex, ey]
    rw [ey] at hfc
    simp only [builtin, Builtin.copy_, hat, Sem.run_bind, Result.andThen_ok, run_underlying hu, lenOf_ok, run_sizeOf RE, List.getElem?_toArray, List.getElem?_cons_zero, List.getElem?_cons_succ]
    simp only [show Nat.min m n = min m n from rfl, hfc, Result.andThen_ok]
    cases a with
    | none => obtain rfl := hno rfl; simp [goInt]
    | some a' => simp [goInt, hst a' rfl]
  cases q with
  | virt =>
    simp only at hh
    obtain ⟨rfl, rfl⟩ := hh
    simp only [BR] at hbr
    have hcs0 : cs = [] := hbr
    subst hcs0
    have hv0 : vs = [] := List.eq_nil_of_length_eq_zero (by rw [hvl']; simp)
    subst hv0
    have hset : HRel g (h.set i ⟨ver, .row []⟩) w ∧ Tr g h w g (h.set i ⟨ver, .row []⟩) w := by
      have hg : ∀ j, (h.set i ⟨ver, .row []⟩).get j = h.get j := fun j => by
        rw [Heap.get_set]; by_cases hj : j = i
        · subst hj; rw [if_pos rfl, hi]
        · rw [if_neg hj]
      refine ⟨⟨H.ro, fun j e hj => H.own j e (by rw [hg] at hj; exact hj), fun j k e e' B c c' h1 h2 => H.inj j k e e' B c c' (by rw [hg] at h1; exact h1) (by rw [hg] at h2; exact h2), fun j e B c o h1 => H.apart j e B c o (by rw [hg] at h1; exact h1), fun j v hj => by rw [hg]; exact H.dom j v hj⟩, ?_⟩
      refine ⟨rfl, rfl, rfl, Nat.le_refl _, fun _ _ _ => rfl, ?_, fun _ _ _ h => h, fun _ _ h => .inl h⟩
      rintro B ⟨j, e, c, h1, h2⟩ _
      rw [hg] at h1
      exact ⟨j, e, c, h1, h2⟩
    have e1 : (List.take off ([] : List V) ++ List.take (min m 0 * (tt (tt t).elem).size) ys ++ List.drop (off + min m 0 * (tt (tt t).elem).size) []) = [] := by simp
    rw [e1]
    refine ⟨.value (.int .i64 ((min m 0 : Nat) : Int)), _, g, w, hexec w (fun a' _ => rfl) (fun _ => rfl), rfl, by simp [VR], Gh.le.refl g, hset.1, hset.2⟩
  | blk B c =>
    simp only at hh
    obtain ⟨rfl, hcc⟩ := hh
    simp only [BR] at hbr
    obtain ⟨c0, el, hw, hc0, pre, post, hpre, hrel⟩ := hbr
    have hpl := hrel.length
    have hc0l : c0.size = pre.length + post.length := by rw [← Array.length_toList, hpre]; simp
    have hst := run_storeCells_at P B off el vs 0 c0 w hw (by omega) (oneL_ok hvs hoy)
    simp only [Nat.add_zero] at hst
    have hb' : BR g (w.setRow B (List.take off c0.toList ++ vs ++ List.drop (off + vs.length) c0.toList).toArray) (.blk B c) (.row (cs.take off ++ ys.take (min m n * (tt (tt t).elem).size) ++ cs.drop (off + min m n * (tt (tt t).elem).size))) := by
      simp only [BR]
      refine ⟨_, el, setRow_heap w B c0 _ el _ hw, by simp; omega, pre.take off ++ vs ++ pre.drop (off + vs.length), post, ?_, ?_⟩
      · rw [hpre]
        simp only [List.append_assoc]
        rw [List.take_append_of_le_length (by omega), List.drop_append_of_le_length (by omega)]
      · rw [← hvl']
        exact VRL.append (VRL.append (hrel.take off) (by rw [hvl']; exact hvs)) (hrel.drop _)
    have hset := set_own (e := ⟨ver, .row cs⟩) H hi hq (w.setRow B (List.take off c0.toList ++ vs ++ List.drop (off + vs.length) c0.toList).toArray) rfl rfl rfl (by simp [World.setRow]) (fun k hk => by simp only [World.setRow, Array.getElem?_modify]; rw [if_neg (Ne.symm hk)]) _ hb'
    exact ⟨.value (.int .i64 ((min m n : Nat) : Int)), _, g, _, hexec _ (fun a' ha' => by injection ha' with ha'; subst ha'; exact hst) (fun hn => by cases hn), rfl, by simp [VR], Gh.le.refl g, hset.1, hset.2⟩

/-! ### maps -/
def FindR (g : Gh) (r : Option V) (rc : Option (Nat × Value)) : Prop := match r with
  | none => rc = none
  | some c => ∃ j v, rc = some (j, v) ∧ VR g c v
theorem find_ok (K : TabOk P tt) {kt : Nat} (hk : (tt kt).kind ≠ 0) (hi : (tt kt).ints = true) {ks : List Int} (hl : ks.length = (tt kt).size) : ∀ {es : List (V × V)} {en : List MapEntry} {r : Option V} (n : Nat), MR g es en → vfind (tt kt).size ks es = some r →
    ∃ rc, (Instr.findAsking kt (.agg (ks.map (Value.int .i64)).toArray) en n).run P w = .ok rc w ∧ FindR g r rc
  | [], en, r, n, hm, hv => by
    simp only [MR] at hm; subst hm
    simp only [vfind, Option.some.injEq] at hv; subst hv
    exact ⟨none, by simp [Instr.findAsking], rfl⟩
  | (kc, c) :: es, en, r, n, hm, hv => by
    simp only [MR] at hm
    obtain ⟨e, en', rfl, h1, h2, h3⟩ := hm
    cases kc <;> simp only [vfind, reduceCtorEq] at hv
    rename_i kcs
    split at hv
    case h_2 => cases hv
    rename_i l hkl
    split at hv
    case isFalse => cases hv
    rename_i hll
    simp only [VR] at h1
    obtain ⟨vs, e1, h1⟩ := h1
    have e3 := intsOf_ok hkl h1
    obtain rfl : vs = (l.map (Value.int .i64)).toArray := by apply Array.ext'; simpa using e3
    obtain ⟨_, q2, _⟩ := (K kt hk).ints hi ks l w hl hll
    simp only [Instr.findAsking, e1, Sem.run_bind, q2, Result.andThen_ok]
    by_cases hkl2 : ks = l
    · subst hkl2
      rw [if_pos rfl] at hv
      simp only [Option.some.injEq] at hv; subst hv
      exact ⟨some (n, e.val), by simp, n, e.val, rfl, h2⟩
    · rw [if_neg hkl2] at hv
      obtain ⟨rc, h4, h5⟩ := find_ok K hk hi hl (n + 1) h3 hv
      refine ⟨rc, ?_, h5⟩
      have : (ks == l) = false := by simpa using hkl2
      simp only [this, Bool.false_eq_true, if_false, h4]
theorem findKey_ok (K : TabOk P tt) {kt : Nat} (hk : (tt kt).kind ≠ 0) (hi : (tt kt).ints = true) {ks : List Int} (hl : ks.length = (tt kt).size) {es : List (V × V)} {en : List MapEntry} {r : Option V} (hm : MR g es en) (hv : vfind (tt kt).size ks es = some r) :
    ∃ rc, (Instr.findKey kt (.agg (ks.map (Value.int .i64)).toArray) en).run P w = .ok rc w ∧ FindR g r rc := by
  obtain ⟨d, hd, _⟩ := (K kt hk).agg
  obtain ⟨rc, h1, h2⟩ := find_ok (w := w) K hk hi hl 0 hm hv
  refine ⟨rc, ?_, h2⟩
  simp only [Instr.findKey, Sem.run_bind, run_underlying hd, Result.andThen_ok]
  cases en with
  | nil =>
    simp only [Instr.findNow]
    simpa [Instr.findAsking] using h1
  | cons e en =>
    have : Instr.findNow d (.agg (ks.map (Value.int .i64)).toArray) (e :: en) 0 = none := by
      simp only [Instr.findNow]
      cases d <;> simp [Instr.sameNow]
    rw [this]
    exact h1
theorem keyOf_ok {T0 : Nat} {kv : V} {ks : List Int} {x : Value} (hk : keyOf tt T0 kv = some ks) (hv : VR g kv x) : x = .agg (ks.map (Value.int .i64)).toArray ∧ ks.length = (tt (tt T0).len).size := by
  unfold keyOf at hk
  split at hk
  case h_2 => cases hk
  rename_i kc
  split at hk
  case h_2 => cases hk
  rename_i l hl
  split at hk
  case isFalse => cases hk
  rename_i hll
  injection hk with hk; subst hk
  simp only [VR] at hv
  obtain ⟨vs, rfl, h1⟩ := hv
  have e3 := intsOf_ok hl h1
  obtain rfl : vs = (l.map (Value.int .i64)).toArray := by apply Array.ext'; simpa using e3
  exact ⟨rfl, hll⟩
theorem mapOk_ok {T0 : Nat} (h : mapOk tt T0 = true) : (tt T0).kind = 6 ∧ (tt (tt T0).len).kind ≠ 0 ∧ (tt (tt T0).len).ints = true := by
  simp only [mapOk, Bool.and_eq_true, decide_eq_true_eq] at h
  exact ⟨h.1.1, h.1.2, h.2⟩
theorem op_lookup (H : HRel g h w) (E : ER g N ρ T) (K : TabOk P tt) {t : Nat} {x ix : Operand} {i : Nat} (hx : ev ρ x = .mp i) (hv : vlookup tt t (h.get i) (ev ρ ix) = some v) : OpPost P g h w T ⟨dst, .lookup t x ix true, ty, pos, after, gd⟩ v h := by
  unfold vlookup at hv
  split at hv
  case isFalse => cases hv
  rename_i hc
  obtain ⟨hm, hek, hea⟩ := hc
  obtain ⟨hk6, hkk, hki⟩ := mapOk_ok hm
  split at hv
  case h_2 => cases hv
  rename_i es ks hent hkey
  have h1 := ev_ok E x
  rw [hx] at h1; simp only [VR] at h1
  obtain ⟨B, c, e1, hgm⟩ := h1
  obtain ⟨y, hy, hb⟩ := H.own i _ hent
  simp only at hy
  rw [hgm] at hy; injection hy with hy; subst hy
  simp only [BR] at hb
  obtain ⟨en, clock, hw, hmr⟩ := hb
  obtain ⟨e2, hkl⟩ := keyOf_ok hkey (ev_ok E ix)
  have hu := (K t (by omega)).k6 hk6
  have hck := ((K _ hkk).ints hki ks ks w hkl hkl).2.2 en.isEmpty
  have hgo : ∀ w, w.heap[B]? = some (.map en clock) → (getObj B).run P w = .ok (.map en clock) w := fun w hw => by simp [getObj, Sem.run, hw]
  split at hv
  · rename_i c' hf
    injection hv with hv; subst hv
    obtain ⟨rc, hr, j, vv, rfl, hvv⟩ := findKey_ok (w := w) K hkk hki hkl hmr hf
    refine post_pure (vc := .tuple #[vv, .bool true]) H ?_ (by simp only [VR]; exact ⟨_, rfl, VRL.cons hvv (VRL.cons (by simp [VR]) VRL.nil)⟩)
    simp [execOp, Instr.lookup, e1, e2, run_underlying hu, hgo w hw, hck, hr]
  · rename_i hf
    split at hv
    case h_2 => cases hv
    rename_i z hz
    injection hv with hv; subst hv
    obtain ⟨rc, hr, rfl⟩ := findKey_ok (w := w) K hkk hki hkl hmr hf
    obtain ⟨ti, tz, hti, _, _, htz, htc, hzv⟩ := (K _ hek).info
    have hz1 := hzv g
    rw [hz, htc hea] at hz1
    simp only [VRL] at hz1
    obtain ⟨v1, v2, e3, hz2, _⟩ := hz1
    have e4 : tz = v1 := by injection e3
    subst e4
    have hzr : (zeroValue (tt t).elem).run P w = .ok tz w := by simp [zeroValue, run_typeInfo hti, htz]
    refine post_pure (vc := .tuple #[tz, .bool false]) H ?_ (by simp only [VR]; exact ⟨_, rfl, VRL.cons hz2 (VRL.cons (by simp [VR]) VRL.nil)⟩)
    simp [execOp, Instr.lookup, e1, e2, run_underlying hu, hgo w hw, hck, hr, hzr]
  · cases hv
theorem MR.append {g : Gh} : ∀ {es fs : List (V × V)} {en fn : List MapEntry}, MR g es en → MR g fs fn → MR g (es ++ fs) (en ++ fn)
  | [], fs, en, fn, h, k => by simp only [MR] at h; subst h; simpa using k
  | (a, c) :: es, fs, en, fn, h, k => by
    simp only [MR] at h
    obtain ⟨e, en', rfl, h1, h2, h3⟩ := h
    simp only [List.cons_append, MR]
    exact ⟨e, en' ++ fn, rfl, h1, h2, h3.append k⟩
theorem op_mapUpdate (H : HRel g h w) (E : ER g N ρ T) (K : TabOk P tt) {t : Nat} {m k x : Operand} {i : Nat} {e : Ent} (hx : ev ρ m = .mp i) (hv : vupdate tt t (h.get i) (ev ρ k) (ev ρ x) = some e) : OpPost P g h w T ⟨dst, .mapUpdate t m k x, ty, pos, after, gd⟩ .und (h.set i e) := by
  unfold vupdate at hv
  split at hv
  case isFalse => cases hv
  rename_i hm
  obtain ⟨hk6, hkk, hki⟩ := mapOk_ok hm
  split at hv
  case h_2 => cases hv
  rename_i es ks hent hkey
  split at hv
  case h_2 => cases hv
  rename_i hf
  injection hv with hv; subst hv
  have h1 := ev_ok E m
  rw [hx] at h1; simp only [VR] at h1
  obtain ⟨B, c, e1, hgm⟩ := h1
  obtain ⟨y, hy, hb⟩ := H.own i _ hent
  simp only at hy
  rw [hgm] at hy; injection hy with hy; subst hy
  simp only [BR] at hb
  obtain ⟨en, clock, hw, hmr⟩ := hb
  have hkv := ev_ok E k
  obtain ⟨e2, hkl⟩ := keyOf_ok hkey hkv
  have hu := (K t (by omega)).k6 hk6
  have hck := ((K _ hkk).ints hki ks ks w hkl hkl).2.2 false
  obtain ⟨rc, hr, rfl⟩ := findKey_ok (w := w) K hkk hki hkl hmr hf
  have hgo : (getObj B).run P w = .ok (.map en clock) w := by simp [getObj, Sem.run, hw]
  have hlt : B < w.heap.size := (Array.getElem?_eq_some_iff.1 hw).1
  let o : Obj := .map (en.push { key := evT T k, val := evT T x, born := clock }) (clock + 1)
  have hso : (setObj B o).run P w = .ok () { w with heap := w.heap.setIfInBounds B o } := by simp [setObj, Sem.run, hw]
  have hb' : BR g { w with heap := w.heap.setIfInBounds B o } (.blk B c) (.map (es ++ [(ev ρ k, ev ρ x)])) := by
    simp only [BR]
    refine ⟨_, _, by simp [o, hlt]; exact ⟨rfl, rfl⟩, ?_⟩
    rw [Array.toList_push]
    exact hmr.append (by simp only [MR]; exact ⟨_, [], rfl, hkv, ev_ok E x, rfl⟩)
  have hset := set_own (e := ⟨0, .map es⟩) H hent hgm { w with heap := w.heap.setIfInBounds B o } rfl rfl rfl (by simp) (fun j hj => by simp [Array.getElem?_setIfInBounds, Ne.symm hj]) _ hb'
  refine ⟨.skip, undef, g, _, ?_, rfl, by simp [VR], Gh.le.refl g, hset.1, hset.2⟩
  simp only [execOp, Instr.mapUpdate, e1, Sem.run_bind, run_underlying hu, Result.andThen_ok, hgo]
  rw [e2]
  simp only [hck, hr, Sem.run_bind, Result.andThen_ok]
  rw [← e2]
  simp [hso, o]
end
end Go.Vm
