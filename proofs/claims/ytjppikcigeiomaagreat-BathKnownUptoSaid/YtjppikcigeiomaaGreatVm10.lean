import Derived.Test.YtjppikcigeiomaaGreatVm9
set_option linter.unusedVariables false
set_option linter.unusedSimpArgs false
namespace Go.Vm

theorem HRel.drew {g : Gh} {h : Heap} {w : World} (H : HRel g h w) : HRel g h w.drew :=
  ⟨H.ro, fun i e he => by obtain ⟨x, h1, h2⟩ := H.own i e he; exact ⟨x, h1, h2.le (Gh.le.refl g) fun _ _ _ => rfl⟩, H.inj, H.apart, H.dom⟩
theorem Tr.drew (g : Gh) (h : Heap) (w : World) : Tr g h w g h w.drew :=
  ⟨rfl, rfl, rfl, Nat.le_refl _, fun _ _ _ => rfl, fun _ h _ => h, fun _ _ _ h => h, fun _ _ h => .inl h⟩

theorem growBy_le (n : Nat) : ∀ r c, Builtin.growBy n r c ≤ max c (n + (n + 768) / 4)
  | 0, c => by simp [Builtin.growBy]; omega
  | r + 1, c => by
    simp only [Builtin.growBy]
    split
    · omega
    · have := growBy_le n r (c + (c + 768) / 4)
      omega
theorem nextslicecap_le (n c : Nat) (hc : c < n) : Builtin.nextslicecap n c ≤ n + n / 4 + 1000 := by
  unfold Builtin.nextslicecap
  split
  · omega
  · split
    · omega
    · have := growBy_le n 4 c; omega

section
variable {P : Program} {tt : Tab} {fz : Nat → Bool} {orc : Option Bool} {g : Gh} {h h' : Heap} {w : World} {N : Nat} {ρ : Env} {T : Array Value} {v : V} {dst : Option Nat} {ty : TypeId} {pos : String} {after : Array Edge} {gd : Option (Nat × Bool)}

theorem VR.own_virt {i ver off s : Nat} {a : Option Addr} (hm : g.m i ver = some .virt) : VR g (.own i ver off s 0) (.slice a 0 0) := by
  simp only [VR]; exact ⟨a, 0, rfl, Nat.le_refl _, .virt, hm, by simp⟩
theorem VR.own_blk {i ver off s n B c cap : Nat} (hm : g.m i ver = some (.blk B c)) (hn : n ≤ cap) (hc : off + cap * s ≤ c) : VR g (.own i ver off s n) (.slice (some ⟨B, off, none⟩) n cap) := by
  simp only [VR]; exact ⟨_, cap, rfl, hn, .blk B c, hm, rfl, hc⟩
theorem loadCells_zero (a : Addr) : (loadCells a 0).run P w = .ok #[] w := rfl
/-- The first k elements of a slice. -/
theorem src_ok (H : HRel g h w) {sz m : Nat} {b : V} {x : Value} {ys : List V} (hx : VR g b x) (hs : srcOf sz h b = some (m, ys)) :
    ∃ a cap, x = .slice a m cap ∧ ys.length = m * sz ∧ ∀ k, k ≤ m → ∃ vs, (Builtin.firstCells sz k x).run P w = .ok vs.toArray w ∧ VRL g (ys.take (k * sz)) vs := by
  cases b <;> simp only [srcOf, reduceCtorEq] at hs <;> simp only [VR] at hx
  case sl0 =>
    simp only [Option.some.injEq, Prod.mk.injEq] at hs
    obtain ⟨rfl, rfl⟩ := hs
    obtain ⟨a, rfl⟩ := hx
    refine ⟨a, 0, rfl, by simp, fun k hk => ⟨[], ?_, by simp [VRL]⟩⟩
    obtain rfl : k = 0 := by omega
    cases a <;> simp [Builtin.firstCells, loadCells_zero]
  case ro n cs =>
    split at hs
    · rename_i hl
      simp only [Option.some.injEq, Prod.mk.injEq] at hs
      obtain ⟨rfl, rfl⟩ := hs
      obtain ⟨a, cap, rfl, hcap, hh⟩ := hx
      refine ⟨a, cap, rfl, hl, fun k hk => ?_⟩
      rcases hh with ⟨h0, hc⟩ | ⟨B, o, rfl, hc⟩
      · subst hc
        obtain rfl : k = 0 := by omega
        refine ⟨[], ?_, by simp [VRL]⟩
        cases a <;> simp [Builtin.firstCells, loadCells_zero]
      · obtain ⟨vs, h1, h2⟩ := run_cells (P := P) ((CellsAt.ro H hc).take (n := k * sz))
        refine ⟨vs, ?_, h2⟩
        have : (cs.take (k * sz)).length = k * sz := by rw [List.length_take, hl]; exact Nat.min_eq_left (Nat.mul_le_mul_right _ hk)
        rw [this] at h1
        simpa [Builtin.firstCells] using h1
    · cases hs
  case own i ver off s n =>
    split at hs
    · rename_i v' cs hi
      split at hs
      · rename_i hl
        obtain ⟨rfl, rfl, hl⟩ := hl
        simp only [Option.some.injEq, Prod.mk.injEq] at hs
        obtain ⟨rfl, rfl⟩ := hs
        obtain ⟨a, cap, rfl, hcap, y, hy, hh⟩ := hx
        refine ⟨a, cap, rfl, by rw [List.length_take, List.length_drop]; omega, fun k hk => ?_⟩
        obtain ⟨y', h1, h2⟩ := H.own i _ hi
        rw [hy] at h1; injection h1 with h1; subst h1
        cases y with
        | virt =>
          simp only at hh
          obtain ⟨rfl, rfl⟩ := hh
          obtain rfl : k = 0 := by omega
          refine ⟨[], ?_, by simp [VRL]⟩
          cases a <;> simp [Builtin.firstCells, loadCells_zero]
        | blk B c =>
          simp only at hh
          obtain ⟨rfl, hcc⟩ := hh
          obtain ⟨vs, h3, h4⟩ := run_cells (P := P) ((CellsAt.own (i := i) h2 off).take (n := k * s))
          have hks : k * s ≤ n * s := Nat.mul_le_mul_right _ hk
          refine ⟨vs, ?_, by rw [List.take_take, Nat.min_eq_left hks]; exact h4⟩
          have : ((cs.drop off).take (k * s)).length = k * s := by rw [List.length_take, List.length_drop]; omega
          rw [this] at h3
          simpa [Builtin.firstCells] using h3
      · cases hs
    · cases hs

theorem lenOf_ok {a : Option Addr} {m cap : Nat} : (Builtin.lenOf (.slice a m cap)).run P w = .ok m w := rfl

theorem append_fit {t u e : Nat} (hu : P.underlying t = some (.slice e)) {eu : Nat} (huu : P.underlying u = some (.slice eu)) (RE : RowOk P tt e)
    {base ya : Option Addr} {n cap m ycap : Nat} {vs : List Value} (hle : n + m ≤ cap) (hnew : (Builtin.firstCells (tt e).size m (.slice ya m ycap)).run P w = .ok vs.toArray w)
    {w' : World} (hst : ∀ a, base = some a → (storeCells (a.add (n * (tt e).size)) vs).run P w = .ok () w') (hno : base = none → w' = w) :
    (Builtin.append_ #[t, u] ty #[.slice base n cap, .slice ya m ycap]).run P w = .ok (.slice base (n + m) cap) w' := by
  cases base with
  | none =>
    obtain rfl := hno rfl
    simp [Builtin.append_, run_underlying hu, run_underlying huu, run_sizeOf RE, lenOf_ok, hle, hnew]
  | some a =>
    simp [Builtin.append_, run_underlying hu, run_underlying huu, run_sizeOf RE, lenOf_ok, hle, hnew, hst a rfl]
theorem append_grow {t u e : Nat} (hu : P.underlying t = some (.slice e)) {eu : Nat} (huu : P.underlying u = some (.slice eu)) (RE : RowOk P tt e)
    {base ya : Option Addr} {n cap m ycap : Nat} {old vs : List Value} (hlt : cap < n + m) (hnm : n + m ≤ 1000000 ∨ (n + m + (n + m) / 4 + 1000) * (tt e).bytes ≤ 281474976710656) (hb0 : 0 < (tt e).bytes) (hb1 : (tt e).bytes ≤ 4096)
    (hold : (Builtin.firstCells (tt e).size n (.slice base n cap)).run P w.drew = .ok old.toArray w.drew)
    (hnew : (Builtin.firstCells (tt e).size m (.slice ya m ycap)).run P w.drew = .ok vs.toArray w.drew) :
    ∃ (rest : Array Value) (ncap : Nat), n + m ≤ ncap ∧ rest.size = (ncap - (n + m)) * (tt e).size ∧
      (Builtin.append_ #[t, u] ty #[.slice base n cap, .slice ya m ycap]).run P w = .ok (.slice (some ⟨w.heap.size, 0, none⟩) (n + m) ncap) (w.drew.alloc (.cells (old.toArray ++ vs.toArray ++ rest) e)) := by
  obtain ⟨ti, tz, hti, htis, htib, htz, _, hzv⟩ := RE.info
  have hnext : ¬ Builtin.nextslicecap (n + m) cap * ti.bytes > 2 ^ 48 := by
    have h1 := nextslicecap_le (n + m) cap hlt
    have h2 : Builtin.nextslicecap (n + m) cap * ti.bytes ≤ (n + m + (n + m) / 4 + 1000) * (tt e).bytes := Nat.mul_le_mul h1 (by omega)
    rcases hnm with hnm | hnm
    · have h3 : (n + m + (n + m) / 4 + 1000) * (tt e).bytes ≤ 1251000 * 4096 := Nat.mul_le_mul (by omega) hb1
      omega
    · omega
  have hbn : ¬ ti.bytes = 0 := by omega
  have hN : n + m ≤ 281474976710656 := by
    rcases hnm with hnm | hnm
    · omega
    · have := Nat.le_mul_of_pos_right (n + m + (n + m) / 4 + 1000) hb0
      omega
  have hzs : tz.cells.size = (tt e).size := by have := (hzv ⟨fun _ _ => none, fun _ _ => none⟩).length; have := RE.zlen; simp at *; omega
  refine ⟨Builtin.zeroCells tz.cells ((n + m + w.tape w.drawn (.appendCap (n + m) cap e) % (2 ^ 63 - (n + m))) - (n + m)), n + m + w.tape w.drawn (.appendCap (n + m) cap e) % (2 ^ 63 - (n + m)), by omega, ?_, ?_⟩
  · simp [Builtin.zeroCells, hzs]
  · have hz : ∀ w0 : World, (zeroValue e).run P w0 = .ok tz w0 := fun w0 => by simp [zeroValue, run_typeInfo hti, htz]
    simp only [Builtin.append_, Sem.run_bind, run_underlying hu, Result.andThen_ok, run_sizeOf RE, run_underlying huu, Sem.run_pure, lenOf_ok, List.getElem?_toArray, List.getElem?_cons_zero, List.getElem?_cons_succ]
    simp only [Bool.false_eq_true, if_false, Sem.run_ite, Sem.run_bind, Sem.run_pure, Result.andThen_ok, lenOf_ok, run_typeInfo hti]
    rw [if_neg (by omega), if_neg (by simp [hbn]), if_neg hnext]
    simp only [run_choose, Question.forced, Bool.false_eq_true, if_false, Result.andThen_ok, run_askRoom, World.drew_eq, Question.cut]
    simp only [hold, hnew, Result.andThen_ok, hz, Bool.not_false, if_true, Go.newRow, Sem.run_bind, run_newObj, Sem.run_pure, World.alloc_eq, World.size_drew]

theorem op_append (H : HRel g h w) (E : ER g N ρ T) (K : TabOk P tt) {d t u : Nat} {x y : Operand} {args : Array Operand} {ats : Array TypeId} (ha : args.toList = [x, y]) (hb : ats.toList = [t, u]) (hku : (tt u).kind = 3)
    (hv : vappend tt h d t (ev ρ x) (ev ρ y) = some (v, h')) :
    OpPost P g h w T ⟨dst, .call { callee := .builtin .append, args := args, argTypes := ats }, ty, pos, after, gd⟩ v h' := by
  obtain rfl : args = #[x, y] := by apply Array.ext'; simpa using ha
  obtain rfl : ats = #[t, u] := by apply Array.ext'; simpa using hb
  have hv := vappend_or hv
  unfold vappendO at hv
  simp only at hv
  split at hv
  case isFalse => cases hv
  rename_i hc
  obtain ⟨hk, hsz, hb0, hb1⟩ := hc
  obtain ⟨hu, he⟩ := (K t (by omega)).k3 hk
  obtain ⟨huu, _⟩ := (K u (by omega)).k3 hku
  have RE := K _ he
  split at hv
  case h_2 => cases hv
  rename_i m ys hsrc
  split at hv
  case isFalse => cases hv
  rename_i hone
  have hx := ev_ok E x
  have hy := ev_ok E y
  obtain ⟨ya, ycap, ey, hyl, hys⟩ := src_ok (P := P) H hy hsrc
  obtain ⟨ya', ycap', ey', _, hys'⟩ := src_ok (P := P) H.drew hy hsrc
  obtain ⟨vs, hfc, hvs⟩ := hys m (Nat.le_refl m)
  obtain ⟨vs', hfc', hvs'⟩ := hys' m (Nat.le_refl m)
  rw [show ys.take (m * (tt (tt t).elem).size) = ys from List.take_of_length_le (by omega)] at hvs hvs'
  have hvl := hvs.length
  have hvl' := hvs'.length
  have hexec : ∀ r, (Builtin.append_ #[t, u] ty #[evT T x, evT T y]).run P w = r → (execOp (evT T) ⟨dst, .call { callee := .builtin .append, args := #[x, y], argTypes := #[t, u] }, ty, pos, after, gd⟩).run P w = r.andThen fun q w1 => .ok (.value q) w1 := by
    intro r hr
    rw [run_builtin]
    simp only [builtin, Sem.run_bind]
    rw [show (#[x, y] : Array Operand).map (evT T) = #[evT T x, evT T y] by simp, hr]
    rfl
  split at hv
  case h_3 => cases hv
  case h_1 hbase =>
    -- a base without room
    rw [hbase] at hx; simp only [VR] at hx
    obtain ⟨a, ex⟩ := hx
    split at hv
    case h_2 => cases hv
    rename_i hd
    split at hv
    case isFalse => cases hv
    rename_i hm
    simp only [Option.some.injEq, Prod.mk.injEq] at hv
    obtain ⟨rfl, rfl⟩ := hv
    rw [ex, ey] at hexec
    rcases Nat.eq_zero_or_pos m with h0 | h0
    · subst h0
      have hyn : ys = [] := List.eq_nil_of_length_eq_zero (by omega)
      have hvn : vs = [] := List.eq_nil_of_length_eq_zero (by rw [hvl, hyn]; rfl)
      subst hvn; subst hyn
      have hr := append_fit (tt := tt) (ty := ty) (w := w) (w' := w) hu huu RE (base := a) (n := 0) (cap := 0) (m := 0) (ya := ya) (ycap := ycap) (vs := []) (by omega) (by rw [← ey]; exact hfc) (fun _ _ => rfl) (fun _ => rfl)
      obtain ⟨g', a1, a2, a3, a4⟩ := new_virt H hd
      exact ⟨.value (.slice a 0 0), _, g', w, hexec _ hr, rfl, VR.own_virt a2, a1, a3, a4⟩
    · have hold : (Builtin.firstCells (tt (tt t).elem).size 0 (.slice a 0 0)).run P w.drew = .ok ([] : List Value).toArray w.drew := by
        cases a <;> simp [Builtin.firstCells, loadCells_zero]
      obtain ⟨rest, ncap, n1, n2, hr⟩ := append_grow (tt := tt) (ty := ty) (w := w) hu huu RE (n := 0) (m := m) (ya := ya) (ycap := ycap) (vs := vs') (by omega) (by simpa only [Nat.zero_add] using hm) hb0 hb1 hold (by rw [← ey]; exact hfc')
      obtain ⟨g', a1, a2, a3, a4⟩ := new_own H.drew hd (.cells (([] : List Value).toArray ++ vs'.toArray ++ rest) (tt t).elem) (([] : List Value).toArray ++ vs'.toArray ++ rest).size (.row ys) (fun g' hle _ => by
        simp only [BR]
        exact ⟨_, _, heap_alloc_new, rfl, vs', rest.toList, by simp, hvs'.le hle⟩)
      refine ⟨.value (.slice (some ⟨w.heap.size, 0, none⟩) (0 + m) ncap), _, g', _, hexec _ hr, rfl, ?_, a1, a3, (Tr.drew g h w).trans a4⟩
      have a2' : g'.m d 0 = some (.blk w.heap.size (([] : List Value).toArray ++ vs'.toArray ++ rest).size) := a2
      rw [Nat.zero_add] at n1 ⊢
      refine VR.own_blk a2' n1 ?_
      simp only [Array.size_append, List.size_toArray, List.length_nil, hvl', hyl, n2, Nat.zero_add]
      rw [← Nat.add_mul]
      exact Nat.le_of_eq (by congr 1; omega)
  case h_2 i ver s n hbase =>
    rw [hbase] at hx
    have hxo := hx
    simp only [VR] at hx
    obtain ⟨a, cap, ex, hcap, q, hq, hh⟩ := hx
    have hxo' : VR g (.own i ver 0 s n) (.slice a n cap) := by rw [← ex]; exact hxo
    split at hv
    case h_2 => cases hv
    rename_i v' cs hi
    split at hv
    case isFalse =>
      -- nothing is put behind
      split at hv
      case isFalse => cases hv
      rename_i hm0
      subst hm0
      simp only [Option.some.injEq, Prod.mk.injEq] at hv
      obtain ⟨rfl, rfl⟩ := hv
      rw [ex, ey] at hexec
      have hyn : ys = [] := List.eq_nil_of_length_eq_zero (by omega)
      have hvn : vs = [] := List.eq_nil_of_length_eq_zero (by rw [hvl, hyn]; rfl)
      subst hvn
      have hr := append_fit (tt := tt) (ty := ty) (w := w) (w' := w) hu huu RE (base := a) (n := n) (cap := cap) (m := 0) (ya := ya) (ycap := ycap) (vs := []) (by omega) (by rw [← ey]; exact hfc) (fun _ _ => rfl) (fun _ => rfl)
      exact ⟨.value (.slice a n cap), _, g, w, hexec _ hr, rfl, hxo', Gh.le.refl g, H, Tr.refl g _ w⟩
    rename_i hcond
    obtain ⟨rfl, rfl, hcs, hm0, hnm⟩ := hcond
    simp only [Option.some.injEq, Prod.mk.injEq] at hv
    obtain ⟨rfl, rfl⟩ := hv
    rw [ex, ey] at hexec
    obtain ⟨q', hq', hbr⟩ := H.own i _ hi
    simp only at hq'
    rw [hq] at hq'; injection hq' with hq'; subst hq'
    -- the old elements, behind a draw
    obtain ⟨oa, ocap, oe, _, hos⟩ := src_ok (P := P) H.drew hxo (show srcOf (tt (tt t).elem).size h (.own i ver 0 (tt (tt t).elem).size n) = some (n, (cs.drop 0).take (n * (tt (tt t).elem).size)) by simp [srcOf, hi, hcs])
    rw [ex] at oe hos
    obtain ⟨old, hof, hov⟩ := hos n (Nat.le_refl n)
    have hov' : VRL g cs old := by
      rw [List.drop_zero, List.take_take, Nat.min_self, List.take_of_length_le (by omega)] at hov; exact hov
    have hol := hov'.length
    by_cases hfit : n + m ≤ cap
    · -- there is room
      cases q with
      | virt => simp only at hh; omega
      | blk B c =>
        simp only at hh
        obtain ⟨rfl, hcc⟩ := hh
        simp only [BR] at hbr
        obtain ⟨c0, el, hw, hc0, pre, post, hpre, hrel⟩ := hbr
        have hpl := hrel.length
        have hc0l : c0.size = pre.length + post.length := by rw [← Array.length_toList, hpre]; simp
        have hmul : n * (tt (tt t).elem).size + m * (tt (tt t).elem).size ≤ cap * (tt (tt t).elem).size := by rw [← Nat.add_mul]; exact Nat.mul_le_mul_right _ hfit
        have hst := run_storeCells_at P B (n * (tt (tt t).elem).size) el vs 0 c0 w hw (by omega) (oneL_ok hvs hone)
        simp only [Nat.add_zero] at hst
        have hr := append_fit (tt := tt) (ty := ty) (w := w) hu huu RE (base := some ⟨B, 0, none⟩) (n := n) (cap := cap) (m := m) (ya := ya) (ycap := ycap) (vs := vs) hfit (by rw [← ey]; exact hfc)
          (fun a' ha' => by injection ha' with ha'; subst ha'; rw [Addr.add_lit, Nat.zero_add]; exact hst) (fun hn => by cases hn)
        obtain ⟨g', a1, a2, a3, a4⟩ := bump_own (e := ⟨ver, .row cs⟩) H hi hq (w.setRow B (List.take (n * (tt (tt t).elem).size) c0.toList ++ vs ++ List.drop (n * (tt (tt t).elem).size + vs.length) c0.toList).toArray) rfl rfl rfl
          (by simp [World.setRow]) (fun k hkl hk => by
            simp only [World.setRow, Array.getElem?_modify]
            rw [if_neg (fun hkk => hk c (by rw [hkk]))]) B c (.inl ⟨c, rfl⟩) (.row (cs ++ ys)) (fun g' hle _ => by
            simp only [BR]
            refine ⟨_, el, setRow_heap w B c0 _ el _ hw, by simp; omega, pre ++ vs, post.drop vs.length, ?_, VRL.append (hrel.le hle) (hvs.le hle)⟩
            rw [hpre]
            simp only [List.append_assoc]
            rw [List.take_append_of_le_length (by omega), List.take_of_length_le (by omega), List.drop_append, List.drop_of_length_le (by omega)]
            simp only [List.nil_append]
            congr 3
            omega)
        refine ⟨.value (.slice (some ⟨B, 0, none⟩) (n + m) cap), _, g', _, hexec _ hr, rfl, ?_, a1, a3, a4⟩
        exact VR.own_blk a2 hfit hcc
    · obtain ⟨rest, ncap, n1, n2, hr⟩ := append_grow (tt := tt) (ty := ty) (w := w) hu huu RE (base := a) (n := n) (cap := cap) (m := m) (ya := ya) (ycap := ycap) (old := old) (vs := vs') (by omega) (by omega) hb0 hb1 hof (by rw [← ey]; exact hfc')
      have hsz' : (old.toArray ++ vs'.toArray ++ rest).size = ncap * (tt (tt t).elem).size := by
        simp only [Array.size_append, List.size_toArray, hvl', hyl, n2, hol, hcs]
        rw [← Nat.add_mul, ← Nat.add_mul]
        congr 1; omega
      obtain ⟨g', a1, a2, a3, a4⟩ := bump_own (e := ⟨ver, .row cs⟩) H hi hq (w.drew.alloc (.cells (old.toArray ++ vs'.toArray ++ rest) (tt t).elem)) rfl rfl rfl (by simp)
        (fun k hkl _ => heap_alloc_old (w := w.drew) hkl) w.heap.size (ncap * (tt (tt t).elem).size) (.inr (Nat.le_refl _)) (.row (cs ++ ys)) (fun g' hle _ => by
          simp only [BR]
          exact ⟨_, _, heap_alloc_new (w := w.drew), hsz', old ++ vs', rest.toList, by simp, VRL.append (hov'.le hle) (hvs'.le hle)⟩)
      refine ⟨.value (.slice (some ⟨w.heap.size, 0, none⟩) (n + m) ncap), _, g', _, hexec _ hr, rfl, ?_, a1, a3, a4⟩
      exact VR.own_blk a2 n1 (by omega)
end
end Go.Vm
