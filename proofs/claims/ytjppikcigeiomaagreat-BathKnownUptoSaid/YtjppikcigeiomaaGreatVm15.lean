import Derived.Test.YtjppikcigeiomaaGreatVm14
set_option linter.unusedVariables false
set_option linter.unusedSimpArgs false
namespace Go.Vm

/-! ### what an operation looks at -/
def V.ids : V → List Nat
  | .ptr i _ _ => [i]
  | .own i _ _ _ _ => [i]
  | _ => []
def V.mids : V → List Nat
  | .mp i => [i]
  | _ => []
def vids (fz : Nat → Bool) (ρ : Env) (d : Option Nat) : Op → List Nat
  | .alloc _ | .makeMap _ _ | .makeSlice _ _ _ => d.toList
  | .box _ _ | .buildSlice _ _ _ => match d with
    | some d => if fz d then [] else [d]
    | none => []
  | .load _ a => (ev ρ a).ids
  | .store _ a _ => (ev ρ a).ids
  | .slice _ x _ _ _ => (ev ρ x).ids
  | .lookup _ x _ _ => (ev ρ x).mids
  | .mapUpdate _ x _ _ => (ev ρ x).mids
  | .call { callee := .builtin b, args, .. } => match b, args.toList with
    | .append, [x, y] => d.toList ++ ((ev ρ x).ids ++ (ev ρ y).ids)
    | .copy, [x, y] => (ev ρ x).ids ++ (ev ρ y).ids
    | _, _ => []
  | _ => []
def mayWrite (fz : Nat → Bool) (d : Option Nat) : Op → Bool
  | .alloc _ | .makeMap _ _ | .makeSlice _ _ _ => true
  | .box _ _ | .buildSlice _ _ _ => match d with
    | some d => !fz d
    | none => false
  | .store _ _ _ => true
  | .mapUpdate _ _ _ _ => true
  | .call { callee := .builtin b, .. } => match b with
    | .append | .copy => true
    | _ => false
  | _ => false
def apd (h : Heap) : Option (Nat × Ent) → Heap
  | some (i, e) => h.set i e
  | none => h

def tmpsOf : List Operand → List Nat
  | [] => []
  | .tmp t :: xs => t :: tmpsOf xs
  | _ :: xs => tmpsOf xs
theorem ev_congr {ρ ρ2 : Env} {x : Operand} (h : ∀ t, x = .tmp t → ρ2.get t = ρ.get t) : ev ρ2 x = ev ρ x := by
  cases x <;> simp only [ev]
  rw [h _ rfl]
theorem mem_tmpsOf {t : Nat} : ∀ {xs : List Operand}, .tmp t ∈ xs → t ∈ tmpsOf xs
  | [], h => by simp at h
  | x :: xs, h => by
    rcases List.mem_cons.1 h with h | h
    · subst h; simp [tmpsOf]
    · have ih := mem_tmpsOf h
      cases x <;> simp [tmpsOf, ih]
theorem evL_congr {ρ ρ2 : Env} : ∀ {xs : List Operand}, (∀ x ∈ xs, ev ρ2 x = ev ρ x) → evL ρ2 xs = evL ρ xs
  | [], _ => rfl
  | x :: xs, h => by simp only [evL]; rw [h x (by simp), evL_congr fun y hy => h y (by simp [hy])]
theorem evP_congr {ρ ρ2 : Env} : ∀ {xs : List (Nat × Operand)}, (∀ x ∈ xs, ev ρ2 x.2 = ev ρ x.2) → evP ρ2 xs = evP ρ xs
  | [], _ => rfl
  | (i, x) :: xs, h => by simp only [evP]; rw [h (i, x) (by simp), evP_congr fun y hy => h y (by simp [hy])]

section
variable {tt : Tab} {fz : Nat → Bool} {orc : Option Bool}
theorem newRow_local {f : Bool} {h h2 h' : Heap} {d : Nat} {cs : List V} {v : V} (hh : f = false → h2.get d = h.get d) (hv : newRow f h d cs = some (v, h')) :
    ∃ δ, h' = apd h δ ∧ newRow f h2 d cs = some (v, apd h2 δ) ∧ ∀ i e, δ = some (i, e) → i = d ∧ f = false := by
  unfold newRow at hv ⊢
  cases f with
  | true => simp only [if_true, Option.some.injEq, Prod.mk.injEq] at hv ⊢; obtain ⟨rfl, rfl⟩ := hv; exact ⟨none, rfl, ⟨rfl, rfl⟩, fun i e h => by cases h⟩
  | false =>
    simp only [Bool.false_eq_true, if_false] at hv ⊢
    rw [hh rfl]
    split at hv
    · split at hv
      · rename_i hd ho
        simp only [Option.some.injEq, Prod.mk.injEq] at hv; obtain ⟨rfl, rfl⟩ := hv
        exact ⟨some (d, ⟨0, .row cs⟩), rfl, by simp [hd, ho, apd], fun i e h => by injection h with h; injection h with h1 _; exact ⟨h1.symm, by simp⟩⟩
      · cases hv
    · cases hv
theorem srcOf_local {h h2 : Heap} {sz : Nat} {c : V} (hh : ∀ i ∈ c.ids, h2.get i = h.get i) : srcOf sz h2 c = srcOf sz h c := by
  cases c <;> simp only [srcOf]
  rw [hh _ (by simp [V.ids])]
theorem entOf_local {h h2 : Heap} {c : V} (hh : ∀ i ∈ c.ids, h2.get i = h.get i) : entOf h2 c = entOf h c := by
  cases c <;> simp only [entOf]
  rw [hh _ (by simp [V.ids])]
theorem vappend_local {h h2 h' : Heap} {d t : Nat} {a b v : V} (hd : h2.get d = h.get d) (ha : ∀ i ∈ a.ids, h2.get i = h.get i) (hb : ∀ i ∈ b.ids, h2.get i = h.get i) (hv : vappend tt h d t a b = some (v, h')) :
    ∃ δ, h' = apd h δ ∧ vappend tt h2 d t a b = some (v, apd h2 δ) ∧ ∀ i e, δ = some (i, e) → i = d ∨ i ∈ a.ids := by
  unfold vappend at hv ⊢
  simp only at hv ⊢
  rw [srcOf_local hb, hd]
  split at hv
  case isFalse => cases hv
  rename_i hc
  rw [if_pos hc]
  split at hv
  case h_2 => cases hv
  rename_i m ys hs
  split at hv
  case isFalse => cases hv
  rename_i hone
  simp only [hone, if_true]
  split at hv
  · split at hv
    · split at hv
      · rename_i hdn hm
        simp only [Option.some.injEq, Prod.mk.injEq] at hv; obtain ⟨rfl, rfl⟩ := hv
        exact ⟨some (d, ⟨0, .row ys⟩), rfl, by simp [hdn, hm, apd], fun i e h => by injection h with h; injection h with h1 _; exact .inl h1.symm⟩
      · split at hv
        · rename_i hdn hm hm2
          simp only [Option.some.injEq, Prod.mk.injEq] at hv; obtain ⟨rfl, rfl⟩ := hv
          exact ⟨some (d, ⟨0, .row ys⟩), rfl, by simp only [hdn, if_neg hm, if_pos hm2, apd], fun i e h => by injection h with h; injection h with h1 _; exact .inl h1.symm⟩
        · cases hv
    · cases hv
  · rename_i i ver s n
    have hi := ha i (by simp [V.ids])
    simp only [hi]
    split at hv
    · rename_i v' cs hg
      split at hv
      · rename_i hc2
        simp only [Option.some.injEq, Prod.mk.injEq] at hv; obtain ⟨rfl, rfl⟩ := hv
        refine ⟨some (i, ⟨ver + 1, .row (cs ++ ys)⟩), rfl, ?_, fun j e h => by injection h with h; injection h with h1 _; exact .inr (by rw [← h1]; simp [V.ids])⟩
        simp only [if_pos hc2, apd]
      · rename_i hc2
        split at hv
        · rename_i hm0
          simp only [Option.some.injEq, Prod.mk.injEq] at hv; obtain ⟨rfl, rfl⟩ := hv
          refine ⟨none, rfl, ?_, fun j e h => by cases h⟩
          simp only [if_neg hc2, if_pos hm0, apd]
        · rename_i hm0
          split at hv
          · rename_i hc3
            simp only [Option.some.injEq, Prod.mk.injEq] at hv; obtain ⟨rfl, rfl⟩ := hv
            refine ⟨some (i, ⟨ver + 1, .row (cs ++ ys)⟩), rfl, ?_, fun j e h => by injection h with h; injection h with h1 _; exact .inr (by rw [← h1]; simp [V.ids])⟩
            simp only [if_neg hc2, if_neg hm0, if_pos hc3, apd]
          · cases hv
    · cases hv
  · cases hv
theorem vcopy_local {h h2 h' : Heap} {t : Nat} {a b v : V} (ha : ∀ i ∈ a.ids, h2.get i = h.get i) (hb : ∀ i ∈ b.ids, h2.get i = h.get i) (hv : vcopy tt h t a b = some (v, h')) :
    ∃ δ, h' = apd h δ ∧ vcopy tt h2 t a b = some (v, apd h2 δ) ∧ ∀ i e, δ = some (i, e) → i ∈ a.ids := by
  unfold vcopy at hv ⊢
  simp only at hv ⊢
  rw [srcOf_local hb]
  split at hv
  case isFalse => cases hv
  rename_i hc
  rw [if_pos hc]
  split at hv
  case h_2 => cases hv
  rename_i m ys i ver off s n hs
  have hi := ha i (by simp [V.ids])
  simp only [hi]
  split at hv
  case h_2 => cases hv
  rename_i v' cs hg
  split at hv
  case isFalse => cases hv
  rename_i hc2
  simp only [Option.some.injEq, Prod.mk.injEq] at hv; obtain ⟨rfl, rfl⟩ := hv
  refine ⟨some (i, ⟨ver, .row (cs.take off ++ ys.take (min m n * s) ++ cs.drop (off + min m n * s))⟩), rfl, ?_, fun j e h => by injection h with h; injection h with h1 _; rw [← h1]; simp [V.ids]⟩
  simp only [if_pos hc2, apd]

theorem vop_local {ρ ρ2 : Env} {h h2 h' : Heap} {d : Option Nat} {op : Op} {v : V} (hs : ∀ x ∈ op.operands.toList, ev ρ2 x = ev ρ x) (hh : ∀ i ∈ vids fz ρ d op, h2.get i = h.get i)
    (hv : vop tt fz orc ρ h d op = some (v, h')) :
    ∃ δ, h' = apd h δ ∧ vop tt fz orc ρ2 h2 d op = some (v, apd h2 δ) ∧ ∀ i e, δ = some (i, e) → i ∈ vids fz ρ d op ∧ mayWrite fz d op = true := by
  cases op with
  | alloc t =>
    simp only [vop] at hv ⊢
    cases d with
    | none => cases hv
    | some d =>
      simp only at hv ⊢
      split at hv
      · cases hv
      · rename_i hk
        obtain ⟨δ, a1, a2, a3⟩ := newRow_local (h2 := h2) (fun _ => hh d (by simp [vids])) hv
        exact ⟨δ, a1, by rw [if_neg hk]; exact a2, fun i e hi => ⟨by rw [(a3 i e hi).1]; simp [vids], by simp [mayWrite]⟩⟩
  | box t x =>
    have hx := hs x (by simp [Op.operands])
    simp only [vop] at hv ⊢
    rw [hx]
    cases d with
    | none => simp at hv
    | some d =>
      try simp only at hv ⊢
      split at hv
      · rename_i d' cs hd hcs
        injection hd with hd; subst hd
        obtain ⟨δ, a1, a2, a3⟩ := newRow_local (h2 := h2) (fun hf => hh d (by simp [vids, hf])) hv
        exact ⟨δ, a1, a2, fun i e hi => ⟨by rw [(a3 i e hi).1]; simp [vids, (a3 i e hi).2], by simp [mayWrite, (a3 i e hi).2]⟩⟩
      · cases hv
  | buildSlice t len ps =>
    have hp : evP ρ2 ps.toList = evP ρ ps.toList := evP_congr fun y hy => hs y.2 (by simp [Op.operands]; exact ⟨y.1, by simpa using hy⟩)
    simp only [vop] at hv ⊢
    rw [hp]
    cases d with
    | none => cases hv
    | some d =>
      simp only at hv ⊢
      split at hv
      case isFalse => cases hv
      rename_i hk
      rw [if_pos hk]
      split at hv
      case h_2 => cases hv
      rename_i cs hcs
      try simp only [hcs]
      split at hv
      · rename_i hl
        simp only [Option.some.injEq, Prod.mk.injEq] at hv; obtain ⟨rfl, rfl⟩ := hv
        exact ⟨none, rfl, by rw [if_pos hl]; rfl, fun i e hi => by cases hi⟩
      · rename_i hl
        rw [if_neg hl]
        split at hv
        · rename_i hf
          simp only [Option.some.injEq, Prod.mk.injEq] at hv; obtain ⟨rfl, rfl⟩ := hv
          exact ⟨none, rfl, by rw [if_pos hf]; rfl, fun i e hi => by cases hi⟩
        · rename_i hf
          rw [if_neg hf, hh d (by simp [vids, hf])]
          split at hv
          case h_2 => cases hv
          rename_i hd
          split at hv
          case isFalse => cases hv
          rename_i hc
          simp only [Option.some.injEq, Prod.mk.injEq] at hv; obtain ⟨rfl, rfl⟩ := hv
          refine ⟨some (d, ⟨0, .row cs⟩), rfl, by simp only [hd, if_pos hc, apd], fun i e hi => ?_⟩
          injection hi with hi; injection hi with h1 _
          exact ⟨by rw [← h1]; simp [vids, hf], by simp [mayWrite, hf]⟩
  | makeSlice t l c =>
    have h1 := hs l (by simp [Op.operands])
    have h2' := hs c (by simp [Op.operands])
    simp only [vop] at hv ⊢
    rw [h1, h2']
    split at hv
    case h_2 => cases hv
    rename_i d n m hl hc
    split at hv
    case isFalse => cases hv
    rename_i hcond
    simp only [hl, hc, if_pos hcond]
    rw [hh d (by simp [vids])]
    split at hv
    · rename_i hd
      simp only [Option.some.injEq, Prod.mk.injEq] at hv; obtain ⟨rfl, rfl⟩ := hv
      refine ⟨some (d, _), rfl, by simp only [hd, apd], fun i e hi => ?_⟩
      injection hi with hi; injection hi with h1 _
      exact ⟨by rw [← h1]; simp [vids], by simp [mayWrite]⟩
    · cases hv
  | makeMap t r =>
    cases r with
    | some _ => simp [vop] at hv
    | none =>
      simp only [vop] at hv ⊢
      cases d with
      | none => cases hv
      | some d =>
        simp only at hv ⊢
        rw [hh d (by simp [vids])]
        split at hv
        · rename_i hd
          simp only [Option.some.injEq, Prod.mk.injEq] at hv; obtain ⟨rfl, rfl⟩ := hv
          refine ⟨some (d, ⟨0, .map []⟩), rfl, by simp only [hd, apd], fun i e hi => ?_⟩
          injection hi with hi; injection hi with h1 _
          exact ⟨by rw [← h1]; simp [vids], by simp [mayWrite]⟩
        · cases hv
  | load t a =>
    have ha := hs a (by simp [Op.operands])
    simp only [vop] at hv ⊢
    rw [ha]
    split at hv
    case isTrue => cases hv
    rename_i hk
    rw [if_neg hk]
    split at hv
    · rename_i hx
      simp only [Option.map_eq_some_iff, Prod.mk.injEq] at hv
      obtain ⟨v', h1, rfl, rfl⟩ := hv
      exact ⟨none, rfl, by first | rfl | (simp only [hx, h1]; rfl), fun i e hi => by cases hi⟩
    · rename_i i ver off hx
      have hi := hh i (by simp [vids, hx, V.ids])
      split at hv
      case h_2 => cases hv
      rename_i v' cs hg
      split at hv
      case isFalse => cases hv
      rename_i hve
      simp only [Option.map_eq_some_iff, Prod.mk.injEq] at hv
      obtain ⟨v', h1, rfl, rfl⟩ := hv
      exact ⟨none, rfl, by first | rfl | (simp only [hx, hi, hg, if_pos hve, h1]; rfl), fun i e hi => by cases hi⟩
    · cases hv
  | store t a x =>
    have ha := hs a (by simp [Op.operands])
    have hx := hs x (by simp [Op.operands])
    simp only [vop] at hv ⊢
    rw [ha, hx]
    split at hv
    case isTrue => cases hv
    rename_i hk
    rw [if_neg hk]
    split at hv
    case h_2 => cases hv
    rename_i i ver off vs ha' hx'
    have hi := hh i (by simp [vids, ha', V.ids])
    split at hv
    case h_2 => cases hv
    rename_i v' cs hg
    split at hv
    case isFalse => cases hv
    rename_i hc
    simp only [Option.some.injEq, Prod.mk.injEq] at hv; obtain ⟨rfl, rfl⟩ := hv
    refine ⟨some (i, _), rfl, by simp only [ha', hx', hi, hg, if_pos hc, apd], fun j e hj => ?_⟩
    injection hj with hj; injection hj with h1 _
    exact ⟨by rw [← h1]; simp [vids, ha', V.ids], by simp [mayWrite]⟩
  | slice t x lo hi mx =>
    have hx := hs x (by simp [Op.operands])
    have hlo : lo.map (ev ρ2) = lo.map (ev ρ) := by cases lo with | none => rfl | some y => simp only [Option.map_some]; rw [hs y (by simp [Op.operands])]
    have hhi : hi.map (ev ρ2) = hi.map (ev ρ) := by cases hi with | none => rfl | some y => simp only [Option.map_some]; rw [hs y (by simp [Op.operands])]
    have hmx : mx.map (ev ρ2) = mx.map (ev ρ) := by cases mx with | none => rfl | some y => simp only [Option.map_some]; rw [hs y (by simp [Op.operands])]
    simp only [vop] at hv ⊢
    rw [hx, hlo, hhi, hmx, entOf_local (h := h) (h2 := h2) (fun i hi' => hh i (by simpa [vids] using hi'))]
    simp only [Option.map_eq_some_iff, Prod.mk.injEq] at hv
    obtain ⟨v', h1, rfl, rfl⟩ := hv
    exact ⟨none, rfl, by rw [h1]; rfl, fun i e hi => by cases hi⟩
  | call c =>
    obtain ⟨callee, args, ats⟩ := c
    cases callee with
    | value f => simp [vop] at hv
    | invoke r m => simp [vop] at hv
    | builtin b =>
      have hargs : ∀ x ∈ args.toList, ev ρ2 x = ev ρ x := fun x hx => hs x (by simp [Op.operands, Call.operands]; simpa using hx)
      simp only [vop] at hv ⊢
      split at hv
      · rename_i x t ha hb
        have hx := hargs x (by rw [ha]; simp)
        simp only [ha, hb, hx]
        split at hv
        · rename_i hk
          rw [if_pos hk]
          split at hv
          · rename_i n hn
            simp only [Option.some.injEq, Prod.mk.injEq] at hv; obtain ⟨rfl, rfl⟩ := hv
            exact ⟨none, rfl, by first | rfl | (simp only [hn]; rfl), fun i e hi => by cases hi⟩
          · cases hv
        · cases hv
      · rename_i _ x y ha
        have hx := hargs x (by rw [ha]; simp)
        have hy := hargs y (by rw [ha]; simp)
        simp only [ha, hx, hy]
        split at hv
        · rename_i h1 h2'
          simp only [Option.some.injEq, Prod.mk.injEq] at hv; obtain ⟨rfl, rfl⟩ := hv
          exact ⟨none, rfl, by first | rfl | (simp only [h1, h2']; rfl), fun i e hi => by cases hi⟩
        · cases hv
      · rename_i _ x y z ha
        have hx := hargs x (by rw [ha]; simp)
        have hy := hargs y (by rw [ha]; simp)
        have hz := hargs z (by rw [ha]; simp)
        simp only [ha, hx, hy, hz]
        split at hv
        · rename_i h1 h2' h3'
          simp only [Option.some.injEq, Prod.mk.injEq] at hv; obtain ⟨rfl, rfl⟩ := hv
          exact ⟨none, rfl, by first | rfl | (simp only [h1, h2', h3']; rfl), fun i e hi => by cases hi⟩
        · cases hv
      · rename_i _ x y ha
        have hx := hargs x (by rw [ha]; simp)
        have hy := hargs y (by rw [ha]; simp)
        simp only [ha, hx, hy]
        split at hv
        · rename_i h1 h2'
          simp only [Option.some.injEq, Prod.mk.injEq] at hv; obtain ⟨rfl, rfl⟩ := hv
          exact ⟨none, rfl, by first | rfl | (simp only [h1, h2']; rfl), fun i e hi => by cases hi⟩
        · cases hv
      · rename_i x y t u ha hb
        have hx := hargs x (by rw [ha]; simp)
        have hy := hargs y (by rw [ha]; simp)
        simp only [ha, hb, hx, hy]
        split at hv
        case h_2 => cases hv
        rename_i d
        try simp only
        split at hv
        case isFalse => cases hv
        rename_i hk
        rw [if_pos hk]
        obtain ⟨δ, a1, a2, a3⟩ := vappend_local (h2 := h2) (hh d (by simp [vids, ha])) (fun i hi => hh i (by simp only [vids, ha]; simp [hi])) (fun i hi => hh i (by simp only [vids, ha]; simp [hi])) hv
        exact ⟨δ, a1, a2, fun i e hi => ⟨by rcases a3 i e hi with h | h <;> (simp only [vids, ha]; simp [h]), by simp [mayWrite]⟩⟩
      · rename_i x y t r ha hb
        have hx := hargs x (by rw [ha]; simp)
        have hy := hargs y (by rw [ha]; simp)
        simp only [ha, hb, hx, hy]
        obtain ⟨δ, a1, a2, a3⟩ := vcopy_local (h2 := h2) (fun i hi => hh i (by simp only [vids, ha]; simp [hi])) (fun i hi => hh i (by simp only [vids, ha]; simp [hi])) hv
        exact ⟨δ, a1, a2, fun i e hi => ⟨by simp only [vids, ha]; simp [a3 i e hi], by simp [mayWrite]⟩⟩
      · cases hv
  | move x => simp only [vop, Option.some.injEq, Prod.mk.injEq] at hv ⊢; obtain ⟨rfl, rfl⟩ := hv; exact ⟨none, rfl, ⟨hs x (by simp [Op.operands]), rfl⟩, fun i e hi => by cases hi⟩
  | assign x => simp only [vop, Option.some.injEq, Prod.mk.injEq] at hv ⊢; obtain ⟨rfl, rfl⟩ := hv; exact ⟨none, rfl, ⟨hs x (by simp [Op.operands]), rfl⟩, fun i e hi => by cases hi⟩
  | pick c a b =>
    have h1 := hs c (by simp [Op.operands])
    have h2' := hs a (by simp [Op.operands])
    have h3 := hs b (by simp [Op.operands])
    simp only [vop] at hv ⊢
    rw [h1, h2', h3]
    split at hv
    · rename_i t hc
      simp only [Option.some.injEq, Prod.mk.injEq] at hv; obtain ⟨rfl, rfl⟩ := hv
      exact ⟨none, rfl, by first | rfl | (simp only [hc]; rfl), fun i e hi => by cases hi⟩
    · cases hv
  | build t ps =>
    have hp : evP ρ2 ps.toList = evP ρ ps.toList := evP_congr fun y hy => hs y.2 (by simp [Op.operands]; exact ⟨y.1, by simpa using hy⟩)
    simp only [vop] at hv ⊢
    rw [hp]
    split at hv
    · split at hv
      · rename_i h1
        simp only [Option.some.injEq, Prod.mk.injEq] at hv; obtain ⟨rfl, rfl⟩ := hv
        exact ⟨none, rfl, by first | rfl | (simp only [*]; rfl), fun i e hi => by cases hi⟩
      · cases hv
    · split at hv
      · rename_i h1
        simp only [Option.some.injEq, Prod.mk.injEq] at hv; obtain ⟨rfl, rfl⟩ := hv
        exact ⟨none, rfl, by first | rfl | (simp only [*]; rfl), fun i e hi => by cases hi⟩
      · cases hv
    · cases hv
  | nilCheck x =>
    have h1 := hs x (by simp [Op.operands])
    simp only [vop] at hv ⊢
    rw [h1]
    split at hv <;> simp only [Option.some.injEq, Prod.mk.injEq, reduceCtorEq] at hv
    all_goals (obtain ⟨rfl, rfl⟩ := hv; exact ⟨none, rfl, by first | rfl | (simp only [*]; rfl), fun i e hi => by cases hi⟩)
  | binOp op t x y u =>
    have h1 := hs x (by simp [Op.operands])
    have h2' := hs y (by simp [Op.operands])
    simp only [vop] at hv ⊢
    rw [h1, h2']
    split at hv
    · rename_i hy
      rw [if_pos hy]
      split at hv
      · rename_i hn
        simp only [Option.map_eq_some_iff, Prod.mk.injEq] at hv
        obtain ⟨v', h1, rfl, rfl⟩ := hv
        exact ⟨none, rfl, by first | rfl | (simp only [hn, h1]; rfl), fun i e hi => by cases hi⟩
      · cases hv
    · rename_i hy
      rw [if_neg hy]
      simp only [Option.map_eq_some_iff, Prod.mk.injEq] at hv
      obtain ⟨v', h1, rfl, rfl⟩ := hv
      exact ⟨none, rfl, by first | rfl | (simp only [h1]; rfl), fun i e hi => by cases hi⟩
  | unOp op t x =>
    have h1 := hs x (by simp [Op.operands])
    simp only [vop] at hv ⊢
    rw [h1]
    split at hv <;> simp only [Option.some.injEq, Prod.mk.injEq, reduceCtorEq] at hv
    all_goals (obtain ⟨rfl, rfl⟩ := hv; exact ⟨none, rfl, by first | rfl | (simp only [*]; rfl), fun i e hi => by cases hi⟩)
  | convert s t x =>
    have h1 := hs x (by simp [Op.operands])
    simp only [vop] at hv ⊢
    rw [h1]
    split at hv
    · split at hv
      · simp only [Option.some.injEq, Prod.mk.injEq] at hv; obtain ⟨rfl, rfl⟩ := hv
        exact ⟨none, rfl, by simp only [*]; simp [apd, *], fun i e hi => by cases hi⟩
      · cases hv
    · cases hv
  | makeFunc fn first cap =>
    have h1 : evL ρ2 first.toList = evL ρ first.toList := evL_congr fun y hy => hs y (by simp [Op.operands]; exact .inl (by simpa using hy))
    have h2' : evL ρ2 cap.toList = evL ρ cap.toList := evL_congr fun y hy => hs y (by simp [Op.operands]; exact .inr (by simpa using hy))
    simp only [vop] at hv ⊢
    rw [h1, h2']
    split at hv
    · simp only [Option.some.injEq, Prod.mk.injEq] at hv; obtain ⟨rfl, rfl⟩ := hv
      exact ⟨none, rfl, rfl, fun i e hi => by cases hi⟩
    · cases hv
  | fieldAddr t x f =>
    have h1 := hs x (by simp [Op.operands])
    simp only [vop] at hv ⊢
    rw [h1]
    split at hv
    case isFalse => cases hv
    rename_i hk
    rw [if_pos hk]
    split at hv
    case h_2 => cases hv
    rename_i hf
    split at hv
    case isTrue => cases hv
    rename_i h0
    simp only [hf, if_neg h0]
    split at hv <;> simp only [Option.some.injEq, Prod.mk.injEq, reduceCtorEq] at hv
    all_goals (obtain ⟨rfl, rfl⟩ := hv; exact ⟨none, rfl, by first | rfl | (simp only [*]; rfl), fun i e hi => by cases hi⟩)
  | field t x f =>
    have h1 := hs x (by simp [Op.operands])
    simp only [vop] at hv ⊢
    rw [h1]
    split at hv
    case isFalse => cases hv
    rename_i hk
    rw [if_pos hk]
    split at hv
    case h_2 => cases hv
    rename_i off sz ag cs hf hx
    try simp only [hf, hx]
    split at hv
    · rename_i hag
      rw [if_pos hag]
      split at hv
      · rename_i hl
        simp only [Option.some.injEq, Prod.mk.injEq] at hv; obtain ⟨rfl, rfl⟩ := hv
        exact ⟨none, rfl, by rw [if_pos hl]; rfl, fun i e hi => by cases hi⟩
      · cases hv
    · rename_i hag
      rw [if_neg hag]
      split at hv
      · rename_i hl
        simp only [Option.some.injEq, Prod.mk.injEq] at hv; obtain ⟨rfl, rfl⟩ := hv
        exact ⟨none, rfl, by first | rfl | (simp only [hl]; rfl), fun i e hi => by cases hi⟩
      · cases hv
  | index t x i =>
    have h1 := hs x (by simp [Op.operands])
    have h2' := hs i (by simp [Op.operands])
    simp only [vop] at hv ⊢
    rw [h1, h2']
    split at hv
    case h_2 => cases hv
    rename_i k n hi
    try simp only [hi]
    split at hv
    case h_2 => cases hv
    rename_i cs hx
    try simp only [hx]
    split at hv
    case isFalse => cases hv
    rename_i hc
    rw [if_pos hc]
    simp only [Option.map_eq_some_iff, Prod.mk.injEq] at hv
    obtain ⟨v', h3, rfl, rfl⟩ := hv
    exact ⟨none, rfl, by rw [h3]; rfl, fun i e hi => by cases hi⟩
  | indexAddr t x i =>
    have h1 := hs x (by simp [Op.operands])
    have h2' := hs i (by simp [Op.operands])
    simp only [vop] at hv ⊢
    rw [h1, h2']
    split at hv
    case h_2 => cases hv
    rename_i k n hi
    try simp only [hi]
    split at hv
    case h_5 => cases hv
    all_goals (
      rename_i hk hx
      try simp only [hk, hx]
      split at hv
      case isFalse => cases hv
      rename_i hc
      rw [if_pos hc]
      simp only [Option.some.injEq, Prod.mk.injEq] at hv
      obtain ⟨rfl, rfl⟩ := hv
      exact ⟨none, rfl, rfl, fun i e hi => by cases hi⟩)
  | extract x i =>
    have h1 := hs x (by simp [Op.operands])
    simp only [vop] at hv ⊢
    rw [h1]
    split at hv
    · rename_i hx
      split at hv
      · rename_i hc
        simp only [Option.some.injEq, Prod.mk.injEq] at hv; obtain ⟨rfl, rfl⟩ := hv
        exact ⟨none, rfl, by first | rfl | (simp only [hx, hc]; rfl), fun i e hi => by cases hi⟩
      · cases hv
    · cases hv
  | lookup t x ix ok =>
    have h1 := hs x (by simp [Op.operands])
    have h2' := hs ix (by simp [Op.operands])
    cases ok with
    | false => simp [vop] at hv
    | true =>
      simp only [vop] at hv ⊢
      rw [h1, h2']
      split at hv
      case h_2 => cases hv
      rename_i i hx
      try simp only [hx]
      rw [hh i (by simp [vids, hx, V.mids])]
      simp only [Option.map_eq_some_iff, Prod.mk.injEq] at hv
      obtain ⟨v', hv', rfl, rfl⟩ := hv
      exact ⟨none, rfl, by simp [hv', apd], fun i e hi => by cases hi⟩
  | mapUpdate t m k x =>
    have h1 := hs m (by simp [Op.operands])
    have h2' := hs k (by simp [Op.operands])
    have h3' := hs x (by simp [Op.operands])
    simp only [vop] at hv ⊢
    rw [h1, h2', h3']
    split at hv
    case h_2 => cases hv
    rename_i i hx
    try simp only [hx]
    rw [hh i (by simp [vids, hx, V.mids])]
    simp only [Option.map_eq_some_iff, Prod.mk.injEq] at hv
    obtain ⟨v', hv', rfl, rfl⟩ := hv
    exact ⟨some (i, v'), rfl, by simp [hv', apd], fun j e hi => by injection hi with hi; injection hi with a1 _; subst a1; exact ⟨by simp [vids, hx, V.mids], rfl⟩⟩
  | _ => simp [vop] at hv
end
end Go.Vm
