import Derived.Test.YtjppikcigeiomaaGreatVm11
set_option linter.unusedVariables false
set_option linter.unusedSimpArgs false
namespace Go.Vm
section
variable {P : Program} {tt : Tab} {fz : Nat → Bool} {orc : Option Bool} {g : Gh} {h h' : Heap} {w : World} {N : Nat} {ρ : Env} {T : Array Value} {v : V} {dst : Option Nat} {ty : TypeId} {pos : String} {after : Array Edge} {gd : Option (Nat × Bool)}

theorem isNilConst_ok {y : Operand} (h : isNilConst y = true) : y = .const (.slice none 0 0) := by
  unfold isNilConst at h
  split at h
  · rfl
  · cases h
theorem vlen_slice {c : V} {n : Int} {x : Value} (hv : VR g c x) (hn : vlen c = some n) : ∃ a m cap, x = .slice a m cap := by
  cases c <;> simp only [vlen, reduceCtorEq] at hn <;> simp only [VR] at hv
  · obtain ⟨a, e⟩ := hv; exact ⟨a, 0, 0, e⟩
  · obtain ⟨a, cap, e, _⟩ := hv; exact ⟨a, _, cap, e⟩
  · obtain ⟨a, cap, e, _⟩ := hv; exact ⟨a, _, cap, e⟩

theorem op_binOp (H : HRel g h w) (E : ER g N ρ T) (K : TabOk P tt) {op : BinOp} {t u : Nat} {x y : Operand} (hv : vbin tt op t (ev ρ x) (ev ρ y) = some v) : OpPost P g h w T ⟨dst, .binOp op t x y u, ty, pos, after, gd⟩ v h := by
  unfold vbin at hv
  split at hv
  case h_4 => cases hv
  case h_1 k a k' b hx hy => exact op_int H E hx hy hv
  case h_2 a b hx hy =>
    split at hv
    case isFalse => cases hv
    rename_i hk
    cases op <;> simp only [reduceCtorEq, Option.some.injEq] at hv
    · exact op_boolEq H E K hx hy hk (.inl ⟨rfl, hv.symm⟩)
    · exact op_boolEq H E K hx hy hk (.inr ⟨rfl, hv.symm⟩)
  case h_3 xs ys hx hy =>
    split at hv
    case isFalse => cases hv
    rename_i hi
    split at hv
    case h_2 => cases hv
    rename_i a b ha hb
    split at hv
    case isFalse => cases hv
    rename_i hl
    obtain ⟨hk, hl1, hl2⟩ := hl
    cases op <;> simp only [reduceCtorEq, Option.some.injEq] at hv
    · exact op_aggEq H E K hx hy hk hi ha hb hl1 hl2 (.inl ⟨rfl, hv.symm⟩)
    · exact op_aggEq H E K hx hy hk hi ha hb hl1 hl2 (.inr ⟨rfl, hv.symm⟩)
/-- x == nil: there is an answer with which the evaluator is right. -/
theorem op_nil (H : HRel g h w) (E : ER g N ρ T) (K : TabOk P tt) {op : BinOp} {t u : Nat} {x y : Operand} (hy : isNilConst y = true) {n : Int} (hn : vlen (ev ρ x) = some n) :
    ∃ q : Bool, ∀ orc v, (orc = some q ∨ orc = none) → vnil tt orc op t (ev ρ x) = some v → OpPost P g h w T ⟨dst, .binOp op t x y u, ty, pos, after, gd⟩ v h := by
  obtain rfl := isNilConst_ok hy
  by_cases hk : (tt t).kind = 3
  case neg => exact ⟨true, fun orc v _ hv => by unfold vnil at hv; rw [if_neg hk] at hv; cases hv⟩
  by_cases hop : op = .eql ∨ op = .neq
  case neg =>
    refine ⟨true, fun orc v _ hv => ?_⟩
    unfold vnil at hv; rw [if_pos hk] at hv
    split at hv
    · cases op <;> simp_all
    · cases hv
  obtain ⟨q, hq⟩ := op_nilEq (P := P) (dst := dst) (ty := ty) (pos := pos) (after := after) (gd := gd) (u := u) H E K hk (vlen_slice (ev_ok E x) hn) hop
  refine ⟨q, fun orc v ho hv => ?_⟩
  unfold vnil at hv; rw [if_pos hk] at hv
  split at hv
  case h_2 => cases hv
  rename_i b hb
  have hbq : b = (isNilSlice (ev ρ x)).getD q := by
    cases hi : isNilSlice (ev ρ x) with
    | some z => rw [hi] at hb; simp only [Option.some.injEq] at hb; rw [Option.getD_some]; exact hb.symm
    | none =>
      rw [hi] at hb; simp only at hb
      rcases ho with rfl | rfl
      · injection hb with hb; rw [Option.getD_none]; exact hb.symm
      · cases hb
  have := hq b hbq
  rcases hop with rfl | rfl
  · simp only [Option.some.injEq] at hv; subst hv; simpa using this
  · simp only [Option.some.injEq] at hv; subst hv; simpa using this

def isOrc (op : Op) : Bool :=
  match op with
  | .binOp _ _ _ y _ => isNilConst y
  | _ => false

theorem vop_ok (H : HRel g h w) (E : ER g N ρ T) (K : TabOk P tt) {op : Op} (ho : isOrc op = true → orc = none) (hv : vop tt fz orc ρ h dst op = some (v, h')) : OpPost P g h w T ⟨dst, op, ty, pos, after, gd⟩ v h' := by
  cases op with
  | move x => simp only [vop, Option.some.injEq, Prod.mk.injEq] at hv; obtain ⟨rfl, rfl⟩ := hv; exact op_move H E x
  | assign x => simp only [vop, Option.some.injEq, Prod.mk.injEq] at hv; obtain ⟨rfl, rfl⟩ := hv; exact op_assign H E x
  | pick c a b =>
    simp only [vop] at hv
    split at hv
    · rename_i t hc
      simp only [Option.some.injEq, Prod.mk.injEq] at hv; obtain ⟨rfl, rfl⟩ := hv
      exact op_pick H E hc
    · cases hv
  | alloc t =>
    simp only [vop] at hv
    split at hv
    · split at hv
      · cases hv
      · exact op_alloc H K ‹_› hv
    · cases hv
  | box t x =>
    simp only [vop] at hv
    split at hv
    · exact op_box H E ‹_› hv
    · cases hv
  | build t ps =>
    simp only [vop] at hv
    split at hv
    · rename_i hk
      split at hv
      · simp only [Option.some.injEq, Prod.mk.injEq] at hv; obtain ⟨rfl, rfl⟩ := hv
        exact op_build5 H E K hk ‹_›
      · cases hv
    · rename_i hk
      split at hv
      · simp only [Option.some.injEq, Prod.mk.injEq] at hv; obtain ⟨rfl, rfl⟩ := hv
        exact op_build4 H E K hk ‹_›
      · cases hv
    · cases hv
  | buildSlice t len ps =>
    simp only [vop] at hv
    split at hv
    case h_2 => cases hv
    rename_i d
    split at hv
    case isFalse => cases hv
    rename_i hk
    split at hv
    case h_2 => cases hv
    rename_i cs hcs
    split at hv
    · simp only [Option.some.injEq, Prod.mk.injEq] at hv; obtain ⟨rfl, rfl⟩ := hv
      exact op_buildSlice (d := d) H E K hk.1 hk.2 hcs (.inl ⟨‹_›, rfl, rfl⟩)
    · split at hv
      · simp only [Option.some.injEq, Prod.mk.injEq] at hv; obtain ⟨rfl, rfl⟩ := hv
        exact op_buildSlice (d := d) H E K hk.1 hk.2 hcs (.inr (.inl ⟨rfl, rfl⟩))
      · split at hv
        case h_2 => cases hv
        rename_i hd
        split at hv
        case isFalse => cases hv
        rename_i hc
        simp only [Option.some.injEq, Prod.mk.injEq] at hv; obtain ⟨rfl, rfl⟩ := hv
        exact op_buildSlice (d := d) H E K hk.1 hk.2 hcs (.inr (.inr ⟨hd, hc.2, rfl, rfl⟩))
  | load t a =>
    simp only [vop] at hv
    split at hv
    case isTrue => cases hv
    rename_i hk
    split at hv
    · rename_i cs ha
      simp only [Option.map_eq_some_iff, Prod.mk.injEq] at hv
      obtain ⟨v', h1, rfl, rfl⟩ := hv
      exact op_load H E K hk ⟨cs, h1, .inl ha⟩
    · rename_i i ver off ha
      split at hv
      case h_2 => cases hv
      rename_i v' cs hi
      split at hv
      case isFalse => cases hv
      rename_i hve
      subst hve
      simp only [Option.map_eq_some_iff, Prod.mk.injEq] at hv
      obtain ⟨v', h1, rfl, rfl⟩ := hv
      exact op_load H E K hk ⟨_, h1, .inr ⟨i, ver, off, cs, ha, hi, rfl⟩⟩
    · cases hv
  | store t a x =>
    simp only [vop] at hv
    split at hv
    case isTrue => cases hv
    rename_i hk
    split at hv
    case h_2 => cases hv
    rename_i i ver off vs ha hx
    split at hv
    case h_2 => cases hv
    rename_i v' cs hi
    split at hv
    case isFalse => cases hv
    rename_i hc
    obtain ⟨rfl, h1, h2, h3⟩ := hc
    simp only [Option.some.injEq, Prod.mk.injEq] at hv; obtain ⟨rfl, rfl⟩ := hv
    exact op_store H E K hk ha hx hi h1 h2 h3
  | lookup t x ix ok =>
    cases ok with
    | false => simp [vop] at hv
    | true =>
      simp only [vop] at hv
      split at hv
      case h_2 => cases hv
      rename_i i hx
      simp only [Option.map_eq_some_iff, Prod.mk.injEq] at hv
      obtain ⟨v', hv', rfl, rfl⟩ := hv
      exact op_lookup H E K hx hv'
  | mapUpdate t m k x =>
    simp only [vop] at hv
    split at hv
    case h_2 => cases hv
    rename_i i hx
    simp only [Option.map_eq_some_iff, Prod.mk.injEq] at hv
    obtain ⟨v', hv', rfl, rfl⟩ := hv
    exact op_mapUpdate H E K hx hv'
  | nilCheck x =>
    simp only [vop] at hv
    split at hv
    · rename_i hx
      simp only [Option.some.injEq, Prod.mk.injEq] at hv; obtain ⟨rfl, rfl⟩ := hv
      exact op_nilCheck H E hx (.inl ⟨_, _, _, rfl⟩)
    · rename_i hx
      simp only [Option.some.injEq, Prod.mk.injEq] at hv; obtain ⟨rfl, rfl⟩ := hv
      exact op_nilCheck H E hx (.inr (.inl ⟨_, rfl⟩))
    · rename_i hx
      simp only [Option.some.injEq, Prod.mk.injEq] at hv; obtain ⟨rfl, rfl⟩ := hv
      exact op_nilCheck H E hx (.inr (.inr ⟨_, _, _, rfl⟩))
    · cases hv
  | binOp op t x y u =>
    simp only [vop] at hv
    split at hv
    · rename_i hy
      split at hv
      case h_2 => cases hv
      rename_i n hn
      simp only [Option.map_eq_some_iff, Prod.mk.injEq] at hv
      obtain ⟨v', h1, rfl, rfl⟩ := hv
      obtain ⟨q, hq⟩ := op_nil (P := P) (tt := tt) (dst := dst) (ty := ty) (pos := pos) (after := after) (gd := gd) (op := op) (t := t) (u := u) H E K hy hn
      exact hq orc v' (.inr (ho (by simpa [isOrc] using hy))) h1
    · simp only [Option.map_eq_some_iff, Prod.mk.injEq] at hv
      obtain ⟨v', h1, rfl, rfl⟩ := hv
      exact op_binOp H E K h1
  | unOp op t x =>
    simp only [vop] at hv
    split at hv
    · rename_i hx
      simp only [Option.some.injEq, Prod.mk.injEq] at hv; obtain ⟨rfl, rfl⟩ := hv
      exact op_not H E hx
    · rename_i hx
      simp only [Option.some.injEq, Prod.mk.injEq] at hv; obtain ⟨rfl, rfl⟩ := hv
      exact op_neg H E hx
    · cases hv
  | convert s d x =>
    simp only [vop] at hv
    split at hv
    · rename_i hx
      split at hv
      · rename_i hk
        simp only [Option.some.injEq, Prod.mk.injEq] at hv; obtain ⟨rfl, rfl⟩ := hv
        exact op_convert H E K hx hk.1 hk.2
      · cases hv
    · cases hv
  | makeFunc fn first cap =>
    simp only [vop] at hv
    split at hv
    · simp only [Option.some.injEq, Prod.mk.injEq] at hv; obtain ⟨rfl, rfl⟩ := hv
      exact op_makeFunc H E
    · cases hv
  | makeSlice t l c =>
    simp only [vop] at hv
    split at hv
    case h_2 => cases hv
    rename_i d n m hl hc
    split at hv
    case isFalse => cases hv
    rename_i hcond
    obtain ⟨rfl, h0, h1, hk, hb, hs, ho1⟩ := hcond
    split at hv
    · simp only [Option.some.injEq, Prod.mk.injEq] at hv; obtain ⟨rfl, rfl⟩ := hv
      exact op_makeSlice H E K hl hc h0 h1 hk hb hs ho1 ‹_›
    · cases hv
  | slice t x lo hi mx =>
    simp only [vop, Option.map_eq_some_iff, Prod.mk.injEq] at hv
    obtain ⟨v', h1, rfl, rfl⟩ := hv
    exact op_slice H E K h1
  | fieldAddr t x f =>
    simp only [vop] at hv
    split at hv
    case isFalse => cases hv
    rename_i hk
    split at hv
    case h_2 => cases hv
    rename_i off sz ag hf
    split at hv
    case isTrue => cases hv
    rename_i hs
    split at hv
    · rename_i cs hx
      simp only [Option.some.injEq, Prod.mk.injEq] at hv; obtain ⟨rfl, rfl⟩ := hv
      exact op_fieldAddr H E K hk hf hs (.inl ⟨cs, hx, rfl⟩)
    · rename_i i ver o hx
      simp only [Option.some.injEq, Prod.mk.injEq] at hv; obtain ⟨rfl, rfl⟩ := hv
      exact op_fieldAddr H E K hk hf hs (.inr ⟨i, ver, o, hx, rfl⟩)
    · cases hv
  | field t x f =>
    simp only [vop] at hv
    split at hv
    case isFalse => cases hv
    rename_i hk
    split at hv
    case h_2 => cases hv
    rename_i off sz ag cs hf hx
    cases ag with
    | true =>
      simp only [if_true] at hv
      split at hv
      · simp only [Option.some.injEq, Prod.mk.injEq] at hv; obtain ⟨rfl, rfl⟩ := hv
        exact op_field H E K hk hf hx (by simpa using ‹_›)
      · cases hv
    | false =>
      simp only [Bool.false_eq_true, if_false] at hv
      split at hv
      · simp only [Option.some.injEq, Prod.mk.injEq] at hv; obtain ⟨rfl, rfl⟩ := hv
        exact op_field H E K hk hf hx (by simpa using ‹_›)
      · cases hv
  | index t x i =>
    simp only [vop] at hv
    split at hv
    case h_2 => cases hv
    rename_i k n hi
    split at hv
    case h_2 => cases hv
    rename_i cs hx
    split at hv
    case isFalse => cases hv
    rename_i hc
    simp only [Option.map_eq_some_iff, Prod.mk.injEq] at hv
    obtain ⟨v', h1, rfl, rfl⟩ := hv
    exact op_index H E K hi hx hc.1.1 hc.1.2 hc.2 h1
  | indexAddr t x i =>
    simp only [vop] at hv
    split at hv
    case h_2 => cases hv
    rename_i k n hi
    split at hv
    case h_5 => cases hv
    all_goals (
      rename_i hk hx
      split at hv
      case isFalse => cases hv
      rename_i hc
      simp only [Option.some.injEq, Prod.mk.injEq] at hv)
    · obtain ⟨rfl, rfl⟩ := hv; exact op_indexAddr H E K hi hc.1 (.inl ⟨hk, hc.2, .inl ⟨_, hx, rfl⟩⟩)
    · obtain ⟨rfl, rfl⟩ := hv; exact op_indexAddr H E K hi hc.1 (.inl ⟨hk, hc.2, .inr ⟨_, _, _, hx, rfl⟩⟩)
    · obtain ⟨rfl, rfl⟩ := hv; exact op_indexAddr H E K hi hc.1 (.inr ⟨hk, _, hc.2, .inl ⟨_, hx, rfl⟩⟩)
    · obtain ⟨rfl, rfl⟩ := hv
      obtain ⟨c1, c2, c3⟩ := hc
      subst c3
      exact op_indexAddr H E K hi c1 (.inr ⟨hk, _, c2, .inr ⟨_, _, _, hx, rfl⟩⟩)
  | extract x i =>
    simp only [vop] at hv
    split at hv
    · rename_i hx
      split at hv
      · rename_i hc
        simp only [Option.some.injEq, Prod.mk.injEq] at hv; obtain ⟨rfl, rfl⟩ := hv
        exact op_extract H E hx hc
      · cases hv
    · cases hv
  | makeMap t r =>
    cases r with
    | some _ => simp [vop] at hv
    | none =>
      simp only [vop] at hv
      split at hv
      · split at hv
        · simp only [Option.some.injEq, Prod.mk.injEq] at hv; obtain ⟨rfl, rfl⟩ := hv
          exact op_makeMap H ‹_›
        · cases hv
      · cases hv
  | call c =>
    obtain ⟨callee, args, ats⟩ := c
    cases callee with
    | value f => simp [vop] at hv
    | invoke r m => simp [vop] at hv
    | builtin b =>
      simp only [vop] at hv
      split at hv
      · rename_i x t ha hb
        split at hv
        · rename_i hk
          split at hv
          · simp only [Option.some.injEq, Prod.mk.injEq] at hv; obtain ⟨rfl, rfl⟩ := hv
            exact op_len H E K ha hb hk ‹_›
          · cases hv
        · cases hv
      · rename_i x y _ ha
        split at hv
        · simp only [Option.some.injEq, Prod.mk.injEq] at hv; obtain ⟨rfl, rfl⟩ := hv
          exact op_min H E ha ‹_› ‹_›
        · cases hv
      · rename_i x y z _ ha
        split at hv
        · simp only [Option.some.injEq, Prod.mk.injEq] at hv; obtain ⟨rfl, rfl⟩ := hv
          exact op_min3 H E ha ‹_› ‹_› ‹_›
        · cases hv
      · rename_i x y _ ha
        split at hv
        · simp only [Option.some.injEq, Prod.mk.injEq] at hv; obtain ⟨rfl, rfl⟩ := hv
          exact op_max H E ha ‹_› ‹_›
        · cases hv
      · rename_i x y t u ha hb
        split at hv
        · split at hv
          · exact op_append H E K ha hb ‹_› hv
          · cases hv
        · cases hv
      · rename_i x y t r ha hb
        exact op_copy H E K ha ⟨_, hb⟩ hv
      · cases hv
  | _ => simp [vop] at hv
end
end Go.Vm
