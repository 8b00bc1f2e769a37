import Derived.Test.YtjppikcigeiomaaGreatVm5
set_option linter.unusedVariables false
set_option linter.unusedSimpArgs false
namespace Go.Vm
section
variable {P : Program} {tt : Tab} {fz : Nat → Bool} {orc : Option Bool} {g : Gh} {h h' : Heap} {w : World} {N : Nat} {ρ : Env} {T : Array Value} {v : V} {dst : Option Nat} {ty : TypeId} {pos : String} {after : Array Edge} {gd : Option (Nat × Bool)}

theorem op_move (H : HRel g h w) (E : ER g N ρ T) (x : Operand) : OpPost P g h w T ⟨dst, .move x, ty, pos, after, gd⟩ (ev ρ x) h :=
  post_pure H rfl (ev_ok E x)
theorem op_assign (H : HRel g h w) (E : ER g N ρ T) (x : Operand) : OpPost P g h w T ⟨dst, .assign x, ty, pos, after, gd⟩ (ev ρ x) h :=
  post_pure H rfl (ev_ok E x)
theorem op_pick (H : HRel g h w) (E : ER g N ρ T) {c a b : Operand} {t : Bool} (hc : ev ρ c = .bool t) :
    OpPost P g h w T ⟨dst, .pick c a b, ty, pos, after, gd⟩ (if t then ev ρ a else ev ρ b) h := by
  have h1 := ev_ok E c
  rw [hc] at h1; simp only [VR] at h1
  refine post_pure (vc := if t then evT T a else evT T b) H ?_ ?_
  · simp [execOp, h1, asBool]
  · cases t
    · exact ev_ok E b
    · exact ev_ok E a

theorem newRow_ok (H : HRel g h w) {fzd : Bool} {i : Nat} {cs : List V} {el : TypeId} {c : Array Value} (hc : VRL g cs c.toList) (hn : newRow fzd h i cs = some (v, h')) :
    ∃ g', VR g' v (.pointer (some ⟨w.heap.size, 0, none⟩)) ∧ g.le g' ∧ HRel g' h' (w.alloc (.cells c el)) ∧ Tr g h w g' h' (w.alloc (.cells c el)) := by
  unfold newRow at hn
  cases fzd with
  | true =>
    simp only [if_true, Option.some.injEq, Prod.mk.injEq] at hn
    obtain ⟨rfl, rfl⟩ := hn
    obtain ⟨g', h1, h2, h3, h4⟩ := new_ro H c el hc
    exact ⟨g', by simp only [VR]; exact ⟨_, _, rfl, h2⟩, h1, h3, h4⟩
  | false =>
    simp only [Bool.false_eq_true, if_false] at hn
    split at hn
    · rename_i hi
      split at hn
      · simp only [Option.some.injEq, Prod.mk.injEq] at hn
        obtain ⟨rfl, rfl⟩ := hn
        obtain ⟨g', h1, h2, h3, h4⟩ := new_own H hi (.cells c el) c.size (.row cs) (fun g' hle _ => by
          simp only [BR]
          exact ⟨c, el, heap_alloc_new, rfl, c.toList, [], by simp, hc.le hle⟩)
        exact ⟨g', by simp only [VR]; exact ⟨_, _, rfl, h2⟩, h1, h3, h4⟩
      · cases hn
    · cases hn

theorem op_box (H : HRel g h w) (E : ER g N ρ T) {d t : Nat} {x : Operand} {cs : List V} (hx : (ev ρ x).cells? = some cs) (hn : newRow (fz d) h d cs = some (v, h')) :
    OpPost P g h w T ⟨dst, .box t x, ty, pos, after, gd⟩ v h' := by
  have hc := cells?_ok (ev_ok E x) hx
  obtain ⟨g', h1, h2, h3, h4⟩ := newRow_ok (el := t) H hc hn
  exact ⟨.value (.pointer (some ⟨w.heap.size, 0, none⟩)), _, g', _, rfl, rfl, h1, h2, h3, h4⟩
theorem op_alloc (H : HRel g h w) (K : TabOk P tt) {d t : Nat} (ht : (tt t).kind ≠ 0) (hn : newRow false h d (tt t).zero = some (v, h')) :
    OpPost P g h w T ⟨dst, .alloc t, ty, pos, after, gd⟩ v h' := by
  obtain ⟨z, hz, hzv⟩ := run_zeroValue (K t ht) w
  obtain ⟨g', h1, h2, h3, h4⟩ := newRow_ok (el := t) H (hzv g) hn
  refine ⟨.value (.pointer (some ⟨w.heap.size, 0, none⟩)), _, g', _, ?_, rfl, h1, h2, h3, h4⟩
  simp [execOp, Instr.alloc, hz, newVar, Go.newRow]
theorem op_load (H : HRel g h w) (E : ER g N ρ T) (K : TabOk P tt) {t : Nat} {a : Operand} (ht : (tt t).kind ≠ 0)
    (hv : ∃ cs, vload (tt t) cs = some v ∧ ((ev ρ a = .rop cs) ∨ ∃ i ver off ds, ev ρ a = .ptr i ver off ∧ h.get i = some ⟨ver, .row ds⟩ ∧ cs = ds.drop off)) :
    OpPost P g h w T ⟨dst, .load t a, ty, pos, after, gd⟩ v h := by
  have ha := ev_ok E a
  obtain ⟨cs, hv, hh⟩ := hv
  have key : ∃ B o, evT T a = .pointer (some ⟨B, o, none⟩) ∧ CellsAt g w B o cs := by
    rcases hh with hh | ⟨i, ver, off, ds, hh, hi, rfl⟩
    · rw [hh] at ha; simp only [VR] at ha
      obtain ⟨B, o, e, hc⟩ := ha
      exact ⟨B, o, e, CellsAt.ro H hc⟩
    · rw [hh] at ha; simp only [VR] at ha
      obtain ⟨B, c, e, hm⟩ := ha
      obtain ⟨x, h1, h2⟩ := H.own i _ hi
      rw [hm] at h1; injection h1 with h1; subst h1
      exact ⟨B, off, e, CellsAt.own (i := i) h2 off⟩
  obtain ⟨B, o, e, hc⟩ := key
  obtain ⟨vc, h1, h2⟩ := loadVar_ok (K t ht) hc hv
  refine post_pure H ?_ h2
  simp [execOp, Instr.loadAt, e, Instr.sureAddr, h1]
theorem op_store (H : HRel g h w) (E : ER g N ρ T) (K : TabOk P tt) {t : Nat} {a x : Operand} {i ver off : Nat} {vs cs : List V} (ht : (tt t).kind ≠ 0)
    (ha : ev ρ a = .ptr i ver off) (hx : (ev ρ x).cells? = some vs) (hi : h.get i = some ⟨ver, .row cs⟩) (hs : vs.length = (tt t).size) (hl : off + vs.length ≤ cs.length) (h1 : oneL vs = true) :
    OpPost P g h w T ⟨dst, .store t a x, ty, pos, after, gd⟩ .und (h.set i ⟨ver, .row (cs.take off ++ vs ++ cs.drop (off + vs.length))⟩) := by
  have e1 := ev_ok E a
  rw [ha] at e1; simp only [VR] at e1
  obtain ⟨B, c, e1, hm⟩ := e1
  have hc := cells?_ok (ev_ok E x) hx
  obtain ⟨y, hy, hb⟩ := H.own i _ hi
  rw [hm] at hy; injection hy with hy; subst hy
  simp only [BR] at hb
  obtain ⟨c0, el, hw, hcs, pre, post, hpre, hrel⟩ := hb
  have hlen := hc.length
  have hplen := hrel.length
  have hc0 : c0.toList.length = pre.length + post.length := by rw [hpre]; simp
  have hst := run_storeCells_at P B off el (evT T x).cells.toList 0 c0 w hw (by simp at hc0 hlen ⊢; omega) (oneL_ok hc h1)
  simp only [Nat.add_zero] at hst
  refine ⟨.skip, undef, g, w.setRow B (List.take off c0.toList ++ (evT T x).cells.toList ++ List.drop (off + (evT T x).cells.toList.length) c0.toList).toArray, ?_, rfl, by simp [VR], Gh.le.refl g, ?_⟩
  · simp only [execOp, Instr.storeAt, e1, Instr.sureAddr, storeVar, Sem.run_bind, Sem.run_pure, Result.andThen_ok, run_sizeOf (K t ht), Sem.run_ite]
    rw [if_neg (by simp at hlen; simp [hlen, hs])]
    simp only [Sem.run_pure, Result.andThen_ok, hst]
  · have hb' : BR g (w.setRow B (List.take off c0.toList ++ (evT T x).cells.toList ++ List.drop (off + (evT T x).cells.toList.length) c0.toList).toArray) (.blk B c) (.row (cs.take off ++ vs ++ cs.drop (off + vs.length))) := by
      simp only [BR]
      refine ⟨_, el, setRow_heap w B c0 _ el _ hw, ?_, pre.take off ++ (evT T x).cells.toList ++ pre.drop (off + vs.length), post, ?_, ?_⟩
      · have : off + vs.length ≤ c0.size := by simp at hc0; omega
        simp at hlen hc0 ⊢
        omega
      · rw [hpre, hlen]
        simp only [List.append_assoc]
        rw [List.take_append_of_le_length (by omega), List.drop_append_of_le_length (by omega)]
      · exact VRL.append (VRL.append (hrel.take off) hc) (hrel.drop _)
    exact set_own (e := ⟨ver, .row cs⟩) H hi hm (w.setRow B (List.take off c0.toList ++ (evT T x).cells.toList ++ List.drop (off + (evT T x).cells.toList.length) c0.toList).toArray) rfl rfl rfl (by simp [World.setRow]) (fun k hk => by simp only [World.setRow, Array.getElem?_modify]; rw [if_neg (Ne.symm hk)]) _ hb'
end
end Go.Vm
