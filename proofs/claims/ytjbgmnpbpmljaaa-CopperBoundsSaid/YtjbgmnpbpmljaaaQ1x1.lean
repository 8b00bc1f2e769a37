import Derived.Test.YtjbgmnpbpmljaaaB3
import Derived.Test.YtjbgmnpbpmljaaaRows
import Derived.WalkKit
import Derived.ProofKit
import Derived.OpenShut
import Derived.ShutString
import Derived.ChangeOld
import Derived.Below
set_option linter.unusedVariables false
set_option linter.unusedSimpArgs false
set_option maxRecDepth 100000
namespace Go.Vm
open Go.Proofs Go.ChangeShapes Go.WideShapes Go.ChangeAt Go.RowKit
/-! ### from a contract to the row -/
theorem hrel0 (w : World) : HRel (gh0 w) [] w :=
  ⟨fun B o v e => e, fun i e he => (by cases he), fun i j e e' B c c' he => (by cases he), fun i e B c o he => (by cases he), fun i v h => absurd rfl h⟩
theorem calls_of_fn {P : Program} {f : FuncId} {vs : List V} {xs : List Value} {w : World} (c : Fn P f vs [] fun v h' => v = .bool true) (hv : VRL (gh0 w) vs xs) :
    Calls P f xs.toArray w fun e w' => e = .returned (.bool true) ∧ Below w.heap.size w w' := fun cs => by
  obtain ⟨v, h', vc, g', w', fr, rfl, st, hf, hl, hvc, H', t, le⟩ := c (gh0 w) w xs hv (hrel0 w) cs
  simp only [VR] at hvc
  subst hvc
  exact ⟨.returned (.bool true), w', fr, ⟨rfl, t.os, t.tape, t.output, t.size, fun k hk => t.mods k hk (by rintro ⟨i, e, c, he, _⟩; cases he)⟩, st, hf, hl⟩
section
variable {H : Type} {enc : TypeId × Value → H} {P : Program} {w : World} {base : Nat} {spare : Nat → Bool} {held : Bool} {fuel : Nat} {t : TypeId} {cs : List Value} {x : DataW H × List MemPlace}
end
section
variable {H : Type} {enc : TypeId × Value → H} {w : World} {base : Nat} {spare : Nat → Bool} {held : Bool} {fuel : Nat} {cs : List Value} {x : DataW H × List MemPlace}
theorem rd_rg (h : DataW.trod enc Try.prog w base spare held fuel 24 cs = some x) : ∃ r : Rg, r.ok ∧ VRL (gh0 w) r.cs cs := by
  obtain ⟨xs, n, _, _, hl, hx, hf⟩ := DataW.trod_struct Try.underlying24 h
  have hl2 : cs.length = 2 := hl.trans (by kernel_rfl)
  have hx2 : xs.length = 2 := hx
  have f0 : DataW.trod enc Try.prog w base spare held n 3 ((cs.drop 0).take (Try.prog.cellsOf 3)) = xs[0]? := hf 0 _ rfl
  have f1 : DataW.trod enc Try.prog w base spare held n 3 ((cs.drop 1).take (Try.prog.cellsOf 3)) = xs[1]? := hf 1 _ rfl
  rw [List.getElem?_eq_getElem (by omega)] at f0 f1
  obtain ⟨a, ha, va⟩ := rd_int Try.underlying3 f0
  obtain ⟨b, hb, vb⟩ := rd_int Try.underlying3 f1
  refine ⟨⟨a, b⟩, ⟨ha, hb⟩, ?_⟩
  have hc : Try.prog.cellsOf 3 = 1 := by kernel_rfl
  simp only [hc, List.drop_zero] at va vb
  rw [List.take_of_length_le (by simp; omega)] at vb
  exact VRL_two va vb
theorem rd_rd (h : DataW.trod enc Try.prog w base spare held fuel 96 cs = some x) : ∃ r : Rd, r.ok ∧ VRL (gh0 w) r.cs cs := by
  obtain ⟨xs, n, _, _, hl, hx, hf⟩ := DataW.trod_struct Try.underlying96 h
  have hl2 : cs.length = 3 := hl.trans (by kernel_rfl)
  have hx2 : xs.length = 2 := hx
  have f0 : DataW.trod enc Try.prog w base spare held n 3 ((cs.drop 0).take (Try.prog.cellsOf 3)) = xs[0]? := hf 0 _ rfl
  have f1 : DataW.trod enc Try.prog w base spare held n 24 ((cs.drop 1).take (Try.prog.cellsOf 24)) = xs[1]? := hf 1 _ rfl
  rw [List.getElem?_eq_getElem (by omega)] at f0 f1
  obtain ⟨a, ha, va⟩ := rd_int Try.underlying3 f0
  obtain ⟨b, hb, vb⟩ := rd_rg f1
  refine ⟨⟨a, b⟩, ⟨ha, hb⟩, ?_⟩
  have hc : Try.prog.cellsOf 3 = 1 := by kernel_rfl
  have hc2 : Try.prog.cellsOf 24 = 2 := by kernel_rfl
  simp only [hc, hc2, List.drop_zero] at va vb
  rw [List.take_of_length_le (by simp; omega)] at vb
  exact VRL_two va vb
theorem cR_flat : ∀ l : List Rg, l.flatMap Rg.cs = cR l
  | [] => rfl
  | r :: l => by rw [List.flatMap_cons, cR_flat l]; rfl
theorem cD_flat : ∀ l : List Rd, l.flatMap Rd.cs = cD l
  | [] => rfl
  | r :: l => by rw [List.flatMap_cons, cD_flat l]; rfl
theorem rd_cu (h : DataW.trod enc Try.prog w base spare held fuel 28 cs = some x) : ∃ c : Cu, c.ok ∧ VRL (gh0 w) c.cs cs := by
  obtain ⟨xs, n, _, _, hl, hx, hf⟩ := DataW.trod_struct Try.underlying28 h
  have hl2 : cs.length = 11 := hl.trans (by kernel_rfl)
  have hx2 : xs.length = 10 := hx
  have f0 : DataW.trod enc Try.prog w base spare held n 3 ((cs.drop 0).take (Try.prog.cellsOf 3)) = xs[0]? := hf 0 _ rfl
  have f1 : DataW.trod enc Try.prog w base spare held n 3 ((cs.drop 1).take (Try.prog.cellsOf 3)) = xs[1]? := hf 1 _ rfl
  have f2 : DataW.trod enc Try.prog w base spare held n 3 ((cs.drop 2).take (Try.prog.cellsOf 3)) = xs[2]? := hf 2 _ rfl
  have f3 : DataW.trod enc Try.prog w base spare held n 3 ((cs.drop 3).take (Try.prog.cellsOf 3)) = xs[3]? := hf 3 _ rfl
  have f4 : DataW.trod enc Try.prog w base spare held n 3 ((cs.drop 4).take (Try.prog.cellsOf 3)) = xs[4]? := hf 4 _ rfl
  have f5 : DataW.trod enc Try.prog w base spare held n 22 ((cs.drop 5).take (Try.prog.cellsOf 22)) = xs[5]? := hf 5 _ rfl
  have f6 : DataW.trod enc Try.prog w base spare held n 22 ((cs.drop 6).take (Try.prog.cellsOf 22)) = xs[6]? := hf 6 _ rfl
  have f7 : DataW.trod enc Try.prog w base spare held n 24 ((cs.drop 7).take (Try.prog.cellsOf 24)) = xs[7]? := hf 7 _ rfl
  have f8 : DataW.trod enc Try.prog w base spare held n 25 ((cs.drop 9).take (Try.prog.cellsOf 25)) = xs[8]? := hf 8 _ rfl
  have f9 : DataW.trod enc Try.prog w base spare held n 26 ((cs.drop 10).take (Try.prog.cellsOf 26)) = xs[9]? := hf 9 _ rfl
  rw [List.getElem?_eq_getElem (by omega)] at f0 f1 f2 f3 f4 f5 f6 f7 f8 f9
  have hc : Try.prog.cellsOf 3 = 1 := by kernel_rfl
  have hc2 : Try.prog.cellsOf 24 = 2 := by kernel_rfl
  have hc3 : Try.prog.cellsOf 22 = 1 := by kernel_rfl
  have hc4 : Try.prog.cellsOf 25 = 1 := by kernel_rfl
  have hc5 : Try.prog.cellsOf 26 = 1 := by kernel_rfl
  have hc6 : Try.prog.cellsOf 96 = 3 := by kernel_rfl
  obtain ⟨a0, h0, v0⟩ := rd_int Try.underlying3 f0
  obtain ⟨a1, h1, v1⟩ := rd_int Try.underlying3 f1
  obtain ⟨a2, h2, v2⟩ := rd_int Try.underlying3 f2
  obtain ⟨a3, h3, v3⟩ := rd_int Try.underlying3 f3
  obtain ⟨a4, h4, v4⟩ := rd_int Try.underlying3 f4
  obtain ⟨a5, h5, _, v5⟩ := rd_ints Try.underlying22 Try.underlying3 hc f5
  obtain ⟨a6, h6, _, v6⟩ := rd_ints Try.underlying22 Try.underlying3 hc f6
  obtain ⟨a7, h7, v7⟩ := rd_rg f7
  obtain ⟨a8, h8, _, v8⟩ := rd_slice Rg.cs Rg.ok 2 Try.underlying25 hc2 (by omega) (fun _ => rfl) f8 fun n cs x h => rd_rg h
  obtain ⟨a9, h9, _, v9⟩ := rd_slice Rd.cs Rd.ok 3 Try.underlying26 hc6 (by omega) (fun _ => rfl) f9 fun n cs x h => rd_rd h
  rw [cR_flat] at v8
  rw [cD_flat] at v9
  refine ⟨⟨a0, a1, a2, a3, a4, a5, a6, a7, a8, a9⟩, ⟨h0, h1, h2, h3, h4, h5, h6, h7, h8, h9⟩, ?_⟩
  match cs, hl2 with
  | [c0, c1, c2, c3, c4, c5, c6, c7, c8, c9, c10], _ =>
    simp only [hc, hc2, hc3, hc4, hc5, List.drop_zero, List.drop_succ_cons, List.take_succ_cons, List.take_zero, List.take_nil] at v0 v1 v2 v3 v4 v5 v6 v7 v8 v9
    exact VRL.append v0 (VRL.append v1 (VRL.append v2 (VRL.append v3 (VRL.append v4 (VRL.append v5 (VRL.append v6 (VRL.append v7 (VRL.append v8 v9))))))))
end
end Go.Vm

set_option linter.unusedVariables false
set_option linter.unusedSimpArgs false
set_option maxRecDepth 100000
namespace Go.Vm
open Go.Proofs
/-! ### the reference: the heat -/
theorem c_rLeft (c : Cu) (t : Tr2) (coal want : List Int) (k : TrOk c t coal want) (i : Nat) (hi : (i : Int) ≤ c.last) : Pu Try.prog (.fn 45 [] []) [.agg c.cs, .agg t.cs, vI coal, vI want, vi i] (vi (sPlay c (tS t) coal want (i + 1)).1) :=
  c_rLeft_of c t coal want k i hi (c_rHeat c t coal want k i hi)
end Go.Vm

set_option linter.unusedVariables false
set_option linter.unusedSimpArgs false
set_option maxRecDepth 100000
namespace Go.Vm
open Go.Proofs
/-! ### the reference: all truths -/
theorem rTr_ok {c : Cu} (k0 : CuOk c) (i : Nat) : ∀ t ∈ rTr c i, T2Ok c t := fun t ht => by
  simp only [rTr, List.mem_filter, List.mem_map] at ht
  obtain ⟨⟨n, _, rfl⟩, _⟩ := ht
  exact nth_ok k0 (by omega)
end Go.Vm

set_option linter.unusedVariables false
set_option linter.unusedSimpArgs false
set_option maxRecDepth 100000
namespace Go.Vm
open Go.Proofs
/-! ### the reference: bounds and verdicts -/
def rEmpty : Rg := ⟨1099511627776, -1⟩
theorem c_rWider (r : Rg) (n : Int) : Pu Try.prog (.fn 84 [] []) [.agg [vi r.lo, vi r.hi], vi n] (.agg [vi (sWider r n).lo, vi (sWider r n).hi]) := by
  refine Ev.fn Try.func84 rfl rfl (Fn.body tabOk Try.func84 rfl (Nat.le_of_ble_eq_true rfl) (Ks.ok (fz := (fzn [4])) (cl := (cln [])) tabOk mixed ?_))
  generalize hQ : FnPost tt Try.f84 _ _ = Q
  simp only [Try.f84, List.nil_append, List.append_nil, argsEnv, Nat.reduceAdd]
  simp only [gos, eq_self, Nat.reduceLT, Nat.reduceEqDiff, Nat.reduceAdd, Nat.reduceLeDiff, reduceCtorEq, reduceIte, ↓reduceIte, tt, vgo, vout, vguard, callOf, vop, ev, vload, newRow, vfill]
  subst hQ
  exact FnPost.plain trivial (fun h2 e => by first | rfl | (simp only [Try.f84, vres, vresL, vres1, e _, gos, eq_self, Nat.reduceLT, Nat.reduceEqDiff, Nat.reduceAdd, reduceCtorEq, reduceIte, ↓reduceIte, tt, vload]; try rfl)) (WkV.pure (by simp only [V.into, intoL, Bool.and_true])) ⟨rfl, rfl⟩
theorem c_rEmpty : Pu Try.prog (.fn 83 [] []) [] (.agg [vi rEmpty.lo, vi rEmpty.hi]) := by
  refine Ev.fn Try.func83 rfl rfl (Fn.body tabOk Try.func83 rfl (Nat.le_of_ble_eq_true rfl) (Ks.ok (fz := (fzn [0])) (cl := (cln [])) tabOk mixed ?_))
  generalize hQ : FnPost tt Try.f83 _ _ = Q
  simp only [Try.f83, List.append_nil, argsEnv]
  simp only [gos, eq_self, Nat.reduceLT, Nat.reduceAdd, Nat.reduceLeDiff, reduceCtorEq, reduceIte, ↓reduceIte, tt, vgo, vout, vguard, callOf, vop, ev, cv, newRow, vfill]
  subst hQ
  exact FnPost.plain trivial (fun h2 e => by first | rfl | (simp only [Try.f83, vres, vresL, vres1, e _, gos, eq_self, Nat.reduceLT, Nat.reduceAdd, reduceCtorEq, reduceIte, ↓reduceIte, tt, vload]; try rfl)) (WkV.pure (by simp only [V.into, intoL, Bool.and_true])) ⟨rfl, rfl⟩
def hotI (c : Cu) (t : Tr2) (i : Nat) : Int := (sHeat c (tS t) c.coal c.want i).tdiv c.per
def leftI (c : Cu) (t : Tr2) (i : Nat) : Int := (sPlay c (tS t) c.coal c.want (i + 1)).1
def rB (ns : List Int) : Rg := ns.foldl sWider rEmpty
theorem rB_snoc (l : List Tr2) (f : Tr2 → Int) {i : Nat} (h : (i : Int) < l.length) : rB ((l.take (i + 1)).map f) = sWider (rB ((l.take i).map f)) (f (gT l i)) := by
  have e : l.take (i + 1) = l.take i ++ [gT l i] := by rw [List.take_add_one, gT_get h]; rfl
  rw [e, List.map_append, rB, List.foldl_append]; rfl
set_option maxHeartbeats 2000000 in
theorem c_rBounds (c : Cu) (l : List Tr2) (hl : (l.length : Int) ≤ 1000000) (hok : ∀ t ∈ l, TrOk c t c.coal c.want) (hour : Nat) (hh : (hour : Int) ≤ c.last) :
    Pu Try.prog (.fn 25 [] []) [.agg c.cs, vT l, vi hour] (.tup [.agg [vi (rB (l.map fun t => hotI c t hour)).lo, vi (rB (l.map fun t => hotI c t hour)).hi], .agg [vi (rB (l.map fun t => leftI c t hour)).lo, vi (rB (l.map fun t => leftI c t hour)).hi]]) := by
  refine Ev.fn Try.func25 rfl rfl (Fn.body tabOk Try.func25 rfl (Nat.le_of_ble_eq_true rfl) (Ks.ok (fz := (fzn [6, 7, 8, 9])) (cl := (cln [(5, .d (tgL [(8, 1), (9, 2)]) [some ([1], []), cP, cP, cP, cP, cP, cP, cP, cP, cP, cP, cP, cP, some ([2], []), cP, cP, cP, cP, cP, cP, cP, cP, cP, cP, cP, cP, some ([1], [1]), some ([2], [2])]), (6, .d (tgL [(8, 1), (9, 2), (6, 3), (7, 4)]) [some ([1], []), some ([2], []), some ([3], [3]), some ([4], [4])])])) tabOk mixed ?_))
  generalize hQ : FnPost tt Try.f25 _ _ = Q
  simp only [Try.f25, List.nil_append, List.append_nil, argsEnv, Nat.reduceAdd]
  simp only [gos, eq_self, Nat.reduceLT, Nat.reduceEqDiff, reduceCtorEq, reduceIte, ↓reduceIte, tt, vgo, vout, vguard, callOf, vop, ev, newRow]
  refine Cl.pu c_rEmpty ?_
  simp only [gos, eq_self, Nat.reduceLT, reduceIte, ↓reduceIte, vgo, vout, vguard, callOf, ev]
  refine Cl.pu c_rEmpty ?_
  simp only [gos, eq_self, Nat.reduceLT, Nat.reduceEqDiff, Nat.reduceAdd, reduceCtorEq, reduceIte, ↓reduceIte, tt, vgo, vout, vguard, callOf, vop, ev, cv, newRow]
  let A : Nat → Rg := fun i => rB ((l.take i).map fun t => hotI c t hour)
  let B : Nat → Rg := fun i => rB ((l.take i).map fun t => leftI c t hour)
  refine W.loop tabOk mixed (fun i : Nat => ([(1, vT l), (2, vi hour), (3, .rop c.cs), (6, .ptr 6 0 0), (7, .ptr 7 0 0), (8, .ptr 8 0 0), (9, .ptr 9 0 0), (10, vi i)], [(6, ⟨0, .row [vi 0, vi 0]⟩), (7, ⟨0, .row [vi 0, vi 0]⟩), (8, ⟨0, .row [vi (A i).lo, vi (A i).hi]⟩), (9, ⟨0, .row [vi (B i).lo, vi (B i).hi]⟩)])) (fun i => l.length - i) (fun i => i ≤ l.length) 0 (by omega) (Wk.env (by simp [subE, Env.get])) ?_
  intro i hi
  by_cases hil : (i : Int) < l.length
  · have ht := hok _ (List.mem_of_getElem? (gT_get hil))
    have hA : A (i + 1) = sWider (A i) (hotI c (gT l i) hour) := rB_snoc l _ hil
    have hB : B (i + 1) = sWider (B i) (leftI c (gT l i) hour) := rB_snoc l _ hil
    simp only [gos, eq_self, Nat.reduceLT, Nat.reduceEqDiff, reduceIte, ↓reduceIte, tt, vgo, vout, vguard, callOf, vop, ev, vbin, vint, isShift, isNilConst, vlen, vT, hil]
    refine Wr.draw (by kernel_rfl) ?_
    simp only [gos, eq_self, Nat.reduceLT, Nat.reduceEqDiff, Nat.reduceAdd, reduceCtorEq, reduceIte, ↓reduceIte, tt, vgoD, voutD, vclsOk, vids, mayWrite, V.ids, vguard, callOf, vop, ev, vload, clsAt, hil, cT_at (Int.natCast_nonneg i) hil]
    refine CD.pu (c_rHot c (gT l i) c.coal c.want ht hour hh) ?_ rfl (by simp only [V.into, intoL, vI_into, cu_into, Bool.and_true])
    simp only [gos, eq_self, Nat.reduceLT, Nat.reduceEqDiff, reduceIte, ↓reduceIte, vgoD, voutD, vguard, callOf, ev]
    refine CD.pu (c_rWider _ _) ?_
    simp only [gos, eq_self, Nat.reduceLT, Nat.reduceEqDiff, Nat.reduceAdd, reduceCtorEq, reduceIte, ↓reduceIte, tt, vgoD, voutD, vclsOk, vids, mayWrite, V.ids, vguard, callOf, vop, ev, vload, hil, cT_at (Int.natCast_nonneg i) hil]
    refine CD.pu (c_rLeft c (gT l i) c.coal c.want ht hour hh) ?_ rfl (by simp only [V.into, intoL, vI_into, cu_into, Bool.and_true])
    simp only [gos, eq_self, Nat.reduceLT, Nat.reduceEqDiff, reduceIte, ↓reduceIte, vgoD, voutD, vguard, callOf, ev]
    refine CD.pu (c_rWider _ _) ?_
    simp only [gos, eq_self, Nat.reduceLT, Nat.reduceEqDiff, Nat.reduceAdd, reduceCtorEq, reduceIte, ↓reduceIte, tt, vgo, vout, vgoD, voutD, vclsOk, vids, mayWrite, V.ids, vguard, callOf, vop, ev, cv, vbin, vint, isShift, isNilConst]
    refine Nx.mk (i + 1) (show l.length - (i + 1) < l.length - i by omega) (by omega) (Wk.heap (fun j => ?_) ?_)
    · rw [hA, hB]; rfl
    · simp [subE, Env.get, i64_succ (show (i : Int) < 9223372036854775807 by omega)]
  · have e : l.take i = l := List.take_of_length_le (by omega)
    simp only [gos, eq_self, Nat.reduceLT, Nat.reduceEqDiff, reduceIte, ↓reduceIte, tt, vgo, vout, vguard, callOf, vop, ev, vbin, vint, isShift, isNilConst, vlen, vT, hil]
    refine Wr.draw (by kernel_rfl) ?_
    simp only [gos, eq_self, Nat.reduceLT, Nat.reduceEqDiff, Nat.reduceAdd, reduceCtorEq, reduceIte, ↓reduceIte, tt, vgoD, voutD, vclsOk, vids, mayWrite, V.ids, vguard, callOf, vop, ev, vload, clsAt]
    subst hQ
    have hA : A i = rB (l.map fun t => hotI c t hour) := by simp only [A, e]
    have hB : B i = rB (l.map fun t => leftI c t hour) := by simp only [B, e]
    rw [← hA, ← hB]
    exact FnPost.plain trivial (v := .tup [.agg [vi (A i).lo, vi (A i).hi], .agg [vi (B i).lo, vi (B i).hi]]) (fun h2 e => by simp only [Try.f25, vres, vresL, vres1, gos, eq_self, Nat.reduceLT, Nat.reduceEqDiff, Nat.reduceAdd, reduceCtorEq, reduceIte, ↓reduceIte, tt, vload, e _]) (WkV.pure rfl) ⟨rfl, rfl⟩
end Go.Vm

set_option linter.unusedVariables false
set_option linter.unusedSimpArgs false
namespace Go.Vm
/-! ### what is hot, left and kept, by hour -/
theorem past_left {c : Cu} (coal want : List Int) (s : Sc) {i : Nat} (hi : (i : Int) ≤ c.last) : gi (sPast c coal want s).left i = (sPlay c s coal want (i + 1)).1 := by
  rw [sPast, (sPlay_hot c s coal want _).2.1, gi_map (by omega)]
/-! ### all readings are right -/
/-! ### the same truths -/
theorem sure_same (c : Cu) : rSureE c = sAsked c true := by
  unfold rSureE sAsked
  by_cases h0 : sCheck c = 0
  · have k0 := sCheck_ok h0
    have := same_nil k0
    simp only [h0, ne_eq, not_true_eq_false, if_false, Bool.true_eq_false, this]
  · simp [h0]
/-! ### the bounds are the same -/
/-- The least and the greatest number. -/
theorem bounds_same {xs ys : List Int} (hs : ∀ x, x ∈ xs ↔ x ∈ ys) (hne : xs ≠ []) (hb : ∀ x ∈ xs, 0 ≤ x ∧ x ≤ 100000) : sBounds xs = rB ys := by
  cases xs with
  | nil => exact absurd rfl hne
  | cons n l =>
    have e : sBounds (n :: l) = (n :: l).foldl sWider ⟨n, n⟩ := rfl
    obtain ⟨h1, h2, h3, h4, h5, h6⟩ := fold_wider (n :: l) ⟨n, n⟩
    obtain ⟨g1, g2, g3, g4, g5, g6⟩ := fold_wider ys rEmpty
    rw [e, rB]
    generalize (n :: l).foldl sWider ⟨n, n⟩ = A at h1 h2 h3 h4 h5 h6 ⊢
    generalize ys.foldl sWider rEmpty = B at g1 g2 g3 g4 g5 g6 ⊢
    have hn := hb n (by simp)
    have hny := (hs n).1 (by simp)
    have b1 := g2 n hny
    have b2 := g5 n hny
    have m1 : A.lo ∈ n :: l := by
      rcases h3 with h | h
      · simp only at h; rw [h]; simp
      · exact h
    have m2 : A.hi ∈ n :: l := by
      rcases h6 with h | h
      · simp only at h; rw [h]; simp
      · exact h
    have m3 : B.lo ∈ ys := by
      rcases g3 with h | h
      · simp only [rEmpty] at h; omega
      · exact h
    have m4 : B.hi ∈ ys := by
      rcases g6 with h | h
      · simp only [rEmpty] at h; omega
      · exact h
    have c1 := h2 _ ((hs _).2 m3)
    have c2 := h5 _ ((hs _).2 m4)
    have c3 := g2 _ ((hs _).1 m1)
    have c4 := g5 _ ((hs _).1 m2)
    cases A; cases B
    simp only [Rg.mk.injEq] at *
    omega
theorem sameB {c : Cu} (k0 : CuOk c) (hne : sTruth c ≠ []) (f : Sc → Int) (g : Tr2 → Int) (hfg : ∀ t, f (tS t) = g t) (hb : ∀ s ∈ sTruth c, 0 ≤ f s ∧ f s ≤ 100000) : sBounds ((sTruth c).map f) = rB ((rTruths c).map g) := by
  refine bounds_same (fun x => ?_) (by simpa using hne) ?_
  · simp only [List.mem_map]
    constructor
    · rintro ⟨s, hs, rfl⟩
      obtain ⟨t, ht, rfl⟩ := (same_truths k0 s).1 hs
      exact ⟨t, ht, (hfg t).symm⟩
    · rintro ⟨t, ht, rfl⟩
      exact ⟨tS t, (same_truths k0 _).2 ⟨t, ht, rfl⟩, hfg t⟩
  · intro x hx
    obtain ⟨s, hs, rfl⟩ := List.mem_map.1 hx
    exact hb s hs
theorem hotB_same {c : Cu} (A : AskOk c true) {i : Nat} (hi : (i : Int) ≤ c.last) : sHotB c i = rB ((rTruths c).map fun t => hotI c t i) := by
  have hper := A.k0.per
  refine sameB A.k0 A.ne (fun s => gi (sPast c c.coal c.want s).hot i) _ (fun t => past_hot c.coal c.want (tS t) hi) fun s hs => ?_
  have hh := sHeat_le (A.k0.play0 (A.sc s hs)) hi
  rw [past_hot c.coal c.want s hi]
  have h1 : 0 ≤ (sHeat c s c.coal c.want i).tdiv c.per := Int.tdiv_nonneg hh.1 (by omega)
  have h2 := Int.tdiv_le_self c.per hh.1
  omega
theorem leftB_same {c : Cu} (A : AskOk c true) {i : Nat} (hi : (i : Int) ≤ c.last) : sLeftB c i = rB ((rTruths c).map fun t => leftI c t i) := by
  refine sameB A.k0 A.ne (fun s => gi (sPast c c.coal c.want s).left i) _ (fun t => past_left c.coal c.want (tS t) hi) fun s hs => ?_
  have hh := sPlay_inv (A.k0.play0 (A.sc s hs)) (i + 1) (by omega)
  rw [past_left c.coal c.want s hi]
  omega
end Go.Vm

set_option linter.unusedVariables false
set_option linter.unusedSimpArgs false
set_option maxRecDepth 100000
namespace Go.Vm
open Go.Proofs
theorem nR_len' (n : Int) (f : Int → Rg) : ((nR n f).length : Int) = ((n.toNat : Nat) : Int) := by simp [nR]
theorem gR_nR {n : Int} {f : Int → Rg} {i : Nat} (h : (i : Int) < n) : gR (nR n f) i = f i := by
  simp only [gR, nR, Int.toNat_natCast, List.getD_eq_getElem?_getD, List.getElem?_map]
  rw [List.getElem?_range (by omega)]; rfl
set_option maxHeartbeats 4000000 in
theorem l_CopperBounds (c : Cu) (hc : I64 c.last) : Vm.Fn Try.prog 3 [.agg c.cs] [] fun v h' => v = .bool true := by
  refine Fn.body tabOk Try.func3 rfl (Nat.le_of_ble_eq_true rfl) (Ks.ok (fz := (fzn [9, 10])) (cl := (cln [(13, .d tg0 [cP, cP, cP, cP, cL, cP, cP, cP, cP, cP, cP, cP, cL, cP, cP, cP])])) tabOk mixed ?_)
  generalize hQ : FnPost tt Try.f3 _ _ = Q
  simp only [Try.f3, argsEnv]
  simp only [gos, eq_self, Nat.reduceLT, Nat.reduceEqDiff, reduceCtorEq, reduceIte, ↓reduceIte, tt, vgo, vout, vguard, callOf, vop, ev, cv, vload, newRow]
  refine Cl.pu (c_Thin c hc) ?_ rfl (by simp only [V.into, intoL, cu_into, Bool.and_true])
  cases ht : sThin c with
  | false =>
    simp only [gos, eq_self, Nat.reduceLT, Nat.reduceEqDiff, reduceIte, ↓reduceIte, vgo, vout, vguard, callOf, vop, ev]
    refine Cl.pu c_awake ?_
    simp only [gos, eq_self, Nat.reduceLT, reduceIte, ↓reduceIte, vgo, vout, vguard, callOf, vop, ev]
    subst hQ
    exact FnPost.plain trivial (v := .bool true) (fun h2 e => by rfl) WkV.refl rfl
  | true =>
  have wf := thin_wf hc ht
  simp only [gos, eq_self, Nat.reduceLT, Nat.reduceEqDiff, reduceCtorEq, reduceIte, ↓reduceIte, tt, vgo, vout, vguard, callOf, vop, ev, vload]
  refine Cl.pu (c_lCopper c wf) ?_ rfl (by simp only [V.into, intoL, cu_into, Bool.and_true])
  simp only [gos, eq_self, Nat.reduceLT, reduceIte, ↓reduceIte, vgo, vout, vguard, callOf, ev]
  refine Cl.pu (c_Bounds c wf) ?_ rfl (by simp only [V.into, intoL, cu_into, Bool.and_true])
  simp only [gos, eq_self, Nat.reduceLT, Nat.reduceEqDiff, reduceCtorEq, reduceIte, ↓reduceIte, tt, vgo, vout, vguard, callOf, vop, ev, vload]
  refine Cl.pu (c_lsure c wf) ?_ rfl (by simp only [V.into, intoL, cu_into, Bool.and_true])
  rw [sure_same]
  by_cases h0 : sAsked c true = 0
  case neg =>
    have hb : (sAsked c true != 0) = true := by simp [h0]
    have hr : sBoundsA c = ([], [], sAsked c true) := by simp [sBoundsA, h0]
    have hz : decide (((0 : Nat) : Int) + ((0 : Nat) : Int) = 0) = true := rfl
    have hw : IntKind.i64.wrap (((0 : Nat) : Int) + ((0 : Nat) : Int)) = ((0 : Nat) : Int) := rfl
    have hz2 : decide (((0 : Nat) : Int) = 0) = true := rfl
    rw [hr]
    simp only [gos, eq_self, Nat.reduceLT, Nat.reduceEqDiff, reduceIte, ↓reduceIte, tt, vgo, vout, vguard, callOf, vop, ev, cv, vbin, vint, isShift, isNilConst, vlen, hb, vR, cR, hw, hz2]
    refine Cl.pu c_awake ?_
    simp only [gos, eq_self, Nat.reduceLT, Nat.reduceEqDiff, reduceIte, ↓reduceIte, vgo, vout, vguard, callOf, vop, ev]
    subst hQ
    exact FnPost.plain trivial (v := .bool true) (fun h2 e => by rfl) WkV.refl rfl
  have A := askOk_of h0
  have hl := A.k0.last
  have hb : (sAsked c true != 0) = false := by simp [h0]
  have hr : sBoundsA c = (nR (c.last + 1) (sHotB c), nR (c.last + 1) (sLeftB c), 0) := by simp [sBoundsA, h0]
  have hlen1 : ((nR (c.last + 1) (sHotB c)).length : Int) = c.last + 1 := by rw [nR_len']; omega
  have hlen2 : ((nR (c.last + 1) (sLeftB c)).length : Int) = c.last + 1 := by rw [nR_len']; omega
  have hL : rSureL c = rTruths c := by simp [rSureL, A.chk]
  rw [hr, hL]
  generalize hH : nR (c.last + 1) (sHotB c) = H at hlen1 ⊢
  generalize hK : nR (c.last + 1) (sLeftB c) = K at hlen2 ⊢
  have d1 : ((H.length : Int) != c.last + 1) = false := by rw [bne_eq_false_iff_eq]; exact hlen1
  have d2 : ((K.length : Int) != (H.length : Int)) = false := by rw [bne_eq_false_iff_eq]; omega
  have d3 : ((0 : Int) != 0) = false := rfl
  simp only [gos, eq_self, Nat.reduceLT, Nat.reduceEqDiff, reduceCtorEq, reduceIte, ↓reduceIte, tt, vgo, vout, vguard, callOf, vop, ev, cv, vbin, vint, isShift, isNilConst, vload, vlen, hb, vR, d1, d2, i64_in (show -9223372036854775808 ≤ c.last + 1 by omega) (show c.last + 1 ≤ 9223372036854775807 by omega)]
  refine W.loop tabOk mixed (fun i : Nat => ([(1, .rop c.cs), (3, vR H), (4, vR K), (6, vT (rTruths c)), (8, vi i)], [])) (fun i => H.length - i) (fun i => i ≤ H.length) 0 (by omega) (Wk.env (by simp [subE, Env.get, vR])) ?_
  intro i hi
  by_cases hil : (i : Int) < H.length
  · have hil2 : (i : Int) < K.length := by omega
    have hT := rTr_ok A.k0 (rMany c).toNat
    have hTl := rTr_len c (rMany c).toNat
    have hM := rMany_le A.k0
    simp only [gos, eq_self, Nat.reduceLT, Nat.reduceEqDiff, reduceCtorEq, reduceIte, ↓reduceIte, tt, vgo, vout, vguard, callOf, vop, ev, vbin, vint, isShift, isNilConst, vload, vlen, vR, hil]
    refine Cl.pu (c_rBounds c (rTruths c) (by simp only [rTruths]; omega) (fun t ht => (hT t ht).tr A.k0) i (by omega)) ?_ rfl (by simp only [V.into, intoL, cu_into, Bool.and_true, vT_into])
    have e1 : gR H i = rB ((rTruths c).map fun t => hotI c t i) := by rw [← hH, gR_nR (by omega)]; exact hotB_same A (by omega)
    have e2 : gR K i = rB ((rTruths c).map fun t => leftI c t i) := by rw [← hK, gR_nR (by omega)]; exact leftB_same A (by omega)
    rw [← e1, ← e2]
    simp only [gos, eq_self, Nat.reduceLT, Nat.reduceEqDiff, Nat.reduceAdd, reduceCtorEq, reduceIte, ↓reduceIte, tt, vgo, vout, vguard, callOf, vop, ev, newRow]
    refine Wr.draw (by kernel_rfl) ?_
    simp only [gos, eq_self, Nat.reduceLT, Nat.reduceEqDiff, Nat.reduceAdd, reduceCtorEq, reduceIte, ↓reduceIte, tt, vgoD, voutD, vclsOk, vids, mayWrite, V.ids, vguard, callOf, vop, ev, vload, clsAt, hil, cR_at (Int.natCast_nonneg i) hil]
    refine CD.pu (c_to _) ?_
    simp only [gos, ne_eq, eq_self, Nat.reduceLT, Nat.reduceEqDiff, Nat.reduceAdd, reduceCtorEq, reduceIte, ↓reduceIte, tt, vgoD, voutD, vclsOk, vids, mayWrite, V.ids, vguard, callOf, vop, ev, vbin, isNilConst, vload, intsOf, hil2, cR_at (Int.natCast_nonneg i) hil2]
    refine CD.pu (c_to _) ?_
    simp only [gos, ne_eq, eq_self, Nat.reduceLT, Nat.reduceEqDiff, Nat.reduceAdd, reduceCtorEq, reduceIte, ↓reduceIte, tt, vgo, vout, vgoD, voutD, vclsOk, vids, mayWrite, vguard, callOf, vop, ev, cv, vbin, vint, isShift, isNilConst, intsOf]
    refine Nx.mk (i + 1) (show H.length - (i + 1) < H.length - i by omega) (by omega) (Wk.forget ?_ (by simp [subH]) (fun j hp => by simp [orD, domP, Heap.get] at hp) ?_ rfl)
    · simp [subE, Env.get, i64_succ (show (i : Int) < 9223372036854775807 by omega)]
    · simp only [intoE, V.into, cR_into, cu_into, Bool.and_true, vT_into]
  · simp only [gos, eq_self, Nat.reduceLT, Nat.reduceEqDiff, reduceIte, ↓reduceIte, tt, vgo, vout, vguard, callOf, vop, ev, vbin, vint, isShift, isNilConst, vlen, vR, hil]
    refine Cl.pu c_awake ?_
    simp only [gos, eq_self, Nat.reduceLT, reduceIte, ↓reduceIte, vgo, vout, vguard, callOf, vop, ev]
    subst hQ
    exact FnPost.plain trivial (v := .bool true) (fun h2 e => by rfl) WkV.refl rfl
end Go.Vm
