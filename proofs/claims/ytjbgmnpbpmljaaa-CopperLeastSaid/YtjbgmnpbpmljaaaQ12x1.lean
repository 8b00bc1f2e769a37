import Derived.Test.YtjbgmnpbpmljaaaB3
import Derived.Test.YtjbgmnpbpmljaaaRows
import Derived.WalkKit
import Derived.ProofKit
import Derived.OpenShut
import Derived.ShutString
import Derived.ChangeOld
import Derived.Below
set_option linter.unusedVariables false
set_option linter.unusedSimpArgs false
set_option maxRecDepth 100000
namespace Go.Vm
open Go.Proofs
/-- The sum, as 64 bits hold it. -/
def sSum (l : List Int) : Int := l.foldl (fun n x => IntKind.i64.wrap (n + x)) 0
theorem c_sum (l : List Int) (hl : (l.length : Int) ≤ 1000000) : Pu Try.prog (.fn 114 [] []) [vI l] (vi (sSum l)) := by
  refine Ev.fn Try.func114 rfl rfl (Fn.body tabOk Try.func114 rfl (Nat.le_of_ble_eq_true rfl) (Ks.ok (fz := (fzn [])) (cl := (cln [])) tabOk mixed ?_))
  generalize hQ : FnPost tt Try.f114 _ _ = Q
  simp only [Try.f114, List.nil_append, List.append_nil, argsEnv]
  simp only [gos, eq_self, Nat.reduceLT, reduceCtorEq, reduceIte, ↓reduceIte, tt, vgo, vout, vguard, callOf, vop, ev, cv, vlen, vI]
  refine W.loop tabOk mixed (fun i : Nat => ([(2, vi (sSum (l.take i))), (5, vI l), (6, vi l.length), (7, vi i)], [])) (fun i => l.length - i) (fun i => i ≤ l.length) 0 (by omega) (Wk.env (by simp [subE, Env.get, vI, sSum])) ?_
  intro i hi
  by_cases hil : (i : Int) < l.length
  · have hs : sSum (l.take (i + 1)) = IntKind.i64.wrap (sSum (l.take i) + gi l i) := by rw [gi_take hil, sSum, List.foldl_append]; rfl
    simp only [gos, eq_self, Nat.reduceLT, Nat.reduceEqDiff, reduceCtorEq, reduceIte, ↓reduceIte, tt, vgo, vout, vguard, callOf, vop, ev, cv, vbin, vint, isShift, isNilConst, vload, vI, hil, cI_at (Int.natCast_nonneg i) hil]
    exact Nx.mk (i + 1) (show l.length - (i + 1) < l.length - i by omega) (by omega) (Wk.env (by simp [subE, Env.get, hs, i64_succ (show (i : Int) < 9223372036854775807 by omega)]))
  · have e : l.take i = l := List.take_of_length_le (by omega)
    simp only [gos, eq_self, Nat.reduceLT, Nat.reduceEqDiff, reduceIte, ↓reduceIte, vgo, vout, vguard, callOf, vop, ev, vbin, vint, isShift, isNilConst, vI, hil, e]
    subst hQ
    exact FnPost.plain trivial (fun h2 e => by first | rfl | (simp only [Try.f114, vres, vresL, vres1, e _, gos, if_true, if_false, ne_eq, eq_self, Nat.reduceLT, Nat.reduceEqDiff, Nat.reduceAdd, Nat.reduceMul, Nat.reduceLeDiff, Nat.reduceBEq, reduceCtorEq, reduceIte, Array.toList, ↓reduceIte, tt, vgo, vout, vgoD, voutD, vclsOk, vids, mayWrite, V.ids, V.mids, vguard, callOf, vop, ev, cv, vbin, vint, isShift, isNilConst, vnil, isNilSlice, vload, vlen, newRow, vfill, vslice, entOf, vappend, srcOf, vcopy, vlookup, vupdate, mapOk, keyOf, intsOf, clsAt]; try rfl)) (WkV.pure (by simp only [V.into])) ⟨rfl, rfl⟩
end Go.Vm

set_option linter.unusedVariables false
set_option linter.unusedSimpArgs false
set_option maxRecDepth 100000
namespace Go.Vm
open Go.Proofs
def sProveCoal (c : Cu) (coal : List Int) (many : Int) : Bool := decide (sAsked c (sIsCoal c coal) = 0) && (decide (sSum coal ≤ many) && sSureP c coal)
theorem coal_ok {c : Cu} {l : List Int} (h : sIsCoal c l = true) : (l.length : Int) = c.last + 1 ∧ ∀ x ∈ l, 0 ≤ x ∧ x ≤ c.shovels := by
  simp only [sIsCoal, sIn, Bool.and_eq_true, decide_eq_true_eq, List.all_eq_true] at h
  exact h
set_option maxHeartbeats 2000000 in
theorem c_ProveCoal (c : Cu) (hc : c.wf) (coal : List Int) (hm : (coal.length : Int) ≤ 1000000) (many : Int) : Pu Try.prog (.fn 65 [] []) [.agg c.cs, vI coal, vi many] (.bool (sProveCoal c coal many)) := by
  refine Ev.fn Try.func65 rfl rfl (Fn.body tabOk Try.func65 rfl (Nat.le_of_ble_eq_true rfl) (Ks.ok (fz := (fzn [])) (cl := (cln [(1, .d tg0 [cP, cP, cP, cP, none, cP, cP, cP, cP, cP])])) tabOk mixed ?_))
  generalize hQ : FnPost tt Try.f65 _ _ = Q
  simp only [Try.f65, List.nil_append, List.append_nil, argsEnv, Nat.reduceAdd]
  simp only [gos, eq_self, Nat.reduceLT, reduceCtorEq, reduceIte, ↓reduceIte, vgo, vout, vguard, callOf, vop, ev, cv, newRow]
  refine Wr.draw (by kernel_rfl) ?_
  simp only [gos, eq_self, Nat.reduceLT, Nat.reduceEqDiff, Nat.reduceAdd, reduceCtorEq, reduceIte, ↓reduceIte, tt, vgoD, voutD, vclsOk, vids, mayWrite, V.ids, vguard, callOf, vop, ev, vload, clsAt]
  refine CD.pu (c_isCoal c coal hc.last hm) ?_ rfl (by simp only [V.into, intoL, vI_into, cu_into, Bool.and_true])
  simp only [gos, eq_self, Nat.reduceLT, Nat.reduceEqDiff, reduceIte, ↓reduceIte, vgoD, voutD, vguard, callOf, ev]
  by_cases h0 : sAsked c (sIsCoal c coal) = 0
  case neg =>
    refine CD.ev _ _ (c_askedN c hc (sIsCoal c coal) h0) ?_
    simp only [gos, eq_self, Nat.reduceLT, Nat.reduceEqDiff, reduceIte, ↓reduceIte, vgo, vout, vgoD, voutD, vclsOk, vids, mayWrite, vguard, callOf, vop, ev, cv, vbin, vint, isShift, isNilConst, h0]
    subst hQ
    exact FnPost.plain trivial (fun h2 e => by first | rfl | (simp only [Try.f65, vres, vresL, vres1, e _, gos, if_true, if_false, ne_eq, eq_self, Nat.reduceLT, Nat.reduceEqDiff, Nat.reduceAdd, Nat.reduceMul, Nat.reduceLeDiff, Nat.reduceBEq, reduceCtorEq, reduceIte, Array.toList, ↓reduceIte, tt, vgo, vout, vgoD, voutD, vclsOk, vids, mayWrite, V.ids, V.mids, vguard, callOf, vop, ev, cv, vbin, vint, isShift, isNilConst, vnil, isNilSlice, vload, vlen, newRow, vfill, vslice, entOf, vappend, srcOf, vcopy, vlookup, vupdate, mapOk, keyOf, intsOf, clsAt]; try rfl)) (WkV.pure (by simp only [V.into])) ⟨by simp [sProveCoal, h0], rfl⟩
  have A := askOk_of h0
  have hp := coal_ok A.fine
  refine CD.ev _ _ (c_askedY c hc (sIsCoal c coal) h0) ?_
  simp only [gos, eq_self, Nat.reduceLT, Nat.reduceEqDiff, reduceCtorEq, reduceIte, ↓reduceIte, vgo, vout, vgoD, voutD, vclsOk, vids, mayWrite, vguard, callOf, vop, ev, cv, vbin, vint, isShift, isNilConst]
  refine Cl.pu (c_sum coal hm) ?_ rfl (by simp only [intoL, vI_into, Bool.and_true])
  by_cases h1 : sSum coal ≤ many
  case neg =>
    simp only [gos, eq_self, Nat.reduceLT, Nat.reduceEqDiff, reduceCtorEq, reduceIte, ↓reduceIte, vgo, vout, vguard, callOf, vop, ev, cv, vbin, vint, isShift, isNilConst, h1]
    subst hQ
    exact FnPost.plain trivial (v := .bool false) (fun h2 e => by rfl) (WkV.pure rfl) ⟨by simp [sProveCoal, h1], rfl⟩
  simp only [gos, eq_self, Nat.reduceLT, Nat.reduceEqDiff, reduceCtorEq, reduceIte, ↓reduceIte, vgo, vout, vguard, callOf, vop, ev, vbin, vint, isShift, isNilConst, h1]
  refine Cl.mk (c_sure c (sTruth c) [] 17 (by decide) (by intro x hx; cases hx) coal A.ok (by have := A.len; omega) (by have := A.k0.last; omega) fun s hs => coal_play A.k0 hp (A.sc s hs)) ?_
  rintro v h' ⟨rfl, rfl⟩
  simp only [gos, eq_self, Nat.reduceLT, Nat.reduceEqDiff, reduceIte, ↓reduceIte, vgo, vout, vguard, callOf, vop, ev]
  subst hQ
  have hr : sProveCoal c coal many = sSure c (sTruth c) [] coal := by simp [sProveCoal, h0, h1, sSureP, sSure, mget]
  rw [hr]
  exact FnPost.plain trivial (v := .bool (sSure c (sTruth c) [] coal)) (fun h2 e => by rfl) (WkV.pure rfl) ⟨rfl, rfl⟩
end Go.Vm

set_option linter.unusedVariables false
set_option linter.unusedSimpArgs false
set_option maxRecDepth 100000
namespace Go.Vm
open Go.Proofs Go.ChangeShapes Go.WideShapes Go.ChangeAt Go.RowKit
/-! ### from a contract to the row -/
theorem hrel0 (w : World) : HRel (gh0 w) [] w :=
  ⟨fun B o v e => e, fun i e he => (by cases he), fun i j e e' B c c' he => (by cases he), fun i e B c o he => (by cases he), fun i v h => absurd rfl h⟩
theorem calls_of_fn {P : Program} {f : FuncId} {vs : List V} {xs : List Value} {w : World} (c : Fn P f vs [] fun v h' => v = .bool true) (hv : VRL (gh0 w) vs xs) :
    Calls P f xs.toArray w fun e w' => e = .returned (.bool true) ∧ Below w.heap.size w w' := fun cs => by
  obtain ⟨v, h', vc, g', w', fr, rfl, st, hf, hl, hvc, H', t, le⟩ := c (gh0 w) w xs hv (hrel0 w) cs
  simp only [VR] at hvc
  subst hvc
  exact ⟨.returned (.bool true), w', fr, ⟨rfl, t.os, t.tape, t.output, t.size, fun k hk => t.mods k hk (by rintro ⟨i, e, c, he, _⟩; cases he)⟩, st, hf, hl⟩
section
variable {H : Type} {enc : TypeId × Value → H} {P : Program} {w : World} {base : Nat} {spare : Nat → Bool} {held : Bool} {fuel : Nat} {t : TypeId} {cs : List Value} {x : DataW H × List MemPlace}
end
section
variable {H : Type} {enc : TypeId × Value → H} {w : World} {base : Nat} {spare : Nat → Bool} {held : Bool} {fuel : Nat} {cs : List Value} {x : DataW H × List MemPlace}
theorem rd_rg (h : DataW.trod enc Try.prog w base spare held fuel 24 cs = some x) : ∃ r : Rg, r.ok ∧ VRL (gh0 w) r.cs cs := by
  obtain ⟨xs, n, _, _, hl, hx, hf⟩ := DataW.trod_struct Try.underlying24 h
  have hl2 : cs.length = 2 := hl.trans (by kernel_rfl)
  have hx2 : xs.length = 2 := hx
  have f0 : DataW.trod enc Try.prog w base spare held n 3 ((cs.drop 0).take (Try.prog.cellsOf 3)) = xs[0]? := hf 0 _ rfl
  have f1 : DataW.trod enc Try.prog w base spare held n 3 ((cs.drop 1).take (Try.prog.cellsOf 3)) = xs[1]? := hf 1 _ rfl
  rw [List.getElem?_eq_getElem (by omega)] at f0 f1
  obtain ⟨a, ha, va⟩ := rd_int Try.underlying3 f0
  obtain ⟨b, hb, vb⟩ := rd_int Try.underlying3 f1
  refine ⟨⟨a, b⟩, ⟨ha, hb⟩, ?_⟩
  have hc : Try.prog.cellsOf 3 = 1 := by kernel_rfl
  simp only [hc, List.drop_zero] at va vb
  rw [List.take_of_length_le (by simp; omega)] at vb
  exact VRL_two va vb
theorem rd_rd (h : DataW.trod enc Try.prog w base spare held fuel 96 cs = some x) : ∃ r : Rd, r.ok ∧ VRL (gh0 w) r.cs cs := by
  obtain ⟨xs, n, _, _, hl, hx, hf⟩ := DataW.trod_struct Try.underlying96 h
  have hl2 : cs.length = 3 := hl.trans (by kernel_rfl)
  have hx2 : xs.length = 2 := hx
  have f0 : DataW.trod enc Try.prog w base spare held n 3 ((cs.drop 0).take (Try.prog.cellsOf 3)) = xs[0]? := hf 0 _ rfl
  have f1 : DataW.trod enc Try.prog w base spare held n 24 ((cs.drop 1).take (Try.prog.cellsOf 24)) = xs[1]? := hf 1 _ rfl
  rw [List.getElem?_eq_getElem (by omega)] at f0 f1
  obtain ⟨a, ha, va⟩ := rd_int Try.underlying3 f0
  obtain ⟨b, hb, vb⟩ := rd_rg f1
  refine ⟨⟨a, b⟩, ⟨ha, hb⟩, ?_⟩
  have hc : Try.prog.cellsOf 3 = 1 := by kernel_rfl
  have hc2 : Try.prog.cellsOf 24 = 2 := by kernel_rfl
  simp only [hc, hc2, List.drop_zero] at va vb
  rw [List.take_of_length_le (by simp; omega)] at vb
  exact VRL_two va vb
theorem cR_flat : ∀ l : List Rg, l.flatMap Rg.cs = cR l
  | [] => rfl
  | r :: l => by rw [List.flatMap_cons, cR_flat l]; rfl
theorem cD_flat : ∀ l : List Rd, l.flatMap Rd.cs = cD l
  | [] => rfl
  | r :: l => by rw [List.flatMap_cons, cD_flat l]; rfl
theorem rd_cu (h : DataW.trod enc Try.prog w base spare held fuel 28 cs = some x) : ∃ c : Cu, c.ok ∧ VRL (gh0 w) c.cs cs := by
  obtain ⟨xs, n, _, _, hl, hx, hf⟩ := DataW.trod_struct Try.underlying28 h
  have hl2 : cs.length = 11 := hl.trans (by kernel_rfl)
  have hx2 : xs.length = 10 := hx
  have f0 : DataW.trod enc Try.prog w base spare held n 3 ((cs.drop 0).take (Try.prog.cellsOf 3)) = xs[0]? := hf 0 _ rfl
  have f1 : DataW.trod enc Try.prog w base spare held n 3 ((cs.drop 1).take (Try.prog.cellsOf 3)) = xs[1]? := hf 1 _ rfl
  have f2 : DataW.trod enc Try.prog w base spare held n 3 ((cs.drop 2).take (Try.prog.cellsOf 3)) = xs[2]? := hf 2 _ rfl
  have f3 : DataW.trod enc Try.prog w base spare held n 3 ((cs.drop 3).take (Try.prog.cellsOf 3)) = xs[3]? := hf 3 _ rfl
  have f4 : DataW.trod enc Try.prog w base spare held n 3 ((cs.drop 4).take (Try.prog.cellsOf 3)) = xs[4]? := hf 4 _ rfl
  have f5 : DataW.trod enc Try.prog w base spare held n 22 ((cs.drop 5).take (Try.prog.cellsOf 22)) = xs[5]? := hf 5 _ rfl
  have f6 : DataW.trod enc Try.prog w base spare held n 22 ((cs.drop 6).take (Try.prog.cellsOf 22)) = xs[6]? := hf 6 _ rfl
  have f7 : DataW.trod enc Try.prog w base spare held n 24 ((cs.drop 7).take (Try.prog.cellsOf 24)) = xs[7]? := hf 7 _ rfl
  have f8 : DataW.trod enc Try.prog w base spare held n 25 ((cs.drop 9).take (Try.prog.cellsOf 25)) = xs[8]? := hf 8 _ rfl
  have f9 : DataW.trod enc Try.prog w base spare held n 26 ((cs.drop 10).take (Try.prog.cellsOf 26)) = xs[9]? := hf 9 _ rfl
  rw [List.getElem?_eq_getElem (by omega)] at f0 f1 f2 f3 f4 f5 f6 f7 f8 f9
  have hc : Try.prog.cellsOf 3 = 1 := by kernel_rfl
  have hc2 : Try.prog.cellsOf 24 = 2 := by kernel_rfl
  have hc3 : Try.prog.cellsOf 22 = 1 := by kernel_rfl
  have hc4 : Try.prog.cellsOf 25 = 1 := by kernel_rfl
  have hc5 : Try.prog.cellsOf 26 = 1 := by kernel_rfl
  have hc6 : Try.prog.cellsOf 96 = 3 := by kernel_rfl
  obtain ⟨a0, h0, v0⟩ := rd_int Try.underlying3 f0
  obtain ⟨a1, h1, v1⟩ := rd_int Try.underlying3 f1
  obtain ⟨a2, h2, v2⟩ := rd_int Try.underlying3 f2
  obtain ⟨a3, h3, v3⟩ := rd_int Try.underlying3 f3
  obtain ⟨a4, h4, v4⟩ := rd_int Try.underlying3 f4
  obtain ⟨a5, h5, _, v5⟩ := rd_ints Try.underlying22 Try.underlying3 hc f5
  obtain ⟨a6, h6, _, v6⟩ := rd_ints Try.underlying22 Try.underlying3 hc f6
  obtain ⟨a7, h7, v7⟩ := rd_rg f7
  obtain ⟨a8, h8, _, v8⟩ := rd_slice Rg.cs Rg.ok 2 Try.underlying25 hc2 (by omega) (fun _ => rfl) f8 fun n cs x h => rd_rg h
  obtain ⟨a9, h9, _, v9⟩ := rd_slice Rd.cs Rd.ok 3 Try.underlying26 hc6 (by omega) (fun _ => rfl) f9 fun n cs x h => rd_rd h
  rw [cR_flat] at v8
  rw [cD_flat] at v9
  refine ⟨⟨a0, a1, a2, a3, a4, a5, a6, a7, a8, a9⟩, ⟨h0, h1, h2, h3, h4, h5, h6, h7, h8, h9⟩, ?_⟩
  match cs, hl2 with
  | [c0, c1, c2, c3, c4, c5, c6, c7, c8, c9, c10], _ =>
    simp only [hc, hc2, hc3, hc4, hc5, List.drop_zero, List.drop_succ_cons, List.take_succ_cons, List.take_zero, List.take_nil] at v0 v1 v2 v3 v4 v5 v6 v7 v8 v9
    exact VRL.append v0 (VRL.append v1 (VRL.append v2 (VRL.append v3 (VRL.append v4 (VRL.append v5 (VRL.append v6 (VRL.append v7 (VRL.append v8 v9))))))))
end
end Go.Vm

set_option linter.unusedVariables false
set_option linter.unusedSimpArgs false
set_option maxRecDepth 100000
namespace Go.Vm
open Go.Proofs
/-! ### the reference: all truths -/
theorem rTr_ok {c : Cu} (k0 : CuOk c) (i : Nat) : ∀ t ∈ rTr c i, T2Ok c t := fun t ht => by
  simp only [rTr, List.mem_filter, List.mem_map] at ht
  obtain ⟨⟨n, _, rfl⟩, _⟩ := ht
  exact nth_ok k0 (by omega)
end Go.Vm

set_option linter.unusedVariables false
set_option linter.unusedSimpArgs false
namespace Go.Vm
/-! ### what is hot, left and kept, by hour -/
/-! ### all readings are right -/
/-! ### the same truths -/
theorem sure_same (c : Cu) : rSureE c = sAsked c true := by
  unfold rSureE sAsked
  by_cases h0 : sCheck c = 0
  · have k0 := sCheck_ok h0
    have := same_nil k0
    simp only [h0, ne_eq, not_true_eq_false, if_false, Bool.true_eq_false, this]
  · simp [h0]
/-! ### the bounds are the same -/
end Go.Vm

set_option linter.unusedVariables false
set_option linter.unusedSimpArgs false
set_option maxRecDepth 100000
namespace Go.Vm
open Go.Proofs
/-! ### coal by a number -/
def powI (s : Int) : Nat → Int
  | 0 => 1
  | n + 1 => powI s n * s
theorem powI_le {s : Int} (hs : 1 ≤ s ∧ s ≤ 4) : ∀ n : Nat, n ≤ 5 → 1 ≤ powI s n ∧ powI s n ≤ 1024
  | 0, _ => by simp [powI]
  | 1, _ => by simp [powI]; omega
  | 2, _ => by
    have : s = 1 ∨ s = 2 ∨ s = 3 ∨ s = 4 := by omega
    rcases this with rfl | rfl | rfl | rfl <;> decide
  | 3, _ => by
    have : s = 1 ∨ s = 2 ∨ s = 3 ∨ s = 4 := by omega
    rcases this with rfl | rfl | rfl | rfl <;> decide
  | 4, _ => by
    have : s = 1 ∨ s = 2 ∨ s = 3 ∨ s = 4 := by omega
    rcases this with rfl | rfl | rfl | rfl <;> decide
  | 5, _ => by
    have : s = 1 ∨ s = 2 ∨ s = 3 ∨ s = 4 := by omega
    rcases this with rfl | rfl | rfl | rfl <;> decide
  | n + 6, h => by omega
def rCoals (c : Cu) : Int := powI (c.shovels + 1) (c.last + 1).toNat
theorem rCoals_le {c : Cu} (k0 : CuOk c) : 1 ≤ rCoals c ∧ rCoals c ≤ 1024 := by
  have := k0.last; have := k0.shovels
  exact powI_le (by omega) _ (by omega)
theorem c_rCoals (c : Cu) (k0 : CuOk c) : Pu Try.prog (.fn 51 [] []) [.agg c.cs] (vi (rCoals c)) := by
  have hl := k0.last
  have hs := k0.shovels
  refine Ev.fn Try.func51 rfl rfl (Fn.body tabOk Try.func51 rfl (Nat.le_of_ble_eq_true rfl) (Ks.ok (fz := (fzn [])) (cl := (cln [])) tabOk mixed ?_))
  generalize hQ : FnPost tt Try.f51 _ _ = Q
  simp only [Try.f51, List.nil_append, List.append_nil, argsEnv]
  have hc4 : (List.drop 4 c.cs).head? = some (vi c.shovels) := rfl
  simp only [gos, eq_self, Nat.reduceLT, reduceIte, ↓reduceIte, vgo, vout, vguard, callOf, vop, ev, cv, newRow]
  refine W.loop tabOk mixed (fun i : Nat => ([(1, .rop c.cs), (3, vi (powI (c.shovels + 1) i)), (4, vi i)], [])) (fun i => (c.last + 1).toNat - i) (fun i => i ≤ (c.last + 1).toNat) 0 (by omega) (Wk.env (by simp [subE, Env.get, powI])) ?_
  intro i hi
  by_cases hil : (i : Int) ≤ c.last
  · have hp := powI_le (s := c.shovels + 1) (by omega) (i + 1) (by omega)
    rw [powI] at hp
    simp only [gos, eq_self, Nat.reduceLT, Nat.reduceEqDiff, reduceCtorEq, reduceIte, ↓reduceIte, tt, vgo, vout, vguard, callOf, vop, ev, cv, vbin, vint, isShift, isNilConst, vload, hil, hc4, i64_in (show -9223372036854775808 ≤ c.shovels + 1 by omega) (show c.shovels + 1 ≤ 9223372036854775807 by omega), i64_in (show -9223372036854775808 ≤ powI (c.shovels + 1) i * (c.shovels + 1) by omega) (show powI (c.shovels + 1) i * (c.shovels + 1) ≤ 9223372036854775807 by omega)]
    exact Nx.mk (i + 1) (show (c.last + 1).toNat - (i + 1) < (c.last + 1).toNat - i by omega) (by omega) (Wk.env (by simp [subE, Env.get, powI, i64_succ (show (i : Int) < 9223372036854775807 by omega)]))
  · have e : (c.last + 1).toNat = i := by omega
    simp only [gos, eq_self, Nat.reduceLT, Nat.reduceEqDiff, reduceCtorEq, reduceIte, ↓reduceIte, tt, vgo, vout, vguard, callOf, vop, ev, vbin, vint, isShift, isNilConst, vload, hil]
    subst hQ
    exact FnPost.plain trivial (fun h2 e => by first | rfl | (simp only [Try.f51, vres, vresL, vres1, e _, gos, if_true, if_false, ne_eq, eq_self, Nat.reduceLT, Nat.reduceEqDiff, Nat.reduceAdd, Nat.reduceMul, Nat.reduceLeDiff, Nat.reduceBEq, reduceCtorEq, reduceIte, Array.toList, ↓reduceIte, tt, vgo, vout, vgoD, voutD, vclsOk, vids, mayWrite, V.ids, V.mids, vguard, callOf, vop, ev, cv, vbin, vint, isShift, isNilConst, vnil, isNilSlice, vload, vlen, newRow, vfill, vslice, entOf, vappend, srcOf, vcopy, vlookup, vupdate, mapOk, keyOf, intsOf, clsAt]; try rfl)) (WkV.pure (by simp only [V.into])) ⟨by rw [rCoals, e], rfl⟩
/-- What is left of a number, and the last digits of it. -/
def dvN (s n : Int) : Nat → Int
  | 0 => n
  | j + 1 => (dvN s n j).tdiv s
def lowD (s n : Int) : Nat → List Int
  | 0 => []
  | j + 1 => (dvN s n j).tmod s :: lowD s n j
theorem lowD_len (s n : Int) : ∀ j, (lowD s n j).length = j
  | 0 => rfl
  | j + 1 => by rw [lowD, List.length_cons, lowD_len s n j]
theorem dvN_ge {s n : Int} (hn : 0 ≤ n) (hs : 1 ≤ s) : ∀ j, 0 ≤ dvN s n j ∧ dvN s n j ≤ n
  | 0 => ⟨hn, Int.le_refl _⟩
  | j + 1 => by
    have := dvN_ge hn hs j
    have h1 := Int.tdiv_nonneg this.1 (show 0 ≤ s by omega)
    have h2 := Int.tdiv_le_self s this.1
    simp only [dvN]; omega
theorem lowD_ok {s n : Int} (hn : 0 ≤ n) (hs : 1 ≤ s) : ∀ j, ∀ x ∈ lowD s n j, 0 ≤ x ∧ x ≤ s - 1
  | 0, x, h => by simp [lowD] at h
  | j + 1, x, h => by
    rw [lowD, List.mem_cons] at h
    rcases h with rfl | h
    · exact tmod_le (dvN_ge hn hs j).1 hs
    · exact lowD_ok hn hs j x h
def rCoal (c : Cu) (n : Int) : List Int := lowD (c.shovels + 1) n (c.last + 1).toNat
theorem rCoal_len (c : Cu) (n : Int) : (rCoal c n).length = (c.last + 1).toNat := lowD_len _ _ _
theorem rCoal_ok {c : Cu} (k0 : CuOk c) {n : Int} (hn : 0 ≤ n) : ((rCoal c n).length : Int) = c.last + 1 ∧ ∀ x ∈ rCoal c n, 0 ≤ x ∧ x ≤ c.shovels :=
  ⟨by rw [rCoal_len]; have := k0.last; omega, fun x hx => by have := lowD_ok hn (s := c.shovels + 1) (by have := k0.shovels; omega) _ x hx; omega⟩
set_option maxHeartbeats 1000000 in
theorem c_rCoal0 (c : Cu) (k0 : CuOk c) (n : Int) (hn : 0 ≤ n ∧ n ≤ 100000) : Ev Try.prog (.fn 50 [] []) [.agg c.cs, vi n] [] fun v h' => v = .own 10 0 0 1 (c.last + 1).toNat ∧ h' = [(10, ⟨0, .row (cI (rCoal c n))⟩)] := by
  have hl := k0.last
  have hs := k0.shovels
  have hge : 0 ≤ c.last + 1 := by omega
  have hle : c.last + 1 ≤ 1000000 := by omega
  refine Ev.fn Try.func50 rfl rfl (Fn.body tabOk Try.func50 rfl (Nat.le_of_ble_eq_true rfl) (Ks.ok (fz := (fzn [])) (cl := (cln [(5, .d tg0 [cP, cP, cP, cP, cP, cP, cP, cP, cP, cP, cP, cP, cP, cW, cP])])) tabOk mixed ?_))
  generalize hQ : FnPost tt Try.f50 _ _ = Q
  simp only [Try.f50, List.nil_append, List.append_nil, argsEnv, Nat.reduceAdd]
  have hc4 : (List.drop 4 c.cs).head? = some (vi c.shovels) := rfl
  have hz : zeros [V.int IntKind.i64 0] (c.last + 1).toNat = cI (List.replicate (c.last + 1).toNat 0) := zeros_vi _
  simp only [gos, eq_self, Nat.reduceLT, Nat.reduceEqDiff, Nat.reduceLeDiff, reduceCtorEq, reduceIte, ↓reduceIte, tt, vgo, vout, vguard, callOf, vop, ev, cv, vbin, vint, isShift, isNilConst, vload, newRow, i64_in (show -9223372036854775808 ≤ c.last + 1 by omega) (show c.last + 1 ≤ 9223372036854775807 by omega), hge, hle, hz]
  refine W.loop tabOk mixed (fun j : Nat => ([(1, vi (dvN (c.shovels + 1) n j)), (2, .rop c.cs), (5, .own 10 0 0 1 (c.last + 1).toNat), (6, vi (c.last - j))], [(10, ⟨0, .row (cI (List.replicate ((c.last + 1).toNat - j) 0 ++ lowD (c.shovels + 1) n j))⟩)])) (fun j => (c.last + 1).toNat - j) (fun j => j ≤ (c.last + 1).toNat) 0 (by omega) (Wk.heap (fun i => by simp [lowD]) (by simp [subE, Env.get, dvN])) ?_
  intro j hj
  by_cases hjl : (j : Int) ≤ c.last
  · have h0 : 0 ≤ c.last - j := by omega
    have h1 : c.last - j < ((c.last + 1).toNat : Int) := by omega
    have hd := dvN_ge hn.1 (s := c.shovels + 1) (by omega) j
    have hz : ¬ c.shovels + 1 = 0 := by omega
    have ht : (c.last - (j : Int)).toNat = (c.last + 1).toNat - (j + 1) := by omega
    have hlen : (c.last + 1).toNat - (j + 1) + 1 ≤ (cI (List.replicate ((c.last + 1).toNat - j) 0 ++ lowD (c.shovels + 1) n j)).length := by
      rw [cI_len, List.length_append, List.length_replicate]; omega
    have hset : List.take ((c.last + 1).toNat - (j + 1)) (cI (List.replicate ((c.last + 1).toNat - j) 0 ++ lowD (c.shovels + 1) n j)) ++ [V.int IntKind.i64 ((dvN (c.shovels + 1) n j).tmod (c.shovels + 1))] ++ List.drop ((c.last + 1).toNat - (j + 1) + 1) (cI (List.replicate ((c.last + 1).toNat - j) 0 ++ lowD (c.shovels + 1) n j)) = cI (List.replicate ((c.last + 1).toNat - (j + 1)) 0 ++ lowD (c.shovels + 1) n (j + 1)) := by
      have e : List.replicate ((c.last + 1).toNat - j) (0 : Int) = List.replicate ((c.last + 1).toNat - (j + 1)) 0 ++ [0] := by
        rw [show (c.last + 1).toNat - j = (c.last + 1).toNat - (j + 1) + 1 by omega, List.replicate_succ']
      rw [cI_set _ (by rw [List.length_append, List.length_replicate]; omega), e, lowD]
      congr 1
      rw [List.append_assoc, List.set_append, if_neg (by simp)]
      simp
    have hdv : 0 ≤ (dvN (c.shovels + 1) n j).tdiv (c.shovels + 1) := Int.tdiv_nonneg hd.1 (by omega)
    have hdl := Int.tdiv_le_self (c.shovels + 1) hd.1
    simp only [gos, eq_self, Nat.reduceLT, Nat.reduceEqDiff, reduceIte, ↓reduceIte, vgo, vout, vguard, callOf, vop, ev, cv, vbin, vint, isShift, isNilConst, h0]
    refine Wr.draw (by kernel_rfl) ?_
    simp only [gos, eq_self, Nat.reduceLT, Nat.reduceEqDiff, Nat.reduceAdd, reduceCtorEq, reduceIte, ↓reduceIte, tt, vgo, vout, vgoD, voutD, vclsOk, vids, mayWrite, V.ids, vguard, callOf, vop, ev, cv, vbin, vint, isShift, isNilConst, vload, clsAt, hc4, hz, h0, h1, ht, hlen, Nat.zero_add, Nat.mul_one, i64_in (show -9223372036854775808 ≤ c.shovels + 1 by omega) (show c.shovels + 1 ≤ 9223372036854775807 by omega), i64_in (show -9223372036854775808 ≤ (dvN (c.shovels + 1) n j).tdiv (c.shovels + 1) by omega) (show (dvN (c.shovels + 1) n j).tdiv (c.shovels + 1) ≤ 9223372036854775807 by omega)]
    rw [hset]
    exact Nx.mk (j + 1) (show (c.last + 1).toNat - (j + 1) < (c.last + 1).toNat - j by omega) (by omega) (Wk.env (by simp [subE, Env.get, dvN, i64_in (show -9223372036854775808 ≤ c.last - j - 1 by omega) (show c.last - j - 1 ≤ 9223372036854775807 by omega)]; omega))
  · have h0 : ¬ 0 ≤ c.last - j := by omega
    have e : (c.last + 1).toNat = j := by omega
    simp only [gos, eq_self, Nat.reduceLT, Nat.reduceEqDiff, reduceIte, ↓reduceIte, vgo, vout, vguard, callOf, vop, ev, cv, vbin, vint, isShift, isNilConst, h0]
    subst hQ
    refine FnPost.plain trivial (v := .own 10 0 0 1 (c.last + 1).toNat) (fun h2 e => by rfl) WkV.refl ⟨rfl, ?_⟩
    rw [rCoal, e]; simp
theorem c_rCoal (c : Cu) (k0 : CuOk c) (n : Int) (hn : 0 ≤ n ∧ n ≤ 100000) : Pu Try.prog (.fn 50 [] []) [.agg c.cs, vi n] (vI (rCoal c n)) :=
  (c_rCoal0 c k0 n hn).weakV fun v h' ⟨e1, e2⟩ => by
    subst e1; subst e2
    have hl := rCoal_len c n
    have ht : (cI (rCoal c n)).take (c.last + 1).toNat = cI (rCoal c n) := List.take_of_length_le (by rw [cI_len]; omega)
    refine ⟨vI (rCoal c n), [], WkV.frz 10 (v' := vI (rCoal c n)) (h' := []) (ver := 0) (cs := cI (rCoal c n)) rfl rfl (cI_into _ _) rfl ?_ ?_ WkV.refl, rfl, rfl⟩
    · simp [V.frz, vI, ht, hl]
    · simp [frzH]
/-! ### words -/
end Go.Vm

set_option linter.unusedVariables false
set_option linter.unusedSimpArgs false
set_option maxRecDepth 100000
namespace Go.Vm
open Go.Proofs
/-! ### the least coal of the reference -/
theorem sum_take {l : List Int} {i : Nat} (h : (i : Int) < l.length) : (l.take (i + 1)).sum = (l.take i).sum + gi l i := by
  have e : l.take (i + 1) = l.take i ++ [gi l i] := by
    rw [List.take_add_one, List.getElem?_eq_getElem (by omega), gi, Int.toNat_natCast, List.getD_eq_getElem?_getD, List.getElem?_eq_getElem (by omega)]; rfl
  rw [e, List.sum_append]; simp
theorem sum_le {l : List Int} (h : ∀ x ∈ l, 0 ≤ x ∧ x ≤ 3) : 0 ≤ l.sum ∧ l.sum ≤ 3 * l.length := by
  induction l with
  | nil => simp
  | cons x l ih =>
    have h1 := ih fun y hy => h y (by simp [hy])
    have h2 := h x (by simp)
    simp only [List.sum_cons, List.length_cons]; omega
theorem c_rShovels (l : List Int) (hl : (l.length : Int) ≤ 1000000) (h : ∀ x ∈ l, 0 ≤ x ∧ x ≤ 3) : Pu Try.prog (.fn 66 [] []) [vI l] (vi l.sum) := by
  refine Ev.fn Try.func66 rfl rfl (Fn.body tabOk Try.func66 rfl (Nat.le_of_ble_eq_true rfl) (Ks.ok (fz := (fzn [])) (cl := (cln [])) tabOk mixed ?_))
  generalize hQ : FnPost tt Try.f66 _ _ = Q
  simp only [Try.f66, List.nil_append, List.append_nil, argsEnv]
  simp only [gos, eq_self, Nat.reduceLT, reduceIte, ↓reduceIte, vgo, vout, vguard, callOf, vop, ev, cv]
  refine W.loop tabOk mixed (fun i : Nat => ([(0, vI l), (3, vi (l.take i).sum), (4, vi i)], [])) (fun i => l.length - i) (fun i => i ≤ l.length) 0 (by omega) (Wk.env (by simp [subE, Env.get])) ?_
  intro i hi
  by_cases hil : (i : Int) < l.length
  · have hs := sum_take hil
    have hb := sum_le (l := l.take (i + 1)) fun x hx => h x (List.mem_of_mem_take hx)
    have hb2 : (l.take (i + 1)).length ≤ l.length := by rw [List.length_take]; omega
    rw [hs] at hb
    simp only [gos, eq_self, Nat.reduceLT, Nat.reduceEqDiff, reduceCtorEq, reduceIte, ↓reduceIte, tt, vgo, vout, vguard, callOf, vop, ev, cv, vbin, vint, isShift, isNilConst, vload, vlen, vI, hil, cI_at (Int.natCast_nonneg i) hil, i64_in (show -9223372036854775808 ≤ (l.take i).sum + gi l i by omega) (show (l.take i).sum + gi l i ≤ 9223372036854775807 by omega)]
    exact Nx.mk (i + 1) (show l.length - (i + 1) < l.length - i by omega) (by omega) (Wk.env (by simp [subE, Env.get, hs, i64_succ (show (i : Int) < 9223372036854775807 by omega)]))
  · have e : l.take i = l := List.take_of_length_le (by omega)
    simp only [gos, eq_self, Nat.reduceLT, Nat.reduceEqDiff, reduceCtorEq, reduceIte, ↓reduceIte, tt, vgo, vout, vguard, callOf, vop, ev, vbin, vint, isShift, isNilConst, vlen, vI, hil, e]
    subst hQ
    exact FnPost.plain trivial (fun h2 e => by first | rfl | (simp only [Try.f66, vres, vresL, vres1, e _, gos, if_true, if_false, ne_eq, eq_self, Nat.reduceLT, Nat.reduceEqDiff, Nat.reduceAdd, Nat.reduceMul, Nat.reduceLeDiff, Nat.reduceBEq, reduceCtorEq, reduceIte, Array.toList, ↓reduceIte, tt, vgo, vout, vgoD, voutD, vclsOk, vids, mayWrite, V.ids, V.mids, vguard, callOf, vop, ev, cv, vbin, vint, isShift, isNilConst, vnil, isNilSlice, vload, vlen, newRow, vfill, vslice, entOf, vappend, srcOf, vcopy, vlookup, vupdate, mapOk, keyOf, intsOf, clsAt]; try rfl)) (WkV.pure (by simp only [V.into])) ⟨rfl, rfl⟩
def bV : Option (List Int) → V
  | none => .sl0
  | some b => vI b
def lessO (x : List Int) : Option (List Int) → Bool
  | none => true
  | some b => decide (x.sum < b.sum)
def leastStep (c : Cu) (l : List Tr2) (o : Option (List Int)) (n : Nat) : Option (List Int) :=
  if (lessO (rCoal c n) o && decide (rWholes c l (rCoal c n) c.want = 1)) = true then some (rCoal c n) else o
def rLeastN (c : Cu) (l : List Tr2) (i : Nat) : Option (List Int) := (List.range i).foldl (leastStep c l) none
theorem rLeastN_succ (c : Cu) (l : List Tr2) (i : Nat) : rLeastN c l (i + 1) = leastStep c l (rLeastN c l i) i := by simp only [rLeastN, List.range_succ, List.foldl_append]; rfl
def rLeast (c : Cu) (l : List Tr2) : Option (List Int) := rLeastN c l (rCoals c).toNat
theorem rLeastN_ok {c : Cu} (k0 : CuOk c) (l : List Tr2) : ∀ i b, rLeastN c l i = some b → (b.length : Int) = c.last + 1 ∧ ∀ x ∈ b, 0 ≤ x ∧ x ≤ c.shovels
  | 0, b, h => by simp [rLeastN] at h
  | i + 1, b, h => by
    rw [rLeastN_succ, leastStep] at h
    split at h
    · injection h with h; subst h; exact rCoal_ok k0 (Int.natCast_nonneg i)
    · exact rLeastN_ok k0 l i b h
theorem coal_tr {c : Cu} (k0 : CuOk c) {coal : List Int} (h : (coal.length : Int) = c.last + 1 ∧ ∀ x ∈ coal, 0 ≤ x ∧ x ≤ c.shovels) {t : Tr2} (T : T2Ok c t) : TrOk c t coal c.want := ⟨coal_play k0 h T.sc, T.len⟩
set_option maxHeartbeats 1000000 in
theorem c_rLeast (c : Cu) (k0 : CuOk c) (l : List Tr2) (hl : (l.length : Int) ≤ 1000000) (hok : ∀ t ∈ l, T2Ok c t) : Pu Try.prog (.fn 67 [] []) [.agg c.cs, vT l] (.tup [vI ((rLeast c l).getD []), .bool (rLeast c l).isSome]) := by
  have hC := rCoals_le k0
  have hsh := k0.shovels
  have hla := k0.last
  refine Ev.fn Try.func67 rfl rfl (Fn.body tabOk Try.func67 rfl (Nat.le_of_ble_eq_true rfl) (Ks.ok (fz := (fzn [])) (cl := (cln [])) tabOk mixed ?_))
  generalize hQ : FnPost tt Try.f67 _ _ = Q
  simp only [Try.f67, List.nil_append, List.append_nil, argsEnv, Nat.reduceAdd]
  simp only [gos, eq_self, Nat.reduceLT, reduceIte, ↓reduceIte, vgo, vout, vguard, callOf, vop, ev, cv, newRow]
  refine W.loop tabOk mixed (fun i : Nat => ([(1, vT l), (2, .rop c.cs), (6, bV (rLeastN c l i)), (7, .bool (rLeastN c l i).isSome), (8, vi i)], [])) (fun i => (rCoals c).toNat - i) (fun i => i ≤ (rCoals c).toNat) 0 (by omega) (Wk.env (by simp [subE, Env.get, rLeastN, bV])) ?_
  intro i hi
  have hc6 : (List.drop 6 c.cs).head? = some (vI c.want) := rfl
  simp only [gos, eq_self, Nat.reduceLT, Nat.reduceEqDiff, reduceCtorEq, reduceIte, ↓reduceIte, tt, vgo, vout, vguard, callOf, vop, ev, vload]
  refine Cl.pu (c_rCoals c k0) ?_ rfl (by simp only [V.into, intoL, cu_into, Bool.and_true])
  by_cases hil : (i : Int) < rCoals c
  · have hx := rCoal_ok k0 (n := i) (by omega)
    have hstep := rLeastN_succ c l i
    have hprev := rLeastN_ok k0 l i
    have hsucc := i64_succ (show (i : Int) < 9223372036854775807 by omega)
    have hW := c_rWholes c l (rCoal c i) c.want hl (fun t ht => coal_tr k0 hx (hok t ht))
    simp only [gos, eq_self, Nat.reduceLT, Nat.reduceEqDiff, reduceCtorEq, reduceIte, ↓reduceIte, tt, vgo, vout, vguard, callOf, vop, ev, vbin, vint, isShift, isNilConst, vload, hil]
    refine Cl.pu (c_rCoal c k0 i (by omega)) ?_ rfl (by simp only [V.into, intoL, cu_into, Bool.and_true])
    generalize hxe : rCoal c i = x at hx hstep hW ⊢
    cases ho : rLeastN c l i with
    | none =>
      rw [ho, leastStep, hxe, lessO] at hstep
      simp only [gos, eq_self, Nat.reduceLT, Nat.reduceEqDiff, reduceCtorEq, reduceIte, ↓reduceIte, tt, vgo, vout, vguard, callOf, vop, ev, cv, vload, bV, Option.isSome, hc6]
      refine Cl.pu hW ?_ rfl (by simp only [V.into, intoL, vI_into, cu_into, Bool.and_true, vT_into])
      by_cases hw1 : rWholes c l x c.want = 1
      · have hb : decide (rWholes c l x c.want = 1) = true := by simp [hw1]
        rw [hb] at hstep
        rw [Bool.and_self, if_pos rfl] at hstep
        simp only [gos, eq_self, Nat.reduceLT, Nat.reduceEqDiff, reduceIte, ↓reduceIte, vgo, vout, vguard, callOf, vop, ev, cv, vbin, vint, isShift, isNilConst, hb]
        exact Nx.mk (i + 1) (show (rCoals c).toNat - (i + 1) < (rCoals c).toNat - i by omega) (by omega) (by rw [hstep]; exact Wk.env (by simp [subE, Env.get, hsucc]))
      · have hb : decide (rWholes c l x c.want = 1) = false := by simp [hw1]
        rw [hb] at hstep
        rw [Bool.and_false, if_neg (by simp)] at hstep
        simp only [gos, eq_self, Nat.reduceLT, Nat.reduceEqDiff, reduceIte, ↓reduceIte, vgo, vout, vguard, callOf, vop, ev, cv, vbin, vint, isShift, isNilConst, hb]
        exact Nx.mk (i + 1) (show (rCoals c).toNat - (i + 1) < (rCoals c).toNat - i by omega) (by omega) (by rw [hstep]; exact Wk.env (by simp [subE, Env.get, hsucc]))
    | some b =>
      have hbo := hprev b ho
      rw [ho, leastStep, hxe, lessO] at hstep
      simp only [gos, eq_self, Nat.reduceLT, Nat.reduceEqDiff, reduceIte, ↓reduceIte, vgo, vout, vguard, callOf, vop, ev, bV, Option.isSome]
      refine Cl.pu (c_rShovels x (by omega) (fun y hy => by have := hx.2 y hy; omega)) ?_ rfl (by simp only [intoL, vI_into, Bool.and_true])
      simp only [gos, eq_self, Nat.reduceLT, Nat.reduceEqDiff, reduceIte, ↓reduceIte, vgo, vout, vguard, callOf, vop, ev]
      refine Cl.pu (c_rShovels b (by omega) (fun y hy => by have := hbo.2 y hy; omega)) ?_ rfl (by simp only [intoL, vI_into, Bool.and_true])
      by_cases hs : x.sum < b.sum
      · have hsd : decide (x.sum < b.sum) = true := by simp [hs]
        rw [hsd, Bool.true_and] at hstep
        simp only [gos, eq_self, Nat.reduceLT, Nat.reduceEqDiff, reduceCtorEq, reduceIte, ↓reduceIte, tt, vgo, vout, vguard, callOf, vop, ev, vbin, vint, isShift, isNilConst, vload, hs, hc6]
        refine Cl.pu hW ?_ rfl (by simp only [V.into, intoL, vI_into, cu_into, Bool.and_true, vT_into])
        by_cases hw1 : rWholes c l x c.want = 1
        · have hb : decide (rWholes c l x c.want = 1) = true := by simp [hw1]
          rw [hb, if_pos rfl] at hstep
          simp only [gos, eq_self, Nat.reduceLT, Nat.reduceEqDiff, reduceIte, ↓reduceIte, vgo, vout, vguard, callOf, vop, ev, cv, vbin, vint, isShift, isNilConst, hb]
          exact Nx.mk (i + 1) (show (rCoals c).toNat - (i + 1) < (rCoals c).toNat - i by omega) (by omega) (by rw [hstep]; exact Wk.env (by simp [subE, Env.get, hsucc]))
        · have hb : decide (rWholes c l x c.want = 1) = false := by simp [hw1]
          rw [hb, if_neg (by simp)] at hstep
          simp only [gos, eq_self, Nat.reduceLT, Nat.reduceEqDiff, reduceIte, ↓reduceIte, vgo, vout, vguard, callOf, vop, ev, cv, vbin, vint, isShift, isNilConst, hb]
          exact Nx.mk (i + 1) (show (rCoals c).toNat - (i + 1) < (rCoals c).toNat - i by omega) (by omega) (by rw [hstep]; exact Wk.env (by simp [subE, Env.get, hsucc]))
      · have hsd : decide (x.sum < b.sum) = false := by simp [hs]
        rw [hsd, Bool.false_and, if_neg (by simp)] at hstep
        simp only [gos, eq_self, Nat.reduceLT, Nat.reduceEqDiff, reduceIte, ↓reduceIte, vgo, vout, vguard, callOf, vop, ev, cv, vbin, vint, isShift, isNilConst, hs]
        exact Nx.mk (i + 1) (show (rCoals c).toNat - (i + 1) < (rCoals c).toNat - i by omega) (by omega) (by rw [hstep]; exact Wk.env (by simp [subE, Env.get, hsucc]))
  · have hie : (rCoals c).toNat = i := by omega
    simp only [gos, eq_self, Nat.reduceLT, Nat.reduceEqDiff, reduceIte, ↓reduceIte, vgo, vout, vguard, callOf, vop, ev, vbin, vint, isShift, isNilConst, hil]
    subst hQ
    rw [rLeast, hie]
    cases ho : rLeastN c l i with
    | none => exact FnPost.plain trivial (v := .tup [.sl0, .bool false]) (fun h2 e => by rfl) WkV.nil1 ⟨rfl, rfl⟩
    | some b => exact FnPost.plain trivial (v := .tup [vI b, .bool true]) (fun h2 e => by rfl) WkV.refl ⟨rfl, rfl⟩
end Go.Vm

set_option linter.unusedVariables false
set_option linter.unusedSimpArgs false
set_option maxRecDepth 100000
namespace Go.Vm
open Go.Proofs
/-! ### sets of readings, by bits -/
/-! ### before, shorter -/
def lBefore : List Int → List Int → Bool
  | [], b => decide (0 < b.length)
  | _ :: _, [] => false
  | x :: a, y :: b => if x = y then lBefore a b else decide (x < y)
end Go.Vm

set_option linter.unusedVariables false
set_option linter.unusedSimpArgs false
set_option maxRecDepth 100000
namespace Go.Vm
/-! ### the least coal: the program's search and the reference's are the same -/
def digs (s : Int) : Nat → List (List Int)
  | 0 => [[]]
  | k + 1 => (rangeI 0 s).flatMap fun n => (digs s k).map (n :: ·)
theorem digs_mem {s : Int} : ∀ {k : Nat} {l : List Int}, l ∈ digs s k ↔ l.length = k ∧ ∀ x ∈ l, 0 ≤ x ∧ x ≤ s
  | 0, l => by
    rw [digs, List.mem_singleton]
    constructor
    · rintro rfl; exact ⟨rfl, fun x hx => by simp at hx⟩
    · rintro ⟨h, _⟩; exact List.length_eq_zero_iff.1 h
  | k + 1, l => by
    simp only [digs, List.mem_flatMap, mem_rangeI, List.mem_map]
    constructor
    · rintro ⟨n, hn, m, hm, rfl⟩
      have := digs_mem.1 hm
      exact ⟨by simp [this.1], fun x hx => by rcases List.mem_cons.1 hx with rfl | h; exact hn; exact this.2 x h⟩
    · rintro ⟨h1, h2⟩
      cases l with
      | nil => simp at h1
      | cons x l => exact ⟨x, h2 x (by simp), l, digs_mem.2 ⟨by simpa using h1, fun y hy => h2 y (by simp [hy])⟩, rfl⟩
theorem pw_less {α : Type} {R S : α → α → Prop} (h : ∀ {a b : α}, R a b → S a b) : ∀ {l : List α}, l.Pairwise R → l.Pairwise S
  | [], _ => .nil
  | a :: l, p => by rw [List.pairwise_cons] at p ⊢; exact ⟨fun b hb => h (p.1 b hb), pw_less h p.2⟩
theorem rangeI_pair (lo hi : Int) : (rangeI lo hi).Pairwise (· < ·) := by
  rw [rangeI, List.pairwise_map]
  exact pw_less (fun h => by omega) List.pairwise_lt_range
theorem digs_pair (s : Int) : ∀ k, (digs s k).Pairwise (fun a b => lBefore a b = true)
  | 0 => by simp [digs]
  | k + 1 => by
    rw [digs, List.pairwise_flatMap]
    refine ⟨fun n _ => ?_, pw_less (fun {a b} hab x hx y hy => ?_) (rangeI_pair 0 s)⟩
    · rw [List.pairwise_map]; exact pw_less (fun h => by simpa [lBefore] using h) (digs_pair s k)
    · obtain ⟨x, _, rfl⟩ := List.mem_map.1 hx
      obtain ⟨y, _, rfl⟩ := List.mem_map.1 hy
      simp only [lBefore]
      rw [if_neg (by omega)]; simp [hab]
theorem lBefore_asymm : ∀ {a b : List Int}, lBefore a b = true → lBefore b a = false
  | [], [], h => by simp [lBefore] at h
  | [], _ :: _, _ => rfl
  | _ :: _, [], h => by simp [lBefore] at h
  | x :: a, y :: b, h => by
    simp only [lBefore] at h ⊢
    by_cases e : x = y
    · rw [if_pos e] at h; rw [if_pos e.symm]; exact lBefore_asymm h
    · rw [if_neg e] at h; rw [if_neg (Ne.symm e)]; simp at h ⊢; omega
theorem rangeI_split {lo a hi : Int} (h1 : lo ≤ a + 1) (h2 : a ≤ hi) : rangeI lo hi = rangeI lo a ++ rangeI (a + 1) hi := by
  have e : (hi + 1 - lo).toNat = (a + 1 - lo).toNat + (hi + 1 - (a + 1)).toNat := by omega
  simp only [rangeI, e, List.range_add, List.map_append, List.map_map]
  congr 1
  apply List.map_congr_left
  intro i _
  simp only [Function.comp]; omega
theorem find_cut {α : Type} {f : Int → Option α} {s m : Int} (h : ∀ n, m < n → f n = none) : (rangeI 0 (min s m)).findSome? f = (rangeI 0 s).findSome? f := by
  by_cases hs : s ≤ m
  · rw [Int.min_eq_left hs]
  · rw [Int.min_eq_right (by omega)]
    by_cases hm : m < 0
    · have e : rangeI 0 m = [] := by rw [rangeI, show (m + 1 - 0).toNat = 0 by omega]; rfl
      rw [e, List.findSome?_nil, eq_comm, List.findSome?_eq_none_iff]
      intro x hx
      have := mem_rangeI.1 hx
      exact h x (by omega)
    · rw [rangeI_split (a := m) (by omega) (show m ≤ s by omega), List.findSome?_append]
      have e : (rangeI (m + 1) s).findSome? f = none := by
        rw [List.findSome?_eq_none_iff]
        intro x hx
        have := mem_rangeI.1 hx
        exact h x (by omega)
      rw [e, Option.or_none]
theorem sum_range {s : Int} (hs : 0 ≤ s) : ∀ {l : List Int}, (∀ x ∈ l, 0 ≤ x ∧ x ≤ s) → 0 ≤ l.sum ∧ l.sum ≤ s * l.length
  | [], _ => by simp
  | x :: l, h => by
    have h1 := sum_range hs (l := l) fun y hy => h y (List.mem_cons_of_mem _ hy)
    have h2 := h x (by simp)
    rw [List.sum_cons, List.length_cons, Int.natCast_add, Int.mul_add]; omega
theorem addF_find (c : Cu) (P : List Int → Bool) (hs : 0 ≤ c.shovels) : ∀ (k : Nat) (coal : List Int) (many : Int),
    addF c P k coal many = (((digs c.shovels k).filter fun l => decide (l.sum = many)).map (coal ++ ·)).find? P
  | 0, coal, many => by
    by_cases h : many = 0
    · subst h
      cases hp : P coal <;> simp [addF, digs, hp]
    · have h' : ¬ (0 : Int) = many := fun e => h e.symm
      simp [addF, digs, h, h']
  | k + 1, coal, many => by
    have e : ∀ n, addF c P k (coal ++ [n]) (many - n) = ((((digs c.shovels k).map (n :: ·)).filter fun l => decide (l.sum = many)).map (coal ++ ·)).find? P := by
      intro n
      rw [addF_find c P hs k, List.filter_map, List.map_map]
      congr 1
      have e1 : (List.filter ((fun l : List Int => decide (l.sum = many)) ∘ fun x => n :: x) (digs c.shovels k)) = List.filter (fun l => decide (l.sum = many - n)) (digs c.shovels k) := by
        apply List.filter_congr
        intro l _
        exact decide_eq_decide.2 (by rw [List.sum_cons]; omega)
      rw [e1]
      apply List.map_congr_left
      intro l _
      simp
    rw [addF, digs, List.filter_flatMap, List.map_flatMap, List.find?_flatMap]
    rw [find_cut]
    · congr 1
      funext n
      exact e n
    · intro n hn
      rw [e n, List.find?_eq_none]
      intro x hx
      obtain ⟨y, hy, rfl⟩ := List.mem_map.1 hx
      obtain ⟨h1, h2⟩ := List.mem_filter.1 hy
      obtain ⟨z, hz, rfl⟩ := List.mem_map.1 h1
      have := sum_range hs (digs_mem.1 hz).2
      rw [decide_eq_true_eq, List.sum_cons] at h2
      omega
structure IsLeast (s : Int) (k : Nat) (P : List Int → Bool) (l : List Int) : Prop where
  mem : l ∈ digs s k
  is : P l = true
  min : ∀ x ∈ digs s k, P x = true → l.sum < x.sum ∨ (l.sum = x.sum ∧ (l = x ∨ lBefore l x = true))
theorem IsLeast.one {s : Int} {k : Nat} {P : List Int → Bool} {a b : List Int} (ha : IsLeast s k P a) (hb : IsLeast s k P b) : a = b := by
  rcases ha.min b hb.mem hb.is with h | ⟨h, e | e⟩
  · rcases hb.min a ha.mem ha.is with h2 | ⟨h2, _⟩ <;> omega
  · exact e
  · rcases hb.min a ha.mem ha.is with h2 | ⟨h2, e2 | e2⟩
    · omega
    · exact e2.symm
    · rw [lBefore_asymm e] at e2; simp at e2
theorem pair_find {l : List (List Int)} (hp : l.Pairwise (fun a b => lBefore a b = true)) {P : List Int → Bool} {a : List Int} (h : l.find? P = some a) : a ∈ l ∧ P a = true ∧ ∀ x ∈ l, P x = true → a = x ∨ lBefore a x = true := by
  obtain ⟨h1, l1, l2, rfl, h2⟩ := List.find?_eq_some_iff_append.1 h
  refine ⟨by simp, h1, fun x hx hP => ?_⟩
  rcases List.mem_append.1 hx with hx | hx
  · have := h2 x hx; simp [hP] at this
  · rcases List.mem_cons.1 hx with rfl | hx
    · exact .inl rfl
    · have := (List.pairwise_append.1 hp).2.1
      exact .inr ((List.pairwise_cons.1 this).1 x hx)
theorem findSome_first {α : Type} {f : Int → Option α} {lo hi : Int} {b : α} (h : (rangeI lo hi).findSome? f = some b) : ∃ a, lo ≤ a ∧ a ≤ hi ∧ f a = some b ∧ ∀ x, lo ≤ x → x < a → f x = none := by
  obtain ⟨l1, a, l2, e, h1, h2⟩ := List.findSome?_eq_some_iff.1 h
  have ha : a ∈ rangeI lo hi := by rw [e]; simp
  have hp := rangeI_pair lo hi
  rw [e] at hp
  have ham := mem_rangeI.1 ha
  refine ⟨a, ham.1, ham.2, h1, fun x hx hxa => ?_⟩
  have hx2 : x ∈ rangeI lo hi := mem_rangeI.2 ⟨hx, by omega⟩
  rw [e] at hx2
  rcases List.mem_append.1 hx2 with hx3 | hx3
  · exact h2 x hx3
  · rcases List.mem_cons.1 hx3 with rfl | hx3
    · omega
    · have := (List.pairwise_cons.1 (List.pairwise_append.1 hp).2.1).1 x hx3
      omega
theorem leastF_some {c : Cu} (k0 : CuOk c) {l : List Int} (h : leastF c = some l) : IsLeast c.shovels (c.last + 1).toNat (sSureP c) l := by
  have hs := k0.shovels.1
  obtain ⟨m, h0, h1, h2, h3⟩ := findSome_first h
  rw [addF_find c _ hs] at h2
  simp only [List.nil_append, List.map_id'] at h2
  obtain ⟨g1, g2, g3⟩ := pair_find ((digs_pair c.shovels (c.last + 1).toNat).filter _) h2
  obtain ⟨g1, g4⟩ := List.mem_filter.1 g1
  have g4 : l.sum = m := by simpa using g4
  refine ⟨g1, g2, fun x hx hP => ?_⟩
  have hx0 := (sum_range hs (digs_mem.1 hx).2).1
  rcases Int.lt_trichotomy x.sum m with hlt | heq | hgt
  · have := h3 x.sum hx0 hlt
    rw [addF_find c _ hs] at this
    simp only [List.nil_append, List.map_id', List.find?_eq_none] at this
    have := this x (List.mem_filter.2 ⟨hx, by simp⟩)
    simp [hP] at this
  · exact .inr ⟨by omega, g3 x (List.mem_filter.2 ⟨hx, by simp [heq]⟩) hP⟩
  · exact .inl (by omega)
theorem leastF_none {c : Cu} (k0 : CuOk c) (h : leastF c = none) : ∀ x ∈ digs c.shovels (c.last + 1).toNat, sSureP c x = false := by
  have hs := k0.shovels.1
  intro x hx
  have hb := sum_range hs (digs_mem.1 hx).2
  rw [leastF, List.findSome?_eq_none_iff] at h
  have := h x.sum (mem_rangeI.2 ⟨hb.1, by rw [(digs_mem.1 hx).1] at hb; have e : ((c.last + 1).toNat : Int) = c.last + 1 := by have := k0.last; omega
                                          rw [e] at hb; exact hb.2⟩)
  rw [addF_find c _ hs] at this
  simp only [List.nil_append, List.map_id', List.find?_eq_none] at this
  have := this x (List.mem_filter.2 ⟨hx, by simp⟩)
  simpa using this
/-! the reference's numbers of coal, in order -/
theorem range_mul {α : Type} (f : Nat → α) (m : Nat) : ∀ s, (List.range (s * m)).map f = (List.range s).flatMap fun d => (List.range m).map fun j => f (d * m + j)
  | 0 => by simp
  | s + 1 => by rw [Nat.succ_mul, List.range_add, List.map_append, range_mul f m s, List.range_succ, List.flatMap_append]; simp [List.map_map, Function.comp_def]
theorem dvN_nat (S n : Nat) : ∀ j, dvN S n j = ((n / S ^ j : Nat) : Int)
  | 0 => by simp [dvN]
  | j + 1 => by rw [dvN, dvN_nat S n j, ← Int.ofNat_tdiv, Nat.div_div_eq_div_mul, Nat.pow_succ]
theorem lowD_add {S k : Nat} (hS : 1 ≤ S) (d j : Nat) : ∀ i, i ≤ k → lowD S ((d * S ^ k + j : Nat) : Int) i = lowD S j i
  | 0, _ => rfl
  | i + 1, h => by
    rw [lowD, lowD, lowD_add hS d j i (by omega), dvN_nat, dvN_nat, ← Int.ofNat_tmod, ← Int.ofNat_tmod]
    congr 2
    have e : d * S ^ k = S ^ i * (S * (d * S ^ (k - i - 1))) := by
      have : S ^ k = S ^ i * S * S ^ (k - i - 1) := by rw [← Nat.pow_succ, ← Nat.pow_add]; congr 1; omega
      rw [this]; ac_rfl
    rw [e, Nat.mul_add_div (Nat.pow_pos hS), Nat.mul_add_mod]
theorem digs_eq (S : Nat) (hS : 1 ≤ S) : ∀ k, digs ((S : Int) - 1) k = (List.range (S ^ k)).map fun (n : Nat) => lowD S (n : Int) k
  | 0 => by simp [digs, lowD]
  | k + 1 => by
    rw [digs, digs_eq S hS k, Nat.pow_succ, Nat.mul_comm (S ^ k), range_mul]
    simp only [rangeI]
    rw [show ((S : Int) - 1 + 1 - 0).toNat = S by omega, List.flatMap_map]
    simp only [List.flatMap_def]
    congr 1
    apply List.map_congr_left
    intro d hd
    have hd := List.mem_range.1 hd
    rw [List.map_map]
    apply List.map_congr_left
    intro j hj
    have hj := List.mem_range.1 hj
    simp only [Function.comp, lowD]
    rw [lowD_add hS d j k (Nat.le_refl _), dvN_nat, ← Int.ofNat_tmod]
    congr 1
    have : (d * S ^ k + j) / S ^ k = d := by
      rw [Nat.mul_comm, Nat.mul_add_div (Nat.pow_pos hS), Nat.div_eq_of_lt hj]; rfl
    rw [this, Nat.mod_eq_of_lt hd]; omega
theorem powI_nat (S : Nat) : ∀ n, powI S n = ((S ^ n : Nat) : Int)
  | 0 => rfl
  | n + 1 => by rw [powI, powI_nat S n, Nat.pow_succ, Int.natCast_mul]
theorem coals_eq {c : Cu} (k0 : CuOk c) : digs c.shovels (c.last + 1).toNat = (List.range (rCoals c).toNat).map fun (n : Nat) => rCoal c n := by
  have hs := k0.shovels
  obtain ⟨S, hS⟩ : ∃ S : Nat, (S : Int) = c.shovels + 1 := ⟨(c.shovels + 1).toNat, by omega⟩
  have e := digs_eq S (by omega) (c.last + 1).toNat
  rw [show (S : Int) - 1 = c.shovels by omega] at e
  rw [e, rCoals, ← hS, powI_nat, Int.toNat_natCast]
  simp only [rCoal, hS]
theorem coal_mem {c : Cu} (k0 : CuOk c) {n : Nat} (h : n < (rCoals c).toNat) : rCoal c n ∈ digs c.shovels (c.last + 1).toNat := by
  rw [coals_eq k0]; exact List.mem_map.2 ⟨n, List.mem_range.2 h, rfl⟩
theorem coal_surj {c : Cu} (k0 : CuOk c) {x : List Int} (h : x ∈ digs c.shovels (c.last + 1).toNat) : ∃ n : Nat, n < (rCoals c).toNat ∧ rCoal c n = x := by
  rw [coals_eq k0] at h
  obtain ⟨n, hn, rfl⟩ := List.mem_map.1 h
  exact ⟨n, List.mem_range.1 hn, rfl⟩
theorem coal_lt {c : Cu} (k0 : CuOk c) {i j : Nat} (hij : i < j) (h : j < (rCoals c).toNat) : lBefore (rCoal c i) (rCoal c j) = true := by
  have hp := digs_pair c.shovels (c.last + 1).toNat
  rw [coals_eq k0, List.pairwise_map, List.pairwise_iff_getElem] at hp
  have := hp i j (by simp; omega) (by simp; omega) hij
  simpa using this
theorem rLeastN_min {c : Cu} (k0 : CuOk c) (l : List Tr2) : ∀ i, i ≤ (rCoals c).toNat →
    match rLeastN c l i with
    | none => ∀ j : Nat, j < i → decide (rWholes c l (rCoal c j) c.want = 1) = false
    | some b => (∃ j : Nat, j < i ∧ b = rCoal c j) ∧ decide (rWholes c l b c.want = 1) = true ∧ ∀ j : Nat, j < i → decide (rWholes c l (rCoal c j) c.want = 1) = true → b.sum < (rCoal c j).sum ∨ (b.sum = (rCoal c j).sum ∧ (b = rCoal c j ∨ lBefore b (rCoal c j) = true))
  | 0, _ => by simp [rLeastN]
  | i + 1, hi => by
    have ih := rLeastN_min k0 l i (by omega)
    rw [rLeastN_succ, leastStep]
    cases ho : rLeastN c l i with
    | none =>
      rw [ho] at ih
      simp only [lessO, Bool.true_and]
      cases hw : decide (rWholes c l (rCoal c i) c.want = 1) with
      | false =>
        simp only [Bool.false_eq_true, if_false]
        intro j hj
        by_cases e : j = i
        · subst e; exact hw
        · exact ih j (by omega)
      | true =>
        simp only [if_true]
        refine ⟨⟨i, by omega, rfl⟩, hw, fun j hj hP => ?_⟩
        by_cases e : j = i
        · subst e; exact .inr ⟨rfl, .inl rfl⟩
        · rw [ih j (by omega)] at hP; simp at hP
    | some b =>
      rw [ho] at ih
      obtain ⟨⟨j0, hj0, hb⟩, h2, h3⟩ := ih
      simp only [lessO]
      cases hw : decide (rWholes c l (rCoal c i) c.want = 1) with
      | false =>
        simp only [Bool.and_false, Bool.false_eq_true, if_false]
        refine ⟨⟨j0, by omega, hb⟩, h2, fun j hj hP => ?_⟩
        by_cases e : j = i
        · subst e; rw [hw] at hP; simp at hP
        · exact h3 j (by omega) hP
      | true =>
        by_cases hlt : (rCoal c i).sum < b.sum
        · simp only [hlt, decide_true, Bool.and_self, if_true]
          refine ⟨⟨i, by omega, rfl⟩, hw, fun j hj hP => ?_⟩
          by_cases e : j = i
          · subst e; exact .inr ⟨rfl, .inl rfl⟩
          · rcases h3 j (by omega) hP with h | ⟨h, _⟩ <;> exact .inl (by omega)
        · simp only [hlt, decide_false, Bool.false_and, Bool.false_eq_true, if_false]
          refine ⟨⟨j0, by omega, hb⟩, h2, fun j hj hP => ?_⟩
          by_cases e : j = i
          · subst e
            rcases Int.lt_or_le b.sum (rCoal c j).sum with h | h
            · exact .inl h
            · exact .inr ⟨by omega, .inr (by rw [hb]; exact coal_lt k0 hj0 (by omega))⟩
          · exact h3 j (by omega) hP
theorem rLeast_some {c : Cu} (k0 : CuOk c) {l : List Tr2} {b : List Int} (h : rLeast c l = some b) : IsLeast c.shovels (c.last + 1).toNat (fun x => decide (rWholes c l x c.want = 1)) b := by
  have := rLeastN_min k0 l _ (Nat.le_refl _)
  rw [show rLeastN c l (rCoals c).toNat = some b from h] at this
  obtain ⟨⟨j, hj, hb⟩, h2, h3⟩ := this
  refine ⟨by rw [hb]; exact coal_mem k0 hj, h2, fun x hx hP => ?_⟩
  obtain ⟨n, hn, rfl⟩ := coal_surj k0 hx
  exact h3 n hn hP
theorem rLeast_none {c : Cu} (k0 : CuOk c) {l : List Tr2} (h : rLeast c l = none) : ∀ x ∈ digs c.shovels (c.last + 1).toNat, decide (rWholes c l x c.want = 1) = false := by
  have := rLeastN_min k0 l _ (Nat.le_refl _)
  rw [show rLeastN c l (rCoals c).toNat = none from h] at this
  intro x hx
  obtain ⟨n, hn, rfl⟩ := coal_surj k0 hx
  exact this n hn
theorem sure_whole {c : Cu} (k0 : CuOk c) (hne : sTruth c ≠ []) (coal : List Int) : sSureP c coal = decide (rWholes c (rTruths c) coal c.want = 1) := by
  rw [← wholes_same k0 hne]
  have e : ((sTruth c).map fun s => if (sPast c coal c.want s).kept.any (fun y => decide (false = y)) then (0 : Int) else 1) = (sTruth c).map fun s => if sKept c coal c.want s = true then 1 else 0 := by
    apply List.map_congr_left
    intro s _
    by_cases h : ((sPast c coal c.want s).kept.any fun y => decide (false = y)) = true
    · have h2 : sKept c coal c.want s = false := by rw [sKept, h]; rfl
      rw [if_pos h, h2, if_neg (by simp)]
    · have h2 : sKept c coal c.want s = true := by rw [Bool.not_eq_true] at h; rw [sKept, h]; rfl
      rw [if_neg h, h2, if_pos rfl]
  rw [e, sVerdict_01 _ hne, sSureP]
  cases (sTruth c).all fun s => sKept c coal c.want s with
  | true => rfl
  | false => cases (sTruth c).any fun s => sKept c coal c.want s <;> rfl
theorem least_same {c : Cu} (A : AskOk c true) : leastF c = rLeast c (rTruths c) := by
  have k0 := A.k0
  have e : sSureP c = fun x => decide (rWholes c (rTruths c) x c.want = 1) := funext fun x => sure_whole k0 A.ne x
  cases h1 : leastF c with
  | none =>
    cases h2 : rLeast c (rTruths c) with
    | none => rfl
    | some b =>
      have B := rLeast_some k0 h2
      have h4 := leastF_none k0 h1 b B.mem
      rw [e] at h4
      have h5 : decide (rWholes c (rTruths c) b c.want = 1) = false := h4
      have h3 := B.is
      rw [h5] at h3; cases h3
  | some a =>
    have A1 := leastF_some k0 h1
    cases h2 : rLeast c (rTruths c) with
    | none =>
      have := rLeast_none k0 h2 a A1.mem
      have h3 := A1.is
      rw [e] at h3
      have h4 : decide (rWholes c (rTruths c) a c.want = 1) = true := h3
      rw [this] at h4; cases h4
    | some b =>
      rw [e] at A1
      rw [A1.one (rLeast_some k0 h2)]
theorem sSum_eq {l : List Int} (h : ∀ x ∈ l, 0 ≤ x ∧ x ≤ 3) (hl : l.length ≤ 1000) : sSum l = l.sum := by
  have e : ∀ (m : List Int) (n : Int), 0 ≤ n → (∀ x ∈ m, 0 ≤ x ∧ x ≤ 3) → n + 3 * m.length ≤ 1000000 → m.foldl (fun n x => IntKind.i64.wrap (n + x)) n = n + m.sum := by
    intro m
    induction m with
    | nil => intro n _ _ _; simp
    | cons x m ih =>
      intro n h0 hm hn
      have hx := hm x (by simp)
      rw [List.length_cons] at hn
      rw [List.foldl_cons, i64_in (by omega) (by omega), ih (n + x) (by omega) (fun y hy => hm y (by simp [hy])) (by omega), List.sum_cons]; omega
  rw [sSum, e l 0 (by omega) h (by omega)]; omega
end Go.Vm

set_option linter.unusedVariables false
set_option linter.unusedSimpArgs false
set_option maxRecDepth 100000
namespace Go.Vm
open Go.Proofs
theorem each_coal (c : Cu) (l : List Int) : rEach c l c.shovels = sIsCoal c l := rfl
theorem shov_same {c : Cu} (k0 : CuOk c) {coal : List Int} (h : sIsCoal c coal = true) : sSum coal = coal.sum := by
  obtain ⟨h1, h2⟩ := coal_ok h
  have := k0.shovels
  have := k0.last
  exact sSum_eq (fun x hx => by have := h2 x hx; omega) (by omega)
set_option maxHeartbeats 4000000 in
theorem l_CopperLeast (c : Cu) (hc : I64 c.last) (coal : List Int) (many : Int) : Vm.Fn Try.prog 13 [.agg c.cs, vI coal, vi many] [] fun v h' => v = .bool true := by
  refine Fn.body tabOk Try.func13 rfl (Nat.le_of_ble_eq_true rfl) (Ks.ok (fz := (fzn [])) (cl := (cln [])) tabOk mixed ?_)
  generalize hQ : FnPost tt Try.f13 _ _ = Q
  simp only [Try.f13, argsEnv, Nat.reduceAdd]
  simp only [gos, eq_self, Nat.reduceLT, Nat.reduceEqDiff, reduceCtorEq, reduceIte, ↓reduceIte, tt, vgo, vout, vguard, callOf, vop, ev, cv, vload, newRow]
  refine Cl.pu (c_Thin c hc) ?_ rfl (by simp only [V.into, intoL, cu_into, Bool.and_true])
  cases ht : sThin c with
  | false =>
    simp only [gos, eq_self, Nat.reduceLT, Nat.reduceEqDiff, reduceIte, ↓reduceIte, vgo, vout, vguard, callOf, vop, ev, cv]
    refine Cl.pu c_awake ?_
    simp only [gos, eq_self, Nat.reduceLT, reduceIte, ↓reduceIte, vgo, vout, vguard, callOf, vop, ev]
    subst hQ
    exact FnPost.plain trivial (v := .bool true) (fun h2 e => by rfl) WkV.refl rfl
  | true =>
  have wf := thin_wf hc ht
  by_cases hcl : (8 : Int) < (coal.length : Int)
  · simp only [gos, eq_self, Nat.reduceLT, Nat.reduceEqDiff, reduceCtorEq, reduceIte, ↓reduceIte, tt, vgo, vout, vguard, callOf, vop, ev, cv, vbin, vint, isShift, isNilConst, vlen, vI, hcl]
    refine Cl.pu c_awake ?_
    simp only [gos, eq_self, Nat.reduceLT, reduceIte, ↓reduceIte, vgo, vout, vguard, callOf, vop, ev]
    subst hQ
    exact FnPost.plain trivial (v := .bool true) (fun h2 e => by rfl) WkV.refl rfl
  have hcl6 : (coal.length : Int) ≤ 1000000 := by omega
  simp only [gos, eq_self, Nat.reduceLT, Nat.reduceEqDiff, reduceCtorEq, reduceIte, ↓reduceIte, tt, vgo, vout, vguard, callOf, vop, ev, cv, vbin, vint, isShift, isNilConst, vload, vlen, vI, hcl]
  rw [show V.ro coal.length (cI coal) = vI coal from rfl]
  refine Cl.pu (c_lCopper c wf) ?_ rfl (by simp only [V.into, intoL, cu_into, Bool.and_true])
  simp only [gos, eq_self, Nat.reduceLT, reduceIte, ↓reduceIte, vgo, vout, vguard, callOf, ev]
  refine Cl.pu (c_Least c wf) ?_ rfl (by simp only [V.into, intoL, cu_into, Bool.and_true])
  simp only [gos, eq_self, Nat.reduceLT, Nat.reduceEqDiff, reduceCtorEq, reduceIte, ↓reduceIte, tt, vgo, vout, vguard, callOf, vop, ev, vload]
  refine Cl.pu (c_lCopper c wf) ?_ rfl (by simp only [V.into, intoL, cu_into, Bool.and_true])
  simp only [gos, eq_self, Nat.reduceLT, Nat.reduceEqDiff, reduceCtorEq, reduceIte, ↓reduceIte, vgo, vout, vguard, callOf, vop, ev]
  refine Cl.pu (c_list coal hcl6) ?_ rfl (by simp only [intoL, vI_into, Bool.and_true])
  simp only [gos, eq_self, Nat.reduceLT, Nat.reduceEqDiff, reduceCtorEq, reduceIte, ↓reduceIte, vgo, vout, vguard, callOf, vop, ev]
  refine Cl.pu (c_ProveCoal c wf coal hcl6 many) ?_ rfl (by simp only [V.into, intoL, vI_into, cu_into, Bool.and_true])
  simp only [gos, eq_self, Nat.reduceLT, Nat.reduceEqDiff, reduceCtorEq, reduceIte, ↓reduceIte, tt, vgo, vout, vguard, callOf, vop, ev, vload]
  refine Cl.pu (c_lsure c wf) ?_ rfl (by simp only [V.into, intoL, cu_into, Bool.and_true])
  rw [sure_same]
  by_cases h0 : sAsked c true = 0
  case neg =>
    have hb : (sAsked c true != 0) = true := by simp [h0]
    have e1 : sLeastA c = ([], sAsked c true) := by rw [sLeastA, if_neg h0]
    have e2 : sProveCoal c coal many = false := by
      have : sAsked c (sIsCoal c coal) ≠ 0 := by
        intro h
        simp only [sAsked] at h h0
        split at h
        · exact absurd h (by assumption)
        · rename_i hc0
          split at h
          · omega
          · split at h
            · omega
            · rename_i h3; rw [if_neg hc0, if_neg (by simp), if_neg h3] at h0; exact h0 rfl
      simp [sProveCoal, this]
    have z2 : decide (sAsked c true = sAsked c true) = true := by simp
    have z0 : decide (((0 : Nat) : Int) = 0) = true := rfl
    rw [e1, e2]
    simp only [gos, eq_self, Nat.reduceLT, Nat.reduceEqDiff, reduceIte, ↓reduceIte, tt, vgo, vout, vguard, callOf, vop, ev, cv, vbin, vint, isShift, isNilConst, vlen, hb, vI, cI, z0]
    refine Cl.pu c_awake ?_
    simp only [gos, eq_self, Nat.reduceLT, Nat.reduceEqDiff, reduceIte, ↓reduceIte, vgo, vout, vguard, callOf, vop, ev]
    subst hQ
    exact FnPost.plain trivial (v := .bool true) (fun h2 e => by rfl) WkV.refl rfl
  have hb : (sAsked c true != 0) = false := by simp [h0]
  have A := askOk_of h0
  have k0 := A.k0
  have hL : rSureL c = rTruths c := by simp [rSureL, A.chk]
  have hT : ((rTruths c).length : Int) ≤ 1000000 := by
    have := rTr_len c (rMany c).toNat
    have := rMany_le k0
    simp only [rTruths]; omega
  have hok : ∀ t ∈ rTruths c, T2Ok c t := rTr_ok k0 _
  rw [hL]
  simp only [gos, eq_self, Nat.reduceLT, Nat.reduceEqDiff, reduceCtorEq, reduceIte, ↓reduceIte, tt, vgo, vout, vguard, callOf, vop, ev, cv, vbin, vint, isShift, isNilConst, vload, hb]
  refine Cl.pu (c_rEach c coal c.shovels wf.last hcl6) ?_ rfl (by simp only [V.into, intoL, vI_into, cu_into, Bool.and_true])
  rw [each_coal]
  have hC : sAsked c true = 0 := h0
  have hAsk : ∀ b, sAsked c b = if b = false then 2 else 0 := fun b => by
    cases b
    · simp [sAsked, A.chk]
    · simpa using h0
  have fin : ∀ (o : Option (List Int)), rLeast c (rTruths c) = o → sLeastA c = (match o with | some l => (l, 0) | none => ([], 10)) := by
    intro o ho
    rw [sLeastA, if_pos h0, least_same A, ho]
    cases o <;> rfl
  have key : sProveCoal c coal many = (sIsCoal c coal && (decide (coal.sum ≤ many) && decide (rWholes c (rTruths c) coal c.want = 1))) := by
    cases hic : sIsCoal c coal with
    | false => simp [sProveCoal, hic, hAsk]
    | true => simp [sProveCoal, hic, hAsk, shov_same k0 hic, sure_whole k0 A.ne]
  have hbF : ((false : Bool) != false) = false := rfl
  have hbT : ((true : Bool) != true) = false := rfl
  have z0 : decide ((0 : Int) = 0) = true := rfl
  have z0n : decide (((0 : Nat) : Int) = 0) = true := rfl
  have z10 : decide ((10 : Int) = 10) = true := rfl
  have h3 : sIsCoal c coal = false ∨ (sIsCoal c coal = true ∧ ¬ coal.sum ≤ many) ∨ (sIsCoal c coal = true ∧ coal.sum ≤ many) := by
    cases sIsCoal c coal
    · exact .inl rfl
    · by_cases h : coal.sum ≤ many
      · exact .inr (.inr ⟨rfl, h⟩)
      · exact .inr (.inl ⟨rfl, h⟩)
  rw [key]
  rcases h3 with hic | ⟨hic, hs⟩ | ⟨hic, hs⟩
  case' inl =>
    rw [hic]
    simp only [gos, eq_self, Nat.reduceLT, Nat.reduceEqDiff, reduceCtorEq, reduceIte, ↓reduceIte, tt, vgo, vout, vguard, callOf, vop, ev, cv, vbin, isNilConst, vload]
  case' inr.inl =>
    obtain ⟨q1, q2⟩ := coal_ok hic
    rw [hic]
    simp only [gos, eq_self, Nat.reduceLT, Nat.reduceEqDiff, reduceCtorEq, reduceIte, ↓reduceIte, vgo, vout, vguard, callOf, vop, ev]
    refine Cl.pu (c_rShovels coal hcl6 (fun x hx => by have := q2 x hx; have := k0.shovels; omega)) ?_ rfl (by simp only [intoL, vI_into, Bool.and_true])
    simp only [gos, eq_self, Nat.reduceLT, Nat.reduceEqDiff, reduceCtorEq, reduceIte, ↓reduceIte, tt, vgo, vout, vguard, callOf, vop, ev, cv, vbin, vint, isShift, isNilConst, vload, hs]
  case' inr.inr =>
    obtain ⟨q1, q2⟩ := coal_ok hic
    rw [hic]
    simp only [gos, eq_self, Nat.reduceLT, Nat.reduceEqDiff, reduceCtorEq, reduceIte, ↓reduceIte, vgo, vout, vguard, callOf, vop, ev]
    refine Cl.pu (c_rShovels coal hcl6 (fun x hx => by have := q2 x hx; have := k0.shovels; omega)) ?_ rfl (by simp only [intoL, vI_into, Bool.and_true])
    simp only [gos, eq_self, Nat.reduceLT, Nat.reduceEqDiff, reduceCtorEq, reduceIte, ↓reduceIte, tt, vgo, vout, vguard, callOf, vop, ev, vbin, vint, isShift, isNilConst, vload, hs]
    refine Cl.pu (c_rWholes c (rTruths c) coal c.want hT (fun t ht => coal_tr k0 ⟨q1, q2⟩ (hok t ht))) ?_ rfl (by simp only [V.into, intoL, vI_into, cu_into, Bool.and_true, vT_into])
    have hbX : (decide (rWholes c (rTruths c) coal c.want = 1) != decide (rWholes c (rTruths c) coal c.want = 1)) = false := by simp
    simp only [gos, eq_self, Nat.reduceLT, Nat.reduceEqDiff, reduceCtorEq, reduceIte, ↓reduceIte, tt, vgo, vout, vguard, callOf, vop, ev, cv, vbin, vint, isShift, isNilConst, vload]
  all_goals
    refine Cl.pu (c_rLeast c k0 (rTruths c) hT hok) ?_ rfl (by simp only [V.into, intoL, cu_into, Bool.and_true, vT_into])
    cases ho : rLeast c (rTruths c) with
    | none =>
      rw [fin none ho]
      simp only [gos, eq_self, Nat.reduceLT, Nat.reduceEqDiff, reduceIte, ↓reduceIte, tt, vgo, vout, vguard, callOf, vop, ev, cv, vbin, vint, isShift, isNilConst, vlen, Option.getD, Option.isSome, vI, cI, z0n]
      refine Cl.pu c_awake ?_
      simp only [gos, eq_self, Nat.reduceLT, Nat.reduceEqDiff, reduceIte, ↓reduceIte, vgo, vout, vguard, callOf, vop, ev]
      subst hQ
      exact FnPost.plain trivial (v := .bool true) (fun h2 e => by rfl) WkV.refl rfl
    | some b =>
      have hbo := rLeastN_ok k0 (rTruths c) _ b ho
      have hla := k0.last
      have hsame : decide (b = b) = true := by simp
      rw [fin (some b) ho]
      simp only [gos, eq_self, Nat.reduceLT, Nat.reduceEqDiff, reduceIte, ↓reduceIte, vgo, vout, vguard, callOf, vop, ev, cv, vbin, vint, isShift, isNilConst, Option.getD, Option.isSome]
      refine Cl.pu (c_same b b (by omega)) ?_ rfl (by simp only [intoL, vI_into, Bool.and_true])
      simp only [gos, eq_self, Nat.reduceLT, Nat.reduceEqDiff, reduceIte, ↓reduceIte, vgo, vout, vguard, callOf, vop, ev]
      refine Cl.pu c_awake ?_
      simp only [gos, eq_self, Nat.reduceLT, Nat.reduceEqDiff, reduceIte, ↓reduceIte, vgo, vout, vguard, callOf, vop, ev]
      subst hQ
      exact FnPost.plain trivial (v := .bool true) (fun h2 e => by rfl) WkV.refl rfl
end Go.Vm
