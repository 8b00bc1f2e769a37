import Derived.Test.YtjbgmnpbpmljaaaB3
import Derived.Test.YtjbgmnpbpmljaaaRows
import Derived.WalkKit
import Derived.ProofKit
import Derived.OpenShut
import Derived.ShutString
import Derived.ChangeOld
import Derived.Below
set_option linter.unusedVariables false
set_option linter.unusedSimpArgs false
set_option maxRecDepth 100000
namespace Go.Vm
open Go.Proofs
/-- The sum, as 64 bits hold it. -/
def sSum (l : List Int) : Int := l.foldl (fun n x => IntKind.i64.wrap (n + x)) 0
theorem c_sum (l : List Int) (hl : (l.length : Int) ≤ 1000000) : Pu Try.prog (.fn 114 [] []) [vI l] (vi (sSum l)) := by
  refine Ev.fn Try.func114 rfl rfl (Fn.body tabOk Try.func114 rfl (Nat.le_of_ble_eq_true rfl) (Ks.ok (fz := (fzn [])) (cl := (cln [])) tabOk mixed ?_))
  generalize hQ : FnPost tt Try.f114 _ _ = Q
  simp only [Try.f114, List.nil_append, List.append_nil, argsEnv]
  simp only [gos, eq_self, Nat.reduceLT, reduceCtorEq, reduceIte, ↓reduceIte, tt, vgo, vout, vguard, callOf, vop, ev, cv, vlen, vI]
  refine W.loop tabOk mixed (fun i : Nat => ([(2, vi (sSum (l.take i))), (5, vI l), (6, vi l.length), (7, vi i)], [])) (fun i => l.length - i) (fun i => i ≤ l.length) 0 (by omega) (Wk.env (by simp [subE, Env.get, vI, sSum])) ?_
  intro i hi
  by_cases hil : (i : Int) < l.length
  · have hs : sSum (l.take (i + 1)) = IntKind.i64.wrap (sSum (l.take i) + gi l i) := by rw [gi_take hil, sSum, List.foldl_append]; rfl
    simp only [gos, eq_self, Nat.reduceLT, Nat.reduceEqDiff, reduceCtorEq, reduceIte, ↓reduceIte, tt, vgo, vout, vguard, callOf, vop, ev, cv, vbin, vint, isShift, isNilConst, vload, vI, hil, cI_at (Int.natCast_nonneg i) hil]
    exact Nx.mk (i + 1) (show l.length - (i + 1) < l.length - i by omega) (by omega) (Wk.env (by simp [subE, Env.get, hs, i64_succ (show (i : Int) < 9223372036854775807 by omega)]))
  · have e : l.take i = l := List.take_of_length_le (by omega)
    simp only [gos, eq_self, Nat.reduceLT, Nat.reduceEqDiff, reduceIte, ↓reduceIte, vgo, vout, vguard, callOf, vop, ev, vbin, vint, isShift, isNilConst, vI, hil, e]
    subst hQ
    exact FnPost.plain trivial (fun h2 e => by first | rfl | (simp only [Try.f114, vres, vresL, vres1, e _, gos, if_true, if_false, ne_eq, eq_self, Nat.reduceLT, Nat.reduceEqDiff, Nat.reduceAdd, Nat.reduceMul, Nat.reduceLeDiff, Nat.reduceBEq, reduceCtorEq, reduceIte, Array.toList, ↓reduceIte, tt, vgo, vout, vgoD, voutD, vclsOk, vids, mayWrite, V.ids, V.mids, vguard, callOf, vop, ev, cv, vbin, vint, isShift, isNilConst, vnil, isNilSlice, vload, vlen, newRow, vfill, vslice, entOf, vappend, srcOf, vcopy, vlookup, vupdate, mapOk, keyOf, intsOf, clsAt]; try rfl)) (WkV.pure (by simp only [V.into])) ⟨rfl, rfl⟩
end Go.Vm

set_option linter.unusedVariables false
set_option linter.unusedSimpArgs false
set_option maxRecDepth 100000
namespace Go.Vm
open Go.Proofs
def sProveCoal (c : Cu) (coal : List Int) (many : Int) : Bool := decide (sAsked c (sIsCoal c coal) = 0) && (decide (sSum coal ≤ many) && sSureP c coal)
theorem coal_ok {c : Cu} {l : List Int} (h : sIsCoal c l = true) : (l.length : Int) = c.last + 1 ∧ ∀ x ∈ l, 0 ≤ x ∧ x ≤ c.shovels := by
  simp only [sIsCoal, sIn, Bool.and_eq_true, decide_eq_true_eq, List.all_eq_true] at h
  exact h
set_option maxHeartbeats 2000000 in
theorem c_ProveCoal (c : Cu) (hc : c.wf) (coal : List Int) (hm : (coal.length : Int) ≤ 1000000) (many : Int) : Pu Try.prog (.fn 65 [] []) [.agg c.cs, vI coal, vi many] (.bool (sProveCoal c coal many)) := by
  refine Ev.fn Try.func65 rfl rfl (Fn.body tabOk Try.func65 rfl (Nat.le_of_ble_eq_true rfl) (Ks.ok (fz := (fzn [])) (cl := (cln [(1, .d tg0 [cP, cP, cP, cP, none, cP, cP, cP, cP, cP])])) tabOk mixed ?_))
  generalize hQ : FnPost tt Try.f65 _ _ = Q
  simp only [Try.f65, List.nil_append, List.append_nil, argsEnv, Nat.reduceAdd]
  simp only [gos, eq_self, Nat.reduceLT, reduceCtorEq, reduceIte, ↓reduceIte, vgo, vout, vguard, callOf, vop, ev, cv, newRow]
  refine Wr.draw (by kernel_rfl) ?_
  simp only [gos, eq_self, Nat.reduceLT, Nat.reduceEqDiff, Nat.reduceAdd, reduceCtorEq, reduceIte, ↓reduceIte, tt, vgoD, voutD, vclsOk, vids, mayWrite, V.ids, vguard, callOf, vop, ev, vload, clsAt]
  refine CD.pu (c_isCoal c coal hc.last hm) ?_ rfl (by simp only [V.into, intoL, vI_into, cu_into, Bool.and_true])
  simp only [gos, eq_self, Nat.reduceLT, Nat.reduceEqDiff, reduceIte, ↓reduceIte, vgoD, voutD, vguard, callOf, ev]
  by_cases h0 : sAsked c (sIsCoal c coal) = 0
  case neg =>
    refine CD.ev _ _ (c_askedN c hc (sIsCoal c coal) h0) ?_
    simp only [gos, eq_self, Nat.reduceLT, Nat.reduceEqDiff, reduceIte, ↓reduceIte, vgo, vout, vgoD, voutD, vclsOk, vids, mayWrite, vguard, callOf, vop, ev, cv, vbin, vint, isShift, isNilConst, h0]
    subst hQ
    exact FnPost.plain trivial (fun h2 e => by first | rfl | (simp only [Try.f65, vres, vresL, vres1, e _, gos, if_true, if_false, ne_eq, eq_self, Nat.reduceLT, Nat.reduceEqDiff, Nat.reduceAdd, Nat.reduceMul, Nat.reduceLeDiff, Nat.reduceBEq, reduceCtorEq, reduceIte, Array.toList, ↓reduceIte, tt, vgo, vout, vgoD, voutD, vclsOk, vids, mayWrite, V.ids, V.mids, vguard, callOf, vop, ev, cv, vbin, vint, isShift, isNilConst, vnil, isNilSlice, vload, vlen, newRow, vfill, vslice, entOf, vappend, srcOf, vcopy, vlookup, vupdate, mapOk, keyOf, intsOf, clsAt]; try rfl)) (WkV.pure (by simp only [V.into])) ⟨by simp [sProveCoal, h0], rfl⟩
  have A := askOk_of h0
  have hp := coal_ok A.fine
  refine CD.ev _ _ (c_askedY c hc (sIsCoal c coal) h0) ?_
  simp only [gos, eq_self, Nat.reduceLT, Nat.reduceEqDiff, reduceCtorEq, reduceIte, ↓reduceIte, vgo, vout, vgoD, voutD, vclsOk, vids, mayWrite, vguard, callOf, vop, ev, cv, vbin, vint, isShift, isNilConst]
  refine Cl.pu (c_sum coal hm) ?_ rfl (by simp only [intoL, vI_into, Bool.and_true])
  by_cases h1 : sSum coal ≤ many
  case neg =>
    simp only [gos, eq_self, Nat.reduceLT, Nat.reduceEqDiff, reduceCtorEq, reduceIte, ↓reduceIte, vgo, vout, vguard, callOf, vop, ev, cv, vbin, vint, isShift, isNilConst, h1]
    subst hQ
    exact FnPost.plain trivial (v := .bool false) (fun h2 e => by rfl) (WkV.pure rfl) ⟨by simp [sProveCoal, h1], rfl⟩
  simp only [gos, eq_self, Nat.reduceLT, Nat.reduceEqDiff, reduceCtorEq, reduceIte, ↓reduceIte, vgo, vout, vguard, callOf, vop, ev, vbin, vint, isShift, isNilConst, h1]
  refine Cl.mk (c_sure c (sTruth c) [] 17 (by decide) (by intro x hx; cases hx) coal A.ok (by have := A.len; omega) (by have := A.k0.last; omega) fun s hs => coal_play A.k0 hp (A.sc s hs)) ?_
  rintro v h' ⟨rfl, rfl⟩
  simp only [gos, eq_self, Nat.reduceLT, Nat.reduceEqDiff, reduceIte, ↓reduceIte, vgo, vout, vguard, callOf, vop, ev]
  subst hQ
  have hr : sProveCoal c coal many = sSure c (sTruth c) [] coal := by simp [sProveCoal, h0, h1, sSureP, sSure, mget]
  rw [hr]
  exact FnPost.plain trivial (v := .bool (sSure c (sTruth c) [] coal)) (fun h2 e => by rfl) (WkV.pure rfl) ⟨rfl, rfl⟩
end Go.Vm

set_option linter.unusedVariables false
set_option linter.unusedSimpArgs false
set_option maxRecDepth 100000
namespace Go.Vm
open Go.Proofs Go.ChangeShapes Go.WideShapes Go.ChangeAt Go.RowKit
/-! ### from a contract to the row -/
theorem hrel0 (w : World) : HRel (gh0 w) [] w :=
  ⟨fun B o v e => e, fun i e he => (by cases he), fun i j e e' B c c' he => (by cases he), fun i e B c o he => (by cases he), fun i v h => absurd rfl h⟩
theorem calls_of_fn {P : Program} {f : FuncId} {vs : List V} {xs : List Value} {w : World} (c : Fn P f vs [] fun v h' => v = .bool true) (hv : VRL (gh0 w) vs xs) :
    Calls P f xs.toArray w fun e w' => e = .returned (.bool true) ∧ Below w.heap.size w w' := fun cs => by
  obtain ⟨v, h', vc, g', w', fr, rfl, st, hf, hl, hvc, H', t, le⟩ := c (gh0 w) w xs hv (hrel0 w) cs
  simp only [VR] at hvc
  subst hvc
  exact ⟨.returned (.bool true), w', fr, ⟨rfl, t.os, t.tape, t.output, t.size, fun k hk => t.mods k hk (by rintro ⟨i, e, c, he, _⟩; cases he)⟩, st, hf, hl⟩
section
variable {H : Type} {enc : TypeId × Value → H} {P : Program} {w : World} {base : Nat} {spare : Nat → Bool} {held : Bool} {fuel : Nat} {t : TypeId} {cs : List Value} {x : DataW H × List MemPlace}
end
section
variable {H : Type} {enc : TypeId × Value → H} {w : World} {base : Nat} {spare : Nat → Bool} {held : Bool} {fuel : Nat} {cs : List Value} {x : DataW H × List MemPlace}
theorem rd_rg (h : DataW.trod enc Try.prog w base spare held fuel 24 cs = some x) : ∃ r : Rg, r.ok ∧ VRL (gh0 w) r.cs cs := by
  obtain ⟨xs, n, _, _, hl, hx, hf⟩ := DataW.trod_struct Try.underlying24 h
  have hl2 : cs.length = 2 := hl.trans (by kernel_rfl)
  have hx2 : xs.length = 2 := hx
  have f0 : DataW.trod enc Try.prog w base spare held n 3 ((cs.drop 0).take (Try.prog.cellsOf 3)) = xs[0]? := hf 0 _ rfl
  have f1 : DataW.trod enc Try.prog w base spare held n 3 ((cs.drop 1).take (Try.prog.cellsOf 3)) = xs[1]? := hf 1 _ rfl
  rw [List.getElem?_eq_getElem (by omega)] at f0 f1
  obtain ⟨a, ha, va⟩ := rd_int Try.underlying3 f0
  obtain ⟨b, hb, vb⟩ := rd_int Try.underlying3 f1
  refine ⟨⟨a, b⟩, ⟨ha, hb⟩, ?_⟩
  have hc : Try.prog.cellsOf 3 = 1 := by kernel_rfl
  simp only [hc, List.drop_zero] at va vb
  rw [List.take_of_length_le (by simp; omega)] at vb
  exact VRL_two va vb
theorem rd_rd (h : DataW.trod enc Try.prog w base spare held fuel 96 cs = some x) : ∃ r : Rd, r.ok ∧ VRL (gh0 w) r.cs cs := by
  obtain ⟨xs, n, _, _, hl, hx, hf⟩ := DataW.trod_struct Try.underlying96 h
  have hl2 : cs.length = 3 := hl.trans (by kernel_rfl)
  have hx2 : xs.length = 2 := hx
  have f0 : DataW.trod enc Try.prog w base spare held n 3 ((cs.drop 0).take (Try.prog.cellsOf 3)) = xs[0]? := hf 0 _ rfl
  have f1 : DataW.trod enc Try.prog w base spare held n 24 ((cs.drop 1).take (Try.prog.cellsOf 24)) = xs[1]? := hf 1 _ rfl
  rw [List.getElem?_eq_getElem (by omega)] at f0 f1
  obtain ⟨a, ha, va⟩ := rd_int Try.underlying3 f0
  obtain ⟨b, hb, vb⟩ := rd_rg f1
  refine ⟨⟨a, b⟩, ⟨ha, hb⟩, ?_⟩
  have hc : Try.prog.cellsOf 3 = 1 := by kernel_rfl
  have hc2 : Try.prog.cellsOf 24 = 2 := by kernel_rfl
  simp only [hc, hc2, List.drop_zero] at va vb
  rw [List.take_of_length_le (by simp; omega)] at vb
  exact VRL_two va vb
theorem cR_flat : ∀ l : List Rg, l.flatMap Rg.cs = cR l
  | [] => rfl
  | r :: l => by rw [List.flatMap_cons, cR_flat l]; rfl
theorem cD_flat : ∀ l : List Rd, l.flatMap Rd.cs = cD l
  | [] => rfl
  | r :: l => by rw [List.flatMap_cons, cD_flat l]; rfl
theorem rd_cu (h : DataW.trod enc Try.prog w base spare held fuel 28 cs = some x) : ∃ c : Cu, c.ok ∧ VRL (gh0 w) c.cs cs := by
  obtain ⟨xs, n, _, _, hl, hx, hf⟩ := DataW.trod_struct Try.underlying28 h
  have hl2 : cs.length = 11 := hl.trans (by kernel_rfl)
  have hx2 : xs.length = 10 := hx
  have f0 : DataW.trod enc Try.prog w base spare held n 3 ((cs.drop 0).take (Try.prog.cellsOf 3)) = xs[0]? := hf 0 _ rfl
  have f1 : DataW.trod enc Try.prog w base spare held n 3 ((cs.drop 1).take (Try.prog.cellsOf 3)) = xs[1]? := hf 1 _ rfl
  have f2 : DataW.trod enc Try.prog w base spare held n 3 ((cs.drop 2).take (Try.prog.cellsOf 3)) = xs[2]? := hf 2 _ rfl
  have f3 : DataW.trod enc Try.prog w base spare held n 3 ((cs.drop 3).take (Try.prog.cellsOf 3)) = xs[3]? := hf 3 _ rfl
  have f4 : DataW.trod enc Try.prog w base spare held n 3 ((cs.drop 4).take (Try.prog.cellsOf 3)) = xs[4]? := hf 4 _ rfl
  have f5 : DataW.trod enc Try.prog w base spare held n 22 ((cs.drop 5).take (Try.prog.cellsOf 22)) = xs[5]? := hf 5 _ rfl
  have f6 : DataW.trod enc Try.prog w base spare held n 22 ((cs.drop 6).take (Try.prog.cellsOf 22)) = xs[6]? := hf 6 _ rfl
  have f7 : DataW.trod enc Try.prog w base spare held n 24 ((cs.drop 7).take (Try.prog.cellsOf 24)) = xs[7]? := hf 7 _ rfl
  have f8 : DataW.trod enc Try.prog w base spare held n 25 ((cs.drop 9).take (Try.prog.cellsOf 25)) = xs[8]? := hf 8 _ rfl
  have f9 : DataW.trod enc Try.prog w base spare held n 26 ((cs.drop 10).take (Try.prog.cellsOf 26)) = xs[9]? := hf 9 _ rfl
  rw [List.getElem?_eq_getElem (by omega)] at f0 f1 f2 f3 f4 f5 f6 f7 f8 f9
  have hc : Try.prog.cellsOf 3 = 1 := by kernel_rfl
  have hc2 : Try.prog.cellsOf 24 = 2 := by kernel_rfl
  have hc3 : Try.prog.cellsOf 22 = 1 := by kernel_rfl
  have hc4 : Try.prog.cellsOf 25 = 1 := by kernel_rfl
  have hc5 : Try.prog.cellsOf 26 = 1 := by kernel_rfl
  have hc6 : Try.prog.cellsOf 96 = 3 := by kernel_rfl
  obtain ⟨a0, h0, v0⟩ := rd_int Try.underlying3 f0
  obtain ⟨a1, h1, v1⟩ := rd_int Try.underlying3 f1
  obtain ⟨a2, h2, v2⟩ := rd_int Try.underlying3 f2
  obtain ⟨a3, h3, v3⟩ := rd_int Try.underlying3 f3
  obtain ⟨a4, h4, v4⟩ := rd_int Try.underlying3 f4
  obtain ⟨a5, h5, _, v5⟩ := rd_ints Try.underlying22 Try.underlying3 hc f5
  obtain ⟨a6, h6, _, v6⟩ := rd_ints Try.underlying22 Try.underlying3 hc f6
  obtain ⟨a7, h7, v7⟩ := rd_rg f7
  obtain ⟨a8, h8, _, v8⟩ := rd_slice Rg.cs Rg.ok 2 Try.underlying25 hc2 (by omega) (fun _ => rfl) f8 fun n cs x h => rd_rg h
  obtain ⟨a9, h9, _, v9⟩ := rd_slice Rd.cs Rd.ok 3 Try.underlying26 hc6 (by omega) (fun _ => rfl) f9 fun n cs x h => rd_rd h
  rw [cR_flat] at v8
  rw [cD_flat] at v9
  refine ⟨⟨a0, a1, a2, a3, a4, a5, a6, a7, a8, a9⟩, ⟨h0, h1, h2, h3, h4, h5, h6, h7, h8, h9⟩, ?_⟩
  match cs, hl2 with
  | [c0, c1, c2, c3, c4, c5, c6, c7, c8, c9, c10], _ =>
    simp only [hc, hc2, hc3, hc4, hc5, List.drop_zero, List.drop_succ_cons, List.take_succ_cons, List.take_zero, List.take_nil] at v0 v1 v2 v3 v4 v5 v6 v7 v8 v9
    exact VRL.append v0 (VRL.append v1 (VRL.append v2 (VRL.append v3 (VRL.append v4 (VRL.append v5 (VRL.append v6 (VRL.append v7 (VRL.append v8 v9))))))))
end
end Go.Vm

set_option maxRecDepth 100000
set_option linter.unusedVariables false
namespace Go.Proofs.Ytjbgmnpbpmljaaa
open Go.ChangeShapes Go.WideShapes Go.ChangeAt Go.RowKit Go.Vm
/-! ### what the bound on the arguments gives -/
theorem bulk_part {H : Type} {d : DataW H} : ∀ {l : List (DataW H)}, d ∈ l → Rows.uptoBulk d ≤ Rows.uptoBulkAll l
  | x :: r, h => by
    simp only [Rows.uptoBulkAll]
    rcases List.mem_cons.1 h with e | e
    · subst e; omega
    · have := bulk_part e; omega
theorem bulk_one {H : Type} (d : DataW H) : 1 ≤ Rows.uptoBulk d := by
  cases d with
  | lit l => cases l <;> simp [Rows.uptoBulk]
  | nil => simp [Rows.uptoBulk]
  | ptr d => simp [Rows.uptoBulk]
  | slice elems spare => simp [Rows.uptoBulk]
  | agg parts => simp [Rows.uptoBulk]
  | iface t d => simp [Rows.uptoBulk]
  | map entries => simp [Rows.uptoBulk]
  | held h => simp [Rows.uptoBulk]
theorem bulk_len {H : Type} : ∀ (l : List (DataW H)), l.length ≤ Rows.uptoBulkAll l
  | [] => by simp [Rows.uptoBulkAll]
  | x :: r => by have := bulk_one x; have := bulk_len r; simp only [Rows.uptoBulkAll, List.length_cons]; omega
theorem bulk_all {H : Type} {k : Nat} : ∀ (l : List (DataW H)), (∀ d ∈ l, k ≤ Rows.uptoBulk d) → k * l.length ≤ Rows.uptoBulkAll l
  | [], _ => by simp
  | x :: r, h => by
    have h1 := h x (by simp)
    have h2 := bulk_all r fun d hd => h d (by simp [hd])
    simp only [Rows.uptoBulkAll, List.length_cons, Nat.mul_add, Nat.mul_one]; omega
section
variable {H : Type} {enc : TypeId × Value → H} {w : World} {base fuel : Nat} {spare : Nat → Bool} {held : Bool} {cs : List Value} {x : DataW H × List MemPlace}
/-- So many readings, at most: each counts three. -/
theorem bulk_rds (h : DataW.trod enc Try.prog w base spare held fuel 28 cs = some x) {c : Cu} (hv : VRL (gh0 w) c.cs cs) : 3 * c.readings.length ≤ Rows.uptoBulk x.1 := by
  obtain ⟨xs, n, _, rfl, hl, hx, hf⟩ := DataW.trod_struct Try.underlying28 h
  have hx2 : xs.length = 10 := hx
  have f9 : DataW.trod enc Try.prog w base spare held n 26 ((cs.drop 10).take (Try.prog.cellsOf 26)) = xs[9]? := hf 9 _ rfl
  have hc5 : Try.prog.cellsOf 26 = 1 := by kernel_rfl
  have hl2 : cs.length = 11 := hl.trans (by kernel_rfl)
  rw [List.getElem?_eq_getElem (by omega), hc5] at f9
  obtain ⟨v, g1, g2⟩ := VRL.get hv (j := 10) (c := vD c.readings) rfl
  simp only [vD, VR] at g2
  obtain ⟨a, cap, rfl, _, _⟩ := g2
  have e : (cs.drop 10).take 1 = [.slice a c.readings.length cap] := by
    rw [List.drop_eq_getElem_cons (by omega), List.take_succ_cons, List.take_zero]
    rw [List.getElem?_eq_getElem (by omega)] at g1
    injection g1 with g1
    rw [g1]
  rw [e] at f9
  have hp : Rows.uptoBulk xs[9].1 ≤ Rows.uptoBulkAll (xs.map (·.1)) := bulk_part (List.mem_map.2 ⟨xs[9], List.getElem_mem _, rfl⟩)
  simp only [Rows.uptoBulk]
  rcases DataW.trod_slice Try.underlying26 f9 with ⟨h1, _⟩ | ⟨a', len, cap', elems, rest, n', _, h1, h2, _, _, _, h3, h4, _⟩
  · simp only [List.cons.injEq, Value.slice.injEq, and_true] at h1
    omega
  · simp only [List.cons.injEq, Value.slice.injEq, and_true] at h1
    rw [h2] at hp
    simp only [Rows.uptoBulk] at hp
    have := bulk_all (k := 3) (elems.map (·.1)) fun d hd => by
      obtain ⟨y, hy, rfl⟩ := List.mem_map.1 hd
      obtain ⟨i, hi, rfl⟩ := List.getElem_of_mem hy
      have h5 := h4 i (by omega)
      rw [List.getElem?_eq_getElem hi, Option.bind_eq_some_iff] at h5
      obtain ⟨cc, _, h6⟩ := h5
      obtain ⟨ys, n2, _, e2, _, hy2, _⟩ := DataW.trod_struct Try.underlying96 h6
      have hy3 : ys.length = 2 := hy2
      rw [e2]
      simp only [Rows.uptoBulk]
      have := bulk_len (ys.map (·.1))
      rw [List.length_map] at this
      omega
    rw [List.length_map] at this
    omega
theorem rds_small {d : DataW H} {pl : List MemPlace} (h : DataW.trod enc Try.prog w base spare held fuel 28 cs = some (d, pl)) {c : Cu} (hv : VRL (gh0 w) c.cs cs) {ds : List (DataW H)} (hb : Rows.uptoBulkAll (d :: ds) ≤ 1048576) : c.readings.length ≤ 999999 := by
  have : 3 * c.readings.length ≤ Rows.uptoBulk d := bulk_rds h hv
  simp only [Rows.uptoBulkAll] at hb
  omega
end
end Go.Proofs.Ytjbgmnpbpmljaaa

set_option linter.unusedVariables false
set_option linter.unusedSimpArgs false
set_option maxRecDepth 100000
namespace Go.Vm
open Go.Proofs
/-! ### the reference: all truths -/
theorem rTr_ok {c : Cu} (k0 : CuOk c) (i : Nat) : ∀ t ∈ rTr c i, T2Ok c t := fun t ht => by
  simp only [rTr, List.mem_filter, List.mem_map] at ht
  obtain ⟨⟨n, _, rfl⟩, _⟩ := ht
  exact nth_ok k0 (by omega)
end Go.Vm

set_option linter.unusedVariables false
set_option linter.unusedSimpArgs false
set_option maxRecDepth 100000
namespace Go.Vm
open Go.Proofs
/-! ### the reference: bounds and verdicts -/
def rEmpty : Rg := ⟨1099511627776, -1⟩
def hotI (c : Cu) (t : Tr2) (i : Nat) : Int := (sHeat c (tS t) c.coal c.want i).tdiv c.per
def leftI (c : Cu) (t : Tr2) (i : Nat) : Int := (sPlay c (tS t) c.coal c.want (i + 1)).1
def rB (ns : List Int) : Rg := ns.foldl sWider rEmpty
end Go.Vm

set_option linter.unusedVariables false
set_option linter.unusedSimpArgs false
namespace Go.Vm
/-! ### what is hot, left and kept, by hour -/
theorem past_left {c : Cu} (coal want : List Int) (s : Sc) {i : Nat} (hi : (i : Int) ≤ c.last) : gi (sPast c coal want s).left i = (sPlay c s coal want (i + 1)).1 := by
  rw [sPast, (sPlay_hot c s coal want _).2.1, gi_map (by omega)]
/-! ### all readings are right -/
/-! ### the same truths -/
/-! ### the bounds are the same -/
/-- The least and the greatest number. -/
theorem bounds_same {xs ys : List Int} (hs : ∀ x, x ∈ xs ↔ x ∈ ys) (hne : xs ≠ []) (hb : ∀ x ∈ xs, 0 ≤ x ∧ x ≤ 100000) : sBounds xs = rB ys := by
  cases xs with
  | nil => exact absurd rfl hne
  | cons n l =>
    have e : sBounds (n :: l) = (n :: l).foldl sWider ⟨n, n⟩ := rfl
    obtain ⟨h1, h2, h3, h4, h5, h6⟩ := fold_wider (n :: l) ⟨n, n⟩
    obtain ⟨g1, g2, g3, g4, g5, g6⟩ := fold_wider ys rEmpty
    rw [e, rB]
    generalize (n :: l).foldl sWider ⟨n, n⟩ = A at h1 h2 h3 h4 h5 h6 ⊢
    generalize ys.foldl sWider rEmpty = B at g1 g2 g3 g4 g5 g6 ⊢
    have hn := hb n (by simp)
    have hny := (hs n).1 (by simp)
    have b1 := g2 n hny
    have b2 := g5 n hny
    have m1 : A.lo ∈ n :: l := by
      rcases h3 with h | h
      · simp only at h; rw [h]; simp
      · exact h
    have m2 : A.hi ∈ n :: l := by
      rcases h6 with h | h
      · simp only at h; rw [h]; simp
      · exact h
    have m3 : B.lo ∈ ys := by
      rcases g3 with h | h
      · simp only [rEmpty] at h; omega
      · exact h
    have m4 : B.hi ∈ ys := by
      rcases g6 with h | h
      · simp only [rEmpty] at h; omega
      · exact h
    have c1 := h2 _ ((hs _).2 m3)
    have c2 := h5 _ ((hs _).2 m4)
    have c3 := g2 _ ((hs _).1 m1)
    have c4 := g5 _ ((hs _).1 m2)
    cases A; cases B
    simp only [Rg.mk.injEq] at *
    omega
theorem sameB {c : Cu} (k0 : CuOk c) (hne : sTruth c ≠ []) (f : Sc → Int) (g : Tr2 → Int) (hfg : ∀ t, f (tS t) = g t) (hb : ∀ s ∈ sTruth c, 0 ≤ f s ∧ f s ≤ 100000) : sBounds ((sTruth c).map f) = rB ((rTruths c).map g) := by
  refine bounds_same (fun x => ?_) (by simpa using hne) ?_
  · simp only [List.mem_map]
    constructor
    · rintro ⟨s, hs, rfl⟩
      obtain ⟨t, ht, rfl⟩ := (same_truths k0 s).1 hs
      exact ⟨t, ht, (hfg t).symm⟩
    · rintro ⟨t, ht, rfl⟩
      exact ⟨tS t, (same_truths k0 _).2 ⟨t, ht, rfl⟩, hfg t⟩
  · intro x hx
    obtain ⟨s, hs, rfl⟩ := List.mem_map.1 hx
    exact hb s hs
theorem hotB_same {c : Cu} (A : AskOk c true) {i : Nat} (hi : (i : Int) ≤ c.last) : sHotB c i = rB ((rTruths c).map fun t => hotI c t i) := by
  have hper := A.k0.per
  refine sameB A.k0 A.ne (fun s => gi (sPast c c.coal c.want s).hot i) _ (fun t => past_hot c.coal c.want (tS t) hi) fun s hs => ?_
  have hh := sHeat_le (A.k0.play0 (A.sc s hs)) hi
  rw [past_hot c.coal c.want s hi]
  have h1 : 0 ≤ (sHeat c s c.coal c.want i).tdiv c.per := Int.tdiv_nonneg hh.1 (by omega)
  have h2 := Int.tdiv_le_self c.per hh.1
  omega
theorem leftB_same {c : Cu} (A : AskOk c true) {i : Nat} (hi : (i : Int) ≤ c.last) : sLeftB c i = rB ((rTruths c).map fun t => leftI c t i) := by
  refine sameB A.k0 A.ne (fun s => gi (sPast c c.coal c.want s).left i) _ (fun t => past_left c.coal c.want (tS t) hi) fun s hs => ?_
  have hh := sPlay_inv (A.k0.play0 (A.sc s hs)) (i + 1) (by omega)
  rw [past_left c.coal c.want s hi]
  omega
end Go.Vm

set_option linter.unusedVariables false
set_option linter.unusedSimpArgs false
set_option maxRecDepth 100000
namespace Go.Vm
open Go.Proofs
/-! ### coal by a number -/
def powI (s : Int) : Nat → Int
  | 0 => 1
  | n + 1 => powI s n * s
theorem powI_le {s : Int} (hs : 1 ≤ s ∧ s ≤ 4) : ∀ n : Nat, n ≤ 5 → 1 ≤ powI s n ∧ powI s n ≤ 1024
  | 0, _ => by simp [powI]
  | 1, _ => by simp [powI]; omega
  | 2, _ => by
    have : s = 1 ∨ s = 2 ∨ s = 3 ∨ s = 4 := by omega
    rcases this with rfl | rfl | rfl | rfl <;> decide
  | 3, _ => by
    have : s = 1 ∨ s = 2 ∨ s = 3 ∨ s = 4 := by omega
    rcases this with rfl | rfl | rfl | rfl <;> decide
  | 4, _ => by
    have : s = 1 ∨ s = 2 ∨ s = 3 ∨ s = 4 := by omega
    rcases this with rfl | rfl | rfl | rfl <;> decide
  | 5, _ => by
    have : s = 1 ∨ s = 2 ∨ s = 3 ∨ s = 4 := by omega
    rcases this with rfl | rfl | rfl | rfl <;> decide
  | n + 6, h => by omega
def rCoals (c : Cu) : Int := powI (c.shovels + 1) (c.last + 1).toNat
theorem rCoals_le {c : Cu} (k0 : CuOk c) : 1 ≤ rCoals c ∧ rCoals c ≤ 1024 := by
  have := k0.last; have := k0.shovels
  exact powI_le (by omega) _ (by omega)
theorem c_rCoals (c : Cu) (k0 : CuOk c) : Pu Try.prog (.fn 51 [] []) [.agg c.cs] (vi (rCoals c)) := by
  have hl := k0.last
  have hs := k0.shovels
  refine Ev.fn Try.func51 rfl rfl (Fn.body tabOk Try.func51 rfl (Nat.le_of_ble_eq_true rfl) (Ks.ok (fz := (fzn [])) (cl := (cln [])) tabOk mixed ?_))
  generalize hQ : FnPost tt Try.f51 _ _ = Q
  simp only [Try.f51, List.nil_append, List.append_nil, argsEnv]
  have hc4 : (List.drop 4 c.cs).head? = some (vi c.shovels) := rfl
  simp only [gos, eq_self, Nat.reduceLT, reduceIte, ↓reduceIte, vgo, vout, vguard, callOf, vop, ev, cv, newRow]
  refine W.loop tabOk mixed (fun i : Nat => ([(1, .rop c.cs), (3, vi (powI (c.shovels + 1) i)), (4, vi i)], [])) (fun i => (c.last + 1).toNat - i) (fun i => i ≤ (c.last + 1).toNat) 0 (by omega) (Wk.env (by simp [subE, Env.get, powI])) ?_
  intro i hi
  by_cases hil : (i : Int) ≤ c.last
  · have hp := powI_le (s := c.shovels + 1) (by omega) (i + 1) (by omega)
    rw [powI] at hp
    simp only [gos, eq_self, Nat.reduceLT, Nat.reduceEqDiff, reduceCtorEq, reduceIte, ↓reduceIte, tt, vgo, vout, vguard, callOf, vop, ev, cv, vbin, vint, isShift, isNilConst, vload, hil, hc4, i64_in (show -9223372036854775808 ≤ c.shovels + 1 by omega) (show c.shovels + 1 ≤ 9223372036854775807 by omega), i64_in (show -9223372036854775808 ≤ powI (c.shovels + 1) i * (c.shovels + 1) by omega) (show powI (c.shovels + 1) i * (c.shovels + 1) ≤ 9223372036854775807 by omega)]
    exact Nx.mk (i + 1) (show (c.last + 1).toNat - (i + 1) < (c.last + 1).toNat - i by omega) (by omega) (Wk.env (by simp [subE, Env.get, powI, i64_succ (show (i : Int) < 9223372036854775807 by omega)]))
  · have e : (c.last + 1).toNat = i := by omega
    simp only [gos, eq_self, Nat.reduceLT, Nat.reduceEqDiff, reduceCtorEq, reduceIte, ↓reduceIte, tt, vgo, vout, vguard, callOf, vop, ev, vbin, vint, isShift, isNilConst, vload, hil]
    subst hQ
    exact FnPost.plain trivial (fun h2 e => by first | rfl | (simp only [Try.f51, vres, vresL, vres1, e _, gos, if_true, if_false, ne_eq, eq_self, Nat.reduceLT, Nat.reduceEqDiff, Nat.reduceAdd, Nat.reduceMul, Nat.reduceLeDiff, Nat.reduceBEq, reduceCtorEq, reduceIte, Array.toList, ↓reduceIte, tt, vgo, vout, vgoD, voutD, vclsOk, vids, mayWrite, V.ids, V.mids, vguard, callOf, vop, ev, cv, vbin, vint, isShift, isNilConst, vnil, isNilSlice, vload, vlen, newRow, vfill, vslice, entOf, vappend, srcOf, vcopy, vlookup, vupdate, mapOk, keyOf, intsOf, clsAt]; try rfl)) (WkV.pure (by simp only [V.into])) ⟨by rw [rCoals, e], rfl⟩
/-- What is left of a number, and the last digits of it. -/
def dvN (s n : Int) : Nat → Int
  | 0 => n
  | j + 1 => (dvN s n j).tdiv s
def lowD (s n : Int) : Nat → List Int
  | 0 => []
  | j + 1 => (dvN s n j).tmod s :: lowD s n j
theorem lowD_len (s n : Int) : ∀ j, (lowD s n j).length = j
  | 0 => rfl
  | j + 1 => by rw [lowD, List.length_cons, lowD_len s n j]
theorem dvN_ge {s n : Int} (hn : 0 ≤ n) (hs : 1 ≤ s) : ∀ j, 0 ≤ dvN s n j ∧ dvN s n j ≤ n
  | 0 => ⟨hn, Int.le_refl _⟩
  | j + 1 => by
    have := dvN_ge hn hs j
    have h1 := Int.tdiv_nonneg this.1 (show 0 ≤ s by omega)
    have h2 := Int.tdiv_le_self s this.1
    simp only [dvN]; omega
theorem lowD_ok {s n : Int} (hn : 0 ≤ n) (hs : 1 ≤ s) : ∀ j, ∀ x ∈ lowD s n j, 0 ≤ x ∧ x ≤ s - 1
  | 0, x, h => by simp [lowD] at h
  | j + 1, x, h => by
    rw [lowD, List.mem_cons] at h
    rcases h with rfl | h
    · exact tmod_le (dvN_ge hn hs j).1 hs
    · exact lowD_ok hn hs j x h
def rCoal (c : Cu) (n : Int) : List Int := lowD (c.shovels + 1) n (c.last + 1).toNat
theorem rCoal_len (c : Cu) (n : Int) : (rCoal c n).length = (c.last + 1).toNat := lowD_len _ _ _
theorem rCoal_ok {c : Cu} (k0 : CuOk c) {n : Int} (hn : 0 ≤ n) : ((rCoal c n).length : Int) = c.last + 1 ∧ ∀ x ∈ rCoal c n, 0 ≤ x ∧ x ≤ c.shovels :=
  ⟨by rw [rCoal_len]; have := k0.last; omega, fun x hx => by have := lowD_ok hn (s := c.shovels + 1) (by have := k0.shovels; omega) _ x hx; omega⟩
set_option maxHeartbeats 1000000 in
theorem c_rCoal0 (c : Cu) (k0 : CuOk c) (n : Int) (hn : 0 ≤ n ∧ n ≤ 100000) : Ev Try.prog (.fn 50 [] []) [.agg c.cs, vi n] [] fun v h' => v = .own 10 0 0 1 (c.last + 1).toNat ∧ h' = [(10, ⟨0, .row (cI (rCoal c n))⟩)] := by
  have hl := k0.last
  have hs := k0.shovels
  have hge : 0 ≤ c.last + 1 := by omega
  have hle : c.last + 1 ≤ 1000000 := by omega
  refine Ev.fn Try.func50 rfl rfl (Fn.body tabOk Try.func50 rfl (Nat.le_of_ble_eq_true rfl) (Ks.ok (fz := (fzn [])) (cl := (cln [(5, .d tg0 [cP, cP, cP, cP, cP, cP, cP, cP, cP, cP, cP, cP, cP, cW, cP])])) tabOk mixed ?_))
  generalize hQ : FnPost tt Try.f50 _ _ = Q
  simp only [Try.f50, List.nil_append, List.append_nil, argsEnv, Nat.reduceAdd]
  have hc4 : (List.drop 4 c.cs).head? = some (vi c.shovels) := rfl
  have hz : zeros [V.int IntKind.i64 0] (c.last + 1).toNat = cI (List.replicate (c.last + 1).toNat 0) := zeros_vi _
  simp only [gos, eq_self, Nat.reduceLT, Nat.reduceEqDiff, Nat.reduceLeDiff, reduceCtorEq, reduceIte, ↓reduceIte, tt, vgo, vout, vguard, callOf, vop, ev, cv, vbin, vint, isShift, isNilConst, vload, newRow, i64_in (show -9223372036854775808 ≤ c.last + 1 by omega) (show c.last + 1 ≤ 9223372036854775807 by omega), hge, hle, hz]
  refine W.loop tabOk mixed (fun j : Nat => ([(1, vi (dvN (c.shovels + 1) n j)), (2, .rop c.cs), (5, .own 10 0 0 1 (c.last + 1).toNat), (6, vi (c.last - j))], [(10, ⟨0, .row (cI (List.replicate ((c.last + 1).toNat - j) 0 ++ lowD (c.shovels + 1) n j))⟩)])) (fun j => (c.last + 1).toNat - j) (fun j => j ≤ (c.last + 1).toNat) 0 (by omega) (Wk.heap (fun i => by simp [lowD]) (by simp [subE, Env.get, dvN])) ?_
  intro j hj
  by_cases hjl : (j : Int) ≤ c.last
  · have h0 : 0 ≤ c.last - j := by omega
    have h1 : c.last - j < ((c.last + 1).toNat : Int) := by omega
    have hd := dvN_ge hn.1 (s := c.shovels + 1) (by omega) j
    have hz : ¬ c.shovels + 1 = 0 := by omega
    have ht : (c.last - (j : Int)).toNat = (c.last + 1).toNat - (j + 1) := by omega
    have hlen : (c.last + 1).toNat - (j + 1) + 1 ≤ (cI (List.replicate ((c.last + 1).toNat - j) 0 ++ lowD (c.shovels + 1) n j)).length := by
      rw [cI_len, List.length_append, List.length_replicate]; omega
    have hset : List.take ((c.last + 1).toNat - (j + 1)) (cI (List.replicate ((c.last + 1).toNat - j) 0 ++ lowD (c.shovels + 1) n j)) ++ [V.int IntKind.i64 ((dvN (c.shovels + 1) n j).tmod (c.shovels + 1))] ++ List.drop ((c.last + 1).toNat - (j + 1) + 1) (cI (List.replicate ((c.last + 1).toNat - j) 0 ++ lowD (c.shovels + 1) n j)) = cI (List.replicate ((c.last + 1).toNat - (j + 1)) 0 ++ lowD (c.shovels + 1) n (j + 1)) := by
      have e : List.replicate ((c.last + 1).toNat - j) (0 : Int) = List.replicate ((c.last + 1).toNat - (j + 1)) 0 ++ [0] := by
        rw [show (c.last + 1).toNat - j = (c.last + 1).toNat - (j + 1) + 1 by omega, List.replicate_succ']
      rw [cI_set _ (by rw [List.length_append, List.length_replicate]; omega), e, lowD]
      congr 1
      rw [List.append_assoc, List.set_append, if_neg (by simp)]
      simp
    have hdv : 0 ≤ (dvN (c.shovels + 1) n j).tdiv (c.shovels + 1) := Int.tdiv_nonneg hd.1 (by omega)
    have hdl := Int.tdiv_le_self (c.shovels + 1) hd.1
    simp only [gos, eq_self, Nat.reduceLT, Nat.reduceEqDiff, reduceIte, ↓reduceIte, vgo, vout, vguard, callOf, vop, ev, cv, vbin, vint, isShift, isNilConst, h0]
    refine Wr.draw (by kernel_rfl) ?_
    simp only [gos, eq_self, Nat.reduceLT, Nat.reduceEqDiff, Nat.reduceAdd, reduceCtorEq, reduceIte, ↓reduceIte, tt, vgo, vout, vgoD, voutD, vclsOk, vids, mayWrite, V.ids, vguard, callOf, vop, ev, cv, vbin, vint, isShift, isNilConst, vload, clsAt, hc4, hz, h0, h1, ht, hlen, Nat.zero_add, Nat.mul_one, i64_in (show -9223372036854775808 ≤ c.shovels + 1 by omega) (show c.shovels + 1 ≤ 9223372036854775807 by omega), i64_in (show -9223372036854775808 ≤ (dvN (c.shovels + 1) n j).tdiv (c.shovels + 1) by omega) (show (dvN (c.shovels + 1) n j).tdiv (c.shovels + 1) ≤ 9223372036854775807 by omega)]
    rw [hset]
    exact Nx.mk (j + 1) (show (c.last + 1).toNat - (j + 1) < (c.last + 1).toNat - j by omega) (by omega) (Wk.env (by simp [subE, Env.get, dvN, i64_in (show -9223372036854775808 ≤ c.last - j - 1 by omega) (show c.last - j - 1 ≤ 9223372036854775807 by omega)]; omega))
  · have h0 : ¬ 0 ≤ c.last - j := by omega
    have e : (c.last + 1).toNat = j := by omega
    simp only [gos, eq_self, Nat.reduceLT, Nat.reduceEqDiff, reduceIte, ↓reduceIte, vgo, vout, vguard, callOf, vop, ev, cv, vbin, vint, isShift, isNilConst, h0]
    subst hQ
    refine FnPost.plain trivial (v := .own 10 0 0 1 (c.last + 1).toNat) (fun h2 e => by rfl) WkV.refl ⟨rfl, ?_⟩
    rw [rCoal, e]; simp
theorem c_rCoal (c : Cu) (k0 : CuOk c) (n : Int) (hn : 0 ≤ n ∧ n ≤ 100000) : Pu Try.prog (.fn 50 [] []) [.agg c.cs, vi n] (vI (rCoal c n)) :=
  (c_rCoal0 c k0 n hn).weakV fun v h' ⟨e1, e2⟩ => by
    subst e1; subst e2
    have hl := rCoal_len c n
    have ht : (cI (rCoal c n)).take (c.last + 1).toNat = cI (rCoal c n) := List.take_of_length_le (by rw [cI_len]; omega)
    refine ⟨vI (rCoal c n), [], WkV.frz 10 (v' := vI (rCoal c n)) (h' := []) (ver := 0) (cs := cI (rCoal c n)) rfl rfl (cI_into _ _) rfl ?_ ?_ WkV.refl, rfl, rfl⟩
    · simp [V.frz, vI, ht, hl]
    · simp [frzH]
/-! ### words -/
end Go.Vm

set_option linter.unusedVariables false
set_option linter.unusedSimpArgs false
set_option maxRecDepth 100000
namespace Go.Vm
open Go.Proofs
/-! ### sets of readings, by bits -/
def bitsTo (b p : Nat) : List Int := ((List.range p).filter fun i => b.testBit i).map fun (i : Nat) => (i : Int)
def sBits (b : Nat) : List Int := bitsTo b 5
theorem bitsTo_len (b p : Nat) : (bitsTo b p).length ≤ p := by
  rw [bitsTo, List.length_map]
  exact Nat.le_trans (List.length_filter_le _ _) (by simp)
/-! ### before, shorter -/
def lBefore : List Int → List Int → Bool
  | [], b => decide (0 < b.length)
  | _ :: _, [] => false
  | x :: a, y :: b => if x = y then lBefore a b else decide (x < y)
def lShorter (a b : List Int) : Bool := decide (a.length < b.length) || (decide (a.length = b.length) && lBefore a b)
end Go.Vm

set_option linter.unusedVariables false
set_option linter.unusedSimpArgs false
set_option maxRecDepth 100000
namespace Go.Vm
open Go.Proofs
/-! ### which readings can be right together -/
theorem sBits_len (b : Nat) : (sBits b).length ≤ 5 := bitsTo_len b 5
end Go.Vm

set_option linter.unusedVariables false
set_option linter.unusedSimpArgs false
set_option maxRecDepth 100000
namespace Go.Vm
/-! ### plain law: which readings can be right together -/
def possN (c : Cu) (b : Nat) : Bool := (truths c).any fun s => (List.range c.readings.length).all fun i => !b.testBit i || sRead1 c s [] i
theorem range_all_congr {n : Nat} {f g : Nat → Bool} (h : ∀ i, i < n → f i = g i) : (List.range n).all f = (List.range n).all g := by
  rw [Bool.eq_iff_iff, List.all_eq_true, List.all_eq_true]
  exact ⟨fun a i hi => by rw [← h i (List.mem_range.1 hi)]; exact a i hi, fun a i hi => by rw [h i (List.mem_range.1 hi)]; exact a i hi⟩
theorem any_congr {α : Type} {l : List α} {f g : α → Bool} (h : ∀ x ∈ l, f x = g x) : l.any f = l.any g := by
  rw [Bool.eq_iff_iff, List.any_eq_true, List.any_eq_true]
  exact ⟨fun ⟨x, hx, a⟩ => ⟨x, hx, by rw [← h x hx]; exact a⟩, fun ⟨x, hx, a⟩ => ⟨x, hx, by rw [h x hx]; exact a⟩⟩
theorem read1_out (c : Cu) (s : Sc) (out : List Int) (i : Nat) : sRead1 c s out i = ((out.any fun y => decide ((i : Int) = y)) || sRead1 c s [] i) := by
  simp only [sRead1, List.any_nil, Bool.false_or]
/-- 1: with some readings left out. -/
theorem poss_out {c : Cu} {out : List Int} {b : Nat} (h : ∀ i : Nat, i < c.readings.length → b.testBit i = !(out.any fun y => decide ((i : Int) = y))) : sPoss c out = possN c b := by
  refine any_congr fun s _ => range_all_congr fun i hi => ?_
  rw [read1_out, h i hi, Bool.not_not]
theorem pow5 {n : Nat} (h : n < 6) : 2 ^ n ≤ 32 := Nat.pow_le_pow_right (n := 2) (by omega) (show n ≤ 5 by omega)
/-- 3: other readings. -/
def rdOk (c : Cu) (s : Sc) (r : Rd) : Bool := sIn (gi (sPlay c s c.coal c.want (c.last + 1).toNat).2.hot r.hour) r.b.lo r.b.hi
theorem read1_ok (c : Cu) (s : Sc) (i : Nat) : sRead1 c s [] i = rdOk c s (gD c.readings i) := by simp only [sRead1, List.any_nil, Bool.false_or]; rfl
theorem range_gD (l : List Rd) (f : Rd → Bool) : ((List.range l.length).all fun i => f (gD l i)) = l.all f := by
  rw [Bool.eq_iff_iff, List.all_eq_true, List.all_eq_true]
  constructor
  · intro h x hx
    obtain ⟨i, hi, rfl⟩ := List.mem_iff_getElem.1 hx
    have := h i (List.mem_range.2 hi)
    rwa [gD, Int.toNat_natCast, List.getD_eq_getElem?_getD, List.getElem?_eq_getElem hi] at this
  · intro h i hi
    rw [List.mem_range] at hi
    exact h _ (List.mem_of_getElem? (gD_get (l := l) (i := i) (by omega)))
theorem right_all (c : Cu) (s : Sc) : sRight c s [] = c.readings.all (rdOk c s) := by
  rw [← range_gD, sRight]
  exact range_all_congr fun i _ => read1_ok c s i
theorem cuR_listed (c : Cu) (l : List Rd) (t : Tr2) : Listed (cuR c l) t ↔ Listed c t := ⟨fun h => ⟨h.heat, h.len, h.loss⟩, fun h => ⟨h.heat, h.len, h.loss⟩⟩
theorem cuR_rdOk (c : Cu) (l : List Rd) (s : Sc) (r : Rd) : rdOk (cuR c l) s r = rdOk c s r := by
  simp only [rdOk, sPlay_cu c (cuR c l) rfl rfl rfl]; rfl
theorem any_truths {c x : Cu} (k0 : CuOk c) (kx : CuOk x) (h : ∀ t, Listed x t ↔ Listed c t) (f : Sc → Bool) : (truths x).any f = (truths c).any f := by
  rw [Bool.eq_iff_iff, List.any_eq_true, List.any_eq_true]
  constructor
  · rintro ⟨s, hs, hf⟩
    obtain ⟨t, ht, rfl⟩ := (mem_truths kx _).1 hs
    exact ⟨_, (mem_truths k0 _).2 ⟨t, (h t).1 ht, rfl⟩, hf⟩
  · rintro ⟨s, hs, hf⟩
    obtain ⟨t, ht, rfl⟩ := (mem_truths k0 _).1 hs
    exact ⟨_, (mem_truths kx _).2 ⟨t, (h t).2 ht, rfl⟩, hf⟩
theorem poss_cuR {c : Cu} (k0 : CuOk c) {l : List Rd} (kx : CuOk (cuR c l)) : sPoss (cuR c l) [] = (truths c).any fun s => l.all (rdOk c s) := by
  rw [sPoss, any_truths k0 kx (cuR_listed c l)]
  refine any_congr fun s _ => ?_
  rw [right_all]
  congr 1
  funext r
  exact cuR_rdOk c l s r
theorem take_all (l : List Rd) (f : Rd → Bool) : ∀ n, n ≤ l.length → (l.take n).all f = (List.range n).all fun i => f (gD l i)
  | 0, _ => rfl
  | n + 1, h => by
    have e : l.take (n + 1) = l.take n ++ [gD l n] := by rw [List.take_add_one, gD_get (by omega)]; rfl
    rw [e, List.range_succ, List.all_append, List.all_append, take_all l f n (by omega)]; rfl
theorem testBit_ones {k i : Nat} : (2 ^ k - 1).testBit i = decide (i < k) := Nat.testBit_two_pow_sub_one k i
theorem poss_cut {c : Cu} (k0 : CuOk c) {k : Nat} (hk : k ≤ c.readings.length) : sPoss (cut c k) [] = possN c (2 ^ k - 1) := by
  have e : cut c k = cuR c (c.readings.take k) := rfl
  have := poss_cuR k0 (l := c.readings.take k) (cut_ok k0 k)
  rw [e, this, possN]
  refine any_congr fun s _ => ?_
  rw [take_all _ _ _ hk, Bool.eq_iff_iff, List.all_eq_true, List.all_eq_true]
  simp only [List.mem_range, testBit_ones, read1_ok]
  constructor
  · intro h i hi
    by_cases hik : i < k
    · rw [h i hik]; simp
    · rw [decide_eq_false hik]; rfl
  · intro h i hi
    have := h i (by omega)
    rwa [decide_eq_true hi] at this
/-- 4: there is a truth. -/
theorem asked_poss {x : Cu} (kx : CuOk x) : sAsked x true = if sPoss x [] = true then 0 else 11 := by
  have hne : sTruth x = [] ↔ ¬ sPoss x [] = true := by
    rw [sPoss, List.any_eq_true, List.eq_nil_iff_forall_not_mem]
    constructor
    · rintro h ⟨s, hs, hr⟩; exact h s ((mem_sTruth x s).2 ⟨hs, hr⟩)
    · intro h s hs; exact h ⟨s, (mem_sTruth x s).1 hs⟩
  rw [sAsked, if_neg (by simp [chk_of kx]), if_neg (by simp)]
  by_cases h : sPoss x [] = true
  · rw [if_pos h, if_neg (fun e => hne.1 e h)]
  · rw [if_neg h, if_pos (hne.2 h)]
/-! ### the smallest set -/
def combos (n : Nat) : Nat → List Int → Int → List (List Int)
  | 0, out, _ => [out]
  | m + 1, out, first => (rangeI first ((n : Int) - ((m + 1 : Nat) : Int))).flatMap fun i => combos n m (out ++ [i]) (i + 1)
def allSets (n : Nat) : List (List Int) := (rangeI 0 n).flatMap fun m => combos n m.toNat [] 0
theorem leaveF_find (c : Cu) : ∀ (m : Nat) (out : List Int) (first : Int), leaveF c m out first = (combos c.readings.length m out first).find? (sPoss c)
  | 0, out, first => by
    rw [leaveF, combos, List.find?_cons]
    cases h : sPoss c out <;> simp []
  | m + 1, out, first => by
    rw [leaveF, combos, List.find?_flatMap]
    congr 1
    funext i
    exact leaveF_find c m _ _
theorem leaveAll_find (c : Cu) : leaveAll c = (allSets c.readings.length).find? (sPoss c) := by
  rw [leaveAll, allSets, List.find?_flatMap]
  congr 1
  funext i
  exact leaveF_find c _ _ _
def perm (n : Nat) : List Nat := (allSets n).map fun l => l.foldl (fun a x => a + 2 ^ x.toNat) 0
theorem perm_sets {n : Nat} (h : n < 6) : allSets n = (perm n).map sBits := by
  have : ∀ n : Fin 6, allSets n = (perm n).map sBits := by decide +kernel
  exact this ⟨n, h⟩
theorem perm_mem {n b : Nat} (h : n < 6) (hb : b < 2 ^ n) : b ∈ perm n := by
  have : ∀ n : Fin 6, ∀ b : Fin 32, (b : Nat) < 2 ^ (n : Nat) → (b : Nat) ∈ perm n := by decide +kernel
  exact this ⟨n, h⟩ ⟨b, by have := pow5 h; omega⟩ hb
theorem perm_lt {n : Nat} (h : n < 6) : ∀ b ∈ perm n, b < 2 ^ n := by
  have : ∀ n : Fin 6, ∀ b ∈ perm n, b < 2 ^ (n : Nat) := by decide +kernel
  exact this ⟨n, h⟩
theorem perm_rk {n a b : Nat} (h : n < 6) (ha : a < 2 ^ n) (hb : b < 2 ^ n) : lShorter (sBits a) (sBits b) = decide ((perm n).idxOf a < (perm n).idxOf b) := by
  have : ∀ n : Fin 6, ∀ a b : Fin 32, (a : Nat) < 2 ^ (n : Nat) → (b : Nat) < 2 ^ (n : Nat) → lShorter (sBits a) (sBits b) = decide ((perm n).idxOf (a : Nat) < (perm n).idxOf (b : Nat)) := by decide +kernel
  have hp := pow5 h
  exact this ⟨n, h⟩ ⟨a, by omega⟩ ⟨b, by omega⟩ ha hb
theorem mask_bits {n b i : Nat} (h : n < 6) (hb : b < 2 ^ n) (hi : i < n) : (2 ^ n - 1 - b).testBit i = !((sBits b).any fun y => decide ((i : Int) = y)) := by
  have : ∀ n : Fin 6, ∀ b : Fin 32, (b : Nat) < 2 ^ (n : Nat) → ∀ i : Fin 5, (i : Nat) < (n : Nat) → (2 ^ (n : Nat) - 1 - (b : Nat)).testBit i = !((sBits b).any fun y => decide ((((i : Nat) : Int)) = y)) := by decide +kernel
  have hp := pow5 h
  exact this ⟨n, h⟩ ⟨b, by omega⟩ hb ⟨i, by omega⟩ hi
theorem find_congr {α : Type} {p q : α → Bool} : ∀ {l : List α}, (∀ x ∈ l, p x = q x) → l.find? p = l.find? q
  | [], _ => rfl
  | x :: l, h => by
    rw [List.find?_cons, List.find?_cons, h x (by simp), find_congr fun y hy => h y (by simp [hy])]
theorem find_first {p : Nat → Bool} : ∀ {l : List Nat} {x : Nat}, l.find? p = some x → p x = true ∧ x ∈ l ∧ ∀ y ∈ l, p y = true → l.idxOf x ≤ l.idxOf y
  | [], x, h => by simp at h
  | a :: l, x, h => by
    rw [List.find?_cons] at h
    split at h
    · rename_i ha
      injection h with h; subst h
      exact ⟨ha, by simp, fun y _ _ => by simp⟩
    · rename_i ha
      obtain ⟨h1, h2, h3⟩ := find_first h
      have hx : x ≠ a := fun e => by subst e; rw [h1] at ha; cases ha
      refine ⟨h1, by simp [h2], fun y hy hp => ?_⟩
      have hya : y ≠ a := fun e => by subst e; rw [hp] at ha; cases ha
      rw [List.mem_cons] at hy
      rcases hy with rfl | hy
      · exact absurd rfl hya
      · have e1 : (a == x) = false := by simp [Ne.symm hx]
        have e2 : (a == y) = false := by simp [Ne.symm hya]
        rw [List.idxOf_cons, List.idxOf_cons, e1, e2]
        have := h3 y hy hp
        simp only [cond_false]
        omega
/-- What the program finds: the first set, and what is so of it. -/
theorem leave_first {c : Cu} (k0 : CuOk c) : ∃ b, b < 2 ^ c.readings.length ∧ leaveAll c = some (sBits b) ∧ possN c (2 ^ c.readings.length - 1 - b) = true ∧
    ∀ j, j < 2 ^ c.readings.length → possN c (2 ^ c.readings.length - 1 - j) = true → (perm c.readings.length).idxOf b ≤ (perm c.readings.length).idxOf j := by
  have hn : c.readings.length < 6 := by have := k0.rds; omega
  obtain ⟨l, hl⟩ := leaveAll_some k0
  have e : (allSets c.readings.length).find? (sPoss c) = ((perm c.readings.length).find? fun b => possN c (2 ^ c.readings.length - 1 - b)).map sBits := by
    rw [perm_sets hn, List.find?_map]
    congr 1
    refine find_congr fun b hb => ?_
    exact poss_out fun i hi => mask_bits hn (perm_lt hn b hb) hi
  rw [leaveAll_find, e] at hl
  cases hf : (perm c.readings.length).find? fun b => possN c (2 ^ c.readings.length - 1 - b) with
  | none => rw [hf] at hl; cases hl
  | some b =>
    obtain ⟨h1, h2, h3⟩ := find_first hf
    exact ⟨b, perm_lt hn b h2, by rw [leaveAll_find, e, hf]; rfl, h1, fun j hj hp => h3 j (perm_mem hn hj) hp⟩
end Go.Vm

set_option linter.unusedVariables false
set_option linter.unusedSimpArgs false
set_option maxRecDepth 100000
namespace Go.Vm
theorem poss_all {c : Cu} (k0 : CuOk c) : sPoss c [] = possN c (2 ^ c.readings.length - 1) := by
  have e : cut c c.readings.length = c := by simp only [cut, List.take_length]
  have := poss_cut k0 (Nat.le_refl c.readings.length)
  rwa [e] at this
theorem gi_nI {n : Int} {f : Int → Int} {i : Nat} (h : (i : Int) < n) : gi (nI n f) i = f i := by
  simp only [gi, nI, Int.toNat_natCast, List.getD_eq_getElem?_getD, List.getElem?_map]
  rw [List.getElem?_range (by omega)]; rfl
theorem gR_nR {n : Int} {f : Int → Rg} {i : Nat} (h : (i : Int) < n) : gR (nR n f) i = f i := by
  simp only [gR, nR, Int.toNat_natCast, List.getD_eq_getElem?_getD, List.getElem?_map]
  rw [List.getElem?_range (by omega)]; rfl
theorem nR_len' (n : Int) (f : Int → Rg) : ((nR n f).length : Int) = ((n.toNat : Nat) : Int) := by simp [nR]
theorem nI_len' (n : Int) (f : Int → Int) : ((nI n f).length : Int) = ((n.toNat : Nat) : Int) := by simp [nI]
theorem rB_in {ys : List Int} {y : Int} (h : y ∈ ys) : sIn y (rB ys).lo (rB ys).hi = true := by
  obtain ⟨g1, g2, g3, g4, g5, g6⟩ := fold_wider ys rEmpty
  simp only [sIn, Bool.and_eq_true, decide_eq_true_eq]
  exact ⟨g2 y h, g5 y h⟩
end Go.Vm

set_option linter.unusedVariables false
set_option linter.unusedSimpArgs false
set_option maxRecDepth 100000
namespace Go.Vm
open Go.Proofs
/-! ### the least coal of the reference -/
theorem sum_le {l : List Int} (h : ∀ x ∈ l, 0 ≤ x ∧ x ≤ 3) : 0 ≤ l.sum ∧ l.sum ≤ 3 * l.length := by
  induction l with
  | nil => simp
  | cons x l ih =>
    have h1 := ih fun y hy => h y (by simp [hy])
    have h2 := h x (by simp)
    simp only [List.sum_cons, List.length_cons]; omega
end Go.Vm

set_option linter.unusedVariables false
set_option linter.unusedSimpArgs false
set_option maxRecDepth 100000
namespace Go.Vm
/-! ### the least coal: the program's search and the reference's are the same -/
def digs (s : Int) : Nat → List (List Int)
  | 0 => [[]]
  | k + 1 => (rangeI 0 s).flatMap fun n => (digs s k).map (n :: ·)
theorem lBefore_asymm : ∀ {a b : List Int}, lBefore a b = true → lBefore b a = false
  | [], [], h => by simp [lBefore] at h
  | [], _ :: _, _ => rfl
  | _ :: _, [], h => by simp [lBefore] at h
  | x :: a, y :: b, h => by
    simp only [lBefore] at h ⊢
    by_cases e : x = y
    · rw [if_pos e] at h; rw [if_pos e.symm]; exact lBefore_asymm h
    · rw [if_neg e] at h; rw [if_neg (Ne.symm e)]; simp at h ⊢; omega
structure IsLeast (s : Int) (k : Nat) (P : List Int → Bool) (l : List Int) : Prop where
  mem : l ∈ digs s k
  is : P l = true
  min : ∀ x ∈ digs s k, P x = true → l.sum < x.sum ∨ (l.sum = x.sum ∧ (l = x ∨ lBefore l x = true))
theorem IsLeast.one {s : Int} {k : Nat} {P : List Int → Bool} {a b : List Int} (ha : IsLeast s k P a) (hb : IsLeast s k P b) : a = b := by
  rcases ha.min b hb.mem hb.is with h | ⟨h, e | e⟩
  · rcases hb.min a ha.mem ha.is with h2 | ⟨h2, _⟩ <;> omega
  · exact e
  · rcases hb.min a ha.mem ha.is with h2 | ⟨h2, e2 | e2⟩
    · omega
    · exact e2.symm
    · rw [lBefore_asymm e] at e2; simp at e2
/-! the reference's numbers of coal, in order -/
theorem sure_whole {c : Cu} (k0 : CuOk c) (hne : sTruth c ≠ []) (coal : List Int) : sSureP c coal = decide (rWholes c (rTruths c) coal c.want = 1) := by
  rw [← wholes_same k0 hne]
  have e : ((sTruth c).map fun s => if (sPast c coal c.want s).kept.any (fun y => decide (false = y)) then (0 : Int) else 1) = (sTruth c).map fun s => if sKept c coal c.want s = true then 1 else 0 := by
    apply List.map_congr_left
    intro s _
    by_cases h : ((sPast c coal c.want s).kept.any fun y => decide (false = y)) = true
    · have h2 : sKept c coal c.want s = false := by rw [sKept, h]; rfl
      rw [if_pos h, h2, if_neg (by simp)]
    · have h2 : sKept c coal c.want s = true := by rw [Bool.not_eq_true] at h; rw [sKept, h]; rfl
      rw [if_neg h, h2, if_pos rfl]
  rw [e, sVerdict_01 _ hne, sSureP]
  cases (sTruth c).all fun s => sKept c coal c.want s with
  | true => rfl
  | false => cases (sTruth c).any fun s => sKept c coal c.want s <;> rfl
theorem sSum_eq {l : List Int} (h : ∀ x ∈ l, 0 ≤ x ∧ x ≤ 3) (hl : l.length ≤ 1000) : sSum l = l.sum := by
  have e : ∀ (m : List Int) (n : Int), 0 ≤ n → (∀ x ∈ m, 0 ≤ x ∧ x ≤ 3) → n + 3 * m.length ≤ 1000000 → m.foldl (fun n x => IntKind.i64.wrap (n + x)) n = n + m.sum := by
    intro m
    induction m with
    | nil => intro n _ _ _; simp
    | cons x m ih =>
      intro n h0 hm hn
      have hx := hm x (by simp)
      rw [List.length_cons] at hn
      rw [List.foldl_cons, i64_in (by omega) (by omega), ih (n + x) (by omega) (fun y hy => hm y (by simp [hy])) (by omega), List.sum_cons]; omega
  rw [sSum, e l 0 (by omega) h (by omega)]; omega
end Go.Vm

set_option linter.unusedVariables false
set_option linter.unusedSimpArgs false
set_option maxRecDepth 100000
namespace Go.Vm
/-! ### fewer promises, more coal -/
theorem wholes_one {c : Cu} {l : List Tr2} {coal want : List Int} (hne : l ≠ []) : rWholes c l coal want = 1 ↔ ∀ t ∈ l, wholeI c coal want t = true := by
  rw [rWholes, rVerdict_count _ hne, ← List.all_eq_true]
  cases l.all fun t => wholeI c coal want t with
  | true => simp
  | false => cases l.any fun t => wholeI c coal want t <;> simp
end Go.Vm

set_option linter.unusedVariables false
set_option linter.unusedSimpArgs false
set_option maxRecDepth 100000
namespace Go.Vm
/-! ### no sure coal is less -/
theorem is_coal {c : Cu} {l : List Int} : sIsCoal c l = true ↔ (l.length : Int) = c.last + 1 ∧ ∀ x ∈ l, 0 ≤ x ∧ x ≤ c.shovels := by
  simp only [sIsCoal, Bool.and_eq_true, decide_eq_true_eq, List.all_eq_true, sIn]
theorem coal_sum {c : Cu} (k0 : CuOk c) {l : List Int} (h : sIsCoal c l = true) : sSum l = l.sum ∧ l.sum ≤ 15 := by
  obtain ⟨h1, h2⟩ := is_coal.1 h
  have := k0.shovels
  have := k0.last
  have := (sum_le fun x hx => show 0 ≤ x ∧ x ≤ 3 by have := h2 x hx; omega).2
  exact ⟨sSum_eq (fun x hx => by have := h2 x hx; omega) (by omega), by omega⟩
theorem prove_ok {c : Cu} (A : AskOk c true) (h0 : sAsked c true = 0) {coal : List Int} (h : sIsCoal c coal = true) {many : Int} (hm : coal.sum ≤ many) : sProveCoal c coal many = sSureP c coal := by
  simp [sProveCoal, h, h0, (coal_sum A.k0 h).1, hm]
end Go.Vm

set_option linter.unusedVariables false
set_option linter.unusedSimpArgs false
set_option maxRecDepth 100000
namespace Go.Vm
/-! ### fewer truths -/
/-- The same hours, coal and promises; each truth of x is one of c. -/
structure SubT (x c : Cu) : Prop where
  last : x.last = c.last
  start : x.start = c.start
  most : x.most = c.most
  per : x.per = c.per
  coal : x.coal = c.coal
  want : x.want = c.want
  sub : ∀ t ∈ rTruths x, t ∈ rTruths c
theorem SubT.heat {x c : Cu} (S : SubT x c) (t : Tr2) (coal want : List Int) (i : Nat) : sHeat x (tS t) coal want i = sHeat c (tS t) coal want i := sHeat_cu c x S.start S.most S.per _ _ _ _
theorem SubT.kept {x c : Cu} (S : SubT x c) (coal want : List Int) (t : Tr2) (i : Nat) : keptI x coal want t i = keptI c coal want t i := by
  simp only [keptI, S.heat, S.per]
theorem SubT.whole {x c : Cu} (S : SubT x c) (coal want : List Int) (t : Tr2) : wholeI x coal want t = wholeI c coal want t := by
  simp only [wholeI, S.kept, S.last]
theorem SubT.hot {x c : Cu} (S : SubT x c) (t : Tr2) (i : Nat) : hotI x t i = hotI c t i := by
  simp only [hotI, S.coal, S.want, S.heat, S.per]
theorem SubT.left {x c : Cu} (S : SubT x c) (t : Tr2) (i : Nat) : leftI x t i = leftI c t i := by
  simp only [leftI, S.coal, S.want, sPlay_cu c x S.start S.most S.per]
theorem hot_le {c : Cu} (k0 : CuOk c) {t : Tr2} (T : T2Ok c t) {i : Nat} (hi : (i : Int) ≤ c.last) : 0 ≤ hotI c t i ∧ hotI c t i ≤ 100000 := by
  have hh := sHeat_le (T.tr k0).play hi
  have h1 := Int.tdiv_nonneg hh.1 (b := c.per) (by have := k0.per; omega)
  have h2 := Int.tdiv_le_self c.per hh.1
  simp only [hotI]; omega
theorem left_le {c : Cu} (k0 : CuOk c) {t : Tr2} (T : T2Ok c t) {i : Nat} (hi : (i : Int) ≤ c.last) : 0 ≤ leftI c t i ∧ leftI c t i ≤ 100000 := by
  have hh := sPlay_inv (T.tr k0).play (i + 1) (by omega)
  simp only [leftI]; omega
theorem rB_ends' {ys : List Int} (hne : ys ≠ []) (hb : ∀ x ∈ ys, 0 ≤ x ∧ x ≤ 100000) : (rB ys).lo ∈ ys ∧ (rB ys).hi ∈ ys := by
  obtain ⟨g1, g2, g3, g4, g5, g6⟩ := fold_wider ys rEmpty
  rw [rB]
  generalize ys.foldl sWider rEmpty = B at g1 g2 g3 g4 g5 g6 ⊢
  obtain ⟨y, hy⟩ := List.exists_mem_of_ne_nil _ hne
  have hn := hb y hy
  have b1 := g2 y hy
  have b2 := g5 y hy
  constructor
  · rcases g3 with h | h
    · simp only [rEmpty] at h; omega
    · exact h
  · rcases g6 with h | h
    · simp only [rEmpty] at h; omega
    · exact h
theorem rB_sub {xs ys : List Int} (hne : xs ≠ []) (hb : ∀ x ∈ xs, 0 ≤ x ∧ x ≤ 100000) (hs : ∀ x ∈ xs, x ∈ ys) : (rB ys).lo ≤ (rB xs).lo ∧ (rB xs).hi ≤ (rB ys).hi := by
  obtain ⟨h1, h2⟩ := rB_ends' hne hb
  have g1 := rB_in (hs _ h1)
  have g2 := rB_in (hs _ h2)
  simp only [sIn, Bool.and_eq_true, decide_eq_true_eq] at g1 g2
  exact ⟨g1.1, g2.2⟩
theorem SubT.hotB {x c : Cu} (S : SubT x c) (X : AskOk x true) (A : AskOk c true) {i : Nat} (hi : (i : Int) ≤ c.last) : (sHotB c i).lo ≤ (sHotB x i).lo ∧ (sHotB x i).hi ≤ (sHotB c i).hi := by
  have hne : rTruths x ≠ [] := fun e => X.ne ((same_nil X.k0).2 e)
  have hx : (i : Int) ≤ x.last := by rw [S.last]; exact hi
  rw [hotB_same A hi, hotB_same X hx]
  refine rB_sub (by simpa using hne) (fun n hn => ?_) fun n hn => ?_
  · obtain ⟨t, ht, rfl⟩ := List.mem_map.1 hn
    exact hot_le X.k0 (rTr_ok X.k0 _ t ht) hx
  · obtain ⟨t, ht, rfl⟩ := List.mem_map.1 hn
    exact List.mem_map.2 ⟨t, S.sub t ht, (S.hot t i).symm⟩
theorem SubT.leftB {x c : Cu} (S : SubT x c) (X : AskOk x true) (A : AskOk c true) {i : Nat} (hi : (i : Int) ≤ c.last) : (sLeftB c i).lo ≤ (sLeftB x i).lo ∧ (sLeftB x i).hi ≤ (sLeftB c i).hi := by
  have hne : rTruths x ≠ [] := fun e => X.ne ((same_nil X.k0).2 e)
  have hx : (i : Int) ≤ x.last := by rw [S.last]; exact hi
  rw [leftB_same A hi, leftB_same X hx]
  refine rB_sub (by simpa using hne) (fun n hn => ?_) fun n hn => ?_
  · obtain ⟨t, ht, rfl⟩ := List.mem_map.1 hn
    exact left_le X.k0 (rTr_ok X.k0 _ t ht) hx
  · obtain ⟨t, ht, rfl⟩ := List.mem_map.1 hn
    exact List.mem_map.2 ⟨t, S.sub t ht, (S.left t i).symm⟩
theorem SubT.keeps {x c : Cu} (S : SubT x c) (X : AskOk x true) (A : AskOk c true) {i : Nat} (hi : (i : Int) ≤ c.last) : kpF c i = 3 ∨ kpF c i = kpF x i := by
  have hne : rTruths x ≠ [] := fun e => X.ne ((same_nil X.k0).2 e)
  have hnc : rTruths c ≠ [] := fun e => A.ne ((same_nil A.k0).2 e)
  have hx : (i : Int) ≤ x.last := by rw [S.last]; exact hi
  rw [keeps_same A hi, keeps_same X hx, rKeeps, rKeeps, rVerdict_count _ hne, rVerdict_count _ hnc]
  have e : ∀ t, keptI x x.coal x.want t i = keptI c c.coal c.want t i := fun t => by rw [S.coal, S.want, S.kept]
  simp only [e]
  by_cases h1 : ((rTruths c).all fun t => keptI c c.coal c.want t i) = true
  · have h2 : ((rTruths x).all fun t => keptI c c.coal c.want t i) = true := List.all_eq_true.2 fun t ht => List.all_eq_true.1 h1 t (S.sub t ht)
    right; rw [if_pos h1, if_pos h2]
  · rw [if_neg h1]
    by_cases h3 : ((rTruths c).any fun t => keptI c c.coal c.want t i) = true
    · left; rw [if_pos h3]
    · right
      have h4 : ∀ t ∈ rTruths x, keptI c c.coal c.want t i = false := fun t ht => by
        rw [Bool.not_eq_true, List.any_eq_false] at h3
        simpa using h3 t (S.sub t ht)
      have h5 : ¬ ((rTruths x).any fun t => keptI c c.coal c.want t i) = true := by
        rw [Bool.not_eq_true, List.any_eq_false]
        intro t ht; simp [h4 t ht]
      have h6 : ¬ ((rTruths x).all fun t => keptI c c.coal c.want t i) = true := by
        rw [List.all_eq_true]
        intro h
        obtain ⟨y, hy⟩ := List.exists_mem_of_ne_nil _ hne
        have := h y hy
        rw [h4 y hy] at this; cases this
      rw [if_neg h3, if_neg h6, if_neg h5]
theorem SubT.wholes {x c : Cu} (S : SubT x c) (hne : rTruths x ≠ []) {coal want : List Int} (h : rWholes c (rTruths c) coal want = 1) : rWholes x (rTruths x) coal want = 1 := by
  have hnc : rTruths c ≠ [] := fun e => by
    obtain ⟨y, hy⟩ := List.exists_mem_of_ne_nil _ hne
    have := S.sub y hy
    rw [e] at this; simp at this
  rw [wholes_one hnc] at h
  rw [wholes_one hne]
  intro t ht
  rw [S.whole]
  exact h t (S.sub t ht)
theorem SubT.sure {x c : Cu} (S : SubT x c) (X : AskOk x true) (A : AskOk c true) {coal : List Int} (h : sSureP c coal = true) : sSureP x coal = true := by
  have hne : rTruths x ≠ [] := fun e => X.ne ((same_nil X.k0).2 e)
  rw [sure_whole A.k0 A.ne, decide_eq_true_eq] at h
  rw [sure_whole X.k0 X.ne, decide_eq_true_eq, S.want]
  exact S.wholes hne h
/-- What Spare returns. -/
theorem spare_some {c : Cu} {hour : Int} (h : sIn hour 0 c.last = true) (h0 : sAsked c true = 0) : (∃ s : Int, sSpareA c hour = (s, 0) ∧ 0 ≤ s ∧ s ≤ 20 ∧ sWith c (sTruth c) (moreAt c hour s) = 1 ∧ ∀ m, s < m → m ≤ 20 → sWith c (sTruth c) (moreAt c hour m) ≠ 1) ∨ (sSpareA c hour = (0, 10) ∧ ∀ m, 0 ≤ m → m ≤ 20 → sWith c (sTruth c) (moreAt c hour m) ≠ 1) := by
  unfold sSpareA
  rw [h, if_pos h0]
  cases hf : (List.range 21).find? fun (j : Nat) => decide (sWith c (sTruth c) (moreAt c hour (20 - j)) = 1) with
  | some j =>
    rw [List.find?_eq_some_iff_getElem] at hf
    obtain ⟨h1, i, hi, h2, h3⟩ := hf
    simp only [List.length_range] at hi
    simp only [List.getElem_range] at h2 h3
    subst h2
    refine .inl ⟨20 - (i : Int), rfl, by omega, by omega, by simpa using h1, fun m hm hm2 => ?_⟩
    have := h3 (20 - m).toNat (by omega)
    rw [show (20 : Int) - ((20 - m).toNat : Int) = m by omega] at this
    simpa using this
  | none =>
    rw [List.find?_eq_none] at hf
    refine .inr ⟨rfl, fun m hm hm2 => ?_⟩
    have := hf (20 - m).toNat (by simp; omega)
    rw [show (20 : Int) - ((20 - m).toNat : Int) = m by omega] at this
    simpa using this
theorem moreAt_cu {x c : Cu} (h : x.last = c.last) (hour n : Int) : moreAt x hour n = moreAt c hour n := by simp only [moreAt, h]
theorem SubT.with {x c : Cu} (S : SubT x c) (X : AskOk x true) (A : AskOk c true) {more : List Int} (hm : more.length = c.want.length) (h : sWith c (sTruth c) more = 1) : sWith x (sTruth x) more = 1 := by
  have hne : rTruths x ≠ [] := fun e => X.ne ((same_nil X.k0).2 e)
  rw [with_same A.k0 A.ne hm] at h
  rw [with_same X.k0 X.ne (by rw [S.want]; exact hm), S.want, S.coal]
  exact S.wholes hne h
theorem SubT.spare {x c : Cu} (S : SubT x c) (X : AskOk x true) (A : AskOk c true) (hx : sAsked x true = 0) (hc : sAsked c true = 0) {hour : Int} (h : sIn hour 0 c.last = true) :
    ((sSpareA c hour).2 = 0 ∧ (sSpareA x hour).2 = 0 ∧ (sSpareA c hour).1 ≤ (sSpareA x hour).1) ∨ ((sSpareA c hour).2 = 10 ∧ ((sSpareA x hour).2 = 0 ∨ (sSpareA x hour).2 = 10)) := by
  have hlen : ∀ n, (moreAt c hour n).length = c.want.length := fun n => by have := A.k0.want.1; have := A.k0.last; rw [moreAt_len]; omega
  rcases spare_some h hc with ⟨s, e, s0, s20, w, _⟩ | ⟨e, _⟩
  · rcases spare_some (c := x) (by rw [S.last]; exact h) hx with ⟨s', e', s0', s20', w', hn⟩ | ⟨e', hn⟩
    · left
      rw [e, e']
      refine ⟨rfl, rfl, ?_⟩
      simp only
      by_cases hlt : s' < s
      · have := hn s hlt s20
        rw [moreAt_cu S.last] at this
        exact absurd (S.with X A (hlen s) w) this
      · omega
    · have := hn s s0 s20
      rw [moreAt_cu S.last] at this
      exact absurd (S.with X A (hlen s) w) this
  · right
    rcases spare_some (c := x) (by rw [S.last]; exact h) hx with ⟨s', e', _⟩ | ⟨e', _⟩
    · rw [e, e']; exact ⟨rfl, .inl rfl⟩
    · rw [e, e']; exact ⟨rfl, .inr rfl⟩
/-! which readings are left out -/
theorem leave_best {c : Cu} (k0 : CuOk c) : ∃ b, b < 2 ^ c.readings.length ∧ leaveAll c = some (sBits b) ∧ possN c (2 ^ c.readings.length - 1 - b) = true ∧ ∀ j, j < 2 ^ c.readings.length → possN c (2 ^ c.readings.length - 1 - j) = true → (sBits b).length ≤ (sBits j).length := by
  have hn : c.readings.length < 6 := by have := k0.rds; omega
  obtain ⟨b, h1, h2, h3, h4⟩ := leave_first k0
  refine ⟨b, h1, h2, h3, fun j hj hP => ?_⟩
  have := h4 j hj hP
  have hr := perm_rk hn hj h1
  rw [decide_eq_false (by omega)] at hr
  simp only [lShorter, Bool.or_eq_false_iff, decide_eq_false_iff_not] at hr
  omega
theorem bits_mod : ∀ n, n < 5 → ∀ b, b < 2 ^ (n + 1) → (sBits (b % 2 ^ n)).length ≤ (sBits b).length ∧ ∀ i, i < n → (2 ^ n - 1 - b % 2 ^ n).testBit i = (2 ^ (n + 1) - 1 - b).testBit i := by decide +kernel
theorem bits_add : ∀ n, n < 5 → ∀ b, b < 2 ^ n → (sBits (b + 2 ^ n)).length = (sBits b).length + 1 := by decide +kernel
theorem bits_zero : ∀ b, b < 32 → (sBits b).length = 0 → b = 0 := by decide +kernel
theorem gD_append (l : List Rd) (r : Rd) {i : Nat} (h : i < l.length) : gD (l ++ [r]) i = gD l i := by
  simp only [gD, Int.toNat_natCast, List.getD_eq_getElem?_getD, List.getElem?_append_left h]
theorem range_all_le {n m : Nat} (h : n ≤ m) {f : Nat → Bool} (hf : (List.range m).all f = true) : (List.range n).all f = true := by
  rw [List.all_eq_true] at hf ⊢
  intro i hi
  exact hf i (by simp only [List.mem_range] at hi ⊢; omega)
theorem more_poss {c : Cu} (k0 : CuOk c) {r : Rd} (kx : CuOk (cuR c (c.readings ++ [r]))) {B C : Nat} (h : ∀ i, i < c.readings.length → C.testBit i = B.testBit i) (hp : possN (cuR c (c.readings ++ [r])) B = true) : possN c C = true := by
  unfold possN at hp ⊢
  rw [any_truths k0 kx (cuR_listed c _)] at hp
  rw [List.any_eq_true] at hp ⊢
  obtain ⟨s, hs, hall⟩ := hp
  refine ⟨s, hs, ?_⟩
  have hall := range_all_le (n := c.readings.length) (by simp [cuR]) hall
  rw [← hall]
  refine range_all_congr fun i hi => ?_
  rw [h i hi, read1_ok, read1_ok, cuR_rdOk]
  simp only [cuR]
  rw [gD_append _ _ hi]
theorem more_poss' {c : Cu} (k0 : CuOk c) {r : Rd} (kx : CuOk (cuR c (c.readings ++ [r]))) {B : Nat} (hB : B < 2 ^ c.readings.length) (hp : possN c B = true) : possN (cuR c (c.readings ++ [r])) B = true := by
  unfold possN at hp ⊢
  rw [any_truths k0 kx (cuR_listed c _)]
  rw [List.any_eq_true] at hp ⊢
  obtain ⟨s, hs, hall⟩ := hp
  refine ⟨s, hs, ?_⟩
  rw [List.all_eq_true] at hall ⊢
  intro i hi
  simp only [cuR, List.length_append, List.length_cons, List.length_nil, List.mem_range] at hi
  by_cases hin : i < c.readings.length
  · have := hall i (by simpa using hin)
    rw [read1_ok] at this ⊢
    rw [cuR_rdOk]
    simp only [cuR]
    rw [gD_append _ _ hin]
    exact this
  · have : B.testBit i = false := Nat.testBit_lt_two_pow (Nat.lt_of_lt_of_le hB (Nat.pow_le_pow_right (by omega) (by omega)))
    simp [this]
theorem more_leave {c : Cu} (k0 : CuOk c) {r : Rd} (kx : CuOk (cuR c (c.readings ++ [r]))) : ∃ l m, leaveAll c = some l ∧ leaveAll (cuR c (c.readings ++ [r])) = some m ∧ l.length ≤ m.length ∧ m.length ≤ l.length + 1 ∧ l.length ≤ 5 ∧ m.length ≤ 5 ∧ (m.length = 0 → sPoss (cuR c (c.readings ++ [r])) [] = true ∧ sPoss c [] = true) := by
  have hn : c.readings.length < 5 := by have := kx.rds; simp only [cuR, List.length_append, List.length_cons, List.length_nil] at this; omega
  have hlen : (cuR c (c.readings ++ [r])).readings.length = c.readings.length + 1 := by simp [cuR]
  obtain ⟨b, b1, b2, b3, b4⟩ := leave_best k0
  obtain ⟨d, d1, d2, d3, d4⟩ := leave_best kx
  rw [hlen] at d1 d3 d4
  obtain ⟨g1, g2⟩ := bits_mod _ hn d d1
  have h2 : (2 : Nat) ^ (c.readings.length + 1) = 2 ^ c.readings.length * 2 := Nat.pow_succ ..
  have hmod : d % 2 ^ c.readings.length < 2 ^ c.readings.length := Nat.mod_lt _ (Nat.two_pow_pos _)
  refine ⟨_, _, b2, d2, ?_, ?_, sBits_len b, sBits_len d, fun h => ?_⟩
  · exact Nat.le_trans (b4 _ hmod (more_poss k0 kx g2 d3)) g1
  · rw [← bits_add _ hn b b1]
    refine d4 _ (by omega) ?_
    rw [show 2 ^ (c.readings.length + 1) - 1 - (b + 2 ^ c.readings.length) = 2 ^ c.readings.length - 1 - b by omega]
    exact more_poss' k0 kx (by omega) b3
  · have hd : d = 0 := bits_zero d (by have : (2 : Nat) ^ (c.readings.length + 1) ≤ 2 ^ 5 := Nat.pow_le_pow_right (by omega) (by omega); omega) h
    subst hd
    have hx : sPoss (cuR c (c.readings ++ [r])) [] = true := by rw [poss_all kx, hlen]; exact d3
    refine ⟨hx, ?_⟩
    rw [poss_all k0]
    refine more_poss k0 kx (B := 2 ^ (c.readings.length + 1) - 1 - 0) (fun i hi => ?_) d3
    rw [testBit_ones, Nat.sub_zero, testBit_ones]
    simp; omega
theorem more_sub {c : Cu} (k0 : CuOk c) {r : Rd} (kx : CuOk (cuR c (c.readings ++ [r]))) : SubT (cuR c (c.readings ++ [r])) c :=
  ⟨rfl, rfl, rfl, rfl, rfl, rfl, fun t ht => by
    obtain ⟨h1, h2⟩ := (mem_rTruths' kx t).1 ht
    refine (mem_rTruths' k0 t).2 ⟨(cuR_listed _ _ _).1 h1, ?_⟩
    rw [right_all, List.all_eq_true] at h2 ⊢
    intro q hq
    have := h2 q (by simp only [cuR]; exact List.mem_append_left _ hq)
    rw [cuR_rdOk] at this
    exact this⟩
end Go.Vm

set_option linter.unusedVariables false
set_option linter.unusedSimpArgs false
set_option maxRecDepth 100000
namespace Go.Vm
open Go.Proofs
/-! ### ranges in other ranges; verdicts that stay -/
theorem c_lInside (a b : List Rg) (hl : a.length = b.length) (ha : (a.length : Int) ≤ 1000000) (h : ∀ i : Nat, i < a.length → (gR b i).lo ≤ (gR a i).lo ∧ (gR a i).hi ≤ (gR b i).hi) : Pu Try.prog (.fn 68 [] []) [vR a, vR b] (.bool true) := by
  refine Ev.fn Try.func68 rfl rfl (Fn.body tabOk Try.func68 rfl (Nat.le_of_ble_eq_true rfl) (Ks.ok (fz := (fzn [])) (cl := (cln [(6, .d tg0 [cP, cP, cP, cP, cP, cP, cP, cP, cP, cP, cP, cP, cP, cP, cP, cP, cP, cP, cP, cP, cP, cP, cP, cP])])) tabOk mixed ?_))
  generalize hQ : FnPost tt Try.f68 _ _ = Q
  simp only [Try.f68, List.nil_append, List.append_nil, argsEnv, Nat.reduceAdd]
  have hl' : ((a.length : Int) != (b.length : Int)) = false := by simp [hl]
  simp only [gos, eq_self, Nat.reduceLT, Nat.reduceEqDiff, reduceCtorEq, reduceIte, ↓reduceIte, tt, vgo, vout, vguard, callOf, vop, ev, cv, vbin, vint, isShift, isNilConst, vlen, vR, hl']
  refine W.loop tabOk mixed (fun i : Nat => ([(0, vR a), (1, vR b), (5, vi i)], [])) (fun i => a.length - i) (fun i => i ≤ a.length) 0 (by omega) (Wk.env (by simp [subE, Env.get, vR])) ?_
  intro i hi
  by_cases hil : (i : Int) < a.length
  · have h1 := h i (by omega)
    have n1 : ¬ (gR a i).lo < (gR b i).lo := by omega
    have n2 : ¬ (gR b i).hi < (gR a i).hi := by omega
    have hib : (i : Int) < b.length := by omega
    simp only [gos, eq_self, Nat.reduceLT, Nat.reduceEqDiff, reduceCtorEq, reduceIte, ↓reduceIte, tt, vgo, vout, vguard, callOf, vop, ev, vbin, vint, isShift, isNilConst, vlen, vR, hil]
    refine Wr.draw (by kernel_rfl) ?_
    simp only [gos, eq_self, Nat.reduceLT, Nat.reduceEqDiff, Nat.reduceAdd, reduceCtorEq, reduceIte, ↓reduceIte, tt, vgo, vout, vgoD, voutD, vclsOk, vids, mayWrite, V.ids, vguard, callOf, vop, ev, cv, vbin, vint, isShift, isNilConst, vload, clsAt, hil, hib, Int.natCast_nonneg, cR_at (Int.natCast_nonneg i) hil, cR_at (Int.natCast_nonneg i) hib, n1, n2]
    exact Nx.mk (i + 1) (show a.length - (i + 1) < a.length - i by omega) (by omega) (Wk.env (by simp [subE, Env.get, i64_succ (show (i : Int) < 9223372036854775807 by omega)]))
  · simp only [gos, eq_self, Nat.reduceLT, Nat.reduceEqDiff, reduceCtorEq, reduceIte, ↓reduceIte, tt, vgo, vout, vguard, callOf, vop, ev, cv, vbin, vint, isShift, isNilConst, vlen, vR, hil]
    subst hQ
    exact FnPost.plain trivial (fun h2 e => by first | rfl | (simp only [Try.f68, vres, vresL, vres1, e _, gos, if_true, if_false, ne_eq, eq_self, Nat.reduceLT, Nat.reduceEqDiff, Nat.reduceAdd, Nat.reduceMul, Nat.reduceLeDiff, Nat.reduceBEq, reduceCtorEq, reduceIte, Array.toList, ↓reduceIte, tt, vgo, vout, vgoD, voutD, vclsOk, vids, mayWrite, V.ids, V.mids, vguard, callOf, vop, ev, cv, vbin, vint, isShift, isNilConst, vnil, isNilSlice, vload, vlen, newRow, vfill, vslice, entOf, vappend, srcOf, vcopy, vlookup, vupdate, mapOk, keyOf, intsOf, clsAt]; try rfl)) (WkV.pure (by simp only [V.into])) ⟨rfl, rfl⟩
theorem c_lKept (a b : List Int) (hl : a.length = b.length) (ha : (a.length : Int) ≤ 1000000) (h : ∀ i : Nat, i < a.length → gi a i = 3 ∨ gi a i = gi b i) : Pu Try.prog (.fn 69 [] []) [vI a, vI b] (.bool true) := by
  refine Ev.fn Try.func69 rfl rfl (Fn.body tabOk Try.func69 rfl (Nat.le_of_ble_eq_true rfl) (Ks.ok (fz := (fzn [])) (cl := (cln [(6, .d tg0 [cP, cP, cP, cP, cP, cP, cP, cP, cP, cP, cP, cP, cP, cP, cP, cP])])) tabOk mixed ?_))
  generalize hQ : FnPost tt Try.f69 _ _ = Q
  simp only [Try.f69, List.nil_append, List.append_nil, argsEnv, Nat.reduceAdd]
  have hl' : ((a.length : Int) != (b.length : Int)) = false := by simp [hl]
  simp only [gos, eq_self, Nat.reduceLT, Nat.reduceEqDiff, reduceCtorEq, reduceIte, ↓reduceIte, tt, vgo, vout, vguard, callOf, vop, ev, cv, vbin, vint, isShift, isNilConst, vlen, vI, hl']
  refine W.loop tabOk mixed (fun i : Nat => ([(0, vI a), (1, vI b), (5, vi i)], [])) (fun i => a.length - i) (fun i => i ≤ a.length) 0 (by omega) (Wk.env (by simp [subE, Env.get, vI])) ?_
  intro i hi
  by_cases hil : (i : Int) < a.length
  · have hib : (i : Int) < b.length := by omega
    have hsucc := i64_succ (show (i : Int) < 9223372036854775807 by omega)
    simp only [gos, eq_self, Nat.reduceLT, Nat.reduceEqDiff, reduceCtorEq, reduceIte, ↓reduceIte, tt, vgo, vout, vguard, callOf, vop, ev, vbin, vint, isShift, isNilConst, vlen, vI, hil]
    refine Wr.draw (by kernel_rfl) ?_
    by_cases h3 : gi a i = 3
    · have n1 : (gi a i != 3) = false := by simp [h3]
      simp only [gos, eq_self, Nat.reduceLT, Nat.reduceEqDiff, Nat.reduceAdd, reduceCtorEq, reduceIte, ↓reduceIte, tt, vgo, vout, vgoD, voutD, vclsOk, vids, mayWrite, V.ids, vguard, callOf, vop, ev, cv, vbin, vint, isShift, isNilConst, vload, clsAt, hil, Int.natCast_nonneg, cI_at (Int.natCast_nonneg i) hil, n1]
      exact Nx.mk (i + 1) (show a.length - (i + 1) < a.length - i by omega) (by omega) (Wk.env (by simp [subE, Env.get, hsucc]))
    · have n1 : (gi a i != 3) = true := by simp [h3]
      have n2 : (gi a i != gi b i) = false := by
        have := (h i (by omega)).resolve_left h3
        simp [this]
      simp only [gos, eq_self, Nat.reduceLT, Nat.reduceEqDiff, Nat.reduceAdd, reduceCtorEq, reduceIte, ↓reduceIte, tt, vgo, vout, vgoD, voutD, vclsOk, vids, mayWrite, V.ids, vguard, callOf, vop, ev, cv, vbin, vint, isShift, isNilConst, vload, clsAt, hil, hib, Int.natCast_nonneg, cI_at (Int.natCast_nonneg i) hil, cI_at (Int.natCast_nonneg i) hib, n1, n2]
      exact Nx.mk (i + 1) (show a.length - (i + 1) < a.length - i by omega) (by omega) (Wk.env (by simp [subE, Env.get, hsucc]))
  · simp only [gos, eq_self, Nat.reduceLT, Nat.reduceEqDiff, reduceCtorEq, reduceIte, ↓reduceIte, tt, vgo, vout, vguard, callOf, vop, ev, cv, vbin, vint, isShift, isNilConst, vlen, vI, hil]
    subst hQ
    exact FnPost.plain trivial (fun h2 e => by first | rfl | (simp only [Try.f69, vres, vresL, vres1, e _, gos, if_true, if_false, ne_eq, eq_self, Nat.reduceLT, Nat.reduceEqDiff, Nat.reduceAdd, Nat.reduceMul, Nat.reduceLeDiff, Nat.reduceBEq, reduceCtorEq, reduceIte, Array.toList, ↓reduceIte, tt, vgo, vout, vgoD, voutD, vclsOk, vids, mayWrite, V.ids, V.mids, vguard, callOf, vop, ev, cv, vbin, vint, isShift, isNilConst, vnil, isNilSlice, vload, vlen, newRow, vfill, vslice, entOf, vappend, srcOf, vcopy, vlookup, vupdate, mapOk, keyOf, intsOf, clsAt]; try rfl)) (WkV.pure (by simp only [V.into])) ⟨rfl, rfl⟩
end Go.Vm

set_option linter.unusedVariables false
set_option linter.unusedSimpArgs false
set_option maxRecDepth 100000
namespace Go.Vm
open Go.Proofs
theorem cD_one' : ∀ l : List Rd, oneL (cD l) = true
  | [] => rfl
  | r :: l => by simp only [cD, oneL, V.one, Bool.true_and, cD_one' l]
set_option maxHeartbeats 16000000 in
theorem l_CopperMore (c : Cu) (hc : I64 c.last) (hrl : c.readings.length ≤ 5864062014634) (r : Rd) (hour : Int) (hh : 0 ≤ hour ∧ hour ≤ 255) (coal : Int) (ho : 0 ≤ coal ∧ coal ≤ 65535) :
    Vm.Fn Try.prog 14 [.agg c.cs, .agg r.cs, .int .u8 hour, .int .u16 coal] [] fun v h' => v = .bool true := by
  refine Fn.body tabOk Try.func14 rfl (Nat.le_of_ble_eq_true rfl) (Ks.ok (fz := (fzn [])) (cl := (cln [(2, .d (tgL [(9, 1), (34, 2), (37, 2)]) [cP, cP, cP, some ([2], [2]), cP, cP, some ([2], [2]), cP, some ([1], [1])]), (3, .ex), (11, .d tg0 [cP, cP, cP, cP, cP, cP, cP, cP, cP, cP, cP, cP, cP, cP, cP])])) tabOk mixed ?_)
  generalize hQ : FnPost tt Try.f14 _ _ = Q
  simp only [Try.f14, argsEnv, Nat.reduceAdd]
  have hD1 : (cD c.readings).length = c.readings.length * 3 := cD_len _
  have tD : List.take (c.readings.length * 3) (cD c.readings) = cD c.readings := List.take_of_length_le (by omega)
  have hone := cD_one' c.readings
  have hsn : cD c.readings ++ [vi r.hour, vi r.b.lo, vi r.b.hi] = cD (c.readings ++ [r]) := (cD_snoc c.readings r).symm
  have hlen1 : (c.readings ++ [r]).length = c.readings.length + 1 := by simp
  have tD' : List.take ((c.readings.length + 1) * 3) (cD (c.readings ++ [r])) = cD (c.readings ++ [r]) := List.take_of_length_le (by rw [cD_len, hlen1]; omega)
  simp only [gos, eq_self, Nat.reduceLT, Nat.reduceEqDiff, Nat.reduceAdd, reduceCtorEq, reduceIte, ↓reduceIte, tt, vgo, vout, vguard, callOf, vop, ev, cv, vload, newRow, Cu.cs, Rd.cs, vD]
  refine Wr.draw (by kernel_rfl) ?_
  have hr6 : (c.readings.length + c.readings.length / 4 + 1000) * 24 ≤ 281474976710656 := by clear tD tD' hone hsn hlen1 hD1; omega
  have hr7 : (c.readings.length + 1 + (c.readings.length + 1) / 4 + 1000) * 24 ≤ 281474976710656 := by clear tD tD' hone hsn hlen1 hD1 hr6; omega
  simp only [gos, eq_self, Nat.reduceLT, Nat.reduceEqDiff, Nat.reduceAdd, Nat.reduceMul, Nat.reduceLeDiff, reduceCtorEq, reduceIte, ↓reduceIte, tt, vgoD, voutD, vclsOk, vids, mayWrite, V.ids, vguard, callOf, vop, ev, vload, vfill, vappend, srcOf, clsAt, hD1, hr6, hr7, hone, hsn, ite_self]
  clear hr6 hr7
  refine Wr.at tabOk 0 ?_
  simp only [gos]
  refine Wa.mk (ρ2 := [(4, .rop c.cs), (2, .int .u8 hour), (3, .int .u16 coal), (9, .rop (cuR c (c.readings ++ [r])).cs)]) (h2 := []) ?_ ?_
  · refine Wk.trans (Wk.env (ρ' := [(4, .rop c.cs), (2, .int .u8 hour), (3, .int .u16 coal), (9, .ptr 9 0 0)]) (by simp [subE, Env.get, Cu.cs, vD])) ?_
    refine Wk.trans (Wk.freeze 34 rfl rfl (cD_into _ _) rfl) ?_
    simp only [frzE, frzH, Blk.frz, V.frz, frzL, cI_frz, cR_frz, vI, vR, cu_frz, gos, eq_self, Nat.reduceEqDiff, reduceIte, ↓reduceIte, tD']
    refine Wk.trans (Wk.freeze 9 rfl rfl (by simp only [V.into, intoL, cI_into, cR_into, cD_into, Bool.and_true]) rfl) ?_
    simp only [frzE, frzH, V.frz, cu_frz, gos, eq_self, reduceIte, ↓reduceIte]
    exact Wk.env (by simp [subE, Env.get, vI, vR, vD, Cu.cs, cuR, hlen1])
  simp only [gos, eq_self, Nat.reduceLT, reduceCtorEq, reduceIte, ↓reduceIte, tt, vgo, vout, vguard, callOf, vop, ev, vload]
  refine Cl.pu (c_ready c hc) ?_ rfl (by simp only [V.into, intoL, cu_into, Bool.and_true])
  cases hts : sReady c with
  | false =>
    simp only [gos, eq_self, Nat.reduceLT, Nat.reduceEqDiff, reduceIte, ↓reduceIte, vgo, vout, vguard, callOf, vop, ev, cv]
    refine Cl.pu c_awake ?_
    simp only [gos, eq_self, Nat.reduceLT, reduceIte, ↓reduceIte, vgo, vout, vguard, callOf, vop, ev]
    subst hQ
    exact FnPost.plain trivial (v := .bool true) (fun h2 e => by rfl) (WkV.pure rfl) rfl
  | true =>
  obtain ⟨hth, h0⟩ := ready_ok hts
  have wf := thin_wf hc hth
  have k0 := sCheck_ok h0
  have mkx : ∀ kx : CuOk (cuR c (c.readings ++ [r])), SubT (cuR c (c.readings ++ [r])) c := fun kx => more_sub k0 kx
  have mkl : ∀ kx : CuOk (cuR c (c.readings ++ [r])), _ := fun kx => more_leave k0 kx
  have hxc : I64 (cuR c (c.readings ++ [r])).last := hc
  have hxsh : (cuR c (c.readings ++ [r])).shovels = c.shovels := rfl
  have hxla : (cuR c (c.readings ++ [r])).last = c.last := rfl
  generalize cuR c (c.readings ++ [r]) = x at mkx mkl hxc hxsh hxla ⊢
  have hxn : x.cs.length = 11 := rfl
  have hxt : x.cs.take 11 = x.cs := rfl
  simp only [gos, eq_self, Nat.reduceLT, Nat.reduceEqDiff, reduceCtorEq, reduceIte, ↓reduceIte, tt, vgo, vout, vguard, callOf, vop, ev, vload, hxn, hxt]
  refine Cl.pu (c_ready x hxc) ?_ rfl (by simp only [V.into, intoL, cu_into, Bool.and_true])
  cases hxs : sReady x with
  | false =>
    simp only [gos, eq_self, Nat.reduceLT, Nat.reduceEqDiff, reduceIte, ↓reduceIte, vgo, vout, vguard, callOf, vop, ev]
    refine Cl.pu c_awake ?_
    simp only [gos, eq_self, Nat.reduceLT, reduceIte, ↓reduceIte, vgo, vout, vguard, callOf, vop, ev]
    subst hQ
    exact FnPost.plain trivial (v := .bool true) (fun h2 e => by rfl) (WkV.pure rfl) rfl
  | true =>
  obtain ⟨hxh, hx0⟩ := ready_ok hxs
  have wx := thin_wf hxc hxh
  have kx := sCheck_ok hx0
  have T := mkx kx
  obtain ⟨l, m, e1, e2, hml, hlm, hl5, hm5, hpp⟩ := mkl kx
  clear mkx mkl
  have hl := k0.last
  obtain ⟨k, hk, hkl⟩ := hour_of hl hh.1
  have hz : ¬ c.last + 1 = 0 := by omega
  have f1 : sLeaveA c = (l, 0) := by simp [sLeaveA, h0, e1]
  have f2 : sLeaveA x = (m, 0) := by simp [sLeaveA, hx0, e2]
  have z0 : ((0 : Int) != 0) = false := rfl
  have n0 : ¬ (m.length : Int) < l.length := by omega
  have n1 : ¬ (l.length : Int) + 1 < (m.length : Int) := by omega
  simp only [gos, eq_self, Nat.reduceLT, Nat.reduceEqDiff, reduceCtorEq, reduceIte, ↓reduceIte, tt, vgo, vout, vguard, callOf, vop, ev, vload]
  refine Cl.pu (c_lCopper c wf) ?_ rfl (by simp only [V.into, intoL, cu_into, Bool.and_true])
  simp only [gos, eq_self, Nat.reduceLT, reduceIte, ↓reduceIte, vgo, vout, vguard, callOf, ev]
  refine Cl.pu (c_Leave c wf) ?_ rfl (by simp only [V.into, intoL, cu_into, Bool.and_true])
  rw [f1]
  simp only [gos, eq_self, Nat.reduceLT, Nat.reduceEqDiff, reduceCtorEq, reduceIte, ↓reduceIte, tt, vgo, vout, vguard, callOf, vop, ev, vload, hxn, hxt]
  refine Cl.pu (c_lCopper x wx) ?_ rfl (by simp only [V.into, intoL, cu_into, Bool.and_true])
  simp only [gos, eq_self, Nat.reduceLT, reduceIte, ↓reduceIte, vgo, vout, vguard, callOf, ev]
  refine Cl.pu (c_Leave x wx) ?_ rfl (by simp only [V.into, intoL, cu_into, Bool.and_true])
  rw [f2]
  simp only [gos, eq_self, Nat.reduceLT, Nat.reduceEqDiff, reduceIte, ↓reduceIte, tt, vgo, vout, vguard, callOf, vop, ev, cv, vbin, vint, isShift, isNilConst, vlen, vI, n0, n1, i64_in (show -9223372036854775808 ≤ (l.length : Int) + 1 by omega) (show (l.length : Int) + 1 ≤ 9223372036854775807 by omega)]
  by_cases hl0 : 0 < (m.length : Int)
  · simp only [gos, eq_self, Nat.reduceLT, Nat.reduceEqDiff, reduceIte, ↓reduceIte, vgo, vout, vguard, callOf, ev, hl0]
    refine Cl.pu c_awake ?_
    simp only [gos, eq_self, Nat.reduceLT, reduceIte, ↓reduceIte, vgo, vout, vguard, callOf, vop, ev]
    subst hQ
    exact FnPost.plain trivial (v := .bool true) (fun h2 e => by rfl) (WkV.pure rfl) rfl
  obtain ⟨px, pc⟩ := hpp (by omega)
  have hA : sAsked c true = 0 := by rw [asked_poss k0, if_pos pc]
  have hX : sAsked x true = 0 := by rw [asked_poss kx, if_pos px]
  have A := askOk_of hA
  have X := askOk_of hX
  have hC := rCoals_le k0
  have hC0 : ¬ rCoals c = 0 := by omega
  have t1 := tmod_le ho.1 hC.1
  have hco := is_coal.2 (rCoal_ok k0 t1.1)
  have hcl : ((rCoal c (coal.tmod (rCoals c))).length : Int) ≤ 1000000 := by have := (is_coal.1 hco).1; omega
  have hcx : sIsCoal x (rCoal c (coal.tmod (rCoals c))) = true := by
    have := is_coal.1 hco
    exact is_coal.2 ⟨by rw [hxla]; exact this.1, by rw [hxsh]; exact this.2⟩
  have s1 := coal_sum k0 hco
  simp only [gos, eq_self, Nat.reduceEqDiff, reduceIte, ↓reduceIte, hl0]
  refine Wr.draw (by kernel_rfl) ?_
  simp only [gos, eq_self, Nat.reduceLT, Nat.reduceEqDiff, Nat.reduceAdd, reduceCtorEq, reduceIte, ↓reduceIte, tt, vgoD, voutD, vclsOk, vids, mayWrite, V.ids, vguard, callOf, vop, ev, cv, vbin, vint, isShift, isNilConst, vload, clsAt, hz, i64_in (show -9223372036854775808 ≤ hour by omega) (show hour ≤ 9223372036854775807 by omega), i64_in (show -9223372036854775808 ≤ c.last + 1 by omega) (show c.last + 1 ≤ 9223372036854775807 by omega), i64_in (show -9223372036854775808 ≤ coal by omega) (show coal ≤ 9223372036854775807 by omega)]
  rw [← hk]
  refine CD.pu (c_rCoals c k0) ?_ rfl (by simp only [V.into, intoL, cu_into, Bool.and_true])
  simp only [gos, eq_self, Nat.reduceLT, Nat.reduceEqDiff, reduceIte, ↓reduceIte, vgoD, voutD, vclsOk, vids, mayWrite, vguard, callOf, vop, ev, vbin, vint, isShift, isNilConst, hC0]
  refine CD.pu (c_rCoal c k0 (coal.tmod (rCoals c)) (by omega)) ?_ rfl (by simp only [V.into, intoL, cu_into, Bool.and_true])
  generalize rCoal c (coal.tmod (rCoals c)) = o at *
  have g1 : sBoundsA c = (nR (c.last + 1) (sHotB c), nR (c.last + 1) (sLeftB c), 0) := by rw [sBoundsA, if_pos hA]
  have g2 : sBoundsA x = (nR (c.last + 1) (sHotB x), nR (c.last + 1) (sLeftB x), 0) := by rw [sBoundsA, if_pos hX, hxla]
  have g3 : sKeepsA c = (nI (c.last + 1) (kpF c), 0) := by rw [sKeepsA, if_pos hA]; rfl
  have g4 : sKeepsA x = (nI (c.last + 1) (kpF x), 0) := by rw [sKeepsA, if_pos hX, hxla]; rfl
  have y0 : decide ((0 : Int) = 0) = true := rfl
  have hkin : sIn (k : Int) 0 c.last = true := by simp only [sIn, Bool.and_eq_true, decide_eq_true_eq]; omega
  simp only [gos, eq_self, Nat.reduceLT, Nat.reduceEqDiff, reduceCtorEq, reduceIte, ↓reduceIte, tt, vgo, vout, vgoD, voutD, vclsOk, vids, mayWrite, vguard, callOf, vop, ev, vload]
  refine Cl.pu (c_lCopper c wf) ?_ rfl (by simp only [V.into, intoL, cu_into, Bool.and_true])
  simp only [gos, eq_self, Nat.reduceLT, reduceIte, ↓reduceIte, vgo, vout, vguard, callOf, ev]
  refine Cl.pu (c_Bounds c wf) ?_ rfl (by simp only [V.into, intoL, cu_into, Bool.and_true])
  rw [g1]
  simp only [gos, eq_self, Nat.reduceLT, Nat.reduceEqDiff, reduceCtorEq, reduceIte, ↓reduceIte, tt, vgo, vout, vguard, callOf, vop, ev, vload, hxn, hxt]
  refine Cl.pu (c_lCopper x wx) ?_ rfl (by simp only [V.into, intoL, cu_into, Bool.and_true])
  simp only [gos, eq_self, Nat.reduceLT, reduceIte, ↓reduceIte, vgo, vout, vguard, callOf, ev]
  refine Cl.pu (c_Bounds x wx) ?_ rfl (by simp only [V.into, intoL, cu_into, Bool.and_true])
  rw [g2]
  simp only [gos, eq_self, Nat.reduceLT, Nat.reduceEqDiff, reduceCtorEq, reduceIte, ↓reduceIte, tt, vgo, vout, vguard, callOf, vop, ev, vload]
  refine Cl.pu (c_lCopper c wf) ?_ rfl (by simp only [V.into, intoL, cu_into, Bool.and_true])
  simp only [gos, eq_self, Nat.reduceLT, reduceIte, ↓reduceIte, vgo, vout, vguard, callOf, ev]
  refine Cl.pu (c_Keeps c wf) ?_ rfl (by simp only [V.into, intoL, cu_into, Bool.and_true])
  rw [g3]
  simp only [gos, eq_self, Nat.reduceLT, Nat.reduceEqDiff, reduceCtorEq, reduceIte, ↓reduceIte, tt, vgo, vout, vguard, callOf, vop, ev, vload, hxn, hxt]
  refine Cl.pu (c_lCopper x wx) ?_ rfl (by simp only [V.into, intoL, cu_into, Bool.and_true])
  simp only [gos, eq_self, Nat.reduceLT, reduceIte, ↓reduceIte, vgo, vout, vguard, callOf, ev]
  refine Cl.pu (c_Keeps x wx) ?_ rfl (by simp only [V.into, intoL, cu_into, Bool.and_true])
  rw [g4]
  simp only [gos, eq_self, Nat.reduceLT, Nat.reduceEqDiff, reduceCtorEq, reduceIte, ↓reduceIte, tt, vgo, vout, vguard, callOf, vop, ev, vload]
  refine Cl.pu (c_lCopper c wf) ?_ rfl (by simp only [V.into, intoL, cu_into, Bool.and_true])
  simp only [gos, eq_self, Nat.reduceLT, Nat.reduceEqDiff, reduceIte, ↓reduceIte, vgo, vout, vguard, callOf, vop, ev]
  refine Cl.pu (c_Spare c wf k) ?_ rfl (by simp only [V.into, intoL, cu_into, Bool.and_true])
  simp only [gos, eq_self, Nat.reduceLT, Nat.reduceEqDiff, reduceCtorEq, reduceIte, ↓reduceIte, tt, vgo, vout, vguard, callOf, vop, ev, vload, hxn, hxt]
  refine Cl.pu (c_lCopper x wx) ?_ rfl (by simp only [V.into, intoL, cu_into, Bool.and_true])
  simp only [gos, eq_self, Nat.reduceLT, Nat.reduceEqDiff, reduceIte, ↓reduceIte, vgo, vout, vguard, callOf, vop, ev]
  refine Cl.pu (c_Spare x wx k) ?_ rfl (by simp only [V.into, intoL, cu_into, Bool.and_true])
  have hS := T.spare X A hX hA hkin
  generalize sSpareA c k = sc at hS ⊢
  generalize sSpareA x k = sx at hS ⊢
  obtain ⟨sc1, sc2⟩ := sc
  obtain ⟨sx1, sx2⟩ := sx
  simp only at hS
  have hlen1 : ∀ (f : Int → Rg), ((nR (c.last + 1) f).length : Int) = c.last + 1 := fun f => by rw [nR_len']; omega
  have hlen2 : ∀ (f : Int → Int), ((nI (c.last + 1) f).length : Int) = c.last + 1 := fun f => by rw [nI_len']; omega
  have q1 : Pu Try.prog (.fn 68 [] []) [vR (nR (c.last + 1) (sHotB x)), vR (nR (c.last + 1) (sHotB c))] (.bool true) :=
    c_lInside _ _ (by have := hlen1 (sHotB c); have := hlen1 (sHotB x); omega) (by have := hlen1 (sHotB x); omega) fun i hi => by
      have hi2 : (i : Int) < c.last + 1 := by have := hlen1 (sHotB x); omega
      rw [gR_nR hi2, gR_nR hi2]
      exact T.hotB X A (by omega)
  have q2 : Pu Try.prog (.fn 68 [] []) [vR (nR (c.last + 1) (sLeftB x)), vR (nR (c.last + 1) (sLeftB c))] (.bool true) :=
    c_lInside _ _ (by have := hlen1 (sLeftB c); have := hlen1 (sLeftB x); omega) (by have := hlen1 (sLeftB x); omega) fun i hi => by
      have hi2 : (i : Int) < c.last + 1 := by have := hlen1 (sLeftB x); omega
      rw [gR_nR hi2, gR_nR hi2]
      exact T.leftB X A (by omega)
  have q3 : Pu Try.prog (.fn 69 [] []) [vI (nI (c.last + 1) (kpF c)), vI (nI (c.last + 1) (kpF x))] (.bool true) :=
    c_lKept _ _ (by have := hlen2 (kpF c); have := hlen2 (kpF x); omega) (by have := hlen2 (kpF c); omega) fun i hi => by
      have hi2 : (i : Int) < c.last + 1 := by have := hlen2 (kpF c); omega
      rw [gi_nI hi2, gi_nI hi2]
      exact T.keeps X A (by omega)
  simp only [gos, eq_self, Nat.reduceLT, Nat.reduceEqDiff, reduceIte, ↓reduceIte, vgo, vout, vguard, callOf, vop, ev]
  simp only [List.append]
  simp only [gos, eq_self, Nat.reduceLT, Nat.reduceEqDiff, reduceIte, ↓reduceIte, vgo, vout, vguard, callOf, vop, ev, cv, vbin, vint, isShift, isNilConst]
  refine Cl.pu q1 ?_ rfl (by simp only [intoL, vR_into, Bool.and_true])
  simp only [gos, eq_self, Nat.reduceLT, Nat.reduceEqDiff, reduceIte, ↓reduceIte, vgo, vout, vguard, callOf, vop, ev]
  refine Cl.pu q2 ?_ rfl (by simp only [intoL, vR_into, Bool.and_true])
  simp only [gos, eq_self, Nat.reduceLT, Nat.reduceEqDiff, reduceIte, ↓reduceIte, vgo, vout, vguard, callOf, vop, ev, cv, vbin, vint, isShift, isNilConst]
  refine Cl.pu q3 ?_ rfl (by simp only [intoL, vI_into, Bool.and_true])
  have hS3 : (sc2 = 0 ∧ sx2 = 0 ∧ sc1 ≤ sx1) ∨ (sc2 = 10 ∧ sx2 = 0) ∨ (sc2 = 10 ∧ sx2 = 10) := by
    rcases hS with h | ⟨h1, h2 | h2⟩
    · exact .inl h
    · exact .inr (.inl ⟨h1, h2⟩)
    · exact .inr (.inr ⟨h1, h2⟩)
  have y1 : decide ((10 : Int) = 0) = false := rfl
  have y2 : decide ((10 : Int) = 10) = true := rfl
  rcases hS3 with ⟨rfl, rfl, hle⟩ | ⟨rfl, rfl⟩ | ⟨rfl, rfl⟩
  case' inl => simp only [gos, eq_self, Nat.reduceLT, Nat.reduceEqDiff, reduceCtorEq, reduceIte, ↓reduceIte, tt, vgo, vout, vguard, callOf, vop, ev, cv, vbin, vint, isShift, isNilConst, vload, hle]
  case' inr.inl => simp only [gos, eq_self, Nat.reduceLT, Nat.reduceEqDiff, reduceCtorEq, reduceIte, ↓reduceIte, tt, vgo, vout, vguard, callOf, vop, ev, cv, vbin, vint, isShift, isNilConst, vload, y1]
  case' inr.inr => simp only [gos, eq_self, Nat.reduceLT, Nat.reduceEqDiff, reduceCtorEq, reduceIte, ↓reduceIte, tt, vgo, vout, vguard, callOf, vop, ev, cv, vbin, vint, isShift, isNilConst, vload, y1]
  all_goals
    refine Cl.pu (c_lCopper c wf) ?_ rfl (by simp only [V.into, intoL, cu_into, Bool.and_true])
    simp only [gos, eq_self, Nat.reduceLT, Nat.reduceEqDiff, reduceIte, ↓reduceIte, vgo, vout, vguard, callOf, vop, ev]
    refine Cl.pu (c_list o hcl) ?_ rfl (by simp only [intoL, vI_into, Bool.and_true])
    simp only [gos, eq_self, Nat.reduceLT, Nat.reduceEqDiff, reduceIte, ↓reduceIte, vgo, vout, vguard, callOf, ev, cv]
    refine Cl.pu (c_ProveCoal c wf o hcl 99) ?_ rfl (by simp only [V.into, intoL, vI_into, cu_into, Bool.and_true])
    rw [prove_ok A hA hco (by omega)]
    cases hsc : sSureP c o with
    | false =>
      simp only [gos, eq_self, Nat.reduceLT, Nat.reduceEqDiff, reduceIte, ↓reduceIte, vgo, vout, vguard, callOf, vop, ev, cv]
      refine Cl.pu c_awake ?_
      simp only [gos, eq_self, Nat.reduceLT, Nat.reduceEqDiff, reduceIte, ↓reduceIte, vgo, vout, vguard, callOf, vop, ev]
      subst hQ
      exact FnPost.plain trivial (v := .bool true) (fun h2 e => by rfl) (WkV.pure rfl) rfl
    | true =>
      simp only [gos, eq_self, Nat.reduceLT, Nat.reduceEqDiff, reduceCtorEq, reduceIte, ↓reduceIte, tt, vgo, vout, vguard, callOf, vop, ev, vload, hxn, hxt]
      refine Cl.pu (c_lCopper x wx) ?_ rfl (by simp only [V.into, intoL, cu_into, Bool.and_true])
      simp only [gos, eq_self, Nat.reduceLT, Nat.reduceEqDiff, reduceIte, ↓reduceIte, vgo, vout, vguard, callOf, vop, ev]
      refine Cl.pu (c_list o hcl) ?_ rfl (by simp only [intoL, vI_into, Bool.and_true])
      simp only [gos, eq_self, Nat.reduceLT, Nat.reduceEqDiff, reduceIte, ↓reduceIte, vgo, vout, vguard, callOf, ev, cv]
      refine Cl.pu (c_ProveCoal x wx o hcl 99) ?_ rfl (by simp only [V.into, intoL, vI_into, cu_into, Bool.and_true])
      rw [prove_ok X hX hcx (by omega), T.sure X A hsc]
      simp only [gos, eq_self, Nat.reduceLT, Nat.reduceEqDiff, reduceIte, ↓reduceIte, vgo, vout, vguard, callOf, vop, ev]
      refine Cl.pu c_awake ?_
      simp only [gos, eq_self, Nat.reduceLT, Nat.reduceEqDiff, reduceIte, ↓reduceIte, vgo, vout, vguard, callOf, vop, ev]
      subst hQ
      exact FnPost.plain trivial (v := .bool true) (fun h2 e => by rfl) (WkV.pure rfl) rfl
end Go.Vm
