import Derived.Test.YtjppikcigeiomaaGreatB4
import Derived.Test.YtjppikcigeiomaaGreatRows
import Derived.WalkKit
import Derived.ProofKit
import Derived.OpenShut
import Derived.ShutString
import Derived.ChangeOld
import Derived.Below
set_option linter.unusedVariables false
set_option linter.unusedSimpArgs false
set_option maxRecDepth 100000
namespace Go.Vm
open Go.Proofs
theorem c_pfulfilled (p : Past) (i : Int) (h0 : 0 ≤ i) (h : i < p.kept.length) : Pu Tryz.prog (.fn 159 [] []) [.agg p.cs, vi i] (vi (if gB p.kept i then 1 else 0)) := by
  refine Ev.fn Tryz.func159 rfl rfl (Fn.body tabOk Tryz.func159 rfl (Nat.le_of_ble_eq_true rfl) (Ks.ok (fz := (fzn [])) (cl := (cln [])) tabOk mixed ?_))
  generalize hQ : FnPost tt Tryz.f159 _ _ = Q
  simp only [Tryz.f159, List.nil_append, List.append_nil, argsEnv, Nat.reduceAdd]
  cases hb : gB p.kept i
  · simp only [gos, eq_self, Nat.reduceLT, Nat.reduceEqDiff, reduceCtorEq, reduceIte, ↓reduceIte, tt, vgo, vout, vguard, callOf, vop, ev, cv, vload, newRow, Past.cs, vB, h0, h, cB_at h0 h, hb]
    subst hQ
    exact FnPost.plain trivial (fun h2 e => by first | rfl | (simp only [Tryz.f159, vres, vresL, vres1, e _, gos, if_true, if_false, ne_eq, eq_self, Nat.reduceLT, Nat.reduceEqDiff, Nat.reduceAdd, Nat.reduceMul, Nat.reduceLeDiff, Nat.reduceBEq, reduceCtorEq, reduceIte, Array.toList, ↓reduceIte, tt, vgo, vout, vgoD, voutD, vclsOk, vids, mayWrite, V.ids, V.mids, vguard, callOf, vop, ev, cv, vbin, vint, isShift, isNilConst, vnil, isNilSlice, vload, vlen, newRow, vfill, vslice, entOf, vappend, srcOf, vcopy, vlookup, vupdate, mapOk, keyOf, intsOf, clsAt]; try rfl)) (WkV.pure (by simp only [V.into])) ⟨by rw [hb]; rfl, rfl⟩
  · simp only [gos, eq_self, Nat.reduceLT, Nat.reduceEqDiff, reduceCtorEq, reduceIte, ↓reduceIte, tt, vgo, vout, vguard, callOf, vop, ev, cv, vload, newRow, Past.cs, vB, h0, h, cB_at h0 h, hb]
    subst hQ
    exact FnPost.plain trivial (fun h2 e => by first | rfl | (simp only [Tryz.f159, vres, vresL, vres1, e _, gos, if_true, if_false, ne_eq, eq_self, Nat.reduceLT, Nat.reduceEqDiff, Nat.reduceAdd, Nat.reduceMul, Nat.reduceLeDiff, Nat.reduceBEq, reduceCtorEq, reduceIte, Array.toList, ↓reduceIte, tt, vgo, vout, vgoD, voutD, vclsOk, vids, mayWrite, V.ids, V.mids, vguard, callOf, vop, ev, cv, vbin, vint, isShift, isNilConst, vnil, isNilSlice, vload, vlen, newRow, vfill, vslice, entOf, vappend, srcOf, vcopy, vlookup, vupdate, mapOk, keyOf, intsOf, clsAt]; try rfl)) (WkV.pure (by simp only [V.into])) ⟨by rw [hb]; rfl, rfl⟩
end Go.Vm

set_option linter.unusedVariables false
set_option linter.unusedSimpArgs false
set_option maxRecDepth 100000
namespace Go.Vm
open Go.Proofs
theorem nI_succ (i : Nat) (f : Int → Int) : nI ((i + 1 : Nat) : Int) f = nI i f ++ [f i] := by simp [nI, List.range_succ]
theorem nI_len (i : Nat) (f : Int → Int) : (nI i f).length = i := by simp [nI]
end Go.Vm

set_option linter.unusedVariables false
set_option linter.unusedSimpArgs false
set_option maxRecDepth 100000
namespace Go.Vm
open Go.Proofs
/-! ### Keeps -/
def sKeepsA (c : Cu) : List Int × Int :=
  if sAsked c true = 0 then (nI (c.last + 1) fun i => sVerdict (sB c fun p => if gB p.kept i then 1 else 0), 0) else ([], sAsked c true)
def kpF (c : Cu) (i : Int) : Int := sVerdict (sB c fun p => if gB p.kept i then 1 else 0)
def kpSt (c : Cu) (i : Nat) : Env × Heap :=
  ([(1, .rop c.cs), (6, .own 31 i 0 1 i), (4, .rop (wcs c (sTruth c) .any)), (18, vi (c.last + 1)), (19, vi i)], [(31, ⟨i, .row (cI (nI i (kpF c)))⟩)])
set_option maxHeartbeats 2000000 in
theorem c_Keeps (c : Cu) (hc : c.wf) : Pu Tryz.prog (.fn 119 [] []) [.agg c.cs] (.tup [vI (sKeepsA c).1, vi (sKeepsA c).2]) := by
  refine Ev.fn Tryz.func119 rfl rfl (Fn.body tabOk Tryz.func119 rfl (Nat.le_of_ble_eq_true rfl) (Ks.ok (fz := (fzn [])) (cl := (cln [])) tabOk mixed ?_))
  generalize hQ : FnPost tt Tryz.f119 _ _ = Q
  simp only [Tryz.f119, List.nil_append, List.append_nil, argsEnv]
  simp only [gos, eq_self, Nat.reduceLT, Nat.reduceEqDiff, reduceCtorEq, reduceIte, ↓reduceIte, tt, vgo, vout, vguard, callOf, vop, ev, cv, vload, newRow]
  refine Cl.pu (c_asked0 c hc true) ?_ rfl (by simp only [V.into, intoL, cu_into, Bool.and_true])
  by_cases h0 : sAsked c true = 0
  case neg =>
    have hb : (sAsked c true != 0) = true := by simp [h0]
    simp only [gos, eq_self, Nat.reduceLT, Nat.reduceEqDiff, reduceIte, ↓reduceIte, vgo, vout, vguard, callOf, vop, ev, cv, vbin, vint, isShift, isNilConst, hb]
    subst hQ
    have hr : sKeepsA c = ([], sAsked c true) := by simp [sKeepsA, h0]
    rw [hr]
    exact FnPost.plain trivial (v := .tup [.sl0, vi (sAsked c true)]) (fun h2 e => by rfl) WkV.nil1 ⟨rfl, rfl⟩
  have A := askOk_of h0
  have hl := A.k0.last
  have hb : (sAsked c true != 0) = false := by simp [h0]
  simp only [gos, eq_self, Nat.reduceLT, Nat.reduceEqDiff, reduceCtorEq, reduceIte, ↓reduceIte, tt, vgo, vout, vguard, callOf, vop, ev, cv, vbin, vint, isShift, isNilConst, vload, askV, h0, i64_in (show -9223372036854775808 ≤ c.last + 1 by omega) (show c.last + 1 ≤ 9223372036854775807 by omega)]
  have hq : ∀ s ∈ sTruth c, PlayOk c s c.coal c.want := fun s hs => A.k0.play0 (A.sc s hs)
  refine W.loop tabOk mixed (kpSt c) (fun i => (c.last + 1).toNat - i) (fun i => (i : Int) ≤ c.last + 1) 0 (by omega) (Wk.trans (Wk.sl0E 6 31 1 rfl rfl) (Wk.env ?_)) ?_
  · simp [subE, Env.get, kpSt]
  intro i hi
  by_cases hil : (i : Int) < c.last + 1
  · have hn1 : (cI (nI i (kpF c))).length = i := by rw [cI_len, nI_len]
    have hi9 : i ≤ 999999 := by omega
    simp only [gos, eq_self, Nat.reduceLT, Nat.reduceEqDiff, Nat.reduceAdd, reduceCtorEq, reduceIte, ↓reduceIte, tt, vgo, vout, vguard, callOf, vop, ev, vbin, vint, isShift, isNilConst, vload, vfill, kpSt, hil]
    refine Cl.pu (c_bounds _ (fun p => if gB p.kept i then 1 else 0) c (sTruth c) c.want i (by have := A.len; omega) A.ok hq ?_) ?_ rfl (by simp only [V.into, intoL, vI_into, Bool.and_true, wc_any])
    · intro s hs
      have := (sPlay_inv (hq s hs) (c.last + 1).toNat (by omega)).2.2.2.2
      exact c_pfulfilled _ i (by omega) (by simp only [sPast]; omega)
    simp only [gos, eq_self, Nat.reduceLT, reduceIte, ↓reduceIte, vgo, vout, vguard, callOf, ev]
    refine Cl.pu (c_verdict _) ?_
    simp only [gos, eq_self, Nat.reduceLT, Nat.reduceEqDiff, Nat.reduceAdd, Nat.reduceLeDiff, reduceCtorEq, reduceIte, ↓reduceIte, tt, vgo, vout, vguard, callOf, vop, ev, cv, vbin, vint, isShift, isNilConst, vfill, vappend, srcOf, hn1, hi9, Nat.mul_one]
    refine Nx.mk (i + 1) (show (c.last + 1).toNat - (i + 1) < (c.last + 1).toNat - i by omega) (by omega) (Wk.heap (fun j => ?_) ?_)
    · simp only [kpSt, nI_succ, cI_snoc]; rfl
    · simp [subE, Env.get, kpSt, i64_succ (show (i : Int) < 9223372036854775807 by omega)]
  · have hie : ((i : Nat) : Int) = c.last + 1 := by omega
    simp only [gos, eq_self, Nat.reduceLT, Nat.reduceEqDiff, reduceIte, ↓reduceIte, vgo, vout, vguard, callOf, vop, ev, cv, vbin, vint, isShift, isNilConst, kpSt, hil]
    subst hQ
    have hr : sKeepsA c = (nI i (kpF c), 0) := by rw [sKeepsA, if_pos h0, hie]; rfl
    rw [hr]
    refine FnPost.plain trivial (v := .tup [.own 31 i 0 1 i, vi 0]) (fun h2 e => by rfl) ?_ ⟨rfl, rfl⟩
    have hn1 : (nI i (kpF c)).length = i := nI_len _ _
    have ht : (cI (nI i (kpF c))).take i = cI (nI i (kpF c)) := List.take_of_length_le (by rw [cI_len]; omega)
    refine WkV.frz 31 (v' := .tup [vI (nI i (kpF c)), vi 0]) (h' := []) (ver := i) (cs := cI (nI i (kpF c))) rfl rfl (cI_into _ _) rfl ?_ ?_ WkV.refl
    · simp [V.frz, frzL, vI, hn1, ht]
    · simp [frzH]
/-! ### More -/
end Go.Vm

set_option linter.unusedVariables false
set_option linter.unusedSimpArgs false
set_option maxRecDepth 100000
namespace Go.Vm
open Go.Proofs
/-! ### Lacks -/
def sLacksA (c : Cu) : Int × Int :=
  if (sKeepsA c).2 = 0 then (if sIdx (fun v => v != 1) (sKeepsA c).1 < 0 then (0, 7) else (sIdx (fun v => v != 1) (sKeepsA c).1, 0)) else (0, (sKeepsA c).2)
theorem c_Lacks1 (n : Int) : Pu Tryz.prog (.fn 121 [] []) [vi n] (.bool (n != 1)) := by
  refine Ev.fn Tryz.func121 rfl rfl (Fn.body tabOk Tryz.func121 rfl (Nat.le_of_ble_eq_true rfl) (Ks.ok (fz := (fzn [])) (cl := (cln [])) tabOk mixed ?_))
  generalize hQ : FnPost tt Tryz.f121 _ _ = Q
  simp only [Tryz.f121, List.nil_append, List.append_nil, argsEnv]
  simp only [gos, eq_self, Nat.reduceLT, reduceCtorEq, reduceIte, ↓reduceIte, vgo, vout, vguard, callOf, vop, ev, cv, vbin, vint, isShift, isNilConst]
  subst hQ
  exact FnPost.plain trivial (fun h2 e => by first | rfl | (simp only [Tryz.f121, vres, vresL, vres1, e _, gos, if_true, if_false, ne_eq, eq_self, Nat.reduceLT, Nat.reduceEqDiff, Nat.reduceAdd, Nat.reduceMul, Nat.reduceLeDiff, Nat.reduceBEq, reduceCtorEq, reduceIte, Array.toList, ↓reduceIte, tt, vgo, vout, vgoD, voutD, vclsOk, vids, mayWrite, V.ids, V.mids, vguard, callOf, vop, ev, cv, vbin, vint, isShift, isNilConst, vnil, isNilSlice, vload, vlen, newRow, vfill, vslice, entOf, vappend, srcOf, vcopy, vlookup, vupdate, mapOk, keyOf, intsOf, clsAt]; try rfl)) (WkV.pure (by simp only [V.into])) ⟨rfl, rfl⟩
theorem keeps_len (c : Cu) : ((sKeepsA c).1.length : Int) ≤ 1000000 := by
  unfold sKeepsA
  split
  · rename_i h
    have := (askOk_of h).k0.last
    simp only [nI, List.length_map, List.length_range]; omega
  · simp
theorem c_Lacks (c : Cu) (hc : c.wf) : Pu Tryz.prog (.fn 77 [] []) [.agg c.cs] (.tup [vi (sLacksA c).1, vi (sLacksA c).2]) := by
  refine Ev.fn Tryz.func77 rfl rfl (Fn.body tabOk Tryz.func77 rfl (Nat.le_of_ble_eq_true rfl) (Ks.ok (fz := (fzn [])) (cl := (cln [])) tabOk mixed ?_))
  generalize hQ : FnPost tt Tryz.f77 _ _ = Q
  simp only [Tryz.f77, List.nil_append, List.append_nil, argsEnv]
  simp only [gos, eq_self, Nat.reduceLT, Nat.reduceEqDiff, reduceCtorEq, reduceIte, ↓reduceIte, tt, vgo, vout, vguard, callOf, vop, ev, cv, vload, newRow]
  refine Cl.pu (c_Keeps c hc) ?_ rfl (by simp only [V.into, intoL, cu_into, Bool.and_true])
  by_cases h0 : (sKeepsA c).2 = 0
  case neg =>
    have hb : ((sKeepsA c).2 != 0) = true := by simp [h0]
    simp only [gos, eq_self, Nat.reduceLT, Nat.reduceEqDiff, reduceIte, ↓reduceIte, vgo, vout, vguard, callOf, vop, ev, cv, vbin, vint, isShift, isNilConst, hb]
    subst hQ
    have hr : sLacksA c = (0, (sKeepsA c).2) := by rw [sLacksA, if_neg h0]
    rw [hr]
    exact FnPost.plain trivial (fun h2 e => by rfl) WkV.refl ⟨rfl, rfl⟩
  have hb : ((sKeepsA c).2 != 0) = false := by simp [h0]
  simp only [gos, eq_self, Nat.reduceLT, Nat.reduceEqDiff, reduceIte, ↓reduceIte, vgo, vout, vguard, callOf, vop, ev, cv, vbin, vint, isShift, isNilConst, hb]
  refine Cl.pu (c_IndexFunc_int _ (fun v => v != 1) (sKeepsA c).1 (keeps_len c) rfl fun x _ => c_Lacks1 x) ?_ rfl (by simp only [V.into, intoL, vI_into, Bool.and_true])
  by_cases hi : sIdx (fun v => v != 1) (sKeepsA c).1 < 0
  · have hd : decide (sIdx (fun v => v != 1) (sKeepsA c).1 < 0) = true := by simp only [hi, decide_true]
    simp only [gos, eq_self, Nat.reduceLT, reduceIte, ↓reduceIte, vgo, vout, vguard, callOf, vop, ev, cv, vbin, vint, isShift, isNilConst, hi]
    subst hQ
    exact FnPost.plain trivial (fun h2 e => by first | rfl | (simp only [Tryz.f77, vres, vresL, vres1, e _, gos, if_true, if_false, ne_eq, eq_self, Nat.reduceLT, Nat.reduceEqDiff, Nat.reduceAdd, Nat.reduceMul, Nat.reduceLeDiff, Nat.reduceBEq, reduceCtorEq, reduceIte, Array.toList, ↓reduceIte, tt, vgo, vout, vgoD, voutD, vclsOk, vids, mayWrite, V.ids, V.mids, vguard, callOf, vop, ev, cv, vbin, vint, isShift, isNilConst, vnil, isNilSlice, vload, vlen, newRow, vfill, vslice, entOf, vappend, srcOf, vcopy, vlookup, vupdate, mapOk, keyOf, intsOf, clsAt]; try rfl)) (WkV.pure (by simp only [V.into, intoL, Bool.and_true])) ⟨by rw [sLacksA, if_pos h0, if_pos hi], rfl⟩
  · simp only [gos, eq_self, Nat.reduceLT, Nat.reduceEqDiff, reduceIte, ↓reduceIte, vgo, vout, vguard, callOf, vop, ev, cv, vbin, vint, isShift, isNilConst, hi]
    subst hQ
    exact FnPost.plain trivial (fun h2 e => by first | rfl | (simp only [Tryz.f77, vres, vresL, vres1, e _, gos, if_true, if_false, ne_eq, eq_self, Nat.reduceLT, Nat.reduceEqDiff, Nat.reduceAdd, Nat.reduceMul, Nat.reduceLeDiff, Nat.reduceBEq, reduceCtorEq, reduceIte, Array.toList, ↓reduceIte, tt, vgo, vout, vgoD, voutD, vclsOk, vids, mayWrite, V.ids, V.mids, vguard, callOf, vop, ev, cv, vbin, vint, isShift, isNilConst, vnil, isNilSlice, vload, vlen, newRow, vfill, vslice, entOf, vappend, srcOf, vcopy, vlookup, vupdate, mapOk, keyOf, intsOf, clsAt]; try rfl)) (WkV.pure (by simp only [V.into, intoL, Bool.and_true])) ⟨by rw [sLacksA, if_pos h0, if_neg hi], rfl⟩
end Go.Vm

set_option linter.unusedVariables false
set_option linter.unusedSimpArgs false
set_option maxRecDepth 100000
namespace Go.Vm
open Go.Proofs Go.ChangeShapes Go.WideShapes Go.ChangeAt Go.RowKit
/-! ### from a contract to the row -/
theorem hrel0 (w : World) : HRel (gh0 w) [] w :=
  ⟨fun B o v e => e, fun i e he => (by cases he), fun i j e e' B c c' he => (by cases he), fun i e B c o he => (by cases he), fun i v h => absurd rfl h⟩
theorem calls_of_fn {P : Program} {f : FuncId} {vs : List V} {xs : List Value} {w : World} (c : Fn P f vs [] fun v h' => v = .bool true) (hv : VRL (gh0 w) vs xs) :
    Calls P f xs.toArray w fun e w' => e = .returned (.bool true) ∧ Below w.heap.size w w' := fun cs => by
  obtain ⟨v, h', vc, g', w', fr, rfl, st, hf, hl, hvc, H', t, le⟩ := c (gh0 w) w xs hv (hrel0 w) cs
  simp only [VR] at hvc
  subst hvc
  exact ⟨.returned (.bool true), w', fr, ⟨rfl, t.os, t.tape, t.output, t.size, fun k hk => t.mods k hk (by rintro ⟨i, e, c, he, _⟩; cases he)⟩, st, hf, hl⟩
section
variable {H : Type} {enc : TypeId × Value → H} {P : Program} {w : World} {base : Nat} {spare : Nat → Bool} {held : Bool} {fuel : Nat} {t : TypeId} {cs : List Value} {x : DataW H × List MemPlace}
end
section
variable {H : Type} {enc : TypeId × Value → H} {w : World} {base : Nat} {spare : Nat → Bool} {held : Bool} {fuel : Nat} {cs : List Value} {x : DataW H × List MemPlace}
end
end Go.Vm

set_option linter.unusedVariables false
set_option linter.unusedSimpArgs false
set_option maxRecDepth 100000
namespace Go.Vm
open Go.Proofs Go.ChangeShapes Go.WideShapes Go.ChangeAt Go.RowKit
section
variable {H : Type} {enc : TypeId × Value → H} {w : World} {base : Nat} {spare : Nat → Bool} {held : Bool} {fuel : Nat} {cs : List Value} {x : DataW H × List MemPlace}
theorem rd_u16 (h : DataW.trod enc Tryz.prog w base spare held fuel 77 cs = some x) : ∃ n : Int, (0 ≤ n ∧ n ≤ 65535) ∧ VRL (gh0 w) [.int .u16 n] cs := by
  obtain ⟨n, rfl, _, h2⟩ := DataW.trod_int Tryz.underlying77 h
  exact ⟨n, bounds_u16 h2, VRL.cons (by simp only [VR]) VRL.nil⟩
theorem rd_u8 (h : DataW.trod enc Tryz.prog w base spare held fuel 5 cs = some x) : ∃ n : Int, (0 ≤ n ∧ n ≤ 255) ∧ VRL (gh0 w) [.int .u8 n] cs := by
  obtain ⟨n, rfl, _, h2⟩ := DataW.trod_int Tryz.underlying5 h
  exact ⟨n, bounds_u8 h2, VRL.cons (by simp only [VR]) VRL.nil⟩
theorem rd_words (h : DataW.trod enc Tryz.prog w base spare held fuel 86 cs = some x) : ∃ l : List Int, (∀ n ∈ l, 0 ≤ n ∧ n ≤ 65535) ∧ VRL (gh0 w) [vW l] cs := by
  obtain ⟨l, h1, h2, h3⟩ := rd_slice (fun n : Int => [V.int .u16 n]) (fun n => 0 ≤ n ∧ n ≤ 65535) 1 Tryz.underlying86 (by kernel_rfl) (by omega) (fun _ => rfl) h fun n cs x h => rd_u16 h
  have e : l.flatMap (fun n : Int => [V.int .u16 n]) = cW16 l := by
    clear h1 h2 h3
    induction l with
    | nil => rfl
    | cons y l ih => simp only [List.flatMap_cons, cW16, List.map_cons, List.singleton_append] at ih ⊢; rw [ih]
  rw [e] at h3
  exact ⟨l, h1, h3⟩
end
end Go.Vm

set_option linter.unusedVariables false
set_option linter.unusedSimpArgs false
set_option maxRecDepth 100000
namespace Go.Vm
open Go.Proofs
/-! ### the reference: bounds and verdicts -/
def rKeeps (c : Cu) (l : List Tr2) (i : Nat) : Int := rVerdict (l.countP fun t => keptI c c.coal c.want t i) l.length
end Go.Vm

set_option linter.unusedVariables false
set_option linter.unusedSimpArgs false
namespace Go.Vm
/-! ### what is hot, left and kept, by hour -/
theorem gB_map {f : Nat → Bool} {n i : Nat} (h : i < n) : gB ((List.range n).map f) i = f i := by
  simp only [gB, Int.toNat_natCast, List.getD_eq_getElem?_getD, List.getElem?_map]
  rw [List.getElem?_range h]; rfl
theorem past_kept {c : Cu} (coal want : List Int) (s : Sc) {i : Nat} (hi : (i : Int) ≤ c.last) : gB (sPast c coal want s).kept i = decide (gi want i ≤ (sHeat c s coal want i).tdiv c.per) := by
  rw [sPast, (sPlay_hot c s coal want _).2.2, gB_map (by omega)]
/-! ### all readings are right -/
/-! ### the same truths -/
/-! ### the bounds are the same -/
end Go.Vm

set_option linter.unusedVariables false
set_option linter.unusedSimpArgs false
namespace Go.Vm
/-! ### verdicts are the same -/
theorem keeps_same {c : Cu} (A : AskOk c true) {i : Nat} (hi : (i : Int) ≤ c.last) : kpF c i = rKeeps c (rTruths c) i := by
  exact verdict_same A.k0 A.ne (fun s => gB (sPast c c.coal c.want s).kept i) (fun t => keptI c c.coal c.want t i) fun t => past_kept c.coal c.want (tS t) hi
end Go.Vm

set_option linter.unusedVariables false
set_option linter.unusedSimpArgs false
set_option maxRecDepth 100000
namespace Go.Vm
/-! ### lists that are changed in some places -/
theorem vW_into (p : Nat → Bool) (l : List Int) : (vW l).into p = true := by simp only [vW, V.into]; exact cW16_into p l
end Go.Vm

set_option linter.unusedVariables false
set_option linter.unusedSimpArgs false
set_option maxRecDepth 100000
namespace Go.Vm
/-! ### fewer promises, more coal -/
theorem keeps_one {c : Cu} {l : List Tr2} (hne : l ≠ []) {i : Nat} : rKeeps c l i = 1 ↔ ∀ t ∈ l, keptI c c.coal c.want t i = true := by
  rw [rKeeps, rVerdict_count _ hne, ← List.all_eq_true]
  cases l.all fun t => keptI c c.coal c.want t i with
  | true => simp
  | false => cases l.any fun t => keptI c c.coal c.want t i <;> simp
theorem keeps_whole {c : Cu} {l : List Tr2} (hne : l ≠ []) : rWholes c l c.coal c.want = 1 ↔ ∀ i : Nat, i < (c.last + 1).toNat → rKeeps c l i = 1 := by
  rw [wholes_one hne]
  constructor
  · intro h i hi
    rw [keeps_one hne]
    intro t ht
    have := h t ht
    rw [wholeI, List.all_eq_true] at this
    exact this i (by simpa using hi)
  · intro h t ht
    rw [wholeI, List.all_eq_true]
    intro i hi
    exact (keeps_one hne).1 (h i (by simpa using hi)) t ht
theorem lacks_whole {c : Cu} (A : AskOk c true) (h0 : sAsked c true = 0) : (sLacksA c).2 = if rWholes c (rTruths c) c.coal c.want = 1 then 7 else 0 := by
  have hne : rTruths c ≠ [] := fun e => A.ne ((same_nil A.k0).2 e)
  have hl := A.k0.last
  have hr : sKeepsA c = (nI (c.last + 1) (kpF c), 0) := by rw [sKeepsA, if_pos h0]; rfl
  have e1 : sIdx (fun v => v != 1) (nI (c.last + 1) (kpF c)) < 0 ↔ rWholes c (rTruths c) c.coal c.want = 1 := by
    have := sIdx_any (fun v : Int => v != 1) (nI (c.last + 1) (kpF c))
    rw [keeps_whole hne]
    constructor
    · intro h i hi
      have h2 : ((nI (c.last + 1) (kpF c)).any fun v => v != 1) = false := by rw [← this]; simp; omega
      rw [List.any_eq_false] at h2
      rw [← keeps_same A (i := i) (by omega)]
      have := h2 (kpF c i) (by rw [nI]; exact List.mem_map.2 ⟨i, List.mem_range.2 hi, rfl⟩)
      simpa using this
    · intro h
      have h2 : ((nI (c.last + 1) (kpF c)).any fun v => v != 1) = false := by
        rw [List.any_eq_false]
        intro v hv
        rw [nI] at hv
        obtain ⟨i, hi, rfl⟩ := List.mem_map.1 hv
        have hi := List.mem_range.1 hi
        rw [keeps_same A (i := i) (by omega), h i hi]; simp
      rw [h2] at this
      simpa using this
  rw [sLacksA, hr]
  simp only [if_true]
  by_cases h : rWholes c (rTruths c) c.coal c.want = 1
  · rw [if_pos h, if_pos (e1.2 h)]
  · rw [if_neg h, if_neg (fun x => h (e1.1 x))]
end Go.Vm

set_option linter.unusedVariables false
set_option linter.unusedSimpArgs false
set_option maxRecDepth 100000
namespace Go.Vm
open Go.Proofs
theorem wan_eq {r : Rm} (k : RmOk r) {plan : List Int} (ha : sAre r plan = true) : wanR r (rNum r plan (2 ^ r.ba.length - 1)) = { r.cu with want := addL r.cu.want (nb r (cntN plan)) } := by
  rw [wanR, num_plan k ha]
set_option maxHeartbeats 8000000 in
theorem l_TopBathed (r : Rm) (hl : I64 r.cu.last) (words : List Int) (hw : ∀ x ∈ words, 0 ≤ x ∧ x ≤ 65535) (hour : Int) (hho : 0 ≤ hour ∧ hour ≤ 255) :
    Vm.Fn Tryz.prog 20 [.agg r.cs, vW words, .int .u8 hour] [] fun v h' => v = .bool true := by
  refine Fn.body tabOk Tryz.func20 rfl (Nat.le_of_ble_eq_true rfl) (Ks.ok (fz := (fzn [7, 13])) (cl := (cln [(9, .d tg0 [cL, cP, cL, cP, cP, cP]), (17, .d tg0 [cP, cP, cP, cP, cP, cP, cP, cP, cP, cL, cP, cP, cP, cP, cP, cP, cP, cL, cP, cP, cL, cP, cP, cP, cP, cP, cL, cP, cP, cP, cP, cP, cP, cP, cP])])) tabOk mixed ?_)
  generalize hQ : FnPost tt Tryz.f20 _ _ = Q
  simp only [Tryz.f20, argsEnv, Nat.reduceAdd]
  simp only [gos, eq_self, Nat.reduceLT, Nat.reduceEqDiff, reduceCtorEq, reduceIte, ↓reduceIte, tt, vgo, vout, vguard, callOf, vop, ev, cv, vload, newRow, rms]
  refine Cl.pu (c_dry r) ?_ rfl (by simp only [V.into, intoL, Bool.and_true, rm_into])
  have hdl : (dryR r).cs.length = 14 := rfl
  simp only [gos, eq_self, Nat.reduceLT, Nat.reduceEqDiff, Nat.reduceAdd, reduceCtorEq, reduceIte, ↓reduceIte, tt, vgo, vout, vguard, callOf, vop, ev, vload, newRow, rms]
  refine Cl.pu (c_Thin9 r hl) ?_ rfl (by simp only [V.into, intoL, Bool.and_true, rm_into])
  cases ht : sThinR r with
  | false =>
    simp only [gos, eq_self, Nat.reduceLT, Nat.reduceEqDiff, reduceIte, ↓reduceIte, vgo, vout, vguard, callOf, vop, ev, cv]
    refine Cl.pu c_bathed ?_
    simp only [gos, eq_self, Nat.reduceLT, reduceIte, ↓reduceIte, vgo, vout, vguard, callOf, vop, ev]
    subst hQ
    exact FnPost.plain trivial (v := .bool true) (fun h2 e => by rfl) WkV.refl rfl
  | true =>
    have hr := thinR_wf hl ht
    simp only [gos, eq_self, Nat.reduceLT, Nat.reduceEqDiff, reduceCtorEq, reduceIte, ↓reduceIte, tt, vgo, vout, vguard, callOf, vop, ev, vload, rms]
    refine Cl.pu (c_r9Fault r hr) ?_ rfl (by simp only [V.into, intoL, Bool.and_true, rm_into])
    by_cases h0 : sCheckR r = 0
    case neg =>
      have hb : (sCheckR r != 0) = true := by simp [h0]
      simp only [gos, eq_self, Nat.reduceLT, Nat.reduceEqDiff, reduceIte, ↓reduceIte, vgo, vout, vguard, callOf, vop, ev, cv, vbin, vint, isShift, isNilConst, hb]
      refine Cl.pu c_bathed ?_
      simp only [gos, eq_self, Nat.reduceLT, reduceIte, ↓reduceIte, vgo, vout, vguard, callOf, vop, ev]
      subst hQ
      exact FnPost.plain trivial (v := .bool true) (fun h2 e => by rfl) WkV.refl rfl
    have hb : (sCheckR r != 0) = false := by simp [h0]
    have hrx : (dryR r).wf := ⟨⟨hr.cu.last, hr.cu.coal, hr.cu.want, hr.cu.loss, by simp [dryR]⟩, hr.ba⟩
    simp only [gos, eq_self, Nat.reduceLT, Nat.reduceEqDiff, reduceCtorEq, reduceIte, ↓reduceIte, tt, vgo, vout, vguard, callOf, vop, ev, cv, vbin, vint, isShift, isNilConst, vload, rms, hb]
    refine Cl.pu (c_r9Fault (dryR r) hrx) ?_ rfl (by simp only [V.into, intoL, Bool.and_true, rm_into])
    by_cases hx0 : sCheckR (dryR r) = 0
    case neg =>
      have hbx : (sCheckR (dryR r) != 0) = true := by simp [hx0]
      simp only [gos, eq_self, Nat.reduceLT, Nat.reduceEqDiff, reduceIte, ↓reduceIte, vgo, vout, vguard, callOf, vop, ev, cv, vbin, vint, isShift, isNilConst, hbx]
      refine Cl.pu c_bathed ?_
      simp only [gos, eq_self, Nat.reduceLT, reduceIte, ↓reduceIte, vgo, vout, vguard, callOf, vop, ev]
      subst hQ
      exact FnPost.plain trivial (v := .bool true) (fun h2 e => by rfl) WkV.refl rfl
    have hbx : (sCheckR (dryR r) != 0) = false := by simp [hx0]
    have hdr : (dryR r).cu.readings = [] := rfl
    simp only [gos, eq_self, Nat.reduceLT, Nat.reduceEqDiff, Nat.reduceAdd, reduceCtorEq, reduceIte, ↓reduceIte, tt, vgo, vout, vguard, callOf, vop, ev, cv, vbin, vint, isShift, isNilConst, vload, rms, hbx]
    generalize dryR r = x at *
    have k := rmOk_of hx0
    have k0 := k.A.k0
    have hla := k0.last
    have wL := i64_in (show -9223372036854775808 ≤ x.cu.last + 1 by omega) (show x.cu.last + 1 ≤ 9223372036854775807 by omega)
    have wH := i64_in (show -9223372036854775808 ≤ hour by omega) (show hour ≤ 9223372036854775807 by omega)
    have zL : ¬ x.cu.last + 1 = 0 := by omega
    obtain ⟨h, hh⟩ : ∃ h : Nat, (h : Int) = hour.tmod (x.cu.last + 1) := ⟨(hour.tmod (x.cu.last + 1)).toNat, by have := tmod_le hho.1 (s := x.cu.last + 1) (by omega); omega⟩
    have hhl : (h : Int) ≤ x.cu.last := by have := tmod_le hho.1 (s := x.cu.last + 1) (by omega); omega
    have hcl := chosen_len x words
    have ha := chosen_are k hw
    have hc0 : (List.drop 0 x.cu.cs).head? = some (vi x.cu.last) := rfl
    have hp1 : ((sChosen x words).length : Int) ≤ 1000000 := by have := k.len; omega
    simp only [gos, eq_self, Nat.reduceLT, Nat.reduceEqDiff, reduceCtorEq, reduceIte, ↓reduceIte, tt, vgo, vout, vguard, callOf, vop, ev, vload, rms, wL, wH, zL, ← hh]
    refine Cl.pu (c_Chosen x k words hw) ?_ rfl (by simp only [V.into, intoL, Bool.and_true, rm_into, vW_into])
    generalize sChosen x words = plan at hcl ha hp1 ⊢
    have hpn : plan.length ≤ 1000000 := by omega
    simp only [gos, eq_self, Nat.reduceLT, Nat.reduceEqDiff, reduceCtorEq, reduceIte, ↓reduceIte, tt, vgo, vout, vguard, callOf, vop, ev, vload, rms]
    refine Cl.pu (c_Room x hrx) ?_ rfl (by simp only [V.into, intoL, Bool.and_true, rm_into])
    simp only [gos, eq_self, Nat.reduceLT, Nat.reduceEqDiff, Nat.reduceLeDiff, reduceIte, ↓reduceIte, tt, vgo, vout, vguard, callOf, vop, ev, vfill, vappend, srcOf, vI, cI_len, Nat.mul_one, cI_one, hpn]
    have htk : List.take plan.length (cI plan) = cI plan := List.take_of_length_le (by rw [cI_len]; omega)
    refine Cl.mk (Ev.lend 49 (ver := 0) (cs := cI plan) (args' := [.agg x.cs, vI plan, vi h]) rfl (cI_into _ _) rfl rfl (by simp only [frzL, V.frz, rm_frz, if_true, List.drop_zero, Nat.mul_one, htk, vI]) (c_bFree x hrx plan hp1 h ⟨by omega, by omega⟩) (fun _ _ _ h => by simpa only [VR, VRL] using h) rfl (by simp only [V.into, intoL, vI_into, Bool.and_true, rm_into])) ?_
    rintro v h' ⟨rfl, rfl⟩
    have hin : sIn (h : Int) 0 x.cu.last = true := by simp [sIn]; omega
    have hpt := planned_two hx0 ha
    obtain ⟨hpl, hpr⟩ := are_ok k ha
    have h00 : ∀ i : Nat, 0 ≤ gi (cntN plan) i := fun i => (num_same k hpr i).2
    have h000 : ∀ i : Nat, (i : Int) ≤ x.cu.last → 0 ≤ gi (cntN plan) i := fun i _ => h00 i
    have z0 : ((0 : Int) != 0) = false := rfl
    have z9 : decide ((9 : Int) = 9) = true := rfl
    have y0 : decide ((0 : Int) = 9) = false := rfl
    have y10 : decide ((10 : Int) = 9) = false := rfl
    cases hpo : sPossN x (cntN plan) with
    | false =>
      rw [hpo] at hpt
      have hpt : sPlanned x plan true = 9 := hpt
      have e1 : sFreeR x plan h = (0, 9) := by rw [sFreeR, hin, hpt]; rfl
      rw [e1]
      simp only [gos, eq_self, Nat.reduceLT, Nat.reduceEqDiff, reduceIte, ↓reduceIte, vgo, vout, vguard, callOf, vop, ev, cv, vbin, vint, isShift, isNilConst]
      refine Cl.pu c_bathed ?_
      simp only [gos, eq_self, Nat.reduceLT, reduceIte, ↓reduceIte, vgo, vout, vguard, callOf, vop, ev]
      subst hQ
      exact FnPost.plain trivial (v := .bool true) (fun h2 e => by rfl) WkV.refl rfl
    | true =>
      rw [hpo] at hpt
      have hpt : sPlanned x plan true = 0 := hpt
      have hn5 : (cntN plan).length = 5 := by rw [cntN, addC_len]; rfl
      have e1 : sFreeR x plan h = if sSureN x (cntN plan) = true then (((freeN x (cntN plan) h : Nat) : Int), 0) else (0, 10) := by rw [sFreeR, hin, hpt, if_pos rfl, Int.toNat_natCast]
      have hM := num_mok k ha
      have hkv := keV_eq k h000 hpo
      have hwe := wan_eq k ha
      have hgm : gi (rNum x plan (2 ^ x.ba.length - 1)) h = gi (cntN plan) h := by rw [num_full hpl]; exact ((num_same k hpr h).1).symm
      have kx := wan_ok k h000 hpo
      have hml : ((rNum x plan (2 ^ x.ba.length - 1)).length : Int) = x.cu.last + 1 := by have := hM.wl; have := k0.want.1; omega
      have hmb := hM.mb _ (gi_mem (l := rNum x plan (2 ^ x.ba.length - 1)) (i := h) (by omega))
      have hwh := kx.want.2 (gi (addL x.cu.want (nb x (cntN plan))) h) (gi_mem (by rw [addL_len']; have := k0.want.1; omega))
      have hwg : gi (addL x.cu.want (nb x (cntN plan))) h = gi x.cu.want h + x.bu * gi (cntN plan) h := by rw [addL_gi (by have := k0.want.1; omega), nb_gi hhl]
      generalize hC : ({ x.cu with want := addL x.cu.want (nb x (cntN plan)) } : Cu) = C at hwe kx
      have hCr : C.readings = [] := by rw [← hC]; exact hdr
      have hCl : C.last = x.cu.last := by rw [← hC]
      have hCw : C.want = addL x.cu.want (nb x (cntN plan)) := by rw [← hC]
      have hA := dry_asked kx hCr
      have A := askOk_of hA
      have hTr : rTruths C = rTruths x.cu := truths_dry x.cu C (by rw [← hC]) (by rw [← hC]) hdr hCr
      have hCc : C.coal = x.cu.coal := by rw [← hC]
      have hWh : ∀ w, rWholes C (rTruths C) C.coal w = rWholes x.cu (rTruths x.cu) x.cu.coal w := fun w => by
        rw [hTr, hCc]; exact wholes_cu x.cu C hCl (by rw [← hC]) (by rw [← hC]) (by rw [← hC]) _ _ _
      have hma : ∀ m, moreAt C h m = moreAt x.cu h m := fun m => moreAt_cu hCl h m
      have hW : ∀ m, sWith C (sTruth C) (moreAt C h m) = rWholes x.cu (rTruths x.cu) x.cu.coal (addL (addL x.cu.want (nb x (cntN plan))) (moreAt x.cu h m)) := fun m => by
        rw [with_same A.k0 A.ne (by rw [moreAt_len]; have := kx.want.1; have := kx.last; omega), hWh, hCw, hma]
      have hLk := lacks_whole A hA
      rw [hWh, hCw, ← hkv] at hLk
      have hSp := spare_some (hour := (h : Int)) (by rw [hCl]; exact hin) hA
      have hwl : ((addL x.cu.want (nb x (cntN plan))).length : Int) = x.cu.last + 1 ∧ ∀ y ∈ addL x.cu.want (nb x (cntN plan)), 0 ≤ y := ⟨by rw [addL_len']; exact k0.want.1, fun y hy => by rw [← hCw] at hy; exact (kx.want.2 y hy).1⟩
      have hmz := more_zero k (addL x.cu.want (nb x (cntN plan))) h (by omega) hwl.1
      have hCf := chk_of kx
      have hCone : oneL C.cs = true := rfl
      have hCn : C.cs.length = 11 := rfl
      have hCt : List.take 11 C.cs = C.cs := rfl
      have hCd : (List.drop 6 C.cs).head? = some (vI C.want) := rfl
      obtain ⟨fv, fe, e2, f9, fy, fn⟩ : ∃ fv fe : Int, sFreeR x plan h = (fv, fe) ∧ decide (fe = 9) = false ∧ (sSureN x (cntN plan) = true → fv = freeN x (cntN plan) h ∧ fe = 0) ∧ (sSureN x (cntN plan) = false → fe = 10) := by
        cases hs : sSureN x (cntN plan) with
        | true => rw [hs, if_pos rfl] at e1; exact ⟨_, _, e1, y0, fun _ => ⟨rfl, rfl⟩, (fun h => by cases h)⟩
        | false => rw [hs, if_neg (by simp)] at e1; exact ⟨_, _, e1, y10, (fun h => by cases h), fun _ => rfl⟩
      obtain ⟨l1, l2, eL⟩ : ∃ l1 l2 : Int, sLacksA C = (l1, l2) := ⟨_, _, rfl⟩
      obtain ⟨s1, s2, eS⟩ : ∃ s1 s2 : Int, sSpareA C h = (s1, s2) := ⟨_, _, rfl⟩
      rw [eL] at hLk
      rw [eS] at hSp
      have hLk : l2 = if keV x (cntN plan) = 1 then 7 else 0 := hLk
      rw [e2]
      simp only [gos, eq_self, Nat.reduceLT, Nat.reduceEqDiff, reduceIte, ↓reduceIte, vgo, vout, vguard, callOf, vop, ev, cv, vbin, vint, isShift, isNilConst, f9]
      refine Wr.draw (by kernel_rfl) ?_
      simp only [gos, eq_self, Nat.reduceLT, Nat.reduceEqDiff, Nat.reduceAdd, reduceCtorEq, reduceIte, ↓reduceIte, tt, vgoD, voutD, vclsOk, vids, mayWrite, V.ids, vguard, callOf, vop, ev, vload, clsAt, rms]
      refine CD.pu (c_r9Full x k.len) ?_ rfl (by simp only [V.into, intoL, Bool.and_true, rm_into])
      rw [full_nat]
      simp only [gos, eq_self, Nat.reduceLT, Nat.reduceEqDiff, reduceIte, ↓reduceIte, vgoD, voutD, vguard, callOf, ev]
      refine CD.pu (c_r9Numbers x hla plan (by have := k.len; omega) hpr (2 ^ x.ba.length - 1) (full_lt k)) ?_ rfl (by simp only [V.into, intoL, cI_into, Bool.and_true, rm_into])
      simp only [gos, eq_self, Nat.reduceLT, Nat.reduceEqDiff, reduceCtorEq, reduceIte, ↓reduceIte, tt, vgo, vout, vgoD, voutD, vclsOk, vids, mayWrite, vguard, callOf, vop, ev, vload, rms]
      refine Cl.pu (c_r9Wanted x _ hM) ?_ rfl (by simp only [V.into, intoL, vI_into, Bool.and_true, rm_into])
      rw [hwe]
      simp only [gos, eq_self, Nat.reduceLT, Nat.reduceEqDiff, Nat.reduceAdd, reduceCtorEq, reduceIte, ↓reduceIte, tt, vgo, vout, vguard, callOf, vop, ev, vload, newRow, hCone, hCn, hCt]
      refine Cl.pu (c_rFault C kx.wf) ?_ rfl (by simp only [V.into, intoL, cu_into, Bool.and_true])
      rw [hCf]
      simp only [gos, eq_self, Nat.reduceLT, Nat.reduceEqDiff, reduceCtorEq, reduceIte, ↓reduceIte, tt, vgo, vout, vguard, callOf, vop, ev, cv, vbin, vint, isShift, isNilConst, vload, hCt, hCn]
      refine Cl.pu (c_lCopper C kx.wf) ?_ rfl (by simp only [V.into, intoL, cu_into, Bool.and_true])
      simp only [gos, eq_self, Nat.reduceLT, reduceIte, ↓reduceIte, vgo, vout, vguard, callOf, ev]
      refine Cl.pu (c_Lacks C kx.wf) ?_ rfl (by simp only [V.into, intoL, cu_into, Bool.and_true])
      simp only [gos, eq_self, Nat.reduceLT, Nat.reduceEqDiff, reduceCtorEq, reduceIte, ↓reduceIte, tt, vgo, vout, vguard, callOf, vop, ev, vload, hCt, hCn]
      refine Cl.pu (c_lCopper C kx.wf) ?_ rfl (by simp only [V.into, intoL, cu_into, Bool.and_true])
      simp only [gos, eq_self, Nat.reduceLT, Nat.reduceEqDiff, reduceIte, ↓reduceIte, vgo, vout, vguard, callOf, vop, ev]
      refine Cl.pu (c_Spare C kx.wf h) ?_ rfl (by simp only [V.into, intoL, cu_into, Bool.and_true])
      rw [eL, eS]
      cases hs : sSureN x (cntN plan) with
      | false =>
        have hfe := fn hs
        subst hfe
        have hke : keV x (cntN plan) ≠ 1 := fun hk => by simp [sSureN, hpo, hk] at hs
        rw [if_neg hke] at hLk
        subst hLk
        have hs2 : s2 = 10 := by
          rcases hSp with ⟨s, h1, h2, h3, h4, _⟩ | ⟨h1, _⟩
          · exfalso
            rw [hW] at h4
            have := more_mono k0 k.ne hwl (Int.le_refl 0) h2 h4
            rw [hmz, ← hkv] at this
            exact hke this
          · injection h1
        subst hs2
        have y1 : ((10 : Int) != 0) = true := rfl
        have y2 : decide ((10 : Int) = 10) = true := rfl
        have y3 : decide ((0 : Int) = 0) = true := rfl
        simp only [gos, eq_self, Nat.reduceLT, Nat.reduceEqDiff, reduceIte, ↓reduceIte, vgo, vout, vguard, callOf, vop, ev, cv, vbin, vint, isShift, isNilConst, y1]
        refine Cl.pu c_bathed ?_
        simp only [gos, eq_self, Nat.reduceLT, Nat.reduceEqDiff, reduceIte, ↓reduceIte, vgo, vout, vguard, callOf, vop, ev]
        subst hQ
        exact FnPost.plain trivial (v := .bool true) (fun h2 e => by rfl) WkV.refl rfl
      | true =>
        obtain ⟨hfv, hfe⟩ := fy hs
        subst hfe
        have hss := hs
        simp only [sSureN, Bool.and_eq_true, decide_eq_true_eq] at hss
        rw [if_pos hss.2] at hLk
        subst hLk
        obtain ⟨hs2, s0, s20, s3, s4⟩ : s2 = 0 ∧ 0 ≤ s1 ∧ s1 ≤ 20 ∧ sWith C (sTruth C) (moreAt C h s1) = 1 ∧ ∀ m, s1 < m → m ≤ 20 → sWith C (sTruth C) (moreAt C h m) ≠ 1 := by
          rcases hSp with ⟨s, h1, h2, h3, h4, h5⟩ | ⟨_, h2⟩
          · injection h1 with h1 h1'
            subst h1
            exact ⟨h1', h2, h3, h4, h5⟩
          · exfalso
            refine h2 0 (by omega) (by omega) ?_
            rw [hW, hmz, ← hkv]; exact hss.2
        subst hs2
        have hfr := free_eq k hn5 h00 hs hhl s0 fun m hm0 hm20 => by
          constructor
          · intro hm
            rcases Int.lt_or_le s1 m with hlt | hle
            · exact absurd (by rw [hW]; exact hm) (s4 m hlt hm20)
            · exact hle
          · intro hm
            rw [hW] at s3
            exact more_mono k0 k.ne hwl hm0 hm s3
        have hb := k.bu
        have hpl5 := k.pl
        have zs := i64_in (show -9223372036854775808 ≤ x.pl - gi (cntN plan) h by omega) (show x.pl - gi (cntN plan) h ≤ 9223372036854775807 by omega)
        have zt := i64_in (show -9223372036854775808 ≤ 20 - (gi x.cu.want h + x.bu * gi (cntN plan) h) by omega) (show 20 - (gi x.cu.want h + x.bu * gi (cntN plan) h) ≤ 9223372036854775807 by omega)
        have zb : ¬ x.bu = 0 := by omega
        have d1 : 0 ≤ s1.tdiv x.bu ∧ s1.tdiv x.bu ≤ s1 := ⟨Int.tdiv_nonneg s0 (by omega), by rw [Int.tdiv_eq_ediv_of_nonneg s0]; exact Int.ediv_le_self _ s0⟩
        have hq0 : 0 ≤ 20 - (gi x.cu.want h + x.bu * gi (cntN plan) h) := by omega
        have d2 : 0 ≤ (20 - (gi x.cu.want h + x.bu * gi (cntN plan) h)).tdiv x.bu ∧ (20 - (gi x.cu.want h + x.bu * gi (cntN plan) h)).tdiv x.bu ≤ 20 - (gi x.cu.want h + x.bu * gi (cntN plan) h) := ⟨Int.tdiv_nonneg hq0 (by omega), by rw [Int.tdiv_eq_ediv_of_nonneg hq0]; exact Int.ediv_le_self _ hq0⟩
        have w1 := i64_in (show -9223372036854775808 ≤ s1.tdiv x.bu by omega) (show s1.tdiv x.bu ≤ 9223372036854775807 by omega)
        have w2 := i64_in (show -9223372036854775808 ≤ (20 - (gi x.cu.want h + x.bu * gi (cntN plan) h)).tdiv x.bu by omega) (show (20 - (gi x.cu.want h + x.bu * gi (cntN plan) h)).tdiv x.bu ≤ 9223372036854775807 by omega)
        have z7 : decide ((7 : Int) = 7) = true := rfl
        have z00 : decide ((0 : Int) = 0) = true := rfl
        simp only [gos, eq_self, Nat.reduceLT, Nat.reduceEqDiff, reduceIte, ↓reduceIte, vgo, vout, vguard, callOf, vop, ev, cv, vbin, vint, isShift, isNilConst]
        refine Wr.draw (by kernel_rfl) ?_
        have hat := cI_at (Int.natCast_nonneg h) (show (h : Int) < (rNum x plan (2 ^ x.ba.length - 1)).length by omega)
        have hat2 := cI_at (Int.natCast_nonneg h) (show (h : Int) < C.want.length by have := kx.want.1; omega)
        rw [Int.toNat_natCast, Nat.mul_one] at hat hat2
        rw [hgm] at hat
        rw [hCw, hwg, ← hCw] at hat2
        have hl1 : (h : Int) < (rNum x plan (2 ^ x.ba.length - 1)).length := by omega
        have hl2 : (h : Int) < C.want.length := by have := kx.want.1; omega
        have hmin : decide (fv = min (min (x.pl - gi (cntN plan) h) (s1.tdiv x.bu)) ((20 - (gi x.cu.want h + x.bu * gi (cntN plan) h)).tdiv x.bu)) = true := by
          rw [decide_eq_true_eq, hfv, hfr]; omega
        simp only [gos, eq_self, Nat.reduceLT, Nat.reduceEqDiff, Nat.reduceAdd, reduceCtorEq, reduceIte, ↓reduceIte, tt, vgoD, voutD, vclsOk, vids, mayWrite, V.ids, vguard, callOf, vop, ev, cv, vbin, vint, isShift, isNilConst, vload, clsAt, rms, vI, hCd, hl1, hl2, hat, hat2, Int.natCast_nonneg, Int.toNat_natCast, Nat.mul_one, zs, zt, zb, w1, w2, hmin]
        refine CD.pu c_bathed ?_
        simp only [gos, eq_self, Nat.reduceLT, Nat.reduceEqDiff, reduceIte, ↓reduceIte, vgoD, voutD, vclsOk, vids, mayWrite, vguard, callOf, vop, ev]
        subst hQ
        exact FnPost.plain trivial (v := .bool true) (fun h2 e => by rfl) WkV.refl rfl
end Go.Vm
