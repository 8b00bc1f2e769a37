import Derived.Test.YtjbgmnpbpmljaaaB3
import Derived.Test.YtjbgmnpbpmljaaaRows
import Derived.WalkKit
import Derived.ProofKit
import Derived.OpenShut
import Derived.ShutString
import Derived.ChangeOld
import Derived.Below
set_option linter.unusedVariables false
set_option linter.unusedSimpArgs false
set_option maxRecDepth 100000
namespace Go.Vm
open Go.Proofs
set_option maxHeartbeats 2000000 in
theorem c_ProveTruth (c : Cu) (t : Tr2) (hc : c.wf) (htl : (t.loss.length : Int) ≤ 1000000) : Pu Try.prog (.fn 58 [] []) [.agg c.cs, .agg t.cs] (.bool (sProveTruth c t)) := by
  refine Ev.fn Try.func58 rfl rfl (Fn.body tabOk Try.func58 rfl (Nat.le_of_ble_eq_true rfl) (Ks.ok (fz := (fzn [5])) (cl := (cln [])) tabOk mixed ?_))
  generalize hQ : FnPost tt Try.f58 _ _ = Q
  simp only [Try.f58, List.nil_append, List.append_nil, argsEnv, Nat.reduceAdd]
  simp only [gos, eq_self, Nat.reduceLT, Nat.reduceEqDiff, reduceCtorEq, reduceIte, ↓reduceIte, tt, vgo, vout, vguard, callOf, vop, ev, cv, vload, newRow]
  refine Cl.pu (c_Check c hc) ?_ rfl (by simp only [V.into, intoL, cu_into, Bool.and_true])
  by_cases h0 : sCheck c = 0
  case neg =>
    have hb : (sCheck c != 0) = true := by simp [h0]
    simp only [gos, eq_self, Nat.reduceLT, reduceIte, ↓reduceIte, vgo, vout, vguard, callOf, vop, ev, cv, vbin, vint, isShift, isNilConst, hb]
    subst hQ
    exact FnPost.plain trivial (fun h2 e => by first | rfl | (simp only [Try.f58, vres, vresL, vres1, e _, gos, if_true, if_false, ne_eq, eq_self, Nat.reduceLT, Nat.reduceEqDiff, Nat.reduceAdd, Nat.reduceMul, Nat.reduceLeDiff, Nat.reduceBEq, reduceCtorEq, reduceIte, Array.toList, ↓reduceIte, tt, vgo, vout, vgoD, voutD, vclsOk, vids, mayWrite, V.ids, V.mids, vguard, callOf, vop, ev, cv, vbin, vint, isShift, isNilConst, vnil, isNilSlice, vload, vlen, newRow, vfill, vslice, entOf, vappend, srcOf, vcopy, vlookup, vupdate, mapOk, keyOf, intsOf, clsAt]; try rfl)) (WkV.pure (by simp only [V.into])) ⟨by simp [sProveTruth, h0], rfl⟩
  have hb : (sCheck c != 0) = false := by simp [h0]
  have k := sCheck_ok h0
  have hts : t.cs.take 2 = t.cs := rfl
  have htn : t.cs.length = 2 := rfl
  simp only [gos, eq_self, Nat.reduceLT, Nat.reduceEqDiff, reduceCtorEq, reduceIte, ↓reduceIte, tt, vgo, vout, vguard, callOf, vop, ev, cv, vbin, vint, isShift, isNilConst, vload, hb, hts, htn]
  refine Cl.pu (c_scene c t k.last k.loss.1 htl) ?_ rfl (by simp only [V.into, intoL, vI_into, cu_into, Bool.and_true, Tr2.cs])
  cases h1 : sScOk c t
  · have hz : (sScene c t) = zSc := by simp [sScene, h1]
    simp only [gos, eq_self, Nat.reduceLT, Nat.reduceEqDiff, Nat.reduceAdd, reduceCtorEq, reduceIte, ↓reduceIte, tt, vgo, vout, vguard, callOf, vop, ev, cv, newRow, hz, zSc, Sc.cs, cI]
    subst hQ
    exact FnPost.plain trivial (fun h2 e => by first | rfl | (simp only [Try.f58, vres, vresL, vres1, e _, gos, if_true, if_false, ne_eq, eq_self, Nat.reduceLT, Nat.reduceEqDiff, Nat.reduceAdd, Nat.reduceMul, Nat.reduceLeDiff, Nat.reduceBEq, reduceCtorEq, reduceIte, Array.toList, ↓reduceIte, tt, vgo, vout, vgoD, voutD, vclsOk, vids, mayWrite, V.ids, V.mids, vguard, callOf, vop, ev, cv, vbin, vint, isShift, isNilConst, vnil, isNilSlice, vload, vlen, newRow, vfill, vslice, entOf, vappend, srcOf, vcopy, vlookup, vupdate, mapOk, keyOf, intsOf, clsAt]; try rfl)) (WkV.pure (by simp only [V.into])) ⟨by simp [sProveTruth, h1], rfl⟩
  have ks := scOk_of k h1
  generalize hsc : sScene c t = s at ks ⊢
  have hs5 : (cI s.loss).length = 5 := by rw [cI_len]; exact ks.loss.1
  have ht5 : List.take 5 (cI s.loss) = cI s.loss := List.take_of_length_le (by omega)
  have hd5 : List.drop 5 (cI s.loss) = [] := List.drop_eq_nil_of_le (by omega)
  simp only [gos, eq_self, Nat.reduceLT, Nat.reduceEqDiff, Nat.reduceAdd, reduceCtorEq, reduceIte, ↓reduceIte, tt, vgo, vout, vguard, callOf, vop, ev, cv, vload, newRow, Sc.cs, hs5, ht5, cI_one]
  refine Cl.less (cs := [.agg c.cs, .agg s.cs, vI []]) (ImpV.refl _) ⟨ImpV.refl _, ImpV.refl _, sl0_vI, trivial⟩ (Cl.pu (c_right c s [] (k.play0 ks) k.hours hc.readings (by simp)) ?_ rfl (by simp only [V.into, intoL, cI_into, vI_into, cu_into, Bool.and_true, Sc.cs]))
  simp only [gos, eq_self, Nat.reduceLT, Nat.reduceEqDiff, reduceIte, ↓reduceIte, vgo, vout, vguard, callOf, vop, ev]
  subst hQ
  exact FnPost.plain trivial (fun h2 e => by first | rfl | (simp only [Try.f58, vres, vresL, vres1, e _, gos, if_true, if_false, ne_eq, eq_self, Nat.reduceLT, Nat.reduceEqDiff, Nat.reduceAdd, Nat.reduceMul, Nat.reduceLeDiff, Nat.reduceBEq, reduceCtorEq, reduceIte, Array.toList, ↓reduceIte, tt, vgo, vout, vgoD, voutD, vclsOk, vids, mayWrite, V.ids, V.mids, vguard, callOf, vop, ev, cv, vbin, vint, isShift, isNilConst, vnil, isNilSlice, vload, vlen, newRow, vfill, vslice, entOf, vappend, srcOf, vcopy, vlookup, vupdate, mapOk, keyOf, intsOf, clsAt]; try rfl)) (WkV.pure (by simp only [V.into])) ⟨by simp [sProveTruth, h0, h1, hsc], rfl⟩
end Go.Vm

set_option linter.unusedVariables false
set_option linter.unusedSimpArgs false
set_option maxRecDepth 100000
namespace Go.Vm
open Go.Proofs Go.ChangeShapes Go.WideShapes Go.ChangeAt Go.RowKit
/-! ### from a contract to the row -/
theorem hrel0 (w : World) : HRel (gh0 w) [] w :=
  ⟨fun B o v e => e, fun i e he => (by cases he), fun i j e e' B c c' he => (by cases he), fun i e B c o he => (by cases he), fun i v h => absurd rfl h⟩
theorem calls_of_fn {P : Program} {f : FuncId} {vs : List V} {xs : List Value} {w : World} (c : Fn P f vs [] fun v h' => v = .bool true) (hv : VRL (gh0 w) vs xs) :
    Calls P f xs.toArray w fun e w' => e = .returned (.bool true) ∧ Below w.heap.size w w' := fun cs => by
  obtain ⟨v, h', vc, g', w', fr, rfl, st, hf, hl, hvc, H', t, le⟩ := c (gh0 w) w xs hv (hrel0 w) cs
  simp only [VR] at hvc
  subst hvc
  exact ⟨.returned (.bool true), w', fr, ⟨rfl, t.os, t.tape, t.output, t.size, fun k hk => t.mods k hk (by rintro ⟨i, e, c, he, _⟩; cases he)⟩, st, hf, hl⟩
section
variable {H : Type} {enc : TypeId × Value → H} {P : Program} {w : World} {base : Nat} {spare : Nat → Bool} {held : Bool} {fuel : Nat} {t : TypeId} {cs : List Value} {x : DataW H × List MemPlace}
end
section
variable {H : Type} {enc : TypeId × Value → H} {w : World} {base : Nat} {spare : Nat → Bool} {held : Bool} {fuel : Nat} {cs : List Value} {x : DataW H × List MemPlace}
theorem rd_rg (h : DataW.trod enc Try.prog w base spare held fuel 24 cs = some x) : ∃ r : Rg, r.ok ∧ VRL (gh0 w) r.cs cs := by
  obtain ⟨xs, n, _, _, hl, hx, hf⟩ := DataW.trod_struct Try.underlying24 h
  have hl2 : cs.length = 2 := hl.trans (by kernel_rfl)
  have hx2 : xs.length = 2 := hx
  have f0 : DataW.trod enc Try.prog w base spare held n 3 ((cs.drop 0).take (Try.prog.cellsOf 3)) = xs[0]? := hf 0 _ rfl
  have f1 : DataW.trod enc Try.prog w base spare held n 3 ((cs.drop 1).take (Try.prog.cellsOf 3)) = xs[1]? := hf 1 _ rfl
  rw [List.getElem?_eq_getElem (by omega)] at f0 f1
  obtain ⟨a, ha, va⟩ := rd_int Try.underlying3 f0
  obtain ⟨b, hb, vb⟩ := rd_int Try.underlying3 f1
  refine ⟨⟨a, b⟩, ⟨ha, hb⟩, ?_⟩
  have hc : Try.prog.cellsOf 3 = 1 := by kernel_rfl
  simp only [hc, List.drop_zero] at va vb
  rw [List.take_of_length_le (by simp; omega)] at vb
  exact VRL_two va vb
theorem rd_rd (h : DataW.trod enc Try.prog w base spare held fuel 96 cs = some x) : ∃ r : Rd, r.ok ∧ VRL (gh0 w) r.cs cs := by
  obtain ⟨xs, n, _, _, hl, hx, hf⟩ := DataW.trod_struct Try.underlying96 h
  have hl2 : cs.length = 3 := hl.trans (by kernel_rfl)
  have hx2 : xs.length = 2 := hx
  have f0 : DataW.trod enc Try.prog w base spare held n 3 ((cs.drop 0).take (Try.prog.cellsOf 3)) = xs[0]? := hf 0 _ rfl
  have f1 : DataW.trod enc Try.prog w base spare held n 24 ((cs.drop 1).take (Try.prog.cellsOf 24)) = xs[1]? := hf 1 _ rfl
  rw [List.getElem?_eq_getElem (by omega)] at f0 f1
  obtain ⟨a, ha, va⟩ := rd_int Try.underlying3 f0
  obtain ⟨b, hb, vb⟩ := rd_rg f1
  refine ⟨⟨a, b⟩, ⟨ha, hb⟩, ?_⟩
  have hc : Try.prog.cellsOf 3 = 1 := by kernel_rfl
  have hc2 : Try.prog.cellsOf 24 = 2 := by kernel_rfl
  simp only [hc, hc2, List.drop_zero] at va vb
  rw [List.take_of_length_le (by simp; omega)] at vb
  exact VRL_two va vb
theorem cR_flat : ∀ l : List Rg, l.flatMap Rg.cs = cR l
  | [] => rfl
  | r :: l => by rw [List.flatMap_cons, cR_flat l]; rfl
theorem cD_flat : ∀ l : List Rd, l.flatMap Rd.cs = cD l
  | [] => rfl
  | r :: l => by rw [List.flatMap_cons, cD_flat l]; rfl
theorem rd_cu (h : DataW.trod enc Try.prog w base spare held fuel 28 cs = some x) : ∃ c : Cu, c.ok ∧ VRL (gh0 w) c.cs cs := by
  obtain ⟨xs, n, _, _, hl, hx, hf⟩ := DataW.trod_struct Try.underlying28 h
  have hl2 : cs.length = 11 := hl.trans (by kernel_rfl)
  have hx2 : xs.length = 10 := hx
  have f0 : DataW.trod enc Try.prog w base spare held n 3 ((cs.drop 0).take (Try.prog.cellsOf 3)) = xs[0]? := hf 0 _ rfl
  have f1 : DataW.trod enc Try.prog w base spare held n 3 ((cs.drop 1).take (Try.prog.cellsOf 3)) = xs[1]? := hf 1 _ rfl
  have f2 : DataW.trod enc Try.prog w base spare held n 3 ((cs.drop 2).take (Try.prog.cellsOf 3)) = xs[2]? := hf 2 _ rfl
  have f3 : DataW.trod enc Try.prog w base spare held n 3 ((cs.drop 3).take (Try.prog.cellsOf 3)) = xs[3]? := hf 3 _ rfl
  have f4 : DataW.trod enc Try.prog w base spare held n 3 ((cs.drop 4).take (Try.prog.cellsOf 3)) = xs[4]? := hf 4 _ rfl
  have f5 : DataW.trod enc Try.prog w base spare held n 22 ((cs.drop 5).take (Try.prog.cellsOf 22)) = xs[5]? := hf 5 _ rfl
  have f6 : DataW.trod enc Try.prog w base spare held n 22 ((cs.drop 6).take (Try.prog.cellsOf 22)) = xs[6]? := hf 6 _ rfl
  have f7 : DataW.trod enc Try.prog w base spare held n 24 ((cs.drop 7).take (Try.prog.cellsOf 24)) = xs[7]? := hf 7 _ rfl
  have f8 : DataW.trod enc Try.prog w base spare held n 25 ((cs.drop 9).take (Try.prog.cellsOf 25)) = xs[8]? := hf 8 _ rfl
  have f9 : DataW.trod enc Try.prog w base spare held n 26 ((cs.drop 10).take (Try.prog.cellsOf 26)) = xs[9]? := hf 9 _ rfl
  rw [List.getElem?_eq_getElem (by omega)] at f0 f1 f2 f3 f4 f5 f6 f7 f8 f9
  have hc : Try.prog.cellsOf 3 = 1 := by kernel_rfl
  have hc2 : Try.prog.cellsOf 24 = 2 := by kernel_rfl
  have hc3 : Try.prog.cellsOf 22 = 1 := by kernel_rfl
  have hc4 : Try.prog.cellsOf 25 = 1 := by kernel_rfl
  have hc5 : Try.prog.cellsOf 26 = 1 := by kernel_rfl
  have hc6 : Try.prog.cellsOf 96 = 3 := by kernel_rfl
  obtain ⟨a0, h0, v0⟩ := rd_int Try.underlying3 f0
  obtain ⟨a1, h1, v1⟩ := rd_int Try.underlying3 f1
  obtain ⟨a2, h2, v2⟩ := rd_int Try.underlying3 f2
  obtain ⟨a3, h3, v3⟩ := rd_int Try.underlying3 f3
  obtain ⟨a4, h4, v4⟩ := rd_int Try.underlying3 f4
  obtain ⟨a5, h5, _, v5⟩ := rd_ints Try.underlying22 Try.underlying3 hc f5
  obtain ⟨a6, h6, _, v6⟩ := rd_ints Try.underlying22 Try.underlying3 hc f6
  obtain ⟨a7, h7, v7⟩ := rd_rg f7
  obtain ⟨a8, h8, _, v8⟩ := rd_slice Rg.cs Rg.ok 2 Try.underlying25 hc2 (by omega) (fun _ => rfl) f8 fun n cs x h => rd_rg h
  obtain ⟨a9, h9, _, v9⟩ := rd_slice Rd.cs Rd.ok 3 Try.underlying26 hc6 (by omega) (fun _ => rfl) f9 fun n cs x h => rd_rd h
  rw [cR_flat] at v8
  rw [cD_flat] at v9
  refine ⟨⟨a0, a1, a2, a3, a4, a5, a6, a7, a8, a9⟩, ⟨h0, h1, h2, h3, h4, h5, h6, h7, h8, h9⟩, ?_⟩
  match cs, hl2 with
  | [c0, c1, c2, c3, c4, c5, c6, c7, c8, c9, c10], _ =>
    simp only [hc, hc2, hc3, hc4, hc5, List.drop_zero, List.drop_succ_cons, List.take_succ_cons, List.take_zero, List.take_nil] at v0 v1 v2 v3 v4 v5 v6 v7 v8 v9
    exact VRL.append v0 (VRL.append v1 (VRL.append v2 (VRL.append v3 (VRL.append v4 (VRL.append v5 (VRL.append v6 (VRL.append v7 (VRL.append v8 v9))))))))
end
end Go.Vm

set_option linter.unusedVariables false
set_option linter.unusedSimpArgs false
set_option maxRecDepth 100000
namespace Go.Vm
open Go.Proofs
/-! ### the reference: bounds and verdicts -/
def rEmpty : Rg := ⟨1099511627776, -1⟩
def hotI (c : Cu) (t : Tr2) (i : Nat) : Int := (sHeat c (tS t) c.coal c.want i).tdiv c.per
def leftI (c : Cu) (t : Tr2) (i : Nat) : Int := (sPlay c (tS t) c.coal c.want (i + 1)).1
def rB (ns : List Int) : Rg := ns.foldl sWider rEmpty
end Go.Vm

set_option linter.unusedVariables false
set_option linter.unusedSimpArgs false
namespace Go.Vm
/-! ### what is hot, left and kept, by hour -/
theorem past_left {c : Cu} (coal want : List Int) (s : Sc) {i : Nat} (hi : (i : Int) ≤ c.last) : gi (sPast c coal want s).left i = (sPlay c s coal want (i + 1)).1 := by
  rw [sPast, (sPlay_hot c s coal want _).2.1, gi_map (by omega)]
/-! ### all readings are right -/
/-! ### the same truths -/
/-! ### the bounds are the same -/
/-- The least and the greatest number. -/
theorem bounds_same {xs ys : List Int} (hs : ∀ x, x ∈ xs ↔ x ∈ ys) (hne : xs ≠ []) (hb : ∀ x ∈ xs, 0 ≤ x ∧ x ≤ 100000) : sBounds xs = rB ys := by
  cases xs with
  | nil => exact absurd rfl hne
  | cons n l =>
    have e : sBounds (n :: l) = (n :: l).foldl sWider ⟨n, n⟩ := rfl
    obtain ⟨h1, h2, h3, h4, h5, h6⟩ := fold_wider (n :: l) ⟨n, n⟩
    obtain ⟨g1, g2, g3, g4, g5, g6⟩ := fold_wider ys rEmpty
    rw [e, rB]
    generalize (n :: l).foldl sWider ⟨n, n⟩ = A at h1 h2 h3 h4 h5 h6 ⊢
    generalize ys.foldl sWider rEmpty = B at g1 g2 g3 g4 g5 g6 ⊢
    have hn := hb n (by simp)
    have hny := (hs n).1 (by simp)
    have b1 := g2 n hny
    have b2 := g5 n hny
    have m1 : A.lo ∈ n :: l := by
      rcases h3 with h | h
      · simp only at h; rw [h]; simp
      · exact h
    have m2 : A.hi ∈ n :: l := by
      rcases h6 with h | h
      · simp only at h; rw [h]; simp
      · exact h
    have m3 : B.lo ∈ ys := by
      rcases g3 with h | h
      · simp only [rEmpty] at h; omega
      · exact h
    have m4 : B.hi ∈ ys := by
      rcases g6 with h | h
      · simp only [rEmpty] at h; omega
      · exact h
    have c1 := h2 _ ((hs _).2 m3)
    have c2 := h5 _ ((hs _).2 m4)
    have c3 := g2 _ ((hs _).1 m1)
    have c4 := g5 _ ((hs _).1 m2)
    cases A; cases B
    simp only [Rg.mk.injEq] at *
    omega
theorem sameB {c : Cu} (k0 : CuOk c) (hne : sTruth c ≠ []) (f : Sc → Int) (g : Tr2 → Int) (hfg : ∀ t, f (tS t) = g t) (hb : ∀ s ∈ sTruth c, 0 ≤ f s ∧ f s ≤ 100000) : sBounds ((sTruth c).map f) = rB ((rTruths c).map g) := by
  refine bounds_same (fun x => ?_) (by simpa using hne) ?_
  · simp only [List.mem_map]
    constructor
    · rintro ⟨s, hs, rfl⟩
      obtain ⟨t, ht, rfl⟩ := (same_truths k0 s).1 hs
      exact ⟨t, ht, (hfg t).symm⟩
    · rintro ⟨t, ht, rfl⟩
      exact ⟨tS t, (same_truths k0 _).2 ⟨t, ht, rfl⟩, hfg t⟩
  · intro x hx
    obtain ⟨s, hs, rfl⟩ := List.mem_map.1 hx
    exact hb s hs
theorem hotB_same {c : Cu} (A : AskOk c true) {i : Nat} (hi : (i : Int) ≤ c.last) : sHotB c i = rB ((rTruths c).map fun t => hotI c t i) := by
  have hper := A.k0.per
  refine sameB A.k0 A.ne (fun s => gi (sPast c c.coal c.want s).hot i) _ (fun t => past_hot c.coal c.want (tS t) hi) fun s hs => ?_
  have hh := sHeat_le (A.k0.play0 (A.sc s hs)) hi
  rw [past_hot c.coal c.want s hi]
  have h1 : 0 ≤ (sHeat c s c.coal c.want i).tdiv c.per := Int.tdiv_nonneg hh.1 (by omega)
  have h2 := Int.tdiv_le_self c.per hh.1
  omega
theorem leftB_same {c : Cu} (A : AskOk c true) {i : Nat} (hi : (i : Int) ≤ c.last) : sLeftB c i = rB ((rTruths c).map fun t => leftI c t i) := by
  refine sameB A.k0 A.ne (fun s => gi (sPast c c.coal c.want s).left i) _ (fun t => past_left c.coal c.want (tS t) hi) fun s hs => ?_
  have hh := sPlay_inv (A.k0.play0 (A.sc s hs)) (i + 1) (by omega)
  rw [past_left c.coal c.want s hi]
  omega
end Go.Vm

set_option linter.unusedVariables false
set_option linter.unusedSimpArgs false
set_option maxRecDepth 100000
namespace Go.Vm
open Go.Proofs
/-! ### coal by a number -/
/-! ### words -/
theorem cW16_at {l : List Int} {i : Nat} (h : (i : Int) < l.length) : List.drop i (cW16 l) = .int .u16 (gi l i) :: cW16 (l.drop (i + 1)) := by
  have hi : i < l.length := by omega
  rw [cW16, ← List.map_drop, List.drop_eq_getElem_cons hi, List.map_cons, gi, Int.toNat_natCast, List.getD_eq_getElem?_getD, List.getElem?_eq_getElem hi]; rfl
def sWord (l : List Int) (a : Nat) : Int := if l = [] then 0 else gi l ((a % l.length : Nat) : Int)
theorem sWord_le {l : List Int} (h : ∀ x ∈ l, 0 ≤ x ∧ x ≤ 65535) (a : Nat) : 0 ≤ sWord l a ∧ sWord l a ≤ 65535 := by
  rw [sWord]; split
  · omega
  · rename_i hn
    exact h _ (gi_mem (Nat.mod_lt _ (List.length_pos_iff.2 hn)))
theorem c_word (l : List Int) (h : ∀ x ∈ l, 0 ≤ x ∧ x ≤ 65535) (a : Nat) : Pu Try.prog (.fn 52 [] []) [vW l, vi a] (vi (sWord l a)) := by
  refine Ev.fn Try.func52 rfl rfl (Fn.body tabOk Try.func52 rfl (Nat.le_of_ble_eq_true rfl) (Ks.ok (fz := (fzn [])) (cl := (cln [])) tabOk mixed ?_))
  generalize hQ : FnPost tt Try.f52 _ _ = Q
  simp only [Try.f52, List.nil_append, List.append_nil, argsEnv, Nat.reduceAdd]
  by_cases hn : l = []
  · have z0 : decide (((l.length : Nat) : Int) = 0) = true := by simp [hn]
    simp only [gos, eq_self, Nat.reduceLT, reduceCtorEq, reduceIte, ↓reduceIte, tt, vgo, vout, vguard, callOf, vop, ev, cv, vbin, vint, isShift, isNilConst, vlen, vW, z0]
    subst hQ
    exact FnPost.plain trivial (fun h2 e => by first | rfl | (simp only [Try.f52, vres, vresL, vres1, e _, gos, if_true, if_false, ne_eq, eq_self, Nat.reduceLT, Nat.reduceEqDiff, Nat.reduceAdd, Nat.reduceMul, Nat.reduceLeDiff, Nat.reduceBEq, reduceCtorEq, reduceIte, Array.toList, ↓reduceIte, tt, vgo, vout, vgoD, voutD, vclsOk, vids, mayWrite, V.ids, V.mids, vguard, callOf, vop, ev, cv, vbin, vint, isShift, isNilConst, vnil, isNilSlice, vload, vlen, newRow, vfill, vslice, entOf, vappend, srcOf, vcopy, vlookup, vupdate, mapOk, keyOf, intsOf, clsAt]; try rfl)) (WkV.pure (by simp only [V.into])) ⟨by simp [sWord, hn], rfl⟩
  have hp := List.length_pos_iff.2 hn
  have z0 : decide (((l.length : Nat) : Int) = 0) = false := by simp [hn]
  have z1 : ¬ ((l.length : Nat) : Int) = 0 := by omega
  have hm : (a : Int).tmod (l.length : Int) = ((a % l.length : Nat) : Int) := by rw [Int.tmod_eq_emod_of_nonneg (by omega)]; rfl
  have hlt : ((a % l.length : Nat) : Int) < l.length := by have := Nat.mod_lt a hp; omega
  have hw := h _ (gi_mem (l := l) (i := a % l.length) (Nat.mod_lt _ hp))
  have e1 := cW16_at hlt
  have e2 : (((a % l.length : Nat) : Int)).toNat = a % l.length := Int.toNat_natCast _
  have e3 : 0 ≤ ((a % l.length : Nat) : Int) := Int.natCast_nonneg _
  simp only [gos, eq_self, Nat.reduceLT, Nat.reduceEqDiff, reduceCtorEq, reduceIte, ↓reduceIte, tt, vgo, vout, vguard, callOf, vop, ev, cv, vbin, vint, isShift, isNilConst, vload, vlen, vW, z1, hm, e2, e3, hlt, Nat.mul_one, e1, i64_in (show -9223372036854775808 ≤ gi l ((a % l.length : Nat) : Int) by omega) (show gi l ((a % l.length : Nat) : Int) ≤ 9223372036854775807 by omega)]
  subst hQ
  exact FnPost.plain trivial (fun h2 e => by first | rfl | (simp only [Try.f52, vres, vresL, vres1, e _, gos, if_true, if_false, ne_eq, eq_self, Nat.reduceLT, Nat.reduceEqDiff, Nat.reduceAdd, Nat.reduceMul, Nat.reduceLeDiff, Nat.reduceBEq, reduceCtorEq, reduceIte, Array.toList, ↓reduceIte, tt, vgo, vout, vgoD, voutD, vclsOk, vids, mayWrite, V.ids, V.mids, vguard, callOf, vop, ev, cv, vbin, vint, isShift, isNilConst, vnil, isNilSlice, vload, vlen, newRow, vfill, vslice, entOf, vappend, srcOf, vcopy, vlookup, vupdate, mapOk, keyOf, intsOf, clsAt]; try rfl)) (WkV.pure (by simp only [V.into])) ⟨by simp only [sWord, if_neg hn], rfl⟩
end Go.Vm

set_option linter.unusedVariables false
set_option linter.unusedSimpArgs false
set_option maxRecDepth 100000
namespace Go.Vm
/-! ### lists that are changed in some places -/
theorem past_lens {c : Cu} {coal want : List Int} {s : Sc} (k : PlayOk c s coal want) : ((sPast c coal want s).hot.length : Int) = c.last + 1 ∧ ((sPast c coal want s).left.length : Int) = c.last + 1 := by
  have hl := k.last
  obtain ⟨_, _, h1, h2, _⟩ := sPlay_inv k (c.last + 1).toNat (by omega)
  simp only [sPast]
  omega
theorem cW16_into (p : Nat → Bool) : ∀ l : List Int, intoL p (cW16 l) = true
  | [] => rfl
  | x :: l => by simp only [cW16, List.map_cons, intoL, V.into, Bool.true_and]; exact cW16_into p l
theorem vW_into (p : Nat → Bool) (l : List Int) : (vW l).into p = true := by simp only [vW, V.into]; exact cW16_into p l
end Go.Vm

set_option linter.unusedVariables false
set_option linter.unusedSimpArgs false
set_option maxRecDepth 100000
namespace Go.Vm
open Go.Proofs
/-! ### sets of readings, by bits -/
def bitsTo (b p : Nat) : List Int := ((List.range p).filter fun i => b.testBit i).map fun (i : Nat) => (i : Int)
def sBits (b : Nat) : List Int := bitsTo b 5
/-! ### before, shorter -/
end Go.Vm

set_option linter.unusedVariables false
set_option linter.unusedSimpArgs false
set_option maxRecDepth 100000
namespace Go.Vm
/-! ### plain law: which readings can be right together -/
def possN (c : Cu) (b : Nat) : Bool := (truths c).any fun s => (List.range c.readings.length).all fun i => !b.testBit i || sRead1 c s [] i
theorem range_all_congr {n : Nat} {f g : Nat → Bool} (h : ∀ i, i < n → f i = g i) : (List.range n).all f = (List.range n).all g := by
  rw [Bool.eq_iff_iff, List.all_eq_true, List.all_eq_true]
  exact ⟨fun a i hi => by rw [← h i (List.mem_range.1 hi)]; exact a i hi, fun a i hi => by rw [h i (List.mem_range.1 hi)]; exact a i hi⟩
theorem any_congr {α : Type} {l : List α} {f g : α → Bool} (h : ∀ x ∈ l, f x = g x) : l.any f = l.any g := by
  rw [Bool.eq_iff_iff, List.any_eq_true, List.any_eq_true]
  exact ⟨fun ⟨x, hx, a⟩ => ⟨x, hx, by rw [← h x hx]; exact a⟩, fun ⟨x, hx, a⟩ => ⟨x, hx, by rw [h x hx]; exact a⟩⟩
theorem read1_out (c : Cu) (s : Sc) (out : List Int) (i : Nat) : sRead1 c s out i = ((out.any fun y => decide ((i : Int) = y)) || sRead1 c s [] i) := by
  simp only [sRead1, List.any_nil, Bool.false_or]
/-- 1: with some readings left out. -/
theorem poss_out {c : Cu} {out : List Int} {b : Nat} (h : ∀ i : Nat, i < c.readings.length → b.testBit i = !(out.any fun y => decide ((i : Int) = y))) : sPoss c out = possN c b := by
  refine any_congr fun s _ => range_all_congr fun i hi => ?_
  rw [read1_out, h i hi, Bool.not_not]
theorem pow5 {n : Nat} (h : n < 6) : 2 ^ n ≤ 32 := Nat.pow_le_pow_right (n := 2) (by omega) (show n ≤ 5 by omega)
/-- 3: other readings. -/
def rdOk (c : Cu) (s : Sc) (r : Rd) : Bool := sIn (gi (sPlay c s c.coal c.want (c.last + 1).toNat).2.hot r.hour) r.b.lo r.b.hi
theorem read1_ok (c : Cu) (s : Sc) (i : Nat) : sRead1 c s [] i = rdOk c s (gD c.readings i) := by simp only [sRead1, List.any_nil, Bool.false_or]; rfl
theorem range_gD (l : List Rd) (f : Rd → Bool) : ((List.range l.length).all fun i => f (gD l i)) = l.all f := by
  rw [Bool.eq_iff_iff, List.all_eq_true, List.all_eq_true]
  constructor
  · intro h x hx
    obtain ⟨i, hi, rfl⟩ := List.mem_iff_getElem.1 hx
    have := h i (List.mem_range.2 hi)
    rwa [gD, Int.toNat_natCast, List.getD_eq_getElem?_getD, List.getElem?_eq_getElem hi] at this
  · intro h i hi
    rw [List.mem_range] at hi
    exact h _ (List.mem_of_getElem? (gD_get (l := l) (i := i) (by omega)))
theorem right_all (c : Cu) (s : Sc) : sRight c s [] = c.readings.all (rdOk c s) := by
  rw [← range_gD, sRight]
  exact range_all_congr fun i _ => read1_ok c s i
theorem cuR_listed (c : Cu) (l : List Rd) (t : Tr2) : Listed (cuR c l) t ↔ Listed c t := ⟨fun h => ⟨h.heat, h.len, h.loss⟩, fun h => ⟨h.heat, h.len, h.loss⟩⟩
theorem cuR_rdOk (c : Cu) (l : List Rd) (s : Sc) (r : Rd) : rdOk (cuR c l) s r = rdOk c s r := by
  simp only [rdOk, sPlay_cu c (cuR c l) rfl rfl rfl]; rfl
theorem any_truths {c x : Cu} (k0 : CuOk c) (kx : CuOk x) (h : ∀ t, Listed x t ↔ Listed c t) (f : Sc → Bool) : (truths x).any f = (truths c).any f := by
  rw [Bool.eq_iff_iff, List.any_eq_true, List.any_eq_true]
  constructor
  · rintro ⟨s, hs, hf⟩
    obtain ⟨t, ht, rfl⟩ := (mem_truths kx _).1 hs
    exact ⟨_, (mem_truths k0 _).2 ⟨t, (h t).1 ht, rfl⟩, hf⟩
  · rintro ⟨s, hs, hf⟩
    obtain ⟨t, ht, rfl⟩ := (mem_truths k0 _).1 hs
    exact ⟨_, (mem_truths kx _).2 ⟨t, (h t).2 ht, rfl⟩, hf⟩
theorem poss_cuR {c : Cu} (k0 : CuOk c) {l : List Rd} (kx : CuOk (cuR c l)) : sPoss (cuR c l) [] = (truths c).any fun s => l.all (rdOk c s) := by
  rw [sPoss, any_truths k0 kx (cuR_listed c l)]
  refine any_congr fun s _ => ?_
  rw [right_all]
  congr 1
  funext r
  exact cuR_rdOk c l s r
theorem take_all (l : List Rd) (f : Rd → Bool) : ∀ n, n ≤ l.length → (l.take n).all f = (List.range n).all fun i => f (gD l i)
  | 0, _ => rfl
  | n + 1, h => by
    have e : l.take (n + 1) = l.take n ++ [gD l n] := by rw [List.take_add_one, gD_get (by omega)]; rfl
    rw [e, List.range_succ, List.all_append, List.all_append, take_all l f n (by omega)]; rfl
theorem testBit_ones {k i : Nat} : (2 ^ k - 1).testBit i = decide (i < k) := Nat.testBit_two_pow_sub_one k i
theorem poss_cut {c : Cu} (k0 : CuOk c) {k : Nat} (hk : k ≤ c.readings.length) : sPoss (cut c k) [] = possN c (2 ^ k - 1) := by
  have e : cut c k = cuR c (c.readings.take k) := rfl
  have := poss_cuR k0 (l := c.readings.take k) (cut_ok k0 k)
  rw [e, this, possN]
  refine any_congr fun s _ => ?_
  rw [take_all _ _ _ hk, Bool.eq_iff_iff, List.all_eq_true, List.all_eq_true]
  simp only [List.mem_range, testBit_ones, read1_ok]
  constructor
  · intro h i hi
    by_cases hik : i < k
    · rw [h i hik]; simp
    · rw [decide_eq_false hik]; rfl
  · intro h i hi
    have := h i (by omega)
    rwa [decide_eq_true hi] at this
/-- 4: there is a truth. -/
theorem asked_poss {x : Cu} (kx : CuOk x) : sAsked x true = if sPoss x [] = true then 0 else 11 := by
  have hne : sTruth x = [] ↔ ¬ sPoss x [] = true := by
    rw [sPoss, List.any_eq_true, List.eq_nil_iff_forall_not_mem]
    constructor
    · rintro h ⟨s, hs, hr⟩; exact h s ((mem_sTruth x s).2 ⟨hs, hr⟩)
    · intro h s hs; exact h ⟨s, (mem_sTruth x s).1 hs⟩
  rw [sAsked, if_neg (by simp [chk_of kx]), if_neg (by simp)]
  by_cases h : sPoss x [] = true
  · rw [if_pos h, if_neg (fun e => hne.1 e h)]
  · rw [if_neg h, if_pos (hne.2 h)]
/-! ### the smallest set -/
def combos (n : Nat) : Nat → List Int → Int → List (List Int)
  | 0, out, _ => [out]
  | m + 1, out, first => (rangeI first ((n : Int) - ((m + 1 : Nat) : Int))).flatMap fun i => combos n m (out ++ [i]) (i + 1)
def allSets (n : Nat) : List (List Int) := (rangeI 0 n).flatMap fun m => combos n m.toNat [] 0
theorem leaveF_find (c : Cu) : ∀ (m : Nat) (out : List Int) (first : Int), leaveF c m out first = (combos c.readings.length m out first).find? (sPoss c)
  | 0, out, first => by
    rw [leaveF, combos, List.find?_cons]
    cases h : sPoss c out <;> simp []
  | m + 1, out, first => by
    rw [leaveF, combos, List.find?_flatMap]
    congr 1
    funext i
    exact leaveF_find c m _ _
theorem leaveAll_find (c : Cu) : leaveAll c = (allSets c.readings.length).find? (sPoss c) := by
  rw [leaveAll, allSets, List.find?_flatMap]
  congr 1
  funext i
  exact leaveF_find c _ _ _
def perm (n : Nat) : List Nat := (allSets n).map fun l => l.foldl (fun a x => a + 2 ^ x.toNat) 0
theorem perm_sets {n : Nat} (h : n < 6) : allSets n = (perm n).map sBits := by
  have : ∀ n : Fin 6, allSets n = (perm n).map sBits := by decide +kernel
  exact this ⟨n, h⟩
theorem perm_mem {n b : Nat} (h : n < 6) (hb : b < 2 ^ n) : b ∈ perm n := by
  have : ∀ n : Fin 6, ∀ b : Fin 32, (b : Nat) < 2 ^ (n : Nat) → (b : Nat) ∈ perm n := by decide +kernel
  exact this ⟨n, h⟩ ⟨b, by have := pow5 h; omega⟩ hb
theorem perm_lt {n : Nat} (h : n < 6) : ∀ b ∈ perm n, b < 2 ^ n := by
  have : ∀ n : Fin 6, ∀ b ∈ perm n, b < 2 ^ (n : Nat) := by decide +kernel
  exact this ⟨n, h⟩
theorem mask_bits {n b i : Nat} (h : n < 6) (hb : b < 2 ^ n) (hi : i < n) : (2 ^ n - 1 - b).testBit i = !((sBits b).any fun y => decide ((i : Int) = y)) := by
  have : ∀ n : Fin 6, ∀ b : Fin 32, (b : Nat) < 2 ^ (n : Nat) → ∀ i : Fin 5, (i : Nat) < (n : Nat) → (2 ^ (n : Nat) - 1 - (b : Nat)).testBit i = !((sBits b).any fun y => decide ((((i : Nat) : Int)) = y)) := by decide +kernel
  have hp := pow5 h
  exact this ⟨n, h⟩ ⟨b, by omega⟩ hb ⟨i, by omega⟩ hi
theorem find_congr {α : Type} {p q : α → Bool} : ∀ {l : List α}, (∀ x ∈ l, p x = q x) → l.find? p = l.find? q
  | [], _ => rfl
  | x :: l, h => by
    rw [List.find?_cons, List.find?_cons, h x (by simp), find_congr fun y hy => h y (by simp [hy])]
theorem find_first {p : Nat → Bool} : ∀ {l : List Nat} {x : Nat}, l.find? p = some x → p x = true ∧ x ∈ l ∧ ∀ y ∈ l, p y = true → l.idxOf x ≤ l.idxOf y
  | [], x, h => by simp at h
  | a :: l, x, h => by
    rw [List.find?_cons] at h
    split at h
    · rename_i ha
      injection h with h; subst h
      exact ⟨ha, by simp, fun y _ _ => by simp⟩
    · rename_i ha
      obtain ⟨h1, h2, h3⟩ := find_first h
      have hx : x ≠ a := fun e => by subst e; rw [h1] at ha; cases ha
      refine ⟨h1, by simp [h2], fun y hy hp => ?_⟩
      have hya : y ≠ a := fun e => by subst e; rw [hp] at ha; cases ha
      rw [List.mem_cons] at hy
      rcases hy with rfl | hy
      · exact absurd rfl hya
      · have e1 : (a == x) = false := by simp [Ne.symm hx]
        have e2 : (a == y) = false := by simp [Ne.symm hya]
        rw [List.idxOf_cons, List.idxOf_cons, e1, e2]
        have := h3 y hy hp
        simp only [cond_false]
        omega
theorem idxOf_inj {l : List Nat} {x y : Nat} (hx : x ∈ l) (hy : y ∈ l) (h : l.idxOf x = l.idxOf y) : x = y := by
  have h1 := List.getElem_idxOf (List.idxOf_lt_length_iff.2 hx)
  have h2 := List.getElem_idxOf (List.idxOf_lt_length_iff.2 hy)
  rw [← h1, ← h2]
  simp only [h]
/-- What the program finds: the first set, and what is so of it. -/
theorem leave_first {c : Cu} (k0 : CuOk c) : ∃ b, b < 2 ^ c.readings.length ∧ leaveAll c = some (sBits b) ∧ possN c (2 ^ c.readings.length - 1 - b) = true ∧
    ∀ j, j < 2 ^ c.readings.length → possN c (2 ^ c.readings.length - 1 - j) = true → (perm c.readings.length).idxOf b ≤ (perm c.readings.length).idxOf j := by
  have hn : c.readings.length < 6 := by have := k0.rds; omega
  obtain ⟨l, hl⟩ := leaveAll_some k0
  have e : (allSets c.readings.length).find? (sPoss c) = ((perm c.readings.length).find? fun b => possN c (2 ^ c.readings.length - 1 - b)).map sBits := by
    rw [perm_sets hn, List.find?_map]
    congr 1
    refine find_congr fun b hb => ?_
    exact poss_out fun i hi => mask_bits hn (perm_lt hn b hb) hi
  rw [leaveAll_find, e] at hl
  cases hf : (perm c.readings.length).find? fun b => possN c (2 ^ c.readings.length - 1 - b) with
  | none => rw [hf] at hl; cases hl
  | some b =>
    obtain ⟨h1, h2, h3⟩ := find_first hf
    exact ⟨b, perm_lt hn b h2, by rw [leaveAll_find, e, hf]; rfl, h1, fun j hj hp => h3 j (perm_mem hn hj) hp⟩
end Go.Vm

set_option linter.unusedVariables false
set_option linter.unusedSimpArgs false
set_option maxRecDepth 100000
namespace Go.Vm
theorem poss_all {c : Cu} (k0 : CuOk c) : sPoss c [] = possN c (2 ^ c.readings.length - 1) := by
  have e : cut c c.readings.length = c := by simp only [cut, List.take_length]
  have := poss_cut k0 (Nat.le_refl c.readings.length)
  rwa [e] at this
theorem poss_mono {c : Cu} {a b : Nat} (h : ∀ i, i < c.readings.length → b.testBit i = true → a.testBit i = true) (ha : possN c a = true) : possN c b = true := by
  rw [possN, List.any_eq_true] at ha ⊢
  obtain ⟨s, hs, h1⟩ := ha
  refine ⟨s, hs, ?_⟩
  rw [List.all_eq_true] at h1 ⊢
  intro i hi
  have := h1 i hi
  have h2 := h i (List.mem_range.1 hi)
  cases hb : b.testBit i with
  | false => rfl
  | true => rw [h2 hb] at this; simpa using this
theorem perm_zero {n : Nat} (h : n < 6) : (perm n).idxOf 0 = 0 := by
  have : ∀ n : Fin 6, (perm n).idxOf 0 = 0 := by decide +kernel
  exact this ⟨n, h⟩
/-- There is a truth: nothing is left out. -/
theorem leave_nil {c : Cu} (k0 : CuOk c) (h : sPoss c [] = true) : leaveAll c = some [] := by
  have hn : c.readings.length < 6 := by have := k0.rds; omega
  obtain ⟨b, h1, h2, h3, h4⟩ := leave_first k0
  have h5 := h4 0 (Nat.two_pow_pos _) (by rw [Nat.sub_zero, ← poss_all k0]; exact h)
  rw [perm_zero hn] at h5
  have := idxOf_inj (perm_mem hn h1) (perm_mem hn (Nat.two_pow_pos _)) (by rw [perm_zero hn]; omega)
  rw [h2, this]; rfl
theorem first_none {c : Cu} (k0 : CuOk c) (h : sPoss c [] = true) : sFirstA c = (0, 7) := by
  rw [poss_all k0] at h
  have : (List.range c.readings.length).find? (fun i => !(sPoss (cut c (i + 1)) [])) = none := by
    rw [List.find?_eq_none]
    intro i hi
    rw [List.mem_range] at hi
    rw [poss_cut k0 (by omega), poss_mono (fun j _ hj => by rw [testBit_ones] at hj ⊢; simp at hj ⊢; omega) h]; simp
  simp only [sFirstA, chk_of k0, if_true, this]
theorem gi_nI {n : Int} {f : Int → Int} {i : Nat} (h : (i : Int) < n) : gi (nI n f) i = f i := by
  simp only [gi, nI, Int.toNat_natCast, List.getD_eq_getElem?_getD, List.getElem?_map]
  rw [List.getElem?_range (by omega)]; rfl
theorem gR_nR {n : Int} {f : Int → Rg} {i : Nat} (h : (i : Int) < n) : gR (nR n f) i = f i := by
  simp only [gR, nR, Int.toNat_natCast, List.getD_eq_getElem?_getD, List.getElem?_map]
  rw [List.getElem?_range (by omega)]; rfl
theorem nR_len' (n : Int) (f : Int → Rg) : ((nR n f).length : Int) = ((n.toNat : Nat) : Int) := by simp [nR]
theorem nI_len' (n : Int) (f : Int → Int) : ((nI n f).length : Int) = ((n.toNat : Nat) : Int) := by simp [nI]
theorem rB_in {ys : List Int} {y : Int} (h : y ∈ ys) : sIn y (rB ys).lo (rB ys).hi = true := by
  obtain ⟨g1, g2, g3, g4, g5, g6⟩ := fold_wider ys rEmpty
  simp only [sIn, Bool.and_eq_true, decide_eq_true_eq]
  exact ⟨g2 y h, g5 y h⟩
/-- A verdict, in a truth. -/
theorem keeps_in {c : Cu} {l : List Tr2} {t : Tr2} (ht : t ∈ l) (k : Nat) : 1 ≤ rKeeps c l k ∧ rKeeps c l k ≤ 3 ∧ (rKeeps c l k = 1 → keptI c c.coal c.want t k = true) ∧ (rKeeps c l k = 2 → keptI c c.coal c.want t k = false) := by
  have hne : l ≠ [] := List.ne_nil_of_mem ht
  rw [rKeeps, rVerdict_count _ hne]
  by_cases h1 : (l.all fun t => keptI c c.coal c.want t k) = true
  · rw [if_pos h1]
    exact ⟨by omega, by omega, fun _ => List.all_eq_true.1 h1 t ht, fun h => by omega⟩
  · rw [if_neg h1]
    by_cases h2 : (l.any fun t => keptI c c.coal c.want t k) = true
    · rw [if_pos h2]
      exact ⟨by omega, by omega, fun h => by omega, fun h => by omega⟩
    · rw [if_neg h2]
      refine ⟨by omega, by omega, fun h => by omega, fun _ => ?_⟩
      rw [Bool.not_eq_true, List.any_eq_false] at h2
      simpa using h2 t ht
end Go.Vm

set_option linter.unusedVariables false
set_option linter.unusedSimpArgs false
set_option maxRecDepth 100000
namespace Go.Vm
open Go.Proofs
theorem c_in (n : Int) (r : Rg) : Pu Try.prog (.fn 63 [] []) [vi n, .agg [vi r.lo, vi r.hi]] (.bool (sIn n r.lo r.hi)) := by
  refine Ev.fn Try.func63 rfl rfl (Fn.body tabOk Try.func63 rfl (Nat.le_of_ble_eq_true rfl) (Ks.ok (fz := (fzn [])) (cl := (cln [])) tabOk mixed ?_))
  generalize hQ : FnPost tt Try.f63 _ _ = Q
  simp only [Try.f63, List.nil_append, List.append_nil, argsEnv, Nat.reduceAdd]
  by_cases h : r.lo ≤ n
  · simp only [gos, eq_self, Nat.reduceLT, Nat.reduceEqDiff, reduceCtorEq, reduceIte, ↓reduceIte, tt, vgo, vout, vguard, callOf, vop, ev, cv, vbin, vint, isShift, isNilConst, vload, newRow, h]
    subst hQ
    exact FnPost.plain trivial (fun h2 e => by first | rfl | (simp only [Try.f63, vres, vresL, vres1, e _, gos, if_true, if_false, ne_eq, eq_self, Nat.reduceLT, Nat.reduceEqDiff, Nat.reduceAdd, Nat.reduceMul, Nat.reduceLeDiff, Nat.reduceBEq, reduceCtorEq, reduceIte, Array.toList, ↓reduceIte, tt, vgo, vout, vgoD, voutD, vclsOk, vids, mayWrite, V.ids, V.mids, vguard, callOf, vop, ev, cv, vbin, vint, isShift, isNilConst, vnil, isNilSlice, vload, vlen, newRow, vfill, vslice, entOf, vappend, srcOf, vcopy, vlookup, vupdate, mapOk, keyOf, intsOf, clsAt]; try rfl)) (WkV.pure (by simp only [V.into])) ⟨by simp [sIn, h], rfl⟩
  · simp only [gos, eq_self, Nat.reduceLT, Nat.reduceEqDiff, reduceCtorEq, reduceIte, ↓reduceIte, tt, vgo, vout, vguard, callOf, vop, ev, cv, vbin, vint, isShift, isNilConst, vload, newRow, h]
    subst hQ
    exact FnPost.plain trivial (fun h2 e => by first | rfl | (simp only [Try.f63, vres, vresL, vres1, e _, gos, if_true, if_false, ne_eq, eq_self, Nat.reduceLT, Nat.reduceEqDiff, Nat.reduceAdd, Nat.reduceMul, Nat.reduceLeDiff, Nat.reduceBEq, reduceCtorEq, reduceIte, Array.toList, ↓reduceIte, tt, vgo, vout, vgoD, voutD, vclsOk, vids, mayWrite, V.ids, V.mids, vguard, callOf, vop, ev, cv, vbin, vint, isShift, isNilConst, vnil, isNilSlice, vload, vlen, newRow, vfill, vslice, entOf, vappend, srcOf, vcopy, vlookup, vupdate, mapOk, keyOf, intsOf, clsAt]; try rfl)) (WkV.pure (by simp only [V.into])) ⟨by simp [sIn, h], rfl⟩
/-! ### readings that are right -/
def rdOf (c : Cu) (t : Tr2) (w : Int) : Rd := ⟨w.tmod (c.last + 1), ⟨max 0 ((sHeat c (tS t) c.coal c.want (w.tmod (c.last + 1)).toNat).tdiv c.per - (w.tdiv 8).tmod 3), min 999 ((sHeat c (tS t) c.coal c.want (w.tmod (c.last + 1)).toNat).tdiv c.per + (w.tdiv 32).tmod 3)⟩⟩
def readN (c : Cu) (t : Tr2) (ws : List Int) (i : Nat) : List Rd := (List.range i).map fun (j : Nat) => rdOf c t (sWord ws (j + 1))
theorem readN_len (c : Cu) (t : Tr2) (ws : List Int) (i : Nat) : (readN c t ws i).length = i := by simp [readN]
theorem readN_succ (c : Cu) (t : Tr2) (ws : List Int) (i : Nat) : readN c t ws (i + 1) = readN c t ws i ++ [rdOf c t (sWord ws (i + 1))] := by simp [readN, List.range_succ]
def readM (ws : List Int) : Nat := ((sWord ws 0).tmod 6).toNat
theorem wk_read (c : Cu) (t : Tr2) (m : Nat) (r : List Rd) (hm : r.length = m) (a b d e : Ent) (p : Nat → Bool) (hp : ∀ i, p i = false) :
    WkV p (.tup [.agg [vi c.last, vi c.start, vi c.most, vi c.per, vi c.shovels, vI c.coal, vI c.want, vi c.heat.lo, vi c.heat.hi, vR c.loss, .own 67 m 0 3 m], .agg t.cs]) [(6, a), (7, b), (8, d), (9, e), (67, ⟨m, .row (cD r)⟩)] (.tup [.agg (cuR c r).cs, .agg t.cs]) [] := by
  have ht : (cD r).take (m * 3) = cD r := List.take_of_length_le (by rw [cD_len]; omega)
  refine WkV.trans (WkV.forgetF (h' := [(67, ⟨m, .row (cD r)⟩)]) (fun j e he => ?_) (fun j hj => by rw [hp j] at hj; cases hj) ?_ ?_) (WkV.frz 67 (v' := .tup [.agg (cuR c r).cs, .agg t.cs]) (h' := []) (ver := m) (cs := cD r) rfl (hp 67) (cD_into _ _) rfl ?_ ?_ WkV.refl)
  · simp only [Heap.get] at he ⊢
    split at he
    · rename_i h30; subst h30; exact he
    · cases he
  · simp only [V.into, intoL, V.into, intoL, vI_into, vR_into, Bool.true_and, Bool.and_true, domP, Heap.get, Tr2.cs]; rfl
  · simp only [intoH, Blk.into, cD_into, Bool.and_self]
  · simp [V.frz, frzL, vI, vR, cI_frz, cR_frz, cuR, Cu.cs, vD, ht, hm, Tr2.cs]
  · simp [frzH]
set_option maxHeartbeats 4000000 in
theorem c_Read (c : Cu) (k0 : CuOk c) (which : Int) (ho : 0 ≤ which ∧ which ≤ 65535) (ws : List Int) (hw : ∀ x ∈ ws, 0 ≤ x ∧ x ≤ 65535) :
    Pu Try.prog (.fn 62 [] []) [.agg c.cs, .int .u16 which, vW ws] (.tup [.agg (cuR c (readN c (rNth c (which.tmod (rMany c))) ws (readM ws))).cs, .agg (rNth c (which.tmod (rMany c))).cs]) := by
  have hl := k0.last
  have hM := rMany_le k0
  have hM0 : ¬ rMany c = 0 := by omega
  have t1 := tmod_le ho.1 hM.1
  have cm := c_rMany c k0.heat (by have := k0.loss.1; omega) k0.loss.2
  have T := nth_ok k0 t1.1
  have hz : ¬ c.last + 1 = 0 := by omega
  refine Ev.fn Try.func62 rfl rfl (Fn.body tabOk Try.func62 rfl (Nat.le_of_ble_eq_true rfl) (Ks.ok (fz := (fzn [6, 7, 8, 9, 12])) (cl := (cln [(1, .d tg0 [cP, cP, cP, cP, cP, cP, cP, cW, cW]), (12, .d (tgL [(6, 1), (7, 2)]) [cL, cL, some ([1], [1]), some ([2], [2])])])) tabOk mixed ?_))
  generalize hQ : FnPost tt Try.f62 _ _ = Q
  simp only [Try.f62, List.nil_append, List.append_nil, argsEnv, Nat.reduceAdd]
  simp only [gos, eq_self, Nat.reduceLT, Nat.reduceEqDiff, reduceCtorEq, reduceIte, ↓reduceIte, tt, vgo, vout, vguard, callOf, vop, ev, newRow]
  refine Wr.draw (by kernel_rfl) ?_
  simp only [gos, eq_self, Nat.reduceLT, Nat.reduceEqDiff, Nat.reduceAdd, reduceCtorEq, reduceIte, ↓reduceIte, tt, vgoD, voutD, vclsOk, vids, mayWrite, V.ids, vguard, callOf, vop, ev, vload, clsAt, i64_in (show -9223372036854775808 ≤ which by omega) (show which ≤ 9223372036854775807 by omega)]
  refine CD.pu cm ?_ rfl (by simp only [V.into, intoL, cu_into, Bool.and_true])
  simp only [gos, eq_self, Nat.reduceLT, Nat.reduceEqDiff, reduceIte, ↓reduceIte, vgoD, voutD, vclsOk, vids, mayWrite, vguard, callOf, vop, ev, vbin, vint, isShift, isNilConst, hM0]
  refine CD.pu (c_rNth c k0 (which.tmod (rMany c)) (by omega)) ?_ rfl (by simp only [V.into, intoL, cu_into, Bool.and_true])
  generalize rNth c (which.tmod (rMany c)) = t at T hQ ⊢
  have hto : oneL t.cs = true := rfl
  have htn : t.cs.length = 2 := rfl
  have hts : t.cs.take 2 = t.cs := rfl
  have htd : List.drop 2 t.cs = [] := rfl
  have w0 := sWord_le hw 0
  have z6 : ¬ (6 : Int) = 0 := by omega
  have hm6 := tmod_le w0.1 (s := 6) (by omega)
  have hmI : ((readM ws : Nat) : Int) = (sWord ws 0).tmod 6 := by rw [readM]; omega
  simp only [gos, eq_self, Nat.reduceLT, Nat.reduceEqDiff, Nat.reduceAdd, reduceCtorEq, reduceIte, ↓reduceIte, tt, vgo, vout, vgoD, voutD, vclsOk, vids, mayWrite, V.ids, vguard, callOf, vop, ev, cv, vload, newRow, hto, htn, Cu.cs]
  refine W.loop tabOk mixed (fun i : Nat => ([(2, vW ws), (3, .rop c.cs), (6, .ptr 6 0 0), (7, .ptr 7 0 0), (8, .ptr 8 0 0), (9, .ptr 9 0 0), (10, vi i)], [(6, ⟨0, .row [vi 0, vi 0, vi 0, vi 0, vi 0, .sl0, .sl0, vi 0, vi 0, .sl0, .sl0]⟩), (7, ⟨0, .row [vi 0, .sl0]⟩), (8, ⟨0, .row t.cs⟩), (9, ⟨0, .row [vi c.last, vi c.start, vi c.most, vi c.per, vi c.shovels, vI c.coal, vI c.want, vi c.heat.lo, vi c.heat.hi, vR c.loss, .own 67 i 0 3 i]⟩), (67, ⟨i, .row (cD (readN c t ws i))⟩)])) (fun i => readM ws - i) (fun i => i ≤ readM ws) 0 (by omega)
    (Wk.trans (Wk.sl0H 9 10 67 3 rfl rfl rfl) (Wk.env (by simp [subE, Env.get, Cu.cs]))) ?_
  intro i hi
  simp only [gos, eq_self, Nat.reduceLT, Nat.reduceEqDiff, reduceIte, ↓reduceIte, vgo, vout, vguard, callOf, vop, ev, cv]
  refine Cl.pu (c_word ws hw 0) ?_ rfl (by simp only [V.into, intoL, Bool.and_true, vW_into])
  by_cases hil : (i : Int) < (sWord ws 0).tmod 6
  · have w1 := sWord_le hw (i + 1)
    simp only [gos, eq_self, Nat.reduceLT, Nat.reduceEqDiff, reduceIte, ↓reduceIte, vgo, vout, vguard, callOf, vop, ev, cv, vbin, vint, isShift, isNilConst, z6, hil, i64_succ (show (i : Int) < 9223372036854775807 by omega)]
    refine Cl.pu (c_word ws hw (i + 1)) ?_ rfl (by simp only [V.into, intoL, Bool.and_true, vW_into])
    have hstep := readN_succ c t ws i
    generalize hwe : sWord ws (i + 1) = w at w1 hstep ⊢
    have hmo := tmod_le w1.1 (s := c.last + 1) (by omega)
    obtain ⟨h, hh⟩ : ∃ h : Nat, w.tmod (c.last + 1) = (h : Int) := ⟨(w.tmod (c.last + 1)).toNat, by omega⟩
    have hh2 : (w.tmod (c.last + 1)).toNat = h := by omega
    rw [rdOf, hh2, hh] at hstep
    have hq := sHeat_le (T.tr k0).play (i := h) (by omega)
    have d1 := Int.tdiv_nonneg hq.1 (b := c.per) (by have := k0.per; omega)
    have d2 := Int.tdiv_le_self c.per hq.1
    have z8 : ¬ (8 : Int) = 0 := by omega
    have z3 : ¬ (3 : Int) = 0 := by omega
    have z32 : ¬ (32 : Int) = 0 := by omega
    have v8 : 0 ≤ w.tdiv 8 := Int.tdiv_nonneg w1.1 (by omega)
    have v32 : 0 ≤ w.tdiv 32 := Int.tdiv_nonneg w1.1 (by omega)
    have u8 := Int.tdiv_le_self 8 w1.1
    have u32 := Int.tdiv_le_self 32 w1.1
    have m8 := tmod_le v8 (s := 3) (by omega)
    have m32 := tmod_le v32 (s := 3) (by omega)
    have hn1 : (cD (readN c t ws i)).length = i * 3 := by rw [cD_len, readN_len]
    have hi9 : i ≤ 999999 := by omega
    simp only [gos, eq_self, Nat.reduceLT, Nat.reduceEqDiff, Nat.reduceAdd, Nat.reduceLeDiff, reduceCtorEq, reduceIte, ↓reduceIte, tt, vgo, vout, vguard, callOf, vop, ev, cv, vbin, vint, isShift, isNilConst, vload, newRow, vfill, hz, hh, htn, hts, i64_in (show -9223372036854775808 ≤ c.last + 1 by omega) (show c.last + 1 ≤ 9223372036854775807 by omega)]
    refine Cl.pu (c_rHot c t c.coal c.want (T.tr k0) h (by omega)) ?_ rfl (by simp only [V.into, intoL, vI_into, cu_into, Bool.and_true, Tr2.cs])
    generalize (sHeat c (tS t) c.coal c.want h).tdiv c.per = n at d1 d2 hstep ⊢
    simp only [gos, eq_self, Nat.reduceLT, Nat.reduceEqDiff, Nat.reduceAdd, Nat.reduceMul, Nat.reduceLeDiff, reduceCtorEq, reduceIte, ↓reduceIte, tt, vgo, vout, vguard, callOf, vop, ev, cv, vbin, vint, isShift, isNilConst, vload, vfill, vappend, srcOf, z8, z3, z32, hn1, hi9, i64_in (show -9223372036854775808 ≤ w.tdiv 8 by omega) (show w.tdiv 8 ≤ 9223372036854775807 by omega), i64_in (show -9223372036854775808 ≤ w.tdiv 32 by omega) (show w.tdiv 32 ≤ 9223372036854775807 by omega), i64_in (show -9223372036854775808 ≤ n - (w.tdiv 8).tmod 3 by omega) (show n - (w.tdiv 8).tmod 3 ≤ 9223372036854775807 by omega), i64_in (show -9223372036854775808 ≤ n + (w.tdiv 32).tmod 3 by omega) (show n + (w.tdiv 32).tmod 3 ≤ 9223372036854775807 by omega)]
    refine Nx.mk (i + 1) (show readM ws - (i + 1) < readM ws - i by omega) (by omega) (Wk.forget ?_ ?_ (fun j hp => by simp [orD, domP, Heap.get] at hp) ?_ ?_)
    · simp [subE, Env.get, i64_succ (show (i : Int) < 9223372036854775807 by omega)]
    · rw [hstep, cD_snoc]
      simp [subH, Heap.get]
    · simp only [intoE, V.into, cu_into, Bool.true_and, Bool.and_true, domP, Heap.get, vW_into]; rfl
    · simp only [intoH, Blk.into, V.into, intoL, cD_into, vI_into, vR_into, Bool.true_and, Bool.and_true, domP, Heap.get, Tr2.cs]; rfl
  · have hie : i = readM ws := by omega
    simp only [gos, eq_self, Nat.reduceLT, Nat.reduceEqDiff, reduceIte, ↓reduceIte, vgo, vout, vguard, callOf, vop, ev, cv, vbin, vint, isShift, isNilConst, z6, hil]
    refine Wr.draw (by kernel_rfl) ?_
    simp only [gos, eq_self, Nat.reduceLT, Nat.reduceEqDiff, Nat.reduceAdd, reduceCtorEq, reduceIte, ↓reduceIte, tt, vgoD, voutD, vclsOk, vids, mayWrite, V.ids, vguard, callOf, vop, ev, vload, clsAt, hto, htn, hts]
    subst hQ
    rw [← hie]
    exact FnPost.plain trivial (v := .tup [.agg [vi c.last, vi c.start, vi c.most, vi c.per, vi c.shovels, vI c.coal, vI c.want, vi c.heat.lo, vi c.heat.hi, vR c.loss, .own 67 i 0 3 i], .agg t.cs]) (fun h2 e => by simp only [Try.f62, vres, vresL, vres1, gos, eq_self, Nat.reduceLT, Nat.reduceEqDiff, Nat.reduceAdd, reduceCtorEq, reduceIte, ↓reduceIte, tt, vload, e _, htn, hts]) (wk_read c t i _ (readN_len _ _ _ _) _ _ _ _ _ (fun _ => rfl)) ⟨rfl, rfl⟩
end Go.Vm

set_option linter.unusedVariables false
set_option linter.unusedSimpArgs false
set_option maxRecDepth 100000
namespace Go.Vm
open Go.Proofs
theorem readM_le {ws : List Int} (hw : ∀ x ∈ ws, 0 ≤ x ∧ x ≤ 65535) : readM ws ≤ 5 := by
  have w0 := sWord_le hw 0
  have := tmod_le w0.1 (s := 6) (by omega)
  rw [readM]; omega
theorem rdOf_ok {c : Cu} (k0 : CuOk c) {t : Tr2} (T : T2Ok c t) {w : Int} (hw : 0 ≤ w ∧ w ≤ 65535) : sReading c (rdOf c t w) = true ∧ rdOk c (tS t) (rdOf c t w) = true := by
  have hl := k0.last
  have hmo := tmod_le hw.1 (s := c.last + 1) (by omega)
  obtain ⟨h, hh⟩ : ∃ h : Nat, w.tmod (c.last + 1) = (h : Int) := ⟨(w.tmod (c.last + 1)).toNat, by omega⟩
  have hh2 : (w.tmod (c.last + 1)).toNat = h := by omega
  have hq := sHeat_le (T.tr k0).play (i := h) (by omega)
  have d1 := Int.tdiv_nonneg hq.1 (b := c.per) (by have := k0.per; omega)
  have d2 := Int.tdiv_le_self c.per hq.1
  have m8 := tmod_le (Int.tdiv_nonneg hw.1 (show (0 : Int) ≤ 8 by omega)) (s := 3) (by omega)
  have m32 := tmod_le (Int.tdiv_nonneg hw.1 (show (0 : Int) ≤ 32 by omega)) (s := 3) (by omega)
  have hp := past_hot c.coal c.want (tS t) (c := c) (i := h) (by omega)
  rw [sPast] at hp
  simp only [rdOf, rdOk, hh, Int.toNat_natCast, hp, sReading, sIn, sInside, Bool.and_eq_true, decide_eq_true_eq]
  omega
theorem read_ok {c : Cu} (k0 : CuOk c) {t : Tr2} (T : T2Ok c t) {ws : List Int} (hw : ∀ x ∈ ws, 0 ≤ x ∧ x ≤ 65535) : CuOk (cuR c (readN c t ws (readM ws))) :=
  ⟨k0.last, by have := readM_le hw; simp only [cuR, readN_len]; omega, k0.most, k0.start, k0.per, k0.shovels, k0.coal, k0.want, k0.heat, k0.loss, fun r hr => by
    simp only [cuR, readN, List.mem_map] at hr
    obtain ⟨j, _, rfl⟩ := hr
    exact (rdOf_ok k0 T (sWord_le hw _)).1, k0.many⟩
theorem read_right {c : Cu} (k0 : CuOk c) {t : Tr2} (T : T2Ok c t) {ws : List Int} (hw : ∀ x ∈ ws, 0 ≤ x ∧ x ≤ 65535) (m : Nat) : sRight (cuR c (readN c t ws m)) (tS t) [] = true := by
  rw [right_all, List.all_eq_true]
  intro r hr
  simp only [cuR, readN, List.mem_map] at hr
  obtain ⟨j, _, rfl⟩ := hr
  rw [cuR_rdOk]
  exact (rdOf_ok k0 T (sWord_le hw _)).2
set_option maxHeartbeats 8000000 in
theorem l_CopperTruth (c : Cu) (hc : I64 c.last) (which : Int) (ho : 0 ≤ which ∧ which ≤ 65535) (ws : List Int) (hw : ∀ x ∈ ws, 0 ≤ x ∧ x ≤ 65535) :
    Vm.Fn Try.prog 12 [.agg c.cs, .int .u16 which, vW ws] [] fun v h' => v = .bool true := by
  refine Fn.body tabOk Try.func12 rfl (Nat.le_of_ble_eq_true rfl) (Ks.ok (fz := (fzn [7, 8])) (cl := (cln [(5, .d tg0 [cL, cP, cL, cP, cP, cP, cP, cP, cP, cP, cP, cP]), (10, .d tg0 [cL, cL, cL, cL, cL, cL, cL, cL, cL, cL, cL, cL, cL, cL, cL, cL, cL, cL, cL, cL, cL, cL, cL, cL, cL, cL, cL, cL, cL, cL, cL, cL, cL, cL, cL, cL, cL, cL, cL, cL, cL, cL, cL, cL, cL, cL, cL, cL, cL, cL, cL, cL, cL, cL, cL, cL, cL, cL, cL, cL, cL]), (15, .d tg0 [cL, cL, cL, cL, cL, cL, cL, cL, cL, cL, cL]), (16, .d tg0 [cP, cP, cP, cP, cP, cP, cP, cP, cP, cP, cP, cP, cP, cP, cP, cP, cP, cP, cP, cP, cP, cP, cP, cP, cP, cP, cP, cP, cP, cP, cP, cP, cP, cP, cP, cP, cP, cP, cP, cP, cP, cP, cP, cP, cP, cP, cP, cP, cP, cP, cP])])) tabOk mixed ?_)
  generalize hQ : FnPost tt Try.f12 _ _ = Q
  simp only [Try.f12, argsEnv, Nat.reduceAdd]
  simp only [gos, eq_self, Nat.reduceLT, Nat.reduceEqDiff, reduceCtorEq, reduceIte, ↓reduceIte, tt, vgo, vout, vguard, callOf, vop, ev, cv, vload, newRow]
  refine Cl.pu (c_ready c hc) ?_ rfl (by simp only [V.into, intoL, cu_into, Bool.and_true])
  cases hts : sReady c with
  | false =>
    simp only [gos, eq_self, Nat.reduceLT, Nat.reduceEqDiff, reduceIte, ↓reduceIte, vgo, vout, vguard, callOf, vop, ev]
    refine Cl.pu c_awake ?_
    simp only [gos, eq_self, Nat.reduceLT, reduceIte, ↓reduceIte, vgo, vout, vguard, callOf, vop, ev]
    subst hQ
    exact FnPost.plain trivial (v := .bool true) (fun h2 e => by rfl) WkV.refl rfl
  | true =>
  obtain ⟨hth, h0⟩ := ready_ok hts
  have wf := thin_wf hc hth
  have k0 := sCheck_ok h0
  have hM := rMany_le k0
  have t1 := tmod_le ho.1 hM.1
  simp only [gos, eq_self, Nat.reduceLT, Nat.reduceEqDiff, reduceCtorEq, reduceIte, ↓reduceIte, tt, vgo, vout, vguard, callOf, vop, ev, vload]
  refine Cl.pu (c_Read c k0 which ho ws hw) ?_ rfl (by simp only [V.into, intoL, cu_into, Bool.and_true, vW_into])
  have T := nth_ok k0 t1.1
  have la := nth_listed k0 t1.1
  have kx := read_ok k0 T hw
  have hr := read_right k0 T hw (readM ws)
  generalize rNth c (which.tmod (rMany c)) = t at T la kx hr ⊢
  have lx : Listed (cuR c (readN c t ws (readM ws))) t := (cuR_listed _ _ _).2 la
  generalize cuR c (readN c t ws (readM ws)) = x at kx hr lx ⊢
  have hl := kx.last
  have sx := (listed_sc kx).2 lx
  obtain ⟨Tx, Ex⟩ := t2ok_of kx sx
  have hin : t ∈ rTruths x := (mem_rTruths' kx t).2 ⟨lx, hr⟩
  have hpo : sPoss x [] = true := by rw [sPoss, List.any_eq_true]; exact ⟨tS t, (mem_truths kx _).2 ⟨t, lx, rfl⟩, hr⟩
  have hask : sAsked x true = 0 := by rw [asked_poss kx, if_pos hpo]
  have A := askOk_of hask
  have f1 : sBoundsA x = (nR (x.last + 1) (sHotB x), nR (x.last + 1) (sLeftB x), 0) := by rw [sBoundsA, if_pos hask]
  have f2 : sPlayA x t = ((sPast x x.coal x.want (tS t)).hot, (sPast x x.coal x.want (tS t)).left, 0) := by simp [sPlayA, chk_of kx, sx, Ex]
  have f3 : sKeepsA x = (nI (x.last + 1) (kpF x), 0) := by rw [sKeepsA, if_pos hask]; rfl
  have f4 : sLeaveA x = ([], 0) := by simp [sLeaveA, chk_of kx, leave_nil kx hpo]
  have f5 := first_none kx hpo
  have f6 : sProveTruth x t = true := by simp [sProveTruth, chk_of kx, sx, Ex, hr]
  have wl : (t.loss.length : Int) ≤ 1000000 := by have := Tx.len; omega
  obtain ⟨q1, q2⟩ := past_lens (Tx.tr kx).play
  have m1 : ∀ j : Nat, (j : Int) ≤ x.last → gi (sPast x x.coal x.want (tS t)).hot j = hotI x t j ∧ gi (sPast x x.coal x.want (tS t)).left j = leftI x t j := fun j hj => ⟨past_hot _ _ _ hj, past_left _ _ _ hj⟩
  have m2 : ∀ j : Nat, (j : Int) ≤ x.last → sIn (hotI x t j) (gR (nR (x.last + 1) (sHotB x)) j).lo (gR (nR (x.last + 1) (sHotB x)) j).hi = true := fun j hj => by
    rw [gR_nR (by omega), hotB_same A hj]
    exact rB_in (List.mem_map.2 ⟨t, hin, rfl⟩)
  have m3 : ∀ j : Nat, (j : Int) ≤ x.last → sIn (leftI x t j) (gR (nR (x.last + 1) (sLeftB x)) j).lo (gR (nR (x.last + 1) (sLeftB x)) j).hi = true := fun j hj => by
    rw [gR_nR (by omega), leftB_same A hj]
    exact rB_in (List.mem_map.2 ⟨t, hin, rfl⟩)
  have m4 : ∀ j : Nat, (j : Int) ≤ x.last → gi (nI (x.last + 1) (kpF x)) j = rKeeps x (rTruths x) j := fun j hj => by
    rw [gi_nI (by omega)]; exact keeps_same A hj
  have l1 : ((nR (x.last + 1) (sHotB x)).length : Int) = x.last + 1 := by rw [nR_len']; omega
  have l2 : ((nR (x.last + 1) (sLeftB x)).length : Int) = x.last + 1 := by rw [nR_len']; omega
  have l3 : ((nI (x.last + 1) (kpF x)).length : Int) = x.last + 1 := by rw [nI_len']; omega
  have hwl := kx.want.1
  have hto : oneL t.cs = true := rfl
  have htn : t.cs.length = 2 := rfl
  have htt : t.cs.take 2 = t.cs := rfl
  have htd : List.drop 2 t.cs = [] := rfl
  have hxo := cu_one x
  have hxn : x.cs.length = 11 := rfl
  have hxt : x.cs.take 11 = x.cs := rfl
  have hxd : List.drop 11 x.cs = [] := rfl
  have hx0 : x.cs.head? = some (vi x.last) := rfl
  have hx6 : (List.drop 6 x.cs).head? = some (vI x.want) := rfl
  simp only [gos, eq_self, Nat.reduceLT, Nat.reduceEqDiff, Nat.reduceAdd, reduceCtorEq, reduceIte, ↓reduceIte, tt, vgo, vout, vguard, callOf, vop, ev, vload, newRow, hto, htn, hxo, hxn, hxt]
  refine Cl.pu (c_lCopper x kx.wf) ?_ rfl (by simp only [V.into, intoL, cu_into, Bool.and_true])
  simp only [gos, eq_self, Nat.reduceLT, reduceIte, ↓reduceIte, vgo, vout, vguard, callOf, ev]
  refine Cl.pu (c_Bounds x kx.wf) ?_ rfl (by simp only [V.into, intoL, cu_into, Bool.and_true])
  rw [f1]
  simp only [gos, eq_self, Nat.reduceLT, Nat.reduceEqDiff, reduceIte, ↓reduceIte, vgo, vout, vguard, callOf, vop, ev]
  refine Wr.draw (by kernel_rfl) ?_
  simp only [gos, eq_self, Nat.reduceLT, Nat.reduceEqDiff, Nat.reduceAdd, reduceCtorEq, reduceIte, ↓reduceIte, tt, vgoD, voutD, vclsOk, vids, mayWrite, V.ids, vguard, callOf, vop, ev, vload, clsAt, hxn, hxt]
  refine CD.pu (c_lCopper x kx.wf) ?_ rfl (by simp only [V.into, intoL, cu_into, Bool.and_true])
  simp only [gos, eq_self, Nat.reduceLT, Nat.reduceEqDiff, reduceCtorEq, reduceIte, ↓reduceIte, tt, vgoD, voutD, vclsOk, vids, mayWrite, V.ids, vguard, callOf, vop, ev, vload, htn, htt]
  refine CD.pu (c_lTruth t wl) ?_ rfl (by simp only [V.into, intoL, vI_into, Bool.and_true, Tr2.cs])
  simp only [gos, eq_self, Nat.reduceLT, Nat.reduceEqDiff, reduceIte, ↓reduceIte, vgoD, voutD, vguard, callOf, ev]
  refine CD.pu (c_Play x t kx.wf wl) ?_ rfl (by simp only [V.into, intoL, vI_into, cu_into, Bool.and_true, Tr2.cs])
  rw [f2]
  simp only [gos, eq_self, Nat.reduceLT, Nat.reduceEqDiff, reduceCtorEq, reduceIte, ↓reduceIte, tt, vgo, vout, vgoD, voutD, vclsOk, vids, mayWrite, vguard, callOf, vop, ev, vload, hxn, hxt]
  refine Cl.pu (c_lCopper x kx.wf) ?_ rfl (by simp only [V.into, intoL, cu_into, Bool.and_true])
  simp only [gos, eq_self, Nat.reduceLT, reduceIte, ↓reduceIte, vgo, vout, vguard, callOf, ev]
  refine Cl.pu (c_Keeps x kx.wf) ?_ rfl (by simp only [V.into, intoL, cu_into, Bool.and_true])
  rw [f3]
  simp only [gos, eq_self, Nat.reduceLT, Nat.reduceEqDiff, reduceCtorEq, reduceIte, ↓reduceIte, tt, vgo, vout, vguard, callOf, vop, ev, vload, hxn, hxt]
  refine Cl.pu (c_lCopper x kx.wf) ?_ rfl (by simp only [V.into, intoL, cu_into, Bool.and_true])
  simp only [gos, eq_self, Nat.reduceLT, reduceIte, ↓reduceIte, vgo, vout, vguard, callOf, ev]
  refine Cl.pu (c_Leave x kx.wf) ?_ rfl (by simp only [V.into, intoL, cu_into, Bool.and_true])
  rw [f4]
  simp only [gos, eq_self, Nat.reduceLT, Nat.reduceEqDiff, reduceCtorEq, reduceIte, ↓reduceIte, tt, vgo, vout, vguard, callOf, vop, ev, vload, hxn, hxt]
  refine Cl.pu (c_lCopper x kx.wf) ?_ rfl (by simp only [V.into, intoL, cu_into, Bool.and_true])
  simp only [gos, eq_self, Nat.reduceLT, reduceIte, ↓reduceIte, vgo, vout, vguard, callOf, ev]
  refine Cl.pu (c_First x kx.wf) ?_ rfl (by simp only [V.into, intoL, cu_into, Bool.and_true])
  rw [f5]
  generalize (sPast x x.coal x.want (tS t)).hot = P1 at q1 m1 ⊢
  generalize (sPast x x.coal x.want (tS t)).left = P2 at q2 m1 ⊢
  generalize nR (x.last + 1) (sHotB x) = H at m2 l1 ⊢
  generalize nR (x.last + 1) (sLeftB x) = K at m3 l2 ⊢
  generalize nI (x.last + 1) (kpF x) = Ve at m4 l3 ⊢
  have d1 : ((H.length : Int) != x.last + 1) = false := by rw [bne_eq_false_iff_eq]; exact l1
  have d2 : ((K.length : Int) != x.last + 1) = false := by rw [bne_eq_false_iff_eq]; exact l2
  have d3 : ((P1.length : Int) != x.last + 1) = false := by rw [bne_eq_false_iff_eq]; exact q1
  have d4 : ((P2.length : Int) != x.last + 1) = false := by rw [bne_eq_false_iff_eq]; exact q2
  have d5 : ((Ve.length : Int) != x.last + 1) = false := by rw [bne_eq_false_iff_eq]; exact l3
  have z1 : ((0 : Int) != 0) = false := rfl
  have z2 : (((0 : Nat) : Int) != 0) = false := rfl
  have z7 : ((7 : Int) != 7) = false := rfl
  have w1 := i64_in (show -9223372036854775808 ≤ x.last + 1 by omega) (show x.last + 1 ≤ 9223372036854775807 by omega)
  simp only [gos, eq_self, Nat.reduceLT, Nat.reduceEqDiff, Nat.reduceAdd, reduceCtorEq, reduceIte, ↓reduceIte, tt, vgo, vout, vguard, callOf, vop, ev, cv, vbin, vint, isShift, isNilConst, vload, hx0, w1]
  refine Wr.draw (by kernel_rfl) ?_
  simp only [gos, eq_self, Nat.reduceLT, Nat.reduceEqDiff, Nat.reduceAdd, reduceCtorEq, reduceIte, ↓reduceIte, tt, vgoD, voutD, vclsOk, vids, mayWrite, V.ids, vguard, callOf, vop, ev, cv, vbin, vint, isShift, isNilConst, vload, vlen, clsAt, vI, vR, show cI [] = [] from rfl, d1, d2, d3, d4, d5, z2, hxn, hxt]
  refine CD.pu (c_lCopper x kx.wf) ?_ rfl (by simp only [V.into, intoL, cu_into, Bool.and_true])
  simp only [gos, eq_self, Nat.reduceLT, Nat.reduceEqDiff, reduceCtorEq, reduceIte, ↓reduceIte, tt, vgoD, voutD, vclsOk, vids, mayWrite, V.ids, vguard, callOf, vop, ev, vload, htn, htt]
  refine CD.pu (c_lTruth t wl) ?_ rfl (by simp only [V.into, intoL, vI_into, Bool.and_true, Tr2.cs])
  simp only [gos, eq_self, Nat.reduceLT, Nat.reduceEqDiff, reduceIte, ↓reduceIte, vgoD, voutD, vguard, callOf, ev]
  refine CD.pu (c_ProveTruth x t kx.wf wl) ?_ rfl (by simp only [V.into, intoL, vI_into, cu_into, Bool.and_true, Tr2.cs])
  rw [f6]
  simp only [gos, eq_self, Nat.reduceLT, Nat.reduceEqDiff, reduceIte, ↓reduceIte, vgo, vout, vgoD, voutD, vclsOk, vids, mayWrite, vguard, callOf, vop, ev, cv]
  refine W.loop tabOk mixed (fun i : Nat => ([(7, .ptr 7 0 0), (9, vR H), (10, vR K), (12, vI P1), (13, vI P2), (15, vI Ve), (21, vi (x.last + 1)), (22, vi i)], [(7, ⟨0, .row x.cs⟩), (8, ⟨0, .row t.cs⟩)])) (fun i => P1.length - i) (fun i => i ≤ P1.length) 0 (by omega) (Wk.env (by simp [subE, Env.get, vI, vR])) ?_
  intro j hj
  by_cases hjl : (j : Int) < x.last + 1
  · have g1 : (j : Int) < P1.length := by omega
    have g2 : (j : Int) < P2.length := by omega
    have g3 : (j : Int) < H.length := by omega
    have g4 : (j : Int) < K.length := by omega
    have g5 : (j : Int) < Ve.length := by omega
    have g6 : (j : Int) < x.want.length := by omega
    obtain ⟨m11, m12⟩ := m1 j (by omega)
    have m2j := m2 j (by omega)
    have m3j := m3 j (by omega)
    have m4j := m4 j (by omega)
    obtain ⟨v1, v2, v3, v4⟩ := keeps_in hin j
    rw [← m4j] at v1 v2 v3 v4
    have hki : keptI x x.coal x.want t j = decide (gi x.want j ≤ gi P1 j) := by rw [m11]; rfl
    rw [hki] at v3 v4
    rw [← m11] at m2j
    rw [← m12] at m3j
    have hv : sIn (gi Ve j) 1 3 = true := by simp only [sIn, Bool.and_eq_true, decide_eq_true_eq]; omega
    simp only [gos, eq_self, Nat.reduceLT, Nat.reduceEqDiff, reduceIte, ↓reduceIte, vgo, vout, vguard, callOf, vop, ev, vbin, vint, isShift, isNilConst, hjl]
    refine Wr.draw (by kernel_rfl) ?_
    simp only [gos, eq_self, Nat.reduceLT, Nat.reduceEqDiff, Nat.reduceAdd, reduceCtorEq, reduceIte, ↓reduceIte, tt, vgoD, voutD, vclsOk, vids, mayWrite, V.ids, vguard, callOf, vop, ev, vbin, vint, isShift, isNilConst, vload, clsAt, vI, hx6, g1, g6, cI_at (Int.natCast_nonneg j) g1, cI_at (Int.natCast_nonneg j) g6]
    refine Wr.draw (by kernel_rfl) ?_
    simp only [gos, eq_self, Nat.reduceLT, Nat.reduceEqDiff, Nat.reduceAdd, reduceCtorEq, reduceIte, ↓reduceIte, tt, vgoD, voutD, vclsOk, vids, mayWrite, V.ids, vguard, callOf, vop, ev, vload, clsAt, vR, g1, g3, cI_at (Int.natCast_nonneg j) g1, cR_at (Int.natCast_nonneg j) g3]
    refine CD.pu (c_in (gi P1 j) (gR H j)) ?_
    rw [m2j]
    simp only [gos, eq_self, Nat.reduceLT, Nat.reduceEqDiff, reduceCtorEq, reduceIte, ↓reduceIte, tt, vgoD, voutD, vclsOk, vids, mayWrite, V.ids, vguard, callOf, vop, ev, vload, g2, g4, cI_at (Int.natCast_nonneg j) g2, cR_at (Int.natCast_nonneg j) g4]
    refine CD.pu (c_in (gi P2 j) (gR K j)) ?_
    rw [m3j]
    simp only [gos, eq_self, Nat.reduceLT, Nat.reduceEqDiff, reduceCtorEq, reduceIte, ↓reduceIte, tt, vgoD, voutD, vclsOk, vids, mayWrite, V.ids, vguard, callOf, vop, ev, cv, vload, g5, cI_at (Int.natCast_nonneg j) g5]
    refine CD.pu (c_rIn (gi Ve j) 1 3) ?_
    rw [hv]
    have e123 : (decide (gi Ve j = 1) = true ∧ decide (gi Ve j = 2) = false ∧ decide (gi x.want j ≤ gi P1 j) = true) ∨ (decide (gi Ve j = 1) = false ∧ decide (gi Ve j = 2) = true ∧ decide (gi x.want j ≤ gi P1 j) = false) ∨ (decide (gi Ve j = 1) = false ∧ decide (gi Ve j = 2) = false) := by
      rcases (show gi Ve j = 1 ∨ gi Ve j = 2 ∨ gi Ve j = 3 by omega) with h | h | h
      · exact .inl ⟨by simp [h], by simp [h], v3 h⟩
      · exact .inr (.inl ⟨by simp [h], by simp [h], v4 h⟩)
      · exact .inr (.inr ⟨by simp [h], by simp [h]⟩)
    have hsucc := i64_succ (show (j : Int) < 9223372036854775807 by omega)
    rcases e123 with ⟨b1, b2, b3⟩ | ⟨b1, b2, b3⟩ | ⟨b1, b2⟩
    · simp only [gos, eq_self, Nat.reduceLT, Nat.reduceEqDiff, reduceCtorEq, reduceIte, ↓reduceIte, tt, vgo, vout, vgoD, voutD, vclsOk, vids, mayWrite, V.ids, vguard, callOf, vop, ev, cv, vbin, vint, isShift, isNilConst, vload, g5, cI_at (Int.natCast_nonneg j) g5, b1, b2, b3]
      exact Nx.mk (j + 1) (show P1.length - (j + 1) < P1.length - j by omega) (by omega) (Wk.env (by simp [subE, Env.get, hsucc]))
    · simp only [gos, eq_self, Nat.reduceLT, Nat.reduceEqDiff, reduceCtorEq, reduceIte, ↓reduceIte, tt, vgo, vout, vgoD, voutD, vclsOk, vids, mayWrite, V.ids, vguard, callOf, vop, ev, cv, vbin, vint, isShift, isNilConst, vload, g5, cI_at (Int.natCast_nonneg j) g5, b1, b2, b3]
      exact Nx.mk (j + 1) (show P1.length - (j + 1) < P1.length - j by omega) (by omega) (Wk.env (by simp [subE, Env.get, hsucc]))
    · simp only [gos, eq_self, Nat.reduceLT, Nat.reduceEqDiff, reduceCtorEq, reduceIte, ↓reduceIte, tt, vgo, vout, vgoD, voutD, vclsOk, vids, mayWrite, V.ids, vguard, callOf, vop, ev, cv, vbin, vint, isShift, isNilConst, vload, g5, cI_at (Int.natCast_nonneg j) g5, b1, b2]
      exact Nx.mk (j + 1) (show P1.length - (j + 1) < P1.length - j by omega) (by omega) (Wk.env (by simp [subE, Env.get, hsucc]))
  · simp only [gos, eq_self, Nat.reduceLT, Nat.reduceEqDiff, reduceIte, ↓reduceIte, vgo, vout, vguard, callOf, vop, ev, vbin, vint, isShift, isNilConst, hjl]
    refine Cl.pu c_awake ?_
    simp only [gos, eq_self, Nat.reduceLT, reduceIte, ↓reduceIte, vgo, vout, vguard, callOf, vop, ev]
    subst hQ
    exact FnPost.plain trivial (v := .bool true) (fun h2 e => by rfl) (WkV.pure rfl) rfl
end Go.Vm
