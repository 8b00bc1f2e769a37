import Derived.Test.YtjbgmnpbpmljaaaB3
import Derived.Test.YtjbgmnpbpmljaaaRows
import Derived.WalkKit
import Derived.ProofKit
import Derived.OpenShut
import Derived.ShutString
import Derived.ChangeOld
import Derived.Below
set_option linter.unusedVariables false
set_option linter.unusedSimpArgs false
set_option maxRecDepth 100000
namespace Go.Vm
open Go.Proofs Go.ChangeShapes Go.WideShapes Go.ChangeAt Go.RowKit
/-! ### from a contract to the row -/
theorem hrel0 (w : World) : HRel (gh0 w) [] w :=
  ⟨fun B o v e => e, fun i e he => (by cases he), fun i j e e' B c c' he => (by cases he), fun i e B c o he => (by cases he), fun i v h => absurd rfl h⟩
theorem calls_of_fn {P : Program} {f : FuncId} {vs : List V} {xs : List Value} {w : World} (c : Fn P f vs [] fun v h' => v = .bool true) (hv : VRL (gh0 w) vs xs) :
    Calls P f xs.toArray w fun e w' => e = .returned (.bool true) ∧ Below w.heap.size w w' := fun cs => by
  obtain ⟨v, h', vc, g', w', fr, rfl, st, hf, hl, hvc, H', t, le⟩ := c (gh0 w) w xs hv (hrel0 w) cs
  simp only [VR] at hvc
  subst hvc
  exact ⟨.returned (.bool true), w', fr, ⟨rfl, t.os, t.tape, t.output, t.size, fun k hk => t.mods k hk (by rintro ⟨i, e, c, he, _⟩; cases he)⟩, st, hf, hl⟩
section
variable {H : Type} {enc : TypeId × Value → H} {P : Program} {w : World} {base : Nat} {spare : Nat → Bool} {held : Bool} {fuel : Nat} {t : TypeId} {cs : List Value} {x : DataW H × List MemPlace}
end
section
variable {H : Type} {enc : TypeId × Value → H} {w : World} {base : Nat} {spare : Nat → Bool} {held : Bool} {fuel : Nat} {cs : List Value} {x : DataW H × List MemPlace}
theorem rd_rg (h : DataW.trod enc Try.prog w base spare held fuel 24 cs = some x) : ∃ r : Rg, r.ok ∧ VRL (gh0 w) r.cs cs := by
  obtain ⟨xs, n, _, _, hl, hx, hf⟩ := DataW.trod_struct Try.underlying24 h
  have hl2 : cs.length = 2 := hl.trans (by kernel_rfl)
  have hx2 : xs.length = 2 := hx
  have f0 : DataW.trod enc Try.prog w base spare held n 3 ((cs.drop 0).take (Try.prog.cellsOf 3)) = xs[0]? := hf 0 _ rfl
  have f1 : DataW.trod enc Try.prog w base spare held n 3 ((cs.drop 1).take (Try.prog.cellsOf 3)) = xs[1]? := hf 1 _ rfl
  rw [List.getElem?_eq_getElem (by omega)] at f0 f1
  obtain ⟨a, ha, va⟩ := rd_int Try.underlying3 f0
  obtain ⟨b, hb, vb⟩ := rd_int Try.underlying3 f1
  refine ⟨⟨a, b⟩, ⟨ha, hb⟩, ?_⟩
  have hc : Try.prog.cellsOf 3 = 1 := by kernel_rfl
  simp only [hc, List.drop_zero] at va vb
  rw [List.take_of_length_le (by simp; omega)] at vb
  exact VRL_two va vb
theorem rd_rd (h : DataW.trod enc Try.prog w base spare held fuel 96 cs = some x) : ∃ r : Rd, r.ok ∧ VRL (gh0 w) r.cs cs := by
  obtain ⟨xs, n, _, _, hl, hx, hf⟩ := DataW.trod_struct Try.underlying96 h
  have hl2 : cs.length = 3 := hl.trans (by kernel_rfl)
  have hx2 : xs.length = 2 := hx
  have f0 : DataW.trod enc Try.prog w base spare held n 3 ((cs.drop 0).take (Try.prog.cellsOf 3)) = xs[0]? := hf 0 _ rfl
  have f1 : DataW.trod enc Try.prog w base spare held n 24 ((cs.drop 1).take (Try.prog.cellsOf 24)) = xs[1]? := hf 1 _ rfl
  rw [List.getElem?_eq_getElem (by omega)] at f0 f1
  obtain ⟨a, ha, va⟩ := rd_int Try.underlying3 f0
  obtain ⟨b, hb, vb⟩ := rd_rg f1
  refine ⟨⟨a, b⟩, ⟨ha, hb⟩, ?_⟩
  have hc : Try.prog.cellsOf 3 = 1 := by kernel_rfl
  have hc2 : Try.prog.cellsOf 24 = 2 := by kernel_rfl
  simp only [hc, hc2, List.drop_zero] at va vb
  rw [List.take_of_length_le (by simp; omega)] at vb
  exact VRL_two va vb
theorem cR_flat : ∀ l : List Rg, l.flatMap Rg.cs = cR l
  | [] => rfl
  | r :: l => by rw [List.flatMap_cons, cR_flat l]; rfl
theorem cD_flat : ∀ l : List Rd, l.flatMap Rd.cs = cD l
  | [] => rfl
  | r :: l => by rw [List.flatMap_cons, cD_flat l]; rfl
theorem rd_cu (h : DataW.trod enc Try.prog w base spare held fuel 28 cs = some x) : ∃ c : Cu, c.ok ∧ VRL (gh0 w) c.cs cs := by
  obtain ⟨xs, n, _, _, hl, hx, hf⟩ := DataW.trod_struct Try.underlying28 h
  have hl2 : cs.length = 11 := hl.trans (by kernel_rfl)
  have hx2 : xs.length = 10 := hx
  have f0 : DataW.trod enc Try.prog w base spare held n 3 ((cs.drop 0).take (Try.prog.cellsOf 3)) = xs[0]? := hf 0 _ rfl
  have f1 : DataW.trod enc Try.prog w base spare held n 3 ((cs.drop 1).take (Try.prog.cellsOf 3)) = xs[1]? := hf 1 _ rfl
  have f2 : DataW.trod enc Try.prog w base spare held n 3 ((cs.drop 2).take (Try.prog.cellsOf 3)) = xs[2]? := hf 2 _ rfl
  have f3 : DataW.trod enc Try.prog w base spare held n 3 ((cs.drop 3).take (Try.prog.cellsOf 3)) = xs[3]? := hf 3 _ rfl
  have f4 : DataW.trod enc Try.prog w base spare held n 3 ((cs.drop 4).take (Try.prog.cellsOf 3)) = xs[4]? := hf 4 _ rfl
  have f5 : DataW.trod enc Try.prog w base spare held n 22 ((cs.drop 5).take (Try.prog.cellsOf 22)) = xs[5]? := hf 5 _ rfl
  have f6 : DataW.trod enc Try.prog w base spare held n 22 ((cs.drop 6).take (Try.prog.cellsOf 22)) = xs[6]? := hf 6 _ rfl
  have f7 : DataW.trod enc Try.prog w base spare held n 24 ((cs.drop 7).take (Try.prog.cellsOf 24)) = xs[7]? := hf 7 _ rfl
  have f8 : DataW.trod enc Try.prog w base spare held n 25 ((cs.drop 9).take (Try.prog.cellsOf 25)) = xs[8]? := hf 8 _ rfl
  have f9 : DataW.trod enc Try.prog w base spare held n 26 ((cs.drop 10).take (Try.prog.cellsOf 26)) = xs[9]? := hf 9 _ rfl
  rw [List.getElem?_eq_getElem (by omega)] at f0 f1 f2 f3 f4 f5 f6 f7 f8 f9
  have hc : Try.prog.cellsOf 3 = 1 := by kernel_rfl
  have hc2 : Try.prog.cellsOf 24 = 2 := by kernel_rfl
  have hc3 : Try.prog.cellsOf 22 = 1 := by kernel_rfl
  have hc4 : Try.prog.cellsOf 25 = 1 := by kernel_rfl
  have hc5 : Try.prog.cellsOf 26 = 1 := by kernel_rfl
  have hc6 : Try.prog.cellsOf 96 = 3 := by kernel_rfl
  obtain ⟨a0, h0, v0⟩ := rd_int Try.underlying3 f0
  obtain ⟨a1, h1, v1⟩ := rd_int Try.underlying3 f1
  obtain ⟨a2, h2, v2⟩ := rd_int Try.underlying3 f2
  obtain ⟨a3, h3, v3⟩ := rd_int Try.underlying3 f3
  obtain ⟨a4, h4, v4⟩ := rd_int Try.underlying3 f4
  obtain ⟨a5, h5, _, v5⟩ := rd_ints Try.underlying22 Try.underlying3 hc f5
  obtain ⟨a6, h6, _, v6⟩ := rd_ints Try.underlying22 Try.underlying3 hc f6
  obtain ⟨a7, h7, v7⟩ := rd_rg f7
  obtain ⟨a8, h8, _, v8⟩ := rd_slice Rg.cs Rg.ok 2 Try.underlying25 hc2 (by omega) (fun _ => rfl) f8 fun n cs x h => rd_rg h
  obtain ⟨a9, h9, _, v9⟩ := rd_slice Rd.cs Rd.ok 3 Try.underlying26 hc6 (by omega) (fun _ => rfl) f9 fun n cs x h => rd_rd h
  rw [cR_flat] at v8
  rw [cD_flat] at v9
  refine ⟨⟨a0, a1, a2, a3, a4, a5, a6, a7, a8, a9⟩, ⟨h0, h1, h2, h3, h4, h5, h6, h7, h8, h9⟩, ?_⟩
  match cs, hl2 with
  | [c0, c1, c2, c3, c4, c5, c6, c7, c8, c9, c10], _ =>
    simp only [hc, hc2, hc3, hc4, hc5, List.drop_zero, List.drop_succ_cons, List.take_succ_cons, List.take_zero, List.take_nil] at v0 v1 v2 v3 v4 v5 v6 v7 v8 v9
    exact VRL.append v0 (VRL.append v1 (VRL.append v2 (VRL.append v3 (VRL.append v4 (VRL.append v5 (VRL.append v6 (VRL.append v7 (VRL.append v8 v9))))))))
end
end Go.Vm

set_option linter.unusedVariables false
set_option linter.unusedSimpArgs false
set_option maxRecDepth 100000
namespace Go.Vm
open Go.Proofs
/-! ### the reference: the heat -/
theorem c_rLeft (c : Cu) (t : Tr2) (coal want : List Int) (k : TrOk c t coal want) (i : Nat) (hi : (i : Int) ≤ c.last) : Pu Try.prog (.fn 45 [] []) [.agg c.cs, .agg t.cs, vI coal, vI want, vi i] (vi (sPlay c (tS t) coal want (i + 1)).1) :=
  c_rLeft_of c t coal want k i hi (c_rHeat c t coal want k i hi)
end Go.Vm

set_option linter.unusedVariables false
set_option linter.unusedSimpArgs false
set_option maxRecDepth 100000
namespace Go.Vm
open Go.Proofs
/-! ### the reference: all truths -/
theorem rTr_ok {c : Cu} (k0 : CuOk c) (i : Nat) : ∀ t ∈ rTr c i, T2Ok c t := fun t ht => by
  simp only [rTr, List.mem_filter, List.mem_map] at ht
  obtain ⟨⟨n, _, rfl⟩, _⟩ := ht
  exact nth_ok k0 (by omega)
end Go.Vm

set_option linter.unusedVariables false
set_option linter.unusedSimpArgs false
set_option maxRecDepth 100000
namespace Go.Vm
open Go.Proofs
/-! ### the reference: bounds and verdicts -/
def rEmpty : Rg := ⟨1099511627776, -1⟩
def hotI (c : Cu) (t : Tr2) (i : Nat) : Int := (sHeat c (tS t) c.coal c.want i).tdiv c.per
def leftI (c : Cu) (t : Tr2) (i : Nat) : Int := (sPlay c (tS t) c.coal c.want (i + 1)).1
def rB (ns : List Int) : Rg := ns.foldl sWider rEmpty
end Go.Vm

set_option linter.unusedVariables false
set_option linter.unusedSimpArgs false
namespace Go.Vm
/-! ### what is hot, left and kept, by hour -/
theorem past_left {c : Cu} (coal want : List Int) (s : Sc) {i : Nat} (hi : (i : Int) ≤ c.last) : gi (sPast c coal want s).left i = (sPlay c s coal want (i + 1)).1 := by
  rw [sPast, (sPlay_hot c s coal want _).2.1, gi_map (by omega)]
/-! ### all readings are right -/
/-! ### the same truths -/
theorem sure_same (c : Cu) : rSureE c = sAsked c true := by
  unfold rSureE sAsked
  by_cases h0 : sCheck c = 0
  · have k0 := sCheck_ok h0
    have := same_nil k0
    simp only [h0, ne_eq, not_true_eq_false, if_false, Bool.true_eq_false, this]
  · simp [h0]
/-! ### the bounds are the same -/
/-- The least and the greatest number. -/
theorem bounds_same {xs ys : List Int} (hs : ∀ x, x ∈ xs ↔ x ∈ ys) (hne : xs ≠ []) (hb : ∀ x ∈ xs, 0 ≤ x ∧ x ≤ 100000) : sBounds xs = rB ys := by
  cases xs with
  | nil => exact absurd rfl hne
  | cons n l =>
    have e : sBounds (n :: l) = (n :: l).foldl sWider ⟨n, n⟩ := rfl
    obtain ⟨h1, h2, h3, h4, h5, h6⟩ := fold_wider (n :: l) ⟨n, n⟩
    obtain ⟨g1, g2, g3, g4, g5, g6⟩ := fold_wider ys rEmpty
    rw [e, rB]
    generalize (n :: l).foldl sWider ⟨n, n⟩ = A at h1 h2 h3 h4 h5 h6 ⊢
    generalize ys.foldl sWider rEmpty = B at g1 g2 g3 g4 g5 g6 ⊢
    have hn := hb n (by simp)
    have hny := (hs n).1 (by simp)
    have b1 := g2 n hny
    have b2 := g5 n hny
    have m1 : A.lo ∈ n :: l := by
      rcases h3 with h | h
      · simp only at h; rw [h]; simp
      · exact h
    have m2 : A.hi ∈ n :: l := by
      rcases h6 with h | h
      · simp only at h; rw [h]; simp
      · exact h
    have m3 : B.lo ∈ ys := by
      rcases g3 with h | h
      · simp only [rEmpty] at h; omega
      · exact h
    have m4 : B.hi ∈ ys := by
      rcases g6 with h | h
      · simp only [rEmpty] at h; omega
      · exact h
    have c1 := h2 _ ((hs _).2 m3)
    have c2 := h5 _ ((hs _).2 m4)
    have c3 := g2 _ ((hs _).1 m1)
    have c4 := g5 _ ((hs _).1 m2)
    cases A; cases B
    simp only [Rg.mk.injEq] at *
    omega
theorem sameB {c : Cu} (k0 : CuOk c) (hne : sTruth c ≠ []) (f : Sc → Int) (g : Tr2 → Int) (hfg : ∀ t, f (tS t) = g t) (hb : ∀ s ∈ sTruth c, 0 ≤ f s ∧ f s ≤ 100000) : sBounds ((sTruth c).map f) = rB ((rTruths c).map g) := by
  refine bounds_same (fun x => ?_) (by simpa using hne) ?_
  · simp only [List.mem_map]
    constructor
    · rintro ⟨s, hs, rfl⟩
      obtain ⟨t, ht, rfl⟩ := (same_truths k0 s).1 hs
      exact ⟨t, ht, (hfg t).symm⟩
    · rintro ⟨t, ht, rfl⟩
      exact ⟨tS t, (same_truths k0 _).2 ⟨t, ht, rfl⟩, hfg t⟩
  · intro x hx
    obtain ⟨s, hs, rfl⟩ := List.mem_map.1 hx
    exact hb s hs
theorem hotB_same {c : Cu} (A : AskOk c true) {i : Nat} (hi : (i : Int) ≤ c.last) : sHotB c i = rB ((rTruths c).map fun t => hotI c t i) := by
  have hper := A.k0.per
  refine sameB A.k0 A.ne (fun s => gi (sPast c c.coal c.want s).hot i) _ (fun t => past_hot c.coal c.want (tS t) hi) fun s hs => ?_
  have hh := sHeat_le (A.k0.play0 (A.sc s hs)) hi
  rw [past_hot c.coal c.want s hi]
  have h1 : 0 ≤ (sHeat c s c.coal c.want i).tdiv c.per := Int.tdiv_nonneg hh.1 (by omega)
  have h2 := Int.tdiv_le_self c.per hh.1
  omega
theorem leftB_same {c : Cu} (A : AskOk c true) {i : Nat} (hi : (i : Int) ≤ c.last) : sLeftB c i = rB ((rTruths c).map fun t => leftI c t i) := by
  refine sameB A.k0 A.ne (fun s => gi (sPast c c.coal c.want s).left i) _ (fun t => past_left c.coal c.want (tS t) hi) fun s hs => ?_
  have hh := sPlay_inv (A.k0.play0 (A.sc s hs)) (i + 1) (by omega)
  rw [past_left c.coal c.want s hi]
  omega
end Go.Vm

set_option linter.unusedVariables false
set_option linter.unusedSimpArgs false
set_option maxRecDepth 100000
namespace Go.Vm
open Go.Proofs
theorem nR_len' (n : Int) (f : Int → Rg) : ((nR n f).length : Int) = ((n.toNat : Nat) : Int) := by simp [nR]
theorem gR_nR {n : Int} {f : Int → Rg} {i : Nat} (h : (i : Int) < n) : gR (nR n f) i = f i := by
  simp only [gR, nR, Int.toNat_natCast, List.getD_eq_getElem?_getD, List.getElem?_map]
  rw [List.getElem?_range (by omega)]; rfl
theorem rB_ends {ys : List Int} (hne : ys ≠ []) (hb : ∀ x ∈ ys, 0 ≤ x ∧ x ≤ 100000) : (rB ys).lo ∈ ys ∧ (rB ys).hi ∈ ys := by
  obtain ⟨g1, g2, g3, g4, g5, g6⟩ := fold_wider ys rEmpty
  rw [rB]
  generalize ys.foldl sWider rEmpty = B at g1 g2 g3 g4 g5 g6 ⊢
  obtain ⟨y, hy⟩ := List.exists_mem_of_ne_nil _ hne
  have hn := hb y hy
  have b1 := g2 y hy
  have b2 := g5 y hy
  constructor
  · rcases g3 with h | h
    · simp only [rEmpty] at h; omega
    · exact h
  · rcases g6 with h | h
    · simp only [rEmpty] at h; omega
    · exact h
def b4 (a b c d : Bool) : Int := (if a then 1 else 0) + (if b then 2 else 0) + (if c then 4 else 0) + (if d then 8 else 0)
theorem b4_or : ∀ a b c d : Bool, vbits .or .i64 (b4 a b c d) 1 = b4 true b c d ∧ vbits .or .i64 (b4 a b c d) 2 = b4 a true c d ∧ vbits .or .i64 (b4 a b c d) 4 = b4 a b true d ∧ vbits .or .i64 (b4 a b c d) 8 = b4 a b c true := by decide +kernel
theorem any_snoc (l : List Tr2) (f : Tr2 → Bool) {i : Nat} (h : (i : Int) < l.length) : (l.take (i + 1)).any f = ((l.take i).any f || f (gT l i)) := by
  have e : l.take (i + 1) = l.take i ++ [gT l i] := by rw [List.take_add_one, gT_get h]; rfl
  rw [e, List.any_append]; simp
def E0 (c : Cu) (k : Nat) (R : Rg) (t : Tr2) : Bool := decide (hotI c t k = R.lo)
def E1 (c : Cu) (k : Nat) (R : Rg) (t : Tr2) : Bool := decide (hotI c t k = R.hi)
def E2 (c : Cu) (k : Nat) (R : Rg) (t : Tr2) : Bool := decide (leftI c t k = R.lo)
def E3 (c : Cu) (k : Nat) (R : Rg) (t : Tr2) : Bool := decide (leftI c t k = R.hi)
set_option maxHeartbeats 8000000 in
theorem l_CopperEnds (c : Cu) (hc : I64 c.last) (n : Int) (hn : 0 ≤ n ∧ n ≤ 255) : Vm.Fn Try.prog 6 [.agg c.cs, .int .u8 n] [] fun v h' => v = .bool true := by
  refine Fn.body tabOk Try.func6 rfl (Nat.le_of_ble_eq_true rfl) (Ks.ok (fz := (fzn [14])) (cl := (cln [(14, .d tg0 [cP, cP, cP, cP, cP, cP, cP, cP, cP, cP, cP, cP, cP, cP, cP, cP, cP, cP, cP, cP, cP, cP, cP, cP]), (15, .d tg0 [cP, cP, cP, cP, cP, cP, cP, cP, cP, cP, cP, cP, cP, cP, cP, cP, cP, cP, cP, cP, cP, cP, cP, cP, cP, cP, cP, cP, cP, cW, cW])])) tabOk mixed ?_)
  generalize hQ : FnPost tt Try.f6 _ _ = Q
  simp only [Try.f6, argsEnv, Nat.reduceAdd]
  simp only [gos, eq_self, Nat.reduceLT, Nat.reduceEqDiff, reduceCtorEq, reduceIte, ↓reduceIte, tt, vgo, vout, vguard, callOf, vop, ev, cv, vload, newRow]
  refine Cl.pu (c_ready c hc) ?_ rfl (by simp only [V.into, intoL, cu_into, Bool.and_true])
  cases ht : sReady c with
  | false =>
    simp only [gos, eq_self, Nat.reduceLT, Nat.reduceEqDiff, reduceIte, ↓reduceIte, vgo, vout, vguard, callOf, vop, ev]
    refine Cl.pu c_awake ?_
    simp only [gos, eq_self, Nat.reduceLT, reduceIte, ↓reduceIte, vgo, vout, vguard, callOf, vop, ev]
    subst hQ
    exact FnPost.plain trivial (v := .bool true) (fun h2 e => by rfl) WkV.refl rfl
  | true =>
  obtain ⟨hth, h0⟩ := ready_ok ht
  have wf := thin_wf hc hth
  have k0 := sCheck_ok h0
  have hl := k0.last
  obtain ⟨k, hk, hkl⟩ := hour_of hl hn.1
  have hz : ¬ c.last + 1 = 0 := by omega
  simp only [gos, eq_self, Nat.reduceLT, Nat.reduceEqDiff, reduceCtorEq, reduceIte, ↓reduceIte, tt, vgo, vout, vguard, callOf, vop, ev, cv, vbin, vint, isShift, isNilConst, vload, i64_in (show -9223372036854775808 ≤ n by omega) (show n ≤ 9223372036854775807 by omega), i64_in (show -9223372036854775808 ≤ c.last + 1 by omega) (show c.last + 1 ≤ 9223372036854775807 by omega), hz]
  rw [← hk]
  refine Cl.pu (c_lCopper c wf) ?_ rfl (by simp only [V.into, intoL, cu_into, Bool.and_true])
  simp only [gos, eq_self, Nat.reduceLT, reduceIte, ↓reduceIte, vgo, vout, vguard, callOf, ev]
  refine Cl.pu (c_Bounds c wf) ?_ rfl (by simp only [V.into, intoL, cu_into, Bool.and_true])
  simp only [gos, eq_self, Nat.reduceLT, Nat.reduceEqDiff, reduceCtorEq, reduceIte, ↓reduceIte, tt, vgo, vout, vguard, callOf, vop, ev, vload]
  refine Cl.pu (c_rTruths c k0) ?_ rfl (by simp only [V.into, intoL, cu_into, Bool.and_true])
  by_cases hT : rTruths c = []
  · have hs : sAsked c true = 11 := by rw [← sure_same, rSureE, if_neg (by simp [h0]), if_pos hT]
    have hr : sBoundsA c = ([], [], 11) := by rw [sBoundsA, hs]; rfl
    have z0 : decide (((0 : Nat) : Int) = 0) = true := rfl
    have z11 : decide ((11 : Int) = 11) = true := rfl
    have zl : ((rTruths c).length) = 0 := by rw [hT]; rfl
    rw [hr]
    simp only [gos, eq_self, Nat.reduceLT, Nat.reduceEqDiff, reduceIte, ↓reduceIte, tt, vgo, vout, vguard, callOf, vop, ev, cv, vbin, vint, isShift, isNilConst, vlen, vT, zl, z0]
    refine Cl.pu c_awake ?_
    simp only [gos, eq_self, Nat.reduceLT, Nat.reduceEqDiff, reduceIte, ↓reduceIte, vgo, vout, vguard, callOf, vop, ev]
    subst hQ
    exact FnPost.plain trivial (v := .bool true) (fun h2 e => by rfl) WkV.refl rfl
  have hs : sAsked c true = 0 := by rw [← sure_same, rSureE, if_neg (by simp [h0]), if_neg hT]
  have A := askOk_of hs
  have hr : sBoundsA c = (nR (c.last + 1) (sHotB c), nR (c.last + 1) (sLeftB c), 0) := by simp [sBoundsA, hs]
  have hlen1 : ((nR (c.last + 1) (sHotB c)).length : Int) = c.last + 1 := by rw [nR_len']; omega
  have hlen2 : ((nR (c.last + 1) (sLeftB c)).length : Int) = c.last + 1 := by rw [nR_len']; omega
  have hTt := rTr_ok k0 (rMany c).toNat
  have hTl := rTr_len c (rMany c).toNat
  have hM := rMany_le k0
  have hTl2 : ((rTruths c).length : Int) ≤ 1000000 := by simp only [rTruths]; omega
  have gH : gR (nR (c.last + 1) (sHotB c)) k = rB ((rTruths c).map fun t => hotI c t k) := by rw [gR_nR (by omega)]; exact hotB_same A hkl
  have gK : gR (nR (c.last + 1) (sLeftB c)) k = rB ((rTruths c).map fun t => leftI c t k) := by rw [gR_nR (by omega)]; exact leftB_same A hkl
  have bH := rB_ends (ys := (rTruths c).map fun t => hotI c t k) (by simpa using hT) (fun x hx => by
    obtain ⟨t, ht, rfl⟩ := List.mem_map.1 hx
    have hh := sHeat_le ((hTt t ht).tr k0).play hkl
    have h1 := Int.tdiv_nonneg hh.1 (b := c.per) (by have := k0.per; omega)
    have h2 := Int.tdiv_le_self c.per hh.1
    simp only [hotI]; omega)
  have bK := rB_ends (ys := (rTruths c).map fun t => leftI c t k) (by simpa using hT) (fun x hx => by
    obtain ⟨t, ht, rfl⟩ := List.mem_map.1 hx
    have hh := sPlay_inv ((hTt t ht).tr k0).play (k + 1) (by omega)
    simp only [leftI]; omega)
  rw [← gH] at bH
  rw [← gK] at bK
  rw [hr]
  have hTn : decide (((rTruths c).length : Int) = 0) = false := by simp [hT]
  generalize nR (c.last + 1) (sHotB c) = H at hlen1 bH ⊢
  generalize nR (c.last + 1) (sLeftB c) = K at hlen2 bK ⊢
  have d1 : ((H.length : Int) != c.last + 1) = false := by rw [bne_eq_false_iff_eq]; exact hlen1
  have d2 : ((K.length : Int) != c.last + 1) = false := by rw [bne_eq_false_iff_eq]; exact hlen2
  have z1 : ((0 : Int) != 0) = false := rfl
  simp only [gos, eq_self, Nat.reduceLT, Nat.reduceEqDiff, reduceCtorEq, reduceIte, ↓reduceIte, tt, vgo, vout, vguard, callOf, vop, ev, cv, vbin, vint, isShift, isNilConst, vload, vlen, vT, vR, hTn, d1, d2, i64_in (show -9223372036854775808 ≤ c.last + 1 by omega) (show c.last + 1 ≤ 9223372036854775807 by omega)]
  let M : Nat → Int := fun i => b4 (((rTruths c).take i).any (E0 c k (gR H k))) (((rTruths c).take i).any (E1 c k (gR H k))) (((rTruths c).take i).any (E2 c k (gR K k))) (((rTruths c).take i).any (E3 c k (gR K k)))
  refine W.loop tabOk mixed (fun i : Nat => ([(2, .rop c.cs), (5, vi k), (6, vR H), (7, vR K), (9, vT (rTruths c)), (10, vi (M i)), (11, vi i)], [])) (fun i => (rTruths c).length - i) (fun i => i ≤ (rTruths c).length) 0 (by omega) (Wk.env (by simp [subE, Env.get, vT, vR, M, b4])) ?_
  intro i hi
  by_cases hil : (i : Int) < (rTruths c).length
  · have hti := (hTt _ (List.mem_of_getElem? (gT_get hil))).tr k0
    have hkH : (k : Int) < H.length := by omega
    have hkK : (k : Int) < K.length := by omega
    simp only [gos, eq_self, Nat.reduceLT, Nat.reduceEqDiff, reduceIte, ↓reduceIte, tt, vgo, vout, vguard, callOf, vop, ev, vbin, vint, isShift, isNilConst, vlen, vT, hil]
    refine Wr.draw (by kernel_rfl) ?_
    simp only [gos, eq_self, Nat.reduceLT, Nat.reduceEqDiff, Nat.reduceAdd, reduceCtorEq, reduceIte, ↓reduceIte, tt, vgoD, voutD, vclsOk, vids, mayWrite, V.ids, vguard, callOf, vop, ev, vload, clsAt, hil, cT_at (Int.natCast_nonneg i) hil]
    refine CD.pu (c_rHot c (gT (rTruths c) i) c.coal c.want hti k hkl) ?_ rfl (by simp only [V.into, intoL, vI_into, cu_into, Bool.and_true])
    simp only [gos, eq_self, Nat.reduceLT, Nat.reduceEqDiff, reduceCtorEq, reduceIte, ↓reduceIte, tt, vgoD, voutD, vclsOk, vids, mayWrite, V.ids, vguard, callOf, vop, ev, vload, hil, cT_at (Int.natCast_nonneg i) hil]
    refine CD.pu (c_rLeft c (gT (rTruths c) i) c.coal c.want hti k hkl) ?_ rfl (by simp only [V.into, intoL, vI_into, cu_into, Bool.and_true])
    simp only [gos, eq_self, Nat.reduceLT, Nat.reduceEqDiff, reduceIte, ↓reduceIte, vgoD, voutD, vclsOk, vids, mayWrite, vguard, callOf, vop, ev]
    refine Wr.draw (by kernel_rfl) ?_
    simp only [gos, eq_self, Nat.reduceLT, Nat.reduceEqDiff, Nat.reduceAdd, Nat.reduceMul, Nat.reduceLeDiff, reduceCtorEq, reduceIte, ↓reduceIte, tt, vgo, vout, vgoD, voutD, vclsOk, vids, mayWrite, V.ids, vguard, callOf, vop, ev, cv, vbin, vint, isShift, isNilConst, vload, newRow, vfill, clsAt, vR, hkH, hkK, cR_at (Int.natCast_nonneg k) hkH, cR_at (Int.natCast_nonneg k) hkK]
    have hM1 : M (i + 1) = b4 (((rTruths c).take i).any (E0 c k (gR H k)) || E0 c k (gR H k) (gT (rTruths c) i)) (((rTruths c).take i).any (E1 c k (gR H k)) || E1 c k (gR H k) (gT (rTruths c) i)) (((rTruths c).take i).any (E2 c k (gR K k)) || E2 c k (gR K k) (gT (rTruths c) i)) (((rTruths c).take i).any (E3 c k (gR K k)) || E3 c k (gR K k) (gT (rTruths c) i)) := by
      simp only [M, any_snoc _ _ hil]
    have hM0 : M i = b4 (((rTruths c).take i).any (E0 c k (gR H k))) (((rTruths c).take i).any (E1 c k (gR H k))) (((rTruths c).take i).any (E2 c k (gR K k))) (((rTruths c).take i).any (E3 c k (gR K k))) := rfl
    rw [show decide ((sHeat c (tS (gT (rTruths c) i)) c.coal c.want k).tdiv c.per = (gR H k).lo) = E0 c k (gR H k) (gT (rTruths c) i) from rfl, show decide ((sHeat c (tS (gT (rTruths c) i)) c.coal c.want k).tdiv c.per = (gR H k).hi) = E1 c k (gR H k) (gT (rTruths c) i) from rfl,
      show decide ((sPlay c (tS (gT (rTruths c) i)) c.coal c.want (k + 1)).1 = (gR K k).lo) = E2 c k (gR K k) (gT (rTruths c) i) from rfl, show decide ((sPlay c (tS (gT (rTruths c) i)) c.coal c.want (k + 1)).1 = (gR K k).hi) = E3 c k (gR K k) (gT (rTruths c) i) from rfl]
    generalize E0 c k (gR H k) (gT (rTruths c) i) = e0 at hM1 ⊢
    generalize E1 c k (gR H k) (gT (rTruths c) i) = e1 at hM1 ⊢
    generalize E2 c k (gR K k) (gT (rTruths c) i) = e2 at hM1 ⊢
    generalize E3 c k (gR K k) (gT (rTruths c) i) = e3 at hM1 ⊢
    generalize ((rTruths c).take i).any (E0 c k (gR H k)) = a0 at hM1 hM0
    generalize ((rTruths c).take i).any (E1 c k (gR H k)) = a1 at hM1 hM0
    generalize ((rTruths c).take i).any (E2 c k (gR K k)) = a2 at hM1 hM0
    generalize ((rTruths c).take i).any (E3 c k (gR K k)) = a3 at hM1 hM0
    let m : Nat → Int := fun j => b4 (a0 || (e0 && decide (0 < j))) (a1 || (e1 && decide (1 < j))) (a2 || (e2 && decide (2 < j))) (a3 || (e3 && decide (3 < j)))
    have hm0 : m 0 = M i := by simp only [m, hM0]; simp
    have hm4 : m 4 = M (i + 1) := by simp only [m, hM1]; simp
    refine W.loop tabOk mixed (fun j : Nat => ([(2, .rop c.cs), (5, vi k), (6, vR H), (7, vR K), (9, vT (rTruths c)), (10, vi (m j)), (11, vi i), (14, .ptr 14 0 0), (15, vi j)], [(14, ⟨0, .row [.bool e0, .bool e1, .bool e2, .bool e3]⟩)])) (fun j => 4 - j) (fun j => j ≤ 4) 0 (by omega) (Wk.env (by simp [subE, Env.get, vT, vR, hm0])) ?_
    intro j hj
    have hu := u64_in (n := (j : Int)) (by omega) (by omega)
    have hneg : ¬ (j : Int) < 0 := by omega
    have hsucc := i64_succ (show (j : Int) < 9223372036854775807 by omega)
    rcases (show j = 0 ∨ j = 1 ∨ j = 2 ∨ j = 3 ∨ j = 4 by omega) with rfl | rfl | rfl | rfl | rfl
    · have q1 : decide (((0 : Nat) : Int) < 4) = true := by decide
      have q2 : (((0 : Nat) : Int) < ((4 : Nat) : Int)) = True := by decide
      have q3 : (0 ≤ ((0 : Nat) : Int)) = True := by decide
      have q4 : Int.toNat ((0 : Nat) : Int) = 0 := rfl
      have q5 := shl1 (i := 0) (by omega)
      rw [q4] at q5
      cases e0 with
      | true =>
        have q6 : vbits .or .i64 (m 0) (2 ^ 0) = m (0 + 1) := by
          simp only [m]
          have := (b4_or a0 a1 a2 a3).1
          simpa using this
        simp only [gos, eq_self, Nat.reduceLT, Nat.reduceEqDiff, Nat.reduceAdd, Nat.reduceMul, reduceCtorEq, reduceIte, ↓reduceIte, tt, vgo, vout, vguard, callOf, vop, ev, cv, vbin, vint, isShift, isNilConst, vload, q1, q2, q3, q4, hu, hneg, q5, q6, hsucc]
        exact Nx.mk (0 + 1) (show 4 - (0 + 1) < 4 - 0 by omega) (by omega) (Wk.env (by simp [subE, Env.get, vT, vR]))
      | false =>
        have q6 : m (0 + 1) = m 0 := by simp [m]
        simp only [gos, eq_self, Nat.reduceLT, Nat.reduceEqDiff, Nat.reduceAdd, Nat.reduceMul, reduceCtorEq, reduceIte, ↓reduceIte, tt, vgo, vout, vguard, callOf, vop, ev, cv, vbin, vint, isShift, isNilConst, vload, q1, q2, q3, q4, hsucc]
        exact Nx.mk (0 + 1) (show 4 - (0 + 1) < 4 - 0 by omega) (by omega) (Wk.env (by simp [subE, Env.get, vT, vR, q6]))
    · have q1 : decide (((1 : Nat) : Int) < 4) = true := by decide
      have q2 : (((1 : Nat) : Int) < ((4 : Nat) : Int)) = True := by decide
      have q3 : (0 ≤ ((1 : Nat) : Int)) = True := by decide
      have q4 : Int.toNat ((1 : Nat) : Int) = 1 := rfl
      have q5 := shl1 (i := 1) (by omega)
      rw [q4] at q5
      cases e1 with
      | true =>
        have q6 : vbits .or .i64 (m 1) (2 ^ 1) = m (1 + 1) := by
          simp only [m]
          have := (b4_or (a0 || e0) a1 a2 a3).2.1
          simpa using this
        simp only [gos, eq_self, Nat.reduceLT, Nat.reduceEqDiff, Nat.reduceAdd, Nat.reduceMul, reduceCtorEq, reduceIte, ↓reduceIte, tt, vgo, vout, vguard, callOf, vop, ev, cv, vbin, vint, isShift, isNilConst, vload, q1, q2, q3, q4, hu, hneg, q5, q6, hsucc]
        exact Nx.mk (1 + 1) (show 4 - (1 + 1) < 4 - 1 by omega) (by omega) (Wk.env (by simp [subE, Env.get, vT, vR]))
      | false =>
        have q6 : m (1 + 1) = m 1 := by simp [m]
        simp only [gos, eq_self, Nat.reduceLT, Nat.reduceEqDiff, Nat.reduceAdd, Nat.reduceMul, reduceCtorEq, reduceIte, ↓reduceIte, tt, vgo, vout, vguard, callOf, vop, ev, cv, vbin, vint, isShift, isNilConst, vload, q1, q2, q3, q4, hsucc]
        exact Nx.mk (1 + 1) (show 4 - (1 + 1) < 4 - 1 by omega) (by omega) (Wk.env (by simp [subE, Env.get, vT, vR, q6]))
    · have q1 : decide (((2 : Nat) : Int) < 4) = true := by decide
      have q2 : (((2 : Nat) : Int) < ((4 : Nat) : Int)) = True := by decide
      have q3 : (0 ≤ ((2 : Nat) : Int)) = True := by decide
      have q4 : Int.toNat ((2 : Nat) : Int) = 2 := rfl
      have q5 := shl1 (i := 2) (by omega)
      rw [q4] at q5
      cases e2 with
      | true =>
        have q6 : vbits .or .i64 (m 2) (2 ^ 2) = m (2 + 1) := by
          simp only [m]
          have := (b4_or (a0 || e0) (a1 || e1) a2 a3).2.2.1
          simpa using this
        simp only [gos, eq_self, Nat.reduceLT, Nat.reduceEqDiff, Nat.reduceAdd, Nat.reduceMul, reduceCtorEq, reduceIte, ↓reduceIte, tt, vgo, vout, vguard, callOf, vop, ev, cv, vbin, vint, isShift, isNilConst, vload, q1, q2, q3, q4, hu, hneg, q5, q6, hsucc]
        exact Nx.mk (2 + 1) (show 4 - (2 + 1) < 4 - 2 by omega) (by omega) (Wk.env (by simp [subE, Env.get, vT, vR]))
      | false =>
        have q6 : m (2 + 1) = m 2 := by simp [m]
        simp only [gos, eq_self, Nat.reduceLT, Nat.reduceEqDiff, Nat.reduceAdd, Nat.reduceMul, reduceCtorEq, reduceIte, ↓reduceIte, tt, vgo, vout, vguard, callOf, vop, ev, cv, vbin, vint, isShift, isNilConst, vload, q1, q2, q3, q4, hsucc]
        exact Nx.mk (2 + 1) (show 4 - (2 + 1) < 4 - 2 by omega) (by omega) (Wk.env (by simp [subE, Env.get, vT, vR, q6]))
    · have q1 : decide (((3 : Nat) : Int) < 4) = true := by decide
      have q2 : (((3 : Nat) : Int) < ((4 : Nat) : Int)) = True := by decide
      have q3 : (0 ≤ ((3 : Nat) : Int)) = True := by decide
      have q4 : Int.toNat ((3 : Nat) : Int) = 3 := rfl
      have q5 := shl1 (i := 3) (by omega)
      rw [q4] at q5
      cases e3 with
      | true =>
        have q6 : vbits .or .i64 (m 3) (2 ^ 3) = m (3 + 1) := by
          simp only [m]
          have := (b4_or (a0 || e0) (a1 || e1) (a2 || e2) a3).2.2.2
          simpa using this
        simp only [gos, eq_self, Nat.reduceLT, Nat.reduceEqDiff, Nat.reduceAdd, Nat.reduceMul, reduceCtorEq, reduceIte, ↓reduceIte, tt, vgo, vout, vguard, callOf, vop, ev, cv, vbin, vint, isShift, isNilConst, vload, q1, q2, q3, q4, hu, hneg, q5, q6, hsucc]
        exact Nx.mk (3 + 1) (show 4 - (3 + 1) < 4 - 3 by omega) (by omega) (Wk.env (by simp [subE, Env.get, vT, vR]))
      | false =>
        have q6 : m (3 + 1) = m 3 := by simp [m]
        simp only [gos, eq_self, Nat.reduceLT, Nat.reduceEqDiff, Nat.reduceAdd, Nat.reduceMul, reduceCtorEq, reduceIte, ↓reduceIte, tt, vgo, vout, vguard, callOf, vop, ev, cv, vbin, vint, isShift, isNilConst, vload, q1, q2, q3, q4, hsucc]
        exact Nx.mk (3 + 1) (show 4 - (3 + 1) < 4 - 3 by omega) (by omega) (Wk.env (by simp [subE, Env.get, vT, vR, q6]))
    · have q1 : decide (((4 : Nat) : Int) < 4) = false := by decide
      simp only [gos, eq_self, Nat.reduceLT, Nat.reduceEqDiff, reduceIte, ↓reduceIte, vgo, vout, vguard, callOf, vop, ev, cv, vbin, vint, isShift, isNilConst, q1]
      refine Nx.mk (i + 1) (show (rTruths c).length - (i + 1) < (rTruths c).length - i by omega) (by omega) (Wk.forget ?_ (by simp [subH]) (fun j hp => by simp [orD, domP, Heap.get] at hp) ?_ rfl)
      · simp [subE, Env.get, vT, vR, hm4, i64_succ (show (i : Int) < 9223372036854775807 by omega)]
      · simp only [intoE, V.into, cR_into, cu_into, Bool.and_true, cT_into]
  · have e : (rTruths c).take i = rTruths c := List.take_of_length_le (by omega)
    have hany : ∀ (f : Tr2 → Bool) (v : Int) (g : Tr2 → Int), (∀ t, f t = decide (g t = v)) → v ∈ (rTruths c).map g → (rTruths c).any f = true := fun f v g hf hv => by
      obtain ⟨t, h1, h2⟩ := List.mem_map.1 hv
      rw [List.any_eq_true]
      exact ⟨t, h1, by rw [hf]; simpa using h2⟩
    have hM15 : M i = 15 := by
      simp only [M, e]
      rw [hany (E0 c k (gR H k)) _ _ (fun t => rfl) bH.1, hany (E1 c k (gR H k)) _ _ (fun t => rfl) bH.2, hany (E2 c k (gR K k)) _ _ (fun t => rfl) bK.1, hany (E3 c k (gR K k)) _ _ (fun t => rfl) bK.2]
      rfl
    have z15 : decide (M i = 15) = true := by simp [hM15]
    simp only [gos, eq_self, Nat.reduceLT, Nat.reduceEqDiff, reduceIte, ↓reduceIte, tt, vgo, vout, vguard, callOf, vop, ev, cv, vbin, vint, isShift, isNilConst, vlen, vT, hil, z15]
    refine Cl.pu c_awake ?_
    simp only [gos, eq_self, Nat.reduceLT, Nat.reduceEqDiff, reduceIte, ↓reduceIte, vgo, vout, vguard, callOf, vop, ev]
    subst hQ
    exact FnPost.plain trivial (v := .bool true) (fun h2 e => by rfl) WkV.refl rfl
end Go.Vm
