import Derived.Test.YtjppikcigeiomaaGreatB4
import Derived.Test.YtjppikcigeiomaaGreatRows
import Derived.WalkKit
import Derived.ProofKit
import Derived.OpenShut
import Derived.ShutString
import Derived.ChangeOld
import Derived.Below
set_option linter.unusedVariables false
set_option linter.unusedSimpArgs false
set_option maxRecDepth 100000
namespace Go.Vm
open Go.Proofs Go.ChangeShapes Go.WideShapes Go.ChangeAt Go.RowKit
/-! ### from a contract to the row -/
theorem hrel0 (w : World) : HRel (gh0 w) [] w :=
  ⟨fun B o v e => e, fun i e he => (by cases he), fun i j e e' B c c' he => (by cases he), fun i e B c o he => (by cases he), fun i v h => absurd rfl h⟩
theorem calls_of_fn {P : Program} {f : FuncId} {vs : List V} {xs : List Value} {w : World} (c : Fn P f vs [] fun v h' => v = .bool true) (hv : VRL (gh0 w) vs xs) :
    Calls P f xs.toArray w fun e w' => e = .returned (.bool true) ∧ Below w.heap.size w w' := fun cs => by
  obtain ⟨v, h', vc, g', w', fr, rfl, st, hf, hl, hvc, H', t, le⟩ := c (gh0 w) w xs hv (hrel0 w) cs
  simp only [VR] at hvc
  subst hvc
  exact ⟨.returned (.bool true), w', fr, ⟨rfl, t.os, t.tape, t.output, t.size, fun k hk => t.mods k hk (by rintro ⟨i, e, c, he, _⟩; cases he)⟩, st, hf, hl⟩
section
variable {H : Type} {enc : TypeId × Value → H} {P : Program} {w : World} {base : Nat} {spare : Nat → Bool} {held : Bool} {fuel : Nat} {t : TypeId} {cs : List Value} {x : DataW H × List MemPlace}
end
section
variable {H : Type} {enc : TypeId × Value → H} {w : World} {base : Nat} {spare : Nat → Bool} {held : Bool} {fuel : Nat} {cs : List Value} {x : DataW H × List MemPlace}
end
end Go.Vm

set_option linter.unusedVariables false
set_option linter.unusedSimpArgs false
set_option maxRecDepth 100000
namespace Go.Vm
open Go.Proofs Go.ChangeShapes Go.WideShapes Go.ChangeAt Go.RowKit
section
variable {H : Type} {enc : TypeId × Value → H} {w : World} {base : Nat} {spare : Nat → Bool} {held : Bool} {fuel : Nat} {cs : List Value} {x : DataW H × List MemPlace}
theorem rd_u16 (h : DataW.trod enc Tryz.prog w base spare held fuel 77 cs = some x) : ∃ n : Int, (0 ≤ n ∧ n ≤ 65535) ∧ VRL (gh0 w) [.int .u16 n] cs := by
  obtain ⟨n, rfl, _, h2⟩ := DataW.trod_int Tryz.underlying77 h
  exact ⟨n, bounds_u16 h2, VRL.cons (by simp only [VR]) VRL.nil⟩
end
end Go.Vm

set_option linter.unusedVariables false
set_option linter.unusedSimpArgs false
set_option maxRecDepth 100000
namespace Go.Vm
/-! ### plain laws of one truth -/
theorem mul_le_of_tdiv {w a p : Int} (h0 : 0 ≤ a) (hp : 1 ≤ p) (h : w ≤ a.tdiv p) : w * p ≤ a := by
  rw [Int.tdiv_eq_ediv_of_nonneg h0] at h
  exact Int.mul_le_of_le_ediv (by omega) h
theorem warm_heat {c : Cu} {s s' : Sc} {coal coal' want : List Int} {n : Nat} (w : Warm s s' coal coal' n) {i : Nat} (hi : i < n) (h : (sPlay c s coal want i).1 ≤ (sPlay c s' coal' want i).1) : sHeat c s coal want i ≤ sHeat c s' coal' want i := by
  have h1 := w.loss i hi
  have h2 := w.coal i hi
  have h3 : gi coal i * s.heat ≤ gi coal' i * s'.heat := Int.mul_le_mul h2.2 w.heat.2 w.heat.1 (by omega)
  simp only [sHeat]
  omega
theorem warm_play {c : Cu} {s s' : Sc} {coal coal' want : List Int} {n : Nat} (hp : 1 ≤ c.per) (w : Warm s s' coal coal' n) : ∀ i, i ≤ n → (sPlay c s coal want i).1 ≤ (sPlay c s' coal' want i).1
  | 0, _ => Int.le_refl _
  | i + 1, hi => by
    have ih := warm_heat w (show i < n by omega) (warm_play (want := want) hp w i (by omega))
    have h0 : 0 ≤ sHeat c s coal want i := by simp only [sHeat]; omega
    have h1 : 0 ≤ sHeat c s' coal' want i := by simp only [sHeat]; omega
    have hm := tdiv_mono h0 ih hp
    rw [sPlay_heat, sPlay_heat]
    by_cases hk : gi want i ≤ (sHeat c s coal want i).tdiv c.per
    · rw [if_pos hk, if_pos (by omega)]; omega
    · rw [if_neg hk]
      split
      · rename_i hk2
        have := mul_le_of_tdiv h1 hp hk2
        omega
      · omega
end Go.Vm

set_option linter.unusedVariables false
set_option linter.unusedSimpArgs false
set_option maxRecDepth 100000
namespace Go.Vm
open Go.Proofs
/-! ### coal by a number -/
theorem lowD_len (s n : Int) : ∀ j, (lowD s n j).length = j
  | 0 => rfl
  | j + 1 => by rw [lowD, List.length_cons, lowD_len s n j]
theorem dvN_ge {s n : Int} (hn : 0 ≤ n) (hs : 1 ≤ s) : ∀ j, 0 ≤ dvN s n j ∧ dvN s n j ≤ n
  | 0 => ⟨hn, Int.le_refl _⟩
  | j + 1 => by
    have := dvN_ge hn hs j
    have h1 := Int.tdiv_nonneg this.1 (show 0 ≤ s by omega)
    have h2 := Int.tdiv_le_self s this.1
    simp only [dvN]; omega
theorem lowD_ok {s n : Int} (hn : 0 ≤ n) (hs : 1 ≤ s) : ∀ j, ∀ x ∈ lowD s n j, 0 ≤ x ∧ x ≤ s - 1
  | 0, x, h => by simp [lowD] at h
  | j + 1, x, h => by
    rw [lowD, List.mem_cons] at h
    rcases h with rfl | h
    · exact tmod_le (dvN_ge hn hs j).1 hs
    · exact lowD_ok hn hs j x h
/-! ### words -/
end Go.Vm

set_option linter.unusedVariables false
set_option linter.unusedSimpArgs false
set_option maxRecDepth 100000
namespace Go.Vm
open Go.Proofs
/-! ### sets of readings, by bits -/
/-! ### before, shorter -/
theorem drop_gi {l : List Int} {i : Nat} (h : (i : Int) < l.length) : l.drop i = gi l i :: l.drop (i + 1) := by
  rw [List.drop_eq_getElem_cons (by omega), gi, Int.toNat_natCast, List.getD_eq_getElem?_getD, List.getElem?_eq_getElem (by omega)]; rfl
set_option maxHeartbeats 1000000 in
theorem c_rBefore (a b : List Int) (ha : (a.length : Int) ≤ 1000000) : Pu Tryz.prog (.fn 60 [] []) [vI a, vI b] (.bool (lBefore a b)) := by
  refine Ev.fn Tryz.func60 rfl rfl (Fn.body tabOk Tryz.func60 rfl (Nat.le_of_ble_eq_true rfl) (Ks.ok (fz := (fzn [])) (cl := (cln [(4, .d tg0 [cP, cP, cP, cP, cP, cP, cP, cP, cP]), (5, .d tg0 [cP, cP, cP, cP, cP, cP, cP, cP, cP, cP])])) tabOk mixed ?_))
  generalize hQ : FnPost tt Tryz.f60 _ _ = Q
  simp only [Tryz.f60, List.nil_append, List.append_nil, argsEnv, Nat.reduceAdd]
  simp only [gos, eq_self, Nat.reduceLT, Nat.reduceEqDiff, reduceCtorEq, reduceIte, ↓reduceIte, vgo, vout, vguard, callOf, vop, ev, cv]
  refine W.loop tabOk mixed (fun i : Nat => ([(0, vI a), (1, vI b), (5, vi i)], [])) (fun i => a.length - i) (fun i => i ≤ a.length ∧ i ≤ b.length ∧ lBefore a b = lBefore (a.drop i) (b.drop i)) 0 ⟨by omega, by omega, rfl⟩ (Wk.env (by simp [subE, Env.get])) ?_
  rintro i ⟨hi1, hi2, he⟩
  by_cases h1 : (i : Int) < a.length
  · by_cases h2 : (i : Int) < b.length
    · rw [drop_gi h1, drop_gi h2, lBefore] at he
      simp only [gos, eq_self, Nat.reduceLT, Nat.reduceEqDiff, reduceCtorEq, reduceIte, ↓reduceIte, tt, vgo, vout, vguard, callOf, vop, ev, vbin, vint, isShift, isNilConst, vlen, vI, h1, h2]
      refine Wr.draw (by kernel_rfl) ?_
      simp only [gos, eq_self, Nat.reduceLT, Nat.reduceEqDiff, Nat.reduceAdd, reduceCtorEq, reduceIte, ↓reduceIte, tt, vgoD, voutD, vclsOk, vids, mayWrite, V.ids, vguard, callOf, vop, ev, vbin, vint, isShift, isNilConst, vload, clsAt, h1, h2, cI_at (Int.natCast_nonneg i) h1, cI_at (Int.natCast_nonneg i) h2]
      by_cases hx : gi a i = gi b i
      · rw [if_pos hx] at he
        have hb : (gi a i != gi b i) = false := by simp [hx]
        simp only [gos, eq_self, Nat.reduceLT, Nat.reduceEqDiff, reduceCtorEq, reduceIte, ↓reduceIte, vgo, vout, vguard, callOf, vop, ev, cv, vbin, vint, isShift, isNilConst, hb]
        exact Nx.mk (i + 1) (show a.length - (i + 1) < a.length - i by omega) ⟨by omega, by omega, he⟩ (Wk.env (by simp [subE, Env.get, i64_succ (show (i : Int) < 9223372036854775807 by omega)]))
      · rw [if_neg hx] at he
        have hb : (gi a i != gi b i) = true := by simp [hx]
        simp only [gos, eq_self, Nat.reduceEqDiff, reduceIte, ↓reduceIte, hb]
        refine Wr.draw (by kernel_rfl) ?_
        simp only [gos, eq_self, Nat.reduceLT, Nat.reduceEqDiff, Nat.reduceAdd, reduceCtorEq, reduceIte, ↓reduceIte, tt, vgoD, voutD, vclsOk, vids, mayWrite, V.ids, vguard, callOf, vop, ev, vbin, vint, isShift, isNilConst, vload, clsAt, h1, h2, cI_at (Int.natCast_nonneg i) h1, cI_at (Int.natCast_nonneg i) h2]
        subst hQ
        exact FnPost.plain trivial (fun h2 e => by first | rfl | (simp only [Tryz.f60, vres, vresL, vres1, e _, gos, if_true, if_false, ne_eq, eq_self, Nat.reduceLT, Nat.reduceEqDiff, Nat.reduceAdd, Nat.reduceMul, Nat.reduceLeDiff, Nat.reduceBEq, reduceCtorEq, reduceIte, Array.toList, ↓reduceIte, tt, vgo, vout, vgoD, voutD, vclsOk, vids, mayWrite, V.ids, V.mids, vguard, callOf, vop, ev, cv, vbin, vint, isShift, isNilConst, vnil, isNilSlice, vload, vlen, newRow, vfill, vslice, entOf, vappend, srcOf, vcopy, vlookup, vupdate, mapOk, keyOf, intsOf, clsAt]; try rfl)) (WkV.pure (by simp only [V.into])) ⟨by rw [he], rfl⟩
    · have e2 : b.drop i = [] := List.drop_eq_nil_of_le (by omega)
      rw [e2, drop_gi h1, lBefore] at he
      have hb : decide ((a.length : Int) < b.length) = false := by simp; omega
      simp only [gos, eq_self, Nat.reduceLT, Nat.reduceEqDiff, reduceCtorEq, reduceIte, ↓reduceIte, tt, vgo, vout, vguard, callOf, vop, ev, vbin, vint, isShift, isNilConst, vlen, vI, h1, h2, hb]
      subst hQ
      exact FnPost.plain trivial (fun h2 e => by first | rfl | (simp only [Tryz.f60, vres, vresL, vres1, e _, gos, if_true, if_false, ne_eq, eq_self, Nat.reduceLT, Nat.reduceEqDiff, Nat.reduceAdd, Nat.reduceMul, Nat.reduceLeDiff, Nat.reduceBEq, reduceCtorEq, reduceIte, Array.toList, ↓reduceIte, tt, vgo, vout, vgoD, voutD, vclsOk, vids, mayWrite, V.ids, V.mids, vguard, callOf, vop, ev, cv, vbin, vint, isShift, isNilConst, vnil, isNilSlice, vload, vlen, newRow, vfill, vslice, entOf, vappend, srcOf, vcopy, vlookup, vupdate, mapOk, keyOf, intsOf, clsAt]; try rfl)) (WkV.pure (by simp only [V.into])) ⟨by rw [he], rfl⟩
  · have e1 : a.drop i = [] := List.drop_eq_nil_of_le (by omega)
    rw [e1, lBefore] at he
    have hb : decide ((a.length : Int) < b.length) = lBefore a b := by rw [he, List.length_drop]; congr 1; apply propext; omega
    simp only [gos, eq_self, Nat.reduceLT, Nat.reduceEqDiff, reduceCtorEq, reduceIte, ↓reduceIte, tt, vgo, vout, vguard, callOf, vop, ev, cv, vbin, vint, isShift, isNilConst, vlen, vI, h1, hb]
    subst hQ
    exact FnPost.plain trivial (fun h2 e => by first | rfl | (simp only [Tryz.f60, vres, vresL, vres1, e _, gos, if_true, if_false, ne_eq, eq_self, Nat.reduceLT, Nat.reduceEqDiff, Nat.reduceAdd, Nat.reduceMul, Nat.reduceLeDiff, Nat.reduceBEq, reduceCtorEq, reduceIte, Array.toList, ↓reduceIte, tt, vgo, vout, vgoD, voutD, vclsOk, vids, mayWrite, V.ids, V.mids, vguard, callOf, vop, ev, cv, vbin, vint, isShift, isNilConst, vnil, isNilSlice, vload, vlen, newRow, vfill, vslice, entOf, vappend, srcOf, vcopy, vlookup, vupdate, mapOk, keyOf, intsOf, clsAt]; try rfl)) (WkV.pure (by simp only [V.into])) ⟨rfl, rfl⟩
end Go.Vm

set_option linter.unusedVariables false
set_option linter.unusedSimpArgs false
set_option maxRecDepth 100000
namespace Go.Vm
/-! ### the least coal: the program's search and the reference's are the same -/
/-! the reference's numbers of coal, in order -/
theorem sure_whole {c : Cu} (k0 : CuOk c) (hne : sTruth c ≠ []) (coal : List Int) : sSureP c coal = decide (rWholes c (rTruths c) coal c.want = 1) := by
  rw [← wholes_same k0 hne]
  have e : ((sTruth c).map fun s => if (sPast c coal c.want s).kept.any (fun y => decide (false = y)) then (0 : Int) else 1) = (sTruth c).map fun s => if sKept c coal c.want s = true then 1 else 0 := by
    apply List.map_congr_left
    intro s _
    by_cases h : ((sPast c coal c.want s).kept.any fun y => decide (false = y)) = true
    · have h2 : sKept c coal c.want s = false := by rw [sKept, h]; rfl
      rw [if_pos h, h2, if_neg (by simp)]
    · have h2 : sKept c coal c.want s = true := by rw [Bool.not_eq_true] at h; rw [sKept, h]; rfl
      rw [if_neg h, h2, if_pos rfl]
  rw [e, sVerdict_01 _ hne, sSureP]
  cases (sTruth c).all fun s => sKept c coal c.want s with
  | true => rfl
  | false => cases (sTruth c).any fun s => sKept c coal c.want s <;> rfl
end Go.Vm

set_option linter.unusedVariables false
set_option linter.unusedSimpArgs false
set_option maxRecDepth 100000
namespace Go.Vm
/-! ### fewer promises, more coal -/
theorem whole_coal {c : Cu} {coal coal' want : List Int} {t : Tr2} (hp : 1 ≤ c.per) (hh : 0 ≤ t.heat) (hc : ∀ i : Nat, i < (c.last + 1).toNat → 0 ≤ gi coal i ∧ gi coal i ≤ gi coal' i) (h : wholeI c coal want t = true) : wholeI c coal' want t = true := by
  rw [whole_iff] at h ⊢
  intro i hi
  have w : Warm (tS t) (tS t) coal coal' (c.last + 1).toNat := ⟨⟨hh, Int.le_refl _⟩, fun i _ => Int.le_refl _, hc⟩
  have hm := tdiv_mono (sHeat_ge c (tS t) coal want i) (warm_heat w hi (warm_play hp w i (by omega))) hp
  have := h i hi
  omega
end Go.Vm

set_option linter.unusedVariables false
set_option linter.unusedSimpArgs false
set_option maxRecDepth 100000
namespace Go.Vm
/-! ### fewer truths -/
theorem SubT.sure {x c : Cu} (S : SubT x c) (X : AskOk x true) (A : AskOk c true) {coal : List Int} (h : sSureP c coal = true) : sSureP x coal = true := by
  have hne : rTruths x ≠ [] := fun e => X.ne ((same_nil X.k0).2 e)
  rw [sure_whole A.k0 A.ne, decide_eq_true_eq] at h
  rw [sure_whole X.k0 X.ne, decide_eq_true_eq, S.want]
  exact S.wholes hne h
/-! which readings are left out -/
end Go.Vm

set_option linter.unusedVariables false
set_option linter.unusedSimpArgs false
set_option maxRecDepth 100000
namespace Go.Vm
open Go.Proofs
/-! ### the reference of baths: the small functions -/
def sumT (l : List Int) (j : Nat) : Int := (l.take j).foldl (· + ·) 0
theorem sumT_succ {l : List Int} {j : Nat} (h : (j : Int) < l.length) : sumT l (j + 1) = sumT l j + gi l j := by
  rw [sumT, gi_take h, List.foldl_append]; rfl
theorem sumT_le {l : List Int} (hb : ∀ x ∈ l, 0 ≤ x ∧ x ≤ 1000000) : ∀ j : Nat, j ≤ l.length → 0 ≤ sumT l j ∧ sumT l j ≤ 1000000 * j
  | 0, _ => by simp [sumT]
  | j + 1, h => by
    have ih := sumT_le hb j (by omega)
    have := hb _ (gi_mem (l := l) (i := j) (by omega))
    rw [sumT_succ (by omega)]
    omega
theorem c_r9Sum (l : List Int) (hl : (l.length : Int) ≤ 1000000) (hb : ∀ x ∈ l, 0 ≤ x ∧ x ≤ 1000000) : Pu Tryz.prog (.fn 59 [] []) [vI l] (vi (sumT l l.length)) := by
  refine Ev.fn Tryz.func59 rfl rfl (Fn.body tabOk Tryz.func59 rfl (Nat.le_of_ble_eq_true rfl) (Ks.ok (fz := (fzn [])) (cl := (cln [])) tabOk mixed ?_))
  generalize hQ : FnPost tt Tryz.f59 _ _ = Q
  simp only [Tryz.f59, List.nil_append, List.append_nil, argsEnv]
  simp only [gos, eq_self, Nat.reduceLT, reduceIte, ↓reduceIte, vgo, vout, vguard, callOf, vop, ev, cv, vI]
  refine W.loop tabOk mixed (fun j : Nat => ([(0, vI l), (3, vi (sumT l j)), (4, vi j)], [])) (fun j => l.length - j) (fun j => j ≤ l.length) 0 (by omega) (Wk.env (by simp [subE, Env.get, sumT, vI])) ?_
  intro j hj
  have h1 := sumT_le hb j hj
  by_cases hil : (j : Int) < l.length
  · have hx := cI_at (Int.natCast_nonneg j) hil
    rw [Int.toNat_natCast, Nat.mul_one] at hx
    have h2 := hb _ (gi_mem (l := l) (i := j) (by omega))
    have hw := i64_in (show -9223372036854775808 ≤ sumT l j + gi l j by omega) (show sumT l j + gi l j ≤ 9223372036854775807 by omega)
    simp only [gos, eq_self, Nat.reduceLT, Nat.reduceEqDiff, reduceCtorEq, reduceIte, ↓reduceIte, tt, vgo, vout, vguard, callOf, vop, ev, cv, vbin, vint, isShift, isNilConst, vload, vlen, vI, hil, hx, hw, Int.natCast_nonneg, Int.toNat_natCast, Nat.mul_one]
    refine Nx.mk (j + 1) (show l.length - (j + 1) < l.length - j by omega) (show j + 1 ≤ l.length by omega) (Wk.env ?_)
    rw [sumT_succ hil]
    simp [subE, Env.get, i64_succ (show (j : Int) < 9223372036854775807 by omega)]
  · have : j = l.length := by omega
    subst this
    simp only [gos, eq_self, Nat.reduceLT, Nat.reduceEqDiff, reduceCtorEq, reduceIte, ↓reduceIte, tt, vgo, vout, vguard, callOf, vop, ev, vbin, vint, isShift, isNilConst, vlen, vI, hil]
    subst hQ
    exact FnPost.plain trivial (fun h2 e => by first | rfl | (simp only [Tryz.f59, vres, vresL, vres1, e _, gos, if_true, if_false, ne_eq, eq_self, Nat.reduceLT, Nat.reduceEqDiff, Nat.reduceAdd, Nat.reduceMul, Nat.reduceLeDiff, Nat.reduceBEq, reduceCtorEq, reduceIte, Array.toList, ↓reduceIte, tt, vgo, vout, vgoD, voutD, vclsOk, vids, mayWrite, V.ids, V.mids, vguard, callOf, vop, ev, cv, vbin, vint, isShift, isNilConst, vnil, isNilSlice, vload, vlen, newRow, vfill, vslice, entOf, vappend, srcOf, vcopy, vlookup, vupdate, mapOk, keyOf, intsOf, clsAt]; try rfl)) (WkV.pure (by simp only [V.into])) ⟨rfl, rfl⟩
end Go.Vm

set_option linter.unusedVariables false
set_option linter.unusedSimpArgs false
set_option maxRecDepth 100000
namespace Go.Vm
open Go.Proofs
theorem powR5 {s : Int} (hs : 1 ≤ s ∧ s ≤ 6) : ∀ j : Nat, 1 ≤ s ^ j ∧ s ^ j ≤ 6 ^ j
  | 0 => by simp
  | j + 1 => by
    have ih := powR5 hs j
    rw [Int.pow_succ, Int.pow_succ]
    have h1 : 1 * 1 ≤ s ^ j * s := Int.mul_le_mul ih.1 hs.1 (by omega) (by omega)
    have h2 : s ^ j * s ≤ 6 ^ j * 6 := Int.mul_le_mul ih.2 hs.2 (by omega) (by omega)
    omega
theorem c_r9Others (r : Rm) (hl : 0 ≤ r.cu.last ∧ r.cu.last ≤ 4) (hp : 0 ≤ r.pl ∧ r.pl ≤ 5) : Pu Tryz.prog (.fn 55 [] []) [.agg r.cs] (vi ((r.pl + 1) ^ (r.cu.last + 1).toNat)) := by
  refine Ev.fn Tryz.func55 rfl rfl (Fn.body tabOk Tryz.func55 rfl (Nat.le_of_ble_eq_true rfl) (Ks.ok (fz := (fzn [])) (cl := (cln [])) tabOk mixed ?_))
  generalize hQ : FnPost tt Tryz.f55 _ _ = Q
  simp only [Tryz.f55, List.nil_append, List.append_nil, argsEnv]
  simp only [gos, eq_self, Nat.reduceLT, reduceIte, ↓reduceIte, vgo, vout, vguard, callOf, vop, ev, cv, newRow]
  refine W.loop tabOk mixed (fun i : Nat => ([(1, .rop r.cs), (3, vi ((r.pl + 1) ^ i)), (4, vi i)], [])) (fun i => (r.cu.last + 1).toNat - i) (fun i => i ≤ (r.cu.last + 1).toNat) 0 (Nat.zero_le _) (Wk.env (by simp [subE, Env.get])) ?_
  intro i hi
  by_cases hil : (i : Int) ≤ r.cu.last
  · have h1 := powR5 (s := r.pl + 1) (by omega) (i + 1)
    have h6 : (6 : Int) ^ (i + 1) ≤ 7776 := by
      have : ∀ i : Fin 5, (6 : Int) ^ ((i : Nat) + 1) ≤ 7776 := by decide
      exact this ⟨i, by omega⟩
    have hw0 : IntKind.i64.wrap (r.pl + 1) = r.pl + 1 := i64_in (by omega) (by omega)
    have hw : IntKind.i64.wrap ((r.pl + 1) ^ i * (r.pl + 1)) = (r.pl + 1) ^ (i + 1) := by rw [← Int.pow_succ]; exact (fun X h1 h2 => i64_in (by omega) (by omega) : ∀ X : Int, 1 ≤ X → X ≤ 7776 → IntKind.i64.wrap X = X) _ h1.1 (Int.le_trans h1.2 h6)
    simp only [gos, eq_self, Nat.reduceLT, Nat.reduceEqDiff, reduceCtorEq, reduceIte, ↓reduceIte, tt, vgo, vout, vguard, callOf, vop, ev, cv, vbin, vint, isShift, isNilConst, vload, rms, hil, hw0, hw]
    exact Nx.mk (i + 1) (show (r.cu.last + 1).toNat - (i + 1) < (r.cu.last + 1).toNat - i by omega) (show i + 1 ≤ (r.cu.last + 1).toNat by omega) (Wk.env (by simp [subE, Env.get, i64_succ (show (i : Int) < 9223372036854775807 by omega)]))
  · have hie : i = (r.cu.last + 1).toNat := by omega
    simp only [gos, eq_self, Nat.reduceLT, Nat.reduceEqDiff, reduceCtorEq, reduceIte, ↓reduceIte, tt, vgo, vout, vguard, callOf, vop, ev, vbin, vint, isShift, isNilConst, vload, rms, hil]
    subst hQ
    exact FnPost.plain trivial (fun h2 e => by first | rfl | (simp only [Tryz.f55, vres, vresL, vres1, e _, gos, if_true, if_false, ne_eq, eq_self, Nat.reduceLT, Nat.reduceEqDiff, Nat.reduceAdd, Nat.reduceMul, Nat.reduceLeDiff, Nat.reduceBEq, reduceCtorEq, reduceIte, Array.toList, ↓reduceIte, tt, vgo, vout, vgoD, voutD, vclsOk, vids, mayWrite, V.ids, V.mids, vguard, callOf, vop, ev, cv, vbin, vint, isShift, isNilConst, vnil, isNilSlice, vload, vlen, newRow, vfill, vslice, entOf, vappend, srcOf, vcopy, vlookup, vupdate, mapOk, keyOf, intsOf, clsAt]; try rfl)) (WkV.pure (by simp only [V.into])) ⟨by rw [hie], rfl⟩
end Go.Vm

set_option linter.unusedVariables false
set_option linter.unusedSimpArgs false
set_option maxRecDepth 100000
namespace Go.Vm
/-! ### what is sure in one room and in another -/
theorem check_of {x : Rm} (ha : sAsked x.cu true = 0) (hpl : 0 ≤ x.pl ∧ x.pl ≤ 5) (hbu : 1 ≤ x.bu ∧ x.bu ≤ 9) (hl : x.ba.length ≤ 5) (hb : ∀ b ∈ x.ba, 0 ≤ b.lo ∧ b.lo ≤ b.hi ∧ b.hi ≤ x.cu.last) : sCheckR x = 0 := by
  have h1 : ¬ (sAsked x.cu true ≠ 0) := by simp [ha]
  have h2 : ¬ (5 < x.pl ∨ 5 < (x.ba.length : Int)) := by omega
  have h3 : x.ba.all (sValid x) = true := by
    rw [List.all_eq_true]
    intro b hb2
    have := hb b hb2
    simp only [sValid, Bool.and_eq_true, decide_eq_true_eq]; omega
  have h4 : sIn x.bu 1 9 = true := by simp [sIn]; omega
  rw [sCheckR, if_neg h1, if_neg h2, h3, h4, if_neg (by simp; omega)]
theorem RmOk.check {r : Rm} (k : RmOk r) : sCheckR r = 0 := check_of k.ask k.pl k.bu k.len k.ba
theorem sure_room {r x : Rm} (k : RmOk r) (kx : RmOk x) (hl : x.cu.last = r.cu.last) (hw : x.cu.want = r.cu.want) (hpl : r.pl ≤ x.pl) (hbu : x.bu ≤ r.bu)
    (hT : ∀ w : List Int, rWholes r.cu (rTruths r.cu) r.cu.coal w = 1 → rWholes x.cu (rTruths x.cu) x.cu.coal w = 1)
    {n m : List Int} (h : ∀ i : Nat, (i : Int) ≤ r.cu.last → 0 ≤ gi m i ∧ gi m i ≤ gi n i) (hs : sSureN r n = true) : sSureN x m = true := by
  have hla := k.A.k0.last
  have hbx := kx.bu
  have hbr := k.bu
  simp only [sSureN, Bool.and_eq_true, decide_eq_true_eq] at hs
  have hmul : ∀ i : Nat, (i : Int) ≤ r.cu.last → 0 ≤ x.bu * gi m i ∧ x.bu * gi m i ≤ r.bu * gi n i := fun i hi => by
    have h1 := h i hi
    exact ⟨Int.mul_nonneg (by omega) h1.1, Int.mul_le_mul hbu h1.2 h1.1 (by omega)⟩
  have hp : sPossN x m = true := by
    have hp := hs.1
    rw [sPossN, List.all_eq_true] at hp ⊢
    intro i hi
    rw [hl] at hi
    have hi2 := List.mem_range.1 hi
    have h1 := h i (by omega)
    have h2 := hmul i (by omega)
    have h3 := hp i hi
    simp only [sRoom, Bool.or_eq_true, Bool.and_eq_true, decide_eq_true_eq] at h3 ⊢
    rw [hw]
    rcases h3 with h3 | ⟨h3, h4⟩
    · left; omega
    · right; omega
  simp only [sSureN, Bool.and_eq_true, decide_eq_true_eq]
  refine ⟨hp, ?_⟩
  rw [keV_eq kx (fun i hi => (h i (by omega)).1) hp, hw]
  have hkn := hs.2
  rw [keV_eq k (fun i hi => by have := h i hi; omega) hs.1] at hkn
  refine hT _ (more_one k.A.k0 k.ne (fun i hi => ?_) hkn)
  rw [nb_gi (by omega), nb_gi (by omega)]
  exact hmul i (by omega)
/-! a plan without some baths, by places -/
theorem pk_eq (b : Nat) (p : List Int) : pk b 0 p = ((List.range p.length).filter fun i => b.testBit i).map fun (i : Nat) => gi p i := by
  have e : ∀ n, n ≤ p.length → pk b 0 (p.take n) = ((List.range n).filter fun i => b.testBit i).map fun (i : Nat) => gi p i := by
    intro n
    induction n with
    | zero => intro _; simp [pk]
    | succ n ih =>
      intro hn
      rw [gi_take (by omega), pk_snoc, ih (by omega), List.length_take, Nat.min_eq_left (by omega), Nat.zero_add, List.range_succ, List.filter_append, List.map_append]
      congr 1
      simp only [List.filter_cons, List.filter_nil]
      split <;> rfl
  have := e p.length (Nat.le_refl _)
  rwa [List.take_length] at this
theorem pk_mem {b : Nat} {p : List Int} {x : Int} (h : x ∈ pk b 0 p) : ∃ j : Nat, j < p.length ∧ b.testBit j = true ∧ x = gi p j := by
  rw [pk_eq] at h
  simp only [List.mem_map, List.mem_filter, List.mem_range] at h
  obtain ⟨j, ⟨h1, h2⟩, rfl⟩ := h
  exact ⟨j, h1, h2, rfl⟩
theorem pk_congr {b : Nat} {p q : List Int} (hl : p.length = q.length) (h : ∀ j : Nat, j < p.length → b.testBit j = true → gi p j = gi q j) : pk b 0 p = pk b 0 q := by
  rw [pk_eq, pk_eq, ← hl]
  apply List.map_congr_left
  intro j hj
  simp only [List.mem_filter, List.mem_range] at hj
  exact h j hj.1 hj.2
theorem mem_rSuf (r : Rm) (b : Nat) : ∀ (k i : Nat) (p : List Int), p ∈ rSuf r b k i ↔ p.length = k ∧ ∀ j : Nat, j < k → if b.testBit (i + j) = true then (gR r.ba ((i + j : Nat) : Int)).lo ≤ gi p j ∧ gi p j ≤ (gR r.ba ((i + j : Nat) : Int)).hi else gi p j = 0
  | 0, i, p => by
    simp only [rSuf, List.mem_singleton]
    constructor
    · rintro rfl; exact ⟨rfl, fun j hj => by omega⟩
    · rintro ⟨h, _⟩; exact List.length_eq_zero_iff.1 h
  | k + 1, i, p => by
    have ih := mem_rSuf r b k (i + 1)
    have hgi0 : ∀ (x : Int) (q : List Int), gi (x :: q) (0 : Nat) = x := fun x q => rfl
    have hgis : ∀ (x : Int) (q : List Int) (j : Nat), gi (x :: q) ((j + 1 : Nat) : Int) = gi q j := fun x q j => by simp only [gi, Int.toNat_natCast, List.getD_cons_succ]
    rw [rSuf]
    constructor
    · intro h
      obtain ⟨x, q, hq, rfl, hx⟩ : ∃ x q, q ∈ rSuf r b k (i + 1) ∧ p = x :: q ∧ if b.testBit i = true then (gR r.ba i).lo ≤ x ∧ x ≤ (gR r.ba i).hi else x = 0 := by
        split at h
        · simp only [List.mem_flatMap, List.mem_map] at h
          obtain ⟨x, hx, q, hq, rfl⟩ := h
          rename_i hb
          exact ⟨x, q, hq, rfl, by rw [if_pos hb]; exact mem_rangeI.1 hx⟩
        · obtain ⟨q, hq, rfl⟩ := List.mem_map.1 h
          rename_i hb
          exact ⟨0, q, hq, rfl, by rw [if_neg hb]⟩
      obtain ⟨h1, h2⟩ := (ih q).1 hq
      refine ⟨by simp [h1], fun j hj => ?_⟩
      cases j with
      | zero => rw [Nat.add_zero, hgi0]; exact hx
      | succ j =>
        rw [hgis]
        have := h2 j (by omega)
        rw [show i + 1 + j = i + (j + 1) by omega] at this
        exact this
    · rintro ⟨h1, h2⟩
      cases p with
      | nil => simp at h1
      | cons x q =>
        have h0 := h2 0 (by omega)
        rw [Nat.add_zero, hgi0] at h0
        have hq : q ∈ rSuf r b k (i + 1) := (ih q).2 ⟨by simpa using h1, fun j hj => by
          have := h2 (j + 1) (by omega)
          rw [hgis, show i + (j + 1) = i + 1 + j by omega] at this
          exact this⟩
        split
        · rename_i hb
          rw [if_pos hb] at h0
          simp only [List.mem_flatMap, List.mem_map]
          exact ⟨x, mem_rangeI.2 h0, q, hq, rfl⟩
        · rename_i hb
          rw [if_neg hb] at h0
          exact List.mem_map.2 ⟨q, hq, by rw [h0]⟩
theorem pk_range {r : Rm} (k : RmOk r) {b : Nat} {p : List Int} (hl : p.length = r.ba.length) (h : ∀ j : Nat, j < r.ba.length → b.testBit j = true → (gR r.ba j).lo ≤ gi p j ∧ gi p j ≤ (gR r.ba j).hi) : ∀ x ∈ pk b 0 p, 0 ≤ x ∧ x ≤ r.cu.last := fun x hx => by
  obtain ⟨j, h1, h2, rfl⟩ := pk_mem hx
  have h3 := h j (by omega) h2
  have h4 := k.ba _ (List.mem_of_getElem? (gR_get (show (j : Int) < r.ba.length by omega)))
  omega
theorem rest_iff {r : Rm} (k : RmOk r) {b : Nat} : restN r b = true ↔ ∃ p : List Int, p.length = r.ba.length ∧ (∀ j : Nat, j < r.ba.length → b.testBit j = true → (gR r.ba j).lo ≤ gi p j ∧ gi p j ≤ (gR r.ba j).hi) ∧ sSureN r (cntN (pk b 0 p)) = true := by
  rw [restN, Bool.not_eq_true', List.isEmpty_eq_false_iff]
  constructor
  · intro h
    obtain ⟨p, hp⟩ := List.exists_mem_of_ne_nil _ h
    rw [rSures, rPlansF_suf, List.mem_filter] at hp
    obtain ⟨h1, h2⟩ := hp
    obtain ⟨q, hq, rfl⟩ := List.mem_map.1 h1
    obtain ⟨g1, g2⟩ := (mem_rSuf r b _ _ q).1 hq
    rw [List.nil_append] at h2
    have hin : ∀ j : Nat, j < r.ba.length → b.testBit j = true → (gR r.ba j).lo ≤ gi q j ∧ gi q j ≤ (gR r.ba j).hi := fun j hj hb => by
      have := g2 j hj
      simp only [List.length_nil, Nat.zero_add] at this
      rw [if_pos hb] at this
      exact this
    exact ⟨q, g1, hin, by rw [(num_ref k (pk_range k g1 hin) (rNum_eq r q b)).2.2]; exact h2⟩
  · rintro ⟨p, hl, hin, hs⟩
    let q : List Int := (List.range r.ba.length).map fun j => if b.testBit j = true then gi p j else 0
    have hql : q.length = r.ba.length := by simp [q]
    have hqg : ∀ j : Nat, j < r.ba.length → gi q j = if b.testBit j = true then gi p j else 0 := fun j hj => gi_map hj
    have hpk : pk b 0 q = pk b 0 p := pk_congr (by omega) fun j hj hb => by rw [hqg j (by omega), if_pos hb]
    have hin2 : ∀ j : Nat, j < r.ba.length → b.testBit j = true → (gR r.ba j).lo ≤ gi q j ∧ gi q j ≤ (gR r.ba j).hi := fun j hj hb => by rw [hqg j hj, if_pos hb]; exact hin j hj hb
    refine List.ne_nil_of_mem (a := q) ?_
    rw [rSures, rPlansF_suf, List.mem_filter]
    refine ⟨List.mem_map.2 ⟨q, (mem_rSuf r b _ _ q).2 ⟨hql, fun j hj => ?_⟩, List.nil_append q⟩, ?_⟩
    · simp only [List.length_nil, Nat.zero_add]
      rw [hqg j hj]
      split
      · rename_i hb; exact hin j hj hb
      · rfl
    · rw [← (num_ref k (pk_range k hql hin2) (rNum_eq r q b)).2.2, hpk]
      exact hs
end Go.Vm

set_option linter.unusedVariables false
set_option linter.unusedSimpArgs false
set_option maxRecDepth 100000
namespace Go.Vm
/-! ### a room whose coppers have more coal, and no readings -/
def rmC (r : Rm) (l : List Int) : Rm := { r with cu := { r.cu with coal := l } }
structure MoreC (r : Rm) (l : List Int) : Prop where
  dry : r.cu.readings = []
  len : (l.length : Int) = r.cu.last + 1
  sh : ∀ x ∈ l, 0 ≤ x ∧ x ≤ r.cu.shovels
  le : ∀ i : Nat, (i : Int) ≤ r.cu.last → gi r.cu.coal i ≤ gi l i
theorem coal_okR {r : Rm} (k : RmOk r) {l : List Int} (h1 : (l.length : Int) = r.cu.last + 1) (h2 : ∀ x ∈ l, 0 ≤ x ∧ x ≤ r.cu.shovels) : CuOk (rmC r l).cu :=
  have k0 := k.A.k0
  ⟨k0.last, k0.rds, k0.most, k0.start, k0.per, k0.shovels, ⟨h1, h2⟩, k0.want, k0.heat, k0.loss, k0.readings, k0.many⟩
theorem rmC_ok {r : Rm} (k : RmOk r) (hd : r.cu.readings = []) {l : List Int} (h1 : (l.length : Int) = r.cu.last + 1) (h2 : ∀ x ∈ l, 0 ≤ x ∧ x ≤ r.cu.shovels) : RmOk (rmC r l) :=
  have ha := dry_asked (coal_okR k h1 h2) hd
  ⟨ha, askOk_of ha, k.pl, k.bu, k.len, k.ba⟩
theorem MoreC.ok {r : Rm} {l : List Int} (M : MoreC r l) (k : RmOk r) : RmOk (rmC r l) := rmC_ok k M.dry M.len M.sh
theorem MoreC.sure {r : Rm} {l : List Int} (M : MoreC r l) (k : RmOk r) {n : List Int} (h0 : ∀ i : Nat, (i : Int) ≤ r.cu.last → 0 ≤ gi n i) (hs : sSureN r n = true) : sSureN (rmC r l) n = true := by
  have k0 := k.A.k0
  have kx := M.ok k
  refine sure_room k kx rfl rfl (Int.le_refl _) (Int.le_refl _) (fun w hw => ?_) (fun i hi => ⟨h0 i hi, Int.le_refl _⟩) hs
  rw [wholes_one k.ne] at hw
  rw [wholes_one kx.ne]
  intro t ht
  rw [truths_dry r.cu (rmC r l).cu rfl rfl M.dry M.dry] at ht
  rw [whole_cu r.cu (rmC r l).cu rfl rfl rfl rfl]
  refine whole_coal k0.per.1 (rTr_ok k0 _ t ht).sc.heat.1 (fun i hi => ?_) (hw t ht)
  have h1 := k0.coal.2 _ (gi_mem (l := r.cu.coal) (i := i) (by have := k0.coal.1; omega))
  exact ⟨h1.1, M.le i (by omega)⟩
theorem zL_ge (i : Nat) : 0 ≤ gi zL i := by rw [zL_gi]; omega
theorem MoreC.rest {r : Rm} {l : List Int} (M : MoreC r l) (k : RmOk r) {b : Nat} (h : restN r b = true) : restN (rmC r l) b = true := by
  obtain ⟨p, h1, h2, h3⟩ := (rest_iff k).1 h
  exact (rest_iff (M.ok k)).2 ⟨p, h1, h2, M.sure k (fun i _ => (num_same k (pk_range k h1 h2) i).2) h3⟩
theorem MoreC.most {r : Rm} {l : List Int} (M : MoreC r l) (k : RmOk r) (hs : sSureN r zL = true) : (mostF r).sum ≤ (mostF (rmC r l)).sum := by
  have kx := M.ok k
  have hx := M.sure k (fun i _ => zL_ge i) hs
  have h1 := (mostF_spec k hs).1
  have h2 : mostF r ∈ sureL (rmC r l) := by
    rw [sureL, List.mem_filter] at h1 ⊢
    refine ⟨h1.1, M.sure k (fun i _ => ?_) h1.2⟩
    rw [pad5_gi]
    exact gi_ge0 (fun y hy => ((digs_mem.1 h1.1).2 y hy).1) i
  rcases (mostF_spec kx hx).2 _ h2 with h | ⟨h, _⟩ <;> omega
theorem mostR_eq {r : Rm} (k : RmOk r) : sMostR r = if sSureN r zL = true then (mostF r, 0) else ([], 10) := by
  rw [sMostR, if_pos k.check]
  cases hs : sSureN r zL with
  | true => rw [if_pos rfl, if_pos rfl, most_eq k hs]
  | false => rfl
theorem mostF_ok {r : Rm} (k : RmOk r) (hs : sSureN r zL = true) : (mostF r).length = (r.cu.last + 1).toNat ∧ ∀ x ∈ mostF r, 0 ≤ x ∧ x ≤ 5 := by
  have h1 := (mostF_spec k hs).1
  rw [sureL, List.mem_filter] at h1
  have h2 := digs_mem.1 h1.1
  exact ⟨h2.1, fun x hx => by have := h2.2 x hx; have := k.pl; omega⟩
theorem sumT_sum (l : List Int) : sumT l l.length = l.sum := by
  have e : ∀ (m : List Int) (n : Int), m.foldl (· + ·) n = n + m.sum := by
    intro m
    induction m with
    | nil => intro n; simp
    | cons x m ih => intro n; rw [List.foldl_cons, ih, List.sum_cons]; omega
  rw [sumT, List.take_length, e]; omega
end Go.Vm

set_option linter.unusedVariables false
set_option linter.unusedSimpArgs false
set_option maxRecDepth 100000
namespace Go.Vm
open Go.Proofs
/-! ### numbers of baths by a number; the most of the reference -/
theorem rOther_len (r : Rm) (n : Int) : (rOther r n).length = (r.cu.last + 1).toNat := lowD_len _ _ _
theorem rOther_ok {r : Rm} (k : RmOk r) {n : Int} (hn : 0 ≤ n) : ((rOther r n).length : Int) = r.cu.last + 1 ∧ ∀ x ∈ rOther r n, 0 ≤ x ∧ x ≤ r.pl :=
  ⟨by rw [rOther_len]; have := k.A.k0.last; omega, fun x hx => by have := lowD_ok hn (s := r.pl + 1) (by have := k.pl; omega) _ x hx; omega⟩
set_option maxHeartbeats 1000000 in
theorem c_r9Other0 (r : Rm) (k : RmOk r) (n : Int) (hn : 0 ≤ n ∧ n ≤ 100000) : Ev Tryz.prog (.fn 54 [] []) [.agg r.cs, vi n] [] fun v h' => v = .own 11 0 0 1 (r.cu.last + 1).toNat ∧ h' = [(11, ⟨0, .row (cI (rOther r n))⟩)] := by
  have hl := k.A.k0.last
  have hs := k.pl
  have hge : 0 ≤ r.cu.last + 1 := by omega
  have hle : r.cu.last + 1 ≤ 1000000 := by omega
  refine Ev.fn Tryz.func54 rfl rfl (Fn.body tabOk Tryz.func54 rfl (Nat.le_of_ble_eq_true rfl) (Ks.ok (fz := (fzn [])) (cl := (cln [(5, .d tg0 [cP, cP, cP, cP, cP, cP, cP, cP, cP, cP, cP, cP, cP, cW, cP])])) tabOk mixed ?_))
  generalize hQ : FnPost tt Tryz.f54 _ _ = Q
  simp only [Tryz.f54, List.nil_append, List.append_nil, argsEnv, Nat.reduceAdd]
  have hz : zeros [V.int IntKind.i64 0] (r.cu.last + 1).toNat = cI (List.replicate (r.cu.last + 1).toNat 0) := zeros_vi _
  simp only [gos, eq_self, Nat.reduceLT, Nat.reduceEqDiff, Nat.reduceLeDiff, reduceCtorEq, reduceIte, ↓reduceIte, tt, vgo, vout, vguard, callOf, vop, ev, cv, vbin, vint, isShift, isNilConst, vload, newRow, rms, i64_in (show -9223372036854775808 ≤ r.cu.last + 1 by omega) (show r.cu.last + 1 ≤ 9223372036854775807 by omega), hge, hle, hz]
  refine W.loop tabOk mixed (fun j : Nat => ([(1, vi (dvN (r.pl + 1) n j)), (2, .rop r.cs), (5, .own 11 0 0 1 (r.cu.last + 1).toNat), (6, vi (r.cu.last - j))], [(11, ⟨0, .row (cI (List.replicate ((r.cu.last + 1).toNat - j) 0 ++ lowD (r.pl + 1) n j))⟩)])) (fun j => (r.cu.last + 1).toNat - j) (fun j => j ≤ (r.cu.last + 1).toNat) 0 (by omega) (Wk.heap (fun i => by simp [lowD]) (by simp [subE, Env.get, dvN])) ?_
  intro j hj
  by_cases hjl : (j : Int) ≤ r.cu.last
  · have h0 : 0 ≤ r.cu.last - j := by omega
    have h1 : r.cu.last - j < ((r.cu.last + 1).toNat : Int) := by omega
    have hd := dvN_ge hn.1 (s := r.pl + 1) (by omega) j
    have hz : ¬ r.pl + 1 = 0 := by omega
    have ht : (r.cu.last - (j : Int)).toNat = (r.cu.last + 1).toNat - (j + 1) := by omega
    have hlen : (r.cu.last + 1).toNat - (j + 1) + 1 ≤ (cI (List.replicate ((r.cu.last + 1).toNat - j) 0 ++ lowD (r.pl + 1) n j)).length := by
      rw [cI_len, List.length_append, List.length_replicate]; omega
    have hset : List.take ((r.cu.last + 1).toNat - (j + 1)) (cI (List.replicate ((r.cu.last + 1).toNat - j) 0 ++ lowD (r.pl + 1) n j)) ++ [V.int IntKind.i64 ((dvN (r.pl + 1) n j).tmod (r.pl + 1))] ++ List.drop ((r.cu.last + 1).toNat - (j + 1) + 1) (cI (List.replicate ((r.cu.last + 1).toNat - j) 0 ++ lowD (r.pl + 1) n j)) = cI (List.replicate ((r.cu.last + 1).toNat - (j + 1)) 0 ++ lowD (r.pl + 1) n (j + 1)) := by
      have e : List.replicate ((r.cu.last + 1).toNat - j) (0 : Int) = List.replicate ((r.cu.last + 1).toNat - (j + 1)) 0 ++ [0] := by
        rw [show (r.cu.last + 1).toNat - j = (r.cu.last + 1).toNat - (j + 1) + 1 by omega, List.replicate_succ']
      rw [cI_set _ (by rw [List.length_append, List.length_replicate]; omega), e, lowD]
      congr 1
      rw [List.append_assoc, List.set_append, if_neg (by simp)]
      simp
    have hdv : 0 ≤ (dvN (r.pl + 1) n j).tdiv (r.pl + 1) := Int.tdiv_nonneg hd.1 (by omega)
    have hdl := Int.tdiv_le_self (r.pl + 1) hd.1
    simp only [gos, eq_self, Nat.reduceLT, Nat.reduceEqDiff, reduceIte, ↓reduceIte, vgo, vout, vguard, callOf, vop, ev, cv, vbin, vint, isShift, isNilConst, h0]
    refine Wr.draw (by kernel_rfl) ?_
    simp only [gos, eq_self, Nat.reduceLT, Nat.reduceEqDiff, Nat.reduceAdd, reduceCtorEq, reduceIte, ↓reduceIte, tt, vgo, vout, vgoD, voutD, vclsOk, vids, mayWrite, V.ids, vguard, callOf, vop, ev, cv, vbin, vint, isShift, isNilConst, vload, clsAt, rms, hz, h0, h1, ht, hlen, Nat.zero_add, Nat.mul_one, i64_in (show -9223372036854775808 ≤ r.pl + 1 by omega) (show r.pl + 1 ≤ 9223372036854775807 by omega), i64_in (show -9223372036854775808 ≤ (dvN (r.pl + 1) n j).tdiv (r.pl + 1) by omega) (show (dvN (r.pl + 1) n j).tdiv (r.pl + 1) ≤ 9223372036854775807 by omega)]
    rw [hset]
    exact Nx.mk (j + 1) (show (r.cu.last + 1).toNat - (j + 1) < (r.cu.last + 1).toNat - j by omega) (by omega) (Wk.env (by simp [subE, Env.get, dvN, i64_in (show -9223372036854775808 ≤ r.cu.last - j - 1 by omega) (show r.cu.last - j - 1 ≤ 9223372036854775807 by omega)]; omega))
  · have h0 : ¬ 0 ≤ r.cu.last - j := by omega
    have e : (r.cu.last + 1).toNat = j := by omega
    simp only [gos, eq_self, Nat.reduceLT, Nat.reduceEqDiff, reduceIte, ↓reduceIte, vgo, vout, vguard, callOf, vop, ev, cv, vbin, vint, isShift, isNilConst, h0]
    subst hQ
    refine FnPost.plain trivial (v := .own 11 0 0 1 (r.cu.last + 1).toNat) (fun h2 e => by rfl) WkV.refl ⟨rfl, ?_⟩
    rw [rOther, e]; simp
theorem c_r9Other (r : Rm) (k : RmOk r) (n : Int) (hn : 0 ≤ n ∧ n ≤ 100000) : Pu Tryz.prog (.fn 54 [] []) [.agg r.cs, vi n] (vI (rOther r n)) :=
  (c_r9Other0 r k n hn).weakV fun v h' ⟨e1, e2⟩ => by
    subst e1; subst e2
    have hl := rOther_len r n
    have ht : (cI (rOther r n)).take (r.cu.last + 1).toNat = cI (rOther r n) := List.take_of_length_le (by rw [cI_len]; omega)
    refine ⟨vI (rOther r n), [], WkV.frz 11 (v' := vI (rOther r n)) (h' := []) (ver := 0) (cs := cI (rOther r n)) rfl rfl (cI_into _ _) rfl ?_ ?_ WkV.refl, rfl, rfl⟩
    · simp [V.frz, vI, ht, hl]
    · simp [frzH]
theorem rOthers_int (r : Rm) (h : 0 ≤ r.pl) : ((rOthers r : Nat) : Int) = (r.pl + 1) ^ (r.cu.last + 1).toNat := by
  rw [rOthers, Int.natCast_pow, show (((r.pl + 1).toNat : Nat) : Int) = r.pl + 1 by omega]
theorem rOthers_le {r : Rm} (k : RmOk r) : 1 ≤ rOthers r ∧ rOthers r ≤ 7776 := by
  have hl := k.A.k0.last
  have hp := k.pl
  have h1 := powR5 (s := r.pl + 1) (by omega) (r.cu.last + 1).toNat
  have h6 : (6 : Int) ^ (r.cu.last + 1).toNat ≤ 7776 := by
    have : ∀ i : Fin 6, (6 : Int) ^ (i : Nat) ≤ 7776 := by decide
    exact this ⟨(r.cu.last + 1).toNat, by omega⟩
  rw [← rOthers_int r hp.1] at h1
  omega
theorem other_mok {r : Rm} (k : RmOk r) {n : List Int} (hn : (n.length : Int) = r.cu.last + 1 ∧ ∀ x ∈ n, 0 ≤ x ∧ x ≤ r.pl) : MOk r n := by
  have hl := k.A.k0.last
  have hp := k.pl
  have hb := k.bu
  have hw := k.A.k0.want
  exact ⟨by omega, by omega, by omega, fun x hx => by have := hw.2 x hx; omega, fun x hx => by have := hn.2 x hx; omega⟩
end Go.Vm

set_option linter.unusedVariables false
set_option linter.unusedSimpArgs false
set_option maxRecDepth 100000
namespace Go.Vm
/-! ### the sure plans, in order -/
theorem allP0_mem {r : Rm} : ∀ (m i : Nat) (p : List Int), p ∈ allP r [] m i ↔ p.length = m ∧ ∀ j : Nat, j < m → (gR r.ba ((i + j : Nat) : Int)).lo ≤ gi p j ∧ gi p j ≤ (gR r.ba ((i + j : Nat) : Int)).hi
  | 0, i, p => by
    simp only [allP, List.mem_singleton]
    constructor
    · rintro rfl; exact ⟨rfl, fun j hj => by omega⟩
    · rintro ⟨h, _⟩; exact List.length_eq_zero_iff.1 h
  | m + 1, i, p => by
    have ih := allP0_mem (r := r) m (i + 1)
    have hgi0 : ∀ (x : Int) (q : List Int), gi (x :: q) (0 : Nat) = x := fun x q => rfl
    have hgis : ∀ (x : Int) (q : List Int) (j : Nat), gi (x :: q) ((j + 1 : Nat) : Int) = gi q j := fun x q j => by simp only [gi, Int.toNat_natCast, List.getD_cons_succ]
    rw [allP, if_neg (by simp [outB])]
    simp only [List.mem_flatMap, List.mem_map]
    constructor
    · rintro ⟨x, hx, q, hq, rfl⟩
      obtain ⟨h1, h2⟩ := (ih q).1 hq
      refine ⟨by simp [h1], fun j hj => ?_⟩
      cases j with
      | zero => rw [Nat.add_zero, hgi0]; exact mem_rangeI.1 hx
      | succ j =>
        rw [hgis]
        have := h2 j (by omega)
        rw [show i + 1 + j = i + (j + 1) by omega] at this
        exact this
    · rintro ⟨h1, h2⟩
      cases p with
      | nil => simp at h1
      | cons x q =>
        have h0 := h2 0 (by omega)
        rw [Nat.add_zero, hgi0] at h0
        exact ⟨x, mem_rangeI.2 h0, q, (ih q).2 ⟨by simpa using h1, fun j hj => by
          have := h2 (j + 1) (by omega)
          rw [hgis, show i + (j + 1) = i + 1 + j by omega] at this
          exact this⟩, rfl⟩
/-- A list is one of the sure plans if and only if it is a plan that is sure. -/
theorem plL_mem {r : Rm} (k : RmOk r) {p : List Int} : p ∈ plL r [] ↔ sAre r p = true ∧ sSureN r (cntN p) = true := by
  rw [plL_eq k, List.mem_filter, allP0_mem]
  have e : sAre r p = true ↔ p.length = r.ba.length ∧ ∀ j : Nat, j < r.ba.length → (gR r.ba ((0 + j : Nat) : Int)).lo ≤ gi p j ∧ gi p j ≤ (gR r.ba ((0 + j : Nat) : Int)).hi := by
    simp only [sAre, Bool.and_eq_true, decide_eq_true_eq, List.all_eq_true, List.mem_range, sIn, Nat.zero_add]
  rw [e]
/-- There is a sure plan if and only if no bath has to be given back. -/
theorem plan_give {r : Rm} (k : RmOk r) : plL r [] ≠ [] ↔ sSureN r zL = true ∧ giveAll r = some [] := by
  have hn : r.ba.length < 6 := by have := k.len; omega
  have hr : sRest r [] = true ↔ plL r [] ≠ [] := by rw [sRest, Bool.not_eq_true', List.isEmpty_eq_false_iff]
  have hz : sBits 0 = [] := rfl
  constructor
  · intro h
    have h1 := hr.2 h
    have hs := rest_zero k h1
    refine ⟨hs, ?_⟩
    rw [giveAll_find]
    have e : allSets r.ba.length = [] :: (allSets r.ba.length).tail := by
      have : ∀ n : Fin 6, allSets n = [] :: (allSets n).tail := by decide +kernel
      exact this ⟨_, hn⟩
    rw [e, List.find?_cons, h1]
  · rintro ⟨hs, hg⟩
    rw [giveAll_find] at hg
    exact hr.1 (List.find?_some hg)
end Go.Vm

set_option linter.unusedVariables false
set_option linter.unusedSimpArgs false
set_option maxRecDepth 100000
namespace Go.Vm
/-! ### a sure plan has no more baths than the most -/
theorem sum_set : ∀ (l : List Int) (i : Nat) (v : Int), i < l.length → (l.set i v).sum = l.sum - gi l i + v
  | [], i, v, h => by simp at h
  | x :: l, 0, v, _ => by simp [gi]; omega
  | x :: l, i + 1, v, h => by
    have ih := sum_set l i v (by simpa using h)
    have e : gi (x :: l) ((i + 1 : Nat) : Int) = gi l i := by simp only [gi, Int.toNat_natCast]; rfl
    rw [List.set_cons_succ, List.sum_cons, ih, List.sum_cons, e]; omega
theorem inc_sum {n : List Int} {h : Int} (h0 : 0 ≤ h ∧ h < n.length) : (inc n h).sum = n.sum + 1 := by
  rw [inc, sum_set n h.toNat _ (by omega), show ((h.toNat : Nat) : Int) = h by omega]; omega
theorem addC_sum : ∀ (q : List Int) (n : List Int), (∀ h ∈ q, 0 ≤ h ∧ h < n.length) → (addC n q).sum = n.sum + q.length
  | [], n, _ => by simp [addC]
  | x :: q, n, h => by
    have e : addC n (x :: q) = addC (inc n x) q := rfl
    have hl : (inc n x).length = n.length := by simp [inc]
    rw [e, addC_sum q (inc n x) fun y hy => by rw [hl]; exact h y (by simp [hy]), inc_sum (h x (by simp)), List.length_cons]; omega
theorem canBe_le {r : Rm} {m : List Int} (h : rCanBe r m = true) {i : Nat} (hi : i < m.length) : gi m i ≤ r.pl ∧ gi r.cu.want i + r.bu * gi m i ≤ 20 := by
  simp only [rCanBe, List.all_eq_true, List.mem_range, Bool.and_eq_true, decide_eq_true_eq] at h
  exact h i hi
theorem mem_sureL {r : Rm} (k : RmOk r) {m : List Int} (hl : (m.length : Int) = r.cu.last + 1) (h0 : ∀ x ∈ m, 0 ≤ x) : m ∈ sureL r ↔ rSureM r (rTruths r.cu) m = true := by
  have hla := k.A.k0.last
  rw [sureL, List.mem_filter]
  constructor
  · rintro ⟨h1, h2⟩
    rw [sure_dig k h1]; exact h2
  · intro h
    have hc : rCanBe r m = true := by rw [rSureM, Bool.and_eq_true] at h; exact h.1
    have hd : m ∈ digs r.pl (r.cu.last + 1).toNat := digs_mem.2 ⟨by omega, fun x hx => by
      obtain ⟨j, hj, e⟩ := List.getElem_of_mem hx
      have h2 := (canBe_le hc hj).1
      have e2 : gi m j = x := by rw [← e]; simp only [gi, Int.toNat_natCast, List.getD_eq_getElem?_getD, List.getElem?_eq_getElem hj]; rfl
      exact ⟨h0 x hx, by omega⟩⟩
    exact ⟨hd, by rw [← sure_dig k hd]; exact h⟩
theorem most_le {r : Rm} (k : RmOk r) (hs : sSureN r zL = true) {m : List Int} (hl : (m.length : Int) = r.cu.last + 1) (h0 : ∀ x ∈ m, 0 ≤ x) (h : rSureM r (rTruths r.cu) m = true) :
    m.sum < (mostF r).sum ∨ (m.sum = (mostF r).sum ∧ lBefore m (mostF r) = false) := by
  rcases (mostF_spec k hs).2 m ((mem_sureL k hl h0).2 h) with h1 | ⟨h1, h2⟩
  · exact .inl h1
  · refine .inr ⟨h1, ?_⟩
    rcases h2 with h2 | h2
    · rw [h2]
      cases e : lBefore m m with
      | false => rfl
      | true => have := lBefore_asymm e; rw [e] at this; cases this
    · exact lBefore_asymm h2
theorem most_self {r : Rm} (k : RmOk r) (hs : sSureN r zL = true) : rSureM r (rTruths r.cu) (mostF r) = true := by
  have h := (mostF_spec k hs).1
  have hm := mostF_ok k hs
  have hla := k.A.k0.last
  exact (mem_sureL k (by omega) fun x hx => (hm.2 x hx).1).1 h
theorem plan_most {r : Rm} (k : RmOk r) {p : List Int} (h : p ∈ plL r []) : sSureN r zL = true ∧ (r.ba.length : Int) ≤ (mostF r).sum := by
  have hla := k.A.k0.last
  have hz := ((plan_give k).1 (fun e => by rw [e] at h; cases h)).1
  obtain ⟨h1, h2⟩ := (plL_mem k).1 h
  obtain ⟨hl, hr⟩ := are_ok k h1
  have hm := num_ref k hr (m := addC (zerosN (r.cu.last + 1).toNat) p) rfl
  have hzl : (zerosN (r.cu.last + 1).toNat).length = (r.cu.last + 1).toNat := by simp [zerosN]
  have hml : ((addC (zerosN (r.cu.last + 1).toNat) p).length : Int) = r.cu.last + 1 := by rw [addC_len, hzl]; omega
  have hsum := addC_sum p (zerosN (r.cu.last + 1).toNat) fun y hy => by have := hr y hy; rw [hzl]; omega
  have hz0 : (zerosN (r.cu.last + 1).toNat).sum = 0 := by
    have : ∀ n : Nat, (zerosN n).sum = 0 := fun n => by
      induction n with
      | zero => rfl
      | succ n ih => rw [zerosN, List.replicate_succ, List.sum_cons]; rw [zerosN] at ih; omega
    exact this _
  have h0 : ∀ x ∈ addC (zerosN (r.cu.last + 1).toNat) p, 0 ≤ x := fun x hx => by
    obtain ⟨j, hj, e⟩ := List.getElem_of_mem hx
    have e2 : gi (addC (zerosN (r.cu.last + 1).toNat) p) j = x := by rw [← e]; simp only [gi, Int.toNat_natCast, List.getD_eq_getElem?_getD, List.getElem?_eq_getElem hj]; rfl
    have := num_same k hr j
    omega
  rw [hm.2.2] at h2
  refine ⟨hz, ?_⟩
  rcases most_le k hz hml h0 h2 with h3 | ⟨h3, _⟩ <;> omega
theorem planR_eq {r : Rm} (k : RmOk r) : ((sPlanR r).2 = 0 ∨ (sPlanR r).2 = 10) ∧ ((sPlanR r).2 = 0 → plL r [] ≠ []) := by
  rw [sPlanR, if_pos k.check]
  cases h : plL r [] with
  | nil => exact ⟨.inr rfl, fun h => by cases h⟩
  | cons p l => exact ⟨.inl rfl, fun _ => by simp⟩
theorem rBk_zero (r : Rm) (n : Nat) : rBk r (List.replicate n 0) = List.replicate n 0 := by simp [rBk]
theorem canBe_prom {r : Rm} (k : RmOk r) {m : List Int} (hl : (m.length : Int) = r.cu.last + 1) (h0 : ∀ x ∈ m, 0 ≤ x) (h : rCanBe r m = true) : sPromised r.cu (rBk r m) = true := by
  refine promised_of (by simp [rBk]; omega) fun x hx => ?_
  have hw := k.A.k0.want
  have hb := k.bu
  obtain ⟨j, hj, e⟩ := List.getElem_of_mem hx
  have hj2 : j < m.length := by simpa [rBk] using hj
  have e2 : gi (rBk r m) j = x := by rw [← e]; simp only [gi, Int.toNat_natCast, List.getD_eq_getElem?_getD, List.getElem?_eq_getElem hj]; rfl
  rw [rBk_gi r m hj2] at e2
  have h1 := canBe_le h hj2
  have h2 := hw.2 _ (gi_mem (l := r.cu.want) (i := j) (by omega))
  have h3 := h0 _ (gi_mem hj2)
  have h4 := Int.mul_nonneg (show 0 ≤ r.bu by omega) h3
  omega
theorem more_canBe {r : Rm} (k : RmOk r) {m : List Int} (hl : (m.length : Int) = r.cu.last + 1) (h0 : ∀ x ∈ m, 0 ≤ x) (h : rCanBe r m = true) : sMoreA r.cu (rBk r m) = (rKe r (rTruths r.cu) m, 0) :=
  more_eq k.A k.ask (canBe_prom k hl h0 h)
theorem zero_canBe {r : Rm} (k : RmOk r) : rCanBe r (List.replicate (r.cu.last + 1).toNat 0) = true := by
  have hw := k.A.k0.want
  have hp := k.pl
  simp only [rCanBe, List.all_eq_true, List.mem_range, Bool.and_eq_true, decide_eq_true_eq, List.length_replicate, gi_zeros]
  intro i hi
  have h2 := hw.2 _ (gi_mem (l := r.cu.want) (i := i) (by omega))
  omega
theorem zero_sure {r : Rm} (k : RmOk r) : sSureN r zL = decide (rKe r (rTruths r.cu) (List.replicate (r.cu.last + 1).toNat 0) = 1) := by
  have hl := k.A.k0.last
  obtain ⟨l, hz⟩ := digs_zero k.pl.1 (r.cu.last + 1).toNat
  have h := sure_dig k (x := List.replicate (r.cu.last + 1).toNat 0) (by rw [hz]; simp)
  rw [pad_zero _ (by omega), rSureM, zero_canBe k, Bool.true_and] at h
  exact h.symm
end Go.Vm

set_option linter.unusedVariables false
set_option linter.unusedSimpArgs false
set_option maxRecDepth 100000
namespace Go.Vm
open Go.Proofs
set_option maxHeartbeats 8000000 in
theorem l_BathNoMore (r : Rm) (hl : I64 r.cu.last) (tried : Int) (htr : 0 ≤ tried ∧ tried ≤ 65535) :
    Vm.Fn Tryz.prog 10 [.agg r.cs, .int .u16 tried] [] fun v h' => v = .bool true := by
  refine Fn.body tabOk Tryz.func10 rfl (Nat.le_of_ble_eq_true rfl) (Ks.ok (fz := (fzn [])) (cl := (cln [(4, .d tg0 [cP, cP, cP, cP, cP, cP, cP, cP]), (5, .d (tgL [(41, 1)]) [cP, cP, cP, cP, cP, cP, cP, some ([1], [1]), none, cP, cP, cP, cP, cP]), (12, .d tg0 [cP, cP, cP, cP, cP, cP, cP, cP, cP, cP, cP, cP]), (16, .d tg0 [cP, cP, cP, cP, cP, cP, cP, cP, cP, cP, cP, cP, cP, cP, cP, cP]), (17, .d tg0 [cP, cP, cP, cP, cP, cP, cP, cP, cP, cP, cP]), (18, .d tg0 [cP, cP, cP, cP, cP, cP, cP, cP, cP, cP, cP, cP])])) tabOk mixed ?_)
  generalize hQ : FnPost tt Tryz.f10 _ _ = Q
  simp only [Tryz.f10, argsEnv, Nat.reduceAdd]
  simp only [gos, eq_self, Nat.reduceLT, Nat.reduceEqDiff, reduceCtorEq, reduceIte, ↓reduceIte, tt, vgo, vout, vguard, callOf, vop, ev, cv, vload, newRow, rms]
  refine Cl.pu (c_ready9 r hl) ?_ rfl (by simp only [V.into, intoL, Bool.and_true, rm_into])
  cases hrd : sReadyR r with
  | false =>
    simp only [gos, eq_self, Nat.reduceLT, Nat.reduceEqDiff, reduceIte, ↓reduceIte, vgo, vout, vguard, callOf, vop, ev]
    refine Cl.pu c_awake9 ?_
    simp only [gos, eq_self, Nat.reduceLT, reduceIte, ↓reduceIte, vgo, vout, vguard, callOf, vop, ev]
    subst hQ
    exact FnPost.plain trivial (v := .bool true) (fun h2 e => by rfl) WkV.refl rfl
  | true =>
    obtain ⟨hr, h0, k, hb4, hp3⟩ := ready9_ok hl hrd
    have k0 := k.A.k0
    have hla := k0.last
    have hpl := k.pl
    have hO := rOthers_le k
    have hOi := rOthers_int r hpl.1
    have hwc := hr.cu
    have hone : oneL r.cu.cs = true := rfl
    have wT := i64_in (show -9223372036854775808 ≤ tried by omega) (show tried ≤ 9223372036854775807 by omega)
    have htm := tmod_le htr.1 (s := ((rOthers r : Nat) : Int)) (by omega)
    have hoz : ¬ ((rOthers r : Nat) : Int) = 0 := by omega
    generalize hu : tried.tmod ((rOthers r : Nat) : Int) = u at htm
    have hx := rOther_ok k (n := u) htm.1
    simp only [gos, eq_self, Nat.reduceLT, Nat.reduceEqDiff, reduceCtorEq, reduceIte, ↓reduceIte, tt, vgo, vout, vguard, callOf, vop, ev, vload, rms]
    refine Cl.pu (c_Room r hr) ?_ rfl (by simp only [V.into, intoL, Bool.and_true, rm_into])
    simp only [gos, eq_self, Nat.reduceLT, reduceIte, ↓reduceIte, vgo, vout, vguard, callOf, ev]
    refine Cl.pu (c_bMost r hr) ?_ rfl (by simp only [V.into, intoL, Bool.and_true, rm_into])
    simp only [gos, eq_self, Nat.reduceLT, Nat.reduceEqDiff, reduceIte, ↓reduceIte, vgo, vout, vguard, callOf, vop, ev]
    refine Wr.draw (by kernel_rfl) ?_
    simp only [gos, eq_self, Nat.reduceLT, Nat.reduceEqDiff, Nat.reduceAdd, reduceCtorEq, reduceIte, ↓reduceIte, tt, vgoD, voutD, vclsOk, vids, mayWrite, V.ids, vguard, callOf, vop, ev, vload, clsAt, rms, wT]
    refine CD.pu (c_r9Others r hla hpl) ?_ rfl (by simp only [V.into, intoL, Bool.and_true, rm_into])
    rw [← hOi]
    simp only [gos, eq_self, Nat.reduceLT, Nat.reduceEqDiff, reduceIte, ↓reduceIte, vgoD, voutD, vclsOk, vids, mayWrite, vguard, callOf, vop, ev, vbin, vint, isShift, isNilConst, hoz, hu]
    refine CD.pu (c_r9Other r k u (by omega)) ?_ rfl (by simp only [V.into, intoL, Bool.and_true, rm_into])
    generalize rOther r u = x at hx
    have hxM := other_mok k hx
    simp only [gos, eq_self, Nat.reduceLT, Nat.reduceEqDiff, reduceIte, ↓reduceIte, vgoD, voutD, vclsOk, vids, mayWrite, vguard, callOf, vop, ev]
    refine Wr.draw (by kernel_rfl) ?_
    have hge : 0 ≤ r.cu.last + 1 := by omega
    have hle : r.cu.last + 1 ≤ 1000000 := by omega
    simp only [gos, eq_self, Nat.reduceLT, Nat.reduceEqDiff, Nat.reduceAdd, Nat.reduceLeDiff, reduceCtorEq, reduceIte, ↓reduceIte, tt, vgoD, voutD, vclsOk, vids, mayWrite, V.ids, vguard, callOf, vop, ev, vload, clsAt, rms]
    refine CD.pu (c_lCopper r.cu hwc) ?_ rfl (by simp only [V.into, intoL, cu_into, Bool.and_true])
    simp only [gos, eq_self, Nat.reduceLT, Nat.reduceEqDiff, Nat.reduceLeDiff, reduceCtorEq, reduceIte, ↓reduceIte, tt, vgoD, voutD, vclsOk, vids, mayWrite, V.ids, vguard, callOf, vop, ev, cv, vbin, vint, isShift, isNilConst, vload, rms, hge, hle, i64_in (show -9223372036854775808 ≤ r.cu.last + 1 by omega) (show r.cu.last + 1 ≤ 9223372036854775807 by omega)]
    have htk : List.take (r.cu.last + 1).toNat (cI (List.replicate (r.cu.last + 1).toNat 0)) = cI (List.replicate (r.cu.last + 1).toNat 0) := List.take_of_length_le (by rw [cI_len]; simp)
    refine CD.ev _ _ (Ev.lend 41 (ver := 0) (cs := cI (List.replicate (r.cu.last + 1).toNat 0)) (args' := [.agg r.cu.cs, vI (List.replicate (r.cu.last + 1).toNat 0)]) (by rw [← zeros_vi]; rfl) (cI_into _ _) rfl rfl ?_
      (c_More r.cu hwc (List.replicate (r.cu.last + 1).toNat 0) (by simp; omega)) (fun _ _ _ h => by simpa only [VR, VRL] using h) rfl (by simp only [V.into, intoL, vI_into, cu_into, Bool.and_true])) ?_
    · simp only [frzL, V.frz, cu_frz, if_true, List.drop_zero, Nat.mul_one, htk, vI]
      rw [List.length_replicate]
    have hz0 : ∀ y ∈ List.replicate (r.cu.last + 1).toNat (0 : Int), 0 ≤ y := fun y hy => by rw [(List.mem_replicate.1 hy).2]; omega
    have hmz := more_canBe k (m := List.replicate (r.cu.last + 1).toNat 0) (by simp; omega) hz0 (zero_canBe k)
    rw [rBk_zero] at hmz
    have hzs := zero_sure k
    generalize rKe r (rTruths r.cu) (List.replicate (r.cu.last + 1).toNat 0) = K at hmz hzs
    rw [hmz, mostR_eq k]
    have y0 : ((0 : Int) != 0) = false := rfl
    have y1 : decide ((0 : Int) = 0) = true := rfl
    have y2 : decide ((10 : Int) = 0) = false := rfl
    have y3 : ((10 : Int) != 0) = true := rfl
    have y4 : ((10 : Int) != 10) = false := rfl
    cases hs : sSureN r zL with
    | false =>
      rw [hs] at hzs
      have hzs := hzs.symm
      simp only [gos, eq_self, Nat.reduceLT, Nat.reduceEqDiff, reduceIte, ↓reduceIte, tt, vgo, vout, vgoD, voutD, vclsOk, vids, mayWrite, vguard, callOf, vop, ev, cv, vbin, vint, isShift, isNilConst, y2, y3, hzs]
      refine Cl.pu c_awake9 ?_
      simp only [gos, eq_self, Nat.reduceLT, reduceIte, ↓reduceIte, vgo, vout, vguard, callOf, vop, ev]
      subst hQ
      exact FnPost.plain trivial (v := .bool true) (fun h2 e => by rfl) WkV.refl rfl
    | true =>
      rw [hs] at hzs
      have hzs := hzs.symm
      obtain ⟨m1, m2⟩ := mostF_ok k hs
      have mS := most_self k hs
      have mB : rCanBe r (mostF r) = true := by rw [rSureM, Bool.and_eq_true] at mS; exact mS.1
      have mK : rKe r (rTruths r.cu) (mostF r) = 1 := by rw [rSureM, Bool.and_eq_true, decide_eq_true_eq] at mS; exact mS.2
      have mL : ((mostF r).length : Int) = r.cu.last + 1 := by omega
      have m0 : ∀ y ∈ mostF r, 0 ≤ y := fun y hy => (m2 y hy).1
      have mM := more_canBe k mL m0 mB
      rw [mK] at mM
      have hmx : ∀ {y : List Int}, (y.length : Int) = r.cu.last + 1 → (∀ z ∈ y, 0 ≤ z) → rSureM r (rTruths r.cu) y = true → y.sum < (mostF r).sum ∨ (y.sum = (mostF r).sum ∧ lBefore y (mostF r) = false) := fun h1 h2 h3 => most_le k hs h1 h2 h3
      have hpm : ∀ {p : List Int}, p ∈ plL r [] → (r.ba.length : Int) ≤ (mostF r).sum := fun h => (plan_most k h).2
      generalize mostF r = M at *
      have z1 : ((M.length : Int) != r.cu.last + 1) = false := by simp [mL]
      have hMl : (M.length : Int) ≤ 100000 := by omega
      simp only [gos, eq_self, Nat.reduceLT, Nat.reduceEqDiff, reduceCtorEq, reduceIte, ↓reduceIte, tt, vgo, vout, vgoD, voutD, vclsOk, vids, mayWrite, vguard, callOf, vop, ev, cv, vbin, vint, isShift, isNilConst, vload, vlen, hzs, vI, rms, i64_in (show -9223372036854775808 ≤ r.cu.last + 1 by omega) (show r.cu.last + 1 ≤ 9223372036854775807 by omega), z1]
      refine Cl.pu (c_r9CanBe r M (by have := k.bu; omega) hMl (by have := k0.want.1; omega) (fun y hy => by have := k0.want.2 y hy; omega) (fun y hy => by have := m2 y hy; omega)) ?_ rfl (by simp only [V.into, intoL, cI_into, Bool.and_true, rm_into])
      rw [mB]
      simp only [gos, eq_self, Nat.reduceLT, Nat.reduceEqDiff, reduceIte, ↓reduceIte, vgo, vout, vguard, callOf, vop, ev]
      refine Wr.draw (by kernel_rfl) ?_
      simp only [gos, eq_self, Nat.reduceLT, Nat.reduceEqDiff, Nat.reduceAdd, Nat.reduceLeDiff, reduceCtorEq, reduceIte, ↓reduceIte, tt, vgoD, voutD, vclsOk, vids, mayWrite, V.ids, vguard, callOf, vop, ev, vload, clsAt, rms]
      refine CD.pu (c_lCopper r.cu hwc) ?_ rfl (by simp only [V.into, intoL, cu_into, Bool.and_true])
      simp only [gos, eq_self, Nat.reduceLT, Nat.reduceEqDiff, reduceCtorEq, reduceIte, ↓reduceIte, tt, vgoD, voutD, vclsOk, vids, mayWrite, V.ids, vguard, callOf, vop, ev, vload, rms]
      refine CD.pu (c_r9Buckets r M (by have := k.bu; omega) hMl (fun y hy => by have := m2 y hy; omega)) ?_ rfl (by simp only [V.into, intoL, cI_into, Bool.and_true, rm_into])
      simp only [gos, eq_self, Nat.reduceLT, Nat.reduceEqDiff, reduceIte, ↓reduceIte, vgoD, voutD, vguard, callOf, ev]
      refine CD.pu (c_More r.cu hwc (rBk r M) (by simp [rBk]; omega)) ?_ rfl (by simp only [V.into, intoL, vI_into, cu_into, Bool.and_true])
      rw [mM]
      have y5 : ((1 : Int) != 1) = false := rfl
      simp only [gos, eq_self, Nat.reduceLT, Nat.reduceEqDiff, reduceCtorEq, reduceIte, ↓reduceIte, tt, vgo, vout, vgoD, voutD, vclsOk, vids, mayWrite, vguard, callOf, vop, ev, cv, vbin, vint, isShift, isNilConst, vload, rms]
      refine Cl.pu (c_Room r hr) ?_ rfl (by simp only [V.into, intoL, Bool.and_true, rm_into])
      simp only [gos, eq_self, Nat.reduceLT, reduceIte, ↓reduceIte, vgo, vout, vguard, callOf, ev]
      refine Cl.pu (c_bPlan r hr) ?_ rfl (by simp only [V.into, intoL, Bool.and_true, rm_into])
      obtain ⟨hP1, hP2⟩ := planR_eq k
      have hsum := c_r9Sum M (by omega) (fun y hy => by have := m2 y hy; omega)
      rw [sumT_sum] at hsum
      have hsx := c_r9Sum x (by omega) (fun y hy => by have := hx.2 y hy; omega)
      rw [sumT_sum] at hsx
      have hcb := c_r9CanBe r x (by have := k.bu; omega) (by omega) (by have := k0.want.1; omega) (fun y hy => by have := k0.want.2 y hy; omega) (fun y hy => by have := hx.2 y hy; omega)
      have hle2 : (sPlanR r).2 = 0 → (r.ba.length : Int) ≤ M.sum := fun h => by
        obtain ⟨p, hp⟩ := List.exists_mem_of_ne_nil _ (hP2 h)
        exact hpm hp
      generalize (sPlanR r).2 = E at *
      generalize (sPlanR r).1 = PP at *
      simp only [gos, eq_self, Nat.reduceLT, Nat.reduceEqDiff, reduceIte, ↓reduceIte, vgo, vout, vguard, callOf, vop, ev]
      refine Wr.draw (by kernel_rfl) ?_
      rcases hP1 with rfl | rfl
      · have hb := hle2 rfl
        have hnb : ¬ M.sum < (r.ba.length : Int) := by omega
        simp only [gos, eq_self, Nat.reduceLT, Nat.reduceEqDiff, Nat.reduceAdd, reduceCtorEq, reduceIte, ↓reduceIte, tt, vgoD, voutD, vclsOk, vids, mayWrite, V.ids, vguard, callOf, vop, ev, cv, vbin, vint, isShift, isNilConst, vload, vlen, clsAt, rms, vR]
        refine CD.pu hsum ?_ rfl (by simp only [V.into, intoL, cI_into, Bool.and_true])
        simp only [gos, eq_self, Nat.reduceLT, Nat.reduceEqDiff, reduceCtorEq, reduceIte, ↓reduceIte, tt, vgoD, voutD, vclsOk, vids, mayWrite, V.ids, vguard, callOf, vop, ev, vbin, vint, isShift, isNilConst, vload, rms, hnb]
        cases hcx : rCanBe r x with
        | false =>
          rw [hcx] at hcb
          refine CD.pu hcb ?_ rfl (by simp only [V.into, intoL, cI_into, Bool.and_true, rm_into])
          simp only [gos, eq_self, Nat.reduceLT, Nat.reduceEqDiff, reduceIte, ↓reduceIte, vgoD, voutD, vclsOk, vids, mayWrite, vguard, callOf, vop, ev]
          refine Wr.draw (by kernel_rfl) ?_
          simp only [gos, eq_self, Nat.reduceLT, Nat.reduceEqDiff, Nat.reduceAdd, reduceCtorEq, reduceIte, ↓reduceIte, tt, vgoD, voutD, vclsOk, vids, mayWrite, V.ids, vguard, callOf, vop, ev, cv, vbin, vint, isShift, isNilConst, vload, vlen, clsAt, rms, vR]
          refine CD.pu hsum ?_ rfl (by simp only [V.into, intoL, cI_into, Bool.and_true])
          simp only [gos, eq_self, Nat.reduceLT, Nat.reduceEqDiff, reduceIte, ↓reduceIte, vgoD, voutD, vclsOk, vids, mayWrite, vguard, callOf, vop, ev, vbin, vint, isShift, isNilConst, hb]
          subst hQ
          exact FnPost.plain trivial (v := .bool true) (fun h2 e => by rfl) WkV.refl rfl
        | true =>
          rw [hcx] at hcb
          refine CD.pu hcb ?_ rfl (by simp only [V.into, intoL, cI_into, Bool.and_true, rm_into])
          simp only [gos, eq_self, Nat.reduceLT, Nat.reduceEqDiff, reduceIte, ↓reduceIte, vgoD, voutD, vclsOk, vids, mayWrite, vguard, callOf, vop, ev]
          refine Wr.draw (by kernel_rfl) ?_
          simp only [gos, eq_self, Nat.reduceLT, Nat.reduceEqDiff, Nat.reduceAdd, Nat.reduceLeDiff, reduceCtorEq, reduceIte, ↓reduceIte, tt, vgoD, voutD, vclsOk, vids, mayWrite, V.ids, vguard, callOf, vop, ev, vload, clsAt, rms]
          refine CD.pu (c_lCopper r.cu hwc) ?_ rfl (by simp only [V.into, intoL, cu_into, Bool.and_true])
          simp only [gos, eq_self, Nat.reduceLT, Nat.reduceEqDiff, reduceCtorEq, reduceIte, ↓reduceIte, tt, vgoD, voutD, vclsOk, vids, mayWrite, V.ids, vguard, callOf, vop, ev, vload, rms]
          refine CD.pu (c_r9Buckets r x (by have := k.bu; omega) (by omega) (fun y hy => by have := hx.2 y hy; omega)) ?_ rfl (by simp only [V.into, intoL, cI_into, Bool.and_true, rm_into])
          simp only [gos, eq_self, Nat.reduceLT, Nat.reduceEqDiff, reduceIte, ↓reduceIte, vgoD, voutD, vguard, callOf, ev]
          refine CD.pu (c_More r.cu hwc (rBk r x) (by simp [rBk]; omega)) ?_ rfl (by simp only [V.into, intoL, vI_into, cu_into, Bool.and_true])
          have xM := more_canBe k hx.1 (fun y hy => (hx.2 y hy).1) hcx
          have hxs := fun (h : decide (rKe r (rTruths r.cu) x = 1) = true) => hmx hx.1 (fun y hy => (hx.2 y hy).1) (show rSureM r (rTruths r.cu) x = true by rw [rSureM, hcx, h]; rfl)
          rw [xM]
          generalize rKe r (rTruths r.cu) x = W at hxs
          by_cases hW : W = 1
          case neg =>
            have e1 : (W != 1) = true := by simp [hW]
            simp only [gos, eq_self, Nat.reduceLT, Nat.reduceEqDiff, reduceIte, ↓reduceIte, vgo, vout, vgoD, voutD, vclsOk, vids, mayWrite, vguard, callOf, vop, ev, cv, vbin, vint, isShift, isNilConst, e1]
            refine Cl.pu c_awake9 ?_
            simp only [gos, eq_self, Nat.reduceLT, Nat.reduceEqDiff, reduceIte, ↓reduceIte, vgo, vout, vguard, callOf, vop, ev]
            subst hQ
            exact FnPost.plain trivial (v := .bool true) (fun h2 e => by rfl) WkV.refl rfl
          subst hW
          simp only [gos, eq_self, Nat.reduceLT, Nat.reduceEqDiff, reduceIte, ↓reduceIte, vgo, vout, vgoD, voutD, vclsOk, vids, mayWrite, vguard, callOf, vop, ev, cv, vbin, vint, isShift, isNilConst]
          refine Cl.pu hsx ?_ rfl (by simp only [V.into, intoL, cI_into, Bool.and_true])
          simp only [gos, eq_self, Nat.reduceLT, Nat.reduceEqDiff, reduceIte, ↓reduceIte, vgo, vout, vguard, callOf, vop, ev]
          refine Cl.pu hsum ?_ rfl (by simp only [V.into, intoL, cI_into, Bool.and_true])
          rcases hxs rfl with hlt | ⟨heq, hbf⟩
          · simp only [gos, eq_self, Nat.reduceLT, Nat.reduceEqDiff, reduceIte, ↓reduceIte, vgo, vout, vguard, callOf, vop, ev, cv, vbin, vint, isShift, isNilConst, hlt]
            refine Cl.pu c_awake9 ?_
            simp only [gos, eq_self, Nat.reduceLT, Nat.reduceEqDiff, reduceIte, ↓reduceIte, vgo, vout, vguard, callOf, vop, ev]
            subst hQ
            exact FnPost.plain trivial (v := .bool true) (fun h2 e => by rfl) WkV.refl rfl
          · have hnl : ¬ x.sum < M.sum := by omega
            have heqd : decide (x.sum = M.sum) = true := by simp [heq]
            simp only [gos, eq_self, Nat.reduceLT, Nat.reduceEqDiff, reduceIte, ↓reduceIte, vgo, vout, vguard, callOf, vop, ev, vbin, vint, isShift, isNilConst, hnl]
            refine Cl.pu hsx ?_ rfl (by simp only [V.into, intoL, cI_into, Bool.and_true])
            simp only [gos, eq_self, Nat.reduceLT, Nat.reduceEqDiff, reduceIte, ↓reduceIte, vgo, vout, vguard, callOf, vop, ev]
            refine Cl.pu hsum ?_ rfl (by simp only [V.into, intoL, cI_into, Bool.and_true])
            simp only [gos, eq_self, Nat.reduceLT, Nat.reduceEqDiff, reduceIte, ↓reduceIte, vgo, vout, vguard, callOf, vop, ev, vbin, vint, isShift, isNilConst, heqd]
            refine Cl.pu (c_rBefore x M (by omega)) ?_ rfl (by simp only [V.into, intoL, cI_into, Bool.and_true])
            rw [hbf]
            simp only [gos, eq_self, Nat.reduceLT, Nat.reduceEqDiff, reduceIte, ↓reduceIte, vgo, vout, vguard, callOf, vop, ev]
            refine Cl.pu c_awake9 ?_
            simp only [gos, eq_self, Nat.reduceLT, Nat.reduceEqDiff, reduceIte, ↓reduceIte, vgo, vout, vguard, callOf, vop, ev]
            subst hQ
            exact FnPost.plain trivial (v := .bool true) (fun h2 e => by rfl) WkV.refl rfl
      · simp only [gos, eq_self, Nat.reduceLT, Nat.reduceEqDiff, Nat.reduceAdd, reduceCtorEq, reduceIte, ↓reduceIte, tt, vgoD, voutD, vclsOk, vids, mayWrite, V.ids, vguard, callOf, vop, ev, cv, vbin, vint, isShift, isNilConst, vload, clsAt, rms, y2]
        cases hcx : rCanBe r x with
        | false =>
          rw [hcx] at hcb
          refine CD.pu hcb ?_ rfl (by simp only [V.into, intoL, cI_into, Bool.and_true, rm_into])
          simp only [gos, eq_self, Nat.reduceLT, Nat.reduceEqDiff, reduceIte, ↓reduceIte, vgoD, voutD, vclsOk, vids, mayWrite, vguard, callOf, vop, ev]
          refine Wr.draw (by kernel_rfl) ?_
          simp only [gos, eq_self, Nat.reduceLT, Nat.reduceEqDiff, Nat.reduceAdd, reduceIte, ↓reduceIte, vgoD, voutD, vclsOk, vids, mayWrite, vguard, callOf, vop, ev, cv, vbin, vint, isShift, isNilConst, clsAt, y3]
          subst hQ
          exact FnPost.plain trivial (v := .bool true) (fun h2 e => by rfl) WkV.refl rfl
        | true =>
          rw [hcx] at hcb
          refine CD.pu hcb ?_ rfl (by simp only [V.into, intoL, cI_into, Bool.and_true, rm_into])
          simp only [gos, eq_self, Nat.reduceLT, Nat.reduceEqDiff, reduceIte, ↓reduceIte, vgoD, voutD, vclsOk, vids, mayWrite, vguard, callOf, vop, ev]
          refine Wr.draw (by kernel_rfl) ?_
          simp only [gos, eq_self, Nat.reduceLT, Nat.reduceEqDiff, Nat.reduceAdd, Nat.reduceLeDiff, reduceCtorEq, reduceIte, ↓reduceIte, tt, vgoD, voutD, vclsOk, vids, mayWrite, V.ids, vguard, callOf, vop, ev, vload, clsAt, rms]
          refine CD.pu (c_lCopper r.cu hwc) ?_ rfl (by simp only [V.into, intoL, cu_into, Bool.and_true])
          simp only [gos, eq_self, Nat.reduceLT, Nat.reduceEqDiff, reduceCtorEq, reduceIte, ↓reduceIte, tt, vgoD, voutD, vclsOk, vids, mayWrite, V.ids, vguard, callOf, vop, ev, vload, rms]
          refine CD.pu (c_r9Buckets r x (by have := k.bu; omega) (by omega) (fun y hy => by have := hx.2 y hy; omega)) ?_ rfl (by simp only [V.into, intoL, cI_into, Bool.and_true, rm_into])
          simp only [gos, eq_self, Nat.reduceLT, Nat.reduceEqDiff, reduceIte, ↓reduceIte, vgoD, voutD, vguard, callOf, ev]
          refine CD.pu (c_More r.cu hwc (rBk r x) (by simp [rBk]; omega)) ?_ rfl (by simp only [V.into, intoL, vI_into, cu_into, Bool.and_true])
          have xM := more_canBe k hx.1 (fun y hy => (hx.2 y hy).1) hcx
          have hxs := fun (h : decide (rKe r (rTruths r.cu) x = 1) = true) => hmx hx.1 (fun y hy => (hx.2 y hy).1) (show rSureM r (rTruths r.cu) x = true by rw [rSureM, hcx, h]; rfl)
          rw [xM]
          generalize rKe r (rTruths r.cu) x = W at hxs
          by_cases hW : W = 1
          case neg =>
            have e1 : (W != 1) = true := by simp [hW]
            simp only [gos, eq_self, Nat.reduceLT, Nat.reduceEqDiff, reduceIte, ↓reduceIte, vgo, vout, vgoD, voutD, vclsOk, vids, mayWrite, vguard, callOf, vop, ev, cv, vbin, vint, isShift, isNilConst, e1]
            refine Cl.pu c_awake9 ?_
            simp only [gos, eq_self, Nat.reduceLT, Nat.reduceEqDiff, reduceIte, ↓reduceIte, vgo, vout, vguard, callOf, vop, ev]
            subst hQ
            exact FnPost.plain trivial (v := .bool true) (fun h2 e => by rfl) WkV.refl rfl
          subst hW
          simp only [gos, eq_self, Nat.reduceLT, Nat.reduceEqDiff, reduceIte, ↓reduceIte, vgo, vout, vgoD, voutD, vclsOk, vids, mayWrite, vguard, callOf, vop, ev, cv, vbin, vint, isShift, isNilConst]
          refine Cl.pu hsx ?_ rfl (by simp only [V.into, intoL, cI_into, Bool.and_true])
          simp only [gos, eq_self, Nat.reduceLT, Nat.reduceEqDiff, reduceIte, ↓reduceIte, vgo, vout, vguard, callOf, vop, ev]
          refine Cl.pu hsum ?_ rfl (by simp only [V.into, intoL, cI_into, Bool.and_true])
          rcases hxs rfl with hlt | ⟨heq, hbf⟩
          · simp only [gos, eq_self, Nat.reduceLT, Nat.reduceEqDiff, reduceIte, ↓reduceIte, vgo, vout, vguard, callOf, vop, ev, cv, vbin, vint, isShift, isNilConst, hlt]
            refine Cl.pu c_awake9 ?_
            simp only [gos, eq_self, Nat.reduceLT, Nat.reduceEqDiff, reduceIte, ↓reduceIte, vgo, vout, vguard, callOf, vop, ev]
            subst hQ
            exact FnPost.plain trivial (v := .bool true) (fun h2 e => by rfl) WkV.refl rfl
          · have hnl : ¬ x.sum < M.sum := by omega
            have heqd : decide (x.sum = M.sum) = true := by simp [heq]
            simp only [gos, eq_self, Nat.reduceLT, Nat.reduceEqDiff, reduceIte, ↓reduceIte, vgo, vout, vguard, callOf, vop, ev, vbin, vint, isShift, isNilConst, hnl]
            refine Cl.pu hsx ?_ rfl (by simp only [V.into, intoL, cI_into, Bool.and_true])
            simp only [gos, eq_self, Nat.reduceLT, Nat.reduceEqDiff, reduceIte, ↓reduceIte, vgo, vout, vguard, callOf, vop, ev]
            refine Cl.pu hsum ?_ rfl (by simp only [V.into, intoL, cI_into, Bool.and_true])
            simp only [gos, eq_self, Nat.reduceLT, Nat.reduceEqDiff, reduceIte, ↓reduceIte, vgo, vout, vguard, callOf, vop, ev, vbin, vint, isShift, isNilConst, heqd]
            refine Cl.pu (c_rBefore x M (by omega)) ?_ rfl (by simp only [V.into, intoL, cI_into, Bool.and_true])
            rw [hbf]
            simp only [gos, eq_self, Nat.reduceLT, Nat.reduceEqDiff, reduceIte, ↓reduceIte, vgo, vout, vguard, callOf, vop, ev]
            refine Cl.pu c_awake9 ?_
            simp only [gos, eq_self, Nat.reduceLT, Nat.reduceEqDiff, reduceIte, ↓reduceIte, vgo, vout, vguard, callOf, vop, ev]
            subst hQ
            exact FnPost.plain trivial (v := .bool true) (fun h2 e => by rfl) WkV.refl rfl
end Go.Vm
