import Derived.Test.YtjppikcigeiomaaGreatB4
import Derived.Test.YtjppikcigeiomaaGreatRows
import Derived.WalkKit
import Derived.ProofKit
import Derived.OpenShut
import Derived.ShutString
import Derived.ChangeOld
import Derived.Below
set_option linter.unusedVariables false
set_option linter.unusedSimpArgs false
set_option maxRecDepth 100000
namespace Go.Vm
open Go.Proofs Go.ChangeShapes Go.WideShapes Go.ChangeAt Go.RowKit
/-! ### from a contract to the row -/
theorem hrel0 (w : World) : HRel (gh0 w) [] w :=
  ⟨fun B o v e => e, fun i e he => (by cases he), fun i j e e' B c c' he => (by cases he), fun i e B c o he => (by cases he), fun i v h => absurd rfl h⟩
theorem calls_of_fn {P : Program} {f : FuncId} {vs : List V} {xs : List Value} {w : World} (c : Fn P f vs [] fun v h' => v = .bool true) (hv : VRL (gh0 w) vs xs) :
    Calls P f xs.toArray w fun e w' => e = .returned (.bool true) ∧ Below w.heap.size w w' := fun cs => by
  obtain ⟨v, h', vc, g', w', fr, rfl, st, hf, hl, hvc, H', t, le⟩ := c (gh0 w) w xs hv (hrel0 w) cs
  simp only [VR] at hvc
  subst hvc
  exact ⟨.returned (.bool true), w', fr, ⟨rfl, t.os, t.tape, t.output, t.size, fun k hk => t.mods k hk (by rintro ⟨i, e, c, he, _⟩; cases he)⟩, st, hf, hl⟩
section
variable {H : Type} {enc : TypeId × Value → H} {P : Program} {w : World} {base : Nat} {spare : Nat → Bool} {held : Bool} {fuel : Nat} {t : TypeId} {cs : List Value} {x : DataW H × List MemPlace}
end
section
variable {H : Type} {enc : TypeId × Value → H} {w : World} {base : Nat} {spare : Nat → Bool} {held : Bool} {fuel : Nat} {cs : List Value} {x : DataW H × List MemPlace}
end
end Go.Vm

set_option linter.unusedVariables false
set_option linter.unusedSimpArgs false
set_option maxRecDepth 100000
namespace Go.Vm
open Go.Proofs Go.ChangeShapes Go.WideShapes Go.ChangeAt Go.RowKit
section
variable {H : Type} {enc : TypeId × Value → H} {w : World} {base : Nat} {spare : Nat → Bool} {held : Bool} {fuel : Nat} {cs : List Value} {x : DataW H × List MemPlace}
theorem rd_u8 (h : DataW.trod enc Tryz.prog w base spare held fuel 5 cs = some x) : ∃ n : Int, (0 ≤ n ∧ n ≤ 255) ∧ VRL (gh0 w) [.int .u8 n] cs := by
  obtain ⟨n, rfl, _, h2⟩ := DataW.trod_int Tryz.underlying5 h
  exact ⟨n, bounds_u8 h2, VRL.cons (by simp only [VR]) VRL.nil⟩
end
end Go.Vm

set_option linter.unusedVariables false
set_option linter.unusedSimpArgs false
set_option maxRecDepth 100000
namespace Go.Vm
open Go.Proofs
/-! ### sets of readings, by bits -/
theorem bitsTo_succ (b p : Nat) : bitsTo b (p + 1) = if b.testBit p then bitsTo b p ++ [(p : Int)] else bitsTo b p := by
  simp only [bitsTo, List.range_succ, List.filter_append, List.filter_cons, List.filter_nil]
  split <;> simp
theorem bitsTo_len (b p : Nat) : (bitsTo b p).length ≤ p := by
  rw [bitsTo, List.length_map]
  exact Nat.le_trans (List.length_filter_le _ _) (by simp)
theorem end5 {b p : Nat} (hb : b < 32) (hp : p < 6) (h : b >>> p = 0) : bitsTo b p = sBits b := by
  have : ∀ b : Fin 32, ∀ p : Fin 6, (b : Nat) >>> (p : Nat) = 0 → bitsTo b p = sBits b := by decide +kernel
  exact this ⟨b, hb⟩ ⟨p, hp⟩ h
theorem on5 {b p : Nat} (hb : b < 32) (h : 0 < b >>> p) : p < 5 := by
  rcases Nat.lt_or_ge p 5 with h1 | h1
  · exact h1
  · rw [Nat.shiftRight_eq_div_pow, Nat.div_eq_of_lt (Nat.lt_of_lt_of_le hb (Nat.pow_le_pow_right (n := 2) (by omega) h1))] at h; omega
theorem c_rBits (b : Nat) (hb : b < 32) : Pu Tryz.prog (.fn 53 [] []) [vi b] (vI (sBits b)) := by
  refine Ev.fn Tryz.func53 rfl rfl (Fn.body tabOk Tryz.func53 rfl (Nat.le_of_ble_eq_true rfl) (Ks.ok (fz := (fzn [])) (cl := (cln [])) tabOk mixed ?_))
  generalize hQ : FnPost tt Tryz.f53 _ _ = Q
  simp only [Tryz.f53, List.nil_append, List.append_nil, argsEnv]
  simp only [gos, eq_self, Nat.reduceLT, reduceIte, ↓reduceIte, vgo, vout, vguard, callOf, vop, ev, cv]
  refine W.loop tabOk mixed (fun p : Nat => ([(0, vi b), (3, .own 21 (bitsTo b p).length 0 1 (bitsTo b p).length), (4, vi p)], [(21, ⟨(bitsTo b p).length, .row (cI (bitsTo b p))⟩)])) (fun p => 5 - p) (fun p => p ≤ 5) 0 (by omega) (Wk.trans (Wk.sl0E 3 21 1 rfl rfl) (Wk.env (by simp [subE, Env.get, bitsTo]))) ?_
  intro p hp
  have hw := u64_in (n := (p : Int)) (by omega) (by omega)
  have hn : ¬ (p : Int) < 0 := by omega
  have hs := shr5 hb (p := p) (by omega)
  have hbt := bit5 hb (p := p) (by omega)
  have hbl := bitsTo_len b p
  have z2 : ¬ (2 : Int) = 0 := by omega
  by_cases hil : 0 < ((b >>> p : Nat) : Int)
  · have hp5 := on5 hb (p := p) (Int.natCast_pos.1 hil)
    simp only [gos, eq_self, Nat.reduceLT, Nat.reduceEqDiff, reduceCtorEq, reduceIte, ↓reduceIte, tt, vgo, vout, vguard, callOf, vop, ev, cv, vbin, vint, isShift, isNilConst, hw, hn, hs, hil, z2, hbt]
    have hl : (cI (bitsTo b p)).length = (bitsTo b p).length * 1 := by rw [cI_len]; omega
    have hl9 : (bitsTo b p).length ≤ 999999 := by omega
    have hsx := bitsTo_succ b p
    cases ht : b.testBit p with
    | true =>
      rw [ht, if_pos rfl] at hsx
      simp only [gos, eq_self, Nat.reduceLT, Nat.reduceEqDiff, Nat.reduceAdd, Nat.reduceMul, Nat.reduceLeDiff, reduceCtorEq, reduceIte, ↓reduceIte, tt, vgo, vout, vguard, callOf, vop, ev, cv, vbin, vint, isShift, isNilConst, vfill, vappend, srcOf, hl, hl9]
      refine Nx.mk (p + 1) (show 5 - (p + 1) < 5 - p by omega) (by omega) (Wk.heap (fun j => ?_) ?_)
      · rw [hsx, cI_snoc, List.length_append]; rfl
      · simp [subE, Env.get, hsx, i64_succ (show (p : Int) < 9223372036854775807 by omega)]
    | false =>
      rw [ht, if_neg (by simp)] at hsx
      simp only [gos, eq_self, Nat.reduceLT, Nat.reduceEqDiff, reduceCtorEq, reduceIte, ↓reduceIte, vgo, vout, vguard, callOf, vop, ev, cv, vbin, vint, isShift, isNilConst]
      exact Nx.mk (p + 1) (show 5 - (p + 1) < 5 - p by omega) (by omega) (by rw [hsx]; exact Wk.env (by simp [subE, Env.get, i64_succ (show (p : Int) < 9223372036854775807 by omega)]))
  · simp only [gos, eq_self, Nat.reduceLT, Nat.reduceEqDiff, reduceCtorEq, reduceIte, ↓reduceIte, tt, vgo, vout, vguard, callOf, vop, ev, cv, vbin, vint, isShift, isNilConst, hw, hn, hs, hil]
    subst hQ
    have ht : (cI (bitsTo b p)).take (bitsTo b p).length = cI (bitsTo b p) := List.take_of_length_le (by rw [cI_len]; omega)
    have hz : b >>> p = 0 := (Nat.eq_zero_or_pos _).resolve_right fun h => hil (Int.natCast_pos.2 h)
    rw [← end5 hb (p := p) (by omega) hz]
    refine FnPost.plain trivial (v := .own 21 (bitsTo b p).length 0 1 (bitsTo b p).length) (fun h2 e => by rfl) (WkV.frz 21 (v' := vI (bitsTo b p)) (h' := []) (ver := (bitsTo b p).length) (cs := cI (bitsTo b p)) rfl rfl (cI_into _ _) rfl ?_ ?_ WkV.refl) ⟨rfl, rfl⟩
    · simp [V.frz, vI, ht]
    · simp [frzH]
/-! ### before, shorter -/
theorem drop_gi {l : List Int} {i : Nat} (h : (i : Int) < l.length) : l.drop i = gi l i :: l.drop (i + 1) := by
  rw [List.drop_eq_getElem_cons (by omega), gi, Int.toNat_natCast, List.getD_eq_getElem?_getD, List.getElem?_eq_getElem (by omega)]; rfl
set_option maxHeartbeats 1000000 in
theorem c_rBefore (a b : List Int) (ha : (a.length : Int) ≤ 1000000) : Pu Tryz.prog (.fn 60 [] []) [vI a, vI b] (.bool (lBefore a b)) := by
  refine Ev.fn Tryz.func60 rfl rfl (Fn.body tabOk Tryz.func60 rfl (Nat.le_of_ble_eq_true rfl) (Ks.ok (fz := (fzn [])) (cl := (cln [(4, .d tg0 [cP, cP, cP, cP, cP, cP, cP, cP, cP]), (5, .d tg0 [cP, cP, cP, cP, cP, cP, cP, cP, cP, cP])])) tabOk mixed ?_))
  generalize hQ : FnPost tt Tryz.f60 _ _ = Q
  simp only [Tryz.f60, List.nil_append, List.append_nil, argsEnv, Nat.reduceAdd]
  simp only [gos, eq_self, Nat.reduceLT, Nat.reduceEqDiff, reduceCtorEq, reduceIte, ↓reduceIte, vgo, vout, vguard, callOf, vop, ev, cv]
  refine W.loop tabOk mixed (fun i : Nat => ([(0, vI a), (1, vI b), (5, vi i)], [])) (fun i => a.length - i) (fun i => i ≤ a.length ∧ i ≤ b.length ∧ lBefore a b = lBefore (a.drop i) (b.drop i)) 0 ⟨by omega, by omega, rfl⟩ (Wk.env (by simp [subE, Env.get])) ?_
  rintro i ⟨hi1, hi2, he⟩
  by_cases h1 : (i : Int) < a.length
  · by_cases h2 : (i : Int) < b.length
    · rw [drop_gi h1, drop_gi h2, lBefore] at he
      simp only [gos, eq_self, Nat.reduceLT, Nat.reduceEqDiff, reduceCtorEq, reduceIte, ↓reduceIte, tt, vgo, vout, vguard, callOf, vop, ev, vbin, vint, isShift, isNilConst, vlen, vI, h1, h2]
      refine Wr.draw (by kernel_rfl) ?_
      simp only [gos, eq_self, Nat.reduceLT, Nat.reduceEqDiff, Nat.reduceAdd, reduceCtorEq, reduceIte, ↓reduceIte, tt, vgoD, voutD, vclsOk, vids, mayWrite, V.ids, vguard, callOf, vop, ev, vbin, vint, isShift, isNilConst, vload, clsAt, h1, h2, cI_at (Int.natCast_nonneg i) h1, cI_at (Int.natCast_nonneg i) h2]
      by_cases hx : gi a i = gi b i
      · rw [if_pos hx] at he
        have hb : (gi a i != gi b i) = false := by simp [hx]
        simp only [gos, eq_self, Nat.reduceLT, Nat.reduceEqDiff, reduceCtorEq, reduceIte, ↓reduceIte, vgo, vout, vguard, callOf, vop, ev, cv, vbin, vint, isShift, isNilConst, hb]
        exact Nx.mk (i + 1) (show a.length - (i + 1) < a.length - i by omega) ⟨by omega, by omega, he⟩ (Wk.env (by simp [subE, Env.get, i64_succ (show (i : Int) < 9223372036854775807 by omega)]))
      · rw [if_neg hx] at he
        have hb : (gi a i != gi b i) = true := by simp [hx]
        simp only [gos, eq_self, Nat.reduceEqDiff, reduceIte, ↓reduceIte, hb]
        refine Wr.draw (by kernel_rfl) ?_
        simp only [gos, eq_self, Nat.reduceLT, Nat.reduceEqDiff, Nat.reduceAdd, reduceCtorEq, reduceIte, ↓reduceIte, tt, vgoD, voutD, vclsOk, vids, mayWrite, V.ids, vguard, callOf, vop, ev, vbin, vint, isShift, isNilConst, vload, clsAt, h1, h2, cI_at (Int.natCast_nonneg i) h1, cI_at (Int.natCast_nonneg i) h2]
        subst hQ
        exact FnPost.plain trivial (fun h2 e => by first | rfl | (simp only [Tryz.f60, vres, vresL, vres1, e _, gos, if_true, if_false, ne_eq, eq_self, Nat.reduceLT, Nat.reduceEqDiff, Nat.reduceAdd, Nat.reduceMul, Nat.reduceLeDiff, Nat.reduceBEq, reduceCtorEq, reduceIte, Array.toList, ↓reduceIte, tt, vgo, vout, vgoD, voutD, vclsOk, vids, mayWrite, V.ids, V.mids, vguard, callOf, vop, ev, cv, vbin, vint, isShift, isNilConst, vnil, isNilSlice, vload, vlen, newRow, vfill, vslice, entOf, vappend, srcOf, vcopy, vlookup, vupdate, mapOk, keyOf, intsOf, clsAt]; try rfl)) (WkV.pure (by simp only [V.into])) ⟨by rw [he], rfl⟩
    · have e2 : b.drop i = [] := List.drop_eq_nil_of_le (by omega)
      rw [e2, drop_gi h1, lBefore] at he
      have hb : decide ((a.length : Int) < b.length) = false := by simp; omega
      simp only [gos, eq_self, Nat.reduceLT, Nat.reduceEqDiff, reduceCtorEq, reduceIte, ↓reduceIte, tt, vgo, vout, vguard, callOf, vop, ev, vbin, vint, isShift, isNilConst, vlen, vI, h1, h2, hb]
      subst hQ
      exact FnPost.plain trivial (fun h2 e => by first | rfl | (simp only [Tryz.f60, vres, vresL, vres1, e _, gos, if_true, if_false, ne_eq, eq_self, Nat.reduceLT, Nat.reduceEqDiff, Nat.reduceAdd, Nat.reduceMul, Nat.reduceLeDiff, Nat.reduceBEq, reduceCtorEq, reduceIte, Array.toList, ↓reduceIte, tt, vgo, vout, vgoD, voutD, vclsOk, vids, mayWrite, V.ids, V.mids, vguard, callOf, vop, ev, cv, vbin, vint, isShift, isNilConst, vnil, isNilSlice, vload, vlen, newRow, vfill, vslice, entOf, vappend, srcOf, vcopy, vlookup, vupdate, mapOk, keyOf, intsOf, clsAt]; try rfl)) (WkV.pure (by simp only [V.into])) ⟨by rw [he], rfl⟩
  · have e1 : a.drop i = [] := List.drop_eq_nil_of_le (by omega)
    rw [e1, lBefore] at he
    have hb : decide ((a.length : Int) < b.length) = lBefore a b := by rw [he, List.length_drop]; congr 1; apply propext; omega
    simp only [gos, eq_self, Nat.reduceLT, Nat.reduceEqDiff, reduceCtorEq, reduceIte, ↓reduceIte, tt, vgo, vout, vguard, callOf, vop, ev, cv, vbin, vint, isShift, isNilConst, vlen, vI, h1, hb]
    subst hQ
    exact FnPost.plain trivial (fun h2 e => by first | rfl | (simp only [Tryz.f60, vres, vresL, vres1, e _, gos, if_true, if_false, ne_eq, eq_self, Nat.reduceLT, Nat.reduceEqDiff, Nat.reduceAdd, Nat.reduceMul, Nat.reduceLeDiff, Nat.reduceBEq, reduceCtorEq, reduceIte, Array.toList, ↓reduceIte, tt, vgo, vout, vgoD, voutD, vclsOk, vids, mayWrite, V.ids, V.mids, vguard, callOf, vop, ev, cv, vbin, vint, isShift, isNilConst, vnil, isNilSlice, vload, vlen, newRow, vfill, vslice, entOf, vappend, srcOf, vcopy, vlookup, vupdate, mapOk, keyOf, intsOf, clsAt]; try rfl)) (WkV.pure (by simp only [V.into])) ⟨rfl, rfl⟩
theorem c_rShorter (a b : List Int) (ha : (a.length : Int) ≤ 1000000) : Pu Tryz.prog (.fn 52 [] []) [vI a, vI b] (.bool (lShorter a b)) := by
  refine Ev.fn Tryz.func52 rfl rfl (Fn.body tabOk Tryz.func52 rfl (Nat.le_of_ble_eq_true rfl) (Ks.ok (fz := (fzn [])) (cl := (cln [])) tabOk mixed ?_))
  generalize hQ : FnPost tt Tryz.f52 _ _ = Q
  simp only [Tryz.f52, List.nil_append, List.append_nil, argsEnv, Nat.reduceAdd]
  by_cases h1 : (a.length : Int) < b.length
  · simp only [gos, eq_self, Nat.reduceLT, Nat.reduceEqDiff, reduceCtorEq, reduceIte, ↓reduceIte, tt, vgo, vout, vguard, callOf, vop, ev, cv, vbin, vint, isShift, isNilConst, vlen, vI, h1]
    subst hQ
    exact FnPost.plain trivial (fun h2 e => by first | rfl | (simp only [Tryz.f52, vres, vresL, vres1, e _, gos, if_true, if_false, ne_eq, eq_self, Nat.reduceLT, Nat.reduceEqDiff, Nat.reduceAdd, Nat.reduceMul, Nat.reduceLeDiff, Nat.reduceBEq, reduceCtorEq, reduceIte, Array.toList, ↓reduceIte, tt, vgo, vout, vgoD, voutD, vclsOk, vids, mayWrite, V.ids, V.mids, vguard, callOf, vop, ev, cv, vbin, vint, isShift, isNilConst, vnil, isNilSlice, vload, vlen, newRow, vfill, vslice, entOf, vappend, srcOf, vcopy, vlookup, vupdate, mapOk, keyOf, intsOf, clsAt]; try rfl)) (WkV.pure (by simp only [V.into])) ⟨by simp only [lShorter]; rw [decide_eq_true (by omega : a.length < b.length)]; rfl, rfl⟩
  · by_cases h2 : (a.length : Int) = b.length
    · have hd : decide ((a.length : Int) = b.length) = true := decide_eq_true h2
      simp only [gos, eq_self, Nat.reduceLT, Nat.reduceEqDiff, reduceCtorEq, reduceIte, ↓reduceIte, tt, vgo, vout, vguard, callOf, vop, ev, cv, vbin, vint, isShift, isNilConst, vlen, vI, h1, hd]
      refine Cl.pu (c_rBefore a b ha) ?_ rfl (by simp only [V.into, intoL, cI_into, Bool.and_true])
      simp only [gos, eq_self, Nat.reduceLT, Nat.reduceEqDiff, reduceIte, ↓reduceIte, vgo, vout, vguard, callOf, vop, ev]
      subst hQ
      exact FnPost.plain trivial (fun h2 e => by first | rfl | (simp only [Tryz.f52, vres, vresL, vres1, e _, gos, if_true, if_false, ne_eq, eq_self, Nat.reduceLT, Nat.reduceEqDiff, Nat.reduceAdd, Nat.reduceMul, Nat.reduceLeDiff, Nat.reduceBEq, reduceCtorEq, reduceIte, Array.toList, ↓reduceIte, tt, vgo, vout, vgoD, voutD, vclsOk, vids, mayWrite, V.ids, V.mids, vguard, callOf, vop, ev, cv, vbin, vint, isShift, isNilConst, vnil, isNilSlice, vload, vlen, newRow, vfill, vslice, entOf, vappend, srcOf, vcopy, vlookup, vupdate, mapOk, keyOf, intsOf, clsAt]; try rfl)) (WkV.pure (by simp only [V.into])) ⟨by simp only [lShorter]; rw [decide_eq_false (by omega : ¬ a.length < b.length), decide_eq_true (by omega : a.length = b.length)]; rfl, rfl⟩
    · have hd : decide ((a.length : Int) = b.length) = false := decide_eq_false h2
      simp only [gos, eq_self, Nat.reduceLT, Nat.reduceEqDiff, reduceCtorEq, reduceIte, ↓reduceIte, tt, vgo, vout, vguard, callOf, vop, ev, cv, vbin, vint, isShift, isNilConst, vlen, vI, h1, hd]
      subst hQ
      exact FnPost.plain trivial (fun h2 e => by first | rfl | (simp only [Tryz.f52, vres, vresL, vres1, e _, gos, if_true, if_false, ne_eq, eq_self, Nat.reduceLT, Nat.reduceEqDiff, Nat.reduceAdd, Nat.reduceMul, Nat.reduceLeDiff, Nat.reduceBEq, reduceCtorEq, reduceIte, Array.toList, ↓reduceIte, tt, vgo, vout, vgoD, voutD, vclsOk, vids, mayWrite, V.ids, V.mids, vguard, callOf, vop, ev, cv, vbin, vint, isShift, isNilConst, vnil, isNilSlice, vload, vlen, newRow, vfill, vslice, entOf, vappend, srcOf, vcopy, vlookup, vupdate, mapOk, keyOf, intsOf, clsAt]; try rfl)) (WkV.pure (by simp only [V.into])) ⟨by simp only [lShorter]; rw [decide_eq_false (by omega : ¬ a.length < b.length), decide_eq_false (by omega : ¬ a.length = b.length)]; rfl, rfl⟩
end Go.Vm

set_option linter.unusedVariables false
set_option linter.unusedSimpArgs false
set_option maxRecDepth 100000
namespace Go.Vm
open Go.Proofs
/-! ### which readings can be right together -/
theorem andn {n b : Nat} (hn : n < 6) (hb : b < 2 ^ n) : vbits .andNot .i64 ((2 : Int) ^ n - 1) (b : Int) = ((2 ^ n - 1 - b : Nat) : Int) := by
  have : ∀ n : Fin 6, ∀ b : Fin 32, (b : Nat) < 2 ^ (n : Nat) → vbits .andNot .i64 ((2 : Int) ^ (n : Nat) - 1) (((b : Nat) : Int)) = ((2 ^ (n : Nat) - 1 - (b : Nat) : Nat) : Int) := by decide +kernel
  have h32 : 2 ^ n ≤ 32 := Nat.pow_le_pow_right (n := 2) (by omega) (show n ≤ 5 by omega)
  exact this ⟨n, hn⟩ ⟨b, by omega⟩ hb
theorem sBits_len (b : Nat) : (sBits b).length ≤ 5 := bitsTo_len b 5
end Go.Vm

set_option linter.unusedVariables false
set_option linter.unusedSimpArgs false
set_option maxRecDepth 100000
namespace Go.Vm
/-! ### what is sure in one room and in another -/
theorem check_of {x : Rm} (ha : sAsked x.cu true = 0) (hpl : 0 ≤ x.pl ∧ x.pl ≤ 5) (hbu : 1 ≤ x.bu ∧ x.bu ≤ 9) (hl : x.ba.length ≤ 5) (hb : ∀ b ∈ x.ba, 0 ≤ b.lo ∧ b.lo ≤ b.hi ∧ b.hi ≤ x.cu.last) : sCheckR x = 0 := by
  have h1 : ¬ (sAsked x.cu true ≠ 0) := by simp [ha]
  have h2 : ¬ (5 < x.pl ∨ 5 < (x.ba.length : Int)) := by omega
  have h3 : x.ba.all (sValid x) = true := by
    rw [List.all_eq_true]
    intro b hb2
    have := hb b hb2
    simp only [sValid, Bool.and_eq_true, decide_eq_true_eq]; omega
  have h4 : sIn x.bu 1 9 = true := by simp [sIn]; omega
  rw [sCheckR, if_neg h1, if_neg h2, h3, h4, if_neg (by simp; omega)]
theorem RmOk.check {r : Rm} (k : RmOk r) : sCheckR r = 0 := check_of k.ask k.pl k.bu k.len k.ba
/-! a plan without some baths, by places -/
theorem pk_eq (b : Nat) (p : List Int) : pk b 0 p = ((List.range p.length).filter fun i => b.testBit i).map fun (i : Nat) => gi p i := by
  have e : ∀ n, n ≤ p.length → pk b 0 (p.take n) = ((List.range n).filter fun i => b.testBit i).map fun (i : Nat) => gi p i := by
    intro n
    induction n with
    | zero => intro _; simp [pk]
    | succ n ih =>
      intro hn
      rw [gi_take (by omega), pk_snoc, ih (by omega), List.length_take, Nat.min_eq_left (by omega), Nat.zero_add, List.range_succ, List.filter_append, List.map_append]
      congr 1
      simp only [List.filter_cons, List.filter_nil]
      split <;> rfl
  have := e p.length (Nat.le_refl _)
  rwa [List.take_length] at this
theorem pk_mem {b : Nat} {p : List Int} {x : Int} (h : x ∈ pk b 0 p) : ∃ j : Nat, j < p.length ∧ b.testBit j = true ∧ x = gi p j := by
  rw [pk_eq] at h
  simp only [List.mem_map, List.mem_filter, List.mem_range] at h
  obtain ⟨j, ⟨h1, h2⟩, rfl⟩ := h
  exact ⟨j, h1, h2, rfl⟩
theorem pk_congr {b : Nat} {p q : List Int} (hl : p.length = q.length) (h : ∀ j : Nat, j < p.length → b.testBit j = true → gi p j = gi q j) : pk b 0 p = pk b 0 q := by
  rw [pk_eq, pk_eq, ← hl]
  apply List.map_congr_left
  intro j hj
  simp only [List.mem_filter, List.mem_range] at hj
  exact h j hj.1 hj.2
theorem mem_rSuf (r : Rm) (b : Nat) : ∀ (k i : Nat) (p : List Int), p ∈ rSuf r b k i ↔ p.length = k ∧ ∀ j : Nat, j < k → if b.testBit (i + j) = true then (gR r.ba ((i + j : Nat) : Int)).lo ≤ gi p j ∧ gi p j ≤ (gR r.ba ((i + j : Nat) : Int)).hi else gi p j = 0
  | 0, i, p => by
    simp only [rSuf, List.mem_singleton]
    constructor
    · rintro rfl; exact ⟨rfl, fun j hj => by omega⟩
    · rintro ⟨h, _⟩; exact List.length_eq_zero_iff.1 h
  | k + 1, i, p => by
    have ih := mem_rSuf r b k (i + 1)
    have hgi0 : ∀ (x : Int) (q : List Int), gi (x :: q) (0 : Nat) = x := fun x q => rfl
    have hgis : ∀ (x : Int) (q : List Int) (j : Nat), gi (x :: q) ((j + 1 : Nat) : Int) = gi q j := fun x q j => by simp only [gi, Int.toNat_natCast, List.getD_cons_succ]
    rw [rSuf]
    constructor
    · intro h
      obtain ⟨x, q, hq, rfl, hx⟩ : ∃ x q, q ∈ rSuf r b k (i + 1) ∧ p = x :: q ∧ if b.testBit i = true then (gR r.ba i).lo ≤ x ∧ x ≤ (gR r.ba i).hi else x = 0 := by
        split at h
        · simp only [List.mem_flatMap, List.mem_map] at h
          obtain ⟨x, hx, q, hq, rfl⟩ := h
          rename_i hb
          exact ⟨x, q, hq, rfl, by rw [if_pos hb]; exact mem_rangeI.1 hx⟩
        · obtain ⟨q, hq, rfl⟩ := List.mem_map.1 h
          rename_i hb
          exact ⟨0, q, hq, rfl, by rw [if_neg hb]⟩
      obtain ⟨h1, h2⟩ := (ih q).1 hq
      refine ⟨by simp [h1], fun j hj => ?_⟩
      cases j with
      | zero => rw [Nat.add_zero, hgi0]; exact hx
      | succ j =>
        rw [hgis]
        have := h2 j (by omega)
        rw [show i + 1 + j = i + (j + 1) by omega] at this
        exact this
    · rintro ⟨h1, h2⟩
      cases p with
      | nil => simp at h1
      | cons x q =>
        have h0 := h2 0 (by omega)
        rw [Nat.add_zero, hgi0] at h0
        have hq : q ∈ rSuf r b k (i + 1) := (ih q).2 ⟨by simpa using h1, fun j hj => by
          have := h2 (j + 1) (by omega)
          rw [hgis, show i + (j + 1) = i + 1 + j by omega] at this
          exact this⟩
        split
        · rename_i hb
          rw [if_pos hb] at h0
          simp only [List.mem_flatMap, List.mem_map]
          exact ⟨x, mem_rangeI.2 h0, q, hq, rfl⟩
        · rename_i hb
          rw [if_neg hb] at h0
          exact List.mem_map.2 ⟨q, hq, by rw [h0]⟩
theorem pk_range {r : Rm} (k : RmOk r) {b : Nat} {p : List Int} (hl : p.length = r.ba.length) (h : ∀ j : Nat, j < r.ba.length → b.testBit j = true → (gR r.ba j).lo ≤ gi p j ∧ gi p j ≤ (gR r.ba j).hi) : ∀ x ∈ pk b 0 p, 0 ≤ x ∧ x ≤ r.cu.last := fun x hx => by
  obtain ⟨j, h1, h2, rfl⟩ := pk_mem hx
  have h3 := h j (by omega) h2
  have h4 := k.ba _ (List.mem_of_getElem? (gR_get (show (j : Int) < r.ba.length by omega)))
  omega
theorem rest_iff {r : Rm} (k : RmOk r) {b : Nat} : restN r b = true ↔ ∃ p : List Int, p.length = r.ba.length ∧ (∀ j : Nat, j < r.ba.length → b.testBit j = true → (gR r.ba j).lo ≤ gi p j ∧ gi p j ≤ (gR r.ba j).hi) ∧ sSureN r (cntN (pk b 0 p)) = true := by
  rw [restN, Bool.not_eq_true', List.isEmpty_eq_false_iff]
  constructor
  · intro h
    obtain ⟨p, hp⟩ := List.exists_mem_of_ne_nil _ h
    rw [rSures, rPlansF_suf, List.mem_filter] at hp
    obtain ⟨h1, h2⟩ := hp
    obtain ⟨q, hq, rfl⟩ := List.mem_map.1 h1
    obtain ⟨g1, g2⟩ := (mem_rSuf r b _ _ q).1 hq
    rw [List.nil_append] at h2
    have hin : ∀ j : Nat, j < r.ba.length → b.testBit j = true → (gR r.ba j).lo ≤ gi q j ∧ gi q j ≤ (gR r.ba j).hi := fun j hj hb => by
      have := g2 j hj
      simp only [List.length_nil, Nat.zero_add] at this
      rw [if_pos hb] at this
      exact this
    exact ⟨q, g1, hin, by rw [(num_ref k (pk_range k g1 hin) (rNum_eq r q b)).2.2]; exact h2⟩
  · rintro ⟨p, hl, hin, hs⟩
    let q : List Int := (List.range r.ba.length).map fun j => if b.testBit j = true then gi p j else 0
    have hql : q.length = r.ba.length := by simp [q]
    have hqg : ∀ j : Nat, j < r.ba.length → gi q j = if b.testBit j = true then gi p j else 0 := fun j hj => gi_map hj
    have hpk : pk b 0 q = pk b 0 p := pk_congr (by omega) fun j hj hb => by rw [hqg j (by omega), if_pos hb]
    have hin2 : ∀ j : Nat, j < r.ba.length → b.testBit j = true → (gR r.ba j).lo ≤ gi q j ∧ gi q j ≤ (gR r.ba j).hi := fun j hj hb => by rw [hqg j hj, if_pos hb]; exact hin j hj hb
    refine List.ne_nil_of_mem (a := q) ?_
    rw [rSures, rPlansF_suf, List.mem_filter]
    refine ⟨List.mem_map.2 ⟨q, (mem_rSuf r b _ _ q).2 ⟨hql, fun j hj => ?_⟩, List.nil_append q⟩, ?_⟩
    · simp only [List.length_nil, Nat.zero_add]
      rw [hqg j hj]
      split
      · rename_i hb; exact hin j hj hb
      · rfl
    · rw [← (num_ref k (pk_range k hql hin2) (rNum_eq r q b)).2.2, hpk]
      exact hs
end Go.Vm

set_option linter.unusedVariables false
set_option linter.unusedSimpArgs false
set_option maxRecDepth 100000
namespace Go.Vm
/-! ### a list without one element -/
/-- A room with the same coppers. -/
theorem rm_ok {x r : Rm} (k : RmOk r) (hc : x.cu = r.cu) (hpl : 0 ≤ x.pl ∧ x.pl ≤ 5) (hbu : 1 ≤ x.bu ∧ x.bu ≤ 9) (hl : x.ba.length ≤ 5) (hb : ∀ b ∈ x.ba, 0 ≤ b.lo ∧ b.lo ≤ b.hi ∧ b.hi ≤ r.cu.last) : RmOk x :=
  ⟨by rw [hc]; exact k.ask, by rw [hc]; exact k.A, hpl, hbu, hl, by rw [hc]; exact hb⟩
end Go.Vm

set_option linter.unusedVariables false
set_option linter.unusedSimpArgs false
set_option maxRecDepth 100000
namespace Go.Vm
/-! ### a room with some of its baths -/
def pickB (l : List Rg) (b : Nat) : Nat → List Rg
  | 0 => []
  | n + 1 => if b.testBit n = true then pickB l b n ++ [gR l n] else pickB l b n
theorem pickB_eq (l : List Rg) (b : Nat) : ∀ n, pickB l b n = ((List.range n).filter fun i => b.testBit i).map fun (i : Nat) => gR l i
  | 0 => rfl
  | n + 1 => by
    rw [pickB, pickB_eq l b n, List.range_succ, List.filter_append, List.map_append, List.filter_cons, List.filter_nil]
    split <;> simp
theorem pickB_len (l : List Rg) (b n : Nat) : (pickB l b n).length ≤ n := by
  rw [pickB_eq, List.length_map]
  exact Nat.le_trans (List.length_filter_le _ _) (by simp)
def somR (r : Rm) (b : Nat) : Rm := { r with ba := pickB r.ba b r.ba.length }
theorem somR_ok {r : Rm} (k : RmOk r) (b : Nat) : RmOk (somR r b) :=
  rm_ok k rfl k.pl k.bu (by have := pickB_len r.ba b r.ba.length; have := k.len; simp only [somR]; omega) fun x hx => by
    simp only [somR, pickB_eq, List.mem_map, List.mem_filter, List.mem_range] at hx
    obtain ⟨i, ⟨hi, _⟩, rfl⟩ := hx
    exact k.ba _ (List.mem_of_getElem? (gR_get (by omega)))
def allQ : List Rg → List (List Int)
  | [] => [[]]
  | b :: l => (rangeI b.lo b.hi).flatMap fun h => (allQ l).map (h :: ·)
theorem allP_allQ (r : Rm) (out : List Int) : ∀ (m i : Nat), allP r out m i = allQ (((List.range' i m).filter fun j => !outB out j).map fun (j : Nat) => gR r.ba j)
  | 0, i => by simp [allP, allQ]
  | m + 1, i => by
    rw [allP, List.range'_succ, List.filter_cons]
    cases h : outB out i with
    | true => simp only [if_true, Bool.not_true, Bool.false_eq_true, if_false]; exact allP_allQ r out m (i + 1)
    | false =>
      simp only [Bool.false_eq_true, if_false, Bool.not_false, if_true, List.map_cons, allQ]
      rw [allP_allQ r out m (i + 1)]
theorem gR_map_range (l : List Rg) : ((List.range l.length).map fun (i : Nat) => gR l i) = l := by
  apply List.ext_getElem (by simp)
  intro j h1 h2
  simp only [List.getElem_map, List.getElem_range]
  have := gR_get (l := l) (i := j) (by omega)
  rw [List.getElem?_eq_getElem h2] at this
  injection this with this
  exact this.symm
theorem plL_som {r : Rm} (k : RmOk r) {b : Nat} : plL (somR r b) [] = plL r (outs r.ba.length b) := by
  rw [plL_eq (somR_ok k b), plL_eq k]
  have e : allP (somR r b) [] (somR r b).ba.length 0 = allP r (outs r.ba.length b) r.ba.length 0 := by
    rw [allP_allQ, allP_allQ]
    congr 1
    have e1 : ((List.range' 0 (somR r b).ba.length).filter fun j => !outB [] j) = List.range (somR r b).ba.length := by
      rw [← List.range_eq_range', List.filter_eq_self]
      intro i _; rfl
    rw [e1, gR_map_range, ← List.range_eq_range']
    show pickB r.ba b r.ba.length = _
    rw [pickB_eq]
    congr 1
    apply List.filter_congr
    intro i hi
    rw [outs_out _ _ (List.mem_range.1 hi), Bool.not_not]
  rw [e]
  rfl
theorem plan_som {r : Rm} (k : RmOk r) (b : Nat) : (sPlanR (somR r b)).2 = if restN r b = true then 0 else 10 := by
  have h : restN r b = true ↔ plL (somR r b) [] ≠ [] := by
    rw [plL_som k, ← rest_out k (out := outs r.ba.length b) fun j hj => by rw [outs_out _ _ hj, Bool.not_not], sRest, Bool.not_eq_true', List.isEmpty_eq_false_iff]
  rw [sPlanR, if_pos (somR_ok k b).check]
  cases hl : plL (somR r b) [] with
  | nil =>
    rw [if_neg]
    intro hr
    exact h.1 hr hl
  | cons p l => rw [if_pos (h.2 (by rw [hl]; simp))]
/-! the bits of a list -/
theorem and_full {n t : Nat} (hn : n < 6) (ht : t < 256) : vbits .and .i64 (t : Int) ((2 ^ n - 1 : Nat) : Int) = ((t % 2 ^ n : Nat) : Int) := by
  have : ∀ n : Fin 6, ∀ t : Fin 256, vbits .and .i64 ((t : Nat) : Int) ((2 ^ (n : Nat) - 1 : Nat) : Int) = (((t : Nat) % 2 ^ (n : Nat) : Nat) : Int) := by decide +kernel
  exact this ⟨n, hn⟩ ⟨t, ht⟩
def bitsV (b i : Nat) : Nat := ((sBits b).take i).foldl (fun a x => a + 2 ^ x.toNat) 0
theorem bitsV_ok : ∀ b : Fin 32, bitsV b (sBits b).length = b ∧ ∀ i : Fin 5, (i : Nat) < (sBits b).length →
    0 ≤ gi (sBits b) ((i : Nat) : Int) ∧ gi (sBits b) ((i : Nat) : Int) < 5 ∧ 2 ^ (gi (sBits b) ((i : Nat) : Int)).toNat ≤ (b : Nat) ∧
    vbits .or .i64 ((bitsV b i : Nat) : Int) (2 ^ (gi (sBits b) ((i : Nat) : Int)).toNat) = ((bitsV b (i + 1) : Nat) : Int) ∧
    (0 < (i : Nat) → gi (sBits b) (((i : Nat) - 1 : Nat) : Int) < gi (sBits b) ((i : Nat) : Int)) := by decide +kernel
end Go.Vm

set_option linter.unusedVariables false
set_option linter.unusedSimpArgs false
set_option maxRecDepth 100000
namespace Go.Vm
/-! ### wider ranges -/
structure Wide (c x : Cu) : Prop where
  last : c.last = x.last
  start : c.start = x.start
  most : c.most = x.most
  per : c.per = x.per
  coal : c.coal = x.coal
  want : c.want = x.want
  shovels : c.shovels = x.shovels
  listed : ∀ t, Listed c t → Listed x t
  len : c.readings.length = x.readings.length
  rd : ∀ (s : Sc) (i : Nat), i < c.readings.length → rdOk c s (gD c.readings i) = true → rdOk x s (gD x.readings i) = true
theorem range_gD' (c : Cu) (s : Sc) : sRight c s [] = (List.range c.readings.length).all fun i => rdOk c s (gD c.readings i) := by
  rw [right_all, range_gD]
theorem Wide.right {c x : Cu} (W : Wide c x) {s : Sc} (h : sRight c s [] = true) : sRight x s [] = true := by
  rw [range_gD', List.all_eq_true] at h ⊢
  intro i hi
  rw [List.mem_range, ← W.len] at hi
  exact W.rd s i hi (h i (List.mem_range.2 hi))
theorem Wide.sub {c x : Cu} (W : Wide c x) (k0 : CuOk c) (kx : CuOk x) : SubT c x :=
  ⟨W.last, W.start, W.most, W.per, W.coal, W.want, fun t ht => by
    obtain ⟨h1, h2⟩ := (mem_rTruths' k0 t).1 ht
    exact (mem_rTruths' kx t).2 ⟨W.listed t h1, W.right h2⟩⟩
theorem gR_set {l : List Rg} {k : Nat} (v : Rg) (hk : k < l.length) (i : Nat) : gR (l.set k v) i = if i = k then v else gR l i := by
  simp only [gR, Int.toNat_natCast, List.getD_eq_getElem?_getD, List.getElem?_set]
  by_cases h : k = i
  · subst h; simp [hk]
  · rw [if_neg h, if_neg (Ne.symm h)]
end Go.Vm

set_option linter.unusedVariables false
set_option linter.unusedSimpArgs false
set_option maxRecDepth 100000
namespace Go.Vm
/-! ### a bath that can be had in more hours -/
/-- A room with other hours of a bath. -/
def rmB (r : Rm) (j : Nat) (v : Rg) : Rm := { r with ba := r.ba.set j v }
structure WiderB (r : Rm) (j : Nat) (v : Rg) : Prop where
  lt : j < r.ba.length
  lo : 0 ≤ v.lo ∧ v.lo ≤ (gR r.ba j).lo
  hi : (gR r.ba j).hi ≤ v.hi ∧ v.hi ≤ r.cu.last
theorem WiderB.gR {r : Rm} {j : Nat} {v : Rg} (W : WiderB r j v) (i : Nat) : (gR (rmB r j v).ba i).lo ≤ (gR r.ba i).lo ∧ (gR r.ba i).hi ≤ (gR (rmB r j v).ba i).hi := by
  have h1 := W.lo; have h2 := W.hi
  simp only [rmB, gR_set v W.lt]
  by_cases e : i = j
  · subst e; rw [if_pos rfl]; omega
  · rw [if_neg e]; omega
theorem WiderB.len {r : Rm} {j : Nat} {v : Rg} (W : WiderB r j v) : (rmB r j v).ba.length = r.ba.length := by simp [rmB]
theorem WiderB.ok {r : Rm} {j : Nat} {v : Rg} (W : WiderB r j v) (k : RmOk r) : RmOk (rmB r j v) :=
  rm_ok k rfl k.pl k.bu (by rw [W.len]; exact k.len) fun b hb => by
    rcases List.mem_or_eq_of_mem_set hb with h | rfl
    · exact k.ba b h
    · have h1 := W.lo; have h2 := W.hi
      have := k.ba _ (List.mem_of_getElem? (gR_get (show (j : Int) < r.ba.length by have := W.lt; omega)))
      omega
theorem WiderB.rest {r : Rm} {j : Nat} {v : Rg} (W : WiderB r j v) (k : RmOk r) {b : Nat} (h : restN r b = true) : restN (rmB r j v) b = true := by
  obtain ⟨p, h1, h2, h3⟩ := (rest_iff k).1 h
  refine (rest_iff (W.ok k)).2 ⟨p, by rw [W.len]; exact h1, fun i hi hb => ?_, h3⟩
  rw [W.len] at hi
  have h4 := h2 i hi hb
  have h5 := W.gR i
  omega
theorem giveR_eq {r : Rm} (k : RmOk r) : sGiveR r = if sSureN r zL = true then ((giveAll r).getD [], 0) else ([], 10) := by rw [sGiveR, if_pos k.check]
/-- A room's cells with another slice of baths. -/
def rmRow (r : Rm) (v : V) : List V := [vi r.cu.last, vi r.cu.start, vi r.cu.most, vi r.cu.per, vi r.cu.shovels, vI r.cu.coal, vI r.cu.want, vi r.cu.heat.lo, vi r.cu.heat.hi, vR r.cu.loss, vD r.cu.readings, vi r.bu, vi r.pl, v]
theorem rmRow_set (r : Rm) (u v : V) : List.take 13 (rmRow r u) ++ [v] ++ List.drop 14 (rmRow r u) = rmRow r v := rfl
theorem rmRow_h (r : Rm) (v : V) : (List.drop 13 (rmRow r v)).head? = some v := rfl
theorem rmRow_len (r : Rm) (v : V) : (rmRow r v).length = 14 := rfl
theorem rmRow_t (r : Rm) (v : V) : List.take 14 (rmRow r v) = rmRow r v := rfl
theorem rmRow_one (r : Rm) {v : V} (h : v.one = true) : oneL (rmRow r v) = true := by simp only [rmRow, oneL, on_vI, on_vR, on_vD, on_int, h, Bool.and_self]
theorem rmRow_frz (i ver : Nat) (cs : List V) (r : Rm) (v : V) : frzL i ver cs (rmRow r v) = rmRow r (v.frz i ver cs) := by
  simp only [rmRow, frzL, vI_frz, vR, vD, V.frz, cR_frz, cD_frz]
end Go.Vm

set_option linter.unusedVariables false
set_option linter.unusedSimpArgs false
set_option maxRecDepth 100000
namespace Go.Vm
open Go.Proofs
set_option maxHeartbeats 2000000 in
theorem c_some9 (r : Rm) (k : RmOk r) (b : Nat) (hb : b < 32) : Pu Tryz.prog (.fn 51 [] []) [.agg r.cs, vi b] (.agg (somR r b).cs) := by
  refine Ev.fn Tryz.func51 rfl rfl (Fn.body tabOk Tryz.func51 rfl (Nat.le_of_ble_eq_true rfl) (Ks.ok (fz := (fzn [4, 5])) (cl := (cln [(7, .d (tgL [(30, 1)]) [cP, cL, cP, cP, cP, cP, cP, cP, some ([1], [1]), cP, cW])])) tabOk mixed ?_))
  generalize hQ : FnPost tt Tryz.f51 _ _ = Q
  simp only [Tryz.f51, List.nil_append, List.append_nil, argsEnv, Nat.reduceAdd]
  have hl5 := k.len
  simp only [gos, eq_self, Nat.reduceLT, Nat.reduceEqDiff, Nat.reduceAdd, reduceCtorEq, reduceIte, ↓reduceIte, tt, vgo, vout, vguard, callOf, vop, ev, cv, vload, newRow, rms]
  have e0 : List.take 13 r.cs ++ [V.sl0] ++ List.drop 14 r.cs = rmRow r .sl0 := rfl
  simp only [e0]
  refine W.loop tabOk mixed (fun i : Nat => ([(1, vi b), (2, .rop r.cs), (4, .ptr 4 0 0), (5, .ptr 5 0 0), (6, vi i)], [(4, ⟨0, .row [vi 0, vi 0, vi 0, vi 0, vi 0, .sl0, .sl0, vi 0, vi 0, .sl0, .sl0, vi 0, vi 0, .sl0]⟩), (5, ⟨0, .row (rmRow r (.own 30 (pickB r.ba b i).length 0 2 (pickB r.ba b i).length))⟩), (30, ⟨(pickB r.ba b i).length, .row (cR (pickB r.ba b i))⟩)])) (fun i => r.ba.length - i) (fun i => i ≤ r.ba.length) 0 (by omega)
    (Wk.trans (Wk.sl0H 5 13 30 2 rfl rfl rfl) (Wk.env (by simp [subE, Env.get]))) ?_
  intro i hi
  by_cases hil : (i : Int) < r.ba.length
  · have hat := cR_at (Int.natCast_nonneg i) hil
    rw [Int.toNat_natCast] at hat
    have hw := u64_in (n := (i : Int)) (by omega) (by omega)
    have hn : ¬ (i : Int) < 0 := by omega
    have hs := shr5 hb (p := i) (by omega)
    have hbt := bit5 hb (p := i) (by omega)
    have z2 : ¬ (2 : Int) = 0 := by omega
    have hcl := cR_len (pickB r.ba b i)
    have hpl := pickB_len r.ba b i
    have hp9 : (pickB r.ba b i).length ≤ 999999 := by omega
    simp only [gos, eq_self, Nat.reduceLT, Nat.reduceEqDiff, reduceCtorEq, reduceIte, ↓reduceIte, tt, vgo, vout, vguard, callOf, vop, ev, cv, vbin, vint, isShift, isNilConst, vload, vlen, rms, vR, hil, hw, hn, hs, z2, hbt]
    cases ht : b.testBit i with
    | false =>
      have hx : pickB r.ba b (i + 1) = pickB r.ba b i := by rw [pickB, ht]; rfl
      simp only [gos, eq_self, Nat.reduceLT, Nat.reduceEqDiff, reduceIte, ↓reduceIte, vgo, vout, vguard, callOf, vop, ev, cv, vbin, vint, isShift, isNilConst]
      refine Nx.mk (i + 1) (show r.ba.length - (i + 1) < r.ba.length - i by omega) (show i + 1 ≤ r.ba.length by omega) ?_
      rw [hx]
      exact Wk.env (by simp [subE, Env.get, i64_succ (show (i : Int) < 9223372036854775807 by omega)])
    | true =>
      have hx : pickB r.ba b (i + 1) = pickB r.ba b i ++ [gR r.ba i] := by rw [pickB, ht, if_pos rfl]
      have hxl : (pickB r.ba b (i + 1)).length = (pickB r.ba b i).length + 1 := by rw [hx]; simp
      simp only [gos, eq_self, reduceIte, ↓reduceIte]
      refine Wr.draw (by kernel_rfl) ?_
      simp only [gos, eq_self, Nat.reduceLT, Nat.reduceEqDiff, Nat.reduceAdd, Nat.reduceMul, Nat.reduceLeDiff, reduceCtorEq, reduceIte, ↓reduceIte, tt, vgo, vout, vgoD, voutD, vclsOk, vids, mayWrite, V.ids, vguard, callOf, vop, ev, cv, vbin, vint, isShift, isNilConst, vload, vfill, vappend, srcOf, clsAt, rms, vR, rmRow_h, rmRow_len, hil, hat, hcl, hp9, rmRow_set, Int.natCast_nonneg, Int.toNat_natCast]
      refine Nx.mk (i + 1) (show r.ba.length - (i + 1) < r.ba.length - i by omega) (show i + 1 ≤ r.ba.length by omega) (Wk.heap (fun j => ?_) ?_)
      · rw [hxl, hx, cR_snoc]
      · simp [subE, Env.get, i64_succ (show (i : Int) < 9223372036854775807 by omega)]
  · have hie : i = r.ba.length := by omega
    subst hie
    have hcl := cR_len (pickB r.ba b r.ba.length)
    have e1 : (cR (pickB r.ba b r.ba.length)).take ((pickB r.ba b r.ba.length).length * 2) = cR (pickB r.ba b r.ba.length) := List.take_of_length_le (by omega)
    have e2 : V.ro (pickB r.ba b r.ba.length).length (cR (pickB r.ba b r.ba.length)) = vR (pickB r.ba b r.ba.length) := rfl
    have e3 : rmRow r (vR (pickB r.ba b r.ba.length)) = (somR r b).cs := rfl
    have hone : oneL (rmRow r (.own 30 (pickB r.ba b r.ba.length).length 0 2 (pickB r.ba b r.ba.length).length)) = true := rmRow_one r rfl
    simp only [gos, eq_self, Nat.reduceLT, Nat.reduceEqDiff, Nat.reduceAdd, reduceCtorEq, reduceIte, ↓reduceIte, tt, vgo, vout, vguard, callOf, vop, ev, vbin, vint, isShift, isNilConst, vload, vlen, rms, vR, hil, rmRow_len, rmRow_t, hone]
    subst hQ
    refine FnPost.plain trivial (v := .agg (rmRow r (.own 30 (pickB r.ba b r.ba.length).length 0 2 (pickB r.ba b r.ba.length).length))) (fun h2 e => by simp only [Tryz.f51, vres, vresL, vres1, gos, eq_self, Nat.reduceLT, Nat.reduceEqDiff, reduceCtorEq, reduceIte, ↓reduceIte, tt, vload, e _, rmRow_len, rmRow_t])
      (WkV.frz 30 (v' := .agg (somR r b).cs) (h' := [(4, ⟨0, .row (somR r b).cs⟩), (5, ⟨0, .row (somR r b).cs⟩)]) (ver := (pickB r.ba b r.ba.length).length) (cs := cR (pickB r.ba b r.ba.length)) rfl rfl (cR_into _ _) rfl ?_ ?_ (WkV.pure (by simp only [V.into, rm_into]))) ⟨rfl, rfl⟩
    · simp only [gos, eq_self, reduceIte, ↓reduceIte, V.frz, rmRow_frz, e1, e2, e3]
    · simp only [gos, eq_self, Nat.reduceEqDiff, reduceIte, ↓reduceIte, frzH, Blk.frz, V.frz, rmRow_frz, e1, e2, e3]
set_option maxHeartbeats 8000000 in
theorem l_BathGiven (r : Rm) (hl : I64 r.cu.last) (tried : Int) (htr : 0 ≤ tried ∧ tried ≤ 255) :
    Vm.Fn Tryz.prog 9 [.agg r.cs, .int .u8 tried] [] fun v h' => v = .bool true := by
  refine Fn.body tabOk Tryz.func9 rfl (Nat.le_of_ble_eq_true rfl) (Ks.ok (fz := (fzn [])) (cl := (cln [(5, .d tg0 [cP, cP, cP, cP, cP, cP, cP, cP, cP, cP, cP, cP, cP]), (12, .d tg0 [cP, cP, cP, cP, cP, cP, cP, cP, cP, cP, cP, cP, cP, cP, cP, cP, cP, cP, cP, cP, cP, cP, cP, cP, cP, cP, cP, cP, cP, cP, cP]), (15, .d tg0 [cP, cP, cP, cP, cP, cP, cP, cP, cP, cP, cP, cP, cP])])) tabOk mixed ?_)
  generalize hQ : FnPost tt Tryz.f9 _ _ = Q
  simp only [Tryz.f9, argsEnv, Nat.reduceAdd]
  simp only [gos, eq_self, Nat.reduceLT, Nat.reduceEqDiff, reduceCtorEq, reduceIte, ↓reduceIte, tt, vgo, vout, vguard, callOf, vop, ev, cv, vload, newRow, rms]
  refine Cl.pu (c_ready9 r hl) ?_ rfl (by simp only [V.into, intoL, Bool.and_true, rm_into])
  cases hrd : sReadyR r with
  | false =>
    simp only [gos, eq_self, Nat.reduceLT, Nat.reduceEqDiff, reduceIte, ↓reduceIte, vgo, vout, vguard, callOf, vop, ev]
    refine Cl.pu c_awake9 ?_
    simp only [gos, eq_self, Nat.reduceLT, reduceIte, ↓reduceIte, vgo, vout, vguard, callOf, vop, ev]
    subst hQ
    exact FnPost.plain trivial (v := .bool true) (fun h2 e => by rfl) WkV.refl rfl
  | true =>
    obtain ⟨hr, h0, k, hb4, hp3⟩ := ready9_ok hl hrd
    have hn : r.ba.length < 6 := by have := k.len; omega
    have hp5 := pow5 hn
    have h2p := Nat.two_pow_pos r.ba.length
    obtain ⟨t, ht⟩ : ∃ t : Nat, (t : Int) = tried := ⟨tried.toNat, by omega⟩
    have wT := i64_in (show -9223372036854775808 ≤ tried by omega) (show tried ≤ 9223372036854775807 by omega)
    have hand := and_full (n := r.ba.length) (t := t) hn (by omega)
    obtain ⟨m, hm⟩ : ∃ m : Nat, m = t % 2 ^ r.ba.length := ⟨_, rfl⟩
    have hml : m < 2 ^ r.ba.length := by rw [hm]; exact Nat.mod_lt _ h2p
    rw [← hm, ht] at hand
    have hno := andn (n := r.ba.length) (b := m) hn hml
    rw [full_nat] at hno
    have hwf : ∀ b, (somR r b).wf := fun b => (somR_ok k b).wf
    have hps := plan_som k
    simp only [gos, eq_self, Nat.reduceLT, Nat.reduceEqDiff, reduceCtorEq, reduceIte, ↓reduceIte, tt, vgo, vout, vguard, callOf, vop, ev, vload, rms]
    refine Cl.pu (c_Room r hr) ?_ rfl (by simp only [V.into, intoL, Bool.and_true, rm_into])
    simp only [gos, eq_self, Nat.reduceLT, reduceIte, ↓reduceIte, vgo, vout, vguard, callOf, ev]
    refine Cl.pu (c_bGive r hr) ?_ rfl (by simp only [V.into, intoL, Bool.and_true, rm_into])
    rw [giveR_eq k]
    obtain ⟨gl, ge, eG⟩ : ∃ (l : List Int) (e : Int), (if sSureN r zL = true then ((giveAll r).getD [], 0) else (([] : List Int), (10 : Int))) = (l, e) := ⟨_, _, rfl⟩
    rw [eG]
    simp only [gos, eq_self, Nat.reduceLT, Nat.reduceEqDiff, reduceCtorEq, reduceIte, ↓reduceIte, tt, vgo, vout, vguard, callOf, vop, ev, vload, rms, wT]
    refine Cl.pu (c_r9Full r k.len) ?_ rfl (by simp only [V.into, intoL, Bool.and_true, rm_into])
    rw [full_nat]
    simp only [gos, eq_self, Nat.reduceLT, Nat.reduceEqDiff, reduceIte, ↓reduceIte, vgo, vout, vguard, callOf, vop, ev, vbin, vint, isShift, isNilConst, hand]
    refine Wr.draw (by kernel_rfl) ?_
    simp only [gos, eq_self, Nat.reduceLT, Nat.reduceEqDiff, Nat.reduceAdd, reduceCtorEq, reduceIte, ↓reduceIte, tt, vgoD, voutD, vclsOk, vids, mayWrite, V.ids, vguard, callOf, vop, ev, vload, clsAt, rms]
    refine CD.pu (c_r9Full r k.len) ?_ rfl (by simp only [V.into, intoL, Bool.and_true, rm_into])
    rw [full_nat]
    simp only [gos, eq_self, Nat.reduceLT, Nat.reduceEqDiff, reduceIte, ↓reduceIte, vgoD, voutD, vclsOk, vids, mayWrite, vguard, callOf, vop, ev, vbin, vint, isShift, isNilConst, hno]
    refine CD.pu (c_some9 r k _ (by omega)) ?_ rfl (by simp only [V.into, intoL, Bool.and_true, rm_into])
    simp only [gos, eq_self, Nat.reduceLT, reduceIte, ↓reduceIte, vgoD, voutD, vguard, callOf, ev]
    refine CD.pu (c_Room _ (hwf _)) ?_ rfl (by simp only [V.into, intoL, Bool.and_true, rm_into])
    simp only [gos, eq_self, Nat.reduceLT, reduceIte, ↓reduceIte, vgoD, voutD, vguard, callOf, ev]
    refine CD.pu (c_bPlan _ (hwf _)) ?_ rfl (by simp only [V.into, intoL, Bool.and_true, rm_into])
    obtain ⟨pl1, pe1, eP1⟩ : ∃ (l : List Int) (e : Int), sPlanR (somR r (2 ^ r.ba.length - 1 - m)) = (l, e) := ⟨_, _, rfl⟩
    have hpe1 := hps (2 ^ r.ba.length - 1 - m)
    rw [eP1] at hpe1
    have hpe1 : pe1 = if restN r (2 ^ r.ba.length - 1 - m) = true then 0 else 10 := hpe1
    rw [eP1]
    have y0 : decide ((0 : Int) = 0) = true := rfl
    have y1 : decide ((10 : Int) = 0) = false := rfl
    have y2 : decide ((10 : Int) = 10) = true := rfl
    have y3 : decide ((0 : Int) = 10) = false := rfl
    have y4 : ((0 : Int) != 0) = false := rfl
    have y5 : ((10 : Int) != 0) = true := rfl
    cases hs : sSureN r zL with
    | false =>
      rw [hs, if_neg (by simp)] at eG
      injection eG with eG1 eG2
      have hpe : pe1 = 10 := by
        rw [hpe1, if_neg]
        intro h
        rw [restN_zero k h] at hs; cases hs
      simp only [gos, eq_self, Nat.reduceLT, Nat.reduceEqDiff, reduceIte, ↓reduceIte, vgo, vout, vgoD, voutD, vclsOk, vids, mayWrite, vguard, callOf, vop, ev, cv, vbin, vint, isShift, isNilConst, ← eG2, hpe, y5]
      refine Cl.pu c_awake9 ?_
      simp only [gos, eq_self, Nat.reduceLT, Nat.reduceEqDiff, reduceIte, ↓reduceIte, vgo, vout, vguard, callOf, vop, ev]
      subst hQ
      exact FnPost.plain trivial (v := .bool true) (fun h2 e => by rfl) WkV.refl rfl
    | true =>
      obtain ⟨b, b1, b2, b3, b4⟩ := give_best k hs
      rw [hs, if_pos rfl, b2] at eG
      injection eG with eG1 eG2
      have eG1 : sBits b = gl := eG1
      have hb32 : b < 32 := by omega
      obtain ⟨v1, v2⟩ := bitsV_ok ⟨b, hb32⟩
      simp only at v1 v2
      have hsl := sBits_len b
      simp only [gos, eq_self, Nat.reduceLT, Nat.reduceEqDiff, reduceIte, ↓reduceIte, vgo, vout, vgoD, voutD, vclsOk, vids, mayWrite, vguard, callOf, vop, ev, cv, vbin, vint, isShift, isNilConst, ← eG2, ← eG1, vI]
      refine W.loop tabOk mixed (fun i : Nat => ([(2, .rop r.cs), (5, vI (sBits b)), (7, vi m), (9, vi pe1), (10, vi (bitsV b i)), (11, vi i)], [])) (fun i => (sBits b).length - i) (fun i => i ≤ (sBits b).length) 0 (by omega) (Wk.env (by simp [subE, Env.get, vI, bitsV])) ?_
      intro i hi
      by_cases hil : (i : Int) < (sBits b).length
      · obtain ⟨g0, g1, g2, g3, g4⟩ := v2 ⟨i, by omega⟩ (by simp only; omega)
        simp only at g0 g1 g2 g3 g4
        have hat := cI_at (Int.natCast_nonneg i) hil
        rw [Int.toNat_natCast, Nat.mul_one] at hat
        have hgn : gi (sBits b) i < (r.ba.length : Int) := by
          have h3 : 2 ^ (gi (sBits b) i).toNat < 2 ^ r.ba.length := by omega
          have := (Nat.pow_lt_pow_iff_right (by omega : 1 < 2)).1 h3
          omega
        have hneg : ¬ gi (sBits b) i < 0 := by omega
        have hge : ¬ (r.ba.length : Int) ≤ gi (sBits b) i := by omega
        have wU := u64_in (n := gi (sBits b) i) (by omega) (by omega)
        have hsh : IntKind.i64.wrap (1 * 2 ^ min (gi (sBits b) i).toNat IntKind.i64.bits) = 2 ^ (gi (sBits b) i).toNat := by
          have := shl1 (i := (gi (sBits b) i).toNat) (by omega)
          rw [show (((gi (sBits b) i).toNat : Nat) : Int).toNat = (gi (sBits b) i).toNat by omega] at this
          exact this
        simp only [gos, eq_self, Nat.reduceLT, Nat.reduceEqDiff, reduceIte, ↓reduceIte, tt, vgo, vout, vguard, callOf, vop, ev, vbin, vint, isShift, isNilConst, vlen, vI, hil]
        refine Wr.draw (by kernel_rfl) ?_
        by_cases hi0 : 0 < (i : Int)
        · have w1 : IntKind.i64.wrap ((i : Int) - 1) = ((i - 1 : Nat) : Int) := by rw [i64_in (by omega) (by omega)]; omega
          have hjml : ((i - 1 : Nat) : Int) < (sBits b).length := by omega
          have hat2 := cI_at (Int.natCast_nonneg (i - 1)) hjml
          rw [Int.toNat_natCast, Nat.mul_one] at hat2
          have hlt := g4 (by omega)
          have hle : ¬ gi (sBits b) i ≤ gi (sBits b) ((i - 1 : Nat) : Int) := by omega
          simp only [gos, eq_self, Nat.reduceLT, Nat.reduceEqDiff, Nat.reduceAdd, reduceCtorEq, reduceIte, ↓reduceIte, tt, vgo, vout, vgoD, voutD, vclsOk, vids, mayWrite, V.ids, vguard, callOf, vop, ev, cv, vbin, vint, isShift, isNilConst, vload, vlen, clsAt, rms, vR, hil, hat, hneg, hge, hi0, w1, hjml, hat2, hle, wU, hsh, g3, Int.natCast_nonneg, Int.toNat_natCast, Nat.mul_one]
          exact Nx.mk (i + 1) (show (sBits b).length - (i + 1) < (sBits b).length - i by omega) (show i + 1 ≤ (sBits b).length by omega) (Wk.env (by simp [subE, Env.get, i64_succ (show (i : Int) < 9223372036854775807 by omega)]))
        · simp only [gos, eq_self, Nat.reduceLT, Nat.reduceEqDiff, Nat.reduceAdd, reduceCtorEq, reduceIte, ↓reduceIte, tt, vgo, vout, vgoD, voutD, vclsOk, vids, mayWrite, V.ids, vguard, callOf, vop, ev, cv, vbin, vint, isShift, isNilConst, vload, vlen, clsAt, rms, vR, hil, hat, hneg, hge, hi0, wU, hsh, g3, Int.natCast_nonneg, Int.toNat_natCast, Nat.mul_one]
          exact Nx.mk (i + 1) (show (sBits b).length - (i + 1) < (sBits b).length - i by omega) (show i + 1 ≤ (sBits b).length by omega) (Wk.env (by simp [subE, Env.get, i64_succ (show (i : Int) < 9223372036854775807 by omega)]))
      · have hie : i = (sBits b).length := by omega
        subst hie
        have hno2 := andn (n := r.ba.length) (b := b) hn b1
        rw [full_nat] at hno2
        obtain ⟨pl2, pe2, eP2⟩ : ∃ (l : List Int) (e : Int), sPlanR (somR r (2 ^ r.ba.length - 1 - b)) = (l, e) := ⟨_, _, rfl⟩
        have hpe2 := hps (2 ^ r.ba.length - 1 - b)
        rw [eP2, b3, if_pos rfl] at hpe2
        have hpe2 : pe2 = 0 := hpe2
        rw [v1]
        simp only [gos, eq_self, Nat.reduceLT, Nat.reduceEqDiff, reduceIte, ↓reduceIte, tt, vgo, vout, vguard, callOf, vop, ev, vbin, vint, isShift, isNilConst, vlen, vI, hil]
        refine Wr.draw (by kernel_rfl) ?_
        simp only [gos, eq_self, Nat.reduceLT, Nat.reduceEqDiff, Nat.reduceAdd, reduceCtorEq, reduceIte, ↓reduceIte, tt, vgoD, voutD, vclsOk, vids, mayWrite, V.ids, vguard, callOf, vop, ev, vload, clsAt, rms]
        refine CD.pu (c_r9Full r k.len) ?_ rfl (by simp only [V.into, intoL, Bool.and_true, rm_into])
        rw [full_nat]
        simp only [gos, eq_self, Nat.reduceLT, Nat.reduceEqDiff, reduceIte, ↓reduceIte, vgoD, voutD, vclsOk, vids, mayWrite, vguard, callOf, vop, ev, vbin, vint, isShift, isNilConst, hno2]
        refine CD.pu (c_some9 r k _ (by omega)) ?_ rfl (by simp only [V.into, intoL, Bool.and_true, rm_into])
        simp only [gos, eq_self, Nat.reduceLT, reduceIte, ↓reduceIte, vgoD, voutD, vguard, callOf, ev]
        refine CD.pu (c_Room _ (hwf _)) ?_ rfl (by simp only [V.into, intoL, Bool.and_true, rm_into])
        simp only [gos, eq_self, Nat.reduceLT, reduceIte, ↓reduceIte, vgoD, voutD, vguard, callOf, ev]
        refine CD.pu (c_bPlan _ (hwf _)) ?_ rfl (by simp only [V.into, intoL, Bool.and_true, rm_into])
        rw [eP2, hpe2]
        cases hrm : restN r (2 ^ r.ba.length - 1 - m) with
        | true =>
          rw [hrm, if_pos rfl] at hpe1
          have hsh := b4 m hml hrm
          rw [hpe1]
          simp only [gos, eq_self, Nat.reduceLT, Nat.reduceEqDiff, reduceIte, ↓reduceIte, vgo, vout, vgoD, voutD, vclsOk, vids, mayWrite, vguard, callOf, vop, ev, cv, vbin, vint, isShift, isNilConst, y3]
          refine Cl.pu (c_rBits m (by omega)) ?_
          simp only [gos, eq_self, Nat.reduceLT, Nat.reduceEqDiff, reduceIte, ↓reduceIte, vgo, vout, vguard, callOf, vop, ev]
          refine Cl.pu (c_rShorter (sBits m) (sBits b) (by have := sBits_len m; omega)) ?_ rfl (by simp only [V.into, intoL, cI_into, vI_into, Bool.and_true])
          rw [hsh]
          simp only [gos, eq_self, Nat.reduceLT, Nat.reduceEqDiff, reduceIte, ↓reduceIte, vgo, vout, vguard, callOf, vop, ev]
          refine Cl.pu c_awake9 ?_
          simp only [gos, eq_self, Nat.reduceLT, Nat.reduceEqDiff, reduceIte, ↓reduceIte, vgo, vout, vguard, callOf, vop, ev]
          subst hQ
          exact FnPost.plain trivial (v := .bool true) (fun h2 e => by rfl) WkV.refl rfl
        | false =>
          rw [hrm, if_neg (by simp)] at hpe1
          rw [hpe1]
          simp only [gos, eq_self, Nat.reduceLT, Nat.reduceEqDiff, reduceIte, ↓reduceIte, vgo, vout, vgoD, voutD, vclsOk, vids, mayWrite, vguard, callOf, vop, ev, cv, vbin, vint, isShift, isNilConst]
          refine Cl.pu c_awake9 ?_
          simp only [gos, eq_self, Nat.reduceLT, Nat.reduceEqDiff, reduceIte, ↓reduceIte, vgo, vout, vguard, callOf, vop, ev]
          subst hQ
          exact FnPost.plain trivial (v := .bool true) (fun h2 e => by rfl) WkV.refl rfl
end Go.Vm
