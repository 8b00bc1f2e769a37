import Derived.Test.YtjbgmnpbpmljaaaB3
import Derived.Test.YtjbgmnpbpmljaaaRows
import Derived.WalkKit
import Derived.ProofKit
import Derived.OpenShut
import Derived.ShutString
import Derived.ChangeOld
import Derived.Below
set_option linter.unusedVariables false
set_option linter.unusedSimpArgs false
set_option maxRecDepth 100000
namespace Go.Vm
open Go.Proofs Go.ChangeShapes Go.WideShapes Go.ChangeAt Go.RowKit
/-! ### from a contract to the row -/
theorem hrel0 (w : World) : HRel (gh0 w) [] w :=
  ⟨fun B o v e => e, fun i e he => (by cases he), fun i j e e' B c c' he => (by cases he), fun i e B c o he => (by cases he), fun i v h => absurd rfl h⟩
theorem calls_of_fn {P : Program} {f : FuncId} {vs : List V} {xs : List Value} {w : World} (c : Fn P f vs [] fun v h' => v = .bool true) (hv : VRL (gh0 w) vs xs) :
    Calls P f xs.toArray w fun e w' => e = .returned (.bool true) ∧ Below w.heap.size w w' := fun cs => by
  obtain ⟨v, h', vc, g', w', fr, rfl, st, hf, hl, hvc, H', t, le⟩ := c (gh0 w) w xs hv (hrel0 w) cs
  simp only [VR] at hvc
  subst hvc
  exact ⟨.returned (.bool true), w', fr, ⟨rfl, t.os, t.tape, t.output, t.size, fun k hk => t.mods k hk (by rintro ⟨i, e, c, he, _⟩; cases he)⟩, st, hf, hl⟩
section
variable {H : Type} {enc : TypeId × Value → H} {P : Program} {w : World} {base : Nat} {spare : Nat → Bool} {held : Bool} {fuel : Nat} {t : TypeId} {cs : List Value} {x : DataW H × List MemPlace}
end
section
variable {H : Type} {enc : TypeId × Value → H} {w : World} {base : Nat} {spare : Nat → Bool} {held : Bool} {fuel : Nat} {cs : List Value} {x : DataW H × List MemPlace}
theorem rd_rg (h : DataW.trod enc Try.prog w base spare held fuel 24 cs = some x) : ∃ r : Rg, r.ok ∧ VRL (gh0 w) r.cs cs := by
  obtain ⟨xs, n, _, _, hl, hx, hf⟩ := DataW.trod_struct Try.underlying24 h
  have hl2 : cs.length = 2 := hl.trans (by kernel_rfl)
  have hx2 : xs.length = 2 := hx
  have f0 : DataW.trod enc Try.prog w base spare held n 3 ((cs.drop 0).take (Try.prog.cellsOf 3)) = xs[0]? := hf 0 _ rfl
  have f1 : DataW.trod enc Try.prog w base spare held n 3 ((cs.drop 1).take (Try.prog.cellsOf 3)) = xs[1]? := hf 1 _ rfl
  rw [List.getElem?_eq_getElem (by omega)] at f0 f1
  obtain ⟨a, ha, va⟩ := rd_int Try.underlying3 f0
  obtain ⟨b, hb, vb⟩ := rd_int Try.underlying3 f1
  refine ⟨⟨a, b⟩, ⟨ha, hb⟩, ?_⟩
  have hc : Try.prog.cellsOf 3 = 1 := by kernel_rfl
  simp only [hc, List.drop_zero] at va vb
  rw [List.take_of_length_le (by simp; omega)] at vb
  exact VRL_two va vb
theorem rd_rd (h : DataW.trod enc Try.prog w base spare held fuel 96 cs = some x) : ∃ r : Rd, r.ok ∧ VRL (gh0 w) r.cs cs := by
  obtain ⟨xs, n, _, _, hl, hx, hf⟩ := DataW.trod_struct Try.underlying96 h
  have hl2 : cs.length = 3 := hl.trans (by kernel_rfl)
  have hx2 : xs.length = 2 := hx
  have f0 : DataW.trod enc Try.prog w base spare held n 3 ((cs.drop 0).take (Try.prog.cellsOf 3)) = xs[0]? := hf 0 _ rfl
  have f1 : DataW.trod enc Try.prog w base spare held n 24 ((cs.drop 1).take (Try.prog.cellsOf 24)) = xs[1]? := hf 1 _ rfl
  rw [List.getElem?_eq_getElem (by omega)] at f0 f1
  obtain ⟨a, ha, va⟩ := rd_int Try.underlying3 f0
  obtain ⟨b, hb, vb⟩ := rd_rg f1
  refine ⟨⟨a, b⟩, ⟨ha, hb⟩, ?_⟩
  have hc : Try.prog.cellsOf 3 = 1 := by kernel_rfl
  have hc2 : Try.prog.cellsOf 24 = 2 := by kernel_rfl
  simp only [hc, hc2, List.drop_zero] at va vb
  rw [List.take_of_length_le (by simp; omega)] at vb
  exact VRL_two va vb
theorem cR_flat : ∀ l : List Rg, l.flatMap Rg.cs = cR l
  | [] => rfl
  | r :: l => by rw [List.flatMap_cons, cR_flat l]; rfl
theorem cD_flat : ∀ l : List Rd, l.flatMap Rd.cs = cD l
  | [] => rfl
  | r :: l => by rw [List.flatMap_cons, cD_flat l]; rfl
theorem rd_cu (h : DataW.trod enc Try.prog w base spare held fuel 28 cs = some x) : ∃ c : Cu, c.ok ∧ VRL (gh0 w) c.cs cs := by
  obtain ⟨xs, n, _, _, hl, hx, hf⟩ := DataW.trod_struct Try.underlying28 h
  have hl2 : cs.length = 11 := hl.trans (by kernel_rfl)
  have hx2 : xs.length = 10 := hx
  have f0 : DataW.trod enc Try.prog w base spare held n 3 ((cs.drop 0).take (Try.prog.cellsOf 3)) = xs[0]? := hf 0 _ rfl
  have f1 : DataW.trod enc Try.prog w base spare held n 3 ((cs.drop 1).take (Try.prog.cellsOf 3)) = xs[1]? := hf 1 _ rfl
  have f2 : DataW.trod enc Try.prog w base spare held n 3 ((cs.drop 2).take (Try.prog.cellsOf 3)) = xs[2]? := hf 2 _ rfl
  have f3 : DataW.trod enc Try.prog w base spare held n 3 ((cs.drop 3).take (Try.prog.cellsOf 3)) = xs[3]? := hf 3 _ rfl
  have f4 : DataW.trod enc Try.prog w base spare held n 3 ((cs.drop 4).take (Try.prog.cellsOf 3)) = xs[4]? := hf 4 _ rfl
  have f5 : DataW.trod enc Try.prog w base spare held n 22 ((cs.drop 5).take (Try.prog.cellsOf 22)) = xs[5]? := hf 5 _ rfl
  have f6 : DataW.trod enc Try.prog w base spare held n 22 ((cs.drop 6).take (Try.prog.cellsOf 22)) = xs[6]? := hf 6 _ rfl
  have f7 : DataW.trod enc Try.prog w base spare held n 24 ((cs.drop 7).take (Try.prog.cellsOf 24)) = xs[7]? := hf 7 _ rfl
  have f8 : DataW.trod enc Try.prog w base spare held n 25 ((cs.drop 9).take (Try.prog.cellsOf 25)) = xs[8]? := hf 8 _ rfl
  have f9 : DataW.trod enc Try.prog w base spare held n 26 ((cs.drop 10).take (Try.prog.cellsOf 26)) = xs[9]? := hf 9 _ rfl
  rw [List.getElem?_eq_getElem (by omega)] at f0 f1 f2 f3 f4 f5 f6 f7 f8 f9
  have hc : Try.prog.cellsOf 3 = 1 := by kernel_rfl
  have hc2 : Try.prog.cellsOf 24 = 2 := by kernel_rfl
  have hc3 : Try.prog.cellsOf 22 = 1 := by kernel_rfl
  have hc4 : Try.prog.cellsOf 25 = 1 := by kernel_rfl
  have hc5 : Try.prog.cellsOf 26 = 1 := by kernel_rfl
  have hc6 : Try.prog.cellsOf 96 = 3 := by kernel_rfl
  obtain ⟨a0, h0, v0⟩ := rd_int Try.underlying3 f0
  obtain ⟨a1, h1, v1⟩ := rd_int Try.underlying3 f1
  obtain ⟨a2, h2, v2⟩ := rd_int Try.underlying3 f2
  obtain ⟨a3, h3, v3⟩ := rd_int Try.underlying3 f3
  obtain ⟨a4, h4, v4⟩ := rd_int Try.underlying3 f4
  obtain ⟨a5, h5, _, v5⟩ := rd_ints Try.underlying22 Try.underlying3 hc f5
  obtain ⟨a6, h6, _, v6⟩ := rd_ints Try.underlying22 Try.underlying3 hc f6
  obtain ⟨a7, h7, v7⟩ := rd_rg f7
  obtain ⟨a8, h8, _, v8⟩ := rd_slice Rg.cs Rg.ok 2 Try.underlying25 hc2 (by omega) (fun _ => rfl) f8 fun n cs x h => rd_rg h
  obtain ⟨a9, h9, _, v9⟩ := rd_slice Rd.cs Rd.ok 3 Try.underlying26 hc6 (by omega) (fun _ => rfl) f9 fun n cs x h => rd_rd h
  rw [cR_flat] at v8
  rw [cD_flat] at v9
  refine ⟨⟨a0, a1, a2, a3, a4, a5, a6, a7, a8, a9⟩, ⟨h0, h1, h2, h3, h4, h5, h6, h7, h8, h9⟩, ?_⟩
  match cs, hl2 with
  | [c0, c1, c2, c3, c4, c5, c6, c7, c8, c9, c10], _ =>
    simp only [hc, hc2, hc3, hc4, hc5, List.drop_zero, List.drop_succ_cons, List.take_succ_cons, List.take_zero, List.take_nil] at v0 v1 v2 v3 v4 v5 v6 v7 v8 v9
    exact VRL.append v0 (VRL.append v1 (VRL.append v2 (VRL.append v3 (VRL.append v4 (VRL.append v5 (VRL.append v6 (VRL.append v7 (VRL.append v8 v9))))))))
end
end Go.Vm

set_option linter.unusedVariables false
set_option linter.unusedSimpArgs false
set_option maxRecDepth 100000
namespace Go.Vm
open Go.Proofs
/-! ### sets of readings, by bits -/
def bitsTo (b p : Nat) : List Int := ((List.range p).filter fun i => b.testBit i).map fun (i : Nat) => (i : Int)
def sBits (b : Nat) : List Int := bitsTo b 5
theorem bitsTo_succ (b p : Nat) : bitsTo b (p + 1) = if b.testBit p then bitsTo b p ++ [(p : Int)] else bitsTo b p := by
  simp only [bitsTo, List.range_succ, List.filter_append, List.filter_cons, List.filter_nil]
  split <;> simp
theorem bitsTo_len (b p : Nat) : (bitsTo b p).length ≤ p := by
  rw [bitsTo, List.length_map]
  exact Nat.le_trans (List.length_filter_le _ _) (by simp)
theorem shr5 {b p : Nat} (hb : b < 32) (hp : p < 6) : (b : Int).fdiv (2 ^ min ((p : Int)).toNat IntKind.i64.bits) = ((b >>> p : Nat) : Int) := by
  have : ∀ b : Fin 32, ∀ p : Fin 6, (((b : Nat) : Int)).fdiv (2 ^ min ((((p : Nat) : Int))).toNat IntKind.i64.bits) = (((b : Nat) >>> (p : Nat) : Nat) : Int) := by decide +kernel
  exact this ⟨b, hb⟩ ⟨p, hp⟩
theorem bit5 {b p : Nat} (hb : b < 32) (hp : p < 6) : decide (((b >>> p : Nat) : Int).tmod 2 = 1) = b.testBit p := by
  have : ∀ b : Fin 32, ∀ p : Fin 6, decide ((((b : Nat) >>> (p : Nat) : Nat) : Int).tmod 2 = 1) = (b : Nat).testBit p := by decide +kernel
  exact this ⟨b, hb⟩ ⟨p, hp⟩
theorem end5 {b p : Nat} (hb : b < 32) (hp : p < 6) (h : b >>> p = 0) : bitsTo b p = sBits b := by
  have : ∀ b : Fin 32, ∀ p : Fin 6, (b : Nat) >>> (p : Nat) = 0 → bitsTo b p = sBits b := by decide +kernel
  exact this ⟨b, hb⟩ ⟨p, hp⟩ h
theorem on5 {b p : Nat} (hb : b < 32) (h : 0 < b >>> p) : p < 5 := by
  rcases Nat.lt_or_ge p 5 with h1 | h1
  · exact h1
  · rw [Nat.shiftRight_eq_div_pow, Nat.div_eq_of_lt (Nat.lt_of_lt_of_le hb (Nat.pow_le_pow_right (n := 2) (by omega) h1))] at h; omega
theorem c_rBits (b : Nat) (hb : b < 32) : Pu Try.prog (.fn 57 [] []) [vi b] (vI (sBits b)) := by
  refine Ev.fn Try.func57 rfl rfl (Fn.body tabOk Try.func57 rfl (Nat.le_of_ble_eq_true rfl) (Ks.ok (fz := (fzn [])) (cl := (cln [])) tabOk mixed ?_))
  generalize hQ : FnPost tt Try.f57 _ _ = Q
  simp only [Try.f57, List.nil_append, List.append_nil, argsEnv]
  simp only [gos, eq_self, Nat.reduceLT, reduceIte, ↓reduceIte, vgo, vout, vguard, callOf, vop, ev, cv]
  refine W.loop tabOk mixed (fun p : Nat => ([(0, vi b), (3, .own 21 (bitsTo b p).length 0 1 (bitsTo b p).length), (4, vi p)], [(21, ⟨(bitsTo b p).length, .row (cI (bitsTo b p))⟩)])) (fun p => 5 - p) (fun p => p ≤ 5) 0 (by omega) (Wk.trans (Wk.sl0E 3 21 1 rfl rfl) (Wk.env (by simp [subE, Env.get, bitsTo]))) ?_
  intro p hp
  have hw := u64_in (n := (p : Int)) (by omega) (by omega)
  have hn : ¬ (p : Int) < 0 := by omega
  have hs := shr5 hb (p := p) (by omega)
  have hbt := bit5 hb (p := p) (by omega)
  have hbl := bitsTo_len b p
  have z2 : ¬ (2 : Int) = 0 := by omega
  by_cases hil : 0 < ((b >>> p : Nat) : Int)
  · have hp5 := on5 hb (p := p) (Int.natCast_pos.1 hil)
    simp only [gos, eq_self, Nat.reduceLT, Nat.reduceEqDiff, reduceCtorEq, reduceIte, ↓reduceIte, tt, vgo, vout, vguard, callOf, vop, ev, cv, vbin, vint, isShift, isNilConst, hw, hn, hs, hil, z2, hbt]
    have hl : (cI (bitsTo b p)).length = (bitsTo b p).length * 1 := by rw [cI_len]; omega
    have hl9 : (bitsTo b p).length ≤ 999999 := by omega
    have hsx := bitsTo_succ b p
    cases ht : b.testBit p with
    | true =>
      rw [ht, if_pos rfl] at hsx
      simp only [gos, eq_self, Nat.reduceLT, Nat.reduceEqDiff, Nat.reduceAdd, Nat.reduceMul, Nat.reduceLeDiff, reduceCtorEq, reduceIte, ↓reduceIte, tt, vgo, vout, vguard, callOf, vop, ev, cv, vbin, vint, isShift, isNilConst, vfill, vappend, srcOf, hl, hl9]
      refine Nx.mk (p + 1) (show 5 - (p + 1) < 5 - p by omega) (by omega) (Wk.heap (fun j => ?_) ?_)
      · rw [hsx, cI_snoc, List.length_append]; rfl
      · simp [subE, Env.get, hsx, i64_succ (show (p : Int) < 9223372036854775807 by omega)]
    | false =>
      rw [ht, if_neg (by simp)] at hsx
      simp only [gos, eq_self, Nat.reduceLT, Nat.reduceEqDiff, reduceCtorEq, reduceIte, ↓reduceIte, vgo, vout, vguard, callOf, vop, ev, cv, vbin, vint, isShift, isNilConst]
      exact Nx.mk (p + 1) (show 5 - (p + 1) < 5 - p by omega) (by omega) (by rw [hsx]; exact Wk.env (by simp [subE, Env.get, i64_succ (show (p : Int) < 9223372036854775807 by omega)]))
  · simp only [gos, eq_self, Nat.reduceLT, Nat.reduceEqDiff, reduceCtorEq, reduceIte, ↓reduceIte, tt, vgo, vout, vguard, callOf, vop, ev, cv, vbin, vint, isShift, isNilConst, hw, hn, hs, hil]
    subst hQ
    have ht : (cI (bitsTo b p)).take (bitsTo b p).length = cI (bitsTo b p) := List.take_of_length_le (by rw [cI_len]; omega)
    have hz : b >>> p = 0 := (Nat.eq_zero_or_pos _).resolve_right fun h => hil (Int.natCast_pos.2 h)
    rw [← end5 hb (p := p) (by omega) hz]
    refine FnPost.plain trivial (v := .own 21 (bitsTo b p).length 0 1 (bitsTo b p).length) (fun h2 e => by rfl) (WkV.frz 21 (v' := vI (bitsTo b p)) (h' := []) (ver := (bitsTo b p).length) (cs := cI (bitsTo b p)) rfl rfl (cI_into _ _) rfl ?_ ?_ WkV.refl) ⟨rfl, rfl⟩
    · simp [V.frz, vI, ht]
    · simp [frzH]
/-! ### before, shorter -/
def lBefore : List Int → List Int → Bool
  | [], b => decide (0 < b.length)
  | _ :: _, [] => false
  | x :: a, y :: b => if x = y then lBefore a b else decide (x < y)
theorem drop_gi {l : List Int} {i : Nat} (h : (i : Int) < l.length) : l.drop i = gi l i :: l.drop (i + 1) := by
  rw [List.drop_eq_getElem_cons (by omega), gi, Int.toNat_natCast, List.getD_eq_getElem?_getD, List.getElem?_eq_getElem (by omega)]; rfl
set_option maxHeartbeats 1000000 in
theorem c_rBefore (a b : List Int) (ha : (a.length : Int) ≤ 1000000) : Pu Try.prog (.fn 74 [] []) [vI a, vI b] (.bool (lBefore a b)) := by
  refine Ev.fn Try.func74 rfl rfl (Fn.body tabOk Try.func74 rfl (Nat.le_of_ble_eq_true rfl) (Ks.ok (fz := (fzn [])) (cl := (cln [(4, .d tg0 [cP, cP, cP, cP, cP, cP, cP, cP, cP]), (5, .d tg0 [cP, cP, cP, cP, cP, cP, cP, cP, cP, cP])])) tabOk mixed ?_))
  generalize hQ : FnPost tt Try.f74 _ _ = Q
  simp only [Try.f74, List.nil_append, List.append_nil, argsEnv, Nat.reduceAdd]
  simp only [gos, eq_self, Nat.reduceLT, Nat.reduceEqDiff, reduceCtorEq, reduceIte, ↓reduceIte, vgo, vout, vguard, callOf, vop, ev, cv]
  refine W.loop tabOk mixed (fun i : Nat => ([(0, vI a), (1, vI b), (5, vi i)], [])) (fun i => a.length - i) (fun i => i ≤ a.length ∧ i ≤ b.length ∧ lBefore a b = lBefore (a.drop i) (b.drop i)) 0 ⟨by omega, by omega, rfl⟩ (Wk.env (by simp [subE, Env.get])) ?_
  rintro i ⟨hi1, hi2, he⟩
  by_cases h1 : (i : Int) < a.length
  · by_cases h2 : (i : Int) < b.length
    · rw [drop_gi h1, drop_gi h2, lBefore] at he
      simp only [gos, eq_self, Nat.reduceLT, Nat.reduceEqDiff, reduceCtorEq, reduceIte, ↓reduceIte, tt, vgo, vout, vguard, callOf, vop, ev, vbin, vint, isShift, isNilConst, vlen, vI, h1, h2]
      refine Wr.draw (by kernel_rfl) ?_
      simp only [gos, eq_self, Nat.reduceLT, Nat.reduceEqDiff, Nat.reduceAdd, reduceCtorEq, reduceIte, ↓reduceIte, tt, vgoD, voutD, vclsOk, vids, mayWrite, V.ids, vguard, callOf, vop, ev, vbin, vint, isShift, isNilConst, vload, clsAt, h1, h2, cI_at (Int.natCast_nonneg i) h1, cI_at (Int.natCast_nonneg i) h2]
      by_cases hx : gi a i = gi b i
      · rw [if_pos hx] at he
        have hb : (gi a i != gi b i) = false := by simp [hx]
        simp only [gos, eq_self, Nat.reduceLT, Nat.reduceEqDiff, reduceCtorEq, reduceIte, ↓reduceIte, vgo, vout, vguard, callOf, vop, ev, cv, vbin, vint, isShift, isNilConst, hb]
        exact Nx.mk (i + 1) (show a.length - (i + 1) < a.length - i by omega) ⟨by omega, by omega, he⟩ (Wk.env (by simp [subE, Env.get, i64_succ (show (i : Int) < 9223372036854775807 by omega)]))
      · rw [if_neg hx] at he
        have hb : (gi a i != gi b i) = true := by simp [hx]
        simp only [gos, eq_self, Nat.reduceEqDiff, reduceIte, ↓reduceIte, hb]
        refine Wr.draw (by kernel_rfl) ?_
        simp only [gos, eq_self, Nat.reduceLT, Nat.reduceEqDiff, Nat.reduceAdd, reduceCtorEq, reduceIte, ↓reduceIte, tt, vgoD, voutD, vclsOk, vids, mayWrite, V.ids, vguard, callOf, vop, ev, vbin, vint, isShift, isNilConst, vload, clsAt, h1, h2, cI_at (Int.natCast_nonneg i) h1, cI_at (Int.natCast_nonneg i) h2]
        subst hQ
        exact FnPost.plain trivial (fun h2 e => by first | rfl | (simp only [Try.f74, vres, vresL, vres1, e _, gos, if_true, if_false, ne_eq, eq_self, Nat.reduceLT, Nat.reduceEqDiff, Nat.reduceAdd, Nat.reduceMul, Nat.reduceLeDiff, Nat.reduceBEq, reduceCtorEq, reduceIte, Array.toList, ↓reduceIte, tt, vgo, vout, vgoD, voutD, vclsOk, vids, mayWrite, V.ids, V.mids, vguard, callOf, vop, ev, cv, vbin, vint, isShift, isNilConst, vnil, isNilSlice, vload, vlen, newRow, vfill, vslice, entOf, vappend, srcOf, vcopy, vlookup, vupdate, mapOk, keyOf, intsOf, clsAt]; try rfl)) (WkV.pure (by simp only [V.into])) ⟨by rw [he], rfl⟩
    · have e2 : b.drop i = [] := List.drop_eq_nil_of_le (by omega)
      rw [e2, drop_gi h1, lBefore] at he
      have hb : decide ((a.length : Int) < b.length) = false := by simp; omega
      simp only [gos, eq_self, Nat.reduceLT, Nat.reduceEqDiff, reduceCtorEq, reduceIte, ↓reduceIte, tt, vgo, vout, vguard, callOf, vop, ev, vbin, vint, isShift, isNilConst, vlen, vI, h1, h2, hb]
      subst hQ
      exact FnPost.plain trivial (fun h2 e => by first | rfl | (simp only [Try.f74, vres, vresL, vres1, e _, gos, if_true, if_false, ne_eq, eq_self, Nat.reduceLT, Nat.reduceEqDiff, Nat.reduceAdd, Nat.reduceMul, Nat.reduceLeDiff, Nat.reduceBEq, reduceCtorEq, reduceIte, Array.toList, ↓reduceIte, tt, vgo, vout, vgoD, voutD, vclsOk, vids, mayWrite, V.ids, V.mids, vguard, callOf, vop, ev, cv, vbin, vint, isShift, isNilConst, vnil, isNilSlice, vload, vlen, newRow, vfill, vslice, entOf, vappend, srcOf, vcopy, vlookup, vupdate, mapOk, keyOf, intsOf, clsAt]; try rfl)) (WkV.pure (by simp only [V.into])) ⟨by rw [he], rfl⟩
  · have e1 : a.drop i = [] := List.drop_eq_nil_of_le (by omega)
    rw [e1, lBefore] at he
    have hb : decide ((a.length : Int) < b.length) = lBefore a b := by rw [he, List.length_drop]; congr 1; apply propext; omega
    simp only [gos, eq_self, Nat.reduceLT, Nat.reduceEqDiff, reduceCtorEq, reduceIte, ↓reduceIte, tt, vgo, vout, vguard, callOf, vop, ev, cv, vbin, vint, isShift, isNilConst, vlen, vI, h1, hb]
    subst hQ
    exact FnPost.plain trivial (fun h2 e => by first | rfl | (simp only [Try.f74, vres, vresL, vres1, e _, gos, if_true, if_false, ne_eq, eq_self, Nat.reduceLT, Nat.reduceEqDiff, Nat.reduceAdd, Nat.reduceMul, Nat.reduceLeDiff, Nat.reduceBEq, reduceCtorEq, reduceIte, Array.toList, ↓reduceIte, tt, vgo, vout, vgoD, voutD, vclsOk, vids, mayWrite, V.ids, V.mids, vguard, callOf, vop, ev, cv, vbin, vint, isShift, isNilConst, vnil, isNilSlice, vload, vlen, newRow, vfill, vslice, entOf, vappend, srcOf, vcopy, vlookup, vupdate, mapOk, keyOf, intsOf, clsAt]; try rfl)) (WkV.pure (by simp only [V.into])) ⟨rfl, rfl⟩
def lShorter (a b : List Int) : Bool := decide (a.length < b.length) || (decide (a.length = b.length) && lBefore a b)
theorem c_rShorter (a b : List Int) (ha : (a.length : Int) ≤ 1000000) : Pu Try.prog (.fn 56 [] []) [vI a, vI b] (.bool (lShorter a b)) := by
  refine Ev.fn Try.func56 rfl rfl (Fn.body tabOk Try.func56 rfl (Nat.le_of_ble_eq_true rfl) (Ks.ok (fz := (fzn [])) (cl := (cln [])) tabOk mixed ?_))
  generalize hQ : FnPost tt Try.f56 _ _ = Q
  simp only [Try.f56, List.nil_append, List.append_nil, argsEnv, Nat.reduceAdd]
  by_cases h1 : (a.length : Int) < b.length
  · simp only [gos, eq_self, Nat.reduceLT, Nat.reduceEqDiff, reduceCtorEq, reduceIte, ↓reduceIte, tt, vgo, vout, vguard, callOf, vop, ev, cv, vbin, vint, isShift, isNilConst, vlen, vI, h1]
    subst hQ
    exact FnPost.plain trivial (fun h2 e => by first | rfl | (simp only [Try.f56, vres, vresL, vres1, e _, gos, if_true, if_false, ne_eq, eq_self, Nat.reduceLT, Nat.reduceEqDiff, Nat.reduceAdd, Nat.reduceMul, Nat.reduceLeDiff, Nat.reduceBEq, reduceCtorEq, reduceIte, Array.toList, ↓reduceIte, tt, vgo, vout, vgoD, voutD, vclsOk, vids, mayWrite, V.ids, V.mids, vguard, callOf, vop, ev, cv, vbin, vint, isShift, isNilConst, vnil, isNilSlice, vload, vlen, newRow, vfill, vslice, entOf, vappend, srcOf, vcopy, vlookup, vupdate, mapOk, keyOf, intsOf, clsAt]; try rfl)) (WkV.pure (by simp only [V.into])) ⟨by simp only [lShorter]; rw [decide_eq_true (by omega : a.length < b.length)]; rfl, rfl⟩
  · by_cases h2 : (a.length : Int) = b.length
    · have hd : decide ((a.length : Int) = b.length) = true := decide_eq_true h2
      simp only [gos, eq_self, Nat.reduceLT, Nat.reduceEqDiff, reduceCtorEq, reduceIte, ↓reduceIte, tt, vgo, vout, vguard, callOf, vop, ev, cv, vbin, vint, isShift, isNilConst, vlen, vI, h1, hd]
      refine Cl.pu (c_rBefore a b ha) ?_ rfl (by simp only [V.into, intoL, cI_into, Bool.and_true])
      simp only [gos, eq_self, Nat.reduceLT, Nat.reduceEqDiff, reduceIte, ↓reduceIte, vgo, vout, vguard, callOf, vop, ev]
      subst hQ
      exact FnPost.plain trivial (fun h2 e => by first | rfl | (simp only [Try.f56, vres, vresL, vres1, e _, gos, if_true, if_false, ne_eq, eq_self, Nat.reduceLT, Nat.reduceEqDiff, Nat.reduceAdd, Nat.reduceMul, Nat.reduceLeDiff, Nat.reduceBEq, reduceCtorEq, reduceIte, Array.toList, ↓reduceIte, tt, vgo, vout, vgoD, voutD, vclsOk, vids, mayWrite, V.ids, V.mids, vguard, callOf, vop, ev, cv, vbin, vint, isShift, isNilConst, vnil, isNilSlice, vload, vlen, newRow, vfill, vslice, entOf, vappend, srcOf, vcopy, vlookup, vupdate, mapOk, keyOf, intsOf, clsAt]; try rfl)) (WkV.pure (by simp only [V.into])) ⟨by simp only [lShorter]; rw [decide_eq_false (by omega : ¬ a.length < b.length), decide_eq_true (by omega : a.length = b.length)]; rfl, rfl⟩
    · have hd : decide ((a.length : Int) = b.length) = false := decide_eq_false h2
      simp only [gos, eq_self, Nat.reduceLT, Nat.reduceEqDiff, reduceCtorEq, reduceIte, ↓reduceIte, tt, vgo, vout, vguard, callOf, vop, ev, cv, vbin, vint, isShift, isNilConst, vlen, vI, h1, hd]
      subst hQ
      exact FnPost.plain trivial (fun h2 e => by first | rfl | (simp only [Try.f56, vres, vresL, vres1, e _, gos, if_true, if_false, ne_eq, eq_self, Nat.reduceLT, Nat.reduceEqDiff, Nat.reduceAdd, Nat.reduceMul, Nat.reduceLeDiff, Nat.reduceBEq, reduceCtorEq, reduceIte, Array.toList, ↓reduceIte, tt, vgo, vout, vgoD, voutD, vclsOk, vids, mayWrite, V.ids, V.mids, vguard, callOf, vop, ev, cv, vbin, vint, isShift, isNilConst, vnil, isNilSlice, vload, vlen, newRow, vfill, vslice, entOf, vappend, srcOf, vcopy, vlookup, vupdate, mapOk, keyOf, intsOf, clsAt]; try rfl)) (WkV.pure (by simp only [V.into])) ⟨by simp only [lShorter]; rw [decide_eq_false (by omega : ¬ a.length < b.length), decide_eq_false (by omega : ¬ a.length = b.length)]; rfl, rfl⟩
end Go.Vm

set_option linter.unusedVariables false
set_option linter.unusedSimpArgs false
set_option maxRecDepth 100000
namespace Go.Vm
open Go.Proofs
/-! ### which readings can be right together -/
def rAllN (c : Cu) (i : Nat) : List Int := (List.range i).map fun (n : Nat) => rRight c (rNth c n)
def rAll (c : Cu) : List Int := rAllN c (rMany c).toNat
theorem rAllN_succ (c : Cu) (i : Nat) : rAllN c (i + 1) = rAllN c i ++ [rRight c (rNth c i)] := by simp [rAllN, List.range_succ]
theorem rAllN_len (c : Cu) (i : Nat) : (rAllN c i).length = i := by simp [rAllN]
theorem c_rAll (c : Cu) (k0 : CuOk c) : Pu Try.prog (.fn 38 [] []) [.agg c.cs] (vI (rAll c)) := by
  have hM := rMany_le k0
  refine Ev.fn Try.func38 rfl rfl (Fn.body tabOk Try.func38 rfl (Nat.le_of_ble_eq_true rfl) (Ks.ok (fz := (fzn [])) (cl := (cln [(5, .d (tgL [(18, 1)]) [cP, cP, cP, cP, cP, cP, cP, some ([1], [1]), cP])])) tabOk mixed ?_))
  generalize hQ : FnPost tt Try.f38 _ _ = Q
  simp only [Try.f38, List.nil_append, List.append_nil, argsEnv]
  simp only [gos, eq_self, Nat.reduceLT, Nat.reduceEqDiff, reduceCtorEq, reduceIte, ↓reduceIte, vgo, vout, vguard, callOf, vop, ev, cv, newRow]
  refine W.loop tabOk mixed (fun i : Nat => ([(1, .rop c.cs), (3, .own 18 i 0 1 i), (4, vi i)], [(18, ⟨i, .row (cI (rAllN c i))⟩)])) (fun i => (rMany c).toNat - i) (fun i => i ≤ (rMany c).toNat) 0 (by omega) (Wk.trans (Wk.sl0E 3 18 1 rfl rfl) (Wk.env (by simp [subE, Env.get]))) ?_
  intro i hi
  simp only [gos, eq_self, Nat.reduceLT, Nat.reduceEqDiff, reduceCtorEq, reduceIte, ↓reduceIte, tt, vgo, vout, vguard, callOf, vop, ev, vload]
  refine Cl.pu (c_rMany c k0.heat (by have := k0.loss.1; have := k0.last; omega) k0.loss.2) ?_ rfl (by simp only [V.into, intoL, cu_into, Bool.and_true])
  by_cases hil : (i : Int) < rMany c
  · have hno := nth_ok k0 (n := i) (by omega)
    have hn : (cI (rAllN c i)).length = i * 1 := by rw [cI_len, rAllN_len]; omega
    have hi9 : i ≤ 999999 := by omega
    simp only [gos, eq_self, Nat.reduceLT, Nat.reduceEqDiff, reduceIte, ↓reduceIte, vgo, vout, vguard, callOf, vop, ev, vbin, vint, isShift, isNilConst, hil]
    refine Wr.draw (by kernel_rfl) ?_
    simp only [gos, eq_self, Nat.reduceLT, Nat.reduceEqDiff, Nat.reduceAdd, reduceCtorEq, reduceIte, ↓reduceIte, tt, vgoD, voutD, vclsOk, vids, mayWrite, V.ids, vguard, callOf, vop, ev, vload, clsAt]
    refine CD.pu (c_rNth c k0 i (by omega)) ?_ rfl (by simp only [V.into, intoL, cu_into, Bool.and_true])
    simp only [gos, eq_self, Nat.reduceLT, Nat.reduceEqDiff, reduceIte, ↓reduceIte, vgoD, voutD, vguard, callOf, ev]
    refine CD.pu (c_rRight c k0 (rNth c i) (hno.tr k0)) ?_ rfl (by simp only [V.into, intoL, vI_into, cu_into, Bool.and_true, Tr2.cs])
    simp only [gos, eq_self, Nat.reduceLT, Nat.reduceEqDiff, Nat.reduceAdd, Nat.reduceMul, Nat.reduceLeDiff, reduceCtorEq, reduceIte, ↓reduceIte, tt, vgo, vout, vgoD, voutD, vclsOk, vids, mayWrite, V.ids, vguard, callOf, vop, ev, cv, vbin, vint, isShift, isNilConst, vfill, vappend, srcOf, hn, hi9]
    refine Nx.mk (i + 1) (show (rMany c).toNat - (i + 1) < (rMany c).toNat - i by omega) (by omega) (Wk.heap (fun j => ?_) ?_)
    · rw [rAllN_succ, cI_snoc]
    · simp [subE, Env.get, i64_succ (show (i : Int) < 9223372036854775807 by omega)]
  · have hie : i = (rMany c).toNat := by omega
    simp only [gos, eq_self, Nat.reduceLT, Nat.reduceEqDiff, reduceIte, ↓reduceIte, vgo, vout, vguard, callOf, vop, ev, vbin, vint, isShift, isNilConst, hil]
    subst hQ
    have hl := rAllN_len c i
    have ht : (cI (rAllN c i)).take i = cI (rAllN c i) := List.take_of_length_le (by rw [cI_len]; omega)
    rw [rAll, ← hie]
    refine FnPost.plain trivial (v := .own 18 i 0 1 i) (fun h2 e => by rfl) (WkV.frz 18 (v' := vI (rAllN c i)) (h' := []) (ver := i) (cs := cI (rAllN c i)) rfl rfl (cI_into _ _) rfl ?_ ?_ WkV.refl) ⟨rfl, rfl⟩
    · simp [V.frz, vI, ht, hl]
    · simp [frzH]
theorem rAll_len {c : Cu} (k0 : CuOk c) : ((rAll c).length : Int) ≤ 1000000 := by
  have := rMany_le k0
  rw [rAll, rAllN_len]; omega
def canA (r a : Int) : Bool := decide (vbits .and .i64 a r = r)
def rCan (all : List Int) (r : Int) : Bool := all.any (canA r)
theorem c_rCan (all : List Int) (r : Int) (hl : (all.length : Int) ≤ 1000000) : Pu Try.prog (.fn 94 [] []) [vI all, vi r] (.bool (rCan all r)) := by
  refine Ev.fn Try.func94 rfl rfl (Fn.body tabOk Try.func94 rfl (Nat.le_of_ble_eq_true rfl) (Ks.ok (fz := (fzn [])) (cl := (cln [])) tabOk mixed ?_))
  generalize hQ : FnPost tt Try.f94 _ _ = Q
  simp only [Try.f94, List.nil_append, List.append_nil, argsEnv, Nat.reduceAdd]
  simp only [gos, eq_self, Nat.reduceLT, reduceIte, ↓reduceIte, vgo, vout, vguard, callOf, vop, ev, cv]
  refine W.loop tabOk mixed (fun i : Nat => ([(0, vI all), (1, vi r), (5, vi i)], [])) (fun i => all.length - i) (fun i => i ≤ all.length ∧ ∀ j : Nat, j < i → canA r (gi all j) = false) 0 ⟨by omega, fun j hj => by omega⟩ (Wk.env (by simp [subE, Env.get])) ?_
  rintro i ⟨hi, hno⟩
  by_cases h1 : (i : Int) < all.length
  · cases hc : canA r (gi all i) with
    | true =>
      have hc2 := hc
      simp only [canA] at hc2
      simp only [gos, eq_self, Nat.reduceLT, Nat.reduceEqDiff, reduceCtorEq, reduceIte, ↓reduceIte, tt, vgo, vout, vguard, callOf, vop, ev, cv, vbin, vint, isShift, isNilConst, vload, vlen, vI, h1, cI_at (Int.natCast_nonneg i) h1, hc2]
      subst hQ
      exact FnPost.plain trivial (fun h2 e => by first | rfl | (simp only [Try.f94, vres, vresL, vres1, e _, gos, if_true, if_false, ne_eq, eq_self, Nat.reduceLT, Nat.reduceEqDiff, Nat.reduceAdd, Nat.reduceMul, Nat.reduceLeDiff, Nat.reduceBEq, reduceCtorEq, reduceIte, Array.toList, ↓reduceIte, tt, vgo, vout, vgoD, voutD, vclsOk, vids, mayWrite, V.ids, V.mids, vguard, callOf, vop, ev, cv, vbin, vint, isShift, isNilConst, vnil, isNilSlice, vload, vlen, newRow, vfill, vslice, entOf, vappend, srcOf, vcopy, vlookup, vupdate, mapOk, keyOf, intsOf, clsAt]; try rfl)) (WkV.pure (by simp only [V.into])) ⟨by rw [rCan, List.any_eq_true.2 ⟨gi all i, gi_mem (by omega), hc⟩], rfl⟩
    | false =>
      have hc2 := hc
      simp only [canA] at hc2
      simp only [gos, eq_self, Nat.reduceLT, Nat.reduceEqDiff, reduceCtorEq, reduceIte, ↓reduceIte, tt, vgo, vout, vguard, callOf, vop, ev, cv, vbin, vint, isShift, isNilConst, vload, vlen, vI, h1, cI_at (Int.natCast_nonneg i) h1, hc2]
      exact Nx.mk (i + 1) (show all.length - (i + 1) < all.length - i by omega) ⟨by omega, fun j hj => by
        rcases Nat.lt_succ_iff_lt_or_eq.1 hj with h | rfl
        · exact hno j h
        · exact hc⟩ (Wk.env (by simp [subE, Env.get, i64_succ (show (i : Int) < 9223372036854775807 by omega)]))
  · have e : rCan all r = false := by
      rw [rCan, List.any_eq_false.2]
      intro x hx
      obtain ⟨j, hj, rfl⟩ := List.mem_iff_getElem.1 hx
      have := hno j (by omega)
      rw [gi, Int.toNat_natCast, List.getD_eq_getElem?_getD, List.getElem?_eq_getElem hj] at this
      simpa using this
    simp only [gos, eq_self, Nat.reduceLT, Nat.reduceEqDiff, reduceCtorEq, reduceIte, ↓reduceIte, tt, vgo, vout, vguard, callOf, vop, ev, cv, vbin, vint, isShift, isNilConst, vlen, vI, h1]
    subst hQ
    exact FnPost.plain trivial (fun h2 e => by first | rfl | (simp only [Try.f94, vres, vresL, vres1, e _, gos, if_true, if_false, ne_eq, eq_self, Nat.reduceLT, Nat.reduceEqDiff, Nat.reduceAdd, Nat.reduceMul, Nat.reduceLeDiff, Nat.reduceBEq, reduceCtorEq, reduceIte, Array.toList, ↓reduceIte, tt, vgo, vout, vgoD, voutD, vclsOk, vids, mayWrite, V.ids, V.mids, vguard, callOf, vop, ev, cv, vbin, vint, isShift, isNilConst, vnil, isNilSlice, vload, vlen, newRow, vfill, vslice, entOf, vappend, srcOf, vcopy, vlookup, vupdate, mapOk, keyOf, intsOf, clsAt]; try rfl)) (WkV.pure (by simp only [V.into])) ⟨by rw [e], rfl⟩
theorem shl2 {i : Nat} (h : i < 5) : IntKind.i64.wrap (2 * 2 ^ min ((i : Int)).toNat IntKind.i64.bits) = 2 ^ (i + 1) := by
  have : ∀ i : Fin 5, IntKind.i64.wrap (2 * 2 ^ min (((i : Nat) : Int)).toNat IntKind.i64.bits) = 2 ^ ((i : Nat) + 1) := by decide +kernel
  exact this ⟨i, h⟩
def rFirst (c : Cu) (all : List Int) : Int := match (List.range c.readings.length).find? fun i => !rCan all (2 ^ (i + 1) - 1) with
  | some i => i
  | none => -1
theorem c_rFirst (c : Cu) (k0 : CuOk c) (all : List Int) (hl : (all.length : Int) ≤ 1000000) : Pu Try.prog (.fn 41 [] []) [.agg c.cs, vI all] (vi (rFirst c all)) := by
  have hrd := k0.rds
  refine Ev.fn Try.func41 rfl rfl (Fn.body tabOk Try.func41 rfl (Nat.le_of_ble_eq_true rfl) (Ks.ok (fz := (fzn [])) (cl := (cln [])) tabOk mixed ?_))
  generalize hQ : FnPost tt Try.f41 _ _ = Q
  simp only [Try.f41, List.nil_append, List.append_nil, argsEnv, Nat.reduceAdd]
  simp only [gos, eq_self, Nat.reduceLT, reduceIte, ↓reduceIte, vgo, vout, vguard, callOf, vop, ev, cv, newRow]
  refine W.loop tabOk mixed (fun i : Nat => ([(1, vI all), (2, .rop c.cs), (5, vi i)], [])) (fun i => c.readings.length - i) (fun i => i ≤ c.readings.length ∧ ∀ j : Nat, j < i → (!rCan all (2 ^ (j + 1) - 1)) = false) 0 ⟨by omega, fun j hj => by omega⟩ (Wk.env (by simp [subE, Env.get])) ?_
  rintro i ⟨hi, hno⟩
  by_cases h1 : (i : Int) < c.readings.length
  · have hw := u64_in (n := (i : Int)) (by omega) (by omega)
    have hn : ¬ (i : Int) < 0 := by omega
    simp only [gos, eq_self, Nat.reduceLT, Nat.reduceEqDiff, reduceCtorEq, reduceIte, ↓reduceIte, tt, vgo, vout, vguard, callOf, vop, ev, cv, vbin, vint, isShift, isNilConst, vload, vlen, vD, h1, hw, hn, shl2 (i := i) (by omega), full_sub (i := i + 1) (by omega)]
    refine Cl.pu (c_rCan all (2 ^ (i + 1) - 1) hl) ?_ rfl (by simp only [V.into, intoL, vI_into, Bool.and_true])
    cases hc : rCan all (2 ^ (i + 1) - 1) with
    | true =>
      simp only [gos, eq_self, Nat.reduceLT, Nat.reduceEqDiff, reduceIte, ↓reduceIte, vgo, vout, vguard, callOf, vop, ev, cv, vbin, vint, isShift, isNilConst]
      exact Nx.mk (i + 1) (show c.readings.length - (i + 1) < c.readings.length - i by omega) ⟨by omega, fun j hj => by
        rcases Nat.lt_succ_iff_lt_or_eq.1 hj with h | rfl
        · exact hno j h
        · rw [hc]; rfl⟩ (Wk.env (by simp [subE, Env.get, i64_succ (show (i : Int) < 9223372036854775807 by omega)]))
    | false =>
      simp only [gos, eq_self, Nat.reduceLT, Nat.reduceEqDiff, reduceIte, ↓reduceIte, vgo, vout, vguard, callOf, vop, ev]
      subst hQ
      exact FnPost.plain trivial (fun h2 e => by first | rfl | (simp only [Try.f41, vres, vresL, vres1, e _, gos, if_true, if_false, ne_eq, eq_self, Nat.reduceLT, Nat.reduceEqDiff, Nat.reduceAdd, Nat.reduceMul, Nat.reduceLeDiff, Nat.reduceBEq, reduceCtorEq, reduceIte, Array.toList, ↓reduceIte, tt, vgo, vout, vgoD, voutD, vclsOk, vids, mayWrite, V.ids, V.mids, vguard, callOf, vop, ev, cv, vbin, vint, isShift, isNilConst, vnil, isNilSlice, vload, vlen, newRow, vfill, vslice, entOf, vappend, srcOf, vcopy, vlookup, vupdate, mapOk, keyOf, intsOf, clsAt]; try rfl)) (WkV.pure (by simp only [V.into])) ⟨by rw [rFirst, find_range (a := i) (by omega) (by rw [hc]; rfl) hno], rfl⟩
  · have e : rFirst c all = -1 := by
      rw [rFirst, List.find?_eq_none.2]
      intro j hj
      rw [List.mem_range] at hj
      rw [hno j (by omega)]; simp
    simp only [gos, eq_self, Nat.reduceLT, Nat.reduceEqDiff, reduceCtorEq, reduceIte, ↓reduceIte, tt, vgo, vout, vguard, callOf, vop, ev, cv, vbin, vint, isShift, isNilConst, vload, vlen, vD, h1]
    subst hQ
    exact FnPost.plain trivial (fun h2 e => by first | rfl | (simp only [Try.f41, vres, vresL, vres1, e _, gos, if_true, if_false, ne_eq, eq_self, Nat.reduceLT, Nat.reduceEqDiff, Nat.reduceAdd, Nat.reduceMul, Nat.reduceLeDiff, Nat.reduceBEq, reduceCtorEq, reduceIte, Array.toList, ↓reduceIte, tt, vgo, vout, vgoD, voutD, vclsOk, vids, mayWrite, V.ids, V.mids, vguard, callOf, vop, ev, cv, vbin, vint, isShift, isNilConst, vnil, isNilSlice, vload, vlen, newRow, vfill, vslice, entOf, vappend, srcOf, vcopy, vlookup, vupdate, mapOk, keyOf, intsOf, clsAt]; try rfl)) (WkV.pure (by simp only [V.into])) ⟨by rw [e], rfl⟩
theorem andn {n b : Nat} (hn : n < 6) (hb : b < 2 ^ n) : vbits .andNot .i64 ((2 : Int) ^ n - 1) (b : Int) = ((2 ^ n - 1 - b : Nat) : Int) := by
  have : ∀ n : Fin 6, ∀ b : Fin 32, (b : Nat) < 2 ^ (n : Nat) → vbits .andNot .i64 ((2 : Int) ^ (n : Nat) - 1) (((b : Nat) : Int)) = ((2 ^ (n : Nat) - 1 - (b : Nat) : Nat) : Int) := by decide +kernel
  have h32 : 2 ^ n ≤ 32 := Nat.pow_le_pow_right (n := 2) (by omega) (show n ≤ 5 by omega)
  exact this ⟨n, hn⟩ ⟨b, by omega⟩ hb
def leaveStep (all : List Int) (n : Nat) (best : List Int) (b : Nat) : List Int := if (lShorter (sBits b) best && rCan all ((2 ^ n - 1 - b : Nat) : Int)) = true then sBits b else best
def rLeaveN (all : List Int) (n i : Nat) : List Int := (List.range i).foldl (leaveStep all n) (sBits (2 ^ n - 1))
theorem rLeaveN_succ (all : List Int) (n i : Nat) : rLeaveN all n (i + 1) = leaveStep all n (rLeaveN all n i) i := by simp only [rLeaveN, List.range_succ, List.foldl_append]; rfl
def rLeave (c : Cu) (all : List Int) : List Int := rLeaveN all c.readings.length (2 ^ c.readings.length)
theorem sBits_len (b : Nat) : (sBits b).length ≤ 5 := bitsTo_len b 5
theorem c_rLeave (c : Cu) (k0 : CuOk c) (all : List Int) (hl : (all.length : Int) ≤ 1000000) : Pu Try.prog (.fn 40 [] []) [.agg c.cs, vI all] (vI (rLeave c all)) := by
  have hrd := k0.rds
  have h32 : 2 ^ c.readings.length ≤ 32 := Nat.pow_le_pow_right (n := 2) (by omega) (show c.readings.length ≤ 5 by omega)
  have h1 : 1 ≤ 2 ^ c.readings.length := Nat.one_le_two_pow
  have hF : rFull c = ((2 ^ c.readings.length - 1 : Nat) : Int) := by
    rw [rFull, Int.natCast_sub h1, Int.natCast_pow]; rfl
  refine Ev.fn Try.func40 rfl rfl (Fn.body tabOk Try.func40 rfl (Nat.le_of_ble_eq_true rfl) (Ks.ok (fz := (fzn [])) (cl := (cln [])) tabOk mixed ?_))
  generalize hQ : FnPost tt Try.f40 _ _ = Q
  simp only [Try.f40, List.nil_append, List.append_nil, argsEnv, Nat.reduceAdd]
  simp only [gos, eq_self, Nat.reduceLT, Nat.reduceEqDiff, reduceCtorEq, reduceIte, ↓reduceIte, tt, vgo, vout, vguard, callOf, vop, ev, cv, vload, newRow]
  refine Cl.pu (c_rFull c hrd) ?_ rfl (by simp only [V.into, intoL, cu_into, Bool.and_true])
  rw [hF]
  simp only [gos, eq_self, Nat.reduceLT, reduceIte, ↓reduceIte, vgo, vout, vguard, callOf, ev]
  refine Cl.pu (c_rBits (2 ^ c.readings.length - 1) (by omega)) ?_
  simp only [gos, eq_self, Nat.reduceLT, reduceIte, ↓reduceIte, vgo, vout, vguard, callOf, vop, ev, cv]
  refine W.loop tabOk mixed (fun i : Nat => ([(1, vI all), (2, .rop c.cs), (5, vI (rLeaveN all c.readings.length i)), (6, vi i)], [])) (fun i => 2 ^ c.readings.length - i) (fun i => i ≤ 2 ^ c.readings.length) 0 (by omega) (Wk.env (by simp [subE, Env.get, rLeaveN])) ?_
  intro i hi
  simp only [gos, eq_self, Nat.reduceLT, Nat.reduceEqDiff, reduceCtorEq, reduceIte, ↓reduceIte, tt, vgo, vout, vguard, callOf, vop, ev, vload]
  refine Cl.pu (c_rFull c hrd) ?_ rfl (by simp only [V.into, intoL, cu_into, Bool.and_true])
  have hstep := rLeaveN_succ all c.readings.length i
  by_cases hil : (i : Int) ≤ rFull c
  · have hib : i < 2 ^ c.readings.length := by rw [hF] at hil; omega
    have hsl := sBits_len i
    have han := andn (n := c.readings.length) (b := i) (by omega) hib
    have hF2 : rFull c = (2 : Int) ^ c.readings.length - 1 := rfl
    simp only [gos, eq_self, Nat.reduceLT, Nat.reduceEqDiff, reduceIte, ↓reduceIte, vgo, vout, vguard, callOf, vop, ev, vbin, vint, isShift, isNilConst, hil]
    refine Cl.pu (c_rBits i (by omega)) ?_
    simp only [gos, eq_self, Nat.reduceLT, Nat.reduceEqDiff, reduceIte, ↓reduceIte, vgo, vout, vguard, callOf, vop, ev]
    refine Cl.pu (c_rShorter (sBits i) (rLeaveN all c.readings.length i) (by omega)) ?_ rfl (by simp only [intoL, vI_into, Bool.and_true])
    cases hs : lShorter (sBits i) (rLeaveN all c.readings.length i) with
    | false =>
      rw [leaveStep, hs, if_neg (by simp)] at hstep
      simp only [gos, eq_self, Nat.reduceLT, Nat.reduceEqDiff, reduceIte, ↓reduceIte, vgo, vout, vguard, callOf, vop, ev, cv, vbin, vint, isShift, isNilConst]
      exact Nx.mk (i + 1) (show 2 ^ c.readings.length - (i + 1) < 2 ^ c.readings.length - i by omega) (by omega) (by rw [hstep]; exact Wk.env (by simp [subE, Env.get, i64_succ (show (i : Int) < 9223372036854775807 by omega)]))
    | true =>
      rw [leaveStep, hs, Bool.true_and] at hstep
      simp only [gos, eq_self, Nat.reduceLT, Nat.reduceEqDiff, reduceCtorEq, reduceIte, ↓reduceIte, tt, vgo, vout, vguard, callOf, vop, ev, vload]
      refine Cl.pu (c_rFull c hrd) ?_ rfl (by simp only [V.into, intoL, cu_into, Bool.and_true])
      rw [hF2]
      simp only [gos, eq_self, Nat.reduceLT, Nat.reduceEqDiff, reduceIte, ↓reduceIte, vgo, vout, vguard, callOf, vop, ev, vbin, vint, isShift, isNilConst, han]
      refine Cl.pu (c_rCan all _ hl) ?_ rfl (by simp only [V.into, intoL, vI_into, Bool.and_true])
      cases hc : rCan all ((2 ^ c.readings.length - 1 - i : Nat) : Int) with
      | true =>
        rw [hc, if_pos rfl] at hstep
        simp only [gos, eq_self, Nat.reduceLT, Nat.reduceEqDiff, reduceIte, ↓reduceIte, vgo, vout, vguard, callOf, vop, ev, cv, vbin, vint, isShift, isNilConst]
        exact Nx.mk (i + 1) (show 2 ^ c.readings.length - (i + 1) < 2 ^ c.readings.length - i by omega) (by omega) (by rw [hstep]; exact Wk.env (by simp [subE, Env.get, i64_succ (show (i : Int) < 9223372036854775807 by omega)]))
      | false =>
        rw [hc, if_neg (by simp)] at hstep
        simp only [gos, eq_self, Nat.reduceLT, Nat.reduceEqDiff, reduceIte, ↓reduceIte, vgo, vout, vguard, callOf, vop, ev, cv, vbin, vint, isShift, isNilConst]
        exact Nx.mk (i + 1) (show 2 ^ c.readings.length - (i + 1) < 2 ^ c.readings.length - i by omega) (by omega) (by rw [hstep]; exact Wk.env (by simp [subE, Env.get, i64_succ (show (i : Int) < 9223372036854775807 by omega)]))
  · have hie : i = 2 ^ c.readings.length := by rw [hF] at hil; omega
    simp only [gos, eq_self, Nat.reduceLT, Nat.reduceEqDiff, reduceIte, ↓reduceIte, vgo, vout, vguard, callOf, vop, ev, vbin, vint, isShift, isNilConst, hil]
    subst hQ
    exact FnPost.plain trivial (fun h2 e => by first | rfl | (simp only [Try.f40, vres, vresL, vres1, e _, gos, if_true, if_false, ne_eq, eq_self, Nat.reduceLT, Nat.reduceEqDiff, Nat.reduceAdd, Nat.reduceMul, Nat.reduceLeDiff, Nat.reduceBEq, reduceCtorEq, reduceIte, Array.toList, ↓reduceIte, tt, vgo, vout, vgoD, voutD, vclsOk, vids, mayWrite, V.ids, V.mids, vguard, callOf, vop, ev, cv, vbin, vint, isShift, isNilConst, vnil, isNilSlice, vload, vlen, newRow, vfill, vslice, entOf, vappend, srcOf, vcopy, vlookup, vupdate, mapOk, keyOf, intsOf, clsAt]; try rfl)) (WkV.pure (by simp only [vI_into])) ⟨by rw [rLeave, ← hie], rfl⟩
end Go.Vm

set_option linter.unusedVariables false
set_option linter.unusedSimpArgs false
set_option maxRecDepth 100000
namespace Go.Vm
/-! ### plain law: which readings can be right together -/
def possN (c : Cu) (b : Nat) : Bool := (truths c).any fun s => (List.range c.readings.length).all fun i => !b.testBit i || sRead1 c s [] i
theorem range_all_congr {n : Nat} {f g : Nat → Bool} (h : ∀ i, i < n → f i = g i) : (List.range n).all f = (List.range n).all g := by
  rw [Bool.eq_iff_iff, List.all_eq_true, List.all_eq_true]
  exact ⟨fun a i hi => by rw [← h i (List.mem_range.1 hi)]; exact a i hi, fun a i hi => by rw [h i (List.mem_range.1 hi)]; exact a i hi⟩
theorem any_congr {α : Type} {l : List α} {f g : α → Bool} (h : ∀ x ∈ l, f x = g x) : l.any f = l.any g := by
  rw [Bool.eq_iff_iff, List.any_eq_true, List.any_eq_true]
  exact ⟨fun ⟨x, hx, a⟩ => ⟨x, hx, by rw [← h x hx]; exact a⟩, fun ⟨x, hx, a⟩ => ⟨x, hx, by rw [h x hx]; exact a⟩⟩
theorem read1_out (c : Cu) (s : Sc) (out : List Int) (i : Nat) : sRead1 c s out i = ((out.any fun y => decide ((i : Int) = y)) || sRead1 c s [] i) := by
  simp only [sRead1, List.any_nil, Bool.false_or]
/-- 1: with some readings left out. -/
theorem poss_out {c : Cu} {out : List Int} {b : Nat} (h : ∀ i : Nat, i < c.readings.length → b.testBit i = !(out.any fun y => decide ((i : Int) = y))) : sPoss c out = possN c b := by
  refine any_congr fun s _ => range_all_congr fun i hi => ?_
  rw [read1_out, h i hi, Bool.not_not]
/-- 2: the reference's sets. -/
def bitsN (f : Nat → Bool) : Nat → Nat
  | 0 => 0
  | i + 1 => if f i then 2 ^ i + bitsN f i else bitsN f i
theorem bitsN_lt (f : Nat → Bool) : ∀ n, bitsN f n < 2 ^ n
  | 0 => by simp [bitsN]
  | n + 1 => by
    have := bitsN_lt f n
    have e : (2 : Nat) ^ (n + 1) = 2 ^ n + 2 ^ n := by rw [Nat.pow_succ]; omega
    rw [bitsN]; split <;> omega
theorem bitsN_I (f : Nat → Bool) : ∀ n, ((bitsN f n : Nat) : Int) = bitsI f n
  | 0 => rfl
  | n + 1 => by
    rw [bitsN, bitsI]
    split
    · rw [Int.natCast_add, bitsN_I f n, Int.natCast_pow]
      show (2 : Int) ^ n + bitsI f n = bitsI f n + 2 ^ n
      omega
    · exact bitsN_I f n
theorem bitsN_test (f : Nat → Bool) : ∀ n i, (bitsN f n).testBit i = (decide (i < n) && f i)
  | 0, i => by simp [bitsN]
  | n + 1, i => by
    have hl := bitsN_lt f n
    rw [bitsN]
    rcases Nat.lt_trichotomy i n with h | h | h
    · rw [decide_eq_true (show i < n + 1 by omega), Bool.true_and]
      have ih := bitsN_test f n i
      rw [decide_eq_true h, Bool.true_and] at ih
      split
      · rw [Nat.testBit_two_pow_add_gt h, ih]
      · exact ih
    · subst h
      rw [decide_eq_true (show i < i + 1 by omega), Bool.true_and]
      have ih : (bitsN f i).testBit i = false := Nat.testBit_lt_two_pow hl
      split
      · rename_i hf; rw [Nat.testBit_two_pow_add_eq, ih, hf]; rfl
      · rename_i hf; rw [ih]; simpa using hf
    · rw [decide_eq_false (show ¬ i < n + 1 by omega), Bool.false_and]
      have hb : (if f n = true then 2 ^ n + bitsN f n else bitsN f n) < 2 ^ i := by
        have e : (2 : Nat) ^ (n + 1) = 2 ^ n + 2 ^ n := by rw [Nat.pow_succ]; omega
        have := Nat.pow_le_pow_right (n := 2) (by omega) (show n + 1 ≤ i by omega)
        split <;> omega
      exact Nat.testBit_lt_two_pow hb
theorem canA_bits {a r : Nat} (ha : a < 32) (hr : r < 32) : canA (r : Int) (a : Int) = (List.range 5).all fun i => !r.testBit i || a.testBit i := by
  have : ∀ a r : Fin 32, canA (((r : Nat) : Int)) (((a : Nat) : Int)) = (List.range 5).all fun i => !(r : Nat).testBit i || (a : Nat).testBit i := by decide +kernel
  exact this ⟨a, ha⟩ ⟨r, hr⟩
theorem pow5 {n : Nat} (h : n < 6) : 2 ^ n ≤ 32 := Nat.pow_le_pow_right (n := 2) (by omega) (show n ≤ 5 by omega)
theorem canA_right {c : Cu} (k0 : CuOk c) (t : Tr2) {r : Nat} (hr : r < 2 ^ c.readings.length) : canA (r : Int) (rRight c t) = (List.range c.readings.length).all fun i => !r.testBit i || rOk c t i := by
  have hn := k0.rds
  have hp := pow5 (n := c.readings.length) (by omega)
  have hb := bitsN_lt (rOk c t) c.readings.length
  rw [rRight, ← bitsN_I, canA_bits (by omega) (by omega), Bool.eq_iff_iff, List.all_eq_true, List.all_eq_true]
  simp only [List.mem_range, bitsN_test]
  constructor
  · intro h i hi
    have := h i (by omega)
    rwa [decide_eq_true hi, Bool.true_and] at this
  · intro h i hi
    by_cases hin : i < c.readings.length
    · rw [decide_eq_true hin, Bool.true_and]; exact h i hin
    · have : r.testBit i = false := Nat.testBit_lt_two_pow (Nat.lt_of_lt_of_le hr (Nat.pow_le_pow_right (by omega) (by omega)))
      rw [this]; rfl
theorem poss_can {c : Cu} (k0 : CuOk c) {r : Nat} (hr : r < 2 ^ c.readings.length) : rCan (rAll c) (r : Int) = possN c r := by
  have key : ∀ t, canA (r : Int) (rRight c t) = (List.range c.readings.length).all fun i => !r.testBit i || sRead1 c (tS t) [] i := fun t => by
    rw [canA_right k0 t hr]
    exact range_all_congr fun i hi => by rw [rOk_eq k0 t hi]
  rw [Bool.eq_iff_iff, rCan, possN, List.any_eq_true, List.any_eq_true]
  constructor
  · rintro ⟨a, ha, hc⟩
    simp only [rAll, rAllN, List.mem_map, List.mem_range] at ha
    obtain ⟨j, hj, rfl⟩ := ha
    exact ⟨tS (rNth c j), (mem_truths k0 _).2 ⟨_, nth_listed k0 (Int.natCast_nonneg j), rfl⟩, by rw [← key]; exact hc⟩
  · rintro ⟨s, hs, hc⟩
    obtain ⟨t, ht, rfl⟩ := (mem_truths k0 _).1 hs
    obtain ⟨j, hj, rfl⟩ := nth_surj k0 ht
    refine ⟨rRight c (rNth c j), ?_, by rw [key]; exact hc⟩
    simp only [rAll, rAllN, List.mem_map, List.mem_range]
    exact ⟨j, by omega, rfl⟩
/-- 3: other readings. -/
def rdOk (c : Cu) (s : Sc) (r : Rd) : Bool := sIn (gi (sPlay c s c.coal c.want (c.last + 1).toNat).2.hot r.hour) r.b.lo r.b.hi
theorem read1_ok (c : Cu) (s : Sc) (i : Nat) : sRead1 c s [] i = rdOk c s (gD c.readings i) := by simp only [sRead1, List.any_nil, Bool.false_or]; rfl
theorem range_gD (l : List Rd) (f : Rd → Bool) : ((List.range l.length).all fun i => f (gD l i)) = l.all f := by
  rw [Bool.eq_iff_iff, List.all_eq_true, List.all_eq_true]
  constructor
  · intro h x hx
    obtain ⟨i, hi, rfl⟩ := List.mem_iff_getElem.1 hx
    have := h i (List.mem_range.2 hi)
    rwa [gD, Int.toNat_natCast, List.getD_eq_getElem?_getD, List.getElem?_eq_getElem hi] at this
  · intro h i hi
    rw [List.mem_range] at hi
    exact h _ (List.mem_of_getElem? (gD_get (l := l) (i := i) (by omega)))
theorem right_all (c : Cu) (s : Sc) : sRight c s [] = c.readings.all (rdOk c s) := by
  rw [← range_gD, sRight]
  exact range_all_congr fun i _ => read1_ok c s i
theorem cuR_listed (c : Cu) (l : List Rd) (t : Tr2) : Listed (cuR c l) t ↔ Listed c t := ⟨fun h => ⟨h.heat, h.len, h.loss⟩, fun h => ⟨h.heat, h.len, h.loss⟩⟩
theorem cuR_rdOk (c : Cu) (l : List Rd) (s : Sc) (r : Rd) : rdOk (cuR c l) s r = rdOk c s r := by
  simp only [rdOk, sPlay_cu c (cuR c l) rfl rfl rfl]; rfl
theorem any_truths {c x : Cu} (k0 : CuOk c) (kx : CuOk x) (h : ∀ t, Listed x t ↔ Listed c t) (f : Sc → Bool) : (truths x).any f = (truths c).any f := by
  rw [Bool.eq_iff_iff, List.any_eq_true, List.any_eq_true]
  constructor
  · rintro ⟨s, hs, hf⟩
    obtain ⟨t, ht, rfl⟩ := (mem_truths kx _).1 hs
    exact ⟨_, (mem_truths k0 _).2 ⟨t, (h t).1 ht, rfl⟩, hf⟩
  · rintro ⟨s, hs, hf⟩
    obtain ⟨t, ht, rfl⟩ := (mem_truths k0 _).1 hs
    exact ⟨_, (mem_truths kx _).2 ⟨t, (h t).2 ht, rfl⟩, hf⟩
theorem poss_cuR {c : Cu} (k0 : CuOk c) {l : List Rd} (kx : CuOk (cuR c l)) : sPoss (cuR c l) [] = (truths c).any fun s => l.all (rdOk c s) := by
  rw [sPoss, any_truths k0 kx (cuR_listed c l)]
  refine any_congr fun s _ => ?_
  rw [right_all]
  congr 1
  funext r
  exact cuR_rdOk c l s r
theorem take_all (l : List Rd) (f : Rd → Bool) : ∀ n, n ≤ l.length → (l.take n).all f = (List.range n).all fun i => f (gD l i)
  | 0, _ => rfl
  | n + 1, h => by
    have e : l.take (n + 1) = l.take n ++ [gD l n] := by rw [List.take_add_one, gD_get (by omega)]; rfl
    rw [e, List.range_succ, List.all_append, List.all_append, take_all l f n (by omega)]; rfl
theorem testBit_ones {k i : Nat} : (2 ^ k - 1).testBit i = decide (i < k) := Nat.testBit_two_pow_sub_one k i
theorem poss_cut {c : Cu} (k0 : CuOk c) {k : Nat} (hk : k ≤ c.readings.length) : sPoss (cut c k) [] = possN c (2 ^ k - 1) := by
  have e : cut c k = cuR c (c.readings.take k) := rfl
  have := poss_cuR k0 (l := c.readings.take k) (cut_ok k0 k)
  rw [e, this, possN]
  refine any_congr fun s _ => ?_
  rw [take_all _ _ _ hk, Bool.eq_iff_iff, List.all_eq_true, List.all_eq_true]
  simp only [List.mem_range, testBit_ones, read1_ok]
  constructor
  · intro h i hi
    by_cases hik : i < k
    · rw [h i hik]; simp
    · rw [decide_eq_false hik]; rfl
  · intro h i hi
    have := h i (by omega)
    rwa [decide_eq_true hi] at this
/-! ### the smallest set -/
def combos (n : Nat) : Nat → List Int → Int → List (List Int)
  | 0, out, _ => [out]
  | m + 1, out, first => (rangeI first ((n : Int) - ((m + 1 : Nat) : Int))).flatMap fun i => combos n m (out ++ [i]) (i + 1)
def allSets (n : Nat) : List (List Int) := (rangeI 0 n).flatMap fun m => combos n m.toNat [] 0
theorem leaveF_find (c : Cu) : ∀ (m : Nat) (out : List Int) (first : Int), leaveF c m out first = (combos c.readings.length m out first).find? (sPoss c)
  | 0, out, first => by
    rw [leaveF, combos, List.find?_cons]
    cases h : sPoss c out <;> simp []
  | m + 1, out, first => by
    rw [leaveF, combos, List.find?_flatMap]
    congr 1
    funext i
    exact leaveF_find c m _ _
theorem leaveAll_find (c : Cu) : leaveAll c = (allSets c.readings.length).find? (sPoss c) := by
  rw [leaveAll, allSets, List.find?_flatMap]
  congr 1
  funext i
  exact leaveF_find c _ _ _
def perm (n : Nat) : List Nat := (allSets n).map fun l => l.foldl (fun a x => a + 2 ^ x.toNat) 0
theorem perm_sets {n : Nat} (h : n < 6) : allSets n = (perm n).map sBits := by
  have : ∀ n : Fin 6, allSets n = (perm n).map sBits := by decide +kernel
  exact this ⟨n, h⟩
theorem perm_mem {n b : Nat} (h : n < 6) (hb : b < 2 ^ n) : b ∈ perm n := by
  have : ∀ n : Fin 6, ∀ b : Fin 32, (b : Nat) < 2 ^ (n : Nat) → (b : Nat) ∈ perm n := by decide +kernel
  exact this ⟨n, h⟩ ⟨b, by have := pow5 h; omega⟩ hb
theorem perm_lt {n : Nat} (h : n < 6) : ∀ b ∈ perm n, b < 2 ^ n := by
  have : ∀ n : Fin 6, ∀ b ∈ perm n, b < 2 ^ (n : Nat) := by decide +kernel
  exact this ⟨n, h⟩
theorem perm_rk {n a b : Nat} (h : n < 6) (ha : a < 2 ^ n) (hb : b < 2 ^ n) : lShorter (sBits a) (sBits b) = decide ((perm n).idxOf a < (perm n).idxOf b) := by
  have : ∀ n : Fin 6, ∀ a b : Fin 32, (a : Nat) < 2 ^ (n : Nat) → (b : Nat) < 2 ^ (n : Nat) → lShorter (sBits a) (sBits b) = decide ((perm n).idxOf (a : Nat) < (perm n).idxOf (b : Nat)) := by decide +kernel
  have hp := pow5 h
  exact this ⟨n, h⟩ ⟨a, by omega⟩ ⟨b, by omega⟩ ha hb
theorem mask_bits {n b i : Nat} (h : n < 6) (hb : b < 2 ^ n) (hi : i < n) : (2 ^ n - 1 - b).testBit i = !((sBits b).any fun y => decide ((i : Int) = y)) := by
  have : ∀ n : Fin 6, ∀ b : Fin 32, (b : Nat) < 2 ^ (n : Nat) → ∀ i : Fin 5, (i : Nat) < (n : Nat) → (2 ^ (n : Nat) - 1 - (b : Nat)).testBit i = !((sBits b).any fun y => decide ((((i : Nat) : Int)) = y)) := by decide +kernel
  have hp := pow5 h
  exact this ⟨n, h⟩ ⟨b, by omega⟩ hb ⟨i, by omega⟩ hi
theorem find_congr {α : Type} {p q : α → Bool} : ∀ {l : List α}, (∀ x ∈ l, p x = q x) → l.find? p = l.find? q
  | [], _ => rfl
  | x :: l, h => by
    rw [List.find?_cons, List.find?_cons, h x (by simp), find_congr fun y hy => h y (by simp [hy])]
theorem find_first {p : Nat → Bool} : ∀ {l : List Nat} {x : Nat}, l.find? p = some x → p x = true ∧ x ∈ l ∧ ∀ y ∈ l, p y = true → l.idxOf x ≤ l.idxOf y
  | [], x, h => by simp at h
  | a :: l, x, h => by
    rw [List.find?_cons] at h
    split at h
    · rename_i ha
      injection h with h; subst h
      exact ⟨ha, by simp, fun y _ _ => by simp⟩
    · rename_i ha
      obtain ⟨h1, h2, h3⟩ := find_first h
      have hx : x ≠ a := fun e => by subst e; rw [h1] at ha; cases ha
      refine ⟨h1, by simp [h2], fun y hy hp => ?_⟩
      have hya : y ≠ a := fun e => by subst e; rw [hp] at ha; cases ha
      rw [List.mem_cons] at hy
      rcases hy with rfl | hy
      · exact absurd rfl hya
      · have e1 : (a == x) = false := by simp [Ne.symm hx]
        have e2 : (a == y) = false := by simp [Ne.symm hya]
        rw [List.idxOf_cons, List.idxOf_cons, e1, e2]
        have := h3 y hy hp
        simp only [cond_false]
        omega
/-- The reference's smallest set is the first one of all. -/
theorem fold_first (all : List Int) {n : Nat} (h : n < 6) (hfull : rCan all ((0 : Nat) : Int) = true) : ∀ i, i ≤ 2 ^ n →
    ∃ b, b < 2 ^ n ∧ rLeaveN all n i = sBits b ∧ rCan all ((2 ^ n - 1 - b : Nat) : Int) = true ∧ ∀ j, j < i → rCan all ((2 ^ n - 1 - j : Nat) : Int) = true → (perm n).idxOf b ≤ (perm n).idxOf j
  | 0, _ => ⟨2 ^ n - 1, by have := Nat.one_le_two_pow (n := n); omega, rfl, by rw [Nat.sub_self]; exact hfull, fun j hj => by omega⟩
  | i + 1, hi => by
    obtain ⟨b, h1, h2, h3, h4⟩ := fold_first all h hfull i (by omega)
    rw [rLeaveN_succ, leaveStep, h2, perm_rk h (show i < 2 ^ n by omega) h1]
    by_cases hc : (decide ((perm n).idxOf i < (perm n).idxOf b) && rCan all ((2 ^ n - 1 - i : Nat) : Int)) = true
    · rw [if_pos hc]
      rw [Bool.and_eq_true, decide_eq_true_eq] at hc
      refine ⟨i, by omega, rfl, hc.2, fun j hj hp => ?_⟩
      rcases Nat.lt_succ_iff_lt_or_eq.1 hj with hj | rfl
      · have := h4 j hj hp; omega
      · exact Nat.le_refl _
    · rw [if_neg hc]
      refine ⟨b, h1, rfl, h3, fun j hj hp => ?_⟩
      rcases Nat.lt_succ_iff_lt_or_eq.1 hj with hj | rfl
      · exact h4 j hj hp
      · rw [Bool.and_eq_true, decide_eq_true_eq] at hc
        rcases Nat.lt_or_ge ((perm n).idxOf j) ((perm n).idxOf b) with hlt | hge
        · exact absurd ⟨hlt, hp⟩ hc
        · exact hge
theorem idxOf_inj {l : List Nat} {x y : Nat} (hx : x ∈ l) (hy : y ∈ l) (h : l.idxOf x = l.idxOf y) : x = y := by
  have h1 := List.getElem_idxOf (List.idxOf_lt_length_iff.2 hx)
  have h2 := List.getElem_idxOf (List.idxOf_lt_length_iff.2 hy)
  rw [← h1, ← h2]
  simp only [h]
theorem poss_zero {c : Cu} (k0 : CuOk c) : possN c 0 = true := by
  obtain ⟨x, hx⟩ := List.exists_mem_of_ne_nil _ (truths_ne k0)
  rw [possN, List.any_eq_true]
  exact ⟨x, hx, by simp⟩
/-- What the program finds: the first set, and what is so of it. -/
theorem leave_first {c : Cu} (k0 : CuOk c) : ∃ b, b < 2 ^ c.readings.length ∧ leaveAll c = some (sBits b) ∧ possN c (2 ^ c.readings.length - 1 - b) = true ∧
    ∀ j, j < 2 ^ c.readings.length → possN c (2 ^ c.readings.length - 1 - j) = true → (perm c.readings.length).idxOf b ≤ (perm c.readings.length).idxOf j := by
  have hn : c.readings.length < 6 := by have := k0.rds; omega
  obtain ⟨l, hl⟩ := leaveAll_some k0
  have e : (allSets c.readings.length).find? (sPoss c) = ((perm c.readings.length).find? fun b => possN c (2 ^ c.readings.length - 1 - b)).map sBits := by
    rw [perm_sets hn, List.find?_map]
    congr 1
    refine find_congr fun b hb => ?_
    exact poss_out fun i hi => mask_bits hn (perm_lt hn b hb) hi
  rw [leaveAll_find, e] at hl
  cases hf : (perm c.readings.length).find? fun b => possN c (2 ^ c.readings.length - 1 - b) with
  | none => rw [hf] at hl; cases hl
  | some b =>
    obtain ⟨h1, h2, h3⟩ := find_first hf
    exact ⟨b, perm_lt hn b h2, by rw [leaveAll_find, e, hf]; rfl, h1, fun j hj hp => h3 j (perm_mem hn hj) hp⟩
theorem leave_same {c : Cu} (k0 : CuOk c) : leaveAll c = some (rLeave c (rAll c)) := by
  have hn : c.readings.length < 6 := by have := k0.rds; omega
  obtain ⟨b, h1, h2, h3, h4⟩ := leave_first k0
  have hz : rCan (rAll c) ((0 : Nat) : Int) = true := by rw [poss_can k0 (Nat.two_pow_pos _)]; exact poss_zero k0
  obtain ⟨x, g1, g2, g3, g4⟩ := fold_first (rAll c) hn hz (2 ^ c.readings.length) (Nat.le_refl _)
  have hp := Nat.two_pow_pos c.readings.length
  rw [poss_can k0 (by omega)] at g3
  have a1 := h4 x g1 g3
  have a2 := g4 b h1 (by rw [poss_can k0 (by omega)]; exact h3)
  have := idxOf_inj (perm_mem hn h1) (perm_mem hn g1) (by omega)
  rw [h2, rLeave, g2, this]
theorem first_same {c : Cu} (k0 : CuOk c) : rFirst c (rAll c) = match (List.range c.readings.length).find? fun i => !(sPoss (cut c (i + 1)) []) with
    | some i => (i : Int)
    | none => -1 := by
  have : (List.range c.readings.length).find? (fun i => !rCan (rAll c) (2 ^ (i + 1) - 1)) = (List.range c.readings.length).find? fun i => !(sPoss (cut c (i + 1)) []) := by
    refine find_congr fun i hi => ?_
    rw [List.mem_range] at hi
    have h1 : 1 ≤ 2 ^ (i + 1) := Nat.one_le_two_pow
    have h2 : 2 ^ (i + 1) ≤ 2 ^ c.readings.length := Nat.pow_le_pow_right (by omega) (by omega)
    have e : (2 : Int) ^ (i + 1) - 1 = ((2 ^ (i + 1) - 1 : Nat) : Int) := by rw [Int.natCast_sub h1, Int.natCast_pow]; rfl
    rw [e, poss_can k0 (by omega), poss_cut k0 (by omega)]
  rw [rFirst, this]
  try rfl
end Go.Vm

set_option linter.unusedVariables false
set_option linter.unusedSimpArgs false
set_option maxRecDepth 100000
namespace Go.Vm
open Go.Proofs
set_option maxHeartbeats 4000000 in
theorem l_CopperLeaves (c : Cu) (hc : I64 c.last) : Vm.Fn Try.prog 5 [.agg c.cs] [] fun v h' => v = .bool true := by
  refine Fn.body tabOk Try.func5 rfl (Nat.le_of_ble_eq_true rfl) (Ks.ok (fz := (fzn [])) (cl := (cln [])) tabOk mixed ?_)
  generalize hQ : FnPost tt Try.f5 _ _ = Q
  simp only [Try.f5, argsEnv]
  simp only [gos, eq_self, Nat.reduceLT, Nat.reduceEqDiff, reduceCtorEq, reduceIte, ↓reduceIte, tt, vgo, vout, vguard, callOf, vop, ev, cv, vload, newRow]
  refine Cl.pu (c_Thin c hc) ?_ rfl (by simp only [V.into, intoL, cu_into, Bool.and_true])
  cases ht : sThin c with
  | false =>
    simp only [gos, eq_self, Nat.reduceLT, reduceIte, ↓reduceIte, vgo, vout, vguard, callOf, vop, ev]
    refine Cl.pu c_awake ?_
    simp only [gos, eq_self, Nat.reduceLT, reduceIte, ↓reduceIte, vgo, vout, vguard, callOf, vop, ev]
    subst hQ
    exact FnPost.plain trivial (v := .bool true) (fun h2 e => by rfl) WkV.refl rfl
  | true =>
  have wf := thin_wf hc ht
  simp only [gos, eq_self, Nat.reduceLT, Nat.reduceEqDiff, reduceCtorEq, reduceIte, ↓reduceIte, tt, vgo, vout, vguard, callOf, vop, ev, vload]
  refine Cl.pu (c_lCopper c wf) ?_ rfl (by simp only [V.into, intoL, cu_into, Bool.and_true])
  simp only [gos, eq_self, Nat.reduceLT, reduceIte, ↓reduceIte, vgo, vout, vguard, callOf, ev]
  refine Cl.pu (c_First c wf) ?_ rfl (by simp only [V.into, intoL, cu_into, Bool.and_true])
  simp only [gos, eq_self, Nat.reduceLT, Nat.reduceEqDiff, reduceCtorEq, reduceIte, ↓reduceIte, tt, vgo, vout, vguard, callOf, vop, ev, vload]
  refine Cl.pu (c_lCopper c wf) ?_ rfl (by simp only [V.into, intoL, cu_into, Bool.and_true])
  simp only [gos, eq_self, Nat.reduceLT, reduceIte, ↓reduceIte, vgo, vout, vguard, callOf, ev]
  refine Cl.pu (c_Leave c wf) ?_ rfl (by simp only [V.into, intoL, cu_into, Bool.and_true])
  simp only [gos, eq_self, Nat.reduceLT, Nat.reduceEqDiff, reduceCtorEq, reduceIte, ↓reduceIte, tt, vgo, vout, vguard, callOf, vop, ev, vload]
  refine Cl.pu (c_fault c wf) ?_ rfl (by simp only [V.into, intoL, cu_into, Bool.and_true])
  by_cases h0 : sCheck c = 0
  case neg =>
    have hb2 : (sCheck c != 0) = true := by simp [h0]
    have e1 : sFirstA c = (0, sCheck c) := by simp [sFirstA, h0]
    have e2 : sLeaveA c = ([], sCheck c) := by simp [sLeaveA, h0]
    have z0 : decide ((0 : Int) = 0) = true := rfl
    have z1 : decide (((0 : Nat) : Int) = 0) = true := rfl
    have z2 : decide (sCheck c = sCheck c) = true := by simp
    rw [e1, e2]
    simp only [gos, eq_self, Nat.reduceLT, Nat.reduceEqDiff, reduceIte, ↓reduceIte, tt, vgo, vout, vguard, callOf, vop, ev, cv, vbin, vint, isShift, isNilConst, vlen, hb2, vI, cI, z1]
    refine Cl.pu c_awake ?_
    simp only [gos, eq_self, Nat.reduceLT, Nat.reduceEqDiff, reduceIte, ↓reduceIte, vgo, vout, vguard, callOf, vop, ev]
    subst hQ
    exact FnPost.plain trivial (v := .bool true) (fun h2 e => by rfl) WkV.refl rfl
  have k0 := sCheck_ok h0
  have hb2 : (sCheck c != 0) = false := by simp [h0]
  have z0 : ((0 : Int) != 0) = false := rfl
  have e2 : sLeaveA c = (rLeave c (rAll c), 0) := by simp [sLeaveA, h0, leave_same k0]
  have hs := first_same k0
  have hal := rAll_len k0
  have hll : ((rLeave c (rAll c)).length : Int) ≤ 1000000 := by
    have hn : c.readings.length < 6 := by have := k0.rds; omega
    have hz : rCan (rAll c) ((0 : Nat) : Int) = true := by rw [poss_can k0 (Nat.two_pow_pos _)]; exact poss_zero k0
    obtain ⟨x, g1, g2, g3, g4⟩ := fold_first (rAll c) hn hz (2 ^ c.readings.length) (Nat.le_refl _)
    have := sBits_len x
    rw [rLeave, g2]; omega
  have hsame : decide (rLeave c (rAll c) = rLeave c (rAll c)) = true := by simp
  rw [e2]
  simp only [gos, eq_self, Nat.reduceLT, Nat.reduceEqDiff, reduceCtorEq, reduceIte, ↓reduceIte, tt, vgo, vout, vguard, callOf, vop, ev, cv, vbin, vint, isShift, isNilConst, vload, hb2]
  refine Cl.pu (c_rAll c k0) ?_ rfl (by simp only [V.into, intoL, cu_into, Bool.and_true])
  simp only [gos, eq_self, Nat.reduceLT, Nat.reduceEqDiff, reduceCtorEq, reduceIte, ↓reduceIte, tt, vgo, vout, vguard, callOf, vop, ev, cv, vbin, vint, isShift, isNilConst, vload]
  refine Cl.pu (c_rLeave c k0 (rAll c) hal) ?_ rfl (by simp only [V.into, intoL, vI_into, cu_into, Bool.and_true])
  simp only [gos, eq_self, Nat.reduceLT, Nat.reduceEqDiff, reduceIte, ↓reduceIte, vgo, vout, vguard, callOf, ev]
  refine Cl.pu (c_same (rLeave c (rAll c)) (rLeave c (rAll c)) hll) ?_ rfl (by simp only [intoL, vI_into, Bool.and_true])
  simp only [gos, eq_self, Nat.reduceLT, Nat.reduceEqDiff, reduceCtorEq, reduceIte, ↓reduceIte, tt, vgo, vout, vguard, callOf, vop, ev, vload]
  refine Cl.pu (c_rFirst c k0 (rAll c) hal) ?_ rfl (by simp only [V.into, intoL, vI_into, cu_into, Bool.and_true])
  rw [hs]
  cases hf : (List.range c.readings.length).find? fun i => !(sPoss (cut c (i + 1)) []) with
  | none =>
    have e1 : sFirstA c = (0, 7) := by simp only [sFirstA, h0, if_true, hf]
    have z1 : decide ((0 : Int) = 0) = true := rfl
    have z7 : decide ((7 : Int) = 7) = true := rfl
    have zm : decide ((-1 : Int) < 0) = true := rfl
    rw [e1]
    simp only [gos, eq_self, Nat.reduceLT, Nat.reduceEqDiff, reduceIte, ↓reduceIte, vgo, vout, vguard, callOf, vop, ev, cv, vbin, vint, isShift, isNilConst, zm]
    refine Cl.pu c_awake ?_
    simp only [gos, eq_self, Nat.reduceLT, Nat.reduceEqDiff, reduceIte, ↓reduceIte, vgo, vout, vguard, callOf, vop, ev]
    subst hQ
    exact FnPost.plain trivial (v := .bool true) (fun h2 e => by rfl) WkV.refl rfl
  | some i =>
    have e1 : sFirstA c = ((i : Int), 0) := by simp only [sFirstA, h0, if_true, hf]
    have z1 : decide ((0 : Int) = 0) = true := rfl
    have zi : decide ((i : Int) = (i : Int)) = true := by simp
    have zm : ¬ (i : Int) < 0 := by omega
    rw [e1]
    simp only [gos, eq_self, Nat.reduceLT, Nat.reduceEqDiff, reduceIte, ↓reduceIte, vgo, vout, vguard, callOf, vop, ev, cv, vbin, vint, isShift, isNilConst, zm]
    refine Cl.pu c_awake ?_
    simp only [gos, eq_self, Nat.reduceLT, Nat.reduceEqDiff, reduceIte, ↓reduceIte, vgo, vout, vguard, callOf, vop, ev]
    subst hQ
    exact FnPost.plain trivial (v := .bool true) (fun h2 e => by rfl) WkV.refl rfl
end Go.Vm
