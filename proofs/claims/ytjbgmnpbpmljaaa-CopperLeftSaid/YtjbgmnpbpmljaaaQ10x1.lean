import Derived.Test.YtjbgmnpbpmljaaaB3
import Derived.Test.YtjbgmnpbpmljaaaRows
import Derived.WalkKit
import Derived.ProofKit
import Derived.OpenShut
import Derived.ShutString
import Derived.ChangeOld
import Derived.Below
set_option linter.unusedVariables false
set_option linter.unusedSimpArgs false
set_option maxRecDepth 100000
namespace Go.Vm
open Go.Proofs Go.ChangeShapes Go.WideShapes Go.ChangeAt Go.RowKit
/-! ### from a contract to the row -/
theorem hrel0 (w : World) : HRel (gh0 w) [] w :=
  ⟨fun B o v e => e, fun i e he => (by cases he), fun i j e e' B c c' he => (by cases he), fun i e B c o he => (by cases he), fun i v h => absurd rfl h⟩
theorem calls_of_fn {P : Program} {f : FuncId} {vs : List V} {xs : List Value} {w : World} (c : Fn P f vs [] fun v h' => v = .bool true) (hv : VRL (gh0 w) vs xs) :
    Calls P f xs.toArray w fun e w' => e = .returned (.bool true) ∧ Below w.heap.size w w' := fun cs => by
  obtain ⟨v, h', vc, g', w', fr, rfl, st, hf, hl, hvc, H', t, le⟩ := c (gh0 w) w xs hv (hrel0 w) cs
  simp only [VR] at hvc
  subst hvc
  exact ⟨.returned (.bool true), w', fr, ⟨rfl, t.os, t.tape, t.output, t.size, fun k hk => t.mods k hk (by rintro ⟨i, e, c, he, _⟩; cases he)⟩, st, hf, hl⟩
section
variable {H : Type} {enc : TypeId × Value → H} {P : Program} {w : World} {base : Nat} {spare : Nat → Bool} {held : Bool} {fuel : Nat} {t : TypeId} {cs : List Value} {x : DataW H × List MemPlace}
end
section
variable {H : Type} {enc : TypeId × Value → H} {w : World} {base : Nat} {spare : Nat → Bool} {held : Bool} {fuel : Nat} {cs : List Value} {x : DataW H × List MemPlace}
theorem rd_rg (h : DataW.trod enc Try.prog w base spare held fuel 24 cs = some x) : ∃ r : Rg, r.ok ∧ VRL (gh0 w) r.cs cs := by
  obtain ⟨xs, n, _, _, hl, hx, hf⟩ := DataW.trod_struct Try.underlying24 h
  have hl2 : cs.length = 2 := hl.trans (by kernel_rfl)
  have hx2 : xs.length = 2 := hx
  have f0 : DataW.trod enc Try.prog w base spare held n 3 ((cs.drop 0).take (Try.prog.cellsOf 3)) = xs[0]? := hf 0 _ rfl
  have f1 : DataW.trod enc Try.prog w base spare held n 3 ((cs.drop 1).take (Try.prog.cellsOf 3)) = xs[1]? := hf 1 _ rfl
  rw [List.getElem?_eq_getElem (by omega)] at f0 f1
  obtain ⟨a, ha, va⟩ := rd_int Try.underlying3 f0
  obtain ⟨b, hb, vb⟩ := rd_int Try.underlying3 f1
  refine ⟨⟨a, b⟩, ⟨ha, hb⟩, ?_⟩
  have hc : Try.prog.cellsOf 3 = 1 := by kernel_rfl
  simp only [hc, List.drop_zero] at va vb
  rw [List.take_of_length_le (by simp; omega)] at vb
  exact VRL_two va vb
theorem rd_rd (h : DataW.trod enc Try.prog w base spare held fuel 96 cs = some x) : ∃ r : Rd, r.ok ∧ VRL (gh0 w) r.cs cs := by
  obtain ⟨xs, n, _, _, hl, hx, hf⟩ := DataW.trod_struct Try.underlying96 h
  have hl2 : cs.length = 3 := hl.trans (by kernel_rfl)
  have hx2 : xs.length = 2 := hx
  have f0 : DataW.trod enc Try.prog w base spare held n 3 ((cs.drop 0).take (Try.prog.cellsOf 3)) = xs[0]? := hf 0 _ rfl
  have f1 : DataW.trod enc Try.prog w base spare held n 24 ((cs.drop 1).take (Try.prog.cellsOf 24)) = xs[1]? := hf 1 _ rfl
  rw [List.getElem?_eq_getElem (by omega)] at f0 f1
  obtain ⟨a, ha, va⟩ := rd_int Try.underlying3 f0
  obtain ⟨b, hb, vb⟩ := rd_rg f1
  refine ⟨⟨a, b⟩, ⟨ha, hb⟩, ?_⟩
  have hc : Try.prog.cellsOf 3 = 1 := by kernel_rfl
  have hc2 : Try.prog.cellsOf 24 = 2 := by kernel_rfl
  simp only [hc, hc2, List.drop_zero] at va vb
  rw [List.take_of_length_le (by simp; omega)] at vb
  exact VRL_two va vb
theorem cR_flat : ∀ l : List Rg, l.flatMap Rg.cs = cR l
  | [] => rfl
  | r :: l => by rw [List.flatMap_cons, cR_flat l]; rfl
theorem cD_flat : ∀ l : List Rd, l.flatMap Rd.cs = cD l
  | [] => rfl
  | r :: l => by rw [List.flatMap_cons, cD_flat l]; rfl
theorem rd_cu (h : DataW.trod enc Try.prog w base spare held fuel 28 cs = some x) : ∃ c : Cu, c.ok ∧ VRL (gh0 w) c.cs cs := by
  obtain ⟨xs, n, _, _, hl, hx, hf⟩ := DataW.trod_struct Try.underlying28 h
  have hl2 : cs.length = 11 := hl.trans (by kernel_rfl)
  have hx2 : xs.length = 10 := hx
  have f0 : DataW.trod enc Try.prog w base spare held n 3 ((cs.drop 0).take (Try.prog.cellsOf 3)) = xs[0]? := hf 0 _ rfl
  have f1 : DataW.trod enc Try.prog w base spare held n 3 ((cs.drop 1).take (Try.prog.cellsOf 3)) = xs[1]? := hf 1 _ rfl
  have f2 : DataW.trod enc Try.prog w base spare held n 3 ((cs.drop 2).take (Try.prog.cellsOf 3)) = xs[2]? := hf 2 _ rfl
  have f3 : DataW.trod enc Try.prog w base spare held n 3 ((cs.drop 3).take (Try.prog.cellsOf 3)) = xs[3]? := hf 3 _ rfl
  have f4 : DataW.trod enc Try.prog w base spare held n 3 ((cs.drop 4).take (Try.prog.cellsOf 3)) = xs[4]? := hf 4 _ rfl
  have f5 : DataW.trod enc Try.prog w base spare held n 22 ((cs.drop 5).take (Try.prog.cellsOf 22)) = xs[5]? := hf 5 _ rfl
  have f6 : DataW.trod enc Try.prog w base spare held n 22 ((cs.drop 6).take (Try.prog.cellsOf 22)) = xs[6]? := hf 6 _ rfl
  have f7 : DataW.trod enc Try.prog w base spare held n 24 ((cs.drop 7).take (Try.prog.cellsOf 24)) = xs[7]? := hf 7 _ rfl
  have f8 : DataW.trod enc Try.prog w base spare held n 25 ((cs.drop 9).take (Try.prog.cellsOf 25)) = xs[8]? := hf 8 _ rfl
  have f9 : DataW.trod enc Try.prog w base spare held n 26 ((cs.drop 10).take (Try.prog.cellsOf 26)) = xs[9]? := hf 9 _ rfl
  rw [List.getElem?_eq_getElem (by omega)] at f0 f1 f2 f3 f4 f5 f6 f7 f8 f9
  have hc : Try.prog.cellsOf 3 = 1 := by kernel_rfl
  have hc2 : Try.prog.cellsOf 24 = 2 := by kernel_rfl
  have hc3 : Try.prog.cellsOf 22 = 1 := by kernel_rfl
  have hc4 : Try.prog.cellsOf 25 = 1 := by kernel_rfl
  have hc5 : Try.prog.cellsOf 26 = 1 := by kernel_rfl
  have hc6 : Try.prog.cellsOf 96 = 3 := by kernel_rfl
  obtain ⟨a0, h0, v0⟩ := rd_int Try.underlying3 f0
  obtain ⟨a1, h1, v1⟩ := rd_int Try.underlying3 f1
  obtain ⟨a2, h2, v2⟩ := rd_int Try.underlying3 f2
  obtain ⟨a3, h3, v3⟩ := rd_int Try.underlying3 f3
  obtain ⟨a4, h4, v4⟩ := rd_int Try.underlying3 f4
  obtain ⟨a5, h5, _, v5⟩ := rd_ints Try.underlying22 Try.underlying3 hc f5
  obtain ⟨a6, h6, _, v6⟩ := rd_ints Try.underlying22 Try.underlying3 hc f6
  obtain ⟨a7, h7, v7⟩ := rd_rg f7
  obtain ⟨a8, h8, _, v8⟩ := rd_slice Rg.cs Rg.ok 2 Try.underlying25 hc2 (by omega) (fun _ => rfl) f8 fun n cs x h => rd_rg h
  obtain ⟨a9, h9, _, v9⟩ := rd_slice Rd.cs Rd.ok 3 Try.underlying26 hc6 (by omega) (fun _ => rfl) f9 fun n cs x h => rd_rd h
  rw [cR_flat] at v8
  rw [cD_flat] at v9
  refine ⟨⟨a0, a1, a2, a3, a4, a5, a6, a7, a8, a9⟩, ⟨h0, h1, h2, h3, h4, h5, h6, h7, h8, h9⟩, ?_⟩
  match cs, hl2 with
  | [c0, c1, c2, c3, c4, c5, c6, c7, c8, c9, c10], _ =>
    simp only [hc, hc2, hc3, hc4, hc5, List.drop_zero, List.drop_succ_cons, List.take_succ_cons, List.take_zero, List.take_nil] at v0 v1 v2 v3 v4 v5 v6 v7 v8 v9
    exact VRL.append v0 (VRL.append v1 (VRL.append v2 (VRL.append v3 (VRL.append v4 (VRL.append v5 (VRL.append v6 (VRL.append v7 (VRL.append v8 v9))))))))
end
end Go.Vm

set_option linter.unusedVariables false
set_option linter.unusedSimpArgs false
set_option maxRecDepth 100000
namespace Go.Vm
open Go.Proofs
/-! ### sets of readings, by bits -/
def bitsTo (b p : Nat) : List Int := ((List.range p).filter fun i => b.testBit i).map fun (i : Nat) => (i : Int)
def sBits (b : Nat) : List Int := bitsTo b 5
theorem bitsTo_succ (b p : Nat) : bitsTo b (p + 1) = if b.testBit p then bitsTo b p ++ [(p : Int)] else bitsTo b p := by
  simp only [bitsTo, List.range_succ, List.filter_append, List.filter_cons, List.filter_nil]
  split <;> simp
theorem bitsTo_len (b p : Nat) : (bitsTo b p).length ≤ p := by
  rw [bitsTo, List.length_map]
  exact Nat.le_trans (List.length_filter_le _ _) (by simp)
theorem shr5 {b p : Nat} (hb : b < 32) (hp : p < 6) : (b : Int).fdiv (2 ^ min ((p : Int)).toNat IntKind.i64.bits) = ((b >>> p : Nat) : Int) := by
  have : ∀ b : Fin 32, ∀ p : Fin 6, (((b : Nat) : Int)).fdiv (2 ^ min ((((p : Nat) : Int))).toNat IntKind.i64.bits) = (((b : Nat) >>> (p : Nat) : Nat) : Int) := by decide +kernel
  exact this ⟨b, hb⟩ ⟨p, hp⟩
theorem bit5 {b p : Nat} (hb : b < 32) (hp : p < 6) : decide (((b >>> p : Nat) : Int).tmod 2 = 1) = b.testBit p := by
  have : ∀ b : Fin 32, ∀ p : Fin 6, decide ((((b : Nat) >>> (p : Nat) : Nat) : Int).tmod 2 = 1) = (b : Nat).testBit p := by decide +kernel
  exact this ⟨b, hb⟩ ⟨p, hp⟩
theorem end5 {b p : Nat} (hb : b < 32) (hp : p < 6) (h : b >>> p = 0) : bitsTo b p = sBits b := by
  have : ∀ b : Fin 32, ∀ p : Fin 6, (b : Nat) >>> (p : Nat) = 0 → bitsTo b p = sBits b := by decide +kernel
  exact this ⟨b, hb⟩ ⟨p, hp⟩ h
theorem on5 {b p : Nat} (hb : b < 32) (h : 0 < b >>> p) : p < 5 := by
  rcases Nat.lt_or_ge p 5 with h1 | h1
  · exact h1
  · rw [Nat.shiftRight_eq_div_pow, Nat.div_eq_of_lt (Nat.lt_of_lt_of_le hb (Nat.pow_le_pow_right (n := 2) (by omega) h1))] at h; omega
theorem c_rBits (b : Nat) (hb : b < 32) : Pu Try.prog (.fn 57 [] []) [vi b] (vI (sBits b)) := by
  refine Ev.fn Try.func57 rfl rfl (Fn.body tabOk Try.func57 rfl (Nat.le_of_ble_eq_true rfl) (Ks.ok (fz := (fzn [])) (cl := (cln [])) tabOk mixed ?_))
  generalize hQ : FnPost tt Try.f57 _ _ = Q
  simp only [Try.f57, List.nil_append, List.append_nil, argsEnv]
  simp only [gos, eq_self, Nat.reduceLT, reduceIte, ↓reduceIte, vgo, vout, vguard, callOf, vop, ev, cv]
  refine W.loop tabOk mixed (fun p : Nat => ([(0, vi b), (3, .own 21 (bitsTo b p).length 0 1 (bitsTo b p).length), (4, vi p)], [(21, ⟨(bitsTo b p).length, .row (cI (bitsTo b p))⟩)])) (fun p => 5 - p) (fun p => p ≤ 5) 0 (by omega) (Wk.trans (Wk.sl0E 3 21 1 rfl rfl) (Wk.env (by simp [subE, Env.get, bitsTo]))) ?_
  intro p hp
  have hw := u64_in (n := (p : Int)) (by omega) (by omega)
  have hn : ¬ (p : Int) < 0 := by omega
  have hs := shr5 hb (p := p) (by omega)
  have hbt := bit5 hb (p := p) (by omega)
  have hbl := bitsTo_len b p
  have z2 : ¬ (2 : Int) = 0 := by omega
  by_cases hil : 0 < ((b >>> p : Nat) : Int)
  · have hp5 := on5 hb (p := p) (Int.natCast_pos.1 hil)
    simp only [gos, eq_self, Nat.reduceLT, Nat.reduceEqDiff, reduceCtorEq, reduceIte, ↓reduceIte, tt, vgo, vout, vguard, callOf, vop, ev, cv, vbin, vint, isShift, isNilConst, hw, hn, hs, hil, z2, hbt]
    have hl : (cI (bitsTo b p)).length = (bitsTo b p).length * 1 := by rw [cI_len]; omega
    have hl9 : (bitsTo b p).length ≤ 999999 := by omega
    have hsx := bitsTo_succ b p
    cases ht : b.testBit p with
    | true =>
      rw [ht, if_pos rfl] at hsx
      simp only [gos, eq_self, Nat.reduceLT, Nat.reduceEqDiff, Nat.reduceAdd, Nat.reduceMul, Nat.reduceLeDiff, reduceCtorEq, reduceIte, ↓reduceIte, tt, vgo, vout, vguard, callOf, vop, ev, cv, vbin, vint, isShift, isNilConst, vfill, vappend, srcOf, hl, hl9]
      refine Nx.mk (p + 1) (show 5 - (p + 1) < 5 - p by omega) (by omega) (Wk.heap (fun j => ?_) ?_)
      · rw [hsx, cI_snoc, List.length_append]; rfl
      · simp [subE, Env.get, hsx, i64_succ (show (p : Int) < 9223372036854775807 by omega)]
    | false =>
      rw [ht, if_neg (by simp)] at hsx
      simp only [gos, eq_self, Nat.reduceLT, Nat.reduceEqDiff, reduceCtorEq, reduceIte, ↓reduceIte, vgo, vout, vguard, callOf, vop, ev, cv, vbin, vint, isShift, isNilConst]
      exact Nx.mk (p + 1) (show 5 - (p + 1) < 5 - p by omega) (by omega) (by rw [hsx]; exact Wk.env (by simp [subE, Env.get, i64_succ (show (p : Int) < 9223372036854775807 by omega)]))
  · simp only [gos, eq_self, Nat.reduceLT, Nat.reduceEqDiff, reduceCtorEq, reduceIte, ↓reduceIte, tt, vgo, vout, vguard, callOf, vop, ev, cv, vbin, vint, isShift, isNilConst, hw, hn, hs, hil]
    subst hQ
    have ht : (cI (bitsTo b p)).take (bitsTo b p).length = cI (bitsTo b p) := List.take_of_length_le (by rw [cI_len]; omega)
    have hz : b >>> p = 0 := (Nat.eq_zero_or_pos _).resolve_right fun h => hil (Int.natCast_pos.2 h)
    rw [← end5 hb (p := p) (by omega) hz]
    refine FnPost.plain trivial (v := .own 21 (bitsTo b p).length 0 1 (bitsTo b p).length) (fun h2 e => by rfl) (WkV.frz 21 (v' := vI (bitsTo b p)) (h' := []) (ver := (bitsTo b p).length) (cs := cI (bitsTo b p)) rfl rfl (cI_into _ _) rfl ?_ ?_ WkV.refl) ⟨rfl, rfl⟩
    · simp [V.frz, vI, ht]
    · simp [frzH]
/-! ### before, shorter -/
def lBefore : List Int → List Int → Bool
  | [], b => decide (0 < b.length)
  | _ :: _, [] => false
  | x :: a, y :: b => if x = y then lBefore a b else decide (x < y)
theorem drop_gi {l : List Int} {i : Nat} (h : (i : Int) < l.length) : l.drop i = gi l i :: l.drop (i + 1) := by
  rw [List.drop_eq_getElem_cons (by omega), gi, Int.toNat_natCast, List.getD_eq_getElem?_getD, List.getElem?_eq_getElem (by omega)]; rfl
set_option maxHeartbeats 1000000 in
theorem c_rBefore (a b : List Int) (ha : (a.length : Int) ≤ 1000000) : Pu Try.prog (.fn 74 [] []) [vI a, vI b] (.bool (lBefore a b)) := by
  refine Ev.fn Try.func74 rfl rfl (Fn.body tabOk Try.func74 rfl (Nat.le_of_ble_eq_true rfl) (Ks.ok (fz := (fzn [])) (cl := (cln [(4, .d tg0 [cP, cP, cP, cP, cP, cP, cP, cP, cP]), (5, .d tg0 [cP, cP, cP, cP, cP, cP, cP, cP, cP, cP])])) tabOk mixed ?_))
  generalize hQ : FnPost tt Try.f74 _ _ = Q
  simp only [Try.f74, List.nil_append, List.append_nil, argsEnv, Nat.reduceAdd]
  simp only [gos, eq_self, Nat.reduceLT, Nat.reduceEqDiff, reduceCtorEq, reduceIte, ↓reduceIte, vgo, vout, vguard, callOf, vop, ev, cv]
  refine W.loop tabOk mixed (fun i : Nat => ([(0, vI a), (1, vI b), (5, vi i)], [])) (fun i => a.length - i) (fun i => i ≤ a.length ∧ i ≤ b.length ∧ lBefore a b = lBefore (a.drop i) (b.drop i)) 0 ⟨by omega, by omega, rfl⟩ (Wk.env (by simp [subE, Env.get])) ?_
  rintro i ⟨hi1, hi2, he⟩
  by_cases h1 : (i : Int) < a.length
  · by_cases h2 : (i : Int) < b.length
    · rw [drop_gi h1, drop_gi h2, lBefore] at he
      simp only [gos, eq_self, Nat.reduceLT, Nat.reduceEqDiff, reduceCtorEq, reduceIte, ↓reduceIte, tt, vgo, vout, vguard, callOf, vop, ev, vbin, vint, isShift, isNilConst, vlen, vI, h1, h2]
      refine Wr.draw (by kernel_rfl) ?_
      simp only [gos, eq_self, Nat.reduceLT, Nat.reduceEqDiff, Nat.reduceAdd, reduceCtorEq, reduceIte, ↓reduceIte, tt, vgoD, voutD, vclsOk, vids, mayWrite, V.ids, vguard, callOf, vop, ev, vbin, vint, isShift, isNilConst, vload, clsAt, h1, h2, cI_at (Int.natCast_nonneg i) h1, cI_at (Int.natCast_nonneg i) h2]
      by_cases hx : gi a i = gi b i
      · rw [if_pos hx] at he
        have hb : (gi a i != gi b i) = false := by simp [hx]
        simp only [gos, eq_self, Nat.reduceLT, Nat.reduceEqDiff, reduceCtorEq, reduceIte, ↓reduceIte, vgo, vout, vguard, callOf, vop, ev, cv, vbin, vint, isShift, isNilConst, hb]
        exact Nx.mk (i + 1) (show a.length - (i + 1) < a.length - i by omega) ⟨by omega, by omega, he⟩ (Wk.env (by simp [subE, Env.get, i64_succ (show (i : Int) < 9223372036854775807 by omega)]))
      · rw [if_neg hx] at he
        have hb : (gi a i != gi b i) = true := by simp [hx]
        simp only [gos, eq_self, Nat.reduceEqDiff, reduceIte, ↓reduceIte, hb]
        refine Wr.draw (by kernel_rfl) ?_
        simp only [gos, eq_self, Nat.reduceLT, Nat.reduceEqDiff, Nat.reduceAdd, reduceCtorEq, reduceIte, ↓reduceIte, tt, vgoD, voutD, vclsOk, vids, mayWrite, V.ids, vguard, callOf, vop, ev, vbin, vint, isShift, isNilConst, vload, clsAt, h1, h2, cI_at (Int.natCast_nonneg i) h1, cI_at (Int.natCast_nonneg i) h2]
        subst hQ
        exact FnPost.plain trivial (fun h2 e => by first | rfl | (simp only [Try.f74, vres, vresL, vres1, e _, gos, if_true, if_false, ne_eq, eq_self, Nat.reduceLT, Nat.reduceEqDiff, Nat.reduceAdd, Nat.reduceMul, Nat.reduceLeDiff, Nat.reduceBEq, reduceCtorEq, reduceIte, Array.toList, ↓reduceIte, tt, vgo, vout, vgoD, voutD, vclsOk, vids, mayWrite, V.ids, V.mids, vguard, callOf, vop, ev, cv, vbin, vint, isShift, isNilConst, vnil, isNilSlice, vload, vlen, newRow, vfill, vslice, entOf, vappend, srcOf, vcopy, vlookup, vupdate, mapOk, keyOf, intsOf, clsAt]; try rfl)) (WkV.pure (by simp only [V.into])) ⟨by rw [he], rfl⟩
    · have e2 : b.drop i = [] := List.drop_eq_nil_of_le (by omega)
      rw [e2, drop_gi h1, lBefore] at he
      have hb : decide ((a.length : Int) < b.length) = false := by simp; omega
      simp only [gos, eq_self, Nat.reduceLT, Nat.reduceEqDiff, reduceCtorEq, reduceIte, ↓reduceIte, tt, vgo, vout, vguard, callOf, vop, ev, vbin, vint, isShift, isNilConst, vlen, vI, h1, h2, hb]
      subst hQ
      exact FnPost.plain trivial (fun h2 e => by first | rfl | (simp only [Try.f74, vres, vresL, vres1, e _, gos, if_true, if_false, ne_eq, eq_self, Nat.reduceLT, Nat.reduceEqDiff, Nat.reduceAdd, Nat.reduceMul, Nat.reduceLeDiff, Nat.reduceBEq, reduceCtorEq, reduceIte, Array.toList, ↓reduceIte, tt, vgo, vout, vgoD, voutD, vclsOk, vids, mayWrite, V.ids, V.mids, vguard, callOf, vop, ev, cv, vbin, vint, isShift, isNilConst, vnil, isNilSlice, vload, vlen, newRow, vfill, vslice, entOf, vappend, srcOf, vcopy, vlookup, vupdate, mapOk, keyOf, intsOf, clsAt]; try rfl)) (WkV.pure (by simp only [V.into])) ⟨by rw [he], rfl⟩
  · have e1 : a.drop i = [] := List.drop_eq_nil_of_le (by omega)
    rw [e1, lBefore] at he
    have hb : decide ((a.length : Int) < b.length) = lBefore a b := by rw [he, List.length_drop]; congr 1; apply propext; omega
    simp only [gos, eq_self, Nat.reduceLT, Nat.reduceEqDiff, reduceCtorEq, reduceIte, ↓reduceIte, tt, vgo, vout, vguard, callOf, vop, ev, cv, vbin, vint, isShift, isNilConst, vlen, vI, h1, hb]
    subst hQ
    exact FnPost.plain trivial (fun h2 e => by first | rfl | (simp only [Try.f74, vres, vresL, vres1, e _, gos, if_true, if_false, ne_eq, eq_self, Nat.reduceLT, Nat.reduceEqDiff, Nat.reduceAdd, Nat.reduceMul, Nat.reduceLeDiff, Nat.reduceBEq, reduceCtorEq, reduceIte, Array.toList, ↓reduceIte, tt, vgo, vout, vgoD, voutD, vclsOk, vids, mayWrite, V.ids, V.mids, vguard, callOf, vop, ev, cv, vbin, vint, isShift, isNilConst, vnil, isNilSlice, vload, vlen, newRow, vfill, vslice, entOf, vappend, srcOf, vcopy, vlookup, vupdate, mapOk, keyOf, intsOf, clsAt]; try rfl)) (WkV.pure (by simp only [V.into])) ⟨rfl, rfl⟩
def lShorter (a b : List Int) : Bool := decide (a.length < b.length) || (decide (a.length = b.length) && lBefore a b)
theorem c_rShorter (a b : List Int) (ha : (a.length : Int) ≤ 1000000) : Pu Try.prog (.fn 56 [] []) [vI a, vI b] (.bool (lShorter a b)) := by
  refine Ev.fn Try.func56 rfl rfl (Fn.body tabOk Try.func56 rfl (Nat.le_of_ble_eq_true rfl) (Ks.ok (fz := (fzn [])) (cl := (cln [])) tabOk mixed ?_))
  generalize hQ : FnPost tt Try.f56 _ _ = Q
  simp only [Try.f56, List.nil_append, List.append_nil, argsEnv, Nat.reduceAdd]
  by_cases h1 : (a.length : Int) < b.length
  · simp only [gos, eq_self, Nat.reduceLT, Nat.reduceEqDiff, reduceCtorEq, reduceIte, ↓reduceIte, tt, vgo, vout, vguard, callOf, vop, ev, cv, vbin, vint, isShift, isNilConst, vlen, vI, h1]
    subst hQ
    exact FnPost.plain trivial (fun h2 e => by first | rfl | (simp only [Try.f56, vres, vresL, vres1, e _, gos, if_true, if_false, ne_eq, eq_self, Nat.reduceLT, Nat.reduceEqDiff, Nat.reduceAdd, Nat.reduceMul, Nat.reduceLeDiff, Nat.reduceBEq, reduceCtorEq, reduceIte, Array.toList, ↓reduceIte, tt, vgo, vout, vgoD, voutD, vclsOk, vids, mayWrite, V.ids, V.mids, vguard, callOf, vop, ev, cv, vbin, vint, isShift, isNilConst, vnil, isNilSlice, vload, vlen, newRow, vfill, vslice, entOf, vappend, srcOf, vcopy, vlookup, vupdate, mapOk, keyOf, intsOf, clsAt]; try rfl)) (WkV.pure (by simp only [V.into])) ⟨by simp only [lShorter]; rw [decide_eq_true (by omega : a.length < b.length)]; rfl, rfl⟩
  · by_cases h2 : (a.length : Int) = b.length
    · have hd : decide ((a.length : Int) = b.length) = true := decide_eq_true h2
      simp only [gos, eq_self, Nat.reduceLT, Nat.reduceEqDiff, reduceCtorEq, reduceIte, ↓reduceIte, tt, vgo, vout, vguard, callOf, vop, ev, cv, vbin, vint, isShift, isNilConst, vlen, vI, h1, hd]
      refine Cl.pu (c_rBefore a b ha) ?_ rfl (by simp only [V.into, intoL, cI_into, Bool.and_true])
      simp only [gos, eq_self, Nat.reduceLT, Nat.reduceEqDiff, reduceIte, ↓reduceIte, vgo, vout, vguard, callOf, vop, ev]
      subst hQ
      exact FnPost.plain trivial (fun h2 e => by first | rfl | (simp only [Try.f56, vres, vresL, vres1, e _, gos, if_true, if_false, ne_eq, eq_self, Nat.reduceLT, Nat.reduceEqDiff, Nat.reduceAdd, Nat.reduceMul, Nat.reduceLeDiff, Nat.reduceBEq, reduceCtorEq, reduceIte, Array.toList, ↓reduceIte, tt, vgo, vout, vgoD, voutD, vclsOk, vids, mayWrite, V.ids, V.mids, vguard, callOf, vop, ev, cv, vbin, vint, isShift, isNilConst, vnil, isNilSlice, vload, vlen, newRow, vfill, vslice, entOf, vappend, srcOf, vcopy, vlookup, vupdate, mapOk, keyOf, intsOf, clsAt]; try rfl)) (WkV.pure (by simp only [V.into])) ⟨by simp only [lShorter]; rw [decide_eq_false (by omega : ¬ a.length < b.length), decide_eq_true (by omega : a.length = b.length)]; rfl, rfl⟩
    · have hd : decide ((a.length : Int) = b.length) = false := decide_eq_false h2
      simp only [gos, eq_self, Nat.reduceLT, Nat.reduceEqDiff, reduceCtorEq, reduceIte, ↓reduceIte, tt, vgo, vout, vguard, callOf, vop, ev, cv, vbin, vint, isShift, isNilConst, vlen, vI, h1, hd]
      subst hQ
      exact FnPost.plain trivial (fun h2 e => by first | rfl | (simp only [Try.f56, vres, vresL, vres1, e _, gos, if_true, if_false, ne_eq, eq_self, Nat.reduceLT, Nat.reduceEqDiff, Nat.reduceAdd, Nat.reduceMul, Nat.reduceLeDiff, Nat.reduceBEq, reduceCtorEq, reduceIte, Array.toList, ↓reduceIte, tt, vgo, vout, vgoD, voutD, vclsOk, vids, mayWrite, V.ids, V.mids, vguard, callOf, vop, ev, cv, vbin, vint, isShift, isNilConst, vnil, isNilSlice, vload, vlen, newRow, vfill, vslice, entOf, vappend, srcOf, vcopy, vlookup, vupdate, mapOk, keyOf, intsOf, clsAt]; try rfl)) (WkV.pure (by simp only [V.into])) ⟨by simp only [lShorter]; rw [decide_eq_false (by omega : ¬ a.length < b.length), decide_eq_false (by omega : ¬ a.length = b.length)]; rfl, rfl⟩
end Go.Vm

set_option linter.unusedVariables false
set_option linter.unusedSimpArgs false
set_option maxRecDepth 100000
namespace Go.Vm
open Go.Proofs
/-! ### which readings can be right together -/
theorem andn {n b : Nat} (hn : n < 6) (hb : b < 2 ^ n) : vbits .andNot .i64 ((2 : Int) ^ n - 1) (b : Int) = ((2 ^ n - 1 - b : Nat) : Int) := by
  have : ∀ n : Fin 6, ∀ b : Fin 32, (b : Nat) < 2 ^ (n : Nat) → vbits .andNot .i64 ((2 : Int) ^ (n : Nat) - 1) (((b : Nat) : Int)) = ((2 ^ (n : Nat) - 1 - (b : Nat) : Nat) : Int) := by decide +kernel
  have h32 : 2 ^ n ≤ 32 := Nat.pow_le_pow_right (n := 2) (by omega) (show n ≤ 5 by omega)
  exact this ⟨n, hn⟩ ⟨b, by omega⟩ hb
theorem sBits_len (b : Nat) : (sBits b).length ≤ 5 := bitsTo_len b 5
end Go.Vm

set_option linter.unusedVariables false
set_option linter.unusedSimpArgs false
set_option maxRecDepth 100000
namespace Go.Vm
open Go.Proofs
/-! ### some of the readings -/
def pickN (l : List Rd) (b : Nat) : Nat → List Rd
  | 0 => []
  | i + 1 => if b.testBit i then pickN l b i ++ [gD l i] else pickN l b i
def pickR (l : List Rd) (b : Nat) : List Rd := pickN l b l.length
theorem pickN_len (l : List Rd) (b : Nat) : ∀ i, (pickN l b i).length ≤ i
  | 0 => Nat.le_refl _
  | i + 1 => by
    have := pickN_len l b i
    rw [pickN]; split
    · rw [List.length_append]; simp; omega
    · omega
theorem pickN_mem (l : List Rd) (b : Nat) : ∀ i, i ≤ l.length → ∀ r ∈ pickN l b i, r ∈ l
  | 0, _, r, hr => by simp [pickN] at hr
  | i + 1, h, r, hr => by
    rw [pickN] at hr
    split at hr
    · rw [List.mem_append, List.mem_singleton] at hr
      rcases hr with hr | rfl
      · exact pickN_mem l b i (by omega) r hr
      · exact List.mem_of_getElem? (gD_get (l := l) (i := i) (by omega))
    · exact pickN_mem l b i (by omega) r hr
theorem wk_some (c : Cu) (m : Nat) (r : List Rd) (hm : r.length = m) (a b : Ent) (p : Nat → Bool) (hp : ∀ i, p i = false) :
    WkV p (.agg [vi c.last, vi c.start, vi c.most, vi c.per, vi c.shovels, vI c.coal, vI c.want, vi c.heat.lo, vi c.heat.hi, vR c.loss, .own 30 m 0 3 m]) [(4, a), (5, b), (30, ⟨m, .row (cD r)⟩)] (.agg (cuR c r).cs) [] := by
  have ht : (cD r).take (m * 3) = cD r := List.take_of_length_le (by rw [cD_len]; omega)
  refine WkV.trans (WkV.forgetF (h' := [(30, ⟨m, .row (cD r)⟩)]) (fun j e he => ?_) (fun j hj => by rw [hp j] at hj; cases hj) ?_ ?_) (WkV.frz 30 (v' := .agg (cuR c r).cs) (h' := []) (ver := m) (cs := cD r) rfl (hp 30) (cD_into _ _) rfl ?_ ?_ WkV.refl)
  · simp only [Heap.get] at he ⊢
    split at he
    · rename_i h30; subst h30; exact he
    · cases he
  · simp only [V.into, intoL, V.into, intoL, vI_into, vR_into, Bool.true_and, Bool.and_true, domP, Heap.get]; rfl
  · simp only [intoH, Blk.into, cD_into, Bool.and_self]
  · simp [V.frz, frzL, vI, vR, cI_frz, cR_frz, cuR, Cu.cs, vD, ht, hm]
  · simp [frzH]
set_option maxHeartbeats 2000000 in
theorem c_some (c : Cu) (k0 : CuOk c) (b : Nat) (hb : b < 32) : Pu Try.prog (.fn 54 [] []) [.agg c.cs, vi b] (.agg (cuR c (pickR c.readings b)).cs) := by
  have hrd := k0.rds
  refine Ev.fn Try.func54 rfl rfl (Fn.body tabOk Try.func54 rfl (Nat.le_of_ble_eq_true rfl) (Ks.ok (fz := (fzn [4, 5])) (cl := (cln [(7, .d (tgL [(30, 1)]) [cP, cL, cP, cL, cP, cP, cL, cP, some ([1], [1]), cP, cW])])) tabOk mixed ?_))
  generalize hQ : FnPost tt Try.f54 _ _ = Q
  simp only [Try.f54, List.nil_append, List.append_nil, argsEnv, Nat.reduceAdd]
  simp only [gos, eq_self, Nat.reduceLT, Nat.reduceEqDiff, Nat.reduceAdd, reduceCtorEq, reduceIte, ↓reduceIte, tt, vgo, vout, vguard, callOf, vop, ev, cv, vload, newRow, Cu.cs]
  refine W.loop tabOk mixed (fun i : Nat => ([(1, vi b), (2, .rop c.cs), (4, .ptr 4 0 0), (5, .ptr 5 0 0), (6, vi i)], [(4, ⟨0, .row [vi 0, vi 0, vi 0, vi 0, vi 0, .sl0, .sl0, vi 0, vi 0, .sl0, .sl0]⟩), (5, ⟨0, .row [vi c.last, vi c.start, vi c.most, vi c.per, vi c.shovels, vI c.coal, vI c.want, vi c.heat.lo, vi c.heat.hi, vR c.loss, .own 30 (pickN c.readings b i).length 0 3 (pickN c.readings b i).length]⟩), (30, ⟨(pickN c.readings b i).length, .row (cD (pickN c.readings b i))⟩)])) (fun i => c.readings.length - i) (fun i => i ≤ c.readings.length) 0 (by omega)
    (Wk.trans (Wk.sl0H 5 10 30 3 rfl rfl rfl) (Wk.env (by simp [subE, Env.get, Cu.cs]))) ?_
  intro i hi
  have hc10 : (List.drop 10 c.cs).head? = some (vD c.readings) := rfl
  have hpl := pickN_len c.readings b i
  by_cases hil : (i : Int) < c.readings.length
  · have hw := u64_in (n := (i : Int)) (by omega) (by omega)
    have hn : ¬ (i : Int) < 0 := by omega
    have hs := shr5 hb (p := i) (by omega)
    have hbt := bit5 hb (p := i) (by omega)
    have z2 : ¬ (2 : Int) = 0 := by omega
    have hl : (cD (pickN c.readings b i)).length = (pickN c.readings b i).length * 3 := cD_len _
    have hl9 : (pickN c.readings b i).length ≤ 999999 := by omega
    simp only [gos, eq_self, Nat.reduceLT, Nat.reduceEqDiff, reduceCtorEq, reduceIte, ↓reduceIte, tt, vgo, vout, vguard, callOf, vop, ev, cv, vbin, vint, isShift, isNilConst, vload, vlen, hc10, vD, hil, hw, hn, hs, z2, hbt]
    have hstep : pickN c.readings b (i + 1) = if b.testBit i then pickN c.readings b i ++ [gD c.readings i] else pickN c.readings b i := rfl
    cases ht : b.testBit i with
    | true =>
      rw [ht, if_pos rfl] at hstep
      simp only [gos, eq_self, reduceIte, ↓reduceIte]
      refine Wr.draw (by kernel_rfl) ?_
      simp only [gos, eq_self, Nat.reduceLT, Nat.reduceEqDiff, Nat.reduceAdd, Nat.reduceMul, Nat.reduceLeDiff, reduceCtorEq, reduceIte, ↓reduceIte, tt, vgo, vout, vgoD, voutD, vclsOk, vids, mayWrite, V.ids, vguard, callOf, vop, ev, cv, vbin, vint, isShift, isNilConst, vload, vfill, vappend, srcOf, clsAt, hc10, vD, hil, cD_at (Int.natCast_nonneg i) hil, hl, hl9]
      refine Nx.mk (i + 1) (show c.readings.length - (i + 1) < c.readings.length - i by omega) (by omega) (Wk.heap (fun j => ?_) ?_)
      · rw [hstep, cD_snoc, List.length_append]; rfl
      · simp [subE, Env.get, i64_succ (show (i : Int) < 9223372036854775807 by omega)]
    | false =>
      rw [ht, if_neg (by simp)] at hstep
      simp only [gos, eq_self, Nat.reduceLT, Nat.reduceEqDiff, reduceIte, ↓reduceIte, vgo, vout, vguard, callOf, vop, ev, cv, vbin, vint, isShift, isNilConst]
      exact Nx.mk (i + 1) (show c.readings.length - (i + 1) < c.readings.length - i by omega) (by omega) (by rw [hstep]; exact Wk.env (by simp [subE, Env.get, i64_succ (show (i : Int) < 9223372036854775807 by omega)]))
  · have hie : i = c.readings.length := by omega
    simp only [gos, eq_self, Nat.reduceLT, Nat.reduceEqDiff, Nat.reduceAdd, reduceCtorEq, reduceIte, ↓reduceIte, tt, vgo, vout, vguard, callOf, vop, ev, vbin, vint, isShift, isNilConst, vload, vlen, hc10, vD, hil]
    subst hQ
    rw [pickR, ← hie]
    exact FnPost.plain trivial (v := .agg [vi c.last, vi c.start, vi c.most, vi c.per, vi c.shovels, vI c.coal, vI c.want, vi c.heat.lo, vi c.heat.hi, vR c.loss, .own 30 (pickN c.readings b i).length 0 3 (pickN c.readings b i).length]) (fun h2 e => by simp only [Try.f54, vres, vresL, vres1, gos, eq_self, Nat.reduceLT, Nat.reduceEqDiff, Nat.reduceAdd, reduceCtorEq, reduceIte, ↓reduceIte, tt, vload, e _]) (wk_some c _ _ rfl _ _ _ (fun _ => rfl)) ⟨rfl, rfl⟩
end Go.Vm

set_option linter.unusedVariables false
set_option linter.unusedSimpArgs false
set_option maxRecDepth 100000
namespace Go.Vm
/-! ### plain law: which readings can be right together -/
def possN (c : Cu) (b : Nat) : Bool := (truths c).any fun s => (List.range c.readings.length).all fun i => !b.testBit i || sRead1 c s [] i
theorem range_all_congr {n : Nat} {f g : Nat → Bool} (h : ∀ i, i < n → f i = g i) : (List.range n).all f = (List.range n).all g := by
  rw [Bool.eq_iff_iff, List.all_eq_true, List.all_eq_true]
  exact ⟨fun a i hi => by rw [← h i (List.mem_range.1 hi)]; exact a i hi, fun a i hi => by rw [h i (List.mem_range.1 hi)]; exact a i hi⟩
theorem any_congr {α : Type} {l : List α} {f g : α → Bool} (h : ∀ x ∈ l, f x = g x) : l.any f = l.any g := by
  rw [Bool.eq_iff_iff, List.any_eq_true, List.any_eq_true]
  exact ⟨fun ⟨x, hx, a⟩ => ⟨x, hx, by rw [← h x hx]; exact a⟩, fun ⟨x, hx, a⟩ => ⟨x, hx, by rw [h x hx]; exact a⟩⟩
theorem read1_out (c : Cu) (s : Sc) (out : List Int) (i : Nat) : sRead1 c s out i = ((out.any fun y => decide ((i : Int) = y)) || sRead1 c s [] i) := by
  simp only [sRead1, List.any_nil, Bool.false_or]
/-- 1: with some readings left out. -/
theorem poss_out {c : Cu} {out : List Int} {b : Nat} (h : ∀ i : Nat, i < c.readings.length → b.testBit i = !(out.any fun y => decide ((i : Int) = y))) : sPoss c out = possN c b := by
  refine any_congr fun s _ => range_all_congr fun i hi => ?_
  rw [read1_out, h i hi, Bool.not_not]
theorem pow5 {n : Nat} (h : n < 6) : 2 ^ n ≤ 32 := Nat.pow_le_pow_right (n := 2) (by omega) (show n ≤ 5 by omega)
/-- 3: other readings. -/
def rdOk (c : Cu) (s : Sc) (r : Rd) : Bool := sIn (gi (sPlay c s c.coal c.want (c.last + 1).toNat).2.hot r.hour) r.b.lo r.b.hi
theorem read1_ok (c : Cu) (s : Sc) (i : Nat) : sRead1 c s [] i = rdOk c s (gD c.readings i) := by simp only [sRead1, List.any_nil, Bool.false_or]; rfl
theorem range_gD (l : List Rd) (f : Rd → Bool) : ((List.range l.length).all fun i => f (gD l i)) = l.all f := by
  rw [Bool.eq_iff_iff, List.all_eq_true, List.all_eq_true]
  constructor
  · intro h x hx
    obtain ⟨i, hi, rfl⟩ := List.mem_iff_getElem.1 hx
    have := h i (List.mem_range.2 hi)
    rwa [gD, Int.toNat_natCast, List.getD_eq_getElem?_getD, List.getElem?_eq_getElem hi] at this
  · intro h i hi
    rw [List.mem_range] at hi
    exact h _ (List.mem_of_getElem? (gD_get (l := l) (i := i) (by omega)))
theorem right_all (c : Cu) (s : Sc) : sRight c s [] = c.readings.all (rdOk c s) := by
  rw [← range_gD, sRight]
  exact range_all_congr fun i _ => read1_ok c s i
theorem cuR_listed (c : Cu) (l : List Rd) (t : Tr2) : Listed (cuR c l) t ↔ Listed c t := ⟨fun h => ⟨h.heat, h.len, h.loss⟩, fun h => ⟨h.heat, h.len, h.loss⟩⟩
theorem cuR_rdOk (c : Cu) (l : List Rd) (s : Sc) (r : Rd) : rdOk (cuR c l) s r = rdOk c s r := by
  simp only [rdOk, sPlay_cu c (cuR c l) rfl rfl rfl]; rfl
theorem any_truths {c x : Cu} (k0 : CuOk c) (kx : CuOk x) (h : ∀ t, Listed x t ↔ Listed c t) (f : Sc → Bool) : (truths x).any f = (truths c).any f := by
  rw [Bool.eq_iff_iff, List.any_eq_true, List.any_eq_true]
  constructor
  · rintro ⟨s, hs, hf⟩
    obtain ⟨t, ht, rfl⟩ := (mem_truths kx _).1 hs
    exact ⟨_, (mem_truths k0 _).2 ⟨t, (h t).1 ht, rfl⟩, hf⟩
  · rintro ⟨s, hs, hf⟩
    obtain ⟨t, ht, rfl⟩ := (mem_truths k0 _).1 hs
    exact ⟨_, (mem_truths kx _).2 ⟨t, (h t).2 ht, rfl⟩, hf⟩
theorem poss_cuR {c : Cu} (k0 : CuOk c) {l : List Rd} (kx : CuOk (cuR c l)) : sPoss (cuR c l) [] = (truths c).any fun s => l.all (rdOk c s) := by
  rw [sPoss, any_truths k0 kx (cuR_listed c l)]
  refine any_congr fun s _ => ?_
  rw [right_all]
  congr 1
  funext r
  exact cuR_rdOk c l s r
theorem pick_all (l : List Rd) (b : Nat) (f : Rd → Bool) : ∀ n, (pickN l b n).all f = (List.range n).all fun i => !b.testBit i || f (gD l i)
  | 0 => rfl
  | n + 1 => by
    rw [pickN, List.range_succ, List.all_append, ← pick_all l b f n]
    split
    · rename_i h; rw [List.all_append]; simp [h]
    · rename_i h; simp [h]
theorem pick_ok {c : Cu} (k0 : CuOk c) (b : Nat) : CuOk (cuR c (pickR c.readings b)) :=
  ⟨k0.last, by have := k0.rds; have := pickN_len c.readings b c.readings.length; simp only [cuR, pickR]; omega, k0.most, k0.start, k0.per, k0.shovels, k0.coal, k0.want, k0.heat, k0.loss, fun r hr => k0.readings r (pickN_mem _ _ _ (Nat.le_refl _) r hr), k0.many⟩
theorem poss_pick {c : Cu} (k0 : CuOk c) (b : Nat) : sPoss (cuR c (pickR c.readings b)) [] = possN c b := by
  rw [poss_cuR k0 (pick_ok k0 b), possN]
  refine any_congr fun s _ => ?_
  rw [pickR, pick_all]
  exact range_all_congr fun i _ => by rw [read1_ok]
/-- 4: there is a truth. -/
theorem asked_poss {x : Cu} (kx : CuOk x) : sAsked x true = if sPoss x [] = true then 0 else 11 := by
  have hne : sTruth x = [] ↔ ¬ sPoss x [] = true := by
    rw [sPoss, List.any_eq_true, List.eq_nil_iff_forall_not_mem]
    constructor
    · rintro h ⟨s, hs, hr⟩; exact h s ((mem_sTruth x s).2 ⟨hs, hr⟩)
    · intro h s hs; exact h ⟨s, (mem_sTruth x s).1 hs⟩
  rw [sAsked, if_neg (by simp [chk_of kx]), if_neg (by simp)]
  by_cases h : sPoss x [] = true
  · rw [if_pos h, if_neg (fun e => hne.1 e h)]
  · rw [if_neg h, if_pos (hne.2 h)]
theorem keeps_err (x : Cu) : (sKeepsA x).2 = sAsked x true := by
  rw [sKeepsA]; split
  · rename_i h; rw [h]
  · rfl
/-! ### the smallest set -/
def combos (n : Nat) : Nat → List Int → Int → List (List Int)
  | 0, out, _ => [out]
  | m + 1, out, first => (rangeI first ((n : Int) - ((m + 1 : Nat) : Int))).flatMap fun i => combos n m (out ++ [i]) (i + 1)
def allSets (n : Nat) : List (List Int) := (rangeI 0 n).flatMap fun m => combos n m.toNat [] 0
theorem leaveF_find (c : Cu) : ∀ (m : Nat) (out : List Int) (first : Int), leaveF c m out first = (combos c.readings.length m out first).find? (sPoss c)
  | 0, out, first => by
    rw [leaveF, combos, List.find?_cons]
    cases h : sPoss c out <;> simp []
  | m + 1, out, first => by
    rw [leaveF, combos, List.find?_flatMap]
    congr 1
    funext i
    exact leaveF_find c m _ _
theorem leaveAll_find (c : Cu) : leaveAll c = (allSets c.readings.length).find? (sPoss c) := by
  rw [leaveAll, allSets, List.find?_flatMap]
  congr 1
  funext i
  exact leaveF_find c _ _ _
def perm (n : Nat) : List Nat := (allSets n).map fun l => l.foldl (fun a x => a + 2 ^ x.toNat) 0
theorem perm_sets {n : Nat} (h : n < 6) : allSets n = (perm n).map sBits := by
  have : ∀ n : Fin 6, allSets n = (perm n).map sBits := by decide +kernel
  exact this ⟨n, h⟩
theorem perm_mem {n b : Nat} (h : n < 6) (hb : b < 2 ^ n) : b ∈ perm n := by
  have : ∀ n : Fin 6, ∀ b : Fin 32, (b : Nat) < 2 ^ (n : Nat) → (b : Nat) ∈ perm n := by decide +kernel
  exact this ⟨n, h⟩ ⟨b, by have := pow5 h; omega⟩ hb
theorem perm_lt {n : Nat} (h : n < 6) : ∀ b ∈ perm n, b < 2 ^ n := by
  have : ∀ n : Fin 6, ∀ b ∈ perm n, b < 2 ^ (n : Nat) := by decide +kernel
  exact this ⟨n, h⟩
theorem perm_rk {n a b : Nat} (h : n < 6) (ha : a < 2 ^ n) (hb : b < 2 ^ n) : lShorter (sBits a) (sBits b) = decide ((perm n).idxOf a < (perm n).idxOf b) := by
  have : ∀ n : Fin 6, ∀ a b : Fin 32, (a : Nat) < 2 ^ (n : Nat) → (b : Nat) < 2 ^ (n : Nat) → lShorter (sBits a) (sBits b) = decide ((perm n).idxOf (a : Nat) < (perm n).idxOf (b : Nat)) := by decide +kernel
  have hp := pow5 h
  exact this ⟨n, h⟩ ⟨a, by omega⟩ ⟨b, by omega⟩ ha hb
theorem mask_bits {n b i : Nat} (h : n < 6) (hb : b < 2 ^ n) (hi : i < n) : (2 ^ n - 1 - b).testBit i = !((sBits b).any fun y => decide ((i : Int) = y)) := by
  have : ∀ n : Fin 6, ∀ b : Fin 32, (b : Nat) < 2 ^ (n : Nat) → ∀ i : Fin 5, (i : Nat) < (n : Nat) → (2 ^ (n : Nat) - 1 - (b : Nat)).testBit i = !((sBits b).any fun y => decide ((((i : Nat) : Int)) = y)) := by decide +kernel
  have hp := pow5 h
  exact this ⟨n, h⟩ ⟨b, by omega⟩ hb ⟨i, by omega⟩ hi
theorem find_congr {α : Type} {p q : α → Bool} : ∀ {l : List α}, (∀ x ∈ l, p x = q x) → l.find? p = l.find? q
  | [], _ => rfl
  | x :: l, h => by
    rw [List.find?_cons, List.find?_cons, h x (by simp), find_congr fun y hy => h y (by simp [hy])]
theorem find_first {p : Nat → Bool} : ∀ {l : List Nat} {x : Nat}, l.find? p = some x → p x = true ∧ x ∈ l ∧ ∀ y ∈ l, p y = true → l.idxOf x ≤ l.idxOf y
  | [], x, h => by simp at h
  | a :: l, x, h => by
    rw [List.find?_cons] at h
    split at h
    · rename_i ha
      injection h with h; subst h
      exact ⟨ha, by simp, fun y _ _ => by simp⟩
    · rename_i ha
      obtain ⟨h1, h2, h3⟩ := find_first h
      have hx : x ≠ a := fun e => by subst e; rw [h1] at ha; cases ha
      refine ⟨h1, by simp [h2], fun y hy hp => ?_⟩
      have hya : y ≠ a := fun e => by subst e; rw [hp] at ha; cases ha
      rw [List.mem_cons] at hy
      rcases hy with rfl | hy
      · exact absurd rfl hya
      · have e1 : (a == x) = false := by simp [Ne.symm hx]
        have e2 : (a == y) = false := by simp [Ne.symm hya]
        rw [List.idxOf_cons, List.idxOf_cons, e1, e2]
        have := h3 y hy hp
        simp only [cond_false]
        omega
/-- What the program finds: the first set, and what is so of it. -/
theorem leave_first {c : Cu} (k0 : CuOk c) : ∃ b, b < 2 ^ c.readings.length ∧ leaveAll c = some (sBits b) ∧ possN c (2 ^ c.readings.length - 1 - b) = true ∧
    ∀ j, j < 2 ^ c.readings.length → possN c (2 ^ c.readings.length - 1 - j) = true → (perm c.readings.length).idxOf b ≤ (perm c.readings.length).idxOf j := by
  have hn : c.readings.length < 6 := by have := k0.rds; omega
  obtain ⟨l, hl⟩ := leaveAll_some k0
  have e : (allSets c.readings.length).find? (sPoss c) = ((perm c.readings.length).find? fun b => possN c (2 ^ c.readings.length - 1 - b)).map sBits := by
    rw [perm_sets hn, List.find?_map]
    congr 1
    refine find_congr fun b hb => ?_
    exact poss_out fun i hi => mask_bits hn (perm_lt hn b hb) hi
  rw [leaveAll_find, e] at hl
  cases hf : (perm c.readings.length).find? fun b => possN c (2 ^ c.readings.length - 1 - b) with
  | none => rw [hf] at hl; cases hl
  | some b =>
    obtain ⟨h1, h2, h3⟩ := find_first hf
    exact ⟨b, perm_lt hn b h2, by rw [leaveAll_find, e, hf]; rfl, h1, fun j hj hp => h3 j (perm_mem hn hj) hp⟩
end Go.Vm

set_option linter.unusedVariables false
set_option linter.unusedSimpArgs false
set_option maxRecDepth 100000
namespace Go.Vm
/-- What Keeps says of coppers with some of their readings. -/
theorem keeps_pick {c : Cu} (k0 : CuOk c) (b : Nat) : (sKeepsA (cuR c (pickR c.readings b))).2 = if possN c b = true then 0 else 11 := by
  rw [keeps_err, asked_poss (pick_ok k0 b), poss_pick k0]
end Go.Vm

set_option linter.unusedVariables false
set_option linter.unusedSimpArgs false
set_option maxRecDepth 100000
namespace Go.Vm
open Go.Proofs
def bitsSum (b i : Nat) : Nat := ((sBits b).take i).foldl (fun a x => a + 2 ^ x.toNat) 0
theorem bits_at {b n i : Nat} (hn : n < 6) (hb : b < 2 ^ n) (hi : i < (sBits b).length) : 0 ≤ gi (sBits b) i ∧ gi (sBits b) i < n ∧ vbits .or .i64 (bitsSum b i : Int) (2 ^ (gi (sBits b) i).toNat) = (bitsSum b (i + 1) : Int) := by
  have : ∀ n : Fin 6, ∀ b : Fin 32, (b : Nat) < 2 ^ (n : Nat) → ∀ i : Fin 5, (i : Nat) < (sBits b).length → 0 ≤ gi (sBits b) (((i : Nat) : Int)) ∧ gi (sBits b) (((i : Nat) : Int)) < (((n : Nat) : Int)) ∧ vbits .or .i64 ((bitsSum b i : Nat) : Int) (2 ^ (gi (sBits b) (((i : Nat) : Int))).toNat) = ((bitsSum b ((i : Nat) + 1) : Nat) : Int) := by decide +kernel
  have hp := pow5 hn
  have hl := sBits_len b
  exact this ⟨n, hn⟩ ⟨b, by omega⟩ hb ⟨i, by omega⟩ hi
theorem bits_up {b i : Nat} (hb : b < 32) (hi : i + 1 < (sBits b).length) : gi (sBits b) i < gi (sBits b) ((i + 1 : Nat) : Int) := by
  have : ∀ b : Fin 32, ∀ i : Fin 5, (i : Nat) + 1 < (sBits b).length → gi (sBits b) (((i : Nat) : Int)) < gi (sBits b) ((((i : Nat) + 1 : Nat) : Int)) := by decide +kernel
  have hl := sBits_len b
  exact this ⟨b, hb⟩ ⟨i, by omega⟩ hi
theorem bits_sum {b : Nat} (hb : b < 32) : bitsSum b (sBits b).length = b := by
  have : ∀ b : Fin 32, bitsSum b (sBits b).length = b := by decide +kernel
  exact this ⟨b, hb⟩
set_option maxRecDepth 1000000 in
theorem and_full {t n : Nat} (ht : t < 256) (hn : n < 6) : vbits .and .i64 (t : Int) ((2 : Int) ^ n - 1) = ((t % 2 ^ n : Nat) : Int) := by
  have : ∀ n : Fin 6, ∀ t : Fin 256, vbits .and .i64 (((t : Nat) : Int)) ((2 : Int) ^ (n : Nat) - 1) = (((t : Nat) % 2 ^ (n : Nat) : Nat) : Int) := by decide +kernel
  exact this ⟨n, hn⟩ ⟨t, ht⟩
set_option maxHeartbeats 8000000 in
theorem l_CopperLeft (c : Cu) (hc : I64 c.last) (t : Int) (hto : 0 ≤ t ∧ t ≤ 255) : Vm.Fn Try.prog 10 [.agg c.cs, .int .u8 t] [] fun v h' => v = .bool true := by
  refine Fn.body tabOk Try.func10 rfl (Nat.le_of_ble_eq_true rfl) (Ks.ok (fz := (fzn [])) (cl := (cln [(10, .d tg0 [cP, cP, cP, cP, cP, cP, cP, cP, cP, cP, cP, cP, cP, cP, cP, cP, cP, cP, cP, cP, cP, cP, cP, cP, cP, cP]), (14, .d tg0 [cP, cP, cP, cP, cP, cP, cP, cP, cP, cP, cP, cP, cP]), (15, .d tg0 [cP, cP, cP, cP, cP, cP, cP, cP, cP, cP, cP, cP, cP])])) tabOk mixed ?_)
  generalize hQ : FnPost tt Try.f10 _ _ = Q
  simp only [Try.f10, argsEnv, Nat.reduceAdd]
  simp only [gos, eq_self, Nat.reduceLT, Nat.reduceEqDiff, reduceCtorEq, reduceIte, ↓reduceIte, tt, vgo, vout, vguard, callOf, vop, ev, cv, vload, newRow]
  refine Cl.pu (c_ready c hc) ?_ rfl (by simp only [V.into, intoL, cu_into, Bool.and_true])
  cases hts : sReady c with
  | false =>
    simp only [gos, eq_self, Nat.reduceLT, Nat.reduceEqDiff, reduceIte, ↓reduceIte, vgo, vout, vguard, callOf, vop, ev]
    refine Cl.pu c_awake ?_
    simp only [gos, eq_self, Nat.reduceLT, reduceIte, ↓reduceIte, vgo, vout, vguard, callOf, vop, ev]
    subst hQ
    exact FnPost.plain trivial (v := .bool true) (fun h2 e => by rfl) WkV.refl rfl
  | true =>
  obtain ⟨hth, h0⟩ := ready_ok hts
  have wf := thin_wf hc hth
  have k0 := sCheck_ok h0
  have hrd := k0.rds
  have hn6 : c.readings.length < 6 := by omega
  have hpw := pow5 hn6
  obtain ⟨b, hb, hlv, hpo, hmin⟩ := leave_first k0
  have e2 : sLeaveA c = (sBits b, 0) := by simp [sLeaveA, h0, hlv]
  have hsl := sBits_len b
  have hc10 : (List.drop 10 c.cs).head? = some (vD c.readings) := rfl
  have z1 : ((0 : Int) != 0) = false := rfl
  simp only [gos, eq_self, Nat.reduceLT, Nat.reduceEqDiff, reduceCtorEq, reduceIte, ↓reduceIte, tt, vgo, vout, vguard, callOf, vop, ev, vload]
  refine Cl.pu (c_lCopper c wf) ?_ rfl (by simp only [V.into, intoL, cu_into, Bool.and_true])
  simp only [gos, eq_self, Nat.reduceLT, reduceIte, ↓reduceIte, vgo, vout, vguard, callOf, ev]
  refine Cl.pu (c_Leave c wf) ?_ rfl (by simp only [V.into, intoL, cu_into, Bool.and_true])
  rw [e2]
  simp only [gos, eq_self, Nat.reduceLT, Nat.reduceEqDiff, reduceIte, ↓reduceIte, vgo, vout, vguard, callOf, vop, ev, cv, vbin, vint, isShift, isNilConst]
  refine W.loop tabOk mixed (fun i : Nat => ([(1, .int .u8 t), (2, .rop c.cs), (5, vI (sBits b)), (7, vi (bitsSum b i : Nat)), (8, vi i)], [])) (fun i => (sBits b).length - i) (fun i => i ≤ (sBits b).length) 0 (by omega) (Wk.env (by simp [subE, Env.get, bitsSum])) ?_
  intro i hi
  by_cases hil : (i : Int) < (sBits b).length
  · obtain ⟨a1, a2, a3⟩ := bits_at hn6 hb (i := i) (by omega)
    have hin : sIn (gi (sBits b) i) 0 ((c.readings.length : Int) - 1) = true := by simp only [sIn, Bool.and_eq_true, decide_eq_true_eq]; omega
    have hsucc := i64_succ (show (i : Int) < 9223372036854775807 by omega)
    have hrl := i64_in (show -9223372036854775808 ≤ (c.readings.length : Int) - 1 by omega) (show (c.readings.length : Int) - 1 ≤ 9223372036854775807 by omega)
    have fin : ∀ x : Int, gi (sBits b) i = x → ∃ m : Nat, x = (m : Int) ∧ m < 5 := fun x hx => ⟨x.toNat, by omega, by omega⟩
    simp only [gos, eq_self, Nat.reduceLT, Nat.reduceEqDiff, reduceIte, ↓reduceIte, tt, vgo, vout, vguard, callOf, vop, ev, vbin, vint, isShift, isNilConst, vlen, vI, hil]
    refine Wr.draw (by kernel_rfl) ?_
    simp only [gos, eq_self, Nat.reduceLT, Nat.reduceEqDiff, Nat.reduceAdd, reduceCtorEq, reduceIte, ↓reduceIte, tt, vgoD, voutD, vclsOk, vids, mayWrite, V.ids, vguard, callOf, vop, ev, cv, vbin, vint, isShift, isNilConst, vload, vlen, clsAt, vD, hil, hc10, cI_at (Int.natCast_nonneg i) hil, hrl]
    refine CD.pu (c_rIn _ _ _) ?_
    rw [hin]
    have hat := cI_at (Int.natCast_nonneg i) hil
    obtain ⟨m, hm, hm5⟩ := fin _ rfl
    have hw := u64_in (n := (m : Int)) (by omega) (by omega)
    have hng : ¬ (m : Int) < 0 := by omega
    have hsh := shl1 (i := m) (by omega)
    rw [hm, Int.toNat_natCast] at a3
    cases i with
    | zero =>
      have q0 : decide ((0 : Int) < ((0 : Nat) : Int)) = false := rfl
      rw [hm] at hat
      simp only [gos, eq_self, Nat.reduceLT, Nat.reduceEqDiff, Nat.reduceAdd, reduceCtorEq, reduceIte, ↓reduceIte, tt, vgo, vout, vgoD, voutD, vclsOk, vids, mayWrite, vguard, callOf, vop, ev, cv, vbin, vint, isShift, isNilConst, vload, q0, hil, hat, hw, hng, hsh, a3]
      exact Nx.mk (0 + 1) (show (sBits b).length - (0 + 1) < (sBits b).length - 0 by omega) (by omega) (Wk.env (by simp [subE, Env.get, show IntKind.i64.wrap 1 = 1 from rfl]))
    | succ j =>
      have hup := bits_up (b := b) (i := j) (by omega) (by omega)
      have hjl : (j : Int) < (sBits b).length := by omega
      have q0 : decide ((0 : Int) < ((j + 1 : Nat) : Int)) = true := decide_eq_true (by omega)
      have q1 : decide (gi (sBits b) ((j + 1 : Nat) : Int) ≤ gi (sBits b) j) = false := decide_eq_false (by omega)
      have hsub : IntKind.i64.wrap (((j + 1 : Nat) : Int) - 1) = (j : Int) := by rw [i64_in (by omega) (by omega)]; omega
      rw [hm] at hat q1
      simp only [gos, eq_self, Nat.reduceLT, Nat.reduceEqDiff, reduceCtorEq, reduceIte, ↓reduceIte, tt, vgo, vout, vgoD, voutD, vclsOk, vids, mayWrite, V.ids, vguard, callOf, vop, ev, cv, vbin, vint, isShift, isNilConst, vload, q0, hil, hjl, hat, hsub, cI_at (Int.natCast_nonneg j) hjl, q1, hw, hng, hsh, a3]
      exact Nx.mk (j + 1 + 1) (show (sBits b).length - (j + 1 + 1) < (sBits b).length - (j + 1) by omega) (by omega) (Wk.env (by simp [subE, Env.get, show IntKind.i64.wrap ((j : Int) + 1 + 1) = (j : Int) + 1 + 1 from i64_in (by omega) (by omega)]))
  · have hie : i = (sBits b).length := by omega
    obtain ⟨tn, rfl⟩ : ∃ tn : Nat, t = (tn : Int) := ⟨t.toNat, by omega⟩
    have haf := and_full (t := tn) (n := c.readings.length) (by omega) hn6
    have hnb : tn % 2 ^ c.readings.length < 2 ^ c.readings.length := Nat.mod_lt _ (Nat.two_pow_pos _)
    have hF : rFull c = (2 : Int) ^ c.readings.length - 1 := rfl
    have an1 := andn hn6 hb
    have an2 := andn hn6 hnb
    have g1 : (sKeepsA (cuR c (pickR c.readings (2 ^ c.readings.length - 1 - b)))).2 = 0 := by rw [keeps_pick k0, hpo]; rfl
    have g2 := keeps_pick k0 (2 ^ c.readings.length - 1 - tn % 2 ^ c.readings.length)
    have hrk := perm_rk hn6 hnb hb
    have hmn := hmin _ hnb
    have y0 : decide ((0 : Int) = 0) = true := rfl
    have y1 : decide ((11 : Int) = 11) = true := rfl
    have y2 : decide ((0 : Int) = 11) = false := rfl
    rw [hie, bits_sum (by omega)]
    generalize hnbe : tn % 2 ^ c.readings.length = nb at haf hnb an2 g2 hrk hmn ⊢
    have hnl := sBits_len nb
    have hil2 : ¬ (((sBits b).length : Nat) : Int) < ((sBits b).length : Nat) := by omega
    simp only [gos, eq_self, Nat.reduceLT, Nat.reduceEqDiff, reduceCtorEq, reduceIte, ↓reduceIte, tt, vgo, vout, vguard, callOf, vop, ev, vbin, vint, isShift, isNilConst, vload, vlen, vI, hil2, i64_in (show -9223372036854775808 ≤ (tn : Int) by omega) (show (tn : Int) ≤ 9223372036854775807 by omega)]
    refine Cl.pu (c_rFull c hrd) ?_ rfl (by simp only [V.into, intoL, cu_into, Bool.and_true])
    rw [hF]
    simp only [gos, eq_self, Nat.reduceLT, Nat.reduceEqDiff, reduceIte, ↓reduceIte, vgo, vout, vguard, callOf, vop, ev, vbin, vint, isShift, isNilConst, haf]
    refine Wr.draw (by kernel_rfl) ?_
    simp only [gos, eq_self, Nat.reduceLT, Nat.reduceEqDiff, Nat.reduceAdd, reduceCtorEq, reduceIte, ↓reduceIte, tt, vgoD, voutD, vclsOk, vids, mayWrite, V.ids, vguard, callOf, vop, ev, vload, clsAt]
    refine CD.pu (c_rFull c hrd) ?_ rfl (by simp only [V.into, intoL, cu_into, Bool.and_true])
    rw [hF]
    simp only [gos, eq_self, Nat.reduceLT, Nat.reduceEqDiff, reduceIte, ↓reduceIte, vgoD, voutD, vclsOk, vids, mayWrite, vguard, callOf, vop, ev, vbin, vint, isShift, isNilConst, an1]
    refine CD.pu (c_some c k0 (2 ^ c.readings.length - 1 - b) (by omega)) ?_ rfl (by simp only [V.into, intoL, cu_into, Bool.and_true])
    simp only [gos, eq_self, Nat.reduceLT, reduceIte, ↓reduceIte, vgoD, voutD, vguard, callOf, ev]
    refine CD.pu (c_lCopper _ (pick_ok k0 _).wf) ?_ rfl (by simp only [V.into, intoL, cu_into, Bool.and_true])
    simp only [gos, eq_self, Nat.reduceLT, reduceIte, ↓reduceIte, vgoD, voutD, vguard, callOf, ev]
    refine CD.pu (c_Keeps _ (pick_ok k0 _).wf) ?_ rfl (by simp only [V.into, intoL, cu_into, Bool.and_true])
    rw [g1]
    simp only [gos, eq_self, Nat.reduceLT, Nat.reduceEqDiff, reduceIte, ↓reduceIte, vgoD, voutD, vclsOk, vids, mayWrite, vguard, callOf, vop, ev]
    refine Wr.draw (by kernel_rfl) ?_
    simp only [gos, eq_self, Nat.reduceLT, Nat.reduceEqDiff, Nat.reduceAdd, reduceCtorEq, reduceIte, ↓reduceIte, tt, vgoD, voutD, vclsOk, vids, mayWrite, V.ids, vguard, callOf, vop, ev, vload, clsAt]
    refine CD.pu (c_rFull c hrd) ?_ rfl (by simp only [V.into, intoL, cu_into, Bool.and_true])
    rw [hF]
    simp only [gos, eq_self, Nat.reduceLT, Nat.reduceEqDiff, reduceIte, ↓reduceIte, vgoD, voutD, vclsOk, vids, mayWrite, vguard, callOf, vop, ev, vbin, vint, isShift, isNilConst, an2]
    refine CD.pu (c_some c k0 (2 ^ c.readings.length - 1 - nb) (by omega)) ?_ rfl (by simp only [V.into, intoL, cu_into, Bool.and_true])
    simp only [gos, eq_self, Nat.reduceLT, reduceIte, ↓reduceIte, vgoD, voutD, vguard, callOf, ev]
    refine CD.pu (c_lCopper _ (pick_ok k0 _).wf) ?_ rfl (by simp only [V.into, intoL, cu_into, Bool.and_true])
    simp only [gos, eq_self, Nat.reduceLT, reduceIte, ↓reduceIte, vgoD, voutD, vguard, callOf, ev]
    refine CD.pu (c_Keeps _ (pick_ok k0 _).wf) ?_ rfl (by simp only [V.into, intoL, cu_into, Bool.and_true])
    rw [g2]
    cases hps : possN c (2 ^ c.readings.length - 1 - nb) with
    | false =>
      simp only [gos, eq_self, Nat.reduceLT, Nat.reduceEqDiff, reduceIte, ↓reduceIte, vgo, vout, vgoD, voutD, vclsOk, vids, mayWrite, vguard, callOf, vop, ev, cv, vbin, vint, isShift, isNilConst]
      refine Cl.pu c_awake ?_
      simp only [gos, eq_self, Nat.reduceLT, Nat.reduceEqDiff, reduceIte, ↓reduceIte, vgo, vout, vguard, callOf, vop, ev]
      subst hQ
      exact FnPost.plain trivial (v := .bool true) (fun h2 e => by rfl) WkV.refl rfl
    | true =>
      have hsf : lShorter (sBits nb) (sBits b) = false := by
        have := hmn hps
        rw [hrk, decide_eq_false]; omega
      simp only [gos, eq_self, Nat.reduceLT, Nat.reduceEqDiff, reduceIte, ↓reduceIte, vgo, vout, vgoD, voutD, vclsOk, vids, mayWrite, vguard, callOf, vop, ev, cv, vbin, vint, isShift, isNilConst, y2]
      refine Cl.pu (c_rBits nb (by omega)) ?_
      simp only [gos, eq_self, Nat.reduceLT, Nat.reduceEqDiff, reduceIte, ↓reduceIte, vgo, vout, vguard, callOf, vop, ev]
      refine Cl.pu (c_rShorter (sBits nb) (sBits b) (by omega)) ?_ rfl (by simp only [V.into, intoL, cI_into, vI_into, Bool.and_true])
      rw [hsf]
      simp only [gos, eq_self, Nat.reduceLT, Nat.reduceEqDiff, reduceIte, ↓reduceIte, vgo, vout, vguard, callOf, vop, ev]
      refine Cl.pu c_awake ?_
      simp only [gos, eq_self, Nat.reduceLT, Nat.reduceEqDiff, reduceIte, ↓reduceIte, vgo, vout, vguard, callOf, vop, ev]
      subst hQ
      exact FnPost.plain trivial (v := .bool true) (fun h2 e => by rfl) WkV.refl rfl
end Go.Vm
