import Derived.Test.YtjbgmnpbpmljaaaB3
import Derived.Test.YtjbgmnpbpmljaaaRows
import Derived.WalkKit
import Derived.ProofKit
import Derived.OpenShut
import Derived.ShutString
import Derived.ChangeOld
import Derived.Below
set_option linter.unusedVariables false
set_option linter.unusedSimpArgs false
set_option maxRecDepth 100000
namespace Go.Vm
open Go.Proofs Go.ChangeShapes Go.WideShapes Go.ChangeAt Go.RowKit
/-! ### from a contract to the row -/
theorem hrel0 (w : World) : HRel (gh0 w) [] w :=
  ⟨fun B o v e => e, fun i e he => (by cases he), fun i j e e' B c c' he => (by cases he), fun i e B c o he => (by cases he), fun i v h => absurd rfl h⟩
theorem calls_of_fn {P : Program} {f : FuncId} {vs : List V} {xs : List Value} {w : World} (c : Fn P f vs [] fun v h' => v = .bool true) (hv : VRL (gh0 w) vs xs) :
    Calls P f xs.toArray w fun e w' => e = .returned (.bool true) ∧ Below w.heap.size w w' := fun cs => by
  obtain ⟨v, h', vc, g', w', fr, rfl, st, hf, hl, hvc, H', t, le⟩ := c (gh0 w) w xs hv (hrel0 w) cs
  simp only [VR] at hvc
  subst hvc
  exact ⟨.returned (.bool true), w', fr, ⟨rfl, t.os, t.tape, t.output, t.size, fun k hk => t.mods k hk (by rintro ⟨i, e, c, he, _⟩; cases he)⟩, st, hf, hl⟩
section
variable {H : Type} {enc : TypeId × Value → H} {P : Program} {w : World} {base : Nat} {spare : Nat → Bool} {held : Bool} {fuel : Nat} {t : TypeId} {cs : List Value} {x : DataW H × List MemPlace}
end
section
variable {H : Type} {enc : TypeId × Value → H} {w : World} {base : Nat} {spare : Nat → Bool} {held : Bool} {fuel : Nat} {cs : List Value} {x : DataW H × List MemPlace}
theorem rd_rg (h : DataW.trod enc Try.prog w base spare held fuel 24 cs = some x) : ∃ r : Rg, r.ok ∧ VRL (gh0 w) r.cs cs := by
  obtain ⟨xs, n, _, _, hl, hx, hf⟩ := DataW.trod_struct Try.underlying24 h
  have hl2 : cs.length = 2 := hl.trans (by kernel_rfl)
  have hx2 : xs.length = 2 := hx
  have f0 : DataW.trod enc Try.prog w base spare held n 3 ((cs.drop 0).take (Try.prog.cellsOf 3)) = xs[0]? := hf 0 _ rfl
  have f1 : DataW.trod enc Try.prog w base spare held n 3 ((cs.drop 1).take (Try.prog.cellsOf 3)) = xs[1]? := hf 1 _ rfl
  rw [List.getElem?_eq_getElem (by omega)] at f0 f1
  obtain ⟨a, ha, va⟩ := rd_int Try.underlying3 f0
  obtain ⟨b, hb, vb⟩ := rd_int Try.underlying3 f1
  refine ⟨⟨a, b⟩, ⟨ha, hb⟩, ?_⟩
  have hc : Try.prog.cellsOf 3 = 1 := by kernel_rfl
  simp only [hc, List.drop_zero] at va vb
  rw [List.take_of_length_le (by simp; omega)] at vb
  exact VRL_two va vb
theorem rd_rd (h : DataW.trod enc Try.prog w base spare held fuel 96 cs = some x) : ∃ r : Rd, r.ok ∧ VRL (gh0 w) r.cs cs := by
  obtain ⟨xs, n, _, _, hl, hx, hf⟩ := DataW.trod_struct Try.underlying96 h
  have hl2 : cs.length = 3 := hl.trans (by kernel_rfl)
  have hx2 : xs.length = 2 := hx
  have f0 : DataW.trod enc Try.prog w base spare held n 3 ((cs.drop 0).take (Try.prog.cellsOf 3)) = xs[0]? := hf 0 _ rfl
  have f1 : DataW.trod enc Try.prog w base spare held n 24 ((cs.drop 1).take (Try.prog.cellsOf 24)) = xs[1]? := hf 1 _ rfl
  rw [List.getElem?_eq_getElem (by omega)] at f0 f1
  obtain ⟨a, ha, va⟩ := rd_int Try.underlying3 f0
  obtain ⟨b, hb, vb⟩ := rd_rg f1
  refine ⟨⟨a, b⟩, ⟨ha, hb⟩, ?_⟩
  have hc : Try.prog.cellsOf 3 = 1 := by kernel_rfl
  have hc2 : Try.prog.cellsOf 24 = 2 := by kernel_rfl
  simp only [hc, hc2, List.drop_zero] at va vb
  rw [List.take_of_length_le (by simp; omega)] at vb
  exact VRL_two va vb
theorem cR_flat : ∀ l : List Rg, l.flatMap Rg.cs = cR l
  | [] => rfl
  | r :: l => by rw [List.flatMap_cons, cR_flat l]; rfl
theorem cD_flat : ∀ l : List Rd, l.flatMap Rd.cs = cD l
  | [] => rfl
  | r :: l => by rw [List.flatMap_cons, cD_flat l]; rfl
theorem rd_cu (h : DataW.trod enc Try.prog w base spare held fuel 28 cs = some x) : ∃ c : Cu, c.ok ∧ VRL (gh0 w) c.cs cs := by
  obtain ⟨xs, n, _, _, hl, hx, hf⟩ := DataW.trod_struct Try.underlying28 h
  have hl2 : cs.length = 11 := hl.trans (by kernel_rfl)
  have hx2 : xs.length = 10 := hx
  have f0 : DataW.trod enc Try.prog w base spare held n 3 ((cs.drop 0).take (Try.prog.cellsOf 3)) = xs[0]? := hf 0 _ rfl
  have f1 : DataW.trod enc Try.prog w base spare held n 3 ((cs.drop 1).take (Try.prog.cellsOf 3)) = xs[1]? := hf 1 _ rfl
  have f2 : DataW.trod enc Try.prog w base spare held n 3 ((cs.drop 2).take (Try.prog.cellsOf 3)) = xs[2]? := hf 2 _ rfl
  have f3 : DataW.trod enc Try.prog w base spare held n 3 ((cs.drop 3).take (Try.prog.cellsOf 3)) = xs[3]? := hf 3 _ rfl
  have f4 : DataW.trod enc Try.prog w base spare held n 3 ((cs.drop 4).take (Try.prog.cellsOf 3)) = xs[4]? := hf 4 _ rfl
  have f5 : DataW.trod enc Try.prog w base spare held n 22 ((cs.drop 5).take (Try.prog.cellsOf 22)) = xs[5]? := hf 5 _ rfl
  have f6 : DataW.trod enc Try.prog w base spare held n 22 ((cs.drop 6).take (Try.prog.cellsOf 22)) = xs[6]? := hf 6 _ rfl
  have f7 : DataW.trod enc Try.prog w base spare held n 24 ((cs.drop 7).take (Try.prog.cellsOf 24)) = xs[7]? := hf 7 _ rfl
  have f8 : DataW.trod enc Try.prog w base spare held n 25 ((cs.drop 9).take (Try.prog.cellsOf 25)) = xs[8]? := hf 8 _ rfl
  have f9 : DataW.trod enc Try.prog w base spare held n 26 ((cs.drop 10).take (Try.prog.cellsOf 26)) = xs[9]? := hf 9 _ rfl
  rw [List.getElem?_eq_getElem (by omega)] at f0 f1 f2 f3 f4 f5 f6 f7 f8 f9
  have hc : Try.prog.cellsOf 3 = 1 := by kernel_rfl
  have hc2 : Try.prog.cellsOf 24 = 2 := by kernel_rfl
  have hc3 : Try.prog.cellsOf 22 = 1 := by kernel_rfl
  have hc4 : Try.prog.cellsOf 25 = 1 := by kernel_rfl
  have hc5 : Try.prog.cellsOf 26 = 1 := by kernel_rfl
  have hc6 : Try.prog.cellsOf 96 = 3 := by kernel_rfl
  obtain ⟨a0, h0, v0⟩ := rd_int Try.underlying3 f0
  obtain ⟨a1, h1, v1⟩ := rd_int Try.underlying3 f1
  obtain ⟨a2, h2, v2⟩ := rd_int Try.underlying3 f2
  obtain ⟨a3, h3, v3⟩ := rd_int Try.underlying3 f3
  obtain ⟨a4, h4, v4⟩ := rd_int Try.underlying3 f4
  obtain ⟨a5, h5, _, v5⟩ := rd_ints Try.underlying22 Try.underlying3 hc f5
  obtain ⟨a6, h6, _, v6⟩ := rd_ints Try.underlying22 Try.underlying3 hc f6
  obtain ⟨a7, h7, v7⟩ := rd_rg f7
  obtain ⟨a8, h8, _, v8⟩ := rd_slice Rg.cs Rg.ok 2 Try.underlying25 hc2 (by omega) (fun _ => rfl) f8 fun n cs x h => rd_rg h
  obtain ⟨a9, h9, _, v9⟩ := rd_slice Rd.cs Rd.ok 3 Try.underlying26 hc6 (by omega) (fun _ => rfl) f9 fun n cs x h => rd_rd h
  rw [cR_flat] at v8
  rw [cD_flat] at v9
  refine ⟨⟨a0, a1, a2, a3, a4, a5, a6, a7, a8, a9⟩, ⟨h0, h1, h2, h3, h4, h5, h6, h7, h8, h9⟩, ?_⟩
  match cs, hl2 with
  | [c0, c1, c2, c3, c4, c5, c6, c7, c8, c9, c10], _ =>
    simp only [hc, hc2, hc3, hc4, hc5, List.drop_zero, List.drop_succ_cons, List.take_succ_cons, List.take_zero, List.take_nil] at v0 v1 v2 v3 v4 v5 v6 v7 v8 v9
    exact VRL.append v0 (VRL.append v1 (VRL.append v2 (VRL.append v3 (VRL.append v4 (VRL.append v5 (VRL.append v6 (VRL.append v7 (VRL.append v8 v9))))))))
end
end Go.Vm

set_option linter.unusedVariables false
set_option linter.unusedSimpArgs false
namespace Go.Vm
/-! ### what is hot, left and kept, by hour -/
theorem past_left {c : Cu} (coal want : List Int) (s : Sc) {i : Nat} (hi : (i : Int) ≤ c.last) : gi (sPast c coal want s).left i = (sPlay c s coal want (i + 1)).1 := by
  rw [sPast, (sPlay_hot c s coal want _).2.1, gi_map (by omega)]
/-! ### all readings are right -/
/-! ### the same truths -/
/-! ### the bounds are the same -/
end Go.Vm

set_option linter.unusedVariables false
set_option linter.unusedSimpArgs false
set_option maxRecDepth 100000
namespace Go.Vm
open Go.Proofs
theorem past_lens {c : Cu} {coal want : List Int} {s : Sc} (k : PlayOk c s coal want) : ((sPast c coal want s).hot.length : Int) = c.last + 1 ∧ ((sPast c coal want s).left.length : Int) = c.last + 1 := by
  have hl := k.last
  obtain ⟨_, _, h1, h2, _⟩ := sPlay_inv k (c.last + 1).toNat (by omega)
  simp only [sPast]
  omega
def cuC (c : Cu) (l : List Int) : Cu := { c with coal := l }
set_option maxHeartbeats 8000000 in
theorem l_CopperWarmer (c : Cu) (hc : I64 c.last) (one other : Int) (ho : 0 ≤ one ∧ one ≤ 65535) (hot : 0 ≤ other ∧ other ≤ 65535) (hour more : Int) (hh : 0 ≤ hour ∧ hour ≤ 255) (hm : 0 ≤ more ∧ more ≤ 255) :
    Vm.Fn Try.prog 7 [.agg c.cs, .int .u16 one, .int .u16 other, .int .u8 hour, .int .u8 more] [] fun v h' => v = .bool true := by
  refine Fn.body tabOk Try.func7 rfl (Nat.le_of_ble_eq_true rfl) (Ks.ok (fz := (fzn [11, 12, 14])) (cl := (cln [(3, .d (tgL [(45, 1), (11, 2), (12, 3)]) [cP, cP, cP, cP, cP, cP, cP, cP, cP, cP, cP, cP, cP, some ([1], [1]), some ([2], [2]), some ([3], [3]), some ([2], [2]), some ([3], [3])]), (8, .d tg0 [cP, cL, cP, cP, cL, cP, cP, cL, cP, cL, cP, cP, cL, cP, cP, cW]), (12, .d tg0 [cP, cL, cP, cP, cL, cP, cL, cP, cP, cL, cP, cP, cP, cP, cP, cP, cW]), (13, .ex), (14, .d tg0 [cP, cP, cP, cP, cP, cP, cP, cP, cP, cP, cP, cP]), (21, .d tg0 [cP, cP, cP, cP, cP, cP, cP, cP, cP, cP, cP, cP, cP, cP, cP, cP, cP, cP, cP, cP])])) tabOk mixed ?_)
  generalize hQ : FnPost tt Try.f7 _ _ = Q
  simp only [Try.f7, argsEnv, Nat.reduceAdd]
  simp only [gos, eq_self, Nat.reduceLT, Nat.reduceEqDiff, reduceCtorEq, reduceIte, ↓reduceIte, tt, vgo, vout, vguard, callOf, vop, ev, cv, vload, newRow]
  refine Cl.pu (c_ready c hc) ?_ rfl (by simp only [V.into, intoL, cu_into, Bool.and_true])
  cases ht : sReady c with
  | false =>
    simp only [gos, eq_self, Nat.reduceLT, Nat.reduceEqDiff, reduceIte, ↓reduceIte, vgo, vout, vguard, callOf, vop, ev]
    refine Cl.pu c_awake ?_
    simp only [gos, eq_self, Nat.reduceLT, reduceIte, ↓reduceIte, vgo, vout, vguard, callOf, vop, ev]
    subst hQ
    exact FnPost.plain trivial (v := .bool true) (fun h2 e => by rfl) WkV.refl rfl
  | true =>
  obtain ⟨hth, h0⟩ := ready_ok ht
  have wf := thin_wf hc hth
  have k0 := sCheck_ok h0
  have hl := k0.last
  obtain ⟨k, hk, hkl⟩ := hour_of hl hh.1
  have hz : ¬ c.last + 1 = 0 := by omega
  have hM := rMany_le k0
  have hM0 : ¬ rMany c = 0 := by omega
  have t1 := tmod_le ho.1 hM.1
  have t2 := tmod_le hot.1 hM.1
  have hll := k0.loss.1
  have cm := c_rMany c k0.heat (by omega) k0.loss.2
  simp only [gos, eq_self, Nat.reduceLT, reduceIte, ↓reduceIte, vgo, vout, vguard, callOf, vop, ev]
  refine Wr.draw (by kernel_rfl) ?_
  simp only [gos, eq_self, Nat.reduceLT, Nat.reduceEqDiff, Nat.reduceAdd, reduceCtorEq, reduceIte, ↓reduceIte, tt, vgoD, voutD, vclsOk, vids, mayWrite, V.ids, vguard, callOf, vop, ev, vload, clsAt, i64_in (show -9223372036854775808 ≤ one by omega) (show one ≤ 9223372036854775807 by omega)]
  refine CD.pu cm ?_ rfl (by simp only [V.into, intoL, cu_into, Bool.and_true])
  simp only [gos, eq_self, Nat.reduceLT, Nat.reduceEqDiff, reduceIte, ↓reduceIte, vgoD, voutD, vclsOk, vids, mayWrite, vguard, callOf, vop, ev, vbin, vint, isShift, isNilConst, hM0]
  refine CD.pu (c_rNth c k0 (one.tmod (rMany c)) (by omega)) ?_ rfl (by simp only [V.into, intoL, cu_into, Bool.and_true])
  simp only [gos, eq_self, Nat.reduceLT, Nat.reduceEqDiff, reduceCtorEq, reduceIte, ↓reduceIte, tt, vgoD, voutD, vclsOk, vids, mayWrite, V.ids, vguard, callOf, vop, ev, vload, i64_in (show -9223372036854775808 ≤ other by omega) (show other ≤ 9223372036854775807 by omega)]
  refine CD.pu cm ?_ rfl (by simp only [V.into, intoL, cu_into, Bool.and_true])
  simp only [gos, eq_self, Nat.reduceLT, Nat.reduceEqDiff, reduceIte, ↓reduceIte, vgoD, voutD, vclsOk, vids, mayWrite, vguard, callOf, vop, ev, vbin, vint, isShift, isNilConst, hM0]
  refine CD.new (n_rNth c k0 (other.tmod (rMany c)) (by omega)) rfl rfl rfl ?_
  have la := nth_listed k0 t1.1
  have lb := nth_listed k0 t2.1
  generalize rNth c (one.tmod (rMany c)) = a at la ⊢
  generalize rNth c (other.tmod (rMany c)) = b at lb ⊢
  have hla := la.len
  have hlb := lb.len
  simp only [gos, eq_self, Nat.reduceLT, Nat.reduceEqDiff, Nat.reduceAdd, Nat.reduceLeDiff, reduceCtorEq, reduceIte, ↓reduceIte, tt, vgo, vout, vgoD, voutD, vclsOk, vids, mayWrite, V.ids, vguard, callOf, vop, ev, cv, vload, newRow, Tr2.cs]
  refine W.loop tabOk mixed (fun i : Nat => ([(5, .rop c.cs), (3, .int .u8 hour), (4, .int .u8 more), (11, .ptr 11 0 0), (12, .ptr 12 0 0), (13, vi i)], [(11, ⟨0, .row [vi a.heat, vI a.loss]⟩), (12, ⟨0, .row [vi (max a.heat b.heat), .own 45 c.loss.length 0 1 c.loss.length]⟩), (45, ⟨c.loss.length, .row (cI (sMix a.loss b.loss i))⟩)])) (fun i => a.loss.length - i) (fun i => i ≤ a.loss.length) 0 (by omega) (Wk.forget (by simp [subE, Env.get]) (by simp [subH, Heap.get, sMix]) (fun j hp => by simp [orD, domP, Heap.get] at hp) (by simp only [intoE, V.into, cu_into, Bool.true_and, Bool.and_true, domP, Heap.get]; rfl) (by simp only [intoH, Blk.into, V.into, intoL, cI_into, vI_into, Bool.true_and, Bool.and_true, domP, Heap.get]; rfl)) ?_
  intro i hi
  by_cases hil : (i : Int) < a.loss.length
  · have hil3 : (i : Int) < (sMix a.loss b.loss i).length := by rw [sMix_len]; omega
    have hi2 : (↑i : Int).toNat = i := Int.toNat_natCast i
    have hlc : (i : Int) < c.loss.length := by omega
    have hle : i + 1 ≤ (cI (sMix a.loss b.loss i)).length := by rw [cI_len]; omega
    have e1 : List.drop i (cI a.loss) = vi (gi a.loss i) :: cI (a.loss.drop (i + 1)) := by have := cI_at (Int.natCast_nonneg i) hil; rwa [hi2, Nat.mul_one] at this
    have e2 : List.drop i (cI (sMix a.loss b.loss i)) = vi (gi (sMix a.loss b.loss i) i) :: cI ((sMix a.loss b.loss i).drop (i + 1)) := by have := cI_at (Int.natCast_nonneg i) hil3; rwa [hi2, Nat.mul_one] at this
    have e3 : List.take i (cI (sMix a.loss b.loss i)) ++ [vi (min (gi a.loss i) (gi (sMix a.loss b.loss i) i))] ++ List.drop (i + 1) (cI (sMix a.loss b.loss i)) = cI (sMix a.loss b.loss (i + 1)) := by
      rw [cI_set _ (by omega)]; rfl
    simp only [gos, eq_self, Nat.reduceLT, Nat.reduceEqDiff, Nat.reduceAdd, reduceCtorEq, reduceIte, ↓reduceIte, tt, vgo, vout, vguard, callOf, vop, ev, vbin, vint, isShift, isNilConst, vload, vlen, vI, hil]
    refine Wr.draw (by kernel_rfl) ?_
    simp only [gos, eq_self, Nat.reduceLT, Nat.reduceEqDiff, Nat.reduceAdd, reduceCtorEq, reduceIte, ↓reduceIte, tt, vgo, vout, vgoD, voutD, vclsOk, vids, mayWrite, V.ids, vguard, callOf, vop, ev, cv, vbin, vint, isShift, isNilConst, vload, clsAt, hil, hlc, hi2, Nat.mul_one, Nat.zero_add, e1, e2, hle]
    rw [show List.take i (cI (sMix a.loss b.loss i)) ++ [V.int IntKind.i64 (min (gi a.loss i) (gi (sMix a.loss b.loss i) i))] ++ List.drop (i + 1) (cI (sMix a.loss b.loss i)) = cI (sMix a.loss b.loss (i + 1)) from e3]
    exact Nx.mk (i + 1) (show a.loss.length - (i + 1) < a.loss.length - i by omega) (by omega) (Wk.env (by simp [subE, Env.get, i64_succ (show (i : Int) < 9223372036854775807 by omega)]))
  · have hie : i = a.loss.length := by omega
    have hcn : c.cs.length = 11 := rfl
    have hc5 : (List.drop 5 c.cs).head? = some (vI c.coal) := rfl
    simp only [gos, eq_self, Nat.reduceLT, Nat.reduceEqDiff, Nat.reduceAdd, reduceCtorEq, reduceIte, ↓reduceIte, tt, vgo, vout, vguard, callOf, vop, ev, vbin, vint, isShift, isNilConst, vload, vlen, newRow, vI, hil, cu_one, hcn]
    refine Cl.newN (n_list c.coal (by have := k0.coal.1; omega)) rfl ?_
    simp only [gos, eq_self, Nat.reduceLT, Nat.reduceEqDiff, Nat.reduceAdd, Nat.reduceLeDiff, reduceCtorEq, reduceIte, ↓reduceIte, tt, vgo, vout, vguard, callOf, vop, ev, cv, vbin, vint, isShift, isNilConst, vload, hcn, hz, i64_in (show -9223372036854775808 ≤ hour by omega) (show hour ≤ 9223372036854775807 by omega), i64_in (show -9223372036854775808 ≤ c.last + 1 by omega) (show c.last + 1 ≤ 9223372036854775807 by omega)]
    rw [← hk, show List.take 5 c.cs ++ [V.own 5 0 0 1 c.coal.length] ++ List.drop 6 c.cs = [vi c.last, vi c.start, vi c.most, vi c.per, vi c.shovels, .own 5 0 0 1 c.coal.length, vI c.want, vi c.heat.lo, vi c.heat.hi, vR c.loss, vD c.readings] from rfl]
    have hkc : (k : Int) < c.coal.length := by have := k0.coal.1; omega
    have hk2 : (↑k : Int).toNat = k := Int.toNat_natCast k
    have hc4 : (List.drop 4 c.cs).head? = some (vi c.shovels) := rfl
    have g1 : List.drop k (cI c.coal) = vi (gi c.coal k) :: cI (c.coal.drop (k + 1)) := by have := cI_at (Int.natCast_nonneg k) hkc; rwa [hk2, Nat.mul_one] at this
    have g2 : k + 1 ≤ (cI c.coal).length := by rw [cI_len]; omega
    have hco := k0.coal.2 _ (gi_mem (l := c.coal) (i := k) (by omega))
    have hsh := k0.shovels
    have hm3 := tmod_le hm.1 (s := 3) (by omega)
    have z3 : ¬ (3 : Int) = 0 := by omega
    have g3 : List.take k (cI c.coal) ++ [V.int IntKind.i64 (min c.shovels (gi c.coal k + more.tmod 3))] ++ List.drop (k + 1) (cI c.coal) = cI (c.coal.set k (min c.shovels (gi c.coal k + more.tmod 3))) := cI_set _ (by omega)
    refine Wr.draw (by kernel_rfl) ?_
    simp only [gos, eq_self, Nat.reduceLT, Nat.reduceEqDiff, Nat.reduceAdd, reduceCtorEq, reduceIte, ↓reduceIte, tt, vgoD, voutD, vclsOk, vids, mayWrite, V.ids, vguard, callOf, vop, ev, cv, vbin, vint, isShift, isNilConst, vload, clsAt, vI, hkc, hk2, hc4, hc5, Nat.mul_one, Nat.zero_add, g1, g2, z3, i64_in (show -9223372036854775808 ≤ more by omega) (show more ≤ 9223372036854775807 by omega), i64_in (show -9223372036854775808 ≤ gi c.coal k + more.tmod 3 by omega) (show gi c.coal k + more.tmod 3 ≤ 9223372036854775807 by omega)]
    rw [g3]
    have hlc2 : (c.coal.set k (min c.shovels (gi c.coal k + more.tmod 3))).length = c.coal.length := List.length_set
    have hml : (sMix a.loss b.loss i).length = c.loss.length := by rw [sMix_len]; exact hlb
    generalize hL : c.coal.set k (min c.shovels (gi c.coal k + more.tmod 3)) = L at hlc2 ⊢
    generalize hB : sMix a.loss b.loss i = B at hml ⊢
    have tB : List.take c.loss.length (cI B) = cI B := List.take_of_length_le (by rw [cI_len]; omega)
    have tL : List.take c.coal.length (cI L) = cI L := List.take_of_length_le (by rw [cI_len]; omega)
    refine Wr.exd tabOk mixed (tag := tg0) (cls := [cP, cP, cP, cP, cP, cP, cP, cP, cP, cP, cP, cP]) (ρ' := [(5, .rop c.cs), (11, .rop [vi a.heat, vI a.loss]), (12, .rop [vi (max a.heat b.heat), vI B]), (14, .rop (cuC c L).cs)]) (h' := []) ?_ ?_
    · refine Wk.trans (Wk.env (ρ' := [(5, .rop c.cs), (11, .ptr 11 0 0), (12, .ptr 12 0 0), (14, .ptr 14 0 0)]) (by simp [subE, Env.get])) ?_
      refine Wk.trans (Wk.freeze 45 rfl rfl (cI_into _ _) rfl) ?_
      simp only [frzE, frzH, Blk.frz, V.frz, frzL, cI_frz, cR_frz, cD_frz, vR, vD, cu_frz, gos, eq_self, Nat.reduceEqDiff, reduceIte, ↓reduceIte, tB, Nat.mul_one]
      refine Wk.trans (Wk.freeze 12 rfl rfl (by simp only [V.into, intoL, cI_into, Bool.and_true]) rfl) ?_
      simp only [frzE, frzH, Blk.frz, V.frz, frzL, cI_frz, cR_frz, cD_frz, cu_frz, gos, eq_self, Nat.reduceEqDiff, reduceIte, ↓reduceIte]
      refine Wk.trans (Wk.freeze 11 rfl rfl (by simp only [V.into, intoL, cI_into, Bool.and_true]) rfl) ?_
      simp only [frzE, frzH, Blk.frz, V.frz, frzL, cI_frz, cR_frz, cD_frz, cu_frz, gos, eq_self, Nat.reduceEqDiff, reduceIte, ↓reduceIte]
      refine Wk.trans (Wk.freeze 5 rfl rfl (cI_into _ _) rfl) ?_
      simp only [frzE, frzH, Blk.frz, V.frz, frzL, cI_frz, cR_frz, cD_frz, cu_frz, gos, eq_self, Nat.reduceEqDiff, reduceIte, ↓reduceIte, tL, Nat.mul_one]
      refine Wk.trans (Wk.freeze 14 rfl rfl (by simp only [V.into, intoL, cI_into, cR_into, cD_into, Bool.and_true]) rfl) ?_
      simp only [frzE, frzH, V.frz, frzL, cI_frz, cu_frz, gos, eq_self, reduceIte, ↓reduceIte]
      exact Wk.env (by simp [subE, Env.get, cuC, Cu.cs, vI, vR, vD, hml, hlc2])
    have kx : CuOk (cuC c L) := ⟨k0.last, k0.rds, k0.most, k0.start, k0.per, k0.shovels, ⟨by simp only [cuC]; have := k0.coal.1; omega, fun x hx => by
      simp only [cuC] at hx ⊢
      rw [← hL] at hx
      rcases List.mem_or_eq_of_mem_set hx with h | rfl
      · exact k0.coal.2 x h
      · omega⟩, k0.want, k0.heat, k0.loss, k0.readings, k0.many⟩
    have lB : Listed (cuC c L) ⟨max a.heat b.heat, B⟩ := ⟨by have := la.heat; have := lb.heat; simp only [cuC]; omega, hml, fun j hj => by
      have h1 := la.loss j hj
      have h2 := lb.loss j hj
      simp only [cuC] at hj ⊢
      rw [← hB, sMix_lt _ _ _ _ (by omega) (by omega)]
      omega⟩
    have s1 := (listed_sc k0).2 la
    have s2 := (listed_sc kx).2 lB
    obtain ⟨T1, E1⟩ := t2ok_of k0 s1
    obtain ⟨T2, E2⟩ := t2ok_of kx s2
    have HW : Warm (tS a) (tS ⟨max a.heat b.heat, B⟩) c.coal L (c.last + 1).toNat := ⟨⟨T1.sc.heat.1, by simp only [tS]; omega⟩, fun j hj => by
        simp only [tS, pad5_gi]
        rw [← hB, sMix_lt _ _ _ _ (by omega) (by omega)]
        omega, fun j hj => by
        have hj2 := k0.coal.1
        have h1 := k0.coal.2 _ (gi_mem (l := c.coal) (i := j) (by omega))
        rw [← hL]
        by_cases e : j = k
        · subst e; rw [gi_set_self _ (by omega)]; omega
        · rw [gi_set_ne _ (by omega)]; omega⟩
    have f1 : sPlayA c a = ((sPast c c.coal c.want (tS a)).hot, (sPast c c.coal c.want (tS a)).left, 0) := by simp [sPlayA, h0, s1, E1]
    have f2 : sPlayA (cuC c L) ⟨max a.heat b.heat, B⟩ = ((sPast c L c.want (tS ⟨max a.heat b.heat, B⟩)).hot, (sPast c L c.want (tS ⟨max a.heat b.heat, B⟩)).left, 0) := by
      simp only [sPlayA, chk_of kx, s2, E2, sPast, sPlay_cu c (cuC c L) rfl rfl rfl]; rfl
    have q1 := (past_lens (T1.tr k0).play)
    have q2 := (past_lens (T2.tr kx).play)
    simp only [sPast, sPlay_cu c (cuC c L) rfl rfl rfl] at q2
    have m1 : ∀ j : Nat, (j : Int) ≤ c.last → gi (sPast c c.coal c.want (tS a)).hot j ≤ gi (sPast c L c.want (tS ⟨max a.heat b.heat, B⟩)).hot j ∧ gi (sPast c c.coal c.want (tS a)).left j ≤ gi (sPast c L c.want (tS ⟨max a.heat b.heat, B⟩)).left j := fun j hj => by
      rw [past_hot _ _ _ hj, past_hot _ _ _ hj, past_left _ _ _ hj, past_left _ _ _ hj]
      exact ⟨tdiv_mono (by simp only [sHeat]; omega) (warm_heat HW (by omega) (warm_play k0.per.1 HW j (by omega))) k0.per.1, warm_play k0.per.1 HW (j + 1) (by omega)⟩
    have wl1 : (a.loss.length : Int) ≤ 1000000 := by omega
    have wl2 : (B.length : Int) ≤ 1000000 := by omega
    refine Wr.draw (by kernel_rfl) ?_
    simp only [gos, eq_self, Nat.reduceLT, Nat.reduceAdd, reduceCtorEq, reduceIte, ↓reduceIte, tt, vgoD, voutD, vclsOk, vids, mayWrite, V.ids, vguard, callOf, vop, ev, vload, clsAt]
    refine CD.pu (c_lCopper c wf) ?_ rfl (by simp only [V.into, intoL, cu_into, Bool.and_true])
    simp only [gos, eq_self, Nat.reduceLT, Nat.reduceEqDiff, Nat.reduceAdd, reduceCtorEq, reduceIte, ↓reduceIte, tt, vgoD, voutD, vclsOk, vids, mayWrite, V.ids, vguard, callOf, vop, ev, vload]
    refine CD.pu (c_lTruth a wl1) ?_ rfl (by simp only [V.into, intoL, vI_into, Bool.and_true])
    simp only [gos, eq_self, Nat.reduceLT, Nat.reduceEqDiff, reduceIte, ↓reduceIte, vgoD, voutD, vguard, callOf, ev]
    refine CD.pu (c_Play c a wf wl1) ?_ rfl (by simp only [V.into, intoL, vI_into, cu_into, Bool.and_true, Tr2.cs])
    rw [f1]
    simp only [gos, eq_self, Nat.reduceLT, Nat.reduceEqDiff, reduceIte, ↓reduceIte, vgoD, voutD, vclsOk, vids, mayWrite, vguard, callOf, vop, ev]
    refine Wr.draw (by kernel_rfl) ?_
    simp only [gos, eq_self, Nat.reduceLT, Nat.reduceEqDiff, Nat.reduceAdd, reduceCtorEq, reduceIte, ↓reduceIte, tt, vgoD, voutD, vclsOk, vids, mayWrite, V.ids, vguard, callOf, vop, ev, vload, clsAt]
    refine CD.pu (c_lCopper (cuC c L) kx.wf) ?_ rfl (by simp only [V.into, intoL, cu_into, Bool.and_true])
    simp only [gos, eq_self, Nat.reduceLT, Nat.reduceEqDiff, Nat.reduceAdd, reduceCtorEq, reduceIte, ↓reduceIte, tt, vgoD, voutD, vclsOk, vids, mayWrite, V.ids, vguard, callOf, vop, ev, vload]
    refine CD.pu (c_lTruth ⟨max a.heat b.heat, B⟩ wl2) ?_ rfl (by simp only [V.into, intoL, vI_into, Bool.and_true])
    simp only [gos, eq_self, Nat.reduceLT, Nat.reduceEqDiff, reduceIte, ↓reduceIte, vgoD, voutD, vguard, callOf, ev]
    refine CD.pu (c_Play (cuC c L) ⟨max a.heat b.heat, B⟩ kx.wf wl2) ?_ rfl (by simp only [V.into, intoL, vI_into, cu_into, Bool.and_true, Tr2.cs])
    rw [f2]
    simp only [sPast] at q1 m1 ⊢
    generalize (sPlay c (tS a) c.coal c.want (c.last + 1).toNat).2.hot = A1 at q1 m1 ⊢
    generalize (sPlay c (tS a) c.coal c.want (c.last + 1).toNat).2.left = A2 at q1 m1 ⊢
    simp only [cuC] at q2
    generalize (sPlay c (tS ⟨max a.heat b.heat, B⟩) L c.want (c.last + 1).toNat).2.hot = B1 at q2 m1 ⊢
    generalize (sPlay c (tS ⟨max a.heat b.heat, B⟩) L c.want (c.last + 1).toNat).2.left = B2 at q2 m1 ⊢
    have d1 : ((A1.length : Int) != c.last + 1) = false := by rw [bne_eq_false_iff_eq]; exact q1.1
    have d2 : ((A2.length : Int) != c.last + 1) = false := by rw [bne_eq_false_iff_eq]; exact q1.2
    have d3 : ((B1.length : Int) != c.last + 1) = false := by rw [bne_eq_false_iff_eq]; exact q2.1
    have d4 : ((B2.length : Int) != c.last + 1) = false := by rw [bne_eq_false_iff_eq]; exact q2.2
    have z1 : ((0 : Int) != 0) = false := rfl
    simp only [gos, eq_self, Nat.reduceLT, Nat.reduceEqDiff, reduceCtorEq, reduceIte, ↓reduceIte, tt, vgo, vout, vgoD, voutD, vclsOk, vids, mayWrite, vguard, callOf, vop, ev, cv, vbin, vint, isShift, isNilConst, vload, vlen, vI, d1, d2, d3, d4, i64_in (show -9223372036854775808 ≤ c.last + 1 by omega) (show c.last + 1 ≤ 9223372036854775807 by omega)]
    refine W.loop tabOk mixed (fun i : Nat => ([(16, vI A1), (17, vI A2), (19, vI B1), (20, vI B2), (22, vi (c.last + 1)), (23, vi i)], [])) (fun i => A1.length - i) (fun i => i ≤ A1.length) 0 (by omega) (Wk.env (by simp [subE, Env.get, vI])) ?_
    intro j hj
    by_cases hjl : (j : Int) < A1.length
    · have hj1 : (j : Int) < c.last + 1 := by omega
      have hj2 : (j : Int) < A2.length := by omega
      have hj3 : (j : Int) < B1.length := by omega
      have hj4 : (j : Int) < B2.length := by omega
      obtain ⟨m2, m3⟩ := m1 j (by omega)
      have n2 : decide (gi B1 j < gi A1 j) = false := by simp; exact m2
      have n3 : decide (gi B2 j < gi A2 j) = false := by simp; exact m3
      simp only [gos, eq_self, Nat.reduceLT, Nat.reduceEqDiff, reduceIte, ↓reduceIte, vgo, vout, vguard, callOf, vop, ev, vbin, vint, isShift, isNilConst, vI, hj1]
      refine Wr.draw (by kernel_rfl) ?_
      simp only [gos, eq_self, Nat.reduceLT, Nat.reduceEqDiff, Nat.reduceAdd, reduceCtorEq, reduceIte, ↓reduceIte, tt, vgo, vout, vgoD, voutD, vclsOk, vids, mayWrite, V.ids, vguard, callOf, vop, ev, cv, vbin, vint, isShift, isNilConst, vload, clsAt, hjl, hj2, hj3, hj4, cI_at (Int.natCast_nonneg j) hjl, cI_at (Int.natCast_nonneg j) hj2, cI_at (Int.natCast_nonneg j) hj3, cI_at (Int.natCast_nonneg j) hj4, n2, n3]
      exact Nx.mk (j + 1) (show A1.length - (j + 1) < A1.length - j by omega) (by omega) (Wk.env (by simp [subE, Env.get, i64_succ (show (j : Int) < 9223372036854775807 by omega)]))
    · have hj1 : ¬ (j : Int) < c.last + 1 := by omega
      simp only [gos, eq_self, Nat.reduceLT, Nat.reduceEqDiff, reduceIte, ↓reduceIte, vgo, vout, vguard, callOf, vop, ev, vbin, vint, isShift, isNilConst, vI, hj1]
      refine Cl.pu c_awake ?_
      simp only [gos, eq_self, Nat.reduceLT, reduceIte, ↓reduceIte, vgo, vout, vguard, callOf, vop, ev]
      subst hQ
      exact FnPost.plain trivial (v := .bool true) (fun h2 e => by rfl) WkV.refl rfl
end Go.Vm
