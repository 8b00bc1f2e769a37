import Derived.Test.YtjbgmnpbpmljaaaB3
import Derived.Test.YtjbgmnpbpmljaaaRows
import Derived.WalkKit
import Derived.ProofKit
import Derived.OpenShut
import Derived.ShutString
import Derived.ChangeOld
import Derived.Below
set_option linter.unusedVariables false
set_option linter.unusedSimpArgs false
set_option maxRecDepth 100000
namespace Go.Vm
open Go.Proofs Go.ChangeShapes Go.WideShapes Go.ChangeAt Go.RowKit
/-! ### from a contract to the row -/
theorem hrel0 (w : World) : HRel (gh0 w) [] w :=
  ⟨fun B o v e => e, fun i e he => (by cases he), fun i j e e' B c c' he => (by cases he), fun i e B c o he => (by cases he), fun i v h => absurd rfl h⟩
theorem calls_of_fn {P : Program} {f : FuncId} {vs : List V} {xs : List Value} {w : World} (c : Fn P f vs [] fun v h' => v = .bool true) (hv : VRL (gh0 w) vs xs) :
    Calls P f xs.toArray w fun e w' => e = .returned (.bool true) ∧ Below w.heap.size w w' := fun cs => by
  obtain ⟨v, h', vc, g', w', fr, rfl, st, hf, hl, hvc, H', t, le⟩ := c (gh0 w) w xs hv (hrel0 w) cs
  simp only [VR] at hvc
  subst hvc
  exact ⟨.returned (.bool true), w', fr, ⟨rfl, t.os, t.tape, t.output, t.size, fun k hk => t.mods k hk (by rintro ⟨i, e, c, he, _⟩; cases he)⟩, st, hf, hl⟩
section
variable {H : Type} {enc : TypeId × Value → H} {P : Program} {w : World} {base : Nat} {spare : Nat → Bool} {held : Bool} {fuel : Nat} {t : TypeId} {cs : List Value} {x : DataW H × List MemPlace}
end
section
variable {H : Type} {enc : TypeId × Value → H} {w : World} {base : Nat} {spare : Nat → Bool} {held : Bool} {fuel : Nat} {cs : List Value} {x : DataW H × List MemPlace}
theorem rd_rg (h : DataW.trod enc Try.prog w base spare held fuel 24 cs = some x) : ∃ r : Rg, r.ok ∧ VRL (gh0 w) r.cs cs := by
  obtain ⟨xs, n, _, _, hl, hx, hf⟩ := DataW.trod_struct Try.underlying24 h
  have hl2 : cs.length = 2 := hl.trans (by kernel_rfl)
  have hx2 : xs.length = 2 := hx
  have f0 : DataW.trod enc Try.prog w base spare held n 3 ((cs.drop 0).take (Try.prog.cellsOf 3)) = xs[0]? := hf 0 _ rfl
  have f1 : DataW.trod enc Try.prog w base spare held n 3 ((cs.drop 1).take (Try.prog.cellsOf 3)) = xs[1]? := hf 1 _ rfl
  rw [List.getElem?_eq_getElem (by omega)] at f0 f1
  obtain ⟨a, ha, va⟩ := rd_int Try.underlying3 f0
  obtain ⟨b, hb, vb⟩ := rd_int Try.underlying3 f1
  refine ⟨⟨a, b⟩, ⟨ha, hb⟩, ?_⟩
  have hc : Try.prog.cellsOf 3 = 1 := by kernel_rfl
  simp only [hc, List.drop_zero] at va vb
  rw [List.take_of_length_le (by simp; omega)] at vb
  exact VRL_two va vb
theorem rd_rd (h : DataW.trod enc Try.prog w base spare held fuel 96 cs = some x) : ∃ r : Rd, r.ok ∧ VRL (gh0 w) r.cs cs := by
  obtain ⟨xs, n, _, _, hl, hx, hf⟩ := DataW.trod_struct Try.underlying96 h
  have hl2 : cs.length = 3 := hl.trans (by kernel_rfl)
  have hx2 : xs.length = 2 := hx
  have f0 : DataW.trod enc Try.prog w base spare held n 3 ((cs.drop 0).take (Try.prog.cellsOf 3)) = xs[0]? := hf 0 _ rfl
  have f1 : DataW.trod enc Try.prog w base spare held n 24 ((cs.drop 1).take (Try.prog.cellsOf 24)) = xs[1]? := hf 1 _ rfl
  rw [List.getElem?_eq_getElem (by omega)] at f0 f1
  obtain ⟨a, ha, va⟩ := rd_int Try.underlying3 f0
  obtain ⟨b, hb, vb⟩ := rd_rg f1
  refine ⟨⟨a, b⟩, ⟨ha, hb⟩, ?_⟩
  have hc : Try.prog.cellsOf 3 = 1 := by kernel_rfl
  have hc2 : Try.prog.cellsOf 24 = 2 := by kernel_rfl
  simp only [hc, hc2, List.drop_zero] at va vb
  rw [List.take_of_length_le (by simp; omega)] at vb
  exact VRL_two va vb
theorem cR_flat : ∀ l : List Rg, l.flatMap Rg.cs = cR l
  | [] => rfl
  | r :: l => by rw [List.flatMap_cons, cR_flat l]; rfl
theorem cD_flat : ∀ l : List Rd, l.flatMap Rd.cs = cD l
  | [] => rfl
  | r :: l => by rw [List.flatMap_cons, cD_flat l]; rfl
theorem rd_cu (h : DataW.trod enc Try.prog w base spare held fuel 28 cs = some x) : ∃ c : Cu, c.ok ∧ VRL (gh0 w) c.cs cs := by
  obtain ⟨xs, n, _, _, hl, hx, hf⟩ := DataW.trod_struct Try.underlying28 h
  have hl2 : cs.length = 11 := hl.trans (by kernel_rfl)
  have hx2 : xs.length = 10 := hx
  have f0 : DataW.trod enc Try.prog w base spare held n 3 ((cs.drop 0).take (Try.prog.cellsOf 3)) = xs[0]? := hf 0 _ rfl
  have f1 : DataW.trod enc Try.prog w base spare held n 3 ((cs.drop 1).take (Try.prog.cellsOf 3)) = xs[1]? := hf 1 _ rfl
  have f2 : DataW.trod enc Try.prog w base spare held n 3 ((cs.drop 2).take (Try.prog.cellsOf 3)) = xs[2]? := hf 2 _ rfl
  have f3 : DataW.trod enc Try.prog w base spare held n 3 ((cs.drop 3).take (Try.prog.cellsOf 3)) = xs[3]? := hf 3 _ rfl
  have f4 : DataW.trod enc Try.prog w base spare held n 3 ((cs.drop 4).take (Try.prog.cellsOf 3)) = xs[4]? := hf 4 _ rfl
  have f5 : DataW.trod enc Try.prog w base spare held n 22 ((cs.drop 5).take (Try.prog.cellsOf 22)) = xs[5]? := hf 5 _ rfl
  have f6 : DataW.trod enc Try.prog w base spare held n 22 ((cs.drop 6).take (Try.prog.cellsOf 22)) = xs[6]? := hf 6 _ rfl
  have f7 : DataW.trod enc Try.prog w base spare held n 24 ((cs.drop 7).take (Try.prog.cellsOf 24)) = xs[7]? := hf 7 _ rfl
  have f8 : DataW.trod enc Try.prog w base spare held n 25 ((cs.drop 9).take (Try.prog.cellsOf 25)) = xs[8]? := hf 8 _ rfl
  have f9 : DataW.trod enc Try.prog w base spare held n 26 ((cs.drop 10).take (Try.prog.cellsOf 26)) = xs[9]? := hf 9 _ rfl
  rw [List.getElem?_eq_getElem (by omega)] at f0 f1 f2 f3 f4 f5 f6 f7 f8 f9
  have hc : Try.prog.cellsOf 3 = 1 := by kernel_rfl
  have hc2 : Try.prog.cellsOf 24 = 2 := by kernel_rfl
  have hc3 : Try.prog.cellsOf 22 = 1 := by kernel_rfl
  have hc4 : Try.prog.cellsOf 25 = 1 := by kernel_rfl
  have hc5 : Try.prog.cellsOf 26 = 1 := by kernel_rfl
  have hc6 : Try.prog.cellsOf 96 = 3 := by kernel_rfl
  obtain ⟨a0, h0, v0⟩ := rd_int Try.underlying3 f0
  obtain ⟨a1, h1, v1⟩ := rd_int Try.underlying3 f1
  obtain ⟨a2, h2, v2⟩ := rd_int Try.underlying3 f2
  obtain ⟨a3, h3, v3⟩ := rd_int Try.underlying3 f3
  obtain ⟨a4, h4, v4⟩ := rd_int Try.underlying3 f4
  obtain ⟨a5, h5, _, v5⟩ := rd_ints Try.underlying22 Try.underlying3 hc f5
  obtain ⟨a6, h6, _, v6⟩ := rd_ints Try.underlying22 Try.underlying3 hc f6
  obtain ⟨a7, h7, v7⟩ := rd_rg f7
  obtain ⟨a8, h8, _, v8⟩ := rd_slice Rg.cs Rg.ok 2 Try.underlying25 hc2 (by omega) (fun _ => rfl) f8 fun n cs x h => rd_rg h
  obtain ⟨a9, h9, _, v9⟩ := rd_slice Rd.cs Rd.ok 3 Try.underlying26 hc6 (by omega) (fun _ => rfl) f9 fun n cs x h => rd_rd h
  rw [cR_flat] at v8
  rw [cD_flat] at v9
  refine ⟨⟨a0, a1, a2, a3, a4, a5, a6, a7, a8, a9⟩, ⟨h0, h1, h2, h3, h4, h5, h6, h7, h8, h9⟩, ?_⟩
  match cs, hl2 with
  | [c0, c1, c2, c3, c4, c5, c6, c7, c8, c9, c10], _ =>
    simp only [hc, hc2, hc3, hc4, hc5, List.drop_zero, List.drop_succ_cons, List.take_succ_cons, List.take_zero, List.take_nil] at v0 v1 v2 v3 v4 v5 v6 v7 v8 v9
    exact VRL.append v0 (VRL.append v1 (VRL.append v2 (VRL.append v3 (VRL.append v4 (VRL.append v5 (VRL.append v6 (VRL.append v7 (VRL.append v8 v9))))))))
end
end Go.Vm

set_option linter.unusedVariables false
set_option linter.unusedSimpArgs false
set_option maxRecDepth 100000
namespace Go.Vm
open Go.Proofs
/-! ### coal by a number -/
def powI (s : Int) : Nat → Int
  | 0 => 1
  | n + 1 => powI s n * s
theorem powI_le {s : Int} (hs : 1 ≤ s ∧ s ≤ 4) : ∀ n : Nat, n ≤ 5 → 1 ≤ powI s n ∧ powI s n ≤ 1024
  | 0, _ => by simp [powI]
  | 1, _ => by simp [powI]; omega
  | 2, _ => by
    have : s = 1 ∨ s = 2 ∨ s = 3 ∨ s = 4 := by omega
    rcases this with rfl | rfl | rfl | rfl <;> decide
  | 3, _ => by
    have : s = 1 ∨ s = 2 ∨ s = 3 ∨ s = 4 := by omega
    rcases this with rfl | rfl | rfl | rfl <;> decide
  | 4, _ => by
    have : s = 1 ∨ s = 2 ∨ s = 3 ∨ s = 4 := by omega
    rcases this with rfl | rfl | rfl | rfl <;> decide
  | 5, _ => by
    have : s = 1 ∨ s = 2 ∨ s = 3 ∨ s = 4 := by omega
    rcases this with rfl | rfl | rfl | rfl <;> decide
  | n + 6, h => by omega
def rCoals (c : Cu) : Int := powI (c.shovels + 1) (c.last + 1).toNat
theorem rCoals_le {c : Cu} (k0 : CuOk c) : 1 ≤ rCoals c ∧ rCoals c ≤ 1024 := by
  have := k0.last; have := k0.shovels
  exact powI_le (by omega) _ (by omega)
theorem c_rCoals (c : Cu) (k0 : CuOk c) : Pu Try.prog (.fn 51 [] []) [.agg c.cs] (vi (rCoals c)) := by
  have hl := k0.last
  have hs := k0.shovels
  refine Ev.fn Try.func51 rfl rfl (Fn.body tabOk Try.func51 rfl (Nat.le_of_ble_eq_true rfl) (Ks.ok (fz := (fzn [])) (cl := (cln [])) tabOk mixed ?_))
  generalize hQ : FnPost tt Try.f51 _ _ = Q
  simp only [Try.f51, List.nil_append, List.append_nil, argsEnv]
  have hc4 : (List.drop 4 c.cs).head? = some (vi c.shovels) := rfl
  simp only [gos, eq_self, Nat.reduceLT, reduceIte, ↓reduceIte, vgo, vout, vguard, callOf, vop, ev, cv, newRow]
  refine W.loop tabOk mixed (fun i : Nat => ([(1, .rop c.cs), (3, vi (powI (c.shovels + 1) i)), (4, vi i)], [])) (fun i => (c.last + 1).toNat - i) (fun i => i ≤ (c.last + 1).toNat) 0 (by omega) (Wk.env (by simp [subE, Env.get, powI])) ?_
  intro i hi
  by_cases hil : (i : Int) ≤ c.last
  · have hp := powI_le (s := c.shovels + 1) (by omega) (i + 1) (by omega)
    rw [powI] at hp
    simp only [gos, eq_self, Nat.reduceLT, Nat.reduceEqDiff, reduceCtorEq, reduceIte, ↓reduceIte, tt, vgo, vout, vguard, callOf, vop, ev, cv, vbin, vint, isShift, isNilConst, vload, hil, hc4, i64_in (show -9223372036854775808 ≤ c.shovels + 1 by omega) (show c.shovels + 1 ≤ 9223372036854775807 by omega), i64_in (show -9223372036854775808 ≤ powI (c.shovels + 1) i * (c.shovels + 1) by omega) (show powI (c.shovels + 1) i * (c.shovels + 1) ≤ 9223372036854775807 by omega)]
    exact Nx.mk (i + 1) (show (c.last + 1).toNat - (i + 1) < (c.last + 1).toNat - i by omega) (by omega) (Wk.env (by simp [subE, Env.get, powI, i64_succ (show (i : Int) < 9223372036854775807 by omega)]))
  · have e : (c.last + 1).toNat = i := by omega
    simp only [gos, eq_self, Nat.reduceLT, Nat.reduceEqDiff, reduceCtorEq, reduceIte, ↓reduceIte, tt, vgo, vout, vguard, callOf, vop, ev, vbin, vint, isShift, isNilConst, vload, hil]
    subst hQ
    exact FnPost.plain trivial (fun h2 e => by first | rfl | (simp only [Try.f51, vres, vresL, vres1, e _, gos, if_true, if_false, ne_eq, eq_self, Nat.reduceLT, Nat.reduceEqDiff, Nat.reduceAdd, Nat.reduceMul, Nat.reduceLeDiff, Nat.reduceBEq, reduceCtorEq, reduceIte, Array.toList, ↓reduceIte, tt, vgo, vout, vgoD, voutD, vclsOk, vids, mayWrite, V.ids, V.mids, vguard, callOf, vop, ev, cv, vbin, vint, isShift, isNilConst, vnil, isNilSlice, vload, vlen, newRow, vfill, vslice, entOf, vappend, srcOf, vcopy, vlookup, vupdate, mapOk, keyOf, intsOf, clsAt]; try rfl)) (WkV.pure (by simp only [V.into])) ⟨by rw [rCoals, e], rfl⟩
/-- What is left of a number, and the last digits of it. -/
def dvN (s n : Int) : Nat → Int
  | 0 => n
  | j + 1 => (dvN s n j).tdiv s
def lowD (s n : Int) : Nat → List Int
  | 0 => []
  | j + 1 => (dvN s n j).tmod s :: lowD s n j
theorem lowD_len (s n : Int) : ∀ j, (lowD s n j).length = j
  | 0 => rfl
  | j + 1 => by rw [lowD, List.length_cons, lowD_len s n j]
theorem dvN_ge {s n : Int} (hn : 0 ≤ n) (hs : 1 ≤ s) : ∀ j, 0 ≤ dvN s n j ∧ dvN s n j ≤ n
  | 0 => ⟨hn, Int.le_refl _⟩
  | j + 1 => by
    have := dvN_ge hn hs j
    have h1 := Int.tdiv_nonneg this.1 (show 0 ≤ s by omega)
    have h2 := Int.tdiv_le_self s this.1
    simp only [dvN]; omega
theorem lowD_ok {s n : Int} (hn : 0 ≤ n) (hs : 1 ≤ s) : ∀ j, ∀ x ∈ lowD s n j, 0 ≤ x ∧ x ≤ s - 1
  | 0, x, h => by simp [lowD] at h
  | j + 1, x, h => by
    rw [lowD, List.mem_cons] at h
    rcases h with rfl | h
    · exact tmod_le (dvN_ge hn hs j).1 hs
    · exact lowD_ok hn hs j x h
def rCoal (c : Cu) (n : Int) : List Int := lowD (c.shovels + 1) n (c.last + 1).toNat
theorem rCoal_len (c : Cu) (n : Int) : (rCoal c n).length = (c.last + 1).toNat := lowD_len _ _ _
theorem rCoal_ok {c : Cu} (k0 : CuOk c) {n : Int} (hn : 0 ≤ n) : ((rCoal c n).length : Int) = c.last + 1 ∧ ∀ x ∈ rCoal c n, 0 ≤ x ∧ x ≤ c.shovels :=
  ⟨by rw [rCoal_len]; have := k0.last; omega, fun x hx => by have := lowD_ok hn (s := c.shovels + 1) (by have := k0.shovels; omega) _ x hx; omega⟩
set_option maxHeartbeats 1000000 in
theorem c_rCoal0 (c : Cu) (k0 : CuOk c) (n : Int) (hn : 0 ≤ n ∧ n ≤ 100000) : Ev Try.prog (.fn 50 [] []) [.agg c.cs, vi n] [] fun v h' => v = .own 10 0 0 1 (c.last + 1).toNat ∧ h' = [(10, ⟨0, .row (cI (rCoal c n))⟩)] := by
  have hl := k0.last
  have hs := k0.shovels
  have hge : 0 ≤ c.last + 1 := by omega
  have hle : c.last + 1 ≤ 1000000 := by omega
  refine Ev.fn Try.func50 rfl rfl (Fn.body tabOk Try.func50 rfl (Nat.le_of_ble_eq_true rfl) (Ks.ok (fz := (fzn [])) (cl := (cln [(5, .d tg0 [cP, cP, cP, cP, cP, cP, cP, cP, cP, cP, cP, cP, cP, cW, cP])])) tabOk mixed ?_))
  generalize hQ : FnPost tt Try.f50 _ _ = Q
  simp only [Try.f50, List.nil_append, List.append_nil, argsEnv, Nat.reduceAdd]
  have hc4 : (List.drop 4 c.cs).head? = some (vi c.shovels) := rfl
  have hz : zeros [V.int IntKind.i64 0] (c.last + 1).toNat = cI (List.replicate (c.last + 1).toNat 0) := zeros_vi _
  simp only [gos, eq_self, Nat.reduceLT, Nat.reduceEqDiff, Nat.reduceLeDiff, reduceCtorEq, reduceIte, ↓reduceIte, tt, vgo, vout, vguard, callOf, vop, ev, cv, vbin, vint, isShift, isNilConst, vload, newRow, i64_in (show -9223372036854775808 ≤ c.last + 1 by omega) (show c.last + 1 ≤ 9223372036854775807 by omega), hge, hle, hz]
  refine W.loop tabOk mixed (fun j : Nat => ([(1, vi (dvN (c.shovels + 1) n j)), (2, .rop c.cs), (5, .own 10 0 0 1 (c.last + 1).toNat), (6, vi (c.last - j))], [(10, ⟨0, .row (cI (List.replicate ((c.last + 1).toNat - j) 0 ++ lowD (c.shovels + 1) n j))⟩)])) (fun j => (c.last + 1).toNat - j) (fun j => j ≤ (c.last + 1).toNat) 0 (by omega) (Wk.heap (fun i => by simp [lowD]) (by simp [subE, Env.get, dvN])) ?_
  intro j hj
  by_cases hjl : (j : Int) ≤ c.last
  · have h0 : 0 ≤ c.last - j := by omega
    have h1 : c.last - j < ((c.last + 1).toNat : Int) := by omega
    have hd := dvN_ge hn.1 (s := c.shovels + 1) (by omega) j
    have hz : ¬ c.shovels + 1 = 0 := by omega
    have ht : (c.last - (j : Int)).toNat = (c.last + 1).toNat - (j + 1) := by omega
    have hlen : (c.last + 1).toNat - (j + 1) + 1 ≤ (cI (List.replicate ((c.last + 1).toNat - j) 0 ++ lowD (c.shovels + 1) n j)).length := by
      rw [cI_len, List.length_append, List.length_replicate]; omega
    have hset : List.take ((c.last + 1).toNat - (j + 1)) (cI (List.replicate ((c.last + 1).toNat - j) 0 ++ lowD (c.shovels + 1) n j)) ++ [V.int IntKind.i64 ((dvN (c.shovels + 1) n j).tmod (c.shovels + 1))] ++ List.drop ((c.last + 1).toNat - (j + 1) + 1) (cI (List.replicate ((c.last + 1).toNat - j) 0 ++ lowD (c.shovels + 1) n j)) = cI (List.replicate ((c.last + 1).toNat - (j + 1)) 0 ++ lowD (c.shovels + 1) n (j + 1)) := by
      have e : List.replicate ((c.last + 1).toNat - j) (0 : Int) = List.replicate ((c.last + 1).toNat - (j + 1)) 0 ++ [0] := by
        rw [show (c.last + 1).toNat - j = (c.last + 1).toNat - (j + 1) + 1 by omega, List.replicate_succ']
      rw [cI_set _ (by rw [List.length_append, List.length_replicate]; omega), e, lowD]
      congr 1
      rw [List.append_assoc, List.set_append, if_neg (by simp)]
      simp
    have hdv : 0 ≤ (dvN (c.shovels + 1) n j).tdiv (c.shovels + 1) := Int.tdiv_nonneg hd.1 (by omega)
    have hdl := Int.tdiv_le_self (c.shovels + 1) hd.1
    simp only [gos, eq_self, Nat.reduceLT, Nat.reduceEqDiff, reduceIte, ↓reduceIte, vgo, vout, vguard, callOf, vop, ev, cv, vbin, vint, isShift, isNilConst, h0]
    refine Wr.draw (by kernel_rfl) ?_
    simp only [gos, eq_self, Nat.reduceLT, Nat.reduceEqDiff, Nat.reduceAdd, reduceCtorEq, reduceIte, ↓reduceIte, tt, vgo, vout, vgoD, voutD, vclsOk, vids, mayWrite, V.ids, vguard, callOf, vop, ev, cv, vbin, vint, isShift, isNilConst, vload, clsAt, hc4, hz, h0, h1, ht, hlen, Nat.zero_add, Nat.mul_one, i64_in (show -9223372036854775808 ≤ c.shovels + 1 by omega) (show c.shovels + 1 ≤ 9223372036854775807 by omega), i64_in (show -9223372036854775808 ≤ (dvN (c.shovels + 1) n j).tdiv (c.shovels + 1) by omega) (show (dvN (c.shovels + 1) n j).tdiv (c.shovels + 1) ≤ 9223372036854775807 by omega)]
    rw [hset]
    exact Nx.mk (j + 1) (show (c.last + 1).toNat - (j + 1) < (c.last + 1).toNat - j by omega) (by omega) (Wk.env (by simp [subE, Env.get, dvN, i64_in (show -9223372036854775808 ≤ c.last - j - 1 by omega) (show c.last - j - 1 ≤ 9223372036854775807 by omega)]; omega))
  · have h0 : ¬ 0 ≤ c.last - j := by omega
    have e : (c.last + 1).toNat = j := by omega
    simp only [gos, eq_self, Nat.reduceLT, Nat.reduceEqDiff, reduceIte, ↓reduceIte, vgo, vout, vguard, callOf, vop, ev, cv, vbin, vint, isShift, isNilConst, h0]
    subst hQ
    refine FnPost.plain trivial (v := .own 10 0 0 1 (c.last + 1).toNat) (fun h2 e => by rfl) WkV.refl ⟨rfl, ?_⟩
    rw [rCoal, e]; simp
theorem n_rCoal (c : Cu) (k0 : CuOk c) (n : Int) (hn : 0 ≤ n ∧ n ≤ 100000) : NewB Try.prog (.fn 50 [] []) [.agg c.cs, vi n] (.own 10 0 0 1 (c.last + 1).toNat) 10 ⟨0, .row (cI (rCoal c n))⟩ := NewB.of (c_rCoal0 c k0 n hn) rfl (by simp only [V.into, intoL, cu_into, Bool.and_true])
/-! ### words -/
theorem cW16_at {l : List Int} {i : Nat} (h : (i : Int) < l.length) : List.drop i (cW16 l) = .int .u16 (gi l i) :: cW16 (l.drop (i + 1)) := by
  have hi : i < l.length := by omega
  rw [cW16, ← List.map_drop, List.drop_eq_getElem_cons hi, List.map_cons, gi, Int.toNat_natCast, List.getD_eq_getElem?_getD, List.getElem?_eq_getElem hi]; rfl
def sWord (l : List Int) (a : Nat) : Int := if l = [] then 0 else gi l ((a % l.length : Nat) : Int)
theorem sWord_le {l : List Int} (h : ∀ x ∈ l, 0 ≤ x ∧ x ≤ 65535) (a : Nat) : 0 ≤ sWord l a ∧ sWord l a ≤ 65535 := by
  rw [sWord]; split
  · omega
  · rename_i hn
    exact h _ (gi_mem (Nat.mod_lt _ (List.length_pos_iff.2 hn)))
theorem c_word (l : List Int) (h : ∀ x ∈ l, 0 ≤ x ∧ x ≤ 65535) (a : Nat) : Pu Try.prog (.fn 52 [] []) [vW l, vi a] (vi (sWord l a)) := by
  refine Ev.fn Try.func52 rfl rfl (Fn.body tabOk Try.func52 rfl (Nat.le_of_ble_eq_true rfl) (Ks.ok (fz := (fzn [])) (cl := (cln [])) tabOk mixed ?_))
  generalize hQ : FnPost tt Try.f52 _ _ = Q
  simp only [Try.f52, List.nil_append, List.append_nil, argsEnv, Nat.reduceAdd]
  by_cases hn : l = []
  · have z0 : decide (((l.length : Nat) : Int) = 0) = true := by simp [hn]
    simp only [gos, eq_self, Nat.reduceLT, reduceCtorEq, reduceIte, ↓reduceIte, tt, vgo, vout, vguard, callOf, vop, ev, cv, vbin, vint, isShift, isNilConst, vlen, vW, z0]
    subst hQ
    exact FnPost.plain trivial (fun h2 e => by first | rfl | (simp only [Try.f52, vres, vresL, vres1, e _, gos, if_true, if_false, ne_eq, eq_self, Nat.reduceLT, Nat.reduceEqDiff, Nat.reduceAdd, Nat.reduceMul, Nat.reduceLeDiff, Nat.reduceBEq, reduceCtorEq, reduceIte, Array.toList, ↓reduceIte, tt, vgo, vout, vgoD, voutD, vclsOk, vids, mayWrite, V.ids, V.mids, vguard, callOf, vop, ev, cv, vbin, vint, isShift, isNilConst, vnil, isNilSlice, vload, vlen, newRow, vfill, vslice, entOf, vappend, srcOf, vcopy, vlookup, vupdate, mapOk, keyOf, intsOf, clsAt]; try rfl)) (WkV.pure (by simp only [V.into])) ⟨by simp [sWord, hn], rfl⟩
  have hp := List.length_pos_iff.2 hn
  have z0 : decide (((l.length : Nat) : Int) = 0) = false := by simp [hn]
  have z1 : ¬ ((l.length : Nat) : Int) = 0 := by omega
  have hm : (a : Int).tmod (l.length : Int) = ((a % l.length : Nat) : Int) := by rw [Int.tmod_eq_emod_of_nonneg (by omega)]; rfl
  have hlt : ((a % l.length : Nat) : Int) < l.length := by have := Nat.mod_lt a hp; omega
  have hw := h _ (gi_mem (l := l) (i := a % l.length) (Nat.mod_lt _ hp))
  have e1 := cW16_at hlt
  have e2 : (((a % l.length : Nat) : Int)).toNat = a % l.length := Int.toNat_natCast _
  have e3 : 0 ≤ ((a % l.length : Nat) : Int) := Int.natCast_nonneg _
  simp only [gos, eq_self, Nat.reduceLT, Nat.reduceEqDiff, reduceCtorEq, reduceIte, ↓reduceIte, tt, vgo, vout, vguard, callOf, vop, ev, cv, vbin, vint, isShift, isNilConst, vload, vlen, vW, z1, hm, e2, e3, hlt, Nat.mul_one, e1, i64_in (show -9223372036854775808 ≤ gi l ((a % l.length : Nat) : Int) by omega) (show gi l ((a % l.length : Nat) : Int) ≤ 9223372036854775807 by omega)]
  subst hQ
  exact FnPost.plain trivial (fun h2 e => by first | rfl | (simp only [Try.f52, vres, vresL, vres1, e _, gos, if_true, if_false, ne_eq, eq_self, Nat.reduceLT, Nat.reduceEqDiff, Nat.reduceAdd, Nat.reduceMul, Nat.reduceLeDiff, Nat.reduceBEq, reduceCtorEq, reduceIte, Array.toList, ↓reduceIte, tt, vgo, vout, vgoD, voutD, vclsOk, vids, mayWrite, V.ids, V.mids, vguard, callOf, vop, ev, cv, vbin, vint, isShift, isNilConst, vnil, isNilSlice, vload, vlen, newRow, vfill, vslice, entOf, vappend, srcOf, vcopy, vlookup, vupdate, mapOk, keyOf, intsOf, clsAt]; try rfl)) (WkV.pure (by simp only [V.into])) ⟨by simp only [sWord, if_neg hn], rfl⟩
end Go.Vm

set_option linter.unusedVariables false
set_option linter.unusedSimpArgs false
set_option maxRecDepth 100000
namespace Go.Vm
/-! ### lists that are changed in some places -/
def updL (l : List Int) (p : Nat → Bool) (f : Nat → Int) : Nat → List Int
  | 0 => l
  | i + 1 => if p i then (updL l p f i).set i (f i) else updL l p f i
theorem updL_len (l : List Int) (p : Nat → Bool) (f : Nat → Int) : ∀ i, (updL l p f i).length = l.length
  | 0 => rfl
  | i + 1 => by rw [updL]; split <;> simp [updL_len l p f i]
theorem updL_gi (l : List Int) (p : Nat → Bool) (f : Nat → Int) : ∀ i j : Nat, i ≤ l.length → gi (updL l p f i) j = if j < i ∧ p j = true then f j else gi l j
  | 0, j, _ => by rw [if_neg (by omega)]; rfl
  | i + 1, j, h => by
    have ih := updL_gi l p f i j (by omega)
    rw [updL]
    by_cases hp : p i = true
    · rw [if_pos hp]
      by_cases e : j = i
      · subst e; rw [gi_set_self _ (by rw [updL_len]; omega), if_pos ⟨by omega, hp⟩]
      · rw [gi_set_ne _ (by omega), ih]
        by_cases c : j < i ∧ p j = true
        · rw [if_pos c, if_pos ⟨by omega, c.2⟩]
        · rw [if_neg c, if_neg (fun d => c ⟨by omega, d.2⟩)]
    · rw [if_neg hp, ih]
      by_cases c : j < i ∧ p j = true
      · rw [if_pos c, if_pos ⟨by omega, c.2⟩]
      · rw [if_neg c, if_neg (fun d => c ⟨by
          have := d.1
          rcases Nat.lt_or_ge j i with h1 | h1
          · exact h1
          · have : j = i := by omega
            subst this; exact absurd d.2 hp, d.2⟩)]
theorem updL_mem {l : List Int} {p : Nat → Bool} {f : Nat → Int} {P : Int → Prop} (h1 : ∀ x ∈ l, P x) (h2 : ∀ i, p i = true → P (f i)) : ∀ i, ∀ x ∈ updL l p f i, P x
  | 0 => h1
  | i + 1 => fun x hx => by
    rw [updL] at hx
    split at hx
    · rename_i hp
      rcases List.mem_or_eq_of_mem_set hx with h | rfl
      · exact updL_mem h1 h2 i x h
      · exact h2 i hp
    · exact updL_mem h1 h2 i x hx
/-- What is in an hour follows from the hours before it. -/
theorem play_same {c : Cu} {s : Sc} {coal coal' want want' : List Int} : ∀ n : Nat, (∀ j : Nat, j < n → gi coal j = gi coal' j) → (∀ j : Nat, j < n → gi want j = gi want' j) → (sPlay c s coal want n).1 = (sPlay c s coal' want' n).1
  | 0, _, _ => rfl
  | n + 1, h1, h2 => by
    have ih := play_same (c := c) (s := s) n (fun j hj => h1 j (by omega)) (fun j hj => h2 j (by omega))
    simp only [sPlay, ih, h1 n (by omega), h2 n (by omega)]
theorem heat_same {c : Cu} {s : Sc} {coal coal' want want' : List Int} (n : Nat) (h1 : ∀ j : Nat, j ≤ n → gi coal j = gi coal' j) (h2 : ∀ j : Nat, j < n → gi want j = gi want' j) : sHeat c s coal want n = sHeat c s coal' want' n := by
  simp only [sHeat, play_same (c := c) (s := s) n (fun j hj => h1 j (by omega)) h2, h1 n (by omega)]
theorem hot_take {c : Cu} {s : Sc} {coal coal' want want' : List Int} {k : Nat} (hk : (k : Int) ≤ c.last) (h1 : ∀ j : Nat, j ≤ k → gi coal j = gi coal' j) (h2 : ∀ j : Nat, j < k → gi want j = gi want' j) :
    (sPast c coal want s).hot.take (k + 1) = (sPast c coal' want' s).hot.take (k + 1) := by
  simp only [sPast, (sPlay_hot c s coal want _).1, (sPlay_hot c s coal' want' _).1, ← List.map_take]
  have e : List.take (k + 1) (List.range (c.last + 1).toNat) = List.range (k + 1) := by rw [List.take_range]; congr 1; omega
  rw [e]
  refine List.map_congr_left fun i hi => ?_
  rw [List.mem_range] at hi
  rw [heat_same i (fun j hj => h1 j (by omega)) (fun j hj => h2 j (by omega))]
theorem past_lens {c : Cu} {coal want : List Int} {s : Sc} (k : PlayOk c s coal want) : ((sPast c coal want s).hot.length : Int) = c.last + 1 ∧ ((sPast c coal want s).left.length : Int) = c.last + 1 := by
  have hl := k.last
  obtain ⟨_, _, h1, h2, _⟩ := sPlay_inv k (c.last + 1).toNat (by omega)
  simp only [sPast]
  omega
theorem cW16_into (p : Nat → Bool) : ∀ l : List Int, intoL p (cW16 l) = true
  | [] => rfl
  | x :: l => by simp only [cW16, List.map_cons, intoL, V.into, Bool.true_and]; exact cW16_into p l
theorem vW_into (p : Nat → Bool) (l : List Int) : (vW l).into p = true := by simp only [vW, V.into]; exact cW16_into p l
end Go.Vm

set_option linter.unusedVariables false
set_option linter.unusedSimpArgs false
set_option maxRecDepth 100000
namespace Go.Vm
open Go.Proofs
theorem CD.less {P : Program} {tt : Tab} {fz : Nat → Bool} {cl : Cl0} {b : Frame} {N : Nat} {p : Nat → Bool} {Q : Post} {k : List Itm} {ρ : Env} {D : List Nat} {h : Heap} {tag : Nat → Nat} {all : List Oper} {cc : Cls} {os : List (Oper × Cls)} {d : Option Nat} {fv : V} {as' cs : List V} {v : V}
    (j : impL as' cs) (c : Pu P fv cs v) (r : RD P tt fz cl b N p Q tag all os k (ρ.put d v) D h) (hf : fv.into (fun _ => false) = true := by rfl) (ha : intoL (fun _ => false) as' = true := by rfl) : CD P tt fz cl b N p Q tag all cc d fv as' os k ρ D h :=
  CD.pu (Ev.less (ImpV.refl _) j c) r hf ha
theorem ImpV.aggD {a b d e f g h i j k : V} : ImpV (.agg [a, b, d, e, f, g, h, i, j, k, .sl0]) (.agg [a, b, d, e, f, g, h, i, j, k, vD []]) := fun gh x hx => by
  simp only [VR] at hx ⊢
  obtain ⟨vs, e1, e2⟩ := hx
  exact ⟨vs, e1, impL_ok (by exact ⟨ImpV.refl _, ImpV.refl _, ImpV.refl _, ImpV.refl _, ImpV.refl _, ImpV.refl _, ImpV.refl _, ImpV.refl _, ImpV.refl _, ImpV.refl _, ImpV.sl0, trivial⟩) e2⟩
def bC (c : Cu) (o : List Int) (k : Nat) (i : Nat) : List Int := updL o (fun j => decide (j ≤ k)) (fun j => gi c.coal j) i
def bW (c : Cu) (w : List Int) (k : Nat) (i : Nat) : List Int := updL c.want (fun j => decide (k ≤ j)) (fun j => (sWord w j).tmod 21) i
def cuB (c : Cu) (co wa : List Int) : Cu := { c with coal := co, want := wa, readings := [] }
set_option maxHeartbeats 8000000 in
theorem l_CopperBefore (c : Cu) (hc : I64 c.last) (which : Int) (ho : 0 ≤ which ∧ which ≤ 65535) (hour : Int) (hh : 0 ≤ hour ∧ hour ≤ 255) (coal : Int) (hco : 0 ≤ coal ∧ coal ≤ 65535) (words : List Int) (hw : ∀ x ∈ words, 0 ≤ x ∧ x ≤ 65535) :
    Vm.Fn Try.prog 8 [.agg c.cs, .int .u16 which, .int .u8 hour, .int .u16 coal, vW words] [] fun v h' => v = .bool true := by
  refine Fn.body tabOk Try.func8 rfl (Nat.le_of_ble_eq_true rfl) (Ks.ok (fz := (fzn [12, 13])) (cl := (cln [(4, .d tg0 [cP, cP, cP, cP, cP, cP, cP, cW, cW]), (6, .d (tgL [(10, 1), (5, 2), (13, 3)]) [cP, cP, cP, cP, cP, cP, some ([1], [1]), cP, cP, some ([2], [2]), cP, some ([3], [3]), cP, some ([3], [3]), cP, some ([3], [3])]), (11, .d tg0 [cP, cL, cP, cP, cP, cP, cP, cP, cP, cW]), (13, .d tg0 [cP, cL, cP, cP, cP, cP, cP, cP, cW]), (14, .ex), (15, .d tg0 [cP, cP, cP, cP, cP, cP, cP, cP, cP, cP, cP, cP]), (16, .d tg0 [cP, cP, cP, cP, cP, cP, cP, cP, cP, cP, cP, cP, cP, cP, cP, cP, cP, cP, cP, cP, cP, cP, cP, cP, cP, cP, cP, cP, cP, cP, cP, cP, cP, cP, cP, cP])])) tabOk mixed ?_)
  generalize hQ : FnPost tt Try.f8 _ _ = Q
  simp only [Try.f8, argsEnv, Nat.reduceAdd]
  simp only [gos, eq_self, Nat.reduceLT, Nat.reduceEqDiff, reduceCtorEq, reduceIte, ↓reduceIte, tt, vgo, vout, vguard, callOf, vop, ev, cv, vload, newRow]
  refine Cl.pu (c_ready c hc) ?_ rfl (by simp only [V.into, intoL, cu_into, Bool.and_true])
  cases ht : sReady c with
  | false =>
    simp only [gos, eq_self, Nat.reduceLT, Nat.reduceEqDiff, reduceIte, ↓reduceIte, vgo, vout, vguard, callOf, vop, ev]
    refine Cl.pu c_awake ?_
    simp only [gos, eq_self, Nat.reduceLT, reduceIte, ↓reduceIte, vgo, vout, vguard, callOf, vop, ev]
    subst hQ
    exact FnPost.plain trivial (v := .bool true) (fun h2 e => by rfl) WkV.refl rfl
  | true =>
  obtain ⟨hth, h0⟩ := ready_ok ht
  have wf := thin_wf hc hth
  have k0 := sCheck_ok h0
  have hl := k0.last
  obtain ⟨k, hk, hkl⟩ := hour_of hl hh.1
  have hz : ¬ c.last + 1 = 0 := by omega
  have hM := rMany_le k0
  have hM0 : ¬ rMany c = 0 := by omega
  have hC := rCoals_le k0
  have hC0 : ¬ rCoals c = 0 := by omega
  have t1 := tmod_le ho.1 hM.1
  have t2 := tmod_le hco.1 hC.1
  have hll := k0.loss.1
  have hwl := k0.want.1
  have hcl := k0.coal.1
  have cm := c_rMany c k0.heat (by omega) k0.loss.2
  simp only [gos, eq_self, Nat.reduceLT, Nat.reduceEqDiff, reduceCtorEq, reduceIte, ↓reduceIte, tt, vgo, vout, vguard, callOf, vop, ev, cv, vbin, vint, isShift, isNilConst, vload, hz, i64_in (show -9223372036854775808 ≤ hour by omega) (show hour ≤ 9223372036854775807 by omega), i64_in (show -9223372036854775808 ≤ c.last + 1 by omega) (show c.last + 1 ≤ 9223372036854775807 by omega)]
  rw [← hk]
  refine Wr.draw (by kernel_rfl) ?_
  simp only [gos, eq_self, Nat.reduceLT, Nat.reduceEqDiff, Nat.reduceAdd, reduceCtorEq, reduceIte, ↓reduceIte, tt, vgoD, voutD, vclsOk, vids, mayWrite, V.ids, vguard, callOf, vop, ev, vload, clsAt, i64_in (show -9223372036854775808 ≤ which by omega) (show which ≤ 9223372036854775807 by omega)]
  refine CD.pu cm ?_ rfl (by simp only [V.into, intoL, cu_into, Bool.and_true])
  simp only [gos, eq_self, Nat.reduceLT, Nat.reduceEqDiff, reduceIte, ↓reduceIte, vgoD, voutD, vclsOk, vids, mayWrite, vguard, callOf, vop, ev, vbin, vint, isShift, isNilConst, hM0]
  refine CD.pu (c_rNth c k0 (which.tmod (rMany c)) (by omega)) ?_ rfl (by simp only [V.into, intoL, cu_into, Bool.and_true])
  have la := nth_listed k0 t1.1
  generalize rNth c (which.tmod (rMany c)) = t at la ⊢
  have hla := la.len
  simp only [gos, eq_self, Nat.reduceLT, Nat.reduceEqDiff, Nat.reduceAdd, reduceCtorEq, reduceIte, ↓reduceIte, tt, vgo, vout, vgoD, voutD, vclsOk, vids, mayWrite, V.ids, vguard, callOf, vop, ev, vload, newRow, Tr2.cs, Cu.cs]
  refine Wr.draw (by kernel_rfl) ?_
  simp only [gos, eq_self, Nat.reduceLT, Nat.reduceEqDiff, Nat.reduceAdd, reduceCtorEq, reduceIte, ↓reduceIte, tt, vgoD, voutD, vclsOk, vids, mayWrite, V.ids, vguard, callOf, vop, ev, vload, clsAt, i64_in (show -9223372036854775808 ≤ coal by omega) (show coal ≤ 9223372036854775807 by omega)]
  refine CD.pu (c_rCoals c k0) ?_ rfl (by simp only [V.into, intoL, vI_into, vR_into, vD_into, Bool.and_true])
  simp only [gos, eq_self, Nat.reduceLT, Nat.reduceEqDiff, reduceIte, ↓reduceIte, vgoD, voutD, vclsOk, vids, mayWrite, vguard, callOf, vop, ev, vbin, vint, isShift, isNilConst, hC0]
  refine CD.new (n_rCoal c k0 (coal.tmod (rCoals c)) (by omega)) rfl rfl rfl ?_
  have ro := rCoal_ok k0 t2.1
  generalize rCoal c (coal.tmod (rCoals c)) = o at ro ⊢
  simp only [gos, eq_self, Nat.reduceLT, Nat.reduceEqDiff, reduceCtorEq, reduceIte, ↓reduceIte, tt, vgoD, voutD, vclsOk, vids, mayWrite, V.ids, vguard, callOf, vop, ev, vload]
  refine CD.new (n_list c.want (by omega)) rfl rfl rfl ?_
  simp only [gos, eq_self, Nat.reduceLT, Nat.reduceEqDiff, Nat.reduceAdd, Nat.reduceLeDiff, reduceCtorEq, reduceIte, ↓reduceIte, tt, vgo, vout, vgoD, voutD, vclsOk, vids, mayWrite, V.ids, vguard, callOf, vop, ev, cv]
  refine W.loop tabOk mixed (fun i : Nat => ([(5, .rop c.cs), (4, vW words), (11, vi k), (12, .ptr 12 0 0), (13, .ptr 13 0 0), (14, vi i)], [(12, ⟨0, .row [vi t.heat, vI t.loss]⟩), (13, ⟨0, .row [vi c.last, vi c.start, vi c.most, vi c.per, vi c.shovels, .own 10 0 0 1 (c.last + 1).toNat, .own 5 0 0 1 c.want.length, vi c.heat.lo, vi c.heat.hi, vR c.loss, .sl0]⟩), (10, ⟨0, .row (cI (bC c o k i))⟩), (5, ⟨0, .row (cI (bW c words k i))⟩)])) (fun i => (c.last + 1).toNat - i) (fun i => i ≤ (c.last + 1).toNat) 0 (by omega) (Wk.env (by simp [subE, Env.get, Cu.cs])) ?_
  intro i hi
  have l1 : (bC c o k i).length = o.length := updL_len _ _ _ _
  have l2 : (bW c words k i).length = c.want.length := updL_len _ _ _ _
  by_cases hil : (i : Int) ≤ c.last
  · have hi2 : (↑i : Int).toNat = i := Int.toNat_natCast i
    have hlc : (i : Int) < c.coal.length := by omega
    have hlo : (i : Int) < ((c.last + 1).toNat : Int) := by omega
    have hlw : (i : Int) < c.want.length := by omega
    have hle : i + 1 ≤ (cI (bC c o k i)).length := by rw [cI_len]; omega
    have hle2 : i + 1 ≤ (cI (bW c words k i)).length := by rw [cI_len]; omega
    have e1 : List.drop i (cI c.coal) = vi (gi c.coal i) :: cI (c.coal.drop (i + 1)) := by have := cI_at (Int.natCast_nonneg i) hlc; rwa [hi2, Nat.mul_one] at this
    have hc5 : (List.drop 5 c.cs).head? = some (vI c.coal) := rfl
    have z21 : ¬ (21 : Int) = 0 := by omega
    have hsw := sWord_le hw i
    have e3 : ∀ x : Int, List.take i (cI (bC c o k i)) ++ [V.int IntKind.i64 x] ++ List.drop (i + 1) (cI (bC c o k i)) = cI ((bC c o k i).set i x) := fun x => cI_set x (by omega)
    have e4 : ∀ x : Int, List.take i (cI (bW c words k i)) ++ [V.int IntKind.i64 x] ++ List.drop (i + 1) (cI (bW c words k i)) = cI ((bW c words k i).set i x) := fun x => cI_set x (by omega)
    have hsucc := i64_succ (show (i : Int) < 9223372036854775807 by omega)
    rcases Nat.lt_trichotomy i k with h | h | h
    · have a1 : (i : Int) ≤ (k : Int) := by omega
      have a2 : ¬ (k : Int) ≤ (i : Int) := by omega
      have b1 : bC c o k (i + 1) = (bC c o k i).set i (gi c.coal i) := by rw [bC, updL, if_pos (by simp; omega)]; rfl
      have b2 : bW c words k (i + 1) = bW c words k i := by rw [bW, updL, if_neg (by simp; omega)]; rfl
      simp only [gos, eq_self, Nat.reduceLT, Nat.reduceEqDiff, reduceCtorEq, reduceIte, ↓reduceIte, tt, vgo, vout, vguard, callOf, vop, ev, vbin, vint, isShift, isNilConst, vload, hil, a1]
      refine Wr.draw (by kernel_rfl) ?_
      simp only [gos, eq_self, Nat.reduceLT, Nat.reduceEqDiff, Nat.reduceAdd, reduceCtorEq, reduceIte, ↓reduceIte, tt, vgo, vout, vgoD, voutD, vclsOk, vids, mayWrite, V.ids, vguard, callOf, vop, ev, cv, vbin, vint, isShift, isNilConst, vload, clsAt, vI, hc5, a2, hlc, hlo, hi2, Nat.mul_one, Nat.zero_add, e1, hle, e3]
      exact Nx.mk (i + 1) (show (c.last + 1).toNat - (i + 1) < (c.last + 1).toNat - i by omega) (by omega) (by rw [b1, b2]; exact Wk.env (by simp [subE, Env.get, hsucc]))
    · have a1 : (i : Int) ≤ (k : Int) := by omega
      have a2 : (k : Int) ≤ (i : Int) := by omega
      have b1 : bC c o k (i + 1) = (bC c o k i).set i (gi c.coal i) := by rw [bC, updL, if_pos (by simp; omega)]; rfl
      have b2 : bW c words k (i + 1) = (bW c words k i).set i ((sWord words i).tmod 21) := by rw [bW, updL, if_pos (by simp; omega)]; rfl
      simp only [gos, eq_self, Nat.reduceLT, Nat.reduceEqDiff, reduceCtorEq, reduceIte, ↓reduceIte, tt, vgo, vout, vguard, callOf, vop, ev, vbin, vint, isShift, isNilConst, vload, hil, a1]
      refine Wr.draw (by kernel_rfl) ?_
      simp only [gos, eq_self, Nat.reduceLT, Nat.reduceEqDiff, Nat.reduceAdd, reduceCtorEq, reduceIte, ↓reduceIte, tt, vgo, vout, vgoD, voutD, vclsOk, vids, mayWrite, V.ids, vguard, callOf, vop, ev, vbin, vint, isShift, isNilConst, vload, clsAt, vI, hc5, a2, hlc, hlo, hi2, Nat.mul_one, Nat.zero_add, e1, hle, e3]
      refine Wr.draw (by kernel_rfl) ?_
      simp only [gos, eq_self, Nat.reduceLT, Nat.reduceEqDiff, Nat.reduceAdd, reduceCtorEq, reduceIte, ↓reduceIte, tt, vgoD, voutD, vclsOk, vids, mayWrite, V.ids, vguard, callOf, vop, ev, vload, clsAt]
      refine CD.pu (c_word words hw i) ?_ rfl (by simp only [V.into, intoL, Bool.and_true, vW_into])
      simp only [gos, eq_self, Nat.reduceLT, Nat.reduceEqDiff, reduceCtorEq, reduceIte, ↓reduceIte, tt, vgo, vout, vgoD, voutD, vclsOk, vids, mayWrite, V.ids, vguard, callOf, vop, ev, cv, vbin, vint, isShift, isNilConst, z21, hlw, hi2, Nat.mul_one, Nat.zero_add, hle2, e4]
      exact Nx.mk (i + 1) (show (c.last + 1).toNat - (i + 1) < (c.last + 1).toNat - i by omega) (by omega) (by rw [b1, b2]; exact Wk.env (by simp [subE, Env.get, hsucc]))
    · have a1 : ¬ (i : Int) ≤ (k : Int) := by omega
      have a2 : (k : Int) ≤ (i : Int) := by omega
      have b1 : bC c o k (i + 1) = bC c o k i := by rw [bC, updL, if_neg (by simp; omega)]; rfl
      have b2 : bW c words k (i + 1) = (bW c words k i).set i ((sWord words i).tmod 21) := by rw [bW, updL, if_pos (by simp; omega)]; rfl
      simp only [gos, eq_self, Nat.reduceLT, Nat.reduceEqDiff, reduceCtorEq, reduceIte, ↓reduceIte, tt, vgo, vout, vguard, callOf, vop, ev, vbin, vint, isShift, isNilConst, vload, hil, a1, a2]
      refine Wr.draw (by kernel_rfl) ?_
      simp only [gos, eq_self, Nat.reduceLT, Nat.reduceEqDiff, Nat.reduceAdd, reduceCtorEq, reduceIte, ↓reduceIte, tt, vgoD, voutD, vclsOk, vids, mayWrite, V.ids, vguard, callOf, vop, ev, vload, clsAt]
      refine CD.pu (c_word words hw i) ?_ rfl (by simp only [V.into, intoL, Bool.and_true, vW_into])
      simp only [gos, eq_self, Nat.reduceLT, Nat.reduceEqDiff, reduceCtorEq, reduceIte, ↓reduceIte, tt, vgo, vout, vgoD, voutD, vclsOk, vids, mayWrite, V.ids, vguard, callOf, vop, ev, cv, vbin, vint, isShift, isNilConst, z21, hlw, hi2, Nat.mul_one, Nat.zero_add, hle2, e4]
      exact Nx.mk (i + 1) (show (c.last + 1).toNat - (i + 1) < (c.last + 1).toNat - i by omega) (by omega) (by rw [b1, b2]; exact Wk.env (by simp [subE, Env.get, hsucc]))
  · have hie : i = (c.last + 1).toNat := by omega
    have kx : CuOk (cuB c (bC c o k i) (bW c words k i)) := ⟨k0.last, by simp [cuB], k0.most, k0.start, k0.per, k0.shovels, ⟨by simp only [cuB]; omega, fun x hx => updL_mem ro.2 (fun j hj => k0.coal.2 _ (gi_mem (by simp at hj; omega))) i x hx⟩, ⟨by simp only [cuB]; omega, fun x hx => updL_mem k0.want.2 (fun j hj => by
      have h1 := sWord_le hw j
      have h2 := tmod_le h1.1 (s := 21) (by omega)
      omega) i x hx⟩, k0.heat, k0.loss, fun r hr => by simp [cuB] at hr, k0.many⟩
    have lt : Listed (cuB c (bC c o k i) (bW c words k i)) t := ⟨la.heat, la.len, la.loss⟩
    have s1 := (listed_sc k0).2 la
    have s2 := (listed_sc kx).2 lt
    obtain ⟨T1, E1⟩ := t2ok_of k0 s1
    obtain ⟨T2, E2⟩ := t2ok_of kx s2
    have f1 : sPlayA c t = ((sPast c c.coal c.want (tS t)).hot, (sPast c c.coal c.want (tS t)).left, 0) := by simp [sPlayA, h0, s1, E1]
    have f2 : sPlayA (cuB c (bC c o k i) (bW c words k i)) t = ((sPast c (bC c o k i) (bW c words k i) (tS t)).hot, (sPast c (bC c o k i) (bW c words k i) (tS t)).left, 0) := by
      simp only [sPlayA, chk_of kx, s2, E2, sPast, sPlay_cu c (cuB c _ _) rfl rfl rfl]; rfl
    have q1 := (past_lens (T1.tr k0).play)
    have q2 := (past_lens (T2.tr kx).play)
    simp only [sPast, sPlay_cu c (cuB c _ _) rfl rfl rfl] at q2
    have m1 : (sPast c c.coal c.want (tS t)).hot.take (k + 1) = (sPast c (bC c o k i) (bW c words k i) (tS t)).hot.take (k + 1) := hot_take hkl (fun j hj => by
      rw [bC, updL_gi _ _ _ _ _ (by omega), if_pos ⟨by omega, by simp; omega⟩]) (fun j hj => by
      rw [bW, updL_gi _ _ _ _ _ (by omega), if_neg (by simp; omega)])
    have tC : List.take (c.last + 1).toNat (cI (bC c o k i)) = cI (bC c o k i) := List.take_of_length_le (by rw [cI_len]; omega)
    have tW : List.take c.want.length (cI (bW c words k i)) = cI (bW c words k i) := List.take_of_length_le (by rw [cI_len]; omega)
    generalize hCo : bC c o k i = C at *
    generalize hWa : bW c words k i = WA at *
    have hCl : (c.last + 1).toNat = C.length := by omega
    have wl1 : (t.loss.length : Int) ≤ 1000000 := by omega
    simp only [gos, eq_self, Nat.reduceLT, Nat.reduceEqDiff, reduceCtorEq, reduceIte, ↓reduceIte, tt, vgo, vout, vguard, callOf, vop, ev, vbin, vint, isShift, isNilConst, vload, hil]
    refine Wr.exd tabOk mixed (tag := tg0) (cls := [cP, cP, cP, cP, cP, cP, cP, cP, cP, cP, cP, cP]) (ρ' := [(5, .rop c.cs), (11, vi k), (12, .rop [vi t.heat, vI t.loss]), (13, .rop [vi c.last, vi c.start, vi c.most, vi c.per, vi c.shovels, vI C, vI WA, vi c.heat.lo, vi c.heat.hi, vR c.loss, .sl0])]) (h' := []) ?_ ?_
    · refine Wk.trans (Wk.env (ρ' := [(5, .rop c.cs), (11, vi k), (12, .ptr 12 0 0), (13, .ptr 13 0 0)]) (by simp [subE, Env.get])) ?_
      refine Wk.trans (Wk.freeze 10 rfl rfl (cI_into _ _) rfl) ?_
      simp only [frzE, frzH, Blk.frz, V.frz, frzL, cI_frz, cR_frz, vI, vR, cu_frz, gos, eq_self, Nat.reduceEqDiff, reduceIte, ↓reduceIte, tC, Nat.mul_one]
      refine Wk.trans (Wk.freeze 5 rfl rfl (cI_into _ _) rfl) ?_
      simp only [frzE, frzH, Blk.frz, V.frz, frzL, cI_frz, cR_frz, cu_frz, gos, eq_self, Nat.reduceEqDiff, reduceIte, ↓reduceIte, tW, Nat.mul_one]
      refine Wk.trans (Wk.freeze 12 rfl rfl (by simp only [V.into, intoL, cI_into, Bool.and_true]) rfl) ?_
      simp only [frzE, frzH, Blk.frz, V.frz, frzL, cI_frz, cR_frz, cu_frz, gos, eq_self, Nat.reduceEqDiff, reduceIte, ↓reduceIte]
      refine Wk.trans (Wk.freeze 13 rfl rfl (by simp only [V.into, intoL, cI_into, cR_into, Bool.and_true]) rfl) ?_
      simp only [frzE, frzH, V.frz, frzL, cI_frz, cu_frz, gos, eq_self, reduceIte, ↓reduceIte]
      exact Wk.env (by simp [subE, Env.get, hCl, l2])
    refine Wr.draw (by kernel_rfl) ?_
    simp only [gos, eq_self, Nat.reduceLT, Nat.reduceAdd, reduceCtorEq, reduceIte, ↓reduceIte, tt, vgoD, voutD, vclsOk, vids, mayWrite, V.ids, vguard, callOf, vop, ev, vload, clsAt]
    refine CD.pu (c_lCopper c wf) ?_ rfl (by simp only [V.into, intoL, cu_into, Bool.and_true])
    simp only [gos, eq_self, Nat.reduceLT, Nat.reduceEqDiff, Nat.reduceAdd, reduceCtorEq, reduceIte, ↓reduceIte, tt, vgoD, voutD, vclsOk, vids, mayWrite, V.ids, vguard, callOf, vop, ev, vload]
    refine CD.pu (c_lTruth t wl1) ?_ rfl (by simp only [V.into, intoL, vI_into, Bool.and_true])
    simp only [gos, eq_self, Nat.reduceLT, Nat.reduceEqDiff, reduceIte, ↓reduceIte, vgoD, voutD, vguard, callOf, ev]
    refine CD.pu (c_Play c t wf wl1) ?_ rfl (by simp only [V.into, intoL, vI_into, cu_into, Bool.and_true, Tr2.cs])
    rw [f1]
    simp only [gos, eq_self, Nat.reduceLT, Nat.reduceEqDiff, reduceIte, ↓reduceIte, vgoD, voutD, vclsOk, vids, mayWrite, vguard, callOf, vop, ev]
    refine Wr.draw (by kernel_rfl) ?_
    simp only [gos, eq_self, Nat.reduceLT, Nat.reduceEqDiff, Nat.reduceAdd, reduceCtorEq, reduceIte, ↓reduceIte, tt, vgoD, voutD, vclsOk, vids, mayWrite, V.ids, vguard, callOf, vop, ev, vload, clsAt]
    refine CD.less (cs := [.agg (cuB c C WA).cs]) ⟨ImpV.aggD, trivial⟩ (c_lCopper (cuB c C WA) kx.wf) ?_ rfl (by simp only [V.into, intoL, vI_into, vR_into, Bool.and_true])
    simp only [gos, eq_self, Nat.reduceLT, Nat.reduceEqDiff, Nat.reduceAdd, reduceCtorEq, reduceIte, ↓reduceIte, tt, vgoD, voutD, vclsOk, vids, mayWrite, V.ids, vguard, callOf, vop, ev, vload]
    refine CD.pu (c_lTruth t wl1) ?_ rfl (by simp only [V.into, intoL, vI_into, Bool.and_true])
    simp only [gos, eq_self, Nat.reduceLT, Nat.reduceEqDiff, reduceIte, ↓reduceIte, vgoD, voutD, vguard, callOf, ev]
    refine CD.pu (c_Play (cuB c C WA) t kx.wf wl1) ?_ rfl (by simp only [V.into, intoL, vI_into, cu_into, Bool.and_true, Tr2.cs])
    rw [f2]
    simp only [gos, eq_self, Nat.reduceLT, Nat.reduceEqDiff, reduceIte, ↓reduceIte, vgoD, voutD, vclsOk, vids, mayWrite, vguard, callOf, vop, ev]
    simp only [sPast] at q1 m1 ⊢
    generalize (sPlay c (tS t) c.coal c.want (c.last + 1).toNat).2.hot = A1 at q1 m1 ⊢
    simp only [cuB] at q2
    generalize (sPlay c (tS t) C WA (c.last + 1).toNat).2.hot = B1 at q2 m1 ⊢
    have d1 : decide ((A1.length : Int) = c.last + 1) = true := decide_eq_true q1.1
    have d2 : decide ((B1.length : Int) = (A1.length : Int)) = true := decide_eq_true (by omega)
    have z1 : decide ((0 : Int) = 0) = true := rfl
    have u0 : 0 ≤ (k : Int) + 1 := by omega
    have u1 : (k : Int) + 1 ≤ A1.length := by omega
    have u2 : (k : Int) + 1 ≤ B1.length := by omega
    have u3 : ((k : Int) + 1).toNat = k + 1 := by omega
    refine Wr.draw (by kernel_rfl) ?_
    simp only [gos, eq_self, Nat.reduceLT, Nat.reduceEqDiff, Nat.reduceAdd, reduceCtorEq, reduceIte, ↓reduceIte, tt, vgoD, voutD, vclsOk, vids, mayWrite, V.ids, vguard, callOf, vop, ev, cv, vbin, vint, isShift, isNilConst, vload, vlen, vslice, clsAt, vI, d1, d2, u0, u1, u2, u3, i64_in (show -9223372036854775808 ≤ c.last + 1 by omega) (show c.last + 1 ≤ 9223372036854775807 by omega), i64_in (show -9223372036854775808 ≤ (k : Int) + 1 by omega) (show (k : Int) + 1 ≤ 9223372036854775807 by omega)]
    have hv1 : V.ro (k + 1) (List.take ((k + 1) * 1) (cI A1)) = vI (A1.take (k + 1)) := by rw [Nat.mul_one, vI, List.length_take, Nat.min_eq_left (by omega), cI, cI, List.map_take]
    have hv2 : V.ro (k + 1) (List.take ((k + 1) * 1) (cI B1)) = vI (B1.take (k + 1)) := by rw [Nat.mul_one, vI, List.length_take, Nat.min_eq_left (by omega), cI, cI, List.map_take]
    have hs : decide (A1.take (k + 1) = B1.take (k + 1)) = true := decide_eq_true m1
    rw [hv1, hv2]
    refine CD.pu (c_same (A1.take (k + 1)) (B1.take (k + 1)) (by rw [List.length_take]; omega)) ?_ rfl (by simp only [intoL, vI_into, Bool.and_true])
    rw [hs]
    simp only [gos, eq_self, Nat.reduceLT, Nat.reduceEqDiff, reduceIte, ↓reduceIte, vgoD, voutD, vclsOk, vids, mayWrite, vguard, callOf, vop, ev]
    refine CD.pu c_awake ?_
    simp only [gos, eq_self, Nat.reduceLT, Nat.reduceEqDiff, reduceIte, ↓reduceIte, vgoD, voutD, vclsOk, vids, mayWrite, vguard, callOf, vop, ev]
    subst hQ
    exact FnPost.plain trivial (v := .bool true) (fun h2 e => by rfl) WkV.refl rfl
end Go.Vm
