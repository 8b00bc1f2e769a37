import Derived.Test.YtjppikcigeiomaaGreatB4
import Derived.Test.YtjppikcigeiomaaGreatRows
import Derived.WalkKit
import Derived.ProofKit
import Derived.OpenShut
import Derived.ShutString
import Derived.ChangeOld
import Derived.Below
set_option linter.unusedVariables false
set_option linter.unusedSimpArgs false
set_option maxRecDepth 100000
namespace Go.Vm
open Go.Proofs Go.ChangeShapes Go.WideShapes Go.ChangeAt Go.RowKit
/-! ### from a contract to the row -/
theorem hrel0 (w : World) : HRel (gh0 w) [] w :=
  ⟨fun B o v e => e, fun i e he => (by cases he), fun i j e e' B c c' he => (by cases he), fun i e B c o he => (by cases he), fun i v h => absurd rfl h⟩
theorem calls_of_fn {P : Program} {f : FuncId} {vs : List V} {xs : List Value} {w : World} (c : Fn P f vs [] fun v h' => v = .bool true) (hv : VRL (gh0 w) vs xs) :
    Calls P f xs.toArray w fun e w' => e = .returned (.bool true) ∧ Below w.heap.size w w' := fun cs => by
  obtain ⟨v, h', vc, g', w', fr, rfl, st, hf, hl, hvc, H', t, le⟩ := c (gh0 w) w xs hv (hrel0 w) cs
  simp only [VR] at hvc
  subst hvc
  exact ⟨.returned (.bool true), w', fr, ⟨rfl, t.os, t.tape, t.output, t.size, fun k hk => t.mods k hk (by rintro ⟨i, e, c, he, _⟩; cases he)⟩, st, hf, hl⟩
section
variable {H : Type} {enc : TypeId × Value → H} {P : Program} {w : World} {base : Nat} {spare : Nat → Bool} {held : Bool} {fuel : Nat} {t : TypeId} {cs : List Value} {x : DataW H × List MemPlace}
end
section
variable {H : Type} {enc : TypeId × Value → H} {w : World} {base : Nat} {spare : Nat → Bool} {held : Bool} {fuel : Nat} {cs : List Value} {x : DataW H × List MemPlace}
end
end Go.Vm

set_option linter.unusedVariables false
set_option linter.unusedSimpArgs false
set_option maxRecDepth 100000
namespace Go.Vm
open Go.Proofs Go.ChangeShapes Go.WideShapes Go.ChangeAt Go.RowKit
section
variable {H : Type} {enc : TypeId × Value → H} {w : World} {base : Nat} {spare : Nat → Bool} {held : Bool} {fuel : Nat} {cs : List Value} {x : DataW H × List MemPlace}
theorem rd_u16 (h : DataW.trod enc Tryz.prog w base spare held fuel 77 cs = some x) : ∃ n : Int, (0 ≤ n ∧ n ≤ 65535) ∧ VRL (gh0 w) [.int .u16 n] cs := by
  obtain ⟨n, rfl, _, h2⟩ := DataW.trod_int Tryz.underlying77 h
  exact ⟨n, bounds_u16 h2, VRL.cons (by simp only [VR]) VRL.nil⟩
theorem rd_words (h : DataW.trod enc Tryz.prog w base spare held fuel 86 cs = some x) : ∃ l : List Int, (∀ n ∈ l, 0 ≤ n ∧ n ≤ 65535) ∧ VRL (gh0 w) [vW l] cs := by
  obtain ⟨l, h1, h2, h3⟩ := rd_slice (fun n : Int => [V.int .u16 n]) (fun n => 0 ≤ n ∧ n ≤ 65535) 1 Tryz.underlying86 (by kernel_rfl) (by omega) (fun _ => rfl) h fun n cs x h => rd_u16 h
  have e : l.flatMap (fun n : Int => [V.int .u16 n]) = cW16 l := by
    clear h1 h2 h3
    induction l with
    | nil => rfl
    | cons y l ih => simp only [List.flatMap_cons, cW16, List.map_cons, List.singleton_append] at ih ⊢; rw [ih]
  rw [e] at h3
  exact ⟨l, h1, h3⟩
end
end Go.Vm

set_option linter.unusedVariables false
set_option linter.unusedSimpArgs false
set_option maxRecDepth 100000
namespace Go.Vm
/-! ### plain laws of one truth -/
theorem mul_le_of_tdiv {w a p : Int} (h0 : 0 ≤ a) (hp : 1 ≤ p) (h : w ≤ a.tdiv p) : w * p ≤ a := by
  rw [Int.tdiv_eq_ediv_of_nonneg h0] at h
  exact Int.mul_le_of_le_ediv (by omega) h
theorem warm_heat {c : Cu} {s s' : Sc} {coal coal' want : List Int} {n : Nat} (w : Warm s s' coal coal' n) {i : Nat} (hi : i < n) (h : (sPlay c s coal want i).1 ≤ (sPlay c s' coal' want i).1) : sHeat c s coal want i ≤ sHeat c s' coal' want i := by
  have h1 := w.loss i hi
  have h2 := w.coal i hi
  have h3 : gi coal i * s.heat ≤ gi coal' i * s'.heat := Int.mul_le_mul h2.2 w.heat.2 w.heat.1 (by omega)
  simp only [sHeat]
  omega
theorem warm_play {c : Cu} {s s' : Sc} {coal coal' want : List Int} {n : Nat} (hp : 1 ≤ c.per) (w : Warm s s' coal coal' n) : ∀ i, i ≤ n → (sPlay c s coal want i).1 ≤ (sPlay c s' coal' want i).1
  | 0, _ => Int.le_refl _
  | i + 1, hi => by
    have ih := warm_heat w (show i < n by omega) (warm_play (want := want) hp w i (by omega))
    have h0 : 0 ≤ sHeat c s coal want i := by simp only [sHeat]; omega
    have h1 : 0 ≤ sHeat c s' coal' want i := by simp only [sHeat]; omega
    have hm := tdiv_mono h0 ih hp
    rw [sPlay_heat, sPlay_heat]
    by_cases hk : gi want i ≤ (sHeat c s coal want i).tdiv c.per
    · rw [if_pos hk, if_pos (by omega)]; omega
    · rw [if_neg hk]
      split
      · rename_i hk2
        have := mul_le_of_tdiv h1 hp hk2
        omega
      · omega
end Go.Vm

set_option linter.unusedVariables false
set_option linter.unusedSimpArgs false
set_option maxRecDepth 100000
namespace Go.Vm
open Go.Proofs
/-! ### coal by a number -/
def powI (s : Int) : Nat → Int
  | 0 => 1
  | n + 1 => powI s n * s
theorem powI_le {s : Int} (hs : 1 ≤ s ∧ s ≤ 4) : ∀ n : Nat, n ≤ 5 → 1 ≤ powI s n ∧ powI s n ≤ 1024
  | 0, _ => by simp [powI]
  | 1, _ => by simp [powI]; omega
  | 2, _ => by
    have : s = 1 ∨ s = 2 ∨ s = 3 ∨ s = 4 := by omega
    rcases this with rfl | rfl | rfl | rfl <;> decide
  | 3, _ => by
    have : s = 1 ∨ s = 2 ∨ s = 3 ∨ s = 4 := by omega
    rcases this with rfl | rfl | rfl | rfl <;> decide
  | 4, _ => by
    have : s = 1 ∨ s = 2 ∨ s = 3 ∨ s = 4 := by omega
    rcases this with rfl | rfl | rfl | rfl <;> decide
  | 5, _ => by
    have : s = 1 ∨ s = 2 ∨ s = 3 ∨ s = 4 := by omega
    rcases this with rfl | rfl | rfl | rfl <;> decide
  | n + 6, h => by omega
def rCoals (c : Cu) : Int := powI (c.shovels + 1) (c.last + 1).toNat
theorem rCoals_le {c : Cu} (k0 : CuOk c) : 1 ≤ rCoals c ∧ rCoals c ≤ 1024 := by
  have := k0.last; have := k0.shovels
  exact powI_le (by omega) _ (by omega)
theorem c_rCoals (c : Cu) (k0 : CuOk c) : Pu Tryz.prog (.fn 67 [] []) [.agg c.cs] (vi (rCoals c)) := by
  have hl := k0.last
  have hs := k0.shovels
  refine Ev.fn Tryz.func67 rfl rfl (Fn.body tabOk Tryz.func67 rfl (Nat.le_of_ble_eq_true rfl) (Ks.ok (fz := (fzn [])) (cl := (cln [])) tabOk mixed ?_))
  generalize hQ : FnPost tt Tryz.f67 _ _ = Q
  simp only [Tryz.f67, List.nil_append, List.append_nil, argsEnv]
  have hc4 : (List.drop 4 c.cs).head? = some (vi c.shovels) := rfl
  simp only [gos, eq_self, Nat.reduceLT, reduceIte, ↓reduceIte, vgo, vout, vguard, callOf, vop, ev, cv, newRow]
  refine W.loop tabOk mixed (fun i : Nat => ([(1, .rop c.cs), (3, vi (powI (c.shovels + 1) i)), (4, vi i)], [])) (fun i => (c.last + 1).toNat - i) (fun i => i ≤ (c.last + 1).toNat) 0 (by omega) (Wk.env (by simp [subE, Env.get, powI])) ?_
  intro i hi
  by_cases hil : (i : Int) ≤ c.last
  · have hp := powI_le (s := c.shovels + 1) (by omega) (i + 1) (by omega)
    rw [powI] at hp
    simp only [gos, eq_self, Nat.reduceLT, Nat.reduceEqDiff, reduceCtorEq, reduceIte, ↓reduceIte, tt, vgo, vout, vguard, callOf, vop, ev, cv, vbin, vint, isShift, isNilConst, vload, hil, hc4, i64_in (show -9223372036854775808 ≤ c.shovels + 1 by omega) (show c.shovels + 1 ≤ 9223372036854775807 by omega), i64_in (show -9223372036854775808 ≤ powI (c.shovels + 1) i * (c.shovels + 1) by omega) (show powI (c.shovels + 1) i * (c.shovels + 1) ≤ 9223372036854775807 by omega)]
    exact Nx.mk (i + 1) (show (c.last + 1).toNat - (i + 1) < (c.last + 1).toNat - i by omega) (by omega) (Wk.env (by simp [subE, Env.get, powI, i64_succ (show (i : Int) < 9223372036854775807 by omega)]))
  · have e : (c.last + 1).toNat = i := by omega
    simp only [gos, eq_self, Nat.reduceLT, Nat.reduceEqDiff, reduceCtorEq, reduceIte, ↓reduceIte, tt, vgo, vout, vguard, callOf, vop, ev, vbin, vint, isShift, isNilConst, vload, hil]
    subst hQ
    exact FnPost.plain trivial (fun h2 e => by first | rfl | (simp only [Tryz.f67, vres, vresL, vres1, e _, gos, if_true, if_false, ne_eq, eq_self, Nat.reduceLT, Nat.reduceEqDiff, Nat.reduceAdd, Nat.reduceMul, Nat.reduceLeDiff, Nat.reduceBEq, reduceCtorEq, reduceIte, Array.toList, ↓reduceIte, tt, vgo, vout, vgoD, voutD, vclsOk, vids, mayWrite, V.ids, V.mids, vguard, callOf, vop, ev, cv, vbin, vint, isShift, isNilConst, vnil, isNilSlice, vload, vlen, newRow, vfill, vslice, entOf, vappend, srcOf, vcopy, vlookup, vupdate, mapOk, keyOf, intsOf, clsAt]; try rfl)) (WkV.pure (by simp only [V.into])) ⟨by rw [rCoals, e], rfl⟩
theorem lowD_len (s n : Int) : ∀ j, (lowD s n j).length = j
  | 0 => rfl
  | j + 1 => by rw [lowD, List.length_cons, lowD_len s n j]
theorem dvN_ge {s n : Int} (hn : 0 ≤ n) (hs : 1 ≤ s) : ∀ j, 0 ≤ dvN s n j ∧ dvN s n j ≤ n
  | 0 => ⟨hn, Int.le_refl _⟩
  | j + 1 => by
    have := dvN_ge hn hs j
    have h1 := Int.tdiv_nonneg this.1 (show 0 ≤ s by omega)
    have h2 := Int.tdiv_le_self s this.1
    simp only [dvN]; omega
theorem lowD_ok {s n : Int} (hn : 0 ≤ n) (hs : 1 ≤ s) : ∀ j, ∀ x ∈ lowD s n j, 0 ≤ x ∧ x ≤ s - 1
  | 0, x, h => by simp [lowD] at h
  | j + 1, x, h => by
    rw [lowD, List.mem_cons] at h
    rcases h with rfl | h
    · exact tmod_le (dvN_ge hn hs j).1 hs
    · exact lowD_ok hn hs j x h
def rCoal (c : Cu) (n : Int) : List Int := lowD (c.shovels + 1) n (c.last + 1).toNat
theorem rCoal_len (c : Cu) (n : Int) : (rCoal c n).length = (c.last + 1).toNat := lowD_len _ _ _
theorem rCoal_ok {c : Cu} (k0 : CuOk c) {n : Int} (hn : 0 ≤ n) : ((rCoal c n).length : Int) = c.last + 1 ∧ ∀ x ∈ rCoal c n, 0 ≤ x ∧ x ≤ c.shovels :=
  ⟨by rw [rCoal_len]; have := k0.last; omega, fun x hx => by have := lowD_ok hn (s := c.shovels + 1) (by have := k0.shovels; omega) _ x hx; omega⟩
set_option maxHeartbeats 1000000 in
theorem c_rCoal0 (c : Cu) (k0 : CuOk c) (n : Int) (hn : 0 ≤ n ∧ n ≤ 100000) : Ev Tryz.prog (.fn 66 [] []) [.agg c.cs, vi n] [] fun v h' => v = .own 10 0 0 1 (c.last + 1).toNat ∧ h' = [(10, ⟨0, .row (cI (rCoal c n))⟩)] := by
  have hl := k0.last
  have hs := k0.shovels
  have hge : 0 ≤ c.last + 1 := by omega
  have hle : c.last + 1 ≤ 1000000 := by omega
  refine Ev.fn Tryz.func66 rfl rfl (Fn.body tabOk Tryz.func66 rfl (Nat.le_of_ble_eq_true rfl) (Ks.ok (fz := (fzn [])) (cl := (cln [(5, .d tg0 [cP, cP, cP, cP, cP, cP, cP, cP, cP, cP, cP, cP, cP, cW, cP])])) tabOk mixed ?_))
  generalize hQ : FnPost tt Tryz.f66 _ _ = Q
  simp only [Tryz.f66, List.nil_append, List.append_nil, argsEnv, Nat.reduceAdd]
  have hc4 : (List.drop 4 c.cs).head? = some (vi c.shovels) := rfl
  have hz : zeros [V.int IntKind.i64 0] (c.last + 1).toNat = cI (List.replicate (c.last + 1).toNat 0) := zeros_vi _
  simp only [gos, eq_self, Nat.reduceLT, Nat.reduceEqDiff, Nat.reduceLeDiff, reduceCtorEq, reduceIte, ↓reduceIte, tt, vgo, vout, vguard, callOf, vop, ev, cv, vbin, vint, isShift, isNilConst, vload, newRow, i64_in (show -9223372036854775808 ≤ c.last + 1 by omega) (show c.last + 1 ≤ 9223372036854775807 by omega), hge, hle, hz]
  refine W.loop tabOk mixed (fun j : Nat => ([(1, vi (dvN (c.shovels + 1) n j)), (2, .rop c.cs), (5, .own 10 0 0 1 (c.last + 1).toNat), (6, vi (c.last - j))], [(10, ⟨0, .row (cI (List.replicate ((c.last + 1).toNat - j) 0 ++ lowD (c.shovels + 1) n j))⟩)])) (fun j => (c.last + 1).toNat - j) (fun j => j ≤ (c.last + 1).toNat) 0 (by omega) (Wk.heap (fun i => by simp [lowD]) (by simp [subE, Env.get, dvN])) ?_
  intro j hj
  by_cases hjl : (j : Int) ≤ c.last
  · have h0 : 0 ≤ c.last - j := by omega
    have h1 : c.last - j < ((c.last + 1).toNat : Int) := by omega
    have hd := dvN_ge hn.1 (s := c.shovels + 1) (by omega) j
    have hz : ¬ c.shovels + 1 = 0 := by omega
    have ht : (c.last - (j : Int)).toNat = (c.last + 1).toNat - (j + 1) := by omega
    have hlen : (c.last + 1).toNat - (j + 1) + 1 ≤ (cI (List.replicate ((c.last + 1).toNat - j) 0 ++ lowD (c.shovels + 1) n j)).length := by
      rw [cI_len, List.length_append, List.length_replicate]; omega
    have hset : List.take ((c.last + 1).toNat - (j + 1)) (cI (List.replicate ((c.last + 1).toNat - j) 0 ++ lowD (c.shovels + 1) n j)) ++ [V.int IntKind.i64 ((dvN (c.shovels + 1) n j).tmod (c.shovels + 1))] ++ List.drop ((c.last + 1).toNat - (j + 1) + 1) (cI (List.replicate ((c.last + 1).toNat - j) 0 ++ lowD (c.shovels + 1) n j)) = cI (List.replicate ((c.last + 1).toNat - (j + 1)) 0 ++ lowD (c.shovels + 1) n (j + 1)) := by
      have e : List.replicate ((c.last + 1).toNat - j) (0 : Int) = List.replicate ((c.last + 1).toNat - (j + 1)) 0 ++ [0] := by
        rw [show (c.last + 1).toNat - j = (c.last + 1).toNat - (j + 1) + 1 by omega, List.replicate_succ']
      rw [cI_set _ (by rw [List.length_append, List.length_replicate]; omega), e, lowD]
      congr 1
      rw [List.append_assoc, List.set_append, if_neg (by simp)]
      simp
    have hdv : 0 ≤ (dvN (c.shovels + 1) n j).tdiv (c.shovels + 1) := Int.tdiv_nonneg hd.1 (by omega)
    have hdl := Int.tdiv_le_self (c.shovels + 1) hd.1
    simp only [gos, eq_self, Nat.reduceLT, Nat.reduceEqDiff, reduceIte, ↓reduceIte, vgo, vout, vguard, callOf, vop, ev, cv, vbin, vint, isShift, isNilConst, h0]
    refine Wr.draw (by kernel_rfl) ?_
    simp only [gos, eq_self, Nat.reduceLT, Nat.reduceEqDiff, Nat.reduceAdd, reduceCtorEq, reduceIte, ↓reduceIte, tt, vgo, vout, vgoD, voutD, vclsOk, vids, mayWrite, V.ids, vguard, callOf, vop, ev, cv, vbin, vint, isShift, isNilConst, vload, clsAt, hc4, hz, h0, h1, ht, hlen, Nat.zero_add, Nat.mul_one, i64_in (show -9223372036854775808 ≤ c.shovels + 1 by omega) (show c.shovels + 1 ≤ 9223372036854775807 by omega), i64_in (show -9223372036854775808 ≤ (dvN (c.shovels + 1) n j).tdiv (c.shovels + 1) by omega) (show (dvN (c.shovels + 1) n j).tdiv (c.shovels + 1) ≤ 9223372036854775807 by omega)]
    rw [hset]
    exact Nx.mk (j + 1) (show (c.last + 1).toNat - (j + 1) < (c.last + 1).toNat - j by omega) (by omega) (Wk.env (by simp [subE, Env.get, dvN, i64_in (show -9223372036854775808 ≤ c.last - j - 1 by omega) (show c.last - j - 1 ≤ 9223372036854775807 by omega)]; omega))
  · have h0 : ¬ 0 ≤ c.last - j := by omega
    have e : (c.last + 1).toNat = j := by omega
    simp only [gos, eq_self, Nat.reduceLT, Nat.reduceEqDiff, reduceIte, ↓reduceIte, vgo, vout, vguard, callOf, vop, ev, cv, vbin, vint, isShift, isNilConst, h0]
    subst hQ
    refine FnPost.plain trivial (v := .own 10 0 0 1 (c.last + 1).toNat) (fun h2 e => by rfl) WkV.refl ⟨rfl, ?_⟩
    rw [rCoal, e]; simp
theorem c_rCoal (c : Cu) (k0 : CuOk c) (n : Int) (hn : 0 ≤ n ∧ n ≤ 100000) : Pu Tryz.prog (.fn 66 [] []) [.agg c.cs, vi n] (vI (rCoal c n)) :=
  (c_rCoal0 c k0 n hn).weakV fun v h' ⟨e1, e2⟩ => by
    subst e1; subst e2
    have hl := rCoal_len c n
    have ht : (cI (rCoal c n)).take (c.last + 1).toNat = cI (rCoal c n) := List.take_of_length_le (by rw [cI_len]; omega)
    refine ⟨vI (rCoal c n), [], WkV.frz 10 (v' := vI (rCoal c n)) (h' := []) (ver := 0) (cs := cI (rCoal c n)) rfl rfl (cI_into _ _) rfl ?_ ?_ WkV.refl, rfl, rfl⟩
    · simp [V.frz, vI, ht, hl]
    · simp [frzH]
/-! ### words -/
end Go.Vm

set_option linter.unusedVariables false
set_option linter.unusedSimpArgs false
set_option maxRecDepth 100000
namespace Go.Vm
/-! ### lists that are changed in some places -/
theorem vW_into (p : Nat → Bool) (l : List Int) : (vW l).into p = true := by simp only [vW, V.into]; exact cW16_into p l
end Go.Vm

set_option linter.unusedVariables false
set_option linter.unusedSimpArgs false
set_option maxRecDepth 100000
namespace Go.Vm
open Go.Proofs
/-! ### the least coal of the reference -/
theorem sum_take {l : List Int} {i : Nat} (h : (i : Int) < l.length) : (l.take (i + 1)).sum = (l.take i).sum + gi l i := by
  have e : l.take (i + 1) = l.take i ++ [gi l i] := by
    rw [List.take_add_one, List.getElem?_eq_getElem (by omega), gi, Int.toNat_natCast, List.getD_eq_getElem?_getD, List.getElem?_eq_getElem (by omega)]; rfl
  rw [e, List.sum_append]; simp
theorem sum_le {l : List Int} (h : ∀ x ∈ l, 0 ≤ x ∧ x ≤ 3) : 0 ≤ l.sum ∧ l.sum ≤ 3 * l.length := by
  induction l with
  | nil => simp
  | cons x l ih =>
    have h1 := ih fun y hy => h y (by simp [hy])
    have h2 := h x (by simp)
    simp only [List.sum_cons, List.length_cons]; omega
theorem c_rShovels (l : List Int) (hl : (l.length : Int) ≤ 1000000) (h : ∀ x ∈ l, 0 ≤ x ∧ x ≤ 3) : Pu Tryz.prog (.fn 68 [] []) [vI l] (vi l.sum) := by
  refine Ev.fn Tryz.func68 rfl rfl (Fn.body tabOk Tryz.func68 rfl (Nat.le_of_ble_eq_true rfl) (Ks.ok (fz := (fzn [])) (cl := (cln [])) tabOk mixed ?_))
  generalize hQ : FnPost tt Tryz.f68 _ _ = Q
  simp only [Tryz.f68, List.nil_append, List.append_nil, argsEnv]
  simp only [gos, eq_self, Nat.reduceLT, reduceIte, ↓reduceIte, vgo, vout, vguard, callOf, vop, ev, cv]
  refine W.loop tabOk mixed (fun i : Nat => ([(0, vI l), (3, vi (l.take i).sum), (4, vi i)], [])) (fun i => l.length - i) (fun i => i ≤ l.length) 0 (by omega) (Wk.env (by simp [subE, Env.get])) ?_
  intro i hi
  by_cases hil : (i : Int) < l.length
  · have hs := sum_take hil
    have hb := sum_le (l := l.take (i + 1)) fun x hx => h x (List.mem_of_mem_take hx)
    have hb2 : (l.take (i + 1)).length ≤ l.length := by rw [List.length_take]; omega
    rw [hs] at hb
    simp only [gos, eq_self, Nat.reduceLT, Nat.reduceEqDiff, reduceCtorEq, reduceIte, ↓reduceIte, tt, vgo, vout, vguard, callOf, vop, ev, cv, vbin, vint, isShift, isNilConst, vload, vlen, vI, hil, cI_at (Int.natCast_nonneg i) hil, i64_in (show -9223372036854775808 ≤ (l.take i).sum + gi l i by omega) (show (l.take i).sum + gi l i ≤ 9223372036854775807 by omega)]
    exact Nx.mk (i + 1) (show l.length - (i + 1) < l.length - i by omega) (by omega) (Wk.env (by simp [subE, Env.get, hs, i64_succ (show (i : Int) < 9223372036854775807 by omega)]))
  · have e : l.take i = l := List.take_of_length_le (by omega)
    simp only [gos, eq_self, Nat.reduceLT, Nat.reduceEqDiff, reduceCtorEq, reduceIte, ↓reduceIte, tt, vgo, vout, vguard, callOf, vop, ev, vbin, vint, isShift, isNilConst, vlen, vI, hil, e]
    subst hQ
    exact FnPost.plain trivial (fun h2 e => by first | rfl | (simp only [Tryz.f68, vres, vresL, vres1, e _, gos, if_true, if_false, ne_eq, eq_self, Nat.reduceLT, Nat.reduceEqDiff, Nat.reduceAdd, Nat.reduceMul, Nat.reduceLeDiff, Nat.reduceBEq, reduceCtorEq, reduceIte, Array.toList, ↓reduceIte, tt, vgo, vout, vgoD, voutD, vclsOk, vids, mayWrite, V.ids, V.mids, vguard, callOf, vop, ev, cv, vbin, vint, isShift, isNilConst, vnil, isNilSlice, vload, vlen, newRow, vfill, vslice, entOf, vappend, srcOf, vcopy, vlookup, vupdate, mapOk, keyOf, intsOf, clsAt]; try rfl)) (WkV.pure (by simp only [V.into])) ⟨rfl, rfl⟩
end Go.Vm

set_option linter.unusedVariables false
set_option linter.unusedSimpArgs false
set_option maxRecDepth 100000
namespace Go.Vm
/-! ### the least coal: the program's search and the reference's are the same -/
theorem rangeI_split {lo a hi : Int} (h1 : lo ≤ a + 1) (h2 : a ≤ hi) : rangeI lo hi = rangeI lo a ++ rangeI (a + 1) hi := by
  have e : (hi + 1 - lo).toNat = (a + 1 - lo).toNat + (hi + 1 - (a + 1)).toNat := by omega
  simp only [rangeI, e, List.range_add, List.map_append, List.map_map]
  congr 1
  apply List.map_congr_left
  intro i _
  simp only [Function.comp]; omega
theorem find_cut {α : Type} {f : Int → Option α} {s m : Int} (h : ∀ n, m < n → f n = none) : (rangeI 0 (min s m)).findSome? f = (rangeI 0 s).findSome? f := by
  by_cases hs : s ≤ m
  · rw [Int.min_eq_left hs]
  · rw [Int.min_eq_right (by omega)]
    by_cases hm : m < 0
    · have e : rangeI 0 m = [] := by rw [rangeI, show (m + 1 - 0).toNat = 0 by omega]; rfl
      rw [e, List.findSome?_nil, eq_comm, List.findSome?_eq_none_iff]
      intro x hx
      have := mem_rangeI.1 hx
      exact h x (by omega)
    · rw [rangeI_split (a := m) (by omega) (show m ≤ s by omega), List.findSome?_append]
      have e : (rangeI (m + 1) s).findSome? f = none := by
        rw [List.findSome?_eq_none_iff]
        intro x hx
        have := mem_rangeI.1 hx
        exact h x (by omega)
      rw [e, Option.or_none]
theorem sum_range {s : Int} (hs : 0 ≤ s) : ∀ {l : List Int}, (∀ x ∈ l, 0 ≤ x ∧ x ≤ s) → 0 ≤ l.sum ∧ l.sum ≤ s * l.length
  | [], _ => by simp
  | x :: l, h => by
    have h1 := sum_range hs (l := l) fun y hy => h y (List.mem_cons_of_mem _ hy)
    have h2 := h x (by simp)
    rw [List.sum_cons, List.length_cons, Int.natCast_add, Int.mul_add]; omega
theorem addF_find (c : Cu) (P : List Int → Bool) (hs : 0 ≤ c.shovels) : ∀ (k : Nat) (coal : List Int) (many : Int),
    addF c P k coal many = (((digs c.shovels k).filter fun l => decide (l.sum = many)).map (coal ++ ·)).find? P
  | 0, coal, many => by
    by_cases h : many = 0
    · subst h
      cases hp : P coal <;> simp [addF, digs, hp]
    · have h' : ¬ (0 : Int) = many := fun e => h e.symm
      simp [addF, digs, h, h']
  | k + 1, coal, many => by
    have e : ∀ n, addF c P k (coal ++ [n]) (many - n) = ((((digs c.shovels k).map (n :: ·)).filter fun l => decide (l.sum = many)).map (coal ++ ·)).find? P := by
      intro n
      rw [addF_find c P hs k, List.filter_map, List.map_map]
      congr 1
      have e1 : (List.filter ((fun l : List Int => decide (l.sum = many)) ∘ fun x => n :: x) (digs c.shovels k)) = List.filter (fun l => decide (l.sum = many - n)) (digs c.shovels k) := by
        apply List.filter_congr
        intro l _
        exact decide_eq_decide.2 (by rw [List.sum_cons]; omega)
      rw [e1]
      apply List.map_congr_left
      intro l _
      simp
    rw [addF, digs, List.filter_flatMap, List.map_flatMap, List.find?_flatMap]
    rw [find_cut]
    · congr 1
      funext n
      exact e n
    · intro n hn
      rw [e n, List.find?_eq_none]
      intro x hx
      obtain ⟨y, hy, rfl⟩ := List.mem_map.1 hx
      obtain ⟨h1, h2⟩ := List.mem_filter.1 hy
      obtain ⟨z, hz, rfl⟩ := List.mem_map.1 h1
      have := sum_range hs (digs_mem.1 hz).2
      rw [decide_eq_true_eq, List.sum_cons] at h2
      omega
theorem pair_find {l : List (List Int)} (hp : l.Pairwise (fun a b => lBefore a b = true)) {P : List Int → Bool} {a : List Int} (h : l.find? P = some a) : a ∈ l ∧ P a = true ∧ ∀ x ∈ l, P x = true → a = x ∨ lBefore a x = true := by
  obtain ⟨h1, l1, l2, rfl, h2⟩ := List.find?_eq_some_iff_append.1 h
  refine ⟨by simp, h1, fun x hx hP => ?_⟩
  rcases List.mem_append.1 hx with hx | hx
  · have := h2 x hx; simp [hP] at this
  · rcases List.mem_cons.1 hx with rfl | hx
    · exact .inl rfl
    · have := (List.pairwise_append.1 hp).2.1
      exact .inr ((List.pairwise_cons.1 this).1 x hx)
theorem findSome_first {α : Type} {f : Int → Option α} {lo hi : Int} {b : α} (h : (rangeI lo hi).findSome? f = some b) : ∃ a, lo ≤ a ∧ a ≤ hi ∧ f a = some b ∧ ∀ x, lo ≤ x → x < a → f x = none := by
  obtain ⟨l1, a, l2, e, h1, h2⟩ := List.findSome?_eq_some_iff.1 h
  have ha : a ∈ rangeI lo hi := by rw [e]; simp
  have hp := rangeI_pair lo hi
  rw [e] at hp
  have ham := mem_rangeI.1 ha
  refine ⟨a, ham.1, ham.2, h1, fun x hx hxa => ?_⟩
  have hx2 : x ∈ rangeI lo hi := mem_rangeI.2 ⟨hx, by omega⟩
  rw [e] at hx2
  rcases List.mem_append.1 hx2 with hx3 | hx3
  · exact h2 x hx3
  · rcases List.mem_cons.1 hx3 with rfl | hx3
    · omega
    · have := (List.pairwise_cons.1 (List.pairwise_append.1 hp).2.1).1 x hx3
      omega
theorem leastF_some {c : Cu} (k0 : CuOk c) {l : List Int} (h : leastF c = some l) : IsLeast c.shovels (c.last + 1).toNat (sSureP c) l := by
  have hs := k0.shovels.1
  obtain ⟨m, h0, h1, h2, h3⟩ := findSome_first h
  rw [addF_find c _ hs] at h2
  simp only [List.nil_append, List.map_id'] at h2
  obtain ⟨g1, g2, g3⟩ := pair_find ((digs_pair c.shovels (c.last + 1).toNat).filter _) h2
  obtain ⟨g1, g4⟩ := List.mem_filter.1 g1
  have g4 : l.sum = m := by simpa using g4
  refine ⟨g1, g2, fun x hx hP => ?_⟩
  have hx0 := (sum_range hs (digs_mem.1 hx).2).1
  rcases Int.lt_trichotomy x.sum m with hlt | heq | hgt
  · have := h3 x.sum hx0 hlt
    rw [addF_find c _ hs] at this
    simp only [List.nil_append, List.map_id', List.find?_eq_none] at this
    have := this x (List.mem_filter.2 ⟨hx, by simp⟩)
    simp [hP] at this
  · exact .inr ⟨by omega, g3 x (List.mem_filter.2 ⟨hx, by simp [heq]⟩) hP⟩
  · exact .inl (by omega)
theorem leastF_none {c : Cu} (k0 : CuOk c) (h : leastF c = none) : ∀ x ∈ digs c.shovels (c.last + 1).toNat, sSureP c x = false := by
  have hs := k0.shovels.1
  intro x hx
  have hb := sum_range hs (digs_mem.1 hx).2
  rw [leastF, List.findSome?_eq_none_iff] at h
  have := h x.sum (mem_rangeI.2 ⟨hb.1, by rw [(digs_mem.1 hx).1] at hb; have e : ((c.last + 1).toNat : Int) = c.last + 1 := by have := k0.last; omega
                                          rw [e] at hb; exact hb.2⟩)
  rw [addF_find c _ hs] at this
  simp only [List.nil_append, List.map_id', List.find?_eq_none] at this
  have := this x (List.mem_filter.2 ⟨hx, by simp⟩)
  simpa using this
/-! the reference's numbers of coal, in order -/
theorem sure_whole {c : Cu} (k0 : CuOk c) (hne : sTruth c ≠ []) (coal : List Int) : sSureP c coal = decide (rWholes c (rTruths c) coal c.want = 1) := by
  rw [← wholes_same k0 hne]
  have e : ((sTruth c).map fun s => if (sPast c coal c.want s).kept.any (fun y => decide (false = y)) then (0 : Int) else 1) = (sTruth c).map fun s => if sKept c coal c.want s = true then 1 else 0 := by
    apply List.map_congr_left
    intro s _
    by_cases h : ((sPast c coal c.want s).kept.any fun y => decide (false = y)) = true
    · have h2 : sKept c coal c.want s = false := by rw [sKept, h]; rfl
      rw [if_pos h, h2, if_neg (by simp)]
    · have h2 : sKept c coal c.want s = true := by rw [Bool.not_eq_true] at h; rw [sKept, h]; rfl
      rw [if_neg h, h2, if_pos rfl]
  rw [e, sVerdict_01 _ hne, sSureP]
  cases (sTruth c).all fun s => sKept c coal c.want s with
  | true => rfl
  | false => cases (sTruth c).any fun s => sKept c coal c.want s <;> rfl
end Go.Vm

set_option linter.unusedVariables false
set_option linter.unusedSimpArgs false
set_option maxRecDepth 100000
namespace Go.Vm
/-! ### fewer promises, more coal -/
theorem whole_coal {c : Cu} {coal coal' want : List Int} {t : Tr2} (hp : 1 ≤ c.per) (hh : 0 ≤ t.heat) (hc : ∀ i : Nat, i < (c.last + 1).toNat → 0 ≤ gi coal i ∧ gi coal i ≤ gi coal' i) (h : wholeI c coal want t = true) : wholeI c coal' want t = true := by
  rw [whole_iff] at h ⊢
  intro i hi
  have w : Warm (tS t) (tS t) coal coal' (c.last + 1).toNat := ⟨⟨hh, Int.le_refl _⟩, fun i _ => Int.le_refl _, hc⟩
  have hm := tdiv_mono (sHeat_ge c (tS t) coal want i) (warm_heat w hi (warm_play hp w i (by omega))) hp
  have := h i hi
  omega
end Go.Vm

set_option linter.unusedVariables false
set_option linter.unusedSimpArgs false
set_option maxRecDepth 100000
namespace Go.Vm
/-! ### fewer truths -/
theorem SubT.sure {x c : Cu} (S : SubT x c) (X : AskOk x true) (A : AskOk c true) {coal : List Int} (h : sSureP c coal = true) : sSureP x coal = true := by
  have hne : rTruths x ≠ [] := fun e => X.ne ((same_nil X.k0).2 e)
  rw [sure_whole A.k0 A.ne, decide_eq_true_eq] at h
  rw [sure_whole X.k0 X.ne, decide_eq_true_eq, S.want]
  exact S.wholes hne h
/-! which readings are left out -/
end Go.Vm

set_option linter.unusedVariables false
set_option linter.unusedSimpArgs false
set_option maxRecDepth 100000
namespace Go.Vm
open Go.Proofs
theorem c_ProvePlan (r : Rm) (hr : r.wf) (plan : List Int) (hp : (plan.length : Int) ≤ 1000000) : Pu Tryz.prog (.fn 62 [] []) [.agg r.cs, vI plan] (.bool (sProveP r plan)) := by
  refine Ev.fn Tryz.func62 rfl rfl (Fn.body tabOk Tryz.func62 rfl (Nat.le_of_ble_eq_true rfl) (Ks.ok (fz := (fzn [])) (cl := (cln [])) tabOk mixed ?_))
  generalize hQ : FnPost tt Tryz.f62 _ _ = Q
  simp only [Tryz.f62, List.nil_append, List.append_nil, argsEnv, Nat.reduceAdd]
  simp only [gos, eq_self, Nat.reduceLT, Nat.reduceEqDiff, reduceCtorEq, reduceIte, ↓reduceIte, tt, vgo, vout, vguard, callOf, vop, ev, cv, vload, newRow, rms]
  refine Cl.pu (c_bKeeps r hr plan hp) ?_ rfl (by simp only [V.into, intoL, vI_into, Bool.and_true, rm_into])
  by_cases h : (sKeepsR r plan).2 = 0
  · have hd : decide ((sKeepsR r plan).2 = 0) = true := by simp [h]
    simp only [gos, eq_self, Nat.reduceLT, Nat.reduceEqDiff, reduceIte, ↓reduceIte, vgo, vout, vguard, callOf, vop, ev, cv, vbin, vint, isShift, isNilConst, hd]
    subst hQ
    exact FnPost.plain trivial (fun h2 e => by first | rfl | (simp only [Tryz.f62, vres, vresL, vres1, e _, gos, if_true, if_false, ne_eq, eq_self, Nat.reduceLT, Nat.reduceEqDiff, Nat.reduceAdd, Nat.reduceMul, Nat.reduceLeDiff, Nat.reduceBEq, reduceCtorEq, reduceIte, Array.toList, ↓reduceIte, tt, vgo, vout, vgoD, voutD, vclsOk, vids, mayWrite, V.ids, V.mids, vguard, callOf, vop, ev, cv, vbin, vint, isShift, isNilConst, vnil, isNilSlice, vload, vlen, newRow, vfill, vslice, entOf, vappend, srcOf, vcopy, vlookup, vupdate, mapOk, keyOf, intsOf, clsAt]; try rfl)) (WkV.pure (by simp only [V.into])) ⟨by simp [sProveP, h], rfl⟩
  · have hd : decide ((sKeepsR r plan).2 = 0) = false := by simp [h]
    simp only [gos, eq_self, Nat.reduceLT, Nat.reduceEqDiff, reduceIte, ↓reduceIte, vgo, vout, vguard, callOf, vop, ev, cv, vbin, vint, isShift, isNilConst, hd]
    subst hQ
    exact FnPost.plain trivial (fun h2 e => by first | rfl | (simp only [Tryz.f62, vres, vresL, vres1, e _, gos, if_true, if_false, ne_eq, eq_self, Nat.reduceLT, Nat.reduceEqDiff, Nat.reduceAdd, Nat.reduceMul, Nat.reduceLeDiff, Nat.reduceBEq, reduceCtorEq, reduceIte, Array.toList, ↓reduceIte, tt, vgo, vout, vgoD, voutD, vclsOk, vids, mayWrite, V.ids, V.mids, vguard, callOf, vop, ev, cv, vbin, vint, isShift, isNilConst, vnil, isNilSlice, vload, vlen, newRow, vfill, vslice, entOf, vappend, srcOf, vcopy, vlookup, vupdate, mapOk, keyOf, intsOf, clsAt]; try rfl)) (WkV.pure (by simp only [V.into])) ⟨by simp [sProveP, h], rfl⟩
end Go.Vm

set_option linter.unusedVariables false
set_option linter.unusedSimpArgs false
set_option maxRecDepth 100000
namespace Go.Vm
/-! ### what is sure in one room and in another -/
theorem check_of {x : Rm} (ha : sAsked x.cu true = 0) (hpl : 0 ≤ x.pl ∧ x.pl ≤ 5) (hbu : 1 ≤ x.bu ∧ x.bu ≤ 9) (hl : x.ba.length ≤ 5) (hb : ∀ b ∈ x.ba, 0 ≤ b.lo ∧ b.lo ≤ b.hi ∧ b.hi ≤ x.cu.last) : sCheckR x = 0 := by
  have h1 : ¬ (sAsked x.cu true ≠ 0) := by simp [ha]
  have h2 : ¬ (5 < x.pl ∨ 5 < (x.ba.length : Int)) := by omega
  have h3 : x.ba.all (sValid x) = true := by
    rw [List.all_eq_true]
    intro b hb2
    have := hb b hb2
    simp only [sValid, Bool.and_eq_true, decide_eq_true_eq]; omega
  have h4 : sIn x.bu 1 9 = true := by simp [sIn]; omega
  rw [sCheckR, if_neg h1, if_neg h2, h3, h4, if_neg (by simp; omega)]
theorem RmOk.check {r : Rm} (k : RmOk r) : sCheckR r = 0 := check_of k.ask k.pl k.bu k.len k.ba
theorem sure_room {r x : Rm} (k : RmOk r) (kx : RmOk x) (hl : x.cu.last = r.cu.last) (hw : x.cu.want = r.cu.want) (hpl : r.pl ≤ x.pl) (hbu : x.bu ≤ r.bu)
    (hT : ∀ w : List Int, rWholes r.cu (rTruths r.cu) r.cu.coal w = 1 → rWholes x.cu (rTruths x.cu) x.cu.coal w = 1)
    {n m : List Int} (h : ∀ i : Nat, (i : Int) ≤ r.cu.last → 0 ≤ gi m i ∧ gi m i ≤ gi n i) (hs : sSureN r n = true) : sSureN x m = true := by
  have hla := k.A.k0.last
  have hbx := kx.bu
  have hbr := k.bu
  simp only [sSureN, Bool.and_eq_true, decide_eq_true_eq] at hs
  have hmul : ∀ i : Nat, (i : Int) ≤ r.cu.last → 0 ≤ x.bu * gi m i ∧ x.bu * gi m i ≤ r.bu * gi n i := fun i hi => by
    have h1 := h i hi
    exact ⟨Int.mul_nonneg (by omega) h1.1, Int.mul_le_mul hbu h1.2 h1.1 (by omega)⟩
  have hp : sPossN x m = true := by
    have hp := hs.1
    rw [sPossN, List.all_eq_true] at hp ⊢
    intro i hi
    rw [hl] at hi
    have hi2 := List.mem_range.1 hi
    have h1 := h i (by omega)
    have h2 := hmul i (by omega)
    have h3 := hp i hi
    simp only [sRoom, Bool.or_eq_true, Bool.and_eq_true, decide_eq_true_eq] at h3 ⊢
    rw [hw]
    rcases h3 with h3 | ⟨h3, h4⟩
    · left; omega
    · right; omega
  simp only [sSureN, Bool.and_eq_true, decide_eq_true_eq]
  refine ⟨hp, ?_⟩
  rw [keV_eq kx (fun i hi => (h i (by omega)).1) hp, hw]
  have hkn := hs.2
  rw [keV_eq k (fun i hi => by have := h i hi; omega) hs.1] at hkn
  refine hT _ (more_one k.A.k0 k.ne (fun i hi => ?_) hkn)
  rw [nb_gi (by omega), nb_gi (by omega)]
  exact hmul i (by omega)
/-! a plan without some baths, by places -/
theorem pk_eq (b : Nat) (p : List Int) : pk b 0 p = ((List.range p.length).filter fun i => b.testBit i).map fun (i : Nat) => gi p i := by
  have e : ∀ n, n ≤ p.length → pk b 0 (p.take n) = ((List.range n).filter fun i => b.testBit i).map fun (i : Nat) => gi p i := by
    intro n
    induction n with
    | zero => intro _; simp [pk]
    | succ n ih =>
      intro hn
      rw [gi_take (by omega), pk_snoc, ih (by omega), List.length_take, Nat.min_eq_left (by omega), Nat.zero_add, List.range_succ, List.filter_append, List.map_append]
      congr 1
      simp only [List.filter_cons, List.filter_nil]
      split <;> rfl
  have := e p.length (Nat.le_refl _)
  rwa [List.take_length] at this
theorem pk_mem {b : Nat} {p : List Int} {x : Int} (h : x ∈ pk b 0 p) : ∃ j : Nat, j < p.length ∧ b.testBit j = true ∧ x = gi p j := by
  rw [pk_eq] at h
  simp only [List.mem_map, List.mem_filter, List.mem_range] at h
  obtain ⟨j, ⟨h1, h2⟩, rfl⟩ := h
  exact ⟨j, h1, h2, rfl⟩
theorem pk_congr {b : Nat} {p q : List Int} (hl : p.length = q.length) (h : ∀ j : Nat, j < p.length → b.testBit j = true → gi p j = gi q j) : pk b 0 p = pk b 0 q := by
  rw [pk_eq, pk_eq, ← hl]
  apply List.map_congr_left
  intro j hj
  simp only [List.mem_filter, List.mem_range] at hj
  exact h j hj.1 hj.2
theorem mem_rSuf (r : Rm) (b : Nat) : ∀ (k i : Nat) (p : List Int), p ∈ rSuf r b k i ↔ p.length = k ∧ ∀ j : Nat, j < k → if b.testBit (i + j) = true then (gR r.ba ((i + j : Nat) : Int)).lo ≤ gi p j ∧ gi p j ≤ (gR r.ba ((i + j : Nat) : Int)).hi else gi p j = 0
  | 0, i, p => by
    simp only [rSuf, List.mem_singleton]
    constructor
    · rintro rfl; exact ⟨rfl, fun j hj => by omega⟩
    · rintro ⟨h, _⟩; exact List.length_eq_zero_iff.1 h
  | k + 1, i, p => by
    have ih := mem_rSuf r b k (i + 1)
    have hgi0 : ∀ (x : Int) (q : List Int), gi (x :: q) (0 : Nat) = x := fun x q => rfl
    have hgis : ∀ (x : Int) (q : List Int) (j : Nat), gi (x :: q) ((j + 1 : Nat) : Int) = gi q j := fun x q j => by simp only [gi, Int.toNat_natCast, List.getD_cons_succ]
    rw [rSuf]
    constructor
    · intro h
      obtain ⟨x, q, hq, rfl, hx⟩ : ∃ x q, q ∈ rSuf r b k (i + 1) ∧ p = x :: q ∧ if b.testBit i = true then (gR r.ba i).lo ≤ x ∧ x ≤ (gR r.ba i).hi else x = 0 := by
        split at h
        · simp only [List.mem_flatMap, List.mem_map] at h
          obtain ⟨x, hx, q, hq, rfl⟩ := h
          rename_i hb
          exact ⟨x, q, hq, rfl, by rw [if_pos hb]; exact mem_rangeI.1 hx⟩
        · obtain ⟨q, hq, rfl⟩ := List.mem_map.1 h
          rename_i hb
          exact ⟨0, q, hq, rfl, by rw [if_neg hb]⟩
      obtain ⟨h1, h2⟩ := (ih q).1 hq
      refine ⟨by simp [h1], fun j hj => ?_⟩
      cases j with
      | zero => rw [Nat.add_zero, hgi0]; exact hx
      | succ j =>
        rw [hgis]
        have := h2 j (by omega)
        rw [show i + 1 + j = i + (j + 1) by omega] at this
        exact this
    · rintro ⟨h1, h2⟩
      cases p with
      | nil => simp at h1
      | cons x q =>
        have h0 := h2 0 (by omega)
        rw [Nat.add_zero, hgi0] at h0
        have hq : q ∈ rSuf r b k (i + 1) := (ih q).2 ⟨by simpa using h1, fun j hj => by
          have := h2 (j + 1) (by omega)
          rw [hgis, show i + (j + 1) = i + 1 + j by omega] at this
          exact this⟩
        split
        · rename_i hb
          rw [if_pos hb] at h0
          simp only [List.mem_flatMap, List.mem_map]
          exact ⟨x, mem_rangeI.2 h0, q, hq, rfl⟩
        · rename_i hb
          rw [if_neg hb] at h0
          exact List.mem_map.2 ⟨q, hq, by rw [h0]⟩
theorem pk_range {r : Rm} (k : RmOk r) {b : Nat} {p : List Int} (hl : p.length = r.ba.length) (h : ∀ j : Nat, j < r.ba.length → b.testBit j = true → (gR r.ba j).lo ≤ gi p j ∧ gi p j ≤ (gR r.ba j).hi) : ∀ x ∈ pk b 0 p, 0 ≤ x ∧ x ≤ r.cu.last := fun x hx => by
  obtain ⟨j, h1, h2, rfl⟩ := pk_mem hx
  have h3 := h j (by omega) h2
  have h4 := k.ba _ (List.mem_of_getElem? (gR_get (show (j : Int) < r.ba.length by omega)))
  omega
theorem rest_iff {r : Rm} (k : RmOk r) {b : Nat} : restN r b = true ↔ ∃ p : List Int, p.length = r.ba.length ∧ (∀ j : Nat, j < r.ba.length → b.testBit j = true → (gR r.ba j).lo ≤ gi p j ∧ gi p j ≤ (gR r.ba j).hi) ∧ sSureN r (cntN (pk b 0 p)) = true := by
  rw [restN, Bool.not_eq_true', List.isEmpty_eq_false_iff]
  constructor
  · intro h
    obtain ⟨p, hp⟩ := List.exists_mem_of_ne_nil _ h
    rw [rSures, rPlansF_suf, List.mem_filter] at hp
    obtain ⟨h1, h2⟩ := hp
    obtain ⟨q, hq, rfl⟩ := List.mem_map.1 h1
    obtain ⟨g1, g2⟩ := (mem_rSuf r b _ _ q).1 hq
    rw [List.nil_append] at h2
    have hin : ∀ j : Nat, j < r.ba.length → b.testBit j = true → (gR r.ba j).lo ≤ gi q j ∧ gi q j ≤ (gR r.ba j).hi := fun j hj hb => by
      have := g2 j hj
      simp only [List.length_nil, Nat.zero_add] at this
      rw [if_pos hb] at this
      exact this
    exact ⟨q, g1, hin, by rw [(num_ref k (pk_range k g1 hin) (rNum_eq r q b)).2.2]; exact h2⟩
  · rintro ⟨p, hl, hin, hs⟩
    let q : List Int := (List.range r.ba.length).map fun j => if b.testBit j = true then gi p j else 0
    have hql : q.length = r.ba.length := by simp [q]
    have hqg : ∀ j : Nat, j < r.ba.length → gi q j = if b.testBit j = true then gi p j else 0 := fun j hj => gi_map hj
    have hpk : pk b 0 q = pk b 0 p := pk_congr (by omega) fun j hj hb => by rw [hqg j (by omega), if_pos hb]
    have hin2 : ∀ j : Nat, j < r.ba.length → b.testBit j = true → (gR r.ba j).lo ≤ gi q j ∧ gi q j ≤ (gR r.ba j).hi := fun j hj hb => by rw [hqg j hj, if_pos hb]; exact hin j hj hb
    refine List.ne_nil_of_mem (a := q) ?_
    rw [rSures, rPlansF_suf, List.mem_filter]
    refine ⟨List.mem_map.2 ⟨q, (mem_rSuf r b _ _ q).2 ⟨hql, fun j hj => ?_⟩, List.nil_append q⟩, ?_⟩
    · simp only [List.length_nil, Nat.zero_add]
      rw [hqg j hj]
      split
      · rename_i hb; exact hin j hj hb
      · rfl
    · rw [← (num_ref k (pk_range k hql hin2) (rNum_eq r q b)).2.2, hpk]
      exact hs
end Go.Vm

set_option linter.unusedVariables false
set_option linter.unusedSimpArgs false
set_option maxRecDepth 100000
namespace Go.Vm
/-! ### a room whose coppers have more coal, and no readings -/
def rmC (r : Rm) (l : List Int) : Rm := { r with cu := { r.cu with coal := l } }
structure MoreC (r : Rm) (l : List Int) : Prop where
  dry : r.cu.readings = []
  len : (l.length : Int) = r.cu.last + 1
  sh : ∀ x ∈ l, 0 ≤ x ∧ x ≤ r.cu.shovels
  le : ∀ i : Nat, (i : Int) ≤ r.cu.last → gi r.cu.coal i ≤ gi l i
theorem coal_okR {r : Rm} (k : RmOk r) {l : List Int} (h1 : (l.length : Int) = r.cu.last + 1) (h2 : ∀ x ∈ l, 0 ≤ x ∧ x ≤ r.cu.shovels) : CuOk (rmC r l).cu :=
  have k0 := k.A.k0
  ⟨k0.last, k0.rds, k0.most, k0.start, k0.per, k0.shovels, ⟨h1, h2⟩, k0.want, k0.heat, k0.loss, k0.readings, k0.many⟩
theorem rmC_ok {r : Rm} (k : RmOk r) (hd : r.cu.readings = []) {l : List Int} (h1 : (l.length : Int) = r.cu.last + 1) (h2 : ∀ x ∈ l, 0 ≤ x ∧ x ≤ r.cu.shovels) : RmOk (rmC r l) :=
  have ha := dry_asked (coal_okR k h1 h2) hd
  ⟨ha, askOk_of ha, k.pl, k.bu, k.len, k.ba⟩
theorem MoreC.ok {r : Rm} {l : List Int} (M : MoreC r l) (k : RmOk r) : RmOk (rmC r l) := rmC_ok k M.dry M.len M.sh
theorem MoreC.sure {r : Rm} {l : List Int} (M : MoreC r l) (k : RmOk r) {n : List Int} (h0 : ∀ i : Nat, (i : Int) ≤ r.cu.last → 0 ≤ gi n i) (hs : sSureN r n = true) : sSureN (rmC r l) n = true := by
  have k0 := k.A.k0
  have kx := M.ok k
  refine sure_room k kx rfl rfl (Int.le_refl _) (Int.le_refl _) (fun w hw => ?_) (fun i hi => ⟨h0 i hi, Int.le_refl _⟩) hs
  rw [wholes_one k.ne] at hw
  rw [wholes_one kx.ne]
  intro t ht
  rw [truths_dry r.cu (rmC r l).cu rfl rfl M.dry M.dry] at ht
  rw [whole_cu r.cu (rmC r l).cu rfl rfl rfl rfl]
  refine whole_coal k0.per.1 (rTr_ok k0 _ t ht).sc.heat.1 (fun i hi => ?_) (hw t ht)
  have h1 := k0.coal.2 _ (gi_mem (l := r.cu.coal) (i := i) (by have := k0.coal.1; omega))
  exact ⟨h1.1, M.le i (by omega)⟩
theorem zL_ge (i : Nat) : 0 ≤ gi zL i := by rw [zL_gi]; omega
theorem MoreC.rest {r : Rm} {l : List Int} (M : MoreC r l) (k : RmOk r) {b : Nat} (h : restN r b = true) : restN (rmC r l) b = true := by
  obtain ⟨p, h1, h2, h3⟩ := (rest_iff k).1 h
  exact (rest_iff (M.ok k)).2 ⟨p, h1, h2, M.sure k (fun i _ => (num_same k (pk_range k h1 h2) i).2) h3⟩
theorem MoreC.most {r : Rm} {l : List Int} (M : MoreC r l) (k : RmOk r) (hs : sSureN r zL = true) : (mostF r).sum ≤ (mostF (rmC r l)).sum := by
  have kx := M.ok k
  have hx := M.sure k (fun i _ => zL_ge i) hs
  have h1 := (mostF_spec k hs).1
  have h2 : mostF r ∈ sureL (rmC r l) := by
    rw [sureL, List.mem_filter] at h1 ⊢
    refine ⟨h1.1, M.sure k (fun i _ => ?_) h1.2⟩
    rw [pad5_gi]
    exact gi_ge0 (fun y hy => ((digs_mem.1 h1.1).2 y hy).1) i
  rcases (mostF_spec kx hx).2 _ h2 with h | ⟨h, _⟩ <;> omega
/-- A room's cells with another slice of coal. -/
def rmRow5 (r : Rm) (v : V) : List V := [vi r.cu.last, vi r.cu.start, vi r.cu.most, vi r.cu.per, vi r.cu.shovels, v, vI r.cu.want, vi r.cu.heat.lo, vi r.cu.heat.hi, vR r.cu.loss, vD r.cu.readings, vi r.bu, vi r.pl, vR r.ba]
theorem rmRow5_eq (r : Rm) (v : V) : List.take 5 r.cs ++ [v] ++ List.drop 6 r.cs = rmRow5 r v := rfl
theorem rmRow5_rm (r : Rm) (l : List Int) : rmRow5 r (vI l) = (rmC r l).cs := rfl
theorem cW16_frz (i ver : Nat) (cs : List V) : ∀ l : List Int, frzL i ver cs (cW16 l) = cW16 l
  | [] => rfl
  | x :: l => by
    have := cW16_frz i ver cs l
    simp only [cW16, List.map_cons, frzL, V.frz] at this ⊢
    rw [this]
theorem vW_frz (i ver : Nat) (cs : List V) (l : List Int) : (vW l).frz i ver cs = vW l := by simp only [vW, V.frz, cW16_frz]
end Go.Vm

set_option linter.unusedVariables false
set_option linter.unusedSimpArgs false
set_option maxRecDepth 100000
namespace Go.Vm
/-! ### a sure plan has no more baths than the most -/
theorem canBe_le {r : Rm} {m : List Int} (h : rCanBe r m = true) {i : Nat} (hi : i < m.length) : gi m i ≤ r.pl ∧ gi r.cu.want i + r.bu * gi m i ≤ 20 := by
  simp only [rCanBe, List.all_eq_true, List.mem_range, Bool.and_eq_true, decide_eq_true_eq] at h
  exact h i hi
end Go.Vm

set_option linter.unusedVariables false
set_option linter.unusedSimpArgs false
set_option maxRecDepth 100000
namespace Go.Vm
/-! ### the coppers of a room whose Want has a plan's buckets -/
theorem add_swap {a b : List Int} (h : a.length = b.length) : sAdd a b b.length = addL b a :=
  list_ext (by rw [sAdd_len, addL_len', h]) fun i hi => by
    rw [sAdd_len] at hi
    rw [sAdd_get a b b.length i hi, if_pos (by omega), addL_gi (by omega)]; omega
theorem cuB_eq {r : Rm} (k : RmOk r) {plan : List Int} (ha : sAre r plan = true) : cuB r plan = wanR r (rNum r plan (2 ^ r.ba.length - 1)) := by
  have h1 := nb_len k (cntN plan)
  have h2 := k.A.k0.want.1
  rw [cuB, wanR, add_swap (by omega), num_plan k ha]
theorem wanR_ok {r : Rm} (k : RmOk r) {m : List Int} (hl : (m.length : Int) = r.cu.last + 1) (h0 : ∀ x ∈ m, 0 ≤ x) (h : rCanBe r m = true) : CuOk (wanR r m) := by
  have k0 := k.A.k0
  have hwl := k0.want.1
  refine ⟨k0.last, k0.rds, k0.most, k0.start, k0.per, k0.shovels, k0.coal, ⟨by simp only [wanR, addL_len']; exact hwl, fun x hx => ?_⟩, k0.heat, k0.loss, k0.readings, k0.many⟩
  have hx : x ∈ addL r.cu.want (rBk r m) := hx
  obtain ⟨j, hj, e⟩ := List.getElem_of_mem hx
  have e2 : gi (addL r.cu.want (rBk r m)) j = x := by rw [← e]; simp only [gi, Int.toNat_natCast, List.getD_eq_getElem?_getD, List.getElem?_eq_getElem hj]; rfl
  rw [addL_len'] at hj
  rw [addL_gi hj, rBk_gi r m (by omega)] at e2
  have h1 := canBe_le h (i := j) (by omega)
  have h2 := k0.want.2 _ (gi_mem hj)
  have h3 := h0 _ (gi_mem (l := m) (i := j) (by omega))
  have h4 := Int.mul_nonneg (show 0 ≤ r.bu by have := k.bu; omega) h3
  omega
end Go.Vm

set_option linter.unusedVariables false
set_option linter.unusedSimpArgs false
set_option maxRecDepth 100000
namespace Go.Vm
/-! ### the least coal for a plan, where there are no readings -/


theorem dryC_sure {x : Rm} (k : RmOk x) (hd : x.cu.readings = []) {plan : List Int} (ha : sAre x plan = true) (hp : sPossN x (cntN plan) = true) {l : List Int} (hl : (l.length : Int) = x.cu.last + 1 ∧ ∀ y ∈ l, 0 ≤ y ∧ y ≤ x.cu.shovels) (kw : CuOk (wanR x (rNum x plan (2 ^ x.ba.length - 1)))) :
    sSureN (rmC x l) (cntN plan) = sSureP (wanR x (rNum x plan (2 ^ x.ba.length - 1))) l := by
  have kx := rmC_ok k hd hl.1 hl.2
  obtain ⟨hlen, hr⟩ := are_ok k ha
  have h0 : ∀ i : Nat, (i : Int) ≤ x.cu.last → 0 ≤ gi (cntN plan) i := fun i _ => (num_same k hr i).2
  have hp2 : sPossN (rmC x l) (cntN plan) = true := hp
  have hdw : (wanR x (rNum x plan (2 ^ x.ba.length - 1))).readings = [] := hd
  have A := askOk_of (dry_asked kw hdw)
  rw [sSureN, hp2, Bool.true_and, keV_eq kx h0 hp2, sure_whole kw A.ne l]
  have e1 : nb (rmC x l) (cntN plan) = nb x (cntN plan) := rfl
  rw [e1, num_plan k ha, truths_dry (wanR x (rNum x plan (2 ^ x.ba.length - 1))) (rmC x l).cu rfl rfl hdw hd, wholes_cu (wanR x (rNum x plan (2 ^ x.ba.length - 1))) (rmC x l).cu rfl rfl rfl rfl]
  rfl
theorem cheap_all {x : Rm} (k : RmOk x) (hd : x.cu.readings = []) {plan : List Int} (ha : sAre x plan = true) :
    (sCoalR x plan = ([], 9) ∧ ∀ l : List Int, sProveP (rmC x l) plan = false) ∨
    (sCoalR x plan = ([], 10) ∧ ∀ l : List Int, (l.length : Int) = x.cu.last + 1 ∧ (∀ y ∈ l, 0 ≤ y ∧ y ≤ x.cu.shovels) → sProveP (rmC x l) plan = false) ∨
    (∃ b, sCoalR x plan = (b, 0) ∧ ((b.length : Int) = x.cu.last + 1 ∧ ∀ y ∈ b, 0 ≤ y ∧ y ≤ x.cu.shovels) ∧ sProveP (rmC x b) plan = true ∧ ∀ l : List Int, (l.length : Int) = x.cu.last + 1 ∧ (∀ y ∈ l, 0 ≤ y ∧ y ≤ x.cu.shovels) → sProveP (rmC x l) plan = true → b.sum ≤ l.sum) := by
  have hla := k.A.k0.last
  have hpt := planned_two k.check ha
  cases hpo : sPossN x (cntN plan) with
  | false =>
    rw [hpo, if_neg (by simp)] at hpt
    refine .inl ⟨by rw [sCoalR, hpt]; rfl, fun l => ?_⟩
    cases hs : sProveP (rmC x l) plan with
    | false => rfl
    | true =>
      have h2 := ((prove_iff _ _).1 hs).2.2
      rw [sSureN, Bool.and_eq_true] at h2
      have h3 : sPossN x (cntN plan) = true := h2.1
      rw [hpo] at h3; cases h3
  | true =>
    rw [hpo, if_pos rfl] at hpt
    have hnr : ¬ 0 < (x.cu.readings.length : Int) := by rw [hd]; simp
    have hM := num_mok k ha
    have hml : ((rNum x plan (2 ^ x.ba.length - 1)).length : Int) = x.cu.last + 1 := by have := hM.wl; have := k.A.k0.want.1; omega
    have hcan : rCanBe x (rNum x plan (2 ^ x.ba.length - 1)) = true := by
      obtain ⟨h1, h2⟩ := are_ok k ha
      rw [← (num_ref k h2 (num_full h1)).1]; exact hpo
    have kw := wanR_ok k hml (fun y hy => (hM.mb y hy).1) hcan
    have hdw : (wanR x (rNum x plan (2 ^ x.ba.length - 1))).readings = [] := hd
    have e1 : sCoalR x plan = sLeastA (wanR x (rNum x plan (2 ^ x.ba.length - 1))) := by rw [sCoalR, if_pos hpt, if_neg hnr, cuB_eq k ha]
    have hs : ∀ l : List Int, (l.length : Int) = x.cu.last + 1 ∧ (∀ y ∈ l, 0 ≤ y ∧ y ≤ x.cu.shovels) → sProveP (rmC x l) plan = sSureP (wanR x (rNum x plan (2 ^ x.ba.length - 1))) l := fun l hl => by
      rw [prove_of (rmC_ok k hd hl.1 hl.2).check (show sAre (rmC x l) plan = true from ha), dryC_sure k hd ha hpo hl kw]
    have hdig : ∀ l : List Int, (l.length : Int) = x.cu.last + 1 ∧ (∀ y ∈ l, 0 ≤ y ∧ y ≤ x.cu.shovels) ↔ l ∈ digs (wanR x (rNum x plan (2 ^ x.ba.length - 1))).shovels ((wanR x (rNum x plan (2 ^ x.ba.length - 1))).last + 1).toNat := fun l => by
      rw [digs_mem]
      have e1 : (wanR x (rNum x plan (2 ^ x.ba.length - 1))).last = x.cu.last := rfl
      rw [e1]
      constructor
      · rintro ⟨h1, h2⟩; exact ⟨by omega, h2⟩
      · rintro ⟨h1, h2⟩; exact ⟨by omega, h2⟩
    rw [e1, sLeastA, if_pos (dry_asked kw hdw)]
    cases hL : leastF (wanR x (rNum x plan (2 ^ x.ba.length - 1))) with
    | none => exact .inr (.inl ⟨rfl, fun l hl => by rw [hs l hl]; exact leastF_none kw hL l ((hdig l).1 hl)⟩)
    | some b =>
      have hB := leastF_some kw hL
      have hb := (hdig b).2 hB.mem
      refine .inr (.inr ⟨b, rfl, hb, by rw [hs b hb]; exact hB.is, fun l hl hp => ?_⟩)
      rw [hs l hl] at hp
      rcases hB.min l ((hdig l).1 hl) hp with h | ⟨h, _⟩ <;> omega
end Go.Vm

set_option linter.unusedVariables false
set_option linter.unusedSimpArgs false
set_option maxRecDepth 100000
namespace Go.Vm
open Go.Proofs
def rmRow10 (r : Rm) (v : V) : List V := [vi r.cu.last, vi r.cu.start, vi r.cu.most, vi r.cu.per, vi r.cu.shovels, vI r.cu.coal, vI r.cu.want, vi r.cu.heat.lo, vi r.cu.heat.hi, vR r.cu.loss, v, vi r.bu, vi r.pl, vR r.ba]
theorem rmRow10_frz (i ver : Nat) (cs : List V) (r : Rm) (v : V) : frzL i ver cs (rmRow10 r v) = rmRow10 r (v.frz i ver cs) := by
  simp only [rmRow10, frzL, vI_frz, vR, V.frz, cR_frz]
theorem rmRow10_into (p : Nat → Bool) (r : Rm) {v : V} (h : v.into p = true) : intoL p (rmRow10 r v) = true := by simp only [rmRow10, V.into, intoL, vI_into, vR_into, Bool.and_true, h]
set_option maxHeartbeats 8000000 in
theorem l_BathCheap (r : Rm) (hl : I64 r.cu.last) (words : List Int) (hw : ∀ x ∈ words, 0 ≤ x ∧ x ≤ 65535) (tried : Int) (htr : 0 ≤ tried ∧ tried ≤ 65535) :
    Vm.Fn Tryz.prog 17 [.agg r.cs, vW words, .int .u16 tried] [] fun v h' => v = .bool true := by
  refine Fn.body tabOk Tryz.func17 rfl (Nat.le_of_ble_eq_true rfl) (Ks.ok (fz := (fzn [7, 11])) (cl := (cln [(3, .ex), (8, .d tg0 [cP, cP, cP, cP, cP, cP, cP, cP, cP, cP, cP, cW])])) tabOk mixed ?_)
  generalize hQ : FnPost tt Tryz.f17 _ _ = Q
  simp only [Tryz.f17, argsEnv, Nat.reduceAdd]
  have e0 : List.take 10 r.cs ++ [V.sl0] ++ List.drop 11 r.cs = rmRow10 r .sl0 := rfl
  simp only [gos, eq_self, Nat.reduceLT, Nat.reduceEqDiff, Nat.reduceAdd, Nat.reduceLeDiff, reduceCtorEq, reduceIte, ↓reduceIte, tt, vgo, vout, vguard, callOf, vop, ev, cv, vload, newRow, rms, e0]
  refine Wr.at tabOk 0 ?_
  simp only [gos]
  refine Wa.mk (ρ2 := [(1, vW words), (2, .int .u16 tried), (3, .rop r.cs), (7, .rop (dryR r).cs)]) (h2 := []) ?_ ?_
  · refine Wk.trans (Wk.env (ρ' := [(1, vW words), (2, .int .u16 tried), (3, .rop r.cs), (7, .ptr 7 0 0)]) (by simp [subE, Env.get])) (Wk.trans (Wk.sl0H 7 10 90 3 rfl rfl rfl) ?_)
    have e1 : (rmRow10 r .sl0).set 10 (.own 90 0 0 3 0) = rmRow10 r (.own 90 0 0 3 0) := rfl
    simp only [gos, eq_self, Nat.reduceEqDiff, reduceIte, ↓reduceIte, e1]
    refine Wk.trans (Wk.freeze 90 rfl rfl rfl rfl) ?_
    simp only [gos, eq_self, Nat.reduceEqDiff, Nat.reduceMul, reduceIte, ↓reduceIte, frzE, frzH, Blk.frz, V.frz, rm_frz, rmRow10_frz, vW_frz]
    refine Wk.trans (Wk.freeze 7 rfl rfl (rmRow10_into _ _ rfl) rfl) ?_
    simp only [gos, eq_self, reduceIte, ↓reduceIte, frzE, frzH, V.frz, rm_frz, vW_frz]
    exact Wk.env (by simp [subE, Env.get]; rfl)
  simp only [gos, eq_self, Nat.reduceLT, Nat.reduceEqDiff, reduceCtorEq, reduceIte, ↓reduceIte, tt, vgo, vout, vguard, callOf, vop, ev, vload, rms]
  refine Cl.pu (c_ready9 r hl) ?_ rfl (by simp only [V.into, intoL, Bool.and_true, rm_into])
  cases hrd : sReadyR r with
  | false =>
    simp only [gos, eq_self, Nat.reduceLT, Nat.reduceEqDiff, reduceIte, ↓reduceIte, vgo, vout, vguard, callOf, vop, ev, cv]
    refine Cl.pu c_awake9 ?_
    simp only [gos, eq_self, Nat.reduceLT, reduceIte, ↓reduceIte, vgo, vout, vguard, callOf, vop, ev]
    subst hQ
    exact FnPost.plain trivial (v := .bool true) (fun h2 e => by rfl) WkV.refl rfl
  | true =>
    have hr := (ready9_ok hl hrd).1
    simp only [gos, eq_self, Nat.reduceLT, Nat.reduceEqDiff, reduceCtorEq, reduceIte, ↓reduceIte, tt, vgo, vout, vguard, callOf, vop, ev, vload, rms]
    refine Cl.pu (c_ready9 (dryR r) hl) ?_ rfl (by simp only [V.into, intoL, Bool.and_true, rm_into])
    have hdr : (dryR r).cu.readings = [] := rfl
    have hlx : I64 (dryR r).cu.last := hl
    generalize dryR r = x at *
    cases hrx : sReadyR x with
    | false =>
      simp only [gos, eq_self, Nat.reduceLT, Nat.reduceEqDiff, reduceIte, ↓reduceIte, vgo, vout, vguard, callOf, vop, ev]
      refine Cl.pu c_awake9 ?_
      simp only [gos, eq_self, Nat.reduceLT, reduceIte, ↓reduceIte, vgo, vout, vguard, callOf, vop, ev]
      subst hQ
      exact FnPost.plain trivial (v := .bool true) (fun h2 e => by rfl) WkV.refl rfl
    | true =>
      obtain ⟨hx, h0, k, hb4, hp3⟩ := ready9_ok hlx hrx
      have k0 := k.A.k0
      have hla := k0.last
      have hcl := chosen_len x words
      have ha := chosen_are k hw
      have hp : ((sChosen x words).length : Int) ≤ 1000000 := by omega
      have hone : oneL x.cu.cs = true := rfl
      simp only [gos, eq_self, Nat.reduceLT, Nat.reduceEqDiff, reduceCtorEq, reduceIte, ↓reduceIte, tt, vgo, vout, vguard, callOf, vop, ev, vload, rms]
      refine Cl.pu (c_Chosen x k words hw) ?_ rfl (by simp only [V.into, intoL, Bool.and_true, rm_into, vW_into])
      generalize sChosen x words = plan at hcl ha hp ⊢
      simp only [gos, eq_self, Nat.reduceLT, Nat.reduceEqDiff, reduceCtorEq, reduceIte, ↓reduceIte, tt, vgo, vout, vguard, callOf, vop, ev, vload, rms]
      refine Cl.pu (c_Room x hx) ?_ rfl (by simp only [V.into, intoL, Bool.and_true, rm_into])
      simp only [gos, eq_self, Nat.reduceLT, Nat.reduceEqDiff, reduceIte, ↓reduceIte, vgo, vout, vguard, callOf, vop, ev]
      refine Cl.pu (c_list9 plan hp) ?_ rfl (by simp only [intoL, vI_into, Bool.and_true])
      simp only [gos, eq_self, Nat.reduceLT, Nat.reduceEqDiff, reduceIte, ↓reduceIte, vgo, vout, vguard, callOf, ev]
      refine Cl.pu (c_bCoal x hx plan hp) ?_ rfl (by simp only [V.into, intoL, vI_into, Bool.and_true, rm_into])
      have wT := i64_in (show -9223372036854775808 ≤ tried by omega) (show tried ≤ 9223372036854775807 by omega)
      have hC := rCoals_le k0
      have htm := tmod_le htr.1 (s := rCoals x.cu) (by omega)
      have hcz : ¬ rCoals x.cu = 0 := by omega
      generalize hu : tried.tmod (rCoals x.cu) = u at htm
      have hco := rCoal_ok k0 (n := u) htm.1
      simp only [gos, eq_self, Nat.reduceLT, Nat.reduceEqDiff, Nat.reduceAdd, reduceCtorEq, reduceIte, ↓reduceIte, tt, vgo, vout, vguard, callOf, vop, ev, vload, newRow, rms]
      refine Wr.draw (by kernel_rfl) ?_
      simp only [gos, eq_self, Nat.reduceLT, Nat.reduceEqDiff, Nat.reduceAdd, Nat.reduceLeDiff, reduceCtorEq, reduceIte, ↓reduceIte, tt, vgoD, voutD, vclsOk, vids, mayWrite, V.ids, vguard, callOf, vop, ev, vload, clsAt, rms, wT]
      refine CD.pu (c_rCoals x.cu k0) ?_ rfl (by simp only [V.into, intoL, cu_into, Bool.and_true])
      simp only [gos, eq_self, Nat.reduceLT, Nat.reduceEqDiff, reduceIte, ↓reduceIte, vgoD, voutD, vclsOk, vids, mayWrite, vguard, callOf, vop, ev, vbin, vint, isShift, isNilConst, hcz, hu]
      refine CD.pu (c_rCoal x.cu k0 u (by omega)) ?_ rfl (by simp only [V.into, intoL, cu_into, Bool.and_true])
      generalize rCoal x.cu u = coal at hco
      have ky := rmC_ok k hdr hco.1 hco.2
      have hyw : ∀ l : List Int, (l.length : Int) = x.cu.last + 1 → (rmC x l).wf := fun l h => ⟨⟨hx.cu.last, by simp only [rmC]; omega, hx.cu.want, hx.cu.loss, hx.cu.readings⟩, hx.ba⟩
      have hch := cheap_all k hdr ha
      generalize hE : sCoalR x plan = E at hch
      simp only [gos, eq_self, Nat.reduceLT, Nat.reduceEqDiff, Nat.reduceAdd, Nat.reduceLeDiff, reduceCtorEq, reduceIte, ↓reduceIte, tt, vgo, vout, vgoD, voutD, vclsOk, vids, mayWrite, V.ids, vguard, callOf, vop, ev, vload, rms, rmRow5_eq, rmRow5_rm]
      refine Cl.pu (c_Room (rmC x coal) (hyw _ hco.1)) ?_ rfl (by simp only [V.into, intoL, Bool.and_true, rm_into])
      simp only [gos, eq_self, Nat.reduceLT, Nat.reduceEqDiff, reduceIte, ↓reduceIte, vgo, vout, vguard, callOf, vop, ev]
      refine Cl.pu (c_list9 plan hp) ?_ rfl (by simp only [intoL, vI_into, Bool.and_true])
      simp only [gos, eq_self, Nat.reduceLT, Nat.reduceEqDiff, reduceIte, ↓reduceIte, vgo, vout, vguard, callOf, ev]
      refine Cl.pu (c_ProvePlan (rmC x coal) (hyw _ hco.1) plan hp) ?_ rfl (by simp only [V.into, intoL, vI_into, Bool.and_true, rm_into])
      have y0 : ((0 : Int) != 0) = false := rfl
      have y9 : ((9 : Int) != 0) = true := rfl
      have y10 : ((10 : Int) != 0) = true := rfl
      have y99 : decide ((9 : Int) = 9) = true := rfl
      have y109 : decide ((10 : Int) = 9) = false := rfl
      have y1010 : decide ((10 : Int) = 10) = true := rfl
      rcases hch with ⟨rfl, h2⟩ | ⟨rfl, h2⟩ | ⟨b, rfl, hb, hpb, hmin⟩
      · rw [h2 coal]
        simp only [gos, eq_self, Nat.reduceLT, Nat.reduceEqDiff, reduceIte, ↓reduceIte, vgo, vout, vguard, callOf, vop, ev, cv, vbin, vint, isShift, isNilConst, y9]
        refine Cl.pu c_awake9 ?_
        simp only [gos, eq_self, Nat.reduceLT, Nat.reduceEqDiff, reduceIte, ↓reduceIte, vgo, vout, vguard, callOf, vop, ev]
        subst hQ
        exact FnPost.plain trivial (v := .bool true) (fun h2 e => by rfl) WkV.refl rfl
      · rw [h2 coal hco]
        simp only [gos, eq_self, Nat.reduceLT, Nat.reduceEqDiff, reduceIte, ↓reduceIte, vgo, vout, vguard, callOf, vop, ev, cv, vbin, vint, isShift, isNilConst, y10, y109]
        refine Cl.pu c_awake9 ?_
        simp only [gos, eq_self, Nat.reduceLT, Nat.reduceEqDiff, reduceIte, ↓reduceIte, vgo, vout, vguard, callOf, vop, ev]
        subst hQ
        exact FnPost.plain trivial (v := .bool true) (fun h2 e => by rfl) WkV.refl rfl
      · have z1 : ((b.length : Int) != x.cu.last + 1) = false := by simp [hb.1]
        have wl := i64_in (show -9223372036854775808 ≤ x.cu.last + 1 by omega) (show x.cu.last + 1 ≤ 9223372036854775807 by omega)
        have hsh := k0.shovels
        cases his : sProveP (rmC x coal) plan with
        | true =>
          have hle := hmin coal hco his
          have hnlt : ¬ coal.sum < b.sum := by omega
          have h5 : (List.drop 5 (rmC x coal).cs).head? = some (vI coal) := rfl
          simp only [gos, eq_self, Nat.reduceLT, Nat.reduceEqDiff, Nat.reduceAdd, reduceCtorEq, reduceIte, ↓reduceIte, tt, vgo, vout, vguard, callOf, vop, ev, cv, vbin, vint, isShift, isNilConst, vload, vlen, rms, vI, z1, wl, h5]
          refine Cl.pu (c_rShovels coal (by omega) (fun y hy => by have := hco.2 y hy; omega)) ?_ rfl (by simp only [V.into, intoL, cI_into, Bool.and_true])
          simp only [gos, eq_self, Nat.reduceLT, Nat.reduceEqDiff, reduceIte, ↓reduceIte, vgo, vout, vguard, callOf, vop, ev]
          refine Cl.pu (c_rShovels b (by omega) (fun y hy => by have := hb.2 y hy; omega)) ?_ rfl (by simp only [V.into, intoL, cI_into, Bool.and_true])
          simp only [gos, eq_self, Nat.reduceLT, Nat.reduceEqDiff, reduceIte, ↓reduceIte, vgo, vout, vguard, callOf, vop, ev, vbin, vint, isShift, isNilConst, hnlt]
          refine Cl.pu (c_list9 b (by omega)) ?_ rfl (by simp only [V.into, intoL, cI_into, Bool.and_true])
          have e2 : List.take 5 (rmC x coal).cs ++ [vI b] ++ List.drop 6 (rmC x coal).cs = (rmC x b).cs := rfl
          simp only [gos, eq_self, Nat.reduceLT, Nat.reduceEqDiff, Nat.reduceAdd, Nat.reduceLeDiff, reduceCtorEq, reduceIte, ↓reduceIte, tt, vgo, vout, vguard, callOf, vop, ev, vload, rms, e2]
          refine Cl.pu (c_Room (rmC x b) (hyw _ hb.1)) ?_ rfl (by simp only [V.into, intoL, Bool.and_true, rm_into])
          simp only [gos, eq_self, Nat.reduceLT, Nat.reduceEqDiff, reduceIte, ↓reduceIte, vgo, vout, vguard, callOf, vop, ev]
          refine Cl.pu (c_list9 plan hp) ?_ rfl (by simp only [V.into, intoL, cI_into, Bool.and_true])
          simp only [gos, eq_self, Nat.reduceLT, Nat.reduceEqDiff, reduceIte, ↓reduceIte, vgo, vout, vguard, callOf, ev]
          refine Cl.pu (c_ProvePlan (rmC x b) (hyw _ hb.1) plan hp) ?_ rfl (by simp only [V.into, intoL, vI_into, Bool.and_true, rm_into])
          rw [hpb]
          simp only [gos, eq_self, Nat.reduceLT, reduceIte, ↓reduceIte, vgo, vout, vguard, callOf, vop, ev]
          refine Cl.pu c_awake9 ?_
          simp only [gos, eq_self, Nat.reduceLT, Nat.reduceEqDiff, reduceIte, ↓reduceIte, vgo, vout, vguard, callOf, vop, ev]
          subst hQ
          exact FnPost.plain trivial (v := .bool true) (fun h2 e => by rfl) WkV.refl rfl
        | false =>
          simp only [gos, eq_self, Nat.reduceLT, Nat.reduceEqDiff, reduceCtorEq, reduceIte, ↓reduceIte, tt, vgo, vout, vguard, callOf, vop, ev, cv, vbin, vint, isShift, isNilConst, vload, vlen, rms, vI, z1, wl]
          refine Cl.pu (c_list9 b (by omega)) ?_ rfl (by simp only [V.into, intoL, cI_into, Bool.and_true])
          have e2 : List.take 5 (rmC x coal).cs ++ [vI b] ++ List.drop 6 (rmC x coal).cs = (rmC x b).cs := rfl
          simp only [gos, eq_self, Nat.reduceLT, Nat.reduceEqDiff, Nat.reduceAdd, Nat.reduceLeDiff, reduceCtorEq, reduceIte, ↓reduceIte, tt, vgo, vout, vguard, callOf, vop, ev, vload, rms, e2]
          refine Cl.pu (c_Room (rmC x b) (hyw _ hb.1)) ?_ rfl (by simp only [V.into, intoL, Bool.and_true, rm_into])
          simp only [gos, eq_self, Nat.reduceLT, Nat.reduceEqDiff, reduceIte, ↓reduceIte, vgo, vout, vguard, callOf, vop, ev]
          refine Cl.pu (c_list9 plan hp) ?_ rfl (by simp only [V.into, intoL, cI_into, Bool.and_true])
          simp only [gos, eq_self, Nat.reduceLT, Nat.reduceEqDiff, reduceIte, ↓reduceIte, vgo, vout, vguard, callOf, ev]
          refine Cl.pu (c_ProvePlan (rmC x b) (hyw _ hb.1) plan hp) ?_ rfl (by simp only [V.into, intoL, vI_into, Bool.and_true, rm_into])
          rw [hpb]
          simp only [gos, eq_self, Nat.reduceLT, reduceIte, ↓reduceIte, vgo, vout, vguard, callOf, vop, ev]
          refine Cl.pu c_awake9 ?_
          simp only [gos, eq_self, Nat.reduceLT, Nat.reduceEqDiff, reduceIte, ↓reduceIte, vgo, vout, vguard, callOf, vop, ev]
          subst hQ
          exact FnPost.plain trivial (v := .bool true) (fun h2 e => by rfl) WkV.refl rfl
end Go.Vm
