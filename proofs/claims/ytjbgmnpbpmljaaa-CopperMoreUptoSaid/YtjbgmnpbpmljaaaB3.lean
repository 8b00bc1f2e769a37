import Derived.Test.YtjbgmnpbpmljaaaB2
import Derived.Test.YtjbgmnpbpmljaaaRows
import Derived.WalkKit
import Derived.ProofKit
import Derived.OpenShut
import Derived.ShutString
import Derived.ChangeOld
import Derived.Below
set_option linter.unusedVariables false
set_option linter.unusedSimpArgs false
set_option maxRecDepth 100000
namespace Go.Vm
open Go.Proofs
/-- A function that makes one block, over whatever heap. -/
theorem NewB.of {P : Program} {fv : V} {args : List V} {v : V} {j : Nat} {e : Ent} (c : Ev P fv args [] fun v' h' => v' = v ∧ h' = [(j, e)]) (hf : fv.into (fun _ => false) = true) (ha : intoL (fun _ => false) args = true) : NewB P fv args v j e := fun h2 h2j =>
  (c.frame' h2 (fun _ => rfl) (fun i e he => by cases he) hf ha rfl (fun v h' hh i e he => by
    obtain ⟨_, rfl⟩ := hh
    simp only [Heap.get] at he
    split at he
    · rename_i hi; subst hi; exact h2j
    · cases he)).mono fun v h'' hh => by
      obtain ⟨h', ⟨a, rfl⟩, rfl⟩ := hh
      exact ⟨a, fun i => by rw [Heap.get_set]; simp only [List.cons_append, List.nil_append, Heap.get]⟩
theorem Cl.new {P : Program} {tt : Tab} {fz : Nat → Bool} {cl : Cl0} {b : Frame} {N : Nat} {p : Nat → Bool} {Q : Post} {k : List Itm} {ρ : Env} {D : List Nat} {h : Heap} {all os : List Oper} {d : Option Nat} {fv : V} {args : List V} {v : V} {j : Nat} {e : Ent}
    (nb : NewB P fv args v j e) (hj : h.get j = none) (r : ∀ h', HEq' h' (h.set j e) → RL P tt fz cl b N p Q all os k (ρ.put d v) D h') : Cl P tt fz cl b N p Q all d fv args os k ρ D h :=
  Cl.mk (nb h hj) fun v' h' ⟨e1, e2⟩ => by subst e1; exact r h' e2
theorem Cl.newN {P : Program} {tt : Tab} {fz : Nat → Bool} {cl : Cl0} {b : Frame} {N : Nat} {p : Nat → Bool} {Q : Post} {k : List Itm} {ρ : Env} {D : List Nat} {h : Heap} {all os : List Oper} {d : Option Nat} {fv : V} {args : List V} {v : V} {j : Nat} {e : Ent}
    (nb : NewB P fv args v j e) (hj : h.get j = none) (r : RL P tt fz cl b N p Q all os k (ρ.put d v) D (h.set j e)) : Cl P tt fz cl b N p Q all d fv args os k ρ D h :=
  Ev.mono ((nb h hj).norm (R2 := fun v' h'' => v' = v ∧ h'' = h.set j e) fun v' h' ⟨e1, e2⟩ => ⟨h.set j e, e2, e1, rfl⟩) fun v' h' ⟨e1, e2⟩ => by
    subst e1; subst e2; exact r
section
variable {P : Program} {tt : Tab} {fz : Nat → Bool} {cl : Cl0} {b : Frame} {N : Nat} {p : Nat → Bool} {Q : Post} {k : List Itm} {ρ ρ' : Env} {D : List Nat} {h h' : Heap}
/-- Ahead of a region that draws, what is known is said anew. -/
theorem Wr.exd (K : TabOk P tt) (hm : P.follows .mixedOrders = true) {tag : Nat → Nat} {cls : List Cls} {id : Nat} {ops : Array Oper} (wk : Wk (orD p D) ρ h ρ' h') (w : Wr P tt fz cl b N p Q (.d tag cls) id ops true k ρ' D h') : Wr P tt fz cl b N p Q .ex id ops true k ρ D h :=
  Ex.weaken wk (Ex.draw K hm fz _ _ w.2.1 w.2.2)
end
theorem c_list0 (l : List Int) (hl : (l.length : Int) ≤ 1000000) : Ev Try.prog (.fn 28 [] []) [vI l] [] fun v h' => v = .own 5 0 0 1 l.length ∧ h' = [(5, ⟨0, .row (cI l)⟩)] := by
  refine Ev.fn Try.func28 rfl rfl (Fn.body tabOk Try.func28 rfl (Nat.le_of_ble_eq_true rfl) (Ks.ok (fz := (fzn [])) (cl := (cln [])) tabOk mixed ?_))
  generalize hQ : FnPost tt Try.f28 _ _ = Q
  simp only [Try.f28, List.nil_append, List.append_nil, argsEnv]
  have hl2 : l.length ≤ 1000000 := by omega
  simp only [gos, eq_self, Nat.reduceLT, Nat.reduceEqDiff, Nat.reduceLeDiff, reduceCtorEq, reduceIte, ↓reduceIte, tt, vgo, vout, vguard, callOf, vop, ev, cv, vfill, vappend, srcOf, vI, cI_len, Nat.mul_one, cI_one, hl2]
  subst hQ
  exact FnPost.plain trivial (v := .own 5 0 0 1 l.length) (fun h2 e => by rfl) WkV.refl ⟨rfl, rfl⟩
theorem n_list (l : List Int) (hl : (l.length : Int) ≤ 1000000) : NewB Try.prog (.fn 28 [] []) [vI l] (.own 5 0 0 1 l.length) 5 ⟨0, .row (cI l)⟩ := NewB.of (c_list0 l hl) rfl (by simp only [intoL, vI_into, Bool.and_true])
set_option maxHeartbeats 2000000 in
theorem c_rNth0 (c : Cu) (k0 : CuOk c) (n : Int) (hn : 0 ≤ n ∧ n ≤ 100000) : Ev Try.prog (.fn 46 [] []) [.agg c.cs, vi n] [] fun v h' => v = .agg [vi (rNth c n).heat, .own 45 c.loss.length 0 1 c.loss.length] ∧ h' = [(45, ⟨c.loss.length, .row (cI (rNth c n).loss)⟩)] := by
  have hll := k0.loss.1
  have hlast := k0.last
  have hin := k0.heat
  have hz := size_le hin
  simp only [sInside, Bool.and_eq_true, decide_eq_true_eq] at hin
  have hs : ∀ r ∈ c.loss, 1 ≤ sSize r := fun r hr => (size_le (k0.loss.2 r hr)).1
  refine Ev.fn Try.func46 rfl rfl (Fn.body tabOk Try.func46 rfl (Nat.le_of_ble_eq_true rfl) (Ks.ok (fz := (fzn [4, 5, 7])) (cl := (cln [(1, .d tg0 [cP, cP, cP, cP, cP, cP, cP, cP, cP, cP, cW, cW]), (7, .d (tgL [(45, 1)]) [cP, cL, cP, cL, cP, cL, cP, cP, cP, cP, some ([1], [1]), cP, cW])])) tabOk mixed ?_))
  generalize hQ : FnPost tt Try.f46 _ _ = Q
  simp only [Try.f46, List.nil_append, List.append_nil, argsEnv, Nat.reduceAdd]
  simp only [gos, eq_self, Nat.reduceLT, Nat.reduceEqDiff, reduceCtorEq, reduceIte, ↓reduceIte, tt, vgo, vout, vguard, callOf, vop, ev, newRow]
  refine Wr.draw (by kernel_rfl) ?_
  simp only [gos, eq_self, Nat.reduceLT, Nat.reduceEqDiff, Nat.reduceAdd, Nat.reduceLeDiff, reduceCtorEq, reduceIte, ↓reduceIte, tt, vgoD, voutD, vclsOk, vids, mayWrite, V.ids, vguard, callOf, vop, ev, vload, clsAt]
  refine CD.pu (c_rSize c.heat ⟨by omega, by omega⟩ ⟨by omega, by omega⟩) ?_
  have hs0 : ¬ sSize c.heat = 0 := by omega
  have hm := tmod_le hn.1 hz.1
  have hd0 : 0 ≤ n.tdiv (sSize c.heat) := Int.tdiv_nonneg hn.1 (by omega)
  have hd9 := Int.tdiv_le_self (sSize c.heat) hn.1
  simp only [gos, eq_self, Nat.reduceLT, Nat.reduceEqDiff, Nat.reduceAdd, Nat.reduceLeDiff, reduceCtorEq, reduceIte, ↓reduceIte, tt, vgo, vout, vgoD, voutD, vclsOk, vids, mayWrite, V.ids, vguard, callOf, vop, ev, vbin, vint, isShift, isNilConst, vload, newRow, vfill, hs0, i64_in (show -9223372036854775808 ≤ c.heat.lo + n.tmod (sSize c.heat) by omega) (show c.heat.lo + n.tmod (sSize c.heat) ≤ 9223372036854775807 by omega)]
  refine Cl.pu (c_rSize c.heat ⟨by omega, by omega⟩ ⟨by omega, by omega⟩) ?_
  simp only [gos, eq_self, Nat.reduceLT, Nat.reduceEqDiff, reduceIte, ↓reduceIte, vgo, vout, vguard, callOf, vop, ev, cv, vbin, vint, isShift, isNilConst, hs0, i64_in (show -9223372036854775808 ≤ n.tdiv (sSize c.heat) by omega) (show n.tdiv (sSize c.heat) ≤ 9223372036854775807 by omega)]
  refine W.loop tabOk mixed (fun i : Nat => ([(1, vi (nthQ (c.loss.take i) (n.tdiv (sSize c.heat)))), (2, .rop c.cs), (4, .ptr 4 0 0), (5, .ptr 5 0 0), (6, vi i)], [(4, ⟨0, .row [vi 0, .sl0]⟩), (5, ⟨0, .row [vi (c.heat.lo + n.tmod (sSize c.heat)), .own 45 i 0 1 i]⟩), (45, ⟨i, .row (cI (nthL (c.loss.take i) (n.tdiv (sSize c.heat))))⟩)])) (fun i => c.loss.length - i) (fun i => i ≤ c.loss.length) 0 (by omega)
    (Wk.trans (Wk.sl0H 5 1 45 1 rfl rfl rfl) (Wk.env (by simp [subE, Env.get, nthQ]))) ?_
  intro i hi
  by_cases hil : (i : Int) < c.loss.length
  · have hir := size_le (k0.loss.2 _ (List.mem_of_getElem? (gR_get hil)))
    have hirl := k0.loss.2 _ (List.mem_of_getElem? (gR_get hil))
    simp only [sInside, Bool.and_eq_true, decide_eq_true_eq] at hirl
    have hq := nthQ_le (c.loss.take i) (n.tdiv (sSize c.heat)) hd0 fun r hr => hs r (List.mem_of_mem_take hr)
    have hmm := tmod_le hq.1 hir.1
    have hn1 : (cI (nthL (c.loss.take i) (n.tdiv (sSize c.heat)))).length = i := by rw [cI_len, nthL_len, List.length_take]; omega
    have hi9 : i ≤ 999999 := by omega
    have hs1 : ¬ sSize (gR c.loss i) = 0 := by omega
    simp only [gos, eq_self, Nat.reduceLT, Nat.reduceEqDiff, Nat.reduceAdd, reduceCtorEq, reduceIte, ↓reduceIte, tt, vgo, vout, vguard, callOf, vop, ev, vbin, vint, isShift, isNilConst, vload, vlen, newRow, vR, hil, cR_at (Int.natCast_nonneg i) hil]
    refine Wr.draw (by kernel_rfl) ?_
    simp only [gos, eq_self, Nat.reduceLT, Nat.reduceEqDiff, Nat.reduceAdd, reduceCtorEq, reduceIte, ↓reduceIte, tt, vgoD, voutD, vclsOk, vids, mayWrite, V.ids, vguard, callOf, vop, ev, vload, clsAt]
    refine CD.pu (c_rSize (gR c.loss i) ⟨by omega, by omega⟩ ⟨by omega, by omega⟩) ?_
    have hQL : nthL (c.loss.take (i + 1)) (n.tdiv (sSize c.heat)) = nthL (c.loss.take i) (n.tdiv (sSize c.heat)) ++ [(gR c.loss i).lo + (nthQ (c.loss.take i) (n.tdiv (sSize c.heat))).tmod (sSize (gR c.loss i))] := by rw [take_snocR hil, nthL_snoc]
    have hQQ : nthQ (c.loss.take (i + 1)) (n.tdiv (sSize c.heat)) = (nthQ (c.loss.take i) (n.tdiv (sSize c.heat))).tdiv (sSize (gR c.loss i)) := by rw [take_snocR hil, nthQ_snoc]
    generalize nthQ (c.loss.take i) (n.tdiv (sSize c.heat)) = q at hq hmm hQL hQQ ⊢
    have hq0 : 0 ≤ q.tdiv (sSize (gR c.loss i)) := Int.tdiv_nonneg hq.1 (by omega)
    have hq9 := Int.tdiv_le_self (sSize (gR c.loss i)) hq.1
    simp only [gos, eq_self, Nat.reduceLT, Nat.reduceEqDiff, Nat.reduceAdd, Nat.reduceLeDiff, reduceCtorEq, reduceIte, ↓reduceIte, tt, vgo, vout, vgoD, voutD, vclsOk, vids, mayWrite, V.ids, vguard, callOf, vop, ev, vbin, vint, isShift, isNilConst, vload, vfill, vappend, srcOf, hs1, hn1, hi9, Nat.mul_one, i64_in (show -9223372036854775808 ≤ (gR c.loss i).lo + q.tmod (sSize (gR c.loss i)) by omega) (show (gR c.loss i).lo + q.tmod (sSize (gR c.loss i)) ≤ 9223372036854775807 by omega)]
    refine Cl.pu (c_rSize (gR c.loss i) ⟨by omega, by omega⟩ ⟨by omega, by omega⟩) ?_
    simp only [gos, eq_self, Nat.reduceLT, Nat.reduceEqDiff, reduceIte, ↓reduceIte, vgo, vout, vguard, callOf, vop, ev, cv, vbin, vint, isShift, isNilConst, hs1, i64_in (show -9223372036854775808 ≤ q.tdiv (sSize (gR c.loss i)) by omega) (show q.tdiv (sSize (gR c.loss i)) ≤ 9223372036854775807 by omega)]
    refine Nx.mk (i + 1) (show c.loss.length - (i + 1) < c.loss.length - i by omega) (by omega) (Wk.forget ?_ ?_ (fun j hp => by simp [orD, domP, Heap.get] at hp) ?_ ?_)
    · simp [subE, Env.get, hQQ, i64_succ (show (i : Int) < 9223372036854775807 by omega)]
    · rw [hQL, cI_snoc]
      simp [subH, Heap.get]
    · simp only [intoE, V.into, cu_into, Bool.true_and, Bool.and_true, domP, Heap.get]; rfl
    · simp only [intoH, Blk.into, V.into, intoL, cI_into, Bool.true_and, Bool.and_true, domP, Heap.get]; rfl
  · have hie : i = c.loss.length := by omega
    have e : c.loss.take i = c.loss := List.take_of_length_le (by omega)
    simp only [gos, eq_self, Nat.reduceLT, Nat.reduceEqDiff, Nat.reduceAdd, reduceCtorEq, reduceIte, ↓reduceIte, tt, vgo, vout, vguard, callOf, vop, ev, vbin, vint, isShift, isNilConst, vload, vlen, vR, hil]
    rw [e]
    have hl := nthL_len c.loss (n.tdiv (sSize c.heat))
    subst hQ
    rw [hie]
    refine FnPost.plain trivial (v := .agg [vi (c.heat.lo + n.tmod (sSize c.heat)), .own 45 c.loss.length 0 1 c.loss.length]) (fun h2 e => by simp only [Try.f46, vres, vresL, vres1, gos, eq_self, Nat.reduceLT, Nat.reduceEqDiff, Nat.reduceAdd, reduceCtorEq, reduceIte, ↓reduceIte, tt, vload, e _]) (WkV.forgetF (h' := [(45, ⟨c.loss.length, .row (cI (rNth c n).loss)⟩)]) (fun j e he => ?_) (fun j hj => by cases hj) rfl ?_) ⟨rfl, rfl⟩
    · simp only [Heap.get] at he ⊢
      split at he
      · rename_i h45; subst h45; exact he
      · cases he
    · simp only [intoH, Blk.into, cI_into, Bool.and_self]
theorem n_rNth (c : Cu) (k0 : CuOk c) (n : Int) (hn : 0 ≤ n ∧ n ≤ 100000) : NewB Try.prog (.fn 46 [] []) [.agg c.cs, vi n] (.agg [vi (rNth c n).heat, .own 45 c.loss.length 0 1 c.loss.length]) 45 ⟨c.loss.length, .row (cI (rNth c n).loss)⟩ := NewB.of (c_rNth0 c k0 n hn) rfl (by simp only [V.into, intoL, cu_into, Bool.and_true])
end Go.Vm

set_option linter.unusedVariables false
set_option linter.unusedSimpArgs false
set_option maxRecDepth 100000
namespace Go.Vm
/-! ### plain laws of one truth -/
theorem chk_of {c : Cu} (k : CuOk c) : sCheck c = 0 := by
  have h1 := k.last; have h2 := k.rds; have h3 := k.most; have h4 := k.start; have h5 := k.per; have h6 := k.shovels; have h7 := k.many
  have b1 : sBad1 c = false := by
    simp only [sBad1, Bool.or_eq_false_iff, Bool.not_eq_false', decide_eq_false_iff_not, sIn, Bool.and_eq_true, decide_eq_true_eq]
    omega
  have b2 : sBad2 c = false := by
    simp only [sBad2, Bool.or_eq_false_iff, Bool.not_eq_false', decide_eq_false_iff_not, sIsCoal, sPromised, sIn, Bool.and_eq_true, decide_eq_true_eq, List.all_eq_true, ne_eq, Decidable.not_not]
    exact ⟨⟨⟨⟨⟨k.coal, k.want⟩, k.heat⟩, k.loss.1⟩, k.loss.2⟩, k.readings⟩
  rw [sCheck, if_neg (by omega), if_neg (by simp [b1]), if_neg (by simp [b2]), if_neg (by omega)]
theorem listed_sc {c : Cu} (k : CuOk c) {t : Tr2} : sScOk c t = true ↔ Listed c t := by
  have h1 := k.loss.1; have h2 := k.last
  simp only [sScOk, Bool.and_eq_true, decide_eq_true_eq, List.all_eq_true, List.mem_range, sIn]
  constructor
  · rintro ⟨⟨a, b⟩, d⟩
    exact ⟨a, by omega, fun i hi => d i (by omega)⟩
  · rintro ⟨a, b, d⟩
    exact ⟨⟨a, by omega⟩, fun i hi => d i (by omega)⟩
/-- The run of other coppers with the same bounds. -/
theorem sPlay_cu (c x : Cu) (h1 : x.start = c.start) (h2 : x.most = c.most) (h3 : x.per = c.per) (s : Sc) (coal want : List Int) : ∀ n, sPlay x s coal want n = sPlay c s coal want n
  | 0 => by simp only [sPlay, h1]
  | n + 1 => by simp only [sPlay, sPlay_cu c x h1 h2 h3 s coal want n, h2, h3]
theorem sHeat_cu (c x : Cu) (h1 : x.start = c.start) (h2 : x.most = c.most) (h3 : x.per = c.per) (s : Sc) (coal want : List Int) (n : Nat) : sHeat x s coal want n = sHeat c s coal want n := by
  simp only [sHeat, sPlay_cu c x h1 h2 h3, h2]
theorem tdiv_mono {a b p : Int} (h0 : 0 ≤ a) (hab : a ≤ b) (hp : 1 ≤ p) : a.tdiv p ≤ b.tdiv p := by
  rw [Int.tdiv_eq_ediv_of_nonneg h0, Int.tdiv_eq_ediv_of_nonneg (by omega)]
  exact Int.ediv_le_ediv (by omega) hab
theorem mul_le_of_tdiv {w a p : Int} (h0 : 0 ≤ a) (hp : 1 ≤ p) (h : w ≤ a.tdiv p) : w * p ≤ a := by
  rw [Int.tdiv_eq_ediv_of_nonneg h0] at h
  exact Int.mul_le_of_le_ediv (by omega) h
/-- Warmer: more heat, smaller losses, more coal. -/
structure Warm (s s' : Sc) (coal coal' : List Int) (n : Nat) : Prop where
  heat : 0 ≤ s.heat ∧ s.heat ≤ s'.heat
  loss : ∀ i, i < n → gi s'.loss i ≤ gi s.loss i
  coal : ∀ i, i < n → 0 ≤ gi coal i ∧ gi coal i ≤ gi coal' i
theorem warm_heat {c : Cu} {s s' : Sc} {coal coal' want : List Int} {n : Nat} (w : Warm s s' coal coal' n) {i : Nat} (hi : i < n) (h : (sPlay c s coal want i).1 ≤ (sPlay c s' coal' want i).1) : sHeat c s coal want i ≤ sHeat c s' coal' want i := by
  have h1 := w.loss i hi
  have h2 := w.coal i hi
  have h3 : gi coal i * s.heat ≤ gi coal' i * s'.heat := Int.mul_le_mul h2.2 w.heat.2 w.heat.1 (by omega)
  simp only [sHeat]
  omega
theorem warm_play {c : Cu} {s s' : Sc} {coal coal' want : List Int} {n : Nat} (hp : 1 ≤ c.per) (w : Warm s s' coal coal' n) : ∀ i, i ≤ n → (sPlay c s coal want i).1 ≤ (sPlay c s' coal' want i).1
  | 0, _ => Int.le_refl _
  | i + 1, hi => by
    have ih := warm_heat w (show i < n by omega) (warm_play (want := want) hp w i (by omega))
    have h0 : 0 ≤ sHeat c s coal want i := by simp only [sHeat]; omega
    have h1 : 0 ≤ sHeat c s' coal' want i := by simp only [sHeat]; omega
    have hm := tdiv_mono h0 ih hp
    rw [sPlay_heat, sPlay_heat]
    by_cases hk : gi want i ≤ (sHeat c s coal want i).tdiv c.per
    · rw [if_pos hk, if_pos (by omega)]; omega
    · rw [if_neg hk]
      split
      · rename_i hk2
        have := mul_le_of_tdiv h1 hp hk2
        omega
      · omega
/-- The first i losses are the smaller ones. -/
def sMix (a b : List Int) : Nat → List Int
  | 0 => b
  | i + 1 => (sMix a b i).set i (min (gi a i) (gi (sMix a b i) i))
theorem sMix_len (a b : List Int) : ∀ i, (sMix a b i).length = b.length
  | 0 => rfl
  | i + 1 => by rw [sMix, List.length_set, sMix_len a b i]
theorem sMix_ge (a b : List Int) : ∀ (i j : Nat), i ≤ j → gi (sMix a b i) j = gi b j
  | 0, _, _ => rfl
  | i + 1, j, h => by rw [sMix, gi_set_ne _ (by omega), sMix_ge a b i j (by omega)]
theorem sMix_lt (a b : List Int) : ∀ (i j : Nat), j < i → i ≤ b.length → gi (sMix a b i) j = min (gi a j) (gi b j)
  | 0, _, h, _ => by omega
  | i + 1, j, h, hb => by
    rw [sMix]
    by_cases e : j = i
    · subst e
      rw [gi_set_self _ (by rw [sMix_len]; omega), sMix_ge a b j j (by omega)]
    · rw [gi_set_ne _ (by omega), sMix_lt a b i j (by omega) (by omega)]
end Go.Vm

set_option linter.unusedVariables false
set_option linter.unusedSimpArgs false
set_option maxRecDepth 100000
namespace Go.Vm
open Go.Proofs Go.ChangeShapes Go.WideShapes Go.ChangeAt Go.RowKit
/-! ### from a contract to the row -/
def gh0 (w : World) : Gh := ⟨fun _ _ => none, fun B o => w.cell? ⟨B, o, none⟩⟩
theorem VRC_of {g : Gh} {B : Nat} : ∀ {l : List V} {vs : List Value} {o : Nat}, VRL g l vs → (∀ j v, vs[j]? = some v → g.ro B (o + j) = some v) → VRC g B o l
  | [], _, _, _, _ => by simp only [VRC]
  | c :: l, vs, o, h, hv => by
    simp only [VRL] at h
    obtain ⟨v, vs', rfl, h1, h2⟩ := h
    simp only [VRC]
    refine ⟨⟨v, hv 0 v rfl, h1⟩, VRC_of h2 fun j x hx => ?_⟩
    rw [show o + 1 + j = o + (j + 1) by omega]
    exact hv (j + 1) x (by simpa using hx)
theorem VRC_append {g : Gh} {B : Nat} : ∀ {l m : List V} {o : Nat}, VRC g B o l → VRC g B (o + l.length) m → VRC g B o (l ++ m)
  | [], m, o, _, h => by simpa using h
  | c :: l, m, o, h1, h2 => by
    simp only [VRC, List.cons_append] at h1 ⊢
    exact ⟨h1.1, VRC_append h1.2 (by rw [show o + 1 + l.length = o + (c :: l).length by simp; omega]; exact h2)⟩
theorem VRL_len {g : Gh} {l : List V} {vs : List Value} (h : VRL g l vs) : l.length = vs.length := h.length.symm
section
variable {H : Type} {enc : TypeId × Value → H} {P : Program} {w : World} {base : Nat} {spare : Nat → Bool} {held : Bool} {fuel : Nat} {t : TypeId} {cs : List Value} {x : DataW H × List MemPlace}
/-- A slice that came in. -/
theorem rd_slice {α : Type} {e : TypeId} (en : α → List V) (Pa : α → Prop) (s : Nat) (ht : P.underlying t = some (.slice e)) (hs : P.cellsOf e = s) (hpos : 0 < s) (hen : ∀ a, (en a).length = s)
    (h : DataW.trod enc P w base spare held fuel t cs = some x) (he : ∀ n cs x, DataW.trod enc P w base spare held n e cs = some x → ∃ a, Pa a ∧ VRL (gh0 w) (en a) cs) :
    ∃ l : List α, (∀ a ∈ l, Pa a) ∧ l.length ≤ maxLen ∧ VRL (gh0 w) [.ro l.length (l.flatMap en)] cs := by
  rcases DataW.trod_slice ht h with ⟨rfl, _⟩ | ⟨a, len, cap, elems, rest, n, _, rfl, _, hb, hlc, hmx, hel, hat, _, _⟩
  · exact ⟨[], by simp, Nat.zero_le _, VRL.cons (by simp only [VR]; exact ⟨none, 0, rfl, Nat.le_refl _, .inl ⟨rfl, rfl⟩⟩) VRL.nil⟩
  · rw [hs] at hat
    by_cases h0 : len = 0
    · subst h0
      exact ⟨[], by simp, Nat.zero_le _, VRL.cons (by simp only [VR]; exact ⟨some a, cap, rfl, Nat.zero_le _, .inl ⟨rfl, rfl⟩⟩) VRL.nil⟩
    · have hcell : ∀ i, i < len → ∃ (c : List Value), w.cells? base (a.add (i * s)) s = some c ∧ ∃ y, DataW.trod enc P w base spare held n e c = some y := fun i hi => by
        have h1 := hat i hi
        have h2 : elems[i]? = some elems[i] := List.getElem?_eq_getElem (by omega)
        rw [h2] at h1
        simp only [Option.bind_eq_some_iff] at h1
        obtain ⟨c, h3, h4⟩ := h1
        exact ⟨c, h3, _, h4⟩
      have hcells : ∀ (b : Addr) (c : List Value), w.cells? base b s = some c → ∀ j v, c[j]? = some v → w.cell? (b.add j) = some v := fun b c hc j v hv => by
        unfold World.cells? at hc
        split at hc
        · have hl := mapM_some_length hc
          simp only [List.length_range] at hl
          have hj : j < s := by have := (List.getElem?_eq_some_iff.1 hv).1; omega
          have := mapM_some_get hc j j (by simp [hj])
          rw [this, hv]
        · cases hc
      obtain ⟨b, off, spot⟩ := a
      have hspot : spot = none := by
        obtain ⟨c, h1, y, h2⟩ := hcell 0 (by omega)
        have hl : 0 < c.length := by
          obtain ⟨a', _, ha⟩ := he n c y h2
          rw [← VRL_len ha, hen]; exact hpos
        have := hcells _ c h1 0 c[0] (List.getElem?_eq_getElem hl)
        simpa [Addr.add] using World.cell?_spot this
      subst hspot
      have build : ∀ k, k ≤ len → ∃ l : List α, (∀ a ∈ l, Pa a) ∧ l.length = k ∧ (l.flatMap en).length = k * s ∧ VRC (gh0 w) b off (l.flatMap en) := fun k => by
        induction k with
        | zero => intro _; exact ⟨[], by simp, rfl, by simp, by simp only [List.flatMap_nil, VRC]⟩
        | succ k ih =>
          intro hk
          obtain ⟨l, h1, h2, h3, h4⟩ := ih (by omega)
          obtain ⟨c, h5, y, h6⟩ := hcell k (by omega)
          obtain ⟨a', h7, h8⟩ := he n c y h6
          refine ⟨l ++ [a'], ?_, by simp [h2], ?_, ?_⟩
          · intro z hz
            simp only [List.mem_append, List.mem_singleton] at hz
            rcases hz with hz | rfl
            · exact h1 z hz
            · exact h7
          · rw [List.flatMap_append, List.length_append, h3, List.flatMap_singleton, hen, Nat.add_mul]; omega
          · rw [List.flatMap_append, List.flatMap_singleton]
            refine VRC_append h4 (VRC_of h8 fun j v hv => ?_)
            have := hcells _ c h5 j v hv
            rw [h3]
            rw [add_plain, add_plain] at this
            exact this
      obtain ⟨l, h1, h2, h3, h4⟩ := build len (Nat.le_refl _)
      refine ⟨l, h1, by omega, VRL.cons ?_ VRL.nil⟩
      simp only [VR]
      exact ⟨some ⟨b, off, none⟩, cap, by rw [h2], by omega, .inr ⟨b, off, rfl, h4⟩⟩
theorem I64_of {n : Int} (h : (Lit.int .i64 n).wf = true) : I64 n := bounds_i64 h
theorem rd_int (ht : P.underlying t = some (.int .i64)) (h : DataW.trod enc P w base spare held fuel t cs = some x) : ∃ n, I64 n ∧ VRL (gh0 w) [vi n] cs := by
  obtain ⟨n, rfl, _, h2⟩ := DataW.trod_int ht h
  exact ⟨n, I64_of h2, VRL.cons (by simp only [VR]) VRL.nil⟩
theorem rd_ints (ht : P.underlying t = some (.slice 3)) (hi : P.underlying 3 = some (.int .i64)) (hc : P.cellsOf 3 = 1) (h : DataW.trod enc P w base spare held fuel t cs = some x) :
    ∃ l : List Int, (∀ n ∈ l, I64 n) ∧ l.length ≤ maxLen ∧ VRL (gh0 w) [vI l] cs := by
  obtain ⟨l, h1, h2, h3⟩ := rd_slice (fun n : Int => [vi n]) I64 1 ht hc (by omega) (fun _ => rfl) h fun n cs x h => rd_int hi h
  have e : l.flatMap (fun n : Int => [vi n]) = cI l := by
    clear h1 h2 h3
    induction l with
    | nil => rfl
    | cons y l ih => simp only [List.flatMap_cons, cI, List.map_cons, List.singleton_append] at ih ⊢; rw [ih]
  rw [e] at h3
  exact ⟨l, h1, h2, h3⟩
end
section
variable {H : Type} {enc : TypeId × Value → H} {w : World} {base : Nat} {spare : Nat → Bool} {held : Bool} {fuel : Nat} {cs : List Value} {x : DataW H × List MemPlace}
def Rg.ok (r : Rg) : Prop := I64 r.lo ∧ I64 r.hi
def Rd.ok (r : Rd) : Prop := I64 r.hour ∧ r.b.ok
theorem VRL_two {g : Gh} {a b : List V} {vs : List Value} {n : Nat} (h1 : VRL g a (vs.take n)) (h2 : VRL g b (vs.drop n)) : VRL g (a ++ b) vs := by
  have := VRL.append h1 h2
  rwa [List.take_append_drop] at this
/-- What is known of coppers that came in. -/
structure Cu.ok (c : Cu) : Prop where
  last : I64 c.last
  start : I64 c.start
  most : I64 c.most
  per : I64 c.per
  shovels : I64 c.shovels
  coal : ∀ n ∈ c.coal, I64 n
  want : ∀ n ∈ c.want, I64 n
  heat : c.heat.ok
  loss : ∀ r ∈ c.loss, r.ok
  readings : ∀ r ∈ c.readings, r.ok
end
end Go.Vm

set_option linter.unusedVariables false
set_option linter.unusedSimpArgs false
set_option maxRecDepth 100000
namespace Go.Vm
open Go.Proofs Go.ChangeShapes Go.WideShapes Go.ChangeAt Go.RowKit
theorem VRL.one {g : Gh} {c : V} {v : Value} (h : VRL g [c] [v]) : VR g c v := by
  simp only [VRL] at h
  obtain ⟨x, l, e, h1, h2⟩ := h
  injection e with e1 e2
  subst e1; exact h1
def cW16 (l : List Int) : List V := l.map fun n => .int .u16 n
def vW (l : List Int) : V := .ro l.length (cW16 l)
def Tr2.ok (t : Tr2) : Prop := I64 t.heat ∧ ∀ n ∈ t.loss, I64 n
section
variable {H : Type} {enc : TypeId × Value → H} {w : World} {base : Nat} {spare : Nat → Bool} {held : Bool} {fuel : Nat} {cs : List Value} {x : DataW H × List MemPlace}
theorem rd_ints1 (h : DataW.trod enc Try.prog w base spare held fuel 22 cs = some x) : ∃ l : List Int, (∀ n ∈ l, I64 n) ∧ VRL (gh0 w) [vI l] cs := by
  obtain ⟨l, h1, _, h3⟩ := rd_ints Try.underlying22 Try.underlying3 (by kernel_rfl) h
  exact ⟨l, h1, h3⟩
theorem rd_u16 (h : DataW.trod enc Try.prog w base spare held fuel 70 cs = some x) : ∃ n : Int, (0 ≤ n ∧ n ≤ 65535) ∧ VRL (gh0 w) [.int .u16 n] cs := by
  obtain ⟨n, rfl, _, h2⟩ := DataW.trod_int Try.underlying70 h
  exact ⟨n, bounds_u16 h2, VRL.cons (by simp only [VR]) VRL.nil⟩
theorem rd_u8 (h : DataW.trod enc Try.prog w base spare held fuel 5 cs = some x) : ∃ n : Int, (0 ≤ n ∧ n ≤ 255) ∧ VRL (gh0 w) [.int .u8 n] cs := by
  obtain ⟨n, rfl, _, h2⟩ := DataW.trod_int Try.underlying5 h
  exact ⟨n, bounds_u8 h2, VRL.cons (by simp only [VR]) VRL.nil⟩
theorem rd_words (h : DataW.trod enc Try.prog w base spare held fuel 78 cs = some x) : ∃ l : List Int, (∀ n ∈ l, 0 ≤ n ∧ n ≤ 65535) ∧ VRL (gh0 w) [vW l] cs := by
  obtain ⟨l, h1, h2, h3⟩ := rd_slice (fun n : Int => [V.int .u16 n]) (fun n => 0 ≤ n ∧ n ≤ 65535) 1 Try.underlying78 (by kernel_rfl) (by omega) (fun _ => rfl) h fun n cs x h => rd_u16 h
  have e : l.flatMap (fun n : Int => [V.int .u16 n]) = cW16 l := by
    clear h1 h2 h3
    induction l with
    | nil => rfl
    | cons y l ih => simp only [List.flatMap_cons, cW16, List.map_cons, List.singleton_append] at ih ⊢; rw [ih]
  rw [e] at h3
  exact ⟨l, h1, h3⟩
theorem rd_tr (h : DataW.trod enc Try.prog w base spare held fuel 66 cs = some x) : ∃ t : Tr2, t.ok ∧ VRL (gh0 w) t.cs cs := by
  obtain ⟨xs, n, _, _, hl, hx, hf⟩ := DataW.trod_struct Try.underlying66 h
  have hl2 : cs.length = 2 := hl.trans (by kernel_rfl)
  have hx2 : xs.length = 2 := hx
  have f0 : DataW.trod enc Try.prog w base spare held n 3 ((cs.drop 0).take (Try.prog.cellsOf 3)) = xs[0]? := hf 0 _ rfl
  have f1 : DataW.trod enc Try.prog w base spare held n 22 ((cs.drop 1).take (Try.prog.cellsOf 22)) = xs[1]? := hf 1 _ rfl
  rw [List.getElem?_eq_getElem (by omega)] at f0 f1
  obtain ⟨a, ha, va⟩ := rd_int Try.underlying3 f0
  obtain ⟨b, hb, vb⟩ := rd_ints1 f1
  refine ⟨⟨a, b⟩, ⟨ha, hb⟩, ?_⟩
  have hc : Try.prog.cellsOf 3 = 1 := by kernel_rfl
  have hc2 : Try.prog.cellsOf 22 = 1 := by kernel_rfl
  simp only [hc, hc2, List.drop_zero] at va vb
  rw [List.take_of_length_le (by simp; omega)] at vb
  exact VRL_two va vb
end
end Go.Vm
