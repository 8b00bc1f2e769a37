import Derived.Test.YtjppikcigeiomaaGreatB4
import Derived.Test.YtjppikcigeiomaaGreatRows
import Derived.WalkKit
import Derived.ProofKit
import Derived.OpenShut
import Derived.ShutString
import Derived.ChangeOld
import Derived.Below
set_option linter.unusedVariables false
set_option linter.unusedSimpArgs false
set_option maxRecDepth 100000
namespace Go.Vm
open Go.Proofs Go.ChangeShapes Go.WideShapes Go.ChangeAt Go.RowKit
/-! ### from a contract to the row -/
theorem hrel0 (w : World) : HRel (gh0 w) [] w :=
  ⟨fun B o v e => e, fun i e he => (by cases he), fun i j e e' B c c' he => (by cases he), fun i e B c o he => (by cases he), fun i v h => absurd rfl h⟩
theorem calls_of_fn {P : Program} {f : FuncId} {vs : List V} {xs : List Value} {w : World} (c : Fn P f vs [] fun v h' => v = .bool true) (hv : VRL (gh0 w) vs xs) :
    Calls P f xs.toArray w fun e w' => e = .returned (.bool true) ∧ Below w.heap.size w w' := fun cs => by
  obtain ⟨v, h', vc, g', w', fr, rfl, st, hf, hl, hvc, H', t, le⟩ := c (gh0 w) w xs hv (hrel0 w) cs
  simp only [VR] at hvc
  subst hvc
  exact ⟨.returned (.bool true), w', fr, ⟨rfl, t.os, t.tape, t.output, t.size, fun k hk => t.mods k hk (by rintro ⟨i, e, c, he, _⟩; cases he)⟩, st, hf, hl⟩
section
variable {H : Type} {enc : TypeId × Value → H} {P : Program} {w : World} {base : Nat} {spare : Nat → Bool} {held : Bool} {fuel : Nat} {t : TypeId} {cs : List Value} {x : DataW H × List MemPlace}
end
section
variable {H : Type} {enc : TypeId × Value → H} {w : World} {base : Nat} {spare : Nat → Bool} {held : Bool} {fuel : Nat} {cs : List Value} {x : DataW H × List MemPlace}
end
end Go.Vm

set_option linter.unusedVariables false
set_option linter.unusedSimpArgs false
set_option maxRecDepth 100000
namespace Go.Vm
open Go.Proofs Go.ChangeShapes Go.WideShapes Go.ChangeAt Go.RowKit
section
variable {H : Type} {enc : TypeId × Value → H} {w : World} {base : Nat} {spare : Nat → Bool} {held : Bool} {fuel : Nat} {cs : List Value} {x : DataW H × List MemPlace}
theorem rd_u16 (h : DataW.trod enc Tryz.prog w base spare held fuel 77 cs = some x) : ∃ n : Int, (0 ≤ n ∧ n ≤ 65535) ∧ VRL (gh0 w) [.int .u16 n] cs := by
  obtain ⟨n, rfl, _, h2⟩ := DataW.trod_int Tryz.underlying77 h
  exact ⟨n, bounds_u16 h2, VRL.cons (by simp only [VR]) VRL.nil⟩
theorem rd_u8 (h : DataW.trod enc Tryz.prog w base spare held fuel 5 cs = some x) : ∃ n : Int, (0 ≤ n ∧ n ≤ 255) ∧ VRL (gh0 w) [.int .u8 n] cs := by
  obtain ⟨n, rfl, _, h2⟩ := DataW.trod_int Tryz.underlying5 h
  exact ⟨n, bounds_u8 h2, VRL.cons (by simp only [VR]) VRL.nil⟩
theorem rd_words (h : DataW.trod enc Tryz.prog w base spare held fuel 86 cs = some x) : ∃ l : List Int, (∀ n ∈ l, 0 ≤ n ∧ n ≤ 65535) ∧ VRL (gh0 w) [vW l] cs := by
  obtain ⟨l, h1, h2, h3⟩ := rd_slice (fun n : Int => [V.int .u16 n]) (fun n => 0 ≤ n ∧ n ≤ 65535) 1 Tryz.underlying86 (by kernel_rfl) (by omega) (fun _ => rfl) h fun n cs x h => rd_u16 h
  have e : l.flatMap (fun n : Int => [V.int .u16 n]) = cW16 l := by
    clear h1 h2 h3
    induction l with
    | nil => rfl
    | cons y l ih => simp only [List.flatMap_cons, cW16, List.map_cons, List.singleton_append] at ih ⊢; rw [ih]
  rw [e] at h3
  exact ⟨l, h1, h3⟩
end
end Go.Vm

set_option linter.unusedVariables false
set_option linter.unusedSimpArgs false
set_option maxRecDepth 100000
namespace Go.Vm
/-! ### plain laws of one truth -/
theorem mul_le_of_tdiv {w a p : Int} (h0 : 0 ≤ a) (hp : 1 ≤ p) (h : w ≤ a.tdiv p) : w * p ≤ a := by
  rw [Int.tdiv_eq_ediv_of_nonneg h0] at h
  exact Int.mul_le_of_le_ediv (by omega) h
theorem warm_heat {c : Cu} {s s' : Sc} {coal coal' want : List Int} {n : Nat} (w : Warm s s' coal coal' n) {i : Nat} (hi : i < n) (h : (sPlay c s coal want i).1 ≤ (sPlay c s' coal' want i).1) : sHeat c s coal want i ≤ sHeat c s' coal' want i := by
  have h1 := w.loss i hi
  have h2 := w.coal i hi
  have h3 : gi coal i * s.heat ≤ gi coal' i * s'.heat := Int.mul_le_mul h2.2 w.heat.2 w.heat.1 (by omega)
  simp only [sHeat]
  omega
theorem warm_play {c : Cu} {s s' : Sc} {coal coal' want : List Int} {n : Nat} (hp : 1 ≤ c.per) (w : Warm s s' coal coal' n) : ∀ i, i ≤ n → (sPlay c s coal want i).1 ≤ (sPlay c s' coal' want i).1
  | 0, _ => Int.le_refl _
  | i + 1, hi => by
    have ih := warm_heat w (show i < n by omega) (warm_play (want := want) hp w i (by omega))
    have h0 : 0 ≤ sHeat c s coal want i := by simp only [sHeat]; omega
    have h1 : 0 ≤ sHeat c s' coal' want i := by simp only [sHeat]; omega
    have hm := tdiv_mono h0 ih hp
    rw [sPlay_heat, sPlay_heat]
    by_cases hk : gi want i ≤ (sHeat c s coal want i).tdiv c.per
    · rw [if_pos hk, if_pos (by omega)]; omega
    · rw [if_neg hk]
      split
      · rename_i hk2
        have := mul_le_of_tdiv h1 hp hk2
        omega
      · omega
end Go.Vm

set_option linter.unusedVariables false
set_option linter.unusedSimpArgs false
set_option maxRecDepth 100000
namespace Go.Vm
/-! ### lists that are changed in some places -/
theorem vW_into (p : Nat → Bool) (l : List Int) : (vW l).into p = true := by simp only [vW, V.into]; exact cW16_into p l
end Go.Vm

set_option linter.unusedVariables false
set_option linter.unusedSimpArgs false
set_option maxRecDepth 100000
namespace Go.Vm
/-! ### the least coal: the program's search and the reference's are the same -/
/-! the reference's numbers of coal, in order -/
theorem sure_whole {c : Cu} (k0 : CuOk c) (hne : sTruth c ≠ []) (coal : List Int) : sSureP c coal = decide (rWholes c (rTruths c) coal c.want = 1) := by
  rw [← wholes_same k0 hne]
  have e : ((sTruth c).map fun s => if (sPast c coal c.want s).kept.any (fun y => decide (false = y)) then (0 : Int) else 1) = (sTruth c).map fun s => if sKept c coal c.want s = true then 1 else 0 := by
    apply List.map_congr_left
    intro s _
    by_cases h : ((sPast c coal c.want s).kept.any fun y => decide (false = y)) = true
    · have h2 : sKept c coal c.want s = false := by rw [sKept, h]; rfl
      rw [if_pos h, h2, if_neg (by simp)]
    · have h2 : sKept c coal c.want s = true := by rw [Bool.not_eq_true] at h; rw [sKept, h]; rfl
      rw [if_neg h, h2, if_pos rfl]
  rw [e, sVerdict_01 _ hne, sSureP]
  cases (sTruth c).all fun s => sKept c coal c.want s with
  | true => rfl
  | false => cases (sTruth c).any fun s => sKept c coal c.want s <;> rfl
end Go.Vm

set_option linter.unusedVariables false
set_option linter.unusedSimpArgs false
set_option maxRecDepth 100000
namespace Go.Vm
/-! ### fewer promises, more coal -/
theorem whole_coal {c : Cu} {coal coal' want : List Int} {t : Tr2} (hp : 1 ≤ c.per) (hh : 0 ≤ t.heat) (hc : ∀ i : Nat, i < (c.last + 1).toNat → 0 ≤ gi coal i ∧ gi coal i ≤ gi coal' i) (h : wholeI c coal want t = true) : wholeI c coal' want t = true := by
  rw [whole_iff] at h ⊢
  intro i hi
  have w : Warm (tS t) (tS t) coal coal' (c.last + 1).toNat := ⟨⟨hh, Int.le_refl _⟩, fun i _ => Int.le_refl _, hc⟩
  have hm := tdiv_mono (sHeat_ge c (tS t) coal want i) (warm_heat w hi (warm_play hp w i (by omega))) hp
  have := h i hi
  omega
end Go.Vm

set_option linter.unusedVariables false
set_option linter.unusedSimpArgs false
set_option maxRecDepth 100000
namespace Go.Vm
/-! ### fewer truths -/
theorem SubT.sure {x c : Cu} (S : SubT x c) (X : AskOk x true) (A : AskOk c true) {coal : List Int} (h : sSureP c coal = true) : sSureP x coal = true := by
  have hne : rTruths x ≠ [] := fun e => X.ne ((same_nil X.k0).2 e)
  rw [sure_whole A.k0 A.ne, decide_eq_true_eq] at h
  rw [sure_whole X.k0 X.ne, decide_eq_true_eq, S.want]
  exact S.wholes hne h
/-! which readings are left out -/
end Go.Vm

set_option linter.unusedVariables false
set_option linter.unusedSimpArgs false
set_option maxRecDepth 100000
namespace Go.Vm
open Go.Proofs
theorem c_ProvePlan (r : Rm) (hr : r.wf) (plan : List Int) (hp : (plan.length : Int) ≤ 1000000) : Pu Tryz.prog (.fn 62 [] []) [.agg r.cs, vI plan] (.bool (sProveP r plan)) := by
  refine Ev.fn Tryz.func62 rfl rfl (Fn.body tabOk Tryz.func62 rfl (Nat.le_of_ble_eq_true rfl) (Ks.ok (fz := (fzn [])) (cl := (cln [])) tabOk mixed ?_))
  generalize hQ : FnPost tt Tryz.f62 _ _ = Q
  simp only [Tryz.f62, List.nil_append, List.append_nil, argsEnv, Nat.reduceAdd]
  simp only [gos, eq_self, Nat.reduceLT, Nat.reduceEqDiff, reduceCtorEq, reduceIte, ↓reduceIte, tt, vgo, vout, vguard, callOf, vop, ev, cv, vload, newRow, rms]
  refine Cl.pu (c_bKeeps r hr plan hp) ?_ rfl (by simp only [V.into, intoL, vI_into, Bool.and_true, rm_into])
  by_cases h : (sKeepsR r plan).2 = 0
  · have hd : decide ((sKeepsR r plan).2 = 0) = true := by simp [h]
    simp only [gos, eq_self, Nat.reduceLT, Nat.reduceEqDiff, reduceIte, ↓reduceIte, vgo, vout, vguard, callOf, vop, ev, cv, vbin, vint, isShift, isNilConst, hd]
    subst hQ
    exact FnPost.plain trivial (fun h2 e => by first | rfl | (simp only [Tryz.f62, vres, vresL, vres1, e _, gos, if_true, if_false, ne_eq, eq_self, Nat.reduceLT, Nat.reduceEqDiff, Nat.reduceAdd, Nat.reduceMul, Nat.reduceLeDiff, Nat.reduceBEq, reduceCtorEq, reduceIte, Array.toList, ↓reduceIte, tt, vgo, vout, vgoD, voutD, vclsOk, vids, mayWrite, V.ids, V.mids, vguard, callOf, vop, ev, cv, vbin, vint, isShift, isNilConst, vnil, isNilSlice, vload, vlen, newRow, vfill, vslice, entOf, vappend, srcOf, vcopy, vlookup, vupdate, mapOk, keyOf, intsOf, clsAt]; try rfl)) (WkV.pure (by simp only [V.into])) ⟨by simp [sProveP, h], rfl⟩
  · have hd : decide ((sKeepsR r plan).2 = 0) = false := by simp [h]
    simp only [gos, eq_self, Nat.reduceLT, Nat.reduceEqDiff, reduceIte, ↓reduceIte, vgo, vout, vguard, callOf, vop, ev, cv, vbin, vint, isShift, isNilConst, hd]
    subst hQ
    exact FnPost.plain trivial (fun h2 e => by first | rfl | (simp only [Tryz.f62, vres, vresL, vres1, e _, gos, if_true, if_false, ne_eq, eq_self, Nat.reduceLT, Nat.reduceEqDiff, Nat.reduceAdd, Nat.reduceMul, Nat.reduceLeDiff, Nat.reduceBEq, reduceCtorEq, reduceIte, Array.toList, ↓reduceIte, tt, vgo, vout, vgoD, voutD, vclsOk, vids, mayWrite, V.ids, V.mids, vguard, callOf, vop, ev, cv, vbin, vint, isShift, isNilConst, vnil, isNilSlice, vload, vlen, newRow, vfill, vslice, entOf, vappend, srcOf, vcopy, vlookup, vupdate, mapOk, keyOf, intsOf, clsAt]; try rfl)) (WkV.pure (by simp only [V.into])) ⟨by simp [sProveP, h], rfl⟩
end Go.Vm

set_option linter.unusedVariables false
set_option linter.unusedSimpArgs false
set_option maxRecDepth 100000
namespace Go.Vm
open Go.Proofs
/-! ### the reference of baths: the small functions -/
def sumT (l : List Int) (j : Nat) : Int := (l.take j).foldl (· + ·) 0
theorem sumT_succ {l : List Int} {j : Nat} (h : (j : Int) < l.length) : sumT l (j + 1) = sumT l j + gi l j := by
  rw [sumT, gi_take h, List.foldl_append]; rfl
theorem sumT_le {l : List Int} (hb : ∀ x ∈ l, 0 ≤ x ∧ x ≤ 1000000) : ∀ j : Nat, j ≤ l.length → 0 ≤ sumT l j ∧ sumT l j ≤ 1000000 * j
  | 0, _ => by simp [sumT]
  | j + 1, h => by
    have ih := sumT_le hb j (by omega)
    have := hb _ (gi_mem (l := l) (i := j) (by omega))
    rw [sumT_succ (by omega)]
    omega
theorem c_r9Sum (l : List Int) (hl : (l.length : Int) ≤ 1000000) (hb : ∀ x ∈ l, 0 ≤ x ∧ x ≤ 1000000) : Pu Tryz.prog (.fn 59 [] []) [vI l] (vi (sumT l l.length)) := by
  refine Ev.fn Tryz.func59 rfl rfl (Fn.body tabOk Tryz.func59 rfl (Nat.le_of_ble_eq_true rfl) (Ks.ok (fz := (fzn [])) (cl := (cln [])) tabOk mixed ?_))
  generalize hQ : FnPost tt Tryz.f59 _ _ = Q
  simp only [Tryz.f59, List.nil_append, List.append_nil, argsEnv]
  simp only [gos, eq_self, Nat.reduceLT, reduceIte, ↓reduceIte, vgo, vout, vguard, callOf, vop, ev, cv, vI]
  refine W.loop tabOk mixed (fun j : Nat => ([(0, vI l), (3, vi (sumT l j)), (4, vi j)], [])) (fun j => l.length - j) (fun j => j ≤ l.length) 0 (by omega) (Wk.env (by simp [subE, Env.get, sumT, vI])) ?_
  intro j hj
  have h1 := sumT_le hb j hj
  by_cases hil : (j : Int) < l.length
  · have hx := cI_at (Int.natCast_nonneg j) hil
    rw [Int.toNat_natCast, Nat.mul_one] at hx
    have h2 := hb _ (gi_mem (l := l) (i := j) (by omega))
    have hw := i64_in (show -9223372036854775808 ≤ sumT l j + gi l j by omega) (show sumT l j + gi l j ≤ 9223372036854775807 by omega)
    simp only [gos, eq_self, Nat.reduceLT, Nat.reduceEqDiff, reduceCtorEq, reduceIte, ↓reduceIte, tt, vgo, vout, vguard, callOf, vop, ev, cv, vbin, vint, isShift, isNilConst, vload, vlen, vI, hil, hx, hw, Int.natCast_nonneg, Int.toNat_natCast, Nat.mul_one]
    refine Nx.mk (j + 1) (show l.length - (j + 1) < l.length - j by omega) (show j + 1 ≤ l.length by omega) (Wk.env ?_)
    rw [sumT_succ hil]
    simp [subE, Env.get, i64_succ (show (j : Int) < 9223372036854775807 by omega)]
  · have : j = l.length := by omega
    subst this
    simp only [gos, eq_self, Nat.reduceLT, Nat.reduceEqDiff, reduceCtorEq, reduceIte, ↓reduceIte, tt, vgo, vout, vguard, callOf, vop, ev, vbin, vint, isShift, isNilConst, vlen, vI, hil]
    subst hQ
    exact FnPost.plain trivial (fun h2 e => by first | rfl | (simp only [Tryz.f59, vres, vresL, vres1, e _, gos, if_true, if_false, ne_eq, eq_self, Nat.reduceLT, Nat.reduceEqDiff, Nat.reduceAdd, Nat.reduceMul, Nat.reduceLeDiff, Nat.reduceBEq, reduceCtorEq, reduceIte, Array.toList, ↓reduceIte, tt, vgo, vout, vgoD, voutD, vclsOk, vids, mayWrite, V.ids, V.mids, vguard, callOf, vop, ev, cv, vbin, vint, isShift, isNilConst, vnil, isNilSlice, vload, vlen, newRow, vfill, vslice, entOf, vappend, srcOf, vcopy, vlookup, vupdate, mapOk, keyOf, intsOf, clsAt]; try rfl)) (WkV.pure (by simp only [V.into])) ⟨rfl, rfl⟩
end Go.Vm

set_option linter.unusedVariables false
set_option linter.unusedSimpArgs false
set_option maxRecDepth 100000
namespace Go.Vm
/-! ### what is sure in one room and in another -/
theorem check_of {x : Rm} (ha : sAsked x.cu true = 0) (hpl : 0 ≤ x.pl ∧ x.pl ≤ 5) (hbu : 1 ≤ x.bu ∧ x.bu ≤ 9) (hl : x.ba.length ≤ 5) (hb : ∀ b ∈ x.ba, 0 ≤ b.lo ∧ b.lo ≤ b.hi ∧ b.hi ≤ x.cu.last) : sCheckR x = 0 := by
  have h1 : ¬ (sAsked x.cu true ≠ 0) := by simp [ha]
  have h2 : ¬ (5 < x.pl ∨ 5 < (x.ba.length : Int)) := by omega
  have h3 : x.ba.all (sValid x) = true := by
    rw [List.all_eq_true]
    intro b hb2
    have := hb b hb2
    simp only [sValid, Bool.and_eq_true, decide_eq_true_eq]; omega
  have h4 : sIn x.bu 1 9 = true := by simp [sIn]; omega
  rw [sCheckR, if_neg h1, if_neg h2, h3, h4, if_neg (by simp; omega)]
theorem RmOk.check {r : Rm} (k : RmOk r) : sCheckR r = 0 := check_of k.ask k.pl k.bu k.len k.ba
theorem sure_room {r x : Rm} (k : RmOk r) (kx : RmOk x) (hl : x.cu.last = r.cu.last) (hw : x.cu.want = r.cu.want) (hpl : r.pl ≤ x.pl) (hbu : x.bu ≤ r.bu)
    (hT : ∀ w : List Int, rWholes r.cu (rTruths r.cu) r.cu.coal w = 1 → rWholes x.cu (rTruths x.cu) x.cu.coal w = 1)
    {n m : List Int} (h : ∀ i : Nat, (i : Int) ≤ r.cu.last → 0 ≤ gi m i ∧ gi m i ≤ gi n i) (hs : sSureN r n = true) : sSureN x m = true := by
  have hla := k.A.k0.last
  have hbx := kx.bu
  have hbr := k.bu
  simp only [sSureN, Bool.and_eq_true, decide_eq_true_eq] at hs
  have hmul : ∀ i : Nat, (i : Int) ≤ r.cu.last → 0 ≤ x.bu * gi m i ∧ x.bu * gi m i ≤ r.bu * gi n i := fun i hi => by
    have h1 := h i hi
    exact ⟨Int.mul_nonneg (by omega) h1.1, Int.mul_le_mul hbu h1.2 h1.1 (by omega)⟩
  have hp : sPossN x m = true := by
    have hp := hs.1
    rw [sPossN, List.all_eq_true] at hp ⊢
    intro i hi
    rw [hl] at hi
    have hi2 := List.mem_range.1 hi
    have h1 := h i (by omega)
    have h2 := hmul i (by omega)
    have h3 := hp i hi
    simp only [sRoom, Bool.or_eq_true, Bool.and_eq_true, decide_eq_true_eq] at h3 ⊢
    rw [hw]
    rcases h3 with h3 | ⟨h3, h4⟩
    · left; omega
    · right; omega
  simp only [sSureN, Bool.and_eq_true, decide_eq_true_eq]
  refine ⟨hp, ?_⟩
  rw [keV_eq kx (fun i hi => (h i (by omega)).1) hp, hw]
  have hkn := hs.2
  rw [keV_eq k (fun i hi => by have := h i hi; omega) hs.1] at hkn
  refine hT _ (more_one k.A.k0 k.ne (fun i hi => ?_) hkn)
  rw [nb_gi (by omega), nb_gi (by omega)]
  exact hmul i (by omega)
/-! a plan without some baths, by places -/
theorem pk_eq (b : Nat) (p : List Int) : pk b 0 p = ((List.range p.length).filter fun i => b.testBit i).map fun (i : Nat) => gi p i := by
  have e : ∀ n, n ≤ p.length → pk b 0 (p.take n) = ((List.range n).filter fun i => b.testBit i).map fun (i : Nat) => gi p i := by
    intro n
    induction n with
    | zero => intro _; simp [pk]
    | succ n ih =>
      intro hn
      rw [gi_take (by omega), pk_snoc, ih (by omega), List.length_take, Nat.min_eq_left (by omega), Nat.zero_add, List.range_succ, List.filter_append, List.map_append]
      congr 1
      simp only [List.filter_cons, List.filter_nil]
      split <;> rfl
  have := e p.length (Nat.le_refl _)
  rwa [List.take_length] at this
theorem pk_mem {b : Nat} {p : List Int} {x : Int} (h : x ∈ pk b 0 p) : ∃ j : Nat, j < p.length ∧ b.testBit j = true ∧ x = gi p j := by
  rw [pk_eq] at h
  simp only [List.mem_map, List.mem_filter, List.mem_range] at h
  obtain ⟨j, ⟨h1, h2⟩, rfl⟩ := h
  exact ⟨j, h1, h2, rfl⟩
theorem pk_congr {b : Nat} {p q : List Int} (hl : p.length = q.length) (h : ∀ j : Nat, j < p.length → b.testBit j = true → gi p j = gi q j) : pk b 0 p = pk b 0 q := by
  rw [pk_eq, pk_eq, ← hl]
  apply List.map_congr_left
  intro j hj
  simp only [List.mem_filter, List.mem_range] at hj
  exact h j hj.1 hj.2
theorem mem_rSuf (r : Rm) (b : Nat) : ∀ (k i : Nat) (p : List Int), p ∈ rSuf r b k i ↔ p.length = k ∧ ∀ j : Nat, j < k → if b.testBit (i + j) = true then (gR r.ba ((i + j : Nat) : Int)).lo ≤ gi p j ∧ gi p j ≤ (gR r.ba ((i + j : Nat) : Int)).hi else gi p j = 0
  | 0, i, p => by
    simp only [rSuf, List.mem_singleton]
    constructor
    · rintro rfl; exact ⟨rfl, fun j hj => by omega⟩
    · rintro ⟨h, _⟩; exact List.length_eq_zero_iff.1 h
  | k + 1, i, p => by
    have ih := mem_rSuf r b k (i + 1)
    have hgi0 : ∀ (x : Int) (q : List Int), gi (x :: q) (0 : Nat) = x := fun x q => rfl
    have hgis : ∀ (x : Int) (q : List Int) (j : Nat), gi (x :: q) ((j + 1 : Nat) : Int) = gi q j := fun x q j => by simp only [gi, Int.toNat_natCast, List.getD_cons_succ]
    rw [rSuf]
    constructor
    · intro h
      obtain ⟨x, q, hq, rfl, hx⟩ : ∃ x q, q ∈ rSuf r b k (i + 1) ∧ p = x :: q ∧ if b.testBit i = true then (gR r.ba i).lo ≤ x ∧ x ≤ (gR r.ba i).hi else x = 0 := by
        split at h
        · simp only [List.mem_flatMap, List.mem_map] at h
          obtain ⟨x, hx, q, hq, rfl⟩ := h
          rename_i hb
          exact ⟨x, q, hq, rfl, by rw [if_pos hb]; exact mem_rangeI.1 hx⟩
        · obtain ⟨q, hq, rfl⟩ := List.mem_map.1 h
          rename_i hb
          exact ⟨0, q, hq, rfl, by rw [if_neg hb]⟩
      obtain ⟨h1, h2⟩ := (ih q).1 hq
      refine ⟨by simp [h1], fun j hj => ?_⟩
      cases j with
      | zero => rw [Nat.add_zero, hgi0]; exact hx
      | succ j =>
        rw [hgis]
        have := h2 j (by omega)
        rw [show i + 1 + j = i + (j + 1) by omega] at this
        exact this
    · rintro ⟨h1, h2⟩
      cases p with
      | nil => simp at h1
      | cons x q =>
        have h0 := h2 0 (by omega)
        rw [Nat.add_zero, hgi0] at h0
        have hq : q ∈ rSuf r b k (i + 1) := (ih q).2 ⟨by simpa using h1, fun j hj => by
          have := h2 (j + 1) (by omega)
          rw [hgis, show i + (j + 1) = i + 1 + j by omega] at this
          exact this⟩
        split
        · rename_i hb
          rw [if_pos hb] at h0
          simp only [List.mem_flatMap, List.mem_map]
          exact ⟨x, mem_rangeI.2 h0, q, hq, rfl⟩
        · rename_i hb
          rw [if_neg hb] at h0
          exact List.mem_map.2 ⟨q, hq, by rw [h0]⟩
theorem pk_range {r : Rm} (k : RmOk r) {b : Nat} {p : List Int} (hl : p.length = r.ba.length) (h : ∀ j : Nat, j < r.ba.length → b.testBit j = true → (gR r.ba j).lo ≤ gi p j ∧ gi p j ≤ (gR r.ba j).hi) : ∀ x ∈ pk b 0 p, 0 ≤ x ∧ x ≤ r.cu.last := fun x hx => by
  obtain ⟨j, h1, h2, rfl⟩ := pk_mem hx
  have h3 := h j (by omega) h2
  have h4 := k.ba _ (List.mem_of_getElem? (gR_get (show (j : Int) < r.ba.length by omega)))
  omega
theorem rest_iff {r : Rm} (k : RmOk r) {b : Nat} : restN r b = true ↔ ∃ p : List Int, p.length = r.ba.length ∧ (∀ j : Nat, j < r.ba.length → b.testBit j = true → (gR r.ba j).lo ≤ gi p j ∧ gi p j ≤ (gR r.ba j).hi) ∧ sSureN r (cntN (pk b 0 p)) = true := by
  rw [restN, Bool.not_eq_true', List.isEmpty_eq_false_iff]
  constructor
  · intro h
    obtain ⟨p, hp⟩ := List.exists_mem_of_ne_nil _ h
    rw [rSures, rPlansF_suf, List.mem_filter] at hp
    obtain ⟨h1, h2⟩ := hp
    obtain ⟨q, hq, rfl⟩ := List.mem_map.1 h1
    obtain ⟨g1, g2⟩ := (mem_rSuf r b _ _ q).1 hq
    rw [List.nil_append] at h2
    have hin : ∀ j : Nat, j < r.ba.length → b.testBit j = true → (gR r.ba j).lo ≤ gi q j ∧ gi q j ≤ (gR r.ba j).hi := fun j hj hb => by
      have := g2 j hj
      simp only [List.length_nil, Nat.zero_add] at this
      rw [if_pos hb] at this
      exact this
    exact ⟨q, g1, hin, by rw [(num_ref k (pk_range k g1 hin) (rNum_eq r q b)).2.2]; exact h2⟩
  · rintro ⟨p, hl, hin, hs⟩
    let q : List Int := (List.range r.ba.length).map fun j => if b.testBit j = true then gi p j else 0
    have hql : q.length = r.ba.length := by simp [q]
    have hqg : ∀ j : Nat, j < r.ba.length → gi q j = if b.testBit j = true then gi p j else 0 := fun j hj => gi_map hj
    have hpk : pk b 0 q = pk b 0 p := pk_congr (by omega) fun j hj hb => by rw [hqg j (by omega), if_pos hb]
    have hin2 : ∀ j : Nat, j < r.ba.length → b.testBit j = true → (gR r.ba j).lo ≤ gi q j ∧ gi q j ≤ (gR r.ba j).hi := fun j hj hb => by rw [hqg j hj, if_pos hb]; exact hin j hj hb
    refine List.ne_nil_of_mem (a := q) ?_
    rw [rSures, rPlansF_suf, List.mem_filter]
    refine ⟨List.mem_map.2 ⟨q, (mem_rSuf r b _ _ q).2 ⟨hql, fun j hj => ?_⟩, List.nil_append q⟩, ?_⟩
    · simp only [List.length_nil, Nat.zero_add]
      rw [hqg j hj]
      split
      · rename_i hb; exact hin j hj hb
      · rfl
    · rw [← (num_ref k (pk_range k hql hin2) (rNum_eq r q b)).2.2, hpk]
      exact hs
theorem short_len {a b : List Int} (h : lShorter a b = false) : b.length ≤ a.length := by
  simp only [lShorter, Bool.or_eq_false_iff, decide_eq_false_iff_not] at h
  omega
theorem give_le {r x : Rm} (k : RmOk r) (kx : RmOk x) (hr : sSureN r zL = true) (hx : sSureN x zL = true)
    (h : ∀ b, b < 2 ^ r.ba.length → restN r (2 ^ r.ba.length - 1 - b) = true → ∃ c, c < 2 ^ x.ba.length ∧ restN x (2 ^ x.ba.length - 1 - c) = true ∧ (sBits c).length ≤ (sBits b).length) :
    ((giveAll x).getD []).length ≤ ((giveAll r).getD []).length := by
  obtain ⟨b, b1, b2, b3, b4⟩ := give_best k hr
  obtain ⟨d, d1, d2, d3, d4⟩ := give_best kx hx
  obtain ⟨c, c1, c2, c3⟩ := h b b1 b3
  have := short_len (d4 c c1 c2)
  rw [b2, d2]
  simp only [Option.getD_some]
  omega
end Go.Vm

set_option linter.unusedVariables false
set_option linter.unusedSimpArgs false
set_option maxRecDepth 100000
namespace Go.Vm
/-! ### a room whose coppers have more coal, and no readings -/
def rmC (r : Rm) (l : List Int) : Rm := { r with cu := { r.cu with coal := l } }
structure MoreC (r : Rm) (l : List Int) : Prop where
  dry : r.cu.readings = []
  len : (l.length : Int) = r.cu.last + 1
  sh : ∀ x ∈ l, 0 ≤ x ∧ x ≤ r.cu.shovels
  le : ∀ i : Nat, (i : Int) ≤ r.cu.last → gi r.cu.coal i ≤ gi l i
theorem coal_okR {r : Rm} (k : RmOk r) {l : List Int} (h1 : (l.length : Int) = r.cu.last + 1) (h2 : ∀ x ∈ l, 0 ≤ x ∧ x ≤ r.cu.shovels) : CuOk (rmC r l).cu :=
  have k0 := k.A.k0
  ⟨k0.last, k0.rds, k0.most, k0.start, k0.per, k0.shovels, ⟨h1, h2⟩, k0.want, k0.heat, k0.loss, k0.readings, k0.many⟩
theorem rmC_ok {r : Rm} (k : RmOk r) (hd : r.cu.readings = []) {l : List Int} (h1 : (l.length : Int) = r.cu.last + 1) (h2 : ∀ x ∈ l, 0 ≤ x ∧ x ≤ r.cu.shovels) : RmOk (rmC r l) :=
  have ha := dry_asked (coal_okR k h1 h2) hd
  ⟨ha, askOk_of ha, k.pl, k.bu, k.len, k.ba⟩
theorem MoreC.ok {r : Rm} {l : List Int} (M : MoreC r l) (k : RmOk r) : RmOk (rmC r l) := rmC_ok k M.dry M.len M.sh
theorem MoreC.sure {r : Rm} {l : List Int} (M : MoreC r l) (k : RmOk r) {n : List Int} (h0 : ∀ i : Nat, (i : Int) ≤ r.cu.last → 0 ≤ gi n i) (hs : sSureN r n = true) : sSureN (rmC r l) n = true := by
  have k0 := k.A.k0
  have kx := M.ok k
  refine sure_room k kx rfl rfl (Int.le_refl _) (Int.le_refl _) (fun w hw => ?_) (fun i hi => ⟨h0 i hi, Int.le_refl _⟩) hs
  rw [wholes_one k.ne] at hw
  rw [wholes_one kx.ne]
  intro t ht
  rw [truths_dry r.cu (rmC r l).cu rfl rfl M.dry M.dry] at ht
  rw [whole_cu r.cu (rmC r l).cu rfl rfl rfl rfl]
  refine whole_coal k0.per.1 (rTr_ok k0 _ t ht).sc.heat.1 (fun i hi => ?_) (hw t ht)
  have h1 := k0.coal.2 _ (gi_mem (l := r.cu.coal) (i := i) (by have := k0.coal.1; omega))
  exact ⟨h1.1, M.le i (by omega)⟩
theorem zL_ge (i : Nat) : 0 ≤ gi zL i := by rw [zL_gi]; omega
theorem MoreC.rest {r : Rm} {l : List Int} (M : MoreC r l) (k : RmOk r) {b : Nat} (h : restN r b = true) : restN (rmC r l) b = true := by
  obtain ⟨p, h1, h2, h3⟩ := (rest_iff k).1 h
  exact (rest_iff (M.ok k)).2 ⟨p, h1, h2, M.sure k (fun i _ => (num_same k (pk_range k h1 h2) i).2) h3⟩
theorem MoreC.give {r : Rm} {l : List Int} (M : MoreC r l) (k : RmOk r) (hs : sSureN r zL = true) : ((giveAll (rmC r l)).getD []).length ≤ ((giveAll r).getD []).length :=
  give_le k (M.ok k) hs (M.sure k (fun i _ => zL_ge i) hs) fun b hb hr => ⟨b, hb, M.rest k hr, Nat.le_refl _⟩
theorem MoreC.most {r : Rm} {l : List Int} (M : MoreC r l) (k : RmOk r) (hs : sSureN r zL = true) : (mostF r).sum ≤ (mostF (rmC r l)).sum := by
  have kx := M.ok k
  have hx := M.sure k (fun i _ => zL_ge i) hs
  have h1 := (mostF_spec k hs).1
  have h2 : mostF r ∈ sureL (rmC r l) := by
    rw [sureL, List.mem_filter] at h1 ⊢
    refine ⟨h1.1, M.sure k (fun i _ => ?_) h1.2⟩
    rw [pad5_gi]
    exact gi_ge0 (fun y hy => ((digs_mem.1 h1.1).2 y hy).1) i
  rcases (mostF_spec kx hx).2 _ h2 with h | ⟨h, _⟩ <;> omega
theorem mostR_eq {r : Rm} (k : RmOk r) : sMostR r = if sSureN r zL = true then (mostF r, 0) else ([], 10) := by
  rw [sMostR, if_pos k.check]
  cases hs : sSureN r zL with
  | true => rw [if_pos rfl, if_pos rfl, most_eq k hs]
  | false => rfl
theorem mostF_ok {r : Rm} (k : RmOk r) (hs : sSureN r zL = true) : (mostF r).length = (r.cu.last + 1).toNat ∧ ∀ x ∈ mostF r, 0 ≤ x ∧ x ≤ 5 := by
  have h1 := (mostF_spec k hs).1
  rw [sureL, List.mem_filter] at h1
  have h2 := digs_mem.1 h1.1
  exact ⟨h2.1, fun x hx => by have := h2.2 x hx; have := k.pl; omega⟩
theorem sumT_sum (l : List Int) : sumT l l.length = l.sum := by
  have e : ∀ (m : List Int) (n : Int), m.foldl (· + ·) n = n + m.sum := by
    intro m
    induction m with
    | nil => intro n; simp
    | cons x m ih => intro n; rw [List.foldl_cons, ih, List.sum_cons]; omega
  rw [sumT, List.take_length, e]; omega
theorem giveR_eqC {r : Rm} (k : RmOk r) : sGiveR r = if sSureN r zL = true then ((giveAll r).getD [], 0) else ([], 10) := by rw [sGiveR, if_pos k.check]
/-- A room's cells with another slice of coal. -/
def rmRow5 (r : Rm) (v : V) : List V := [vi r.cu.last, vi r.cu.start, vi r.cu.most, vi r.cu.per, vi r.cu.shovels, v, vI r.cu.want, vi r.cu.heat.lo, vi r.cu.heat.hi, vR r.cu.loss, vD r.cu.readings, vi r.bu, vi r.pl, vR r.ba]
theorem rmRow5_eq (r : Rm) (v : V) : List.take 5 r.cs ++ [v] ++ List.drop 6 r.cs = rmRow5 r v := rfl
theorem rmRow5_h (r : Rm) (v : V) : (List.drop 5 (rmRow5 r v)).head? = some v := rfl
theorem rm_h5 (r : Rm) : (List.drop 5 r.cs).head? = some (vI r.cu.coal) := rfl
theorem rm_h4 (r : Rm) : (List.drop 4 r.cs).head? = some (vi r.cu.shovels) := rfl
theorem rmRow5_rm (r : Rm) (l : List Int) : rmRow5 r (vI l) = (rmC r l).cs := rfl
theorem rmRow5_frz (i ver : Nat) (cs : List V) (r : Rm) (v : V) : frzL i ver cs (rmRow5 r v) = rmRow5 r (v.frz i ver cs) := by
  simp only [rmRow5, frzL, vI_frz, vR, vD, V.frz, cR_frz, cD_frz]
theorem cW16_frz (i ver : Nat) (cs : List V) : ∀ l : List Int, frzL i ver cs (cW16 l) = cW16 l
  | [] => rfl
  | x :: l => by
    have := cW16_frz i ver cs l
    simp only [cW16, List.map_cons, frzL, V.frz] at this ⊢
    rw [this]
theorem vW_frz (i ver : Nat) (cs : List V) (l : List Int) : (vW l).frz i ver cs = vW l := by simp only [vW, V.frz, cW16_frz]
end Go.Vm

set_option linter.unusedVariables false
set_option linter.unusedSimpArgs false
set_option maxRecDepth 100000
namespace Go.Vm
/-- One way through the rest, for all that come to it. -/
theorem thru {ι : Type} {C : Prop} {A G : ι → Prop} (use : (∀ x, A x → G x) → C) (tail : ∀ x, A x → G x) : C := use tail
end Go.Vm

set_option linter.unusedVariables false
set_option linter.unusedSimpArgs false
set_option maxRecDepth 100000
namespace Go.Vm
open Go.Proofs
set_option maxHeartbeats 8000000 in
theorem l_TopStoked (r : Rm) (hl : I64 r.cu.last) (words : List Int) (hw : ∀ x ∈ words, 0 ≤ x ∧ x ≤ 65535) (hour more : Int) (hho : 0 ≤ hour ∧ hour ≤ 255) (hmo : 0 ≤ more ∧ more ≤ 255) :
    Vm.Fn Tryz.prog 21 [.agg r.cs, vW words, .int .u8 hour, .int .u8 more] [] fun v h' => v = .bool true := by
  refine Fn.body tabOk Tryz.func21 rfl (Nat.le_of_ble_eq_true rfl) (Ks.ok (fz := (fzn [9, 10])) (cl := (cln [(7, .d (tgL [(42, 1)]) [cP, cP, cL, cP, cP, cP, cL, cP, cP, cL, cP, cP, cP, cP, cP, cP, cP, cP, cP, some ([1], []), some ([1], [1])]), (8, .ex), (15, .ex)])) tabOk mixed ?_)
  generalize hQ : FnPost tt Tryz.f21 _ _ = Q
  simp only [Tryz.f21, argsEnv, Nat.reduceAdd]
  simp only [gos, eq_self, Nat.reduceLT, Nat.reduceEqDiff, reduceCtorEq, reduceIte, ↓reduceIte, tt, vgo, vout, vguard, callOf, vop, ev, cv, vload, newRow, rms]
  refine Cl.pu (c_dry r) ?_ rfl (by simp only [V.into, intoL, Bool.and_true, rm_into])
  simp only [gos, eq_self, Nat.reduceLT, Nat.reduceEqDiff, Nat.reduceAdd, reduceCtorEq, reduceIte, ↓reduceIte, tt, vgo, vout, vguard, callOf, vop, ev, vload, newRow, rms]
  refine Cl.pu (c_Thin9 r hl) ?_ rfl (by simp only [V.into, intoL, Bool.and_true, rm_into])
  cases ht : sThinR r with
  | false =>
    simp only [gos, eq_self, Nat.reduceLT, Nat.reduceEqDiff, reduceIte, ↓reduceIte, vgo, vout, vguard, callOf, vop, ev, cv]
    refine Cl.pu c_stoked ?_
    simp only [gos, eq_self, Nat.reduceLT, reduceIte, ↓reduceIte, vgo, vout, vguard, callOf, vop, ev]
    subst hQ
    exact FnPost.plain trivial (v := .bool true) (fun h2 e => by rfl) WkV.refl rfl
  | true =>
    have hr := thinR_wf hl ht
    simp only [gos, eq_self, Nat.reduceLT, Nat.reduceEqDiff, reduceCtorEq, reduceIte, ↓reduceIte, tt, vgo, vout, vguard, callOf, vop, ev, vload, rms]
    refine Cl.pu (c_r9Fault r hr) ?_ rfl (by simp only [V.into, intoL, Bool.and_true, rm_into])
    by_cases h0 : sCheckR r = 0
    case neg =>
      have hb : (sCheckR r != 0) = true := by simp [h0]
      simp only [gos, eq_self, Nat.reduceLT, Nat.reduceEqDiff, reduceIte, ↓reduceIte, vgo, vout, vguard, callOf, vop, ev, cv, vbin, vint, isShift, isNilConst, hb]
      refine Cl.pu c_stoked ?_
      simp only [gos, eq_self, Nat.reduceLT, reduceIte, ↓reduceIte, vgo, vout, vguard, callOf, vop, ev]
      subst hQ
      exact FnPost.plain trivial (v := .bool true) (fun h2 e => by rfl) WkV.refl rfl
    have hb : (sCheckR r != 0) = false := by simp [h0]
    have hrx : (dryR r).wf := ⟨⟨hr.cu.last, hr.cu.coal, hr.cu.want, hr.cu.loss, by simp [dryR]⟩, hr.ba⟩
    simp only [gos, eq_self, Nat.reduceLT, Nat.reduceEqDiff, reduceCtorEq, reduceIte, ↓reduceIte, tt, vgo, vout, vguard, callOf, vop, ev, cv, vbin, vint, isShift, isNilConst, vload, rms, hb]
    refine Cl.pu (c_r9Fault (dryR r) hrx) ?_ rfl (by simp only [V.into, intoL, Bool.and_true, rm_into])
    by_cases hx0 : sCheckR (dryR r) = 0
    case neg =>
      have hbx : (sCheckR (dryR r) != 0) = true := by simp [hx0]
      simp only [gos, eq_self, Nat.reduceLT, Nat.reduceEqDiff, reduceIte, ↓reduceIte, vgo, vout, vguard, callOf, vop, ev, cv, vbin, vint, isShift, isNilConst, hbx]
      refine Cl.pu c_stoked ?_
      simp only [gos, eq_self, Nat.reduceLT, reduceIte, ↓reduceIte, vgo, vout, vguard, callOf, vop, ev]
      subst hQ
      exact FnPost.plain trivial (v := .bool true) (fun h2 e => by rfl) WkV.refl rfl
    have hbx : (sCheckR (dryR r) != 0) = false := by simp [hx0]
    have hdr : (dryR r).cu.readings = [] := rfl
    simp only [gos, eq_self, Nat.reduceLT, Nat.reduceEqDiff, Nat.reduceAdd, Nat.reduceMul, reduceCtorEq, reduceIte, ↓reduceIte, tt, vgo, vout, vguard, callOf, vop, ev, cv, vbin, vint, isShift, isNilConst, vload, newRow, vfill, rms, hbx]
    generalize dryR r = x at *
    have k := rmOk_of hx0
    have k0 := k.A.k0
    have hla := k0.last
    have hcoal := k0.coal
    have hsh := k0.shovels
    have wL := i64_in (show -9223372036854775808 ≤ x.cu.last + 1 by omega) (show x.cu.last + 1 ≤ 9223372036854775807 by omega)
    have wH := i64_in (show -9223372036854775808 ≤ hour by omega) (show hour ≤ 9223372036854775807 by omega)
    have wM := i64_in (show -9223372036854775808 ≤ more by omega) (show more ≤ 9223372036854775807 by omega)
    have zL1 : ¬ x.cu.last + 1 = 0 := by omega
    have z2 : ¬ (2 : Int) = 0 := by omega
    have hm2 := tmod_le hmo.1 (s := 2) (by omega)
    have htm := tmod_le hho.1 (s := x.cu.last + 1) (by omega)
    obtain ⟨h, hh⟩ : ∃ h : Nat, (h : Int) = hour.tmod (x.cu.last + 1) := ⟨(hour.tmod (x.cu.last + 1)).toNat, by omega⟩
    have hhl : (h : Int) ≤ x.cu.last := by omega
    have hhc : (h : Int) < x.cu.coal.length := by omega
    have hcl := chosen_len x words
    have ha := chosen_are k hw
    have hp1 : ((sChosen x words).length : Int) ≤ 1000000 := by have := k.len; omega
    have hcm := hcoal.2 _ (gi_mem (l := x.cu.coal) (i := h) (by omega))
    have w1 := i64_in (show -9223372036854775808 ≤ gi x.cu.coal h + 1 by omega) (show gi x.cu.coal h + 1 ≤ 9223372036854775807 by omega)
    have w2 := i64_in (show -9223372036854775808 ≤ gi x.cu.coal h + 1 + more.tmod 2 by omega) (show gi x.cu.coal h + 1 + more.tmod 2 ≤ 9223372036854775807 by omega)
    have hat := cI_at (Int.natCast_nonneg h) hhc
    rw [Int.toNat_natCast, Nat.mul_one] at hat
    have hcn : (cI x.cu.coal).length = x.cu.coal.length := cI_len _
    have hcb : x.cu.coal.length ≤ 1000000 := by omega
    have hone := cI_one x.cu.coal
    have q1 : h + 1 ≤ x.cu.coal.length := by omega
    have hset := cI_set (l := x.cu.coal) (i := h) (min x.cu.shovels (gi x.cu.coal h + 1 + more.tmod 2)) (by omega)
    have M : MoreC x (x.cu.coal.set h (min x.cu.shovels (gi x.cu.coal h + 1 + more.tmod 2))) := by
      refine ⟨hdr, by rw [List.length_set]; exact hcoal.1, fun y hy => ?_, fun i hi => ?_⟩
      · rcases List.mem_or_eq_of_mem_set hy with h | rfl
        · exact hcoal.2 y h
        · omega
      · rw [gi_setN _ (by omega)]
        by_cases e : h = i
        · subst e; rw [if_pos rfl]; omega
        · rw [if_neg e]; exact Int.le_refl _
    simp only [gos, eq_self, Nat.reduceLT, Nat.reduceEqDiff, Nat.reduceAdd, Nat.reduceLeDiff, reduceCtorEq, reduceIte, ↓reduceIte, tt, vgo, vout, vguard, callOf, vop, ev, cv, vbin, vint, isShift, isNilConst, vload, vappend, srcOf, vI, rms, rm_h5, hcn, hcb, hone, wL, wH, zL1, ← hh, Nat.mul_one, rmRow5_eq]
    refine Wr.draw (by kernel_rfl) ?_
    simp only [gos, eq_self, Nat.reduceLT, Nat.reduceEqDiff, Nat.reduceAdd, reduceCtorEq, reduceIte, ↓reduceIte, tt, vgoD, voutD, vclsOk, vids, mayWrite, V.ids, vguard, callOf, vop, ev, cv, vbin, vint, isShift, isNilConst, vload, clsAt, vI, rm_h5, rm_h4, rmRow5_h, hhc, hat, hcn, w1, w2, wM, z2, q1, hset, Int.natCast_nonneg, Int.toNat_natCast, Nat.mul_one, Nat.zero_add, Nat.add_zero]
    generalize hL : x.cu.coal.set h (min x.cu.shovels (gi x.cu.coal h + 1 + more.tmod 2)) = L at M ⊢
    have hLl : L.length = x.cu.coal.length := by rw [← hL, List.length_set]
    have e1 : (cI L).take x.cu.coal.length = cI L := List.take_of_length_le (by rw [cI_len]; omega)
    have e2 : V.ro x.cu.coal.length (cI L) = vI L := by rw [vI, hLl]
    have ky := M.ok k
    have hry : (rmC x L).wf := ky.wf
    have hgl := M.give k
    have hml := M.most k
    have hsz := M.sure k (n := zL) (fun i _ => zL_ge i)
    have hgx := giveR_eqC k
    have hgy := giveR_eqC ky
    have hmx := mostR_eq k
    have hmy := mostR_eq ky
    have hfx := mostF_ok k
    have hfy := mostF_ok ky
    have hly : (rmC x L).cu.last = x.cu.last := rfl
    have hpr : sProveP x (sChosen x words) = true → sProveP (rmC x L) (sChosen x words) = true := fun hs => by
      rw [prove_of hx0 ha] at hs
      rw [prove_of ky.check (show sAre (rmC x L) (sChosen x words) = true from ha)]
      exact M.sure k (fun i _ => (num_same k (are_ok k ha).2 i).2) hs
    refine Wr.at tabOk 0 ?_
    simp only [gos]
    refine Wa.mk (ρ2 := [(1, vW words), (9, .rop x.cs), (10, .rop (rmC x L).cs)]) (h2 := []) ?_ ?_
    · refine Wk.trans (Wk.env (ρ' := [(1, vW words), (9, .ptr 9 0 0), (10, .ptr 10 0 0)]) (by simp [subE, Env.get])) (Wk.trans (Wk.freeze 42 rfl rfl (cI_into _ _) rfl) ?_)
      simp only [gos, eq_self, Nat.reduceEqDiff, reduceIte, ↓reduceIte, frzE, frzH, Blk.frz, V.frz, rm_frz, rmRow5_frz, vW_frz, Nat.mul_one, e1, e2]
      rw [rmRow5_rm]
      refine Wk.trans (Wk.freeze 10 rfl rfl (rm_into _ _) rfl) ?_
      simp only [gos, eq_self, Nat.reduceEqDiff, reduceIte, ↓reduceIte, frzE, frzH, Blk.frz, V.frz, rm_frz, vW_frz]
      refine Wk.trans (Wk.freeze 9 rfl rfl (rm_into _ _) rfl) ?_
      simp only [gos, eq_self, reduceIte, ↓reduceIte, frzE, frzH, V.frz, rm_frz, vW_frz]
      exact Wk.env (by simp [subE, Env.get])
    generalize rmC x L = y at *
    simp only [gos, eq_self, Nat.reduceLT, Nat.reduceEqDiff, reduceCtorEq, reduceIte, ↓reduceIte, tt, vgo, vout, vguard, callOf, vop, ev, vload, rms]
    refine Cl.pu (c_Chosen x k words hw) ?_ rfl (by simp only [V.into, intoL, Bool.and_true, rm_into, vW_into])
    generalize sChosen x words = plan at hcl ha hp1 hpr ⊢
    have hpn : plan.length ≤ 1000000 := by omega
    have hci := cI_len plan
    have hco := cI_one plan
    have htk : List.take plan.length (cI plan) = cI plan := List.take_of_length_le (by rw [cI_len]; omega)
    simp only [gos, eq_self, Nat.reduceLT, Nat.reduceEqDiff, reduceCtorEq, reduceIte, ↓reduceIte, tt, vgo, vout, vguard, callOf, vop, ev, vload, rms]
    refine Cl.pu (c_Room x hrx) ?_ rfl (by simp only [V.into, intoL, Bool.and_true, rm_into])
    simp only [gos, eq_self, Nat.reduceLT, reduceIte, ↓reduceIte, vgo, vout, vguard, callOf, ev]
    refine Cl.pu (c_bGive x hrx) ?_ rfl (by simp only [V.into, intoL, Bool.and_true, rm_into])
    simp only [gos, eq_self, Nat.reduceLT, Nat.reduceEqDiff, reduceCtorEq, reduceIte, ↓reduceIte, tt, vgo, vout, vguard, callOf, vop, ev, vload, rms]
    refine Cl.pu (c_Room y hry) ?_ rfl (by simp only [V.into, intoL, Bool.and_true, rm_into])
    simp only [gos, eq_self, Nat.reduceLT, reduceIte, ↓reduceIte, vgo, vout, vguard, callOf, ev]
    refine Cl.pu (c_bGive y hry) ?_ rfl (by simp only [V.into, intoL, Bool.and_true, rm_into])
    simp only [gos, eq_self, Nat.reduceLT, Nat.reduceEqDiff, reduceCtorEq, reduceIte, ↓reduceIte, tt, vgo, vout, vguard, callOf, vop, ev, vload, rms]
    refine Cl.pu (c_Room x hrx) ?_ rfl (by simp only [V.into, intoL, Bool.and_true, rm_into])
    simp only [gos, eq_self, Nat.reduceLT, reduceIte, ↓reduceIte, vgo, vout, vguard, callOf, ev]
    refine Cl.pu (c_bMost x hrx) ?_ rfl (by simp only [V.into, intoL, Bool.and_true, rm_into])
    simp only [gos, eq_self, Nat.reduceLT, Nat.reduceEqDiff, reduceCtorEq, reduceIte, ↓reduceIte, tt, vgo, vout, vguard, callOf, vop, ev, vload, rms]
    refine Cl.pu (c_Room y hry) ?_ rfl (by simp only [V.into, intoL, Bool.and_true, rm_into])
    simp only [gos, eq_self, Nat.reduceLT, reduceIte, ↓reduceIte, vgo, vout, vguard, callOf, ev]
    refine Cl.pu (c_bMost y hry) ?_ rfl (by simp only [V.into, intoL, Bool.and_true, rm_into])
    simp only [gos, eq_self, Nat.reduceLT, Nat.reduceEqDiff, reduceCtorEq, reduceIte, ↓reduceIte, tt, vgo, vout, vguard, callOf, vop, ev, vload, rms]
    refine Cl.pu (c_Room x hrx) ?_ rfl (by simp only [V.into, intoL, Bool.and_true, rm_into])
    simp only [gos, eq_self, Nat.reduceLT, Nat.reduceEqDiff, Nat.reduceLeDiff, reduceIte, ↓reduceIte, tt, vgo, vout, vguard, callOf, vop, ev, vfill, vappend, srcOf, vI, hpn, hci, hco, Nat.mul_one]
    have y0 : decide ((0 : Int) = 0) = true := rfl
    have y1 : decide ((10 : Int) = 0) = false := rfl
    have y2 : decide ((10 : Int) = 10) = true := rfl
    have y3 : ((0 : Int) != 0) = false := rfl
    have y4 : ((10 : Int) != 0) = true := rfl
    obtain ⟨ga, ge, eGx⟩ : ∃ (a : List Int) (e : Int), sGiveR x = (a, e) := ⟨_, _, rfl⟩
    obtain ⟨gb, gf, eGy⟩ : ∃ (a : List Int) (e : Int), sGiveR y = (a, e) := ⟨_, _, rfl⟩
    obtain ⟨ml, mg, eMx⟩ : ∃ (a : List Int) (e : Int), sMostR x = (a, e) := ⟨_, _, rfl⟩
    obtain ⟨mm, mi, eMy⟩ : ∃ (a : List Int) (e : Int), sMostR y = (a, e) := ⟨_, _, rfl⟩
    rw [eGx] at hgx
    rw [eGy] at hgy
    rw [eMx] at hmx
    rw [eMy] at hmy
    rw [eGx, eGy, eMx, eMy]
    apply thru (A := fun _ : Unit => True)
    case use =>
      intro tail
      obtain ⟨uu, _⟩ : ∃ u : Unit, u = u := ⟨(), rfl⟩
      refine Cl.mk (Ev.lend 103 (ver := 0) (cs := cI plan) (args' := [.agg x.cs, vI plan]) rfl (cI_into _ _) rfl rfl (by simp only [frzL, V.frz, rm_frz, if_true, List.drop_zero, Nat.mul_one, htk, vI]) (c_ProvePlan x hrx plan hp1) (fun _ _ _ h => by simpa only [VR, VRL] using h) rfl (by simp only [V.into, intoL, vI_into, Bool.and_true, rm_into])) ?_
      rintro v h' ⟨rfl, rfl⟩
      cases hp : sProveP x plan with
      | false =>
        simp only [gos, eq_self, Nat.reduceLT, Nat.reduceEqDiff, reduceIte, ↓reduceIte, vgo, vout, vguard, callOf, vop, ev, cv]
        refine Wr.at tabOk 0 ?_
        simp only [gos]
        refine Wa.mk (ρ2 := [(13, vI ga), (14, vi ge), (15, vI gb), (16, vi gf), (17, vI ml), (18, vi mg), (19, vI mm), (20, vi mi)]) (h2 := []) (Wk.trans (Wk.env (ρ' := [(13, vI ga), (14, vi ge), (15, vI gb), (16, vi gf), (17, vI ml), (18, vi mg), (19, vI mm), (20, vi mi)]) (by simp [subE, Env.get, vI])) (Wk.forget (by simp [subE, Env.get]) (by simp [subH]) (fun j hp => by simp [orD, domP, Heap.get] at hp) (by simp only [intoE, V.into, vI_into, Bool.and_true]) (by simp only [intoH]))) ?_
        exact tail uu trivial
      | true =>
        simp only [gos, eq_self, Nat.reduceLT, Nat.reduceEqDiff, reduceCtorEq, reduceIte, ↓reduceIte, tt, vgo, vout, vguard, callOf, vop, ev, vload, rms]
        refine Cl.pu (c_Room y hry) ?_ rfl (by simp only [V.into, intoL, Bool.and_true, rm_into])
        simp only [gos, eq_self, Nat.reduceLT, Nat.reduceEqDiff, Nat.reduceLeDiff, reduceIte, ↓reduceIte, tt, vgo, vout, vguard, callOf, vop, ev, vfill, vappend, srcOf, hpn, hci, hco, Nat.mul_one]
        refine Cl.mk (Ev.lend 110 (ver := 0) (cs := cI plan) (args' := [.agg y.cs, vI plan]) rfl (cI_into _ _) rfl rfl (by simp only [frzL, V.frz, rm_frz, if_true, List.drop_zero, Nat.mul_one, htk, vI]) (c_ProvePlan y hry plan hp1) (fun _ _ _ h => by simpa only [VR, VRL] using h) rfl (by simp only [V.into, intoL, vI_into, Bool.and_true, rm_into])) ?_
        rintro v h' ⟨rfl, rfl⟩
        rw [hpr hp]
        simp only [gos, eq_self, Nat.reduceLT, Nat.reduceEqDiff, reduceIte, ↓reduceIte, vgo, vout, vguard, callOf, vop, ev]
        refine Wr.at tabOk 0 ?_
        simp only [gos]
        refine Wa.mk (ρ2 := [(13, vI ga), (14, vi ge), (15, vI gb), (16, vi gf), (17, vI ml), (18, vi mg), (19, vI mm), (20, vi mi)]) (h2 := []) (Wk.trans (Wk.env (ρ' := [(13, vI ga), (14, vi ge), (15, vI gb), (16, vi gf), (17, vI ml), (18, vi mg), (19, vI mm), (20, vi mi)]) (by simp [subE, Env.get, vI])) (Wk.forget (by simp [subE, Env.get]) (by simp [subH]) (fun j hp => by simp [orD, domP, Heap.get] at hp) (by simp only [intoE, V.into, vI_into, Bool.and_true]) (by simp only [intoH]))) ?_
        exact tail uu trivial
    case tail =>
      intro _ _
      cases hs : sSureN x zL with
      | false =>
        rw [hs, if_neg (by simp)] at hgx hmx
        injection hgx with hga hge
        injection hmx with hma hmg
        cases hs2 : sSureN y zL with
        | false =>
          rw [hs2, if_neg (by simp)] at hgy hmy
          injection hgy with hgb hgf
          injection hmy with hmb hmi
          simp only [gos, eq_self, Nat.reduceLT, Nat.reduceEqDiff, reduceIte, ↓reduceIte, vgo, vout, vguard, callOf, vop, ev, cv, vbin, vint, isShift, isNilConst, vI, hge, hmg, hgf, hmi, y1, y4]
          refine Cl.pu c_stoked ?_
          simp only [gos, eq_self, Nat.reduceLT, Nat.reduceEqDiff, reduceIte, ↓reduceIte, vgo, vout, vguard, callOf, vop, ev]
          subst hQ
          exact FnPost.plain trivial (v := .bool true) (fun h2 e => by rfl) WkV.refl rfl
        | true =>
          rw [hs2, if_pos rfl] at hgy hmy
          injection hgy with hgb hgf
          injection hmy with hmb hmi
          simp only [gos, eq_self, Nat.reduceLT, Nat.reduceEqDiff, reduceIte, ↓reduceIte, vgo, vout, vguard, callOf, vop, ev, cv, vbin, vint, isShift, isNilConst, vI, hge, hmg, hgf, hmi, y4]
          refine Cl.pu c_stoked ?_
          simp only [gos, eq_self, Nat.reduceLT, Nat.reduceEqDiff, reduceIte, ↓reduceIte, vgo, vout, vguard, callOf, vop, ev]
          subst hQ
          exact FnPost.plain trivial (v := .bool true) (fun h2 e => by rfl) WkV.refl rfl
      | true =>
        have hs2 := hsz hs
        have hgl := hgl hs
        have hml := hml hs
        obtain ⟨x1, x2⟩ := hfx hs
        obtain ⟨z1, z2'⟩ := hfy hs2
        rw [hs, if_pos rfl] at hgx hmx
        rw [hs2, if_pos rfl] at hgy hmy
        injection hgx with hga hge
        injection hmx with hma hmg
        injection hgy with hgb hgf
        injection hmy with hmb hmi
        rw [← hga, ← hgb] at hgl
        rw [← hma, ← hmb] at hml
        rw [← hma] at x1 x2
        rw [← hmb] at z1 z2'
        have hle : ((gb.length : Nat) : Int) ≤ ((ga.length : Nat) : Int) := by omega
        simp only [gos, eq_self, Nat.reduceLT, Nat.reduceEqDiff, reduceIte, ↓reduceIte, tt, vgo, vout, vguard, callOf, vop, ev, cv, vbin, vint, isShift, isNilConst, vlen, vI, hge, hmg, hgf, hmi, hle]
        refine Cl.pu (c_r9Sum mm (by omega) fun v hv => by have := z2' v hv; omega) ?_ rfl (by simp only [V.into, intoL, cI_into, Bool.and_true])
        simp only [gos, eq_self, Nat.reduceLT, Nat.reduceEqDiff, reduceIte, ↓reduceIte, vgo, vout, vguard, callOf, vop, ev]
        refine Cl.pu (c_r9Sum ml (by omega) fun v hv => by have := x2 v hv; omega) ?_ rfl (by simp only [V.into, intoL, cI_into, Bool.and_true])
        rw [sumT_sum, sumT_sum]
        simp only [gos, eq_self, Nat.reduceLT, Nat.reduceEqDiff, reduceIte, ↓reduceIte, vgo, vout, vguard, callOf, vop, ev, vbin, vint, isShift, isNilConst, hml]
        refine Cl.pu c_stoked ?_
        simp only [gos, eq_self, Nat.reduceLT, Nat.reduceEqDiff, reduceIte, ↓reduceIte, vgo, vout, vguard, callOf, vop, ev]
        subst hQ
        exact FnPost.plain trivial (v := .bool true) (fun h2 e => by rfl) WkV.refl rfl
end Go.Vm
