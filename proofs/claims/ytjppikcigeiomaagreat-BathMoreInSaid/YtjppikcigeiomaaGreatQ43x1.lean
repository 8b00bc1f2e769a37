import Derived.Test.YtjppikcigeiomaaGreatB4
import Derived.Test.YtjppikcigeiomaaGreatRows
import Derived.WalkKit
import Derived.ProofKit
import Derived.OpenShut
import Derived.ShutString
import Derived.ChangeOld
import Derived.Below
set_option linter.unusedVariables false
set_option linter.unusedSimpArgs false
set_option maxRecDepth 100000
namespace Go.Vm
open Go.Proofs Go.ChangeShapes Go.WideShapes Go.ChangeAt Go.RowKit
/-! ### from a contract to the row -/
theorem hrel0 (w : World) : HRel (gh0 w) [] w :=
  ⟨fun B o v e => e, fun i e he => (by cases he), fun i j e e' B c c' he => (by cases he), fun i e B c o he => (by cases he), fun i v h => absurd rfl h⟩
theorem calls_of_fn {P : Program} {f : FuncId} {vs : List V} {xs : List Value} {w : World} (c : Fn P f vs [] fun v h' => v = .bool true) (hv : VRL (gh0 w) vs xs) :
    Calls P f xs.toArray w fun e w' => e = .returned (.bool true) ∧ Below w.heap.size w w' := fun cs => by
  obtain ⟨v, h', vc, g', w', fr, rfl, st, hf, hl, hvc, H', t, le⟩ := c (gh0 w) w xs hv (hrel0 w) cs
  simp only [VR] at hvc
  subst hvc
  exact ⟨.returned (.bool true), w', fr, ⟨rfl, t.os, t.tape, t.output, t.size, fun k hk => t.mods k hk (by rintro ⟨i, e, c, he, _⟩; cases he)⟩, st, hf, hl⟩
section
variable {H : Type} {enc : TypeId × Value → H} {P : Program} {w : World} {base : Nat} {spare : Nat → Bool} {held : Bool} {fuel : Nat} {t : TypeId} {cs : List Value} {x : DataW H × List MemPlace}
end
section
variable {H : Type} {enc : TypeId × Value → H} {w : World} {base : Nat} {spare : Nat → Bool} {held : Bool} {fuel : Nat} {cs : List Value} {x : DataW H × List MemPlace}
end
end Go.Vm

set_option linter.unusedVariables false
set_option linter.unusedSimpArgs false
set_option maxRecDepth 100000
namespace Go.Vm
open Go.Proofs Go.ChangeShapes Go.WideShapes Go.ChangeAt Go.RowKit
section
variable {H : Type} {enc : TypeId × Value → H} {w : World} {base : Nat} {spare : Nat → Bool} {held : Bool} {fuel : Nat} {cs : List Value} {x : DataW H × List MemPlace}
theorem rd_u16 (h : DataW.trod enc Tryz.prog w base spare held fuel 77 cs = some x) : ∃ n : Int, (0 ≤ n ∧ n ≤ 65535) ∧ VRL (gh0 w) [.int .u16 n] cs := by
  obtain ⟨n, rfl, _, h2⟩ := DataW.trod_int Tryz.underlying77 h
  exact ⟨n, bounds_u16 h2, VRL.cons (by simp only [VR]) VRL.nil⟩
theorem rd_u8 (h : DataW.trod enc Tryz.prog w base spare held fuel 5 cs = some x) : ∃ n : Int, (0 ≤ n ∧ n ≤ 255) ∧ VRL (gh0 w) [.int .u8 n] cs := by
  obtain ⟨n, rfl, _, h2⟩ := DataW.trod_int Tryz.underlying5 h
  exact ⟨n, bounds_u8 h2, VRL.cons (by simp only [VR]) VRL.nil⟩
theorem rd_words (h : DataW.trod enc Tryz.prog w base spare held fuel 86 cs = some x) : ∃ l : List Int, (∀ n ∈ l, 0 ≤ n ∧ n ≤ 65535) ∧ VRL (gh0 w) [vW l] cs := by
  obtain ⟨l, h1, h2, h3⟩ := rd_slice (fun n : Int => [V.int .u16 n]) (fun n => 0 ≤ n ∧ n ≤ 65535) 1 Tryz.underlying86 (by kernel_rfl) (by omega) (fun _ => rfl) h fun n cs x h => rd_u16 h
  have e : l.flatMap (fun n : Int => [V.int .u16 n]) = cW16 l := by
    clear h1 h2 h3
    induction l with
    | nil => rfl
    | cons y l ih => simp only [List.flatMap_cons, cW16, List.map_cons, List.singleton_append] at ih ⊢; rw [ih]
  rw [e] at h3
  exact ⟨l, h1, h3⟩
end
end Go.Vm

set_option linter.unusedVariables false
set_option linter.unusedSimpArgs false
set_option maxRecDepth 100000
namespace Go.Vm
/-! ### plain laws of one truth -/
theorem mul_le_of_tdiv {w a p : Int} (h0 : 0 ≤ a) (hp : 1 ≤ p) (h : w ≤ a.tdiv p) : w * p ≤ a := by
  rw [Int.tdiv_eq_ediv_of_nonneg h0] at h
  exact Int.mul_le_of_le_ediv (by omega) h
theorem warm_heat {c : Cu} {s s' : Sc} {coal coal' want : List Int} {n : Nat} (w : Warm s s' coal coal' n) {i : Nat} (hi : i < n) (h : (sPlay c s coal want i).1 ≤ (sPlay c s' coal' want i).1) : sHeat c s coal want i ≤ sHeat c s' coal' want i := by
  have h1 := w.loss i hi
  have h2 := w.coal i hi
  have h3 : gi coal i * s.heat ≤ gi coal' i * s'.heat := Int.mul_le_mul h2.2 w.heat.2 w.heat.1 (by omega)
  simp only [sHeat]
  omega
theorem warm_play {c : Cu} {s s' : Sc} {coal coal' want : List Int} {n : Nat} (hp : 1 ≤ c.per) (w : Warm s s' coal coal' n) : ∀ i, i ≤ n → (sPlay c s coal want i).1 ≤ (sPlay c s' coal' want i).1
  | 0, _ => Int.le_refl _
  | i + 1, hi => by
    have ih := warm_heat w (show i < n by omega) (warm_play (want := want) hp w i (by omega))
    have h0 : 0 ≤ sHeat c s coal want i := by simp only [sHeat]; omega
    have h1 : 0 ≤ sHeat c s' coal' want i := by simp only [sHeat]; omega
    have hm := tdiv_mono h0 ih hp
    rw [sPlay_heat, sPlay_heat]
    by_cases hk : gi want i ≤ (sHeat c s coal want i).tdiv c.per
    · rw [if_pos hk, if_pos (by omega)]; omega
    · rw [if_neg hk]
      split
      · rename_i hk2
        have := mul_le_of_tdiv h1 hp hk2
        omega
      · omega
end Go.Vm

set_option linter.unusedVariables false
set_option linter.unusedSimpArgs false
set_option maxRecDepth 100000
namespace Go.Vm
/-! ### lists that are changed in some places -/
theorem vW_into (p : Nat → Bool) (l : List Int) : (vW l).into p = true := by simp only [vW, V.into]; exact cW16_into p l
end Go.Vm

set_option linter.unusedVariables false
set_option linter.unusedSimpArgs false
set_option maxRecDepth 100000
namespace Go.Vm
/-! ### the least coal: the program's search and the reference's are the same -/
/-! the reference's numbers of coal, in order -/
theorem sure_whole {c : Cu} (k0 : CuOk c) (hne : sTruth c ≠ []) (coal : List Int) : sSureP c coal = decide (rWholes c (rTruths c) coal c.want = 1) := by
  rw [← wholes_same k0 hne]
  have e : ((sTruth c).map fun s => if (sPast c coal c.want s).kept.any (fun y => decide (false = y)) then (0 : Int) else 1) = (sTruth c).map fun s => if sKept c coal c.want s = true then 1 else 0 := by
    apply List.map_congr_left
    intro s _
    by_cases h : ((sPast c coal c.want s).kept.any fun y => decide (false = y)) = true
    · have h2 : sKept c coal c.want s = false := by rw [sKept, h]; rfl
      rw [if_pos h, h2, if_neg (by simp)]
    · have h2 : sKept c coal c.want s = true := by rw [Bool.not_eq_true] at h; rw [sKept, h]; rfl
      rw [if_neg h, h2, if_pos rfl]
  rw [e, sVerdict_01 _ hne, sSureP]
  cases (sTruth c).all fun s => sKept c coal c.want s with
  | true => rfl
  | false => cases (sTruth c).any fun s => sKept c coal c.want s <;> rfl
end Go.Vm

set_option linter.unusedVariables false
set_option linter.unusedSimpArgs false
set_option maxRecDepth 100000
namespace Go.Vm
/-! ### fewer promises, more coal -/
theorem whole_coal {c : Cu} {coal coal' want : List Int} {t : Tr2} (hp : 1 ≤ c.per) (hh : 0 ≤ t.heat) (hc : ∀ i : Nat, i < (c.last + 1).toNat → 0 ≤ gi coal i ∧ gi coal i ≤ gi coal' i) (h : wholeI c coal want t = true) : wholeI c coal' want t = true := by
  rw [whole_iff] at h ⊢
  intro i hi
  have w : Warm (tS t) (tS t) coal coal' (c.last + 1).toNat := ⟨⟨hh, Int.le_refl _⟩, fun i _ => Int.le_refl _, hc⟩
  have hm := tdiv_mono (sHeat_ge c (tS t) coal want i) (warm_heat w hi (warm_play hp w i (by omega))) hp
  have := h i hi
  omega
end Go.Vm

set_option linter.unusedVariables false
set_option linter.unusedSimpArgs false
set_option maxRecDepth 100000
namespace Go.Vm
/-! ### fewer truths -/
theorem SubT.sure {x c : Cu} (S : SubT x c) (X : AskOk x true) (A : AskOk c true) {coal : List Int} (h : sSureP c coal = true) : sSureP x coal = true := by
  have hne : rTruths x ≠ [] := fun e => X.ne ((same_nil X.k0).2 e)
  rw [sure_whole A.k0 A.ne, decide_eq_true_eq] at h
  rw [sure_whole X.k0 X.ne, decide_eq_true_eq, S.want]
  exact S.wholes hne h
/-! which readings are left out -/
end Go.Vm

set_option linter.unusedVariables false
set_option linter.unusedSimpArgs false
set_option maxRecDepth 100000
namespace Go.Vm
open Go.Proofs
theorem c_ProvePlan (r : Rm) (hr : r.wf) (plan : List Int) (hp : (plan.length : Int) ≤ 1000000) : Pu Tryz.prog (.fn 62 [] []) [.agg r.cs, vI plan] (.bool (sProveP r plan)) := by
  refine Ev.fn Tryz.func62 rfl rfl (Fn.body tabOk Tryz.func62 rfl (Nat.le_of_ble_eq_true rfl) (Ks.ok (fz := (fzn [])) (cl := (cln [])) tabOk mixed ?_))
  generalize hQ : FnPost tt Tryz.f62 _ _ = Q
  simp only [Tryz.f62, List.nil_append, List.append_nil, argsEnv, Nat.reduceAdd]
  simp only [gos, eq_self, Nat.reduceLT, Nat.reduceEqDiff, reduceCtorEq, reduceIte, ↓reduceIte, tt, vgo, vout, vguard, callOf, vop, ev, cv, vload, newRow, rms]
  refine Cl.pu (c_bKeeps r hr plan hp) ?_ rfl (by simp only [V.into, intoL, vI_into, Bool.and_true, rm_into])
  by_cases h : (sKeepsR r plan).2 = 0
  · have hd : decide ((sKeepsR r plan).2 = 0) = true := by simp [h]
    simp only [gos, eq_self, Nat.reduceLT, Nat.reduceEqDiff, reduceIte, ↓reduceIte, vgo, vout, vguard, callOf, vop, ev, cv, vbin, vint, isShift, isNilConst, hd]
    subst hQ
    exact FnPost.plain trivial (fun h2 e => by first | rfl | (simp only [Tryz.f62, vres, vresL, vres1, e _, gos, if_true, if_false, ne_eq, eq_self, Nat.reduceLT, Nat.reduceEqDiff, Nat.reduceAdd, Nat.reduceMul, Nat.reduceLeDiff, Nat.reduceBEq, reduceCtorEq, reduceIte, Array.toList, ↓reduceIte, tt, vgo, vout, vgoD, voutD, vclsOk, vids, mayWrite, V.ids, V.mids, vguard, callOf, vop, ev, cv, vbin, vint, isShift, isNilConst, vnil, isNilSlice, vload, vlen, newRow, vfill, vslice, entOf, vappend, srcOf, vcopy, vlookup, vupdate, mapOk, keyOf, intsOf, clsAt]; try rfl)) (WkV.pure (by simp only [V.into])) ⟨by simp [sProveP, h], rfl⟩
  · have hd : decide ((sKeepsR r plan).2 = 0) = false := by simp [h]
    simp only [gos, eq_self, Nat.reduceLT, Nat.reduceEqDiff, reduceIte, ↓reduceIte, vgo, vout, vguard, callOf, vop, ev, cv, vbin, vint, isShift, isNilConst, hd]
    subst hQ
    exact FnPost.plain trivial (fun h2 e => by first | rfl | (simp only [Tryz.f62, vres, vresL, vres1, e _, gos, if_true, if_false, ne_eq, eq_self, Nat.reduceLT, Nat.reduceEqDiff, Nat.reduceAdd, Nat.reduceMul, Nat.reduceLeDiff, Nat.reduceBEq, reduceCtorEq, reduceIte, Array.toList, ↓reduceIte, tt, vgo, vout, vgoD, voutD, vclsOk, vids, mayWrite, V.ids, V.mids, vguard, callOf, vop, ev, cv, vbin, vint, isShift, isNilConst, vnil, isNilSlice, vload, vlen, newRow, vfill, vslice, entOf, vappend, srcOf, vcopy, vlookup, vupdate, mapOk, keyOf, intsOf, clsAt]; try rfl)) (WkV.pure (by simp only [V.into])) ⟨by simp [sProveP, h], rfl⟩
end Go.Vm

set_option linter.unusedVariables false
set_option linter.unusedSimpArgs false
set_option maxRecDepth 100000
namespace Go.Vm
/-! ### what is sure in one room and in another -/
theorem check_of {x : Rm} (ha : sAsked x.cu true = 0) (hpl : 0 ≤ x.pl ∧ x.pl ≤ 5) (hbu : 1 ≤ x.bu ∧ x.bu ≤ 9) (hl : x.ba.length ≤ 5) (hb : ∀ b ∈ x.ba, 0 ≤ b.lo ∧ b.lo ≤ b.hi ∧ b.hi ≤ x.cu.last) : sCheckR x = 0 := by
  have h1 : ¬ (sAsked x.cu true ≠ 0) := by simp [ha]
  have h2 : ¬ (5 < x.pl ∨ 5 < (x.ba.length : Int)) := by omega
  have h3 : x.ba.all (sValid x) = true := by
    rw [List.all_eq_true]
    intro b hb2
    have := hb b hb2
    simp only [sValid, Bool.and_eq_true, decide_eq_true_eq]; omega
  have h4 : sIn x.bu 1 9 = true := by simp [sIn]; omega
  rw [sCheckR, if_neg h1, if_neg h2, h3, h4, if_neg (by simp; omega)]
theorem RmOk.check {r : Rm} (k : RmOk r) : sCheckR r = 0 := check_of k.ask k.pl k.bu k.len k.ba
theorem sure_room {r x : Rm} (k : RmOk r) (kx : RmOk x) (hl : x.cu.last = r.cu.last) (hw : x.cu.want = r.cu.want) (hpl : r.pl ≤ x.pl) (hbu : x.bu ≤ r.bu)
    (hT : ∀ w : List Int, rWholes r.cu (rTruths r.cu) r.cu.coal w = 1 → rWholes x.cu (rTruths x.cu) x.cu.coal w = 1)
    {n m : List Int} (h : ∀ i : Nat, (i : Int) ≤ r.cu.last → 0 ≤ gi m i ∧ gi m i ≤ gi n i) (hs : sSureN r n = true) : sSureN x m = true := by
  have hla := k.A.k0.last
  have hbx := kx.bu
  have hbr := k.bu
  simp only [sSureN, Bool.and_eq_true, decide_eq_true_eq] at hs
  have hmul : ∀ i : Nat, (i : Int) ≤ r.cu.last → 0 ≤ x.bu * gi m i ∧ x.bu * gi m i ≤ r.bu * gi n i := fun i hi => by
    have h1 := h i hi
    exact ⟨Int.mul_nonneg (by omega) h1.1, Int.mul_le_mul hbu h1.2 h1.1 (by omega)⟩
  have hp : sPossN x m = true := by
    have hp := hs.1
    rw [sPossN, List.all_eq_true] at hp ⊢
    intro i hi
    rw [hl] at hi
    have hi2 := List.mem_range.1 hi
    have h1 := h i (by omega)
    have h2 := hmul i (by omega)
    have h3 := hp i hi
    simp only [sRoom, Bool.or_eq_true, Bool.and_eq_true, decide_eq_true_eq] at h3 ⊢
    rw [hw]
    rcases h3 with h3 | ⟨h3, h4⟩
    · left; omega
    · right; omega
  simp only [sSureN, Bool.and_eq_true, decide_eq_true_eq]
  refine ⟨hp, ?_⟩
  rw [keV_eq kx (fun i hi => (h i (by omega)).1) hp, hw]
  have hkn := hs.2
  rw [keV_eq k (fun i hi => by have := h i hi; omega) hs.1] at hkn
  refine hT _ (more_one k.A.k0 k.ne (fun i hi => ?_) hkn)
  rw [nb_gi (by omega), nb_gi (by omega)]
  exact hmul i (by omega)
/-! a plan without some baths, by places -/
theorem pk_eq (b : Nat) (p : List Int) : pk b 0 p = ((List.range p.length).filter fun i => b.testBit i).map fun (i : Nat) => gi p i := by
  have e : ∀ n, n ≤ p.length → pk b 0 (p.take n) = ((List.range n).filter fun i => b.testBit i).map fun (i : Nat) => gi p i := by
    intro n
    induction n with
    | zero => intro _; simp [pk]
    | succ n ih =>
      intro hn
      rw [gi_take (by omega), pk_snoc, ih (by omega), List.length_take, Nat.min_eq_left (by omega), Nat.zero_add, List.range_succ, List.filter_append, List.map_append]
      congr 1
      simp only [List.filter_cons, List.filter_nil]
      split <;> rfl
  have := e p.length (Nat.le_refl _)
  rwa [List.take_length] at this
theorem pk_mem {b : Nat} {p : List Int} {x : Int} (h : x ∈ pk b 0 p) : ∃ j : Nat, j < p.length ∧ b.testBit j = true ∧ x = gi p j := by
  rw [pk_eq] at h
  simp only [List.mem_map, List.mem_filter, List.mem_range] at h
  obtain ⟨j, ⟨h1, h2⟩, rfl⟩ := h
  exact ⟨j, h1, h2, rfl⟩
theorem pk_congr {b : Nat} {p q : List Int} (hl : p.length = q.length) (h : ∀ j : Nat, j < p.length → b.testBit j = true → gi p j = gi q j) : pk b 0 p = pk b 0 q := by
  rw [pk_eq, pk_eq, ← hl]
  apply List.map_congr_left
  intro j hj
  simp only [List.mem_filter, List.mem_range] at hj
  exact h j hj.1 hj.2
theorem mem_rSuf (r : Rm) (b : Nat) : ∀ (k i : Nat) (p : List Int), p ∈ rSuf r b k i ↔ p.length = k ∧ ∀ j : Nat, j < k → if b.testBit (i + j) = true then (gR r.ba ((i + j : Nat) : Int)).lo ≤ gi p j ∧ gi p j ≤ (gR r.ba ((i + j : Nat) : Int)).hi else gi p j = 0
  | 0, i, p => by
    simp only [rSuf, List.mem_singleton]
    constructor
    · rintro rfl; exact ⟨rfl, fun j hj => by omega⟩
    · rintro ⟨h, _⟩; exact List.length_eq_zero_iff.1 h
  | k + 1, i, p => by
    have ih := mem_rSuf r b k (i + 1)
    have hgi0 : ∀ (x : Int) (q : List Int), gi (x :: q) (0 : Nat) = x := fun x q => rfl
    have hgis : ∀ (x : Int) (q : List Int) (j : Nat), gi (x :: q) ((j + 1 : Nat) : Int) = gi q j := fun x q j => by simp only [gi, Int.toNat_natCast, List.getD_cons_succ]
    rw [rSuf]
    constructor
    · intro h
      obtain ⟨x, q, hq, rfl, hx⟩ : ∃ x q, q ∈ rSuf r b k (i + 1) ∧ p = x :: q ∧ if b.testBit i = true then (gR r.ba i).lo ≤ x ∧ x ≤ (gR r.ba i).hi else x = 0 := by
        split at h
        · simp only [List.mem_flatMap, List.mem_map] at h
          obtain ⟨x, hx, q, hq, rfl⟩ := h
          rename_i hb
          exact ⟨x, q, hq, rfl, by rw [if_pos hb]; exact mem_rangeI.1 hx⟩
        · obtain ⟨q, hq, rfl⟩ := List.mem_map.1 h
          rename_i hb
          exact ⟨0, q, hq, rfl, by rw [if_neg hb]⟩
      obtain ⟨h1, h2⟩ := (ih q).1 hq
      refine ⟨by simp [h1], fun j hj => ?_⟩
      cases j with
      | zero => rw [Nat.add_zero, hgi0]; exact hx
      | succ j =>
        rw [hgis]
        have := h2 j (by omega)
        rw [show i + 1 + j = i + (j + 1) by omega] at this
        exact this
    · rintro ⟨h1, h2⟩
      cases p with
      | nil => simp at h1
      | cons x q =>
        have h0 := h2 0 (by omega)
        rw [Nat.add_zero, hgi0] at h0
        have hq : q ∈ rSuf r b k (i + 1) := (ih q).2 ⟨by simpa using h1, fun j hj => by
          have := h2 (j + 1) (by omega)
          rw [hgis, show i + (j + 1) = i + 1 + j by omega] at this
          exact this⟩
        split
        · rename_i hb
          rw [if_pos hb] at h0
          simp only [List.mem_flatMap, List.mem_map]
          exact ⟨x, mem_rangeI.2 h0, q, hq, rfl⟩
        · rename_i hb
          rw [if_neg hb] at h0
          exact List.mem_map.2 ⟨q, hq, by rw [h0]⟩
theorem pk_range {r : Rm} (k : RmOk r) {b : Nat} {p : List Int} (hl : p.length = r.ba.length) (h : ∀ j : Nat, j < r.ba.length → b.testBit j = true → (gR r.ba j).lo ≤ gi p j ∧ gi p j ≤ (gR r.ba j).hi) : ∀ x ∈ pk b 0 p, 0 ≤ x ∧ x ≤ r.cu.last := fun x hx => by
  obtain ⟨j, h1, h2, rfl⟩ := pk_mem hx
  have h3 := h j (by omega) h2
  have h4 := k.ba _ (List.mem_of_getElem? (gR_get (show (j : Int) < r.ba.length by omega)))
  omega
theorem rest_iff {r : Rm} (k : RmOk r) {b : Nat} : restN r b = true ↔ ∃ p : List Int, p.length = r.ba.length ∧ (∀ j : Nat, j < r.ba.length → b.testBit j = true → (gR r.ba j).lo ≤ gi p j ∧ gi p j ≤ (gR r.ba j).hi) ∧ sSureN r (cntN (pk b 0 p)) = true := by
  rw [restN, Bool.not_eq_true', List.isEmpty_eq_false_iff]
  constructor
  · intro h
    obtain ⟨p, hp⟩ := List.exists_mem_of_ne_nil _ h
    rw [rSures, rPlansF_suf, List.mem_filter] at hp
    obtain ⟨h1, h2⟩ := hp
    obtain ⟨q, hq, rfl⟩ := List.mem_map.1 h1
    obtain ⟨g1, g2⟩ := (mem_rSuf r b _ _ q).1 hq
    rw [List.nil_append] at h2
    have hin : ∀ j : Nat, j < r.ba.length → b.testBit j = true → (gR r.ba j).lo ≤ gi q j ∧ gi q j ≤ (gR r.ba j).hi := fun j hj hb => by
      have := g2 j hj
      simp only [List.length_nil, Nat.zero_add] at this
      rw [if_pos hb] at this
      exact this
    exact ⟨q, g1, hin, by rw [(num_ref k (pk_range k g1 hin) (rNum_eq r q b)).2.2]; exact h2⟩
  · rintro ⟨p, hl, hin, hs⟩
    let q : List Int := (List.range r.ba.length).map fun j => if b.testBit j = true then gi p j else 0
    have hql : q.length = r.ba.length := by simp [q]
    have hqg : ∀ j : Nat, j < r.ba.length → gi q j = if b.testBit j = true then gi p j else 0 := fun j hj => gi_map hj
    have hpk : pk b 0 q = pk b 0 p := pk_congr (by omega) fun j hj hb => by rw [hqg j (by omega), if_pos hb]
    have hin2 : ∀ j : Nat, j < r.ba.length → b.testBit j = true → (gR r.ba j).lo ≤ gi q j ∧ gi q j ≤ (gR r.ba j).hi := fun j hj hb => by rw [hqg j hj, if_pos hb]; exact hin j hj hb
    refine List.ne_nil_of_mem (a := q) ?_
    rw [rSures, rPlansF_suf, List.mem_filter]
    refine ⟨List.mem_map.2 ⟨q, (mem_rSuf r b _ _ q).2 ⟨hql, fun j hj => ?_⟩, List.nil_append q⟩, ?_⟩
    · simp only [List.length_nil, Nat.zero_add]
      rw [hqg j hj]
      split
      · rename_i hb; exact hin j hj hb
      · rfl
    · rw [← (num_ref k (pk_range k hql hin2) (rNum_eq r q b)).2.2, hpk]
      exact hs
end Go.Vm

set_option linter.unusedVariables false
set_option linter.unusedSimpArgs false
set_option maxRecDepth 100000
namespace Go.Vm
/-! ### a list without one element -/
theorem cR_takeN : ∀ (l : List Rg) (k : Nat), (cR l).take (k * 2) = cR (l.take k)
  | l, 0 => by simp [cR]
  | [], k + 1 => by simp [cR]
  | x :: l, k + 1 => by rw [show (k + 1) * 2 = k * 2 + 1 + 1 by omega]; simp [cR, cR_takeN l k]
theorem cR_oneL : ∀ l : List Rg, oneL (cR l) = true
  | [] => rfl
  | x :: l => by simp only [cR, oneL, on_int, cR_oneL l]; rfl
/-- A room with the same coppers. -/
theorem rm_ok {x r : Rm} (k : RmOk r) (hc : x.cu = r.cu) (hpl : 0 ≤ x.pl ∧ x.pl ≤ 5) (hbu : 1 ≤ x.bu ∧ x.bu ≤ 9) (hl : x.ba.length ≤ 5) (hb : ∀ b ∈ x.ba, 0 ≤ b.lo ∧ b.lo ≤ b.hi ∧ b.hi ≤ r.cu.last) : RmOk x :=
  ⟨by rw [hc]; exact k.ask, by rw [hc]; exact k.A, hpl, hbu, hl, by rw [hc]; exact hb⟩
end Go.Vm

set_option linter.unusedVariables false
set_option linter.unusedSimpArgs false
set_option maxRecDepth 100000
namespace Go.Vm
/-! ### a room whose coppers have more coal, and no readings -/
def rmC (r : Rm) (l : List Int) : Rm := { r with cu := { r.cu with coal := l } }
structure MoreC (r : Rm) (l : List Int) : Prop where
  dry : r.cu.readings = []
  len : (l.length : Int) = r.cu.last + 1
  sh : ∀ x ∈ l, 0 ≤ x ∧ x ≤ r.cu.shovels
  le : ∀ i : Nat, (i : Int) ≤ r.cu.last → gi r.cu.coal i ≤ gi l i
theorem coal_okR {r : Rm} (k : RmOk r) {l : List Int} (h1 : (l.length : Int) = r.cu.last + 1) (h2 : ∀ x ∈ l, 0 ≤ x ∧ x ≤ r.cu.shovels) : CuOk (rmC r l).cu :=
  have k0 := k.A.k0
  ⟨k0.last, k0.rds, k0.most, k0.start, k0.per, k0.shovels, ⟨h1, h2⟩, k0.want, k0.heat, k0.loss, k0.readings, k0.many⟩
theorem rmC_ok {r : Rm} (k : RmOk r) (hd : r.cu.readings = []) {l : List Int} (h1 : (l.length : Int) = r.cu.last + 1) (h2 : ∀ x ∈ l, 0 ≤ x ∧ x ≤ r.cu.shovels) : RmOk (rmC r l) :=
  have ha := dry_asked (coal_okR k h1 h2) hd
  ⟨ha, askOk_of ha, k.pl, k.bu, k.len, k.ba⟩
theorem MoreC.ok {r : Rm} {l : List Int} (M : MoreC r l) (k : RmOk r) : RmOk (rmC r l) := rmC_ok k M.dry M.len M.sh
theorem MoreC.sure {r : Rm} {l : List Int} (M : MoreC r l) (k : RmOk r) {n : List Int} (h0 : ∀ i : Nat, (i : Int) ≤ r.cu.last → 0 ≤ gi n i) (hs : sSureN r n = true) : sSureN (rmC r l) n = true := by
  have k0 := k.A.k0
  have kx := M.ok k
  refine sure_room k kx rfl rfl (Int.le_refl _) (Int.le_refl _) (fun w hw => ?_) (fun i hi => ⟨h0 i hi, Int.le_refl _⟩) hs
  rw [wholes_one k.ne] at hw
  rw [wholes_one kx.ne]
  intro t ht
  rw [truths_dry r.cu (rmC r l).cu rfl rfl M.dry M.dry] at ht
  rw [whole_cu r.cu (rmC r l).cu rfl rfl rfl rfl]
  refine whole_coal k0.per.1 (rTr_ok k0 _ t ht).sc.heat.1 (fun i hi => ?_) (hw t ht)
  have h1 := k0.coal.2 _ (gi_mem (l := r.cu.coal) (i := i) (by have := k0.coal.1; omega))
  exact ⟨h1.1, M.le i (by omega)⟩
theorem zL_ge (i : Nat) : 0 ≤ gi zL i := by rw [zL_gi]; omega
theorem MoreC.rest {r : Rm} {l : List Int} (M : MoreC r l) (k : RmOk r) {b : Nat} (h : restN r b = true) : restN (rmC r l) b = true := by
  obtain ⟨p, h1, h2, h3⟩ := (rest_iff k).1 h
  exact (rest_iff (M.ok k)).2 ⟨p, h1, h2, M.sure k (fun i _ => (num_same k (pk_range k h1 h2) i).2) h3⟩
theorem MoreC.most {r : Rm} {l : List Int} (M : MoreC r l) (k : RmOk r) (hs : sSureN r zL = true) : (mostF r).sum ≤ (mostF (rmC r l)).sum := by
  have kx := M.ok k
  have hx := M.sure k (fun i _ => zL_ge i) hs
  have h1 := (mostF_spec k hs).1
  have h2 : mostF r ∈ sureL (rmC r l) := by
    rw [sureL, List.mem_filter] at h1 ⊢
    refine ⟨h1.1, M.sure k (fun i _ => ?_) h1.2⟩
    rw [pad5_gi]
    exact gi_ge0 (fun y hy => ((digs_mem.1 h1.1).2 y hy).1) i
  rcases (mostF_spec kx hx).2 _ h2 with h | ⟨h, _⟩ <;> omega
end Go.Vm

set_option linter.unusedVariables false
set_option linter.unusedSimpArgs false
set_option maxRecDepth 100000
namespace Go.Vm
open Go.Proofs
/-! ### how many more baths can be sold, of the reference -/
theorem addN1_gi9 {x : List Int} {h : Nat} (hh : h < x.length) (m : Nat) (j : Nat) : gi (addN1 x h m) j = if j = h then gi x h + m else gi x j := by
  rw [addN1]
  by_cases e : j = h
  · subst e; rw [if_pos rfl, gi_set_self _ (by omega)]
  · rw [if_neg e, gi_set_ne _ (fun e2 => e e2.symm)]
end Go.Vm

set_option linter.unusedVariables false
set_option linter.unusedSimpArgs false
set_option maxRecDepth 100000
namespace Go.Vm
/-! ### a room with more baths of one hour -/
def rmAdd (r : Rm) (h m : Nat) : Rm := { r with ba := r.ba ++ List.replicate m ⟨(h : Int), (h : Int)⟩ }
def plAdd (plan : List Int) (h m : Nat) : List Int := plan ++ List.replicate m (h : Int)
theorem takeWhile_spec {p : Nat → Bool} (n : Nat) : ∃ j, ((List.range n).takeWhile p).length = j ∧ j ≤ n ∧ (∀ i, i < j → p i = true) ∧ (j < n → p j = false) := by
  have h : ∀ n : Nat, ∃ j, j ≤ n ∧ (∀ i, i < j → p i = true) ∧ (j < n → p j = false) := by
    intro n
    induction n with
    | zero => exact ⟨0, Nat.le_refl _, fun i hi => by omega, fun h => by omega⟩
    | succ n ih =>
      obtain ⟨j, h1, h2, h3⟩ := ih
      by_cases hj : j < n
      · exact ⟨j, by omega, h2, fun _ => h3 hj⟩
      · have e : j = n := by omega
        subst e
        cases hp : p j with
        | true => exact ⟨j + 1, Nat.le_refl _, fun i hi => by rcases Nat.lt_succ_iff_lt_or_eq.1 hi with h4 | rfl; exact h2 i h4; exact hp, fun h => by omega⟩
        | false => exact ⟨j, by omega, h2, fun _ => hp⟩
  obtain ⟨j, h1, h2, h3⟩ := h n
  refine ⟨j, ?_, h1, h2, h3⟩
  by_cases hj : j < n
  · exact takeWhile_len hj h2 (h3 hj)
  · have e : j = n := by omega
    subst e
    have e2 : (List.range j).takeWhile p = List.range j := by
      rw [← List.append_nil ((List.range j).takeWhile p)]
      have := List.takeWhile_append_of_pos (p := p) (l₁ := List.range j) (l₂ := []) fun x hx => h2 x (by simpa using hx)
      rw [List.append_nil] at this ⊢
      rw [this, List.takeWhile_nil, List.append_nil]
    rw [e2, List.length_range]
theorem cnt_add (plan : List Int) {h : Nat} (hh : h < 5) : ∀ m : Nat, cntN (plAdd plan h m) = addN1 (cntN plan) h m
  | 0 => by
    have hl : (cntN plan).length = 5 := by rw [cntN, addC_len]; rfl
    refine list_ext (by simp [plAdd, addN1]) fun q hq => ?_
    rw [addN1_gi9 (by omega)]
    simp only [plAdd, List.replicate_zero, List.append_nil]
    split
    · subst_vars; omega
    · rfl
  | m + 1 => by
    have hl : (cntN plan).length = 5 := by rw [cntN, addC_len]; rfl
    have e : plAdd plan h (m + 1) = plAdd plan h m ++ [(h : Int)] := by simp only [plAdd, List.replicate_succ', List.append_assoc]
    rw [e, cntN, addC_snoc]
    have ih := cnt_add plan hh m
    rw [cntN] at ih
    rw [ih, inc, addN1_gi9 (by omega), if_pos rfl, Int.toNat_natCast]
    simp only [addN1, List.set_set]
    congr 1; omega
theorem add_ok {r : Rm} (k : RmOk r) {h m : Nat} (hh : (h : Int) ≤ r.cu.last) (hm : r.ba.length + m ≤ 5) : RmOk (rmAdd r h m) :=
  ⟨k.ask, k.A, k.pl, k.bu, by simp only [rmAdd, List.length_append, List.length_replicate]; exact hm, fun b hb => by
    simp only [rmAdd, List.mem_append] at hb
    rcases hb with h1 | h1
    · exact k.ba b h1
    · have e := (List.mem_replicate.1 h1).2
      subst e
      exact ⟨Int.natCast_nonneg _, Int.le_refl _, hh⟩⟩
theorem add_are {r : Rm} {plan : List Int} (ha : sAre r plan = true) (h m : Nat) : sAre (rmAdd r h m) (plAdd plan h m) = true := by
  simp only [sAre, Bool.and_eq_true, decide_eq_true_eq, List.all_eq_true, List.mem_range, sIn] at ha ⊢
  have eb : (rmAdd r h m).ba = r.ba ++ List.replicate m ⟨(h : Int), (h : Int)⟩ := rfl
  have ep : plAdd plan h m = plan ++ List.replicate m (h : Int) := rfl
  rw [eb, ep, List.length_append, List.length_append, List.length_replicate, List.length_replicate]
  refine ⟨by omega, fun i hi => ?_⟩
  by_cases hlt : i < r.ba.length
  · have := ha.2 i hlt
    simp only [gi, gR, Int.toNat_natCast, List.getD_eq_getElem?_getD, List.getElem?_append_left hlt, List.getElem?_append_left (show i < plan.length by omega)] at this ⊢
    exact this
  · have e1 : gi (plan ++ List.replicate m (h : Int)) i = h := by
      simp only [gi, Int.toNat_natCast, List.getD_eq_getElem?_getD]
      rw [List.getElem?_append_right (by omega), List.getElem?_replicate, if_pos (by omega)]; rfl
    have e2 : gR (r.ba ++ List.replicate m ⟨(h : Int), (h : Int)⟩) i = ⟨h, h⟩ := by
      simp only [gR, Int.toNat_natCast, List.getD_eq_getElem?_getD]
      rw [List.getElem?_append_right (by omega), List.getElem?_replicate, if_pos (by omega)]; rfl
    rw [e1, e2]; simp
theorem add_prove {r : Rm} (k : RmOk r) {plan : List Int} (ha : sAre r plan = true) {h m : Nat} (hh : (h : Int) ≤ r.cu.last) (hm : r.ba.length + m ≤ 5) : sProveP (rmAdd r h m) (plAdd plan h m) = sSureN r (addN1 (cntN plan) h m) := by
  have hl := k.A.k0.last
  rw [prove_of (add_ok k hh hm).check (add_are ha h m), cnt_add plan (by omega)]
  rfl
/-- What Free returns, and with how many more baths a plan is sure. -/
theorem free_all {r : Rm} (k : RmOk r) {plan : List Int} (ha : sAre r plan = true) {h : Nat} (hh : (h : Int) ≤ r.cu.last) :
    ((sFreeR r plan h).1 = 0 ∧ ((sFreeR r plan h).2 = 9 ∨ (sFreeR r plan h).2 = 10) ∧ sProveP r plan = false) ∨
    (∃ N : Nat, sFreeR r plan h = ((N : Int), 0) ∧ N ≤ 5 ∧ sProveP r plan = true ∧ (r.ba.length + N ≤ 5 → sProveP (rmAdd r h N) (plAdd plan h N) = true) ∧ (r.ba.length + (N + 1) ≤ 5 → sProveP (rmAdd r h (N + 1)) (plAdd plan h (N + 1)) = false)) := by
  have hl := k.A.k0.last
  have hpl := k.pl
  have hF : sIn (h : Int) 0 r.cu.last = true := by simp only [sIn, Bool.and_eq_true, decide_eq_true_eq]; omega
  have hpt := planned_two k.check ha
  have hpr := prove_of k.check ha
  have hcl : (cntN plan).length = 5 := by rw [cntN, addC_len]; rfl
  rw [sFreeR, hF]
  cases hpo : sPossN r (cntN plan) with
  | false =>
    rw [hpo, if_neg (by simp)] at hpt
    left
    rw [hpt, if_neg (by omega)]
    exact ⟨rfl, .inl rfl, by rw [hpr, sSureN, hpo]; rfl⟩
  | true =>
    rw [hpo, if_pos rfl] at hpt
    rw [hpt, if_pos rfl]
    cases hs : sSureN r (cntN plan) with
    | false =>
      left
      rw [if_neg (by simp)]
      exact ⟨rfl, .inr rfl, by rw [hpr, hs]⟩
    | true =>
      right
      rw [if_pos rfl]
      obtain ⟨N, e, h1, h2, h3⟩ := takeWhile_spec (p := fun m => sSureN r (addN1 (cntN plan) h (m + 1))) 6
      have h5 : N ≤ 5 := by
        rcases Nat.lt_or_ge N 6 with h4 | h4
        · omega
        · exfalso
          have h6 := h2 5 (by omega)
          have h0 := (num_same k (are_ok k ha).2 h).2
          have hg : gi (addN1 (cntN plan) h 6) h = gi (cntN plan) h + 6 := by rw [addN1_gi9 (by omega), if_pos rfl]; rfl
          have := sure_pl k (n := addN1 (cntN plan) h 6) (h := h) (by omega) (by omega) h6
          omega
      refine ⟨N, by rw [freeN, Int.toNat_natCast, e], h5, by rw [hpr, hs], fun hm => ?_, fun hm => ?_⟩
      · rw [add_prove k ha hh hm]
        cases N with
        | zero =>
          rw [← cnt_add plan (by omega)]
          simp only [plAdd, List.replicate_zero, List.append_nil]; exact hs
        | succ N => exact h2 N (by omega)
      · rw [add_prove k ha hh hm]
        exact h3 (by omega)
end Go.Vm

set_option linter.unusedVariables false
set_option linter.unusedSimpArgs false
set_option maxRecDepth 100000
namespace Go.Vm
/-! ### wider ranges -/
structure Wide (c x : Cu) : Prop where
  last : c.last = x.last
  start : c.start = x.start
  most : c.most = x.most
  per : c.per = x.per
  coal : c.coal = x.coal
  want : c.want = x.want
  shovels : c.shovels = x.shovels
  listed : ∀ t, Listed c t → Listed x t
  len : c.readings.length = x.readings.length
  rd : ∀ (s : Sc) (i : Nat), i < c.readings.length → rdOk c s (gD c.readings i) = true → rdOk x s (gD x.readings i) = true
theorem range_gD' (c : Cu) (s : Sc) : sRight c s [] = (List.range c.readings.length).all fun i => rdOk c s (gD c.readings i) := by
  rw [right_all, range_gD]
theorem Wide.right {c x : Cu} (W : Wide c x) {s : Sc} (h : sRight c s [] = true) : sRight x s [] = true := by
  rw [range_gD', List.all_eq_true] at h ⊢
  intro i hi
  rw [List.mem_range, ← W.len] at hi
  exact W.rd s i hi (h i (List.mem_range.2 hi))
theorem Wide.sub {c x : Cu} (W : Wide c x) (k0 : CuOk c) (kx : CuOk x) : SubT c x :=
  ⟨W.last, W.start, W.most, W.per, W.coal, W.want, fun t ht => by
    obtain ⟨h1, h2⟩ := (mem_rTruths' k0 t).1 ht
    exact (mem_rTruths' kx t).2 ⟨W.listed t h1, W.right h2⟩⟩
theorem gR_set {l : List Rg} {k : Nat} (v : Rg) (hk : k < l.length) (i : Nat) : gR (l.set k v) i = if i = k then v else gR l i := by
  simp only [gR, Int.toNat_natCast, List.getD_eq_getElem?_getD, List.getElem?_set]
  by_cases h : k = i
  · subst h; simp [hk]
  · rw [if_neg h, if_neg (Ne.symm h)]
end Go.Vm

set_option linter.unusedVariables false
set_option linter.unusedSimpArgs false
set_option maxRecDepth 100000
namespace Go.Vm
/-! ### a bath that can be had in more hours -/
/-- A room with other hours of a bath. -/
def rmB (r : Rm) (j : Nat) (v : Rg) : Rm := { r with ba := r.ba.set j v }
structure WiderB (r : Rm) (j : Nat) (v : Rg) : Prop where
  lt : j < r.ba.length
  lo : 0 ≤ v.lo ∧ v.lo ≤ (gR r.ba j).lo
  hi : (gR r.ba j).hi ≤ v.hi ∧ v.hi ≤ r.cu.last
theorem WiderB.gR {r : Rm} {j : Nat} {v : Rg} (W : WiderB r j v) (i : Nat) : (gR (rmB r j v).ba i).lo ≤ (gR r.ba i).lo ∧ (gR r.ba i).hi ≤ (gR (rmB r j v).ba i).hi := by
  have h1 := W.lo; have h2 := W.hi
  simp only [rmB, gR_set v W.lt]
  by_cases e : i = j
  · subst e; rw [if_pos rfl]; omega
  · rw [if_neg e]; omega
theorem WiderB.len {r : Rm} {j : Nat} {v : Rg} (W : WiderB r j v) : (rmB r j v).ba.length = r.ba.length := by simp [rmB]
theorem WiderB.ok {r : Rm} {j : Nat} {v : Rg} (W : WiderB r j v) (k : RmOk r) : RmOk (rmB r j v) :=
  rm_ok k rfl k.pl k.bu (by rw [W.len]; exact k.len) fun b hb => by
    rcases List.mem_or_eq_of_mem_set hb with h | rfl
    · exact k.ba b h
    · have h1 := W.lo; have h2 := W.hi
      have := k.ba _ (List.mem_of_getElem? (gR_get (show (j : Int) < r.ba.length by have := W.lt; omega)))
      omega
theorem WiderB.rest {r : Rm} {j : Nat} {v : Rg} (W : WiderB r j v) (k : RmOk r) {b : Nat} (h : restN r b = true) : restN (rmB r j v) b = true := by
  obtain ⟨p, h1, h2, h3⟩ := (rest_iff k).1 h
  refine (rest_iff (W.ok k)).2 ⟨p, by rw [W.len]; exact h1, fun i hi hb => ?_, h3⟩
  rw [W.len] at hi
  have h4 := h2 i hi hb
  have h5 := W.gR i
  omega
/-- A room's cells with another slice of baths. -/
def rmRow (r : Rm) (v : V) : List V := [vi r.cu.last, vi r.cu.start, vi r.cu.most, vi r.cu.per, vi r.cu.shovels, vI r.cu.coal, vI r.cu.want, vi r.cu.heat.lo, vi r.cu.heat.hi, vR r.cu.loss, vD r.cu.readings, vi r.bu, vi r.pl, v]
theorem rmRow_eq (r : Rm) (v : V) : List.take 13 r.cs ++ [v] ++ List.drop 14 r.cs = rmRow r v := rfl
theorem rmRow_set (r : Rm) (u v : V) : List.take 13 (rmRow r u) ++ [v] ++ List.drop 14 (rmRow r u) = rmRow r v := rfl
theorem rmRow_h (r : Rm) (v : V) : (List.drop 13 (rmRow r v)).head? = some v := rfl
theorem rmRow_len (r : Rm) (v : V) : (rmRow r v).length = 14 := rfl
theorem rmRow_frz (i ver : Nat) (cs : List V) (r : Rm) (v : V) : frzL i ver cs (rmRow r v) = rmRow r (v.frz i ver cs) := by
  simp only [rmRow, frzL, vI_frz, vR, vD, V.frz, cR_frz, cD_frz]
end Go.Vm

set_option linter.unusedVariables false
set_option linter.unusedSimpArgs false
set_option maxRecDepth 100000
namespace Go.Vm
open Go.Proofs
theorem c_list91 (l : List Int) (hl : (l.length : Int) ≤ 1000000) : Ev Tryz.prog (.fn 26 [] []) [vI l] [] fun v h' => v = .own 4 0 0 1 l.length ∧ h' = [(4, ⟨0, .row (cI l)⟩)] := by
  refine Ev.fn Tryz.func26 rfl rfl (Fn.body tabOk Tryz.func26 rfl (Nat.le_of_ble_eq_true rfl) (Ks.ok (fz := (fzn [])) (cl := (cln [])) tabOk mixed ?_))
  generalize hQ : FnPost tt Tryz.f26 _ _ = Q
  simp only [Tryz.f26, List.nil_append, List.append_nil, argsEnv]
  have hl2 : l.length ≤ 1000000 := by omega
  simp only [gos, eq_self, Nat.reduceLT, Nat.reduceLeDiff, reduceCtorEq, reduceIte, ↓reduceIte, tt, vgo, vout, vguard, callOf, vop, ev, cv, vappend, srcOf, vI, cI_len, Nat.mul_one, cI_one, hl2]
  subst hQ
  exact FnPost.plain trivial (v := .own 4 0 0 1 l.length) (fun h2 e => by rfl) WkV.refl ⟨rfl, rfl⟩
theorem n_list91 (l : List Int) (hl : (l.length : Int) ≤ 1000000) : NewB Tryz.prog (.fn 26 [] []) [vI l] (.own 4 0 0 1 l.length) 4 ⟨0, .row (cI l)⟩ :=
  NewB.of (c_list91 l hl) rfl (by simp only [intoL, vI_into, Bool.and_true])
set_option maxHeartbeats 8000000 in
theorem l_BathMoreIn (r : Rm) (hl : I64 r.cu.last) (words : List Int) (hw : ∀ x ∈ words, 0 ≤ x ∧ x ≤ 65535) (hour : Int) (hho : 0 ≤ hour ∧ hour ≤ 255) :
    Vm.Fn Tryz.prog 14 [.agg r.cs, vW words, .int .u8 hour] [] fun v h' => v = .bool true := by
  refine Fn.body tabOk Tryz.func14 rfl (Nat.le_of_ble_eq_true rfl) (Ks.ok (fz := (fzn [11])) (cl := (cln [(17, .ex), (19, .d tg0 [cP, cL, cP, cL, cP, cP, cP, cP, cP, cP, cP, cP, cP, cW, cP])])) tabOk mixed ?_)
  generalize hQ : FnPost tt Tryz.f14 _ _ = Q
  simp only [Tryz.f14, argsEnv, Nat.reduceAdd]
  simp only [gos, eq_self, Nat.reduceLT, Nat.reduceEqDiff, reduceCtorEq, reduceIte, ↓reduceIte, tt, vgo, vout, vguard, callOf, vop, ev, cv, vload, newRow, rms]
  refine Cl.pu (c_ready9 r hl) ?_ rfl (by simp only [V.into, intoL, Bool.and_true, rm_into])
  cases hrd : sReadyR r with
  | false =>
    simp only [gos, eq_self, Nat.reduceLT, Nat.reduceEqDiff, reduceIte, ↓reduceIte, vgo, vout, vguard, callOf, vop, ev]
    refine Cl.pu c_awake9 ?_
    simp only [gos, eq_self, Nat.reduceLT, reduceIte, ↓reduceIte, vgo, vout, vguard, callOf, vop, ev]
    subst hQ
    exact FnPost.plain trivial (v := .bool true) (fun h2 e => by rfl) WkV.refl rfl
  | true =>
    obtain ⟨hr, h0, k, hb4, hp3⟩ := ready9_ok hl hrd
    have k0 := k.A.k0
    have hla := k0.last
    have hcl := chosen_len r words
    have ha := chosen_are k hw
    have hp : ((sChosen r words).length : Int) ≤ 1000000 := by omega
    simp only [gos, eq_self, Nat.reduceLT, Nat.reduceEqDiff, reduceCtorEq, reduceIte, ↓reduceIte, tt, vgo, vout, vguard, callOf, vop, ev, vload, rms]
    refine Cl.pu (c_Chosen r k words hw) ?_ rfl (by simp only [V.into, intoL, Bool.and_true, rm_into, vW_into])
    generalize sChosen r words = plan at hcl ha hp ⊢
    have wh := i64_in (show -9223372036854775808 ≤ hour by omega) (show hour ≤ 9223372036854775807 by omega)
    have wl := i64_in (show -9223372036854775808 ≤ r.cu.last + 1 by omega) (show r.cu.last + 1 ≤ 9223372036854775807 by omega)
    have lz : ¬ r.cu.last + 1 = 0 := by omega
    have htm := tmod_le hho.1 (s := r.cu.last + 1) (by omega)
    obtain ⟨h, hh⟩ : ∃ h : Nat, (h : Int) = hour.tmod (r.cu.last + 1) := ⟨(hour.tmod (r.cu.last + 1)).toNat, by omega⟩
    rw [← hh] at htm
    have hhl : (h : Int) ≤ r.cu.last := by omega
    simp only [gos, eq_self, Nat.reduceLT, Nat.reduceEqDiff, reduceCtorEq, reduceIte, ↓reduceIte, tt, vgo, vout, vguard, callOf, vop, ev, cv, vbin, vint, isShift, isNilConst, vload, rms, wh, wl, lz, ← hh]
    refine Cl.pu (c_Room r hr) ?_ rfl (by simp only [V.into, intoL, Bool.and_true, rm_into])
    simp only [gos, eq_self, Nat.reduceLT, Nat.reduceEqDiff, reduceIte, ↓reduceIte, vgo, vout, vguard, callOf, vop, ev]
    refine Cl.pu (c_list9 plan hp) ?_ rfl (by simp only [intoL, vI_into, Bool.and_true])
    simp only [gos, eq_self, Nat.reduceLT, Nat.reduceEqDiff, reduceIte, ↓reduceIte, vgo, vout, vguard, callOf, vop, ev]
    refine Cl.pu (c_bFree r hr plan hp h ⟨by omega, by omega⟩) ?_ rfl (by simp only [V.into, intoL, vI_into, Bool.and_true, rm_into])
    have hfa := free_all k ha hhl
    generalize sFreeR r plan h = E at hfa
    have y0 : ((0 : Int) != 0) = false := rfl
    have y9 : ((9 : Int) != 0) = true := rfl
    have y10 : ((10 : Int) != 0) = true := rfl
    have y99 : decide ((9 : Int) = 9) = true := rfl
    have y109 : decide ((10 : Int) = 9) = false := rfl
    have y1010 : decide ((10 : Int) = 10) = true := rfl
    rcases hfa with ⟨_, h2, hpf⟩ | ⟨N, rfl, hN5, hpt, hpN, hpS⟩
    · rcases h2 with h2 | h2
      · simp only [gos, eq_self, Nat.reduceLT, Nat.reduceEqDiff, reduceCtorEq, reduceIte, ↓reduceIte, tt, vgo, vout, vguard, callOf, vop, ev, cv, vbin, vint, isShift, isNilConst, vload, rms, h2, y9]
        refine Cl.pu (c_Room r hr) ?_ rfl (by simp only [V.into, intoL, Bool.and_true, rm_into])
        simp only [gos, eq_self, Nat.reduceLT, Nat.reduceEqDiff, reduceIte, ↓reduceIte, vgo, vout, vguard, callOf, vop, ev]
        refine Cl.pu (c_list9 plan hp) ?_ rfl (by simp only [intoL, vI_into, Bool.and_true])
        simp only [gos, eq_self, Nat.reduceLT, Nat.reduceEqDiff, reduceIte, ↓reduceIte, vgo, vout, vguard, callOf, ev]
        refine Cl.pu (c_ProvePlan r hr plan hp) ?_ rfl (by simp only [V.into, intoL, vI_into, Bool.and_true, rm_into])
        rw [hpf]
        simp only [gos, eq_self, Nat.reduceLT, Nat.reduceEqDiff, reduceIte, ↓reduceIte, vgo, vout, vguard, callOf, vop, ev]
        refine Cl.pu c_awake9 ?_
        simp only [gos, eq_self, Nat.reduceLT, Nat.reduceEqDiff, reduceIte, ↓reduceIte, vgo, vout, vguard, callOf, vop, ev]
        subst hQ
        exact FnPost.plain trivial (v := .bool true) (fun h2 e => by rfl) WkV.refl rfl
      · simp only [gos, eq_self, Nat.reduceLT, Nat.reduceEqDiff, reduceCtorEq, reduceIte, ↓reduceIte, tt, vgo, vout, vguard, callOf, vop, ev, cv, vbin, vint, isShift, isNilConst, vload, rms, h2, y10, y109]
        refine Cl.pu (c_Room r hr) ?_ rfl (by simp only [V.into, intoL, Bool.and_true, rm_into])
        simp only [gos, eq_self, Nat.reduceLT, Nat.reduceEqDiff, reduceIte, ↓reduceIte, vgo, vout, vguard, callOf, vop, ev]
        refine Cl.pu (c_list9 plan hp) ?_ rfl (by simp only [intoL, vI_into, Bool.and_true])
        simp only [gos, eq_self, Nat.reduceLT, Nat.reduceEqDiff, reduceIte, ↓reduceIte, vgo, vout, vguard, callOf, ev]
        refine Cl.pu (c_ProvePlan r hr plan hp) ?_ rfl (by simp only [V.into, intoL, vI_into, Bool.and_true, rm_into])
        rw [hpf]
        simp only [gos, eq_self, Nat.reduceLT, Nat.reduceEqDiff, reduceIte, ↓reduceIte, vgo, vout, vguard, callOf, vop, ev]
        refine Cl.pu c_awake9 ?_
        simp only [gos, eq_self, Nat.reduceLT, Nat.reduceEqDiff, reduceIte, ↓reduceIte, vgo, vout, vguard, callOf, vop, ev]
        subst hQ
        exact FnPost.plain trivial (v := .bool true) (fun h2 e => by rfl) WkV.refl rfl
    have n0 : ¬ (N : Int) < 0 := by omega
    have n5 : ¬ 5 < (N : Int) := by omega
    have hbm : r.ba.length ≤ 1000000 := by omega
    have hcn : (cR r.ba).length = r.ba.length * 2 := cR_len _
    have hone := cR_oneL r.ba
    simp only [gos, eq_self, Nat.reduceLT, Nat.reduceEqDiff, reduceCtorEq, reduceIte, ↓reduceIte, tt, vgo, vout, vguard, callOf, vop, ev, cv, vbin, vint, isShift, isNilConst, vload, rms, n0, n5]
    refine Cl.pu (c_Room r hr) ?_ rfl (by simp only [V.into, intoL, Bool.and_true, rm_into])
    simp only [gos, eq_self, Nat.reduceLT, Nat.reduceEqDiff, reduceIte, ↓reduceIte, vgo, vout, vguard, callOf, vop, ev]
    refine Cl.pu (c_list9 plan hp) ?_ rfl (by simp only [intoL, vI_into, Bool.and_true])
    simp only [gos, eq_self, Nat.reduceLT, Nat.reduceEqDiff, reduceIte, ↓reduceIte, vgo, vout, vguard, callOf, ev]
    refine Cl.pu (c_ProvePlan r hr plan hp) ?_ rfl (by simp only [V.into, intoL, vI_into, Bool.and_true, rm_into])
    rw [hpt]
    simp only [gos, eq_self, Nat.reduceLT, Nat.reduceEqDiff, Nat.reduceAdd, Nat.reduceMul, Nat.reduceLeDiff, reduceCtorEq, reduceIte, ↓reduceIte, tt, vgo, vout, vguard, callOf, vop, ev, vload, newRow, vfill, vappend, srcOf, rms, vR, hbm, hcn, hone, rmRow_eq]
    refine Cl.newN (n_list91 plan hp) rfl ?_
    simp only [gos, eq_self, Nat.reduceLT, Nat.reduceEqDiff, reduceIte, ↓reduceIte, vgo, vout, vguard, callOf, vop, ev, cv]
    refine W.loop tabOk mixed (fun i : Nat => ([(3, .rop r.cs), (7, vI plan), (8, vi h), (9, vi N), (11, .ptr 11 0 0), (12, .own 4 i 0 1 (plan.length + i)), (13, vi i)], [(11, ⟨0, .row (rmRow r (.own 74 i 0 2 (r.ba.length + i)))⟩), (74, ⟨i, .row (cR (rmAdd r h i).ba)⟩), (4, ⟨i, .row (cI (plAdd plan h i))⟩)])) (fun i => N + 1 - i) (fun i => i ≤ N + 1) 0 (by omega)
      (Wk.heap (fun j => by simp [rmAdd, plAdd]) (by simp [subE, Env.get])) ?_
    intro i hi
    have hbl : (rmAdd r h i).ba.length = r.ba.length + i := by simp [rmAdd]
    have hpl2 : (plAdd plan h i).length = plan.length + i := by simp [plAdd]
    have hcB : (cR (rmAdd r h i).ba).length = (r.ba.length + i) * 2 := by rw [cR_len, hbl]
    have hcP : (cI (plAdd plan h i)).length = plan.length + i := by rw [cI_len, hpl2]
    by_cases hil : (i : Int) ≤ N
    · have m1 : r.ba.length + i ≤ 999999 := by omega
      have m2 : plan.length + i ≤ 999999 := by omega
      have sB : cR (rmAdd r h (i + 1)).ba = cR (rmAdd r h i).ba ++ [vi h, vi h] := by
        rw [show (rmAdd r h (i + 1)).ba = (rmAdd r h i).ba ++ [⟨(h : Int), (h : Int)⟩] by simp only [rmAdd, List.replicate_succ', List.append_assoc], cR_snoc]
      have sP : cI (plAdd plan h (i + 1)) = cI (plAdd plan h i) ++ [vi h] := by
        rw [show plAdd plan h (i + 1) = plAdd plan h i ++ [(h : Int)] by simp only [plAdd, List.replicate_succ', List.append_assoc], cI_snoc]
      simp only [gos, eq_self, Nat.reduceLT, Nat.reduceEqDiff, Nat.reduceAdd, Nat.reduceMul, Nat.reduceLeDiff, reduceCtorEq, reduceIte, ↓reduceIte, tt, vgo, vout, vguard, callOf, vop, ev, cv, vbin, vint, isShift, isNilConst, vload, vfill, vappend, srcOf, hil, rmRow_h, rmRow_len, rmRow_set, hcB, hcP, m1, m2, Nat.mul_one]
      refine Nx.mk (i + 1) (show N + 1 - (i + 1) < N + 1 - i by omega) (show i + 1 ≤ N + 1 by omega) (Wk.heap (fun j => ?_) ?_)
      · rw [sB, sP]; simp only [Nat.add_assoc]
      · simp [subE, Env.get, Nat.add_assoc, i64_succ (show (i : Int) < 9223372036854775807 by omega)]
    · have hie : i = N + 1 := by omega
      subst hie
      simp only [gos, eq_self, Nat.reduceLT, Nat.reduceEqDiff, reduceIte, ↓reduceIte, vgo, vout, vguard, callOf, vop, ev, vbin, vint, isShift, isNilConst, hil]
      refine Wr.at tabOk 0 ?_
      simp only [gos]
      refine Wa.mk (ρ2 := [(11, .ptr 11 0 0), (12, vI (plAdd plan h (N + 1)))]) (h2 := [(11, ⟨0, .row (rmAdd r h (N + 1)).cs⟩)]) ?_ ?_
      · have e1 : (cR (rmAdd r h (N + 1)).ba).take ((r.ba.length + (N + 1)) * 2) = cR (rmAdd r h (N + 1)).ba := List.take_of_length_le (by omega)
        have e2 : (cI (plAdd plan h (N + 1))).take (plan.length + (N + 1)) = cI (plAdd plan h (N + 1)) := List.take_of_length_le (by omega)
        have e3 : V.ro (r.ba.length + (N + 1)) (cR (rmAdd r h (N + 1)).ba) = vR (rmAdd r h (N + 1)).ba := by rw [vR, hbl]
        have e4 : V.ro (plan.length + (N + 1)) (cI (plAdd plan h (N + 1))) = vI (plAdd plan h (N + 1)) := by rw [vI, hpl2]
        have e5 : rmRow r (vR (rmAdd r h (N + 1)).ba) = (rmAdd r h (N + 1)).cs := rfl
        refine Wk.trans (Wk.env (ρ' := [(11, .ptr 11 0 0), (12, .own 4 (N + 1) 0 1 (plan.length + (N + 1)))]) (by simp [subE, Env.get])) (Wk.trans (Wk.freeze 74 rfl rfl (cR_into _ _) rfl) ?_)
        simp only [gos, eq_self, Nat.reduceEqDiff, reduceIte, ↓reduceIte, frzE, frzH, Blk.frz, V.frz, rmRow_frz, cI_frz, e1, e3, e5]
        refine Wk.trans (Wk.freeze 4 rfl rfl (cI_into _ _) rfl) ?_
        simp only [gos, eq_self, Nat.reduceEqDiff, reduceIte, ↓reduceIte, frzE, frzH, Blk.frz, V.frz, rm_frz, Nat.mul_one, e2, e4]
        exact Wk.env (by simp [subE, Env.get])
      have hwf : ∀ m : Nat, m ≤ 6 → (rmAdd r h m).wf := fun m hm => ⟨hr.cu, by simp only [rmAdd, List.length_append, List.length_replicate]; omega⟩
      have bl1 : ((rmAdd r h (N + 1)).ba.length : Int) = r.ba.length + N + 1 := by omega
      have pl1 : ((plAdd plan h (N + 1)).length : Int) = plan.length + N + 1 := by omega
      have bl0 : (rmAdd r h N).ba.length = r.ba.length + N := by simp [rmAdd]
      have pl0 : (plAdd plan h N).length = plan.length + N := by simp [plAdd]
      have wB := i64_in (show -9223372036854775808 ≤ ((rmAdd r h (N + 1)).ba.length : Int) - 1 by omega) (show ((rmAdd r h (N + 1)).ba.length : Int) - 1 ≤ 9223372036854775807 by omega)
      have wP := i64_in (show -9223372036854775808 ≤ ((plAdd plan h (N + 1)).length : Int) - 1 by omega) (show ((plAdd plan h (N + 1)).length : Int) - 1 ≤ 9223372036854775807 by omega)
      have kB : (0 : Int) ≤ ((rmAdd r h (N + 1)).ba.length : Int) - 1 ∧ ((rmAdd r h (N + 1)).ba.length : Int) - 1 ≤ ((rmAdd r h (N + 1)).ba.length : Int) := by omega
      have kP : (0 : Int) ≤ ((plAdd plan h (N + 1)).length : Int) - 1 ∧ ((plAdd plan h (N + 1)).length : Int) - 1 ≤ ((plAdd plan h (N + 1)).length : Int) := by omega
      have tB : (((rmAdd r h (N + 1)).ba.length : Int) - 1).toNat = (rmAdd r h N).ba.length := by omega
      have tP : (((plAdd plan h (N + 1)).length : Int) - 1).toNat = (plAdd plan h N).length := by omega
      have u1 : List.take ((rmAdd r h N).ba.length * 2) (cR (rmAdd r h (N + 1)).ba) = cR (rmAdd r h N).ba := by
        rw [cR_takeN]; congr 1
        rw [show (rmAdd r h (N + 1)).ba = (rmAdd r h N).ba ++ [⟨(h : Int), (h : Int)⟩] by simp only [rmAdd, List.replicate_succ', List.append_assoc], List.take_left]
      have u2 : List.take ((plAdd plan h N).length * 1) (cI (plAdd plan h (N + 1))) = cI (plAdd plan h N) := by
        rw [Nat.mul_one, cI_takeN]; congr 1
        rw [show plAdd plan h (N + 1) = plAdd plan h N ++ [(h : Int)] by simp only [plAdd, List.replicate_succ', List.append_assoc], List.take_left]
      have e13 : List.take 13 (rmAdd r h (N + 1)).cs ++ [V.ro (rmAdd r h N).ba.length (cR (rmAdd r h N).ba)] ++ List.drop 14 (rmAdd r h (N + 1)).cs = (rmAdd r h N).cs := rfl
      have q5 : (List.drop 13 (rmAdd r h (N + 1)).cs).head? = some (vR (rmAdd r h (N + 1)).ba) := rfl
      have q6 : (List.drop 13 (rmAdd r h N).cs).head? = some (vR (rmAdd r h N).ba) := rfl
      by_cases h5 : ((rmAdd r h (N + 1)).ba.length : Int) ≤ 5
      · simp only [gos, eq_self, Nat.reduceLT, Nat.reduceEqDiff, Nat.reduceAdd, reduceCtorEq, reduceIte, ↓reduceIte, tt, vgo, vout, vguard, callOf, vop, ev, cv, vbin, vint, isShift, isNilConst, vload, vlen, rms, q5, vI, vR, h5]
        refine Cl.pu (c_Room (rmAdd r h (N + 1)) (hwf _ (by omega))) ?_ rfl (by simp only [V.into, intoL, Bool.and_true, rm_into])
        simp only [gos, eq_self, Nat.reduceLT, Nat.reduceEqDiff, reduceIte, ↓reduceIte, vgo, vout, vguard, callOf, vop, ev]
        refine Cl.pu (c_list9 (plAdd plan h (N + 1)) (by omega)) ?_ rfl (by simp only [V.into, intoL, cI_into, Bool.and_true])
        simp only [gos, eq_self, Nat.reduceLT, Nat.reduceEqDiff, reduceIte, ↓reduceIte, vgo, vout, vguard, callOf, ev]
        refine Cl.pu (c_ProvePlan (rmAdd r h (N + 1)) (hwf _ (by omega)) (plAdd plan h (N + 1)) (by omega)) ?_ rfl (by simp only [V.into, intoL, vI_into, Bool.and_true, rm_into])
        rw [hpS (by omega)]
        simp only [gos, eq_self, Nat.reduceLT, Nat.reduceEqDiff, reduceIte, ↓reduceIte, vgo, vout, vguard, callOf, vop, ev, vI]
        refine Wr.draw (by kernel_rfl) ?_
        simp only [gos, eq_self, Nat.reduceLT, Nat.reduceEqDiff, Nat.reduceAdd, reduceCtorEq, reduceIte, ↓reduceIte, tt, vgo, vout, vgoD, voutD, vclsOk, vids, mayWrite, V.ids, vguard, callOf, vop, ev, cv, vbin, vint, isShift, isNilConst, vload, vlen, vslice, clsAt, rms, q5, q6, vR, wB, wP, kB, kP, tB, tP, u1, u2, e13]
        by_cases h6 : 5 < ((rmAdd r h N).ba.length : Int)
        · simp only [gos, eq_self, Nat.reduceLT, Nat.reduceEqDiff, reduceIte, ↓reduceIte, vgo, vout, vguard, callOf, vop, ev, cv, h6]
          refine Cl.pu c_awake9 ?_
          simp only [gos, eq_self, Nat.reduceLT, Nat.reduceEqDiff, reduceIte, ↓reduceIte, vgo, vout, vguard, callOf, vop, ev]
          subst hQ
          exact FnPost.plain trivial (v := .bool true) (fun h2 e => by rfl) WkV.refl rfl
        · simp only [gos, eq_self, Nat.reduceLT, Nat.reduceEqDiff, reduceIte, ↓reduceIte, vgo, vout, vguard, callOf, ev, h6]
          refine Cl.pu (c_Room (rmAdd r h N) (hwf N (by omega))) ?_ rfl (by simp only [V.into, intoL, Bool.and_true, rm_into])
          simp only [gos, eq_self, Nat.reduceLT, Nat.reduceEqDiff, reduceIte, ↓reduceIte, vgo, vout, vguard, callOf, vop, ev]
          refine Cl.pu (c_list9 (plAdd plan h N) (by omega)) ?_ rfl (by simp only [V.into, intoL, cI_into, Bool.and_true])
          simp only [gos, eq_self, Nat.reduceLT, Nat.reduceEqDiff, reduceIte, ↓reduceIte, vgo, vout, vguard, callOf, ev]
          refine Cl.pu (c_ProvePlan (rmAdd r h N) (hwf N (by omega)) (plAdd plan h N) (by omega)) ?_ rfl (by simp only [V.into, intoL, vI_into, Bool.and_true, rm_into])
          rw [hpN (by omega)]
          simp only [gos, eq_self, Nat.reduceLT, Nat.reduceEqDiff, reduceIte, ↓reduceIte, vgo, vout, vguard, callOf, vop, ev]
          refine Cl.pu c_awake9 ?_
          simp only [gos, eq_self, Nat.reduceLT, Nat.reduceEqDiff, reduceIte, ↓reduceIte, vgo, vout, vguard, callOf, vop, ev]
          subst hQ
          exact FnPost.plain trivial (v := .bool true) (fun h2 e => by rfl) WkV.refl rfl
      · simp only [gos, eq_self, Nat.reduceLT, Nat.reduceEqDiff, Nat.reduceAdd, reduceCtorEq, reduceIte, ↓reduceIte, tt, vgo, vout, vguard, callOf, vop, ev, cv, vbin, vint, isShift, isNilConst, vload, vlen, q5, vI, vR, h5]
        refine Wr.draw (by kernel_rfl) ?_
        simp only [gos, eq_self, Nat.reduceLT, Nat.reduceEqDiff, Nat.reduceAdd, reduceCtorEq, reduceIte, ↓reduceIte, tt, vgo, vout, vgoD, voutD, vclsOk, vids, mayWrite, V.ids, vguard, callOf, vop, ev, cv, vbin, vint, isShift, isNilConst, vload, vlen, vslice, clsAt, rms, q5, q6, vR, wB, wP, kB, kP, tB, tP, u1, u2, e13]
        by_cases h6 : 5 < ((rmAdd r h N).ba.length : Int)
        · simp only [gos, eq_self, Nat.reduceLT, Nat.reduceEqDiff, reduceIte, ↓reduceIte, vgo, vout, vguard, callOf, vop, ev, cv, h6]
          refine Cl.pu c_awake9 ?_
          simp only [gos, eq_self, Nat.reduceLT, Nat.reduceEqDiff, reduceIte, ↓reduceIte, vgo, vout, vguard, callOf, vop, ev]
          subst hQ
          exact FnPost.plain trivial (v := .bool true) (fun h2 e => by rfl) WkV.refl rfl
        · simp only [gos, eq_self, Nat.reduceLT, Nat.reduceEqDiff, reduceIte, ↓reduceIte, vgo, vout, vguard, callOf, ev, h6]
          refine Cl.pu (c_Room (rmAdd r h N) (hwf N (by omega))) ?_ rfl (by simp only [V.into, intoL, Bool.and_true, rm_into])
          simp only [gos, eq_self, Nat.reduceLT, Nat.reduceEqDiff, reduceIte, ↓reduceIte, vgo, vout, vguard, callOf, vop, ev]
          refine Cl.pu (c_list9 (plAdd plan h N) (by omega)) ?_ rfl (by simp only [V.into, intoL, cI_into, Bool.and_true])
          simp only [gos, eq_self, Nat.reduceLT, Nat.reduceEqDiff, reduceIte, ↓reduceIte, vgo, vout, vguard, callOf, ev]
          refine Cl.pu (c_ProvePlan (rmAdd r h N) (hwf N (by omega)) (plAdd plan h N) (by omega)) ?_ rfl (by simp only [V.into, intoL, vI_into, Bool.and_true, rm_into])
          rw [hpN (by omega)]
          simp only [gos, eq_self, Nat.reduceLT, Nat.reduceEqDiff, reduceIte, ↓reduceIte, vgo, vout, vguard, callOf, vop, ev]
          refine Cl.pu c_awake9 ?_
          simp only [gos, eq_self, Nat.reduceLT, Nat.reduceEqDiff, reduceIte, ↓reduceIte, vgo, vout, vguard, callOf, vop, ev]
          subst hQ
          exact FnPost.plain trivial (v := .bool true) (fun h2 e => by rfl) WkV.refl rfl
end Go.Vm
