import Derived.Test.YtjppikcigeiomaaGreatB4
import Derived.Test.YtjppikcigeiomaaGreatRows
import Derived.WalkKit
import Derived.ProofKit
import Derived.OpenShut
import Derived.ShutString
import Derived.ChangeOld
import Derived.Below
set_option linter.unusedVariables false
set_option linter.unusedSimpArgs false
set_option maxRecDepth 100000
namespace Go.Vm
open Go.Proofs Go.ChangeShapes Go.WideShapes Go.ChangeAt Go.RowKit
/-! ### from a contract to the row -/
theorem hrel0 (w : World) : HRel (gh0 w) [] w :=
  ⟨fun B o v e => e, fun i e he => (by cases he), fun i j e e' B c c' he => (by cases he), fun i e B c o he => (by cases he), fun i v h => absurd rfl h⟩
theorem calls_of_fn {P : Program} {f : FuncId} {vs : List V} {xs : List Value} {w : World} (c : Fn P f vs [] fun v h' => v = .bool true) (hv : VRL (gh0 w) vs xs) :
    Calls P f xs.toArray w fun e w' => e = .returned (.bool true) ∧ Below w.heap.size w w' := fun cs => by
  obtain ⟨v, h', vc, g', w', fr, rfl, st, hf, hl, hvc, H', t, le⟩ := c (gh0 w) w xs hv (hrel0 w) cs
  simp only [VR] at hvc
  subst hvc
  exact ⟨.returned (.bool true), w', fr, ⟨rfl, t.os, t.tape, t.output, t.size, fun k hk => t.mods k hk (by rintro ⟨i, e, c, he, _⟩; cases he)⟩, st, hf, hl⟩
section
variable {H : Type} {enc : TypeId × Value → H} {P : Program} {w : World} {base : Nat} {spare : Nat → Bool} {held : Bool} {fuel : Nat} {t : TypeId} {cs : List Value} {x : DataW H × List MemPlace}
end
section
variable {H : Type} {enc : TypeId × Value → H} {w : World} {base : Nat} {spare : Nat → Bool} {held : Bool} {fuel : Nat} {cs : List Value} {x : DataW H × List MemPlace}
end
end Go.Vm

set_option linter.unusedVariables false
set_option linter.unusedSimpArgs false
set_option maxRecDepth 100000
namespace Go.Vm
open Go.Proofs Go.ChangeShapes Go.WideShapes Go.ChangeAt Go.RowKit
section
variable {H : Type} {enc : TypeId × Value → H} {w : World} {base : Nat} {spare : Nat → Bool} {held : Bool} {fuel : Nat} {cs : List Value} {x : DataW H × List MemPlace}
theorem rd_u16 (h : DataW.trod enc Tryz.prog w base spare held fuel 77 cs = some x) : ∃ n : Int, (0 ≤ n ∧ n ≤ 65535) ∧ VRL (gh0 w) [.int .u16 n] cs := by
  obtain ⟨n, rfl, _, h2⟩ := DataW.trod_int Tryz.underlying77 h
  exact ⟨n, bounds_u16 h2, VRL.cons (by simp only [VR]) VRL.nil⟩
theorem rd_u8 (h : DataW.trod enc Tryz.prog w base spare held fuel 5 cs = some x) : ∃ n : Int, (0 ≤ n ∧ n ≤ 255) ∧ VRL (gh0 w) [.int .u8 n] cs := by
  obtain ⟨n, rfl, _, h2⟩ := DataW.trod_int Tryz.underlying5 h
  exact ⟨n, bounds_u8 h2, VRL.cons (by simp only [VR]) VRL.nil⟩
theorem rd_words (h : DataW.trod enc Tryz.prog w base spare held fuel 86 cs = some x) : ∃ l : List Int, (∀ n ∈ l, 0 ≤ n ∧ n ≤ 65535) ∧ VRL (gh0 w) [vW l] cs := by
  obtain ⟨l, h1, h2, h3⟩ := rd_slice (fun n : Int => [V.int .u16 n]) (fun n => 0 ≤ n ∧ n ≤ 65535) 1 Tryz.underlying86 (by kernel_rfl) (by omega) (fun _ => rfl) h fun n cs x h => rd_u16 h
  have e : l.flatMap (fun n : Int => [V.int .u16 n]) = cW16 l := by
    clear h1 h2 h3
    induction l with
    | nil => rfl
    | cons y l ih => simp only [List.flatMap_cons, cW16, List.map_cons, List.singleton_append] at ih ⊢; rw [ih]
  rw [e] at h3
  exact ⟨l, h1, h3⟩
end
end Go.Vm

set_option linter.unusedVariables false
set_option linter.unusedSimpArgs false
set_option maxRecDepth 100000
namespace Go.Vm
/-! ### lists that are changed in some places -/
theorem vW_into (p : Nat → Bool) (l : List Int) : (vW l).into p = true := by simp only [vW, V.into]; exact cW16_into p l
end Go.Vm

set_option linter.unusedVariables false
set_option linter.unusedSimpArgs false
set_option maxRecDepth 100000
namespace Go.Vm
open Go.Proofs
theorem c_ProvePlan (r : Rm) (hr : r.wf) (plan : List Int) (hp : (plan.length : Int) ≤ 1000000) : Pu Tryz.prog (.fn 62 [] []) [.agg r.cs, vI plan] (.bool (sProveP r plan)) := by
  refine Ev.fn Tryz.func62 rfl rfl (Fn.body tabOk Tryz.func62 rfl (Nat.le_of_ble_eq_true rfl) (Ks.ok (fz := (fzn [])) (cl := (cln [])) tabOk mixed ?_))
  generalize hQ : FnPost tt Tryz.f62 _ _ = Q
  simp only [Tryz.f62, List.nil_append, List.append_nil, argsEnv, Nat.reduceAdd]
  simp only [gos, eq_self, Nat.reduceLT, Nat.reduceEqDiff, reduceCtorEq, reduceIte, ↓reduceIte, tt, vgo, vout, vguard, callOf, vop, ev, cv, vload, newRow, rms]
  refine Cl.pu (c_bKeeps r hr plan hp) ?_ rfl (by simp only [V.into, intoL, vI_into, Bool.and_true, rm_into])
  by_cases h : (sKeepsR r plan).2 = 0
  · have hd : decide ((sKeepsR r plan).2 = 0) = true := by simp [h]
    simp only [gos, eq_self, Nat.reduceLT, Nat.reduceEqDiff, reduceIte, ↓reduceIte, vgo, vout, vguard, callOf, vop, ev, cv, vbin, vint, isShift, isNilConst, hd]
    subst hQ
    exact FnPost.plain trivial (fun h2 e => by first | rfl | (simp only [Tryz.f62, vres, vresL, vres1, e _, gos, if_true, if_false, ne_eq, eq_self, Nat.reduceLT, Nat.reduceEqDiff, Nat.reduceAdd, Nat.reduceMul, Nat.reduceLeDiff, Nat.reduceBEq, reduceCtorEq, reduceIte, Array.toList, ↓reduceIte, tt, vgo, vout, vgoD, voutD, vclsOk, vids, mayWrite, V.ids, V.mids, vguard, callOf, vop, ev, cv, vbin, vint, isShift, isNilConst, vnil, isNilSlice, vload, vlen, newRow, vfill, vslice, entOf, vappend, srcOf, vcopy, vlookup, vupdate, mapOk, keyOf, intsOf, clsAt]; try rfl)) (WkV.pure (by simp only [V.into])) ⟨by simp [sProveP, h], rfl⟩
  · have hd : decide ((sKeepsR r plan).2 = 0) = false := by simp [h]
    simp only [gos, eq_self, Nat.reduceLT, Nat.reduceEqDiff, reduceIte, ↓reduceIte, vgo, vout, vguard, callOf, vop, ev, cv, vbin, vint, isShift, isNilConst, hd]
    subst hQ
    exact FnPost.plain trivial (fun h2 e => by first | rfl | (simp only [Tryz.f62, vres, vresL, vres1, e _, gos, if_true, if_false, ne_eq, eq_self, Nat.reduceLT, Nat.reduceEqDiff, Nat.reduceAdd, Nat.reduceMul, Nat.reduceLeDiff, Nat.reduceBEq, reduceCtorEq, reduceIte, Array.toList, ↓reduceIte, tt, vgo, vout, vgoD, voutD, vclsOk, vids, mayWrite, V.ids, V.mids, vguard, callOf, vop, ev, cv, vbin, vint, isShift, isNilConst, vnil, isNilSlice, vload, vlen, newRow, vfill, vslice, entOf, vappend, srcOf, vcopy, vlookup, vupdate, mapOk, keyOf, intsOf, clsAt]; try rfl)) (WkV.pure (by simp only [V.into])) ⟨by simp [sProveP, h], rfl⟩
end Go.Vm

set_option linter.unusedVariables false
set_option linter.unusedSimpArgs false
set_option maxRecDepth 100000
namespace Go.Vm
/-! ### what is sure in one room and in another -/
theorem check_of {x : Rm} (ha : sAsked x.cu true = 0) (hpl : 0 ≤ x.pl ∧ x.pl ≤ 5) (hbu : 1 ≤ x.bu ∧ x.bu ≤ 9) (hl : x.ba.length ≤ 5) (hb : ∀ b ∈ x.ba, 0 ≤ b.lo ∧ b.lo ≤ b.hi ∧ b.hi ≤ x.cu.last) : sCheckR x = 0 := by
  have h1 : ¬ (sAsked x.cu true ≠ 0) := by simp [ha]
  have h2 : ¬ (5 < x.pl ∨ 5 < (x.ba.length : Int)) := by omega
  have h3 : x.ba.all (sValid x) = true := by
    rw [List.all_eq_true]
    intro b hb2
    have := hb b hb2
    simp only [sValid, Bool.and_eq_true, decide_eq_true_eq]; omega
  have h4 : sIn x.bu 1 9 = true := by simp [sIn]; omega
  rw [sCheckR, if_neg h1, if_neg h2, h3, h4, if_neg (by simp; omega)]
theorem RmOk.check {r : Rm} (k : RmOk r) : sCheckR r = 0 := check_of k.ask k.pl k.bu k.len k.ba
theorem ready_of {x : Rm} (ht : sThin x.cu = true) (h0 : sCheckR x = 0) (hl : (x.ba.length : Int) ≤ 4) (hp : x.pl ≤ 3) : sReadyR x = true := by
  have h7 : ¬ 7 < (x.ba.length : Int) := by omega
  simp [sReadyR, sThinR, ht, h0, hl, hp, h7]
theorem ready_thin {r : Rm} (h : sReadyR r = true) : sThin r.cu = true := by
  simp only [sReadyR, sThinR, Bool.and_eq_true] at h
  exact h.1.1
theorem sure_room {r x : Rm} (k : RmOk r) (kx : RmOk x) (hl : x.cu.last = r.cu.last) (hw : x.cu.want = r.cu.want) (hpl : r.pl ≤ x.pl) (hbu : x.bu ≤ r.bu)
    (hT : ∀ w : List Int, rWholes r.cu (rTruths r.cu) r.cu.coal w = 1 → rWholes x.cu (rTruths x.cu) x.cu.coal w = 1)
    {n m : List Int} (h : ∀ i : Nat, (i : Int) ≤ r.cu.last → 0 ≤ gi m i ∧ gi m i ≤ gi n i) (hs : sSureN r n = true) : sSureN x m = true := by
  have hla := k.A.k0.last
  have hbx := kx.bu
  have hbr := k.bu
  simp only [sSureN, Bool.and_eq_true, decide_eq_true_eq] at hs
  have hmul : ∀ i : Nat, (i : Int) ≤ r.cu.last → 0 ≤ x.bu * gi m i ∧ x.bu * gi m i ≤ r.bu * gi n i := fun i hi => by
    have h1 := h i hi
    exact ⟨Int.mul_nonneg (by omega) h1.1, Int.mul_le_mul hbu h1.2 h1.1 (by omega)⟩
  have hp : sPossN x m = true := by
    have hp := hs.1
    rw [sPossN, List.all_eq_true] at hp ⊢
    intro i hi
    rw [hl] at hi
    have hi2 := List.mem_range.1 hi
    have h1 := h i (by omega)
    have h2 := hmul i (by omega)
    have h3 := hp i hi
    simp only [sRoom, Bool.or_eq_true, Bool.and_eq_true, decide_eq_true_eq] at h3 ⊢
    rw [hw]
    rcases h3 with h3 | ⟨h3, h4⟩
    · left; omega
    · right; omega
  simp only [sSureN, Bool.and_eq_true, decide_eq_true_eq]
  refine ⟨hp, ?_⟩
  rw [keV_eq kx (fun i hi => (h i (by omega)).1) hp, hw]
  have hkn := hs.2
  rw [keV_eq k (fun i hi => by have := h i hi; omega) hs.1] at hkn
  refine hT _ (more_one k.A.k0 k.ne (fun i hi => ?_) hkn)
  rw [nb_gi (by omega), nb_gi (by omega)]
  exact hmul i (by omega)
/-! a plan without some baths, by places -/
end Go.Vm

set_option linter.unusedVariables false
set_option linter.unusedSimpArgs false
set_option maxRecDepth 100000
namespace Go.Vm
/-! ### a list without one element -/
def er {α : Type} (l : List α) (k : Nat) : List α := l.take k ++ l.drop (k + 1)
theorem er_len {α : Type} {l : List α} {k : Nat} (h : k < l.length) : (er l k).length = l.length - 1 := by
  simp only [er, List.length_append, List.length_take, List.length_drop]; omega
theorem er_sub {α : Type} (l : List α) (k : Nat) : (er l k).Sublist l := by
  rw [er, ← List.eraseIdx_eq_take_drop_succ]
  exact List.eraseIdx_sublist l k
theorem er_get {α : Type} {l : List α} {k j : Nat} (h : k < l.length) : (er l k)[j]? = if j < k then l[j]? else l[j + 1]? := by
  rw [er, ← List.eraseIdx_eq_take_drop_succ, List.getElem?_eraseIdx]
theorem er_gi {l : List Int} {k j : Nat} (h : k < l.length) : gi (er l k) j = if j < k then gi l j else gi l ((j + 1 : Nat) : Int) := by
  simp only [gi, Int.toNat_natCast, List.getD_eq_getElem?_getD, er_get h]
  split <;> rfl
theorem er_gR {l : List Rg} {k j : Nat} (h : k < l.length) : gR (er l k) j = if j < k then gR l j else gR l ((j + 1 : Nat) : Int) := by
  simp only [gR, Int.toNat_natCast, List.getD_eq_getElem?_getD, er_get h]
  split <;> rfl
theorem cR_app : ∀ (a b : List Rg), cR (a ++ b) = cR a ++ cR b
  | [], b => rfl
  | x :: a, b => by simp only [List.cons_append, cR, cR_app a b]
theorem cI_appE (a b : List Int) : cI (a ++ b) = cI a ++ cI b := by simp [cI]
theorem cR_takeN : ∀ (l : List Rg) (k : Nat), (cR l).take (k * 2) = cR (l.take k)
  | l, 0 => by simp [cR]
  | [], k + 1 => by simp [cR]
  | x :: l, k + 1 => by rw [show (k + 1) * 2 = k * 2 + 1 + 1 by omega]; simp [cR, cR_takeN l k]
theorem cR_er (l : List Rg) (k : Nat) : (cR l).take (k * 2) ++ (cR l).drop ((k + 1) * 2) = cR (er l k) := by rw [cR_takeN, cR_drop, er, cR_app]
theorem cI_er (l : List Int) (k : Nat) : (cI l).take k ++ (cI l).drop (k + 1) = cI (er l k) := by rw [cI_takeN, cI_drop, er, cI_appE]
theorem cR_oneL : ∀ l : List Rg, oneL (cR l) = true
  | [] => rfl
  | x :: l => by simp only [cR, oneL, on_int, cR_oneL l]; rfl
theorem cnt_er {r : Rm} (k : RmOk r) {plan : List Int} (h : ∀ x ∈ plan, 0 ≤ x ∧ x ≤ r.cu.last) (j i : Nat) : gi (cntN (er plan j)) i ≤ gi (cntN plan) i := by
  have hl := k.A.k0.last
  have hz : (zL.length : Int) = 5 := rfl
  have hs := er_sub plan j
  rw [cntN, cntN, addC_gi _ _ (fun x hx => by have := h x (hs.subset hx); omega), addC_gi _ _ (fun x hx => by have := h x hx; omega)]
  have := hs.countP_le (p := fun h => decide ((i : Int) = h))
  omega
theorem are_er {r : Rm} {plan : List Int} (ha : sAre r plan = true) {j : Nat} (hj : j < r.ba.length) : sAre { r with ba := er r.ba j } (er plan j) = true := by
  simp only [sAre, Bool.and_eq_true, decide_eq_true_eq, List.all_eq_true, List.mem_range] at ha ⊢
  refine ⟨by rw [er_len hj, er_len (by omega), ha.1], fun i hi => ?_⟩
  rw [er_len hj] at hi
  rw [er_gi (by omega), er_gR hj]
  split
  · exact ha.2 i (by omega)
  · exact ha.2 (i + 1) (by omega)
theorem sure_ba (r : Rm) (l : List Rg) (n : List Int) : sSureN { r with ba := l } n = sSureN r n := rfl
/-- A room with the same coppers. -/
theorem rm_ok {x r : Rm} (k : RmOk r) (hc : x.cu = r.cu) (hpl : 0 ≤ x.pl ∧ x.pl ≤ 5) (hbu : 1 ≤ x.bu ∧ x.bu ≤ 9) (hl : x.ba.length ≤ 5) (hb : ∀ b ∈ x.ba, 0 ≤ b.lo ∧ b.lo ≤ b.hi ∧ b.hi ≤ r.cu.last) : RmOk x :=
  ⟨by rw [hc]; exact k.ask, by rw [hc]; exact k.A, hpl, hbu, hl, by rw [hc]; exact hb⟩
theorem fewer_ba {r : Rm} (k : RmOk r) {plan : List Int} (ha : sAre r plan = true) {j : Nat} (hj : j < r.ba.length) (hs : sSureN r (cntN plan) = true) : sSureN r (cntN (er plan j)) = true := by
  obtain ⟨h1, h2⟩ := are_ok k ha
  exact sure_le k (fun i hi => ⟨(num_same k (fun x hx => h2 x ((er_sub plan j).subset hx)) i).2, cnt_er k h2 j i⟩) hs
theorem fewer_room {r x : Rm} (k : RmOk r) (kx : RmOk x) (hc : x.cu = r.cu) (hpl : r.pl ≤ x.pl) (hbu : x.bu ≤ r.bu) {n : List Int} (h0 : ∀ i : Nat, (i : Int) ≤ r.cu.last → 0 ≤ gi n i) (hs : sSureN r n = true) : sSureN x n = true :=
  sure_room k kx (by rw [hc]) (by rw [hc]) hpl hbu (fun w hw => by rw [hc]; exact hw) (fun i hi => ⟨h0 i hi, Int.le_refl _⟩) hs
end Go.Vm

set_option linter.unusedVariables false
set_option linter.unusedSimpArgs false
set_option maxRecDepth 100000
namespace Go.Vm
/-- One way through the rest, for all that come to it. -/
theorem thru {ι : Type} {C : Prop} {A G : ι → Prop} (use : (∀ x, A x → G x) → C) (tail : ∀ x, A x → G x) : C := use tail
end Go.Vm

set_option linter.unusedVariables false
set_option linter.unusedSimpArgs false
set_option maxRecDepth 100000
namespace Go.Vm
open Go.Proofs
set_option maxHeartbeats 8000000 in
theorem l_BathFewer (r : Rm) (hl : I64 r.cu.last) (words : List Int) (hw : ∀ x ∈ words, 0 ≤ x ∧ x ≤ 65535) (what : Int) (hwa : 0 ≤ what ∧ what ≤ 255) :
    Vm.Fn Tryz.prog 13 [.agg r.cs, vW words, .int .u8 what] [] fun v h' => v = .bool true := by
  refine Fn.body tabOk Tryz.func13 rfl (Nat.le_of_ble_eq_true rfl) (Ks.ok (fz := (fzn [8])) (cl := (cln [(4, .d tg0 [cP, cP, cP, cW, cW, cP]), (8, .d (tgL [(41, 1), (47, 1)]) [cP, cP, cP, cP, cP, some ([1], [1]), cP, cP, cP, cP, cP, some ([1], [1]), cP, cW]), (9, .d (tgL [(53, 1), (58, 1)]) [cP, cP, cP, cP, some ([1], [1]), cP, cP, cP, cP, some ([1], [1]), cP]), (13, .ex)])) tabOk mixed ?_)
  generalize hQ : FnPost tt Tryz.f13 _ _ = Q
  simp only [Tryz.f13, argsEnv, Nat.reduceAdd]
  simp only [gos, eq_self, Nat.reduceLT, Nat.reduceEqDiff, reduceCtorEq, reduceIte, ↓reduceIte, tt, vgo, vout, vguard, callOf, vop, ev, cv, vload, newRow, rms]
  refine Cl.pu (c_ready9 r hl) ?_ rfl (by simp only [V.into, intoL, Bool.and_true, rm_into])
  cases hrd : sReadyR r with
  | false =>
    simp only [gos, eq_self, Nat.reduceLT, Nat.reduceEqDiff, reduceIte, ↓reduceIte, vgo, vout, vguard, callOf, vop, ev]
    refine Cl.pu c_awake9 ?_
    simp only [gos, eq_self, Nat.reduceLT, reduceIte, ↓reduceIte, vgo, vout, vguard, callOf, vop, ev]
    subst hQ
    exact FnPost.plain trivial (v := .bool true) (fun h2 e => by rfl) WkV.refl rfl
  | true =>
    obtain ⟨hr, h0, k, hb4, hp3⟩ := ready9_ok hl hrd
    have hth := ready_thin hrd
    have k0 := k.A.k0
    have hla := k0.last
    have hcl := chosen_len r words
    have ha := chosen_are k hw
    have hp : ((sChosen r words).length : Int) ≤ 1000000 := by omega
    simp only [gos, eq_self, Nat.reduceLT, Nat.reduceEqDiff, reduceCtorEq, reduceIte, ↓reduceIte, tt, vgo, vout, vguard, callOf, vop, ev, vload, rms]
    refine Cl.pu (c_Chosen r k words hw) ?_ rfl (by simp only [V.into, intoL, Bool.and_true, rm_into, vW_into])
    generalize sChosen r words = plan at hcl ha hp ⊢
    obtain ⟨_, hpr⟩ := are_ok k ha
    have h00 : ∀ i : Nat, (i : Int) ≤ r.cu.last → 0 ≤ gi (cntN plan) i := fun i _ => (num_same k hpr i).2
    simp only [gos, eq_self, Nat.reduceLT, reduceIte, ↓reduceIte, vgo, vout, vguard, callOf, vop, ev]
    refine Wr.draw (by kernel_rfl) ?_
    simp only [gos, eq_self, Nat.reduceLT, Nat.reduceEqDiff, Nat.reduceAdd, reduceCtorEq, reduceIte, ↓reduceIte, tt, vgoD, voutD, vclsOk, vids, mayWrite, V.ids, vguard, callOf, vop, ev, vload, clsAt, rms]
    refine CD.pu (c_list9 plan hp) ?_ rfl (by simp only [intoL, vI_into, Bool.and_true])
    have wW := i64_in (show -9223372036854775808 ≤ what by omega) (show what ≤ 9223372036854775807 by omega)
    have d3 : 0 ≤ what.tdiv 3 ∧ what.tdiv 3 ≤ what := ⟨Int.tdiv_nonneg hwa.1 (by omega), by rw [Int.tdiv_eq_ediv_of_nonneg hwa.1]; exact Int.ediv_le_self _ hwa.1⟩
    have wD := i64_in (show -9223372036854775808 ≤ what.tdiv 3 by omega) (show what.tdiv 3 ≤ 9223372036854775807 by omega)
    have z3 : ¬ (3 : Int) = 0 := by omega
    apply thru (A := fun x : Rm × List Int => sReadyR x.1 = true ∧ x.1.wf ∧ ((x.2.length : Int) ≤ 1000000) ∧ (sProveP r plan = true → sProveP x.1 x.2 = true) ∧ I64 x.1.cu.last)
    case use =>
      intro tail
      have hwf : ∀ x : Rm, x.cu = r.cu → (x.ba.length : Int) ≤ 4 → x.wf := fun x h1 h2 => ⟨by rw [h1]; exact hr.cu, by omega⟩
      -- more places
      have hx3 : sReadyR { r with pl := min 3 (r.pl + 1) } = true ∧ (sProveP r plan = true → sProveP { r with pl := min 3 (r.pl + 1) } plan = true) := by
        have kx : RmOk { r with pl := min 3 (r.pl + 1) } := rm_ok k rfl (by have := k.pl; simp only; omega) k.bu k.len k.ba
        refine ⟨ready_of hth kx.check hb4 (by simp only; omega), fun hs => ?_⟩
        rw [prove_of h0 ha] at hs
        rw [prove_of kx.check (show sAre { r with pl := min 3 (r.pl + 1) } plan = true from ha)]
        exact fewer_room k kx rfl (by simp only; omega) (Int.le_refl _) h00 hs
      have hx2 : sReadyR { r with bu := max 1 (r.bu - 1) } = true ∧ (sProveP r plan = true → sProveP { r with bu := max 1 (r.bu - 1) } plan = true) := by
        have hb := k.bu
        have kx : RmOk { r with bu := max 1 (r.bu - 1) } := rm_ok k rfl k.pl (by simp only; omega) k.len k.ba
        refine ⟨ready_of hth kx.check hb4 hp3, fun hs => ?_⟩
        rw [prove_of h0 ha] at hs
        rw [prove_of kx.check (show sAre { r with bu := max 1 (r.bu - 1) } plan = true from ha)]
        exact fewer_room k kx rfl (Int.le_refl _) (by simp only; omega) h00 hs
      have hx1 : ∀ j : Nat, j < r.ba.length → sReadyR { r with ba := er r.ba j } = true ∧ (sProveP r plan = true → sProveP { r with ba := er r.ba j } (er plan j) = true) := fun j hj => by
        have kx : RmOk { r with ba := er r.ba j } := rm_ok k rfl k.pl k.bu (by simp only; rw [er_len hj]; have := k.len; omega) (fun b hb => k.ba b ((er_sub r.ba j).subset hb))
        refine ⟨ready_of hth kx.check (by simp only; rw [er_len hj]; omega) hp3, fun hs => ?_⟩
        rw [prove_of h0 ha] at hs
        rw [prove_of kx.check (are_er ha hj), sure_ba]
        exact fewer_ba k ha hj hs
      have w1 := i64_in (show -9223372036854775808 ≤ r.pl + 1 by have := k.pl; omega) (show r.pl + 1 ≤ 9223372036854775807 by have := k.pl; omega)
      have w2 := i64_in (show -9223372036854775808 ≤ r.bu - 1 by have := k.bu; omega) (show r.bu - 1 ≤ 9223372036854775807 by have := k.bu; omega)
      have r3 : List.take 12 r.cs ++ [V.int IntKind.i64 (min 3 (r.pl + 1))] ++ List.drop 13 r.cs = ({ r with pl := min 3 (r.pl + 1) } : Rm).cs := rfl
      have r2 : r.cu.cs ++ [V.int IntKind.i64 (max 1 (r.bu - 1))] ++ List.drop 12 r.cs = ({ r with bu := max 1 (r.bu - 1) } : Rm).cs := rfl
      have fin : ∀ (x : Rm) (y : List Int) (ρ : Env), subE ρ [(3, .rop r.cs), (7, vI plan), (8, .ptr 8 0 0), (9, vI y)] → Wk (orD (domP []) []) ρ [(8, ⟨0, .row x.cs⟩)] [(3, .rop r.cs), (7, vI plan), (8, .rop x.cs), (9, vI y)] [] := fun x y ρ hs => by
        refine Wk.trans (Wk.env hs) (Wk.trans (Wk.freeze 8 rfl rfl (rm_into _ _) rfl) ?_)
        simp only [frzE, frzH, V.frz, rm_frz, vI_frz, if_true, List.drop_zero]
        exact Wk.env (by simp [subE, Env.get])
      have fin2 : ∀ (j v c : Nat) (hj : j < r.ba.length) (hc : c = r.ba.length - 1) (ρ : Env), subE ρ [(3, .rop r.cs), (7, vI plan), (8, .ptr 8 0 0), (9, .own 53 v 0 1 c)] →
          Wk (orD (domP []) []) ρ [(8, ⟨0, .row [vi r.cu.last, vi r.cu.start, vi r.cu.most, vi r.cu.per, vi r.cu.shovels, vI r.cu.coal, vI r.cu.want, vi r.cu.heat.lo, vi r.cu.heat.hi, vR r.cu.loss, vD r.cu.readings, vi r.bu, vi r.pl, .own 41 v 0 2 c]⟩), (41, ⟨v, .row (cR (er r.ba j))⟩), (53, ⟨v, .row (cI (er plan j))⟩)]
            [(3, .rop r.cs), (7, vI plan), (8, .rop ({ r with ba := er r.ba j } : Rm).cs), (9, vI (er plan j))] [] := fun j v c hj hc ρ hs => by
        have e1 : (cR (er r.ba j)).take (c * 2) = cR (er r.ba j) := List.take_of_length_le (by rw [cR_len, er_len hj, hc]; exact Nat.le_refl _)
        have e2 : (cI (er plan j)).take c = cI (er plan j) := List.take_of_length_le (by rw [cI_len, er_len (by omega)]; omega)
        have e3 : V.ro c (cR (er r.ba j)) = vR (er r.ba j) := by rw [vR, er_len hj, hc]
        have e4 : V.ro c (cI (er plan j)) = vI (er plan j) := by rw [vI, er_len (by omega), hcl, hc]
        refine Wk.trans (Wk.env hs) (Wk.trans (Wk.freeze 41 rfl rfl (cR_into _ _) rfl) ?_)
        simp only [gos, eq_self, Nat.reduceEqDiff, reduceIte, ↓reduceIte, frzE, frzH, Blk.frz, V.frz, frzL, rm_frz, vI_frz, vR, vD, cR_frz, cD_frz, cI_frz, e1]
        refine Wk.trans (Wk.freeze 53 rfl rfl (cI_into _ _) rfl) ?_
        simp only [gos, eq_self, Nat.reduceEqDiff, reduceIte, ↓reduceIte, frzE, frzH, Blk.frz, V.frz, frzL, rm_frz, vI_frz, cR_frz, cD_frz, Nat.mul_one, e2, e4]
        refine Wk.trans (Wk.freeze 8 rfl rfl (by simp only [V.into, intoL, cR_into, cD_into, vI_into, Bool.and_true]) rfl) ?_
        simp only [gos, eq_self, reduceIte, ↓reduceIte, frzE, frzH, V.frz, rm_frz, vI_frz]
        rw [e3]
        exact Wk.env (by simp [subE, Env.get, Rm.cs, vR, vD])
      by_cases h3 : what.tmod 3 = 0
      · have hd0 : decide (what.tmod 3 = 0) = true := by simp [h3]
        have hd1 : decide (what.tmod 3 = 1) = false := by simp [h3]
        by_cases hn0 : (plan.length : Int) = 0
        · have hz : ¬ 0 < (plan.length : Int) := by omega
          simp only [gos, eq_self, Nat.reduceLT, Nat.reduceEqDiff, Nat.reduceAdd, Nat.reduceLeDiff, reduceCtorEq, reduceIte, ↓reduceIte, tt, vgo, vout, vgoD, voutD, vclsOk, vids, mayWrite, V.ids, vguard, callOf, vop, ev, cv, vbin, vint, isShift, isNilConst, vload, vlen, newRow, vI, rms, wW, wD, z3, hd0, hd1, hz, w1]
          rw [r3]
          obtain ⟨xx, hxx⟩ : ∃ xx : Rm × List Int, xx = ({ r with pl := min 3 (r.pl + 1) }, plan) := ⟨_, rfl⟩
          refine Wr.at tabOk 0 ?_
          simp only [gos]
          refine Wa.mk (ρ2 := [(3, .rop r.cs), (7, vI plan), (8, .rop xx.1.cs), (9, vI xx.2)]) (h2 := []) (by subst hxx; exact fin _ _ _ (by simp [subE, Env.get, vI])) ?_
          exact tail xx (by subst hxx; exact ⟨hx3.1, hwf _ rfl hb4, hp, hx3.2, hl⟩)
        · have hz : 0 < (plan.length : Int) := by omega
          have zP : ¬ (plan.length : Int) = 0 := hn0
          obtain ⟨j, hj⟩ : ∃ j : Nat, (j : Int) = (what.tdiv 3).tmod (plan.length : Int) := ⟨((what.tdiv 3).tmod (plan.length : Int)).toNat, by have := tmod_le d3.1 (s := (plan.length : Int)) (by omega); omega⟩
          have hjl : j < plan.length := by have := tmod_le d3.1 (s := (plan.length : Int)) (by omega); omega
          have hjb : j < r.ba.length := by omega
          have c1 : (0 : Int) ≤ j ∧ (j : Int) ≤ (r.ba.length : Int) := by omega
          have c2 : (0 : Int) ≤ j ∧ (j : Int) ≤ (plan.length : Int) := by omega
          have c3 : (0 : Int) ≤ (j : Int) + 1 ∧ (j : Int) + 1 ≤ (r.ba.length : Int) := by omega
          have c4 : (0 : Int) ≤ (j : Int) + 1 ∧ (j : Int) + 1 ≤ (plan.length : Int) := by omega
          have c5 : (cR r.ba).length = r.ba.length * 2 := cR_len _
          have c6 : (cI plan).length = plan.length * 1 := by rw [cI_len]; omega
          have w3 := i64_in (show -9223372036854775808 ≤ (j : Int) + 1 by omega) (show (j : Int) + 1 ≤ 9223372036854775807 by omega)
          have t1 : ((j : Int) + 1).toNat = j + 1 := by omega
          have l1 : (List.take (j * 2) (cR r.ba)).length = j * 2 := by rw [List.length_take, c5]; omega
          have l2 : (List.take j (cI plan)).length = j := by rw [List.length_take, cI_len]; omega
          have l3 : (List.drop ((j + 1) * 2) (cR r.ba)).length = (r.ba.length - (j + 1)) * 2 := by rw [List.length_drop, c5]; omega
          have l4 : (List.drop (j + 1) (cI plan)).length = plan.length - (j + 1) := by rw [List.length_drop, cI_len]
          have o1 : oneL (List.take (j * 2) (cR r.ba)) = true := by rw [cR_takeN]; exact cR_oneL _
          have o2 : oneL (List.take j (cI plan)) = true := by rw [cI_takeN]; exact cI_one _
          have o3 : oneL (List.drop ((j + 1) * 2) (cR r.ba)) = true := by rw [cR_drop]; exact cR_oneL _
          have o4 : oneL (List.drop (j + 1) (cI plan)) = true := by rw [cI_drop]; exact cI_one _
          have m1 : j ≤ 1000000 := by omega
          simp only [gos, eq_self, Nat.reduceLT, Nat.reduceEqDiff, Nat.reduceAdd, reduceCtorEq, reduceIte, ↓reduceIte, tt, vgo, vout, vgoD, voutD, vclsOk, vids, mayWrite, V.ids, vguard, callOf, vop, ev, cv, vbin, vint, isShift, isNilConst, vlen, newRow, vI, rms, wW, wD, z3, hd0, hz, zP, ← hj]
          refine Wr.draw (by kernel_rfl) ?_
          obtain ⟨xx, hxx⟩ : ∃ xx : Rm × List Int, xx = ({ r with ba := er r.ba j }, er plan j) := ⟨_, rfl⟩
          have n1 : j + (r.ba.length - (j + 1)) = r.ba.length - 1 := by omega
          have n2 : j + (plan.length - (j + 1)) = r.ba.length - 1 := by omega
          have m2 : r.ba.length - 1 ≤ 1000000 := by omega
          by_cases hlast : j + 1 = plan.length
          · have s1 : ¬ 0 < r.ba.length - (j + 1) := by omega
            have s2 : ¬ 0 < plan.length - (j + 1) := by omega
            have s3 : r.ba.length - (j + 1) = 0 := by omega
            have s4 : plan.length - (j + 1) = 0 := by omega
            have u1 : List.take (j * 2) (cR r.ba) = cR (er r.ba j) := by rw [← cR_er, List.drop_eq_nil_of_le (by omega), List.append_nil]
            have u2 : List.take j (cI plan) = cI (er plan j) := by rw [← cI_er, List.drop_eq_nil_of_le (by rw [cI_len]; omega), List.append_nil]
            have u3 : j = r.ba.length - 1 := by omega
            simp only [gos, eq_self, Nat.reduceLT, Nat.reduceEqDiff, Nat.reduceAdd, Nat.reduceMul, Nat.reduceLeDiff, reduceCtorEq, reduceIte, ↓reduceIte, tt, vgoD, voutD, vclsOk, vids, mayWrite, V.ids, vguard, callOf, vop, ev, cv, vbin, vint, isShift, isNilConst, vload, vfill, vslice, vappend, srcOf, clsAt, vR, rms, c1, c3, c5, w3, t1, l1, l3, o1, o3, m1, s3, and_false, false_and, Int.toNat_natCast]
            refine Wr.draw (by kernel_rfl) ?_
            simp only [gos, eq_self, Nat.reduceLT, Nat.reduceEqDiff, Nat.reduceAdd, Nat.reduceLeDiff, reduceIte, ↓reduceIte, tt, vgoD, voutD, vclsOk, vids, mayWrite, V.ids, vguard, callOf, vop, ev, cv, vbin, vint, isShift, isNilConst, vfill, vslice, vappend, srcOf, clsAt, c1, c2, c3, c4, c6, w3, t1, l2, l4, o2, o4, m1, s4, and_false, false_and, Int.toNat_natCast, Nat.mul_one]
            refine Wr.at tabOk 0 ?_
            simp only [gos]
            refine Wa.mk (ρ2 := [(3, .rop r.cs), (7, vI plan), (8, .rop xx.1.cs), (9, vI xx.2)]) (h2 := []) ?_ ?_
            · subst hxx
              rw [u1, u2]
              exact fin2 j 0 j hjb u3 _ (by simp [subE, Env.get, vI])
            · exact tail xx (by subst hxx; exact ⟨(hx1 j hjb).1, hwf _ rfl (by simp only; rw [er_len hjb]; omega), by simp only; rw [er_len hjl]; omega, (hx1 j hjb).2, hl⟩)
          · have s1 : 0 < r.ba.length - (j + 1) := by omega
            have s2 : 0 < plan.length - (j + 1) := by omega
            simp only [gos, eq_self, Nat.reduceLT, Nat.reduceEqDiff, Nat.reduceAdd, Nat.reduceMul, Nat.reduceLeDiff, reduceCtorEq, reduceIte, ↓reduceIte, tt, vgoD, voutD, vclsOk, vids, mayWrite, V.ids, vguard, callOf, vop, ev, cv, vbin, vint, isShift, isNilConst, vload, vfill, vslice, vappend, srcOf, clsAt, vR, rms, c1, c3, c5, w3, t1, l1, l3, o1, o3, m1, m2, n1, s1, Int.toNat_natCast]
            refine Wr.draw (by kernel_rfl) ?_
            simp only [gos, eq_self, Nat.reduceLT, Nat.reduceEqDiff, Nat.reduceAdd, Nat.reduceLeDiff, reduceIte, ↓reduceIte, tt, vgoD, voutD, vclsOk, vids, mayWrite, V.ids, vguard, callOf, vop, ev, cv, vbin, vint, isShift, isNilConst, vfill, vslice, vappend, srcOf, clsAt, c1, c2, c3, c4, c6, w3, t1, l2, l4, o2, o4, m1, m2, n2, s2, Int.toNat_natCast, Nat.mul_one]
            refine Wr.at tabOk 0 ?_
            simp only [gos]
            refine Wa.mk (ρ2 := [(3, .rop r.cs), (7, vI plan), (8, .rop xx.1.cs), (9, vI xx.2)]) (h2 := []) ?_ ?_
            · subst hxx
              rw [cR_er, cI_er]
              exact fin2 j 1 (r.ba.length - 1) hjb rfl _ (by simp [subE, Env.get, vI])
            · exact tail xx (by subst hxx; exact ⟨(hx1 j hjb).1, hwf _ rfl (by simp only; rw [er_len hjb]; omega), by simp only; rw [er_len hjl]; omega, (hx1 j hjb).2, hl⟩)
      · have hd0 : decide (what.tmod 3 = 0) = false := by simp [h3]
        by_cases h1 : what.tmod 3 = 1
        · have hd1 : decide (what.tmod 3 = 1) = true := by simp [h1]
          simp only [gos, eq_self, Nat.reduceLT, Nat.reduceEqDiff, Nat.reduceAdd, Nat.reduceLeDiff, reduceCtorEq, reduceIte, ↓reduceIte, tt, vgo, vout, vgoD, voutD, vclsOk, vids, mayWrite, V.ids, vguard, callOf, vop, ev, cv, vbin, vint, isShift, isNilConst, vload, newRow, vI, rms, wW, wD, z3, hd0, hd1, w2]
          rw [r2]
          obtain ⟨xx, hxx⟩ : ∃ xx : Rm × List Int, xx = ({ r with bu := max 1 (r.bu - 1) }, plan) := ⟨_, rfl⟩
          refine Wr.at tabOk 0 ?_
          simp only [gos]
          refine Wa.mk (ρ2 := [(3, .rop r.cs), (7, vI plan), (8, .rop xx.1.cs), (9, vI xx.2)]) (h2 := []) (by subst hxx; exact fin _ _ _ (by simp [subE, Env.get, vI])) ?_
          exact tail xx (by subst hxx; exact ⟨hx2.1, hwf _ rfl hb4, hp, hx2.2, hl⟩)
        · have hd1 : decide (what.tmod 3 = 1) = false := by simp [h1]
          simp only [gos, eq_self, Nat.reduceLT, Nat.reduceEqDiff, Nat.reduceAdd, Nat.reduceLeDiff, reduceCtorEq, reduceIte, ↓reduceIte, tt, vgo, vout, vgoD, voutD, vclsOk, vids, mayWrite, V.ids, vguard, callOf, vop, ev, cv, vbin, vint, isShift, isNilConst, vload, newRow, vI, rms, wW, wD, z3, hd0, hd1, w1]
          rw [r3]
          obtain ⟨xx, hxx⟩ : ∃ xx : Rm × List Int, xx = ({ r with pl := min 3 (r.pl + 1) }, plan) := ⟨_, rfl⟩
          refine Wr.at tabOk 0 ?_
          simp only [gos]
          refine Wa.mk (ρ2 := [(3, .rop r.cs), (7, vI plan), (8, .rop xx.1.cs), (9, vI xx.2)]) (h2 := []) (by subst hxx; exact fin _ _ _ (by simp [subE, Env.get, vI])) ?_
          exact tail xx (by subst hxx; exact ⟨hx3.1, hwf _ rfl hb4, hp, hx3.2, hl⟩)
    case tail =>
      rintro ⟨x, y⟩ ⟨hx1, hxw, hyl, himp, hxl⟩
      simp only at hx1 hxw hyl himp hxl ⊢
      simp only [gos, eq_self, Nat.reduceLT, Nat.reduceEqDiff, reduceCtorEq, reduceIte, ↓reduceIte, tt, vgo, vout, vguard, callOf, vop, ev, vload, rms]
      refine Cl.pu (c_ready9 x hxl) ?_ rfl (by simp only [V.into, intoL, Bool.and_true, rm_into])
      rw [hx1]
      simp only [gos, eq_self, Nat.reduceLT, Nat.reduceEqDiff, reduceCtorEq, reduceIte, ↓reduceIte, tt, vgo, vout, vguard, callOf, vop, ev, vload, rms]
      refine Cl.pu (c_Room r hr) ?_ rfl (by simp only [V.into, intoL, Bool.and_true, rm_into])
      simp only [gos, eq_self, Nat.reduceLT, Nat.reduceEqDiff, reduceIte, ↓reduceIte, vgo, vout, vguard, callOf, vop, ev]
      refine Cl.pu (c_list9 plan hp) ?_ rfl (by simp only [intoL, vI_into, Bool.and_true])
      simp only [gos, eq_self, Nat.reduceLT, Nat.reduceEqDiff, reduceIte, ↓reduceIte, vgo, vout, vguard, callOf, ev]
      refine Cl.pu (c_ProvePlan r hr plan hp) ?_ rfl (by simp only [V.into, intoL, vI_into, Bool.and_true, rm_into])
      cases hs : sProveP r plan with
      | false =>
        simp only [gos, eq_self, Nat.reduceLT, Nat.reduceEqDiff, reduceIte, ↓reduceIte, vgo, vout, vguard, callOf, vop, ev, cv]
        refine Cl.pu c_awake9 ?_
        simp only [gos, eq_self, Nat.reduceLT, Nat.reduceEqDiff, reduceIte, ↓reduceIte, vgo, vout, vguard, callOf, vop, ev]
        subst hQ
        exact FnPost.plain trivial (v := .bool true) (fun h2 e => by rfl) WkV.refl rfl
      | true =>
        simp only [gos, eq_self, Nat.reduceLT, Nat.reduceEqDiff, reduceCtorEq, reduceIte, ↓reduceIte, tt, vgo, vout, vguard, callOf, vop, ev, vload, rms]
        refine Cl.pu (c_Room x hxw) ?_ rfl (by simp only [V.into, intoL, Bool.and_true, rm_into])
        simp only [gos, eq_self, Nat.reduceLT, Nat.reduceEqDiff, reduceIte, ↓reduceIte, vgo, vout, vguard, callOf, vop, ev]
        refine Cl.pu (c_list9 y hyl) ?_ rfl (by simp only [intoL, vI_into, Bool.and_true])
        simp only [gos, eq_self, Nat.reduceLT, Nat.reduceEqDiff, reduceIte, ↓reduceIte, vgo, vout, vguard, callOf, ev]
        refine Cl.pu (c_ProvePlan x hxw y hyl) ?_ rfl (by simp only [V.into, intoL, vI_into, Bool.and_true, rm_into])
        rw [himp hs]
        simp only [gos, eq_self, Nat.reduceLT, Nat.reduceEqDiff, reduceIte, ↓reduceIte, vgo, vout, vguard, callOf, vop, ev]
        refine Cl.pu c_awake9 ?_
        simp only [gos, eq_self, Nat.reduceLT, Nat.reduceEqDiff, reduceIte, ↓reduceIte, vgo, vout, vguard, callOf, vop, ev]
        subst hQ
        exact FnPost.plain trivial (v := .bool true) (fun h2 e => by rfl) WkV.refl rfl
end Go.Vm
