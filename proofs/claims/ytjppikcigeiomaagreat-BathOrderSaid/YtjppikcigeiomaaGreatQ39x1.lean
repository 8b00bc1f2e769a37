import Derived.Test.YtjppikcigeiomaaGreatB4
import Derived.Test.YtjppikcigeiomaaGreatRows
import Derived.WalkKit
import Derived.ProofKit
import Derived.OpenShut
import Derived.ShutString
import Derived.ChangeOld
import Derived.Below
set_option linter.unusedVariables false
set_option linter.unusedSimpArgs false
set_option maxRecDepth 100000
namespace Go.Vm
open Go.Proofs Go.ChangeShapes Go.WideShapes Go.ChangeAt Go.RowKit
/-! ### from a contract to the row -/
theorem hrel0 (w : World) : HRel (gh0 w) [] w :=
  ⟨fun B o v e => e, fun i e he => (by cases he), fun i j e e' B c c' he => (by cases he), fun i e B c o he => (by cases he), fun i v h => absurd rfl h⟩
theorem calls_of_fn {P : Program} {f : FuncId} {vs : List V} {xs : List Value} {w : World} (c : Fn P f vs [] fun v h' => v = .bool true) (hv : VRL (gh0 w) vs xs) :
    Calls P f xs.toArray w fun e w' => e = .returned (.bool true) ∧ Below w.heap.size w w' := fun cs => by
  obtain ⟨v, h', vc, g', w', fr, rfl, st, hf, hl, hvc, H', t, le⟩ := c (gh0 w) w xs hv (hrel0 w) cs
  simp only [VR] at hvc
  subst hvc
  exact ⟨.returned (.bool true), w', fr, ⟨rfl, t.os, t.tape, t.output, t.size, fun k hk => t.mods k hk (by rintro ⟨i, e, c, he, _⟩; cases he)⟩, st, hf, hl⟩
section
variable {H : Type} {enc : TypeId × Value → H} {P : Program} {w : World} {base : Nat} {spare : Nat → Bool} {held : Bool} {fuel : Nat} {t : TypeId} {cs : List Value} {x : DataW H × List MemPlace}
end
section
variable {H : Type} {enc : TypeId × Value → H} {w : World} {base : Nat} {spare : Nat → Bool} {held : Bool} {fuel : Nat} {cs : List Value} {x : DataW H × List MemPlace}
end
end Go.Vm

set_option linter.unusedVariables false
set_option linter.unusedSimpArgs false
set_option maxRecDepth 100000
namespace Go.Vm
open Go.Proofs Go.ChangeShapes Go.WideShapes Go.ChangeAt Go.RowKit
section
variable {H : Type} {enc : TypeId × Value → H} {w : World} {base : Nat} {spare : Nat → Bool} {held : Bool} {fuel : Nat} {cs : List Value} {x : DataW H × List MemPlace}
theorem rd_u16 (h : DataW.trod enc Tryz.prog w base spare held fuel 77 cs = some x) : ∃ n : Int, (0 ≤ n ∧ n ≤ 65535) ∧ VRL (gh0 w) [.int .u16 n] cs := by
  obtain ⟨n, rfl, _, h2⟩ := DataW.trod_int Tryz.underlying77 h
  exact ⟨n, bounds_u16 h2, VRL.cons (by simp only [VR]) VRL.nil⟩
theorem rd_u8 (h : DataW.trod enc Tryz.prog w base spare held fuel 5 cs = some x) : ∃ n : Int, (0 ≤ n ∧ n ≤ 255) ∧ VRL (gh0 w) [.int .u8 n] cs := by
  obtain ⟨n, rfl, _, h2⟩ := DataW.trod_int Tryz.underlying5 h
  exact ⟨n, bounds_u8 h2, VRL.cons (by simp only [VR]) VRL.nil⟩
theorem rd_words (h : DataW.trod enc Tryz.prog w base spare held fuel 86 cs = some x) : ∃ l : List Int, (∀ n ∈ l, 0 ≤ n ∧ n ≤ 65535) ∧ VRL (gh0 w) [vW l] cs := by
  obtain ⟨l, h1, h2, h3⟩ := rd_slice (fun n : Int => [V.int .u16 n]) (fun n => 0 ≤ n ∧ n ≤ 65535) 1 Tryz.underlying86 (by kernel_rfl) (by omega) (fun _ => rfl) h fun n cs x h => rd_u16 h
  have e : l.flatMap (fun n : Int => [V.int .u16 n]) = cW16 l := by
    clear h1 h2 h3
    induction l with
    | nil => rfl
    | cons y l ih => simp only [List.flatMap_cons, cW16, List.map_cons, List.singleton_append] at ih ⊢; rw [ih]
  rw [e] at h3
  exact ⟨l, h1, h3⟩
end
end Go.Vm

set_option linter.unusedVariables false
set_option linter.unusedSimpArgs false
set_option maxRecDepth 100000
namespace Go.Vm
/-! ### lists that are changed in some places -/
theorem vW_into (p : Nat → Bool) (l : List Int) : (vW l).into p = true := by simp only [vW, V.into]; exact cW16_into p l
end Go.Vm

set_option linter.unusedVariables false
set_option linter.unusedSimpArgs false
set_option maxRecDepth 100000
namespace Go.Vm
/-! ### plain law: which readings can be right together -/
/-- 2: the reference's sets. -/
def bitsN (f : Nat → Bool) : Nat → Nat
  | 0 => 0
  | i + 1 => if f i then 2 ^ i + bitsN f i else bitsN f i
theorem bitsN_lt (f : Nat → Bool) : ∀ n, bitsN f n < 2 ^ n
  | 0 => by simp [bitsN]
  | n + 1 => by
    have := bitsN_lt f n
    have e : (2 : Nat) ^ (n + 1) = 2 ^ n + 2 ^ n := by rw [Nat.pow_succ]; omega
    rw [bitsN]; split <;> omega
/-! ### the smallest set -/
end Go.Vm

set_option linter.unusedVariables false
set_option linter.unusedSimpArgs false
set_option maxRecDepth 100000
namespace Go.Vm
open Go.Proofs
theorem c_ProvePlan (r : Rm) (hr : r.wf) (plan : List Int) (hp : (plan.length : Int) ≤ 1000000) : Pu Tryz.prog (.fn 62 [] []) [.agg r.cs, vI plan] (.bool (sProveP r plan)) := by
  refine Ev.fn Tryz.func62 rfl rfl (Fn.body tabOk Tryz.func62 rfl (Nat.le_of_ble_eq_true rfl) (Ks.ok (fz := (fzn [])) (cl := (cln [])) tabOk mixed ?_))
  generalize hQ : FnPost tt Tryz.f62 _ _ = Q
  simp only [Tryz.f62, List.nil_append, List.append_nil, argsEnv, Nat.reduceAdd]
  simp only [gos, eq_self, Nat.reduceLT, Nat.reduceEqDiff, reduceCtorEq, reduceIte, ↓reduceIte, tt, vgo, vout, vguard, callOf, vop, ev, cv, vload, newRow, rms]
  refine Cl.pu (c_bKeeps r hr plan hp) ?_ rfl (by simp only [V.into, intoL, vI_into, Bool.and_true, rm_into])
  by_cases h : (sKeepsR r plan).2 = 0
  · have hd : decide ((sKeepsR r plan).2 = 0) = true := by simp [h]
    simp only [gos, eq_self, Nat.reduceLT, Nat.reduceEqDiff, reduceIte, ↓reduceIte, vgo, vout, vguard, callOf, vop, ev, cv, vbin, vint, isShift, isNilConst, hd]
    subst hQ
    exact FnPost.plain trivial (fun h2 e => by first | rfl | (simp only [Tryz.f62, vres, vresL, vres1, e _, gos, if_true, if_false, ne_eq, eq_self, Nat.reduceLT, Nat.reduceEqDiff, Nat.reduceAdd, Nat.reduceMul, Nat.reduceLeDiff, Nat.reduceBEq, reduceCtorEq, reduceIte, Array.toList, ↓reduceIte, tt, vgo, vout, vgoD, voutD, vclsOk, vids, mayWrite, V.ids, V.mids, vguard, callOf, vop, ev, cv, vbin, vint, isShift, isNilConst, vnil, isNilSlice, vload, vlen, newRow, vfill, vslice, entOf, vappend, srcOf, vcopy, vlookup, vupdate, mapOk, keyOf, intsOf, clsAt]; try rfl)) (WkV.pure (by simp only [V.into])) ⟨by simp [sProveP, h], rfl⟩
  · have hd : decide ((sKeepsR r plan).2 = 0) = false := by simp [h]
    simp only [gos, eq_self, Nat.reduceLT, Nat.reduceEqDiff, reduceIte, ↓reduceIte, vgo, vout, vguard, callOf, vop, ev, cv, vbin, vint, isShift, isNilConst, hd]
    subst hQ
    exact FnPost.plain trivial (fun h2 e => by first | rfl | (simp only [Tryz.f62, vres, vresL, vres1, e _, gos, if_true, if_false, ne_eq, eq_self, Nat.reduceLT, Nat.reduceEqDiff, Nat.reduceAdd, Nat.reduceMul, Nat.reduceLeDiff, Nat.reduceBEq, reduceCtorEq, reduceIte, Array.toList, ↓reduceIte, tt, vgo, vout, vgoD, voutD, vclsOk, vids, mayWrite, V.ids, V.mids, vguard, callOf, vop, ev, cv, vbin, vint, isShift, isNilConst, vnil, isNilSlice, vload, vlen, newRow, vfill, vslice, entOf, vappend, srcOf, vcopy, vlookup, vupdate, mapOk, keyOf, intsOf, clsAt]; try rfl)) (WkV.pure (by simp only [V.into])) ⟨by simp [sProveP, h], rfl⟩
end Go.Vm

set_option linter.unusedVariables false
set_option linter.unusedSimpArgs false
set_option maxRecDepth 100000
namespace Go.Vm
/-! ### what is sure in one room and in another -/
theorem check_of {x : Rm} (ha : sAsked x.cu true = 0) (hpl : 0 ≤ x.pl ∧ x.pl ≤ 5) (hbu : 1 ≤ x.bu ∧ x.bu ≤ 9) (hl : x.ba.length ≤ 5) (hb : ∀ b ∈ x.ba, 0 ≤ b.lo ∧ b.lo ≤ b.hi ∧ b.hi ≤ x.cu.last) : sCheckR x = 0 := by
  have h1 : ¬ (sAsked x.cu true ≠ 0) := by simp [ha]
  have h2 : ¬ (5 < x.pl ∨ 5 < (x.ba.length : Int)) := by omega
  have h3 : x.ba.all (sValid x) = true := by
    rw [List.all_eq_true]
    intro b hb2
    have := hb b hb2
    simp only [sValid, Bool.and_eq_true, decide_eq_true_eq]; omega
  have h4 : sIn x.bu 1 9 = true := by simp [sIn]; omega
  rw [sCheckR, if_neg h1, if_neg h2, h3, h4, if_neg (by simp; omega)]
theorem RmOk.check {r : Rm} (k : RmOk r) : sCheckR r = 0 := check_of k.ask k.pl k.bu k.len k.ba
/-! a plan without some baths, by places -/
theorem pk_eq (b : Nat) (p : List Int) : pk b 0 p = ((List.range p.length).filter fun i => b.testBit i).map fun (i : Nat) => gi p i := by
  have e : ∀ n, n ≤ p.length → pk b 0 (p.take n) = ((List.range n).filter fun i => b.testBit i).map fun (i : Nat) => gi p i := by
    intro n
    induction n with
    | zero => intro _; simp [pk]
    | succ n ih =>
      intro hn
      rw [gi_take (by omega), pk_snoc, ih (by omega), List.length_take, Nat.min_eq_left (by omega), Nat.zero_add, List.range_succ, List.filter_append, List.map_append]
      congr 1
      simp only [List.filter_cons, List.filter_nil]
      split <;> rfl
  have := e p.length (Nat.le_refl _)
  rwa [List.take_length] at this
theorem pk_mem {b : Nat} {p : List Int} {x : Int} (h : x ∈ pk b 0 p) : ∃ j : Nat, j < p.length ∧ b.testBit j = true ∧ x = gi p j := by
  rw [pk_eq] at h
  simp only [List.mem_map, List.mem_filter, List.mem_range] at h
  obtain ⟨j, ⟨h1, h2⟩, rfl⟩ := h
  exact ⟨j, h1, h2, rfl⟩
theorem pk_congr {b : Nat} {p q : List Int} (hl : p.length = q.length) (h : ∀ j : Nat, j < p.length → b.testBit j = true → gi p j = gi q j) : pk b 0 p = pk b 0 q := by
  rw [pk_eq, pk_eq, ← hl]
  apply List.map_congr_left
  intro j hj
  simp only [List.mem_filter, List.mem_range] at hj
  exact h j hj.1 hj.2
theorem mem_rSuf (r : Rm) (b : Nat) : ∀ (k i : Nat) (p : List Int), p ∈ rSuf r b k i ↔ p.length = k ∧ ∀ j : Nat, j < k → if b.testBit (i + j) = true then (gR r.ba ((i + j : Nat) : Int)).lo ≤ gi p j ∧ gi p j ≤ (gR r.ba ((i + j : Nat) : Int)).hi else gi p j = 0
  | 0, i, p => by
    simp only [rSuf, List.mem_singleton]
    constructor
    · rintro rfl; exact ⟨rfl, fun j hj => by omega⟩
    · rintro ⟨h, _⟩; exact List.length_eq_zero_iff.1 h
  | k + 1, i, p => by
    have ih := mem_rSuf r b k (i + 1)
    have hgi0 : ∀ (x : Int) (q : List Int), gi (x :: q) (0 : Nat) = x := fun x q => rfl
    have hgis : ∀ (x : Int) (q : List Int) (j : Nat), gi (x :: q) ((j + 1 : Nat) : Int) = gi q j := fun x q j => by simp only [gi, Int.toNat_natCast, List.getD_cons_succ]
    rw [rSuf]
    constructor
    · intro h
      obtain ⟨x, q, hq, rfl, hx⟩ : ∃ x q, q ∈ rSuf r b k (i + 1) ∧ p = x :: q ∧ if b.testBit i = true then (gR r.ba i).lo ≤ x ∧ x ≤ (gR r.ba i).hi else x = 0 := by
        split at h
        · simp only [List.mem_flatMap, List.mem_map] at h
          obtain ⟨x, hx, q, hq, rfl⟩ := h
          rename_i hb
          exact ⟨x, q, hq, rfl, by rw [if_pos hb]; exact mem_rangeI.1 hx⟩
        · obtain ⟨q, hq, rfl⟩ := List.mem_map.1 h
          rename_i hb
          exact ⟨0, q, hq, rfl, by rw [if_neg hb]⟩
      obtain ⟨h1, h2⟩ := (ih q).1 hq
      refine ⟨by simp [h1], fun j hj => ?_⟩
      cases j with
      | zero => rw [Nat.add_zero, hgi0]; exact hx
      | succ j =>
        rw [hgis]
        have := h2 j (by omega)
        rw [show i + 1 + j = i + (j + 1) by omega] at this
        exact this
    · rintro ⟨h1, h2⟩
      cases p with
      | nil => simp at h1
      | cons x q =>
        have h0 := h2 0 (by omega)
        rw [Nat.add_zero, hgi0] at h0
        have hq : q ∈ rSuf r b k (i + 1) := (ih q).2 ⟨by simpa using h1, fun j hj => by
          have := h2 (j + 1) (by omega)
          rw [hgis, show i + (j + 1) = i + 1 + j by omega] at this
          exact this⟩
        split
        · rename_i hb
          rw [if_pos hb] at h0
          simp only [List.mem_flatMap, List.mem_map]
          exact ⟨x, mem_rangeI.2 h0, q, hq, rfl⟩
        · rename_i hb
          rw [if_neg hb] at h0
          exact List.mem_map.2 ⟨q, hq, by rw [h0]⟩
theorem pk_range {r : Rm} (k : RmOk r) {b : Nat} {p : List Int} (hl : p.length = r.ba.length) (h : ∀ j : Nat, j < r.ba.length → b.testBit j = true → (gR r.ba j).lo ≤ gi p j ∧ gi p j ≤ (gR r.ba j).hi) : ∀ x ∈ pk b 0 p, 0 ≤ x ∧ x ≤ r.cu.last := fun x hx => by
  obtain ⟨j, h1, h2, rfl⟩ := pk_mem hx
  have h3 := h j (by omega) h2
  have h4 := k.ba _ (List.mem_of_getElem? (gR_get (show (j : Int) < r.ba.length by omega)))
  omega
theorem rest_iff {r : Rm} (k : RmOk r) {b : Nat} : restN r b = true ↔ ∃ p : List Int, p.length = r.ba.length ∧ (∀ j : Nat, j < r.ba.length → b.testBit j = true → (gR r.ba j).lo ≤ gi p j ∧ gi p j ≤ (gR r.ba j).hi) ∧ sSureN r (cntN (pk b 0 p)) = true := by
  rw [restN, Bool.not_eq_true', List.isEmpty_eq_false_iff]
  constructor
  · intro h
    obtain ⟨p, hp⟩ := List.exists_mem_of_ne_nil _ h
    rw [rSures, rPlansF_suf, List.mem_filter] at hp
    obtain ⟨h1, h2⟩ := hp
    obtain ⟨q, hq, rfl⟩ := List.mem_map.1 h1
    obtain ⟨g1, g2⟩ := (mem_rSuf r b _ _ q).1 hq
    rw [List.nil_append] at h2
    have hin : ∀ j : Nat, j < r.ba.length → b.testBit j = true → (gR r.ba j).lo ≤ gi q j ∧ gi q j ≤ (gR r.ba j).hi := fun j hj hb => by
      have := g2 j hj
      simp only [List.length_nil, Nat.zero_add] at this
      rw [if_pos hb] at this
      exact this
    exact ⟨q, g1, hin, by rw [(num_ref k (pk_range k g1 hin) (rNum_eq r q b)).2.2]; exact h2⟩
  · rintro ⟨p, hl, hin, hs⟩
    let q : List Int := (List.range r.ba.length).map fun j => if b.testBit j = true then gi p j else 0
    have hql : q.length = r.ba.length := by simp [q]
    have hqg : ∀ j : Nat, j < r.ba.length → gi q j = if b.testBit j = true then gi p j else 0 := fun j hj => gi_map hj
    have hpk : pk b 0 q = pk b 0 p := pk_congr (by omega) fun j hj hb => by rw [hqg j (by omega), if_pos hb]
    have hin2 : ∀ j : Nat, j < r.ba.length → b.testBit j = true → (gR r.ba j).lo ≤ gi q j ∧ gi q j ≤ (gR r.ba j).hi := fun j hj hb => by rw [hqg j hj, if_pos hb]; exact hin j hj hb
    refine List.ne_nil_of_mem (a := q) ?_
    rw [rSures, rPlansF_suf, List.mem_filter]
    refine ⟨List.mem_map.2 ⟨q, (mem_rSuf r b _ _ q).2 ⟨hql, fun j hj => ?_⟩, List.nil_append q⟩, ?_⟩
    · simp only [List.length_nil, Nat.zero_add]
      rw [hqg j hj]
      split
      · rename_i hb; exact hin j hj hb
      · rfl
    · rw [← (num_ref k (pk_range k hql hin2) (rNum_eq r q b)).2.2, hpk]
      exact hs
theorem short_len {a b : List Int} (h : lShorter a b = false) : b.length ≤ a.length := by
  simp only [lShorter, Bool.or_eq_false_iff, decide_eq_false_iff_not] at h
  omega
theorem give_le {r x : Rm} (k : RmOk r) (kx : RmOk x) (hr : sSureN r zL = true) (hx : sSureN x zL = true)
    (h : ∀ b, b < 2 ^ r.ba.length → restN r (2 ^ r.ba.length - 1 - b) = true → ∃ c, c < 2 ^ x.ba.length ∧ restN x (2 ^ x.ba.length - 1 - c) = true ∧ (sBits c).length ≤ (sBits b).length) :
    ((giveAll x).getD []).length ≤ ((giveAll r).getD []).length := by
  obtain ⟨b, b1, b2, b3, b4⟩ := give_best k hr
  obtain ⟨d, d1, d2, d3, d4⟩ := give_best kx hx
  obtain ⟨c, c1, c2, c3⟩ := h b b1 b3
  have := short_len (d4 c c1 c2)
  rw [b2, d2]
  simp only [Option.getD_some]
  omega
end Go.Vm

set_option linter.unusedVariables false
set_option linter.unusedSimpArgs false
set_option maxRecDepth 100000
namespace Go.Vm
/-! ### a list without one element -/
theorem cR_app : ∀ (a b : List Rg), cR (a ++ b) = cR a ++ cR b
  | [], b => rfl
  | x :: a, b => by simp only [List.cons_append, cR, cR_app a b]
theorem cR_takeN : ∀ (l : List Rg) (k : Nat), (cR l).take (k * 2) = cR (l.take k)
  | l, 0 => by simp [cR]
  | [], k + 1 => by simp [cR]
  | x :: l, k + 1 => by rw [show (k + 1) * 2 = k * 2 + 1 + 1 by omega]; simp [cR, cR_takeN l k]
theorem cR_oneL : ∀ l : List Rg, oneL (cR l) = true
  | [] => rfl
  | x :: l => by simp only [cR, oneL, on_int, cR_oneL l]; rfl
/-- A room with the same coppers. -/
theorem rm_ok {x r : Rm} (k : RmOk r) (hc : x.cu = r.cu) (hpl : 0 ≤ x.pl ∧ x.pl ≤ 5) (hbu : 1 ≤ x.bu ∧ x.bu ≤ 9) (hl : x.ba.length ≤ 5) (hb : ∀ b ∈ x.ba, 0 ≤ b.lo ∧ b.lo ≤ b.hi ∧ b.hi ≤ r.cu.last) : RmOk x :=
  ⟨by rw [hc]; exact k.ask, by rw [hc]; exact k.A, hpl, hbu, hl, by rw [hc]; exact hb⟩
end Go.Vm

set_option linter.unusedVariables false
set_option linter.unusedSimpArgs false
set_option maxRecDepth 100000
namespace Go.Vm
/-! ### wider ranges -/
structure Wide (c x : Cu) : Prop where
  last : c.last = x.last
  start : c.start = x.start
  most : c.most = x.most
  per : c.per = x.per
  coal : c.coal = x.coal
  want : c.want = x.want
  shovels : c.shovels = x.shovels
  listed : ∀ t, Listed c t → Listed x t
  len : c.readings.length = x.readings.length
  rd : ∀ (s : Sc) (i : Nat), i < c.readings.length → rdOk c s (gD c.readings i) = true → rdOk x s (gD x.readings i) = true
theorem range_gD' (c : Cu) (s : Sc) : sRight c s [] = (List.range c.readings.length).all fun i => rdOk c s (gD c.readings i) := by
  rw [right_all, range_gD]
theorem Wide.right {c x : Cu} (W : Wide c x) {s : Sc} (h : sRight c s [] = true) : sRight x s [] = true := by
  rw [range_gD', List.all_eq_true] at h ⊢
  intro i hi
  rw [List.mem_range, ← W.len] at hi
  exact W.rd s i hi (h i (List.mem_range.2 hi))
theorem Wide.sub {c x : Cu} (W : Wide c x) (k0 : CuOk c) (kx : CuOk x) : SubT c x :=
  ⟨W.last, W.start, W.most, W.per, W.coal, W.want, fun t ht => by
    obtain ⟨h1, h2⟩ := (mem_rTruths' k0 t).1 ht
    exact (mem_rTruths' kx t).2 ⟨W.listed t h1, W.right h2⟩⟩
theorem gR_set {l : List Rg} {k : Nat} (v : Rg) (hk : k < l.length) (i : Nat) : gR (l.set k v) i = if i = k then v else gR l i := by
  simp only [gR, Int.toNat_natCast, List.getD_eq_getElem?_getD, List.getElem?_set]
  by_cases h : k = i
  · subst h; simp [hk]
  · rw [if_neg h, if_neg (Ne.symm h)]
end Go.Vm

set_option linter.unusedVariables false
set_option linter.unusedSimpArgs false
set_option maxRecDepth 100000
namespace Go.Vm
/-! ### two baths that exchange their numbers -/
def swp (a b i : Nat) : Nat := if i = a then b else if i = b then a else i
theorem swp_swp (a b i : Nat) : swp a b (swp a b i) = i := by
  unfold swp
  repeat' split
  all_goals omega
theorem swp_lt {a b i n : Nat} (ha : a < n) (hb : b < n) (hi : i < n) : swp a b i < n := by
  simp only [swp]; split
  · exact hb
  · split
    · exact ha
    · exact hi
theorem swp_perm {a b n : Nat} (hn : n < 6) (ha : a < n) (hb : b < n) : ((List.range n).map (swp a b)).Perm (List.range n) := by
  have : ∀ n : Fin 6, ∀ a b : Fin 5, (a : Nat) < (n : Nat) → (b : Nat) < (n : Nat) → ((List.range n).map (swp a b)).isPerm (List.range n) = true := by decide +kernel
  exact List.isPerm_iff.1 (this ⟨n, hn⟩ ⟨a, by omega⟩ ⟨b, by omega⟩ ha hb)
def swB (a d n b : Nat) : Nat := bitsN (fun i => b.testBit (swp a d i)) n
theorem swB_ok : ∀ n : Fin 6, ∀ a d : Fin 5, (a : Nat) < (n : Nat) → (d : Nat) < (n : Nat) → ∀ b : Fin 32, (b : Nat) < 2 ^ (n : Nat) →
    (sBits (swB a d n b)).length = (sBits b).length ∧ ∀ i : Fin 5, (i : Nat) < (n : Nat) → (2 ^ (n : Nat) - 1 - swB a d n b).testBit i = (2 ^ (n : Nat) - 1 - (b : Nat)).testBit (swp a d i) := by decide +kernel
structure SwapR (r x : Rm) (a d : Nat) : Prop where
  cu : x.cu = r.cu
  bu : x.bu = r.bu
  pl : x.pl = r.pl
  len : x.ba.length = r.ba.length
  lta : a < r.ba.length
  ltd : d < r.ba.length
  ba : ∀ i : Nat, i < r.ba.length → gR x.ba i = gR r.ba (swp a d i)
theorem SwapR.symm {r x : Rm} {a d : Nat} (S : SwapR r x a d) : SwapR x r a d :=
  ⟨S.cu.symm, S.bu.symm, S.pl.symm, S.len.symm, by rw [S.len]; exact S.lta, by rw [S.len]; exact S.ltd, fun i hi => by
    rw [S.len] at hi
    rw [S.ba _ (swp_lt S.lta S.ltd hi), swp_swp]⟩
theorem SwapR.sureN {r x : Rm} {a d : Nat} (S : SwapR r x a d) (n : List Int) : sSureN x n = sSureN r n := by
  obtain ⟨cu, bu, pl, ba⟩ := x
  obtain ⟨cu2, bu2, pl2, ba2⟩ := r
  obtain ⟨h1, h2, h3, _, _, _, _⟩ := S
  simp only at h1 h2 h3
  subst h1; subst h2; subst h3
  rfl
theorem SwapR.ok {r x : Rm} {a d : Nat} (S : SwapR r x a d) (k : RmOk r) : RmOk x :=
  rm_ok k S.cu (by rw [S.pl]; exact k.pl) (by rw [S.bu]; exact k.bu) (by rw [S.len]; exact k.len) fun b hb => by
    obtain ⟨i, hi, rfl⟩ := List.mem_iff_getElem.1 hb
    have e : x.ba[i] = gR x.ba i := by
      have := gR_get (l := x.ba) (i := i) (by omega)
      rw [List.getElem?_eq_getElem hi] at this
      injection this
    rw [S.len] at hi
    rw [e, S.ba i hi]
    have hs := swp_lt S.lta S.ltd hi
    exact k.ba _ (List.mem_of_getElem? (gR_get (show ((swp a d i : Nat) : Int) < r.ba.length by omega)))
theorem cnt_perm {p q : List Int} (h : p.Perm q) (hp : ∀ x ∈ p, 0 ≤ x ∧ x < 5) (i : Nat) : gi (cntN p) i = gi (cntN q) i := by
  have hz : (zL.length : Int) = 5 := rfl
  rw [cntN, cntN, addC_gi _ _ (fun x hx => by have := hp x hx; omega), addC_gi _ _ (fun x hx => by have := hp x (h.mem_iff.2 hx); omega)]
  rw [h.countP_eq]
theorem sure_perm {r : Rm} (k : RmOk r) {p q : List Int} (h : p.Perm q) (hp : ∀ x ∈ p, 0 ≤ x ∧ x ≤ r.cu.last) (hs : sSureN r (cntN p) = true) : sSureN r (cntN q) = true := by
  have hl := k.A.k0.last
  refine sure_le k (fun i hi => ?_) hs
  rw [← cnt_perm h (fun x hx => by have := hp x hx; omega) i]
  exact ⟨(num_same k hp i).2, Int.le_refl _⟩
theorem pk_swap {b c n a d : Nat} (hn : n < 6) (ha : a < n) (hd : d < n) {p q : List Int} (hp : p.length = n) (hq : q.length = n) (hb : ∀ i, i < n → c.testBit i = b.testBit (swp a d i)) (hg : ∀ i : Nat, i < n → gi q i = gi p (swp a d i)) : (pk c 0 q).Perm (pk b 0 p) := by
  rw [pk_eq, pk_eq, hp, hq]
  have e : ((List.range n).filter fun i => c.testBit i).map (fun (i : Nat) => gi q i) = ((((List.range n).map (swp a d)).filter fun i => b.testBit i)).map (fun (i : Nat) => gi p i) := by
    rw [List.filter_map, List.map_map]
    have e2 : (List.range n).filter (fun i => c.testBit i) = (List.range n).filter ((fun i => b.testBit i) ∘ swp a d) := List.filter_congr fun i hi => hb i (List.mem_range.1 hi)
    rw [e2]
    apply List.map_congr_left
    intro i hi
    exact hg i (List.mem_range.1 (List.mem_filter.1 hi).1)
  rw [e]
  exact ((swp_perm hn ha hd).filter _).map _
theorem SwapR.rest {r x : Rm} {a d : Nat} (S : SwapR r x a d) (k : RmOk r) {b c : Nat} (hb : ∀ i, i < r.ba.length → c.testBit i = b.testBit (swp a d i)) (h : restN r b = true) : restN x c = true := by
  have hn : r.ba.length < 6 := by have := k.len; omega
  obtain ⟨p, h1, h2, h3⟩ := (rest_iff k).1 h
  let q : List Int := (List.range r.ba.length).map fun i => gi p (swp a d i)
  have hql : q.length = r.ba.length := by simp [q]
  have hqg : ∀ i : Nat, i < r.ba.length → gi q i = gi p (swp a d i) := fun i hi => gi_map hi
  refine (rest_iff (S.ok k)).2 ⟨q, by rw [S.len]; exact hql, fun i hi hc => ?_, ?_⟩
  · rw [S.len] at hi
    rw [hqg i hi, S.ba i hi]
    rw [hb i hi] at hc
    exact h2 _ (swp_lt S.lta S.ltd hi) hc
  · rw [S.sureN]
    exact sure_perm k (pk_swap hn S.lta S.ltd h1 hql hb hqg).symm (pk_range k h1 h2) h3
theorem SwapR.give {r x : Rm} {a d : Nat} (S : SwapR r x a d) (k : RmOk r) (hs : sSureN r zL = true) : ((giveAll x).getD []).length ≤ ((giveAll r).getD []).length := by
  have hn : r.ba.length < 6 := by have := k.len; omega
  have ha := S.lta
  have hd := S.ltd
  have hp := pow5 hn
  refine give_le k (S.ok k) hs (by rw [S.sureN]; exact hs) fun b hb hr => ?_
  obtain ⟨h1, h2⟩ := swB_ok ⟨r.ba.length, hn⟩ ⟨a, by omega⟩ ⟨d, by omega⟩ ha hd ⟨b, by omega⟩ hb
  refine ⟨swB a d r.ba.length b, by rw [S.len]; exact bitsN_lt _ _, ?_, by rw [← h1]; exact Nat.le_refl _⟩
  rw [S.len]
  exact S.rest k (fun i hi => h2 ⟨i, by omega⟩ hi) hr
theorem SwapR.give_eq {r x : Rm} {a d : Nat} (S : SwapR r x a d) (k : RmOk r) (hs : sSureN r zL = true) : ((giveAll r).getD []).length = ((giveAll x).getD []).length :=
  Nat.le_antisymm (S.symm.give (S.ok k) (by rw [S.sureN]; exact hs)) (S.give k hs)
/-- A list with two elements exchanged. -/
def swL (l : List Int) (a d : Nat) : List Int := (l.set a (gi l d)).set d (gi l a)
def swR (l : List Rg) (a d : Nat) : List Rg := (l.set a (gR l d)).set d (gR l a)
theorem swL_gi {l : List Int} {a d : Nat} (ha : a < l.length) (hd : d < l.length) (i : Nat) : gi (swL l a d) i = gi l (swp a d i) := by
  rw [swL, gi_setN _ (by rw [List.length_set]; exact hd), gi_setN _ ha, swp]
  by_cases h1 : i = a
  · by_cases h2 : d = i
    · subst h1; subst h2; simp
    · rw [if_neg h2, if_pos h1.symm, if_pos h1]
  · by_cases h2 : d = i
    · rw [if_pos h2, if_neg h1, if_pos h2.symm]
    · rw [if_neg h2, if_neg (Ne.symm h1), if_neg h1, if_neg (Ne.symm h2)]
theorem swR_gR {l : List Rg} {a d : Nat} (ha : a < l.length) (hd : d < l.length) (i : Nat) : gR (swR l a d) i = gR l (swp a d i) := by
  rw [swR, gR_set _ (by rw [List.length_set]; exact hd), gR_set _ ha, swp]
  by_cases h1 : i = a
  · by_cases h2 : i = d
    · subst h1; subst h2; simp
    · rw [if_neg h2, if_pos h1, if_pos h1]
  · by_cases h2 : i = d
    · rw [if_pos h2, if_neg h1, if_pos h2]
    · rw [if_neg h2, if_neg h1, if_neg h1, if_neg h2]
theorem swapR (r : Rm) {a d : Nat} (ha : a < r.ba.length) (hd : d < r.ba.length) : SwapR r { r with ba := swR r.ba a d } a d :=
  ⟨rfl, rfl, rfl, by simp [swR], ha, hd, fun i _ => swR_gR ha hd i⟩
theorem swL_perm {l : List Int} {a d : Nat} (hn : l.length < 6) (ha : a < l.length) (hd : d < l.length) : (swL l a d).Perm l := by
  have e : swL l a d = ((List.range l.length).map (swp a d)).map fun (i : Nat) => gi l i := by
    refine list_ext (by simp [swL]) fun i hi => ?_
    rw [swL_gi ha hd, List.map_map, gi_map (by simpa [swL] using hi)]; rfl
  have e2 : l = (List.range l.length).map fun (i : Nat) => gi l i := list_ext (by simp) fun i hi => by rw [gi_map hi]
  rw [e]
  have h2 := (swp_perm hn ha hd).map fun (i : Nat) => gi l i
  rw [← e2] at h2
  exact h2
theorem SwapR.are {r x : Rm} {a d : Nat} (S : SwapR r x a d) {plan : List Int} (h : sAre r plan = true) : sAre x (swL plan a d) = true := by
  simp only [sAre, Bool.and_eq_true, decide_eq_true_eq, List.all_eq_true, List.mem_range] at h ⊢
  have ha := S.lta
  have hd := S.ltd
  refine ⟨by rw [S.len, ← h.1]; simp [swL], fun i hi => ?_⟩
  rw [S.len] at hi
  rw [swL_gi (by omega) (by omega), S.ba i hi]
  exact h.2 _ (swp_lt ha hd hi)
theorem SwapR.prove {r x : Rm} {a d : Nat} (S : SwapR r x a d) (k : RmOk r) {plan : List Int} (h : sAre r plan = true) : sProveP x (swL plan a d) = sProveP r plan := by
  obtain ⟨h1, h2⟩ := are_ok k h
  have kx := S.ok k
  have hp := swL_perm (l := plan) (a := a) (d := d) (by have := k.len; omega) (by have := S.lta; omega) (by have := S.ltd; omega)
  rw [prove_of kx.check (S.are h), prove_of k.check h, S.sureN, Bool.eq_iff_iff]
  exact ⟨fun hs => sure_perm k hp (fun x hx => h2 x (hp.mem_iff.1 hx)) hs, fun hs => sure_perm k hp.symm h2 hs⟩
end Go.Vm

set_option linter.unusedVariables false
set_option linter.unusedSimpArgs false
set_option maxRecDepth 100000
namespace Go.Vm
/-! ### a bath that can be had in more hours -/
/-- A room with other hours of a bath. -/
def rmB (r : Rm) (j : Nat) (v : Rg) : Rm := { r with ba := r.ba.set j v }
structure WiderB (r : Rm) (j : Nat) (v : Rg) : Prop where
  lt : j < r.ba.length
  lo : 0 ≤ v.lo ∧ v.lo ≤ (gR r.ba j).lo
  hi : (gR r.ba j).hi ≤ v.hi ∧ v.hi ≤ r.cu.last
theorem WiderB.gR {r : Rm} {j : Nat} {v : Rg} (W : WiderB r j v) (i : Nat) : (gR (rmB r j v).ba i).lo ≤ (gR r.ba i).lo ∧ (gR r.ba i).hi ≤ (gR (rmB r j v).ba i).hi := by
  have h1 := W.lo; have h2 := W.hi
  simp only [rmB, gR_set v W.lt]
  by_cases e : i = j
  · subst e; rw [if_pos rfl]; omega
  · rw [if_neg e]; omega
theorem WiderB.len {r : Rm} {j : Nat} {v : Rg} (W : WiderB r j v) : (rmB r j v).ba.length = r.ba.length := by simp [rmB]
theorem WiderB.ok {r : Rm} {j : Nat} {v : Rg} (W : WiderB r j v) (k : RmOk r) : RmOk (rmB r j v) :=
  rm_ok k rfl k.pl k.bu (by rw [W.len]; exact k.len) fun b hb => by
    rcases List.mem_or_eq_of_mem_set hb with h | rfl
    · exact k.ba b h
    · have h1 := W.lo; have h2 := W.hi
      have := k.ba _ (List.mem_of_getElem? (gR_get (show (j : Int) < r.ba.length by have := W.lt; omega)))
      omega
theorem WiderB.are {r : Rm} {j : Nat} {v : Rg} (W : WiderB r j v) {plan : List Int} (ha : sAre r plan = true) : sAre (rmB r j v) plan = true := by
  simp only [sAre, Bool.and_eq_true, decide_eq_true_eq, List.all_eq_true, List.mem_range, sIn] at ha ⊢
  refine ⟨by rw [W.len]; exact ha.1, fun i hi => ?_⟩
  rw [W.len] at hi
  have h1 := ha.2 i hi
  have h2 := W.gR i
  omega
theorem WiderB.rest {r : Rm} {j : Nat} {v : Rg} (W : WiderB r j v) (k : RmOk r) {b : Nat} (h : restN r b = true) : restN (rmB r j v) b = true := by
  obtain ⟨p, h1, h2, h3⟩ := (rest_iff k).1 h
  refine (rest_iff (W.ok k)).2 ⟨p, by rw [W.len]; exact h1, fun i hi hb => ?_, h3⟩
  rw [W.len] at hi
  have h4 := h2 i hi hb
  have h5 := W.gR i
  omega
theorem WiderB.give {r : Rm} {j : Nat} {v : Rg} (W : WiderB r j v) (k : RmOk r) (hs : sSureN r zL = true) : ((giveAll (rmB r j v)).getD []).length ≤ ((giveAll r).getD []).length :=
  give_le k (W.ok k) hs hs fun b hb hr => ⟨b, by rw [W.len]; exact hb, by rw [W.len]; exact W.rest k hr, Nat.le_refl _⟩
theorem WiderB.prove {r : Rm} {j : Nat} {v : Rg} (W : WiderB r j v) (k : RmOk r) {plan : List Int} (ha : sAre r plan = true) (h : sProveP r plan = true) : sProveP (rmB r j v) plan = true := by
  rw [prove_of k.check ha] at h
  rw [prove_of (W.ok k).check (W.are ha)]
  exact h
theorem giveR_eq {r : Rm} (k : RmOk r) : sGiveR r = if sSureN r zL = true then ((giveAll r).getD [], 0) else ([], 10) := by rw [sGiveR, if_pos k.check]
/-- A room's cells with another slice of baths. -/
def rmRow (r : Rm) (v : V) : List V := [vi r.cu.last, vi r.cu.start, vi r.cu.most, vi r.cu.per, vi r.cu.shovels, vI r.cu.coal, vI r.cu.want, vi r.cu.heat.lo, vi r.cu.heat.hi, vR r.cu.loss, vD r.cu.readings, vi r.bu, vi r.pl, v]
theorem rmRow_eq (r : Rm) (v : V) : List.take 13 r.cs ++ [v] ++ List.drop 14 r.cs = rmRow r v := rfl
theorem rmRow_h (r : Rm) (v : V) : (List.drop 13 (rmRow r v)).head? = some v := rfl
theorem rmRow_frz (i ver : Nat) (cs : List V) (r : Rm) (v : V) : frzL i ver cs (rmRow r v) = rmRow r (v.frz i ver cs) := by
  simp only [rmRow, frzL, vI_frz, vR, vD, V.frz, cR_frz, cD_frz]
end Go.Vm

set_option linter.unusedVariables false
set_option linter.unusedSimpArgs false
set_option maxRecDepth 100000
namespace Go.Vm
open Go.Proofs
theorem c_list90 (l : List Int) (hl : (l.length : Int) ≤ 1000000) : Ev Tryz.prog (.fn 26 [] []) [vI l] [] fun v h' => v = .own 4 0 0 1 l.length ∧ h' = [(4, ⟨0, .row (cI l)⟩)] := by
  refine Ev.fn Tryz.func26 rfl rfl (Fn.body tabOk Tryz.func26 rfl (Nat.le_of_ble_eq_true rfl) (Ks.ok (fz := (fzn [])) (cl := (cln [])) tabOk mixed ?_))
  generalize hQ : FnPost tt Tryz.f26 _ _ = Q
  simp only [Tryz.f26, List.nil_append, List.append_nil, argsEnv]
  have hl2 : l.length ≤ 1000000 := by omega
  simp only [gos, eq_self, Nat.reduceLT, Nat.reduceLeDiff, reduceCtorEq, reduceIte, ↓reduceIte, tt, vgo, vout, vguard, callOf, vop, ev, cv, vappend, srcOf, vI, cI_len, Nat.mul_one, cI_one, hl2]
  subst hQ
  exact FnPost.plain trivial (v := .own 4 0 0 1 l.length) (fun h2 e => by rfl) WkV.refl ⟨rfl, rfl⟩
theorem n_list9 (l : List Int) (hl : (l.length : Int) ≤ 1000000) : NewB Tryz.prog (.fn 26 [] []) [vI l] (.own 4 0 0 1 l.length) 4 ⟨0, .row (cI l)⟩ :=
  NewB.of (c_list90 l hl) rfl (by simp only [intoL, vI_into, Bool.and_true])
theorem cR_set2 {l : List Rg} {j : Nat} (hj : j < l.length) (v : Rg) : List.take (j * 2) (cR l) ++ [vi v.lo, vi v.hi] ++ List.drop (j * 2 + 2) (cR l) = cR (l.set j v) := by
  have h2 : List.drop (j * 2 + 2) (cR l) = cR (l.drop (j + 1)) := by rw [show j * 2 + 2 = (j + 1) * 2 by omega, cR_drop]
  rw [h2, cR_takeN, List.set_eq_take_append_cons_drop, if_pos hj, cR_app, List.append_assoc]; rfl
set_option maxHeartbeats 8000000 in
theorem l_BathOrder (r : Rm) (hl : I64 r.cu.last) (one other : Int) (hon : 0 ≤ one ∧ one ≤ 255) (hot : 0 ≤ other ∧ other ≤ 255) (words : List Int) (hw : ∀ x ∈ words, 0 ≤ x ∧ x ≤ 65535) :
    Vm.Fn Tryz.prog 18 [.agg r.cs, .int .u8 one, .int .u8 other, vW words] [] fun v h' => v = .bool true := by
  refine Fn.body tabOk Tryz.func18 rfl (Nat.le_of_ble_eq_true rfl) (Ks.ok (fz := (fzn [11])) (cl := (cln [(3, .d tg0 [cP, cP, cP, cP, cP, cP, cP, cP, cP, cP, cP, cP, cP, cP]), (6, .d (tgL [(44, 1)]) [cP, cL, cP, cP, cL, cP, cP, cP, cP, cP, cP, cP, cP, cP, cP, cP, some ([1], []), some ([1], [1]), some ([1], []), some ([1], [1])]), (9, .d (tgL [(4, 1)]) [cP, cP, cP, cP, cP, cP, cP, cP, cP, cP, cP, cP, some ([1], []), some ([1], [1]), some ([1], []), some ([1], [1])]), (10, .ex), (12, .d tg0 [cP, cP, cP, cP, cP, cP, cP, cP, cP, cP, cP, cP, cP, cP, cP, cP, cP, cP, cP, cP, cP, cP, cP, cP, cP, cP, cP, cP, cP, cP, cP, cP, cP, cP])])) tabOk mixed ?_)
  generalize hQ : FnPost tt Tryz.f18 _ _ = Q
  simp only [Tryz.f18, argsEnv, Nat.reduceAdd]
  simp only [gos, eq_self, Nat.reduceLT, Nat.reduceEqDiff, reduceCtorEq, reduceIte, ↓reduceIte, tt, vgo, vout, vguard, callOf, vop, ev, cv, vload, newRow, rms]
  refine Cl.pu (c_ready9 r hl) ?_ rfl (by simp only [V.into, intoL, Bool.and_true, rm_into])
  cases hrd : sReadyR r with
  | false =>
    simp only [gos, eq_self, Nat.reduceLT, Nat.reduceEqDiff, reduceIte, ↓reduceIte, vgo, vout, vguard, callOf, vop, ev, cv]
    refine Cl.pu c_awake9 ?_
    simp only [gos, eq_self, Nat.reduceLT, reduceIte, ↓reduceIte, vgo, vout, vguard, callOf, vop, ev]
    subst hQ
    exact FnPost.plain trivial (v := .bool true) (fun h2 e => by rfl) WkV.refl rfl
  | true =>
    obtain ⟨hr, h0, k, hb4, hp3⟩ := ready9_ok hl hrd
    by_cases hb0 : (r.ba.length : Int) = 0
    · have hd : decide ((r.ba.length : Int) = 0) = true := decide_eq_true hb0
      simp only [gos, eq_self, Nat.reduceLT, Nat.reduceEqDiff, reduceCtorEq, reduceIte, ↓reduceIte, tt, vgo, vout, vguard, callOf, vop, ev, cv, vbin, vint, isShift, isNilConst, vload, vlen, rms, vR, hd]
      refine Cl.pu c_awake9 ?_
      simp only [gos, eq_self, Nat.reduceLT, reduceIte, ↓reduceIte, vgo, vout, vguard, callOf, vop, ev]
      subst hQ
      exact FnPost.plain trivial (v := .bool true) (fun h2 e => by rfl) WkV.refl rfl
    have hd : decide ((r.ba.length : Int) = 0) = false := decide_eq_false hb0
    have k0 := k.A.k0
    have hla := k0.last
    have hcl := chosen_len r words
    have ha := chosen_are k hw
    have hp : ((sChosen r words).length : Int) ≤ 1000000 := by omega
    have hbm : r.ba.length ≤ 1000000 := by omega
    have hcn : (cR r.ba).length = r.ba.length * 2 := cR_len _
    have hone := cR_oneL r.ba
    have wA := i64_in (show -9223372036854775808 ≤ one by omega) (show one ≤ 9223372036854775807 by omega)
    have wB := i64_in (show -9223372036854775808 ≤ other by omega) (show other ≤ 9223372036854775807 by omega)
    have ma := tmod_le hon.1 (s := (r.ba.length : Int)) (by omega)
    have mb := tmod_le hot.1 (s := (r.ba.length : Int)) (by omega)
    obtain ⟨a, hja⟩ : ∃ j : Nat, (j : Int) = one.tmod (r.ba.length : Int) := ⟨(one.tmod (r.ba.length : Int)).toNat, by omega⟩
    obtain ⟨d, hjd⟩ : ∃ j : Nat, (j : Int) = other.tmod (r.ba.length : Int) := ⟨(other.tmod (r.ba.length : Int)).toNat, by omega⟩
    have hal : a < r.ba.length := by omega
    have hdl : d < r.ba.length := by omega
    have hal2 : (a : Int) < (r.ba.length : Int) := by omega
    have hdl2 : (d : Int) < (r.ba.length : Int) := by omega
    have hata := cR_at (Int.natCast_nonneg a) hal2
    have hatd := cR_at (Int.natCast_nonneg d) hdl2
    rw [Int.toNat_natCast] at hata hatd
    have q1 : a * 2 + 2 ≤ r.ba.length * 2 := by omega
    have q2 : d * 2 + 2 ≤ r.ba.length * 2 := by omega
    have hs1 := cR_set2 hal (gR r.ba d)
    have hs2 := cR_set2 (l := r.ba.set a (gR r.ba d)) (j := d) (by rw [List.length_set]; exact hdl) (gR r.ba a)
    have hcn2 : (cR (r.ba.set a (gR r.ba d))).length = r.ba.length * 2 := by rw [cR_len, List.length_set]
    simp only [gos, eq_self, Nat.reduceLT, Nat.reduceEqDiff, reduceCtorEq, reduceIte, ↓reduceIte, tt, vgo, vout, vguard, callOf, vop, ev, cv, vbin, vint, isShift, isNilConst, vload, vlen, rms, vR, hd]
    refine Wr.draw (by kernel_rfl) ?_
    simp only [gos, eq_self, Nat.reduceLT, Nat.reduceEqDiff, Nat.reduceAdd, Nat.reduceMul, Nat.reduceLeDiff, reduceCtorEq, reduceIte, ↓reduceIte, tt, vgo, vout, vgoD, voutD, vclsOk, vids, mayWrite, V.ids, vguard, callOf, vop, ev, vbin, vint, isShift, isNilConst, vload, vlen, newRow, vfill, vappend, srcOf, clsAt, rms, vR, wA, wB, hb0, ← hja, ← hjd]
    simp only [gos, eq_self, Nat.reduceLT, Nat.reduceEqDiff, Nat.reduceAdd, reduceCtorEq, reduceIte, ↓reduceIte, tt, vgo, vout, vguard, callOf, vop, ev, rms, hbm, hcn, hone, rmRow_eq]
    refine Wr.draw (by kernel_rfl) ?_
    simp only [gos, eq_self, Nat.reduceLT, Nat.reduceEqDiff, Nat.reduceAdd, reduceCtorEq, reduceIte, ↓reduceIte, tt, vgo, vout, vgoD, voutD, vclsOk, vids, mayWrite, V.ids, vguard, callOf, vop, ev, vload, clsAt, rms, vR, rmRow_h, hcn, hcn2, hal2, hdl2, hata, hatd, q1, q2, hs1, hs2, Int.natCast_nonneg, Int.toNat_natCast, Nat.zero_add]
    have S := swapR r hal hdl
    have kx := S.ok k
    have hrx : ({ r with ba := swR r.ba a d } : Rm).wf := kx.wf
    have hgl := S.give_eq k
    have hpr := S.prove k ha
    have hsz := S.sureN zL
    have hgx := giveR_eq k
    have hgy := giveR_eq kx
    have e1 : (r.ba.set a (gR r.ba d)).set d (gR r.ba a) = swR r.ba a d := rfl
    have eL : (swR r.ba a d).length = r.ba.length := by simp [swR]
    have e2 : (cR (swR r.ba a d)).take (r.ba.length * 2) = cR (swR r.ba a d) := List.take_of_length_le (by rw [cR_len, eL]; exact Nat.le_refl _)
    have e3 : V.ro r.ba.length (cR (swR r.ba a d)) = vR (swR r.ba a d) := by rw [vR, eL]
    have e4 : rmRow r (vR (swR r.ba a d)) = ({ r with ba := swR r.ba a d } : Rm).cs := rfl
    rw [e1]
    refine Cl.pu (c_Chosen r k words hw) ?_ rfl (by simp only [V.into, intoL, Bool.and_true, rm_into, vW_into])
    generalize sChosen r words = plan at hcl ha hp hpr ⊢
    have hpal : (a : Int) < (plan.length : Int) := by omega
    have hpdl : (d : Int) < (plan.length : Int) := by omega
    have hpa := cI_at (Int.natCast_nonneg a) hpal
    have hpd := cI_at (Int.natCast_nonneg d) hpdl
    rw [Int.toNat_natCast, Nat.mul_one] at hpa hpd
    have p1 : a + 1 ≤ plan.length := by omega
    have p2 : d + 1 ≤ plan.length := by omega
    have hi1 := cI_len plan
    have hi2 : (cI (plan.set a (gi plan d))).length = plan.length := by rw [cI_len, List.length_set]
    have hs3 := cI_set (l := plan) (i := a) (gi plan d) (by omega)
    have hs4 := cI_set (l := plan.set a (gi plan d)) (i := d) (gi plan a) (by rw [List.length_set]; omega)
    have e5 : (plan.set a (gi plan d)).set d (gi plan a) = swL plan a d := rfl
    have eM : (swL plan a d).length = plan.length := by simp [swL]
    have e6 : (cI (swL plan a d)).take plan.length = cI (swL plan a d) := List.take_of_length_le (by rw [cI_len]; omega)
    have e7 : V.ro plan.length (cI (swL plan a d)) = vI (swL plan a d) := by rw [vI, eM]
    have hyl : ((swL plan a d).length : Int) ≤ 1000000 := by omega
    simp only [gos, eq_self, Nat.reduceLT, Nat.reduceEqDiff, reduceIte, ↓reduceIte, vgo, vout, vguard, callOf, vop, ev]
    refine Cl.newN (n_list9 plan hp) rfl ?_
    simp only [gos, eq_self, Nat.reduceLT, Nat.reduceEqDiff, reduceIte, ↓reduceIte, vgo, vout, vguard, callOf, vop, ev]
    refine Wr.draw (by kernel_rfl) ?_
    simp only [gos, eq_self, Nat.reduceLT, Nat.reduceEqDiff, Nat.reduceAdd, reduceCtorEq, reduceIte, ↓reduceIte, tt, vgoD, voutD, vclsOk, vids, mayWrite, V.ids, vguard, callOf, vop, ev, vload, clsAt, vI, hpal, hpdl, hpa, hpd, p1, p2, hi1, hi2, hs3, hs4, e5, Int.natCast_nonneg, Int.toNat_natCast, Nat.mul_one, Nat.zero_add]
    refine Wr.at tabOk 0 ?_
    simp only [gos]
    refine Wa.mk (ρ2 := [(4, .rop r.cs), (11, .rop ({ r with ba := swR r.ba a d } : Rm).cs), (12, vI plan), (13, vI (swL plan a d))]) (h2 := []) ?_ ?_
    · refine Wk.trans (Wk.env (ρ' := [(4, .rop r.cs), (11, .ptr 11 0 0), (12, vI plan), (13, .own 4 0 0 1 plan.length)]) (by simp [subE, Env.get, vI])) (Wk.trans (Wk.freeze 44 rfl rfl (cR_into _ _) rfl) ?_)
      simp only [gos, eq_self, Nat.reduceEqDiff, reduceIte, ↓reduceIte, frzE, frzH, Blk.frz, V.frz, rm_frz, vI_frz, cI_frz, rmRow_frz, e2, e3]
      rw [e4]
      refine Wk.trans (Wk.freeze 4 rfl rfl (cI_into _ _) rfl) ?_
      simp only [gos, eq_self, Nat.reduceEqDiff, reduceIte, ↓reduceIte, frzE, frzH, Blk.frz, V.frz, rm_frz, vI_frz, Nat.mul_one, e6, e7]
      refine Wk.trans (Wk.freeze 11 rfl rfl (rm_into _ _) rfl) ?_
      simp only [gos, eq_self, reduceIte, ↓reduceIte, frzE, frzH, V.frz, rm_frz, vI_frz]
      exact Wk.env (by simp [subE, Env.get])
    generalize ({ r with ba := swR r.ba a d } : Rm) = x at *
    generalize swL plan a d = y at *
    simp only [gos, eq_self, Nat.reduceLT, reduceCtorEq, reduceIte, ↓reduceIte, tt, vgo, vout, vguard, callOf, vop, ev, vload, rms]
    refine Cl.pu (c_Room r hr) ?_ rfl (by simp only [V.into, intoL, Bool.and_true, rm_into])
    simp only [gos, eq_self, Nat.reduceLT, reduceIte, ↓reduceIte, vgo, vout, vguard, callOf, ev]
    refine Cl.pu (c_bGive r hr) ?_ rfl (by simp only [V.into, intoL, Bool.and_true, rm_into])
    simp only [gos, eq_self, Nat.reduceLT, Nat.reduceEqDiff, reduceCtorEq, reduceIte, ↓reduceIte, tt, vgo, vout, vguard, callOf, vop, ev, vload, rms]
    refine Cl.pu (c_Room x hrx) ?_ rfl (by simp only [V.into, intoL, Bool.and_true, rm_into])
    simp only [gos, eq_self, Nat.reduceLT, reduceIte, ↓reduceIte, vgo, vout, vguard, callOf, ev]
    refine Cl.pu (c_bGive x hrx) ?_ rfl (by simp only [V.into, intoL, Bool.and_true, rm_into])
    rw [hgx, hgy, hsz]
    have y0 : decide ((0 : Int) = 0) = true := rfl
    have y1 : decide ((10 : Int) = 0) = false := rfl
    have y2 : decide ((10 : Int) = 10) = true := rfl
    have z1 : (sProveP r plan == sProveP r plan) = true := by simp
    cases hs : sSureN r zL with
    | true =>
      have hgl := hgl hs
      have hle : decide ((((giveAll r).getD []).length : Int) = (((giveAll x).getD []).length : Int)) = true := decide_eq_true (by omega)
      simp only [gos, eq_self, Nat.reduceLT, Nat.reduceEqDiff, reduceIte, ↓reduceIte, vgo, vout, vguard, callOf, vop, ev, vI]
      refine Wr.draw (by kernel_rfl) ?_
      simp only [gos, eq_self, Nat.reduceLT, Nat.reduceEqDiff, Nat.reduceAdd, reduceCtorEq, reduceIte, ↓reduceIte, tt, vgoD, voutD, vclsOk, vids, mayWrite, V.ids, vguard, callOf, vop, ev, cv, vbin, vint, isShift, isNilConst, vload, vlen, clsAt, rms, hle]
      refine CD.pu (c_Room r hr) ?_ rfl (by simp only [V.into, intoL, Bool.and_true, rm_into])
      simp only [gos, eq_self, Nat.reduceLT, Nat.reduceEqDiff, reduceIte, ↓reduceIte, vgoD, voutD, vclsOk, vids, mayWrite, vguard, callOf, vop, ev]
      refine CD.pu (c_list9 plan hp) ?_ rfl (by simp only [V.into, intoL, cI_into, Bool.and_true])
      simp only [gos, eq_self, Nat.reduceLT, Nat.reduceEqDiff, reduceIte, ↓reduceIte, vgoD, voutD, vguard, callOf, ev]
      refine CD.pu (c_ProvePlan r hr plan hp) ?_ rfl (by simp only [V.into, intoL, vI_into, Bool.and_true, rm_into])
      simp only [gos, eq_self, Nat.reduceLT, Nat.reduceEqDiff, reduceCtorEq, reduceIte, ↓reduceIte, tt, vgoD, voutD, vclsOk, vids, mayWrite, V.ids, vguard, callOf, vop, ev, vload, rms]
      refine CD.pu (c_Room x hrx) ?_ rfl (by simp only [V.into, intoL, Bool.and_true, rm_into])
      simp only [gos, eq_self, Nat.reduceLT, Nat.reduceEqDiff, reduceIte, ↓reduceIte, vgoD, voutD, vclsOk, vids, mayWrite, vguard, callOf, vop, ev]
      refine CD.pu (c_ProvePlan x hrx y hyl) ?_ rfl (by simp only [V.into, intoL, cI_into, Bool.and_true, rm_into])
      rw [hpr]
      simp only [gos, eq_self, Nat.reduceLT, Nat.reduceEqDiff, reduceIte, ↓reduceIte, tt, vgoD, voutD, vclsOk, vids, mayWrite, vguard, callOf, vop, ev, vbin, isNilConst]
      refine CD.pu c_awake9 ?_
      simp only [gos, eq_self, Nat.reduceLT, Nat.reduceEqDiff, reduceIte, ↓reduceIte, vgoD, voutD, vclsOk, vids, mayWrite, vguard, callOf, vop, ev]
      subst hQ
      exact FnPost.plain trivial (v := .bool true) (fun h2 e => by rfl) WkV.refl rfl
    | false =>
      have hle : decide ((([] : List Int).length : Int) = (([] : List Int).length : Int)) = true := rfl
      simp only [gos, eq_self, Nat.reduceLT, Nat.reduceEqDiff, reduceIte, ↓reduceIte, vgo, vout, vguard, callOf, vop, ev, vI]
      refine Wr.draw (by kernel_rfl) ?_
      simp only [gos, eq_self, Nat.reduceLT, Nat.reduceEqDiff, Nat.reduceAdd, reduceCtorEq, reduceIte, ↓reduceIte, tt, vgoD, voutD, vclsOk, vids, mayWrite, V.ids, vguard, callOf, vop, ev, cv, vbin, vint, isShift, isNilConst, vload, vlen, clsAt, rms, y1]
      refine CD.pu (c_Room r hr) ?_ rfl (by simp only [V.into, intoL, Bool.and_true, rm_into])
      simp only [gos, eq_self, Nat.reduceLT, Nat.reduceEqDiff, reduceIte, ↓reduceIte, vgoD, voutD, vclsOk, vids, mayWrite, vguard, callOf, vop, ev]
      refine CD.pu (c_list9 plan hp) ?_ rfl (by simp only [V.into, intoL, cI_into, Bool.and_true])
      simp only [gos, eq_self, Nat.reduceLT, Nat.reduceEqDiff, reduceIte, ↓reduceIte, vgoD, voutD, vguard, callOf, ev]
      refine CD.pu (c_ProvePlan r hr plan hp) ?_ rfl (by simp only [V.into, intoL, vI_into, Bool.and_true, rm_into])
      simp only [gos, eq_self, Nat.reduceLT, Nat.reduceEqDiff, reduceCtorEq, reduceIte, ↓reduceIte, tt, vgoD, voutD, vclsOk, vids, mayWrite, V.ids, vguard, callOf, vop, ev, vload, rms]
      refine CD.pu (c_Room x hrx) ?_ rfl (by simp only [V.into, intoL, Bool.and_true, rm_into])
      simp only [gos, eq_self, Nat.reduceLT, Nat.reduceEqDiff, reduceIte, ↓reduceIte, vgoD, voutD, vclsOk, vids, mayWrite, vguard, callOf, vop, ev]
      refine CD.pu (c_ProvePlan x hrx y hyl) ?_ rfl (by simp only [V.into, intoL, cI_into, Bool.and_true, rm_into])
      rw [hpr]
      simp only [gos, eq_self, Nat.reduceLT, Nat.reduceEqDiff, reduceIte, ↓reduceIte, tt, vgoD, voutD, vclsOk, vids, mayWrite, vguard, callOf, vop, ev, vbin, isNilConst]
      refine CD.pu c_awake9 ?_
      simp only [gos, eq_self, Nat.reduceLT, Nat.reduceEqDiff, reduceIte, ↓reduceIte, vgoD, voutD, vclsOk, vids, mayWrite, vguard, callOf, vop, ev]
      subst hQ
      exact FnPost.plain trivial (v := .bool true) (fun h2 e => by rfl) WkV.refl rfl
end Go.Vm
