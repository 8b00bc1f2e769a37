import Derived.Test.YtjppikcigeiomaaB1
import Derived.Test.YtjppikcigeiomaaRows
import Derived.WalkKit
import Derived.ProofKit
import Derived.OpenShut
import Derived.ShutString
import Derived.ChangeOld
import Derived.Below
import Derived.Test.YtjppikcigeiomaaVm30
set_option linter.unusedVariables false
set_option linter.unusedSimpArgs false
set_option maxRecDepth 100000
namespace Go.Vm
open Go.Proofs
/-! ### the reference: the truth with a number -/
def nthL : List Rg → Int → List Int
  | [], _ => []
  | r :: l, n => (r.lo + n.tmod (sSize r)) :: nthL l (n.tdiv (sSize r))
theorem nthL_len : ∀ (l : List Rg) (n : Int), (nthL l n).length = l.length
  | [], _ => rfl
  | r :: l, n => by simp [nthL, nthL_len l]
def rNth (c : Cu) (n : Int) : Tr2 := ⟨c.heat.lo + n.tmod (sSize c.heat), nthL c.loss (n.tdiv (sSize c.heat))⟩
theorem tmod_le {n s : Int} (h : 0 ≤ n) (hs : 1 ≤ s) : 0 ≤ n.tmod s ∧ n.tmod s ≤ s - 1 := by
  have h1 := Int.tmod_nonneg s h
  have h2 := Int.tmod_lt_of_pos n (b := s) (by omega)
  omega
end Go.Vm

set_option linter.unusedVariables false
set_option linter.unusedSimpArgs false
set_option maxRecDepth 100000
namespace Go.Vm
open Go.Proofs
/-! ### the reference: which readings are right -/
def bitsI (f : Nat → Bool) : Nat → Int
  | 0 => 0
  | i + 1 => if f i then bitsI f i + 2 ^ i else bitsI f i
theorem bitsI_le (f : Nat → Bool) : ∀ i, 0 ≤ bitsI f i ∧ bitsI f i < 2 ^ i
  | 0 => by simp [bitsI]
  | i + 1 => by
    have := bitsI_le f i
    have e : (2 : Int) ^ (i + 1) = 2 ^ i + 2 ^ i := by rw [Int.pow_succ]; omega
    simp only [bitsI]
    split <;> omega
/-- A reading is right in a truth. -/
def rOk (c : Cu) (t : Tr2) (i : Nat) : Bool := sIn ((sHeat c (tS t) c.coal c.want (gD c.readings i).hour.toNat).tdiv c.per) (gD c.readings i).b.lo (gD c.readings i).b.hi
def rRight (c : Cu) (t : Tr2) : Int := bitsI (rOk c t) c.readings.length
def rFull (c : Cu) : Int := 2 ^ c.readings.length - 1
end Go.Vm

set_option linter.unusedVariables false
set_option linter.unusedSimpArgs false
set_option maxRecDepth 100000
namespace Go.Vm
open Go.Proofs
/-! ### the reference: all truths -/
/-- A truth of the reference that fits the coppers. -/
structure T2Ok (c : Cu) (t : Tr2) : Prop where
  sc : ScOk c (tS t)
  len : (t.loss.length : Int) = c.last + 1
theorem T2Ok.tr {c : Cu} (k0 : CuOk c) {t : Tr2} (h : T2Ok c t) : TrOk c t c.coal c.want := ⟨k0.play0 h.sc, h.len⟩
def rIs (c : Cu) (t : Tr2) : Bool := decide (rRight c t = rFull c)
def rTr (c : Cu) (i : Nat) : List Tr2 := ((List.range i).map fun (n : Nat) => rNth c n).filter (rIs c)
def rTruths (c : Cu) : List Tr2 := rTr c (rMany c).toNat
theorem rMany_le {c : Cu} (k0 : CuOk c) : 1 ≤ rMany c ∧ rMany c ≤ 2000 := by
  have h := many_iff k0.heat k0.loss.2
  have hz := size_le k0.heat
  have h1 := rManyL_le (n := sSize c.heat) ⟨by omega, by omega⟩ (l := c.loss) k0.loss.2
  have e : rMany c = rManyL (sSize c.heat) c.loss := rfl
  have := k0.many
  have h2 : ¬ 2000 < rMany c := by rw [h]; omega
  omega
end Go.Vm

set_option linter.unusedVariables false
set_option linter.unusedSimpArgs false
set_option maxRecDepth 100000
namespace Go.Vm
open Go.Proofs
/-! ### the reference: bounds and verdicts -/
def hotI (c : Cu) (t : Tr2) (i : Nat) : Int := (sHeat c (tS t) c.coal c.want i).tdiv c.per
def leftI (c : Cu) (t : Tr2) (i : Nat) : Int := (sPlay c (tS t) c.coal c.want (i + 1)).1
def rVerdict (yes many : Int) : Int := if yes = many then 1 else if yes = 0 then 2 else 3
def keptI (c : Cu) (coal want : List Int) (t : Tr2) (i : Nat) : Bool := decide (gi want i ≤ (sHeat c (tS t) coal want i).tdiv c.per)
end Go.Vm

set_option linter.unusedVariables false
set_option linter.unusedSimpArgs false
namespace Go.Vm
/-! ### the plain law: the truths of the program are those of the reference -/
/-- A truth, whatever the readings are. -/
structure Listed (c : Cu) (t : Tr2) : Prop where
  heat : c.heat.lo ≤ t.heat ∧ t.heat ≤ c.heat.hi
  len : t.loss.length = c.loss.length
  loss : ∀ i : Nat, i < c.loss.length → (gR c.loss i).lo ≤ gi t.loss i ∧ gi t.loss i ≤ (gR c.loss i).hi
theorem mem_rangeI {lo hi x : Int} : x ∈ rangeI lo hi ↔ lo ≤ x ∧ x ≤ hi := by
  refine ⟨rangeI_mem, fun h => ?_⟩
  simp only [rangeI, List.mem_map, List.mem_range]
  exact ⟨(x - lo).toNat, by omega, by omega⟩
theorem gi_set_self {l : List Int} {i : Nat} (x : Int) (h : i < l.length) : gi (l.set i x) i = x := by
  simp only [gi, Int.toNat_natCast, List.getD_eq_getElem?_getD]
  rw [List.getElem?_set_self h]; rfl
theorem gi_of_get {l m : List Int} {i : Nat} (h : l[i]? = m[i]?) : gi l i = gi m i := by
  simp only [gi, Int.toNat_natCast, List.getD_eq_getElem?_getD, h]
theorem mem_genH (c : Cu) : ∀ (k hour : Nat) (ls l : List Int), hour + k ≤ ls.length →
    (l ∈ genH c k hour ls ↔ l.length = ls.length ∧ (∀ j, j < hour ∨ hour + k ≤ j → l[j]? = ls[j]?) ∧ ∀ j : Nat, hour ≤ j → j < hour + k → (gR c.loss j).lo ≤ gi l j ∧ gi l j ≤ (gR c.loss j).hi)
  | 0, hour, ls, l, _ => by
    simp only [genH, List.mem_singleton]
    constructor
    · rintro rfl; exact ⟨rfl, fun _ _ => rfl, fun j h1 h2 => by omega⟩
    · rintro ⟨_, h, _⟩
      exact List.ext_getElem? fun j => h j (by omega)
  | k + 1, hour, ls, l, hh => by
    simp only [genH, List.mem_flatMap, mem_rangeI]
    constructor
    · rintro ⟨n, hn, hm⟩
      obtain ⟨h1, h2, h3⟩ := (mem_genH c k (hour + 1) (ls.set hour n) l (by simp; omega)).1 hm
      refine ⟨by simpa using h1, fun j hj => ?_, fun j h4 h5 => ?_⟩
      · rw [h2 j (by omega), List.getElem?_set_ne (by omega)]
      · by_cases e : hour = j
        · subst e
          rw [gi_of_get (h2 hour (by omega)), gi_set_self _ (by omega)]
          exact hn
        · exact h3 j (by omega) (by omega)
    · rintro ⟨h1, h2, h3⟩
      refine ⟨gi l hour, h3 hour (by omega) (by omega), (mem_genH c k (hour + 1) (ls.set hour (gi l hour)) l (by simp; omega)).2 ⟨by simpa using h1, fun j hj => ?_, fun j h4 h5 => h3 j (by omega) (by omega)⟩⟩
      by_cases e : hour = j
      · subst e
        rw [List.getElem?_set_self (by omega)]
        exact gi_get (by omega)
      · rw [List.getElem?_set_ne e]
        exact h2 j (by omega)
theorem pad5_get {l : List Int} (j : Nat) (h : j < l.length) : (pad5 l)[j]? = l[j]? := by
  rw [pad5, List.getElem?_append_left h]
theorem pad5_ge {l : List Int} (j : Nat) (h : l.length ≤ j) (hl : l.length ≤ 5) : (pad5 l)[j]? = zL[j]? := by
  rw [pad5, List.getElem?_append_right h, List.getElem?_replicate]
  by_cases hj : j < 5
  · rw [if_pos (by omega)]
    have : ∀ k : Fin 5, zL[(k : Nat)]? = some 0 := by decide
    exact (this ⟨j, hj⟩).symm
  · rw [if_neg (by omega), List.getElem?_eq_none (by simp [zL]; omega)]
theorem mem_truths {c : Cu} (k0 : CuOk c) (s : Sc) : s ∈ truths c ↔ ∃ t, Listed c t ∧ s = tS t := by
  have hl := k0.loss.1
  have hla := k0.last
  have hn : (c.last + 1).toNat = c.loss.length := by omega
  simp only [truths, List.mem_flatMap, List.mem_map, mem_rangeI]
  rw [hn]
  constructor
  · rintro ⟨h, hh, l, hm, rfl⟩
    obtain ⟨h1, h2, h3⟩ := (mem_genH c c.loss.length 0 zL l (by simp [zL]; omega)).1 hm
    have hz : l.length = 5 := h1
    have hlen : (l.take c.loss.length).length = c.loss.length := by rw [List.length_take]; omega
    refine ⟨⟨h, l.take c.loss.length⟩, ⟨hh, hlen, fun i hi => ?_⟩, ?_⟩
    · have : gi (l.take c.loss.length) i = gi l i := gi_of_get (by rw [List.getElem?_take, if_pos hi])
      simp only [this]
      exact h3 i (by omega) (by omega)
    · simp only [tS, Sc.mk.injEq, true_and]
      refine List.ext_getElem? fun j => ?_
      by_cases hj : j < c.loss.length
      · rw [pad5_get j (by omega), List.getElem?_take, if_pos hj]
      · rw [pad5_ge j (by omega) (by omega)]
        exact h2 j (by omega)
  · rintro ⟨t, ⟨ht, hle, hlo⟩, rfl⟩
    refine ⟨t.heat, ht, pad5 t.loss, (mem_genH c c.loss.length 0 zL (pad5 t.loss) (by simp [zL]; omega)).2 ⟨?_, fun j hj => ?_, fun j h4 h5 => ?_⟩, rfl⟩
    · simp [pad5, zL]; omega
    · rcases hj with hj | hj
      · omega
      · exact pad5_ge j (by omega) (by omega)
    · rw [pad5_gi]; exact hlo j (by omega)
/-! the truths by number -/
def encL : List Rg → List Int → Int
  | [], _ => 0
  | r :: rs, l => (gi l 0 - r.lo) + sSize r * encL rs (l.drop 1)
theorem gi_cons_zero (x : Int) (l : List Int) : gi (x :: l) 0 = x := rfl
theorem encL_ok : ∀ (rs : List Rg) (l : List Int), l.length = rs.length → (∀ r ∈ rs, 1 ≤ sSize r) → (∀ i : Nat, i < rs.length → (gR rs i).lo ≤ gi l i ∧ gi l i ≤ (gR rs i).hi) →
    0 ≤ encL rs l ∧ encL rs l < pL rs ∧ nthL rs (encL rs l) = l
  | [], l, hl, _, _ => by
    have : l = [] := List.length_eq_zero_iff.1 hl
    subst this
    simp [encL, pL, nthL]
  | r :: rs, [], hl, _, _ => by simp at hl
  | r :: rs, x :: l, hl, hs, hb => by
    have hr := hs r (by simp)
    have h0 := hb 0 (by simp)
    have e0 : gR (r :: rs) (0 : Nat) = r := rfl
    have e1 : gi (x :: l) (0 : Nat) = x := rfl
    rw [e0, e1] at h0
    obtain ⟨i1, i2, i3⟩ := encL_ok rs l (by simpa using hl) (fun y hy => hs y (by simp [hy])) (fun i hi => by
      have := hb (i + 1) (by simp; omega)
      have a1 : gR (r :: rs) ((i + 1 : Nat) : Int) = gR rs i := by simp only [gR, Int.toNat_natCast, List.getD_cons_succ]
      have a2 : gi (x :: l) ((i + 1 : Nat) : Int) = gi l i := by simp only [gi, Int.toNat_natCast, List.getD_cons_succ]
      rwa [a1, a2] at this)
    have en : encL (r :: rs) (x :: l) = (x - r.lo) + sSize r * encL rs l := by simp only [encL, gi_cons_zero, List.drop_succ_cons, List.drop_zero]
    have hxs : 0 ≤ x - r.lo ∧ x - r.lo < sSize r := by simp only [sSize] at hr ⊢; omega
    have hm : 0 ≤ sSize r * encL rs l := Int.mul_nonneg (by omega) i1
    have hm2 : sSize r * (encL rs l + 1) ≤ sSize r * pL rs := Int.mul_le_mul_of_nonneg_left (by omega) (by omega)
    rw [Int.mul_add] at hm2
    have hn : 0 ≤ (x - r.lo) + sSize r * encL rs l := by omega
    have t1 : ((x - r.lo) + sSize r * encL rs l).tmod (sSize r) = x - r.lo := by
      rw [Int.tmod_eq_emod_of_nonneg hn, Int.add_mul_emod_self_left, Int.emod_eq_of_lt hxs.1 hxs.2]
    have t2 : ((x - r.lo) + sSize r * encL rs l).tdiv (sSize r) = encL rs l := by
      rw [Int.tdiv_eq_ediv_of_nonneg hn, Int.add_mul_ediv_left _ _ (by omega), Int.ediv_eq_zero_of_lt hxs.1 hxs.2]; omega
    rw [en]
    refine ⟨hn, by simp only [pL]; omega, ?_⟩
    simp only [nthL, t1, t2, i3]
    congr 1
    omega
theorem rManyL_3000 : ∀ (l : List Rg), (∀ r ∈ l, 1 ≤ sSize r) → rManyL 3000 l = 3000
  | [], _ => rfl
  | r :: l, h => by
    have h1 := h r (by simp)
    have e : rManyL 3000 (r :: l) = rManyL (min 3000 (3000 * sSize r)) l := rfl
    rw [e, show min 3000 (3000 * sSize r) = 3000 by omega]
    exact rManyL_3000 l fun x hx => h x (by simp [hx])
theorem rManyL_eq : ∀ (l : List Rg) (n : Int), (∀ r ∈ l, 1 ≤ sSize r) → rManyL n l < 3000 → rManyL n l = n * pL l
  | [], n, _, _ => by simp [rManyL, pL]
  | r :: l, n, h, hlt => by
    have e : rManyL n (r :: l) = rManyL (min 3000 (n * sSize r)) l := rfl
    rw [e] at hlt ⊢
    by_cases hc : 3000 ≤ n * sSize r
    · rw [show min 3000 (n * sSize r) = 3000 by omega, rManyL_3000 l fun x hx => h x (by simp [hx])] at hlt
      omega
    · rw [show min 3000 (n * sSize r) = n * sSize r by omega] at hlt ⊢
      rw [rManyL_eq l _ (fun x hx => h x (by simp [hx])) hlt, pL, Int.mul_assoc]
theorem nth_listed {c : Cu} (k0 : CuOk c) {n : Int} (hn : 0 ≤ n) : Listed c (rNth c n) := by
  have hz := size_le k0.heat
  have hin := k0.heat
  simp only [sInside, Bool.and_eq_true, decide_eq_true_eq] at hin
  have hm := tmod_le hn hz.1
  refine ⟨by simp only [rNth]; simp only [sSize] at hm ⊢; omega, by simp only [rNth, nthL_len], ?_⟩
  have key : ∀ (rs : List Rg) (n : Int), 0 ≤ n → (∀ r ∈ rs, 1 ≤ sSize r) → ∀ i : Nat, i < rs.length → (gR rs i).lo ≤ gi (nthL rs n) i ∧ gi (nthL rs n) i ≤ (gR rs i).hi := by
    intro rs
    induction rs with
    | nil => intro n _ _ i hi; simp at hi
    | cons r rs ih =>
      intro n hn hs i hi
      have hr := hs r (by simp)
      have hm := tmod_le hn hr
      cases i with
      | zero =>
        have a1 : gR (r :: rs) ((0 : Nat) : Int) = r := rfl
        have a2 : gi (nthL (r :: rs) n) ((0 : Nat) : Int) = r.lo + n.tmod (sSize r) := rfl
        rw [a1, a2]
        simp only [sSize] at hm ⊢; omega
      | succ i =>
        have a1 : gR (r :: rs) ((i + 1 : Nat) : Int) = gR rs i := by simp only [gR, Int.toNat_natCast, List.getD_cons_succ]
        have a2 : gi (nthL (r :: rs) n) ((i + 1 : Nat) : Int) = gi (nthL rs (n.tdiv (sSize r))) i := by simp only [nthL, gi, Int.toNat_natCast, List.getD_cons_succ]
        rw [a1, a2]
        exact ih _ (Int.tdiv_nonneg hn (by omega)) (fun x hx => hs x (by simp [hx])) i (by simpa using hi)
  exact key c.loss _ (Int.tdiv_nonneg hn (by omega)) fun r hr => (size_le (k0.loss.2 r hr)).1
theorem nth_surj {c : Cu} (k0 : CuOk c) {t : Tr2} (h : Listed c t) : ∃ n : Nat, (n : Int) < rMany c ∧ rNth c n = t := by
  have hz := size_le k0.heat
  have hs : ∀ r ∈ c.loss, 1 ≤ sSize r := fun r hr => (size_le (k0.loss.2 r hr)).1
  obtain ⟨h1, h2, h3⟩ := encL_ok c.loss t.loss h.len hs h.loss
  have hM := rMany_le k0
  have e : rMany c = sSize c.heat * pL c.loss := rManyL_eq c.loss (sSize c.heat) hs (by have : rMany c = rManyL (sSize c.heat) c.loss := rfl; omega)
  have hx : 0 ≤ t.heat - c.heat.lo ∧ t.heat - c.heat.lo < sSize c.heat := by have := h.heat; simp only [sSize]; omega
  have hm : 0 ≤ sSize c.heat * encL c.loss t.loss := Int.mul_nonneg (by omega) h1
  have hm2 : sSize c.heat * (encL c.loss t.loss + 1) ≤ sSize c.heat * pL c.loss := Int.mul_le_mul_of_nonneg_left (by omega) (by omega)
  rw [Int.mul_add] at hm2
  have hn : 0 ≤ (t.heat - c.heat.lo) + sSize c.heat * encL c.loss t.loss := by omega
  have t1 : ((t.heat - c.heat.lo) + sSize c.heat * encL c.loss t.loss).tmod (sSize c.heat) = t.heat - c.heat.lo := by
    rw [Int.tmod_eq_emod_of_nonneg hn, Int.add_mul_emod_self_left, Int.emod_eq_of_lt hx.1 hx.2]
  have t2 : ((t.heat - c.heat.lo) + sSize c.heat * encL c.loss t.loss).tdiv (sSize c.heat) = encL c.loss t.loss := by
    rw [Int.tdiv_eq_ediv_of_nonneg hn, Int.add_mul_ediv_left _ _ (by omega), Int.ediv_eq_zero_of_lt hx.1 hx.2]; omega
  refine ⟨((t.heat - c.heat.lo) + sSize c.heat * encL c.loss t.loss).toNat, by omega, ?_⟩
  rw [show ((((t.heat - c.heat.lo) + sSize c.heat * encL c.loss t.loss).toNat : Nat) : Int) = (t.heat - c.heat.lo) + sSize c.heat * encL c.loss t.loss by omega]
  simp only [rNth, t1, t2, h3]
  cases t
  simp only [Tr2.mk.injEq, and_true]
  omega
end Go.Vm

set_option linter.unusedVariables false
set_option linter.unusedSimpArgs false
namespace Go.Vm
/-! ### what is hot, left and kept, by hour -/
theorem sPlay_hot (c : Cu) (s : Sc) (coal want : List Int) : ∀ n, (sPlay c s coal want n).2.hot = (List.range n).map (fun (i : Nat) => (sHeat c s coal want i).tdiv c.per) ∧
    (sPlay c s coal want n).2.left = (List.range n).map (fun (i : Nat) => (sPlay c s coal want (i + 1)).1) ∧ (sPlay c s coal want n).2.kept = (List.range n).map (fun (i : Nat) => decide (gi want i ≤ (sHeat c s coal want i).tdiv c.per))
  | 0 => ⟨rfl, rfl, rfl⟩
  | n + 1 => by
    obtain ⟨h1, h2, h3⟩ := sPlay_hot c s coal want n
    have e : sPlay c s coal want (n + 1) = ((sPlay c s coal want (n + 1)).1, ⟨(sPlay c s coal want n).2.hot ++ [(sHeat c s coal want n).tdiv c.per], (sPlay c s coal want n).2.left ++ [(sPlay c s coal want (n + 1)).1], (sPlay c s coal want n).2.kept ++ [decide (gi want n ≤ (sHeat c s coal want n).tdiv c.per)]⟩) := rfl
    rw [e]
    simp only [h1, h2, h3, List.range_succ, List.map_append, List.map_cons, List.map_nil, and_true]
theorem gi_map {f : Nat → Int} {n i : Nat} (h : i < n) : gi ((List.range n).map f) i = f i := by
  simp only [gi, Int.toNat_natCast, List.getD_eq_getElem?_getD, List.getElem?_map]
  rw [List.getElem?_range h]; rfl
theorem past_hot {c : Cu} (coal want : List Int) (s : Sc) {i : Nat} (hi : (i : Int) ≤ c.last) : gi (sPast c coal want s).hot i = (sHeat c s coal want i).tdiv c.per := by
  rw [sPast, (sPlay_hot c s coal want _).1, gi_map (by omega)]
theorem dec_not (x : Bool) : decide (false = x) = !x := by cases x <;> rfl
theorem past_whole {c : Cu} (coal want : List Int) (s : Sc) : ((sPast c coal want s).kept.any fun y => decide (false = y)) = !((List.range (c.last + 1).toNat).all fun (i : Nat) => decide (gi want i ≤ (sHeat c s coal want i).tdiv c.per)) := by
  rw [sPast, (sPlay_hot c s coal want _).2.2, List.any_map, List.not_all_eq_any_not]
  congr 1
  funext i
  simp only [Function.comp]
  exact dec_not _
/-! ### all readings are right -/
theorem bitsI_full (f : Nat → Bool) : ∀ n, bitsI f n = 2 ^ n - 1 ↔ ∀ i, i < n → f i = true
  | 0 => by simp [bitsI]
  | n + 1 => by
    have ih := bitsI_full f n
    have hb := bitsI_le f n
    have e : (2 : Int) ^ (n + 1) = 2 ^ n + 2 ^ n := by rw [Int.pow_succ]; omega
    simp only [bitsI]
    constructor
    · intro h i hi
      by_cases hf : f n = true
      · rw [if_pos hf] at h
        rcases Nat.lt_succ_iff_lt_or_eq.1 hi with h1 | rfl
        · exact ih.1 (by omega) i h1
        · exact hf
      · rw [if_neg hf] at h; omega
    · intro h
      rw [if_pos (h n (by omega)), ih.2 fun i hi => h i (by omega)]
      omega
theorem rOk_eq {c : Cu} (k0 : CuOk c) (t : Tr2) {i : Nat} (hi : i < c.readings.length) : sRead1 c (tS t) [] i = rOk c t i := by
  have hr := k0.hours _ (List.mem_of_getElem? (gD_get (l := c.readings) (i := i) (by omega)))
  have := past_hot c.coal c.want (tS t) (c := c) (i := (gD c.readings i).hour.toNat) (by omega)
  rw [show (((gD c.readings i).hour.toNat : Nat) : Int) = (gD c.readings i).hour by omega, sPast] at this
  simp only [sRead1, List.any_nil, Bool.false_or, rOk, this]
theorem right_iff {c : Cu} (k0 : CuOk c) (t : Tr2) : rRight c t = rFull c ↔ sRight c (tS t) [] = true := by
  rw [rRight, rFull, bitsI_full]
  simp only [sRight, List.all_eq_true, List.mem_range]
  exact ⟨fun h i hi => by rw [rOk_eq k0 t hi]; exact h i hi, fun h i hi => by rw [← rOk_eq k0 t hi]; exact h i hi⟩
/-! ### the same truths -/
theorem ask_all (c : Cu) (l : List Sc) : ∀ (tr : List Sc), (∀ s ∈ tr, s ∈ (runAll (askStep c) l tr).2) ∧ ∀ s ∈ l, sRight c s [] = true → s ∈ (runAll (askStep c) l tr).2 := by
  induction l with
  | nil => intro tr; exact ⟨fun s hs => hs, fun s hs => by cases hs⟩
  | cons x l ih =>
    intro tr
    obtain ⟨i1, i2⟩ := ih (askAdd c x tr)
    have hsub : ∀ s ∈ tr, s ∈ askAdd c x tr := fun s hs => by
      unfold askAdd; split
      · simp [hs]
      · exact hs
    refine ⟨fun s hs => i1 s (hsub s hs), fun s hs hr => ?_⟩
    rcases List.mem_cons.1 hs with rfl | hs
    · refine i1 s ?_
      unfold askAdd; split
      · simp
      · rename_i hn
        have : tr.getLast? = some s := by
          cases h : decide (tr.getLast? = some s) with
          | true => simpa using h
          | false => exact absurd ⟨hr, by simpa using h⟩ hn
        exact List.mem_of_getLast? this
    · exact i2 s hs hr
theorem mem_sTruth (c : Cu) (s : Sc) : s ∈ sTruth c ↔ s ∈ truths c ∧ sRight c s [] = true := by
  constructor
  · intro h
    rcases ask_mem c (truths c) [] s h with h | h
    · cases h
    · exact h
  · rintro ⟨h1, h2⟩
    exact (ask_all c (truths c) []).2 s h1 h2
theorem mem_rTruths (c : Cu) (t : Tr2) : t ∈ rTruths c ↔ (∃ n : Nat, n < (rMany c).toNat ∧ rNth c n = t) ∧ rRight c t = rFull c := by
  simp only [rTruths, rTr, List.mem_filter, List.mem_map, List.mem_range, rIs, decide_eq_true_eq]
theorem mem_rTruths' {c : Cu} (k0 : CuOk c) (t : Tr2) : t ∈ rTruths c ↔ Listed c t ∧ sRight c (tS t) [] = true := by
  rw [mem_rTruths, right_iff k0]
  constructor
  · rintro ⟨⟨n, _, rfl⟩, h⟩
    exact ⟨nth_listed k0 (by omega), h⟩
  · rintro ⟨h1, h2⟩
    obtain ⟨n, h3, h4⟩ := nth_surj k0 h1
    exact ⟨⟨n, by omega, h4⟩, h2⟩
theorem same_truths {c : Cu} (k0 : CuOk c) (s : Sc) : s ∈ sTruth c ↔ ∃ t ∈ rTruths c, s = tS t := by
  rw [mem_sTruth, mem_truths k0]
  constructor
  · rintro ⟨⟨t, h1, rfl⟩, h2⟩
    exact ⟨t, (mem_rTruths' k0 t).2 ⟨h1, h2⟩, rfl⟩
  · rintro ⟨t, h1, rfl⟩
    obtain ⟨h2, h3⟩ := (mem_rTruths' k0 t).1 h1
    exact ⟨⟨t, h2, rfl⟩, h3⟩
theorem same_nil {c : Cu} (k0 : CuOk c) : sTruth c = [] ↔ rTruths c = [] := by
  constructor
  · intro h
    cases hr : rTruths c with
    | nil => rfl
    | cons t l =>
      have := (same_truths k0 (tS t)).2 ⟨t, by rw [hr]; simp, rfl⟩
      rw [h] at this; cases this
  · intro h
    cases hr : sTruth c with
    | nil => rfl
    | cons s l =>
      obtain ⟨t, ht, _⟩ := (same_truths k0 s).1 (by rw [hr]; simp)
      rw [h] at ht; cases ht
/-! ### the bounds are the same -/
theorem fold_wider : ∀ (l : List Int) (r : Rg), (l.foldl sWider r).lo ≤ r.lo ∧ (∀ x ∈ l, (l.foldl sWider r).lo ≤ x) ∧ ((l.foldl sWider r).lo = r.lo ∨ (l.foldl sWider r).lo ∈ l) ∧
    r.hi ≤ (l.foldl sWider r).hi ∧ (∀ x ∈ l, x ≤ (l.foldl sWider r).hi) ∧ ((l.foldl sWider r).hi = r.hi ∨ (l.foldl sWider r).hi ∈ l)
  | [], r => ⟨Int.le_refl _, by simp, .inl rfl, Int.le_refl _, by simp, .inl rfl⟩
  | n :: l, r => by
    obtain ⟨h1, h2, h3, h4, h5, h6⟩ := fold_wider l (sWider r n)
    simp only [List.foldl_cons]
    have a1 : (sWider r n).lo = min r.lo n := rfl
    have a2 : (sWider r n).hi = max r.hi n := rfl
    rw [a1] at h1 h3
    rw [a2] at h4 h6
    refine ⟨by omega, ?_, ?_, by omega, ?_, ?_⟩
    · intro x hx
      rcases List.mem_cons.1 hx with rfl | hx
      · omega
      · exact h2 x hx
    · rcases h3 with h | h
      · by_cases hc : r.lo ≤ n
        · exact .inl (by omega)
        · exact .inr (by simp; left; omega)
      · exact .inr (by simp [h])
    · intro x hx
      rcases List.mem_cons.1 hx with rfl | hx
      · omega
      · exact h5 x hx
    · rcases h6 with h | h
      · by_cases hc : n ≤ r.hi
        · exact .inl (by omega)
        · exact .inr (by simp; left; omega)
      · exact .inr (by simp [h])
end Go.Vm

set_option linter.unusedVariables false
set_option linter.unusedSimpArgs false
namespace Go.Vm
/-! ### verdicts are the same -/
theorem sVerdict_01 {α : Type} (p : α → Bool) {l : List α} (hne : l ≠ []) : sVerdict (sBounds (l.map fun s => if p s = true then 1 else 0)) = if l.all p then 1 else if l.any p then 3 else 2 := by
  have hm : ∀ x ∈ l.map (fun s => if p s = true then (1 : Int) else 0), x = 0 ∨ x = 1 := fun x hx => by
    obtain ⟨s, _, rfl⟩ := List.mem_map.1 hx
    by_cases h : p s = true <;> simp [h]
  have hone : (1 : Int) ∈ l.map (fun s => if p s = true then (1 : Int) else 0) ↔ l.any p = true := by
    simp only [List.mem_map, List.any_eq_true]
    constructor
    · rintro ⟨s, h1, h2⟩
      refine ⟨s, h1, ?_⟩
      by_cases h : p s = true
      · exact h
      · rw [if_neg h] at h2; cases h2
    · rintro ⟨s, h1, h2⟩; exact ⟨s, h1, if_pos h2⟩
  have hzero : (0 : Int) ∈ l.map (fun s => if p s = true then (1 : Int) else 0) ↔ ¬ l.all p = true := by
    simp only [List.mem_map, List.all_eq_true]
    constructor
    · rintro ⟨s, h1, h2⟩ ha
      rw [if_pos (ha s h1)] at h2; cases h2
    · intro h
      cases hf : l.find? (fun s => !p s) with
      | some s =>
        have h1 := List.find?_some hf
        exact ⟨s, List.mem_of_find?_eq_some hf, if_neg (by simpa using h1)⟩
      | none =>
        exfalso; apply h
        intro s hs
        have := List.find?_eq_none.1 hf s hs
        simpa using this
  generalize hns : l.map (fun s => if p s = true then (1 : Int) else 0) = ns at hm hone hzero ⊢
  cases ns with
  | nil => exact absurd (List.map_eq_nil_iff.1 hns) hne
  | cons n r =>
    have e : sBounds (n :: r) = (n :: r).foldl sWider ⟨n, n⟩ := rfl
    obtain ⟨h1, h2, h3, h4, h5, h6⟩ := fold_wider (n :: r) ⟨n, n⟩
    rw [e]
    generalize (n :: r).foldl sWider ⟨n, n⟩ = A at h1 h2 h3 h4 h5 h6 ⊢
    have m1 : A.lo ∈ n :: r := by
      rcases h3 with h | h
      · simp only at h; rw [h]; simp
      · exact h
    have m2 : A.hi ∈ n :: r := by
      rcases h6 with h | h
      · simp only at h; rw [h]; simp
      · exact h
    have b1 := hm _ m1
    have b2 := hm _ m2
    by_cases ha : l.all p = true
    · have hlo : A.lo = 1 := by
        rcases b1 with b | b
        · rw [b] at m1; exact absurd ha (hzero.1 m1)
        · exact b
      rw [if_pos ha, sVerdict, if_pos (by omega)]
    · have hlo : A.lo = 0 := by
        have := h2 _ (hzero.2 ha)
        omega
      rw [if_neg ha, sVerdict, if_neg (by omega)]
      by_cases hn : l.any p = true
      · have := h5 _ (hone.2 hn)
        rw [if_pos hn, if_neg (by omega)]
      · have : A.hi = 0 := by
          rcases b2 with b | b
          · exact b
          · rw [b] at m2; exact absurd (hone.1 m2) hn
        rw [if_neg hn, if_pos this]
theorem rVerdict_count {α : Type} (q : α → Bool) {l : List α} (hne : l ≠ []) : rVerdict (l.countP q) l.length = if l.all q then 1 else if l.any q then 3 else 2 := by
  have h1 : l.countP q = l.length ↔ l.all q = true := by rw [List.countP_eq_length, List.all_eq_true]
  have h2 : l.countP q = 0 ↔ ¬ l.any q = true := by
    rw [List.countP_eq_zero, List.any_eq_true]
    exact ⟨fun h ⟨x, hx, hq⟩ => h x hx hq, fun h x hx hq => h ⟨x, hx, hq⟩⟩
  have hl : l.length ≠ 0 := fun h => hne (List.length_eq_zero_iff.1 h)
  unfold rVerdict
  by_cases ha : l.all q = true
  · rw [if_pos (by have := h1.2 ha; omega), if_pos ha]
  · rw [if_neg (fun h => ha (h1.1 (by omega))), if_neg ha]
    by_cases hn : l.any q = true
    · rw [if_neg (fun h => (h2.1 (by omega)) hn), if_pos hn]
    · rw [if_pos (by have := h2.2 hn; omega), if_neg hn]
theorem verdict_same {c : Cu} (k0 : CuOk c) (hne : sTruth c ≠ []) (p : Sc → Bool) (q : Tr2 → Bool) (h : ∀ t, p (tS t) = q t) :
    sVerdict (sBounds ((sTruth c).map fun s => if p s = true then 1 else 0)) = rVerdict ((rTruths c).countP q) (rTruths c).length := by
  have hne2 : rTruths c ≠ [] := fun e => hne ((same_nil k0).2 e)
  rw [sVerdict_01 p hne, rVerdict_count q hne2]
  have e1 : (sTruth c).all p = (rTruths c).all q := by
    rw [Bool.eq_iff_iff, List.all_eq_true, List.all_eq_true]
    constructor
    · intro ha t ht; rw [← h]; exact ha _ ((same_truths k0 _).2 ⟨t, ht, rfl⟩)
    · intro ha s hs
      obtain ⟨t, ht, rfl⟩ := (same_truths k0 s).1 hs
      rw [h]; exact ha t ht
  have e2 : (sTruth c).any p = (rTruths c).any q := by
    rw [Bool.eq_iff_iff, List.any_eq_true, List.any_eq_true]
    constructor
    · rintro ⟨s, hs, hp⟩
      obtain ⟨t, ht, rfl⟩ := (same_truths k0 s).1 hs
      exact ⟨t, ht, by rw [← h]; exact hp⟩
    · rintro ⟨t, ht, hq⟩
      exact ⟨tS t, (same_truths k0 _).2 ⟨t, ht, rfl⟩, by rw [h]; exact hq⟩
  rw [e1, e2]
/-- All promises are kept in a truth. -/
def wholeI (c : Cu) (coal want : List Int) (t : Tr2) : Bool := (List.range (c.last + 1).toNat).all fun i => keptI c coal want t i
def rWholes (c : Cu) (l : List Tr2) (coal want : List Int) : Int := rVerdict (l.countP fun t => wholeI c coal want t) l.length
theorem wholes_same {c : Cu} (k0 : CuOk c) (hne : sTruth c ≠ []) (coal want : List Int) : sVerdict (sBounds ((sTruth c).map fun s => if (sPast c coal want s).kept.any (fun y => decide (false = y)) then 0 else 1)) = rWholes c (rTruths c) coal want := by
  have e : (fun s : Sc => if (sPast c coal want s).kept.any (fun y => decide (false = y)) = true then (0 : Int) else 1) = fun s => if sKept c coal want s = true then 1 else 0 := by
    funext s
    by_cases h : ((sPast c coal want s).kept.any fun y => decide (false = y)) = true
    · have h2 : sKept c coal want s = false := by rw [sKept, h]; rfl
      rw [if_pos h, if_neg (by rw [h2]; simp)]
    · have h2 : sKept c coal want s = true := by
        rw [Bool.not_eq_true] at h
        rw [sKept, h]; rfl
      rw [if_neg h, if_pos h2]
  rw [e]
  refine verdict_same k0 hne (fun s => sKept c coal want s) (fun t => wholeI c coal want t) fun t => ?_
  simp only [sKept]
  rw [past_whole, Bool.not_not]
  rfl
/-- The numbers of two lists, added. -/
def addL (a b : List Int) : List Int := (List.range a.length).map fun (i : Nat) => gi a i + gi b i
theorem sAdd_eq {a b : List Int} : sAdd a b a.length = addL a b := by
  refine List.ext_getElem? fun j => ?_
  by_cases hj : j < a.length
  · have h1 := sAdd_get a b a.length j hj
    rw [if_pos hj] at h1
    have hl := sAdd_len a b a.length
    rw [gi_get (l := sAdd a b a.length) (by omega), h1, addL, List.getElem?_map, List.getElem?_range hj]
    rfl
  · rw [List.getElem?_eq_none (by rw [sAdd_len]; omega), List.getElem?_eq_none (by simp [addL]; omega)]
theorem with_same {c : Cu} (k0 : CuOk c) (hne : sTruth c ≠ []) {more : List Int} (hm : more.length = c.want.length) : sWith c (sTruth c) more = rWholes c (rTruths c) c.coal (addL c.want more) := by
  have := wholes_same k0 hne c.coal (addL c.want more)
  rw [← this, sWith, hm, sAdd_eq]
end Go.Vm

set_option linter.unusedVariables false
set_option linter.unusedSimpArgs false
set_option maxRecDepth 100000
namespace Go.Vm
open Go.Proofs
/-- A function that makes one block, over whatever heap. -/
theorem NewB.of {P : Program} {fv : V} {args : List V} {v : V} {j : Nat} {e : Ent} (c : Ev P fv args [] fun v' h' => v' = v ∧ h' = [(j, e)]) (hf : fv.into (fun _ => false) = true) (ha : intoL (fun _ => false) args = true) : NewB P fv args v j e := fun h2 h2j =>
  (c.frame' h2 (fun _ => rfl) (fun i e he => by cases he) hf ha rfl (fun v h' hh i e he => by
    obtain ⟨_, rfl⟩ := hh
    simp only [Heap.get] at he
    split at he
    · rename_i hi; subst hi; exact h2j
    · cases he)).mono fun v h'' hh => by
      obtain ⟨h', ⟨a, rfl⟩, rfl⟩ := hh
      exact ⟨a, fun i => by rw [Heap.get_set]; simp only [List.cons_append, List.nil_append, Heap.get]⟩
theorem Cl.new {P : Program} {tt : Tab} {fz : Nat → Bool} {cl : Cl0} {b : Frame} {N : Nat} {p : Nat → Bool} {Q : Post} {k : List Itm} {ρ : Env} {D : List Nat} {h : Heap} {all os : List Oper} {d : Option Nat} {fv : V} {args : List V} {v : V} {j : Nat} {e : Ent}
    (nb : NewB P fv args v j e) (hj : h.get j = none) (r : ∀ h', HEq' h' (h.set j e) → RL P tt fz cl b N p Q all os k (ρ.put d v) D h') : Cl P tt fz cl b N p Q all d fv args os k ρ D h :=
  Cl.mk (nb h hj) fun v' h' ⟨e1, e2⟩ => by subst e1; exact r h' e2
theorem Cl.newN {P : Program} {tt : Tab} {fz : Nat → Bool} {cl : Cl0} {b : Frame} {N : Nat} {p : Nat → Bool} {Q : Post} {k : List Itm} {ρ : Env} {D : List Nat} {h : Heap} {all os : List Oper} {d : Option Nat} {fv : V} {args : List V} {v : V} {j : Nat} {e : Ent}
    (nb : NewB P fv args v j e) (hj : h.get j = none) (r : RL P tt fz cl b N p Q all os k (ρ.put d v) D (h.set j e)) : Cl P tt fz cl b N p Q all d fv args os k ρ D h :=
  Ev.mono ((nb h hj).norm (R2 := fun v' h'' => v' = v ∧ h'' = h.set j e) fun v' h' ⟨e1, e2⟩ => ⟨h.set j e, e2, e1, rfl⟩) fun v' h' ⟨e1, e2⟩ => by
    subst e1; subst e2; exact r
section
variable {P : Program} {tt : Tab} {fz : Nat → Bool} {cl : Cl0} {b : Frame} {N : Nat} {p : Nat → Bool} {Q : Post} {k : List Itm} {ρ ρ' : Env} {D : List Nat} {h h' : Heap}
end
end Go.Vm

set_option linter.unusedVariables false
set_option linter.unusedSimpArgs false
set_option maxRecDepth 100000
namespace Go.Vm
/-! ### plain laws of one truth -/
/-- The run of other coppers with the same bounds. -/
theorem sPlay_cu (c x : Cu) (h1 : x.start = c.start) (h2 : x.most = c.most) (h3 : x.per = c.per) (s : Sc) (coal want : List Int) : ∀ n, sPlay x s coal want n = sPlay c s coal want n
  | 0 => by simp only [sPlay, h1]
  | n + 1 => by simp only [sPlay, sPlay_cu c x h1 h2 h3 s coal want n, h2, h3]
theorem sHeat_cu (c x : Cu) (h1 : x.start = c.start) (h2 : x.most = c.most) (h3 : x.per = c.per) (s : Sc) (coal want : List Int) (n : Nat) : sHeat x s coal want n = sHeat c s coal want n := by
  simp only [sHeat, sPlay_cu c x h1 h2 h3, h2]
/-- Warmer: more heat, smaller losses, more coal. -/
structure Warm (s s' : Sc) (coal coal' : List Int) (n : Nat) : Prop where
  heat : 0 ≤ s.heat ∧ s.heat ≤ s'.heat
  loss : ∀ i, i < n → gi s'.loss i ≤ gi s.loss i
  coal : ∀ i, i < n → 0 ≤ gi coal i ∧ gi coal i ≤ gi coal' i
end Go.Vm

set_option linter.unusedVariables false
set_option linter.unusedSimpArgs false
set_option maxRecDepth 100000
namespace Go.Vm
open Go.Proofs Go.ChangeShapes Go.WideShapes Go.ChangeAt Go.RowKit
/-! ### from a contract to the row -/
def gh0 (w : World) : Gh := ⟨fun _ _ => none, fun B o => w.cell? ⟨B, o, none⟩⟩
theorem VRC_of {g : Gh} {B : Nat} : ∀ {l : List V} {vs : List Value} {o : Nat}, VRL g l vs → (∀ j v, vs[j]? = some v → g.ro B (o + j) = some v) → VRC g B o l
  | [], _, _, _, _ => by simp only [VRC]
  | c :: l, vs, o, h, hv => by
    simp only [VRL] at h
    obtain ⟨v, vs', rfl, h1, h2⟩ := h
    simp only [VRC]
    refine ⟨⟨v, hv 0 v rfl, h1⟩, VRC_of h2 fun j x hx => ?_⟩
    rw [show o + 1 + j = o + (j + 1) by omega]
    exact hv (j + 1) x (by simpa using hx)
theorem VRC_append {g : Gh} {B : Nat} : ∀ {l m : List V} {o : Nat}, VRC g B o l → VRC g B (o + l.length) m → VRC g B o (l ++ m)
  | [], m, o, _, h => by simpa using h
  | c :: l, m, o, h1, h2 => by
    simp only [VRC, List.cons_append] at h1 ⊢
    exact ⟨h1.1, VRC_append h1.2 (by rw [show o + 1 + l.length = o + (c :: l).length by simp; omega]; exact h2)⟩
theorem VRL_len {g : Gh} {l : List V} {vs : List Value} (h : VRL g l vs) : l.length = vs.length := h.length.symm
section
variable {H : Type} {enc : TypeId × Value → H} {P : Program} {w : World} {base : Nat} {spare : Nat → Bool} {held : Bool} {fuel : Nat} {t : TypeId} {cs : List Value} {x : DataW H × List MemPlace}
/-- A slice that came in. -/
theorem rd_slice {α : Type} {e : TypeId} (en : α → List V) (Pa : α → Prop) (s : Nat) (ht : P.underlying t = some (.slice e)) (hs : P.cellsOf e = s) (hpos : 0 < s) (hen : ∀ a, (en a).length = s)
    (h : DataW.trod enc P w base spare held fuel t cs = some x) (he : ∀ n cs x, DataW.trod enc P w base spare held n e cs = some x → ∃ a, Pa a ∧ VRL (gh0 w) (en a) cs) :
    ∃ l : List α, (∀ a ∈ l, Pa a) ∧ l.length ≤ maxLen ∧ VRL (gh0 w) [.ro l.length (l.flatMap en)] cs := by
  rcases DataW.trod_slice ht h with ⟨rfl, _⟩ | ⟨a, len, cap, elems, rest, n, _, rfl, _, hb, hlc, hmx, hel, hat, _, _⟩
  · exact ⟨[], by simp, Nat.zero_le _, VRL.cons (by simp only [VR]; exact ⟨none, 0, rfl, Nat.le_refl _, .inl ⟨rfl, rfl⟩⟩) VRL.nil⟩
  · rw [hs] at hat
    by_cases h0 : len = 0
    · subst h0
      exact ⟨[], by simp, Nat.zero_le _, VRL.cons (by simp only [VR]; exact ⟨some a, cap, rfl, Nat.zero_le _, .inl ⟨rfl, rfl⟩⟩) VRL.nil⟩
    · have hcell : ∀ i, i < len → ∃ (c : List Value), w.cells? base (a.add (i * s)) s = some c ∧ ∃ y, DataW.trod enc P w base spare held n e c = some y := fun i hi => by
        have h1 := hat i hi
        have h2 : elems[i]? = some elems[i] := List.getElem?_eq_getElem (by omega)
        rw [h2] at h1
        simp only [Option.bind_eq_some_iff] at h1
        obtain ⟨c, h3, h4⟩ := h1
        exact ⟨c, h3, _, h4⟩
      have hcells : ∀ (b : Addr) (c : List Value), w.cells? base b s = some c → ∀ j v, c[j]? = some v → w.cell? (b.add j) = some v := fun b c hc j v hv => by
        unfold World.cells? at hc
        split at hc
        · have hl := mapM_some_length hc
          simp only [List.length_range] at hl
          have hj : j < s := by have := (List.getElem?_eq_some_iff.1 hv).1; omega
          have := mapM_some_get hc j j (by simp [hj])
          rw [this, hv]
        · cases hc
      obtain ⟨b, off, spot⟩ := a
      have hspot : spot = none := by
        obtain ⟨c, h1, y, h2⟩ := hcell 0 (by omega)
        have hl : 0 < c.length := by
          obtain ⟨a', _, ha⟩ := he n c y h2
          rw [← VRL_len ha, hen]; exact hpos
        have := hcells _ c h1 0 c[0] (List.getElem?_eq_getElem hl)
        simpa [Addr.add] using World.cell?_spot this
      subst hspot
      have build : ∀ k, k ≤ len → ∃ l : List α, (∀ a ∈ l, Pa a) ∧ l.length = k ∧ (l.flatMap en).length = k * s ∧ VRC (gh0 w) b off (l.flatMap en) := fun k => by
        induction k with
        | zero => intro _; exact ⟨[], by simp, rfl, by simp, by simp only [List.flatMap_nil, VRC]⟩
        | succ k ih =>
          intro hk
          obtain ⟨l, h1, h2, h3, h4⟩ := ih (by omega)
          obtain ⟨c, h5, y, h6⟩ := hcell k (by omega)
          obtain ⟨a', h7, h8⟩ := he n c y h6
          refine ⟨l ++ [a'], ?_, by simp [h2], ?_, ?_⟩
          · intro z hz
            simp only [List.mem_append, List.mem_singleton] at hz
            rcases hz with hz | rfl
            · exact h1 z hz
            · exact h7
          · rw [List.flatMap_append, List.length_append, h3, List.flatMap_singleton, hen, Nat.add_mul]; omega
          · rw [List.flatMap_append, List.flatMap_singleton]
            refine VRC_append h4 (VRC_of h8 fun j v hv => ?_)
            have := hcells _ c h5 j v hv
            rw [h3]
            rw [add_plain, add_plain] at this
            exact this
      obtain ⟨l, h1, h2, h3, h4⟩ := build len (Nat.le_refl _)
      refine ⟨l, h1, by omega, VRL.cons ?_ VRL.nil⟩
      simp only [VR]
      exact ⟨some ⟨b, off, none⟩, cap, by rw [h2], by omega, .inr ⟨b, off, rfl, h4⟩⟩
theorem I64_of {n : Int} (h : (Lit.int .i64 n).wf = true) : I64 n := bounds_i64 h
theorem rd_int (ht : P.underlying t = some (.int .i64)) (h : DataW.trod enc P w base spare held fuel t cs = some x) : ∃ n, I64 n ∧ VRL (gh0 w) [vi n] cs := by
  obtain ⟨n, rfl, _, h2⟩ := DataW.trod_int ht h
  exact ⟨n, I64_of h2, VRL.cons (by simp only [VR]) VRL.nil⟩
theorem rd_ints (ht : P.underlying t = some (.slice 3)) (hi : P.underlying 3 = some (.int .i64)) (hc : P.cellsOf 3 = 1) (h : DataW.trod enc P w base spare held fuel t cs = some x) :
    ∃ l : List Int, (∀ n ∈ l, I64 n) ∧ l.length ≤ maxLen ∧ VRL (gh0 w) [vI l] cs := by
  obtain ⟨l, h1, h2, h3⟩ := rd_slice (fun n : Int => [vi n]) I64 1 ht hc (by omega) (fun _ => rfl) h fun n cs x h => rd_int hi h
  have e : l.flatMap (fun n : Int => [vi n]) = cI l := by
    clear h1 h2 h3
    induction l with
    | nil => rfl
    | cons y l ih => simp only [List.flatMap_cons, cI, List.map_cons, List.singleton_append] at ih ⊢; rw [ih]
  rw [e] at h3
  exact ⟨l, h1, h2, h3⟩
end
section
variable {H : Type} {enc : TypeId × Value → H} {w : World} {base : Nat} {spare : Nat → Bool} {held : Bool} {fuel : Nat} {cs : List Value} {x : DataW H × List MemPlace}
def Rg.ok (r : Rg) : Prop := I64 r.lo ∧ I64 r.hi
def Rd.ok (r : Rd) : Prop := I64 r.hour ∧ r.b.ok
/-- What is known of coppers that came in. -/
structure Cu.ok (c : Cu) : Prop where
  last : I64 c.last
  start : I64 c.start
  most : I64 c.most
  per : I64 c.per
  shovels : I64 c.shovels
  coal : ∀ n ∈ c.coal, I64 n
  want : ∀ n ∈ c.want, I64 n
  heat : c.heat.ok
  loss : ∀ r ∈ c.loss, r.ok
  readings : ∀ r ∈ c.readings, r.ok
end
end Go.Vm

set_option linter.unusedVariables false
set_option linter.unusedSimpArgs false
set_option maxRecDepth 100000
namespace Go.Vm
open Go.Proofs Go.ChangeShapes Go.WideShapes Go.ChangeAt Go.RowKit
theorem VRL.one {g : Gh} {c : V} {v : Value} (h : VRL g [c] [v]) : VR g c v := by
  simp only [VRL] at h
  obtain ⟨x, l, e, h1, h2⟩ := h
  injection e with e1 e2
  subst e1; exact h1
def cW16 (l : List Int) : List V := l.map fun n => .int .u16 n
def vW (l : List Int) : V := .ro l.length (cW16 l)
def Tr2.ok (t : Tr2) : Prop := I64 t.heat ∧ ∀ n ∈ t.loss, I64 n
section
variable {H : Type} {enc : TypeId × Value → H} {w : World} {base : Nat} {spare : Nat → Bool} {held : Bool} {fuel : Nat} {cs : List Value} {x : DataW H × List MemPlace}
theorem rd_ints1 (h : DataW.trod enc Try.prog w base spare held fuel 22 cs = some x) : ∃ l : List Int, (∀ n ∈ l, I64 n) ∧ VRL (gh0 w) [vI l] cs := by
  obtain ⟨l, h1, _, h3⟩ := rd_ints Try.underlying22 Try.underlying3 (by kernel_rfl) h
  exact ⟨l, h1, h3⟩
theorem rd_u8 (h : DataW.trod enc Try.prog w base spare held fuel 5 cs = some x) : ∃ n : Int, (0 ≤ n ∧ n ≤ 255) ∧ VRL (gh0 w) [.int .u8 n] cs := by
  obtain ⟨n, rfl, _, h2⟩ := DataW.trod_int Try.underlying5 h
  exact ⟨n, bounds_u8 h2, VRL.cons (by simp only [VR]) VRL.nil⟩
end
end Go.Vm

set_option linter.unusedVariables false
set_option linter.unusedSimpArgs false
set_option maxRecDepth 100000
namespace Go.Vm
open Go.Proofs
/-! ### sets of readings, by bits -/
/-! ### before, shorter -/
def lBefore : List Int → List Int → Bool
  | [], b => decide (0 < b.length)
  | _ :: _, [] => false
  | x :: a, y :: b => if x = y then lBefore a b else decide (x < y)
end Go.Vm

set_option linter.unusedVariables false
set_option linter.unusedSimpArgs false
set_option maxRecDepth 100000
namespace Go.Vm
theorem gi_nI {n : Int} {f : Int → Int} {i : Nat} (h : (i : Int) < n) : gi (nI n f) i = f i := by
  simp only [gi, nI, Int.toNat_natCast, List.getD_eq_getElem?_getD, List.getElem?_map]
  rw [List.getElem?_range (by omega)]; rfl
theorem nI_len' (n : Int) (f : Int → Int) : ((nI n f).length : Int) = ((n.toNat : Nat) : Int) := by simp [nI]
end Go.Vm

set_option linter.unusedVariables false
set_option linter.unusedSimpArgs false
set_option maxRecDepth 100000
namespace Go.Vm
/-! ### the least coal: the program's search and the reference's are the same -/
def digs (s : Int) : Nat → List (List Int)
  | 0 => [[]]
  | k + 1 => (rangeI 0 s).flatMap fun n => (digs s k).map (n :: ·)
theorem lBefore_asymm : ∀ {a b : List Int}, lBefore a b = true → lBefore b a = false
  | [], [], h => by simp [lBefore] at h
  | [], _ :: _, _ => rfl
  | _ :: _, [], h => by simp [lBefore] at h
  | x :: a, y :: b, h => by
    simp only [lBefore] at h ⊢
    by_cases e : x = y
    · rw [if_pos e] at h; rw [if_pos e.symm]; exact lBefore_asymm h
    · rw [if_neg e] at h; rw [if_neg (Ne.symm e)]; simp at h ⊢; omega
structure IsLeast (s : Int) (k : Nat) (P : List Int → Bool) (l : List Int) : Prop where
  mem : l ∈ digs s k
  is : P l = true
  min : ∀ x ∈ digs s k, P x = true → l.sum < x.sum ∨ (l.sum = x.sum ∧ (l = x ∨ lBefore l x = true))
theorem IsLeast.one {s : Int} {k : Nat} {P : List Int → Bool} {a b : List Int} (ha : IsLeast s k P a) (hb : IsLeast s k P b) : a = b := by
  rcases ha.min b hb.mem hb.is with h | ⟨h, e | e⟩
  · rcases hb.min a ha.mem ha.is with h2 | ⟨h2, _⟩ <;> omega
  · exact e
  · rcases hb.min a ha.mem ha.is with h2 | ⟨h2, e2 | e2⟩
    · omega
    · exact e2.symm
    · rw [lBefore_asymm e] at e2; simp at e2
/-! the reference's numbers of coal, in order -/
end Go.Vm

set_option linter.unusedVariables false
set_option linter.unusedSimpArgs false
set_option maxRecDepth 100000
namespace Go.Vm
/-! ### fewer promises, more coal -/
theorem wholes_one {c : Cu} {l : List Tr2} {coal want : List Int} (hne : l ≠ []) : rWholes c l coal want = 1 ↔ ∀ t ∈ l, wholeI c coal want t = true := by
  rw [rWholes, rVerdict_count _ hne, ← List.all_eq_true]
  cases l.all fun t => wholeI c coal want t with
  | true => simp
  | false => cases l.any fun t => wholeI c coal want t <;> simp
end Go.Vm

set_option linter.unusedVariables false
set_option linter.unusedSimpArgs false
set_option maxRecDepth 100000
namespace Go.Vm
/-! ### fewer truths -/
/-- The same hours, coal and promises; each truth of x is one of c. -/
structure SubT (x c : Cu) : Prop where
  last : x.last = c.last
  start : x.start = c.start
  most : x.most = c.most
  per : x.per = c.per
  coal : x.coal = c.coal
  want : x.want = c.want
  sub : ∀ t ∈ rTruths x, t ∈ rTruths c
theorem SubT.heat {x c : Cu} (S : SubT x c) (t : Tr2) (coal want : List Int) (i : Nat) : sHeat x (tS t) coal want i = sHeat c (tS t) coal want i := sHeat_cu c x S.start S.most S.per _ _ _ _
theorem SubT.kept {x c : Cu} (S : SubT x c) (coal want : List Int) (t : Tr2) (i : Nat) : keptI x coal want t i = keptI c coal want t i := by
  simp only [keptI, S.heat, S.per]
theorem SubT.whole {x c : Cu} (S : SubT x c) (coal want : List Int) (t : Tr2) : wholeI x coal want t = wholeI c coal want t := by
  simp only [wholeI, S.kept, S.last]
theorem SubT.hot {x c : Cu} (S : SubT x c) (t : Tr2) (i : Nat) : hotI x t i = hotI c t i := by
  simp only [hotI, S.coal, S.want, S.heat, S.per]
theorem SubT.left {x c : Cu} (S : SubT x c) (t : Tr2) (i : Nat) : leftI x t i = leftI c t i := by
  simp only [leftI, S.coal, S.want, sPlay_cu c x S.start S.most S.per]
theorem SubT.wholes {x c : Cu} (S : SubT x c) (hne : rTruths x ≠ []) {coal want : List Int} (h : rWholes c (rTruths c) coal want = 1) : rWholes x (rTruths x) coal want = 1 := by
  have hnc : rTruths c ≠ [] := fun e => by
    obtain ⟨y, hy⟩ := List.exists_mem_of_ne_nil _ hne
    have := S.sub y hy
    rw [e] at this; simp at this
  rw [wholes_one hnc] at h
  rw [wholes_one hne]
  intro t ht
  rw [S.whole]
  exact h t (S.sub t ht)
/-- What Spare returns. -/
theorem spare_some {c : Cu} {hour : Int} (h : sIn hour 0 c.last = true) (h0 : sAsked c true = 0) : (∃ s : Int, sSpareA c hour = (s, 0) ∧ 0 ≤ s ∧ s ≤ 20 ∧ sWith c (sTruth c) (moreAt c hour s) = 1 ∧ ∀ m, s < m → m ≤ 20 → sWith c (sTruth c) (moreAt c hour m) ≠ 1) ∨ (sSpareA c hour = (0, 10) ∧ ∀ m, 0 ≤ m → m ≤ 20 → sWith c (sTruth c) (moreAt c hour m) ≠ 1) := by
  unfold sSpareA
  rw [h, if_pos h0]
  cases hf : (List.range 21).find? fun (j : Nat) => decide (sWith c (sTruth c) (moreAt c hour (20 - j)) = 1) with
  | some j =>
    rw [List.find?_eq_some_iff_getElem] at hf
    obtain ⟨h1, i, hi, h2, h3⟩ := hf
    simp only [List.length_range] at hi
    simp only [List.getElem_range] at h2 h3
    subst h2
    refine .inl ⟨20 - (i : Int), rfl, by omega, by omega, by simpa using h1, fun m hm hm2 => ?_⟩
    have := h3 (20 - m).toNat (by omega)
    rw [show (20 : Int) - ((20 - m).toNat : Int) = m by omega] at this
    simpa using this
  | none =>
    rw [List.find?_eq_none] at hf
    refine .inr ⟨rfl, fun m hm hm2 => ?_⟩
    have := hf (20 - m).toNat (by simp; omega)
    rw [show (20 : Int) - ((20 - m).toNat : Int) = m by omega] at this
    simpa using this
theorem moreAt_cu {x c : Cu} (h : x.last = c.last) (hour n : Int) : moreAt x hour n = moreAt c hour n := by simp only [moreAt, h]
theorem SubT.with {x c : Cu} (S : SubT x c) (X : AskOk x true) (A : AskOk c true) {more : List Int} (hm : more.length = c.want.length) (h : sWith c (sTruth c) more = 1) : sWith x (sTruth x) more = 1 := by
  have hne : rTruths x ≠ [] := fun e => X.ne ((same_nil X.k0).2 e)
  rw [with_same A.k0 A.ne hm] at h
  rw [with_same X.k0 X.ne (by rw [S.want]; exact hm), S.want, S.coal]
  exact S.wholes hne h
theorem SubT.spare {x c : Cu} (S : SubT x c) (X : AskOk x true) (A : AskOk c true) (hx : sAsked x true = 0) (hc : sAsked c true = 0) {hour : Int} (h : sIn hour 0 c.last = true) :
    ((sSpareA c hour).2 = 0 ∧ (sSpareA x hour).2 = 0 ∧ (sSpareA c hour).1 ≤ (sSpareA x hour).1) ∨ ((sSpareA c hour).2 = 10 ∧ ((sSpareA x hour).2 = 0 ∨ (sSpareA x hour).2 = 10)) := by
  have hlen : ∀ n, (moreAt c hour n).length = c.want.length := fun n => by have := A.k0.want.1; have := A.k0.last; rw [moreAt_len]; omega
  rcases spare_some h hc with ⟨s, e, s0, s20, w, _⟩ | ⟨e, _⟩
  · rcases spare_some (c := x) (by rw [S.last]; exact h) hx with ⟨s', e', s0', s20', w', hn⟩ | ⟨e', hn⟩
    · left
      rw [e, e']
      refine ⟨rfl, rfl, ?_⟩
      simp only
      by_cases hlt : s' < s
      · have := hn s hlt s20
        rw [moreAt_cu S.last] at this
        exact absurd (S.with X A (hlen s) w) this
      · omega
    · have := hn s s0 s20
      rw [moreAt_cu S.last] at this
      exact absurd (S.with X A (hlen s) w) this
  · right
    rcases spare_some (c := x) (by rw [S.last]; exact h) hx with ⟨s', e', _⟩ | ⟨e', _⟩
    · rw [e, e']; exact ⟨rfl, .inl rfl⟩
    · rw [e, e']; exact ⟨rfl, .inr rfl⟩
/-! which readings are left out -/
end Go.Vm

set_option linter.unusedVariables false
set_option linter.unusedSimpArgs false
set_option maxRecDepth 100000
namespace Go.Vm
/-! ### more promised -/
theorem gi_zeros (n : Nat) (i : Int) : gi (List.replicate n 0) i = 0 := by
  simp only [gi, List.getD_eq_getElem?_getD, List.getElem?_replicate]
  split <;> rfl
end Go.Vm

set_option linter.unusedVariables false
set_option linter.unusedSimpArgs false
set_option maxRecDepth 100000
namespace Go.Vm
theorem list_ext {a b : List Int} (hl : a.length = b.length) (h : ∀ i : Nat, i < a.length → gi a i = gi b i) : a = b := by
  apply List.ext_getElem?
  intro j
  by_cases hj : j < a.length
  · rw [gi_get (l := a) (by omega), gi_get (l := b) (by omega), h j hj]
  · rw [List.getElem?_eq_none (by omega), List.getElem?_eq_none (by omega)]
/-! ### bath: what the program computes, in plain words -/
structure Rm where
  cu : Cu
  bu : Int
  pl : Int
  ba : List Rg
deriving DecidableEq
def Rm.cs (r : Rm) : List V := [vi r.cu.last, vi r.cu.start, vi r.cu.most, vi r.cu.per, vi r.cu.shovels, vI r.cu.coal, vI r.cu.want, vi r.cu.heat.lo, vi r.cu.heat.hi, vR r.cu.loss, vD r.cu.readings, vi r.bu, vi r.pl, vR r.ba]
structure Rm.wf (r : Rm) : Prop where
  cu : r.cu.wf
  ba : (r.ba.length : Int) ≤ 1000000
def sValid (r : Rm) (b : Rg) : Bool := decide (0 ≤ b.lo) && (decide (b.lo ≤ b.hi) && decide (b.hi ≤ r.cu.last))
def sCheckR (r : Rm) : Int :=
  if sAsked r.cu true ≠ 0 then sAsked r.cu true
  else if 5 < r.pl ∨ 5 < (r.ba.length : Int) then 3
  else if (decide (r.pl < 0) || (!sIn r.bu 1 9 || !r.ba.all (sValid r))) = true then 1 else 0
/-- The buckets of so many baths. -/
def nb (r : Rm) (n : List Int) : List Int := nI (r.cu.last + 1) fun h => r.bu * gi n h
def sRoom (r : Rm) (h : Nat) (b : Int) : Bool := decide (b = 0) || (decide (b ≤ r.pl) && decide (gi r.cu.want h + r.bu * b ≤ 20))
def sPossN (r : Rm) (n : List Int) : Bool := (List.range (r.cu.last + 1).toNat).all fun h => sRoom r h (gi n h)
def keU (u : Int) : Int := if u = 1 then 1 else if u = 2 then 2 else 3
def keV (r : Rm) (n : List Int) : Int := keU (sMoreA r.cu (nb r n)).1
def sSureN (r : Rm) (n : List Int) : Bool := sPossN r n && decide (keV r n = 1)
def sAre (r : Rm) (plan : List Int) : Bool := decide (plan.length = r.ba.length) && (List.range r.ba.length).all fun i => sIn (gi plan i) (gR r.ba i).lo (gR r.ba i).hi
def inc (n : List Int) (h : Int) : List Int := n.set h.toNat (gi n h + 1)
def addC (n plan : List Int) : List Int := plan.foldl inc n
def cntN (plan : List Int) : List Int := addC zL plan
/-- The error of a plan. -/
def sPlanned (r : Rm) (plan : List Int) (fine : Bool) : Int :=
  if sCheckR r ≠ 0 then sCheckR r else if (!sAre r plan || !fine) = true then 2 else if sPossN r (cntN plan) = false then 9 else 0
/-- All plans of the baths from one on, but some. -/
def outB (out : List Int) (i : Nat) : Bool := out.any fun y => decide ((i : Int) = y)
def genB (r : Rm) (out : List Int) : Nat → Nat → List Int → List Int → List (List Int × List Int)
  | 0, i, plan, n => [(plan, n)]
  | k + 1, i, plan, n =>
    if outB out i = true then genB r out k (i + 1) plan n
    else (rangeI (gR r.ba i).lo (gR r.ba i).hi).flatMap fun h => if sPossN r (inc n h) = true then genB r out k (i + 1) (plan ++ [h]) (inc n h) else []
def plL (r : Rm) (out : List Int) : List (List Int) := ((genB r out r.ba.length 0 [] zL).filter fun x => sSureN r x.2).map (·.1)
def allP (r : Rm) (out : List Int) : Nat → Nat → List (List Int)
  | 0, i => [[]]
  | k + 1, i => if outB out i = true then allP r out k (i + 1) else (rangeI (gR r.ba i).lo (gR r.ba i).hi).flatMap fun h => (allP r out k (i + 1)).map (h :: ·)
structure RmOk (r : Rm) : Prop where
  ask : sAsked r.cu true = 0
  A : AskOk r.cu true
  pl : 0 ≤ r.pl ∧ r.pl ≤ 5
  bu : 1 ≤ r.bu ∧ r.bu ≤ 9
  len : r.ba.length ≤ 5
  ba : ∀ b ∈ r.ba, 0 ≤ b.lo ∧ b.lo ≤ b.hi ∧ b.hi ≤ r.cu.last
theorem rmOk_of {r : Rm} (h : sCheckR r = 0) : RmOk r := by
  unfold sCheckR at h
  split at h
  · rename_i h1; exact absurd h h1
  · rename_i h1
    have h1 : sAsked r.cu true = 0 := by omega
    split at h
    · cases h
    · rename_i h2
      split at h
      · cases h
      · rename_i h3
        simp only [Bool.or_eq_true, decide_eq_true_eq, Bool.not_eq_true', sIn, Bool.and_eq_false_iff, decide_eq_false_iff_not] at h3
        have h4 : r.ba.all (sValid r) = true := by
          cases hh : r.ba.all (sValid r) with
          | true => rfl
          | false => exact absurd (.inr (.inr hh)) h3
        rw [List.all_eq_true] at h4
        refine ⟨h1, askOk_of h1, by omega, by omega, by omega, fun b hb => ?_⟩
        have := h4 b hb
        simp only [sValid, Bool.and_eq_true, decide_eq_true_eq] at this
        omega
theorem RmOk.wf {r : Rm} (k : RmOk r) : r.wf := ⟨k.A.k0.wf, by have := k.len; omega⟩
theorem inc_len (n : List Int) (h : Int) : (inc n h).length = n.length := by simp [inc]
theorem addC_len (plan : List Int) : ∀ n, (addC n plan).length = n.length := by
  induction plan with
  | nil => intro n; rfl
  | cons x p ih => intro n; rw [addC, List.foldl_cons, ← addC, ih, inc_len]
theorem inc_gi {n : List Int} {h : Int} (h0 : 0 ≤ h) (hl : h < n.length) (i : Nat) : gi (inc n h) i = gi n i + (if (i : Int) = h then 1 else 0) := by
  rw [inc]
  by_cases e : (i : Int) = h
  · subst e
    rw [if_pos rfl, Int.toNat_natCast, gi_set_self _ (by omega)]
  · rw [if_neg e, gi_set_ne _ (by omega)]; omega
theorem addC_gi : ∀ (plan n : List Int), (∀ h ∈ plan, 0 ≤ h ∧ h < n.length) → ∀ i : Nat, gi (addC n plan) i = gi n i + (plan.countP fun h => decide ((i : Int) = h))
  | [], n, _, i => by simp [addC]
  | x :: p, n, hp, i => by
    have h1 := hp x (by simp)
    have ih := addC_gi p (inc n x) (fun h hh => by rw [inc_len]; exact hp h (by simp [hh])) i
    rw [addC, List.foldl_cons, ← addC, ih, inc_gi h1.1 h1.2, List.countP_cons]
    by_cases e : (i : Int) = x
    · simp [e]; omega
    · simp [e]
/-- More baths are possible only if fewer are. -/
theorem room_mono {r : Rm} (k : RmOk r) {h : Nat} (hh : (h : Int) ≤ r.cu.last) {a b : Int} (h0 : 0 ≤ a) (hab : a ≤ b) (hr : sRoom r h b = true) : sRoom r h a = true := by
  simp only [sRoom, Bool.or_eq_true, Bool.and_eq_true, decide_eq_true_eq] at hr ⊢
  rcases hr with h1 | ⟨h1, h2⟩
  · left; omega
  · right
    have hb := k.bu
    have := Int.mul_le_mul_of_nonneg_left hab (show 0 ≤ r.bu by omega)
    omega
theorem poss_le {r : Rm} (k : RmOk r) {a b : List Int} (h : ∀ i : Nat, (i : Int) ≤ r.cu.last → 0 ≤ gi a i ∧ gi a i ≤ gi b i) (hp : sPossN r b = true) : sPossN r a = true := by
  have hl := k.A.k0.last
  rw [sPossN, List.all_eq_true] at hp ⊢
  intro i hi
  have hi2 : (i : Int) ≤ r.cu.last := by have := List.mem_range.1 hi; omega
  exact room_mono k hi2 (h i hi2).1 (h i hi2).2 (hp i hi)
/-- What possible numbers take can be promised. -/
theorem nb_gi {r : Rm} {n : List Int} {i : Nat} (hi : (i : Int) ≤ r.cu.last) : gi (nb r n) i = r.bu * gi n i := by
  rw [nb, gi_nI (by omega)]
theorem nb_len {r : Rm} (k : RmOk r) (n : List Int) : ((nb r n).length : Int) = r.cu.last + 1 := by
  have := k.A.k0.last
  rw [nb, nI_len']; omega
theorem RmOk.ne {r : Rm} (k : RmOk r) : rTruths r.cu ≠ [] := fun e => k.A.ne ((same_nil k.A.k0).2 e)
/-! the program's plans, without the short cuts -/
theorem addC_ge : ∀ (plan n : List Int), (∀ h ∈ plan, 0 ≤ h ∧ h < n.length) → ∀ i : Nat, gi n i ≤ gi (addC n plan) i := fun plan n hp i => by
  rw [addC_gi plan n hp i]; omega
theorem allP_mem {r : Rm} (k : RmOk r) {out : List Int} : ∀ {m i : Nat}, i + m ≤ r.ba.length → ∀ p ∈ allP r out m i, ∀ h ∈ p, 0 ≤ h ∧ h ≤ r.cu.last
  | 0, i, _, p, hp, h, hh => by simp only [allP, List.mem_singleton] at hp; subst hp; cases hh
  | m + 1, i, hm, p, hp, h, hh => by
    rw [allP] at hp
    split at hp
    · exact allP_mem k (by omega) p hp h hh
    · simp only [List.mem_flatMap, List.mem_map] at hp
      obtain ⟨x, hx, q, hq, rfl⟩ := hp
      have hx := mem_rangeI.1 hx
      have hb := k.ba (gR r.ba i) (List.mem_of_getElem? (gR_get (i := i) (by omega)))
      rcases List.mem_cons.1 hh with rfl | hh
      · omega
      · exact allP_mem k (by omega) q hq h hh
theorem gen_all {r : Rm} (k : RmOk r) (out : List Int) : ∀ (m i : Nat) (plan n : List Int), i + m ≤ r.ba.length → n.length = 5 → (∀ j : Nat, 0 ≤ gi n j) →
    ((genB r out m i plan n).filter fun x => sSureN r x.2).map (·.1) = ((allP r out m i).filter fun p => sSureN r (addC n p)).map (plan ++ ·)
  | 0, i, plan, n, _, _, _ => by
    simp only [genB, allP, addC]
    cases h : sSureN r n <;> simp [h]
  | m + 1, i, plan, n, hm, hn, h0 => by
    rw [genB, allP]
    split
    · exact gen_all k out m (i + 1) plan n (by omega) hn h0
    · rw [List.filter_flatMap, List.map_flatMap, List.filter_flatMap, List.map_flatMap]
      simp only [List.flatMap_def]
      congr 1
      apply List.map_congr_left
      intro h hh
      have hh := mem_rangeI.1 hh
      have hb := k.ba (gR r.ba i) (List.mem_of_getElem? (gR_get (i := i) (by omega)))
      have hl := k.A.k0.last
      have hi := inc_gi (n := n) (h := h) (by omega) (by omega)
      have e2 : (List.filter (fun p => sSureN r (addC n p)) (List.map (h :: ·) (allP r out m (i + 1)))) = (List.filter (fun p => sSureN r (addC (inc n h) p)) (allP r out m (i + 1))).map (h :: ·) := by
        rw [List.filter_map]; rfl
      rw [e2, List.map_map]
      have e3 : ((plan ++ ·) ∘ (h :: ·)) = fun p : List Int => (plan ++ [h]) ++ p := by funext p; simp
      rw [e3]
      by_cases hp : sPossN r (inc n h) = true
      · rw [if_pos hp]
        exact gen_all k out m (i + 1) (plan ++ [h]) (inc n h) (by omega) (by rw [inc_len]; exact hn) (fun j => by rw [hi]; have := h0 j; split <;> omega)
      · rw [if_neg hp]
        have : (List.filter (fun p => sSureN r (addC (inc n h) p)) (allP r out m (i + 1))) = [] := by
          rw [List.filter_eq_nil_iff]
          intro p hp2 hs
          have hpm := allP_mem k (out := out) (show (i + 1) + m ≤ r.ba.length by omega) p hp2
          simp only [sSureN, Bool.and_eq_true] at hs
          exact hp (poss_le k (fun j hj => by
            refine ⟨by rw [hi]; have := h0 j; split <;> omega, addC_ge p _ (fun y hy => by rw [inc_len, hn]; have := hpm y hy; omega) j⟩) hs.1)
        rw [this]; rfl
theorem zL_gi (i : Int) : gi zL i = 0 := gi_zeros 5 i
theorem plL_eq {r : Rm} (k : RmOk r) (out : List Int) : plL r out = (allP r out r.ba.length 0).filter fun p => sSureN r (cntN p) := by
  rw [plL, gen_all k out r.ba.length 0 [] zL (by omega) rfl (fun j => by rw [zL_gi]; omega)]
  simp only [List.nil_append, List.map_id']
  rfl
end Go.Vm

set_option linter.unusedVariables false
set_option linter.unusedSimpArgs false
set_option maxRecDepth 100000
namespace Go.Vm
open Go.Proofs
/-! ### rooms -/
theorem rm_len {r : Rm} : r.cs.length = 14 := rfl
theorem rm_take {r : Rm} : r.cs.take 14 = r.cs := rfl
theorem rm_t11 {r : Rm} : r.cs.take 11 = r.cu.cs := rfl
theorem rm_h0 {r : Rm} : r.cs.head? = some (vi r.cu.last) := rfl
theorem rm_h6 {r : Rm} : (r.cs.drop 6).head? = some (vI r.cu.want) := rfl
theorem rm_h11 {r : Rm} : (r.cs.drop 11).head? = some (vi r.bu) := rfl
theorem rm_h12 {r : Rm} : (r.cs.drop 12).head? = some (vi r.pl) := rfl
theorem rm_h13 {r : Rm} : (r.cs.drop 13).head? = some (vR r.ba) := rfl
theorem rm_h10 {r : Rm} : (r.cs.drop 10).head? = some (vD r.cu.readings) := rfl
theorem rm_g11 {r : Rm} : r.cs[11]? = some (vi r.bu) := rfl
theorem rm_g12 {r : Rm} : r.cs[12]? = some (vi r.pl) := rfl
theorem rm_g13 {r : Rm} : r.cs[13]? = some (vR r.ba) := rfl
theorem rm_one (r : Rm) : oneL r.cs = true := rfl
theorem rm_into (p : Nat → Bool) (r : Rm) : intoL p r.cs = true := by simp only [Rm.cs, V.into, intoL, vI_into, vR_into, vD_into, Bool.and_true]
theorem rms : type_of% (And.intro @rm_len (And.intro @rm_take (And.intro @rm_t11 (And.intro @rm_h0 (And.intro @rm_h6 (And.intro @rm_h11 (And.intro @rm_h12 (And.intro @rm_h13 (And.intro @rm_h10 (And.intro @rm_g11 (And.intro @rm_g12 (And.intro @rm_g13 @rm_one)))))))))))) :=
  And.intro @rm_len (And.intro @rm_take (And.intro @rm_t11 (And.intro @rm_h0 (And.intro @rm_h6 (And.intro @rm_h11 (And.intro @rm_h12 (And.intro @rm_h13 (And.intro @rm_h10 (And.intro @rm_g11 (And.intro @rm_g12 (And.intro @rm_g13 @rm_one)))))))))))
theorem c_bwithin (a b c : Int) : Pu Try.prog (.fn 22 [] []) [vi a, vi b, vi c] (.bool (sIn a b c)) := by
  refine Ev.fn Try.func22 rfl rfl (Fn.body tabOk Try.func22 rfl (Nat.le_of_ble_eq_true rfl) (Ks.ok (fz := (fzn [])) (cl := (cln [])) tabOk mixed ?_))
  generalize hQ : FnPost tt Try.f22 _ _ = Q
  simp only [Try.f22, List.nil_append, List.append_nil, argsEnv, Nat.reduceAdd]
  by_cases h : b ≤ a
  · simp only [gos, eq_self, Nat.reduceLT, Nat.reduceEqDiff, reduceCtorEq, reduceIte, ↓reduceIte, vgo, vout, vguard, callOf, vop, ev, cv, vbin, vint, isShift, isNilConst, h]
    subst hQ
    exact FnPost.plain trivial (fun h2 e => by first | rfl | (simp only [Try.f22, vres, vresL, vres1, e _, gos, if_true, if_false, ne_eq, eq_self, Nat.reduceLT, Nat.reduceEqDiff, Nat.reduceAdd, Nat.reduceMul, Nat.reduceLeDiff, Nat.reduceBEq, reduceCtorEq, reduceIte, Array.toList, ↓reduceIte, tt, vgo, vout, vgoD, voutD, vclsOk, vids, mayWrite, V.ids, V.mids, vguard, callOf, vop, ev, cv, vbin, vint, isShift, isNilConst, vnil, isNilSlice, vload, vlen, newRow, vfill, vslice, entOf, vappend, srcOf, vcopy, vlookup, vupdate, mapOk, keyOf, intsOf, clsAt]; try rfl)) (WkV.pure (by simp only [V.into])) ⟨by simp [sIn, h], rfl⟩
  · simp only [gos, eq_self, Nat.reduceLT, Nat.reduceEqDiff, reduceCtorEq, reduceIte, ↓reduceIte, vgo, vout, vguard, callOf, vop, ev, cv, vbin, vint, isShift, isNilConst, h]
    subst hQ
    exact FnPost.plain trivial (fun h2 e => by first | rfl | (simp only [Try.f22, vres, vresL, vres1, e _, gos, if_true, if_false, ne_eq, eq_self, Nat.reduceLT, Nat.reduceEqDiff, Nat.reduceAdd, Nat.reduceMul, Nat.reduceLeDiff, Nat.reduceBEq, reduceCtorEq, reduceIte, Array.toList, ↓reduceIte, tt, vgo, vout, vgoD, voutD, vclsOk, vids, mayWrite, V.ids, V.mids, vguard, callOf, vop, ev, cv, vbin, vint, isShift, isNilConst, vnil, isNilSlice, vload, vlen, newRow, vfill, vslice, entOf, vappend, srcOf, vcopy, vlookup, vupdate, mapOk, keyOf, intsOf, clsAt]; try rfl)) (WkV.pure (by simp only [V.into])) ⟨by simp [sIn, h], rfl⟩
theorem c_bmin2 (a b : Int) : Pu Try.prog (.fn 30 [] []) [.ro 2 [vi a, vi b]] (vi (min a b)) := by
  refine Ev.fn Try.func30 rfl rfl (Fn.body tabOk Try.func30 rfl (Nat.le_of_ble_eq_true rfl) (Ks.ok (fz := (fzn [])) (cl := (cln [])) tabOk mixed ?_))
  generalize hQ : FnPost tt Try.f30 _ _ = Q
  simp only [Try.f30, List.nil_append, List.append_nil, argsEnv]
  simp only [gos, eq_self, Nat.reduceLT, reduceCtorEq, reduceIte, ↓reduceIte, vgo, vout, vguard, callOf, vop, ev, cv]
  refine Cl.pu (c_Min [a, b] (by simp) (by simp)) ?_ rfl (by simp only [V.into, intoL, Bool.and_true])
  simp only [gos, eq_self, Nat.reduceLT, reduceIte, ↓reduceIte, vgo, vout, vguard, callOf, vop, ev]
  subst hQ
  exact FnPost.plain trivial (fun h2 e => by first | rfl | (simp only [Try.f30, vres, vresL, vres1, e _, gos, if_true, if_false, ne_eq, eq_self, Nat.reduceLT, Nat.reduceEqDiff, Nat.reduceAdd, Nat.reduceMul, Nat.reduceLeDiff, Nat.reduceBEq, reduceCtorEq, reduceIte, Array.toList, ↓reduceIte, tt, vgo, vout, vgoD, voutD, vclsOk, vids, mayWrite, V.ids, V.mids, vguard, callOf, vop, ev, cv, vbin, vint, isShift, isNilConst, vnil, isNilSlice, vload, vlen, newRow, vfill, vslice, entOf, vappend, srcOf, vcopy, vlookup, vupdate, mapOk, keyOf, intsOf, clsAt]; try rfl)) (WkV.pure (by simp only [V.into])) ⟨rfl, rfl⟩
theorem c_first (b : Rg) : Pu Try.prog (.fn 31 [] []) [.agg [vi b.lo, vi b.hi]] (vi b.lo) := by
  refine Ev.fn Try.func31 rfl rfl (Fn.body tabOk Try.func31 rfl (Nat.le_of_ble_eq_true rfl) (Ks.ok (fz := (fzn [])) (cl := (cln [])) tabOk mixed ?_))
  generalize hQ : FnPost tt Try.f31 _ _ = Q
  simp only [Try.f31, List.nil_append, List.append_nil, argsEnv]
  simp only [gos, eq_self, Nat.reduceLT, Nat.reduceEqDiff, reduceCtorEq, reduceIte, ↓reduceIte, tt, vgo, vout, vguard, callOf, vop, ev, cv, vload, newRow]
  subst hQ
  exact FnPost.plain trivial (fun h2 e => by first | rfl | (simp only [Try.f31, vres, vresL, vres1, e _, gos, if_true, if_false, ne_eq, eq_self, Nat.reduceLT, Nat.reduceEqDiff, Nat.reduceAdd, Nat.reduceMul, Nat.reduceLeDiff, Nat.reduceBEq, reduceCtorEq, reduceIte, Array.toList, ↓reduceIte, tt, vgo, vout, vgoD, voutD, vclsOk, vids, mayWrite, V.ids, V.mids, vguard, callOf, vop, ev, cv, vbin, vint, isShift, isNilConst, vnil, isNilSlice, vload, vlen, newRow, vfill, vslice, entOf, vappend, srcOf, vcopy, vlookup, vupdate, mapOk, keyOf, intsOf, clsAt]; try rfl)) (WkV.pure (by simp only [V.into])) ⟨rfl, rfl⟩
theorem c_last (b : Rg) : Pu Try.prog (.fn 32 [] []) [.agg [vi b.lo, vi b.hi]] (vi b.hi) := by
  refine Ev.fn Try.func32 rfl rfl (Fn.body tabOk Try.func32 rfl (Nat.le_of_ble_eq_true rfl) (Ks.ok (fz := (fzn [])) (cl := (cln [])) tabOk mixed ?_))
  generalize hQ : FnPost tt Try.f32 _ _ = Q
  simp only [Try.f32, List.nil_append, List.append_nil, argsEnv]
  simp only [gos, eq_self, Nat.reduceLT, Nat.reduceEqDiff, reduceCtorEq, reduceIte, ↓reduceIte, tt, vgo, vout, vguard, callOf, vop, ev, cv, vload, newRow]
  subst hQ
  exact FnPost.plain trivial (fun h2 e => by first | rfl | (simp only [Try.f32, vres, vresL, vres1, e _, gos, if_true, if_false, ne_eq, eq_self, Nat.reduceLT, Nat.reduceEqDiff, Nat.reduceAdd, Nat.reduceMul, Nat.reduceLeDiff, Nat.reduceBEq, reduceCtorEq, reduceIte, Array.toList, ↓reduceIte, tt, vgo, vout, vgoD, voutD, vclsOk, vids, mayWrite, V.ids, V.mids, vguard, callOf, vop, ev, cv, vbin, vint, isShift, isNilConst, vnil, isNilSlice, vload, vlen, newRow, vfill, vslice, entOf, vappend, srcOf, vcopy, vlookup, vupdate, mapOk, keyOf, intsOf, clsAt]; try rfl)) (WkV.pure (by simp only [V.into])) ⟨rfl, rfl⟩
theorem c_valid1 (r : Rm) (b : Rg) : Pu Try.prog (.fn 35 [.agg r.cs] []) [.agg [vi b.lo, vi b.hi]] (.bool (sValid r b)) := by
  refine Ev.fn Try.func35 rfl rfl (Fn.body tabOk Try.func35 rfl (Nat.le_of_ble_eq_true rfl) (Ks.ok (fz := (fzn [])) (cl := (cln [])) tabOk mixed ?_))
  generalize hQ : FnPost tt Try.f35 _ _ = Q
  simp only [Try.f35, List.nil_append, List.append_nil, List.cons_append, argsEnv, Nat.reduceAdd]
  by_cases h1 : 0 ≤ b.lo
  case neg =>
    simp only [gos, eq_self, Nat.reduceLT, Nat.reduceEqDiff, reduceCtorEq, reduceIte, ↓reduceIte, tt, vgo, vout, vguard, callOf, vop, ev, cv, vbin, vint, isShift, isNilConst, vload, newRow, h1]
    subst hQ
    exact FnPost.plain trivial (fun h2 e => by first | rfl | (simp only [Try.f35, vres, vresL, vres1, e _, gos, if_true, if_false, ne_eq, eq_self, Nat.reduceLT, Nat.reduceEqDiff, Nat.reduceAdd, Nat.reduceMul, Nat.reduceLeDiff, Nat.reduceBEq, reduceCtorEq, reduceIte, Array.toList, ↓reduceIte, tt, vgo, vout, vgoD, voutD, vclsOk, vids, mayWrite, V.ids, V.mids, vguard, callOf, vop, ev, cv, vbin, vint, isShift, isNilConst, vnil, isNilSlice, vload, vlen, newRow, vfill, vslice, entOf, vappend, srcOf, vcopy, vlookup, vupdate, mapOk, keyOf, intsOf, clsAt]; try rfl)) (WkV.pure (by simp only [V.into])) ⟨by simp [sValid, h1], rfl⟩
  by_cases h2 : b.lo ≤ b.hi
  case neg =>
    simp only [gos, eq_self, Nat.reduceLT, Nat.reduceEqDiff, reduceCtorEq, reduceIte, ↓reduceIte, tt, vgo, vout, vguard, callOf, vop, ev, cv, vbin, vint, isShift, isNilConst, vload, newRow, h1, h2]
    subst hQ
    exact FnPost.plain trivial (fun h2 e => by first | rfl | (simp only [Try.f35, vres, vresL, vres1, e _, gos, if_true, if_false, ne_eq, eq_self, Nat.reduceLT, Nat.reduceEqDiff, Nat.reduceAdd, Nat.reduceMul, Nat.reduceLeDiff, Nat.reduceBEq, reduceCtorEq, reduceIte, Array.toList, ↓reduceIte, tt, vgo, vout, vgoD, voutD, vclsOk, vids, mayWrite, V.ids, V.mids, vguard, callOf, vop, ev, cv, vbin, vint, isShift, isNilConst, vnil, isNilSlice, vload, vlen, newRow, vfill, vslice, entOf, vappend, srcOf, vcopy, vlookup, vupdate, mapOk, keyOf, intsOf, clsAt]; try rfl)) (WkV.pure (by simp only [V.into])) ⟨by simp [sValid, h1, h2], rfl⟩
  simp only [gos, eq_self, Nat.reduceLT, Nat.reduceEqDiff, reduceCtorEq, reduceIte, ↓reduceIte, tt, vgo, vout, vguard, callOf, vop, ev, cv, vbin, vint, isShift, isNilConst, vload, newRow, rms, h1, h2]
  subst hQ
  exact FnPost.plain trivial (fun h2 e => by first | rfl | (simp only [Try.f35, vres, vresL, vres1, e _, gos, if_true, if_false, ne_eq, eq_self, Nat.reduceLT, Nat.reduceEqDiff, Nat.reduceAdd, Nat.reduceMul, Nat.reduceLeDiff, Nat.reduceBEq, reduceCtorEq, reduceIte, Array.toList, ↓reduceIte, tt, vgo, vout, vgoD, voutD, vclsOk, vids, mayWrite, V.ids, V.mids, vguard, callOf, vop, ev, cv, vbin, vint, isShift, isNilConst, vnil, isNilSlice, vload, vlen, newRow, vfill, vslice, entOf, vappend, srcOf, vcopy, vlookup, vupdate, mapOk, keyOf, intsOf, clsAt]; try rfl)) (WkV.pure (by simp only [V.into])) ⟨by simp [sValid, h1, h2], rfl⟩
theorem c_IndexFunc_Bt (pv : V) (f : Rg → Bool) (l : List Rg) (hl : (l.length : Int) ≤ 1000000) (hp : pv.into (fun _ => false) = true) (hf : ∀ x ∈ l, Pu Try.prog pv [.agg [vi x.lo, vi x.hi]] (.bool (f x))) :
    Pu Try.prog (.fn 67 [] []) [vR l, pv] (vi (sIdx f l)) := by
  refine Ev.fn Try.func67 rfl rfl (Fn.body tabOk Try.func67 rfl (Nat.le_of_ble_eq_true rfl) (Ks.ok (fz := (fzn [])) (cl := (cln [])) tabOk mixed ?_))
  generalize hQ : FnPost tt Try.f67 _ _ = Q
  simp only [Try.f67, List.nil_append, List.append_nil, argsEnv, Nat.reduceAdd]
  simp only [gos, eq_self, Nat.reduceLT, reduceCtorEq, reduceIte, ↓reduceIte, tt, vgo, vout, vguard, callOf, vop, ev, cv, vlen, vR]
  refine W.loop tabOk mixed (fun i : Nat => ([(0, vR l), (1, pv), (7, vi l.length), (8, vi i)], [])) (fun i => l.length - i) (fun i => i ≤ l.length ∧ ∀ (j : Nat) y, j < i → l[j]? = some y → f y = false) 0 ⟨by omega, by omega⟩ (Wk.env (by simp [subE, Env.get, vR])) ?_
  rintro i ⟨hi, hj⟩
  by_cases hil : (i : Int) < l.length
  · simp only [gos, eq_self, Nat.reduceLT, Nat.reduceEqDiff, reduceCtorEq, reduceIte, ↓reduceIte, tt, vgo, vout, vguard, callOf, vop, ev, vbin, vint, isShift, isNilConst, vload, vR, hil, cR_at (Int.natCast_nonneg i) hil]
    refine Cl.pu (hf (gR l i) (List.mem_of_getElem? (gR_get hil))) ?_ hp (by simp only [V.into, intoL, Bool.and_true])
    cases hfx : f (gR l i)
    · simp only [gos, eq_self, Nat.reduceLT, Nat.reduceEqDiff, reduceCtorEq, reduceIte, ↓reduceIte, vgo, vout, vguard, callOf, vop, ev, cv, vbin, vint, isShift, isNilConst]
      refine Nx.mk (i + 1) (show l.length - (i + 1) < l.length - i by omega) ⟨by omega, fun j y hlt hy => ?_⟩ (Wk.env (by simp [subE, Env.get, i64_succ (show (i : Int) < 9223372036854775807 by omega)]))
      rcases Nat.lt_or_eq_of_le (Nat.le_of_lt_succ hlt) with h | rfl
      · exact hj j y h hy
      · rw [gR_get hil] at hy; injection hy with hy; rw [← hy]; exact hfx
    · simp only [gos, eq_self, Nat.reduceLT, Nat.reduceEqDiff, reduceIte, ↓reduceIte, vgo, vout, vguard, callOf, vop, ev]
      subst hQ
      exact FnPost.plain trivial (fun h2 e => by first | rfl | (simp only [Try.f67, vres, vresL, vres1, e _, gos, if_true, if_false, ne_eq, eq_self, Nat.reduceLT, Nat.reduceEqDiff, Nat.reduceAdd, Nat.reduceMul, Nat.reduceLeDiff, Nat.reduceBEq, reduceCtorEq, reduceIte, Array.toList, ↓reduceIte, tt, vgo, vout, vgoD, voutD, vclsOk, vids, mayWrite, V.ids, V.mids, vguard, callOf, vop, ev, cv, vbin, vint, isShift, isNilConst, vnil, isNilSlice, vload, vlen, newRow, vfill, vslice, entOf, vappend, srcOf, vcopy, vlookup, vupdate, mapOk, keyOf, intsOf, clsAt]; try rfl)) (WkV.pure (by simp only [V.into])) ⟨by rw [sIdx_some (gR_get hil) hfx hj], rfl⟩
  · simp only [gos, eq_self, Nat.reduceLT, Nat.reduceEqDiff, reduceCtorEq, reduceIte, ↓reduceIte, vgo, vout, vguard, callOf, vop, ev, cv, vbin, vint, isShift, isNilConst, vR, hil]
    subst hQ
    exact FnPost.plain trivial (fun h2 e => by first | rfl | (simp only [Try.f67, vres, vresL, vres1, e _, gos, if_true, if_false, ne_eq, eq_self, Nat.reduceLT, Nat.reduceEqDiff, Nat.reduceAdd, Nat.reduceMul, Nat.reduceLeDiff, Nat.reduceBEq, reduceCtorEq, reduceIte, Array.toList, ↓reduceIte, tt, vgo, vout, vgoD, voutD, vclsOk, vids, mayWrite, V.ids, V.mids, vguard, callOf, vop, ev, cv, vbin, vint, isShift, isNilConst, vnil, isNilSlice, vload, vlen, newRow, vfill, vslice, entOf, vappend, srcOf, vcopy, vlookup, vupdate, mapOk, keyOf, intsOf, clsAt]; try rfl)) (WkV.pure (by simp only [V.into])) ⟨by rw [sIdx_none fun j y hy => hj j y (by have := (List.getElem?_eq_some_iff.1 hy).1; omega) hy], rfl⟩
theorem c_ContainsFunc_Bt (pv : V) (f : Rg → Bool) (l : List Rg) (hl : (l.length : Int) ≤ 1000000) (hp : pv.into (fun _ => false) = true) (hf : ∀ x ∈ l, Pu Try.prog pv [.agg [vi x.lo, vi x.hi]] (.bool (f x))) :
    Pu Try.prog (.fn 53 [] []) [vR l, pv] (.bool (l.any f)) := by
  refine Ev.fn Try.func53 rfl rfl (Fn.body tabOk Try.func53 rfl (Nat.le_of_ble_eq_true rfl) (Ks.ok (fz := (fzn [])) (cl := (cln [])) tabOk mixed ?_))
  generalize hQ : FnPost tt Try.f53 _ _ = Q
  simp only [Try.f53, List.nil_append, List.append_nil, argsEnv, Nat.reduceAdd]
  simp only [gos, eq_self, Nat.reduceLT, Nat.reduceEqDiff, reduceCtorEq, reduceIte, ↓reduceIte, vgo, vout, vguard, callOf, vop, ev, cv]
  refine Cl.pu (c_IndexFunc_Bt pv f l hl hp hf) ?_ rfl (by simp only [intoL, vR_into, Bool.and_true, hp])
  simp only [gos, eq_self, Nat.reduceLT, reduceIte, ↓reduceIte, vgo, vout, vguard, callOf, vop, ev, cv, vbin, vint, isShift, isNilConst]
  subst hQ
  exact FnPost.plain trivial (fun h2 e => by first | rfl | (simp only [Try.f53, vres, vresL, vres1, e _, gos, if_true, if_false, ne_eq, eq_self, Nat.reduceLT, Nat.reduceEqDiff, Nat.reduceAdd, Nat.reduceMul, Nat.reduceLeDiff, Nat.reduceBEq, reduceCtorEq, reduceIte, Array.toList, ↓reduceIte, tt, vgo, vout, vgoD, voutD, vclsOk, vids, mayWrite, V.ids, V.mids, vguard, callOf, vop, ev, cv, vbin, vint, isShift, isNilConst, vnil, isNilSlice, vload, vlen, newRow, vfill, vslice, entOf, vappend, srcOf, vcopy, vlookup, vupdate, mapOk, keyOf, intsOf, clsAt]; try rfl)) (WkV.pure (by simp only [V.into])) ⟨by rw [← sIdx_any], rfl⟩
theorem c_all1_Bt (pv : V) (f : Rg → Bool) (x : Rg) (hp : pv.into (fun _ => false) = true) (hf : Pu Try.prog pv [.agg [vi x.lo, vi x.hi]] (.bool (f x))) :
    Pu Try.prog (.fn 54 [] [.rop [pv]]) [.agg [vi x.lo, vi x.hi]] (.bool (!f x)) := by
  refine Ev.fn Try.func54 rfl rfl (Fn.body tabOk Try.func54 rfl (Nat.le_of_ble_eq_true rfl) (Ks.ok (fz := (fzn [])) (cl := (cln [])) tabOk mixed ?_))
  generalize hQ : FnPost tt Try.f54 _ _ = Q
  simp only [Try.f54, List.nil_append, List.cons_append, argsEnv, Nat.reduceAdd]
  simp only [gos, eq_self, Nat.reduceLT, Nat.reduceEqDiff, Nat.reduceAdd, reduceCtorEq, reduceIte, ↓reduceIte, tt, vgo, vout, vguard, callOf, vop, ev, cv, vload, newRow]
  refine Cl.pu hf ?_ hp (by simp only [V.into, intoL, Bool.and_true])
  simp only [gos, eq_self, Nat.reduceLT, reduceIte, ↓reduceIte, vgo, vout, vguard, callOf, vop, ev]
  subst hQ
  exact FnPost.plain trivial (fun h2 e => by first | rfl | (simp only [Try.f54, vres, vresL, vres1, e _, gos, if_true, if_false, ne_eq, eq_self, Nat.reduceLT, Nat.reduceEqDiff, Nat.reduceAdd, Nat.reduceMul, Nat.reduceLeDiff, Nat.reduceBEq, reduceCtorEq, reduceIte, Array.toList, ↓reduceIte, tt, vgo, vout, vgoD, voutD, vclsOk, vids, mayWrite, V.ids, V.mids, vguard, callOf, vop, ev, cv, vbin, vint, isShift, isNilConst, vnil, isNilSlice, vload, vlen, newRow, vfill, vslice, entOf, vappend, srcOf, vcopy, vlookup, vupdate, mapOk, keyOf, intsOf, clsAt]; try rfl)) (WkV.pure (by simp only [V.into])) ⟨rfl, rfl⟩
theorem c_all_Bt (pf : FuncId) (pa pc : List V) (f : Rg → Bool) (l : List Rg) (hl : (l.length : Int) ≤ 1000000) (ha : intoL (fun _ => false) pa = true) (hp : intoL (fun _ => false) pc = true) (hf : ∀ x ∈ l, Pu Try.prog (.fn pf pa pc) [.agg [vi x.lo, vi x.hi]] (.bool (f x))) :
    Pu Try.prog (.fn 36 [] []) [vR l, .fn pf pa pc] (.bool (l.all f)) := by
  refine Ev.fn Try.func36 rfl rfl (Fn.body tabOk Try.func36 rfl (Nat.le_of_ble_eq_true rfl) (Ks.ok (fz := (fzn [])) (cl := (cln [])) tabOk mixed ?_))
  generalize hQ : FnPost tt Try.f36 _ _ = Q
  simp only [Try.f36, List.nil_append, List.append_nil, argsEnv, Nat.reduceAdd]
  simp only [gos, eq_self, Nat.reduceLT, Nat.reduceEqDiff, reduceCtorEq, reduceIte, ↓reduceIte, vgo, vout, vguard, callOf, vop, ev, cv, newRow]
  refine Cl.pu (c_ContainsFunc_Bt (.fn 54 [] [.rop [.fn pf pa pc]]) (fun x => !f x) l hl (by simp only [V.into, intoL, Bool.and_true, hp, ha]) fun x hx => c_all1_Bt (.fn pf pa pc) f x (by simp only [V.into, Bool.and_true, hp, ha]) (hf x hx)) ?_ rfl (by simp only [V.into, intoL, vR_into, Bool.and_true, hp, ha])
  simp only [gos, eq_self, Nat.reduceLT, reduceIte, ↓reduceIte, vgo, vout, vguard, callOf, vop, ev]
  subst hQ
  exact FnPost.plain trivial (fun h2 e => by first | rfl | (simp only [Try.f36, vres, vresL, vres1, e _, gos, if_true, if_false, ne_eq, eq_self, Nat.reduceLT, Nat.reduceEqDiff, Nat.reduceAdd, Nat.reduceMul, Nat.reduceLeDiff, Nat.reduceBEq, reduceCtorEq, reduceIte, Array.toList, ↓reduceIte, tt, vgo, vout, vgoD, voutD, vclsOk, vids, mayWrite, V.ids, V.mids, vguard, callOf, vop, ev, cv, vbin, vint, isShift, isNilConst, vnil, isNilSlice, vload, vlen, newRow, vfill, vslice, entOf, vappend, srcOf, vcopy, vlookup, vupdate, mapOk, keyOf, intsOf, clsAt]; try rfl)) (WkV.pure (by simp only [V.into])) ⟨by rw [List.all_eq_not_any_not], rfl⟩
end Go.Vm

set_option linter.unusedVariables false
set_option linter.unusedSimpArgs false
set_option maxRecDepth 100000
namespace Go.Vm
open Go.Proofs
theorem c_CheckRoom (r : Rm) (hr : r.wf) : Pu Try.prog (.fn 14 [] []) [.agg r.cs] (vi (sCheckR r)) := by
  refine Ev.fn Try.func14 rfl rfl (Fn.body tabOk Try.func14 rfl (Nat.le_of_ble_eq_true rfl) (Ks.ok (fz := (fzn [])) (cl := (cln [])) tabOk mixed ?_))
  generalize hQ : FnPost tt Try.f14 _ _ = Q
  simp only [Try.f14, List.nil_append, List.append_nil, argsEnv]
  simp only [gos, eq_self, Nat.reduceLT, Nat.reduceEqDiff, Nat.reduceLeDiff, reduceCtorEq, reduceIte, ↓reduceIte, tt, vgo, vout, vguard, callOf, vop, ev, cv, vload, newRow, rms]
  refine Cl.pu (c_Bounds r.cu hr.cu) ?_ rfl (by simp only [V.into, intoL, cu_into, Bool.and_true])
  have e0 : (sBoundsA r.cu).2.2 = sAsked r.cu true := by
    rw [sBoundsA]; split
    · rename_i h; exact h.symm
    · rfl
  rw [e0]
  by_cases h0 : sAsked r.cu true = 0
  case neg =>
    have hb : (sAsked r.cu true != 0) = true := by simp [h0]
    simp only [gos, eq_self, Nat.reduceLT, Nat.reduceEqDiff, reduceIte, ↓reduceIte, vgo, vout, vguard, callOf, vop, ev, cv, vbin, vint, isShift, isNilConst, hb]
    subst hQ
    exact FnPost.plain trivial (fun h2 e => by first | rfl | (simp only [Try.f14, vres, vresL, vres1, e _, gos, if_true, if_false, ne_eq, eq_self, Nat.reduceLT, Nat.reduceEqDiff, Nat.reduceAdd, Nat.reduceMul, Nat.reduceLeDiff, Nat.reduceBEq, reduceCtorEq, reduceIte, Array.toList, ↓reduceIte, tt, vgo, vout, vgoD, voutD, vclsOk, vids, mayWrite, V.ids, V.mids, vguard, callOf, vop, ev, cv, vbin, vint, isShift, isNilConst, vnil, isNilSlice, vload, vlen, newRow, vfill, vslice, entOf, vappend, srcOf, vcopy, vlookup, vupdate, mapOk, keyOf, intsOf, clsAt]; try rfl)) (WkV.pure (by simp only [V.into])) ⟨by rw [sCheckR, if_pos h0], rfl⟩
  have hb : (sAsked r.cu true != 0) = false := by simp [h0]
  simp only [gos, eq_self, Nat.reduceLT, Nat.reduceEqDiff, reduceCtorEq, reduceIte, ↓reduceIte, tt, vgo, vout, vguard, callOf, vop, ev, cv, vbin, vint, isShift, isNilConst, vload, rms, hb]
  by_cases h1 : 5 < r.pl
  · simp only [gos, eq_self, Nat.reduceLT, Nat.reduceEqDiff, reduceIte, ↓reduceIte, vgo, vout, vguard, callOf, vop, ev, cv, h1]
    subst hQ
    exact FnPost.plain trivial (fun h2 e => by first | rfl | (simp only [Try.f14, vres, vresL, vres1, e _, gos, if_true, if_false, ne_eq, eq_self, Nat.reduceLT, Nat.reduceEqDiff, Nat.reduceAdd, Nat.reduceMul, Nat.reduceLeDiff, Nat.reduceBEq, reduceCtorEq, reduceIte, Array.toList, ↓reduceIte, tt, vgo, vout, vgoD, voutD, vclsOk, vids, mayWrite, V.ids, V.mids, vguard, callOf, vop, ev, cv, vbin, vint, isShift, isNilConst, vnil, isNilSlice, vload, vlen, newRow, vfill, vslice, entOf, vappend, srcOf, vcopy, vlookup, vupdate, mapOk, keyOf, intsOf, clsAt]; try rfl)) (WkV.pure (by simp only [V.into])) ⟨by rw [sCheckR, if_neg (by simp [h0]), if_pos (.inl h1)], rfl⟩
  by_cases h2 : 5 < (r.ba.length : Int)
  · simp only [gos, eq_self, Nat.reduceLT, Nat.reduceEqDiff, reduceCtorEq, reduceIte, ↓reduceIte, tt, vgo, vout, vguard, callOf, vop, ev, cv, vbin, vint, isShift, isNilConst, vload, vlen, rms, h1, h2, vR]
    subst hQ
    exact FnPost.plain trivial (fun h2 e => by first | rfl | (simp only [Try.f14, vres, vresL, vres1, e _, gos, if_true, if_false, ne_eq, eq_self, Nat.reduceLT, Nat.reduceEqDiff, Nat.reduceAdd, Nat.reduceMul, Nat.reduceLeDiff, Nat.reduceBEq, reduceCtorEq, reduceIte, Array.toList, ↓reduceIte, tt, vgo, vout, vgoD, voutD, vclsOk, vids, mayWrite, V.ids, V.mids, vguard, callOf, vop, ev, cv, vbin, vint, isShift, isNilConst, vnil, isNilSlice, vload, vlen, newRow, vfill, vslice, entOf, vappend, srcOf, vcopy, vlookup, vupdate, mapOk, keyOf, intsOf, clsAt]; try rfl)) (WkV.pure (by simp only [V.into])) ⟨by rw [sCheckR, if_neg (by simp [h0]), if_pos (.inr h2)], rfl⟩
  simp only [gos, eq_self, Nat.reduceLT, Nat.reduceEqDiff, reduceCtorEq, reduceIte, ↓reduceIte, tt, vgo, vout, vguard, callOf, vop, ev, cv, vbin, vint, isShift, isNilConst, vload, vlen, rms, h1, h2, vR]
  by_cases h3 : r.pl < 0
  · simp only [gos, eq_self, Nat.reduceLT, Nat.reduceEqDiff, reduceIte, ↓reduceIte, vgo, vout, vguard, callOf, vop, ev, cv, h3]
    subst hQ
    exact FnPost.plain trivial (fun h2 e => by first | rfl | (simp only [Try.f14, vres, vresL, vres1, e _, gos, if_true, if_false, ne_eq, eq_self, Nat.reduceLT, Nat.reduceEqDiff, Nat.reduceAdd, Nat.reduceMul, Nat.reduceLeDiff, Nat.reduceBEq, reduceCtorEq, reduceIte, Array.toList, ↓reduceIte, tt, vgo, vout, vgoD, voutD, vclsOk, vids, mayWrite, V.ids, V.mids, vguard, callOf, vop, ev, cv, vbin, vint, isShift, isNilConst, vnil, isNilSlice, vload, vlen, newRow, vfill, vslice, entOf, vappend, srcOf, vcopy, vlookup, vupdate, mapOk, keyOf, intsOf, clsAt]; try rfl)) (WkV.pure (by simp only [V.into])) ⟨by rw [sCheckR, if_neg (by simp [h0]), if_neg (by omega), if_pos (by simp [h3])], rfl⟩
  simp only [gos, eq_self, Nat.reduceLT, Nat.reduceEqDiff, reduceCtorEq, reduceIte, ↓reduceIte, tt, vgo, vout, vguard, callOf, vop, ev, cv, vload, rms, h3]
  refine Cl.pu (c_bwithin _ _ _) ?_
  cases h4 : sIn r.bu 1 9
  · simp only [gos, eq_self, Nat.reduceLT, Nat.reduceEqDiff, reduceIte, ↓reduceIte, vgo, vout, vguard, callOf, vop, ev, cv]
    subst hQ
    exact FnPost.plain trivial (fun h2 e => by first | rfl | (simp only [Try.f14, vres, vresL, vres1, e _, gos, if_true, if_false, ne_eq, eq_self, Nat.reduceLT, Nat.reduceEqDiff, Nat.reduceAdd, Nat.reduceMul, Nat.reduceLeDiff, Nat.reduceBEq, reduceCtorEq, reduceIte, Array.toList, ↓reduceIte, tt, vgo, vout, vgoD, voutD, vclsOk, vids, mayWrite, V.ids, V.mids, vguard, callOf, vop, ev, cv, vbin, vint, isShift, isNilConst, vnil, isNilSlice, vload, vlen, newRow, vfill, vslice, entOf, vappend, srcOf, vcopy, vlookup, vupdate, mapOk, keyOf, intsOf, clsAt]; try rfl)) (WkV.pure (by simp only [V.into])) ⟨by rw [sCheckR, if_neg (by simp [h0]), if_neg (by omega), if_pos (by simp [h4])], rfl⟩
  simp only [gos, eq_self, Nat.reduceLT, Nat.reduceEqDiff, reduceCtorEq, reduceIte, ↓reduceIte, tt, vgo, vout, vguard, callOf, vop, ev, vload, rms]
  refine Cl.pu (c_all_Bt _ [.agg r.cs] [] (sValid r) r.ba hr.ba (by simp only [V.into, intoL, Bool.and_true, rm_into]) rfl fun x _ => c_valid1 r x) ?_ rfl (by simp only [V.into, intoL, vR_into, Bool.and_true, rm_into])
  cases h5 : r.ba.all (sValid r)
  · simp only [gos, eq_self, Nat.reduceLT, Nat.reduceEqDiff, reduceIte, ↓reduceIte, vgo, vout, vguard, callOf, vop, ev, cv]
    subst hQ
    exact FnPost.plain trivial (fun h2 e => by first | rfl | (simp only [Try.f14, vres, vresL, vres1, e _, gos, if_true, if_false, ne_eq, eq_self, Nat.reduceLT, Nat.reduceEqDiff, Nat.reduceAdd, Nat.reduceMul, Nat.reduceLeDiff, Nat.reduceBEq, reduceCtorEq, reduceIte, Array.toList, ↓reduceIte, tt, vgo, vout, vgoD, voutD, vclsOk, vids, mayWrite, V.ids, V.mids, vguard, callOf, vop, ev, cv, vbin, vint, isShift, isNilConst, vnil, isNilSlice, vload, vlen, newRow, vfill, vslice, entOf, vappend, srcOf, vcopy, vlookup, vupdate, mapOk, keyOf, intsOf, clsAt]; try rfl)) (WkV.pure (by simp only [V.into])) ⟨by rw [sCheckR, if_neg (by simp [h0]), if_neg (by omega), if_pos (by simp [h5])], rfl⟩
  simp only [gos, eq_self, Nat.reduceLT, Nat.reduceEqDiff, reduceIte, ↓reduceIte, vgo, vout, vguard, callOf, vop, ev, cv]
  subst hQ
  exact FnPost.plain trivial (fun h2 e => by first | rfl | (simp only [Try.f14, vres, vresL, vres1, e _, gos, if_true, if_false, ne_eq, eq_self, Nat.reduceLT, Nat.reduceEqDiff, Nat.reduceAdd, Nat.reduceMul, Nat.reduceLeDiff, Nat.reduceBEq, reduceCtorEq, reduceIte, Array.toList, ↓reduceIte, tt, vgo, vout, vgoD, voutD, vclsOk, vids, mayWrite, V.ids, V.mids, vguard, callOf, vop, ev, cv, vbin, vint, isShift, isNilConst, vnil, isNilSlice, vload, vlen, newRow, vfill, vslice, entOf, vappend, srcOf, vcopy, vlookup, vupdate, mapOk, keyOf, intsOf, clsAt]; try rfl)) (WkV.pure (by simp only [V.into])) ⟨by rw [sCheckR, if_neg (by simp [h0]), if_neg (by omega), if_neg (by simp [h3, h4, h5])], rfl⟩
def bw (r : Rm) (m : V) : List V := [vi r.cu.last, vi r.cu.start, vi r.cu.most, vi r.cu.per, vi r.cu.shovels, vI r.cu.coal, vI r.cu.want, vi r.cu.heat.lo, vi r.cu.heat.hi, vR r.cu.loss, vD r.cu.readings, vi r.bu, vi r.pl, vR r.ba, m]
theorem bw_len {r : Rm} {m : V} : (bw r m).length = 15 := rfl
theorem bw_take {r : Rm} {m : V} : (bw r m).take 14 = r.cs := rfl
theorem bw_t11 {r : Rm} {m : V} : (bw r m).take 11 = r.cu.cs := rfl
theorem bw_h13 {r : Rm} {m : V} : ((bw r m).drop 13).head? = some (vR r.ba) := rfl
theorem bw_h14 {r : Rm} {m : V} : ((bw r m).drop 14).head? = some m := rfl
theorem bw_into (p : Nat → Bool) (r : Rm) (m : V) (h : m.into p = true) : intoL p (bw r m) = true := by simp only [bw, V.into, intoL, vI_into, vR_into, vD_into, Bool.and_true, h]
theorem bws : type_of% (And.intro @bw_len (And.intro @bw_take (And.intro @bw_t11 (And.intro @bw_h13 @bw_h14)))) := And.intro @bw_len (And.intro @bw_take (And.intro @bw_t11 (And.intro @bw_h13 @bw_h14)))
/-- A room at work, or the error. -/
def BaskPost (r : Rm) (e : Int) (v : V) (h' : Heap) : Prop := (e ≠ 0 ∧ v = .tup [.nilp, vi e] ∧ h' = []) ∨ (e = 0 ∧ v = .tup [.rop (bw r (.mp 11)), vi 0] ∧ h' = [(11, ⟨0, .map []⟩)])
theorem c_basked (r : Rm) (hr : r.wf) : Ev Try.prog (.fn 20 [] []) [.agg r.cs] [] (BaskPost r (sCheckR r)) := by
  refine Ev.fn Try.func20 rfl rfl (Fn.body tabOk Try.func20 rfl (Nat.le_of_ble_eq_true rfl) (Ks.ok (fz := (fzn [])) (cl := (cln [])) tabOk mixed ?_))
  generalize hQ : FnPost tt Try.f20 _ _ = Q
  simp only [Try.f20, List.nil_append, List.append_nil, argsEnv]
  simp only [gos, eq_self, Nat.reduceLT, Nat.reduceEqDiff, reduceCtorEq, reduceIte, ↓reduceIte, tt, vgo, vout, vguard, callOf, vop, ev, cv, vload, newRow, rms]
  refine Cl.pu (c_CheckRoom r hr) ?_ rfl (by simp only [V.into, intoL, Bool.and_true, rm_into])
  by_cases h0 : sCheckR r = 0
  case neg =>
    have hb : (sCheckR r != 0) = true := by simp [h0]
    simp only [gos, eq_self, Nat.reduceLT, Nat.reduceEqDiff, reduceIte, ↓reduceIte, vgo, vout, vguard, callOf, vop, ev, cv, vbin, vint, isShift, isNilConst, hb]
    subst hQ
    exact FnPost.plain trivial (v := .tup [.nilp, vi (sCheckR r)]) (fun h2 e => by rfl) WkV.refl (.inl ⟨h0, rfl, rfl⟩)
  have hb : (sCheckR r != 0) = false := by simp [h0]
  simp only [gos, eq_self, Nat.reduceLT, Nat.reduceEqDiff, Nat.reduceAdd, Nat.reduceLeDiff, reduceCtorEq, reduceIte, ↓reduceIte, tt, vgo, vout, vguard, callOf, vop, ev, cv, vbin, vint, isShift, isNilConst, vload, newRow, vfill, hb, Rm.cs]
  subst hQ
  exact FnPost.plain trivial (v := .tup [.rop (bw r (.mp 11)), vi 0]) (fun h2 e => by rfl) WkV.refl (.inr ⟨h0, rfl, rfl⟩)
theorem c_hours (r : Rm) (h0 : I64 (r.cu.last + 1)) : Pu Try.prog (.fn 28 [] []) [.agg r.cs] (vi (r.cu.last + 1)) := by
  refine Ev.fn Try.func28 rfl rfl (Fn.body tabOk Try.func28 rfl (Nat.le_of_ble_eq_true rfl) (Ks.ok (fz := (fzn [])) (cl := (cln [])) tabOk mixed ?_))
  generalize hQ : FnPost tt Try.f28 _ _ = Q
  simp only [Try.f28, List.nil_append, List.append_nil, argsEnv]
  simp only [gos, eq_self, Nat.reduceLT, Nat.reduceEqDiff, reduceCtorEq, reduceIte, ↓reduceIte, tt, vgo, vout, vguard, callOf, vop, ev, cv, vbin, vint, isShift, isNilConst, vload, newRow, rms, i64_in h0.1 h0.2]
  subst hQ
  exact FnPost.plain trivial (fun h2 e => by first | rfl | (simp only [Try.f28, vres, vresL, vres1, e _, gos, if_true, if_false, ne_eq, eq_self, Nat.reduceLT, Nat.reduceEqDiff, Nat.reduceAdd, Nat.reduceMul, Nat.reduceLeDiff, Nat.reduceBEq, reduceCtorEq, reduceIte, Array.toList, ↓reduceIte, tt, vgo, vout, vgoD, voutD, vclsOk, vids, mayWrite, V.ids, V.mids, vguard, callOf, vop, ev, cv, vbin, vint, isShift, isNilConst, vnil, isNilSlice, vload, vlen, newRow, vfill, vslice, entOf, vappend, srcOf, vcopy, vlookup, vupdate, mapOk, keyOf, intsOf, clsAt]; try rfl)) (WkV.pure (by simp only [V.into])) ⟨rfl, rfl⟩
def nbI (r : Rm) (n : List Int) (i : Nat) : List Int := (List.range (r.cu.last + 1).toNat).map fun (j : Nat) => if j < i then r.bu * gi n j else 0
theorem nbI_len (r : Rm) (n : List Int) (i : Nat) : (nbI r n i).length = (r.cu.last + 1).toNat := by simp [nbI]
theorem nbI_zero (r : Rm) (n : List Int) : nbI r n 0 = List.replicate (r.cu.last + 1).toNat 0 := by
  rw [nbI]; simp [List.map_const']
theorem nbI_gi (r : Rm) (n : List Int) (i : Nat) {j : Nat} (hj : j < (r.cu.last + 1).toNat) : gi (nbI r n i) j = if j < i then r.bu * gi n j else 0 := gi_map hj
theorem nbI_succ (r : Rm) (n : List Int) {i : Nat} (hi : i < (r.cu.last + 1).toNat) : (nbI r n i).set i (r.bu * gi n i) = nbI r n (i + 1) := by
  refine list_ext (by simp [nbI_len]) fun j hj => ?_
  rw [List.length_set, nbI_len] at hj
  rw [nbI_gi r n (i + 1) hj]
  by_cases e : j = i
  · subst e; rw [gi_set_self _ (by rw [nbI_len]; omega), if_pos (by omega)]
  · rw [gi_set_ne _ (fun h => e h.symm), nbI_gi r n i hj]
    by_cases h : j < i
    · rw [if_pos h, if_pos (by omega)]
    · rw [if_neg h, if_neg (by omega)]
theorem nbI_all (r : Rm) (n : List Int) {i : Nat} (hi : i = (r.cu.last + 1).toNat) : nbI r n i = nb r n := by
  subst hi
  rw [nbI, nb, nI]
  apply List.map_congr_left
  intro j hj
  rw [if_pos (List.mem_range.1 hj)]
theorem c_bbk0 (r : Rm) (hl : 0 ≤ r.cu.last ∧ r.cu.last ≤ 4) (n : List Int) (hn : n.length = 5) (hb : ∀ i : Nat, (i : Int) ≤ r.cu.last → I64 (r.bu * gi n i)) :
    Ev Try.prog (.fn 17 [] []) [.agg r.cs, .agg (cI n)] [] fun v h' => v = .own 9 0 0 1 (r.cu.last + 1).toNat ∧ h' = [(9, ⟨0, .row (cI (nb r n))⟩)] := by
  refine Ev.fn Try.func17 rfl rfl (Fn.body tabOk Try.func17 rfl (Nat.le_of_ble_eq_true rfl) (Ks.ok (fz := (fzn [9])) (cl := (cln [(5, .d (tgL [(9, 1)]) [cP, cP, cP, cP, cP, cP, cP, cP, some ([1], []), some ([1], [1])])])) tabOk mixed ?_))
  generalize hQ : FnPost tt Try.f17 _ _ = Q
  simp only [Try.f17, List.nil_append, List.append_nil, argsEnv, Nat.reduceAdd]
  have hn5 : (cI n).length = 5 := by rw [cI_len, hn]
  have ht5 : List.take 5 (cI n) = cI n := List.take_of_length_le (by omega)
  have hone := cI_one n
  have hge : 0 ≤ r.cu.last + 1 := by omega
  have hle : r.cu.last + 1 ≤ 1000000 := by omega
  simp only [gos, eq_self, Nat.reduceLT, Nat.reduceEqDiff, reduceCtorEq, reduceIte, ↓reduceIte, tt, vgo, vout, vguard, callOf, vop, ev, cv, vload, newRow, rms]
  refine Cl.pu (c_hours r ⟨by omega, by omega⟩) ?_ rfl (by simp only [V.into, intoL, Bool.and_true, rm_into])
  simp only [gos, eq_self, Nat.reduceLT, Nat.reduceEqDiff, Nat.reduceLeDiff, reduceIte, ↓reduceIte, tt, vgo, vout, vguard, callOf, vop, ev, cv, vlen, hge, hle]
  refine W.loop tabOk mixed (fun i : Nat => ([(2, .rop r.cs), (3, .rop (cI n)), (5, .own 9 0 0 1 (r.cu.last + 1).toNat), (11, vi (r.cu.last + 1).toNat), (12, vi i)], [(9, ⟨0, .row (cI (nbI r n i))⟩)])) (fun i => (r.cu.last + 1).toNat - i) (fun i => i ≤ (r.cu.last + 1).toNat) 0 (by omega) (Wk.heap (fun j => ?_) (by simp [subE, Env.get])) ?_
  · rw [nbI_zero, ← zeros_vi]
  intro i hi
  by_cases hil : (i : Int) < ((r.cu.last + 1).toNat : Int)
  · have hi5 : (i : Int) < ((5 : Nat) : Int) := by omega
    have hiL : (i : Int) < n.length := by omega
    have hat := cI_at (Int.natCast_nonneg i) hiL
    rw [Int.toNat_natCast, Nat.mul_one] at hat
    have hI := hb i (by omega)
    have hc : i + 1 ≤ (cI (nbI r n i)).length := by rw [cI_len, nbI_len]; omega
    have hst : List.take i (cI (nbI r n i)) ++ [V.int IntKind.i64 (r.bu * gi n i)] ++ List.drop (i + 1) (cI (nbI r n i)) = cI (nbI r n (i + 1)) := by
      rw [← nbI_succ r n (by omega)]; exact cI_set _ (by rw [nbI_len]; omega)
    simp only [gos, eq_self, Nat.reduceLT, Nat.reduceEqDiff, reduceIte, ↓reduceIte, vgo, vout, vguard, callOf, vop, ev, vbin, vint, isShift, isNilConst, hil]
    refine Wr.draw (by kernel_rfl) ?_
    simp only [gos, eq_self, Nat.reduceLT, Nat.reduceEqDiff, Nat.reduceAdd, reduceCtorEq, reduceIte, ↓reduceIte, tt, vgo, vout, vgoD, voutD, vclsOk, vids, mayWrite, V.ids, vguard, callOf, vop, ev, cv, vbin, vint, isShift, isNilConst, vload, clsAt, rms, hil, hi5, Int.natCast_nonneg, Int.toNat_natCast, Nat.mul_one, Nat.zero_add, hat, i64_in hI.1 hI.2, hc, hst]
    exact Nx.mk (i + 1) (show (r.cu.last + 1).toNat - (i + 1) < (r.cu.last + 1).toNat - i by omega) (by omega) (Wk.env (by simp [subE, Env.get, i64_succ (show (i : Int) < 9223372036854775807 by omega)]))
  · have hie : i = (r.cu.last + 1).toNat := by omega
    simp only [gos, eq_self, Nat.reduceLT, Nat.reduceEqDiff, reduceIte, ↓reduceIte, vgo, vout, vguard, callOf, vop, ev, vbin, vint, isShift, isNilConst, hil]
    rw [nbI_all r n hie]
    subst hQ
    exact FnPost.plain trivial (v := .own 9 0 0 1 (r.cu.last + 1).toNat) (fun h2 e => by rfl) WkV.refl ⟨rfl, rfl⟩
theorem nb_len' {r : Rm} (n : List Int) : (nb r n).length = (r.cu.last + 1).toNat := by simp [nb, nI]
theorem c_bbk (r : Rm) (hl : 0 ≤ r.cu.last ∧ r.cu.last ≤ 4) (n : List Int) (hn : n.length = 5) (hb : ∀ i : Nat, (i : Int) ≤ r.cu.last → I64 (r.bu * gi n i)) :
    Pu Try.prog (.fn 17 [] []) [.agg r.cs, .agg (cI n)] (vI (nb r n)) :=
  (c_bbk0 r hl n hn hb).weakV fun v h' ⟨e1, e2⟩ => by
    subst e1; subst e2
    have ht : List.take ((r.cu.last + 1).toNat * 1) (cI (nb r n)) = cI (nb r n) := List.take_of_length_le (by rw [cI_len, nb_len']; omega)
    refine ⟨vI (nb r n), [], WkV.frz 9 (v' := vI (nb r n)) (h' := []) (ver := 0) (cs := cI (nb r n)) rfl rfl (cI_into _ _) rfl ?_ ?_ WkV.refl, rfl, rfl⟩
    · simp only [V.frz, if_true, List.drop_zero, ht, vI, nb_len']
    · simp [frzH]
theorem n_bbk (r : Rm) (hl : 0 ≤ r.cu.last ∧ r.cu.last ≤ 4) (n : List Int) (hn : n.length = 5) (hb : ∀ i : Nat, (i : Int) ≤ r.cu.last → I64 (r.bu * gi n i)) :
    NewB Try.prog (.fn 17 [] []) [.agg r.cs, .agg (cI n)] (.own 9 0 0 1 (r.cu.last + 1).toNat) 9 ⟨0, .row (cI (nb r n))⟩ := NewB.of (c_bbk0 r hl n hn hb) rfl (by simp only [V.into, intoL, cI_into, Bool.and_true, rm_into])
end Go.Vm

set_option linter.unusedVariables false
set_option linter.unusedSimpArgs false
set_option maxRecDepth 100000
namespace Go.Vm
open Go.Proofs
structure NOk (n : List Int) : Prop where
  len : n.length = 5
  le : ∀ i : Nat, 0 ≤ gi n i ∧ gi n i ≤ 1000
theorem spot_eq (h b : Int) : decide ([h, b] = [h, (0 : Int)]) = decide (b = 0) := by
  by_cases e : b = 0 <;> simp [e]
theorem mul_in {a b : Int} (h1 : 0 ≤ a ∧ a ≤ 1000000) (h2 : 0 ≤ b ∧ b ≤ 1000000) : 0 ≤ a * b ∧ a * b ≤ 1000000000000 := by
  have := Int.mul_nonneg h1.1 h2.1
  have : a * b ≤ 1000000 * 1000000 := Int.mul_le_mul h1.2 h2.2 h2.1 (by omega)
  omega
theorem c_room (r : Rm) (k : RmOk r) (h : Nat) (hh : (h : Int) ≤ r.cu.last) (b : Int) (hb : 0 ≤ b ∧ b ≤ 1000) : Pu Try.prog (.fn 55 [] []) [.agg r.cs, .agg [vi h, vi b]] (.bool (sRoom r h b)) := by
  refine Ev.fn Try.func55 rfl rfl (Fn.body tabOk Try.func55 rfl (Nat.le_of_ble_eq_true rfl) (Ks.ok (fz := (fzn [])) (cl := (cln [(3, .d tg0 [cP, cP, cP, cP, cP, cP, cP, cP, cP, cP, cP, cP, cP, cP, cP, cP, cP, cP, cP, cP, cP, cP])])) tabOk mixed ?_))
  generalize hQ : FnPost tt Try.f55 _ _ = Q
  simp only [Try.f55, List.nil_append, List.append_nil, argsEnv, Nat.reduceAdd]
  have hw := k.A.k0.want
  have hl := k.A.k0.last
  have hhw : (h : Int) < r.cu.want.length := by omega
  have hbu := k.bu
  have hm := mul_in (a := r.bu) (b := b) (by omega) (by omega)
  have hwi := hw.2 _ (gi_mem (show h < r.cu.want.length by omega))
  have w1 := i64_in (show -9223372036854775808 ≤ r.bu * b by omega) (show r.bu * b ≤ 9223372036854775807 by omega)
  have w2 := i64_in (show -9223372036854775808 ≤ gi r.cu.want h + r.bu * b by omega) (show gi r.cu.want h + r.bu * b ≤ 9223372036854775807 by omega)
  have hse := spot_eq h b
  by_cases h0 : b = 0
  · have hd : decide (b = 0) = true := by simp [h0]
    rw [hd] at hse
    simp only [gos, ne_eq, eq_self, Nat.reduceLT, Nat.reduceEqDiff, Nat.reduceAdd, Nat.reduceLeDiff, reduceCtorEq, reduceIte, ↓reduceIte, tt, vgo, vout, vguard, callOf, vop, ev, cv, vbin, isNilConst, vload, newRow, vfill, intsOf, hse]
    subst hQ
    exact FnPost.plain trivial (fun h2 e => by first | rfl | (simp only [Try.f55, vres, vresL, vres1, e _, gos, if_true, if_false, ne_eq, eq_self, Nat.reduceLT, Nat.reduceEqDiff, Nat.reduceAdd, Nat.reduceMul, Nat.reduceLeDiff, Nat.reduceBEq, reduceCtorEq, reduceIte, Array.toList, ↓reduceIte, tt, vgo, vout, vgoD, voutD, vclsOk, vids, mayWrite, V.ids, V.mids, vguard, callOf, vop, ev, cv, vbin, vint, isShift, isNilConst, vnil, isNilSlice, vload, vlen, newRow, vfill, vslice, entOf, vappend, srcOf, vcopy, vlookup, vupdate, mapOk, keyOf, intsOf, clsAt]; try rfl)) (WkV.pure (by simp only [V.into])) ⟨by simp [sRoom, h0], rfl⟩
  have hd : decide (b = 0) = false := by simp [h0]
  rw [hd] at hse
  simp only [gos, ne_eq, eq_self, Nat.reduceLT, Nat.reduceEqDiff, Nat.reduceAdd, Nat.reduceLeDiff, reduceCtorEq, reduceIte, ↓reduceIte, tt, vgo, vout, vguard, callOf, vop, ev, cv, vbin, isNilConst, vload, newRow, vfill, intsOf, hse]
  refine Wr.draw (by kernel_rfl) ?_
  by_cases h1 : b ≤ r.pl
  · simp only [gos, eq_self, Nat.reduceLT, Nat.reduceEqDiff, Nat.reduceAdd, reduceCtorEq, reduceIte, ↓reduceIte, tt, vgoD, voutD, vclsOk, vids, mayWrite, V.ids, vguard, callOf, vop, ev, cv, vbin, vint, isShift, isNilConst, vload, clsAt, rms, h1, vI, hhw, Int.natCast_nonneg, cI_at (Int.natCast_nonneg h) hhw, w1, w2]
    subst hQ
    exact FnPost.plain trivial (fun h2 e => by first | rfl | (simp only [Try.f55, vres, vresL, vres1, e _, gos, if_true, if_false, ne_eq, eq_self, Nat.reduceLT, Nat.reduceEqDiff, Nat.reduceAdd, Nat.reduceMul, Nat.reduceLeDiff, Nat.reduceBEq, reduceCtorEq, reduceIte, Array.toList, ↓reduceIte, tt, vgo, vout, vgoD, voutD, vclsOk, vids, mayWrite, V.ids, V.mids, vguard, callOf, vop, ev, cv, vbin, vint, isShift, isNilConst, vnil, isNilSlice, vload, vlen, newRow, vfill, vslice, entOf, vappend, srcOf, vcopy, vlookup, vupdate, mapOk, keyOf, intsOf, clsAt]; try rfl)) (WkV.pure (by simp only [V.into])) ⟨by simp [sRoom, h0, h1], rfl⟩
  · simp only [gos, eq_self, Nat.reduceLT, Nat.reduceEqDiff, Nat.reduceAdd, reduceCtorEq, reduceIte, ↓reduceIte, tt, vgoD, voutD, vclsOk, vids, mayWrite, V.ids, vguard, callOf, vop, ev, cv, vbin, vint, isShift, isNilConst, vload, clsAt, rms, h1]
    subst hQ
    exact FnPost.plain trivial (fun h2 e => by first | rfl | (simp only [Try.f55, vres, vresL, vres1, e _, gos, if_true, if_false, ne_eq, eq_self, Nat.reduceLT, Nat.reduceEqDiff, Nat.reduceAdd, Nat.reduceMul, Nat.reduceLeDiff, Nat.reduceBEq, reduceCtorEq, reduceIte, Array.toList, ↓reduceIte, tt, vgo, vout, vgoD, voutD, vclsOk, vids, mayWrite, V.ids, V.mids, vguard, callOf, vop, ev, cv, vbin, vint, isShift, isNilConst, vnil, isNilSlice, vload, vlen, newRow, vfill, vslice, entOf, vappend, srcOf, vcopy, vlookup, vupdate, mapOk, keyOf, intsOf, clsAt]; try rfl)) (WkV.pure (by simp only [V.into])) ⟨by simp [sRoom, h0, h1], rfl⟩
theorem c_bposs (r : Rm) (k : RmOk r) (n : List Int) (hn : NOk n) : Pu Try.prog (.fn 40 [] []) [.agg r.cs, .agg (cI n)] (.bool (sPossN r n)) := by
  refine Ev.fn Try.func40 rfl rfl (Fn.body tabOk Try.func40 rfl (Nat.le_of_ble_eq_true rfl) (Ks.ok (fz := (fzn [])) (cl := (cln [(4, .d tg0 [cP, cP, cP, cP, cP, cP, cP, cP])])) tabOk mixed ?_))
  generalize hQ : FnPost tt Try.f40 _ _ = Q
  simp only [Try.f40, List.nil_append, List.append_nil, argsEnv, Nat.reduceAdd]
  have hl := k.A.k0.last
  have hn5 : (cI n).length = 5 := by rw [cI_len, hn.len]
  have ht5 : List.take 5 (cI n) = cI n := List.take_of_length_le (by omega)
  have hone := cI_one n
  simp only [gos, eq_self, Nat.reduceLT, Nat.reduceEqDiff, reduceCtorEq, reduceIte, ↓reduceIte, tt, vgo, vout, vguard, callOf, vop, ev, cv, vload, newRow, rms]
  refine Cl.pu (c_hours r ⟨by omega, by omega⟩) ?_ rfl (by simp only [V.into, intoL, Bool.and_true, rm_into])
  simp only [gos, eq_self, Nat.reduceLT, reduceIte, ↓reduceIte, vgo, vout, vguard, callOf, vop, ev, cv]
  refine W.loop tabOk mixed (fun i : Nat => ([(2, .rop r.cs), (3, .rop (cI n)), (7, vi (r.cu.last + 1)), (8, vi i)], [])) (fun i => (r.cu.last + 1).toNat - i) (fun i => (i : Int) ≤ r.cu.last + 1 ∧ ∀ j, j < i → sRoom r j (gi n j) = true) 0 ⟨by omega, fun j hj => by omega⟩ (Wk.env (by simp [subE, Env.get])) ?_
  rintro i ⟨hi, hall⟩
  by_cases hil : (i : Int) < r.cu.last + 1
  · have hi5 : (i : Int) < ((5 : Nat) : Int) := by omega
    have hiL : (i : Int) < n.length := by rw [hn.len]; omega
    have hat := cI_at (Int.natCast_nonneg i) hiL
    rw [Int.toNat_natCast, Nat.mul_one] at hat
    simp only [gos, eq_self, Nat.reduceLT, Nat.reduceEqDiff, reduceIte, ↓reduceIte, vgo, vout, vguard, callOf, vop, ev, vbin, vint, isShift, isNilConst, hil]
    refine Wr.draw (by kernel_rfl) ?_
    simp only [gos, eq_self, Nat.reduceLT, Nat.reduceEqDiff, Nat.reduceAdd, Nat.reduceLeDiff, reduceCtorEq, reduceIte, ↓reduceIte, tt, vgoD, voutD, vclsOk, vids, mayWrite, V.ids, vguard, callOf, vop, ev, vload, vfill, clsAt, rms, hi5, Int.natCast_nonneg, Int.toNat_natCast, Nat.mul_one, hat]
    refine CD.pu (c_room r k i (by omega) (gi n i) (hn.le i)) ?_ rfl (by simp only [V.into, intoL, Bool.and_true, rm_into])
    cases hr : sRoom r i (gi n i) with
    | false =>
      simp only [gos, eq_self, Nat.reduceLT, Nat.reduceEqDiff, reduceIte, ↓reduceIte, vgo, vout, vgoD, voutD, vclsOk, vids, mayWrite, vguard, callOf, vop, ev, cv]
      subst hQ
      exact FnPost.plain trivial (fun h2 e => by first | rfl | (simp only [Try.f40, vres, vresL, vres1, e _, gos, if_true, if_false, ne_eq, eq_self, Nat.reduceLT, Nat.reduceEqDiff, Nat.reduceAdd, Nat.reduceMul, Nat.reduceLeDiff, Nat.reduceBEq, reduceCtorEq, reduceIte, Array.toList, ↓reduceIte, tt, vgo, vout, vgoD, voutD, vclsOk, vids, mayWrite, V.ids, V.mids, vguard, callOf, vop, ev, cv, vbin, vint, isShift, isNilConst, vnil, isNilSlice, vload, vlen, newRow, vfill, vslice, entOf, vappend, srcOf, vcopy, vlookup, vupdate, mapOk, keyOf, intsOf, clsAt]; try rfl)) (WkV.pure (by simp only [V.into])) ⟨by rw [sPossN, range_all_false (i := i) (by omega) hr], rfl⟩
    | true =>
      simp only [gos, eq_self, Nat.reduceLT, Nat.reduceEqDiff, reduceIte, ↓reduceIte, vgo, vout, vgoD, voutD, vclsOk, vids, mayWrite, vguard, callOf, vop, ev, cv, vbin, vint, isShift, isNilConst]
      exact Nx.mk (i + 1) (show (r.cu.last + 1).toNat - (i + 1) < (r.cu.last + 1).toNat - i by omega) ⟨by omega, fun j hj => by
        by_cases e : j = i
        · subst e; exact hr
        · exact hall j (by omega)⟩ (Wk.env (by simp [subE, Env.get, i64_succ (show (i : Int) < 9223372036854775807 by omega)]))
  · simp only [gos, eq_self, Nat.reduceLT, Nat.reduceEqDiff, reduceIte, ↓reduceIte, vgo, vout, vguard, callOf, vop, ev, cv, vbin, vint, isShift, isNilConst, hil]
    subst hQ
    exact FnPost.plain trivial (fun h2 e => by first | rfl | (simp only [Try.f40, vres, vresL, vres1, e _, gos, if_true, if_false, ne_eq, eq_self, Nat.reduceLT, Nat.reduceEqDiff, Nat.reduceAdd, Nat.reduceMul, Nat.reduceLeDiff, Nat.reduceBEq, reduceCtorEq, reduceIte, Array.toList, ↓reduceIte, tt, vgo, vout, vgoD, voutD, vclsOk, vids, mayWrite, V.ids, V.mids, vguard, callOf, vop, ev, cv, vbin, vint, isShift, isNilConst, vnil, isNilSlice, vload, vlen, newRow, vfill, vslice, entOf, vappend, srcOf, vcopy, vlookup, vupdate, mapOk, keyOf, intsOf, clsAt]; try rfl)) (WkV.pure (by simp only [V.into])) ⟨by rw [sPossN, range_all_true fun j hj => hall j (by omega)], rfl⟩
/-! what was found of numbers -/
abbrev MemoI := List (List Int × Int)
def memoI : MemoI → List (V × V)
  | [] => []
  | (k, b) :: r => (.agg (cI k), vi b) :: memoI r
def kget (key : List Int) : MemoI → Option Int
  | [] => none
  | (k, b) :: r => if key = k then some b else kget key r
def BMemo (r : Rm) (m : MemoI) : Prop := ∀ x ∈ m, x.1.length = 5 ∧ x.2 = keV r x.1
theorem vfind_memoI {r : Rm} {key : List Int} : ∀ {m : MemoI}, BMemo r m → vfind 5 key (memoI m) = some ((kget key m).map vi)
  | [], _ => rfl
  | (k, b) :: l, h => by
    have h5 : k.length = 5 := (h (k, b) (by simp)).1
    simp only [memoI, vfind, intsOf_cI, h5, if_true, kget]
    split
    · rfl
    · exact vfind_memoI fun x hx => h x (by simp [hx])
theorem memoI_snoc : ∀ (m : MemoI) (k : List Int) (b : Int), memoI (m ++ [(k, b)]) = memoI m ++ [(.agg (cI k), vi b)]
  | [], k, b => rfl
  | (k', b') :: m, k, b => by simp only [List.cons_append, memoI, memoI_snoc m k b]
theorem memoI_into (p : Nat → Bool) : ∀ m : MemoI, intoPs p (memoI m) = true
  | [] => rfl
  | (k, b) :: m => by simp only [memoI, intoPs, V.into, cI_into, memoI_into p m, Bool.and_self]
theorem kget_mem {key : List Int} {b : Int} : ∀ {m : MemoI}, kget key m = some b → (key, b) ∈ m
  | [], h => by cases h
  | (k, c) :: m, h => by
    rw [kget] at h
    split at h
    · rename_i e; injection h with h; subst e; subst h; simp
    · exact List.mem_cons_of_mem _ (kget_mem h)
theorem BMemo.add {r : Rm} {m : MemoI} (M : BMemo r m) {n : List Int} (h : n.length = 5) : BMemo r (m ++ [(n, keV r n)]) := fun x hx => by
  rcases List.mem_append.1 hx with hx | hx
  · exact M x hx
  · rw [List.mem_singleton.1 hx]; exact ⟨h, rfl⟩
theorem BMemo.nil (r : Rm) : BMemo r [] := fun x hx => by cases hx
def keMM (r : Rm) (m : MemoI) (n : List Int) : MemoI := match kget n m with
  | some _ => m
  | none => m ++ [(n, keV r n)]
theorem BMemo.ke {r : Rm} {m : MemoI} (M : BMemo r m) {n : List Int} (h : n.length = 5) : BMemo r (keMM r m n) := by
  unfold keMM; split
  · exact M
  · exact M.add h
theorem n_bu {r : Rm} (k : RmOk r) {n : List Int} (hn : NOk n) (i : Nat) : I64 (r.bu * gi n i) := by
  have hb := k.bu
  have := hn.le i
  have := mul_in (a := r.bu) (b := gi n i) (by omega) (by omega)
  exact ⟨by omega, by omega⟩
set_option maxHeartbeats 1000000 in
theorem c_bkeeps (r : Rm) (k : RmOk r) (m : MemoI) (M : BMemo r m) (mi : Nat) (h3 : mi ≠ 3) (n : List Int) (hn : NOk n) :
    Ev Try.prog (.fn 19 [] []) [.rop (bw r (.mp mi)), .agg (cI n)] [(mi, ⟨0, .map (memoI m)⟩)] fun v h' => v = vi (keV r n) ∧ h' = [(mi, ⟨0, .map (memoI (keMM r m n))⟩)] := by
  refine Ev.fn Try.func19 rfl rfl (Fn.body tabOk Try.func19 rfl (Nat.le_of_ble_eq_true rfl) (Ks.ok (fz := (fzn [])) (cl := (cln [(1, .d tg0 [cP, cP, cP, cP, cP, cL, cP, cP, cP, cP, cP]), (3, .d tg0 [cP, cP, cP, cP, cP, cP, cP, cP, cP, cP, cP, cP, cP, cP, cP, cP, cP]), (10, .d tg0 [cP, cP, cP, cP, cP, cP, cW])])) tabOk mixed ?_))
  generalize hQ : FnPost tt Try.f19 _ _ = Q
  simp only [Try.f19, List.nil_append, List.append_nil, argsEnv, Nat.reduceAdd]
  have hl := k.A.k0.last
  have h3' : ¬ 3 = mi := fun e => h3 e.symm
  have hn5 : (cI n).length = 5 := by rw [cI_len, hn.len]
  have ht5 : List.take 5 (cI n) = cI n := List.take_of_length_le (by omega)
  have hone := cI_one n
  simp only [gos, eq_self, Nat.reduceLT, reduceCtorEq, reduceIte, ↓reduceIte, vgo, vout, vguard, callOf, vop, ev, cv, newRow]
  refine Wr.draw (by kernel_rfl) ?_
  cases hg : kget n m with
  | some b =>
    simp only [gos, ne_eq, eq_self, Nat.reduceLT, Nat.reduceEqDiff, Nat.reduceAdd, reduceCtorEq, reduceIte, ↓reduceIte, tt, vgo, vout, vgoD, voutD, vclsOk, vids, mayWrite, V.ids, V.mids, vguard, callOf, vop, ev, vload, vlookup, mapOk, keyOf, clsAt, bws, hn5, ht5, intsOf_cI, vfind_memoI M, hg, hn.len]
    have hbv := (M _ (kget_mem hg)).2
    subst hQ
    refine FnPost.plain trivial (v := vi b) (fun h2 e => by rfl) WkV.refl ⟨by rw [← hbv], by rw [keMM, hg]⟩
  | none =>
    simp only [gos, ne_eq, eq_self, Nat.reduceLT, Nat.reduceEqDiff, Nat.reduceAdd, reduceCtorEq, reduceIte, ↓reduceIte, tt, vgo, vout, vgoD, voutD, vclsOk, vids, mayWrite, V.ids, V.mids, vguard, callOf, vop, ev, vload, vlookup, mapOk, keyOf, clsAt, bws, hn5, ht5, intsOf_cI, vfind_memoI M, hg, hn.len]
    refine Wr.draw (by kernel_rfl) ?_
    simp only [gos, eq_self, Nat.reduceLT, Nat.reduceEqDiff, Nat.reduceAdd, Nat.reduceLeDiff, reduceCtorEq, reduceIte, ↓reduceIte, tt, vgoD, voutD, vclsOk, vids, mayWrite, V.ids, vguard, callOf, vop, ev, vload, clsAt, bws, hn5, ht5]
    refine CD.pu (c_bbk r hl n hn.len fun i _ => n_bu k hn i) ?_ rfl (by simp only [V.into, intoL, cI_into, Bool.and_true, rm_into])
    simp only [gos, eq_self, Nat.reduceLT, Nat.reduceEqDiff, reduceIte, ↓reduceIte, vgoD, voutD, vguard, callOf, ev]
    refine CD.pu (c_More r.cu k.A.k0.wf (nb r n) (by rw [nb_len']; omega)) ?_ rfl (by simp only [V.into, intoL, vI_into, cu_into, Bool.and_true])
    simp only [gos, eq_self, Nat.reduceLT, Nat.reduceEqDiff, reduceIte, ↓reduceIte, vgo, vout, vgoD, voutD, vclsOk, vids, mayWrite, vguard, callOf, vop, ev, cv, vbin, vint, isShift, isNilConst]
    have hM2 := M.add hn.len
    have hend : ∀ b : Int, b = keV r n → memoI m ++ [(V.agg (cI n), vi b)] = memoI (m ++ [(n, keV r n)]) := fun b hb => by rw [memoI_snoc, hb]
    by_cases h1 : (sMoreA r.cu (nb r n)).1 = 1
    · have hd : decide ((sMoreA r.cu (nb r n)).1 = 1) = true := by simp [h1]
      have hk : (1 : Int) = keV r n := by rw [keV, keU, if_pos h1]
      simp only [gos, eq_self, Nat.reduceLT, Nat.reduceEqDiff, reduceIte, ↓reduceIte, vgo, vout, vguard, callOf, vop, ev, cv, hd]
      refine Wr.draw (by kernel_rfl) ?_
      simp only [gos, ne_eq, eq_self, Nat.reduceLT, Nat.reduceEqDiff, Nat.reduceAdd, reduceCtorEq, reduceIte, ↓reduceIte, tt, vgo, vout, vgoD, voutD, vclsOk, vids, mayWrite, V.ids, V.mids, vguard, callOf, vop, ev, vload, vupdate, mapOk, keyOf, clsAt, bws, hn5, ht5, intsOf_cI, vfind_memoI M, hg, hn.len]
      subst hQ
      exact FnPost.plain trivial (v := vi 1) (fun h2 e => by rfl) (WkV.drop (h' := [(mi, ⟨0, .map (memoI (m ++ [(n, keV r n)]))⟩)]) (by rw [← hend 1 hk]; simp [subH, Heap.get]) (fun j hp => by simpa [domP, Heap.get] using hp) rfl (by simp only [intoH, Blk.into, memoI_into, Bool.and_self])) ⟨by rw [← hk], by rw [keMM, hg]⟩
    · have hd : decide ((sMoreA r.cu (nb r n)).1 = 1) = false := by simp [h1]
      by_cases h2 : (sMoreA r.cu (nb r n)).1 = 2
      · have hd2 : decide ((sMoreA r.cu (nb r n)).1 = 2) = true := by simp [h2]
        have hk : (2 : Int) = keV r n := by rw [keV, keU, if_neg h1, if_pos h2]
        simp only [gos, eq_self, Nat.reduceLT, Nat.reduceEqDiff, reduceIte, ↓reduceIte, vgo, vout, vguard, callOf, vop, ev, cv, vbin, vint, isShift, isNilConst, hd, hd2]
        refine Wr.draw (by kernel_rfl) ?_
        simp only [gos, ne_eq, eq_self, Nat.reduceLT, Nat.reduceEqDiff, Nat.reduceAdd, reduceCtorEq, reduceIte, ↓reduceIte, tt, vgo, vout, vgoD, voutD, vclsOk, vids, mayWrite, V.ids, V.mids, vguard, callOf, vop, ev, vload, vupdate, mapOk, keyOf, clsAt, bws, hn5, ht5, intsOf_cI, vfind_memoI M, hg, hn.len]
        subst hQ
        exact FnPost.plain trivial (v := vi 2) (fun h2 e => by rfl) (WkV.drop (h' := [(mi, ⟨0, .map (memoI (m ++ [(n, keV r n)]))⟩)]) (by rw [← hend 2 hk]; simp [subH, Heap.get]) (fun j hp => by simpa [domP, Heap.get] using hp) rfl (by simp only [intoH, Blk.into, memoI_into, Bool.and_self])) ⟨by rw [← hk], by rw [keMM, hg]⟩
      · have hd2 : decide ((sMoreA r.cu (nb r n)).1 = 2) = false := by simp [h2]
        have hk : (3 : Int) = keV r n := by rw [keV, keU, if_neg h1, if_neg h2]
        simp only [gos, eq_self, Nat.reduceLT, Nat.reduceEqDiff, reduceIte, ↓reduceIte, vgo, vout, vguard, callOf, vop, ev, cv, vbin, vint, isShift, isNilConst, hd, hd2]
        refine Wr.draw (by kernel_rfl) ?_
        simp only [gos, ne_eq, eq_self, Nat.reduceLT, Nat.reduceEqDiff, Nat.reduceAdd, reduceCtorEq, reduceIte, ↓reduceIte, tt, vgo, vout, vgoD, voutD, vclsOk, vids, mayWrite, V.ids, V.mids, vguard, callOf, vop, ev, vload, vupdate, mapOk, keyOf, clsAt, bws, hn5, ht5, intsOf_cI, vfind_memoI M, hg, hn.len]
        subst hQ
        exact FnPost.plain trivial (v := vi 3) (fun h2 e => by rfl) (WkV.drop (h' := [(mi, ⟨0, .map (memoI (m ++ [(n, keV r n)]))⟩)]) (by rw [← hend 3 hk]; simp [subH, Heap.get]) (fun j hp => by simpa [domP, Heap.get] using hp) rfl (by simp only [intoH, Blk.into, memoI_into, Bool.and_self])) ⟨by rw [← hk], by rw [keMM, hg]⟩
def suMM (r : Rm) (m : MemoI) (n : List Int) : MemoI := if sPossN r n = true then keMM r m n else m
theorem BMemo.su {r : Rm} {m : MemoI} (M : BMemo r m) {n : List Int} (h : n.length = 5) : BMemo r (suMM r m n) := by
  unfold suMM; split
  · exact M.ke h
  · exact M
theorem c_bsure (r : Rm) (k : RmOk r) (m : MemoI) (M : BMemo r m) (mi : Nat) (h3 : mi ≠ 3) (n : List Int) (hn : NOk n) :
    Ev Try.prog (.fn 23 [] []) [.rop (bw r (.mp mi)), .agg (cI n)] [(mi, ⟨0, .map (memoI m)⟩)] fun v h' => v = .bool (sSureN r n) ∧ h' = [(mi, ⟨0, .map (memoI (suMM r m n))⟩)] := by
  refine Ev.fn Try.func23 rfl rfl (Fn.body tabOk Try.func23 rfl (Nat.le_of_ble_eq_true rfl) (Ks.ok (fz := (fzn [])) (cl := (cln [(1, .d tg0 [cP, cP, cP, cP, cP, cP, cP, cP, cP, none, cP, cP, cP])])) tabOk mixed ?_))
  generalize hQ : FnPost tt Try.f23 _ _ = Q
  simp only [Try.f23, List.nil_append, List.append_nil, argsEnv, Nat.reduceAdd]
  have hn5 : (cI n).length = 5 := by rw [cI_len, hn.len]
  have ht5 : List.take 5 (cI n) = cI n := List.take_of_length_le (by omega)
  have hone := cI_one n
  have hmi : intoH (domP [(mi, ⟨0, .map (memoI m)⟩)]) [(mi, ⟨0, .map (memoI m)⟩)] = true := by simp only [intoH, Blk.into, memoI_into, Bool.and_self]
  simp only [gos, eq_self, Nat.reduceLT, reduceCtorEq, reduceIte, ↓reduceIte, vgo, vout, vguard, callOf, vop, ev, cv, newRow]
  refine Wr.draw (by kernel_rfl) ?_
  simp only [gos, eq_self, Nat.reduceLT, Nat.reduceEqDiff, Nat.reduceAdd, Nat.reduceLeDiff, reduceCtorEq, reduceIte, ↓reduceIte, tt, vgoD, voutD, vclsOk, vids, mayWrite, V.ids, vguard, callOf, vop, ev, vload, clsAt, bws, hn5, ht5]
  refine CD.pu (c_bposs r k n hn) ?_ rfl (by simp only [V.into, intoL, cI_into, Bool.and_true, rm_into])
  cases hp : sPossN r n with
  | false =>
    simp only [gos, eq_self, Nat.reduceLT, Nat.reduceEqDiff, reduceIte, ↓reduceIte, vgoD, voutD, vclsOk, vids, mayWrite, vguard, callOf, vop, ev, cv]
    subst hQ
    exact FnPost.plain trivial (v := .bool false) (fun h2 e => by rfl) WkV.refl ⟨by simp [sSureN, hp], by simp [suMM, hp]⟩
  | true =>
    simp only [gos, eq_self, Nat.reduceLT, Nat.reduceEqDiff, reduceCtorEq, reduceIte, ↓reduceIte, tt, vgoD, voutD, vclsOk, vids, mayWrite, V.ids, vguard, callOf, vop, ev, vload, hn5, ht5]
    refine CD.ev _ _ (c_bkeeps r k m M mi h3 n hn) ?_
    simp only [gos, eq_self, Nat.reduceLT, Nat.reduceEqDiff, reduceIte, ↓reduceIte, vgoD, voutD, vclsOk, vids, mayWrite, vguard, callOf, vop, ev, cv, vbin, vint, isShift, isNilConst]
    subst hQ
    exact FnPost.plain trivial (v := .bool (decide (keV r n = 1))) (fun h2 e => by rfl) (WkV.drop (h' := [(mi, ⟨0, .map (memoI (keMM r m n))⟩)]) (by simp [subH, Heap.get]) (fun j hp => by simpa [domP, Heap.get] using hp) rfl (by simp only [intoH, Blk.into, memoI_into, Bool.and_self])) ⟨by simp [sSureN, hp], by simp [suMM, hp]⟩
/-- Over the memo and whatever else. -/
theorem Ev.memo {P : Program} {fv : V} {args : List V} {v : V} {mi : Nat} {m m' : MemoI} (c : Ev P fv args [(mi, ⟨0, .map (memoI m)⟩)] fun v' h' => v' = v ∧ h' = [(mi, ⟨0, .map (memoI m')⟩)]) (k : Heap) (hk : k.get mi = none)
    (hf : fv.into (domP [(mi, ⟨0, .map (memoI m)⟩)]) = true) (ha : intoL (domP [(mi, ⟨0, .map (memoI m)⟩)]) args = true) :
    Ev P fv args ((mi, ⟨0, .map (memoI m)⟩) :: k) fun v' h' => v' = v ∧ h' = (mi, ⟨0, .map (memoI m')⟩) :: k := by
  have hsub : ∀ (X : MemoI) (i : Nat) (e : Ent), Heap.get [(mi, ⟨0, .map (memoI X)⟩)] i = some e → k.get i = none := fun X i e he => by
    simp only [Heap.get] at he
    by_cases h : i = mi
    · subst h; exact hk
    · rw [if_neg h] at he; cases he
  refine (c.frame k (hsub m) hf ha ?_ ?_).mono ?_
  · simp only [intoH, Blk.into, memoI_into, Bool.and_self]
  · rintro v' h' ⟨_, rfl⟩
    exact hsub _
  · rintro v' h'' ⟨h', ⟨rfl, rfl⟩, rfl⟩
    exact ⟨rfl, rfl⟩
theorem bw_dom (r : Rm) {mi : Nat} {m : MemoI} : intoL (domP [(mi, ⟨0, .map (memoI m)⟩)]) (bw r (.mp mi)) = true := bw_into _ _ _ (by simp [V.into, domP, Heap.get])
theorem c_bkeepsK (r : Rm) (k : RmOk r) (m : MemoI) (M : BMemo r m) (mi : Nat) (h3 : mi ≠ 3) (n : List Int) (hn : NOk n) (h : Heap) (hk : h.get mi = none) :
    Ev Try.prog (.fn 19 [] []) [.rop (bw r (.mp mi)), .agg (cI n)] ((mi, ⟨0, .map (memoI m)⟩) :: h) fun v h' => v = vi (keV r n) ∧ h' = (mi, ⟨0, .map (memoI (keMM r m n))⟩) :: h :=
  (c_bkeeps r k m M mi h3 n hn).memo h hk rfl (by simp only [intoL, V.into, bw_dom, cI_into, Bool.and_self])
theorem c_bsureK (r : Rm) (k : RmOk r) (m : MemoI) (M : BMemo r m) (mi : Nat) (h3 : mi ≠ 3) (n : List Int) (hn : NOk n) (h : Heap) (hk : h.get mi = none) :
    Ev Try.prog (.fn 23 [] []) [.rop (bw r (.mp mi)), .agg (cI n)] ((mi, ⟨0, .map (memoI m)⟩) :: h) fun v h' => v = .bool (sSureN r n) ∧ h' = (mi, ⟨0, .map (memoI (suMM r m n))⟩) :: h :=
  (c_bsure r k m M mi h3 n hn).memo h hk rfl (by simp only [intoL, V.into, bw_dom, cI_into, Bool.and_self])
end Go.Vm

set_option linter.unusedVariables false
set_option linter.unusedSimpArgs false
set_option maxRecDepth 100000
namespace Go.Vm
open Go.Proofs
theorem bw_ren (s : Nat → Nat) (r : Rm) (m : V) : renL s (bw r m) = bw r (m.ren s) := by
  simp only [bw, renL, V.ren, vI, vR, vD, cI_ren, cR_ren, cD_ren]
theorem bw_frz (i v : Nat) (cs : List V) (r : Rm) (m : V) : frzL i v cs (bw r m) = bw r (m.frz i v cs) := by
  simp only [bw, frzL, V.frz, vI, vR, vD, cI_frz, cR_frz, cD_frz]
theorem rm_frz (i v : Nat) (cs : List V) (r : Rm) : frzL i v cs r.cs = r.cs := by
  simp only [Rm.cs, frzL, V.frz, vI, vR, vD, cI_frz, cR_frz, cD_frz]
theorem rm_ren (s : Nat → Nat) (r : Rm) : renL s r.cs = r.cs := by
  simp only [Rm.cs, renL, V.ren, vI, vR, vD, cI_ren, cR_ren, cD_ren]
/-- A room at work: its map bears the number 90. -/
def BaskQ (r : Rm) (e : Int) (v : V) (h' : Heap) : Prop := (e ≠ 0 ∧ v = .tup [.nilp, vi e] ∧ h' = []) ∨ (e = 0 ∧ v = .tup [.rop (bw r (.mp 90)), vi 0] ∧ h' = [(90, ⟨0, .map []⟩)])
theorem c_bask (r : Rm) (hr : r.wf) : Ev Try.prog (.fn 20 [] []) [.agg r.cs] [] (BaskQ r (sCheckR r)) :=
  (c_basked r hr).weakV fun v h' h => by
    rcases h with ⟨h1, rfl, rfl⟩ | ⟨h1, rfl, rfl⟩
    · exact ⟨_, _, WkV.refl, .inl ⟨h1, rfl, rfl⟩⟩
    · refine ⟨.tup [.rop (bw r (.mp 90)), vi 0], [(90, ⟨0, .map []⟩)], WkV.of_wk ?_, .inr ⟨h1, rfl, rfl⟩⟩
      refine Wk.trans (Wk.ren 11 90 rfl rfl) ?_
      simp only [renE, renH, V.ren, renL, bw_ren, Blk.ren, renPs, sw]
      exact Wk.refl
theorem c_baskN (r : Rm) (hr : r.wf) (h0 : sCheckR r ≠ 0) : Pu Try.prog (.fn 20 [] []) [.agg r.cs] (.tup [.nilp, vi (sCheckR r)]) :=
  (c_bask r hr).mono fun v h' h => by
    rcases h with ⟨h1, rfl, rfl⟩ | ⟨h1, rfl, rfl⟩
    · exact ⟨rfl, rfl⟩
    · exact absurd h1 h0
theorem n_bask (r : Rm) (hr : r.wf) (h0 : sCheckR r = 0) : NewB Try.prog (.fn 20 [] []) [.agg r.cs] (.tup [.rop (bw r (.mp 90)), vi 0]) 90 ⟨0, .map []⟩ :=
  NewB.of ((c_bask r hr).mono fun v h' h => by
    rcases h with ⟨h1, rfl, rfl⟩ | ⟨h1, rfl, rfl⟩
    · exact absurd h0 h1
    · exact ⟨rfl, rfl⟩) rfl (by simp only [V.into, intoL, Bool.and_true, rm_into])
theorem c_are (r : Rm) (hb : (r.ba.length : Int) ≤ 1000000) (plan : List Int) (hp : (plan.length : Int) ≤ 1000000) : Pu Try.prog (.fn 38 [] []) [.agg r.cs, vI plan] (.bool (sAre r plan)) := by
  refine Ev.fn Try.func38 rfl rfl (Fn.body tabOk Try.func38 rfl (Nat.le_of_ble_eq_true rfl) (Ks.ok (fz := (fzn [6])) (cl := (cln [(6, .d tg0 [cP, cP, cP, cP, cP, cL, cP, cL, cP, cP])])) tabOk mixed ?_))
  generalize hQ : FnPost tt Try.f38 _ _ = Q
  simp only [Try.f38, List.nil_append, List.append_nil, argsEnv, Nat.reduceAdd]
  by_cases hl : plan.length = r.ba.length
  case neg =>
    have hb : ((plan.length : Int) != (r.ba.length : Int)) = true := by simp; omega
    simp only [gos, eq_self, Nat.reduceLT, Nat.reduceEqDiff, reduceCtorEq, reduceIte, ↓reduceIte, tt, vgo, vout, vguard, callOf, vop, ev, cv, vbin, vint, isShift, isNilConst, vload, vlen, newRow, rms, vI, vR, hb]
    subst hQ
    exact FnPost.plain trivial (fun h2 e => by first | rfl | (simp only [Try.f38, vres, vresL, vres1, e _, gos, if_true, if_false, ne_eq, eq_self, Nat.reduceLT, Nat.reduceEqDiff, Nat.reduceAdd, Nat.reduceMul, Nat.reduceLeDiff, Nat.reduceBEq, reduceCtorEq, reduceIte, Array.toList, ↓reduceIte, tt, vgo, vout, vgoD, voutD, vclsOk, vids, mayWrite, V.ids, V.mids, vguard, callOf, vop, ev, cv, vbin, vint, isShift, isNilConst, vnil, isNilSlice, vload, vlen, newRow, vfill, vslice, entOf, vappend, srcOf, vcopy, vlookup, vupdate, mapOk, keyOf, intsOf, clsAt]; try rfl)) (WkV.pure (by simp only [V.into])) ⟨by simp [sAre, hl], rfl⟩
  have hne : ((plan.length : Int) != (r.ba.length : Int)) = false := by simp [hl]
  simp only [gos, eq_self, Nat.reduceLT, Nat.reduceEqDiff, reduceCtorEq, reduceIte, ↓reduceIte, tt, vgo, vout, vguard, callOf, vop, ev, cv, vbin, vint, isShift, isNilConst, vload, vlen, newRow, rms, vI, vR, hne]
  refine W.loop tabOk mixed (fun i : Nat => ([(1, vI plan), (14, vR r.ba), (15, vi r.ba.length), (16, vi i)], [])) (fun i => r.ba.length - i) (fun i => i ≤ r.ba.length ∧ ∀ j < i, sIn (gi plan j) (gR r.ba j).lo (gR r.ba j).hi = true) 0 ⟨by omega, fun j hj => by omega⟩ (Wk.env (by simp [subE, Env.get, vI, vR])) ?_
  rintro i ⟨hi, hj⟩
  by_cases hil : (i : Int) < r.ba.length
  · have hip : (i : Int) < plan.length := by omega
    simp only [gos, eq_self, Nat.reduceLT, Nat.reduceEqDiff, Nat.reduceAdd, reduceCtorEq, reduceIte, ↓reduceIte, tt, vgo, vout, vguard, callOf, vop, ev, vbin, vint, isShift, isNilConst, vload, newRow, vR, hil, cR_at (Int.natCast_nonneg i) hil]
    refine Wr.draw (by kernel_rfl) ?_
    simp only [gos, eq_self, Nat.reduceLT, Nat.reduceEqDiff, Nat.reduceAdd, reduceCtorEq, reduceIte, ↓reduceIte, tt, vgoD, voutD, vclsOk, vids, mayWrite, V.ids, vguard, callOf, vop, ev, vload, clsAt, vI, hip, Int.natCast_nonneg, cI_at (Int.natCast_nonneg i) hip]
    refine CD.pu (c_bwithin (gi plan i) (gR r.ba i).lo (gR r.ba i).hi) ?_
    cases h2 : sIn (gi plan i) (gR r.ba i).lo (gR r.ba i).hi
    · simp only [gos, eq_self, Nat.reduceLT, Nat.reduceEqDiff, reduceIte, ↓reduceIte, vgo, vout, vgoD, voutD, vclsOk, vids, mayWrite, vguard, callOf, vop, ev, cv]
      subst hQ
      exact FnPost.plain trivial (fun h2 e => by first | rfl | (simp only [Try.f38, vres, vresL, vres1, e _, gos, if_true, if_false, ne_eq, eq_self, Nat.reduceLT, Nat.reduceEqDiff, Nat.reduceAdd, Nat.reduceMul, Nat.reduceLeDiff, Nat.reduceBEq, reduceCtorEq, reduceIte, Array.toList, ↓reduceIte, tt, vgo, vout, vgoD, voutD, vclsOk, vids, mayWrite, V.ids, V.mids, vguard, callOf, vop, ev, cv, vbin, vint, isShift, isNilConst, vnil, isNilSlice, vload, vlen, newRow, vfill, vslice, entOf, vappend, srcOf, vcopy, vlookup, vupdate, mapOk, keyOf, intsOf, clsAt]; try rfl)) (WkV.pure (by simp only [V.into])) ⟨by rw [sAre, range_all_false (i := i) (by omega) h2]; simp, rfl⟩
    · simp only [gos, eq_self, Nat.reduceLT, Nat.reduceEqDiff, reduceIte, ↓reduceIte, vgo, vout, vgoD, voutD, vclsOk, vids, mayWrite, vguard, callOf, vop, ev, cv, vbin, vint, isShift, isNilConst]
      refine Nx.mk (i + 1) (show r.ba.length - (i + 1) < r.ba.length - i by omega) ⟨by omega, fun j hlt => ?_⟩ (Wk.forget (by simp [subE, Env.get, i64_succ (show (i : Int) < 9223372036854775807 by omega)]) (by simp [subH]) (fun j hp => by simp [orD, domP, Heap.get] at hp) (by simp only [intoE, V.into, cI_into, cR_into, Bool.and_true]) (by simp only [intoH]))
      rcases Nat.lt_or_eq_of_le (Nat.le_of_lt_succ hlt) with h | rfl
      · exact hj j h
      · exact h2
  · simp only [gos, eq_self, Nat.reduceLT, Nat.reduceEqDiff, reduceIte, ↓reduceIte, vgo, vout, vguard, callOf, vop, ev, cv, vbin, vint, isShift, isNilConst, vR, hil]
    subst hQ
    exact FnPost.plain trivial (fun h2 e => by first | rfl | (simp only [Try.f38, vres, vresL, vres1, e _, gos, if_true, if_false, ne_eq, eq_self, Nat.reduceLT, Nat.reduceEqDiff, Nat.reduceAdd, Nat.reduceMul, Nat.reduceLeDiff, Nat.reduceBEq, reduceCtorEq, reduceIte, Array.toList, ↓reduceIte, tt, vgo, vout, vgoD, voutD, vclsOk, vids, mayWrite, V.ids, V.mids, vguard, callOf, vop, ev, cv, vbin, vint, isShift, isNilConst, vnil, isNilSlice, vload, vlen, newRow, vfill, vslice, entOf, vappend, srcOf, vcopy, vlookup, vupdate, mapOk, keyOf, intsOf, clsAt]; try rfl)) (WkV.pure (by simp only [V.into])) ⟨by rw [sAre, range_all_true fun j hj' => hj j (by omega)]; simp [hl], rfl⟩
theorem addC_take {n plan : List Int} {i : Nat} (h : (i : Int) < plan.length) : addC n (plan.take (i + 1)) = inc (addC n (plan.take i)) (gi plan i) := by
  rw [gi_take h]; simp [addC]
theorem addC_le (plan n : List Int) (hp : ∀ h ∈ plan, 0 ≤ h ∧ h < n.length) (i : Nat) : gi (addC n plan) i ≤ gi n i + plan.length := by
  rw [addC_gi plan n hp i]
  have := List.countP_le_length (p := fun h : Int => decide ((i : Int) = h)) (l := plan)
  omega
theorem c_counted (plan : List Int) (hl : (plan.length : Int) ≤ 1000) (hp : ∀ h ∈ plan, 0 ≤ h ∧ h < 5) : Pu Try.prog (.fn 39 [] []) [vI plan] (.agg (cI (cntN plan))) := by
  refine Ev.fn Try.func39 rfl rfl (Fn.body tabOk Try.func39 rfl (Nat.le_of_ble_eq_true rfl) (Ks.ok (fz := (fzn [2])) (cl := (cln [])) tabOk mixed ?_))
  generalize hQ : FnPost tt Try.f39 _ _ = Q
  simp only [Try.f39, List.nil_append, List.append_nil, argsEnv]
  simp only [gos, eq_self, Nat.reduceLT, reduceCtorEq, reduceIte, ↓reduceIte, tt, vgo, vout, vguard, callOf, vop, ev, cv, vlen, newRow, vI]
  refine W.loop tabOk mixed (fun i : Nat => ([(5, vI plan), (6, vi plan.length), (7, vi i), (2, .ptr 2 0 0)], [(2, ⟨0, .row (cI (addC zL (plan.take i)))⟩)])) (fun i => plan.length - i) (fun i => i ≤ plan.length) 0 (by omega) (Wk.env (by simp [subE, Env.get, vI])) ?_
  intro i hi
  have hlen : (addC zL (plan.take i)).length = 5 := by rw [addC_len]; rfl
  have h5 : (cI (addC zL (plan.take i))).length = 5 := by rw [cI_len, hlen]
  by_cases hil : (i : Int) < plan.length
  · have hx := hp _ (gi_mem (show i < plan.length by omega))
    have hx5 : gi plan i < ((5 : Nat) : Int) := by omega
    have hxl : gi plan i < (addC zL (plan.take i)).length := by rw [hlen]; omega
    have hat := cI_at hx.1 hxl
    rw [Nat.mul_one] at hat
    have hsub : ∀ h ∈ plan.take i, 0 ≤ h ∧ h < (zL.length : Int) := fun h hh => hp h (List.mem_of_mem_take hh)
    have hge := addC_ge (plan.take i) zL hsub (gi plan i).toNat
    have hle := addC_le (plan.take i) zL hsub (gi plan i).toNat
    rw [zL_gi, show (((gi plan i).toNat : Nat) : Int) = gi plan i by omega] at hge hle
    have htl : (plan.take i).length ≤ plan.length := by rw [List.length_take]; omega
    have w1 := i64_in (show -9223372036854775808 ≤ gi (addC zL (plan.take i)) (gi plan i) + 1 by omega) (show gi (addC zL (plan.take i)) (gi plan i) + 1 ≤ 9223372036854775807 by omega)
    have hset : List.take (gi plan i).toNat (cI (addC zL (plan.take i))) ++ [V.int IntKind.i64 (gi (addC zL (plan.take i)) (gi plan i) + 1)] ++ List.drop ((gi plan i).toNat + 1) (cI (addC zL (plan.take i))) = cI (addC zL (plan.take (i + 1))) := by
      rw [addC_take hil, inc]; exact cI_set _ (by rw [hlen]; omega)
    have hc : (gi plan i).toNat + 1 ≤ 5 := by omega
    have hatp := cI_at (Int.natCast_nonneg i) hil
    rw [Nat.mul_one] at hatp
    simp only [gos, eq_self, Nat.reduceLT, Nat.reduceEqDiff, reduceCtorEq, reduceIte, ↓reduceIte, tt, vgo, vout, vguard, callOf, vop, ev, cv, vbin, vint, isShift, isNilConst, vload, vI, hil, hatp, hx.1, hx5, Nat.mul_one, Nat.zero_add, hat, w1, h5, hc, hset]
    exact Nx.mk (i + 1) (show plan.length - (i + 1) < plan.length - i by omega) (by omega) (Wk.env (by simp [subE, Env.get, i64_succ (show (i : Int) < 9223372036854775807 by omega)]))
  · have e : plan.take i = plan := List.take_of_length_le (by omega)
    rw [e] at h5 ⊢
    have ht5 : List.take 5 (cI (addC zL plan)) = cI (addC zL plan) := List.take_of_length_le (by omega)
    have hd5 : List.drop 5 (cI (addC zL plan)) = [] := List.drop_eq_nil_of_le (by omega)
    have hone := cI_one (addC zL plan)
    simp only [gos, eq_self, Nat.reduceLT, Nat.reduceEqDiff, Nat.reduceAdd, reduceCtorEq, reduceIte, ↓reduceIte, tt, vgo, vout, vguard, callOf, vop, ev, vbin, vint, isShift, isNilConst, vload, vI, hil, h5, ht5, hd5, hone]
    subst hQ
    exact FnPost.plain trivial (v := .agg (cI (addC zL plan))) (fun h2 e2 => by simp only [Try.f39, vres, vresL, vres1, gos, eq_self, Nat.reduceLT, Nat.reduceEqDiff, reduceCtorEq, reduceIte, ↓reduceIte, tt, vload, e2 _, h5, ht5]) (WkV.pure (by simp only [V.into, cI_into])) ⟨rfl, rfl⟩
end Go.Vm

set_option linter.unusedVariables false
set_option linter.unusedSimpArgs false
set_option maxRecDepth 100000
namespace Go.Vm
open Go.Proofs
theorem are_ok {r : Rm} (k : RmOk r) {plan : List Int} (h : sAre r plan = true) : plan.length = r.ba.length ∧ ∀ x ∈ plan, 0 ≤ x ∧ x ≤ r.cu.last := by
  simp only [sAre, Bool.and_eq_true, decide_eq_true_eq, List.all_eq_true, List.mem_range] at h
  refine ⟨h.1, fun x hx => ?_⟩
  obtain ⟨i, hi, rfl⟩ := mem_gi hx
  have h2 := h.2 i (by omega)
  simp only [sIn, Bool.and_eq_true, decide_eq_true_eq] at h2
  have := k.ba _ (List.mem_of_getElem? (gR_get (l := r.ba) (i := i) (by omega)))
  omega
theorem cnt_nok {r : Rm} (k : RmOk r) {plan : List Int} (hl : plan.length ≤ 900) (h : ∀ x ∈ plan, 0 ≤ x ∧ x ≤ r.cu.last) : NOk (cntN plan) := by
  have hl2 := k.A.k0.last
  refine ⟨by rw [cntN, addC_len]; rfl, fun i => ?_⟩
  have hs : ∀ x ∈ plan, 0 ≤ x ∧ x < (zL.length : Int) := fun x hx => by have := h x hx; simp only [zL, List.length_cons, List.length_nil]; omega
  have h1 := addC_ge plan zL hs i
  have h2 := addC_le plan zL hs i
  rw [zL_gi] at h1 h2
  rw [cntN]; omega
/-- A room at work and the numbers of a plan, or the error. -/
def BplQ (r : Rm) (plan : List Int) (e : Int) (v : V) (h' : Heap) : Prop := (e ≠ 0 ∧ v = .tup [.nilp, .agg (cI zL), vi e] ∧ h' = []) ∨ (e = 0 ∧ v = .tup [.rop (bw r (.mp 90)), .agg (cI (cntN plan)), vi 0] ∧ h' = [(90, ⟨0, .map []⟩)])
set_option maxHeartbeats 1000000 in
theorem c_planned (r : Rm) (hr : r.wf) (plan : List Int) (hp : (plan.length : Int) ≤ 1000000) (fine : Bool) : Ev Try.prog (.fn 16 [] []) [.agg r.cs, vI plan, .bool fine] [] (BplQ r plan (sPlanned r plan fine)) := by
  refine Ev.fn Try.func16 rfl rfl (Fn.body tabOk Try.func16 rfl (Nat.le_of_ble_eq_true rfl) (Ks.ok (fz := (fzn [7, 11])) (cl := (cln [(9, .d tg0 [cP, cL, cP, cW, cP])])) tabOk mixed ?_))
  generalize hQ : FnPost tt Try.f16 _ _ = Q
  simp only [Try.f16, List.nil_append, List.append_nil, argsEnv, Nat.reduceAdd]
  simp only [gos, eq_self, Nat.reduceLT, Nat.reduceEqDiff, reduceCtorEq, reduceIte, ↓reduceIte, tt, vgo, vout, vguard, callOf, vop, ev, cv, vload, newRow, rms]
  by_cases h0 : sCheckR r = 0
  case neg =>
    refine Cl.pu (c_baskN r hr h0) ?_ rfl (by simp only [V.into, intoL, Bool.and_true, rm_into])
    have hb : (sCheckR r != 0) = true := by simp [h0]
    simp only [gos, eq_self, Nat.reduceLT, Nat.reduceEqDiff, Nat.reduceAdd, reduceCtorEq, reduceIte, ↓reduceIte, tt, vgo, vout, vguard, callOf, vop, ev, cv, vbin, vint, isShift, isNilConst, vfill, hb]
    subst hQ
    refine FnPost.plain trivial (v := .tup [.nilp, .agg (cI zL), vi (sCheckR r)]) (fun h2 e => by simp only [Try.f16, vres, vresL, vres1, gos, eq_self, Nat.reduceLT, Nat.reduceEqDiff, Nat.reduceAdd, reduceCtorEq, reduceIte, ↓reduceIte, tt, vload, e _]; rfl) (WkV.pure (by rfl)) (.inl ⟨by rw [sPlanned, if_pos h0]; exact h0, by rw [sPlanned, if_pos h0], rfl⟩)
  refine Cl.newN (n_bask r hr h0) rfl ?_
  have k := rmOk_of h0
  have hl := k.A.k0.last
  have z0 : ((0 : Int) != 0) = false := rfl
  simp only [gos, eq_self, Nat.reduceLT, Nat.reduceEqDiff, reduceCtorEq, reduceIte, ↓reduceIte, tt, vgo, vout, vguard, callOf, vop, ev, cv, vbin, vint, isShift, isNilConst, vload, rms]
  refine Cl.pu (c_are r hr.ba plan hp) ?_ rfl (by simp only [V.into, intoL, vI_into, Bool.and_true, rm_into])
  cases ha : sAre r plan with
  | false =>
    have he : sPlanned r plan fine = 2 := by rw [sPlanned, if_neg (by simp [h0]), if_pos (by simp [ha])]
    simp only [gos, eq_self, Nat.reduceLT, Nat.reduceEqDiff, Nat.reduceAdd, reduceCtorEq, reduceIte, ↓reduceIte, tt, vgo, vout, vguard, callOf, vop, ev, cv, vfill]
    subst hQ
    exact FnPost.plain trivial (v := .tup [.nilp, .agg (cI zL), vi 2]) (fun h2 e => by simp only [Try.f16, vres, vresL, vres1, gos, eq_self, Nat.reduceLT, Nat.reduceEqDiff, Nat.reduceAdd, reduceCtorEq, reduceIte, ↓reduceIte, tt, vload, e _]; rfl) (WkV.pure (by rfl)) (.inl ⟨by rw [he]; decide, by rw [he], rfl⟩)
  | true =>
  obtain ⟨hpl, hpr⟩ := are_ok k ha
  have hlen := k.len
  have hnk := cnt_nok k (by omega) hpr
  cases fine with
  | false =>
    have he : sPlanned r plan false = 2 := by rw [sPlanned, if_neg (by simp [h0]), if_pos (by simp)]
    simp only [gos, eq_self, Nat.reduceLT, Nat.reduceEqDiff, Nat.reduceAdd, reduceCtorEq, reduceIte, ↓reduceIte, tt, vgo, vout, vguard, callOf, vop, ev, cv, vfill]
    subst hQ
    exact FnPost.plain trivial (v := .tup [.nilp, .agg (cI zL), vi 2]) (fun h2 e => by simp only [Try.f16, vres, vresL, vres1, gos, eq_self, Nat.reduceLT, Nat.reduceEqDiff, Nat.reduceAdd, reduceCtorEq, reduceIte, ↓reduceIte, tt, vload, e _]; rfl) (WkV.pure (by rfl)) (.inl ⟨by rw [he]; decide, by rw [he], rfl⟩)
  | true =>
  have hn5 : (cI (cntN plan)).length = 5 := by rw [cI_len, hnk.len]
  have ht5 : List.take 5 (cI (cntN plan)) = cI (cntN plan) := List.take_of_length_le (by omega)
  have hd5 : List.drop 5 (cI (cntN plan)) = [] := List.drop_eq_nil_of_le (by omega)
  have hone := cI_one (cntN plan)
  simp only [gos, eq_self, Nat.reduceLT, Nat.reduceEqDiff, reduceCtorEq, reduceIte, ↓reduceIte, vgo, vout, vguard, callOf, vop, ev]
  refine Cl.pu (c_counted plan (by omega) (fun x hx => by have := hpr x hx; omega)) ?_ rfl (by simp only [intoL, vI_into, Bool.and_true])
  simp only [gos, eq_self, Nat.reduceLT, Nat.reduceEqDiff, Nat.reduceAdd, reduceCtorEq, reduceIte, ↓reduceIte, tt, vgo, vout, vguard, callOf, vop, ev, vload, newRow, rms, hn5, ht5, hone]
  refine Cl.pu (c_bposs r k (cntN plan) hnk) ?_ rfl (by simp only [V.into, intoL, cI_into, Bool.and_true, rm_into])
  cases hq : sPossN r (cntN plan) with
  | false =>
    have he : sPlanned r plan true = 9 := by rw [sPlanned, if_neg (by simp [h0]), if_neg (by simp [ha]), if_pos hq]
    simp only [gos, eq_self, Nat.reduceLT, Nat.reduceEqDiff, Nat.reduceAdd, reduceCtorEq, reduceIte, ↓reduceIte, tt, vgo, vout, vguard, callOf, vop, ev, cv, vfill]
    subst hQ
    exact FnPost.plain trivial (v := .tup [.nilp, .agg (cI zL), vi 9]) (fun h2 e => by simp only [Try.f16, vres, vresL, vres1, gos, eq_self, Nat.reduceLT, Nat.reduceEqDiff, Nat.reduceAdd, reduceCtorEq, reduceIte, ↓reduceIte, tt, vload, e _]; rfl) (WkV.pure (by rfl)) (.inl ⟨by rw [he]; decide, by rw [he], rfl⟩)
  | true =>
    have he : sPlanned r plan true = 0 := by rw [sPlanned, if_neg (by simp [h0]), if_neg (by simp [ha]), if_neg (by simp [hq])]
    simp only [gos, eq_self, Nat.reduceLT, reduceIte, ↓reduceIte, vgo, vout, vguard, callOf, vop, ev]
    refine Wr.draw (by kernel_rfl) ?_
    simp only [gos, eq_self, Nat.reduceLT, Nat.reduceEqDiff, Nat.reduceAdd, reduceCtorEq, reduceIte, ↓reduceIte, tt, vgoD, voutD, vclsOk, vids, mayWrite, V.ids, vguard, callOf, vop, ev, cv, vload, clsAt, hn5, ht5, hone]
    subst hQ
    refine FnPost.plain trivial (v := .tup [.rop (bw r (.mp 90)), .agg (cI (cntN plan)), vi 0]) (fun h2 e => by simp only [Try.f16, vres, vresL, vres1, gos, eq_self, Nat.reduceLT, Nat.reduceEqDiff, reduceCtorEq, reduceIte, ↓reduceIte, tt, vload, e _, hn5, ht5]) (WkV.forgetF (h' := [(90, ⟨0, .map []⟩)]) ?_ ?_ ?_ rfl) (.inr ⟨he, rfl, rfl⟩)
    · intro i e he2
      simp only [Heap.get] at he2 ⊢
      split at he2
      · rename_i h; subst h; exact he2
      · cases he2
    · intro i hi; cases hi
    · simp only [V.into, intoL, cI_into, Bool.and_true]
      rw [bw_into _ _ _ rfl]
theorem c_plannedN (r : Rm) (hr : r.wf) (plan : List Int) (hp : (plan.length : Int) ≤ 1000000) (fine : Bool) (h0 : sPlanned r plan fine ≠ 0) : Pu Try.prog (.fn 16 [] []) [.agg r.cs, vI plan, .bool fine] (.tup [.nilp, .agg (cI zL), vi (sPlanned r plan fine)]) :=
  (c_planned r hr plan hp fine).mono fun v h' h => by
    rcases h with ⟨h1, rfl, rfl⟩ | ⟨h1, rfl, rfl⟩
    · exact ⟨rfl, rfl⟩
    · exact absurd h1 h0
theorem n_planned (r : Rm) (hr : r.wf) (plan : List Int) (hp : (plan.length : Int) ≤ 1000000) (fine : Bool) (h0 : sPlanned r plan fine = 0) : NewB Try.prog (.fn 16 [] []) [.agg r.cs, vI plan, .bool fine] (.tup [.rop (bw r (.mp 90)), .agg (cI (cntN plan)), vi 0]) 90 ⟨0, .map []⟩ :=
  NewB.of ((c_planned r hr plan hp fine).mono fun v h' h => by
    rcases h with ⟨h1, rfl, rfl⟩ | ⟨h1, rfl, rfl⟩
    · exact absurd h0 h1
    · exact ⟨rfl, rfl⟩) rfl (by simp only [V.into, intoL, vI_into, Bool.and_true, rm_into])
/-- What a plan that is possible tells. -/
theorem planned_ok {r : Rm} {plan : List Int} {fine : Bool} (h : sPlanned r plan fine = 0) : RmOk r ∧ sAre r plan = true ∧ fine = true ∧ sPossN r (cntN plan) = true ∧ (∀ x ∈ plan, 0 ≤ x ∧ x ≤ r.cu.last) ∧ NOk (cntN plan) := by
  unfold sPlanned at h
  split at h
  · rename_i h1; exact absurd h h1
  · rename_i h1
    have k := rmOk_of (r := r) (by omega)
    split at h
    · cases h
    · rename_i h2
      simp only [Bool.or_eq_true, Bool.not_eq_true', not_or, Bool.not_eq_false] at h2
      split at h
      · cases h
      · rename_i h3
        obtain ⟨a1, a2⟩ := are_ok k h2.1
        have := k.len
        exact ⟨k, h2.1, h2.2, by simpa using h3, a2, cnt_nok k (by omega) a2⟩
def sPlayR (r : Rm) (plan : List Int) : List Int × Int := if sPlanned r plan true = 0 then (nb r (cntN plan), 0) else ([], sPlanned r plan true)
theorem c_bPlay (r : Rm) (hr : r.wf) (plan : List Int) (hp : (plan.length : Int) ≤ 1000000) : Pu Try.prog (.fn 4 [] []) [.agg r.cs, vI plan] (.tup [vI (sPlayR r plan).1, vi (sPlayR r plan).2]) := by
  refine Ev.fn Try.func4 rfl rfl (Fn.body tabOk Try.func4 rfl (Nat.le_of_ble_eq_true rfl) (Ks.ok (fz := (fzn [7])) (cl := (cln [])) tabOk mixed ?_))
  generalize hQ : FnPost tt Try.f4 _ _ = Q
  simp only [Try.f4, List.nil_append, List.append_nil, argsEnv, Nat.reduceAdd]
  simp only [gos, eq_self, Nat.reduceLT, Nat.reduceEqDiff, reduceCtorEq, reduceIte, ↓reduceIte, tt, vgo, vout, vguard, callOf, vop, ev, cv, vload, newRow, rms]
  by_cases h0 : sPlanned r plan true = 0
  case neg =>
    refine Cl.pu (c_plannedN r hr plan hp true h0) ?_ rfl (by simp only [V.into, intoL, vI_into, Bool.and_true, rm_into])
    have hb : (sPlanned r plan true != 0) = true := by simp [h0]
    have hn5 : (cI zL).length = 5 := rfl
    have ht5 : List.take 5 (cI zL) = cI zL := rfl
    have hd5 : List.drop 5 (cI zL) = [] := rfl
    have hone : oneL (cI zL) = true := rfl
    simp only [gos, eq_self, Nat.reduceLT, Nat.reduceEqDiff, Nat.reduceAdd, reduceCtorEq, reduceIte, ↓reduceIte, tt, vgo, vout, vguard, callOf, vop, ev, cv, vbin, vint, isShift, isNilConst, newRow, hb, hn5, hone]
    subst hQ
    have hr2 : sPlayR r plan = ([], sPlanned r plan true) := by rw [sPlayR, if_neg h0]
    rw [hr2]
    exact FnPost.plain trivial (v := .tup [.sl0, vi (sPlanned r plan true)]) (fun h2 e => by rfl) (WkV.trans (WkV.less (v' := .tup [vI [], vi (sPlanned r plan true)]) (ImpV.tup ⟨sl0_vI, ImpV.refl _, trivial⟩)) (WkV.pure (by simp only [V.into, intoL, vI_into, Bool.and_true]))) ⟨rfl, rfl⟩
  refine Cl.newN (n_planned r hr plan hp true h0) rfl ?_
  obtain ⟨k, ha, _, hq, hpr, hnk⟩ := planned_ok h0
  have hl := k.A.k0.last
  have z0 : ((0 : Int) != 0) = false := rfl
  have hn5 : (cI (cntN plan)).length = 5 := by rw [cI_len, hnk.len]
  have ht5 : List.take 5 (cI (cntN plan)) = cI (cntN plan) := List.take_of_length_le (by omega)
  have hd5 : List.drop 5 (cI (cntN plan)) = [] := List.drop_eq_nil_of_le (by omega)
  have hone := cI_one (cntN plan)
  simp only [gos, eq_self, Nat.reduceLT, Nat.reduceEqDiff, Nat.reduceAdd, reduceCtorEq, reduceIte, ↓reduceIte, tt, vgo, vout, vguard, callOf, vop, ev, cv, vbin, vint, isShift, isNilConst, vload, newRow, rms, hn5, ht5, hone]
  refine Cl.pu (c_bbk r hl (cntN plan) hnk.len fun i _ => n_bu k hnk i) ?_ rfl (by simp only [V.into, intoL, cI_into, Bool.and_true, rm_into])
  simp only [gos, eq_self, Nat.reduceLT, reduceIte, ↓reduceIte, vgo, vout, vguard, callOf, vop, ev, cv]
  subst hQ
  have hr2 : sPlayR r plan = (nb r (cntN plan), 0) := by rw [sPlayR, if_pos h0]
  rw [hr2]
  exact FnPost.plain trivial (v := .tup [vI (nb r (cntN plan)), vi 0]) (fun h2 e => by rfl) (WkV.pure (by simp only [V.into, intoL, vI_into, Bool.and_true])) ⟨rfl, rfl⟩
def sKeepsR (r : Rm) (plan : List Int) : Int × Int := if sPlanned r plan true = 0 then (keV r (cntN plan), 0) else (0, sPlanned r plan true)
theorem c_bKeeps (r : Rm) (hr : r.wf) (plan : List Int) (hp : (plan.length : Int) ≤ 1000000) : Pu Try.prog (.fn 6 [] []) [.agg r.cs, vI plan] (.tup [vi (sKeepsR r plan).1, vi (sKeepsR r plan).2]) := by
  refine Ev.fn Try.func6 rfl rfl (Fn.body tabOk Try.func6 rfl (Nat.le_of_ble_eq_true rfl) (Ks.ok (fz := (fzn [7])) (cl := (cln [])) tabOk mixed ?_))
  generalize hQ : FnPost tt Try.f6 _ _ = Q
  simp only [Try.f6, List.nil_append, List.append_nil, argsEnv, Nat.reduceAdd]
  simp only [gos, eq_self, Nat.reduceLT, Nat.reduceEqDiff, reduceCtorEq, reduceIte, ↓reduceIte, tt, vgo, vout, vguard, callOf, vop, ev, cv, vload, newRow, rms]
  by_cases h0 : sPlanned r plan true = 0
  case neg =>
    refine Cl.pu (c_plannedN r hr plan hp true h0) ?_ rfl (by simp only [V.into, intoL, vI_into, Bool.and_true, rm_into])
    have hb : (sPlanned r plan true != 0) = true := by simp [h0]
    have hn5 : (cI zL).length = 5 := rfl
    have ht5 : List.take 5 (cI zL) = cI zL := rfl
    have hd5 : List.drop 5 (cI zL) = [] := rfl
    have hone : oneL (cI zL) = true := rfl
    simp only [gos, eq_self, Nat.reduceLT, Nat.reduceEqDiff, Nat.reduceAdd, reduceCtorEq, reduceIte, ↓reduceIte, tt, vgo, vout, vguard, callOf, vop, ev, cv, vbin, vint, isShift, isNilConst, newRow, hb, hn5, hone]
    subst hQ
    have hr2 : sKeepsR r plan = (0, sPlanned r plan true) := by rw [sKeepsR, if_neg h0]
    rw [hr2]
    exact FnPost.plain trivial (v := .tup [vi 0, vi (sPlanned r plan true)]) (fun h2 e => by rfl) (WkV.pure (by simp only [V.into, intoL, Bool.and_true])) ⟨rfl, rfl⟩
  refine Cl.newN (n_planned r hr plan hp true h0) rfl ?_
  obtain ⟨k, ha, _, hq, hpr, hnk⟩ := planned_ok h0
  have hl := k.A.k0.last
  have z0 : ((0 : Int) != 0) = false := rfl
  have hn5 : (cI (cntN plan)).length = 5 := by rw [cI_len, hnk.len]
  have ht5 : List.take 5 (cI (cntN plan)) = cI (cntN plan) := List.take_of_length_le (by omega)
  have hd5 : List.drop 5 (cI (cntN plan)) = [] := List.drop_eq_nil_of_le (by omega)
  have hone := cI_one (cntN plan)
  simp only [gos, eq_self, Nat.reduceLT, Nat.reduceEqDiff, Nat.reduceAdd, reduceCtorEq, reduceIte, ↓reduceIte, tt, vgo, vout, vguard, callOf, vop, ev, cv, vbin, vint, isShift, isNilConst, vload, newRow, hn5, ht5, hone]
  refine Cl.mk (c_bkeepsK r k [] (BMemo.nil r) 90 (by decide) (cntN plan) hnk [(7, ⟨0, .row (cI (cntN plan))⟩)] rfl) ?_
  rintro v h' ⟨rfl, rfl⟩
  simp only [gos, eq_self, Nat.reduceLT, reduceIte, ↓reduceIte, vgo, vout, vguard, callOf, vop, ev, cv]
  subst hQ
  have hr2 : sKeepsR r plan = (keV r (cntN plan), 0) := by rw [sKeepsR, if_pos h0]
  rw [hr2]
  exact FnPost.plain trivial (v := .tup [vi (keV r (cntN plan)), vi 0]) (fun h2 e => by rfl) (WkV.pure (by simp only [V.into, intoL, Bool.and_true])) ⟨rfl, rfl⟩
end Go.Vm

set_option linter.unusedVariables false
set_option linter.unusedSimpArgs false
set_option maxRecDepth 100000
namespace Go.Vm
open Go.Proofs
/-! ### lists of lists -/
theorem vI_frz (i v : Nat) (cs : List V) (l : List Int) : (vI l).frz i v cs = vI l := by simp only [vI, V.frz, cI_frz]
end Go.Vm

set_option linter.unusedVariables false
set_option linter.unusedSimpArgs false
set_option maxRecDepth 100000
namespace Go.Vm
open Go.Proofs
/-! ### what the body of a loop over all sure plans does -/
def runX {α σ : Type} (step : α → σ → Bool × σ) : List α → σ → Bool × σ
  | [], x => (true, x)
  | s :: r, x => match step s x with
    | (true, x') => runX step r x'
    | (false, x') => (false, x')
theorem runX_append {α σ : Type} (step : α → σ → Bool × σ) : ∀ (a b : List α) (x : σ), runX step (a ++ b) x = match runX step a x with | (true, x') => runX step b x' | (false, x') => (false, x')
  | [], b, x => rfl
  | s :: a, b, x => by
    simp only [List.cons_append, runX]
    cases h : step s x with
    | mk t y =>
      cases t with
      | false => rfl
      | true => exact runX_append step a b y
def GoodX {α σ : Type} (step : α → σ → Bool × σ) (ok : α → σ → Prop) : List α → σ → Prop
  | [], _ => True
  | s :: r, x => ok s x ∧ ((step s x).1 = true → GoodX step ok r (step s x).2)
theorem GoodX_append {α σ : Type} {step : α → σ → Bool × σ} {ok : α → σ → Prop} : ∀ {a b : List α} {x : σ}, GoodX step ok (a ++ b) x → GoodX step ok a x ∧ ((runX step a x).1 = true → GoodX step ok b (runX step a x).2)
  | [], b, x, g => ⟨trivial, fun _ => g⟩
  | s :: a, b, x, g => by
    simp only [List.cons_append, GoodX] at g
    simp only [GoodX, runX]
    cases h : step s x with
    | mk t y =>
      rw [h] at g
      cases t with
      | false => exact ⟨⟨g.1, fun e => by simp at e⟩, fun e => by simp at e⟩
      | true =>
        obtain ⟨g1, g2⟩ := GoodX_append (g.2 rfl)
        exact ⟨⟨g.1, fun _ => g1⟩, g2⟩
end Go.Vm

set_option linter.unusedVariables false
set_option linter.unusedSimpArgs false
set_option maxRecDepth 100000
namespace Go.Vm
open Go.Proofs
/-! ### all sure plans, one after the other -/
def mH (M : MemoI) (h : Heap) : Heap := (90, ⟨0, .map (memoI M)⟩) :: h
structure YP (P : Program) {σ : Type} (yv : V) (hp : σ → Heap) (step : List Int → σ → Bool × σ) (ok : List Int → σ → Prop) : Prop where
  call : ∀ s x M, ok s x → Ev P yv [vI s] (mH M (hp x)) fun v h' => v = .bool (step s x).1 ∧ h' = mH M (hp (step s x).2)
  into : ∀ x M, yv.into (domP (mH M (hp x))) = true
  closed : ∀ x M, intoH (domP (mH M (hp x))) (mH M (hp x)) = true
  dom : ∀ x y i, domP (hp x) i = domP (hp y) i
  a4 : ∀ x, (hp x).get 4 = none
  a7 : ∀ x, (hp x).get 7 = none
  a12 : ∀ x, (hp x).get 12 = none
  a90 : ∀ x, (hp x).get 90 = none
  fy : ∀ v cs, yv.frz 7 v cs = yv
  fh : ∀ x v cs, frzH 7 v cs (hp x) = hp x
  nl : ∀ x, noLoopOn 7 (hp x) = true
  one : yv.cells? = some [yv]
def addV (r : Rm) (out : List Int) (yv : V) : V := .fn 43 [] [.rop [.rop (bw r (.mp 90))], .rop [yv], .rop [vI out], .ptr 4 0 0]
def plH (r : Rm) (out : List Int) (yv : V) (M : MemoI) (h : Heap) : Heap := (90, ⟨0, .map (memoI M)⟩) :: (4, ⟨0, .row [addV r out yv]⟩) :: h
theorem plH_get (r : Rm) (out : List Int) (yv : V) (M : MemoI) (h : Heap) (i : Nat) : (plH r out yv M h).get i = if i = 90 then some ⟨0, .map (memoI M)⟩ else if i = 4 then some ⟨0, .row [addV r out yv]⟩ else h.get i := by
  simp only [plH, Heap.get]
theorem plH_dom {P : Program} {σ : Type} {yv : V} {hp : σ → Heap} {step : List Int → σ → Bool × σ} {ok : List Int → σ → Prop} (Y : YP P yv hp step ok) (r : Rm) (out : List Int) (M M' : MemoI) (x y : σ) (i : Nat) : domP (plH r out yv M (hp x)) i = domP (plH r out yv M' (hp y)) i := by
  have := Y.dom x y i
  simp only [domP, plH_get] at this ⊢
  split
  · rfl
  · split
    · rfl
    · exact this
theorem plH_sub {P : Program} {σ : Type} {yv : V} {hp : σ → Heap} {step : List Int → σ → Bool × σ} {ok : List Int → σ → Prop} (Y : YP P yv hp step ok) (r : Rm) (out : List Int) (M : MemoI) (x : σ) (i : Nat) (h : domP (mH M (hp x)) i = true) : domP (plH r out yv M (hp x)) i = true := by
  simp only [domP, plH_get, mH, Heap.get] at h ⊢
  split
  · rfl
  · rename_i h9
    rw [if_neg h9] at h
    split
    · rfl
    · exact h
theorem plH_add {P : Program} {σ : Type} {yv : V} {hp : σ → Heap} {step : List Int → σ → Bool × σ} {ok : List Int → σ → Prop} (Y : YP P yv hp step ok) (r : Rm) (out : List Int) (M : MemoI) (x : σ) : (addV r out yv).into (domP (plH r out yv M (hp x))) = true := by
  simp only [addV, V.into, intoL, vI_into, Bool.and_true, Bool.true_and]
  rw [bw_into _ _ _ (by simp [V.into, domP, plH_get]), V.into_mono (plH_sub Y r out M x) _ (Y.into x M)]
  simp [domP, plH_get]
theorem plH_closed {P : Program} {σ : Type} {yv : V} {hp : σ → Heap} {step : List Int → σ → Bool × σ} {ok : List Int → σ → Prop} (Y : YP P yv hp step ok) (r : Rm) (out : List Int) (M : MemoI) (x : σ) : intoH (domP (plH r out yv M (hp x))) (plH r out yv M (hp x)) = true := by
  have h1 := plH_add Y r out M x
  have h2 := intoH_mono (plH_sub Y r out M x) _ (Y.closed x M)
  rw [show plH r out yv M (hp x) = (90, ⟨0, .map (memoI M)⟩) :: (4, ⟨0, .row [addV r out yv]⟩) :: hp x from rfl] at h1 h2 ⊢
  simp only [mH, intoH, Blk.into, memoI_into, Bool.true_and] at h2
  simp only [intoH, Blk.into, memoI_into, intoL, h1, h2, Bool.and_self]
theorem YP.callH {P : Program} {σ : Type} {yv : V} {hp : σ → Heap} {step : List Int → σ → Bool × σ} {ok : List Int → σ → Prop} (Y : YP P yv hp step ok) (r : Rm) (out : List Int) (M : MemoI) (p : List Int) (x : σ) (ho : ok p x) :
    Ev P yv [vI p] (plH r out yv M (hp x)) fun v h' => v = .bool (step p x).1 ∧ h' = plH r out yv M (hp (step p x).2) := by
  have hcons : ∀ (x : σ) i, Heap.get (mH M (hp x) ++ [(4, ⟨0, .row [addV r out yv]⟩)]) i = (plH r out yv M (hp x)).get i := fun x i => by
    rw [Heap.get_append, plH_get]
    simp only [mH, Heap.get]
    by_cases h9 : i = 90
    · subst h9; simp
    · by_cases h4 : i = 4
      · subst h4; simp [Y.a4 x]
      · simp [h9, h4]
  have hno : ∀ (x : σ) i e, (mH M (hp x)).get i = some e → Heap.get [(4, ⟨0, .row [addV r out yv]⟩)] i = none := fun x i e he => by
    simp only [Heap.get]
    rw [if_neg (fun h => by subst h; simp only [mH, Heap.get] at he; rw [if_neg (by decide), Y.a4 x] at he; cases he)]
  refine ((Y.call p x M ho).frame' [(4, ⟨0, .row [addV r out yv]⟩)] (hcons x) (hno x) (Y.into x M) (by simp only [intoL, vI_into, Bool.and_true]) (Y.closed x M) ?_).norm ?_
  · rintro v h' ⟨_, rfl⟩
    exact hno _
  · rintro v h'' ⟨h', ⟨rfl, rfl⟩, rfl⟩
    exact ⟨_, hcons _, rfl, rfl⟩
theorem memoI_frz (i v : Nat) (cs : List V) : ∀ m : MemoI, frzPs i v cs (memoI m) = memoI m
  | [] => rfl
  | (k, b) :: m => by simp only [memoI, frzPs, V.frz, cI_frz, memoI_frz i v cs m]
theorem Wk.forget2 {p : Nat → Bool} {ρ ρ' : Env} {h h' : Heap} (hρ : subE ρ ρ') (hh : ∀ i e, h'.get i = some e → h.get i = some e) (hp : ∀ i, p i = true → domP h' i = true) (hi : intoE (domP h') ρ' = true) (hb : intoH (domP h') h' = true) : Wk p ρ h ρ' h' := by
  intro g w N T E H
  have H' := H.cut hh hb
  refine ⟨g.cut (domP h'), ⟨E.size, fun s c e => (E.look s c (subE_ok hρ s c e)).sub (g.cut_sub _) _ _ (intoE_ok hi s c e)⟩, H', ?_, fun i v x hpi e => by simp [Gh.cut, hp i hpi, e]⟩
  refine ⟨rfl, rfl, rfl, Nat.le_refl _, fun _ _ _ => rfl, ?_, fun _ _ _ e => e, fun _ _ e => .inl e⟩
  rintro B ⟨i, e, c, h1, h2⟩ _
  refine ⟨i, e, c, hh i e h1, ?_⟩
  simp only [Gh.cut] at h2
  split at h2
  · exact h2
  · cases h2
def leavesP (r : Rm) (out : List Int) (m i : Nat) (plan n : List Int) : List (List Int) := ((genB r out m i plan n).filter fun y => sSureN r y.2).map (·.1)
set_option maxHeartbeats 4000000 in
theorem c_padd (r : Rm) (k : RmOk r) (out : List Int) (hout : (out.length : Int) ≤ 1000000) {σ : Type} (yv : V) (hp : σ → Heap) (step : List Int → σ → Bool × σ) (ok : List Int → σ → Prop) (Y : YP Try.prog yv hp step ok) :
    ∀ (m i : Nat) (plan n : List Int) (M : MemoI) (x : σ), i + m = r.ba.length → plan.length ≤ i → n.length = 5 → (∀ j : Nat, 0 ≤ gi n j ∧ gi n j ≤ (i : Int)) → BMemo r M → GoodX step ok (leavesP r out m i plan n) x →
    Ev Try.prog (addV r out yv) [vI plan, .agg (cI n), vi i] (plH r out yv M (hp x)) fun v h' => ∃ M', BMemo r M' ∧ v = .bool (runX step (leavesP r out m i plan n) x).1 ∧ h' = plH r out yv M' (hp (runX step (leavesP r out m i plan n) x).2)
  | 0, i, plan, n, M, x, hi, hpl, hn, hni, HM, hok => by
    have hlen := k.len
    have hnk : NOk n := ⟨hn, fun j => by have := hni j; omega⟩
    have hn5 : (cI n).length = 5 := by rw [cI_len, hn]
    have ht5 : List.take 5 (cI n) = cI n := List.take_of_length_le (by omega)
    have hone := cI_one n
    have hy : yv.cells? = some [yv] := Y.one
    unfold addV
    refine Ev.fn Try.func43 rfl rfl (Fn.body tabOk Try.func43 rfl (Nat.le_of_ble_eq_true rfl) (Ks.ok (fz := (fzn [])) (cl := (cln [])) tabOk mixed ?_))
    generalize hQ : FnPost tt Try.f43 _ _ = Q
    simp only [Try.f43, List.nil_append, List.cons_append, argsEnv, Nat.reduceAdd]
    have hd : decide ((i : Int) = (r.ba.length : Int)) = true := by rw [decide_eq_true_eq]; omega
    simp only [gos, eq_self, Nat.reduceLT, Nat.reduceEqDiff, reduceCtorEq, reduceIte, ↓reduceIte, tt, vgo, vout, vguard, callOf, vop, ev, cv, vbin, vint, isShift, isNilConst, vload, vlen, newRow, bws, hn5, ht5, vR, hd, plH]
    refine Cl.mk (c_bsureK r k M HM 90 (by decide) n hnk ((4, ⟨0, .row [addV r out yv]⟩) :: hp x) (by simp only [Heap.get]; simp [Y.a90 x])) ?_
    rintro v h' ⟨rfl, rfl⟩
    have hM2 := HM.su (n := n) hn
    cases hs : sSureN r n with
    | false =>
      have hl : leavesP r out 0 i plan n = [] := by simp [leavesP, genB, hs]
      simp only [gos, eq_self, Nat.reduceLT, Nat.reduceEqDiff, reduceIte, ↓reduceIte, vgo, vout, vguard, callOf, vop, ev, cv]
      subst hQ
      rw [hl]
      exact FnPost.plain trivial (v := .bool true) (fun h2 e => by rfl) WkV.refl ⟨suMM r M n, hM2, rfl, rfl⟩
    | true =>
      have hl : leavesP r out 0 i plan n = [plan] := by simp [leavesP, genB, hs]
      rw [hl] at hok
      simp only [gos, eq_self, Nat.reduceLT, Nat.reduceEqDiff, reduceCtorEq, reduceIte, ↓reduceIte, tt, vgo, vout, vguard, callOf, vop, ev, vload]
      refine Cl.mk (Y.callH r out (suMM r M n) plan x hok.1) ?_
      rintro v h' ⟨rfl, rfl⟩
      simp only [gos, eq_self, Nat.reduceLT, Nat.reduceEqDiff, reduceIte, ↓reduceIte, vgo, vout, vguard, callOf, vop, ev]
      subst hQ
      have hone1 : runX step [plan] x = step plan x := by
        simp only [runX]
        cases h : step plan x with
        | mk t y => cases t <;> rfl
      rw [hl, hone1]
      exact FnPost.plain trivial (v := .bool (step plan x).1) (fun h2 e => by rfl) WkV.refl ⟨suMM r M n, hM2, rfl, rfl⟩
  | m + 1, i, plan, n, M, x, hi, hpl, hn, hni, HM, hok => by
    have hlen := k.len
    have hlast := k.A.k0.last
    have hnk : NOk n := ⟨hn, fun j => by have := hni j; omega⟩
    have hn5 : (cI n).length = 5 := by rw [cI_len, hn]
    have ht5 : List.take 5 (cI n) = cI n := List.take_of_length_le (by omega)
    have hone := cI_one n
    have hy : yv.cells? = some [yv] := Y.one
    have hil : (i : Int) < r.ba.length := by omega
    have hb := k.ba _ (List.mem_of_getElem? (gR_get hil))
    unfold addV
    refine Ev.fn Try.func43 rfl rfl (Fn.body tabOk Try.func43 rfl (Nat.le_of_ble_eq_true rfl) (Ks.ok (fz := (fzn [12])) (cl := (cln [(9, .ex), (10, .ex)])) tabOk mixed ?_))
    generalize hQ : FnPost tt Try.f43 _ _ = Q
    simp only [Try.f43, List.nil_append, List.cons_append, argsEnv, Nat.reduceAdd]
    have hd : decide ((i : Int) = (r.ba.length : Int)) = false := by rw [decide_eq_false_iff_not]; omega
    simp only [gos, eq_self, Nat.reduceLT, Nat.reduceEqDiff, reduceCtorEq, reduceIte, ↓reduceIte, tt, vgo, vout, vguard, callOf, vop, ev, cv, vbin, vint, isShift, isNilConst, vload, vlen, newRow, bws, vR, hd, plH]
    refine Cl.pu (c_Contains out i hout) ?_ rfl (by simp only [V.into, intoL, vI_into, Bool.and_true])
    cases ho : out.any fun y => decide ((i : Int) = y) with
    | true =>
      have hg : leavesP r out (m + 1) i plan n = leavesP r out m (i + 1) plan n := by
        have : outB out i = true := ho
        simp only [leavesP, genB, this, if_true]
      rw [hg] at hok
      simp only [gos, eq_self, Nat.reduceLT, Nat.reduceEqDiff, reduceCtorEq, reduceIte, ↓reduceIte, tt, vgo, vout, vguard, callOf, vop, ev, cv, vbin, vint, isShift, isNilConst, vload, hn5, ht5, i64_succ (show (i : Int) < 9223372036854775807 by omega)]
      refine Cl.mk (c_padd r k out hout yv hp step ok Y m (i + 1) plan n M x (by omega) (by omega) hn (fun j => by have := hni j; omega) HM hok) ?_
      rintro v h' ⟨M', HM', rfl, rfl⟩
      simp only [gos, eq_self, Nat.reduceLT, reduceIte, ↓reduceIte, vgo, vout, vguard, callOf, vop, ev]
      subst hQ
      rw [hg]
      exact FnPost.plain trivial (fun h2 e => by rfl) WkV.refl ⟨M', HM', rfl, rfl⟩
    | false =>
      have e0 := cR_at (Int.natCast_nonneg i) hil
      rw [Int.toNat_natCast] at e0
      simp only [gos, eq_self, Nat.reduceLT, Nat.reduceEqDiff, reduceCtorEq, reduceIte, ↓reduceIte, tt, vgo, vout, vguard, callOf, vop, ev, vload, bws, vR, hil, Int.natCast_nonneg, Int.toNat_natCast, e0]
      refine Cl.pu (c_first (gR r.ba i)) ?_
      simp only [gos, eq_self, Nat.reduceLT, reduceIte, ↓reduceIte, vgo, vout, vguard, callOf, vop, ev]
      let f : Int → List (List Int) := fun h => if sPossN r (inc n h) = true then leavesP r out m (i + 1) (plan ++ [h]) (inc n h) else []
      have hgen : leavesP r out (m + 1) i plan n = (rangeI (gR r.ba i).lo (gR r.ba i).hi).flatMap f := by
        have hob : outB out i = false := ho
        simp only [leavesP, genB, hob, Bool.false_eq_true, if_false]
        rw [List.filter_flatMap, List.map_flatMap]
        simp only [List.flatMap_def]
        congr 1
        apply List.map_congr_left
        intro h _
        simp only [f]
        split <;> rfl
      refine W.loop tabOk mixed (fun a : Nat × MemoI × σ => ([(0, vI plan), (2, vi i), (3, .rop [.rop (bw r (.mp 90))]), (4, .rop [yv]), (5, .rop [vI out]), (6, .ptr 4 0 0), (8, .rop (cI n)), (11, vi ((gR r.ba i).lo + a.1))], plH r out yv a.2.1 (hp a.2.2))) (fun a => (rangeI (gR r.ba i).lo (gR r.ba i).hi).length - a.1)
        (fun a => a.1 ≤ (rangeI (gR r.ba i).lo (gR r.ba i).hi).length ∧ BMemo r a.2.1 ∧ runX step (((rangeI (gR r.ba i).lo (gR r.ba i).hi).take a.1).flatMap f) x = (true, a.2.2)) (0, M, x) ⟨by simp, HM, rfl⟩ (Wk.env (by simp [subE, Env.get])) ?_
      rintro ⟨j, M1, x1⟩ ⟨hj, HM1, hrun⟩
      simp only at hj HM1 hrun ⊢
      have hrl := rangeI_len (gR r.ba i).lo (gR r.ba i).hi
      have hd2 : List.drop 13 (bw r (.mp 90)) = [vR r.ba, .mp 90] := rfl
      have a12 := Y.a12 x1
      have a7 := Y.a7 x1
      by_cases hjl : (gR r.ba i).lo + (j : Int) ≤ (gR r.ba i).hi
      · obtain ⟨hv, hhv⟩ : ∃ hv : Int, hv = (gR r.ba i).lo + (j : Int) := ⟨_, rfl⟩
        have hx0 : 0 ≤ hv := by omega
        have hx5 : hv < ((5 : Nat) : Int) := by omega
        have hxl : hv < n.length := by rw [hn]; omega
        have hat := cI_at hx0 hxl
        rw [Nat.mul_one] at hat
        have hgv := hni hv.toNat
        rw [show ((hv.toNat : Nat) : Int) = hv by omega] at hgv
        have w1 := i64_in (show -9223372036854775808 ≤ gi n hv + 1 by omega) (show gi n hv + 1 ≤ 9223372036854775807 by omega)
        have hset : List.take hv.toNat (cI n) ++ [V.int IntKind.i64 (gi n hv + 1)] ++ List.drop (hv.toNat + 1) (cI n) = cI (inc n hv) := by
          rw [inc]; exact cI_set _ (by rw [hn]; omega)
        have hc5 : hv.toNat + 1 ≤ 5 := by omega
        have hnl : (inc n hv).length = 5 := by rw [inc_len, hn]
        have hni2 : ∀ q : Nat, 0 ≤ gi (inc n hv) q ∧ gi (inc n hv) q ≤ ((i + 1 : Nat) : Int) := fun q => by
          rw [inc_gi hx0 hxl q]
          have := hni q
          split <;> omega
        have hnk2 : NOk (inc n hv) := ⟨hnl, fun q => by have := hni2 q; omega⟩
        have hn52 : (cI (inc n hv)).length = 5 := by rw [cI_len, hnl]
        have ht52 : List.take 5 (cI (inc n hv)) = cI (inc n hv) := List.take_of_length_le (by omega)
        have hd5 : List.drop 5 (cI n) = [] := List.drop_eq_nil_of_le (by omega)
        rw [← hhv] at hjl ⊢
        simp only [gos, eq_self, Nat.reduceLT, Nat.reduceEqDiff, reduceCtorEq, reduceIte, ↓reduceIte, tt, vgo, vout, vguard, callOf, vop, ev, vload, bws, vR, hil, Int.natCast_nonneg, Int.toNat_natCast, e0, plH]
        refine Cl.pu (c_last (gR r.ba i)) ?_
        simp only [gos, eq_self, Nat.reduceLT, Nat.reduceEqDiff, Nat.reduceAdd, reduceCtorEq, reduceIte, ↓reduceIte, tt, vgo, vout, vguard, callOf, vop, ev, vbin, vint, isShift, isNilConst, vload, newRow, hjl, hn5, ht5, hone, a12, Heap.get_set]
        refine Wr.at tabOk 0 ?_
        refine Wa.mk (ρ2 := [(0, vI plan), (2, vi i), (3, .rop [.rop (bw r (.mp 90))]), (4, .rop [yv]), (5, .rop [vI out]), (6, .ptr 4 0 0), (8, .rop (cI n)), (11, vi hv), (12, .ptr 12 0 0)]) (h2 := (12, ⟨0, .row (cI n)⟩) :: plH r out yv M1 (hp x1)) (Wk.heap (fun q => ?_) (by simp [subE, Env.get])) ?_
        · simp only [plH, Heap.get, Heap.get_set]
          by_cases h12 : q = 12
          · subst h12; simp
          · simp [h12]
        simp only [plH]
        simp only [gos, eq_self, Nat.reduceLT, Nat.reduceEqDiff, reduceCtorEq, reduceIte, ↓reduceIte, tt, vgo, vout, vguard, callOf, vop, ev, cv, vbin, vint, isShift, isNilConst, vload, hn5, hat, w1, hset, hc5, hx0, hx5, Nat.mul_one, Nat.zero_add]
        refine Wr.tail tabOk mixed (tgL [(12, 1), (4, 2), (7, 3), (79, 3)]) [cP, cP, cP, cP, some ([1], []), cP, cP, some ([2], []), cP, some ([3], [3]), cP, cP, some ([3], [3]), some ([1], []), cP, cP, none, cP, cP] 16 (by kernel_rfl) (by kernel_rfl) ?_
        simp only [gos, eq_self, Nat.reduceLT, Nat.reduceEqDiff, Nat.reduceAdd, Nat.reduceLeDiff, reduceCtorEq, reduceIte, ↓reduceIte, tt, vgoD, voutD, vclsOk, vids, mayWrite, V.ids, vguard, callOf, vop, ev, vload, clsAt, bws, hn52, ht52, List.take, List.zipIdx, List.map]
        refine CD.pu (c_bposs r k (inc n hv) hnk2) ?_ rfl (by simp only [V.into, intoL, cI_into, Bool.and_true, rm_into])
        have hrdx : (rangeI (gR r.ba i).lo (gR r.ba i).hi)[j]? = some hv := by
          rw [rangeI_get (by omega), hhv]
        have hnext : runX step (((rangeI (gR r.ba i).lo (gR r.ba i).hi).take (j + 1)).flatMap f) x = runX step (f hv) x1 := by
          rw [List.take_add_one, hrdx, List.flatMap_append, runX_append, hrun]
          simp
        have hw : IntKind.i64.wrap (hv + 1) = hv + 1 := i64_in (by omega) (by omega)
        have hdomx : ∀ (y : σ) (M2 : MemoI) q, orD (domP (plH r out yv M (hp x))) [] q = true → domP (plH r out yv M2 (hp y)) q = true := fun y M2 q hq => by
          simp only [orD, List.contains_nil, Bool.or_false] at hq
          rw [plH_dom Y r out M M2 x y] at hq
          exact hq
        have henvi : ∀ y M2, intoE (domP (plH r out yv M2 (hp y))) [(0, vI plan), (2, vi i), (3, .rop [.rop (bw r (.mp 90))]), (4, .rop [yv]), (5, .rop [vI out]), (6, .ptr 4 0 0), (8, .rop (cI n)), (11, vi hv)] = true := fun y M2 => by
          simp only [intoE, V.into, intoL, cI_into, vI_into, Bool.true_and, Bool.and_true]
          rw [bw_into _ _ _ (by simp [V.into, domP, plH_get]), V.into_mono (plH_sub Y r out M2 y) _ (Y.into y M2)]
          simp [domP, plH_get]
        cases hpo : sPossN r (inc n hv) with
        | false =>
          simp only [gos, eq_self, Nat.reduceLT, Nat.reduceEqDiff, reduceIte, ↓reduceIte, vgoD, voutD, vclsOk, vids, mayWrite, vguard, callOf, vop, ev]
          refine Wa.mk (ρ2 := [(74, .und), (75, .und), (79, .und), (80, .und), (82, .und), (73, .bool false), (0, vI plan), (2, vi i), (3, .rop [.rop (bw r (.mp 90))]), (4, .rop [yv]), (5, .rop [vI out]), (6, .ptr 4 0 0), (8, .rop (cI n)), (11, vi hv)]) (h2 := plH r out yv M1 (hp x1)) (Wk.forget2 (by simp [subE, Env.get]) (fun q e hq => ?_) (hdomx x1 M1) ?_ (plH_closed Y r out M1 x1)) ?_
          · rw [plH_get] at hq
            simp only [Heap.get]
            by_cases h12 : q = 12
            · subst h12; rw [if_neg (by decide), if_neg (by decide), a12] at hq; cases hq
            · rw [if_neg h12]; exact hq
          · have := henvi x1 M1
            simp only [intoE, V.into, intoL, cI_into, vI_into, Bool.true_and, Bool.and_true] at this ⊢
            exact this
          simp only [gos, eq_self, Nat.reduceLT, Nat.reduceEqDiff, reduceCtorEq, reduceIte, ↓reduceIte, vgo, vout, vguard, callOf, vop, ev, cv, vbin, vint, isShift, isNilConst, hw]
          refine Nx.mk (j + 1, M1, x1) (show _ - (j + 1) < _ - j by omega) ⟨by simp only; omega, HM1, ?_⟩ (Wk.env ?_)
          · rw [hnext]; simp only [f, hpo]; rfl
          · have hw2 : (gR r.ba i).lo + ((j + 1 : Nat) : Int) = hv + 1 := by omega
            simp only [hw2]
            simp [subE, Env.get]
        | true =>
          simp only [gos, eq_self, Nat.reduceLT, Nat.reduceEqDiff, reduceCtorEq, reduceIte, ↓reduceIte, tt, vgoD, voutD, vclsOk, vids, mayWrite, V.ids, vguard, callOf, vop, ev, vload]
          refine CD.new (n_Clone plan (by omega)) (by simp [Heap.get, a7]) rfl rfl ?_
          have hcl : (cI plan).length = plan.length := cI_len plan
          have hcm : plan.length ≤ 999999 := by omega
          have hi1 : IntKind.i64.wrap ((i : Int) + 1) = (i : Int) + 1 := i64_in (by omega) (by omega)
          simp only [gos, eq_self, Nat.reduceLT, Nat.reduceEqDiff, Nat.reduceAdd, Nat.reduceLeDiff, reduceCtorEq, reduceIte, ↓reduceIte, tt, vgoD, voutD, vclsOk, vids, mayWrite, V.ids, vguard, callOf, vop, ev, cv, vbin, vint, isShift, isNilConst, vload, vfill, vappend, srcOf, hn52, ht52, hcl, hcm, hi1, Heap.get_set, Nat.mul_one]
          have hll : (plan ++ [hv]).length = plan.length + 1 := by simp
          have ht7 : List.take (plan.length + 1) (cI (plan ++ [hv])) = cI (plan ++ [hv]) := List.take_of_length_le (by rw [cI_len, hll]; omega)
          refine Wa.mk (Wk.trans (Wk.heap (ρ' := [(73, .bool true), (74, addV r out yv), (79, .own 7 1 0 1 (plan.length + 1)), (80, .agg (cI (inc n hv))), (82, vi ((i : Int) + 1)), (0, vI plan), (2, vi i), (3, .rop [.rop (bw r (.mp 90))]), (4, .rop [yv]), (5, .rop [vI out]), (6, .ptr 4 0 0), (8, .rop (cI n)), (11, vi hv)]) (h' := (7, ⟨1, .row (cI plan ++ [vi hv])⟩) :: (12, ⟨0, .row (cI (inc n hv))⟩) :: (90, ⟨0, .map (memoI M1)⟩) :: (4, ⟨0, .row [addV r out yv]⟩) :: hp x1) (fun q => ?_) (by simp [subE, Env.get])) (Wk.trans (Wk.freeze 7 (ver := 1) (cs := cI plan ++ [vi hv]) ?_ ?_ ?_ ?_) (Wk.forget2 (ρ' := [(73, .bool true), (74, addV r out yv), (79, vI (plan ++ [hv])), (80, .agg (cI (inc n hv))), (82, vi ((i : Int) + 1)), (0, vI plan), (2, vi i), (3, .rop [.rop (bw r (.mp 90))]), (4, .rop [yv]), (5, .rop [vI out]), (6, .ptr 4 0 0), (8, .rop (cI n)), (11, vi hv)]) (h' := plH r out yv M1 (hp x1)) ?_ ?_ (hdomx x1 M1) ?_ (plH_closed Y r out M1 x1)))) ?_
          · simp only [Heap.get, Heap.get_set]
            by_cases h7 : q = 7
            · subst h7; simp
            · simp [h7]
          · simp [Heap.get]
          · simp [orD, domP, Heap.get, Y.a7 x]
          · rw [← cI_snoc]; exact cI_into _ _
          · simp [noLoopOn, Y.nl x1]
          · simp only [← cI_snoc, frzE, V.frz, frzL, addV, bw_frz, vI_frz, cI_frz, Y.fy, subE, Env.get]
            simp [hll, ht7, vI]
          · simp only [← cI_snoc, frzH, V.frz, frzL, Blk.frz, addV, bw_frz, vI_frz, cI_frz, Y.fy, Y.fh, memoI_frz]
            intro q e hq
            rw [plH_get] at hq
            by_cases h12 : q = 12
            · subst h12; rw [if_neg (by decide), if_neg (by decide), a12] at hq; cases hq
            · simp [Heap.get, h12]
              exact hq
          · have := henvi x1 M1
            simp only [intoE, V.into, intoL, cI_into, vI_into, Bool.true_and, Bool.and_true] at this ⊢
            rw [plH_add Y r out M1 x1]
            exact this
          simp only [gos, eq_self, Nat.reduceLT, Nat.reduceEqDiff, reduceIte, ↓reduceIte, vgo, vout, vguard, callOf, ev]
          have hf : f hv = leavesP r out m (i + 1) (plan ++ [hv]) (inc n hv) := by simp only [f, hpo]; rfl
          have hgood : GoodX step ok (f hv) x1 := by
            rw [hgen] at hok
            rw [← List.take_append_drop j (rangeI (gR r.ba i).lo (gR r.ba i).hi), List.flatMap_append] at hok
            have g1 := (GoodX_append hok).2
            rw [hrun] at g1
            have g2 := g1 rfl
            rw [List.drop_eq_getElem?_toList_append, hrdx] at g2
            exact (GoodX_append g2).1
          rw [hf] at hgood hnext
          refine Cl.mk (c_padd r k out hout yv hp step ok Y m (i + 1) (plan ++ [hv]) (inc n hv) M1 x1 (by omega) (by rw [hll]; omega) hnl hni2 HM1 hgood) ?_
          rintro v h' ⟨M2, HM2, rfl, rfl⟩
          cases hr : runX step (leavesP r out m (i + 1) (plan ++ [hv]) (inc n hv)) x1 with
          | mk t x2 =>
            rw [hr] at hnext
            cases t with
            | true =>
              simp only [gos, eq_self, Nat.reduceLT, Nat.reduceEqDiff, reduceCtorEq, reduceIte, ↓reduceIte, vgo, vout, vguard, callOf, vop, ev, cv, vbin, vint, isShift, isNilConst, hw]
              refine Nx.mk (j + 1, M2, x2) (show _ - (j + 1) < _ - j by omega) ⟨by simp only; omega, HM2, hnext⟩ (Wk.env ?_)
              have hw2 : (gR r.ba i).lo + ((j + 1 : Nat) : Int) = hv + 1 := by omega
              simp only [hw2]
              simp [subE, Env.get]
            | false =>
              have hrest : runX step (leavesP r out (m + 1) i plan n) x = (false, x2) := by
                rw [hgen, ← List.take_append_drop (j + 1) (rangeI (gR r.ba i).lo (gR r.ba i).hi), List.flatMap_append, runX_append, hnext]
              simp only [gos, eq_self, Nat.reduceLT, Nat.reduceEqDiff, reduceIte, ↓reduceIte, vgo, vout, vguard, callOf, vop, ev, cv]
              subst hQ
              rw [hrest]
              exact FnPost.plain trivial (v := .bool false) (fun h2 e => by rfl) WkV.refl ⟨M2, HM2, rfl, rfl⟩
      · have hie : j = (rangeI (gR r.ba i).lo (gR r.ba i).hi).length := by omega
        have hrest : runX step (leavesP r out (m + 1) i plan n) x = (true, x1) := by
          rw [hgen]
          rw [hie, List.take_length] at hrun
          exact hrun
        simp only [gos, eq_self, Nat.reduceLT, Nat.reduceEqDiff, reduceCtorEq, reduceIte, ↓reduceIte, tt, vgo, vout, vguard, callOf, vop, ev, vload, bws, vR, hil, Int.natCast_nonneg, Int.toNat_natCast, e0, plH]
        refine Cl.pu (c_last (gR r.ba i)) ?_
        simp only [gos, eq_self, Nat.reduceLT, Nat.reduceEqDiff, reduceIte, ↓reduceIte, vgo, vout, vguard, callOf, vop, ev, cv, vbin, vint, isShift, isNilConst, hjl]
        subst hQ
        rw [hrest]
        exact FnPost.plain trivial (v := .bool true) (fun h2 e => by rfl) WkV.refl ⟨M1, HM1, rfl, rfl⟩
end Go.Vm

set_option linter.unusedVariables false
set_option linter.unusedSimpArgs false
set_option maxRecDepth 100000
namespace Go.Vm
open Go.Proofs
/-! ### the iterator over all sure plans -/
def plansV (r : Rm) (out : List Int) : V := .fn 42 [] [.rop [.rop (bw r (.mp 90))], .rop [vI out]]
theorem c_plans (r : Rm) (out : List Int) (h : Heap) : Ev Try.prog (.fn 21 [] []) [.rop (bw r (.mp 90)), vI out] h fun v h' => v = plansV r out ∧ h' = h := by
  refine Ev.fn Try.func21 rfl rfl (Fn.body tabOk Try.func21 rfl (Nat.le_of_ble_eq_true rfl) (Ks.ok (fz := (fzn [])) (cl := (cln [])) tabOk mixed ?_))
  generalize hQ : FnPost tt Try.f21 _ _ = Q
  simp only [Try.f21, List.nil_append, List.append_nil, argsEnv, Nat.reduceAdd]
  have hone : (vI out).cells? = some [vI out] := rfl
  simp only [gos, eq_self, Nat.reduceLT, Nat.reduceEqDiff, reduceCtorEq, reduceIte, ↓reduceIte, vgo, vout, vguard, callOf, vop, ev, cv, newRow, hone]
  subst hQ
  exact FnPost.plain trivial (v := plansV r out) (fun h2 e => by rfl) WkV.refl ⟨rfl, rfl⟩
set_option maxHeartbeats 2000000 in
theorem c_plans1 (r : Rm) (k : RmOk r) (out : List Int) (hout : (out.length : Int) ≤ 1000000) {σ : Type} (yv : V) (hp : σ → Heap) (step : List Int → σ → Bool × σ) (ok : List Int → σ → Prop) (Y : YP Try.prog yv hp step ok) (M : MemoI) (HM : BMemo r M) (x0 : σ) (hok : GoodX step ok (plL r out) x0) :
    Ev Try.prog (plansV r out) [yv] (mH M (hp x0)) fun v h' => ∃ M', BMemo r M' ∧ h' = mH M' (hp (runX step (plL r out) x0).2) := by
  have a4 := Y.a4 x0
  have a90 := Y.a90 x0
  unfold plansV
  refine Ev.fn Try.func42 rfl rfl (Fn.body tabOk Try.func42 rfl (Nat.le_of_ble_eq_true rfl) (Ks.ok (fz := (fzn [4])) (cl := (cln [(3, .ex)])) tabOk mixed ?_))
  generalize hQ : FnPost tt Try.f42 _ _ = Q
  simp only [Try.f42, List.nil_append, List.cons_append, argsEnv, Nat.reduceAdd]
  have hy : yv.cells? = some [yv] := Y.one
  simp only [gos, eq_self, Nat.reduceLT, Nat.reduceEqDiff, Nat.reduceAdd, reduceCtorEq, reduceIte, ↓reduceIte, tt, vgo, vout, vguard, callOf, vop, ev, newRow, mH, a4, hy, Heap.get_set]
  refine Wr.at tabOk 0 ?_
  simp only [gos]
  refine Wa.mk (ρ2 := [(4, .ptr 4 0 0)]) (h2 := plH r out yv M (hp x0)) (Wk.heap (fun q => ?_) (by simp [subE, Env.get])) ?_
  · simp only [plH, Heap.get, Heap.get_set, addV]
    by_cases h4 : q = 4
    · subst h4; simp
    · simp [h4]
  simp only [plH]
  simp only [gos, eq_self, Nat.reduceLT, Nat.reduceEqDiff, reduceCtorEq, reduceIte, ↓reduceIte, tt, vgo, vout, vguard, callOf, vop, ev, cv, vload, vfill]
  refine Cl.less (cs := [vI [], .agg (cI zL), vi (0 : Nat)]) (ImpV.refl _) ⟨sl0_vI, ImpV.refl _, ImpV.refl _, trivial⟩ (Cl.mk (c_padd r k out hout yv hp step ok Y r.ba.length 0 [] zL M x0 (by omega) (by simp) rfl (fun j => by rw [zL_gi]; omega) HM hok) ?_)
  rintro v h' ⟨M', HM', rfl, rfl⟩
  simp only [gos]
  subst hQ
  have hl : leavesP r out r.ba.length 0 [] zL = plL r out := rfl
  rw [hl]
  refine FnPost.plain trivial (v := .tup []) (fun h2 e => by rfl) (WkV.forgetF ?_ ?_ ?_ ?_) ⟨M', HM', rfl⟩
  · intro i e he
    rw [plH_get]
    simp only [mH, Heap.get] at he
    by_cases h9 : i = 90
    · rw [if_pos h9] at he ⊢; exact he
    · rw [if_neg h9] at he ⊢
      rw [if_neg (fun h => by subst h; rw [Y.a4] at he; cases he)]
      exact he
  · intro i hp
    have := Y.dom x0 (runX step (plL r out) x0).2 i
    simp only [domP, mH, Heap.get] at hp this ⊢
    split
    · rfl
    · rename_i h9
      rw [if_neg h9] at hp
      rw [← this]; exact hp
  · rfl
  · exact Y.closed _ _
end Go.Vm

set_option linter.unusedVariables false
set_option linter.unusedSimpArgs false
set_option maxRecDepth 100000
namespace Go.Vm
open Go.Proofs
/-! ### Plan: the first sure plan -/
def stepP (p : List Int) (x : Option (List Int)) : Bool × Option (List Int) := (false, some p)
theorem runX_stepP : ∀ l : List (List Int), (runX stepP l none).2 = l.head?
  | [] => rfl
  | p :: l => rfl
def oV : Option (List Int) → V
  | none => .sl0
  | some p => vI p
theorem oV_into (p : Nat → Bool) (x : Option (List Int)) : (oV x).into p = true := by
  cases x with
  | none => rfl
  | some l => simp only [oV, vI_into]
theorem oV_frz (i v : Nat) (cs : List V) (x : Option (List Int)) : (oV x).frz i v cs = oV x := by
  cases x with
  | none => rfl
  | some l => exact vI_frz i v cs l
def planH (r : Rm) (ps : List Tmp) (sa sb : Code) (x : Option (List Int)) : Heap :=
  [(2, ⟨0, .row [oV x]⟩), (3, ⟨0, .row [vi 0]⟩), (51, ⟨0, .dfr true⟩), (50, lent (if x.isSome then .done else .ready) (if x.isSome then some .ret else none) 7 19 [(16, plansV r []), (15, .rop (bw r (.mp 90))), (2, .ptr 2 0 0), (3, .ptr 3 0 0), (4, .rop (bw r (.mp 90)))] ps sa sb 51)]
theorem planH_closed (r : Rm) (ps : List Tmp) (sa sb : Code) (x : Option (List Int)) (M : MemoI) : intoH (domP (mH M (planH r ps sa sb x))) (mH M (planH r ps sa sb x)) = true := by
  simp only [planH, mH, intoH, lent, Blk.into, intoE, V.into, intoL, vI_into, Bool.true_and, Bool.and_true, memoI_into, oV_into, plansV, domP, Heap.get]
  rw [bw_into _ _ _ (by simp [V.into, domP, Heap.get])]
  rfl
theorem planH_dom (r : Rm) (ps : List Tmp) (sa sb : Code) (x y : Option (List Int)) (i : Nat) : domP (planH r ps sa sb x) i = domP (planH r ps sa sb y) i := by
  simp only [planH, domP, Heap.get]
  repeat' split
  all_goals rfl
def sPlanR (r : Rm) : List Int × Int := if sCheckR r = 0 then match plL r [] with | [] => ([], 10) | p :: _ => (p, 0) else ([], sCheckR r)
set_option maxHeartbeats 2000000 in
theorem c_bPlan (r : Rm) (hr : r.wf) : Pu Try.prog (.fn 7 [] []) [.agg r.cs] (.tup [vI (sPlanR r).1, vi (sPlanR r).2]) := by
  refine Ev.fn Try.func7 rfl rfl (Fn.body tabOk Try.func7 rfl (Nat.le_of_ble_eq_true rfl) (Ks.ok (fz := (fzn [2, 3])) (cl := (cln [(4, .ex)])) tabOk mixed ?_))
  generalize hQ : FnPost tt Try.f7 _ _ = Q
  simp only [Try.f7, List.nil_append, List.append_nil, argsEnv]
  simp only [gos, eq_self, Nat.reduceLT, Nat.reduceEqDiff, reduceCtorEq, reduceIte, ↓reduceIte, tt, vgo, vout, vguard, callOf, vop, ev, vload, newRow, rms]
  by_cases h0 : sCheckR r = 0
  case neg =>
    refine Cl.pu (c_baskN r hr h0) ?_ rfl (by simp only [V.into, intoL, Bool.and_true, rm_into])
    have hb : (sCheckR r != 0) = true := by simp [h0]
    simp only [gos, eq_self, Nat.reduceLT, Nat.reduceEqDiff, Nat.reduceAdd, reduceCtorEq, reduceIte, ↓reduceIte, tt, vgo, vout, vguard, callOf, vop, ev, cv, vbin, vint, isShift, isNilConst, hb]
    subst hQ
    have hr2 : sPlanR r = ([], sCheckR r) := by rw [sPlanR, if_neg h0]
    rw [hr2]
    exact FnPost.plain trivial (v := .tup [.sl0, vi (sCheckR r)]) (fun h2 e => by
      have e2 := e 2
      have e3 := e 3
      simp only [Heap.get, if_true] at e2 e3
      rw [if_neg (by decide)] at e3
      simp only [Try.f7, vres, vresL, vres1, gos, eq_self, Nat.reduceLT, Nat.reduceEqDiff, reduceCtorEq, reduceIte, ↓reduceIte, tt, vload, e2, e3]) (WkV.trans (WkV.less (v' := .tup [vI [], vi (sCheckR r)]) (ImpV.tup ⟨sl0_vI, ImpV.refl _, trivial⟩)) (WkV.pure (by simp only [V.into, intoL, vI_into, Bool.and_true]))) ⟨rfl, rfl⟩
  refine Cl.newN (n_bask r hr h0) rfl ?_
  have k := rmOk_of h0
  have z0 : ((0 : Int) != 0) = false := rfl
  simp only [gos, eq_self, Nat.reduceLT, Nat.reduceEqDiff, reduceIte, ↓reduceIte, vgo, vout, vguard, callOf, vop, ev, cv, vbin, vint, isShift, isNilConst]
  refine Wr.at tabOk 0 ?_
  simp only [gos]
  refine Wa.mk (ρ2 := [(2, .ptr 2 0 0), (3, .ptr 3 0 0), (4, .rop (bw r (.mp 90)))]) (h2 := mH [] [(2, ⟨0, .row [.sl0]⟩), (3, ⟨0, .row [vi 0]⟩)]) (Wk.heap (fun q => ?_) (by simp [subE, Env.get])) ?_
  · simp only [mH, memoI, Heap.get]
    by_cases h9 : q = 90
    · subst h9; simp
    · simp [h9]
  simp only [mH, gos, eq_self, Nat.reduceLT, Nat.reduceEqDiff, reduceIte, ↓reduceIte, vgo, vout, vguard, callOf, vop, ev, cv]
  refine Cl.less (cs := [.rop (bw r (.mp 90)), vI []]) (ImpV.refl _) ⟨ImpV.refl _, sl0_vI, trivial⟩ (Cl.mk (c_plans r [] _) ?_)
  rintro v h' ⟨rfl, rfl⟩
  simp only [gos]
  refine W.rangeFuncG 50 51 rfl rfl (by decide) rfl ?_
  intro sa sb hsa hsb
  have Y : YP Try.prog (.yl 50) (planH r [17] sa sb) stepP (fun p x => x = none) := by
    refine ⟨?_, ?_, ?_, ?_, ?_, ?_, ?_, ?_, ?_, ?_, ?_, rfl⟩
    · rintro p x M rfl
      refine (Ev.roundG (i := 50) (pd := none) tabOk mixed (fzn []) (cln []) rfl rfl rfl (S := fun v h' => v = .bool (stepP p none).1 ∧ h' = mH M (planH r [17] sa sb (stepP p none).2)) ?_)
      intro L Q2 hQ2 Q1 hQ1
      refine W.named hsa ?_
      simp only [gos, eq_self, Nat.reduceLT, reduceIte, ↓reduceIte, vgo, vout, vguard, callOf, vop, ev, putL, planH, mH]
      refine hQ1 _ _ none rfl (W.named hsb ?_)
      simp only [gos, eq_self, Nat.reduceLT, Nat.reduceEqDiff, Nat.reduceAdd, reduceCtorEq, reduceIte, ↓reduceIte, tt, vgo, vout, vguard, callOf, vop, ev, cv]
      exact hQ2 _ _ _ _ ⟨.busy, none, rfl, rfl, rfl⟩
    · intro x M; rfl
    · exact fun x M => planH_closed r [17] sa sb x M
    · exact planH_dom r [17] sa sb
    · intro x; rfl
    · intro x; rfl
    · intro x; rfl
    · intro x; rfl
    · intro v cs; rfl
    · intro x v cs
      simp only [planH, frzH, Blk.frz, frzE, V.frz, frzL, lent, plansV, bw_frz, vI_frz, oV_frz]
      rfl
    · intro x
      simp only [planH, noLoopOn, lent]
      rfl
  refine (c_plans1 r k [] (by simp) (.yl 50) _ _ _ Y [] (BMemo.nil r) none ?_).mono ?_
  · cases h : plL r [] with
    | nil => trivial
    | cons p l => exact ⟨rfl, fun e => by cases e⟩
  rintro v h' ⟨M', HM', rfl⟩
  rw [runX_stepP]
  cases hl : plL r [] with
  | nil =>
    have hr2 : sPlanR r = ([], 10) := by rw [sPlanR, if_pos h0, hl]
    refine ⟨.ready, none, rfl, by decide, ?_⟩
    simp only [gos, eq_self, Nat.reduceLT, Nat.reduceEqDiff, Nat.reduceAdd, reduceCtorEq, reduceIte, ↓reduceIte, tt, vgo, vout, vguard, callOf, vop, ev, cv, planH, mH, List.head?_nil, oV]
    subst hQ
    refine FnPost.defer trivial (by decide) (by simp [Heap.get]) (v := .tup [.sl0, vi 10]) (fun h2 e => ?_) (fun h2 e => (WkV.trans (WkV.less (v' := .tup [vI [], vi 10]) (ImpV.tup ⟨sl0_vI, ImpV.refl _, trivial⟩)) (WkV.pure (by simp only [V.into, intoL, vI_into, Bool.and_true])))) ⟨by rw [hr2], rfl⟩
    have e2 : h2.get 2 = some ⟨0, .row [.sl0]⟩ := (e 2 (by decide)).trans rfl
    have e3 : h2.get 3 = some ⟨0, .row [vi 10]⟩ := (e 3 (by decide)).trans rfl
    simp only [Try.f7, vres, vresL, vres1, gos, eq_self, Nat.reduceLT, Nat.reduceEqDiff, reduceCtorEq, reduceIte, ↓reduceIte, tt, vload, e2, e3]
  | cons p l =>
    have hr2 : sPlanR r = (p, 0) := by rw [sPlanR, if_pos h0, hl]
    refine ⟨.done, some .ret, rfl, by decide, ?_⟩
    simp only [gos, eq_self, Nat.reduceEqDiff, reduceIte, ↓reduceIte, planH, mH, oV]
    subst hQ
    refine FnPost.defer trivial (by decide) (by simp [Heap.get]) (v := .tup [vI p, vi 0]) (fun h2 e => ?_) (fun h2 e => WkV.pure (by simp only [V.into, intoL, vI_into, Bool.and_true])) ⟨by rw [hr2], rfl⟩
    have e2 : h2.get 2 = some ⟨0, .row [vI p]⟩ := (e 2 (by decide)).trans rfl
    have e3 : h2.get 3 = some ⟨0, .row [vi 0]⟩ := (e 3 (by decide)).trans rfl
    simp only [Try.f7, vres, vresL, vres1, gos, eq_self, Nat.reduceLT, Nat.reduceEqDiff, reduceCtorEq, reduceIte, ↓reduceIte, tt, vload, e2, e3]
end Go.Vm

set_option linter.unusedVariables false
set_option linter.unusedSimpArgs false
set_option maxRecDepth 100000
namespace Go.Vm
/-! ### the hours at which a bath may be had -/
theorem allP_len0 (r : Rm) : ∀ (m i : Nat), ∀ p ∈ allP r [] m i, p.length = m
  | 0, i, p, hp => by simp only [allP, List.mem_singleton] at hp; subst hp; rfl
  | m + 1, i, p, hp => by
    rw [allP, if_neg (by simp [outB])] at hp
    simp only [List.mem_flatMap, List.mem_map] at hp
    obtain ⟨h, _, q, hq, rfl⟩ := hp
    simp [allP_len0 r m (i + 1) q hq]
theorem flat_lenB {α β : Type} (f : α → List β) (b : Nat) : ∀ l : List α, (∀ x ∈ l, (f x).length ≤ b) → (l.flatMap f).length ≤ l.length * b
  | [], _ => by simp
  | x :: l, h => by
    have h1 := h x (by simp)
    have h2 := flat_lenB f b l fun y hy => h y (by simp [hy])
    simp only [List.flatMap_cons, List.length_append, List.length_cons, Nat.succ_mul]
    omega
theorem allP_count {r : Rm} (k : RmOk r) (out : List Int) : ∀ (m i : Nat), i + m ≤ r.ba.length → (allP r out m i).length ≤ 5 ^ m
  | 0, i, _ => by simp [allP]
  | m + 1, i, hi => by
    have ih := allP_count k out m (i + 1) (by omega)
    rw [allP]
    split
    · rw [Nat.pow_succ]; omega
    · have hl := k.A.k0.last
      have hb := k.ba _ (List.mem_of_getElem? (gR_get (show (i : Int) < r.ba.length by omega)))
      have hr := rangeI_len (gR r.ba i).lo (gR r.ba i).hi
      have h1 := flat_lenB (fun h => (allP r out m (i + 1)).map (h :: ·)) (5 ^ m) (rangeI (gR r.ba i).lo (gR r.ba i).hi) fun x _ => by simpa using ih
      have h2 : (rangeI (gR r.ba i).lo (gR r.ba i).hi).length * 5 ^ m ≤ 5 * 5 ^ m := Nat.mul_le_mul_right _ (by omega)
      rw [Nat.pow_succ]; omega
theorem plL_count {r : Rm} (k : RmOk r) (out : List Int) : (plL r out).length ≤ 3125 := by
  rw [plL_eq k]
  have h1 := allP_count k out r.ba.length 0 (by omega)
  have h2 := List.length_filter_le (fun p => sSureN r (cntN p)) (allP r out r.ba.length 0)
  have h3 : (5 : Nat) ^ r.ba.length ≤ 5 ^ 5 := Nat.pow_le_pow_right (by omega) k.len
  omega
theorem plL_mem0 {r : Rm} (k : RmOk r) {p : List Int} (h : p ∈ plL r []) : p.length = r.ba.length ∧ ∀ x ∈ p, 0 ≤ x ∧ x ≤ r.cu.last := by
  rw [plL_eq k, List.mem_filter] at h
  exact ⟨allP_len0 r _ _ p h.1, allP_mem k (by omega) p h.1⟩
def sHoursL (r : Rm) (i : Nat) : List Int := (rangeI (gR r.ba i).lo (gR r.ba i).hi).filter fun h => (plL r []).any fun p => decide (gi p i = h)
def sHoursR (r : Rm) (bath : Int) : List Int × Int := if sCheckR r = 0 then (if sIn bath 0 (r.ba.length - 1) = true then (sHoursL r bath.toNat, 0) else ([], 2)) else ([], sCheckR r)
/-- How often each hour is met. -/
def cntH (l : List (List Int)) (i : Nat) : List Int := addC zL (l.map fun p => gi p i)
theorem cntH_len (l : List (List Int)) (i : Nat) : (cntH l i).length = 5 := by rw [cntH, addC_len]; rfl
theorem cntH_gi {r : Rm} (k : RmOk r) {i : Nat} (hi : i < r.ba.length) (h : Nat) : gi (cntH (plL r []) i) h = (plL r []).countP fun p => decide (gi p i = h) := by
  have hl := k.A.k0.last
  rw [cntH, addC_gi _ _ (fun x hx => ?_), zL_gi, List.countP_map, Int.zero_add]
  · congr 1
    apply congrArg (fun f => List.countP f (plL r []))
    funext p
    simp only [Function.comp]
    exact decide_eq_decide.2 eq_comm
  · simp only [List.mem_map] at hx
    obtain ⟨p, hp, rfl⟩ := hx
    obtain ⟨h1, h2⟩ := plL_mem0 k hp
    have := h2 _ (gi_mem (l := p) (i := i) (by omega))
    have hz : (zL.length : Int) = 5 := rfl
    omega
theorem cntH_pos {r : Rm} (k : RmOk r) {i : Nat} (hi : i < r.ba.length) (h : Nat) : decide (0 < gi (cntH (plL r []) i) h) = (plL r []).any fun p => decide (gi p i = h) := by
  rw [cntH_gi k hi]
  rw [Bool.eq_iff_iff, decide_eq_true_eq, List.any_eq_true]
  rw [show (0 : Int) = ((0 : Nat) : Int) from rfl, Int.ofNat_lt, List.countP_pos_iff]
end Go.Vm

set_option linter.unusedVariables false
set_option linter.unusedSimpArgs false
set_option maxRecDepth 100000
namespace Go.Vm
open Go.Proofs
/-! ### Hours -/
def stepHr (i : Nat) (p : List Int) (c : List Int) : Bool × List Int := (true, inc c (gi p i))
theorem runX_stepHr (i : Nat) : ∀ (l : List (List Int)) (c : List Int), runX (stepHr i) l c = (true, addC c (l.map fun p => gi p i))
  | [], c => rfl
  | p :: l, c => by
    simp only [runX, stepHr]
    exact runX_stepHr i l _
structure OkHr (r : Rm) (p : List Int) (c : List Int) : Prop where
  pl : p.length = r.ba.length
  pm : ∀ x ∈ p, 0 ≤ x ∧ x ≤ r.cu.last
  cl : c.length = 5
  cb : ∀ j : Nat, 0 ≤ gi c j ∧ gi c j ≤ 1000000
theorem good_hr {r : Rm} (k : RmOk r) {i : Nat} (hi : i < r.ba.length) : ∀ (l : List (List Int)) (c : List Int), (∀ p ∈ l, p.length = r.ba.length ∧ ∀ x ∈ p, 0 ≤ x ∧ x ≤ r.cu.last) → c.length = 5 → (∀ j : Nat, 0 ≤ gi c j ∧ gi c j + l.length ≤ 1000000) → GoodX (stepHr i) (OkHr r) l c
  | [], c, _, _, _ => trivial
  | p :: l, c, h, hc, hb => by
    have h1 := h p (by simp)
    have hl := k.A.k0.last
    have hx := h1.2 _ (gi_mem (l := p) (i := i) (by omega))
    refine ⟨⟨h1.1, h1.2, hc, fun j => by have := hb j; omega⟩, fun _ => good_hr k hi l _ (fun q hq => h q (by simp [hq])) (by simp only [stepHr]; rw [inc_len, hc]) fun j => ?_⟩
    have := hb j
    simp only [stepHr, List.length_cons] at this ⊢
    rw [inc_gi hx.1 (by omega)]
    split <;> omega
def hrE (r : Rm) (i : Nat) : Env := [(32, plansV r []), (31, .rop (bw r (.mp 90))), (2, .rop r.cs), (3, .rop [vi i]), (6, .rop (bw r (.mp 90))), (8, .ptr 8 0 0), (9, .ptr 9 0 0), (10, .ptr 10 0 0)]
def hrH (r : Rm) (i : Nat) (ps : List Tmp) (sa sb : Code) (c : List Int) : Heap :=
  [(8, ⟨0, .row [.fn 31 [] []]⟩), (9, ⟨0, .row [.fn 32 [] []]⟩), (10, ⟨0, .row (cI c)⟩), (51, ⟨0, .dfr true⟩), (50, lent .ready none 11 71 (hrE r i) ps sa sb 51)]
theorem hrH_closed (r : Rm) (i : Nat) (ps : List Tmp) (sa sb : Code) (c : List Int) (M : MemoI) : intoH (domP (mH M (hrH r i ps sa sb c))) (mH M (hrH r i ps sa sb c)) = true := by
  simp only [hrH, hrE, mH, intoH, lent, Blk.into, intoE, V.into, intoL, cI_into, vI_into, Bool.true_and, Bool.and_true, memoI_into, plansV, domP, Heap.get, rm_into]
  rw [bw_into _ _ _ (by simp [V.into, domP, Heap.get])]
  rfl
theorem hrH_dom (r : Rm) (i : Nat) (ps : List Tmp) (sa sb : Code) (x y : List Int) (j : Nat) : domP (hrH r i ps sa sb x) j = domP (hrH r i ps sa sb y) j := by
  simp only [hrH, domP, Heap.get]
  repeat' split
  all_goals rfl
set_option maxHeartbeats 2000000 in
theorem c_bHours (r : Rm) (hr : r.wf) (bath : Int) (hb64 : -9223372036854775808 ≤ bath ∧ bath ≤ 9223372036854775807) : Pu Try.prog (.fn 11 [] []) [.agg r.cs, vi bath] (.tup [vI (sHoursR r bath).1, vi (sHoursR r bath).2]) := by
  refine Ev.fn Try.func11 rfl rfl (Fn.body tabOk Try.func11 rfl (Nat.le_of_ble_eq_true rfl) (Ks.ok (fz := (fzn [8, 9, 10])) (cl := (cln [(8, .ex), (11, .ex), (12, .d (tgL [(8, 1)]) [cP, some ([1], []), cP, cP, cP, cP, cP, cP, cP]), (13, .d (tgL [(9, 1)]) [cP, cP, some ([1], []), cP, cP, cP, cP, cP, cP, cP])])) tabOk mixed ?_))
  generalize hQ : FnPost tt Try.f11 _ _ = Q
  simp only [Try.f11, List.nil_append, List.append_nil, argsEnv, Nat.reduceAdd]
  simp only [gos, eq_self, Nat.reduceLT, Nat.reduceEqDiff, reduceCtorEq, reduceIte, ↓reduceIte, tt, vgo, vout, vguard, callOf, vop, ev, cv, vload, newRow, rms]
  by_cases h0 : sCheckR r = 0
  case neg =>
    refine Cl.pu (c_baskN r hr h0) ?_ rfl (by simp only [V.into, intoL, Bool.and_true, rm_into])
    have hb : (sCheckR r != 0) = true := by simp [h0]
    simp only [gos, eq_self, Nat.reduceLT, Nat.reduceEqDiff, reduceIte, ↓reduceIte, vgo, vout, vguard, callOf, vop, ev, cv, vbin, vint, isShift, isNilConst, hb]
    subst hQ
    have hr2 : sHoursR r bath = ([], sCheckR r) := by rw [sHoursR, if_neg h0]
    rw [hr2]
    exact FnPost.plain trivial (v := .tup [.sl0, vi (sCheckR r)]) (fun h2 e => by rfl) (WkV.trans (WkV.less (v' := .tup [vI [], vi (sCheckR r)]) (ImpV.tup ⟨sl0_vI, ImpV.refl _, trivial⟩)) (WkV.pure (by simp only [V.into, intoL, vI_into, Bool.and_true]))) ⟨rfl, rfl⟩
  refine Cl.newN (n_bask r hr h0) rfl ?_
  have k := rmOk_of h0
  have hl := k.A.k0.last
  have hba := k.len
  have z0 : ((0 : Int) != 0) = false := rfl
  have hw1 : IntKind.i64.wrap ((r.ba.length : Int) - 1) = (r.ba.length : Int) - 1 := i64_in (by omega) (by omega)
  simp only [gos, eq_self, Nat.reduceLT, Nat.reduceEqDiff, reduceCtorEq, reduceIte, ↓reduceIte, tt, vgo, vout, vguard, callOf, vop, ev, cv, vbin, vint, isShift, isNilConst, vload, vlen, rms, vR, hw1]
  refine Cl.pu (c_bwithin bath 0 ((r.ba.length : Int) - 1)) ?_
  cases hin : sIn bath 0 ((r.ba.length : Int) - 1) with
  | false =>
    simp only [gos, eq_self, Nat.reduceLT, Nat.reduceEqDiff, reduceIte, ↓reduceIte, vgo, vout, vguard, callOf, vop, ev, cv]
    subst hQ
    have hr2 : sHoursR r bath = ([], 2) := by rw [sHoursR, if_pos h0, if_neg (by simp [hin])]
    rw [hr2]
    exact FnPost.plain trivial (v := .tup [.sl0, vi 2]) (fun h2 e => by rfl) (WkV.trans (WkV.less (v' := .tup [vI [], vi 2]) (ImpV.tup ⟨sl0_vI, ImpV.refl _, trivial⟩)) (WkV.pure (by simp only [V.into, intoL, vI_into, Bool.and_true]))) ⟨rfl, rfl⟩
  | true =>
    have hin2 := hin
    simp only [sIn, Bool.and_eq_true, decide_eq_true_eq] at hin2
    obtain ⟨i, rfl⟩ : ∃ i : Nat, bath = i := ⟨bath.toNat, by omega⟩
    have hil : (i : Int) < r.ba.length := by omega
    simp only [gos, eq_self, Nat.reduceLT, Nat.reduceEqDiff, Nat.reduceAdd, reduceCtorEq, reduceIte, ↓reduceIte, tt, vgo, vout, vguard, callOf, vop, ev, newRow, vfill]
    refine Wr.at tabOk 0 ?_
    simp only [gos]
    refine Wa.mk (ρ2 := [(2, .rop r.cs), (3, .rop [vi i]), (6, .rop (bw r (.mp 90))), (8, .ptr 8 0 0), (9, .ptr 9 0 0), (10, .ptr 10 0 0)]) (h2 := mH [] [(8, ⟨0, .row [.fn 31 [] []]⟩), (9, ⟨0, .row [.fn 32 [] []]⟩), (10, ⟨0, .row (cI zL)⟩)]) (Wk.heap (fun q => rfl) (by simp [subE, Env.get])) ?_
    simp only [mH, gos, eq_self, Nat.reduceLT, Nat.reduceEqDiff, reduceIte, ↓reduceIte, vgo, vout, vguard, callOf, vop, ev, cv]
    refine Cl.less (cs := [.rop (bw r (.mp 90)), vI []]) (ImpV.refl _) ⟨ImpV.refl _, sl0_vI, trivial⟩ (Cl.mk (c_plans r [] _) ?_)
    rintro v h' ⟨rfl, rfl⟩
    simp only [gos]
    refine W.rangeFuncG 50 51 rfl rfl (by decide) rfl ?_
    intro sa sb hsa hsb
    have Y : YP Try.prog (.yl 50) (hrH r i [33] sa sb) (stepHr i) (OkHr r) := by
      refine ⟨?_, ?_, ?_, ?_, ?_, ?_, ?_, ?_, ?_, ?_, ?_, rfl⟩
      · rintro p c M ok
        refine (Ev.roundG (i := 50) (pd := none) tabOk mixed (fzn []) (cln []) rfl rfl rfl (S := fun v h' => v = .bool (stepHr i p c).1 ∧ h' = mH M (hrH r i [33] sa sb (stepHr i p c).2)) ?_)
        intro L Q2 hQ2 Q1 hQ1
        have hpi : (i : Int) < p.length := by rw [ok.pl]; omega
        have hx := ok.pm _ (gi_mem (l := p) (i := i) (by omega))
        have hx5 : gi p i < ((5 : Nat) : Int) := by omega
        have hcl := ok.cl
        have hxl : gi p i < c.length := by rw [hcl]; omega
        have hat := cI_at hx.1 hxl
        rw [Nat.mul_one] at hat
        have hcb := ok.cb (gi p i).toNat
        rw [show (((gi p i).toNat : Nat) : Int) = gi p i by omega] at hcb
        have w1 := i64_in (show -9223372036854775808 ≤ gi c (gi p i) + 1 by omega) (show gi c (gi p i) + 1 ≤ 9223372036854775807 by omega)
        have hset : List.take (gi p i).toNat (cI c) ++ [V.int IntKind.i64 (gi c (gi p i) + 1)] ++ List.drop ((gi p i).toNat + 1) (cI c) = cI (inc c (gi p i)) := by
          rw [inc]; exact cI_set _ (by rw [hcl]; omega)
        have hc5 : (gi p i).toNat + 1 ≤ 5 := by omega
        have hn5 : (cI c).length = 5 := by rw [cI_len, hcl]
        have hatp := cI_at (Int.natCast_nonneg i) hpi
        rw [Int.toNat_natCast, Nat.mul_one] at hatp
        refine W.named hsa ?_
        simp only [gos, eq_self, Nat.reduceLT, reduceIte, ↓reduceIte, vgo, vout, vguard, callOf, vop, ev, putL, hrH, hrE, mH]
        refine hQ1 _ _ none rfl (W.named hsb ?_)
        simp only [gos, eq_self, Nat.reduceLT, Nat.reduceEqDiff, reduceCtorEq, reduceIte, ↓reduceIte, tt, vgo, vout, vguard, callOf, vop, ev, cv, vbin, vint, isShift, isNilConst, vload, vI, hpi, hatp, hx.1, hx5, hat, w1, hset, hc5, hn5, Int.natCast_nonneg, Nat.mul_one, Nat.zero_add, Int.toNat_natCast]
        exact hQ2 _ _ _ _ ⟨.busy, none, rfl, rfl, rfl⟩
      · intro x M; rfl
      · exact fun x M => hrH_closed r i [33] sa sb x M
      · exact hrH_dom r i [33] sa sb
      · intro x; rfl
      · intro x; rfl
      · intro x; rfl
      · intro x; rfl
      · intro v cs; rfl
      · intro x v cs
        simp only [hrH, hrE, frzH, Blk.frz, frzE, V.frz, frzL, lent, plansV, bw_frz, vI_frz, rm_frz, cI_frz]
        rfl
      · intro x
        simp only [hrH, noLoopOn, lent]
        rfl
    have hgood : GoodX (stepHr i) (OkHr r) (plL r []) zL := good_hr k (by omega) _ _ (fun p hp => plL_mem0 k hp) rfl fun j => by
      have := plL_count k []
      rw [zL_gi]; omega
    refine (c_plans1 r k [] (by simp) (.yl 50) _ _ _ Y [] (BMemo.nil r) zL hgood).mono ?_
    rintro v h' ⟨M', HM', rfl⟩
    rw [runX_stepHr]
    refine ⟨.ready, none, rfl, by decide, ?_⟩
    rw [show addC zL ((plL r []).map fun p => gi p i) = cntH (plL r []) i from rfl]
    generalize hC : cntH (plL r []) i = C
    simp only [gos, eq_self, Nat.reduceEqDiff, reduceIte, ↓reduceIte, hrH, hrE, mH]
    refine Wr.at tabOk 0 ?_
    simp only [gos]
    refine Wa.mk (ρ2 := [(2, .rop r.cs), (3, .rop [vi i]), (8, .ptr 8 0 0), (9, .ptr 9 0 0), (10, .ptr 10 0 0)]) (h2 := [(8, ⟨0, .row [.fn 31 [] []]⟩), (9, ⟨0, .row [.fn 32 [] []]⟩), (10, ⟨0, .row (cI C)⟩), (51, ⟨0, .dfr true⟩)]) (Wk.forget (by simp [subE, Env.get]) (by simp [subH, Heap.get]) (fun j hp => by
      simp only [orD, domP, Heap.get, List.contains_cons, List.contains_nil, Bool.or_false] at hp ⊢
      have : j = 51 := by simpa using hp
      subst this; rfl) (by simp only [intoE, V.into, intoL, Bool.true_and, Bool.and_true, domP, Heap.get, rm_into]; try rfl) (by simp only [intoH, Blk.into, V.into, intoL, cI_into, Bool.and_true]; try rfl)) ?_
    have hbi := k.ba _ (List.mem_of_getElem? (gR_get hil))
    have e0 := cR_at (Int.natCast_nonneg i) hil
    rw [Int.toNat_natCast] at e0
    have hC5 : (cI C).length = 5 := by rw [cI_len, ← hC, cntH_len]
    simp only [gos, eq_self, Nat.reduceLT, Nat.reduceEqDiff, reduceIte, ↓reduceIte, vgo, vout, vguard, callOf, vop, ev, cv]
    refine Wr.draw (by kernel_rfl) ?_
    simp only [gos, eq_self, Nat.reduceLT, Nat.reduceEqDiff, Nat.reduceAdd, reduceCtorEq, reduceIte, ↓reduceIte, tt, vgoD, voutD, vclsOk, vids, mayWrite, V.ids, vguard, callOf, vop, ev, vload, clsAt, rms, vR, hil, Int.natCast_nonneg, Int.toNat_natCast, e0]
    refine CD.pu (c_first (gR r.ba i)) ?_
    simp only [gos, eq_self, Nat.reduceLT, reduceIte, ↓reduceIte, vgoD, voutD, vclsOk, vids, mayWrite, vguard, callOf, vop, ev]
    let F : Int → Bool := fun h => (plL r []).any fun p => decide (gi p i = h)
    let R := rangeI (gR r.ba i).lo (gR r.ba i).hi
    have hrl := rangeI_len (gR r.ba i).lo (gR r.ba i).hi
    refine W.loop tabOk mixed (fun j : Nat => ([(2, .rop r.cs), (3, .rop [vi i]), (8, .ptr 8 0 0), (9, .ptr 9 0 0), (10, .ptr 10 0 0), (12, .own 69 ((R.take j).filter F).length 0 1 ((R.take j).filter F).length), (13, vi ((gR r.ba i).lo + j))], [(8, ⟨0, .row [.fn 31 [] []]⟩), (9, ⟨0, .row [.fn 32 [] []]⟩), (10, ⟨0, .row (cI C)⟩), (51, ⟨0, .dfr true⟩), (69, ⟨((R.take j).filter F).length, .row (cI ((R.take j).filter F))⟩)])) (fun j => R.length - j) (fun j => j ≤ R.length) 0 (Nat.zero_le _) (Wk.trans (Wk.sl0E 12 69 1 rfl rfl) (Wk.env (by simp [subE, Env.get]))) ?_
    intro j hj
    by_cases hjl : (gR r.ba i).lo + (j : Int) ≤ (gR r.ba i).hi
    · obtain ⟨hv, hhv⟩ : ∃ hv : Int, hv = (gR r.ba i).lo + (j : Int) := ⟨_, rfl⟩
      have hx0 : 0 ≤ hv := by omega
      have hx5 : hv < ((5 : Nat) : Int) := by omega
      have hxl : hv < C.length := by rw [← hC, cntH_len]; omega
      have hat := cI_at hx0 hxl
      rw [Nat.mul_one] at hat
      have hpos := cntH_pos k (show i < r.ba.length by omega) hv.toNat
      rw [show ((hv.toNat : Nat) : Int) = hv by omega, hC] at hpos
      have hw : IntKind.i64.wrap (hv + 1) = hv + 1 := i64_in (by omega) (by omega)
      rw [← hhv] at hjl ⊢
      simp only [gos, eq_self, Nat.reduceEqDiff, reduceIte, ↓reduceIte]
      refine Wr.draw (by kernel_rfl) ?_
      simp only [gos, eq_self, Nat.reduceLT, Nat.reduceEqDiff, Nat.reduceAdd, reduceCtorEq, reduceIte, ↓reduceIte, tt, vgoD, voutD, vclsOk, vids, mayWrite, V.ids, vguard, callOf, vop, ev, vload, clsAt, rms, vR, hil, Int.natCast_nonneg, Int.toNat_natCast, e0]
      refine CD.pu (c_last (gR r.ba i)) ?_
      have hgt : ((plL r []).any fun p => decide (gi p i = hv)) = F hv := rfl
      simp only [gos, eq_self, Nat.reduceLT, Nat.reduceEqDiff, reduceCtorEq, reduceIte, ↓reduceIte, tt, vgo, vout, vgoD, voutD, vclsOk, vids, mayWrite, vguard, callOf, vop, ev, cv, vbin, vint, isShift, isNilConst, vload, hjl, hx0, hx5, hat, Nat.zero_add, Nat.mul_one, hpos]
      have hsx : (R.take (j + 1)).filter F = (R.take j).filter F ++ (if F hv = true then [hv] else []) := by
        rw [List.take_add_one, show R[j]? = some hv from by rw [hhv]; exact rangeI_get (by omega), List.filter_append]
        congr 1
        simp only [Option.toList_some, List.filter]
        cases F hv <;> rfl
      have hRl : R.length ≤ 5 := by show (rangeI _ _).length ≤ 5; omega
      have hfl : ((R.take j).filter F).length ≤ 5 := Nat.le_trans (List.length_filter_le _ _) (by rw [List.length_take]; omega)
      have hl1 : (cI ((R.take j).filter F)).length = ((R.take j).filter F).length := cI_len _
      have hl9 : ((R.take j).filter F).length ≤ 999999 := by omega
      have hjR : j < R.length := by show j < (rangeI _ _).length; omega
      have hw2 : (gR r.ba i).lo + ((j + 1 : Nat) : Int) = hv + 1 := by omega
      cases hF : F hv with
      | true =>
        rw [hF, if_pos rfl] at hsx
        rw [hgt, hF]
        simp only [gos, eq_self, Nat.reduceLT, Nat.reduceEqDiff, Nat.reduceAdd, Nat.reduceLeDiff, reduceCtorEq, reduceIte, ↓reduceIte, tt, vgo, vout, vguard, callOf, vop, ev, cv, vbin, vint, isShift, isNilConst, vfill, vappend, srcOf, hl1, hl9, hw, Nat.mul_one]
        refine Nx.mk (j + 1) (show _ - (j + 1) < _ - j by omega) (by omega) (Wk.heap (fun q => ?_) ?_)
        · rw [hsx, cI_snoc, List.length_append]; rfl
        · simp only [hw2]
          simp [subE, Env.get, hsx]
      | false =>
        rw [hF, if_neg (by simp)] at hsx
        rw [hgt, hF]
        simp only [gos, eq_self, Nat.reduceLT, Nat.reduceEqDiff, reduceIte, ↓reduceIte, vgo, vout, vguard, callOf, vop, ev, cv, vbin, vint, isShift, isNilConst, hw]
        refine Nx.mk (j + 1) (show _ - (j + 1) < _ - j by omega) (by omega) ?_
        simp only [hw2]
        rw [hsx, List.append_nil]
        exact Wk.env (by simp [subE, Env.get])
    · have hjR : j = R.length := by
        have : R.length = (rangeI (gR r.ba i).lo (gR r.ba i).hi).length := rfl
        omega
      simp only [gos, eq_self, Nat.reduceEqDiff, reduceIte, ↓reduceIte]
      refine Wr.draw (by kernel_rfl) ?_
      simp only [gos, eq_self, Nat.reduceLT, Nat.reduceEqDiff, Nat.reduceAdd, reduceCtorEq, reduceIte, ↓reduceIte, tt, vgoD, voutD, vclsOk, vids, mayWrite, V.ids, vguard, callOf, vop, ev, vload, clsAt, rms, vR, hil, Int.natCast_nonneg, Int.toNat_natCast, e0]
      refine CD.pu (c_last (gR r.ba i)) ?_
      simp only [gos, eq_self, Nat.reduceLT, Nat.reduceEqDiff, reduceIte, ↓reduceIte, vgo, vout, vgoD, voutD, vclsOk, vids, mayWrite, vguard, callOf, vop, ev, cv, vbin, vint, isShift, isNilConst, hjl]
      subst hQ
      have hr2 : sHoursR r i = (sHoursL r i, 0) := by rw [sHoursR, if_pos h0, if_pos hin, Int.toNat_natCast]
      have hT : (R.take j).filter F = sHoursL r i := by rw [hjR, List.take_length]; rfl
      rw [hr2, hT]
      have ht : (cI (sHoursL r i)).take (sHoursL r i).length = cI (sHoursL r i) := List.take_of_length_le (by rw [cI_len]; omega)
      refine FnPost.defer trivial (by decide) (by simp [Heap.get]) (v := .tup [.own 69 (sHoursL r i).length 0 1 (sHoursL r i).length, vi 0]) (fun h2 e => by rfl) (fun h2 e => WkV.trans (WkV.forgetF (h' := [(69, ⟨(sHoursL r i).length, .row (cI (sHoursL r i))⟩)]) (fun q en he => ?_) (fun q hq => by simp [domP, Heap.get] at hq) ?_ ?_) (WkV.frz 69 (v' := .tup [vI (sHoursL r i), vi 0]) (h' := []) (ver := (sHoursL r i).length) (cs := cI (sHoursL r i)) rfl rfl (cI_into _ _) rfl ?_ ?_ WkV.refl)) ⟨rfl, rfl⟩
      · simp only [Heap.get] at he
        split at he
        · rename_i h69
          subst h69
          rw [e 69 (by decide), ← he]; rfl
        · cases he
      · simp only [V.into, intoL, Bool.and_true, domP, Heap.get]; try rfl
      · simp only [intoH, Blk.into, cI_into, Bool.and_true]; try rfl
      · simp [V.frz, frzL, vI, ht]
      · simp [frzH]
end Go.Vm

set_option linter.unusedVariables false
set_option linter.unusedSimpArgs false
set_option maxRecDepth 100000
namespace Go.Vm
open Go.Proofs
theorem memoI_ren (s : Nat → Nat) : ∀ m : MemoI, renPs s (memoI m) = memoI m
  | [] => rfl
  | (k, b) :: m => by simp only [memoI, renPs, V.ren, cI_ren, memoI_ren s m]
/-! ### rest: is there a sure plan without some baths -/
def stepRs (p : List Int) (x : Bool) : Bool × Bool := (false, true)
theorem runX_stepRs : ∀ l : List (List Int), (runX stepRs l false).2 = !l.isEmpty
  | [] => rfl
  | p :: l => rfl
def rsH (r : Rm) (out : List Int) (ps : List Tmp) (sa sb : Code) (x : Bool) : Heap :=
  [(40, ⟨0, .row [.bool x]⟩), (51, ⟨0, .dfr true⟩), (50, lent (if x then .done else .ready) (if x then some .ret else none) 25 9 [(7, plansV r out), (6, vI out), (5, .rop (bw r (.mp 90))), (4, .ptr 40 0 0), (0, .rop (bw r (.mp 90))), (1, vI out)] ps sa sb 51)]
theorem rsH_closed (r : Rm) (out : List Int) (ps : List Tmp) (sa sb : Code) (x : Bool) (M : MemoI) : intoH (domP (mH M (rsH r out ps sa sb x))) (mH M (rsH r out ps sa sb x)) = true := by
  simp only [rsH, mH, intoH, lent, Blk.into, intoE, V.into, intoL, vI_into, Bool.true_and, Bool.and_true, memoI_into, plansV, domP, Heap.get]
  rw [bw_into _ _ _ (by simp [V.into, domP, Heap.get])]
  rfl
theorem rsH_dom (r : Rm) (out : List Int) (ps : List Tmp) (sa sb : Code) (x y : Bool) (j : Nat) : domP (rsH r out ps sa sb x) j = domP (rsH r out ps sa sb y) j := by
  simp only [rsH, domP, Heap.get]
  repeat' split
  all_goals rfl
set_option maxHeartbeats 2000000 in
theorem c_rest (r : Rm) (k : RmOk r) (out : List Int) (hout : (out.length : Int) ≤ 1000000) (M : MemoI) (HM : BMemo r M) : Ev Try.prog (.fn 25 [] []) [.rop (bw r (.mp 90)), vI out] [(90, ⟨0, .map (memoI M)⟩)] fun v h' => ∃ M', BMemo r M' ∧ v = .bool (!(plL r out).isEmpty) ∧ h' = [(90, ⟨0, .map (memoI M')⟩)] := by
  refine Ev.fn Try.func25 rfl rfl (Fn.body tabOk Try.func25 rfl (Nat.le_of_ble_eq_true rfl) (Ks.ok (fz := (fzn [4])) (cl := (cln [(1, .ex)])) tabOk mixed ?_))
  generalize hQ : FnPost tt Try.f25 _ _ = Q
  simp only [Try.f25, List.nil_append, List.append_nil, argsEnv, Nat.reduceAdd]
  simp only [gos, eq_self, Nat.reduceLT, Nat.reduceEqDiff, reduceCtorEq, reduceIte, ↓reduceIte, tt, vgo, vout, vguard, callOf, vop, newRow]
  refine Wr.at tabOk 0 ?_
  simp only [gos]
  refine Wa.mk (Wk.ren 4 40 rfl rfl) ?_
  simp only [renE, renH, V.ren, renL, Blk.ren, sw, bw_ren, vI, cI_ren, memoI_ren, gos, eq_self, Nat.reduceLT, Nat.reduceEqDiff, reduceCtorEq, reduceIte, ↓reduceIte, vgo, vout, vguard, callOf, vop, ev]
  rw [show V.ro out.length (cI out) = vI out from rfl]
  refine Cl.mk (c_plans r out _) ?_
  rintro v h' ⟨rfl, rfl⟩
  simp only [gos]
  refine W.rangeFuncG 50 51 rfl rfl (by decide) rfl ?_
  intro sa sb hsa hsb
  have Y : YP Try.prog (.yl 50) (rsH r out [8] sa sb) stepRs (fun p x => x = false) := by
    refine ⟨?_, ?_, ?_, ?_, ?_, ?_, ?_, ?_, ?_, ?_, ?_, rfl⟩
    · rintro p x M rfl
      refine (Ev.roundG (i := 50) (pd := none) tabOk mixed (fzn []) (cln []) rfl rfl rfl (S := fun v h' => v = .bool (stepRs p false).1 ∧ h' = mH M (rsH r out [8] sa sb (stepRs p false).2)) ?_)
      intro L Q2 hQ2 Q1 hQ1
      refine W.named hsa ?_
      simp only [gos, reduceIte, ↓reduceIte, putL, rsH, mH]
      refine hQ1 _ _ none rfl (W.named hsb ?_)
      simp only [gos, eq_self, Nat.reduceLT, Nat.reduceEqDiff, Nat.reduceAdd, reduceCtorEq, reduceIte, ↓reduceIte, tt, vgo, vout, vguard, callOf, vop, ev, cv]
      exact hQ2 _ _ _ _ ⟨.busy, none, rfl, rfl, rfl⟩
    · intro x M; rfl
    · exact fun x M => rsH_closed r out [8] sa sb x M
    · exact rsH_dom r out [8] sa sb
    · intro x; rfl
    · intro x; rfl
    · intro x; rfl
    · intro x; rfl
    · intro v cs; rfl
    · intro x v cs
      simp only [rsH, frzH, Blk.frz, frzE, V.frz, frzL, lent, plansV, bw_frz, vI_frz]
      rfl
    · intro x
      simp only [rsH, noLoopOn, lent]
      rfl
  refine (c_plans1 r k out hout (.yl 50) _ _ _ Y M HM false ?_).mono ?_
  · cases h : plL r out with
    | nil => trivial
    | cons p l => exact ⟨rfl, fun e => by cases e⟩
  rintro v h' ⟨M', HM', rfl⟩
  rw [runX_stepRs]
  cases hl : (plL r out).isEmpty with
  | true =>
    refine ⟨.ready, none, rfl, by decide, ?_⟩
    simp only [gos, eq_self, Nat.reduceLT, Nat.reduceEqDiff, Nat.reduceAdd, reduceCtorEq, reduceIte, ↓reduceIte, tt, vgo, vout, vguard, callOf, vop, ev, cv, rsH, mH]
    subst hQ
    refine FnPost.defer trivial (by decide) (by simp [Heap.get]) (v := .bool false) (fun h2 e => ?_) (v3 := .bool false) (h3 := [(90, ⟨0, .map (memoI M')⟩)]) (fun h2 e => WkV.forgetF (fun q en he => ?_) (fun q hq => ?_) rfl ?_) ⟨M', HM', by rw [hl]; rfl, rfl⟩
    · have e2 : h2.get 40 = some ⟨0, .row [.bool false]⟩ := (e 40 (by decide)).trans rfl
      simp only [Try.f25, vres, vresL, vres1, gos, eq_self, Nat.reduceLT, Nat.reduceEqDiff, reduceCtorEq, reduceIte, ↓reduceIte, tt, vload, e2]
    · simp only [Heap.get] at he
      split at he
      · rename_i h90
        subst h90
        rw [e 90 (by decide), ← he]; rfl
      · cases he
    · simpa [domP, Heap.get] using hq
    · simp only [intoH, Blk.into, memoI_into, Bool.and_self]
  | false =>
    refine ⟨.done, some .ret, rfl, by decide, ?_⟩
    simp only [gos, eq_self, Nat.reduceEqDiff, reduceIte, ↓reduceIte, rsH, mH]
    subst hQ
    refine FnPost.defer trivial (by decide) (by simp [Heap.get]) (v := .bool true) (fun h2 e => ?_) (v3 := .bool true) (h3 := [(90, ⟨0, .map (memoI M')⟩)]) (fun h2 e => WkV.forgetF (fun q en he => ?_) (fun q hq => ?_) rfl ?_) ⟨M', HM', by rw [hl]; rfl, rfl⟩
    · have e2 : h2.get 40 = some ⟨0, .row [.bool true]⟩ := (e 40 (by decide)).trans rfl
      simp only [Try.f25, vres, vresL, vres1, gos, eq_self, Nat.reduceLT, Nat.reduceEqDiff, reduceCtorEq, reduceIte, ↓reduceIte, tt, vload, e2]
    · simp only [Heap.get] at he
      split at he
      · rename_i h90
        subst h90
        rw [e 90 (by decide), ← he]; rfl
      · cases he
    · simpa [domP, Heap.get] using hq
    · simp only [intoH, Blk.into, memoI_into, Bool.and_self]
/-- Over the memo and whatever else, when the memo that comes back is only known to be one. -/
theorem Ev.memoE {P : Program} {fv : V} {args : List V} {v : V} {r : Rm} {mi : Nat} {m : MemoI} (c : Ev P fv args [(mi, ⟨0, .map (memoI m)⟩)] fun v' h' => ∃ M', BMemo r M' ∧ v' = v ∧ h' = [(mi, ⟨0, .map (memoI M')⟩)]) (k : Heap) (hk : k.get mi = none)
    (hf : fv.into (domP [(mi, ⟨0, .map (memoI m)⟩)]) = true) (ha : intoL (domP [(mi, ⟨0, .map (memoI m)⟩)]) args = true) :
    Ev P fv args ((mi, ⟨0, .map (memoI m)⟩) :: k) fun v' h' => ∃ M', BMemo r M' ∧ v' = v ∧ h' = (mi, ⟨0, .map (memoI M')⟩) :: k := by
  have hsub : ∀ (X : MemoI) (i : Nat) (e : Ent), Heap.get [(mi, ⟨0, .map (memoI X)⟩)] i = some e → k.get i = none := fun X i e he => by
    simp only [Heap.get] at he
    by_cases h : i = mi
    · subst h; exact hk
    · rw [if_neg h] at he; cases he
  refine (c.frame k (hsub m) hf ha ?_ ?_).mono ?_
  · simp only [intoH, Blk.into, memoI_into, Bool.and_self]
  · rintro v' h' ⟨M', _, _, rfl⟩
    exact hsub _
  · rintro v' h'' ⟨h', ⟨M', HM', rfl, rfl⟩, rfl⟩
    exact ⟨M', HM', rfl, rfl⟩
theorem c_restK (r : Rm) (k : RmOk r) (out : List Int) (hout : (out.length : Int) ≤ 1000000) (M : MemoI) (HM : BMemo r M) (h : Heap) (hk : h.get 90 = none) : Ev Try.prog (.fn 25 [] []) [.rop (bw r (.mp 90)), vI out] ((90, ⟨0, .map (memoI M)⟩) :: h) fun v h' => ∃ M', BMemo r M' ∧ v = .bool (!(plL r out).isEmpty) ∧ h' = (90, ⟨0, .map (memoI M')⟩) :: h :=
  (c_rest r k out hout M HM).memoE h hk rfl (by simp only [intoL, V.into, bw_dom, vI_into, Bool.and_self])
end Go.Vm

set_option linter.unusedVariables false
set_option linter.unusedSimpArgs false
set_option maxRecDepth 100000
namespace Go.Vm
open Go.Proofs
/-! ### Give: the baths that must be given up -/
def sRest (r : Rm) (out : List Int) : Bool := !(plL r out).isEmpty
def giveF (r : Rm) : Nat → List Int → Int → Option (List Int)
  | 0, out, _ => if sRest r out = true then some out else none
  | m + 1, out, first => (rangeI first (r.ba.length - ((m + 1 : Nat) : Int))).findSome? fun i => giveF r m (out ++ [i]) (i + 1)
def giveV (r : Rm) : V := .fn 24 [] [.ptr 46 0 0, .ptr 44 0 0, .rop r.cs, .ptr 47 0 0]
def gvH (r : Rm) (M : MemoI) (f : Option (List Int)) : Heap := [(90, ⟨0, .map (memoI M)⟩), (46, ⟨0, .row [oV f]⟩), (44, ⟨0, .row [.rop (bw r (.mp 90))]⟩), (47, ⟨0, .row [giveV r]⟩)]
set_option maxHeartbeats 4000000 in
theorem c_give1 (r : Rm) (k : RmOk r) : ∀ (m : Nat) (out : List Int) (first : Int) (f : Option (List Int)) (M : MemoI), BMemo r M → out.length + m ≤ r.ba.length → 0 ≤ first ∧ first ≤ 100 →
    Ev Try.prog (giveV r) [vI out, vi first, vi m] (gvH r M f) fun v h' => ∃ f' M', BMemo r M' ∧ (∀ l, giveF r m out first = some l → f' = some l) ∧ v = .bool (giveF r m out first).isSome ∧ h' = gvH r M' f'
  | 0, out, first, f, M, HM, hlen, hfi => by
    have hrd := k.len
    unfold giveV
    refine Ev.fn Try.func24 rfl rfl (Fn.body tabOk Try.func24 rfl (Nat.le_of_ble_eq_true rfl) (Ks.ok (fz := (fzn [])) (cl := (cln [])) tabOk mixed ?_))
    generalize hQ : FnPost tt Try.f24 _ _ = Q
    simp only [Try.f24, List.nil_append, List.cons_append, argsEnv, Nat.reduceAdd]
    have hd0 : decide (((0 : Nat) : Int) = 0) = true := rfl
    simp only [gos, eq_self, Nat.reduceLT, Nat.reduceEqDiff, Nat.reduceAdd, reduceCtorEq, reduceIte, ↓reduceIte, tt, vgo, vout, vguard, callOf, vop, ev, cv, vbin, vint, isShift, isNilConst, vload, hd0, gvH]
    refine Cl.mk (c_restK r k out (by omega) M HM _ rfl) ?_
    rintro v h' ⟨M', HM', rfl, rfl⟩
    simp only [gos, eq_self, Nat.reduceLT, reduceIte, ↓reduceIte, vgo, vout, vguard, callOf, vop, ev]
    subst hQ
    refine FnPost.plain trivial (v := .bool (sRest r out)) (fun h2 e => by rfl) WkV.refl ⟨some out, M', HM', ?_, ?_, rfl⟩
    · intro l hl
      simp only [giveF] at hl
      split at hl
      · exact hl
      · cases hl
    · simp only [giveF]
      cases sRest r out <;> rfl
  | m + 1, out, first, f, M, HM, hlen, hfi => by
    have hrd := k.len
    unfold giveV
    refine Ev.fn Try.func24 rfl rfl (Fn.body tabOk Try.func24 rfl (Nat.le_of_ble_eq_true rfl) (Ks.ok (fz := (fzn [])) (cl := (cln [(7, .ex)])) tabOk mixed ?_))
    generalize hQ : FnPost tt Try.f24 _ _ = Q
    simp only [Try.f24, List.nil_append, List.cons_append, argsEnv, Nat.reduceAdd]
    have hd0 : decide (((m + 1 : Nat) : Int) = 0) = false := by rw [decide_eq_false_iff_not]; omega
    simp only [gos, eq_self, Nat.reduceLT, Nat.reduceEqDiff, reduceCtorEq, reduceIte, ↓reduceIte, vgo, vout, vguard, callOf, vop, ev, cv, vbin, vint, isShift, isNilConst, vI, hd0, gvH]
    refine W.loop tabOk mixed (fun a : Nat × Option (List Int) × MemoI => ([(0, vI out), (2, vi (m + 1 : Nat)), (3, .ptr 46 0 0), (4, .ptr 44 0 0), (5, .rop r.cs), (6, .ptr 47 0 0), (11, vi (first + a.1))], gvH r a.2.2 a.2.1)) (fun a => 10 - a.1)
      (fun a => BMemo r a.2.2 ∧ (a.1 = 0 ∨ first + (a.1 : Int) ≤ r.ba.length - ((m + 1 : Nat) : Int) + 1) ∧ ∀ j : Nat, j < a.1 → giveF r m (out ++ [first + (j : Int)]) (first + j + 1) = none) (0, f, M) ⟨HM, .inl rfl, fun j hj => by simp at hj⟩ (Wk.env (by simp [subE, Env.get, vI])) ?_
    rintro ⟨i, f1, M1⟩ ⟨HM1, hi, hno⟩
    simp only at hi hno HM1 ⊢
    have hsub := i64_in (show -9223372036854775808 ≤ (r.ba.length : Int) - ((m + 1 : Nat) : Int) by omega) (show (r.ba.length : Int) - ((m + 1 : Nat) : Int) ≤ 9223372036854775807 by omega)
    by_cases hil : first + (i : Int) ≤ r.ba.length - ((m + 1 : Nat) : Int)
    · simp only [gos, eq_self, Nat.reduceLT, Nat.reduceEqDiff, reduceCtorEq, reduceIte, ↓reduceIte, tt, vgo, vout, vguard, callOf, vop, ev, vbin, vint, isShift, isNilConst, vload, vlen, rms, vR, hsub, hil]
      refine Wr.last tabOk mixed (tgL [(7, 1), (33, 1)]) [cL, cP, some ([1], [1]), cP, cP, some ([1], [1]), cP, cP, cP, cP, none] _ (by kernel_rfl) (by kernel_rfl) rfl ?_
      simp only [gos, eq_self, Nat.reduceLT, Nat.reduceEqDiff, Nat.reduceAdd, reduceCtorEq, reduceIte, ↓reduceIte, tt, vgoD, voutD, vclsOk, vids, mayWrite, V.ids, vguard, callOf, vop, ev, vload, clsAt, gvH, List.dropLast, List.getLast]
      refine CD.new (n_Clone out (by omega)) rfl rfl rfl ?_
      have hcl : (cI out).length = out.length := cI_len out
      have hcm : out.length ≤ 999999 := by omega
      have hm1 : ((m + 1 : Nat) : Int) - 1 = (m : Int) := by omega
      simp only [gos, eq_self, Nat.reduceLT, Nat.reduceEqDiff, Nat.reduceAdd, Nat.reduceLeDiff, reduceCtorEq, reduceIte, ↓reduceIte, tt, vgoD, voutD, vclsOk, vids, mayWrite, V.ids, vguard, callOf, vop, ev, cv, vbin, vint, isShift, isNilConst, vfill, vappend, srcOf, hcl, hcm, Nat.mul_one, i64_in (show -9223372036854775808 ≤ first + (i : Int) + 1 by omega) (show first + (i : Int) + 1 ≤ 9223372036854775807 by omega), hm1, i64_in (show -9223372036854775808 ≤ (m : Int) by omega) (show (m : Int) ≤ 9223372036854775807 by omega)]
      refine Wa.mk (Wk.freeze 7 (ver := 1) (cs := cI out ++ [vi (first + i)]) rfl rfl (by rw [← cI_snoc]; exact cI_into _ _) rfl) ?_
      rw [← cI_snoc]
      simp only [frzE, frzH, V.frz, frzL, Blk.frz, giveV, rm_frz, bw_frz, oV_frz, memoI_frz, vI_frz, gos, eq_self, Nat.reduceLT, Nat.reduceEqDiff, reduceCtorEq, reduceIte, ↓reduceIte, vgo, vout, vguard, callOf, ev]
      have hll : (out ++ [first + (i : Int)]).length = out.length + 1 := by simp
      have ht : List.take ((out.length + 1) * 1) (cI (out ++ [first + (i : Int)])) = cI (out ++ [first + (i : Int)]) := List.take_of_length_le (by rw [cI_len, hll]; omega)
      rw [ht, show V.ro (out.length + 1) (cI (out ++ [first + (i : Int)])) = vI (out ++ [first + (i : Int)]) by rw [vI, hll]]
      refine Cl.mk (c_give1 r k m (out ++ [first + (i : Int)]) (first + i + 1) f1 M1 HM1 (by rw [hll]; omega) (by omega)) ?_
      rintro v h' ⟨f2, M2, HM2, hf2, rfl, rfl⟩
      cases hr : giveF r m (out ++ [first + (i : Int)]) (first + i + 1) with
      | some l =>
        simp only [gos, eq_self, Nat.reduceLT, Nat.reduceEqDiff, reduceIte, ↓reduceIte, vgo, vout, vguard, callOf, vop, ev, cv, Option.isSome_some]
        subst hQ
        have hrr : giveF r (m + 1) out first = some l := by
          rw [giveF]
          exact findSome_some (i := i) hil hr hno
        rw [hrr]
        exact FnPost.plain trivial (v := .bool true) (fun h2 e => by rfl) WkV.refl ⟨f2, M2, HM2, fun l' e => by rw [hf2 l hr]; exact e, rfl, rfl⟩
      | none =>
        simp only [gos, eq_self, Nat.reduceLT, Nat.reduceEqDiff, reduceCtorEq, reduceIte, ↓reduceIte, vgo, vout, vguard, callOf, vop, ev, cv, vbin, vint, isShift, isNilConst, Option.isSome_none]
        refine Nx.mk (i + 1, f2, M2) (show 10 - (i + 1) < 10 - i by omega) ⟨HM2, .inr (by simp only; omega), fun j hj => ?_⟩ (Wk.env ?_)
        · rcases Nat.lt_succ_iff_lt_or_eq.1 hj with h | rfl
          · exact hno j h
          · exact hr
        · have hw : IntKind.i64.wrap (first + ((i : Int) + 1)) = first + ((i : Int) + 1) := i64_in (by omega) (by omega)
          simp [subE, Env.get, vI, Int.add_assoc, hw]
    · have hrr : giveF r (m + 1) out first = none := by
        rw [giveF]
        exact findSome_none fun j hj => hno j (by omega)
      simp only [gos, eq_self, Nat.reduceLT, Nat.reduceEqDiff, reduceCtorEq, reduceIte, ↓reduceIte, tt, vgo, vout, vguard, callOf, vop, ev, cv, vbin, vint, isShift, isNilConst, vload, vlen, rms, vR, hsub, hil]
      subst hQ
      rw [hrr]
      exact FnPost.plain trivial (v := .bool false) (fun h2 e => by rfl) WkV.refl ⟨f1, M1, HM1, (fun l e => by cases e), rfl, rfl⟩
end Go.Vm

set_option linter.unusedVariables false
set_option linter.unusedSimpArgs false
set_option maxRecDepth 100000
namespace Go.Vm
open Go.Proofs
theorem allP_outs (r : Rm) (out : List Int) : ∀ (m i : Nat), (∀ j : Nat, i ≤ j → j < i + m → outB out j = true) → allP r out m i = [[]]
  | 0, i, _ => rfl
  | m + 1, i, h => by
    rw [allP, if_pos (h i (by omega) (by omega))]
    exact allP_outs r out m (i + 1) fun j h1 h2 => h j (by omega) (by omega)
theorem rest_all {r : Rm} (k : RmOk r) (hs : sSureN r zL = true) : sRest r (upto r.ba.length) = true := by
  have h : allP r (upto r.ba.length) r.ba.length 0 = [[]] := allP_outs r _ _ _ fun j _ hj => by
    simp only [outB, List.any_eq_true]
    exact ⟨(j : Int), by simp only [upto, List.mem_map, List.mem_range]; exact ⟨j, by omega, rfl⟩, by simp⟩
  rw [sRest, plL_eq k, h]
  have : sSureN r (cntN []) = true := hs
  simp [this]
theorem give_all {r : Rm} (k : RmOk r) (hs : sSureN r zL = true) : ∀ (m i : Nat), i + m = r.ba.length → (giveF r m (upto i) i).isSome = true
  | 0, i, h => by
    have hp : sRest r (upto i) = true := by rw [show i = r.ba.length by omega]; exact rest_all k hs
    simp [giveF, hp]
  | m + 1, i, h => by
    have ih := give_all k hs m (i + 1) (by omega)
    rw [giveF, Option.isSome_iff_exists]
    obtain ⟨l, hl⟩ := Option.isSome_iff_exists.1 ih
    have e : upto (i + 1) = upto i ++ [(i : Int)] := by simp [upto, List.range_succ]
    refine ⟨l, findSome_some (i := 0) (by omega) ?_ fun j hj => by omega⟩
    rw [← hl, e]
    simp
def giveAll (r : Rm) : Option (List Int) := (rangeI 0 r.ba.length).findSome? fun many => giveF r many.toNat [] 0
theorem giveAll_some {r : Rm} (k : RmOk r) (hs : sSureN r zL = true) : ∃ l, giveAll r = some l := by
  have h := give_all k hs r.ba.length 0 (by omega)
  cases hc : giveAll r with
  | some l => exact ⟨l, rfl⟩
  | none =>
    exfalso
    rw [giveAll, List.findSome?_eq_none_iff] at hc
    have := hc (r.ba.length : Int) (by simp only [rangeI, List.mem_map, List.mem_range]; exact ⟨r.ba.length, by omega, by omega⟩)
    rw [Int.toNat_natCast] at this
    have e : upto 0 = [] := rfl
    rw [e] at h
    simp [this] at h
def sGiveR (r : Rm) : List Int × Int := if sCheckR r = 0 then (if sSureN r zL = true then ((giveAll r).getD [], 0) else ([], 10)) else ([], sCheckR r)
set_option maxHeartbeats 2000000 in
theorem c_bGive (r : Rm) (hr : r.wf) : Pu Try.prog (.fn 9 [] []) [.agg r.cs] (.tup [vI (sGiveR r).1, vi (sGiveR r).2]) := by
  refine Ev.fn Try.func9 rfl rfl (Fn.body tabOk Try.func9 rfl (Nat.le_of_ble_eq_true rfl) (Ks.ok (fz := (fzn [4, 6, 7])) (cl := (cln [(9, .ex)])) tabOk mixed ?_))
  generalize hQ : FnPost tt Try.f9 _ _ = Q
  simp only [Try.f9, List.nil_append, List.append_nil, argsEnv]
  simp only [gos, eq_self, Nat.reduceLT, Nat.reduceEqDiff, reduceCtorEq, reduceIte, ↓reduceIte, vgo, vout, vguard, callOf, vop, ev, cv, newRow]
  refine W.scope tabOk mixed ?_
  simp only [gos, eq_self, Nat.reduceLT, Nat.reduceEqDiff, reduceCtorEq, reduceIte, ↓reduceIte, tt, vgo, vout, vguard, callOf, vop, ev, vload, rms]
  by_cases h0 : sCheckR r = 0
  case neg =>
    refine Cl.pu (c_baskN r hr h0) ?_ rfl (by simp only [V.into, intoL, Bool.and_true, rm_into])
    have hb : (sCheckR r != 0) = true := by simp [h0]
    simp only [gos, eq_self, Nat.reduceLT, Nat.reduceEqDiff, Nat.reduceAdd, reduceCtorEq, reduceIte, ↓reduceIte, tt, vgo, vout, vguard, callOf, vop, ev, cv, vbin, vint, isShift, isNilConst, newRow, hb]
    subst hQ
    have hr2 : sGiveR r = ([], sCheckR r) := by rw [sGiveR, if_neg h0]
    rw [hr2]
    exact FnPost.plain trivial (v := .tup [.sl0, vi (sCheckR r)]) (fun h2 e => by rfl) (WkV.trans (WkV.less (v' := .tup [vI [], vi (sCheckR r)]) (ImpV.tup ⟨sl0_vI, ImpV.refl _, trivial⟩)) (WkV.pure (by simp only [V.into, intoL, vI_into, Bool.and_true]))) ⟨rfl, rfl⟩
  refine Cl.newN (n_bask r hr h0) rfl ?_
  have k := rmOk_of h0
  have hl := k.A.k0.last
  have hba := k.len
  have z0 : ((0 : Int) != 0) = false := rfl
  simp only [gos, eq_self, Nat.reduceLT, Nat.reduceEqDiff, Nat.reduceAdd, reduceCtorEq, reduceIte, ↓reduceIte, tt, vgo, vout, vguard, callOf, vop, ev, cv, vbin, vint, isShift, isNilConst, vload, newRow, vfill]
  have hnz : NOk zL := ⟨rfl, fun j => by rw [zL_gi]; omega⟩
  refine Cl.mk (c_bsureK r k [] (BMemo.nil r) 90 (by decide) zL hnz _ rfl) ?_
  rintro v h' ⟨rfl, rfl⟩
  have HM : BMemo r (suMM r [] zL) := (BMemo.nil r).su rfl
  generalize hMM : suMM r [] zL = M0 at HM ⊢
  cases hs : sSureN r zL with
  | false =>
    simp only [gos, eq_self, Nat.reduceLT, Nat.reduceEqDiff, reduceIte, ↓reduceIte, vgo, vout, vguard, callOf, vop, ev, cv]
    subst hQ
    have hr2 : sGiveR r = ([], 10) := by rw [sGiveR, if_pos h0, if_neg (by simp [hs])]
    rw [hr2]
    exact FnPost.plain trivial (v := .tup [.sl0, vi 10]) (fun h2 e => by rfl) (WkV.trans (WkV.less (v' := .tup [vI [], vi 10]) (ImpV.tup ⟨sl0_vI, ImpV.refl _, trivial⟩)) (WkV.pure (by simp only [V.into, intoL, vI_into, Bool.and_true]))) ⟨rfl, rfl⟩
  | true =>
    simp only [gos, eq_self, Nat.reduceLT, Nat.reduceEqDiff, Nat.reduceAdd, reduceCtorEq, reduceIte, ↓reduceIte, tt, vgo, vout, vguard, callOf, vop, ev, newRow]
    refine Wr.at tabOk 0 ?_
    simp only [gos]
    refine Wa.mk (ρ2 := [(7, .ptr 47 0 0), (6, .ptr 46 0 0), (1, .rop r.cs)]) (h2 := gvH r M0 none) (Wk.trans (Wk.env (ρ' := [(7, .ptr 7 0 0), (6, .ptr 6 0 0), (1, .rop r.cs)]) (by simp [subE, Env.get])) (Wk.trans (Wk.ren 4 44 rfl rfl) (Wk.trans (Wk.ren 6 46 rfl rfl) (Wk.trans (Wk.ren 7 47 rfl rfl) (Wk.heap (fun q => ?_) ?_))))) ?_
    · simp only [renH, V.ren, renL, Blk.ren, sw, bw_ren, rm_ren, memoI_ren, gvH, giveV, oV]
      simp only [Heap.get]
      by_cases h1 : q = 90
      · subst h1; rfl
      · by_cases h2 : q = 46
        · subst h2; rfl
        · by_cases h3 : q = 44
          · subst h3; rfl
          · by_cases h4 : q = 47
            · subst h4; rfl
            · simp [h1, h2, h3, h4]
    · simp only [renE, V.ren, sw, rm_ren]
      simp [subE, Env.get]
    simp only [gvH]
    simp only [gos, eq_self, Nat.reduceLT, Nat.reduceEqDiff, reduceCtorEq, reduceIte, ↓reduceIte, tt, vgo, vout, vguard, callOf, vop, ev, cv, vbin, vint, isShift, isNilConst, vload, vlen, rms, vR, i64_in (show -9223372036854775808 ≤ (r.ba.length : Int) + 1 by omega) (show (r.ba.length : Int) + 1 ≤ 9223372036854775807 by omega)]
    refine W.loop tabOk mixed (fun a : Nat × Option (List Int) × MemoI => ([(1, .rop r.cs), (6, .ptr 46 0 0), (7, .ptr 47 0 0), (25, vi ((r.ba.length : Int) + 1)), (26, vi a.1)], gvH r a.2.2 a.2.1)) (fun a => r.ba.length + 1 - a.1)
      (fun a => BMemo r a.2.2 ∧ a.1 ≤ r.ba.length + 1 ∧ ∀ j : Nat, j < a.1 → giveF r j [] 0 = none) (0, none, M0) ⟨HM, by simp, fun j hj => by simp at hj⟩ (Wk.env (by simp [subE, Env.get])) ?_
    rintro ⟨i, f1, M1⟩ ⟨HM1, hi, hno⟩
    simp only at hi hno HM1 ⊢
    by_cases hil : (i : Int) < (r.ba.length : Int) + 1
    · simp only [gos, eq_self, Nat.reduceLT, Nat.reduceEqDiff, reduceCtorEq, reduceIte, ↓reduceIte, tt, vgo, vout, vguard, callOf, vop, ev, cv, vbin, vint, isShift, isNilConst, vload, hil, gvH]
      refine Cl.less (cs := [vI [], vi 0, vi i]) (ImpV.refl _) ⟨sl0_vI, ImpV.refl _, ImpV.refl _, trivial⟩ (Cl.mk (c_give1 r k i [] 0 f1 M1 HM1 (by simp; omega) (by omega)) ?_)
      rintro v h' ⟨f2, M2, HM2, hf2, rfl, rfl⟩
      cases hr3 : giveF r i [] 0 with
      | some l =>
        simp only [gos, eq_self, Nat.reduceLT, Nat.reduceEqDiff, reduceCtorEq, reduceIte, ↓reduceIte, tt, vgo, vout, vguard, callOf, vop, ev, cv, vload, Option.isSome_some, hf2 l hr3, gvH, oV]
        subst hQ
        have hrr : giveAll r = some l := by
          rw [giveAll]
          have e0 : ∀ n : Nat, ((0 : Int) + n).toNat = n := fun n => by omega
          exact findSome_some (i := i) (by omega) (by rw [e0]; exact hr3) (fun j hj => by rw [e0]; exact hno j hj)
        have hrs : sGiveR r = (l, 0) := by rw [sGiveR, if_pos h0, if_pos hs, hrr]; rfl
        rw [hrs]
        exact FnPost.plain trivial (v := .tup [vI l, vi 0]) (fun h2 e => by rfl) (WkV.pure (by simp only [V.into, intoL, vI_into, Bool.and_true])) ⟨rfl, rfl⟩
      | none =>
        simp only [gos, eq_self, Nat.reduceLT, Nat.reduceEqDiff, reduceIte, ↓reduceIte, vgo, vout, vguard, callOf, vop, ev, cv, vbin, vint, isShift, isNilConst, Option.isSome_none]
        refine Nx.mk (i + 1, f2, M2) (show r.ba.length + 1 - (i + 1) < r.ba.length + 1 - i by omega) ⟨HM2, by simp only; omega, fun j hj => ?_⟩ (Wk.env ?_)
        · rcases Nat.lt_succ_iff_lt_or_eq.1 hj with h | rfl
          · exact hno j h
          · exact hr3
        · simp [subE, Env.get, i64_succ (show (i : Int) < 9223372036854775807 by omega)]
    · exfalso
      obtain ⟨l, hl⟩ := giveAll_some k hs
      have : giveAll r = none := by
        rw [giveAll]
        refine findSome_none fun j hj => ?_
        rw [show ((0 : Int) + (j : Int)).toNat = j by omega]
        exact hno j (by omega)
      rw [hl] at this
      cases this
end Go.Vm

set_option linter.unusedVariables false
set_option linter.unusedSimpArgs false
set_option maxRecDepth 100000
namespace Go.Vm
open Go.Proofs
/-! ### Most: the most baths, hour by hour -/
def sumN (n : List Int) (j : Nat) : Int := ((n.take j).foldl (· + ·) 0)
theorem sumN_succ {n : List Int} {j : Nat} (h : (j : Int) < n.length) : sumN n (j + 1) = sumN n j + gi n j := by
  rw [sumN, gi_take h, List.foldl_append]; rfl
theorem sumN_le {n : List Int} (hn : NOk n) : ∀ j : Nat, j ≤ 5 → 0 ≤ sumN n j ∧ sumN n j ≤ 1000 * j
  | 0, _ => by simp [sumN]
  | j + 1, h => by
    have ih := sumN_le hn j (by omega)
    have := hn.le j
    rw [sumN_succ (by rw [hn.len]; omega)]
    omega
theorem c_bsum (n : List Int) (hn : NOk n) : Pu Try.prog (.fn 29 [] []) [.agg (cI n)] (vi (sumN n 5)) := by
  have hn5 : (cI n).length = 5 := by rw [cI_len, hn.len]
  have ht5 : List.take 5 (cI n) = cI n := List.take_of_length_le (by omega)
  have hone := cI_one n
  refine Ev.fn Try.func29 rfl rfl (Fn.body tabOk Try.func29 rfl (Nat.le_of_ble_eq_true rfl) (Ks.ok (fz := (fzn [])) (cl := (cln [])) tabOk mixed ?_))
  generalize hQ : FnPost tt Try.f29 _ _ = Q
  simp only [Try.f29, List.nil_append, List.append_nil, argsEnv]
  simp only [gos, eq_self, Nat.reduceLT, Nat.reduceEqDiff, reduceCtorEq, reduceIte, ↓reduceIte, tt, vgo, vout, vguard, callOf, vop, ev, cv, vload, newRow, hn5, ht5]
  refine W.loop tabOk mixed (fun j : Nat => ([(2, vi (sumN n j)), (5, .agg (cI n)), (6, vi j)], [])) (fun j => 5 - j) (fun j => j ≤ 5) 0 (by omega) (Wk.env (by simp [subE, Env.get, sumN])) ?_
  intro j hj
  by_cases hil : (j : Int) < 5
  · have hx := cI_at (Int.natCast_nonneg j) (show (j : Int) < n.length by rw [hn.len]; omega)
    rw [Int.toNat_natCast, Nat.mul_one] at hx
    have hx5 : (j : Int) < ((5 : Nat) : Int) := by omega
    have h1 := sumN_le hn j hj
    have h2 := hn.le j
    have hw := i64_in (show -9223372036854775808 ≤ sumN n j + gi n j by omega) (show sumN n j + gi n j ≤ 9223372036854775807 by omega)
    simp only [gos, eq_self, Nat.reduceLT, Nat.reduceEqDiff, reduceIte, ↓reduceIte, tt, vgo, vout, vguard, callOf, vop, ev, cv, vbin, vint, isShift, isNilConst, hil, hx5, hx, hw, Int.natCast_nonneg, Int.toNat_natCast, Nat.mul_one]
    refine Nx.mk (j + 1) (show 5 - (j + 1) < 5 - j by omega) (show j + 1 ≤ 5 by omega) (Wk.env ?_)
    rw [sumN_succ (by rw [hn.len]; omega)]
    simp [subE, Env.get, i64_succ (show (j : Int) < 9223372036854775807 by omega)]
  · have : j = 5 := by omega
    subst this
    simp only [gos, eq_self, Nat.reduceLT, Nat.reduceEqDiff, reduceIte, ↓reduceIte, vgo, vout, vguard, callOf, vop, ev, cv, vbin, vint, isShift, isNilConst, hil]
    subst hQ
    exact FnPost.plain trivial (fun h2 e => by first | rfl | (simp only [Try.f29, vres, vresL, vres1, e _, gos, if_true, if_false, ne_eq, eq_self, Nat.reduceLT, Nat.reduceEqDiff, Nat.reduceAdd, Nat.reduceMul, Nat.reduceLeDiff, Nat.reduceBEq, reduceCtorEq, reduceIte, Array.toList, ↓reduceIte, tt, vgo, vout, vgoD, voutD, vclsOk, vids, mayWrite, V.ids, V.mids, vguard, callOf, vop, ev, cv, vbin, vint, isShift, isNilConst, vnil, isNilSlice, vload, vlen, newRow, vfill, vslice, entOf, vappend, srcOf, vcopy, vlookup, vupdate, mapOk, keyOf, intsOf, clsAt]; try rfl)) (WkV.pure (by simp only [V.into])) ⟨rfl, rfl⟩
theorem gi_setN {l : List Int} {i : Nat} (x : Int) (h : i < l.length) (j : Nat) : gi (l.set i x) j = if i = j then x else gi l j := by
  by_cases e : i = j
  · subst e; rw [if_pos rfl, gi_set_self x h]
  · rw [if_neg e, gi_set_ne x e]
/-- All assignments that are sure, hour by hour; the first that is not ends a row. -/
def leavesM (r : Rm) : Nat → Nat → List Int → List (List Int)
  | 0, _, n => [n]
  | m + 1, h, n => ((rangeI 0 r.pl).takeWhile fun v => sSureN r (n.set h v)).flatMap fun v => leavesM r m (h + 1) (n.set h v)
def bestM (b : List Int) (l : List (List Int)) : List Int := l.foldl (fun b n => if sumN b 5 < sumN n 5 then n else b) b
def mostV (r : Rm) : V := .fn 27 [] [.rop r.cs, .ptr 46 0 0, .ptr 44 0 0, .ptr 48 0 0]
def mgH (r : Rm) (M : MemoI) (b : List Int) : Heap := [(90, ⟨0, .map (memoI M)⟩), (46, ⟨0, .row (cI b)⟩), (44, ⟨0, .row [.rop (bw r (.mp 90))]⟩), (48, ⟨0, .row [mostV r]⟩)]
theorem mgH_closed (r : Rm) (M : MemoI) (b : List Int) : intoH (domP (mgH r M b)) (mgH r M b) = true := by
  simp only [mgH, intoH, Blk.into, V.into, intoL, cI_into, Bool.true_and, Bool.and_true, memoI_into, mostV, rm_into]
  rw [bw_into _ _ _ (by simp [V.into, domP, Heap.get])]
  rfl
theorem mgH_dom (r : Rm) (M M' : MemoI) (b b' : List Int) (i : Nat) (h : domP (mgH r M b) i = true) : domP (mgH r M' b') i = true := by
  simp only [domP, mgH, Heap.get] at h ⊢
  repeat' split
  all_goals first | rfl | simp_all
theorem mg_app {r : Rm} {M : MemoI} {b : List Int} {e0 e : Ent} {i : Nat} (he : (mgH r M b).get i = some e) : Heap.get ((90, ⟨0, .map (memoI M)⟩) :: (46, ⟨0, .row (cI b)⟩) :: (44, ⟨0, .row [.rop (bw r (.mp 90))]⟩) :: (48, ⟨0, .row [mostV r]⟩) :: [(6, e0)]) i = some e := by
  show Heap.get (mgH r M b ++ [(6, e0)]) i = some e
  rw [Heap.get_append, he]; rfl
theorem takeWhile_take {p : Int → Bool} : ∀ {l : List Int} {j : Nat}, j ≤ l.length → (∀ i : Nat, i < j → p (gi l i) = true) → (j = l.length ∨ p (gi l j) = false) → l.takeWhile p = l.take j
  | [], j, hj, _, _ => by simp
  | x :: l, 0, hj, _, h => by
    rcases h with h | h
    · simp at h
    · have : p x = false := h
      simp [List.takeWhile, this]
  | x :: l, j + 1, hj, h1, h2 => by
    have h0 : p x = true := h1 0 (by omega)
    rw [List.takeWhile_cons_of_pos h0, List.take_succ_cons]
    congr 1
    refine takeWhile_take (by simpa using hj) (fun i hi => h1 (i + 1) (by omega)) ?_
    rcases h2 with h2 | h2
    · left; simpa using h2
    · right; exact h2
theorem leavesM_nok {r : Rm} (k : RmOk r) : ∀ (m h : Nat) (n : List Int), NOk n → h + m ≤ 5 → ∀ x ∈ leavesM r m h n, NOk x
  | 0, h, n, hn, _, x, hx => by
    simp only [leavesM, List.mem_singleton] at hx
    subst hx; exact hn
  | m + 1, h, n, hn, hh, x, hx => by
    simp only [leavesM, List.mem_flatMap] at hx
    obtain ⟨v, hv, hx⟩ := hx
    have hv1 := rangeI_mem ((List.takeWhile_prefix _).subset hv)
    have hp := k.pl
    refine leavesM_nok k m (h + 1) _ ⟨by simp [hn.len], fun j => ?_⟩ (by omega) x hx
    have := hn.le j
    rw [gi_setN _ (by rw [hn.len]; omega)]
    split <;> omega
theorem nok_set {n : List Int} (hn : NOk n) {h : Nat} (hh : h < 5) {v : Int} (hv : 0 ≤ v ∧ v ≤ 1000) : NOk (n.set h v) := ⟨by simp [hn.len], fun j => by
  have := hn.le j
  rw [gi_setN _ (by rw [hn.len]; omega)]
  split <;> omega⟩
theorem bestM_nok {l : List (List Int)} : ∀ {b : List Int}, NOk b → (∀ x ∈ l, NOk x) → NOk (bestM b l) := by
  induction l with
  | nil => intro b hb _; exact hb
  | cons x l ih =>
    intro b hb h
    rw [bestM, List.foldl_cons]
    refine ih ?_ fun y hy => h y (by simp [hy])
    split
    · exact h x (by simp)
    · exact hb
theorem bestM_append (b : List Int) (l m : List (List Int)) : bestM b (l ++ m) = bestM (bestM b l) m := List.foldl_append
theorem mostK {P : Program} {r : Rm} {n : List Int} {h : Int} {M : MemoI} {b b' : List Int} (q : Nat) (hq : q ≠ 90 ∧ q ≠ 46 ∧ q ≠ 44 ∧ q ≠ 48) (e : Ent) (c : Ev P (mostV r) [.agg (cI n), vi h] (mgH r M b) fun v h' => ∃ M', BMemo r M' ∧ h' = mgH r M' b') :
    Ev P (mostV r) [.agg (cI n), vi h] ((90, ⟨0, .map (memoI M)⟩) :: (46, ⟨0, .row (cI b)⟩) :: (44, ⟨0, .row [.rop (bw r (.mp 90))]⟩) :: (48, ⟨0, .row [mostV r]⟩) :: [(q, e)]) fun v h' => ∃ M', BMemo r M' ∧ h' = (90, ⟨0, .map (memoI M')⟩) :: (46, ⟨0, .row (cI b')⟩) :: (44, ⟨0, .row [.rop (bw r (.mp 90))]⟩) :: (48, ⟨0, .row [mostV r]⟩) :: [(q, e)] := by
  have hno : ∀ (M : MemoI) (b : List Int) (i : Nat) (e1 : Ent), (mgH r M b).get i = some e1 → Heap.get [(q, e)] i = none := fun M b i e1 he => by
    simp only [Heap.get]
    rw [if_neg]
    rintro rfl
    simp [mgH, Heap.get, hq] at he
  refine (c.frame [(q, e)] (hno M b) ?_ ?_ (mgH_closed r M b) ?_).mono ?_
  · simp only [mostV, V.into, intoL, Bool.true_and, Bool.and_true, rm_into, mgH, domP, Heap.get]; rfl
  · simp only [V.into, intoL, cI_into, Bool.and_true]
  · rintro v h' ⟨M', _, rfl⟩
    exact hno _ _
  · rintro v h'' ⟨h', ⟨M', HM', rfl⟩, rfl⟩
    exact ⟨M', HM', rfl⟩
set_option maxHeartbeats 4000000 in
theorem c_most1 (r : Rm) (k : RmOk r) : ∀ (m h : Nat) (n b : List Int) (M : MemoI), BMemo r M → NOk n → NOk b → (h : Int) + m = r.cu.last + 1 →
    Ev Try.prog (mostV r) [.agg (cI n), vi h] (mgH r M b) fun v h' => ∃ M', BMemo r M' ∧ h' = mgH r M' (bestM b (leavesM r m h n))
  | 0, h, n, b, M, HM, hn, hb, hh => by
    have hl := k.A.k0.last
    have hn5 : (cI n).length = 5 := by rw [cI_len, hn.len]
    have ht5 : List.take 5 (cI n) = cI n := List.take_of_length_le (by omega)
    have hd5 : List.drop 5 (cI n) = [] := List.drop_eq_nil_of_le (by omega)
    have hb5 : (cI b).length = 5 := by rw [cI_len, hb.len]
    have htb5 : List.take 5 (cI b) = cI b := List.take_of_length_le (by omega)
    have hdb5 : List.drop 5 (cI b) = [] := List.drop_eq_nil_of_le (by omega)
    have hone := cI_one n
    have honeb := cI_one b
    unfold mostV
    refine Ev.fn Try.func27 rfl rfl (Fn.body tabOk Try.func27 rfl (Nat.le_of_ble_eq_true rfl) (Ks.ok (fz := (fzn [6])) (cl := (cln [(2, .d (tgL [(6, 1), (46, 2)]) [some ([1], []), some ([2], []), cP, cP, some ([1], []), cP, some ([2], []), cP, cP, cP])])) tabOk mixed ?_))
    generalize hQ : FnPost tt Try.f27 _ _ = Q
    simp only [Try.f27, List.nil_append, List.cons_append, argsEnv, Nat.reduceAdd]
    simp only [gos, eq_self, Nat.reduceLT, Nat.reduceEqDiff, reduceCtorEq, reduceIte, ↓reduceIte, tt, vgo, vout, vguard, callOf, vop, ev, vload, newRow, mgH, rms, hone]
    refine Cl.pu (c_hours r (by constructor <;> omega)) ?_ rfl (by simp only [V.into, intoL, Bool.and_true, rm_into])
    have hd : decide ((h : Int) = r.cu.last + 1) = true := by rw [decide_eq_true_eq]; omega
    simp only [gos, eq_self, Nat.reduceLT, Nat.reduceEqDiff, reduceIte, ↓reduceIte, vgo, vout, vguard, callOf, vop, ev, vbin, vint, isShift, isNilConst, hd]
    refine Wr.draw (by kernel_rfl) ?_
    have hnl := hn.len
    have hbl := hb.len
    simp only [gos, ne_eq, eq_self, Nat.reduceLT, Nat.reduceEqDiff, Nat.reduceAdd, reduceCtorEq, reduceIte, ↓reduceIte, tt, vgoD, voutD, vclsOk, vids, mayWrite, V.ids, vguard, callOf, vop, ev, vbin, isNilConst, vload, clsAt, hn5, ht5, hb5, htb5, intsOf_cI, hnl, hbl]
    have hout : bestM b (leavesM r 0 h n) = if sumN b 5 < sumN n 5 then n else b := rfl
    cases hnb : (n != b) with
    | false =>
      have e : n = b := by simpa using hnb
      subst e
      simp only [gos, eq_self, Nat.reduceLT, Nat.reduceEqDiff, reduceIte, ↓reduceIte, vgoD, voutD, vclsOk, vids, mayWrite, vguard, callOf, vop, ev, cv]
      subst hQ
      rw [hout, if_neg (by omega)]
      refine FnPost.plain trivial (v := .tup []) (fun h2 e => by rfl) (WkV.forgetF (fun i e he => mg_app he) (fun i hp => mgH_dom _ _ _ _ _ _ hp) rfl (mgH_closed r M n)) ⟨M, HM, rfl⟩
    | true =>
      simp only [gos, eq_self, Nat.reduceLT, Nat.reduceEqDiff, reduceIte, ↓reduceIte, vgoD, voutD, vguard, callOf, ev]
      refine CD.pu (c_bsum n hn) ?_ rfl (by simp only [V.into, intoL, cI_into, Bool.and_true])
      simp only [gos, eq_self, Nat.reduceLT, Nat.reduceEqDiff, reduceCtorEq, reduceIte, ↓reduceIte, tt, vgoD, voutD, vclsOk, vids, mayWrite, V.ids, vguard, callOf, vop, ev, vload, hb5, htb5]
      refine CD.pu (c_bsum b hb) ?_ rfl (by simp only [V.into, intoL, cI_into, Bool.and_true])
      by_cases hlt : sumN b 5 < sumN n 5
      · simp only [gos, eq_self, Nat.reduceLT, Nat.reduceEqDiff, Nat.reduceAdd, reduceCtorEq, reduceIte, ↓reduceIte, tt, vgo, vout, vgoD, voutD, vclsOk, vids, mayWrite, vguard, callOf, vop, ev, vbin, vint, isShift, isNilConst, vload, hlt, hn5, ht5, hb5, hdb5, hone]
        subst hQ
        rw [hout, if_pos hlt]
        refine FnPost.plain trivial (v := .tup []) (fun h2 e => by rfl) (WkV.forgetF (fun i e he => mg_app he) (fun i hp => mgH_dom _ _ _ _ _ _ hp) rfl (mgH_closed r M n)) ⟨M, HM, rfl⟩
      · simp only [gos, eq_self, Nat.reduceLT, Nat.reduceEqDiff, reduceIte, ↓reduceIte, vgoD, voutD, vclsOk, vids, mayWrite, vguard, callOf, vop, ev, vbin, vint, isShift, isNilConst, hlt]
        subst hQ
        rw [hout, if_neg hlt]
        refine FnPost.plain trivial (v := .tup []) (fun h2 e => by rfl) (WkV.forgetF (fun i e he => mg_app he) (fun i hp => mgH_dom _ _ _ _ _ _ hp) rfl (mgH_closed r M b)) ⟨M, HM, rfl⟩
  | m + 1, h, n, b, M, HM, hn, hb, hh => by
    have hl := k.A.k0.last
    have hpl := k.pl
    have hn5 : (cI n).length = 5 := by rw [cI_len, hn.len]
    have ht5 : List.take 5 (cI n) = cI n := List.take_of_length_le (by omega)
    have hd5 : List.drop 5 (cI n) = [] := List.drop_eq_nil_of_le (by omega)
    have hone := cI_one n
    unfold mostV
    refine Ev.fn Try.func27 rfl rfl (Fn.body tabOk Try.func27 rfl (Nat.le_of_ble_eq_true rfl) (Ks.ok (fz := (fzn [6])) (cl := (cln [])) tabOk mixed ?_))
    generalize hQ : FnPost tt Try.f27 _ _ = Q
    simp only [Try.f27, List.nil_append, List.cons_append, argsEnv, Nat.reduceAdd]
    simp only [gos, eq_self, Nat.reduceLT, Nat.reduceEqDiff, reduceCtorEq, reduceIte, ↓reduceIte, tt, vgo, vout, vguard, callOf, vop, ev, vload, newRow, mgH, rms, hone]
    refine Cl.pu (c_hours r (by constructor <;> omega)) ?_ rfl (by simp only [V.into, intoL, Bool.and_true, rm_into])
    have hd : decide ((h : Int) = r.cu.last + 1) = false := by rw [decide_eq_false_iff_not]; omega
    have h11 : List.drop 12 r.cs = [vi r.pl, vR r.ba] := rfl
    simp only [gos, eq_self, Nat.reduceLT, Nat.reduceEqDiff, Nat.reduceAdd, Nat.reduceMul, Nat.reduceLeDiff, reduceCtorEq, reduceIte, ↓reduceIte, tt, vgo, vout, vguard, callOf, vop, ev, cv, vbin, vint, isShift, isNilConst, vload, vfill, hd, rms]
    refine Cl.pu (c_bmin2 r.pl 5) ?_
    have hmin : min r.pl 5 = r.pl := by omega
    have hw1 : IntKind.i64.wrap (r.pl + 1) = r.pl + 1 := i64_in (by omega) (by omega)
    simp only [gos, eq_self, Nat.reduceLT, reduceIte, ↓reduceIte, vgo, vout, vguard, callOf, vop, ev, cv, vbin, vint, isShift, isNilConst, hmin, hw1]
    let R := rangeI 0 r.pl
    have hR : R.length = (r.pl + 1).toNat := by show (rangeI 0 r.pl).length = _; rw [rangeI_len]; congr 1; omega
    have hgR : ∀ v : Nat, v < R.length → gi R (v : Int) = v := fun v hv => by
      have h1 : R[v]? = some (v : Int) := by show (rangeI 0 r.pl)[v]? = _; rw [rangeI_get (by omega)]; congr 1; omega
      rw [gi_get (l := R) (by omega)] at h1
      simpa using h1
    let f : Int → List (List Int) := fun v => leavesM r m (h + 1) (n.set h v)
    refine W.loop tabOk mixed (fun a : Nat × List Int × MemoI × List Int => ([(1, vi h), (2, .rop r.cs), (3, .ptr 46 0 0), (4, .ptr 44 0 0), (5, .ptr 48 0 0), (6, .ptr 6 0 0), (28, vi (r.pl + 1)), (29, vi a.1)], (90, ⟨0, .map (memoI a.2.2.1)⟩) :: (46, ⟨0, .row (cI a.2.2.2)⟩) :: (44, ⟨0, .row [.rop (bw r (.mp 90))]⟩) :: (48, ⟨0, .row [mostV r]⟩) :: [(6, ⟨0, .row (cI a.2.1)⟩)])) (fun a => R.length - a.1)
      (fun a => a.1 ≤ R.length ∧ NOk a.2.1 ∧ (∀ x, a.2.1.set h x = n.set h x) ∧ BMemo r a.2.2.1 ∧ a.2.2.2 = bestM b ((R.take a.1).flatMap f) ∧ ∀ v : Nat, v < a.1 → sSureN r (n.set h (v : Int)) = true) (0, n, M, b) ⟨by simp, hn, fun _ => rfl, HM, rfl, fun v hv => by simp at hv⟩ (Wk.env (by simp [subE, Env.get])) ?_
    rintro ⟨j, cur, M1, b1⟩ ⟨hj, hcur, hset, HM1, hb1, hsu⟩
    simp only at hj hcur hset HM1 hb1 hsu ⊢
    by_cases hjl : (j : Int) < r.pl + 1
    · have hc5 : (cI cur).length = 5 := by rw [cI_len, hcur.len]
      have hh5 : (h : Int) < ((5 : Nat) : Int) := by omega
      have hh6 : h + 1 ≤ 5 := by omega
      have hst : List.take h (cI cur) ++ [V.int IntKind.i64 (j : Int)] ++ List.drop (h + 1) (cI cur) = cI (n.set h (j : Int)) := by
        rw [← hset]; exact cI_set _ (by rw [hcur.len]; omega)
      have hnok : NOk (n.set h (j : Int)) := nok_set hn (by omega) (by omega)
      have hs5 : (cI (n.set h (j : Int))).length = 5 := by rw [cI_len, hnok.len]
      have hst5 : List.take 5 (cI (n.set h (j : Int))) = cI (n.set h (j : Int)) := List.take_of_length_le (by omega)
      simp only [gos, eq_self, Nat.reduceLT, Nat.reduceEqDiff, reduceCtorEq, reduceIte, ↓reduceIte, tt, vgo, vout, vguard, callOf, vop, ev, vbin, vint, isShift, isNilConst, vload, hjl, hh5, hh6, hc5, hst, Int.natCast_nonneg, Int.toNat_natCast, Nat.mul_one, Nat.zero_add, hs5, hst5]
      refine Cl.mk (c_bsureK r k M1 HM1 90 (by decide) (n.set h (j : Int)) hnok _ rfl) ?_
      rintro v h' ⟨rfl, rfl⟩
      have HM2 : BMemo r (suMM r M1 (n.set h (j : Int))) := HM1.su hnok.len
      generalize suMM r M1 (n.set h (j : Int)) = M2 at HM2 ⊢
      cases hs : sSureN r (n.set h (j : Int)) with
      | false =>
        simp only [gos, eq_self, Nat.reduceLT, reduceIte, ↓reduceIte, vgo, vout, vguard, callOf, vop, ev]
        subst hQ
        have htw : leavesM r (m + 1) h n = (R.take j).flatMap f := by
          have h1 : R.takeWhile (fun v => sSureN r (n.set h v)) = R.take j := takeWhile_take hj (fun v hv => by rw [hgR v (by omega)]; exact hsu v hv) (.inr (by rw [hgR j (by omega)]; exact hs))
          rw [leavesM, h1]
        rw [htw, ← hb1]
        exact FnPost.plain trivial (v := .tup []) (fun h2 e => by rfl) (WkV.forgetF (fun i e he => mg_app he) (fun i hp => mgH_dom _ _ _ _ _ _ hp) rfl (mgH_closed r M2 b1)) ⟨M2, HM2, rfl⟩
      | true =>
        have hb1n : NOk b1 := by
          rw [hb1]
          refine bestM_nok hb fun x hx => ?_
          simp only [List.mem_flatMap] at hx
          obtain ⟨v, hv, hx⟩ := hx
          have hv1 := rangeI_mem (List.mem_of_mem_take hv)
          exact leavesM_nok k m (h + 1) _ (nok_set hn (by omega) (by omega)) (by omega) x hx
        simp only [gos, eq_self, Nat.reduceLT, Nat.reduceEqDiff, reduceCtorEq, reduceIte, ↓reduceIte, tt, vgo, vout, vguard, callOf, vop, ev, cv, vbin, vint, isShift, isNilConst, vload, hs5, hst5, i64_succ (show (h : Int) < 9223372036854775807 by omega)]
        refine Cl.mk (mostK 6 (by decide) _ (c_most1 r k m (h + 1) (n.set h (j : Int)) b1 M2 HM2 hnok hb1n (by omega))) ?_
        rintro v h' ⟨M3, HM3, rfl⟩
        simp only [gos, eq_self, Nat.reduceLT, Nat.reduceEqDiff, reduceIte, ↓reduceIte, vgo, vout, vguard, callOf, vop, ev, cv, vbin, vint, isShift, isNilConst, i64_succ (show (j : Int) < 9223372036854775807 by omega)]
        refine Nx.mk (j + 1, n.set h (j : Int), M3, bestM b1 (leavesM r m (h + 1) (n.set h (j : Int)))) (show R.length - (j + 1) < R.length - j by omega) ⟨by simp only; omega, hnok, fun x => by simp only; rw [List.set_set], HM3, ?_, fun v hv => ?_⟩ (Wk.env (by simp [subE, Env.get]))
        · simp only
          rw [List.take_add_one, show R[j]? = some (j : Int) from by show (rangeI 0 r.pl)[j]? = _; rw [rangeI_get (by omega)]; congr 1; omega, List.flatMap_append, bestM_append, ← hb1]
          simp [f]
        · rcases Nat.lt_succ_iff_lt_or_eq.1 hv with h1 | rfl
          · exact hsu v h1
          · exact hs
    · have hjR : j = R.length := by omega
      simp only [gos, eq_self, Nat.reduceLT, Nat.reduceEqDiff, reduceIte, ↓reduceIte, vgo, vout, vguard, callOf, vop, ev, vbin, vint, isShift, isNilConst, hjl]
      subst hQ
      have htw : leavesM r (m + 1) h n = (R.take j).flatMap f := by
        have h1 : R.takeWhile (fun v => sSureN r (n.set h v)) = R.take j := takeWhile_take hj (fun v hv => by rw [hgR v (by omega)]; exact hsu v hv) (.inl hjR)
        rw [leavesM, h1]
      rw [htw, ← hb1]
      exact FnPost.plain trivial (v := .tup []) (fun h2 e => by rfl) (WkV.forgetF (fun i e he => mg_app he) (fun i hp => mgH_dom _ _ _ _ _ _ hp) rfl (mgH_closed r M1 b1)) ⟨M1, HM1, rfl⟩
end Go.Vm

set_option linter.unusedVariables false
set_option linter.unusedSimpArgs false
set_option maxRecDepth 100000
namespace Go.Vm
open Go.Proofs
def mostN (r : Rm) : List Int := bestM zL (leavesM r (r.cu.last + 1).toNat 0 zL)
def sMostR (r : Rm) : List Int × Int := if sCheckR r = 0 then (if sSureN r zL = true then ((mostN r).take (r.cu.last + 1).toNat, 0) else ([], 10)) else ([], sCheckR r)
theorem cI_takeN (l : List Int) (k : Nat) : (cI l).take k = cI (l.take k) := by simp only [cI, List.map_take]
set_option maxHeartbeats 2000000 in
theorem c_bMost (r : Rm) (hr : r.wf) : Pu Try.prog (.fn 10 [] []) [.agg r.cs] (.tup [vI (sMostR r).1, vi (sMostR r).2]) := by
  refine Ev.fn Try.func10 rfl rfl (Fn.body tabOk Try.func10 rfl (Nat.le_of_ble_eq_true rfl) (Ks.ok (fz := (fzn [4, 6, 7, 8])) (cl := (cln [(9, .ex), (10, .ex)])) tabOk mixed ?_))
  generalize hQ : FnPost tt Try.f10 _ _ = Q
  simp only [Try.f10, List.nil_append, List.append_nil, argsEnv]
  simp only [gos, eq_self, Nat.reduceLT, Nat.reduceEqDiff, reduceCtorEq, reduceIte, ↓reduceIte, tt, vgo, vout, vguard, callOf, vop, ev, cv, vload, newRow, rms]
  by_cases h0 : sCheckR r = 0
  case neg =>
    refine Cl.pu (c_baskN r hr h0) ?_ rfl (by simp only [V.into, intoL, Bool.and_true, rm_into])
    have hb : (sCheckR r != 0) = true := by simp [h0]
    simp only [gos, eq_self, Nat.reduceLT, Nat.reduceEqDiff, Nat.reduceAdd, reduceCtorEq, reduceIte, ↓reduceIte, tt, vgo, vout, vguard, callOf, vop, ev, cv, vbin, vint, isShift, isNilConst, newRow, hb]
    subst hQ
    have hr2 : sMostR r = ([], sCheckR r) := by rw [sMostR, if_neg h0]
    rw [hr2]
    exact FnPost.plain trivial (v := .tup [.sl0, vi (sCheckR r)]) (fun h2 e => by rfl) (WkV.trans (WkV.less (v' := .tup [vI [], vi (sCheckR r)]) (ImpV.tup ⟨sl0_vI, ImpV.refl _, trivial⟩)) (WkV.pure (by simp only [V.into, intoL, vI_into, Bool.and_true]))) ⟨rfl, rfl⟩
  refine Cl.newN (n_bask r hr h0) rfl ?_
  have k := rmOk_of h0
  have hl := k.A.k0.last
  have z0 : ((0 : Int) != 0) = false := rfl
  have hz5 : (cI zL).length = 5 := rfl
  simp only [gos, eq_self, Nat.reduceLT, Nat.reduceEqDiff, Nat.reduceAdd, reduceCtorEq, reduceIte, ↓reduceIte, tt, vgo, vout, vguard, callOf, vop, ev, cv, vbin, vint, isShift, isNilConst, vload, newRow]
  have hnz : NOk zL := ⟨rfl, fun j => by rw [zL_gi]; omega⟩
  refine Cl.mk (c_bsureK r k [] (BMemo.nil r) 90 (by decide) zL hnz _ rfl) ?_
  rintro v h' ⟨rfl, rfl⟩
  have HM : BMemo r (suMM r [] zL) := (BMemo.nil r).su rfl
  generalize hMM : suMM r [] zL = M0 at HM ⊢
  cases hs : sSureN r zL with
  | false =>
    simp only [gos, eq_self, Nat.reduceLT, Nat.reduceEqDiff, reduceIte, ↓reduceIte, vgo, vout, vguard, callOf, vop, ev, cv]
    subst hQ
    have hr2 : sMostR r = ([], 10) := by rw [sMostR, if_pos h0, if_neg (by simp [hs])]
    rw [hr2]
    exact FnPost.plain trivial (v := .tup [.sl0, vi 10]) (fun h2 e => by rfl) (WkV.trans (WkV.less (v' := .tup [vI [], vi 10]) (ImpV.tup ⟨sl0_vI, ImpV.refl _, trivial⟩)) (WkV.pure (by simp only [V.into, intoL, vI_into, Bool.and_true]))) ⟨rfl, rfl⟩
  | true =>
    simp only [gos, eq_self, Nat.reduceLT, Nat.reduceEqDiff, Nat.reduceAdd, reduceCtorEq, reduceIte, ↓reduceIte, tt, vgo, vout, vguard, callOf, vop, ev, newRow]
    refine Wr.at tabOk 0 ?_
    simp only [gos]
    refine Wa.mk (ρ2 := [(8, .ptr 48 0 0), (7, .ptr 47 0 0), (6, .ptr 46 0 0), (1, .rop r.cs)]) (h2 := (90, ⟨0, .map (memoI M0)⟩) :: (46, ⟨0, .row (cI zL)⟩) :: (44, ⟨0, .row [.rop (bw r (.mp 90))]⟩) :: (48, ⟨0, .row [mostV r]⟩) :: [(47, ⟨0, .row (cI zL)⟩)]) (Wk.trans (Wk.env (ρ' := [(8, .ptr 8 0 0), (7, .ptr 7 0 0), (6, .ptr 6 0 0), (1, .rop r.cs)]) (by simp [subE, Env.get])) (Wk.trans (Wk.ren 4 44 rfl rfl) (Wk.trans (Wk.ren 6 46 rfl rfl) (Wk.trans (Wk.ren 7 47 rfl rfl) (Wk.trans (Wk.ren 8 48 rfl rfl) (Wk.heap (fun q => ?_) ?_)))))) ?_
    · simp only [renH, V.ren, renL, Blk.ren, sw, bw_ren, rm_ren, memoI_ren, mostV]
      simp only [Heap.get]
      by_cases h1 : q = 90
      · subst h1; rfl
      · by_cases h2 : q = 46
        · subst h2; rfl
        · by_cases h3 : q = 44
          · subst h3; rfl
          · by_cases h4 : q = 48
            · subst h4; rfl
            · by_cases h5 : q = 47
              · subst h5; rfl
              · simp [h1, h2, h3, h4, h5]
    · simp only [renE, V.ren, sw, rm_ren]
      simp [subE, Env.get]
    have ht5 : List.take 5 (cI zL) = cI zL := rfl
    simp only [gos, eq_self, Nat.reduceLT, Nat.reduceEqDiff, reduceCtorEq, reduceIte, ↓reduceIte, tt, vgo, vout, vguard, callOf, vop, ev, cv, vload, hz5, ht5]
    refine Cl.mk (mostK 47 (by decide) _ (c_most1 r k (r.cu.last + 1).toNat 0 zL zL M0 HM hnz hnz (by omega))) ?_
    rintro v h' ⟨M1, HM1, rfl⟩
    have hbn : NOk (mostN r) := bestM_nok hnz fun x hx => leavesM_nok k _ 0 zL hnz (by omega) x hx
    rw [show bestM zL (leavesM r (r.cu.last + 1).toNat 0 zL) = mostN r from rfl]
    have hB5 : (cI (mostN r)).length = 5 := by rw [cI_len, hbn.len]
    simp only [gos, eq_self, Nat.reduceEqDiff, reduceIte, ↓reduceIte]
    refine Wr.at tabOk 0 ?_
    simp only [gos]
    refine Wa.mk (Wk.trans (Wk.forget (ρ' := [(6, .ptr 46 0 0), (1, .rop r.cs)]) (h' := [(46, ⟨0, .row (cI (mostN r))⟩)]) (by simp [subE, Env.get]) (by simp [subH, Heap.get]) (fun j hp => by simp [orD, domP, Heap.get] at hp) (by simp only [intoE, V.into, Bool.and_true, domP, Heap.get, rm_into]; try rfl) (by simp only [intoH, Blk.into, cI_into, Bool.and_true]; try rfl)) (Wk.freeze 46 rfl rfl (cI_into _ _) rfl)) ?_
    simp only [frzE, frzH, V.frz, rm_frz, gos, eq_self, Nat.reduceLT, Nat.reduceEqDiff, reduceCtorEq, reduceIte, ↓reduceIte, tt, vgo, vout, vguard, callOf, vop, ev, vload, rms]
    refine Cl.pu (c_hours r (by constructor <;> omega)) ?_ rfl (by simp only [V.into, intoL, Bool.and_true, rm_into])
    have hle : r.cu.last + 1 ≤ ((5 : Nat) : Int) := by omega
    have hge : 0 ≤ r.cu.last + 1 := by omega
    simp only [gos, eq_self, Nat.reduceLT, Nat.reduceEqDiff, reduceIte, ↓reduceIte, tt, vgo, vout, vguard, callOf, vop, ev, vslice, hB5, hle, hge, cI_takeN, Nat.mul_one]
    have hr2 : sMostR r = ((mostN r).take (r.cu.last + 1).toNat, 0) := by rw [sMostR, if_pos h0, if_pos hs]
    generalize hL : (mostN r).take (r.cu.last + 1).toNat = L at hr2 ⊢
    have hLl : L.length = (r.cu.last + 1).toNat := by rw [← hL, List.length_take, hbn.len]; omega
    rw [show V.ro (r.cu.last + 1).toNat (cI L) = vI L by rw [vI, hLl]]
    refine Cl.newN (n_Clone L (by omega)) rfl ?_
    simp only [gos, eq_self, Nat.reduceLT, reduceIte, ↓reduceIte, vgo, vout, vguard, callOf, vop, ev, cv]
    subst hQ
    rw [hr2]
    have ht : (cI L).take (L.length * 1) = cI L := List.take_of_length_le (by rw [cI_len]; omega)
    refine FnPost.plain trivial (v := .tup [.own 7 0 0 1 L.length, vi 0]) (fun h2 e => by rfl) (WkV.frz 7 (v' := .tup [vI L, vi 0]) (h' := []) (ver := 0) (cs := cI L) rfl rfl (cI_into _ _) rfl ?_ ?_ WkV.refl) ⟨rfl, rfl⟩
    · simp only [V.frz, frzL, vI, if_pos, List.drop_zero, ht]
    · simp [frzH]
end Go.Vm

set_option linter.unusedVariables false
set_option linter.unusedSimpArgs false
set_option maxRecDepth 100000
namespace Go.Vm
open Go.Proofs
/-! ### Free: how many more baths of an hour stay sure -/
def addN1 (n : List Int) (h : Nat) (m : Nat) : List Int := n.set h (gi n h + m)
def freeN (r : Rm) (n : List Int) (h : Nat) : Nat := ((List.range 6).takeWhile fun m => sSureN r (addN1 n h (m + 1))).length
def sFreeR (r : Rm) (plan : List Int) (hour : Int) : Int × Int :=
  if sPlanned r plan (sIn hour 0 r.cu.last) = 0 then (if sSureN r (cntN plan) = true then ((freeN r (cntN plan) hour.toNat : Nat), 0) else (0, 10)) else (0, sPlanned r plan (sIn hour 0 r.cu.last))
theorem sure_pl {r : Rm} (k : RmOk r) {n : List Int} {h : Nat} (hh : (h : Int) ≤ r.cu.last) (h0 : gi n h ≠ 0) (hs : sSureN r n = true) : gi n h ≤ r.pl := by
  have hl := k.A.k0.last
  simp only [sSureN, sPossN, Bool.and_eq_true, List.all_eq_true, List.mem_range] at hs
  have := hs.1 h (by omega)
  simp only [sRoom, Bool.or_eq_true, Bool.and_eq_true, decide_eq_true_eq] at this
  rcases this with h1 | h1
  · exact absurd h1 h0
  · exact h1.1
theorem takeWhile_len {p : Nat → Bool} : ∀ {n j : Nat}, j < n → (∀ i, i < j → p i = true) → p j = false → ((List.range n).takeWhile p).length = j := by
  intro n j hj h1 h2
  have e : List.range n = List.range j ++ (j :: (List.range' (j + 1) (n - j - 1))) := by
    rw [List.range_eq_range', List.range_eq_range', show n = j + (n - j) by omega, ← List.range'_append_1, Nat.zero_add]
    congr 1
    rw [show n - j = (n - j - 1) + 1 by omega, List.range'_succ]
    congr 2
    omega
  rw [e, List.takeWhile_append_of_pos (fun x hx => h1 x (by simpa using hx)), List.takeWhile_cons_of_neg (by simp [h2])]
  simp
set_option maxHeartbeats 2000000 in
theorem c_bFree (r : Rm) (hr : r.wf) (plan : List Int) (hp : (plan.length : Int) ≤ 1000000) (hour : Int) (hh64 : -9223372036854775808 ≤ hour ∧ hour ≤ 9223372036854775807) : Pu Try.prog (.fn 8 [] []) [.agg r.cs, vI plan, vi hour] (.tup [vi (sFreeR r plan hour).1, vi (sFreeR r plan hour).2]) := by
  refine Ev.fn Try.func8 rfl rfl (Fn.body tabOk Try.func8 rfl (Nat.le_of_ble_eq_true rfl) (Ks.ok (fz := (fzn [9])) (cl := (cln [(1, .d (tgL [(90, 1), (9, 2)]) [cP, cP, cP, cP, cP, cP, cP, some ([1], [1]), cP, cP, cP, cP, some ([2], [2]), cP, some ([2], [2]), cP])])) tabOk mixed ?_))
  generalize hQ : FnPost tt Try.f8 _ _ = Q
  simp only [Try.f8, List.nil_append, List.append_nil, argsEnv, Nat.reduceAdd]
  simp only [gos, eq_self, Nat.reduceLT, Nat.reduceEqDiff, reduceCtorEq, reduceIte, ↓reduceIte, vgo, vout, vguard, callOf, vop, ev, cv, newRow]
  refine Wr.draw (by kernel_rfl) ?_
  simp only [gos, eq_self, Nat.reduceLT, Nat.reduceEqDiff, Nat.reduceAdd, reduceCtorEq, reduceIte, ↓reduceIte, tt, vgoD, voutD, vclsOk, vids, mayWrite, V.ids, vguard, callOf, vop, ev, cv, vload, clsAt, rms]
  refine CD.pu (c_bwithin hour 0 r.cu.last) ?_
  generalize hF : sIn hour 0 r.cu.last = F
  simp only [gos, eq_self, Nat.reduceLT, Nat.reduceEqDiff, reduceIte, ↓reduceIte, vgoD, voutD, vguard, callOf, ev]
  by_cases h0 : sPlanned r plan F = 0
  case neg =>
    refine CD.pu (c_plannedN r hr plan hp F h0) ?_ rfl (by simp only [V.into, intoL, vI_into, Bool.and_true, rm_into])
    have hb : (sPlanned r plan F != 0) = true := by simp [h0]
    have hn5 : (cI zL).length = 5 := rfl
    have ht5 : List.take 5 (cI zL) = cI zL := rfl
    have hd5 : List.drop 5 (cI zL) = [] := rfl
    have hone : oneL (cI zL) = true := rfl
    simp only [gos, eq_self, Nat.reduceLT, Nat.reduceEqDiff, Nat.reduceAdd, reduceCtorEq, reduceIte, ↓reduceIte, tt, vgo, vout, vgoD, voutD, vclsOk, vids, mayWrite, V.ids, vguard, callOf, vop, ev, cv, vbin, vint, isShift, isNilConst, newRow, hb, hn5, hone]
    subst hQ
    have hr2 : sFreeR r plan hour = (0, sPlanned r plan F) := by rw [sFreeR, hF, if_neg h0]
    rw [hr2]
    exact FnPost.plain trivial (v := .tup [vi 0, vi (sPlanned r plan F)]) (fun h2 e => by rfl) (WkV.pure (by simp only [V.into, intoL, Bool.and_true])) ⟨rfl, rfl⟩
  refine CD.new (n_planned r hr plan hp F h0) rfl rfl rfl ?_
  obtain ⟨k, ha, hFt, hq, hpr, hnk⟩ := planned_ok h0
  have hl := k.A.k0.last
  have hpl := k.pl
  have z0 : ((0 : Int) != 0) = false := rfl
  have hn5 : (cI (cntN plan)).length = 5 := by rw [cI_len, hnk.len]
  have ht5 : List.take 5 (cI (cntN plan)) = cI (cntN plan) := List.take_of_length_le (by omega)
  have hd5 : List.drop 5 (cI (cntN plan)) = [] := List.drop_eq_nil_of_le (by omega)
  have hone := cI_one (cntN plan)
  simp only [gos, eq_self, Nat.reduceLT, Nat.reduceEqDiff, Nat.reduceAdd, reduceCtorEq, reduceIte, ↓reduceIte, tt, vgo, vout, vgoD, voutD, vclsOk, vids, mayWrite, V.ids, vguard, callOf, vop, ev, cv, vbin, vint, isShift, isNilConst, vload, newRow, hn5, ht5, hone]
  refine Cl.mk (c_bsureK r k [] (BMemo.nil r) 90 (by decide) (cntN plan) hnk _ rfl) ?_
  rintro v h' ⟨rfl, rfl⟩
  have HM : BMemo r (suMM r [] (cntN plan)) := (BMemo.nil r).su hnk.len
  generalize suMM r [] (cntN plan) = M0 at HM ⊢
  cases hs : sSureN r (cntN plan) with
  | false =>
    simp only [gos, eq_self, Nat.reduceLT, Nat.reduceEqDiff, reduceIte, ↓reduceIte, vgo, vout, vguard, callOf, vop, ev, cv]
    subst hQ
    have hr2 : sFreeR r plan hour = (0, 10) := by rw [sFreeR, hF, if_pos h0, if_neg (by simp [hs])]
    rw [hr2]
    exact FnPost.plain trivial (v := .tup [vi 0, vi 10]) (fun h2 e => by rfl) (WkV.pure (by simp only [V.into, intoL, Bool.and_true])) ⟨rfl, rfl⟩
  | true =>
    have hF2 : sIn hour 0 r.cu.last = true := hF.trans hFt
    simp only [sIn, Bool.and_eq_true, decide_eq_true_eq] at hF2
    obtain ⟨h, rfl⟩ : ∃ h : Nat, hour = h := ⟨hour.toNat, by omega⟩
    generalize hN : cntN plan = n at *
    have hn0 : gi n h ≤ 5 := by
      by_cases e : gi n h = 0
      · omega
      · have := sure_pl k (h := h) (by omega) e hs; omega
    have hn1 := hnk.le h
    have hh5 : (h : Int) < ((5 : Nat) : Int) := by omega
    have hh6 : h + 1 ≤ 5 := by omega
    have hA : ∀ m : Nat, m ≤ 7 → NOk (addN1 n h m) := fun m hm => nok_set hnk (by omega) (by omega)
    have hAg : ∀ m : Nat, gi (addN1 n h m) h = gi n h + m := fun m => by rw [addN1, gi_set_self _ (by rw [hnk.len]; omega)]
    have hstep : ∀ m : Nat, List.take h (cI (addN1 n h m)) ++ [V.int IntKind.i64 (gi n h + m + 1)] ++ List.drop (h + 1) (cI (addN1 n h m)) = cI (addN1 n h (m + 1)) := fun m => by
      rw [show addN1 n h (m + 1) = (addN1 n h m).set h (gi n h + m + 1) from by simp only [addN1, List.set_set]; congr 1; omega]
      exact cI_set _ (by rw [addN1, List.length_set, hnk.len]; omega)
    have hat : ∀ m : Nat, List.drop h (cI (addN1 n h m)) = vi (gi n h + m) :: cI (List.drop (h + 1) (addN1 n h m)) := fun m => by
      have := cI_at (l := addN1 n h m) (Int.natCast_nonneg h) (by rw [addN1, List.length_set, hnk.len]; omega)
      rw [Int.toNat_natCast, Nat.mul_one, hAg] at this
      exact this
    have hA0 : addN1 n h 0 = n := by
      refine list_ext (by simp [addN1]) fun q hq => ?_
      rw [addN1, gi_setN _ (by rw [hnk.len]; omega)]
      split
      · subst_vars; omega
      · rfl
    have hat0 := hat 0
    have hst0 := hstep 0
    rw [hA0, show gi n h + ((0 : Nat) : Int) = gi n h by omega] at hat0 hst0
    rw [Nat.zero_add] at hst0
    have hw0 := i64_in (show -9223372036854775808 ≤ gi n h + 1 by omega) (show gi n h + 1 ≤ 9223372036854775807 by omega)
    simp only [gos, eq_self, Nat.reduceLT, Nat.reduceEqDiff, reduceCtorEq, reduceIte, ↓reduceIte, tt, vgo, vout, vguard, callOf, vop, ev, cv, vbin, vint, isShift, isNilConst, vload, hn5, hat0, hst0, hw0, hh5, hh6, Int.natCast_nonneg, Int.toNat_natCast, Nat.mul_one, Nat.zero_add]
    refine W.loop tabOk mixed (fun a : Nat × MemoI => ([(2, vi h), (8, .rop (bw r (.mp 90))), (9, .ptr 9 0 0), (11, vi a.1)], (90, ⟨0, .map (memoI a.2)⟩) :: [(9, ⟨0, .row (cI (addN1 n h (a.1 + 1)))⟩)])) (fun a => 6 - a.1)
      (fun a => a.1 ≤ 5 ∧ BMemo r a.2 ∧ ∀ q : Nat, q < a.1 → sSureN r (addN1 n h (q + 1)) = true) (0, M0) ⟨by simp, HM, fun q hq => by simp at hq⟩ (Wk.env (by simp [subE, Env.get])) ?_
    rintro ⟨j, M1⟩ ⟨hj, HM1, hsu⟩
    simp only at hj HM1 hsu ⊢
    have hk1 := hA (j + 1) (by omega)
    have hc5 : (cI (addN1 n h (j + 1))).length = 5 := by rw [cI_len, hk1.len]
    have hct5 : List.take 5 (cI (addN1 n h (j + 1))) = cI (addN1 n h (j + 1)) := List.take_of_length_le (by omega)
    simp only [gos, eq_self, Nat.reduceLT, Nat.reduceEqDiff, reduceCtorEq, reduceIte, ↓reduceIte, tt, vgo, vout, vguard, callOf, vop, ev, vload, hc5, hct5]
    refine Cl.mk (c_bsureK r k M1 HM1 90 (by decide) (addN1 n h (j + 1)) hk1 _ rfl) ?_
    rintro v h' ⟨rfl, rfl⟩
    have HM2 : BMemo r (suMM r M1 (addN1 n h (j + 1))) := HM1.su hk1.len
    generalize suMM r M1 (addN1 n h (j + 1)) = M2 at HM2 ⊢
    cases hs2 : sSureN r (addN1 n h (j + 1)) with
    | true =>
      have h5 := sure_pl k (h := h) (by omega) (by rw [hAg]; omega) hs2
      rw [hAg] at h5
      have hatj := hat (j + 1)
      have hstj := hstep (j + 1)
      have hwj := i64_in (show -9223372036854775808 ≤ gi n h + ((j + 1 : Nat) : Int) + 1 by omega) (show gi n h + ((j + 1 : Nat) : Int) + 1 ≤ 9223372036854775807 by omega)
      simp only [gos, eq_self, Nat.reduceLT, Nat.reduceEqDiff, reduceCtorEq, reduceIte, ↓reduceIte, tt, vgo, vout, vguard, callOf, vop, ev, cv, vbin, vint, isShift, isNilConst, vload, hc5, hatj, hstj, hwj, hh5, hh6, Int.natCast_nonneg, Int.toNat_natCast, Nat.mul_one, Nat.zero_add, i64_succ (show (j : Int) < 9223372036854775807 by omega)]
      refine Nx.mk (j + 1, M2) (show 6 - (j + 1) < 6 - j by omega) ⟨by simp only; omega, HM2, fun q hq => ?_⟩ (Wk.env (by simp [subE, Env.get]))
      rcases Nat.lt_succ_iff_lt_or_eq.1 hq with h1 | rfl
      · exact hsu q h1
      · exact hs2
    | false =>
      simp only [gos, eq_self, Nat.reduceLT, Nat.reduceEqDiff, reduceIte, ↓reduceIte, vgo, vout, vguard, callOf, vop, ev, cv]
      subst hQ
      have hfr : freeN r n h = j := takeWhile_len (by omega) hsu hs2
      have hr2 : sFreeR r plan h = ((j : Int), 0) := by rw [sFreeR, hF, if_pos h0, hN, if_pos hs, Int.toNat_natCast, hfr]
      rw [hr2]
      exact FnPost.plain trivial (v := .tup [vi j, vi 0]) (fun h2 e => by rfl) (WkV.pure (by simp only [V.into, intoL, Bool.and_true])) ⟨rfl, rfl⟩
end Go.Vm

set_option linter.unusedVariables false
set_option linter.unusedSimpArgs false
set_option maxRecDepth 100000
namespace Go.Vm
open Go.Proofs
/-! ### Coal: the least coal of a plan -/
def cuB (r : Rm) (plan : List Int) : Cu := { r.cu with want := sAdd (nb r (cntN plan)) r.cu.want r.cu.want.length }
def sCoalR (r : Rm) (plan : List Int) : List Int × Int :=
  if sPlanned r plan true = 0 then (if 0 < (r.cu.readings.length : Int) then ([], 8) else sLeastA (cuB r plan)) else ([], sPlanned r plan true)
set_option maxHeartbeats 2000000 in
theorem c_bCoal (r : Rm) (hr : r.wf) (plan : List Int) (hp : (plan.length : Int) ≤ 1000000) : Pu Try.prog (.fn 13 [] []) [.agg r.cs, vI plan] (.tup [vI (sCoalR r plan).1, vi (sCoalR r plan).2]) := by
  refine Ev.fn Try.func13 rfl rfl (Fn.body tabOk Try.func13 rfl (Nat.le_of_ble_eq_true rfl) (Ks.ok (fz := (fzn [7, 9])) (cl := (cln [(7, .ex), (13, .ex)])) tabOk mixed ?_))
  generalize hQ : FnPost tt Try.f13 _ _ = Q
  simp only [Try.f13, List.nil_append, List.append_nil, argsEnv, Nat.reduceAdd]
  simp only [gos, eq_self, Nat.reduceLT, Nat.reduceEqDiff, reduceCtorEq, reduceIte, ↓reduceIte, tt, vgo, vout, vguard, callOf, vop, ev, cv, vload, newRow, rms]
  by_cases h0 : sPlanned r plan true = 0
  case neg =>
    refine Cl.pu (c_plannedN r hr plan hp true h0) ?_ rfl (by simp only [V.into, intoL, vI_into, Bool.and_true, rm_into])
    have hb : (sPlanned r plan true != 0) = true := by simp [h0]
    have hn5 : (cI zL).length = 5 := rfl
    have ht5 : List.take 5 (cI zL) = cI zL := rfl
    have hd5 : List.drop 5 (cI zL) = [] := rfl
    have hone : oneL (cI zL) = true := rfl
    simp only [gos, eq_self, Nat.reduceLT, Nat.reduceEqDiff, Nat.reduceAdd, reduceCtorEq, reduceIte, ↓reduceIte, tt, vgo, vout, vguard, callOf, vop, ev, cv, vbin, vint, isShift, isNilConst, newRow, hb, hn5, hone]
    subst hQ
    have hr2 : sCoalR r plan = ([], sPlanned r plan true) := by rw [sCoalR, if_neg h0]
    rw [hr2]
    exact FnPost.plain trivial (v := .tup [.sl0, vi (sPlanned r plan true)]) (fun h2 e => by rfl) (WkV.trans (WkV.less (v' := .tup [vI [], vi (sPlanned r plan true)]) (ImpV.tup ⟨sl0_vI, ImpV.refl _, trivial⟩)) (WkV.pure (by simp only [V.into, intoL, vI_into, Bool.and_true]))) ⟨rfl, rfl⟩
  refine Cl.newN (n_planned r hr plan hp true h0) rfl ?_
  obtain ⟨k, ha, _, hq, hpr, hnk⟩ := planned_ok h0
  have hl := k.A.k0.last
  have z0 : ((0 : Int) != 0) = false := rfl
  have hn5 : (cI (cntN plan)).length = 5 := by rw [cI_len, hnk.len]
  have ht5 : List.take 5 (cI (cntN plan)) = cI (cntN plan) := List.take_of_length_le (by omega)
  have hd5 : List.drop 5 (cI (cntN plan)) = [] := List.drop_eq_nil_of_le (by omega)
  have hone := cI_one (cntN plan)
  simp only [gos, eq_self, Nat.reduceLT, Nat.reduceEqDiff, Nat.reduceAdd, reduceCtorEq, reduceIte, ↓reduceIte, tt, vgo, vout, vguard, callOf, vop, ev, cv, vbin, vint, isShift, isNilConst, vload, vlen, newRow, rms, vD, hn5, hone]
  by_cases hrd : 0 < (r.cu.readings.length : Int)
  · simp only [gos, eq_self, Nat.reduceLT, Nat.reduceEqDiff, reduceIte, ↓reduceIte, vgo, vout, vguard, callOf, vop, ev, cv, hrd]
    subst hQ
    have hr2 : sCoalR r plan = ([], 8) := by rw [sCoalR, if_pos h0, if_pos hrd]
    rw [hr2]
    exact FnPost.plain trivial (v := .tup [.sl0, vi 8]) (fun h2 e => by rfl) (WkV.trans (WkV.less (v' := .tup [vI [], vi 8]) (ImpV.tup ⟨sl0_vI, ImpV.refl _, trivial⟩)) (WkV.pure (by simp only [V.into, intoL, vI_into, Bool.and_true]))) ⟨rfl, rfl⟩
  have hcone : oneL r.cu.cs = true := rfl
  simp only [gos, eq_self, Nat.reduceLT, Nat.reduceEqDiff, Nat.reduceAdd, Nat.reduceLeDiff, reduceCtorEq, reduceIte, ↓reduceIte, tt, vgo, vout, vguard, callOf, vop, ev, vload, newRow, hrd, rms, hcone]
  refine Wr.at tabOk 0 ?_
  simp only [gos]
  refine Wa.mk (Wk.trans (Wk.forget (ρ' := [(2, .rop r.cs), (7, .ptr 7 0 0), (9, .ptr 9 0 0)]) (h' := [(7, ⟨0, .row (cI (cntN plan))⟩), (9, ⟨0, .row r.cu.cs⟩)]) (by simp [subE, Env.get]) (by simp [subH, Heap.get]) (fun j hp => by simp [orD, domP, Heap.get] at hp) (by simp only [intoE, V.into, Bool.true_and, Bool.and_true, domP, Heap.get, rm_into]; try rfl) (by simp only [intoH, Blk.into, cI_into, cu_into, Bool.and_true]; try rfl)) (Wk.ren 9 49 rfl rfl)) ?_
  simp only [renE, renH, V.ren, Blk.ren, sw, rm_ren, cu_ren, cI_ren, gos, eq_self, Nat.reduceLT, Nat.reduceEqDiff, reduceCtorEq, reduceIte, ↓reduceIte, tt, vgo, vout, vguard, callOf, vop, ev, vload, rms, hn5, ht5]
  refine Cl.newN (n_bbk r hl (cntN plan) hnk.len fun i _ => n_bu k hnk i) rfl ?_
  simp only [gos, eq_self, Nat.reduceLT, Nat.reduceEqDiff, Nat.reduceAdd, Nat.reduceLeDiff, reduceCtorEq, reduceIte, ↓reduceIte, tt, vgo, vout, vguard, callOf, vop, ev, cv, vload, vlen, rms, vI]
  have hnbl := nb_len k (cntN plan)
  have hwl : (r.cu.want.length : Int) = r.cu.last + 1 := k.A.k0.want.1
  have hBb : ∀ i : Nat, (i : Int) ≤ r.cu.last → 0 ≤ gi (nb r (cntN plan)) i ∧ gi (nb r (cntN plan)) i ≤ 9000 := fun i hi => by
    have hb := k.bu
    have hn := hnk.le i
    have h1 : 0 ≤ r.bu * gi (cntN plan) i := Int.mul_nonneg (by omega) hn.1
    have h2 : r.bu * gi (cntN plan) i ≤ 9 * 1000 := Int.mul_le_mul hb.2 hn.2 hn.1 (by omega)
    rw [nb_gi hi]; omega
  generalize hB : nb r (cntN plan) = B at hnbl hBb ⊢
  have hL : B.length = (r.cu.last + 1).toNat := by omega
  rw [← hL]
  refine W.loop tabOk mixed (fun i : Nat => ([(2, .rop r.cs), (9, .ptr 49 0 0), (35, vI r.cu.want), (36, vi r.cu.want.length), (37, vi i)], [(49, ⟨0, .row [vi r.cu.last, vi r.cu.start, vi r.cu.most, vi r.cu.per, vi r.cu.shovels, vI r.cu.coal, .own 9 0 0 1 B.length, vi r.cu.heat.lo, vi r.cu.heat.hi, vR r.cu.loss, vD r.cu.readings]⟩), (9, ⟨0, .row (cI (sAdd B r.cu.want i))⟩)])) (fun i => r.cu.want.length - i) (fun i => i ≤ r.cu.want.length) 0 (Nat.zero_le _)
    (Wk.forget (by simp [subE, Env.get, vI]) (by simp [subH, Heap.get, Cu.cs, sAdd]) (fun j hp => by simp [orD, domP, Heap.get] at hp) (by simp only [intoE, V.into, vI_into, Bool.true_and, Bool.and_true, domP, Heap.get, rm_into]; try rfl) (by simp only [intoH, Blk.into, V.into, intoL, cI_into, vI_into, vR_into, vD_into, Bool.true_and, Bool.and_true, domP, Heap.get]; try rfl)) ?_
  intro i hi
  by_cases hil : (i : Int) < r.cu.want.length
  · have hwm := k.A.k0.want.2 _ (gi_mem (l := r.cu.want) (i := i) (by omega))
    have hbm := hBb i (by omega)
    have hat := cI_at (Int.natCast_nonneg i) hil
    rw [Int.toNat_natCast, Nat.mul_one] at hat
    have hsl := sAdd_len B r.cu.want i
    have hil3 : (i : Int) < (sAdd B r.cu.want i).length := by rw [hsl]; omega
    have hcur : gi (sAdd B r.cu.want i) i = gi B i := sAdd_ge B r.cu.want i i (Nat.le_refl _)
    have e2 := cI_at (Int.natCast_nonneg i) hil3
    rw [Int.toNat_natCast, Nat.mul_one, hcur] at e2
    have hw := i64_in (show -9223372036854775808 ≤ gi B i + gi r.cu.want i by omega) (show gi B i + gi r.cu.want i ≤ 9223372036854775807 by omega)
    have hilB : (i : Int) < B.length := by omega
    have hset : List.take i (cI (sAdd B r.cu.want i)) ++ [V.int IntKind.i64 (gi B i + gi r.cu.want i)] ++ List.drop (i + 1) (cI (sAdd B r.cu.want i)) = cI (sAdd B r.cu.want (i + 1)) := by
      rw [sAdd, hcur]; exact cI_set _ (by omega)
    have hlc : (cI (sAdd B r.cu.want i)).length = B.length := by rw [cI_len, hsl]
    have hle : i + 1 ≤ B.length := by omega
    simp only [gos, eq_self, Nat.reduceLT, Nat.reduceEqDiff, reduceCtorEq, reduceIte, ↓reduceIte, tt, vgo, vout, vguard, callOf, vop, ev, cv, vbin, vint, isShift, isNilConst, vload, vI, hil, hilB, hat, e2, hw, hset, hlc, hle, Int.natCast_nonneg, Int.toNat_natCast, Nat.mul_one, Nat.zero_add]
    exact Nx.mk (i + 1) (show r.cu.want.length - (i + 1) < r.cu.want.length - i by omega) (by omega) (Wk.env (by simp [subE, Env.get, i64_succ (show (i : Int) < 9223372036854775807 by omega)]))
  · have hie : i = r.cu.want.length := by omega
    subst hie
    have hsl := sAdd_len B r.cu.want r.cu.want.length
    have hct : List.take B.length (cI (sAdd B r.cu.want r.cu.want.length)) = cI (sAdd B r.cu.want r.cu.want.length) := List.take_of_length_le (by rw [cI_len, hsl]; omega)
    simp only [gos, eq_self, Nat.reduceLT, Nat.reduceEqDiff, reduceIte, ↓reduceIte, vgo, vout, vguard, callOf, vop, ev, vbin, vint, isShift, isNilConst, vI, hil]
    refine Wr.at tabOk 0 ?_
    simp only [gos]
    refine Wa.mk (Wk.freeze 9 rfl rfl (cI_into _ _) rfl) ?_
    simp only [frzE, frzH, V.frz, frzL, Blk.frz, rm_frz, vR, vD, cI_frz, cR_frz, cD_frz, gos, eq_self, Nat.reduceLT, Nat.reduceEqDiff, Nat.reduceAdd, reduceCtorEq, reduceIte, ↓reduceIte, tt, vgo, vout, vguard, callOf, vop, ev, vload, Nat.mul_one, hct]
    have hagg : V.agg [V.int IntKind.i64 r.cu.last, V.int IntKind.i64 r.cu.start, V.int IntKind.i64 r.cu.most, V.int IntKind.i64 r.cu.per, V.int IntKind.i64 r.cu.shovels, V.ro r.cu.coal.length (cI r.cu.coal), V.ro B.length (cI (sAdd B r.cu.want r.cu.want.length)), V.int IntKind.i64 r.cu.heat.lo, V.int IntKind.i64 r.cu.heat.hi, V.ro r.cu.loss.length (cR r.cu.loss), V.ro r.cu.readings.length (cD r.cu.readings)] = V.agg (cuB r plan).cs := by
      have e : (cuB r plan).want = sAdd B r.cu.want r.cu.want.length := by simp only [cuB, hB]
      simp only [Cu.cs, e, vI, hsl]
      rfl
    rw [hagg]
    have hwf : (cuB r plan).wf := by
      have w := hr.cu
      have e : (cuB r plan).want.length = B.length := by simp only [cuB, hB, hsl]
      exact ⟨w.last, w.coal, by rw [e]; omega, w.loss, w.readings⟩
    refine Cl.pu (c_Least (cuB r plan) hwf) ?_ rfl (by simp only [V.into, intoL, cu_into, Bool.and_true])
    simp only [gos, eq_self, Nat.reduceLT, Nat.reduceEqDiff, reduceIte, ↓reduceIte, vgo, vout, vguard, callOf, vop, ev]
    subst hQ
    have hr2 : sCoalR r plan = sLeastA (cuB r plan) := by rw [sCoalR, if_pos h0, if_neg hrd]
    rw [hr2]
    exact FnPost.plain trivial (v := .tup [vI (sLeastA (cuB r plan)).1, vi (sLeastA (cuB r plan)).2]) (fun h2 e => by rfl) (WkV.pure (by simp only [V.into, intoL, vI_into, Bool.and_true])) ⟨rfl, rfl⟩
end Go.Vm
