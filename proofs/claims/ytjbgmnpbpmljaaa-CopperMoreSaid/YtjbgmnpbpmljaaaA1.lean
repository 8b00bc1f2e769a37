import Derived.Test.YtjbgmnpbpmljaaaTabOk
import Derived.Test.YtjbgmnpbpmljaaaVm28
set_option linter.unusedVariables false
set_option linter.unusedSimpArgs false
namespace Go.Vm
open Go.Proofs
/-- Which boxes are read-only from the start: all but these. -/
def fzn : List Nat → Nat → Bool
  | [], _ => true
  | x :: l, d => if d = x then false else fzn l d
theorem i64_in {n : Int} (h1 : -9223372036854775808 ≤ n) (h2 : n ≤ 9223372036854775807) : IntKind.i64.wrap n = n := by
  simp [IntKind.wrap, IntKind.bits, IntKind.signed]
  omega
theorem i64_succ {i : Nat} (h : (i : Int) < 9223372036854775807) : IntKind.i64.wrap ((i : Int) + 1) = ((i + 1 : Nat) : Int) := by
  rw [i64_in (by omega) (by omega)]; simp
abbrev cP : Cls := some ([], [])
abbrev cL : Cls := some ([0], [])
abbrev cW : Cls := some ([0], [0])
def tg0 : Nat → Nat := fun _ => 0
theorem gomin (a b : Int) : (if b < a then b else a) = min a b := by omega
theorem gomax (a b : Int) : (if a < b then b else a) = max a b := by omega
/-- A function without blocks around it forgets its own. -/
theorem WkV.pure {v : V} {h : Heap} (hi : v.into (fun _ => false) = true) : WkV (domP []) v h v [] :=
  WkV.drop (by simp [subH]) (fun i hp => by simp [domP, Heap.get] at hp) hi rfl
def I64 (n : Int) : Prop := -9223372036854775808 ≤ n ∧ n ≤ 9223372036854775807
/-! ### data -/
abbrev vi (n : Int) : V := .int .i64 n
structure Rg where
  lo : Int
  hi : Int
  deriving DecidableEq
structure Rd where
  hour : Int
  b : Rg
  deriving DecidableEq
structure Cu where
  last : Int
  start : Int
  most : Int
  per : Int
  shovels : Int
  coal : List Int
  want : List Int
  heat : Rg
  loss : List Rg
  readings : List Rd
  deriving DecidableEq
structure Tr2 where
  heat : Int
  loss : List Int
  deriving DecidableEq
def cI (l : List Int) : List V := l.map vi
def Rg.cs (r : Rg) : List V := [vi r.lo, vi r.hi]
def cR : List Rg → List V
  | [] => []
  | r :: l => vi r.lo :: vi r.hi :: cR l
def cD : List Rd → List V
  | [] => []
  | r :: l => vi r.hour :: vi r.b.lo :: vi r.b.hi :: cD l
def Sc0 := 0
def Rd.cs (r : Rd) : List V := [vi r.hour, vi r.b.lo, vi r.b.hi]
def vI (l : List Int) : V := .ro l.length (cI l)
def vR (l : List Rg) : V := .ro l.length (cR l)
def vD (l : List Rd) : V := .ro l.length (cD l)
def Cu.cs (c : Cu) : List V := [vi c.last, vi c.start, vi c.most, vi c.per, vi c.shovels, vI c.coal, vI c.want, vi c.heat.lo, vi c.heat.hi, vR c.loss, vD c.readings]
def Tr2.cs (t : Tr2) : List V := [vi t.heat, vI t.loss]
def gi (l : List Int) (n : Int) : Int := l.getD n.toNat 0
def gR (l : List Rg) (n : Int) : Rg := l.getD n.toNat ⟨0, 0⟩
def gD (l : List Rd) (n : Int) : Rd := l.getD n.toNat ⟨0, ⟨0, 0⟩⟩
theorem all_gi {l : List Int} {f : Int → Bool} (h : ∀ j : Nat, j < l.length → f (gi l j) = true) : l.all f = true := by
  rw [List.all_eq_true]
  intro x hx
  obtain ⟨i, hi, rfl⟩ := List.mem_iff_getElem.1 hx
  have := h i hi
  rwa [gi, Int.toNat_natCast, List.getD_eq_getElem?_getD, List.getElem?_eq_getElem hi] at this
theorem all_gi_false {l : List Int} {f : Int → Bool} {j : Nat} (hj : (j : Int) < l.length) (h : f (gi l j) = false) : l.all f = false := by
  rw [Bool.eq_false_iff]
  intro ha
  rw [List.all_eq_true] at ha
  have hj' : j < l.length := by omega
  have := ha (gi l j) (by rw [gi, Int.toNat_natCast, List.getD_eq_getElem?_getD, List.getElem?_eq_getElem hj']; exact List.getElem_mem _)
  rw [h] at this; cases this
theorem cI_len (l : List Int) : (cI l).length = l.length := by simp [cI]
theorem cR_len : ∀ l : List Rg, (cR l).length = l.length * 2
  | [] => rfl
  | r :: l => by simp [cR, cR_len l]; omega
theorem cD_len : ∀ l : List Rd, (cD l).length = l.length * 3
  | [] => rfl
  | r :: l => by simp [cD, cD_len l]; omega
theorem cI_drop : ∀ (l : List Int) (i : Nat), (cI l).drop i = cI (l.drop i) := fun l i => by simp [cI]
theorem cR_drop : ∀ (l : List Rg) (i : Nat), (cR l).drop (i * 2) = cR (l.drop i)
  | l, 0 => by simp
  | [], i + 1 => by simp [cR]
  | r :: l, i + 1 => by rw [show (i + 1) * 2 = i * 2 + 1 + 1 by omega]; simp [cR, cR_drop l i]
theorem cD_drop : ∀ (l : List Rd) (i : Nat), (cD l).drop (i * 3) = cD (l.drop i)
  | l, 0 => by simp
  | [], i + 1 => by simp [cD]
  | r :: l, i + 1 => by rw [show (i + 1) * 3 = i * 3 + 1 + 1 + 1 by omega]; simp [cD, cD_drop l i]
theorem gi_drop {l : List Int} {n : Int} (h0 : 0 ≤ n) (h1 : n < l.length) : l.drop n.toNat = gi l n :: l.drop (n.toNat + 1) := by
  have : n.toNat < l.length := by omega
  rw [List.drop_eq_getElem_cons this, gi, List.getD_eq_getElem?_getD, List.getElem?_eq_getElem this]; rfl
theorem gR_drop {l : List Rg} {n : Int} (h0 : 0 ≤ n) (h1 : n < l.length) : l.drop n.toNat = gR l n :: l.drop (n.toNat + 1) := by
  have : n.toNat < l.length := by omega
  rw [List.drop_eq_getElem_cons this, gR, List.getD_eq_getElem?_getD, List.getElem?_eq_getElem this]; rfl
theorem gD_drop {l : List Rd} {n : Int} (h0 : 0 ≤ n) (h1 : n < l.length) : l.drop n.toNat = gD l n :: l.drop (n.toNat + 1) := by
  have : n.toNat < l.length := by omega
  rw [List.drop_eq_getElem_cons this, gD, List.getD_eq_getElem?_getD, List.getElem?_eq_getElem this]; rfl
/-- An element's cells, and the rest. -/
theorem cI_at {l : List Int} {n : Int} (h0 : 0 ≤ n) (h1 : n < l.length) : (cI l).drop (n.toNat * 1) = vi (gi l n) :: cI (l.drop (n.toNat + 1)) := by
  rw [Nat.mul_one, cI_drop, gi_drop h0 h1]; rfl
theorem cR_at {l : List Rg} {n : Int} (h0 : 0 ≤ n) (h1 : n < l.length) : (cR l).drop (n.toNat * 2) = vi (gR l n).lo :: vi (gR l n).hi :: cR (l.drop (n.toNat + 1)) := by
  rw [cR_drop, gR_drop h0 h1]; rfl
theorem cD_at {l : List Rd} {n : Int} (h0 : 0 ≤ n) (h1 : n < l.length) : (cD l).drop (n.toNat * 3) = vi (gD l n).hour :: vi (gD l n).b.lo :: vi (gD l n).b.hi :: cD (l.drop (n.toNat + 1)) := by
  rw [cD_drop, gD_drop h0 h1]; rfl
theorem cI_into (p : Nat → Bool) : ∀ l : List Int, intoL p (cI l) = true
  | [] => rfl
  | x :: l => by simp only [cI, List.map_cons, intoL, V.into, Bool.true_and]; exact cI_into p l
theorem cR_into (p : Nat → Bool) : ∀ l : List Rg, intoL p (cR l) = true
  | [] => rfl
  | x :: l => by simp only [cR, intoL, V.into, Bool.true_and]; exact cR_into p l
theorem cD_into (p : Nat → Bool) : ∀ l : List Rd, intoL p (cD l) = true
  | [] => rfl
  | x :: l => by simp only [cD, intoL, V.into, Bool.true_and]; exact cD_into p l
theorem vI_into (p : Nat → Bool) (l : List Int) : (vI l).into p = true := by simp only [vI, V.into]; exact cI_into p l
theorem vR_into (p : Nat → Bool) (l : List Rg) : (vR l).into p = true := by simp only [vR, V.into]; exact cR_into p l
theorem vD_into (p : Nat → Bool) (l : List Rd) : (vD l).into p = true := by simp only [vD, V.into]; exact cD_into p l
theorem cu_into (p : Nat → Bool) (c : Cu) : intoL p c.cs = true := by
  simp only [Cu.cs, intoL, V.into, vI_into, vR_into, vD_into, Bool.true_and]
/-- A truth, as the program has it: the heat, and five losses. -/
structure Sc where
  heat : Int
  loss : List Int
  deriving DecidableEq
def Sc.cs (s : Sc) : List V := vi s.heat :: cI s.loss
def cS : List Sc → List V
  | [] => []
  | s :: l => vi s.heat :: (cI s.loss ++ cS l)
def vS (l : List Sc) : V := .ro l.length (cS l)
def gS (l : List Sc) (n : Int) : Sc := l.getD n.toNat ⟨0, []⟩
def okS (l : List Sc) : Prop := ∀ s ∈ l, s.loss.length = 5
theorem cS_len : ∀ {l : List Sc}, okS l → (cS l).length = l.length * 6
  | [], _ => rfl
  | s :: l, h => by
    have h1 := h s (by simp)
    have h2 := cS_len (l := l) fun x hx => h x (by simp [hx])
    simp [cS, h2, cI_len, h1]; omega
theorem cS_drop : ∀ {l : List Sc} (i : Nat), okS l → (cS l).drop (i * 6) = cS (l.drop i)
  | l, 0, _ => by simp
  | [], i + 1, _ => by simp [cS]
  | s :: l, i + 1, h => by
    have h1 := h s (by simp)
    rw [show (i + 1) * 6 = i * 6 + 5 + 1 by omega]
    simp only [cS, List.drop_succ_cons, List.drop_append, cI_len, h1]
    rw [List.drop_eq_nil_of_le (by rw [cI_len]; omega), List.nil_append, Nat.add_sub_cancel]
    exact cS_drop i fun x hx => h x (by simp [hx])
theorem gS_drop {l : List Sc} {n : Int} (h0 : 0 ≤ n) (h1 : n < l.length) : l.drop n.toNat = gS l n :: l.drop (n.toNat + 1) := by
  have : n.toNat < l.length := by omega
  rw [List.drop_eq_getElem_cons this, gS, List.getD_eq_getElem?_getD, List.getElem?_eq_getElem this]; rfl
theorem cS_at {l : List Sc} {n : Int} (hl : okS l) (h0 : 0 ≤ n) (h1 : n < l.length) : (cS l).drop (n.toNat * 6) = vi (gS l n).heat :: (cI (gS l n).loss ++ cS (l.drop (n.toNat + 1))) := by
  rw [cS_drop _ hl, gS_drop h0 h1]; rfl
theorem gS_mem {l : List Sc} {n : Int} (h0 : 0 ≤ n) (h1 : n < l.length) : gS l n ∈ l := by
  have : n.toNat < l.length := by omega
  rw [gS, List.getD_eq_getElem?_getD, List.getElem?_eq_getElem this]; exact List.getElem_mem _
theorem cS_into (p : Nat → Bool) : ∀ l : List Sc, intoL p (cS l) = true
  | [] => rfl
  | s :: l => by
    simp only [cS, intoL, V.into, Bool.true_and]
    have : ∀ (a b : List V), intoL p a = true → intoL p b = true → intoL p (a ++ b) = true := by
      intro a b ha hb
      induction a with
      | nil => exact hb
      | cons x a ih => simp only [List.cons_append, intoL, Bool.and_eq_true] at ha ⊢; exact ⟨ha.1, ih ha.2⟩
    exact this _ _ (cI_into p _) (cS_into p l)
theorem vS_into (p : Nat → Bool) (l : List Sc) : (vS l).into p = true := by simp only [vS, V.into]; exact cS_into p l
theorem gi_get {l : List Int} {i : Nat} (h : (i : Int) < l.length) : l[i]? = some (gi l i) := by
  have : i < l.length := by omega
  rw [gi, Int.toNat_natCast, List.getD_eq_getElem?_getD, List.getElem?_eq_getElem this]; rfl
theorem gR_get {l : List Rg} {i : Nat} (h : (i : Int) < l.length) : l[i]? = some (gR l i) := by
  have : i < l.length := by omega
  rw [gR, Int.toNat_natCast, List.getD_eq_getElem?_getD, List.getElem?_eq_getElem this]; rfl
theorem gD_get {l : List Rd} {i : Nat} (h : (i : Int) < l.length) : l[i]? = some (gD l i) := by
  have : i < l.length := by omega
  rw [gD, Int.toNat_natCast, List.getD_eq_getElem?_getD, List.getElem?_eq_getElem this]; rfl
theorem gS_get {l : List Sc} {i : Nat} (h : (i : Int) < l.length) : l[i]? = some (gS l i) := by
  have : i < l.length := by omega
  rw [gS, Int.toNat_natCast, List.getD_eq_getElem?_getD, List.getElem?_eq_getElem this]; rfl
/-- The number of the first element of which f is true; -1 if there is none. -/
def sIdx {α : Type} (f : α → Bool) (l : List α) : Int := match l.findIdx? f with
  | some i => i
  | none => -1
theorem sIdx_some {α : Type} {f : α → Bool} {l : List α} {i : Nat} {x : α} (hx : l[i]? = some x) (hf : f x = true) (hj : ∀ (j : Nat) y, j < i → l[j]? = some y → f y = false) : sIdx f l = i := by
  have : l.findIdx? f = some i := by
    rw [List.findIdx?_eq_some_iff_getElem]
    obtain ⟨h1, h2⟩ := List.getElem?_eq_some_iff.1 hx
    refine ⟨h1, by rw [h2]; exact hf, fun j hji => ?_⟩
    have := hj j _ hji (List.getElem?_eq_getElem (by omega))
    simp [this]
  simp [sIdx, this]
theorem sIdx_none {α : Type} {f : α → Bool} {l : List α} (hj : ∀ (j : Nat) y, l[j]? = some y → f y = false) : sIdx f l = -1 := by
  have : l.findIdx? f = none := by
    rw [List.findIdx?_eq_none_iff]
    intro x hx
    obtain ⟨i, hi⟩ := List.mem_iff_getElem?.1 hx
    exact hj i x hi
  simp [sIdx, this]
theorem sIdx_any {α : Type} (f : α → Bool) (l : List α) : decide (0 ≤ sIdx f l) = l.any f := by
  unfold sIdx
  cases h : l.findIdx? f with
  | none =>
    rw [List.findIdx?_eq_none_iff] at h
    have : l.any f = false := by rw [List.any_eq_false]; intro x hx; simp [h x hx]
    simp [this]
  | some i =>
    rw [List.findIdx?_eq_some_iff_getElem] at h
    obtain ⟨h1, h2, _⟩ := h
    have : l.any f = true := by rw [List.any_eq_true]; exact ⟨_, List.getElem_mem h1, h2⟩
    simp [this]
def cB (l : List Bool) : List V := l.map V.bool
def vB (l : List Bool) : V := .ro l.length (cB l)
theorem on_int {k : IntKind} {n : Int} : V.one (.int k n) = true := rfl
theorem ce_int {k : IntKind} {n : Int} : V.cells? (.int k n) = some [.int k n] := rfl
theorem on_bool {b : Bool} : V.one (.bool b) = true := rfl
theorem ce_bool {b : Bool} : V.cells? (.bool b) = some [.bool b] := rfl
theorem on_nilp  : V.one (.nilp) = true := rfl
theorem ce_nilp  : V.cells? (.nilp) = some [.nilp] := rfl
theorem on_rop {l : List V} : V.one (.rop l) = true := rfl
theorem ce_rop {l : List V} : V.cells? (.rop l) = some [.rop l] := rfl
theorem on_ptr {i v o : Nat} : V.one (.ptr i v o) = true := rfl
theorem ce_ptr {i v o : Nat} : V.cells? (.ptr i v o) = some [.ptr i v o] := rfl
theorem on_sl0  : V.one (.sl0) = true := rfl
theorem ce_sl0  : V.cells? (.sl0) = some [.sl0] := rfl
theorem on_ro {n : Nat} {l : List V} : V.one (.ro n l) = true := rfl
theorem ce_ro {n : Nat} {l : List V} : V.cells? (.ro n l) = some [.ro n l] := rfl
theorem on_own {i v o s n : Nat} : V.one (.own i v o s n) = true := rfl
theorem ce_own {i v o s n : Nat} : V.cells? (.own i v o s n) = some [.own i v o s n] := rfl
theorem on_fn {f : FuncId} {a b : List V} : V.one (.fn f a b) = true := rfl
theorem ce_fn {f : FuncId} {a b : List V} : V.cells? (.fn f a b) = some [.fn f a b] := rfl
theorem on_nilfn  : V.one (.nilfn) = true := rfl
theorem ce_nilfn  : V.cells? (.nilfn) = some [.nilfn] := rfl
theorem on_mp {i : Nat} : V.one (.mp i) = true := rfl
theorem ce_mp {i : Nat} : V.cells? (.mp i) = some [.mp i] := rfl
theorem on_vI {l : List Int} : V.one (vI l) = true := rfl
theorem ce_vI {l : List Int} : V.cells? (vI l) = some [vI l] := rfl
theorem on_vR {l : List Rg} : V.one (vR l) = true := rfl
theorem ce_vR {l : List Rg} : V.cells? (vR l) = some [vR l] := rfl
theorem on_vD {l : List Rd} : V.one (vD l) = true := rfl
theorem ce_vD {l : List Rd} : V.cells? (vD l) = some [vD l] := rfl
theorem on_vS {l : List Sc} : V.one (vS l) = true := rfl
theorem ce_vS {l : List Sc} : V.cells? (vS l) = some [vS l] := rfl
theorem on_vB {l : List Bool} : V.one (vB l) = true := rfl
theorem ce_vB {l : List Bool} : V.cells? (vB l) = some [vB l] := rfl
theorem ce_agg {l : List V} : V.cells? (.agg l) = some l := rfl
/-- Coppers at work. -/
def wcs (c : Cu) (tr : List Sc) (m : V) : List V := [vi c.last, vi c.start, vi c.most, vi c.per, vi c.shovels, vI c.coal, vI c.want, vi c.heat.lo, vi c.heat.hi, vR c.loss, vD c.readings, vS tr, m]
theorem wc_take {c : Cu} {tr : List Sc} {m : V} : (wcs c tr m).take 11 = c.cs := rfl
theorem wc_len {c : Cu} {tr : List Sc} {m : V} : (wcs c tr m).length = 13 := rfl
theorem wc_h5 {c : Cu} {tr : List Sc} {m : V} : ((wcs c tr m).drop 5).head? = some (vI c.coal) := rfl
theorem wc_h6 {c : Cu} {tr : List Sc} {m : V} : ((wcs c tr m).drop 6).head? = some (vI c.want) := rfl
theorem wc_h11 {c : Cu} {tr : List Sc} {m : V} : ((wcs c tr m).drop 11).head? = some (vS tr) := rfl
theorem wc_h12 {c : Cu} {tr : List Sc} {m : V} : ((wcs c tr m).drop 12).head? = some m := rfl
theorem wc_into (p : Nat → Bool) (c : Cu) (tr : List Sc) (m : V) (h : m.into p = true) : intoL p (wcs c tr m) = true := by
  simp only [wcs, intoL, V.into, vI_into, vR_into, vD_into, vS_into, h, Bool.true_and]
def gB (l : List Bool) (n : Int) : Bool := l.getD n.toNat false
theorem cB_at {l : List Bool} {n : Int} (h0 : 0 ≤ n) (h1 : n < l.length) : (cB l).drop (n.toNat * 1) = V.bool (gB l n) :: cB (l.drop (n.toNat + 1)) := by
  have : n.toNat < l.length := by omega
  rw [Nat.mul_one, show (cB l).drop n.toNat = cB (l.drop n.toNat) by simp [cB], List.drop_eq_getElem_cons this, gB, List.getD_eq_getElem?_getD, List.getElem?_eq_getElem this]; rfl
theorem gB_get {l : List Bool} {i : Nat} (h : (i : Int) < l.length) : l[i]? = some (gB l i) := by
  have : i < l.length := by omega
  rw [gB, Int.toNat_natCast, List.getD_eq_getElem?_getD, List.getElem?_eq_getElem this]; rfl
theorem cI_frz (i v : Nat) (cs : List V) : ∀ l : List Int, frzL i v cs (cI l) = cI l
  | [] => rfl
  | x :: l => by simp only [cI, List.map_cons, frzL, V.frz]; exact congrArg _ (cI_frz i v cs l)
theorem cI_snoc (l : List Int) (x : Int) : cI (l ++ [x]) = cI l ++ [vi x] := by simp [cI]
theorem cI_take (l : List Int) : (cI l).take l.length = cI l := List.take_of_length_le (by simp [cI])
theorem cB_into (p : Nat → Bool) : ∀ l : List Bool, intoL p (cB l) = true
  | [] => rfl
  | x :: l => by simp only [cB, List.map_cons, intoL, V.into, Bool.true_and]; exact cB_into p l
theorem vB_into (p : Nat → Bool) (l : List Bool) : (vB l).into p = true := by simp only [vB, V.into]; exact cB_into p l
theorem cB_len (l : List Bool) : (cB l).length = l.length := by simp [cB]
theorem cB_frz (i v : Nat) (cs : List V) : ∀ l : List Bool, frzL i v cs (cB l) = cB l
  | [] => rfl
  | x :: l => by simp only [cB, List.map_cons, frzL, V.frz]; exact congrArg _ (cB_frz i v cs l)
theorem cB_snoc (l : List Bool) (x : Bool) : cB (l ++ [x]) = cB l ++ [.bool x] := by simp [cB]
theorem cB_take (l : List Bool) : (cB l).take l.length = cB l := List.take_of_length_le (by simp [cB])
theorem cu_h0 {c : Cu} : c.cs.head? = some (vi c.last) := rfl
theorem cu_h1 {c : Cu} : (c.cs.drop 1).head? = some (vi c.start) := rfl
theorem cu_h2 {c : Cu} : (c.cs.drop 2).head? = some (vi c.most) := rfl
theorem cu_h3 {c : Cu} : (c.cs.drop 3).head? = some (vi c.per) := rfl
theorem cu_h4 {c : Cu} : (c.cs.drop 4).head? = some (vi c.shovels) := rfl
theorem cu_h5 {c : Cu} : (c.cs.drop 5).head? = some (vI c.coal) := rfl
theorem cu_h6 {c : Cu} : (c.cs.drop 6).head? = some (vI c.want) := rfl
theorem cu_h7 {c : Cu} : (c.cs.drop 7).head? = some (vi c.heat.lo) := rfl
theorem cu_h8 {c : Cu} : (c.cs.drop 8).head? = some (vi c.heat.hi) := rfl
theorem cu_h9 {c : Cu} : (c.cs.drop 9).head? = some (vR c.loss) := rfl
theorem cu_h10 {c : Cu} : (c.cs.drop 10).head? = some (vD c.readings) := rfl
theorem cu_g0 {c : Cu} : c.cs[0]? = some (vi c.last) := rfl
theorem cu_g1 {c : Cu} : c.cs[1]? = some (vi c.start) := rfl
theorem cu_g2 {c : Cu} : c.cs[2]? = some (vi c.most) := rfl
theorem cu_g3 {c : Cu} : c.cs[3]? = some (vi c.per) := rfl
theorem cu_g4 {c : Cu} : c.cs[4]? = some (vi c.shovels) := rfl
theorem cu_g5 {c : Cu} : c.cs[5]? = some (vI c.coal) := rfl
theorem cu_g6 {c : Cu} : c.cs[6]? = some (vI c.want) := rfl
theorem cu_g7 {c : Cu} : c.cs[7]? = some (vi c.heat.lo) := rfl
theorem cu_g8 {c : Cu} : c.cs[8]? = some (vi c.heat.hi) := rfl
theorem cu_g9 {c : Cu} : c.cs[9]? = some (vR c.loss) := rfl
theorem cu_g10 {c : Cu} : c.cs[10]? = some (vD c.readings) := rfl
theorem cu_t {c : Cu} : (c.cs.drop 7).take 2 = [vi c.heat.lo, vi c.heat.hi] := rfl
theorem cu_l {c : Cu} : (c.cs.drop 7).length = 4 := rfl
theorem cu_len {c : Cu} : c.cs.length = 11 := rfl
theorem cu_take {c : Cu} : c.cs.take 11 = c.cs := rfl
end Go.Vm
set_option linter.unusedVariables false
set_option maxRecDepth 100000
namespace Go.Vm
open Go.Proofs
/-- The rules by which code is gone through. -/
theorem gos : type_of% (And.intro (And.intro (And.intro (And.intro (And.intro (And.intro (And.intro @Go.Vm.W_seq (And.intro @Go.Vm.W_skip @Go.Vm.W_ret)) (And.intro @Go.Vm.W_exit (And.intro @Go.Vm.W_block @Go.Vm.W_label))) (And.intro (And.intro @Go.Vm.W_cond (And.intro @Go.Vm.W_region @Go.Vm.Wr_pl)) (And.intro @Go.Vm.cln.eq_1 (And.intro @Go.Vm.cln.eq_2 @Go.Vm.R_nil)))) (And.intro (And.intro (And.intro @Go.Vm.R_code (And.intro @Go.Vm.R_code_exit @Go.Vm.R_code_ret)) (And.intro @Go.Vm.R_wk (And.intro @Go.Vm.R_orc @Go.Vm.LQ_normal))) (And.intro (And.intro @Go.Vm.LQ_exit (And.intro @Go.Vm.LQ_ret @Go.Vm.R_blk)) (And.intro @Go.Vm.R_blk_exit (And.intro @Go.Vm.R_blk_ret @Go.Vm.RL_cons))))) (And.intro (And.intro (And.intro (And.intro @Go.Vm.RL_nil (And.intro @Go.Vm.RO_ok @Go.Vm.RO_call)) (And.intro @Go.Vm.RD_cons (And.intro @Go.Vm.RD_nil @Go.Vm.RDO_ok))) (And.intro (And.intro @Go.Vm.RDO_call (And.intro @Go.Vm.Br_true @Go.Vm.Br_false)) (And.intro @Go.Vm.fzn.eq_1 (And.intro @Go.Vm.fzn.eq_2 @Go.Vm.tgL.eq_1)))) (And.intro (And.intro (And.intro @Go.Vm.tgL.eq_2 (And.intro @Go.Vm.rdP.eq_1 @Go.Vm.rdP.eq_2)) (And.intro @Go.Vm.wrP.eq_1 (And.intro @Go.Vm.wrP.eq_2 @Go.Vm.dstOk.eq_1))) (And.intro (And.intro @Go.Vm.dstOk.eq_2 (And.intro @Go.Vm.evL.eq_1 @Go.Vm.evL.eq_2)) (And.intro (And.intro @Go.Vm.evP.eq_1 @Go.Vm.evP.eq_2) (And.intro @Go.Vm.Env.get.eq_1 @Go.Vm.Env.get.eq_2)))))) (And.intro (And.intro (And.intro (And.intro (And.intro @Go.Vm.Env.put.eq_1 (And.intro @Go.Vm.Env.put.eq_2 @Go.Vm.on_int)) (And.intro @Go.Vm.on_bool (And.intro @Go.Vm.on_nilp @Go.Vm.on_rop))) (And.intro (And.intro @Go.Vm.on_ptr (And.intro @Go.Vm.on_sl0 @Go.Vm.on_ro)) (And.intro @Go.Vm.on_own (And.intro @Go.Vm.on_fn @Go.Vm.on_nilfn)))) (And.intro (And.intro (And.intro @Go.Vm.on_mp (And.intro @Go.Vm.on_vI @Go.Vm.on_vR)) (And.intro @Go.Vm.on_vD (And.intro @Go.Vm.on_vS @Go.Vm.on_vB))) (And.intro (And.intro @Go.Vm.ce_int (And.intro @Go.Vm.ce_bool @Go.Vm.ce_nilp)) (And.intro @Go.Vm.ce_rop (And.intro @Go.Vm.ce_ptr @Go.Vm.ce_sl0))))) (And.intro (And.intro (And.intro (And.intro @Go.Vm.ce_ro (And.intro @Go.Vm.ce_own @Go.Vm.ce_fn)) (And.intro @Go.Vm.ce_nilfn (And.intro @Go.Vm.ce_mp @Go.Vm.ce_vI))) (And.intro (And.intro @Go.Vm.ce_vR (And.intro @Go.Vm.ce_vD @Go.Vm.ce_vS)) (And.intro @Go.Vm.ce_vB (And.intro @Go.Vm.ce_agg @Go.Vm.oneL.eq_1)))) (And.intro (And.intro (And.intro @Go.Vm.oneL.eq_2 (And.intro @Go.Vm.zeros.eq_1 @Go.Vm.zeros.eq_2)) (And.intro @Go.Vm.Heap.get.eq_1 (And.intro @Go.Vm.Heap.get.eq_2 @Go.Vm.Heap.set.eq_1))) (And.intro (And.intro @Go.Vm.Heap.set.eq_2 (And.intro @List.zipIdx_cons.{0} @List.zipIdx_nil.{0})) (And.intro (And.intro @List.map_cons.{0, 0} @List.map_nil.{0, 0}) (And.intro @decide_true @decide_false))))))) (And.intro (And.intro (And.intro (And.intro (And.intro (And.intro @Bool.false_eq_true (And.intro @beq_iff_eq.{0} @BEq.rfl.{0})) (And.intro @Option.bind_some.{0, 0} (And.intro @Option.bind_none.{0, 0} @Option.map_some.{0, 0}))) (And.intro (And.intro @Option.map_none.{0, 0} (And.intro @List.getElem?_cons_zero.{0} @List.getElem?_cons_succ.{0})) (And.intro @List.head?_cons.{0} (And.intro @and_self @and_true)))) (And.intro (And.intro (And.intro @true_and (And.intro @not_true_eq_false @not_false_eq_true)) (And.intro @Bool.not_true (And.intro @Bool.not_false @Bool.true_and))) (And.intro (And.intro @Bool.and_true (And.intro @Bool.false_and @Bool.and_false)) (And.intro @beq_true (And.intro @beq_false @Bool.beq_eq_decide_eq.{0}))))) (And.intro (And.intro (And.intro (And.intro @Go.Vm.cu_h0 (And.intro @Go.Vm.cu_h1 @Go.Vm.cu_h2)) (And.intro @Go.Vm.cu_h3 (And.intro @Go.Vm.cu_h4 @Go.Vm.cu_h5))) (And.intro (And.intro @Go.Vm.cu_h6 (And.intro @Go.Vm.cu_h7 @Go.Vm.cu_h8)) (And.intro @Go.Vm.cu_h9 (And.intro @Go.Vm.cu_h10 @Go.Vm.cu_g0)))) (And.intro (And.intro (And.intro @Go.Vm.cu_g1 (And.intro @Go.Vm.cu_g2 @Go.Vm.cu_g3)) (And.intro @Go.Vm.cu_g4 (And.intro @Go.Vm.cu_g5 @Go.Vm.cu_g6))) (And.intro (And.intro @Go.Vm.cu_g7 (And.intro @Go.Vm.cu_g8 @Go.Vm.cu_g9)) (And.intro (And.intro @Go.Vm.cu_g10 @Go.Vm.cu_t) (And.intro @Go.Vm.cu_l @Go.Vm.cu_len)))))) (And.intro (And.intro (And.intro (And.intro (And.intro @Go.Vm.cu_take (And.intro @Go.Vm.wc_take @Go.Vm.wc_len)) (And.intro @Go.Vm.wc_h5 (And.intro @Go.Vm.wc_h6 @Go.Vm.wc_h11))) (And.intro (And.intro @Go.Vm.wc_h12 (And.intro @List.drop_zero.{0} @List.drop_succ_cons.{0})) (And.intro @List.drop_nil.{0} (And.intro @List.drop_drop.{0} @List.take_succ_cons.{0})))) (And.intro (And.intro (And.intro @List.take_zero.{0} (And.intro @List.take_nil.{0} @List.length_cons.{0})) (And.intro @List.length_nil.{0} (And.intro @Nat.le_add_left @Nat.zero_le))) (And.intro (And.intro @bne_self_eq_false.{0} (And.intro @Bool.false_or @Bool.or_false)) (And.intro (And.intro @Bool.true_or @Bool.or_true) (And.intro @Option.getD_some.{0} @Option.getD_none.{0}))))) (And.intro (And.intro (And.intro (And.intro @ge_iff_le.{0} (And.intro @gt_iff_lt.{0} @Bool.true_eq_false)) (And.intro @decide_eq_true_eq (And.intro @List.cons_append.{0} @List.nil_append.{0}))) (And.intro (And.intro @List.append_nil.{0} (And.intro @Nat.le_refl @Int.natCast_nonneg)) (And.intro @List.getD_cons_zero.{0} (And.intro @List.getD_cons_succ.{0} @List.getD_nil.{0})))) (And.intro (And.intro (And.intro @Go.Vm.gomin (And.intro @Go.Vm.gomax @Go.Vm.cP.eq_1)) (And.intro @Go.Vm.cL.eq_1 (And.intro @Go.Vm.cW.eq_1 @Go.Vm.tg0.eq_1))) (And.intro (And.intro @List.contains_nil.{0} (And.intro @List.contains_cons.{0} @List.all_nil.{0})) (And.intro (And.intro @List.all_cons.{0} @Option.toList_some.{0}) (And.intro @Option.toList_none.{0} @List.length_map.{0, 0})))))))) := (And.intro (And.intro (And.intro (And.intro (And.intro (And.intro (And.intro @Go.Vm.W_seq (And.intro @Go.Vm.W_skip @Go.Vm.W_ret)) (And.intro @Go.Vm.W_exit (And.intro @Go.Vm.W_block @Go.Vm.W_label))) (And.intro (And.intro @Go.Vm.W_cond (And.intro @Go.Vm.W_region @Go.Vm.Wr_pl)) (And.intro @Go.Vm.cln.eq_1 (And.intro @Go.Vm.cln.eq_2 @Go.Vm.R_nil)))) (And.intro (And.intro (And.intro @Go.Vm.R_code (And.intro @Go.Vm.R_code_exit @Go.Vm.R_code_ret)) (And.intro @Go.Vm.R_wk (And.intro @Go.Vm.R_orc @Go.Vm.LQ_normal))) (And.intro (And.intro @Go.Vm.LQ_exit (And.intro @Go.Vm.LQ_ret @Go.Vm.R_blk)) (And.intro @Go.Vm.R_blk_exit (And.intro @Go.Vm.R_blk_ret @Go.Vm.RL_cons))))) (And.intro (And.intro (And.intro (And.intro @Go.Vm.RL_nil (And.intro @Go.Vm.RO_ok @Go.Vm.RO_call)) (And.intro @Go.Vm.RD_cons (And.intro @Go.Vm.RD_nil @Go.Vm.RDO_ok))) (And.intro (And.intro @Go.Vm.RDO_call (And.intro @Go.Vm.Br_true @Go.Vm.Br_false)) (And.intro @Go.Vm.fzn.eq_1 (And.intro @Go.Vm.fzn.eq_2 @Go.Vm.tgL.eq_1)))) (And.intro (And.intro (And.intro @Go.Vm.tgL.eq_2 (And.intro @Go.Vm.rdP.eq_1 @Go.Vm.rdP.eq_2)) (And.intro @Go.Vm.wrP.eq_1 (And.intro @Go.Vm.wrP.eq_2 @Go.Vm.dstOk.eq_1))) (And.intro (And.intro @Go.Vm.dstOk.eq_2 (And.intro @Go.Vm.evL.eq_1 @Go.Vm.evL.eq_2)) (And.intro (And.intro @Go.Vm.evP.eq_1 @Go.Vm.evP.eq_2) (And.intro @Go.Vm.Env.get.eq_1 @Go.Vm.Env.get.eq_2)))))) (And.intro (And.intro (And.intro (And.intro (And.intro @Go.Vm.Env.put.eq_1 (And.intro @Go.Vm.Env.put.eq_2 @Go.Vm.on_int)) (And.intro @Go.Vm.on_bool (And.intro @Go.Vm.on_nilp @Go.Vm.on_rop))) (And.intro (And.intro @Go.Vm.on_ptr (And.intro @Go.Vm.on_sl0 @Go.Vm.on_ro)) (And.intro @Go.Vm.on_own (And.intro @Go.Vm.on_fn @Go.Vm.on_nilfn)))) (And.intro (And.intro (And.intro @Go.Vm.on_mp (And.intro @Go.Vm.on_vI @Go.Vm.on_vR)) (And.intro @Go.Vm.on_vD (And.intro @Go.Vm.on_vS @Go.Vm.on_vB))) (And.intro (And.intro @Go.Vm.ce_int (And.intro @Go.Vm.ce_bool @Go.Vm.ce_nilp)) (And.intro @Go.Vm.ce_rop (And.intro @Go.Vm.ce_ptr @Go.Vm.ce_sl0))))) (And.intro (And.intro (And.intro (And.intro @Go.Vm.ce_ro (And.intro @Go.Vm.ce_own @Go.Vm.ce_fn)) (And.intro @Go.Vm.ce_nilfn (And.intro @Go.Vm.ce_mp @Go.Vm.ce_vI))) (And.intro (And.intro @Go.Vm.ce_vR (And.intro @Go.Vm.ce_vD @Go.Vm.ce_vS)) (And.intro @Go.Vm.ce_vB (And.intro @Go.Vm.ce_agg @Go.Vm.oneL.eq_1)))) (And.intro (And.intro (And.intro @Go.Vm.oneL.eq_2 (And.intro @Go.Vm.zeros.eq_1 @Go.Vm.zeros.eq_2)) (And.intro @Go.Vm.Heap.get.eq_1 (And.intro @Go.Vm.Heap.get.eq_2 @Go.Vm.Heap.set.eq_1))) (And.intro (And.intro @Go.Vm.Heap.set.eq_2 (And.intro @List.zipIdx_cons.{0} @List.zipIdx_nil.{0})) (And.intro (And.intro @List.map_cons.{0, 0} @List.map_nil.{0, 0}) (And.intro @decide_true @decide_false))))))) (And.intro (And.intro (And.intro (And.intro (And.intro (And.intro @Bool.false_eq_true (And.intro @beq_iff_eq.{0} @BEq.rfl.{0})) (And.intro @Option.bind_some.{0, 0} (And.intro @Option.bind_none.{0, 0} @Option.map_some.{0, 0}))) (And.intro (And.intro @Option.map_none.{0, 0} (And.intro @List.getElem?_cons_zero.{0} @List.getElem?_cons_succ.{0})) (And.intro @List.head?_cons.{0} (And.intro @and_self @and_true)))) (And.intro (And.intro (And.intro @true_and (And.intro @not_true_eq_false @not_false_eq_true)) (And.intro @Bool.not_true (And.intro @Bool.not_false @Bool.true_and))) (And.intro (And.intro @Bool.and_true (And.intro @Bool.false_and @Bool.and_false)) (And.intro @beq_true (And.intro @beq_false @Bool.beq_eq_decide_eq.{0}))))) (And.intro (And.intro (And.intro (And.intro @Go.Vm.cu_h0 (And.intro @Go.Vm.cu_h1 @Go.Vm.cu_h2)) (And.intro @Go.Vm.cu_h3 (And.intro @Go.Vm.cu_h4 @Go.Vm.cu_h5))) (And.intro (And.intro @Go.Vm.cu_h6 (And.intro @Go.Vm.cu_h7 @Go.Vm.cu_h8)) (And.intro @Go.Vm.cu_h9 (And.intro @Go.Vm.cu_h10 @Go.Vm.cu_g0)))) (And.intro (And.intro (And.intro @Go.Vm.cu_g1 (And.intro @Go.Vm.cu_g2 @Go.Vm.cu_g3)) (And.intro @Go.Vm.cu_g4 (And.intro @Go.Vm.cu_g5 @Go.Vm.cu_g6))) (And.intro (And.intro @Go.Vm.cu_g7 (And.intro @Go.Vm.cu_g8 @Go.Vm.cu_g9)) (And.intro (And.intro @Go.Vm.cu_g10 @Go.Vm.cu_t) (And.intro @Go.Vm.cu_l @Go.Vm.cu_len)))))) (And.intro (And.intro (And.intro (And.intro (And.intro @Go.Vm.cu_take (And.intro @Go.Vm.wc_take @Go.Vm.wc_len)) (And.intro @Go.Vm.wc_h5 (And.intro @Go.Vm.wc_h6 @Go.Vm.wc_h11))) (And.intro (And.intro @Go.Vm.wc_h12 (And.intro @List.drop_zero.{0} @List.drop_succ_cons.{0})) (And.intro @List.drop_nil.{0} (And.intro @List.drop_drop.{0} @List.take_succ_cons.{0})))) (And.intro (And.intro (And.intro @List.take_zero.{0} (And.intro @List.take_nil.{0} @List.length_cons.{0})) (And.intro @List.length_nil.{0} (And.intro @Nat.le_add_left @Nat.zero_le))) (And.intro (And.intro @bne_self_eq_false.{0} (And.intro @Bool.false_or @Bool.or_false)) (And.intro (And.intro @Bool.true_or @Bool.or_true) (And.intro @Option.getD_some.{0} @Option.getD_none.{0}))))) (And.intro (And.intro (And.intro (And.intro @ge_iff_le.{0} (And.intro @gt_iff_lt.{0} @Bool.true_eq_false)) (And.intro @decide_eq_true_eq (And.intro @List.cons_append.{0} @List.nil_append.{0}))) (And.intro (And.intro @List.append_nil.{0} (And.intro @Nat.le_refl @Int.natCast_nonneg)) (And.intro @List.getD_cons_zero.{0} (And.intro @List.getD_cons_succ.{0} @List.getD_nil.{0})))) (And.intro (And.intro (And.intro @Go.Vm.gomin (And.intro @Go.Vm.gomax @Go.Vm.cP.eq_1)) (And.intro @Go.Vm.cL.eq_1 (And.intro @Go.Vm.cW.eq_1 @Go.Vm.tg0.eq_1))) (And.intro (And.intro @List.contains_nil.{0} (And.intro @List.contains_cons.{0} @List.all_nil.{0})) (And.intro (And.intro @List.all_cons.{0} @Option.toList_some.{0}) (And.intro @Option.toList_none.{0} @List.length_map.{0, 0}))))))))
end Go.Vm
set_option linter.unusedVariables false
set_option linter.unusedSimpArgs false
set_option maxRecDepth 100000
namespace Go.Vm
open Go.Proofs
def sIn (a b c : Int) : Bool := decide (b ≤ a) && decide (a ≤ c)
theorem c_within (a b c : Int) : Pu Try.prog (.fn 103 [] []) [vi a, vi b, vi c] (.bool (sIn a b c)) := by
  refine Ev.fn Try.func103 rfl rfl (Fn.body tabOk Try.func103 rfl (Nat.le_of_ble_eq_true rfl) (Ks.ok (fz := (fzn [])) (cl := (cln [])) tabOk mixed ?_))
  generalize hQ : FnPost tt Try.f103 _ _ = Q
  simp only [Try.f103, List.nil_append, List.append_nil, List.cons_append, argsEnv, Nat.reduceAdd]
  by_cases h : b ≤ a
  · simp only [gos, if_true, if_false, ne_eq, eq_self, Nat.reduceLT, Nat.reduceEqDiff, Nat.reduceAdd, Nat.reduceMul, Nat.reduceLeDiff, Nat.reduceBEq, reduceCtorEq, reduceIte, Array.toList, ↓reduceIte, tt, vgo, vout, vgoD, voutD, vclsOk, vids, mayWrite, V.ids, V.mids, vguard, callOf, vop, ev, cv, vbin, vint, isShift, isNilConst, vnil, isNilSlice, vload, vlen, newRow, vfill, vslice, entOf, vappend, srcOf, vcopy, vlookup, vupdate, mapOk, keyOf, intsOf, clsAt, h]
    subst hQ
    exact FnPost.plain trivial (fun h2 e => by first | rfl | (simp only [Try.f103, vres, vresL, vres1, e _, gos, if_true, if_false, ne_eq, eq_self, Nat.reduceLT, Nat.reduceEqDiff, Nat.reduceAdd, Nat.reduceMul, Nat.reduceLeDiff, Nat.reduceBEq, reduceCtorEq, reduceIte, Array.toList, ↓reduceIte, tt, vgo, vout, vgoD, voutD, vclsOk, vids, mayWrite, V.ids, V.mids, vguard, callOf, vop, ev, cv, vbin, vint, isShift, isNilConst, vnil, isNilSlice, vload, vlen, newRow, vfill, vslice, entOf, vappend, srcOf, vcopy, vlookup, vupdate, mapOk, keyOf, intsOf, clsAt]; try rfl)) (WkV.pure (by simp only [V.into, intoL, cB_into, vB_into, cI_into, cR_into, cD_into, cS_into, vS_into, vI_into, vR_into, vD_into, cu_into, Bool.true_and, Bool.and_true])) ⟨by simp [sIn, h], rfl⟩
  · simp only [gos, if_true, if_false, ne_eq, eq_self, Nat.reduceLT, Nat.reduceEqDiff, Nat.reduceAdd, Nat.reduceMul, Nat.reduceLeDiff, Nat.reduceBEq, reduceCtorEq, reduceIte, Array.toList, ↓reduceIte, tt, vgo, vout, vgoD, voutD, vclsOk, vids, mayWrite, V.ids, V.mids, vguard, callOf, vop, ev, cv, vbin, vint, isShift, isNilConst, vnil, isNilSlice, vload, vlen, newRow, vfill, vslice, entOf, vappend, srcOf, vcopy, vlookup, vupdate, mapOk, keyOf, intsOf, clsAt, h]
    subst hQ
    exact FnPost.plain trivial (fun h2 e => by first | rfl | (simp only [Try.f103, vres, vresL, vres1, e _, gos, if_true, if_false, ne_eq, eq_self, Nat.reduceLT, Nat.reduceEqDiff, Nat.reduceAdd, Nat.reduceMul, Nat.reduceLeDiff, Nat.reduceBEq, reduceCtorEq, reduceIte, Array.toList, ↓reduceIte, tt, vgo, vout, vgoD, voutD, vclsOk, vids, mayWrite, V.ids, V.mids, vguard, callOf, vop, ev, cv, vbin, vint, isShift, isNilConst, vnil, isNilSlice, vload, vlen, newRow, vfill, vslice, entOf, vappend, srcOf, vcopy, vlookup, vupdate, mapOk, keyOf, intsOf, clsAt]; try rfl)) (WkV.pure (by simp only [V.into, intoL, cB_into, vB_into, cI_into, cR_into, cD_into, cS_into, vS_into, vI_into, vR_into, vD_into, cu_into, Bool.true_and, Bool.and_true])) ⟨by simp [sIn, h], rfl⟩
theorem c_has (r : Rg) (n : Int) : Pu Try.prog (.fn 124 [] []) [.agg [vi r.lo, vi r.hi], vi n] (.bool (sIn n r.lo r.hi)) := by
  refine Ev.fn Try.func124 rfl rfl (Fn.body tabOk Try.func124 rfl (Nat.le_of_ble_eq_true rfl) (Ks.ok (fz := (fzn [])) (cl := (cln [])) tabOk mixed ?_))
  generalize hQ : FnPost tt Try.f124 _ _ = Q
  simp only [Try.f124, List.nil_append, List.append_nil, List.cons_append, argsEnv, Nat.reduceAdd]
  simp only [gos, if_true, if_false, ne_eq, eq_self, Nat.reduceLT, Nat.reduceEqDiff, Nat.reduceAdd, Nat.reduceMul, Nat.reduceLeDiff, Nat.reduceBEq, reduceCtorEq, reduceIte, Array.toList, ↓reduceIte, tt, vgo, vout, vgoD, voutD, vclsOk, vids, mayWrite, V.ids, V.mids, vguard, callOf, vop, ev, cv, vbin, vint, isShift, isNilConst, vnil, isNilSlice, vload, vlen, newRow, vfill, vslice, entOf, vappend, srcOf, vcopy, vlookup, vupdate, mapOk, keyOf, intsOf, clsAt]
  refine Cl.pu (c_within _ _ _) ?_
  simp only [gos, if_true, if_false, ne_eq, eq_self, Nat.reduceLT, Nat.reduceEqDiff, Nat.reduceAdd, Nat.reduceMul, Nat.reduceLeDiff, Nat.reduceBEq, reduceCtorEq, reduceIte, Array.toList, ↓reduceIte, tt, vgo, vout, vgoD, voutD, vclsOk, vids, mayWrite, V.ids, V.mids, vguard, callOf, vop, ev, cv, vbin, vint, isShift, isNilConst, vnil, isNilSlice, vload, vlen, newRow, vfill, vslice, entOf, vappend, srcOf, vcopy, vlookup, vupdate, mapOk, keyOf, intsOf, clsAt]
  subst hQ
  exact FnPost.plain trivial (fun h2 e => by first | rfl | (simp only [Try.f124, vres, vresL, vres1, e _, gos, if_true, if_false, ne_eq, eq_self, Nat.reduceLT, Nat.reduceEqDiff, Nat.reduceAdd, Nat.reduceMul, Nat.reduceLeDiff, Nat.reduceBEq, reduceCtorEq, reduceIte, Array.toList, ↓reduceIte, tt, vgo, vout, vgoD, voutD, vclsOk, vids, mayWrite, V.ids, V.mids, vguard, callOf, vop, ev, cv, vbin, vint, isShift, isNilConst, vnil, isNilSlice, vload, vlen, newRow, vfill, vslice, entOf, vappend, srcOf, vcopy, vlookup, vupdate, mapOk, keyOf, intsOf, clsAt]; try rfl)) (WkV.pure (by simp only [V.into, intoL, cB_into, vB_into, cI_into, cR_into, cD_into, cS_into, vS_into, vI_into, vR_into, vD_into, cu_into, Bool.true_and, Bool.and_true])) ⟨rfl, rfl⟩
def sInside (r : Rg) (most : Int) : Bool := decide (0 ≤ r.lo) && decide (r.lo ≤ r.hi) && decide (r.hi ≤ most)
theorem c_inside (r : Rg) (n : Int) : Pu Try.prog (.fn 105 [] []) [.agg [vi r.lo, vi r.hi], vi n] (.bool (sInside r n)) := by
  refine Ev.fn Try.func105 rfl rfl (Fn.body tabOk Try.func105 rfl (Nat.le_of_ble_eq_true rfl) (Ks.ok (fz := (fzn [])) (cl := (cln [])) tabOk mixed ?_))
  generalize hQ : FnPost tt Try.f105 _ _ = Q
  simp only [Try.f105, List.nil_append, List.append_nil, List.cons_append, argsEnv, Nat.reduceAdd]
  by_cases h : 0 ≤ r.lo
  · by_cases h2 : r.lo ≤ r.hi
    · simp only [gos, if_true, if_false, ne_eq, eq_self, Nat.reduceLT, Nat.reduceEqDiff, Nat.reduceAdd, Nat.reduceMul, Nat.reduceLeDiff, Nat.reduceBEq, reduceCtorEq, reduceIte, Array.toList, ↓reduceIte, tt, vgo, vout, vgoD, voutD, vclsOk, vids, mayWrite, V.ids, V.mids, vguard, callOf, vop, ev, cv, vbin, vint, isShift, isNilConst, vnil, isNilSlice, vload, vlen, newRow, vfill, vslice, entOf, vappend, srcOf, vcopy, vlookup, vupdate, mapOk, keyOf, intsOf, clsAt, h, h2]
      subst hQ
      exact FnPost.plain trivial (fun h2 e => by first | rfl | (simp only [Try.f105, vres, vresL, vres1, e _, gos, if_true, if_false, ne_eq, eq_self, Nat.reduceLT, Nat.reduceEqDiff, Nat.reduceAdd, Nat.reduceMul, Nat.reduceLeDiff, Nat.reduceBEq, reduceCtorEq, reduceIte, Array.toList, ↓reduceIte, tt, vgo, vout, vgoD, voutD, vclsOk, vids, mayWrite, V.ids, V.mids, vguard, callOf, vop, ev, cv, vbin, vint, isShift, isNilConst, vnil, isNilSlice, vload, vlen, newRow, vfill, vslice, entOf, vappend, srcOf, vcopy, vlookup, vupdate, mapOk, keyOf, intsOf, clsAt]; try rfl)) (WkV.pure (by simp only [V.into, intoL, cB_into, vB_into, cI_into, cR_into, cD_into, cS_into, vS_into, vI_into, vR_into, vD_into, cu_into, Bool.true_and, Bool.and_true])) ⟨by simp [sInside, h, h2], rfl⟩
    · simp only [gos, if_true, if_false, ne_eq, eq_self, Nat.reduceLT, Nat.reduceEqDiff, Nat.reduceAdd, Nat.reduceMul, Nat.reduceLeDiff, Nat.reduceBEq, reduceCtorEq, reduceIte, Array.toList, ↓reduceIte, tt, vgo, vout, vgoD, voutD, vclsOk, vids, mayWrite, V.ids, V.mids, vguard, callOf, vop, ev, cv, vbin, vint, isShift, isNilConst, vnil, isNilSlice, vload, vlen, newRow, vfill, vslice, entOf, vappend, srcOf, vcopy, vlookup, vupdate, mapOk, keyOf, intsOf, clsAt, h, h2]
      subst hQ
      exact FnPost.plain trivial (fun h2 e => by first | rfl | (simp only [Try.f105, vres, vresL, vres1, e _, gos, if_true, if_false, ne_eq, eq_self, Nat.reduceLT, Nat.reduceEqDiff, Nat.reduceAdd, Nat.reduceMul, Nat.reduceLeDiff, Nat.reduceBEq, reduceCtorEq, reduceIte, Array.toList, ↓reduceIte, tt, vgo, vout, vgoD, voutD, vclsOk, vids, mayWrite, V.ids, V.mids, vguard, callOf, vop, ev, cv, vbin, vint, isShift, isNilConst, vnil, isNilSlice, vload, vlen, newRow, vfill, vslice, entOf, vappend, srcOf, vcopy, vlookup, vupdate, mapOk, keyOf, intsOf, clsAt]; try rfl)) (WkV.pure (by simp only [V.into, intoL, cB_into, vB_into, cI_into, cR_into, cD_into, cS_into, vS_into, vI_into, vR_into, vD_into, cu_into, Bool.true_and, Bool.and_true])) ⟨by simp [sInside, h, h2], rfl⟩
  · simp only [gos, if_true, if_false, ne_eq, eq_self, Nat.reduceLT, Nat.reduceEqDiff, Nat.reduceAdd, Nat.reduceMul, Nat.reduceLeDiff, Nat.reduceBEq, reduceCtorEq, reduceIte, Array.toList, ↓reduceIte, tt, vgo, vout, vgoD, voutD, vclsOk, vids, mayWrite, V.ids, V.mids, vguard, callOf, vop, ev, cv, vbin, vint, isShift, isNilConst, vnil, isNilSlice, vload, vlen, newRow, vfill, vslice, entOf, vappend, srcOf, vcopy, vlookup, vupdate, mapOk, keyOf, intsOf, clsAt, h]
    subst hQ
    exact FnPost.plain trivial (fun h2 e => by first | rfl | (simp only [Try.f105, vres, vresL, vres1, e _, gos, if_true, if_false, ne_eq, eq_self, Nat.reduceLT, Nat.reduceEqDiff, Nat.reduceAdd, Nat.reduceMul, Nat.reduceLeDiff, Nat.reduceBEq, reduceCtorEq, reduceIte, Array.toList, ↓reduceIte, tt, vgo, vout, vgoD, voutD, vclsOk, vids, mayWrite, V.ids, V.mids, vguard, callOf, vop, ev, cv, vbin, vint, isShift, isNilConst, vnil, isNilSlice, vload, vlen, newRow, vfill, vslice, entOf, vappend, srcOf, vcopy, vlookup, vupdate, mapOk, keyOf, intsOf, clsAt]; try rfl)) (WkV.pure (by simp only [V.into, intoL, cB_into, vB_into, cI_into, cR_into, cD_into, cS_into, vS_into, vI_into, vR_into, vD_into, cu_into, Bool.true_and, Bool.and_true])) ⟨by simp [sInside, h], rfl⟩
def sSize (r : Rg) : Int := r.hi - r.lo + 1
theorem c_size (r : Rg) (h1 : I64 (r.hi - r.lo)) (h2 : I64 (sSize r)) : Pu Try.prog (.fn 109 [] []) [.agg [vi r.lo, vi r.hi]] (vi (sSize r)) := by
  refine Ev.fn Try.func109 rfl rfl (Fn.body tabOk Try.func109 rfl (Nat.le_of_ble_eq_true rfl) (Ks.ok (fz := (fzn [])) (cl := (cln [])) tabOk mixed ?_))
  generalize hQ : FnPost tt Try.f109 _ _ = Q
  simp only [Try.f109, List.nil_append, List.append_nil, List.cons_append, argsEnv, Nat.reduceAdd]
  simp only [gos, if_true, if_false, ne_eq, eq_self, Nat.reduceLT, Nat.reduceEqDiff, Nat.reduceAdd, Nat.reduceMul, Nat.reduceLeDiff, Nat.reduceBEq, reduceCtorEq, reduceIte, Array.toList, ↓reduceIte, tt, vgo, vout, vgoD, voutD, vclsOk, vids, mayWrite, V.ids, V.mids, vguard, callOf, vop, ev, cv, vbin, vint, isShift, isNilConst, vnil, isNilSlice, vload, vlen, newRow, vfill, vslice, entOf, vappend, srcOf, vcopy, vlookup, vupdate, mapOk, keyOf, intsOf, clsAt]
  subst hQ
  exact FnPost.plain trivial (fun h2 e => by first | rfl | (simp only [Try.f109, vres, vresL, vres1, e _, gos, if_true, if_false, ne_eq, eq_self, Nat.reduceLT, Nat.reduceEqDiff, Nat.reduceAdd, Nat.reduceMul, Nat.reduceLeDiff, Nat.reduceBEq, reduceCtorEq, reduceIte, Array.toList, ↓reduceIte, tt, vgo, vout, vgoD, voutD, vclsOk, vids, mayWrite, V.ids, V.mids, vguard, callOf, vop, ev, cv, vbin, vint, isShift, isNilConst, vnil, isNilSlice, vload, vlen, newRow, vfill, vslice, entOf, vappend, srcOf, vcopy, vlookup, vupdate, mapOk, keyOf, intsOf, clsAt]; try rfl)) (WkV.pure (by simp only [V.into, intoL, cB_into, vB_into, cI_into, cR_into, cD_into, cS_into, vS_into, vI_into, vR_into, vD_into, cu_into, Bool.true_and, Bool.and_true])) ⟨by show vi (IntKind.i64.wrap (IntKind.i64.wrap (r.hi - r.lo) + 1)) = _; rw [i64_in h1.1 h1.2]; exact congrArg vi (i64_in h2.1 h2.2), rfl⟩
def sMin (l : List Int) : Int := match l with
  | [] => 0
  | x :: l => l.foldl min x
theorem sMin_succ {l : List Int} {i : Nat} (h1 : 1 ≤ i) (hi : (i : Int) < l.length) : sMin (l.take (i + 1)) = min (sMin (l.take i)) (gi l i) := by
  have hi' : i < l.length := by omega
  have e : l.take (i + 1) = l.take i ++ [gi l i] := by
    rw [List.take_add_one, List.getElem?_eq_getElem hi', gi, Int.toNat_natCast, List.getD_eq_getElem?_getD, List.getElem?_eq_getElem hi']; rfl
  rw [e]
  cases h : l.take i with
  | nil => 
    have := congrArg List.length h
    rw [List.length_take] at this
    have this : min i l.length = 0 := this
    omega
  | cons x r => simp [sMin]
theorem c_Min (l : List Int) (h0 : 1 ≤ (l.length : Int)) (hl : (l.length : Int) ≤ 1000000) : Pu Try.prog (.fn 131 [] []) [vI l] (vi (sMin l)) := by
  refine Ev.fn Try.func131 rfl rfl (Fn.body tabOk Try.func131 rfl (Nat.le_of_ble_eq_true rfl) (Ks.ok (fz := (fzn [])) (cl := (cln [])) tabOk mixed ?_))
  generalize hQ : FnPost tt Try.f131 _ _ = Q
  simp only [Try.f131, List.nil_append, List.append_nil, List.cons_append, argsEnv, Nat.reduceAdd]
  have h1 : ¬ ((l.length : Int) < 1) := by omega
  have h2 : (0 : Int) < l.length := by omega
  have h3 := cI_at (l := l) (n := 0) (by omega) h2
  simp only [gos, if_true, if_false, ne_eq, eq_self, Nat.reduceLT, Nat.reduceEqDiff, Nat.reduceAdd, Nat.reduceMul, Nat.reduceLeDiff, Nat.reduceBEq, reduceCtorEq, reduceIte, Array.toList, ↓reduceIte, tt, vgo, vout, vgoD, voutD, vclsOk, vids, mayWrite, V.ids, V.mids, vguard, callOf, vop, ev, cv, vbin, vint, isShift, isNilConst, vnil, isNilSlice, vload, vlen, newRow, vfill, vslice, entOf, vappend, srcOf, vcopy, vlookup, vupdate, mapOk, keyOf, intsOf, clsAt, vI, h1, h2, h3, Int.le_refl]
  refine W.loop tabOk mixed (fun i : Nat => ([(0, vI l), (3, vi (sMin (l.take i))), (4, vi i)], [])) (fun i => l.length - i) (fun i => 1 ≤ i ∧ i ≤ l.length) 1 ⟨by omega, by omega⟩ (Wk.env (by
    have : sMin (l.take 1) = gi l 0 := by
      cases l with
      | nil => simp at h0
      | cons x r => simp [sMin, gi]
    simp [subE, Env.get, vI, this])) ?_
  rintro i ⟨hi1, hi⟩
  by_cases hil : (i : Int) < l.length
  · simp only [gos, if_true, if_false, ne_eq, eq_self, Nat.reduceLT, Nat.reduceEqDiff, Nat.reduceAdd, Nat.reduceMul, Nat.reduceLeDiff, Nat.reduceBEq, reduceCtorEq, reduceIte, Array.toList, ↓reduceIte, tt, vgo, vout, vgoD, voutD, vclsOk, vids, mayWrite, V.ids, V.mids, vguard, callOf, vop, ev, cv, vbin, vint, isShift, isNilConst, vnil, isNilSlice, vload, vlen, newRow, vfill, vslice, entOf, vappend, srcOf, vcopy, vlookup, vupdate, mapOk, keyOf, intsOf, clsAt, vI, hil, Int.natCast_nonneg, cI_at (Int.natCast_nonneg i) hil]
    exact Nx.mk (i + 1) (show l.length - (i + 1) < l.length - i by omega) ⟨by omega, by omega⟩ (Wk.env (by simp [subE, Env.get, vI, i64_succ (show (i : Int) < 9223372036854775807 by omega), sMin_succ hi1 hil]))
  · simp only [gos, if_true, if_false, ne_eq, eq_self, Nat.reduceLT, Nat.reduceEqDiff, Nat.reduceAdd, Nat.reduceMul, Nat.reduceLeDiff, Nat.reduceBEq, reduceCtorEq, reduceIte, Array.toList, ↓reduceIte, tt, vgo, vout, vgoD, voutD, vclsOk, vids, mayWrite, V.ids, V.mids, vguard, callOf, vop, ev, cv, vbin, vint, isShift, isNilConst, vnil, isNilSlice, vload, vlen, newRow, vfill, vslice, entOf, vappend, srcOf, vcopy, vlookup, vupdate, mapOk, keyOf, intsOf, clsAt, vI, hil]
    subst hQ
    exact FnPost.plain trivial (fun h2 e => by first | rfl | (simp only [Try.f131, vres, vresL, vres1, e _, gos, if_true, if_false, ne_eq, eq_self, Nat.reduceLT, Nat.reduceEqDiff, Nat.reduceAdd, Nat.reduceMul, Nat.reduceLeDiff, Nat.reduceBEq, reduceCtorEq, reduceIte, Array.toList, ↓reduceIte, tt, vgo, vout, vgoD, voutD, vclsOk, vids, mayWrite, V.ids, V.mids, vguard, callOf, vop, ev, cv, vbin, vint, isShift, isNilConst, vnil, isNilSlice, vload, vlen, newRow, vfill, vslice, entOf, vappend, srcOf, vcopy, vlookup, vupdate, mapOk, keyOf, intsOf, clsAt]; try rfl)) (WkV.pure (by simp only [V.into, intoL, cB_into, vB_into, cI_into, cR_into, cD_into, cS_into, vS_into, vI_into, vR_into, vD_into, cu_into, Bool.true_and, Bool.and_true])) ⟨by rw [List.take_of_length_le (by omega)], rfl⟩
theorem c_minimum (l : List Int) (h0 : 1 ≤ (l.length : Int)) (hl : (l.length : Int) ≤ 1000000) : Pu Try.prog (.fn 110 [] []) [vI l] (vi (sMin l)) := by
  refine Ev.fn Try.func110 rfl rfl (Fn.body tabOk Try.func110 rfl (Nat.le_of_ble_eq_true rfl) (Ks.ok (fz := (fzn [])) (cl := (cln [])) tabOk mixed ?_))
  generalize hQ : FnPost tt Try.f110 _ _ = Q
  simp only [Try.f110, List.nil_append, List.append_nil, List.cons_append, argsEnv, Nat.reduceAdd]
  simp only [gos, if_true, if_false, ne_eq, eq_self, Nat.reduceLT, Nat.reduceEqDiff, Nat.reduceAdd, Nat.reduceMul, Nat.reduceLeDiff, Nat.reduceBEq, reduceCtorEq, reduceIte, Array.toList, ↓reduceIte, tt, vgo, vout, vgoD, voutD, vclsOk, vids, mayWrite, V.ids, V.mids, vguard, callOf, vop, ev, cv, vbin, vint, isShift, isNilConst, vnil, isNilSlice, vload, vlen, newRow, vfill, vslice, entOf, vappend, srcOf, vcopy, vlookup, vupdate, mapOk, keyOf, intsOf, clsAt]
  refine Cl.pu (c_Min l h0 hl) ?_ rfl (by simp only [V.into, intoL, cB_into, vB_into, cI_into, cR_into, cD_into, cS_into, vS_into, vI_into, vR_into, vD_into, cu_into, Bool.true_and, Bool.and_true])
  simp only [gos, if_true, if_false, ne_eq, eq_self, Nat.reduceLT, Nat.reduceEqDiff, Nat.reduceAdd, Nat.reduceMul, Nat.reduceLeDiff, Nat.reduceBEq, reduceCtorEq, reduceIte, Array.toList, ↓reduceIte, tt, vgo, vout, vgoD, voutD, vclsOk, vids, mayWrite, V.ids, V.mids, vguard, callOf, vop, ev, cv, vbin, vint, isShift, isNilConst, vnil, isNilSlice, vload, vlen, newRow, vfill, vslice, entOf, vappend, srcOf, vcopy, vlookup, vupdate, mapOk, keyOf, intsOf, clsAt]
  subst hQ
  exact FnPost.plain trivial (fun h2 e => by first | rfl | (simp only [Try.f110, vres, vresL, vres1, e _, gos, if_true, if_false, ne_eq, eq_self, Nat.reduceLT, Nat.reduceEqDiff, Nat.reduceAdd, Nat.reduceMul, Nat.reduceLeDiff, Nat.reduceBEq, reduceCtorEq, reduceIte, Array.toList, ↓reduceIte, tt, vgo, vout, vgoD, voutD, vclsOk, vids, mayWrite, V.ids, V.mids, vguard, callOf, vop, ev, cv, vbin, vint, isShift, isNilConst, vnil, isNilSlice, vload, vlen, newRow, vfill, vslice, entOf, vappend, srcOf, vcopy, vlookup, vupdate, mapOk, keyOf, intsOf, clsAt]; try rfl)) (WkV.pure (by simp only [V.into, intoL, cB_into, vB_into, cI_into, cR_into, cD_into, cS_into, vS_into, vI_into, vR_into, vD_into, cu_into, Bool.true_and, Bool.and_true])) ⟨rfl, rfl⟩
theorem c_min2 (a b : Int) : Pu Try.prog (.fn 110 [] []) [.ro 2 [vi a, vi b]] (vi (min a b)) := c_minimum [a, b] (by simp) (by simp)
def sWider (r : Rg) (n : Int) : Rg := ⟨min r.lo n, max r.hi n⟩
theorem c_wider (r : Rg) (n : Int) : Pu Try.prog (.fn 120 [] []) [.agg [vi r.lo, vi r.hi], vi n] (.agg [vi (sWider r n).lo, vi (sWider r n).hi]) := by
  refine Ev.fn Try.func120 rfl rfl (Fn.body tabOk Try.func120 rfl (Nat.le_of_ble_eq_true rfl) (Ks.ok (fz := (fzn [4])) (cl := (cln [(1, .d tg0 [cP, cP, cP, cP, cP, cP, cP, cP, cP, cP, cW])])) tabOk mixed ?_))
  generalize hQ : FnPost tt Try.f120 _ _ = Q
  simp only [Try.f120, List.nil_append, List.append_nil, List.cons_append, argsEnv, Nat.reduceAdd]
  simp only [gos, if_true, if_false, ne_eq, eq_self, Nat.reduceLT, Nat.reduceEqDiff, Nat.reduceAdd, Nat.reduceMul, Nat.reduceLeDiff, Nat.reduceBEq, reduceCtorEq, reduceIte, Array.toList, ↓reduceIte, tt, vgo, vout, vgoD, voutD, vclsOk, vids, mayWrite, V.ids, V.mids, vguard, callOf, vop, ev, cv, vbin, vint, isShift, isNilConst, vnil, isNilSlice, vload, vlen, newRow, vfill, vslice, entOf, vappend, srcOf, vcopy, vlookup, vupdate, mapOk, keyOf, intsOf, clsAt]
  refine Wr.draw (by kernel_rfl) ?_
  simp only [gos, if_true, if_false, ne_eq, eq_self, Nat.reduceLT, Nat.reduceEqDiff, Nat.reduceAdd, Nat.reduceMul, Nat.reduceLeDiff, Nat.reduceBEq, reduceCtorEq, reduceIte, Array.toList, ↓reduceIte, tt, vgo, vout, vgoD, voutD, vclsOk, vids, mayWrite, V.ids, V.mids, vguard, callOf, vop, ev, cv, vbin, vint, isShift, isNilConst, vnil, isNilSlice, vload, vlen, newRow, vfill, vslice, entOf, vappend, srcOf, vcopy, vlookup, vupdate, mapOk, keyOf, intsOf, clsAt]
  refine CD.pu (c_min2 _ _) ?_
  simp only [gos, if_true, if_false, ne_eq, eq_self, Nat.reduceLT, Nat.reduceEqDiff, Nat.reduceAdd, Nat.reduceMul, Nat.reduceLeDiff, Nat.reduceBEq, reduceCtorEq, reduceIte, Array.toList, ↓reduceIte, tt, vgo, vout, vgoD, voutD, vclsOk, vids, mayWrite, V.ids, V.mids, vguard, callOf, vop, ev, cv, vbin, vint, isShift, isNilConst, vnil, isNilSlice, vload, vlen, newRow, vfill, vslice, entOf, vappend, srcOf, vcopy, vlookup, vupdate, mapOk, keyOf, intsOf, clsAt]
  subst hQ
  exact FnPost.plain trivial (fun h2 e => by first | rfl | (simp only [Try.f120, vres, vresL, vres1, e _, gos, if_true, if_false, ne_eq, eq_self, Nat.reduceLT, Nat.reduceEqDiff, Nat.reduceAdd, Nat.reduceMul, Nat.reduceLeDiff, Nat.reduceBEq, reduceCtorEq, reduceIte, Array.toList, ↓reduceIte, tt, vgo, vout, vgoD, voutD, vclsOk, vids, mayWrite, V.ids, V.mids, vguard, callOf, vop, ev, cv, vbin, vint, isShift, isNilConst, vnil, isNilSlice, vload, vlen, newRow, vfill, vslice, entOf, vappend, srcOf, vcopy, vlookup, vupdate, mapOk, keyOf, intsOf, clsAt]; try rfl)) (WkV.pure (by simp only [V.into, intoL, cB_into, vB_into, cI_into, cR_into, cD_into, cS_into, vS_into, vI_into, vR_into, vD_into, cu_into, Bool.true_and, Bool.and_true])) ⟨rfl, rfl⟩
theorem c_hour (c : Cu) (n : Int) : Pu Try.prog (.fn 87 [] []) [.agg c.cs, vi n] (.bool (sIn n 0 c.last)) := by
  refine Ev.fn Try.func87 rfl rfl (Fn.body tabOk Try.func87 rfl (Nat.le_of_ble_eq_true rfl) (Ks.ok (fz := (fzn [])) (cl := (cln [])) tabOk mixed ?_))
  generalize hQ : FnPost tt Try.f87 _ _ = Q
  simp only [Try.f87, List.nil_append, List.append_nil, List.cons_append, argsEnv, Nat.reduceAdd]
  simp only [gos, if_true, if_false, ne_eq, eq_self, Nat.reduceLT, Nat.reduceEqDiff, Nat.reduceAdd, Nat.reduceMul, Nat.reduceLeDiff, Nat.reduceBEq, reduceCtorEq, reduceIte, Array.toList, ↓reduceIte, tt, vgo, vout, vgoD, voutD, vclsOk, vids, mayWrite, V.ids, V.mids, vguard, callOf, vop, ev, cv, vbin, vint, isShift, isNilConst, vnil, isNilSlice, vload, vlen, newRow, vfill, vslice, entOf, vappend, srcOf, vcopy, vlookup, vupdate, mapOk, keyOf, intsOf, clsAt]
  refine Cl.pu (c_within _ _ _) ?_
  simp only [gos, if_true, if_false, ne_eq, eq_self, Nat.reduceLT, Nat.reduceEqDiff, Nat.reduceAdd, Nat.reduceMul, Nat.reduceLeDiff, Nat.reduceBEq, reduceCtorEq, reduceIte, Array.toList, ↓reduceIte, tt, vgo, vout, vgoD, voutD, vclsOk, vids, mayWrite, V.ids, V.mids, vguard, callOf, vop, ev, cv, vbin, vint, isShift, isNilConst, vnil, isNilSlice, vload, vlen, newRow, vfill, vslice, entOf, vappend, srcOf, vcopy, vlookup, vupdate, mapOk, keyOf, intsOf, clsAt]
  subst hQ
  exact FnPost.plain trivial (fun h2 e => by first | rfl | (simp only [Try.f87, vres, vresL, vres1, e _, gos, if_true, if_false, ne_eq, eq_self, Nat.reduceLT, Nat.reduceEqDiff, Nat.reduceAdd, Nat.reduceMul, Nat.reduceLeDiff, Nat.reduceBEq, reduceCtorEq, reduceIte, Array.toList, ↓reduceIte, tt, vgo, vout, vgoD, voutD, vclsOk, vids, mayWrite, V.ids, V.mids, vguard, callOf, vop, ev, cv, vbin, vint, isShift, isNilConst, vnil, isNilSlice, vload, vlen, newRow, vfill, vslice, entOf, vappend, srcOf, vcopy, vlookup, vupdate, mapOk, keyOf, intsOf, clsAt]; try rfl)) (WkV.pure (by simp only [V.into, intoL, cB_into, vB_into, cI_into, cR_into, cD_into, cS_into, vS_into, vI_into, vR_into, vD_into, cu_into, Bool.true_and, Bool.and_true])) ⟨rfl, rfl⟩
theorem c_lost (r : Rg) : Pu Try.prog (.fn 107 [] []) [.agg [vi r.lo, vi r.hi]] (.bool (sInside r 99)) := by
  refine Ev.fn Try.func107 rfl rfl (Fn.body tabOk Try.func107 rfl (Nat.le_of_ble_eq_true rfl) (Ks.ok (fz := (fzn [])) (cl := (cln [])) tabOk mixed ?_))
  generalize hQ : FnPost tt Try.f107 _ _ = Q
  simp only [Try.f107, List.nil_append, List.append_nil, List.cons_append, argsEnv, Nat.reduceAdd]
  simp only [gos, if_true, if_false, ne_eq, eq_self, Nat.reduceLT, Nat.reduceEqDiff, Nat.reduceAdd, Nat.reduceMul, Nat.reduceLeDiff, Nat.reduceBEq, reduceCtorEq, reduceIte, Array.toList, ↓reduceIte, tt, vgo, vout, vgoD, voutD, vclsOk, vids, mayWrite, V.ids, V.mids, vguard, callOf, vop, ev, cv, vbin, vint, isShift, isNilConst, vnil, isNilSlice, vload, vlen, newRow, vfill, vslice, entOf, vappend, srcOf, vcopy, vlookup, vupdate, mapOk, keyOf, intsOf, clsAt]
  refine Cl.pu (c_inside _ _) ?_
  simp only [gos, if_true, if_false, ne_eq, eq_self, Nat.reduceLT, Nat.reduceEqDiff, Nat.reduceAdd, Nat.reduceMul, Nat.reduceLeDiff, Nat.reduceBEq, reduceCtorEq, reduceIte, Array.toList, ↓reduceIte, tt, vgo, vout, vgoD, voutD, vclsOk, vids, mayWrite, V.ids, V.mids, vguard, callOf, vop, ev, cv, vbin, vint, isShift, isNilConst, vnil, isNilSlice, vload, vlen, newRow, vfill, vslice, entOf, vappend, srcOf, vcopy, vlookup, vupdate, mapOk, keyOf, intsOf, clsAt]
  subst hQ
  exact FnPost.plain trivial (fun h2 e => by first | rfl | (simp only [Try.f107, vres, vresL, vres1, e _, gos, if_true, if_false, ne_eq, eq_self, Nat.reduceLT, Nat.reduceEqDiff, Nat.reduceAdd, Nat.reduceMul, Nat.reduceLeDiff, Nat.reduceBEq, reduceCtorEq, reduceIte, Array.toList, ↓reduceIte, tt, vgo, vout, vgoD, voutD, vclsOk, vids, mayWrite, V.ids, V.mids, vguard, callOf, vop, ev, cv, vbin, vint, isShift, isNilConst, vnil, isNilSlice, vload, vlen, newRow, vfill, vslice, entOf, vappend, srcOf, vcopy, vlookup, vupdate, mapOk, keyOf, intsOf, clsAt]; try rfl)) (WkV.pure (by simp only [V.into, intoL, cB_into, vB_into, cI_into, cR_into, cD_into, cS_into, vS_into, vI_into, vR_into, vD_into, cu_into, Bool.true_and, Bool.and_true])) ⟨rfl, rfl⟩
theorem c_buckets (n : Int) : Pu Try.prog (.fn 122 [] []) [vi n] (.bool (sIn n 0 20)) := by
  refine Ev.fn Try.func122 rfl rfl (Fn.body tabOk Try.func122 rfl (Nat.le_of_ble_eq_true rfl) (Ks.ok (fz := (fzn [])) (cl := (cln [])) tabOk mixed ?_))
  generalize hQ : FnPost tt Try.f122 _ _ = Q
  simp only [Try.f122, List.nil_append, List.append_nil, List.cons_append, argsEnv, Nat.reduceAdd]
  simp only [gos, if_true, if_false, ne_eq, eq_self, Nat.reduceLT, Nat.reduceEqDiff, Nat.reduceAdd, Nat.reduceMul, Nat.reduceLeDiff, Nat.reduceBEq, reduceCtorEq, reduceIte, Array.toList, ↓reduceIte, tt, vgo, vout, vgoD, voutD, vclsOk, vids, mayWrite, V.ids, V.mids, vguard, callOf, vop, ev, cv, vbin, vint, isShift, isNilConst, vnil, isNilSlice, vload, vlen, newRow, vfill, vslice, entOf, vappend, srcOf, vcopy, vlookup, vupdate, mapOk, keyOf, intsOf, clsAt]
  refine Cl.pu (c_within _ _ _) ?_
  simp only [gos, if_true, if_false, ne_eq, eq_self, Nat.reduceLT, Nat.reduceEqDiff, Nat.reduceAdd, Nat.reduceMul, Nat.reduceLeDiff, Nat.reduceBEq, reduceCtorEq, reduceIte, Array.toList, ↓reduceIte, tt, vgo, vout, vgoD, voutD, vclsOk, vids, mayWrite, V.ids, V.mids, vguard, callOf, vop, ev, cv, vbin, vint, isShift, isNilConst, vnil, isNilSlice, vload, vlen, newRow, vfill, vslice, entOf, vappend, srcOf, vcopy, vlookup, vupdate, mapOk, keyOf, intsOf, clsAt]
  subst hQ
  exact FnPost.plain trivial (fun h2 e => by first | rfl | (simp only [Try.f122, vres, vresL, vres1, e _, gos, if_true, if_false, ne_eq, eq_self, Nat.reduceLT, Nat.reduceEqDiff, Nat.reduceAdd, Nat.reduceMul, Nat.reduceLeDiff, Nat.reduceBEq, reduceCtorEq, reduceIte, Array.toList, ↓reduceIte, tt, vgo, vout, vgoD, voutD, vclsOk, vids, mayWrite, V.ids, V.mids, vguard, callOf, vop, ev, cv, vbin, vint, isShift, isNilConst, vnil, isNilSlice, vload, vlen, newRow, vfill, vslice, entOf, vappend, srcOf, vcopy, vlookup, vupdate, mapOk, keyOf, intsOf, clsAt]; try rfl)) (WkV.pure (by simp only [V.into, intoL, cB_into, vB_into, cI_into, cR_into, cD_into, cS_into, vS_into, vI_into, vR_into, vD_into, cu_into, Bool.true_and, Bool.and_true])) ⟨rfl, rfl⟩
def sReading (c : Cu) (r : Rd) : Bool := sIn r.hour 0 c.last && sInside r.b 999
theorem c_reading (c : Cu) (r : Rd) : Pu Try.prog (.fn 102 [] []) [.agg c.cs, .agg [vi r.hour, vi r.b.lo, vi r.b.hi]] (.bool (sReading c r)) := by
  refine Ev.fn Try.func102 rfl rfl (Fn.body tabOk Try.func102 rfl (Nat.le_of_ble_eq_true rfl) (Ks.ok (fz := (fzn [])) (cl := (cln [])) tabOk mixed ?_))
  generalize hQ : FnPost tt Try.f102 _ _ = Q
  simp only [Try.f102, List.nil_append, List.append_nil, List.cons_append, argsEnv, Nat.reduceAdd]
  simp only [gos, if_true, if_false, ne_eq, eq_self, Nat.reduceLT, Nat.reduceEqDiff, Nat.reduceAdd, Nat.reduceMul, Nat.reduceLeDiff, Nat.reduceBEq, reduceCtorEq, reduceIte, Array.toList, ↓reduceIte, tt, vgo, vout, vgoD, voutD, vclsOk, vids, mayWrite, V.ids, V.mids, vguard, callOf, vop, ev, cv, vbin, vint, isShift, isNilConst, vnil, isNilSlice, vload, vlen, newRow, vfill, vslice, entOf, vappend, srcOf, vcopy, vlookup, vupdate, mapOk, keyOf, intsOf, clsAt]
  refine Cl.pu (c_hour c _) ?_ rfl (by simp only [V.into, intoL, cB_into, vB_into, cI_into, cR_into, cD_into, cS_into, vS_into, vI_into, vR_into, vD_into, cu_into, Bool.true_and, Bool.and_true])
  cases h : sIn r.hour 0 c.last
  · simp only [gos, if_true, if_false, ne_eq, eq_self, Nat.reduceLT, Nat.reduceEqDiff, Nat.reduceAdd, Nat.reduceMul, Nat.reduceLeDiff, Nat.reduceBEq, reduceCtorEq, reduceIte, Array.toList, ↓reduceIte, tt, vgo, vout, vgoD, voutD, vclsOk, vids, mayWrite, V.ids, V.mids, vguard, callOf, vop, ev, cv, vbin, vint, isShift, isNilConst, vnil, isNilSlice, vload, vlen, newRow, vfill, vslice, entOf, vappend, srcOf, vcopy, vlookup, vupdate, mapOk, keyOf, intsOf, clsAt]
    subst hQ
    exact FnPost.plain trivial (fun h2 e => by first | rfl | (simp only [Try.f102, vres, vresL, vres1, e _, gos, if_true, if_false, ne_eq, eq_self, Nat.reduceLT, Nat.reduceEqDiff, Nat.reduceAdd, Nat.reduceMul, Nat.reduceLeDiff, Nat.reduceBEq, reduceCtorEq, reduceIte, Array.toList, ↓reduceIte, tt, vgo, vout, vgoD, voutD, vclsOk, vids, mayWrite, V.ids, V.mids, vguard, callOf, vop, ev, cv, vbin, vint, isShift, isNilConst, vnil, isNilSlice, vload, vlen, newRow, vfill, vslice, entOf, vappend, srcOf, vcopy, vlookup, vupdate, mapOk, keyOf, intsOf, clsAt]; try rfl)) (WkV.pure (by simp only [V.into, intoL, cB_into, vB_into, cI_into, cR_into, cD_into, cS_into, vS_into, vI_into, vR_into, vD_into, cu_into, Bool.true_and, Bool.and_true])) ⟨by simp [sReading, h], rfl⟩
  · simp only [gos, if_true, if_false, ne_eq, eq_self, Nat.reduceLT, Nat.reduceEqDiff, Nat.reduceAdd, Nat.reduceMul, Nat.reduceLeDiff, Nat.reduceBEq, reduceCtorEq, reduceIte, Array.toList, ↓reduceIte, tt, vgo, vout, vgoD, voutD, vclsOk, vids, mayWrite, V.ids, V.mids, vguard, callOf, vop, ev, cv, vbin, vint, isShift, isNilConst, vnil, isNilSlice, vload, vlen, newRow, vfill, vslice, entOf, vappend, srcOf, vcopy, vlookup, vupdate, mapOk, keyOf, intsOf, clsAt]
    refine Cl.pu (c_inside _ _) ?_
    simp only [gos, if_true, if_false, ne_eq, eq_self, Nat.reduceLT, Nat.reduceEqDiff, Nat.reduceAdd, Nat.reduceMul, Nat.reduceLeDiff, Nat.reduceBEq, reduceCtorEq, reduceIte, Array.toList, ↓reduceIte, tt, vgo, vout, vgoD, voutD, vclsOk, vids, mayWrite, V.ids, V.mids, vguard, callOf, vop, ev, cv, vbin, vint, isShift, isNilConst, vnil, isNilSlice, vload, vlen, newRow, vfill, vslice, entOf, vappend, srcOf, vcopy, vlookup, vupdate, mapOk, keyOf, intsOf, clsAt]
    subst hQ
    exact FnPost.plain trivial (fun h2 e => by first | rfl | (simp only [Try.f102, vres, vresL, vres1, e _, gos, if_true, if_false, ne_eq, eq_self, Nat.reduceLT, Nat.reduceEqDiff, Nat.reduceAdd, Nat.reduceMul, Nat.reduceLeDiff, Nat.reduceBEq, reduceCtorEq, reduceIte, Array.toList, ↓reduceIte, tt, vgo, vout, vgoD, voutD, vclsOk, vids, mayWrite, V.ids, V.mids, vguard, callOf, vop, ev, cv, vbin, vint, isShift, isNilConst, vnil, isNilSlice, vload, vlen, newRow, vfill, vslice, entOf, vappend, srcOf, vcopy, vlookup, vupdate, mapOk, keyOf, intsOf, clsAt]; try rfl)) (WkV.pure (by simp only [V.into, intoL, cB_into, vB_into, cI_into, cR_into, cD_into, cS_into, vS_into, vI_into, vR_into, vD_into, cu_into, Bool.true_and, Bool.and_true])) ⟨by simp [sReading, h], rfl⟩
theorem c_reading1 (c : Cu) (r : Rd) : Pu Try.prog (.fn 102 [.agg c.cs] []) [.agg [vi r.hour, vi r.b.lo, vi r.b.hi]] (.bool (sReading c r)) := by
  refine Ev.fn Try.func102 rfl rfl (Fn.body tabOk Try.func102 rfl (Nat.le_of_ble_eq_true rfl) (Ks.ok (fz := (fzn [])) (cl := (cln [])) tabOk mixed ?_))
  generalize hQ : FnPost tt Try.f102 _ _ = Q
  simp only [Try.f102, List.nil_append, List.append_nil, List.cons_append, argsEnv, Nat.reduceAdd]
  simp only [gos, if_true, if_false, ne_eq, eq_self, Nat.reduceLT, Nat.reduceEqDiff, Nat.reduceAdd, Nat.reduceMul, Nat.reduceLeDiff, Nat.reduceBEq, reduceCtorEq, reduceIte, Array.toList, ↓reduceIte, tt, vgo, vout, vgoD, voutD, vclsOk, vids, mayWrite, V.ids, V.mids, vguard, callOf, vop, ev, cv, vbin, vint, isShift, isNilConst, vnil, isNilSlice, vload, vlen, newRow, vfill, vslice, entOf, vappend, srcOf, vcopy, vlookup, vupdate, mapOk, keyOf, intsOf, clsAt]
  refine Cl.pu (c_hour c _) ?_ rfl (by simp only [V.into, intoL, cB_into, vB_into, cI_into, cR_into, cD_into, cS_into, vS_into, vI_into, vR_into, vD_into, cu_into, Bool.true_and, Bool.and_true])
  cases h : sIn r.hour 0 c.last
  · simp only [gos, if_true, if_false, ne_eq, eq_self, Nat.reduceLT, Nat.reduceEqDiff, Nat.reduceAdd, Nat.reduceMul, Nat.reduceLeDiff, Nat.reduceBEq, reduceCtorEq, reduceIte, Array.toList, ↓reduceIte, tt, vgo, vout, vgoD, voutD, vclsOk, vids, mayWrite, V.ids, V.mids, vguard, callOf, vop, ev, cv, vbin, vint, isShift, isNilConst, vnil, isNilSlice, vload, vlen, newRow, vfill, vslice, entOf, vappend, srcOf, vcopy, vlookup, vupdate, mapOk, keyOf, intsOf, clsAt]
    subst hQ
    exact FnPost.plain trivial (fun h2 e => by first | rfl | (simp only [Try.f102, vres, vresL, vres1, e _, gos, if_true, if_false, ne_eq, eq_self, Nat.reduceLT, Nat.reduceEqDiff, Nat.reduceAdd, Nat.reduceMul, Nat.reduceLeDiff, Nat.reduceBEq, reduceCtorEq, reduceIte, Array.toList, ↓reduceIte, tt, vgo, vout, vgoD, voutD, vclsOk, vids, mayWrite, V.ids, V.mids, vguard, callOf, vop, ev, cv, vbin, vint, isShift, isNilConst, vnil, isNilSlice, vload, vlen, newRow, vfill, vslice, entOf, vappend, srcOf, vcopy, vlookup, vupdate, mapOk, keyOf, intsOf, clsAt]; try rfl)) (WkV.pure (by simp only [V.into, intoL, cB_into, vB_into, cI_into, cR_into, cD_into, cS_into, vS_into, vI_into, vR_into, vD_into, cu_into, Bool.true_and, Bool.and_true])) ⟨by simp [sReading, h], rfl⟩
  · simp only [gos, if_true, if_false, ne_eq, eq_self, Nat.reduceLT, Nat.reduceEqDiff, Nat.reduceAdd, Nat.reduceMul, Nat.reduceLeDiff, Nat.reduceBEq, reduceCtorEq, reduceIte, Array.toList, ↓reduceIte, tt, vgo, vout, vgoD, voutD, vclsOk, vids, mayWrite, V.ids, V.mids, vguard, callOf, vop, ev, cv, vbin, vint, isShift, isNilConst, vnil, isNilSlice, vload, vlen, newRow, vfill, vslice, entOf, vappend, srcOf, vcopy, vlookup, vupdate, mapOk, keyOf, intsOf, clsAt]
    refine Cl.pu (c_inside _ _) ?_
    simp only [gos, if_true, if_false, ne_eq, eq_self, Nat.reduceLT, Nat.reduceEqDiff, Nat.reduceAdd, Nat.reduceMul, Nat.reduceLeDiff, Nat.reduceBEq, reduceCtorEq, reduceIte, Array.toList, ↓reduceIte, tt, vgo, vout, vgoD, voutD, vclsOk, vids, mayWrite, V.ids, V.mids, vguard, callOf, vop, ev, cv, vbin, vint, isShift, isNilConst, vnil, isNilSlice, vload, vlen, newRow, vfill, vslice, entOf, vappend, srcOf, vcopy, vlookup, vupdate, mapOk, keyOf, intsOf, clsAt]
    subst hQ
    exact FnPost.plain trivial (fun h2 e => by first | rfl | (simp only [Try.f102, vres, vresL, vres1, e _, gos, if_true, if_false, ne_eq, eq_self, Nat.reduceLT, Nat.reduceEqDiff, Nat.reduceAdd, Nat.reduceMul, Nat.reduceLeDiff, Nat.reduceBEq, reduceCtorEq, reduceIte, Array.toList, ↓reduceIte, tt, vgo, vout, vgoD, voutD, vclsOk, vids, mayWrite, V.ids, V.mids, vguard, callOf, vop, ev, cv, vbin, vint, isShift, isNilConst, vnil, isNilSlice, vload, vlen, newRow, vfill, vslice, entOf, vappend, srcOf, vcopy, vlookup, vupdate, mapOk, keyOf, intsOf, clsAt]; try rfl)) (WkV.pure (by simp only [V.into, intoL, cB_into, vB_into, cI_into, cR_into, cD_into, cS_into, vS_into, vI_into, vR_into, vD_into, cu_into, Bool.true_and, Bool.and_true])) ⟨by simp [sReading, h], rfl⟩
end Go.Vm
set_option linter.unusedVariables false
set_option linter.unusedSimpArgs false
set_option maxRecDepth 100000
namespace Go.Vm
open Go.Proofs
theorem c_Index (l : List Int) (x : Int) (hl : (l.length : Int) ≤ 1000000) : Pu Try.prog (.fn 139 [] []) [vI l, vi x] (vi (sIdx (fun y => decide (x = y)) l)) := by
  refine Ev.fn Try.func139 rfl rfl (Fn.body tabOk Try.func139 rfl (Nat.le_of_ble_eq_true rfl) (Ks.ok (fz := (fzn [])) (cl := (cln [])) tabOk mixed ?_))
  generalize hQ : FnPost tt Try.f139 _ _ = Q
  simp only [Try.f139, List.nil_append, List.append_nil, List.cons_append, argsEnv, Nat.reduceAdd]
  simp only [gos, if_true, if_false, ne_eq, eq_self, Nat.reduceLT, Nat.reduceEqDiff, Nat.reduceAdd, Nat.reduceMul, Nat.reduceLeDiff, Nat.reduceBEq, reduceCtorEq, reduceIte, Array.toList, ↓reduceIte, tt, vgo, vout, vgoD, voutD, vclsOk, vids, mayWrite, V.ids, V.mids, vguard, callOf, vop, ev, cv, vbin, vint, isShift, isNilConst, vnil, isNilSlice, vload, vlen, newRow, vfill, vslice, entOf, vappend, srcOf, vcopy, vlookup, vupdate, mapOk, keyOf, intsOf, clsAt, vI]
  refine W.loop tabOk mixed (fun i : Nat => ([(0, vI l), (1, vi x), (7, vi l.length), (8, vi i)], [])) (fun i => l.length - i) (fun i => i ≤ l.length ∧ ∀ (j : Nat) y, j < i → l[j]? = some y → decide (x = y) = false) 0 ⟨by omega, by omega⟩ (Wk.env (by simp [subE, Env.get, vI])) ?_
  rintro i ⟨hi, hj⟩
  by_cases hil : (i : Int) < l.length
  · cases hf : decide (x = gi l i)
    · simp only [gos, if_true, if_false, ne_eq, eq_self, Nat.reduceLT, Nat.reduceEqDiff, Nat.reduceAdd, Nat.reduceMul, Nat.reduceLeDiff, Nat.reduceBEq, reduceCtorEq, reduceIte, Array.toList, ↓reduceIte, tt, vgo, vout, vgoD, voutD, vclsOk, vids, mayWrite, V.ids, V.mids, vguard, callOf, vop, ev, cv, vbin, vint, isShift, isNilConst, vnil, isNilSlice, vload, vlen, newRow, vfill, vslice, entOf, vappend, srcOf, vcopy, vlookup, vupdate, mapOk, keyOf, intsOf, clsAt, vI, hil, cI_at (Int.natCast_nonneg i) hil, hf]
      refine Nx.mk (i + 1) (show l.length - (i + 1) < l.length - i by omega) ⟨by omega, fun j y hlt hy => ?_⟩ (Wk.env (by simp [subE, Env.get, vI, i64_succ (show (i : Int) < 9223372036854775807 by omega)]))
      rcases Nat.lt_or_eq_of_le (Nat.le_of_lt_succ hlt) with h | rfl
      · exact hj j y h hy
      · rw [gi_get hil] at hy; injection hy with hy; rw [← hy]; exact hf
    · simp only [gos, if_true, if_false, ne_eq, eq_self, Nat.reduceLT, Nat.reduceEqDiff, Nat.reduceAdd, Nat.reduceMul, Nat.reduceLeDiff, Nat.reduceBEq, reduceCtorEq, reduceIte, Array.toList, ↓reduceIte, tt, vgo, vout, vgoD, voutD, vclsOk, vids, mayWrite, V.ids, V.mids, vguard, callOf, vop, ev, cv, vbin, vint, isShift, isNilConst, vnil, isNilSlice, vload, vlen, newRow, vfill, vslice, entOf, vappend, srcOf, vcopy, vlookup, vupdate, mapOk, keyOf, intsOf, clsAt, vI, hil, cI_at (Int.natCast_nonneg i) hil, hf]
      subst hQ
      exact FnPost.plain trivial (fun h2 e => by first | rfl | (simp only [Try.f139, vres, vresL, vres1, e _, gos, if_true, if_false, ne_eq, eq_self, Nat.reduceLT, Nat.reduceEqDiff, Nat.reduceAdd, Nat.reduceMul, Nat.reduceLeDiff, Nat.reduceBEq, reduceCtorEq, reduceIte, Array.toList, ↓reduceIte, tt, vgo, vout, vgoD, voutD, vclsOk, vids, mayWrite, V.ids, V.mids, vguard, callOf, vop, ev, cv, vbin, vint, isShift, isNilConst, vnil, isNilSlice, vload, vlen, newRow, vfill, vslice, entOf, vappend, srcOf, vcopy, vlookup, vupdate, mapOk, keyOf, intsOf, clsAt]; try rfl)) (WkV.pure (by simp only [V.into, intoL, cB_into, vB_into, cI_into, cR_into, cD_into, cS_into, vS_into, vI_into, vR_into, vD_into, cu_into, Bool.true_and, Bool.and_true])) ⟨by rw [sIdx_some (f := fun y => decide (x = y)) (gi_get hil) hf hj], rfl⟩
  · simp only [gos, if_true, if_false, ne_eq, eq_self, Nat.reduceLT, Nat.reduceEqDiff, Nat.reduceAdd, Nat.reduceMul, Nat.reduceLeDiff, Nat.reduceBEq, reduceCtorEq, reduceIte, Array.toList, ↓reduceIte, tt, vgo, vout, vgoD, voutD, vclsOk, vids, mayWrite, V.ids, V.mids, vguard, callOf, vop, ev, cv, vbin, vint, isShift, isNilConst, vnil, isNilSlice, vload, vlen, newRow, vfill, vslice, entOf, vappend, srcOf, vcopy, vlookup, vupdate, mapOk, keyOf, intsOf, clsAt, vI, hil]
    subst hQ
    exact FnPost.plain trivial (fun h2 e => by first | rfl | (simp only [Try.f139, vres, vresL, vres1, e _, gos, if_true, if_false, ne_eq, eq_self, Nat.reduceLT, Nat.reduceEqDiff, Nat.reduceAdd, Nat.reduceMul, Nat.reduceLeDiff, Nat.reduceBEq, reduceCtorEq, reduceIte, Array.toList, ↓reduceIte, tt, vgo, vout, vgoD, voutD, vclsOk, vids, mayWrite, V.ids, V.mids, vguard, callOf, vop, ev, cv, vbin, vint, isShift, isNilConst, vnil, isNilSlice, vload, vlen, newRow, vfill, vslice, entOf, vappend, srcOf, vcopy, vlookup, vupdate, mapOk, keyOf, intsOf, clsAt]; try rfl)) (WkV.pure (by simp only [V.into, intoL, cB_into, vB_into, cI_into, cR_into, cD_into, cS_into, vS_into, vI_into, vR_into, vD_into, cu_into, Bool.true_and, Bool.and_true])) ⟨by rw [sIdx_none (f := fun y => decide (x = y)) fun j y hy => hj j y (by have := (List.getElem?_eq_some_iff.1 hy).1; omega) hy], rfl⟩
theorem c_Contains (l : List Int) (x : Int) (hl : (l.length : Int) ≤ 1000000) : Pu Try.prog (.fn 125 [] []) [vI l, vi x] (.bool (l.any fun y => decide (x = y))) := by
  refine Ev.fn Try.func125 rfl rfl (Fn.body tabOk Try.func125 rfl (Nat.le_of_ble_eq_true rfl) (Ks.ok (fz := (fzn [])) (cl := (cln [])) tabOk mixed ?_))
  generalize hQ : FnPost tt Try.f125 _ _ = Q
  simp only [Try.f125, List.nil_append, List.append_nil, List.cons_append, argsEnv, Nat.reduceAdd]
  simp only [gos, if_true, if_false, ne_eq, eq_self, Nat.reduceLT, Nat.reduceEqDiff, Nat.reduceAdd, Nat.reduceMul, Nat.reduceLeDiff, Nat.reduceBEq, reduceCtorEq, reduceIte, Array.toList, ↓reduceIte, tt, vgo, vout, vgoD, voutD, vclsOk, vids, mayWrite, V.ids, V.mids, vguard, callOf, vop, ev, cv, vbin, vint, isShift, isNilConst, vnil, isNilSlice, vload, vlen, newRow, vfill, vslice, entOf, vappend, srcOf, vcopy, vlookup, vupdate, mapOk, keyOf, intsOf, clsAt]
  refine Cl.pu (c_Index l x hl) ?_ rfl (by simp only [V.into, intoL, cB_into, vB_into, cI_into, cR_into, cD_into, cS_into, vS_into, vI_into, vR_into, vD_into, cu_into, Bool.true_and, Bool.and_true])
  simp only [gos, if_true, if_false, ne_eq, eq_self, Nat.reduceLT, Nat.reduceEqDiff, Nat.reduceAdd, Nat.reduceMul, Nat.reduceLeDiff, Nat.reduceBEq, reduceCtorEq, reduceIte, Array.toList, ↓reduceIte, tt, vgo, vout, vgoD, voutD, vclsOk, vids, mayWrite, V.ids, V.mids, vguard, callOf, vop, ev, cv, vbin, vint, isShift, isNilConst, vnil, isNilSlice, vload, vlen, newRow, vfill, vslice, entOf, vappend, srcOf, vcopy, vlookup, vupdate, mapOk, keyOf, intsOf, clsAt]
  subst hQ
  exact FnPost.plain trivial (fun h2 e => by first | rfl | (simp only [Try.f125, vres, vresL, vres1, e _, gos, if_true, if_false, ne_eq, eq_self, Nat.reduceLT, Nat.reduceEqDiff, Nat.reduceAdd, Nat.reduceMul, Nat.reduceLeDiff, Nat.reduceBEq, reduceCtorEq, reduceIte, Array.toList, ↓reduceIte, tt, vgo, vout, vgoD, voutD, vclsOk, vids, mayWrite, V.ids, V.mids, vguard, callOf, vop, ev, cv, vbin, vint, isShift, isNilConst, vnil, isNilSlice, vload, vlen, newRow, vfill, vslice, entOf, vappend, srcOf, vcopy, vlookup, vupdate, mapOk, keyOf, intsOf, clsAt]; try rfl)) (WkV.pure (by simp only [V.into, intoL, cB_into, vB_into, cI_into, cR_into, cD_into, cS_into, vS_into, vI_into, vR_into, vD_into, cu_into, Bool.true_and, Bool.and_true])) ⟨by rw [← sIdx_any], rfl⟩
theorem c_IndexFunc_int (pv : V) (f : Int → Bool) (l : List Int) (hl : (l.length : Int) ≤ 1000000) (hp : pv.into (fun _ => false) = true) (hf : ∀ x ∈ l, Pu Try.prog pv [vi x] (.bool (f x))) :
    Pu Try.prog (.fn 115 [] []) [vI l, pv] (vi (sIdx f l)) := by
  refine Ev.fn Try.func115 rfl rfl (Fn.body tabOk Try.func115 rfl (Nat.le_of_ble_eq_true rfl) (Ks.ok (fz := (fzn [])) (cl := (cln [])) tabOk mixed ?_))
  generalize hQ : FnPost tt Try.f115 _ _ = Q
  simp only [Try.f115, List.nil_append, List.append_nil, List.cons_append, argsEnv, Nat.reduceAdd]
  simp only [gos, if_true, if_false, ne_eq, eq_self, Nat.reduceLT, Nat.reduceEqDiff, Nat.reduceAdd, Nat.reduceMul, Nat.reduceLeDiff, Nat.reduceBEq, reduceCtorEq, reduceIte, Array.toList, ↓reduceIte, tt, vgo, vout, vgoD, voutD, vclsOk, vids, mayWrite, V.ids, V.mids, vguard, callOf, vop, ev, cv, vbin, vint, isShift, isNilConst, vnil, isNilSlice, vload, vlen, newRow, vfill, vslice, entOf, vappend, srcOf, vcopy, vlookup, vupdate, mapOk, keyOf, intsOf, clsAt, vI]
  refine W.loop tabOk mixed (fun i : Nat => ([(0, vI l), (1, pv), (7, vi l.length), (8, vi i)], [])) (fun i => l.length - i) (fun i => i ≤ l.length ∧ ∀ (j : Nat) y, j < i → l[j]? = some y → f y = false) 0 ⟨by omega, by omega⟩ (Wk.env (by simp [subE, Env.get, vI])) ?_
  rintro i ⟨hi, hj⟩
  by_cases hil : (i : Int) < l.length
  · simp only [gos, if_true, if_false, ne_eq, eq_self, Nat.reduceLT, Nat.reduceEqDiff, Nat.reduceAdd, Nat.reduceMul, Nat.reduceLeDiff, Nat.reduceBEq, reduceCtorEq, reduceIte, Array.toList, ↓reduceIte, tt, vgo, vout, vgoD, voutD, vclsOk, vids, mayWrite, V.ids, V.mids, vguard, callOf, vop, ev, cv, vbin, vint, isShift, isNilConst, vnil, isNilSlice, vload, vlen, newRow, vfill, vslice, entOf, vappend, srcOf, vcopy, vlookup, vupdate, mapOk, keyOf, intsOf, clsAt, vI, hil, cI_at (Int.natCast_nonneg i) hil]
    refine Cl.pu (hf (gi l i) (List.mem_of_getElem? (gi_get hil))) ?_ hp (by simp only [V.into, intoL, cB_into, vB_into, cI_into, cR_into, cD_into, cS_into, vS_into, vI_into, vR_into, vD_into, cu_into, Bool.true_and, Bool.and_true])
    cases hfx : f (gi l i)
    · simp only [gos, if_true, if_false, ne_eq, eq_self, Nat.reduceLT, Nat.reduceEqDiff, Nat.reduceAdd, Nat.reduceMul, Nat.reduceLeDiff, Nat.reduceBEq, reduceCtorEq, reduceIte, Array.toList, ↓reduceIte, tt, vgo, vout, vgoD, voutD, vclsOk, vids, mayWrite, V.ids, V.mids, vguard, callOf, vop, ev, cv, vbin, vint, isShift, isNilConst, vnil, isNilSlice, vload, vlen, newRow, vfill, vslice, entOf, vappend, srcOf, vcopy, vlookup, vupdate, mapOk, keyOf, intsOf, clsAt]
      refine Nx.mk (i + 1) (show l.length - (i + 1) < l.length - i by omega) ⟨by omega, fun j y hlt hy => ?_⟩ (Wk.env (by simp [subE, Env.get, vI, i64_succ (show (i : Int) < 9223372036854775807 by omega)]))
      rcases Nat.lt_or_eq_of_le (Nat.le_of_lt_succ hlt) with h | rfl
      · exact hj j y h hy
      · rw [gi_get hil] at hy; injection hy with hy; rw [← hy]; exact hfx
    · simp only [gos, if_true, if_false, ne_eq, eq_self, Nat.reduceLT, Nat.reduceEqDiff, Nat.reduceAdd, Nat.reduceMul, Nat.reduceLeDiff, Nat.reduceBEq, reduceCtorEq, reduceIte, Array.toList, ↓reduceIte, tt, vgo, vout, vgoD, voutD, vclsOk, vids, mayWrite, V.ids, V.mids, vguard, callOf, vop, ev, cv, vbin, vint, isShift, isNilConst, vnil, isNilSlice, vload, vlen, newRow, vfill, vslice, entOf, vappend, srcOf, vcopy, vlookup, vupdate, mapOk, keyOf, intsOf, clsAt]
      subst hQ
      exact FnPost.plain trivial (fun h2 e => by first | rfl | (simp only [Try.f115, vres, vresL, vres1, e _, gos, if_true, if_false, ne_eq, eq_self, Nat.reduceLT, Nat.reduceEqDiff, Nat.reduceAdd, Nat.reduceMul, Nat.reduceLeDiff, Nat.reduceBEq, reduceCtorEq, reduceIte, Array.toList, ↓reduceIte, tt, vgo, vout, vgoD, voutD, vclsOk, vids, mayWrite, V.ids, V.mids, vguard, callOf, vop, ev, cv, vbin, vint, isShift, isNilConst, vnil, isNilSlice, vload, vlen, newRow, vfill, vslice, entOf, vappend, srcOf, vcopy, vlookup, vupdate, mapOk, keyOf, intsOf, clsAt]; try rfl)) (WkV.pure (by simp only [V.into, intoL, cB_into, vB_into, cI_into, cR_into, cD_into, cS_into, vS_into, vI_into, vR_into, vD_into, cu_into, Bool.true_and, Bool.and_true])) ⟨by rw [sIdx_some (gi_get hil) hfx hj], rfl⟩
  · simp only [gos, if_true, if_false, ne_eq, eq_self, Nat.reduceLT, Nat.reduceEqDiff, Nat.reduceAdd, Nat.reduceMul, Nat.reduceLeDiff, Nat.reduceBEq, reduceCtorEq, reduceIte, Array.toList, ↓reduceIte, tt, vgo, vout, vgoD, voutD, vclsOk, vids, mayWrite, V.ids, V.mids, vguard, callOf, vop, ev, cv, vbin, vint, isShift, isNilConst, vnil, isNilSlice, vload, vlen, newRow, vfill, vslice, entOf, vappend, srcOf, vcopy, vlookup, vupdate, mapOk, keyOf, intsOf, clsAt, vI, hil]
    subst hQ
    exact FnPost.plain trivial (fun h2 e => by first | rfl | (simp only [Try.f115, vres, vresL, vres1, e _, gos, if_true, if_false, ne_eq, eq_self, Nat.reduceLT, Nat.reduceEqDiff, Nat.reduceAdd, Nat.reduceMul, Nat.reduceLeDiff, Nat.reduceBEq, reduceCtorEq, reduceIte, Array.toList, ↓reduceIte, tt, vgo, vout, vgoD, voutD, vclsOk, vids, mayWrite, V.ids, V.mids, vguard, callOf, vop, ev, cv, vbin, vint, isShift, isNilConst, vnil, isNilSlice, vload, vlen, newRow, vfill, vslice, entOf, vappend, srcOf, vcopy, vlookup, vupdate, mapOk, keyOf, intsOf, clsAt]; try rfl)) (WkV.pure (by simp only [V.into, intoL, cB_into, vB_into, cI_into, cR_into, cD_into, cS_into, vS_into, vI_into, vR_into, vD_into, cu_into, Bool.true_and, Bool.and_true])) ⟨by rw [sIdx_none fun j y hy => hj j y (by have := (List.getElem?_eq_some_iff.1 hy).1; omega) hy], rfl⟩
theorem c_ContainsFunc_int (pv : V) (f : Int → Bool) (l : List Int) (hl : (l.length : Int) ≤ 1000000) (hp : pv.into (fun _ => false) = true) (hf : ∀ x ∈ l, Pu Try.prog pv [vi x] (.bool (f x))) :
    Pu Try.prog (.fn 137 [] []) [vI l, pv] (.bool (l.any f)) := by
  refine Ev.fn Try.func137 rfl rfl (Fn.body tabOk Try.func137 rfl (Nat.le_of_ble_eq_true rfl) (Ks.ok (fz := (fzn [])) (cl := (cln [])) tabOk mixed ?_))
  generalize hQ : FnPost tt Try.f137 _ _ = Q
  simp only [Try.f137, List.nil_append, List.append_nil, List.cons_append, argsEnv, Nat.reduceAdd]
  simp only [gos, if_true, if_false, ne_eq, eq_self, Nat.reduceLT, Nat.reduceEqDiff, Nat.reduceAdd, Nat.reduceMul, Nat.reduceLeDiff, Nat.reduceBEq, reduceCtorEq, reduceIte, Array.toList, ↓reduceIte, tt, vgo, vout, vgoD, voutD, vclsOk, vids, mayWrite, V.ids, V.mids, vguard, callOf, vop, ev, cv, vbin, vint, isShift, isNilConst, vnil, isNilSlice, vload, vlen, newRow, vfill, vslice, entOf, vappend, srcOf, vcopy, vlookup, vupdate, mapOk, keyOf, intsOf, clsAt]
  refine Cl.pu (c_IndexFunc_int pv f l hl hp hf) ?_ rfl (by simp only [V.into, intoL, cB_into, vB_into, cI_into, cR_into, cD_into, cS_into, vS_into, vI_into, vR_into, vD_into, cu_into, Bool.true_and, Bool.and_true, hp])
  simp only [gos, if_true, if_false, ne_eq, eq_self, Nat.reduceLT, Nat.reduceEqDiff, Nat.reduceAdd, Nat.reduceMul, Nat.reduceLeDiff, Nat.reduceBEq, reduceCtorEq, reduceIte, Array.toList, ↓reduceIte, tt, vgo, vout, vgoD, voutD, vclsOk, vids, mayWrite, V.ids, V.mids, vguard, callOf, vop, ev, cv, vbin, vint, isShift, isNilConst, vnil, isNilSlice, vload, vlen, newRow, vfill, vslice, entOf, vappend, srcOf, vcopy, vlookup, vupdate, mapOk, keyOf, intsOf, clsAt]
  subst hQ
  exact FnPost.plain trivial (fun h2 e => by first | rfl | (simp only [Try.f137, vres, vresL, vres1, e _, gos, if_true, if_false, ne_eq, eq_self, Nat.reduceLT, Nat.reduceEqDiff, Nat.reduceAdd, Nat.reduceMul, Nat.reduceLeDiff, Nat.reduceBEq, reduceCtorEq, reduceIte, Array.toList, ↓reduceIte, tt, vgo, vout, vgoD, voutD, vclsOk, vids, mayWrite, V.ids, V.mids, vguard, callOf, vop, ev, cv, vbin, vint, isShift, isNilConst, vnil, isNilSlice, vload, vlen, newRow, vfill, vslice, entOf, vappend, srcOf, vcopy, vlookup, vupdate, mapOk, keyOf, intsOf, clsAt]; try rfl)) (WkV.pure (by simp only [V.into, intoL, cB_into, vB_into, cI_into, cR_into, cD_into, cS_into, vS_into, vI_into, vR_into, vD_into, cu_into, Bool.true_and, Bool.and_true])) ⟨by rw [← sIdx_any], rfl⟩
theorem c_all1_int (pv : V) (f : Int → Bool) (x : Int) (hp : pv.into (fun _ => false) = true) (hf : Pu Try.prog pv [vi x] (.bool (f x))) :
    Pu Try.prog (.fn 138 [] [.rop [pv]]) [vi x] (.bool (!f x)) := by
  refine Ev.fn Try.func138 rfl rfl (Fn.body tabOk Try.func138 rfl (Nat.le_of_ble_eq_true rfl) (Ks.ok (fz := (fzn [])) (cl := (cln [])) tabOk mixed ?_))
  generalize hQ : FnPost tt Try.f138 _ _ = Q
  simp only [Try.f138, List.nil_append, List.append_nil, List.cons_append, argsEnv, Nat.reduceAdd]
  simp only [gos, if_true, if_false, ne_eq, eq_self, Nat.reduceLT, Nat.reduceEqDiff, Nat.reduceAdd, Nat.reduceMul, Nat.reduceLeDiff, Nat.reduceBEq, reduceCtorEq, reduceIte, Array.toList, ↓reduceIte, tt, vgo, vout, vgoD, voutD, vclsOk, vids, mayWrite, V.ids, V.mids, vguard, callOf, vop, ev, cv, vbin, vint, isShift, isNilConst, vnil, isNilSlice, vload, vlen, newRow, vfill, vslice, entOf, vappend, srcOf, vcopy, vlookup, vupdate, mapOk, keyOf, intsOf, clsAt]
  refine Cl.pu hf ?_ hp (by simp only [V.into, intoL, cB_into, vB_into, cI_into, cR_into, cD_into, cS_into, vS_into, vI_into, vR_into, vD_into, cu_into, Bool.true_and, Bool.and_true])
  simp only [gos, if_true, if_false, ne_eq, eq_self, Nat.reduceLT, Nat.reduceEqDiff, Nat.reduceAdd, Nat.reduceMul, Nat.reduceLeDiff, Nat.reduceBEq, reduceCtorEq, reduceIte, Array.toList, ↓reduceIte, tt, vgo, vout, vgoD, voutD, vclsOk, vids, mayWrite, V.ids, V.mids, vguard, callOf, vop, ev, cv, vbin, vint, isShift, isNilConst, vnil, isNilSlice, vload, vlen, newRow, vfill, vslice, entOf, vappend, srcOf, vcopy, vlookup, vupdate, mapOk, keyOf, intsOf, clsAt]
  subst hQ
  exact FnPost.plain trivial (fun h2 e => by first | rfl | (simp only [Try.f138, vres, vresL, vres1, e _, gos, if_true, if_false, ne_eq, eq_self, Nat.reduceLT, Nat.reduceEqDiff, Nat.reduceAdd, Nat.reduceMul, Nat.reduceLeDiff, Nat.reduceBEq, reduceCtorEq, reduceIte, Array.toList, ↓reduceIte, tt, vgo, vout, vgoD, voutD, vclsOk, vids, mayWrite, V.ids, V.mids, vguard, callOf, vop, ev, cv, vbin, vint, isShift, isNilConst, vnil, isNilSlice, vload, vlen, newRow, vfill, vslice, entOf, vappend, srcOf, vcopy, vlookup, vupdate, mapOk, keyOf, intsOf, clsAt]; try rfl)) (WkV.pure (by simp only [V.into, intoL, cB_into, vB_into, cI_into, cR_into, cD_into, cS_into, vS_into, vI_into, vR_into, vD_into, cu_into, Bool.true_and, Bool.and_true])) ⟨rfl, rfl⟩
theorem c_all_int (pf : FuncId) (pa pc : List V) (f : Int → Bool) (l : List Int) (hl : (l.length : Int) ≤ 1000000) (ha : intoL (fun _ => false) pa = true) (hp : intoL (fun _ => false) pc = true) (hf : ∀ x ∈ l, Pu Try.prog (.fn pf pa pc) [vi x] (.bool (f x))) :
    Pu Try.prog (.fn 121 [] []) [vI l, .fn pf pa pc] (.bool (l.all f)) := by
  refine Ev.fn Try.func121 rfl rfl (Fn.body tabOk Try.func121 rfl (Nat.le_of_ble_eq_true rfl) (Ks.ok (fz := (fzn [])) (cl := (cln [])) tabOk mixed ?_))
  generalize hQ : FnPost tt Try.f121 _ _ = Q
  simp only [Try.f121, List.nil_append, List.append_nil, List.cons_append, argsEnv, Nat.reduceAdd]
  simp only [gos, if_true, if_false, ne_eq, eq_self, Nat.reduceLT, Nat.reduceEqDiff, Nat.reduceAdd, Nat.reduceMul, Nat.reduceLeDiff, Nat.reduceBEq, reduceCtorEq, reduceIte, Array.toList, ↓reduceIte, tt, vgo, vout, vgoD, voutD, vclsOk, vids, mayWrite, V.ids, V.mids, vguard, callOf, vop, ev, cv, vbin, vint, isShift, isNilConst, vnil, isNilSlice, vload, vlen, newRow, vfill, vslice, entOf, vappend, srcOf, vcopy, vlookup, vupdate, mapOk, keyOf, intsOf, clsAt]
  refine Cl.pu (c_ContainsFunc_int (.fn 138 [] [.rop [.fn pf pa pc]]) (fun x => !f x) l hl (by simp only [V.into, intoL, cB_into, vB_into, cI_into, cR_into, cD_into, cS_into, vS_into, vI_into, vR_into, vD_into, cu_into, Bool.true_and, Bool.and_true, hp, ha]) fun x hx => c_all1_int (.fn pf pa pc) f x (by simp only [V.into, intoL, cB_into, vB_into, cI_into, cR_into, cD_into, cS_into, vS_into, vI_into, vR_into, vD_into, cu_into, Bool.true_and, Bool.and_true, hp, ha]) (hf x hx)) ?_ rfl (by simp only [V.into, intoL, cB_into, vB_into, cI_into, cR_into, cD_into, cS_into, vS_into, vI_into, vR_into, vD_into, cu_into, Bool.true_and, Bool.and_true, hp, ha])
  simp only [gos, if_true, if_false, ne_eq, eq_self, Nat.reduceLT, Nat.reduceEqDiff, Nat.reduceAdd, Nat.reduceMul, Nat.reduceLeDiff, Nat.reduceBEq, reduceCtorEq, reduceIte, Array.toList, ↓reduceIte, tt, vgo, vout, vgoD, voutD, vclsOk, vids, mayWrite, V.ids, V.mids, vguard, callOf, vop, ev, cv, vbin, vint, isShift, isNilConst, vnil, isNilSlice, vload, vlen, newRow, vfill, vslice, entOf, vappend, srcOf, vcopy, vlookup, vupdate, mapOk, keyOf, intsOf, clsAt]
  subst hQ
  exact FnPost.plain trivial (fun h2 e => by first | rfl | (simp only [Try.f121, vres, vresL, vres1, e _, gos, if_true, if_false, ne_eq, eq_self, Nat.reduceLT, Nat.reduceEqDiff, Nat.reduceAdd, Nat.reduceMul, Nat.reduceLeDiff, Nat.reduceBEq, reduceCtorEq, reduceIte, Array.toList, ↓reduceIte, tt, vgo, vout, vgoD, voutD, vclsOk, vids, mayWrite, V.ids, V.mids, vguard, callOf, vop, ev, cv, vbin, vint, isShift, isNilConst, vnil, isNilSlice, vload, vlen, newRow, vfill, vslice, entOf, vappend, srcOf, vcopy, vlookup, vupdate, mapOk, keyOf, intsOf, clsAt]; try rfl)) (WkV.pure (by simp only [V.into, intoL, cB_into, vB_into, cI_into, cR_into, cD_into, cS_into, vS_into, vI_into, vR_into, vD_into, cu_into, Bool.true_and, Bool.and_true])) ⟨by rw [List.all_eq_not_any_not], rfl⟩
theorem c_IndexFunc_Rg (pv : V) (f : Rg → Bool) (l : List Rg) (hl : (l.length : Int) ≤ 1000000) (hp : pv.into (fun _ => false) = true) (hf : ∀ x ∈ l, Pu Try.prog pv [.agg [vi x.lo, vi x.hi]] (.bool (f x))) :
    Pu Try.prog (.fn 140 [] []) [vR l, pv] (vi (sIdx f l)) := by
  refine Ev.fn Try.func140 rfl rfl (Fn.body tabOk Try.func140 rfl (Nat.le_of_ble_eq_true rfl) (Ks.ok (fz := (fzn [])) (cl := (cln [])) tabOk mixed ?_))
  generalize hQ : FnPost tt Try.f140 _ _ = Q
  simp only [Try.f140, List.nil_append, List.append_nil, List.cons_append, argsEnv, Nat.reduceAdd]
  simp only [gos, if_true, if_false, ne_eq, eq_self, Nat.reduceLT, Nat.reduceEqDiff, Nat.reduceAdd, Nat.reduceMul, Nat.reduceLeDiff, Nat.reduceBEq, reduceCtorEq, reduceIte, Array.toList, ↓reduceIte, tt, vgo, vout, vgoD, voutD, vclsOk, vids, mayWrite, V.ids, V.mids, vguard, callOf, vop, ev, cv, vbin, vint, isShift, isNilConst, vnil, isNilSlice, vload, vlen, newRow, vfill, vslice, entOf, vappend, srcOf, vcopy, vlookup, vupdate, mapOk, keyOf, intsOf, clsAt, vR]
  refine W.loop tabOk mixed (fun i : Nat => ([(0, vR l), (1, pv), (7, vi l.length), (8, vi i)], [])) (fun i => l.length - i) (fun i => i ≤ l.length ∧ ∀ (j : Nat) y, j < i → l[j]? = some y → f y = false) 0 ⟨by omega, by omega⟩ (Wk.env (by simp [subE, Env.get, vR])) ?_
  rintro i ⟨hi, hj⟩
  by_cases hil : (i : Int) < l.length
  · simp only [gos, if_true, if_false, ne_eq, eq_self, Nat.reduceLT, Nat.reduceEqDiff, Nat.reduceAdd, Nat.reduceMul, Nat.reduceLeDiff, Nat.reduceBEq, reduceCtorEq, reduceIte, Array.toList, ↓reduceIte, tt, vgo, vout, vgoD, voutD, vclsOk, vids, mayWrite, V.ids, V.mids, vguard, callOf, vop, ev, cv, vbin, vint, isShift, isNilConst, vnil, isNilSlice, vload, vlen, newRow, vfill, vslice, entOf, vappend, srcOf, vcopy, vlookup, vupdate, mapOk, keyOf, intsOf, clsAt, vR, hil, cR_at (Int.natCast_nonneg i) hil]
    refine Cl.pu (hf (gR l i) (List.mem_of_getElem? (gR_get hil))) ?_ hp (by simp only [V.into, intoL, cB_into, vB_into, cI_into, cR_into, cD_into, cS_into, vS_into, vI_into, vR_into, vD_into, cu_into, Bool.true_and, Bool.and_true])
    cases hfx : f (gR l i)
    · simp only [gos, if_true, if_false, ne_eq, eq_self, Nat.reduceLT, Nat.reduceEqDiff, Nat.reduceAdd, Nat.reduceMul, Nat.reduceLeDiff, Nat.reduceBEq, reduceCtorEq, reduceIte, Array.toList, ↓reduceIte, tt, vgo, vout, vgoD, voutD, vclsOk, vids, mayWrite, V.ids, V.mids, vguard, callOf, vop, ev, cv, vbin, vint, isShift, isNilConst, vnil, isNilSlice, vload, vlen, newRow, vfill, vslice, entOf, vappend, srcOf, vcopy, vlookup, vupdate, mapOk, keyOf, intsOf, clsAt]
      refine Nx.mk (i + 1) (show l.length - (i + 1) < l.length - i by omega) ⟨by omega, fun j y hlt hy => ?_⟩ (Wk.env (by simp [subE, Env.get, vR, i64_succ (show (i : Int) < 9223372036854775807 by omega)]))
      rcases Nat.lt_or_eq_of_le (Nat.le_of_lt_succ hlt) with h | rfl
      · exact hj j y h hy
      · rw [gR_get hil] at hy; injection hy with hy; rw [← hy]; exact hfx
    · simp only [gos, if_true, if_false, ne_eq, eq_self, Nat.reduceLT, Nat.reduceEqDiff, Nat.reduceAdd, Nat.reduceMul, Nat.reduceLeDiff, Nat.reduceBEq, reduceCtorEq, reduceIte, Array.toList, ↓reduceIte, tt, vgo, vout, vgoD, voutD, vclsOk, vids, mayWrite, V.ids, V.mids, vguard, callOf, vop, ev, cv, vbin, vint, isShift, isNilConst, vnil, isNilSlice, vload, vlen, newRow, vfill, vslice, entOf, vappend, srcOf, vcopy, vlookup, vupdate, mapOk, keyOf, intsOf, clsAt]
      subst hQ
      exact FnPost.plain trivial (fun h2 e => by first | rfl | (simp only [Try.f140, vres, vresL, vres1, e _, gos, if_true, if_false, ne_eq, eq_self, Nat.reduceLT, Nat.reduceEqDiff, Nat.reduceAdd, Nat.reduceMul, Nat.reduceLeDiff, Nat.reduceBEq, reduceCtorEq, reduceIte, Array.toList, ↓reduceIte, tt, vgo, vout, vgoD, voutD, vclsOk, vids, mayWrite, V.ids, V.mids, vguard, callOf, vop, ev, cv, vbin, vint, isShift, isNilConst, vnil, isNilSlice, vload, vlen, newRow, vfill, vslice, entOf, vappend, srcOf, vcopy, vlookup, vupdate, mapOk, keyOf, intsOf, clsAt]; try rfl)) (WkV.pure (by simp only [V.into, intoL, cB_into, vB_into, cI_into, cR_into, cD_into, cS_into, vS_into, vI_into, vR_into, vD_into, cu_into, Bool.true_and, Bool.and_true])) ⟨by rw [sIdx_some (gR_get hil) hfx hj], rfl⟩
  · simp only [gos, if_true, if_false, ne_eq, eq_self, Nat.reduceLT, Nat.reduceEqDiff, Nat.reduceAdd, Nat.reduceMul, Nat.reduceLeDiff, Nat.reduceBEq, reduceCtorEq, reduceIte, Array.toList, ↓reduceIte, tt, vgo, vout, vgoD, voutD, vclsOk, vids, mayWrite, V.ids, V.mids, vguard, callOf, vop, ev, cv, vbin, vint, isShift, isNilConst, vnil, isNilSlice, vload, vlen, newRow, vfill, vslice, entOf, vappend, srcOf, vcopy, vlookup, vupdate, mapOk, keyOf, intsOf, clsAt, vR, hil]
    subst hQ
    exact FnPost.plain trivial (fun h2 e => by first | rfl | (simp only [Try.f140, vres, vresL, vres1, e _, gos, if_true, if_false, ne_eq, eq_self, Nat.reduceLT, Nat.reduceEqDiff, Nat.reduceAdd, Nat.reduceMul, Nat.reduceLeDiff, Nat.reduceBEq, reduceCtorEq, reduceIte, Array.toList, ↓reduceIte, tt, vgo, vout, vgoD, voutD, vclsOk, vids, mayWrite, V.ids, V.mids, vguard, callOf, vop, ev, cv, vbin, vint, isShift, isNilConst, vnil, isNilSlice, vload, vlen, newRow, vfill, vslice, entOf, vappend, srcOf, vcopy, vlookup, vupdate, mapOk, keyOf, intsOf, clsAt]; try rfl)) (WkV.pure (by simp only [V.into, intoL, cB_into, vB_into, cI_into, cR_into, cD_into, cS_into, vS_into, vI_into, vR_into, vD_into, cu_into, Bool.true_and, Bool.and_true])) ⟨by rw [sIdx_none fun j y hy => hj j y (by have := (List.getElem?_eq_some_iff.1 hy).1; omega) hy], rfl⟩
theorem c_ContainsFunc_Rg (pv : V) (f : Rg → Bool) (l : List Rg) (hl : (l.length : Int) ≤ 1000000) (hp : pv.into (fun _ => false) = true) (hf : ∀ x ∈ l, Pu Try.prog pv [.agg [vi x.lo, vi x.hi]] (.bool (f x))) :
    Pu Try.prog (.fn 127 [] []) [vR l, pv] (.bool (l.any f)) := by
  refine Ev.fn Try.func127 rfl rfl (Fn.body tabOk Try.func127 rfl (Nat.le_of_ble_eq_true rfl) (Ks.ok (fz := (fzn [])) (cl := (cln [])) tabOk mixed ?_))
  generalize hQ : FnPost tt Try.f127 _ _ = Q
  simp only [Try.f127, List.nil_append, List.append_nil, List.cons_append, argsEnv, Nat.reduceAdd]
  simp only [gos, if_true, if_false, ne_eq, eq_self, Nat.reduceLT, Nat.reduceEqDiff, Nat.reduceAdd, Nat.reduceMul, Nat.reduceLeDiff, Nat.reduceBEq, reduceCtorEq, reduceIte, Array.toList, ↓reduceIte, tt, vgo, vout, vgoD, voutD, vclsOk, vids, mayWrite, V.ids, V.mids, vguard, callOf, vop, ev, cv, vbin, vint, isShift, isNilConst, vnil, isNilSlice, vload, vlen, newRow, vfill, vslice, entOf, vappend, srcOf, vcopy, vlookup, vupdate, mapOk, keyOf, intsOf, clsAt]
  refine Cl.pu (c_IndexFunc_Rg pv f l hl hp hf) ?_ rfl (by simp only [V.into, intoL, cB_into, vB_into, cI_into, cR_into, cD_into, cS_into, vS_into, vI_into, vR_into, vD_into, cu_into, Bool.true_and, Bool.and_true, hp])
  simp only [gos, if_true, if_false, ne_eq, eq_self, Nat.reduceLT, Nat.reduceEqDiff, Nat.reduceAdd, Nat.reduceMul, Nat.reduceLeDiff, Nat.reduceBEq, reduceCtorEq, reduceIte, Array.toList, ↓reduceIte, tt, vgo, vout, vgoD, voutD, vclsOk, vids, mayWrite, V.ids, V.mids, vguard, callOf, vop, ev, cv, vbin, vint, isShift, isNilConst, vnil, isNilSlice, vload, vlen, newRow, vfill, vslice, entOf, vappend, srcOf, vcopy, vlookup, vupdate, mapOk, keyOf, intsOf, clsAt]
  subst hQ
  exact FnPost.plain trivial (fun h2 e => by first | rfl | (simp only [Try.f127, vres, vresL, vres1, e _, gos, if_true, if_false, ne_eq, eq_self, Nat.reduceLT, Nat.reduceEqDiff, Nat.reduceAdd, Nat.reduceMul, Nat.reduceLeDiff, Nat.reduceBEq, reduceCtorEq, reduceIte, Array.toList, ↓reduceIte, tt, vgo, vout, vgoD, voutD, vclsOk, vids, mayWrite, V.ids, V.mids, vguard, callOf, vop, ev, cv, vbin, vint, isShift, isNilConst, vnil, isNilSlice, vload, vlen, newRow, vfill, vslice, entOf, vappend, srcOf, vcopy, vlookup, vupdate, mapOk, keyOf, intsOf, clsAt]; try rfl)) (WkV.pure (by simp only [V.into, intoL, cB_into, vB_into, cI_into, cR_into, cD_into, cS_into, vS_into, vI_into, vR_into, vD_into, cu_into, Bool.true_and, Bool.and_true])) ⟨by rw [← sIdx_any], rfl⟩
theorem c_all1_Rg (pv : V) (f : Rg → Bool) (x : Rg) (hp : pv.into (fun _ => false) = true) (hf : Pu Try.prog pv [.agg [vi x.lo, vi x.hi]] (.bool (f x))) :
    Pu Try.prog (.fn 128 [] [.rop [pv]]) [.agg [vi x.lo, vi x.hi]] (.bool (!f x)) := by
  refine Ev.fn Try.func128 rfl rfl (Fn.body tabOk Try.func128 rfl (Nat.le_of_ble_eq_true rfl) (Ks.ok (fz := (fzn [])) (cl := (cln [])) tabOk mixed ?_))
  generalize hQ : FnPost tt Try.f128 _ _ = Q
  simp only [Try.f128, List.nil_append, List.append_nil, List.cons_append, argsEnv, Nat.reduceAdd]
  simp only [gos, if_true, if_false, ne_eq, eq_self, Nat.reduceLT, Nat.reduceEqDiff, Nat.reduceAdd, Nat.reduceMul, Nat.reduceLeDiff, Nat.reduceBEq, reduceCtorEq, reduceIte, Array.toList, ↓reduceIte, tt, vgo, vout, vgoD, voutD, vclsOk, vids, mayWrite, V.ids, V.mids, vguard, callOf, vop, ev, cv, vbin, vint, isShift, isNilConst, vnil, isNilSlice, vload, vlen, newRow, vfill, vslice, entOf, vappend, srcOf, vcopy, vlookup, vupdate, mapOk, keyOf, intsOf, clsAt]
  refine Cl.pu hf ?_ hp (by simp only [V.into, intoL, cB_into, vB_into, cI_into, cR_into, cD_into, cS_into, vS_into, vI_into, vR_into, vD_into, cu_into, Bool.true_and, Bool.and_true])
  simp only [gos, if_true, if_false, ne_eq, eq_self, Nat.reduceLT, Nat.reduceEqDiff, Nat.reduceAdd, Nat.reduceMul, Nat.reduceLeDiff, Nat.reduceBEq, reduceCtorEq, reduceIte, Array.toList, ↓reduceIte, tt, vgo, vout, vgoD, voutD, vclsOk, vids, mayWrite, V.ids, V.mids, vguard, callOf, vop, ev, cv, vbin, vint, isShift, isNilConst, vnil, isNilSlice, vload, vlen, newRow, vfill, vslice, entOf, vappend, srcOf, vcopy, vlookup, vupdate, mapOk, keyOf, intsOf, clsAt]
  subst hQ
  exact FnPost.plain trivial (fun h2 e => by first | rfl | (simp only [Try.f128, vres, vresL, vres1, e _, gos, if_true, if_false, ne_eq, eq_self, Nat.reduceLT, Nat.reduceEqDiff, Nat.reduceAdd, Nat.reduceMul, Nat.reduceLeDiff, Nat.reduceBEq, reduceCtorEq, reduceIte, Array.toList, ↓reduceIte, tt, vgo, vout, vgoD, voutD, vclsOk, vids, mayWrite, V.ids, V.mids, vguard, callOf, vop, ev, cv, vbin, vint, isShift, isNilConst, vnil, isNilSlice, vload, vlen, newRow, vfill, vslice, entOf, vappend, srcOf, vcopy, vlookup, vupdate, mapOk, keyOf, intsOf, clsAt]; try rfl)) (WkV.pure (by simp only [V.into, intoL, cB_into, vB_into, cI_into, cR_into, cD_into, cS_into, vS_into, vI_into, vR_into, vD_into, cu_into, Bool.true_and, Bool.and_true])) ⟨rfl, rfl⟩
theorem c_all_Rg (pf : FuncId) (pa pc : List V) (f : Rg → Bool) (l : List Rg) (hl : (l.length : Int) ≤ 1000000) (ha : intoL (fun _ => false) pa = true) (hp : intoL (fun _ => false) pc = true) (hf : ∀ x ∈ l, Pu Try.prog (.fn pf pa pc) [.agg [vi x.lo, vi x.hi]] (.bool (f x))) :
    Pu Try.prog (.fn 106 [] []) [vR l, .fn pf pa pc] (.bool (l.all f)) := by
  refine Ev.fn Try.func106 rfl rfl (Fn.body tabOk Try.func106 rfl (Nat.le_of_ble_eq_true rfl) (Ks.ok (fz := (fzn [])) (cl := (cln [])) tabOk mixed ?_))
  generalize hQ : FnPost tt Try.f106 _ _ = Q
  simp only [Try.f106, List.nil_append, List.append_nil, List.cons_append, argsEnv, Nat.reduceAdd]
  simp only [gos, if_true, if_false, ne_eq, eq_self, Nat.reduceLT, Nat.reduceEqDiff, Nat.reduceAdd, Nat.reduceMul, Nat.reduceLeDiff, Nat.reduceBEq, reduceCtorEq, reduceIte, Array.toList, ↓reduceIte, tt, vgo, vout, vgoD, voutD, vclsOk, vids, mayWrite, V.ids, V.mids, vguard, callOf, vop, ev, cv, vbin, vint, isShift, isNilConst, vnil, isNilSlice, vload, vlen, newRow, vfill, vslice, entOf, vappend, srcOf, vcopy, vlookup, vupdate, mapOk, keyOf, intsOf, clsAt]
  refine Cl.pu (c_ContainsFunc_Rg (.fn 128 [] [.rop [.fn pf pa pc]]) (fun x => !f x) l hl (by simp only [V.into, intoL, cB_into, vB_into, cI_into, cR_into, cD_into, cS_into, vS_into, vI_into, vR_into, vD_into, cu_into, Bool.true_and, Bool.and_true, hp, ha]) fun x hx => c_all1_Rg (.fn pf pa pc) f x (by simp only [V.into, intoL, cB_into, vB_into, cI_into, cR_into, cD_into, cS_into, vS_into, vI_into, vR_into, vD_into, cu_into, Bool.true_and, Bool.and_true, hp, ha]) (hf x hx)) ?_ rfl (by simp only [V.into, intoL, cB_into, vB_into, cI_into, cR_into, cD_into, cS_into, vS_into, vI_into, vR_into, vD_into, cu_into, Bool.true_and, Bool.and_true, hp, ha])
  simp only [gos, if_true, if_false, ne_eq, eq_self, Nat.reduceLT, Nat.reduceEqDiff, Nat.reduceAdd, Nat.reduceMul, Nat.reduceLeDiff, Nat.reduceBEq, reduceCtorEq, reduceIte, Array.toList, ↓reduceIte, tt, vgo, vout, vgoD, voutD, vclsOk, vids, mayWrite, V.ids, V.mids, vguard, callOf, vop, ev, cv, vbin, vint, isShift, isNilConst, vnil, isNilSlice, vload, vlen, newRow, vfill, vslice, entOf, vappend, srcOf, vcopy, vlookup, vupdate, mapOk, keyOf, intsOf, clsAt]
  subst hQ
  exact FnPost.plain trivial (fun h2 e => by first | rfl | (simp only [Try.f106, vres, vresL, vres1, e _, gos, if_true, if_false, ne_eq, eq_self, Nat.reduceLT, Nat.reduceEqDiff, Nat.reduceAdd, Nat.reduceMul, Nat.reduceLeDiff, Nat.reduceBEq, reduceCtorEq, reduceIte, Array.toList, ↓reduceIte, tt, vgo, vout, vgoD, voutD, vclsOk, vids, mayWrite, V.ids, V.mids, vguard, callOf, vop, ev, cv, vbin, vint, isShift, isNilConst, vnil, isNilSlice, vload, vlen, newRow, vfill, vslice, entOf, vappend, srcOf, vcopy, vlookup, vupdate, mapOk, keyOf, intsOf, clsAt]; try rfl)) (WkV.pure (by simp only [V.into, intoL, cB_into, vB_into, cI_into, cR_into, cD_into, cS_into, vS_into, vI_into, vR_into, vD_into, cu_into, Bool.true_and, Bool.and_true])) ⟨by rw [List.all_eq_not_any_not], rfl⟩
theorem c_IndexFunc_Rd (pv : V) (f : Rd → Bool) (l : List Rd) (hl : (l.length : Int) ≤ 1000000) (hp : pv.into (fun _ => false) = true) (hf : ∀ x ∈ l, Pu Try.prog pv [.agg [vi x.hour, vi x.b.lo, vi x.b.hi]] (.bool (f x))) :
    Pu Try.prog (.fn 141 [] []) [vD l, pv] (vi (sIdx f l)) := by
  refine Ev.fn Try.func141 rfl rfl (Fn.body tabOk Try.func141 rfl (Nat.le_of_ble_eq_true rfl) (Ks.ok (fz := (fzn [])) (cl := (cln [])) tabOk mixed ?_))
  generalize hQ : FnPost tt Try.f141 _ _ = Q
  simp only [Try.f141, List.nil_append, List.append_nil, List.cons_append, argsEnv, Nat.reduceAdd]
  simp only [gos, if_true, if_false, ne_eq, eq_self, Nat.reduceLT, Nat.reduceEqDiff, Nat.reduceAdd, Nat.reduceMul, Nat.reduceLeDiff, Nat.reduceBEq, reduceCtorEq, reduceIte, Array.toList, ↓reduceIte, tt, vgo, vout, vgoD, voutD, vclsOk, vids, mayWrite, V.ids, V.mids, vguard, callOf, vop, ev, cv, vbin, vint, isShift, isNilConst, vnil, isNilSlice, vload, vlen, newRow, vfill, vslice, entOf, vappend, srcOf, vcopy, vlookup, vupdate, mapOk, keyOf, intsOf, clsAt, vD]
  refine W.loop tabOk mixed (fun i : Nat => ([(0, vD l), (1, pv), (7, vi l.length), (8, vi i)], [])) (fun i => l.length - i) (fun i => i ≤ l.length ∧ ∀ (j : Nat) y, j < i → l[j]? = some y → f y = false) 0 ⟨by omega, by omega⟩ (Wk.env (by simp [subE, Env.get, vD])) ?_
  rintro i ⟨hi, hj⟩
  by_cases hil : (i : Int) < l.length
  · simp only [gos, if_true, if_false, ne_eq, eq_self, Nat.reduceLT, Nat.reduceEqDiff, Nat.reduceAdd, Nat.reduceMul, Nat.reduceLeDiff, Nat.reduceBEq, reduceCtorEq, reduceIte, Array.toList, ↓reduceIte, tt, vgo, vout, vgoD, voutD, vclsOk, vids, mayWrite, V.ids, V.mids, vguard, callOf, vop, ev, cv, vbin, vint, isShift, isNilConst, vnil, isNilSlice, vload, vlen, newRow, vfill, vslice, entOf, vappend, srcOf, vcopy, vlookup, vupdate, mapOk, keyOf, intsOf, clsAt, vD, hil, cD_at (Int.natCast_nonneg i) hil]
    refine Cl.pu (hf (gD l i) (List.mem_of_getElem? (gD_get hil))) ?_ hp (by simp only [V.into, intoL, cB_into, vB_into, cI_into, cR_into, cD_into, cS_into, vS_into, vI_into, vR_into, vD_into, cu_into, Bool.true_and, Bool.and_true])
    cases hfx : f (gD l i)
    · simp only [gos, if_true, if_false, ne_eq, eq_self, Nat.reduceLT, Nat.reduceEqDiff, Nat.reduceAdd, Nat.reduceMul, Nat.reduceLeDiff, Nat.reduceBEq, reduceCtorEq, reduceIte, Array.toList, ↓reduceIte, tt, vgo, vout, vgoD, voutD, vclsOk, vids, mayWrite, V.ids, V.mids, vguard, callOf, vop, ev, cv, vbin, vint, isShift, isNilConst, vnil, isNilSlice, vload, vlen, newRow, vfill, vslice, entOf, vappend, srcOf, vcopy, vlookup, vupdate, mapOk, keyOf, intsOf, clsAt]
      refine Nx.mk (i + 1) (show l.length - (i + 1) < l.length - i by omega) ⟨by omega, fun j y hlt hy => ?_⟩ (Wk.env (by simp [subE, Env.get, vD, i64_succ (show (i : Int) < 9223372036854775807 by omega)]))
      rcases Nat.lt_or_eq_of_le (Nat.le_of_lt_succ hlt) with h | rfl
      · exact hj j y h hy
      · rw [gD_get hil] at hy; injection hy with hy; rw [← hy]; exact hfx
    · simp only [gos, if_true, if_false, ne_eq, eq_self, Nat.reduceLT, Nat.reduceEqDiff, Nat.reduceAdd, Nat.reduceMul, Nat.reduceLeDiff, Nat.reduceBEq, reduceCtorEq, reduceIte, Array.toList, ↓reduceIte, tt, vgo, vout, vgoD, voutD, vclsOk, vids, mayWrite, V.ids, V.mids, vguard, callOf, vop, ev, cv, vbin, vint, isShift, isNilConst, vnil, isNilSlice, vload, vlen, newRow, vfill, vslice, entOf, vappend, srcOf, vcopy, vlookup, vupdate, mapOk, keyOf, intsOf, clsAt]
      subst hQ
      exact FnPost.plain trivial (fun h2 e => by first | rfl | (simp only [Try.f141, vres, vresL, vres1, e _, gos, if_true, if_false, ne_eq, eq_self, Nat.reduceLT, Nat.reduceEqDiff, Nat.reduceAdd, Nat.reduceMul, Nat.reduceLeDiff, Nat.reduceBEq, reduceCtorEq, reduceIte, Array.toList, ↓reduceIte, tt, vgo, vout, vgoD, voutD, vclsOk, vids, mayWrite, V.ids, V.mids, vguard, callOf, vop, ev, cv, vbin, vint, isShift, isNilConst, vnil, isNilSlice, vload, vlen, newRow, vfill, vslice, entOf, vappend, srcOf, vcopy, vlookup, vupdate, mapOk, keyOf, intsOf, clsAt]; try rfl)) (WkV.pure (by simp only [V.into, intoL, cB_into, vB_into, cI_into, cR_into, cD_into, cS_into, vS_into, vI_into, vR_into, vD_into, cu_into, Bool.true_and, Bool.and_true])) ⟨by rw [sIdx_some (gD_get hil) hfx hj], rfl⟩
  · simp only [gos, if_true, if_false, ne_eq, eq_self, Nat.reduceLT, Nat.reduceEqDiff, Nat.reduceAdd, Nat.reduceMul, Nat.reduceLeDiff, Nat.reduceBEq, reduceCtorEq, reduceIte, Array.toList, ↓reduceIte, tt, vgo, vout, vgoD, voutD, vclsOk, vids, mayWrite, V.ids, V.mids, vguard, callOf, vop, ev, cv, vbin, vint, isShift, isNilConst, vnil, isNilSlice, vload, vlen, newRow, vfill, vslice, entOf, vappend, srcOf, vcopy, vlookup, vupdate, mapOk, keyOf, intsOf, clsAt, vD, hil]
    subst hQ
    exact FnPost.plain trivial (fun h2 e => by first | rfl | (simp only [Try.f141, vres, vresL, vres1, e _, gos, if_true, if_false, ne_eq, eq_self, Nat.reduceLT, Nat.reduceEqDiff, Nat.reduceAdd, Nat.reduceMul, Nat.reduceLeDiff, Nat.reduceBEq, reduceCtorEq, reduceIte, Array.toList, ↓reduceIte, tt, vgo, vout, vgoD, voutD, vclsOk, vids, mayWrite, V.ids, V.mids, vguard, callOf, vop, ev, cv, vbin, vint, isShift, isNilConst, vnil, isNilSlice, vload, vlen, newRow, vfill, vslice, entOf, vappend, srcOf, vcopy, vlookup, vupdate, mapOk, keyOf, intsOf, clsAt]; try rfl)) (WkV.pure (by simp only [V.into, intoL, cB_into, vB_into, cI_into, cR_into, cD_into, cS_into, vS_into, vI_into, vR_into, vD_into, cu_into, Bool.true_and, Bool.and_true])) ⟨by rw [sIdx_none fun j y hy => hj j y (by have := (List.getElem?_eq_some_iff.1 hy).1; omega) hy], rfl⟩
theorem c_ContainsFunc_Rd (pv : V) (f : Rd → Bool) (l : List Rd) (hl : (l.length : Int) ≤ 1000000) (hp : pv.into (fun _ => false) = true) (hf : ∀ x ∈ l, Pu Try.prog pv [.agg [vi x.hour, vi x.b.lo, vi x.b.hi]] (.bool (f x))) :
    Pu Try.prog (.fn 129 [] []) [vD l, pv] (.bool (l.any f)) := by
  refine Ev.fn Try.func129 rfl rfl (Fn.body tabOk Try.func129 rfl (Nat.le_of_ble_eq_true rfl) (Ks.ok (fz := (fzn [])) (cl := (cln [])) tabOk mixed ?_))
  generalize hQ : FnPost tt Try.f129 _ _ = Q
  simp only [Try.f129, List.nil_append, List.append_nil, List.cons_append, argsEnv, Nat.reduceAdd]
  simp only [gos, if_true, if_false, ne_eq, eq_self, Nat.reduceLT, Nat.reduceEqDiff, Nat.reduceAdd, Nat.reduceMul, Nat.reduceLeDiff, Nat.reduceBEq, reduceCtorEq, reduceIte, Array.toList, ↓reduceIte, tt, vgo, vout, vgoD, voutD, vclsOk, vids, mayWrite, V.ids, V.mids, vguard, callOf, vop, ev, cv, vbin, vint, isShift, isNilConst, vnil, isNilSlice, vload, vlen, newRow, vfill, vslice, entOf, vappend, srcOf, vcopy, vlookup, vupdate, mapOk, keyOf, intsOf, clsAt]
  refine Cl.pu (c_IndexFunc_Rd pv f l hl hp hf) ?_ rfl (by simp only [V.into, intoL, cB_into, vB_into, cI_into, cR_into, cD_into, cS_into, vS_into, vI_into, vR_into, vD_into, cu_into, Bool.true_and, Bool.and_true, hp])
  simp only [gos, if_true, if_false, ne_eq, eq_self, Nat.reduceLT, Nat.reduceEqDiff, Nat.reduceAdd, Nat.reduceMul, Nat.reduceLeDiff, Nat.reduceBEq, reduceCtorEq, reduceIte, Array.toList, ↓reduceIte, tt, vgo, vout, vgoD, voutD, vclsOk, vids, mayWrite, V.ids, V.mids, vguard, callOf, vop, ev, cv, vbin, vint, isShift, isNilConst, vnil, isNilSlice, vload, vlen, newRow, vfill, vslice, entOf, vappend, srcOf, vcopy, vlookup, vupdate, mapOk, keyOf, intsOf, clsAt]
  subst hQ
  exact FnPost.plain trivial (fun h2 e => by first | rfl | (simp only [Try.f129, vres, vresL, vres1, e _, gos, if_true, if_false, ne_eq, eq_self, Nat.reduceLT, Nat.reduceEqDiff, Nat.reduceAdd, Nat.reduceMul, Nat.reduceLeDiff, Nat.reduceBEq, reduceCtorEq, reduceIte, Array.toList, ↓reduceIte, tt, vgo, vout, vgoD, voutD, vclsOk, vids, mayWrite, V.ids, V.mids, vguard, callOf, vop, ev, cv, vbin, vint, isShift, isNilConst, vnil, isNilSlice, vload, vlen, newRow, vfill, vslice, entOf, vappend, srcOf, vcopy, vlookup, vupdate, mapOk, keyOf, intsOf, clsAt]; try rfl)) (WkV.pure (by simp only [V.into, intoL, cB_into, vB_into, cI_into, cR_into, cD_into, cS_into, vS_into, vI_into, vR_into, vD_into, cu_into, Bool.true_and, Bool.and_true])) ⟨by rw [← sIdx_any], rfl⟩
theorem c_all1_Rd (pv : V) (f : Rd → Bool) (x : Rd) (hp : pv.into (fun _ => false) = true) (hf : Pu Try.prog pv [.agg [vi x.hour, vi x.b.lo, vi x.b.hi]] (.bool (f x))) :
    Pu Try.prog (.fn 130 [] [.rop [pv]]) [.agg [vi x.hour, vi x.b.lo, vi x.b.hi]] (.bool (!f x)) := by
  refine Ev.fn Try.func130 rfl rfl (Fn.body tabOk Try.func130 rfl (Nat.le_of_ble_eq_true rfl) (Ks.ok (fz := (fzn [])) (cl := (cln [])) tabOk mixed ?_))
  generalize hQ : FnPost tt Try.f130 _ _ = Q
  simp only [Try.f130, List.nil_append, List.append_nil, List.cons_append, argsEnv, Nat.reduceAdd]
  simp only [gos, if_true, if_false, ne_eq, eq_self, Nat.reduceLT, Nat.reduceEqDiff, Nat.reduceAdd, Nat.reduceMul, Nat.reduceLeDiff, Nat.reduceBEq, reduceCtorEq, reduceIte, Array.toList, ↓reduceIte, tt, vgo, vout, vgoD, voutD, vclsOk, vids, mayWrite, V.ids, V.mids, vguard, callOf, vop, ev, cv, vbin, vint, isShift, isNilConst, vnil, isNilSlice, vload, vlen, newRow, vfill, vslice, entOf, vappend, srcOf, vcopy, vlookup, vupdate, mapOk, keyOf, intsOf, clsAt]
  refine Cl.pu hf ?_ hp (by simp only [V.into, intoL, cB_into, vB_into, cI_into, cR_into, cD_into, cS_into, vS_into, vI_into, vR_into, vD_into, cu_into, Bool.true_and, Bool.and_true])
  simp only [gos, if_true, if_false, ne_eq, eq_self, Nat.reduceLT, Nat.reduceEqDiff, Nat.reduceAdd, Nat.reduceMul, Nat.reduceLeDiff, Nat.reduceBEq, reduceCtorEq, reduceIte, Array.toList, ↓reduceIte, tt, vgo, vout, vgoD, voutD, vclsOk, vids, mayWrite, V.ids, V.mids, vguard, callOf, vop, ev, cv, vbin, vint, isShift, isNilConst, vnil, isNilSlice, vload, vlen, newRow, vfill, vslice, entOf, vappend, srcOf, vcopy, vlookup, vupdate, mapOk, keyOf, intsOf, clsAt]
  subst hQ
  exact FnPost.plain trivial (fun h2 e => by first | rfl | (simp only [Try.f130, vres, vresL, vres1, e _, gos, if_true, if_false, ne_eq, eq_self, Nat.reduceLT, Nat.reduceEqDiff, Nat.reduceAdd, Nat.reduceMul, Nat.reduceLeDiff, Nat.reduceBEq, reduceCtorEq, reduceIte, Array.toList, ↓reduceIte, tt, vgo, vout, vgoD, voutD, vclsOk, vids, mayWrite, V.ids, V.mids, vguard, callOf, vop, ev, cv, vbin, vint, isShift, isNilConst, vnil, isNilSlice, vload, vlen, newRow, vfill, vslice, entOf, vappend, srcOf, vcopy, vlookup, vupdate, mapOk, keyOf, intsOf, clsAt]; try rfl)) (WkV.pure (by simp only [V.into, intoL, cB_into, vB_into, cI_into, cR_into, cD_into, cS_into, vS_into, vI_into, vR_into, vD_into, cu_into, Bool.true_and, Bool.and_true])) ⟨rfl, rfl⟩
theorem c_all_Rd (pf : FuncId) (pa pc : List V) (f : Rd → Bool) (l : List Rd) (hl : (l.length : Int) ≤ 1000000) (ha : intoL (fun _ => false) pa = true) (hp : intoL (fun _ => false) pc = true) (hf : ∀ x ∈ l, Pu Try.prog (.fn pf pa pc) [.agg [vi x.hour, vi x.b.lo, vi x.b.hi]] (.bool (f x))) :
    Pu Try.prog (.fn 108 [] []) [vD l, .fn pf pa pc] (.bool (l.all f)) := by
  refine Ev.fn Try.func108 rfl rfl (Fn.body tabOk Try.func108 rfl (Nat.le_of_ble_eq_true rfl) (Ks.ok (fz := (fzn [])) (cl := (cln [])) tabOk mixed ?_))
  generalize hQ : FnPost tt Try.f108 _ _ = Q
  simp only [Try.f108, List.nil_append, List.append_nil, List.cons_append, argsEnv, Nat.reduceAdd]
  simp only [gos, if_true, if_false, ne_eq, eq_self, Nat.reduceLT, Nat.reduceEqDiff, Nat.reduceAdd, Nat.reduceMul, Nat.reduceLeDiff, Nat.reduceBEq, reduceCtorEq, reduceIte, Array.toList, ↓reduceIte, tt, vgo, vout, vgoD, voutD, vclsOk, vids, mayWrite, V.ids, V.mids, vguard, callOf, vop, ev, cv, vbin, vint, isShift, isNilConst, vnil, isNilSlice, vload, vlen, newRow, vfill, vslice, entOf, vappend, srcOf, vcopy, vlookup, vupdate, mapOk, keyOf, intsOf, clsAt]
  refine Cl.pu (c_ContainsFunc_Rd (.fn 130 [] [.rop [.fn pf pa pc]]) (fun x => !f x) l hl (by simp only [V.into, intoL, cB_into, vB_into, cI_into, cR_into, cD_into, cS_into, vS_into, vI_into, vR_into, vD_into, cu_into, Bool.true_and, Bool.and_true, hp, ha]) fun x hx => c_all1_Rd (.fn pf pa pc) f x (by simp only [V.into, intoL, cB_into, vB_into, cI_into, cR_into, cD_into, cS_into, vS_into, vI_into, vR_into, vD_into, cu_into, Bool.true_and, Bool.and_true, hp, ha]) (hf x hx)) ?_ rfl (by simp only [V.into, intoL, cB_into, vB_into, cI_into, cR_into, cD_into, cS_into, vS_into, vI_into, vR_into, vD_into, cu_into, Bool.true_and, Bool.and_true, hp, ha])
  simp only [gos, if_true, if_false, ne_eq, eq_self, Nat.reduceLT, Nat.reduceEqDiff, Nat.reduceAdd, Nat.reduceMul, Nat.reduceLeDiff, Nat.reduceBEq, reduceCtorEq, reduceIte, Array.toList, ↓reduceIte, tt, vgo, vout, vgoD, voutD, vclsOk, vids, mayWrite, V.ids, V.mids, vguard, callOf, vop, ev, cv, vbin, vint, isShift, isNilConst, vnil, isNilSlice, vload, vlen, newRow, vfill, vslice, entOf, vappend, srcOf, vcopy, vlookup, vupdate, mapOk, keyOf, intsOf, clsAt]
  subst hQ
  exact FnPost.plain trivial (fun h2 e => by first | rfl | (simp only [Try.f108, vres, vresL, vres1, e _, gos, if_true, if_false, ne_eq, eq_self, Nat.reduceLT, Nat.reduceEqDiff, Nat.reduceAdd, Nat.reduceMul, Nat.reduceLeDiff, Nat.reduceBEq, reduceCtorEq, reduceIte, Array.toList, ↓reduceIte, tt, vgo, vout, vgoD, voutD, vclsOk, vids, mayWrite, V.ids, V.mids, vguard, callOf, vop, ev, cv, vbin, vint, isShift, isNilConst, vnil, isNilSlice, vload, vlen, newRow, vfill, vslice, entOf, vappend, srcOf, vcopy, vlookup, vupdate, mapOk, keyOf, intsOf, clsAt]; try rfl)) (WkV.pure (by simp only [V.into, intoL, cB_into, vB_into, cI_into, cR_into, cD_into, cS_into, vS_into, vI_into, vR_into, vD_into, cu_into, Bool.true_and, Bool.and_true])) ⟨by rw [List.all_eq_not_any_not], rfl⟩
end Go.Vm
set_option linter.unusedVariables false
set_option linter.unusedSimpArgs false
set_option maxRecDepth 100000
namespace Go.Vm
open Go.Proofs
theorem len_wrap {k : Nat} {n : Int} (hn : I64 n) (hk : (k : Int) ≤ 1000000) : ((k : Int) = IntKind.i64.wrap (n + 1)) = ((k : Int) = n + 1) := by
  unfold I64 at hn
  by_cases h : n = 9223372036854775807
  · subst h
    have : IntKind.i64.wrap (9223372036854775807 + 1) = -9223372036854775808 := by decide
    rw [this]
    exact propext ⟨fun e => by omega, fun e => by omega⟩
  · rw [i64_in (by omega) (by omega)]
def sIsCoal (c : Cu) (l : List Int) : Bool := decide ((l.length : Int) = c.last + 1) && l.all fun n => sIn n 0 c.shovels
def sPromised (c : Cu) (l : List Int) : Bool := decide ((l.length : Int) = c.last + 1) && l.all fun n => sIn n 0 20
theorem c_isCoal1 (c : Cu) (n : Int) : Pu Try.prog (.fn 126 [] [.rop c.cs]) [vi n] (.bool (sIn n 0 c.shovels)) := by
  refine Ev.fn Try.func126 rfl rfl (Fn.body tabOk Try.func126 rfl (Nat.le_of_ble_eq_true rfl) (Ks.ok (fz := (fzn [])) (cl := (cln [])) tabOk mixed ?_))
  generalize hQ : FnPost tt Try.f126 _ _ = Q
  simp only [Try.f126, List.nil_append, List.append_nil, List.cons_append, argsEnv, Nat.reduceAdd]
  simp only [gos, if_true, if_false, ne_eq, eq_self, Nat.reduceLT, Nat.reduceEqDiff, Nat.reduceAdd, Nat.reduceMul, Nat.reduceLeDiff, Nat.reduceBEq, reduceCtorEq, reduceIte, Array.toList, ↓reduceIte, tt, vgo, vout, vgoD, voutD, vclsOk, vids, mayWrite, V.ids, V.mids, vguard, callOf, vop, ev, cv, vbin, vint, isShift, isNilConst, vnil, isNilSlice, vload, vlen, newRow, vfill, vslice, entOf, vappend, srcOf, vcopy, vlookup, vupdate, mapOk, keyOf, intsOf, clsAt]
  refine Cl.pu (c_within _ _ _) ?_
  simp only [gos, if_true, if_false, ne_eq, eq_self, Nat.reduceLT, Nat.reduceEqDiff, Nat.reduceAdd, Nat.reduceMul, Nat.reduceLeDiff, Nat.reduceBEq, reduceCtorEq, reduceIte, Array.toList, ↓reduceIte, tt, vgo, vout, vgoD, voutD, vclsOk, vids, mayWrite, V.ids, V.mids, vguard, callOf, vop, ev, cv, vbin, vint, isShift, isNilConst, vnil, isNilSlice, vload, vlen, newRow, vfill, vslice, entOf, vappend, srcOf, vcopy, vlookup, vupdate, mapOk, keyOf, intsOf, clsAt]
  subst hQ
  exact FnPost.plain trivial (fun h2 e => by first | rfl | (simp only [Try.f126, vres, vresL, vres1, e _, gos, if_true, if_false, ne_eq, eq_self, Nat.reduceLT, Nat.reduceEqDiff, Nat.reduceAdd, Nat.reduceMul, Nat.reduceLeDiff, Nat.reduceBEq, reduceCtorEq, reduceIte, Array.toList, ↓reduceIte, tt, vgo, vout, vgoD, voutD, vclsOk, vids, mayWrite, V.ids, V.mids, vguard, callOf, vop, ev, cv, vbin, vint, isShift, isNilConst, vnil, isNilSlice, vload, vlen, newRow, vfill, vslice, entOf, vappend, srcOf, vcopy, vlookup, vupdate, mapOk, keyOf, intsOf, clsAt]; try rfl)) (WkV.pure (by simp only [V.into, intoL, cB_into, vB_into, cI_into, cR_into, cD_into, cS_into, vS_into, vI_into, vR_into, vD_into, cu_into, Bool.true_and, Bool.and_true])) ⟨rfl, rfl⟩
theorem c_isCoal (c : Cu) (l : List Int) (hc : I64 c.last) (hl : (l.length : Int) ≤ 1000000) : Pu Try.prog (.fn 104 [] []) [.agg c.cs, vI l] (.bool (sIsCoal c l)) := by
  refine Ev.fn Try.func104 rfl rfl (Fn.body tabOk Try.func104 rfl (Nat.le_of_ble_eq_true rfl) (Ks.ok (fz := (fzn [])) (cl := (cln [])) tabOk mixed ?_))
  generalize hQ : FnPost tt Try.f104 _ _ = Q
  simp only [Try.f104, List.nil_append, List.append_nil, List.cons_append, argsEnv, Nat.reduceAdd]
  by_cases h : (l.length : Int) = c.last + 1
  · have hb : decide ((l.length : Int) = IntKind.i64.wrap (c.last + 1)) = true := by rw [decide_eq_true_eq, len_wrap hc hl]; exact h
    simp only [gos, if_true, if_false, ne_eq, eq_self, Nat.reduceLT, Nat.reduceEqDiff, Nat.reduceAdd, Nat.reduceMul, Nat.reduceLeDiff, Nat.reduceBEq, reduceCtorEq, reduceIte, Array.toList, ↓reduceIte, tt, vgo, vout, vgoD, voutD, vclsOk, vids, mayWrite, V.ids, V.mids, vguard, callOf, vop, ev, cv, vbin, vint, isShift, isNilConst, vnil, isNilSlice, vload, vlen, newRow, vfill, vslice, entOf, vappend, srcOf, vcopy, vlookup, vupdate, mapOk, keyOf, intsOf, clsAt, vI, hb]
    refine Cl.pu (c_all_int _ [] [.rop c.cs] (fun n => sIn n 0 c.shovels) l hl rfl (by simp only [V.into, intoL, cB_into, vB_into, cI_into, cR_into, cD_into, cS_into, vS_into, vI_into, vR_into, vD_into, cu_into, Bool.true_and, Bool.and_true]) fun x _ => c_isCoal1 c x) ?_ (by simp only [V.into, intoL, cB_into, vB_into, cI_into, cR_into, cD_into, cS_into, vS_into, vI_into, vR_into, vD_into, cu_into, Bool.true_and, Bool.and_true]) (by simp only [V.into, intoL, cB_into, vB_into, cI_into, cR_into, cD_into, cS_into, vS_into, vI_into, vR_into, vD_into, cu_into, Bool.true_and, Bool.and_true])
    simp only [gos, if_true, if_false, ne_eq, eq_self, Nat.reduceLT, Nat.reduceEqDiff, Nat.reduceAdd, Nat.reduceMul, Nat.reduceLeDiff, Nat.reduceBEq, reduceCtorEq, reduceIte, Array.toList, ↓reduceIte, tt, vgo, vout, vgoD, voutD, vclsOk, vids, mayWrite, V.ids, V.mids, vguard, callOf, vop, ev, cv, vbin, vint, isShift, isNilConst, vnil, isNilSlice, vload, vlen, newRow, vfill, vslice, entOf, vappend, srcOf, vcopy, vlookup, vupdate, mapOk, keyOf, intsOf, clsAt]
    subst hQ
    exact FnPost.plain trivial (fun h2 e => by first | rfl | (simp only [Try.f104, vres, vresL, vres1, e _, gos, if_true, if_false, ne_eq, eq_self, Nat.reduceLT, Nat.reduceEqDiff, Nat.reduceAdd, Nat.reduceMul, Nat.reduceLeDiff, Nat.reduceBEq, reduceCtorEq, reduceIte, Array.toList, ↓reduceIte, tt, vgo, vout, vgoD, voutD, vclsOk, vids, mayWrite, V.ids, V.mids, vguard, callOf, vop, ev, cv, vbin, vint, isShift, isNilConst, vnil, isNilSlice, vload, vlen, newRow, vfill, vslice, entOf, vappend, srcOf, vcopy, vlookup, vupdate, mapOk, keyOf, intsOf, clsAt]; try rfl)) (WkV.pure (by simp only [V.into, intoL, cB_into, vB_into, cI_into, cR_into, cD_into, cS_into, vS_into, vI_into, vR_into, vD_into, cu_into, Bool.true_and, Bool.and_true])) ⟨by simp only [sIsCoal, h, decide_true, Bool.true_and], rfl⟩
  · have hb : decide ((l.length : Int) = IntKind.i64.wrap (c.last + 1)) = false := by rw [decide_eq_false_iff_not, len_wrap hc hl]; exact h
    simp only [gos, if_true, if_false, ne_eq, eq_self, Nat.reduceLT, Nat.reduceEqDiff, Nat.reduceAdd, Nat.reduceMul, Nat.reduceLeDiff, Nat.reduceBEq, reduceCtorEq, reduceIte, Array.toList, ↓reduceIte, tt, vgo, vout, vgoD, voutD, vclsOk, vids, mayWrite, V.ids, V.mids, vguard, callOf, vop, ev, cv, vbin, vint, isShift, isNilConst, vnil, isNilSlice, vload, vlen, newRow, vfill, vslice, entOf, vappend, srcOf, vcopy, vlookup, vupdate, mapOk, keyOf, intsOf, clsAt, vI, hb]
    subst hQ
    exact FnPost.plain trivial (fun h2 e => by first | rfl | (simp only [Try.f104, vres, vresL, vres1, e _, gos, if_true, if_false, ne_eq, eq_self, Nat.reduceLT, Nat.reduceEqDiff, Nat.reduceAdd, Nat.reduceMul, Nat.reduceLeDiff, Nat.reduceBEq, reduceCtorEq, reduceIte, Array.toList, ↓reduceIte, tt, vgo, vout, vgoD, voutD, vclsOk, vids, mayWrite, V.ids, V.mids, vguard, callOf, vop, ev, cv, vbin, vint, isShift, isNilConst, vnil, isNilSlice, vload, vlen, newRow, vfill, vslice, entOf, vappend, srcOf, vcopy, vlookup, vupdate, mapOk, keyOf, intsOf, clsAt]; try rfl)) (WkV.pure (by simp only [V.into, intoL, cB_into, vB_into, cI_into, cR_into, cD_into, cS_into, vS_into, vI_into, vR_into, vD_into, cu_into, Bool.true_and, Bool.and_true])) ⟨by simp only [sIsCoal, h, decide_false, Bool.false_and], rfl⟩
theorem c_promised (c : Cu) (l : List Int) (hc : I64 c.last) (hl : (l.length : Int) ≤ 1000000) : Pu Try.prog (.fn 85 [] []) [.agg c.cs, vI l] (.bool (sPromised c l)) := by
  refine Ev.fn Try.func85 rfl rfl (Fn.body tabOk Try.func85 rfl (Nat.le_of_ble_eq_true rfl) (Ks.ok (fz := (fzn [])) (cl := (cln [])) tabOk mixed ?_))
  generalize hQ : FnPost tt Try.f85 _ _ = Q
  simp only [Try.f85, List.nil_append, List.append_nil, List.cons_append, argsEnv, Nat.reduceAdd]
  by_cases h : (l.length : Int) = c.last + 1
  · have hb : decide ((l.length : Int) = IntKind.i64.wrap (c.last + 1)) = true := by rw [decide_eq_true_eq, len_wrap hc hl]; exact h
    simp only [gos, if_true, if_false, ne_eq, eq_self, Nat.reduceLT, Nat.reduceEqDiff, Nat.reduceAdd, Nat.reduceMul, Nat.reduceLeDiff, Nat.reduceBEq, reduceCtorEq, reduceIte, Array.toList, ↓reduceIte, tt, vgo, vout, vgoD, voutD, vclsOk, vids, mayWrite, V.ids, V.mids, vguard, callOf, vop, ev, cv, vbin, vint, isShift, isNilConst, vnil, isNilSlice, vload, vlen, newRow, vfill, vslice, entOf, vappend, srcOf, vcopy, vlookup, vupdate, mapOk, keyOf, intsOf, clsAt, vI, hb]
    refine Cl.pu (c_all_int _ [] [] (fun n => sIn n 0 20) l hl rfl rfl fun x _ => c_buckets x) ?_ rfl (by simp only [V.into, intoL, cB_into, vB_into, cI_into, cR_into, cD_into, cS_into, vS_into, vI_into, vR_into, vD_into, cu_into, Bool.true_and, Bool.and_true])
    simp only [gos, if_true, if_false, ne_eq, eq_self, Nat.reduceLT, Nat.reduceEqDiff, Nat.reduceAdd, Nat.reduceMul, Nat.reduceLeDiff, Nat.reduceBEq, reduceCtorEq, reduceIte, Array.toList, ↓reduceIte, tt, vgo, vout, vgoD, voutD, vclsOk, vids, mayWrite, V.ids, V.mids, vguard, callOf, vop, ev, cv, vbin, vint, isShift, isNilConst, vnil, isNilSlice, vload, vlen, newRow, vfill, vslice, entOf, vappend, srcOf, vcopy, vlookup, vupdate, mapOk, keyOf, intsOf, clsAt]
    subst hQ
    exact FnPost.plain trivial (fun h2 e => by first | rfl | (simp only [Try.f85, vres, vresL, vres1, e _, gos, if_true, if_false, ne_eq, eq_self, Nat.reduceLT, Nat.reduceEqDiff, Nat.reduceAdd, Nat.reduceMul, Nat.reduceLeDiff, Nat.reduceBEq, reduceCtorEq, reduceIte, Array.toList, ↓reduceIte, tt, vgo, vout, vgoD, voutD, vclsOk, vids, mayWrite, V.ids, V.mids, vguard, callOf, vop, ev, cv, vbin, vint, isShift, isNilConst, vnil, isNilSlice, vload, vlen, newRow, vfill, vslice, entOf, vappend, srcOf, vcopy, vlookup, vupdate, mapOk, keyOf, intsOf, clsAt]; try rfl)) (WkV.pure (by simp only [V.into, intoL, cB_into, vB_into, cI_into, cR_into, cD_into, cS_into, vS_into, vI_into, vR_into, vD_into, cu_into, Bool.true_and, Bool.and_true])) ⟨by simp only [sPromised, h, decide_true, Bool.true_and], rfl⟩
  · have hb : decide ((l.length : Int) = IntKind.i64.wrap (c.last + 1)) = false := by rw [decide_eq_false_iff_not, len_wrap hc hl]; exact h
    simp only [gos, if_true, if_false, ne_eq, eq_self, Nat.reduceLT, Nat.reduceEqDiff, Nat.reduceAdd, Nat.reduceMul, Nat.reduceLeDiff, Nat.reduceBEq, reduceCtorEq, reduceIte, Array.toList, ↓reduceIte, tt, vgo, vout, vgoD, voutD, vclsOk, vids, mayWrite, V.ids, V.mids, vguard, callOf, vop, ev, cv, vbin, vint, isShift, isNilConst, vnil, isNilSlice, vload, vlen, newRow, vfill, vslice, entOf, vappend, srcOf, vcopy, vlookup, vupdate, mapOk, keyOf, intsOf, clsAt, vI, hb]
    subst hQ
    exact FnPost.plain trivial (fun h2 e => by first | rfl | (simp only [Try.f85, vres, vresL, vres1, e _, gos, if_true, if_false, ne_eq, eq_self, Nat.reduceLT, Nat.reduceEqDiff, Nat.reduceAdd, Nat.reduceMul, Nat.reduceLeDiff, Nat.reduceBEq, reduceCtorEq, reduceIte, Array.toList, ↓reduceIte, tt, vgo, vout, vgoD, voutD, vclsOk, vids, mayWrite, V.ids, V.mids, vguard, callOf, vop, ev, cv, vbin, vint, isShift, isNilConst, vnil, isNilSlice, vload, vlen, newRow, vfill, vslice, entOf, vappend, srcOf, vcopy, vlookup, vupdate, mapOk, keyOf, intsOf, clsAt]; try rfl)) (WkV.pure (by simp only [V.into, intoL, cB_into, vB_into, cI_into, cR_into, cD_into, cS_into, vS_into, vI_into, vR_into, vD_into, cu_into, Bool.true_and, Bool.and_true])) ⟨by simp only [sPromised, h, decide_false, Bool.false_and], rfl⟩
/-- Lists as long as memory may hold them here. -/
structure Cu.wf (c : Cu) : Prop where
  last : I64 c.last
  coal : (c.coal.length : Int) ≤ 1000000
  want : (c.want.length : Int) ≤ 1000000
  loss : (c.loss.length : Int) ≤ 1000000
  readings : (c.readings.length : Int) ≤ 1000000
def sBad1 (c : Cu) : Bool := decide (c.last < 0) || !sIn c.start 0 c.most || decide (999 < c.most) || !sIn c.per 1 20 || !sIn c.shovels 0 3
def sBad2 (c : Cu) : Bool := !sIsCoal c c.coal || !sPromised c c.want || !sInside c.heat 99 || decide ((c.loss.length : Int) ≠ c.last + 1) || !(c.loss.all fun r => sInside r 99) || !(c.readings.all fun r => sReading c r)
def sManyL (n : Int) (l : List Rg) : Int := l.foldl (fun m r => min (m * sSize r) 2001) n
def sMany (c : Cu) : Int := sManyL (sSize c.heat) c.loss
def sCheck (c : Cu) : Int :=
  if 4 < c.last ∨ 5 < (c.readings.length : Int) then 3 else if sBad1 c = true then 1 else if sBad2 c = true then 1 else if 2000 < sMany c then 3 else 0
theorem sManyL_succ {l : List Rg} {n : Int} {i : Nat} (hi : (i : Int) < l.length) : sManyL n (l.take (i + 1)) = min (sManyL n (l.take i) * sSize (gR l i)) 2001 := by
  have e : l.take (i + 1) = l.take i ++ [gR l i] := by
    rw [List.take_add_one, gR_get hi]; rfl
  rw [e, sManyL, List.foldl_append]; rfl
theorem size_le {r : Rg} (h : sInside r 99 = true) : 1 ≤ sSize r ∧ sSize r ≤ 100 ∧ 0 ≤ r.hi - r.lo ∧ r.hi - r.lo ≤ 99 := by
  simp only [sInside, Bool.and_eq_true, decide_eq_true_eq] at h
  unfold sSize; omega
theorem sManyL_le {n : Int} (hn : 1 ≤ n ∧ n ≤ 2001) : ∀ {l : List Rg}, (∀ r ∈ l, sInside r 99 = true) → 1 ≤ sManyL n l ∧ sManyL n l ≤ 2001
  | [], _ => hn
  | r :: l, h => by
    have h1 := size_le (h r (by simp))
    refine sManyL_le (n := min (n * sSize r) 2001) ⟨?_, by omega⟩ fun x hx => h x (by simp [hx])
    have : 1 * 1 ≤ n * sSize r := Int.mul_le_mul hn.1 h1.1 (by omega) (by omega)
    omega
set_option maxHeartbeats 2000000 in
theorem c_Check (c : Cu) (hc : c.wf) : Pu Try.prog (.fn 59 [] []) [.agg c.cs] (vi (sCheck c)) := by
  refine Ev.fn Try.func59 rfl rfl (Fn.body tabOk Try.func59 rfl (Nat.le_of_ble_eq_true rfl) (Ks.ok (fz := (fzn [6])) (cl := (cln [])) tabOk mixed ?_))
  generalize hQ : FnPost tt Try.f59 _ _ = Q
  simp only [Try.f59, List.nil_append, List.append_nil, List.cons_append, argsEnv, Nat.reduceAdd]
  have hin : intoL (fun _ => false) [V.agg c.cs] = true := by simp only [V.into, intoL, cB_into, vB_into, cI_into, cR_into, cD_into, cS_into, vS_into, vI_into, vR_into, vD_into, cu_into, Bool.true_and, Bool.and_true]
  have hin2 : ∀ v, intoL (fun _ => false) [V.agg c.cs, vi v] = true := fun v => by simp only [V.into, intoL, cB_into, vB_into, cI_into, cR_into, cD_into, cS_into, vS_into, vI_into, vR_into, vD_into, cu_into, Bool.true_and, Bool.and_true]
  by_cases h1 : 4 < c.last
  · simp only [gos, if_true, if_false, ne_eq, eq_self, Nat.reduceLT, Nat.reduceEqDiff, Nat.reduceAdd, Nat.reduceMul, Nat.reduceLeDiff, Nat.reduceBEq, reduceCtorEq, reduceIte, Array.toList, ↓reduceIte, tt, vgo, vout, vgoD, voutD, vclsOk, vids, mayWrite, V.ids, V.mids, vguard, callOf, vop, ev, cv, vbin, vint, isShift, isNilConst, vnil, isNilSlice, vload, vlen, newRow, vfill, vslice, entOf, vappend, srcOf, vcopy, vlookup, vupdate, mapOk, keyOf, intsOf, clsAt, h1]
    subst hQ
    exact FnPost.plain trivial (fun h2 e => by first | rfl | (simp only [Try.f59, vres, vresL, vres1, e _, gos, if_true, if_false, ne_eq, eq_self, Nat.reduceLT, Nat.reduceEqDiff, Nat.reduceAdd, Nat.reduceMul, Nat.reduceLeDiff, Nat.reduceBEq, reduceCtorEq, reduceIte, Array.toList, ↓reduceIte, tt, vgo, vout, vgoD, voutD, vclsOk, vids, mayWrite, V.ids, V.mids, vguard, callOf, vop, ev, cv, vbin, vint, isShift, isNilConst, vnil, isNilSlice, vload, vlen, newRow, vfill, vslice, entOf, vappend, srcOf, vcopy, vlookup, vupdate, mapOk, keyOf, intsOf, clsAt]; try rfl)) (WkV.pure (by simp only [V.into, intoL, cB_into, vB_into, cI_into, cR_into, cD_into, cS_into, vS_into, vI_into, vR_into, vD_into, cu_into, Bool.true_and, Bool.and_true])) ⟨by simp [sCheck, h1], rfl⟩
  by_cases h2 : 5 < (c.readings.length : Int)
  · simp only [gos, if_true, if_false, ne_eq, eq_self, Nat.reduceLT, Nat.reduceEqDiff, Nat.reduceAdd, Nat.reduceMul, Nat.reduceLeDiff, Nat.reduceBEq, reduceCtorEq, reduceIte, Array.toList, ↓reduceIte, tt, vgo, vout, vgoD, voutD, vclsOk, vids, mayWrite, V.ids, V.mids, vguard, callOf, vop, ev, cv, vbin, vint, isShift, isNilConst, vnil, isNilSlice, vload, vlen, newRow, vfill, vslice, entOf, vappend, srcOf, vcopy, vlookup, vupdate, mapOk, keyOf, intsOf, clsAt, h1, h2, vD]
    subst hQ
    exact FnPost.plain trivial (fun h2 e => by first | rfl | (simp only [Try.f59, vres, vresL, vres1, e _, gos, if_true, if_false, ne_eq, eq_self, Nat.reduceLT, Nat.reduceEqDiff, Nat.reduceAdd, Nat.reduceMul, Nat.reduceLeDiff, Nat.reduceBEq, reduceCtorEq, reduceIte, Array.toList, ↓reduceIte, tt, vgo, vout, vgoD, voutD, vclsOk, vids, mayWrite, V.ids, V.mids, vguard, callOf, vop, ev, cv, vbin, vint, isShift, isNilConst, vnil, isNilSlice, vload, vlen, newRow, vfill, vslice, entOf, vappend, srcOf, vcopy, vlookup, vupdate, mapOk, keyOf, intsOf, clsAt]; try rfl)) (WkV.pure (by simp only [V.into, intoL, cB_into, vB_into, cI_into, cR_into, cD_into, cS_into, vS_into, vI_into, vR_into, vD_into, cu_into, Bool.true_and, Bool.and_true])) ⟨by simp [sCheck, h1, h2], rfl⟩
  by_cases h3 : c.last < 0
  · simp only [gos, if_true, if_false, ne_eq, eq_self, Nat.reduceLT, Nat.reduceEqDiff, Nat.reduceAdd, Nat.reduceMul, Nat.reduceLeDiff, Nat.reduceBEq, reduceCtorEq, reduceIte, Array.toList, ↓reduceIte, tt, vgo, vout, vgoD, voutD, vclsOk, vids, mayWrite, V.ids, V.mids, vguard, callOf, vop, ev, cv, vbin, vint, isShift, isNilConst, vnil, isNilSlice, vload, vlen, newRow, vfill, vslice, entOf, vappend, srcOf, vcopy, vlookup, vupdate, mapOk, keyOf, intsOf, clsAt, h1, h2, h3, vD]
    subst hQ
    exact FnPost.plain trivial (fun h2 e => by first | rfl | (simp only [Try.f59, vres, vresL, vres1, e _, gos, if_true, if_false, ne_eq, eq_self, Nat.reduceLT, Nat.reduceEqDiff, Nat.reduceAdd, Nat.reduceMul, Nat.reduceLeDiff, Nat.reduceBEq, reduceCtorEq, reduceIte, Array.toList, ↓reduceIte, tt, vgo, vout, vgoD, voutD, vclsOk, vids, mayWrite, V.ids, V.mids, vguard, callOf, vop, ev, cv, vbin, vint, isShift, isNilConst, vnil, isNilSlice, vload, vlen, newRow, vfill, vslice, entOf, vappend, srcOf, vcopy, vlookup, vupdate, mapOk, keyOf, intsOf, clsAt]; try rfl)) (WkV.pure (by simp only [V.into, intoL, cB_into, vB_into, cI_into, cR_into, cD_into, cS_into, vS_into, vI_into, vR_into, vD_into, cu_into, Bool.true_and, Bool.and_true])) ⟨by simp [sCheck, sBad1, h1, h2, h3], rfl⟩
  simp only [gos, if_true, if_false, ne_eq, eq_self, Nat.reduceLT, Nat.reduceEqDiff, Nat.reduceAdd, Nat.reduceMul, Nat.reduceLeDiff, Nat.reduceBEq, reduceCtorEq, reduceIte, Array.toList, ↓reduceIte, tt, vgo, vout, vgoD, voutD, vclsOk, vids, mayWrite, V.ids, V.mids, vguard, callOf, vop, ev, cv, vbin, vint, isShift, isNilConst, vnil, isNilSlice, vload, vlen, newRow, vfill, vslice, entOf, vappend, srcOf, vcopy, vlookup, vupdate, mapOk, keyOf, intsOf, clsAt, h1, h2, h3, vD]
  refine Cl.pu (c_within _ _ _) ?_
  cases h4 : sIn c.start 0 c.most
  · simp only [gos, if_true, if_false, ne_eq, eq_self, Nat.reduceLT, Nat.reduceEqDiff, Nat.reduceAdd, Nat.reduceMul, Nat.reduceLeDiff, Nat.reduceBEq, reduceCtorEq, reduceIte, Array.toList, ↓reduceIte, tt, vgo, vout, vgoD, voutD, vclsOk, vids, mayWrite, V.ids, V.mids, vguard, callOf, vop, ev, cv, vbin, vint, isShift, isNilConst, vnil, isNilSlice, vload, vlen, newRow, vfill, vslice, entOf, vappend, srcOf, vcopy, vlookup, vupdate, mapOk, keyOf, intsOf, clsAt]
    subst hQ
    exact FnPost.plain trivial (fun h2 e => by first | rfl | (simp only [Try.f59, vres, vresL, vres1, e _, gos, if_true, if_false, ne_eq, eq_self, Nat.reduceLT, Nat.reduceEqDiff, Nat.reduceAdd, Nat.reduceMul, Nat.reduceLeDiff, Nat.reduceBEq, reduceCtorEq, reduceIte, Array.toList, ↓reduceIte, tt, vgo, vout, vgoD, voutD, vclsOk, vids, mayWrite, V.ids, V.mids, vguard, callOf, vop, ev, cv, vbin, vint, isShift, isNilConst, vnil, isNilSlice, vload, vlen, newRow, vfill, vslice, entOf, vappend, srcOf, vcopy, vlookup, vupdate, mapOk, keyOf, intsOf, clsAt]; try rfl)) (WkV.pure (by simp only [V.into, intoL, cB_into, vB_into, cI_into, cR_into, cD_into, cS_into, vS_into, vI_into, vR_into, vD_into, cu_into, Bool.true_and, Bool.and_true])) ⟨by simp [sCheck, sBad1, h1, h2, h4], rfl⟩
  simp only [gos, if_true, if_false, ne_eq, eq_self, Nat.reduceLT, Nat.reduceEqDiff, Nat.reduceAdd, Nat.reduceMul, Nat.reduceLeDiff, Nat.reduceBEq, reduceCtorEq, reduceIte, Array.toList, ↓reduceIte, tt, vgo, vout, vgoD, voutD, vclsOk, vids, mayWrite, V.ids, V.mids, vguard, callOf, vop, ev, cv, vbin, vint, isShift, isNilConst, vnil, isNilSlice, vload, vlen, newRow, vfill, vslice, entOf, vappend, srcOf, vcopy, vlookup, vupdate, mapOk, keyOf, intsOf, clsAt]
  by_cases h5 : 999 < c.most
  · simp only [gos, if_true, if_false, ne_eq, eq_self, Nat.reduceLT, Nat.reduceEqDiff, Nat.reduceAdd, Nat.reduceMul, Nat.reduceLeDiff, Nat.reduceBEq, reduceCtorEq, reduceIte, Array.toList, ↓reduceIte, tt, vgo, vout, vgoD, voutD, vclsOk, vids, mayWrite, V.ids, V.mids, vguard, callOf, vop, ev, cv, vbin, vint, isShift, isNilConst, vnil, isNilSlice, vload, vlen, newRow, vfill, vslice, entOf, vappend, srcOf, vcopy, vlookup, vupdate, mapOk, keyOf, intsOf, clsAt, h5]
    subst hQ
    exact FnPost.plain trivial (fun h2 e => by first | rfl | (simp only [Try.f59, vres, vresL, vres1, e _, gos, if_true, if_false, ne_eq, eq_self, Nat.reduceLT, Nat.reduceEqDiff, Nat.reduceAdd, Nat.reduceMul, Nat.reduceLeDiff, Nat.reduceBEq, reduceCtorEq, reduceIte, Array.toList, ↓reduceIte, tt, vgo, vout, vgoD, voutD, vclsOk, vids, mayWrite, V.ids, V.mids, vguard, callOf, vop, ev, cv, vbin, vint, isShift, isNilConst, vnil, isNilSlice, vload, vlen, newRow, vfill, vslice, entOf, vappend, srcOf, vcopy, vlookup, vupdate, mapOk, keyOf, intsOf, clsAt]; try rfl)) (WkV.pure (by simp only [V.into, intoL, cB_into, vB_into, cI_into, cR_into, cD_into, cS_into, vS_into, vI_into, vR_into, vD_into, cu_into, Bool.true_and, Bool.and_true])) ⟨by simp [sCheck, sBad1, h1, h2, h4, h5], rfl⟩
  simp only [gos, if_true, if_false, ne_eq, eq_self, Nat.reduceLT, Nat.reduceEqDiff, Nat.reduceAdd, Nat.reduceMul, Nat.reduceLeDiff, Nat.reduceBEq, reduceCtorEq, reduceIte, Array.toList, ↓reduceIte, tt, vgo, vout, vgoD, voutD, vclsOk, vids, mayWrite, V.ids, V.mids, vguard, callOf, vop, ev, cv, vbin, vint, isShift, isNilConst, vnil, isNilSlice, vload, vlen, newRow, vfill, vslice, entOf, vappend, srcOf, vcopy, vlookup, vupdate, mapOk, keyOf, intsOf, clsAt, h5]
  refine Cl.pu (c_within _ _ _) ?_
  cases h6 : sIn c.per 1 20
  · simp only [gos, if_true, if_false, ne_eq, eq_self, Nat.reduceLT, Nat.reduceEqDiff, Nat.reduceAdd, Nat.reduceMul, Nat.reduceLeDiff, Nat.reduceBEq, reduceCtorEq, reduceIte, Array.toList, ↓reduceIte, tt, vgo, vout, vgoD, voutD, vclsOk, vids, mayWrite, V.ids, V.mids, vguard, callOf, vop, ev, cv, vbin, vint, isShift, isNilConst, vnil, isNilSlice, vload, vlen, newRow, vfill, vslice, entOf, vappend, srcOf, vcopy, vlookup, vupdate, mapOk, keyOf, intsOf, clsAt]
    subst hQ
    exact FnPost.plain trivial (fun h2 e => by first | rfl | (simp only [Try.f59, vres, vresL, vres1, e _, gos, if_true, if_false, ne_eq, eq_self, Nat.reduceLT, Nat.reduceEqDiff, Nat.reduceAdd, Nat.reduceMul, Nat.reduceLeDiff, Nat.reduceBEq, reduceCtorEq, reduceIte, Array.toList, ↓reduceIte, tt, vgo, vout, vgoD, voutD, vclsOk, vids, mayWrite, V.ids, V.mids, vguard, callOf, vop, ev, cv, vbin, vint, isShift, isNilConst, vnil, isNilSlice, vload, vlen, newRow, vfill, vslice, entOf, vappend, srcOf, vcopy, vlookup, vupdate, mapOk, keyOf, intsOf, clsAt]; try rfl)) (WkV.pure (by simp only [V.into, intoL, cB_into, vB_into, cI_into, cR_into, cD_into, cS_into, vS_into, vI_into, vR_into, vD_into, cu_into, Bool.true_and, Bool.and_true])) ⟨by simp [sCheck, sBad1, h1, h2, h6], rfl⟩
  simp only [gos, if_true, if_false, ne_eq, eq_self, Nat.reduceLT, Nat.reduceEqDiff, Nat.reduceAdd, Nat.reduceMul, Nat.reduceLeDiff, Nat.reduceBEq, reduceCtorEq, reduceIte, Array.toList, ↓reduceIte, tt, vgo, vout, vgoD, voutD, vclsOk, vids, mayWrite, V.ids, V.mids, vguard, callOf, vop, ev, cv, vbin, vint, isShift, isNilConst, vnil, isNilSlice, vload, vlen, newRow, vfill, vslice, entOf, vappend, srcOf, vcopy, vlookup, vupdate, mapOk, keyOf, intsOf, clsAt]
  refine Cl.pu (c_within _ _ _) ?_
  cases h7 : sIn c.shovels 0 3
  · simp only [gos, if_true, if_false, ne_eq, eq_self, Nat.reduceLT, Nat.reduceEqDiff, Nat.reduceAdd, Nat.reduceMul, Nat.reduceLeDiff, Nat.reduceBEq, reduceCtorEq, reduceIte, Array.toList, ↓reduceIte, tt, vgo, vout, vgoD, voutD, vclsOk, vids, mayWrite, V.ids, V.mids, vguard, callOf, vop, ev, cv, vbin, vint, isShift, isNilConst, vnil, isNilSlice, vload, vlen, newRow, vfill, vslice, entOf, vappend, srcOf, vcopy, vlookup, vupdate, mapOk, keyOf, intsOf, clsAt]
    subst hQ
    exact FnPost.plain trivial (fun h2 e => by first | rfl | (simp only [Try.f59, vres, vresL, vres1, e _, gos, if_true, if_false, ne_eq, eq_self, Nat.reduceLT, Nat.reduceEqDiff, Nat.reduceAdd, Nat.reduceMul, Nat.reduceLeDiff, Nat.reduceBEq, reduceCtorEq, reduceIte, Array.toList, ↓reduceIte, tt, vgo, vout, vgoD, voutD, vclsOk, vids, mayWrite, V.ids, V.mids, vguard, callOf, vop, ev, cv, vbin, vint, isShift, isNilConst, vnil, isNilSlice, vload, vlen, newRow, vfill, vslice, entOf, vappend, srcOf, vcopy, vlookup, vupdate, mapOk, keyOf, intsOf, clsAt]; try rfl)) (WkV.pure (by simp only [V.into, intoL, cB_into, vB_into, cI_into, cR_into, cD_into, cS_into, vS_into, vI_into, vR_into, vD_into, cu_into, Bool.true_and, Bool.and_true])) ⟨by simp [sCheck, sBad1, h1, h2, h7], rfl⟩
  have hb1 : sBad1 c = false := by simp [sBad1, h3, h4, h5, h6, h7]
  simp only [gos, if_true, if_false, ne_eq, eq_self, Nat.reduceLT, Nat.reduceEqDiff, Nat.reduceAdd, Nat.reduceMul, Nat.reduceLeDiff, Nat.reduceBEq, reduceCtorEq, reduceIte, Array.toList, ↓reduceIte, tt, vgo, vout, vgoD, voutD, vclsOk, vids, mayWrite, V.ids, V.mids, vguard, callOf, vop, ev, cv, vbin, vint, isShift, isNilConst, vnil, isNilSlice, vload, vlen, newRow, vfill, vslice, entOf, vappend, srcOf, vcopy, vlookup, vupdate, mapOk, keyOf, intsOf, clsAt]
  refine Cl.pu (c_isCoal c c.coal hc.last hc.coal) ?_ rfl (by simp only [V.into, intoL, cB_into, vB_into, cI_into, cR_into, cD_into, cS_into, vS_into, vI_into, vR_into, vD_into, cu_into, Bool.true_and, Bool.and_true])
  cases h8 : sIsCoal c c.coal
  · simp only [gos, if_true, if_false, ne_eq, eq_self, Nat.reduceLT, Nat.reduceEqDiff, Nat.reduceAdd, Nat.reduceMul, Nat.reduceLeDiff, Nat.reduceBEq, reduceCtorEq, reduceIte, Array.toList, ↓reduceIte, tt, vgo, vout, vgoD, voutD, vclsOk, vids, mayWrite, V.ids, V.mids, vguard, callOf, vop, ev, cv, vbin, vint, isShift, isNilConst, vnil, isNilSlice, vload, vlen, newRow, vfill, vslice, entOf, vappend, srcOf, vcopy, vlookup, vupdate, mapOk, keyOf, intsOf, clsAt]
    subst hQ
    exact FnPost.plain trivial (fun h2 e => by first | rfl | (simp only [Try.f59, vres, vresL, vres1, e _, gos, if_true, if_false, ne_eq, eq_self, Nat.reduceLT, Nat.reduceEqDiff, Nat.reduceAdd, Nat.reduceMul, Nat.reduceLeDiff, Nat.reduceBEq, reduceCtorEq, reduceIte, Array.toList, ↓reduceIte, tt, vgo, vout, vgoD, voutD, vclsOk, vids, mayWrite, V.ids, V.mids, vguard, callOf, vop, ev, cv, vbin, vint, isShift, isNilConst, vnil, isNilSlice, vload, vlen, newRow, vfill, vslice, entOf, vappend, srcOf, vcopy, vlookup, vupdate, mapOk, keyOf, intsOf, clsAt]; try rfl)) (WkV.pure (by simp only [V.into, intoL, cB_into, vB_into, cI_into, cR_into, cD_into, cS_into, vS_into, vI_into, vR_into, vD_into, cu_into, Bool.true_and, Bool.and_true])) ⟨by simp [sCheck, hb1, sBad2, h1, h2, h8], rfl⟩
  simp only [gos, if_true, if_false, ne_eq, eq_self, Nat.reduceLT, Nat.reduceEqDiff, Nat.reduceAdd, Nat.reduceMul, Nat.reduceLeDiff, Nat.reduceBEq, reduceCtorEq, reduceIte, Array.toList, ↓reduceIte, tt, vgo, vout, vgoD, voutD, vclsOk, vids, mayWrite, V.ids, V.mids, vguard, callOf, vop, ev, cv, vbin, vint, isShift, isNilConst, vnil, isNilSlice, vload, vlen, newRow, vfill, vslice, entOf, vappend, srcOf, vcopy, vlookup, vupdate, mapOk, keyOf, intsOf, clsAt]
  refine Cl.pu (c_promised c c.want hc.last hc.want) ?_ rfl (by simp only [V.into, intoL, cB_into, vB_into, cI_into, cR_into, cD_into, cS_into, vS_into, vI_into, vR_into, vD_into, cu_into, Bool.true_and, Bool.and_true])
  cases h9 : sPromised c c.want
  · simp only [gos, if_true, if_false, ne_eq, eq_self, Nat.reduceLT, Nat.reduceEqDiff, Nat.reduceAdd, Nat.reduceMul, Nat.reduceLeDiff, Nat.reduceBEq, reduceCtorEq, reduceIte, Array.toList, ↓reduceIte, tt, vgo, vout, vgoD, voutD, vclsOk, vids, mayWrite, V.ids, V.mids, vguard, callOf, vop, ev, cv, vbin, vint, isShift, isNilConst, vnil, isNilSlice, vload, vlen, newRow, vfill, vslice, entOf, vappend, srcOf, vcopy, vlookup, vupdate, mapOk, keyOf, intsOf, clsAt]
    subst hQ
    exact FnPost.plain trivial (fun h2 e => by first | rfl | (simp only [Try.f59, vres, vresL, vres1, e _, gos, if_true, if_false, ne_eq, eq_self, Nat.reduceLT, Nat.reduceEqDiff, Nat.reduceAdd, Nat.reduceMul, Nat.reduceLeDiff, Nat.reduceBEq, reduceCtorEq, reduceIte, Array.toList, ↓reduceIte, tt, vgo, vout, vgoD, voutD, vclsOk, vids, mayWrite, V.ids, V.mids, vguard, callOf, vop, ev, cv, vbin, vint, isShift, isNilConst, vnil, isNilSlice, vload, vlen, newRow, vfill, vslice, entOf, vappend, srcOf, vcopy, vlookup, vupdate, mapOk, keyOf, intsOf, clsAt]; try rfl)) (WkV.pure (by simp only [V.into, intoL, cB_into, vB_into, cI_into, cR_into, cD_into, cS_into, vS_into, vI_into, vR_into, vD_into, cu_into, Bool.true_and, Bool.and_true])) ⟨by simp [sCheck, hb1, sBad2, h1, h2, h9], rfl⟩
  simp only [gos, if_true, if_false, ne_eq, eq_self, Nat.reduceLT, Nat.reduceEqDiff, Nat.reduceAdd, Nat.reduceMul, Nat.reduceLeDiff, Nat.reduceBEq, reduceCtorEq, reduceIte, Array.toList, ↓reduceIte, tt, vgo, vout, vgoD, voutD, vclsOk, vids, mayWrite, V.ids, V.mids, vguard, callOf, vop, ev, cv, vbin, vint, isShift, isNilConst, vnil, isNilSlice, vload, vlen, newRow, vfill, vslice, entOf, vappend, srcOf, vcopy, vlookup, vupdate, mapOk, keyOf, intsOf, clsAt]
  refine Cl.pu (c_inside _ _) ?_
  cases h10 : sInside c.heat 99
  · simp only [gos, if_true, if_false, ne_eq, eq_self, Nat.reduceLT, Nat.reduceEqDiff, Nat.reduceAdd, Nat.reduceMul, Nat.reduceLeDiff, Nat.reduceBEq, reduceCtorEq, reduceIte, Array.toList, ↓reduceIte, tt, vgo, vout, vgoD, voutD, vclsOk, vids, mayWrite, V.ids, V.mids, vguard, callOf, vop, ev, cv, vbin, vint, isShift, isNilConst, vnil, isNilSlice, vload, vlen, newRow, vfill, vslice, entOf, vappend, srcOf, vcopy, vlookup, vupdate, mapOk, keyOf, intsOf, clsAt]
    subst hQ
    exact FnPost.plain trivial (fun h2 e => by first | rfl | (simp only [Try.f59, vres, vresL, vres1, e _, gos, if_true, if_false, ne_eq, eq_self, Nat.reduceLT, Nat.reduceEqDiff, Nat.reduceAdd, Nat.reduceMul, Nat.reduceLeDiff, Nat.reduceBEq, reduceCtorEq, reduceIte, Array.toList, ↓reduceIte, tt, vgo, vout, vgoD, voutD, vclsOk, vids, mayWrite, V.ids, V.mids, vguard, callOf, vop, ev, cv, vbin, vint, isShift, isNilConst, vnil, isNilSlice, vload, vlen, newRow, vfill, vslice, entOf, vappend, srcOf, vcopy, vlookup, vupdate, mapOk, keyOf, intsOf, clsAt]; try rfl)) (WkV.pure (by simp only [V.into, intoL, cB_into, vB_into, cI_into, cR_into, cD_into, cS_into, vS_into, vI_into, vR_into, vD_into, cu_into, Bool.true_and, Bool.and_true])) ⟨by simp [sCheck, hb1, sBad2, h1, h2, h10], rfl⟩
  simp only [gos, if_true, if_false, ne_eq, eq_self, Nat.reduceLT, Nat.reduceEqDiff, Nat.reduceAdd, Nat.reduceMul, Nat.reduceLeDiff, Nat.reduceBEq, reduceCtorEq, reduceIte, Array.toList, ↓reduceIte, tt, vgo, vout, vgoD, voutD, vclsOk, vids, mayWrite, V.ids, V.mids, vguard, callOf, vop, ev, cv, vbin, vint, isShift, isNilConst, vnil, isNilSlice, vload, vlen, newRow, vfill, vslice, entOf, vappend, srcOf, vcopy, vlookup, vupdate, mapOk, keyOf, intsOf, clsAt, vR, i64_in (show -9223372036854775808 ≤ c.last + 1 by omega) (show c.last + 1 ≤ 9223372036854775807 by omega)]
  by_cases h11 : (c.loss.length : Int) = c.last + 1
  case neg =>
    have hb : ((c.loss.length : Int) != c.last + 1) = true := by simp [h11]
    simp only [gos, if_true, if_false, ne_eq, eq_self, Nat.reduceLT, Nat.reduceEqDiff, Nat.reduceAdd, Nat.reduceMul, Nat.reduceLeDiff, Nat.reduceBEq, reduceCtorEq, reduceIte, Array.toList, ↓reduceIte, tt, vgo, vout, vgoD, voutD, vclsOk, vids, mayWrite, V.ids, V.mids, vguard, callOf, vop, ev, cv, vbin, vint, isShift, isNilConst, vnil, isNilSlice, vload, vlen, newRow, vfill, vslice, entOf, vappend, srcOf, vcopy, vlookup, vupdate, mapOk, keyOf, intsOf, clsAt, hb]
    subst hQ
    exact FnPost.plain trivial (fun h2 e => by first | rfl | (simp only [Try.f59, vres, vresL, vres1, e _, gos, if_true, if_false, ne_eq, eq_self, Nat.reduceLT, Nat.reduceEqDiff, Nat.reduceAdd, Nat.reduceMul, Nat.reduceLeDiff, Nat.reduceBEq, reduceCtorEq, reduceIte, Array.toList, ↓reduceIte, tt, vgo, vout, vgoD, voutD, vclsOk, vids, mayWrite, V.ids, V.mids, vguard, callOf, vop, ev, cv, vbin, vint, isShift, isNilConst, vnil, isNilSlice, vload, vlen, newRow, vfill, vslice, entOf, vappend, srcOf, vcopy, vlookup, vupdate, mapOk, keyOf, intsOf, clsAt]; try rfl)) (WkV.pure (by simp only [V.into, intoL, cB_into, vB_into, cI_into, cR_into, cD_into, cS_into, vS_into, vI_into, vR_into, vD_into, cu_into, Bool.true_and, Bool.and_true])) ⟨by simp [sCheck, hb1, sBad2, h1, h2, h11], rfl⟩
  have hb : ((c.loss.length : Int) != c.last + 1) = false := by simp [h11]
  simp only [gos, if_true, if_false, ne_eq, eq_self, Nat.reduceLT, Nat.reduceEqDiff, Nat.reduceAdd, Nat.reduceMul, Nat.reduceLeDiff, Nat.reduceBEq, reduceCtorEq, reduceIte, Array.toList, ↓reduceIte, tt, vgo, vout, vgoD, voutD, vclsOk, vids, mayWrite, V.ids, V.mids, vguard, callOf, vop, ev, cv, vbin, vint, isShift, isNilConst, vnil, isNilSlice, vload, vlen, newRow, vfill, vslice, entOf, vappend, srcOf, vcopy, vlookup, vupdate, mapOk, keyOf, intsOf, clsAt, hb]
  refine Cl.pu (c_all_Rg _ [] [] (fun r => sInside r 99) c.loss hc.loss rfl rfl fun x _ => c_lost x) ?_ rfl (by simp only [V.into, intoL, cB_into, vB_into, cI_into, cR_into, cD_into, cS_into, vS_into, vI_into, vR_into, vD_into, cu_into, Bool.true_and, Bool.and_true])
  cases h12 : c.loss.all fun r => sInside r 99
  · simp only [gos, if_true, if_false, ne_eq, eq_self, Nat.reduceLT, Nat.reduceEqDiff, Nat.reduceAdd, Nat.reduceMul, Nat.reduceLeDiff, Nat.reduceBEq, reduceCtorEq, reduceIte, Array.toList, ↓reduceIte, tt, vgo, vout, vgoD, voutD, vclsOk, vids, mayWrite, V.ids, V.mids, vguard, callOf, vop, ev, cv, vbin, vint, isShift, isNilConst, vnil, isNilSlice, vload, vlen, newRow, vfill, vslice, entOf, vappend, srcOf, vcopy, vlookup, vupdate, mapOk, keyOf, intsOf, clsAt]
    subst hQ
    exact FnPost.plain trivial (fun h2 e => by first | rfl | (simp only [Try.f59, vres, vresL, vres1, e _, gos, if_true, if_false, ne_eq, eq_self, Nat.reduceLT, Nat.reduceEqDiff, Nat.reduceAdd, Nat.reduceMul, Nat.reduceLeDiff, Nat.reduceBEq, reduceCtorEq, reduceIte, Array.toList, ↓reduceIte, tt, vgo, vout, vgoD, voutD, vclsOk, vids, mayWrite, V.ids, V.mids, vguard, callOf, vop, ev, cv, vbin, vint, isShift, isNilConst, vnil, isNilSlice, vload, vlen, newRow, vfill, vslice, entOf, vappend, srcOf, vcopy, vlookup, vupdate, mapOk, keyOf, intsOf, clsAt]; try rfl)) (WkV.pure (by simp only [V.into, intoL, cB_into, vB_into, cI_into, cR_into, cD_into, cS_into, vS_into, vI_into, vR_into, vD_into, cu_into, Bool.true_and, Bool.and_true])) ⟨by simp only [sCheck, hb1, sBad2, h1, h2, h12]; simp, rfl⟩
  simp only [gos, if_true, if_false, ne_eq, eq_self, Nat.reduceLT, Nat.reduceEqDiff, Nat.reduceAdd, Nat.reduceMul, Nat.reduceLeDiff, Nat.reduceBEq, reduceCtorEq, reduceIte, Array.toList, ↓reduceIte, tt, vgo, vout, vgoD, voutD, vclsOk, vids, mayWrite, V.ids, V.mids, vguard, callOf, vop, ev, cv, vbin, vint, isShift, isNilConst, vnil, isNilSlice, vload, vlen, newRow, vfill, vslice, entOf, vappend, srcOf, vcopy, vlookup, vupdate, mapOk, keyOf, intsOf, clsAt]
  refine Cl.pu (c_all_Rd _ [.agg c.cs] [] (fun r => sReading c r) c.readings hc.readings (by simp only [V.into, intoL, cB_into, vB_into, cI_into, cR_into, cD_into, cS_into, vS_into, vI_into, vR_into, vD_into, cu_into, Bool.true_and, Bool.and_true]) rfl fun x _ => c_reading1 c x) ?_ (by simp only [V.into, intoL, cB_into, vB_into, cI_into, cR_into, cD_into, cS_into, vS_into, vI_into, vR_into, vD_into, cu_into, Bool.true_and, Bool.and_true]) (by simp only [V.into, intoL, cB_into, vB_into, cI_into, cR_into, cD_into, cS_into, vS_into, vI_into, vR_into, vD_into, cu_into, Bool.true_and, Bool.and_true])
  cases h13 : c.readings.all fun r => sReading c r
  · simp only [gos, if_true, if_false, ne_eq, eq_self, Nat.reduceLT, Nat.reduceEqDiff, Nat.reduceAdd, Nat.reduceMul, Nat.reduceLeDiff, Nat.reduceBEq, reduceCtorEq, reduceIte, Array.toList, ↓reduceIte, tt, vgo, vout, vgoD, voutD, vclsOk, vids, mayWrite, V.ids, V.mids, vguard, callOf, vop, ev, cv, vbin, vint, isShift, isNilConst, vnil, isNilSlice, vload, vlen, newRow, vfill, vslice, entOf, vappend, srcOf, vcopy, vlookup, vupdate, mapOk, keyOf, intsOf, clsAt]
    subst hQ
    exact FnPost.plain trivial (fun h2 e => by first | rfl | (simp only [Try.f59, vres, vresL, vres1, e _, gos, if_true, if_false, ne_eq, eq_self, Nat.reduceLT, Nat.reduceEqDiff, Nat.reduceAdd, Nat.reduceMul, Nat.reduceLeDiff, Nat.reduceBEq, reduceCtorEq, reduceIte, Array.toList, ↓reduceIte, tt, vgo, vout, vgoD, voutD, vclsOk, vids, mayWrite, V.ids, V.mids, vguard, callOf, vop, ev, cv, vbin, vint, isShift, isNilConst, vnil, isNilSlice, vload, vlen, newRow, vfill, vslice, entOf, vappend, srcOf, vcopy, vlookup, vupdate, mapOk, keyOf, intsOf, clsAt]; try rfl)) (WkV.pure (by simp only [V.into, intoL, cB_into, vB_into, cI_into, cR_into, cD_into, cS_into, vS_into, vI_into, vR_into, vD_into, cu_into, Bool.true_and, Bool.and_true])) ⟨by simp only [sCheck, hb1, sBad2, h1, h2, h13]; simp, rfl⟩
  have hb2 : sBad2 c = false := by simp only [sBad2, h8, h9, h10, h11, h12, h13]; simp
  have hz := size_le h10
  simp only [gos, if_true, if_false, ne_eq, eq_self, Nat.reduceLT, Nat.reduceEqDiff, Nat.reduceAdd, Nat.reduceMul, Nat.reduceLeDiff, Nat.reduceBEq, reduceCtorEq, reduceIte, Array.toList, ↓reduceIte, tt, vgo, vout, vgoD, voutD, vclsOk, vids, mayWrite, V.ids, V.mids, vguard, callOf, vop, ev, cv, vbin, vint, isShift, isNilConst, vnil, isNilSlice, vload, vlen, newRow, vfill, vslice, entOf, vappend, srcOf, vcopy, vlookup, vupdate, mapOk, keyOf, intsOf, clsAt]
  refine Cl.pu (c_size c.heat ⟨by omega, by omega⟩ ⟨by omega, by omega⟩) ?_
  simp only [gos, if_true, if_false, ne_eq, eq_self, Nat.reduceLT, Nat.reduceEqDiff, Nat.reduceAdd, Nat.reduceMul, Nat.reduceLeDiff, Nat.reduceBEq, reduceCtorEq, reduceIte, Array.toList, ↓reduceIte, tt, vgo, vout, vgoD, voutD, vclsOk, vids, mayWrite, V.ids, V.mids, vguard, callOf, vop, ev, cv, vbin, vint, isShift, isNilConst, vnil, isNilSlice, vload, vlen, newRow, vfill, vslice, entOf, vappend, srcOf, vcopy, vlookup, vupdate, mapOk, keyOf, intsOf, clsAt, vR]
  have hall : ∀ r ∈ c.loss, sInside r 99 = true := by simpa using h12
  refine W.loop tabOk mixed (fun i : Nat => ([(4, vi (sManyL (sSize c.heat) (c.loss.take i))), (93, vR c.loss), (94, vi c.loss.length), (95, vi i)], [])) (fun i => c.loss.length - i) (fun i => i ≤ c.loss.length) 0 (by omega) (Wk.env (by simp [subE, Env.get, vR, sManyL])) ?_
  intro i hi
  by_cases hil : (i : Int) < c.loss.length
  · simp only [gos, if_true, if_false, ne_eq, eq_self, Nat.reduceLT, Nat.reduceEqDiff, Nat.reduceAdd, Nat.reduceMul, Nat.reduceLeDiff, Nat.reduceBEq, reduceCtorEq, reduceIte, Array.toList, ↓reduceIte, tt, vgo, vout, vgoD, voutD, vclsOk, vids, mayWrite, V.ids, V.mids, vguard, callOf, vop, ev, cv, vbin, vint, isShift, isNilConst, vnil, isNilSlice, vload, vlen, newRow, vfill, vslice, entOf, vappend, srcOf, vcopy, vlookup, vupdate, mapOk, keyOf, intsOf, clsAt, vR, hil, cR_at (Int.natCast_nonneg i) hil]
    have hr := size_le (hall _ (List.mem_of_getElem? (gR_get hil)))
    have hm := sManyL_le (n := sSize c.heat) ⟨by omega, by omega⟩ (l := c.loss.take i) fun r hr => hall r (List.mem_of_mem_take hr)
    refine Cl.pu (c_size (gR c.loss i) ⟨by omega, by omega⟩ ⟨by omega, by omega⟩) ?_
    have h0 : 0 ≤ sManyL (sSize c.heat) (c.loss.take i) * sSize (gR c.loss i) := Int.mul_nonneg (by omega) (by omega)
    have h100 : sManyL (sSize c.heat) (c.loss.take i) * sSize (gR c.loss i) ≤ 2001 * 100 := Int.mul_le_mul hm.2 hr.2.1 (by omega) (by omega)
    simp only [gos, if_true, if_false, ne_eq, eq_self, Nat.reduceLT, Nat.reduceEqDiff, Nat.reduceAdd, Nat.reduceMul, Nat.reduceLeDiff, Nat.reduceBEq, reduceCtorEq, reduceIte, Array.toList, ↓reduceIte, tt, vgo, vout, vgoD, voutD, vclsOk, vids, mayWrite, V.ids, V.mids, vguard, callOf, vop, ev, cv, vbin, vint, isShift, isNilConst, vnil, isNilSlice, vload, vlen, newRow, vfill, vslice, entOf, vappend, srcOf, vcopy, vlookup, vupdate, mapOk, keyOf, intsOf, clsAt, i64_in (show -9223372036854775808 ≤ sManyL (sSize c.heat) (c.loss.take i) * sSize (gR c.loss i) by omega) (show sManyL (sSize c.heat) (c.loss.take i) * sSize (gR c.loss i) ≤ 9223372036854775807 by omega)]
    refine Cl.pu (c_min2 _ _) ?_
    simp only [gos, if_true, if_false, ne_eq, eq_self, Nat.reduceLT, Nat.reduceEqDiff, Nat.reduceAdd, Nat.reduceMul, Nat.reduceLeDiff, Nat.reduceBEq, reduceCtorEq, reduceIte, Array.toList, ↓reduceIte, tt, vgo, vout, vgoD, voutD, vclsOk, vids, mayWrite, V.ids, V.mids, vguard, callOf, vop, ev, cv, vbin, vint, isShift, isNilConst, vnil, isNilSlice, vload, vlen, newRow, vfill, vslice, entOf, vappend, srcOf, vcopy, vlookup, vupdate, mapOk, keyOf, intsOf, clsAt]
    have := hc.loss
    exact Nx.mk (i + 1) (show c.loss.length - (i + 1) < c.loss.length - i by omega) (by omega) (Wk.forget (by simp [subE, Env.get, vR, sManyL_succ hil, i64_succ (show (i : Int) < 9223372036854775807 by omega)]) (by simp [subH]) (fun j hp => by simp [orD, domP, Heap.get] at hp) (by simp only [intoE, V.into, intoL, cB_into, vB_into, cI_into, cR_into, cD_into, cS_into, vS_into, vI_into, vR_into, vD_into, cu_into, Bool.true_and, Bool.and_true]) rfl)
  · simp only [gos, if_true, if_false, ne_eq, eq_self, Nat.reduceLT, Nat.reduceEqDiff, Nat.reduceAdd, Nat.reduceMul, Nat.reduceLeDiff, Nat.reduceBEq, reduceCtorEq, reduceIte, Array.toList, ↓reduceIte, tt, vgo, vout, vgoD, voutD, vclsOk, vids, mayWrite, V.ids, V.mids, vguard, callOf, vop, ev, cv, vbin, vint, isShift, isNilConst, vnil, isNilSlice, vload, vlen, newRow, vfill, vslice, entOf, vappend, srcOf, vcopy, vlookup, vupdate, mapOk, keyOf, intsOf, clsAt, vR, hil]
    have e : c.loss.take i = c.loss := List.take_of_length_le (by omega)
    rw [e]
    by_cases h14 : 2000 < sManyL (sSize c.heat) c.loss
    · simp only [gos, if_true, if_false, ne_eq, eq_self, Nat.reduceLT, Nat.reduceEqDiff, Nat.reduceAdd, Nat.reduceMul, Nat.reduceLeDiff, Nat.reduceBEq, reduceCtorEq, reduceIte, Array.toList, ↓reduceIte, tt, vgo, vout, vgoD, voutD, vclsOk, vids, mayWrite, V.ids, V.mids, vguard, callOf, vop, ev, cv, vbin, vint, isShift, isNilConst, vnil, isNilSlice, vload, vlen, newRow, vfill, vslice, entOf, vappend, srcOf, vcopy, vlookup, vupdate, mapOk, keyOf, intsOf, clsAt, h14]
      subst hQ
      exact FnPost.plain trivial (fun h2 e => by first | rfl | (simp only [Try.f59, vres, vresL, vres1, e _, gos, if_true, if_false, ne_eq, eq_self, Nat.reduceLT, Nat.reduceEqDiff, Nat.reduceAdd, Nat.reduceMul, Nat.reduceLeDiff, Nat.reduceBEq, reduceCtorEq, reduceIte, Array.toList, ↓reduceIte, tt, vgo, vout, vgoD, voutD, vclsOk, vids, mayWrite, V.ids, V.mids, vguard, callOf, vop, ev, cv, vbin, vint, isShift, isNilConst, vnil, isNilSlice, vload, vlen, newRow, vfill, vslice, entOf, vappend, srcOf, vcopy, vlookup, vupdate, mapOk, keyOf, intsOf, clsAt]; try rfl)) (WkV.pure (by simp only [V.into, intoL, cB_into, vB_into, cI_into, cR_into, cD_into, cS_into, vS_into, vI_into, vR_into, vD_into, cu_into, Bool.true_and, Bool.and_true])) ⟨by simp [sCheck, hb1, hb2, h1, h2, sMany, h14], rfl⟩
    · simp only [gos, if_true, if_false, ne_eq, eq_self, Nat.reduceLT, Nat.reduceEqDiff, Nat.reduceAdd, Nat.reduceMul, Nat.reduceLeDiff, Nat.reduceBEq, reduceCtorEq, reduceIte, Array.toList, ↓reduceIte, tt, vgo, vout, vgoD, voutD, vclsOk, vids, mayWrite, V.ids, V.mids, vguard, callOf, vop, ev, cv, vbin, vint, isShift, isNilConst, vnil, isNilSlice, vload, vlen, newRow, vfill, vslice, entOf, vappend, srcOf, vcopy, vlookup, vupdate, mapOk, keyOf, intsOf, clsAt, h14]
      subst hQ
      exact FnPost.plain trivial (fun h2 e => by first | rfl | (simp only [Try.f59, vres, vresL, vres1, e _, gos, if_true, if_false, ne_eq, eq_self, Nat.reduceLT, Nat.reduceEqDiff, Nat.reduceAdd, Nat.reduceMul, Nat.reduceLeDiff, Nat.reduceBEq, reduceCtorEq, reduceIte, Array.toList, ↓reduceIte, tt, vgo, vout, vgoD, voutD, vclsOk, vids, mayWrite, V.ids, V.mids, vguard, callOf, vop, ev, cv, vbin, vint, isShift, isNilConst, vnil, isNilSlice, vload, vlen, newRow, vfill, vslice, entOf, vappend, srcOf, vcopy, vlookup, vupdate, mapOk, keyOf, intsOf, clsAt]; try rfl)) (WkV.pure (by simp only [V.into, intoL, cB_into, vB_into, cI_into, cR_into, cD_into, cS_into, vS_into, vI_into, vR_into, vD_into, cu_into, Bool.true_and, Bool.and_true])) ⟨by simp [sCheck, hb1, hb2, h1, h2, sMany, h14], rfl⟩
end Go.Vm
set_option linter.unusedVariables false
set_option linter.unusedSimpArgs false
set_option maxRecDepth 100000
namespace Go.Vm
open Go.Proofs
structure Past where
  hot : List Int
  left : List Int
  kept : List Bool
/-- What is in the first hours: the heat, and the lists. -/
def sPlay (c : Cu) (s : Sc) (coal want : List Int) : Nat → Int × Past
  | 0 => (c.start, ⟨[], [], []⟩)
  | i + 1 =>
    let (h, p) := sPlay c s coal want i
    let h1 := max 0 (min c.most (h + gi coal i * s.heat) - gi s.loss i)
    let k := decide (gi want i ≤ h1.tdiv c.per)
    let h2 := if k then h1 - gi want i * c.per else 0
    (h2, ⟨p.hot ++ [h1.tdiv c.per], p.left ++ [h2], p.kept ++ [k]⟩)
structure PlayOk (c : Cu) (s : Sc) (coal want : List Int) : Prop where
  last : 0 ≤ c.last ∧ c.last ≤ 4
  most : 0 ≤ c.most ∧ c.most ≤ 999
  start : 0 ≤ c.start ∧ c.start ≤ c.most
  per : 1 ≤ c.per ∧ c.per ≤ 20
  heat : 0 ≤ s.heat ∧ s.heat ≤ 99
  loss : s.loss.length = 5 ∧ ∀ x ∈ s.loss, 0 ≤ x ∧ x ≤ 99
  coal : (coal.length : Int) = c.last + 1 ∧ ∀ x ∈ coal, 0 ≤ x ∧ x ≤ 3
  want : (want.length : Int) = c.last + 1 ∧ ∀ x ∈ want, 0 ≤ x ∧ x ≤ 40
theorem gi_mem {l : List Int} {i : Nat} (h : i < l.length) : gi l i ∈ l := by
  rw [gi, Int.toNat_natCast, List.getD_eq_getElem?_getD, List.getElem?_eq_getElem h]; exact List.getElem_mem _
theorem sPlay_inv {c : Cu} {s : Sc} {coal want : List Int} (k : PlayOk c s coal want) : ∀ i : Nat, (i : Int) ≤ c.last + 1 →
    0 ≤ (sPlay c s coal want i).1 ∧ (sPlay c s coal want i).1 ≤ 999 ∧ (sPlay c s coal want i).2.hot.length = i ∧ (sPlay c s coal want i).2.left.length = i ∧ (sPlay c s coal want i).2.kept.length = i
  | 0, _ => ⟨k.start.1, by have := k.start; have := k.most; simp only [sPlay]; omega, rfl, rfl, rfl⟩
  | i + 1, hi => by
    obtain ⟨h1, h2, h3, h4, h5⟩ := sPlay_inv k i (by omega)
    simp only [sPlay, List.length_append, List.length_singleton, h3, h4, h5, and_true]
    have := k.most
    have hl := (k.loss.2 _ (gi_mem (l := s.loss) (i := i) (by have := k.loss.1; have := k.last; omega)))
    have hw := (k.want.2 _ (gi_mem (l := want) (i := i) (by have := k.want.1; omega)))
    split
    · rename_i hd
      simp only [decide_eq_true_eq] at hd
      generalize hx : max 0 (min c.most ((sPlay c s coal want i).1 + gi coal i * s.heat) - gi s.loss i) = x at hd ⊢
      have hx0 : 0 ≤ x := by omega
      rw [Int.tdiv_eq_ediv_of_nonneg hx0] at hd
      have := Int.mul_le_of_le_ediv (by have := k.per; omega) hd
      have : 0 ≤ gi want i * c.per := Int.mul_nonneg hw.1 (by have := k.per; omega)
      omega
    · omega
def plSt (c : Cu) (s : Sc) (coal want : List Int) (i : Nat) : Env × Heap :=
  ([(9, vi (sPlay c s coal want i).1), (17, vi (c.last + 1)), (18, vi i), (4, .rop c.cs), (5, .rop s.cs), (2, vI coal), (3, vI want), (8, .ptr 8 0 0)],
   [(8, ⟨0, .row [.own 64 i 0 1 i, .own 69 i 0 1 i, .own 74 i 0 1 i]⟩), (64, ⟨i, .row (cI (sPlay c s coal want i).2.hot)⟩), (69, ⟨i, .row (cI (sPlay c s coal want i).2.left)⟩), (74, ⟨i, .row (cB (sPlay c s coal want i).2.kept)⟩)])
theorem wk_past (i : Nat) (H L : List Int) (K : List Bool) (h1 : H.length = i) (h2 : L.length = i) (h3 : K.length = i) :
    WkV (domP []) (.agg [.own 64 i 0 1 i, .own 69 i 0 1 i, .own 74 i 0 1 i]) [(8, ⟨0, .row [.own 64 i 0 1 i, .own 69 i 0 1 i, .own 74 i 0 1 i]⟩), (64, ⟨i, .row (cI H)⟩), (69, ⟨i, .row (cI L)⟩), (74, ⟨i, .row (cB K)⟩)] (.agg [vI H, vI L, vB K]) [] := by
  have e1 : (cI H).take i = cI H := by rw [← h1]; exact cI_take H
  have e2 : (cI L).take i = cI L := by rw [← h2]; exact cI_take L
  have e3 : (cB K).take i = cB K := by rw [← h3]; exact cB_take K
  refine WkV.frz 64 (v' := .agg [.ro i (cI H), .own 69 i 0 1 i, .own 74 i 0 1 i]) (h' := [(8, ⟨0, .row [.ro i (cI H), .own 69 i 0 1 i, .own 74 i 0 1 i]⟩), (69, ⟨i, .row (cI L)⟩), (74, ⟨i, .row (cB K)⟩)]) (ver := i) (cs := cI H) rfl rfl (cI_into _ _) rfl ?_ ?_ ?_
  · simp [V.frz, frzL, e1]
  · simp [frzH, Blk.frz, V.frz, frzL, e1, cI_frz, cB_frz]
  refine WkV.frz 69 (v' := .agg [.ro i (cI H), .ro i (cI L), .own 74 i 0 1 i]) (h' := [(8, ⟨0, .row [.ro i (cI H), .ro i (cI L), .own 74 i 0 1 i]⟩), (74, ⟨i, .row (cB K)⟩)]) (ver := i) (cs := cI L) rfl rfl (cI_into _ _) rfl ?_ ?_ ?_
  · simp [V.frz, frzL, e2, cI_frz]
  · simp [frzH, Blk.frz, V.frz, frzL, e2, cI_frz, cB_frz]
  refine WkV.frz 74 (v' := .agg [.ro i (cI H), .ro i (cI L), .ro i (cB K)]) (h' := [(8, ⟨0, .row [.ro i (cI H), .ro i (cI L), .ro i (cB K)]⟩)]) (ver := i) (cs := cB K) rfl rfl (cB_into _ _) rfl ?_ ?_ ?_
  · simp [V.frz, frzL, e3, cI_frz]
  · simp [frzH, Blk.frz, V.frz, frzL, e3, cI_frz, cB_frz]
  have : V.agg [vI H, vI L, vB K] = .agg [.ro i (cI H), .ro i (cI L), .ro i (cB K)] := by simp only [vI, vB, h1, h2, h3]
  rw [this]
  exact WkV.pure (by simp only [V.into, intoL, cB_into, vB_into, cI_into, cR_into, cD_into, cS_into, vS_into, vI_into, vR_into, vD_into, cu_into, Bool.true_and, Bool.and_true])
set_option maxHeartbeats 2000000 in
theorem c_play (c : Cu) (s : Sc) (coal want : List Int) (k : PlayOk c s coal want) : Pu Try.prog (.fn 98 [] []) [.agg c.cs, .agg s.cs, vI coal, vI want]
    (.agg [vI (sPlay c s coal want (c.last + 1).toNat).2.hot, vI (sPlay c s coal want (c.last + 1).toNat).2.left, vB (sPlay c s coal want (c.last + 1).toNat).2.kept]) := by
  refine Ev.fn Try.func98 rfl rfl (Fn.body tabOk Try.func98 rfl (Nat.le_of_ble_eq_true rfl) (Ks.ok (fz := (fzn [8])) (cl := (cln [(5, .d tg0 [cP, cP, cP, cP, cP, cP, cP, cP, cP, cP, cP, cP, cP, cP, cP, cP, cP, cP, cP, cP]), (9, .d tg0 [cP, cP, cP, cP, cP, cP, cP, cP, cP, cP]), (11, .d (tgL [(64, 1), (69, 2), (74, 3)]) [cP, cL, cP, cP, some ([1], [1]), cP, cL, cP, cP, some ([2], [2]), cP, cL, cP, cP, some ([3], [3]), cP, cW, cP, cW, cP, cW])])) tabOk mixed ?_))
  generalize hQ : FnPost tt Try.f98 _ _ = Q
  simp only [Try.f98, List.nil_append, List.append_nil, List.cons_append, argsEnv, Nat.reduceAdd]
  have hl := k.last
  simp only [gos, if_true, if_false, ne_eq, eq_self, Nat.reduceLT, Nat.reduceEqDiff, Nat.reduceAdd, Nat.reduceMul, Nat.reduceLeDiff, Nat.reduceBEq, reduceCtorEq, reduceIte, Array.toList, ↓reduceIte, tt, vgo, vout, vgoD, voutD, vclsOk, vids, mayWrite, V.ids, V.mids, vguard, callOf, vop, ev, cv, vbin, vint, isShift, isNilConst, vnil, isNilSlice, vload, vlen, newRow, vfill, vslice, entOf, vappend, srcOf, vcopy, vlookup, vupdate, mapOk, keyOf, intsOf, clsAt, i64_in (show -9223372036854775808 ≤ c.last + 1 by omega) (show c.last + 1 ≤ 9223372036854775807 by omega)]
  refine W.loop tabOk mixed (plSt c s coal want) (fun i => (c.last + 1).toNat - i) (fun i => (i : Int) ≤ c.last + 1) 0 (by omega) (Wk.trans (Wk.sl0H 8 0 64 1 rfl rfl rfl) (Wk.trans (Wk.sl0H 8 1 69 1 rfl rfl rfl) (Wk.trans (Wk.sl0H 8 2 74 1 rfl rfl rfl) (Wk.env ?_)))) ?_
  · simp [subE, Env.get, plSt, sPlay]
  intro i hi
  by_cases hil : (i : Int) < c.last + 1
  · have hci : (i : Int) < coal.length := by have := k.coal.1; omega
    have hwi : (i : Int) < want.length := by have := k.want.1; omega
    have hsi : (i : Int) < s.loss.length := by have := k.loss.1; omega
    have hs5 : (i : Int) < ((5 : Nat) : Int) := by omega
    obtain ⟨p1, p2, p3, p4, p5⟩ := sPlay_inv k i hi
    have hc3 := k.coal.2 _ (gi_mem (l := coal) (i := i) (by omega))
    have hw3 := k.want.2 _ (gi_mem (l := want) (i := i) (by omega))
    have hl3 := k.loss.2 _ (gi_mem (l := s.loss) (i := i) (by omega))
    have hh := k.heat
    have hpe := k.per
    have hmo := k.most
    have m0 : 0 ≤ gi coal i * s.heat := Int.mul_nonneg hc3.1 hh.1
    have m1 : gi coal i * s.heat ≤ 3 * 99 := Int.mul_le_mul hc3.2 hh.2 hh.1 (by omega)
    simp only [gos, if_true, if_false, ne_eq, eq_self, Nat.reduceLT, Nat.reduceEqDiff, Nat.reduceAdd, Nat.reduceMul, Nat.reduceLeDiff, Nat.reduceBEq, reduceCtorEq, reduceIte, Array.toList, ↓reduceIte, tt, vgo, vout, vgoD, voutD, vclsOk, vids, mayWrite, V.ids, V.mids, vguard, callOf, vop, ev, cv, vbin, vint, isShift, isNilConst, vnil, isNilSlice, vload, vlen, newRow, vfill, vslice, entOf, vappend, srcOf, vcopy, vlookup, vupdate, mapOk, keyOf, intsOf, clsAt, plSt, hil]
    refine Wr.draw (by kernel_rfl) ?_
    simp only [gos, if_true, if_false, ne_eq, eq_self, Nat.reduceLT, Nat.reduceEqDiff, Nat.reduceAdd, Nat.reduceMul, Nat.reduceLeDiff, Nat.reduceBEq, reduceCtorEq, reduceIte, Array.toList, ↓reduceIte, tt, vgo, vout, vgoD, voutD, vclsOk, vids, mayWrite, V.ids, V.mids, vguard, callOf, vop, ev, cv, vbin, vint, isShift, isNilConst, vnil, isNilSlice, vload, vlen, newRow, vfill, vslice, entOf, vappend, srcOf, vcopy, vlookup, vupdate, mapOk, keyOf, intsOf, clsAt, vI, Sc.cs, hci, hsi, hs5, cI_at (Int.natCast_nonneg i) hci, cI_at (Int.natCast_nonneg i) hsi,
      i64_in (show -9223372036854775808 ≤ gi coal i * s.heat by omega) (show gi coal i * s.heat ≤ 9223372036854775807 by omega),
      i64_in (show -9223372036854775808 ≤ (sPlay c s coal want i).1 + gi coal i * s.heat by omega) (show (sPlay c s coal want i).1 + gi coal i * s.heat ≤ 9223372036854775807 by omega)]
    refine CD.pu (c_min2 _ _) ?_
    simp only [gos, if_true, if_false, ne_eq, eq_self, Nat.reduceLT, Nat.reduceEqDiff, Nat.reduceAdd, Nat.reduceMul, Nat.reduceLeDiff, Nat.reduceBEq, reduceCtorEq, reduceIte, Array.toList, ↓reduceIte, tt, vgo, vout, vgoD, voutD, vclsOk, vids, mayWrite, V.ids, V.mids, vguard, callOf, vop, ev, cv, vbin, vint, isShift, isNilConst, vnil, isNilSlice, vload, vlen, newRow, vfill, vslice, entOf, vappend, srcOf, vcopy, vlookup, vupdate, mapOk, keyOf, intsOf, clsAt, vI, Sc.cs, hci, hsi, hs5, cI_at (Int.natCast_nonneg i) hci, cI_at (Int.natCast_nonneg i) hsi,
      i64_in (show -9223372036854775808 ≤ min c.most ((sPlay c s coal want i).1 + gi coal i * s.heat) - gi s.loss i by omega) (show min c.most ((sPlay c s coal want i).1 + gi coal i * s.heat) - gi s.loss i ≤ 9223372036854775807 by omega)]
    have hnext : sPlay c s coal want (i + 1) = sPlay c s coal want (i + 1) := rfl
    conv at hnext => rhs; simp only [sPlay]
    generalize hx : max 0 (min c.most ((sPlay c s coal want i).1 + gi coal i * s.heat) - gi s.loss i) = x at hnext ⊢
    have hx0 : 0 ≤ x := by omega
    have hx9 : x ≤ 999 := by omega
    have hper : ¬ c.per = 0 := by omega
    have hd0 : 0 ≤ x.tdiv c.per := Int.tdiv_nonneg hx0 (by omega)
    have hd9 : x.tdiv c.per ≤ 999 := by
      have := Int.tdiv_le_self c.per hx0
      omega
    have hwm0 : 0 ≤ gi want i * c.per := Int.mul_nonneg hw3.1 (by omega)
    have hwm : gi want i * c.per ≤ 40 * 20 := Int.mul_le_mul hw3.2 hpe.2 (by omega) (by omega)
    by_cases hk : gi want i ≤ x.tdiv c.per
    · simp only [gos, if_true, if_false, ne_eq, eq_self, Nat.reduceLT, Nat.reduceEqDiff, Nat.reduceAdd, Nat.reduceMul, Nat.reduceLeDiff, Nat.reduceBEq, reduceCtorEq, reduceIte, Array.toList, ↓reduceIte, tt, vgo, vout, vgoD, voutD, vclsOk, vids, mayWrite, V.ids, V.mids, vguard, callOf, vop, ev, cv, vbin, vint, isShift, isNilConst, vnil, isNilSlice, vload, vlen, newRow, vfill, vslice, entOf, vappend, srcOf, vcopy, vlookup, vupdate, mapOk, keyOf, intsOf, clsAt, vI, hwi, hper, cI_at (Int.natCast_nonneg i) hwi, hk, i64_in (show -9223372036854775808 ≤ x.tdiv c.per by omega) (show x.tdiv c.per ≤ 9223372036854775807 by omega)]
      refine Wr.draw (by kernel_rfl) ?_
      simp only [gos, if_true, if_false, ne_eq, eq_self, Nat.reduceLT, Nat.reduceEqDiff, Nat.reduceAdd, Nat.reduceMul, Nat.reduceLeDiff, Nat.reduceBEq, reduceCtorEq, reduceIte, Array.toList, ↓reduceIte, tt, vgo, vout, vgoD, voutD, vclsOk, vids, mayWrite, V.ids, V.mids, vguard, callOf, vop, ev, cv, vbin, vint, isShift, isNilConst, vnil, isNilSlice, vload, vlen, newRow, vfill, vslice, entOf, vappend, srcOf, vcopy, vlookup, vupdate, mapOk, keyOf, intsOf, clsAt, vI, hwi, cI_at (Int.natCast_nonneg i) hwi, i64_in (show -9223372036854775808 ≤ gi want i * c.per by omega) (show gi want i * c.per ≤ 9223372036854775807 by omega), i64_in (show -9223372036854775808 ≤ x - gi want i * c.per by omega) (show x - gi want i * c.per ≤ 9223372036854775807 by omega)]
      refine Wr.draw (by kernel_rfl) ?_
      simp only [gos, if_true, if_false, ne_eq, eq_self, Nat.reduceLT, Nat.reduceEqDiff, Nat.reduceAdd, Nat.reduceMul, Nat.reduceLeDiff, Nat.reduceBEq, reduceCtorEq, reduceIte, Array.toList, ↓reduceIte, tt, vgo, vout, vgoD, voutD, vclsOk, vids, mayWrite, V.ids, V.mids, vguard, callOf, vop, ev, cv, vbin, vint, isShift, isNilConst, vnil, isNilSlice, vload, vlen, newRow, vfill, vslice, entOf, vappend, srcOf, vcopy, vlookup, vupdate, mapOk, keyOf, intsOf, clsAt, Nat.mul_one, cI_len, p3, p4, p5, cB_len, show i + 1 ≤ 1000000 by omega]
      refine Nx.mk (i + 1) (show (c.last + 1).toNat - (i + 1) < (c.last + 1).toNat - i by omega) (by omega) ?_
      simp only [plSt, hnext, hk, cI_snoc, cB_snoc, decide_true, if_true]
      exact Wk.env (by simp [subE, Env.get, vI, Sc.cs, i64_succ (show (i : Int) < 9223372036854775807 by omega)])
    · simp only [gos, if_true, if_false, ne_eq, eq_self, Nat.reduceLT, Nat.reduceEqDiff, Nat.reduceAdd, Nat.reduceMul, Nat.reduceLeDiff, Nat.reduceBEq, reduceCtorEq, reduceIte, Array.toList, ↓reduceIte, tt, vgo, vout, vgoD, voutD, vclsOk, vids, mayWrite, V.ids, V.mids, vguard, callOf, vop, ev, cv, vbin, vint, isShift, isNilConst, vnil, isNilSlice, vload, vlen, newRow, vfill, vslice, entOf, vappend, srcOf, vcopy, vlookup, vupdate, mapOk, keyOf, intsOf, clsAt, vI, hwi, hper, cI_at (Int.natCast_nonneg i) hwi, hk, i64_in (show -9223372036854775808 ≤ x.tdiv c.per by omega) (show x.tdiv c.per ≤ 9223372036854775807 by omega)]
      refine Wr.draw (by kernel_rfl) ?_
      simp only [gos, if_true, if_false, ne_eq, eq_self, Nat.reduceLT, Nat.reduceEqDiff, Nat.reduceAdd, Nat.reduceMul, Nat.reduceLeDiff, Nat.reduceBEq, reduceCtorEq, reduceIte, Array.toList, ↓reduceIte, tt, vgo, vout, vgoD, voutD, vclsOk, vids, mayWrite, V.ids, V.mids, vguard, callOf, vop, ev, cv, vbin, vint, isShift, isNilConst, vnil, isNilSlice, vload, vlen, newRow, vfill, vslice, entOf, vappend, srcOf, vcopy, vlookup, vupdate, mapOk, keyOf, intsOf, clsAt, Nat.mul_one, cI_len, p3, p4, p5, cB_len, show i + 1 ≤ 1000000 by omega]
      refine Nx.mk (i + 1) (show (c.last + 1).toNat - (i + 1) < (c.last + 1).toNat - i by omega) (by omega) ?_
      simp only [plSt, hnext, hk, cI_snoc, cB_snoc, decide_false, Bool.false_eq_true, if_false]
      exact Wk.env (by simp [subE, Env.get, vI, Sc.cs, i64_succ (show (i : Int) < 9223372036854775807 by omega)])
  · have hie : (c.last + 1).toNat = i := by omega
    obtain ⟨p1, p2, p3, p4, p5⟩ := sPlay_inv k i hi
    simp only [gos, if_true, if_false, ne_eq, eq_self, Nat.reduceLT, Nat.reduceEqDiff, Nat.reduceAdd, Nat.reduceMul, Nat.reduceLeDiff, Nat.reduceBEq, reduceCtorEq, reduceIte, Array.toList, ↓reduceIte, tt, vgo, vout, vgoD, voutD, vclsOk, vids, mayWrite, V.ids, V.mids, vguard, callOf, vop, ev, cv, vbin, vint, isShift, isNilConst, vnil, isNilSlice, vload, vlen, newRow, vfill, vslice, entOf, vappend, srcOf, vcopy, vlookup, vupdate, mapOk, keyOf, intsOf, clsAt, plSt, hil]
    subst hQ
    rw [hie]
    exact FnPost.plain trivial (v := .agg [.own 64 i 0 1 i, .own 69 i 0 1 i, .own 74 i 0 1 i]) (fun h2 e => by simp only [Try.f98, vres, vresL, vres1, e _, gos, if_true, if_false, ne_eq, eq_self, Nat.reduceLT, Nat.reduceEqDiff, Nat.reduceAdd, Nat.reduceMul, Nat.reduceLeDiff, Nat.reduceBEq, reduceCtorEq, reduceIte, Array.toList, ↓reduceIte, tt, vgo, vout, vgoD, voutD, vclsOk, vids, mayWrite, V.ids, V.mids, vguard, callOf, vop, ev, cv, vbin, vint, isShift, isNilConst, vnil, isNilSlice, vload, vlen, newRow, vfill, vslice, entOf, vappend, srcOf, vcopy, vlookup, vupdate, mapOk, keyOf, intsOf, clsAt]) (wk_past i _ _ _ p3 p4 p5) ⟨rfl, rfl⟩
end Go.Vm
set_option linter.unusedVariables false
set_option linter.unusedSimpArgs false
set_option maxRecDepth 100000
namespace Go.Vm
open Go.Proofs
theorem c_IndexB (l : List Bool) (x : Bool) (hl : (l.length : Int) ≤ 1000000) : Pu Try.prog (.fn 144 [] []) [vB l, .bool x] (vi (sIdx (fun y => decide (x = y)) l)) := by
  refine Ev.fn Try.func144 rfl rfl (Fn.body tabOk Try.func144 rfl (Nat.le_of_ble_eq_true rfl) (Ks.ok (fz := (fzn [])) (cl := (cln [])) tabOk mixed ?_))
  generalize hQ : FnPost tt Try.f144 _ _ = Q
  simp only [Try.f144, List.nil_append, List.append_nil, List.cons_append, argsEnv, Nat.reduceAdd]
  simp only [gos, if_true, if_false, ne_eq, eq_self, Nat.reduceLT, Nat.reduceEqDiff, Nat.reduceAdd, Nat.reduceMul, Nat.reduceLeDiff, Nat.reduceBEq, reduceCtorEq, reduceIte, Array.toList, ↓reduceIte, tt, vgo, vout, vgoD, voutD, vclsOk, vids, mayWrite, V.ids, V.mids, vguard, callOf, vop, ev, cv, vbin, vint, isShift, isNilConst, vnil, isNilSlice, vload, vlen, newRow, vfill, vslice, entOf, vappend, srcOf, vcopy, vlookup, vupdate, mapOk, keyOf, intsOf, clsAt, vB]
  refine W.loop tabOk mixed (fun i : Nat => ([(0, vB l), (1, .bool x), (7, vi l.length), (8, vi i)], [])) (fun i => l.length - i) (fun i => i ≤ l.length ∧ ∀ (j : Nat) y, j < i → l[j]? = some y → decide (x = y) = false) 0 ⟨by omega, by omega⟩ (Wk.env (by simp [subE, Env.get, vB])) ?_
  rintro i ⟨hi, hj⟩
  by_cases hil : (i : Int) < l.length
  · cases hf : decide (x = gB l i)
    · simp only [gos, if_true, if_false, ne_eq, eq_self, Nat.reduceLT, Nat.reduceEqDiff, Nat.reduceAdd, Nat.reduceMul, Nat.reduceLeDiff, Nat.reduceBEq, reduceCtorEq, reduceIte, Array.toList, ↓reduceIte, tt, vgo, vout, vgoD, voutD, vclsOk, vids, mayWrite, V.ids, V.mids, vguard, callOf, vop, ev, cv, vbin, vint, isShift, isNilConst, vnil, isNilSlice, vload, vlen, newRow, vfill, vslice, entOf, vappend, srcOf, vcopy, vlookup, vupdate, mapOk, keyOf, intsOf, clsAt, vB, hil, cB_at (Int.natCast_nonneg i) hil, hf]
      refine Nx.mk (i + 1) (show l.length - (i + 1) < l.length - i by omega) ⟨by omega, fun j y hlt hy => ?_⟩ (Wk.env (by simp [subE, Env.get, vB, i64_succ (show (i : Int) < 9223372036854775807 by omega)]))
      rcases Nat.lt_or_eq_of_le (Nat.le_of_lt_succ hlt) with h | rfl
      · exact hj j y h hy
      · rw [gB_get hil] at hy; injection hy with hy; rw [← hy]; exact hf
    · simp only [gos, if_true, if_false, ne_eq, eq_self, Nat.reduceLT, Nat.reduceEqDiff, Nat.reduceAdd, Nat.reduceMul, Nat.reduceLeDiff, Nat.reduceBEq, reduceCtorEq, reduceIte, Array.toList, ↓reduceIte, tt, vgo, vout, vgoD, voutD, vclsOk, vids, mayWrite, V.ids, V.mids, vguard, callOf, vop, ev, cv, vbin, vint, isShift, isNilConst, vnil, isNilSlice, vload, vlen, newRow, vfill, vslice, entOf, vappend, srcOf, vcopy, vlookup, vupdate, mapOk, keyOf, intsOf, clsAt, vB, hil, cB_at (Int.natCast_nonneg i) hil, hf]
      subst hQ
      exact FnPost.plain trivial (fun h2 e => by first | rfl | (simp only [Try.f144, vres, vresL, vres1, e _, gos, if_true, if_false, ne_eq, eq_self, Nat.reduceLT, Nat.reduceEqDiff, Nat.reduceAdd, Nat.reduceMul, Nat.reduceLeDiff, Nat.reduceBEq, reduceCtorEq, reduceIte, Array.toList, ↓reduceIte, tt, vgo, vout, vgoD, voutD, vclsOk, vids, mayWrite, V.ids, V.mids, vguard, callOf, vop, ev, cv, vbin, vint, isShift, isNilConst, vnil, isNilSlice, vload, vlen, newRow, vfill, vslice, entOf, vappend, srcOf, vcopy, vlookup, vupdate, mapOk, keyOf, intsOf, clsAt]; try rfl)) (WkV.pure (by simp only [V.into, intoL, cB_into, vB_into, cI_into, cR_into, cD_into, cS_into, vS_into, vI_into, vR_into, vD_into, cu_into, Bool.true_and, Bool.and_true])) ⟨by rw [sIdx_some (f := fun y => decide (x = y)) (gB_get hil) hf hj], rfl⟩
  · simp only [gos, if_true, if_false, ne_eq, eq_self, Nat.reduceLT, Nat.reduceEqDiff, Nat.reduceAdd, Nat.reduceMul, Nat.reduceLeDiff, Nat.reduceBEq, reduceCtorEq, reduceIte, Array.toList, ↓reduceIte, tt, vgo, vout, vgoD, voutD, vclsOk, vids, mayWrite, V.ids, V.mids, vguard, callOf, vop, ev, cv, vbin, vint, isShift, isNilConst, vnil, isNilSlice, vload, vlen, newRow, vfill, vslice, entOf, vappend, srcOf, vcopy, vlookup, vupdate, mapOk, keyOf, intsOf, clsAt, vB, hil]
    subst hQ
    exact FnPost.plain trivial (fun h2 e => by first | rfl | (simp only [Try.f144, vres, vresL, vres1, e _, gos, if_true, if_false, ne_eq, eq_self, Nat.reduceLT, Nat.reduceEqDiff, Nat.reduceAdd, Nat.reduceMul, Nat.reduceLeDiff, Nat.reduceBEq, reduceCtorEq, reduceIte, Array.toList, ↓reduceIte, tt, vgo, vout, vgoD, voutD, vclsOk, vids, mayWrite, V.ids, V.mids, vguard, callOf, vop, ev, cv, vbin, vint, isShift, isNilConst, vnil, isNilSlice, vload, vlen, newRow, vfill, vslice, entOf, vappend, srcOf, vcopy, vlookup, vupdate, mapOk, keyOf, intsOf, clsAt]; try rfl)) (WkV.pure (by simp only [V.into, intoL, cB_into, vB_into, cI_into, cR_into, cD_into, cS_into, vS_into, vI_into, vR_into, vD_into, cu_into, Bool.true_and, Bool.and_true])) ⟨by rw [sIdx_none (f := fun y => decide (x = y)) fun j y hy => hj j y (by have := (List.getElem?_eq_some_iff.1 hy).1; omega) hy], rfl⟩
theorem c_ContainsB (l : List Bool) (x : Bool) (hl : (l.length : Int) ≤ 1000000) : Pu Try.prog (.fn 134 [] []) [vB l, .bool x] (.bool (l.any fun y => decide (x = y))) := by
  refine Ev.fn Try.func134 rfl rfl (Fn.body tabOk Try.func134 rfl (Nat.le_of_ble_eq_true rfl) (Ks.ok (fz := (fzn [])) (cl := (cln [])) tabOk mixed ?_))
  generalize hQ : FnPost tt Try.f134 _ _ = Q
  simp only [Try.f134, List.nil_append, List.append_nil, List.cons_append, argsEnv, Nat.reduceAdd]
  simp only [gos, if_true, if_false, ne_eq, eq_self, Nat.reduceLT, Nat.reduceEqDiff, Nat.reduceAdd, Nat.reduceMul, Nat.reduceLeDiff, Nat.reduceBEq, reduceCtorEq, reduceIte, Array.toList, ↓reduceIte, tt, vgo, vout, vgoD, voutD, vclsOk, vids, mayWrite, V.ids, V.mids, vguard, callOf, vop, ev, cv, vbin, vint, isShift, isNilConst, vnil, isNilSlice, vload, vlen, newRow, vfill, vslice, entOf, vappend, srcOf, vcopy, vlookup, vupdate, mapOk, keyOf, intsOf, clsAt]
  refine Cl.pu (c_IndexB l x hl) ?_ rfl (by simp only [V.into, intoL, cB_into, vB_into, cI_into, cR_into, cD_into, cS_into, vS_into, vI_into, vR_into, vD_into, cu_into, Bool.true_and, Bool.and_true])
  simp only [gos, if_true, if_false, ne_eq, eq_self, Nat.reduceLT, Nat.reduceEqDiff, Nat.reduceAdd, Nat.reduceMul, Nat.reduceLeDiff, Nat.reduceBEq, reduceCtorEq, reduceIte, Array.toList, ↓reduceIte, tt, vgo, vout, vgoD, voutD, vclsOk, vids, mayWrite, V.ids, V.mids, vguard, callOf, vop, ev, cv, vbin, vint, isShift, isNilConst, vnil, isNilSlice, vload, vlen, newRow, vfill, vslice, entOf, vappend, srcOf, vcopy, vlookup, vupdate, mapOk, keyOf, intsOf, clsAt]
  subst hQ
  exact FnPost.plain trivial (fun h2 e => by first | rfl | (simp only [Try.f134, vres, vresL, vres1, e _, gos, if_true, if_false, ne_eq, eq_self, Nat.reduceLT, Nat.reduceEqDiff, Nat.reduceAdd, Nat.reduceMul, Nat.reduceLeDiff, Nat.reduceBEq, reduceCtorEq, reduceIte, Array.toList, ↓reduceIte, tt, vgo, vout, vgoD, voutD, vclsOk, vids, mayWrite, V.ids, V.mids, vguard, callOf, vop, ev, cv, vbin, vint, isShift, isNilConst, vnil, isNilSlice, vload, vlen, newRow, vfill, vslice, entOf, vappend, srcOf, vcopy, vlookup, vupdate, mapOk, keyOf, intsOf, clsAt]; try rfl)) (WkV.pure (by simp only [V.into, intoL, cB_into, vB_into, cI_into, cR_into, cD_into, cS_into, vS_into, vI_into, vR_into, vD_into, cu_into, Bool.true_and, Bool.and_true])) ⟨by rw [← sIdx_any], rfl⟩
def Past.cs (p : Past) : List V := [vI p.hot, vI p.left, vB p.kept]
theorem c_pbuckets (p : Past) (i : Int) (h0 : 0 ≤ i) (h : i < p.hot.length) : Pu Try.prog (.fn 80 [] []) [.agg p.cs, vi i] (vi (gi p.hot i)) := by
  refine Ev.fn Try.func80 rfl rfl (Fn.body tabOk Try.func80 rfl (Nat.le_of_ble_eq_true rfl) (Ks.ok (fz := (fzn [])) (cl := (cln [])) tabOk mixed ?_))
  generalize hQ : FnPost tt Try.f80 _ _ = Q
  simp only [Try.f80, List.nil_append, List.append_nil, List.cons_append, argsEnv, Nat.reduceAdd]
  simp only [gos, if_true, if_false, ne_eq, eq_self, Nat.reduceLT, Nat.reduceEqDiff, Nat.reduceAdd, Nat.reduceMul, Nat.reduceLeDiff, Nat.reduceBEq, reduceCtorEq, reduceIte, Array.toList, ↓reduceIte, tt, vgo, vout, vgoD, voutD, vclsOk, vids, mayWrite, V.ids, V.mids, vguard, callOf, vop, ev, cv, vbin, vint, isShift, isNilConst, vnil, isNilSlice, vload, vlen, newRow, vfill, vslice, entOf, vappend, srcOf, vcopy, vlookup, vupdate, mapOk, keyOf, intsOf, clsAt, Past.cs, vI, h0, h, cI_at h0 h]
  subst hQ
  exact FnPost.plain trivial (fun h2 e => by first | rfl | (simp only [Try.f80, vres, vresL, vres1, e _, gos, if_true, if_false, ne_eq, eq_self, Nat.reduceLT, Nat.reduceEqDiff, Nat.reduceAdd, Nat.reduceMul, Nat.reduceLeDiff, Nat.reduceBEq, reduceCtorEq, reduceIte, Array.toList, ↓reduceIte, tt, vgo, vout, vgoD, voutD, vclsOk, vids, mayWrite, V.ids, V.mids, vguard, callOf, vop, ev, cv, vbin, vint, isShift, isNilConst, vnil, isNilSlice, vload, vlen, newRow, vfill, vslice, entOf, vappend, srcOf, vcopy, vlookup, vupdate, mapOk, keyOf, intsOf, clsAt]; try rfl)) (WkV.pure (by simp only [V.into, intoL, cB_into, vB_into, cI_into, cR_into, cD_into, cS_into, vS_into, vI_into, vR_into, vD_into, cu_into, Bool.true_and, Bool.and_true])) ⟨rfl, rfl⟩
theorem c_prest (p : Past) (i : Int) (h0 : 0 ≤ i) (h : i < p.left.length) : Pu Try.prog (.fn 82 [] []) [.agg p.cs, vi i] (vi (gi p.left i)) := by
  refine Ev.fn Try.func82 rfl rfl (Fn.body tabOk Try.func82 rfl (Nat.le_of_ble_eq_true rfl) (Ks.ok (fz := (fzn [])) (cl := (cln [])) tabOk mixed ?_))
  generalize hQ : FnPost tt Try.f82 _ _ = Q
  simp only [Try.f82, List.nil_append, List.append_nil, List.cons_append, argsEnv, Nat.reduceAdd]
  simp only [gos, if_true, if_false, ne_eq, eq_self, Nat.reduceLT, Nat.reduceEqDiff, Nat.reduceAdd, Nat.reduceMul, Nat.reduceLeDiff, Nat.reduceBEq, reduceCtorEq, reduceIte, Array.toList, ↓reduceIte, tt, vgo, vout, vgoD, voutD, vclsOk, vids, mayWrite, V.ids, V.mids, vguard, callOf, vop, ev, cv, vbin, vint, isShift, isNilConst, vnil, isNilSlice, vload, vlen, newRow, vfill, vslice, entOf, vappend, srcOf, vcopy, vlookup, vupdate, mapOk, keyOf, intsOf, clsAt, Past.cs, vI, h0, h, cI_at h0 h]
  subst hQ
  exact FnPost.plain trivial (fun h2 e => by first | rfl | (simp only [Try.f82, vres, vresL, vres1, e _, gos, if_true, if_false, ne_eq, eq_self, Nat.reduceLT, Nat.reduceEqDiff, Nat.reduceAdd, Nat.reduceMul, Nat.reduceLeDiff, Nat.reduceBEq, reduceCtorEq, reduceIte, Array.toList, ↓reduceIte, tt, vgo, vout, vgoD, voutD, vclsOk, vids, mayWrite, V.ids, V.mids, vguard, callOf, vop, ev, cv, vbin, vint, isShift, isNilConst, vnil, isNilSlice, vload, vlen, newRow, vfill, vslice, entOf, vappend, srcOf, vcopy, vlookup, vupdate, mapOk, keyOf, intsOf, clsAt]; try rfl)) (WkV.pure (by simp only [V.into, intoL, cB_into, vB_into, cI_into, cR_into, cD_into, cS_into, vS_into, vI_into, vR_into, vD_into, cu_into, Bool.true_and, Bool.and_true])) ⟨rfl, rfl⟩
theorem c_pfulfilled (p : Past) (i : Int) (h0 : 0 ≤ i) (h : i < p.kept.length) : Pu Try.prog (.fn 100 [] []) [.agg p.cs, vi i] (vi (if gB p.kept i then 1 else 0)) := by
  refine Ev.fn Try.func100 rfl rfl (Fn.body tabOk Try.func100 rfl (Nat.le_of_ble_eq_true rfl) (Ks.ok (fz := (fzn [])) (cl := (cln [])) tabOk mixed ?_))
  generalize hQ : FnPost tt Try.f100 _ _ = Q
  simp only [Try.f100, List.nil_append, List.append_nil, List.cons_append, argsEnv, Nat.reduceAdd]
  cases hb : gB p.kept i
  · simp only [gos, if_true, if_false, ne_eq, eq_self, Nat.reduceLT, Nat.reduceEqDiff, Nat.reduceAdd, Nat.reduceMul, Nat.reduceLeDiff, Nat.reduceBEq, reduceCtorEq, reduceIte, Array.toList, ↓reduceIte, tt, vgo, vout, vgoD, voutD, vclsOk, vids, mayWrite, V.ids, V.mids, vguard, callOf, vop, ev, cv, vbin, vint, isShift, isNilConst, vnil, isNilSlice, vload, vlen, newRow, vfill, vslice, entOf, vappend, srcOf, vcopy, vlookup, vupdate, mapOk, keyOf, intsOf, clsAt, Past.cs, vB, h0, h, cB_at h0 h, hb]
    subst hQ
    exact FnPost.plain trivial (fun h2 e => by first | rfl | (simp only [Try.f100, vres, vresL, vres1, e _, gos, if_true, if_false, ne_eq, eq_self, Nat.reduceLT, Nat.reduceEqDiff, Nat.reduceAdd, Nat.reduceMul, Nat.reduceLeDiff, Nat.reduceBEq, reduceCtorEq, reduceIte, Array.toList, ↓reduceIte, tt, vgo, vout, vgoD, voutD, vclsOk, vids, mayWrite, V.ids, V.mids, vguard, callOf, vop, ev, cv, vbin, vint, isShift, isNilConst, vnil, isNilSlice, vload, vlen, newRow, vfill, vslice, entOf, vappend, srcOf, vcopy, vlookup, vupdate, mapOk, keyOf, intsOf, clsAt]; try rfl)) (WkV.pure (by simp only [V.into, intoL, cB_into, vB_into, cI_into, cR_into, cD_into, cS_into, vS_into, vI_into, vR_into, vD_into, cu_into, Bool.true_and, Bool.and_true])) ⟨by rw [hb]; rfl, rfl⟩
  · simp only [gos, if_true, if_false, ne_eq, eq_self, Nat.reduceLT, Nat.reduceEqDiff, Nat.reduceAdd, Nat.reduceMul, Nat.reduceLeDiff, Nat.reduceBEq, reduceCtorEq, reduceIte, Array.toList, ↓reduceIte, tt, vgo, vout, vgoD, voutD, vclsOk, vids, mayWrite, V.ids, V.mids, vguard, callOf, vop, ev, cv, vbin, vint, isShift, isNilConst, vnil, isNilSlice, vload, vlen, newRow, vfill, vslice, entOf, vappend, srcOf, vcopy, vlookup, vupdate, mapOk, keyOf, intsOf, clsAt, Past.cs, vB, h0, h, cB_at h0 h, hb]
    subst hQ
    exact FnPost.plain trivial (fun h2 e => by first | rfl | (simp only [Try.f100, vres, vresL, vres1, e _, gos, if_true, if_false, ne_eq, eq_self, Nat.reduceLT, Nat.reduceEqDiff, Nat.reduceAdd, Nat.reduceMul, Nat.reduceLeDiff, Nat.reduceBEq, reduceCtorEq, reduceIte, Array.toList, ↓reduceIte, tt, vgo, vout, vgoD, voutD, vclsOk, vids, mayWrite, V.ids, V.mids, vguard, callOf, vop, ev, cv, vbin, vint, isShift, isNilConst, vnil, isNilSlice, vload, vlen, newRow, vfill, vslice, entOf, vappend, srcOf, vcopy, vlookup, vupdate, mapOk, keyOf, intsOf, clsAt]; try rfl)) (WkV.pure (by simp only [V.into, intoL, cB_into, vB_into, cI_into, cR_into, cD_into, cS_into, vS_into, vI_into, vR_into, vD_into, cu_into, Bool.true_and, Bool.and_true])) ⟨by rw [hb]; rfl, rfl⟩
theorem c_pwhole (p : Past) (i : Int) (h : (p.kept.length : Int) ≤ 1000000) : Pu Try.prog (.fn 123 [] []) [.agg p.cs, vi i] (vi (if p.kept.any fun y => decide (false = y) then 0 else 1)) := by
  refine Ev.fn Try.func123 rfl rfl (Fn.body tabOk Try.func123 rfl (Nat.le_of_ble_eq_true rfl) (Ks.ok (fz := (fzn [])) (cl := (cln [])) tabOk mixed ?_))
  generalize hQ : FnPost tt Try.f123 _ _ = Q
  simp only [Try.f123, List.nil_append, List.append_nil, List.cons_append, argsEnv, Nat.reduceAdd]
  simp only [gos, if_true, if_false, ne_eq, eq_self, Nat.reduceLT, Nat.reduceEqDiff, Nat.reduceAdd, Nat.reduceMul, Nat.reduceLeDiff, Nat.reduceBEq, reduceCtorEq, reduceIte, Array.toList, ↓reduceIte, tt, vgo, vout, vgoD, voutD, vclsOk, vids, mayWrite, V.ids, V.mids, vguard, callOf, vop, ev, cv, vbin, vint, isShift, isNilConst, vnil, isNilSlice, vload, vlen, newRow, vfill, vslice, entOf, vappend, srcOf, vcopy, vlookup, vupdate, mapOk, keyOf, intsOf, clsAt, Past.cs]
  refine Cl.pu (c_ContainsB p.kept false h) ?_ rfl (by simp only [V.into, intoL, cB_into, vB_into, cI_into, cR_into, cD_into, cS_into, vS_into, vI_into, vR_into, vD_into, cu_into, Bool.true_and, Bool.and_true])
  cases hb : p.kept.any fun y => decide (false = y)
  · simp only [gos, if_true, if_false, ne_eq, eq_self, Nat.reduceLT, Nat.reduceEqDiff, Nat.reduceAdd, Nat.reduceMul, Nat.reduceLeDiff, Nat.reduceBEq, reduceCtorEq, reduceIte, Array.toList, ↓reduceIte, tt, vgo, vout, vgoD, voutD, vclsOk, vids, mayWrite, V.ids, V.mids, vguard, callOf, vop, ev, cv, vbin, vint, isShift, isNilConst, vnil, isNilSlice, vload, vlen, newRow, vfill, vslice, entOf, vappend, srcOf, vcopy, vlookup, vupdate, mapOk, keyOf, intsOf, clsAt]
    subst hQ
    exact FnPost.plain trivial (fun h2 e => by first | rfl | (simp only [Try.f123, vres, vresL, vres1, e _, gos, if_true, if_false, ne_eq, eq_self, Nat.reduceLT, Nat.reduceEqDiff, Nat.reduceAdd, Nat.reduceMul, Nat.reduceLeDiff, Nat.reduceBEq, reduceCtorEq, reduceIte, Array.toList, ↓reduceIte, tt, vgo, vout, vgoD, voutD, vclsOk, vids, mayWrite, V.ids, V.mids, vguard, callOf, vop, ev, cv, vbin, vint, isShift, isNilConst, vnil, isNilSlice, vload, vlen, newRow, vfill, vslice, entOf, vappend, srcOf, vcopy, vlookup, vupdate, mapOk, keyOf, intsOf, clsAt]; try rfl)) (WkV.pure (by simp only [V.into, intoL, cB_into, vB_into, cI_into, cR_into, cD_into, cS_into, vS_into, vI_into, vR_into, vD_into, cu_into, Bool.true_and, Bool.and_true])) ⟨by rw [hb]; rfl, rfl⟩
  · simp only [gos, if_true, if_false, ne_eq, eq_self, Nat.reduceLT, Nat.reduceEqDiff, Nat.reduceAdd, Nat.reduceMul, Nat.reduceLeDiff, Nat.reduceBEq, reduceCtorEq, reduceIte, Array.toList, ↓reduceIte, tt, vgo, vout, vgoD, voutD, vclsOk, vids, mayWrite, V.ids, V.mids, vguard, callOf, vop, ev, cv, vbin, vint, isShift, isNilConst, vnil, isNilSlice, vload, vlen, newRow, vfill, vslice, entOf, vappend, srcOf, vcopy, vlookup, vupdate, mapOk, keyOf, intsOf, clsAt]
    subst hQ
    exact FnPost.plain trivial (fun h2 e => by first | rfl | (simp only [Try.f123, vres, vresL, vres1, e _, gos, if_true, if_false, ne_eq, eq_self, Nat.reduceLT, Nat.reduceEqDiff, Nat.reduceAdd, Nat.reduceMul, Nat.reduceLeDiff, Nat.reduceBEq, reduceCtorEq, reduceIte, Array.toList, ↓reduceIte, tt, vgo, vout, vgoD, voutD, vclsOk, vids, mayWrite, V.ids, V.mids, vguard, callOf, vop, ev, cv, vbin, vint, isShift, isNilConst, vnil, isNilSlice, vload, vlen, newRow, vfill, vslice, entOf, vappend, srcOf, vcopy, vlookup, vupdate, mapOk, keyOf, intsOf, clsAt]; try rfl)) (WkV.pure (by simp only [V.into, intoL, cB_into, vB_into, cI_into, cR_into, cD_into, cS_into, vS_into, vI_into, vR_into, vD_into, cu_into, Bool.true_and, Bool.and_true])) ⟨by rw [hb]; rfl, rfl⟩
def sVerdict (r : Rg) : Int := if 0 < r.lo then 1 else if r.hi = 0 then 2 else 3
theorem c_verdict (r : Rg) : Pu Try.prog (.fn 99 [] []) [.agg [vi r.lo, vi r.hi]] (vi (sVerdict r)) := by
  refine Ev.fn Try.func99 rfl rfl (Fn.body tabOk Try.func99 rfl (Nat.le_of_ble_eq_true rfl) (Ks.ok (fz := (fzn [])) (cl := (cln [])) tabOk mixed ?_))
  generalize hQ : FnPost tt Try.f99 _ _ = Q
  simp only [Try.f99, List.nil_append, List.append_nil, List.cons_append, argsEnv, Nat.reduceAdd]
  by_cases h1 : 0 < r.lo
  · simp only [gos, if_true, if_false, ne_eq, eq_self, Nat.reduceLT, Nat.reduceEqDiff, Nat.reduceAdd, Nat.reduceMul, Nat.reduceLeDiff, Nat.reduceBEq, reduceCtorEq, reduceIte, Array.toList, ↓reduceIte, tt, vgo, vout, vgoD, voutD, vclsOk, vids, mayWrite, V.ids, V.mids, vguard, callOf, vop, ev, cv, vbin, vint, isShift, isNilConst, vnil, isNilSlice, vload, vlen, newRow, vfill, vslice, entOf, vappend, srcOf, vcopy, vlookup, vupdate, mapOk, keyOf, intsOf, clsAt, h1]
    subst hQ
    exact FnPost.plain trivial (fun h2 e => by first | rfl | (simp only [Try.f99, vres, vresL, vres1, e _, gos, if_true, if_false, ne_eq, eq_self, Nat.reduceLT, Nat.reduceEqDiff, Nat.reduceAdd, Nat.reduceMul, Nat.reduceLeDiff, Nat.reduceBEq, reduceCtorEq, reduceIte, Array.toList, ↓reduceIte, tt, vgo, vout, vgoD, voutD, vclsOk, vids, mayWrite, V.ids, V.mids, vguard, callOf, vop, ev, cv, vbin, vint, isShift, isNilConst, vnil, isNilSlice, vload, vlen, newRow, vfill, vslice, entOf, vappend, srcOf, vcopy, vlookup, vupdate, mapOk, keyOf, intsOf, clsAt]; try rfl)) (WkV.pure (by simp only [V.into, intoL, cB_into, vB_into, cI_into, cR_into, cD_into, cS_into, vS_into, vI_into, vR_into, vD_into, cu_into, Bool.true_and, Bool.and_true])) ⟨by simp [sVerdict, h1], rfl⟩
  · by_cases h2 : r.hi = 0
    · simp only [gos, if_true, if_false, ne_eq, eq_self, Nat.reduceLT, Nat.reduceEqDiff, Nat.reduceAdd, Nat.reduceMul, Nat.reduceLeDiff, Nat.reduceBEq, reduceCtorEq, reduceIte, Array.toList, ↓reduceIte, tt, vgo, vout, vgoD, voutD, vclsOk, vids, mayWrite, V.ids, V.mids, vguard, callOf, vop, ev, cv, vbin, vint, isShift, isNilConst, vnil, isNilSlice, vload, vlen, newRow, vfill, vslice, entOf, vappend, srcOf, vcopy, vlookup, vupdate, mapOk, keyOf, intsOf, clsAt, h1, h2]
      subst hQ
      exact FnPost.plain trivial (fun h2 e => by first | rfl | (simp only [Try.f99, vres, vresL, vres1, e _, gos, if_true, if_false, ne_eq, eq_self, Nat.reduceLT, Nat.reduceEqDiff, Nat.reduceAdd, Nat.reduceMul, Nat.reduceLeDiff, Nat.reduceBEq, reduceCtorEq, reduceIte, Array.toList, ↓reduceIte, tt, vgo, vout, vgoD, voutD, vclsOk, vids, mayWrite, V.ids, V.mids, vguard, callOf, vop, ev, cv, vbin, vint, isShift, isNilConst, vnil, isNilSlice, vload, vlen, newRow, vfill, vslice, entOf, vappend, srcOf, vcopy, vlookup, vupdate, mapOk, keyOf, intsOf, clsAt]; try rfl)) (WkV.pure (by simp only [V.into, intoL, cB_into, vB_into, cI_into, cR_into, cD_into, cS_into, vS_into, vI_into, vR_into, vD_into, cu_into, Bool.true_and, Bool.and_true])) ⟨by simp [sVerdict, h1, h2], rfl⟩
    · simp only [gos, if_true, if_false, ne_eq, eq_self, Nat.reduceLT, Nat.reduceEqDiff, Nat.reduceAdd, Nat.reduceMul, Nat.reduceLeDiff, Nat.reduceBEq, reduceCtorEq, reduceIte, Array.toList, ↓reduceIte, tt, vgo, vout, vgoD, voutD, vclsOk, vids, mayWrite, V.ids, V.mids, vguard, callOf, vop, ev, cv, vbin, vint, isShift, isNilConst, vnil, isNilSlice, vload, vlen, newRow, vfill, vslice, entOf, vappend, srcOf, vcopy, vlookup, vupdate, mapOk, keyOf, intsOf, clsAt, h1, h2]
      subst hQ
      exact FnPost.plain trivial (fun h2 e => by first | rfl | (simp only [Try.f99, vres, vresL, vres1, e _, gos, if_true, if_false, ne_eq, eq_self, Nat.reduceLT, Nat.reduceEqDiff, Nat.reduceAdd, Nat.reduceMul, Nat.reduceLeDiff, Nat.reduceBEq, reduceCtorEq, reduceIte, Array.toList, ↓reduceIte, tt, vgo, vout, vgoD, voutD, vclsOk, vids, mayWrite, V.ids, V.mids, vguard, callOf, vop, ev, cv, vbin, vint, isShift, isNilConst, vnil, isNilSlice, vload, vlen, newRow, vfill, vslice, entOf, vappend, srcOf, vcopy, vlookup, vupdate, mapOk, keyOf, intsOf, clsAt]; try rfl)) (WkV.pure (by simp only [V.into, intoL, cB_into, vB_into, cI_into, cR_into, cD_into, cS_into, vS_into, vI_into, vR_into, vD_into, cu_into, Bool.true_and, Bool.and_true])) ⟨by simp [sVerdict, h1, h2], rfl⟩
/-- Is a reading right, or left out? -/
def sRead1 (c : Cu) (s : Sc) (out : List Int) (i : Nat) : Bool :=
  (out.any fun y => decide ((i : Int) = y)) || sIn (gi (sPlay c s c.coal c.want (c.last + 1).toNat).2.hot (gD c.readings i).hour) (gD c.readings i).b.lo (gD c.readings i).b.hi
def sRight (c : Cu) (s : Sc) (out : List Int) : Bool := (List.range c.readings.length).all fun i => sRead1 c s out i
theorem sRight_false {c : Cu} {s : Sc} {out : List Int} {i : Nat} (h : i < c.readings.length) (hf : sRead1 c s out i = false) : sRight c s out = false := by
  rw [Bool.eq_false_iff]; intro ha
  simp only [sRight, List.all_eq_true, List.mem_range] at ha
  rw [ha i h] at hf; cases hf
theorem sRight_true {c : Cu} {s : Sc} {out : List Int} (hf : ∀ i, i < c.readings.length → sRead1 c s out i = true) : sRight c s out = true := by
  simp only [sRight, List.all_eq_true, List.mem_range]; exact hf
set_option maxHeartbeats 2000000 in
theorem c_right (c : Cu) (s : Sc) (out : List Int) (k : PlayOk c s c.coal c.want) (hr : ∀ r ∈ c.readings, 0 ≤ r.hour ∧ r.hour ≤ c.last) (hrl : (c.readings.length : Int) ≤ 1000000) (hol : (out.length : Int) ≤ 1000000) :
    Pu Try.prog (.fn 101 [] []) [.agg c.cs, .agg s.cs, vI out] (.bool (sRight c s out)) := by
  refine Ev.fn Try.func101 rfl rfl (Fn.body tabOk Try.func101 rfl (Nat.le_of_ble_eq_true rfl) (Ks.ok (fz := (fzn [7, 9])) (cl := (cln [(5, .d tg0 [cP, cP, cP, cP, cP, cP, cL, cP, cL, cP, cL, cP, cP, cP, cP, cP])])) tabOk mixed ?_))
  generalize hQ : FnPost tt Try.f101 _ _ = Q
  simp only [Try.f101, List.nil_append, List.append_nil, List.cons_append, argsEnv, Nat.reduceAdd]
  have hk := sPlay_inv k (c.last + 1).toNat (by have := k.last; omega)
  have hsc : s.cs.length = 6 := by simp [Sc.cs, cI_len, k.loss.1]
  have hst : s.cs.take 6 = s.cs := List.take_of_length_le (by omega)
  simp only [gos, if_true, if_false, ne_eq, eq_self, Nat.reduceLT, Nat.reduceEqDiff, Nat.reduceAdd, Nat.reduceMul, Nat.reduceLeDiff, Nat.reduceBEq, reduceCtorEq, reduceIte, Array.toList, ↓reduceIte, tt, vgo, vout, vgoD, voutD, vclsOk, vids, mayWrite, V.ids, V.mids, vguard, callOf, vop, ev, cv, vbin, vint, isShift, isNilConst, vnil, isNilSlice, vload, vlen, newRow, vfill, vslice, entOf, vappend, srcOf, vcopy, vlookup, vupdate, mapOk, keyOf, intsOf, clsAt, hsc, hst]
  refine Cl.pu (c_play c s c.coal c.want k) ?_ rfl (by simp only [V.into, intoL, cB_into, vB_into, cI_into, cR_into, cD_into, cS_into, vS_into, vI_into, vR_into, vD_into, cu_into, Bool.true_and, Bool.and_true, Sc.cs])
  generalize hp : (sPlay c s c.coal c.want (c.last + 1).toNat).2 = pa at hk ⊢
  simp only [gos, if_true, if_false, ne_eq, eq_self, Nat.reduceLT, Nat.reduceEqDiff, Nat.reduceAdd, Nat.reduceMul, Nat.reduceLeDiff, Nat.reduceBEq, reduceCtorEq, reduceIte, Array.toList, ↓reduceIte, tt, vgo, vout, vgoD, voutD, vclsOk, vids, mayWrite, V.ids, V.mids, vguard, callOf, vop, ev, cv, vbin, vint, isShift, isNilConst, vnil, isNilSlice, vload, vlen, newRow, vfill, vslice, entOf, vappend, srcOf, vcopy, vlookup, vupdate, mapOk, keyOf, intsOf, clsAt, vD]
  refine W.loop tabOk mixed (fun i : Nat => ([(18, vD c.readings), (19, vi c.readings.length), (20, vi i), (2, vI out), (7, .ptr 7 0 0)], [(7, ⟨0, .row [vI pa.hot, vI pa.left, vB pa.kept]⟩)])) (fun i => c.readings.length - i) (fun i => i ≤ c.readings.length ∧ ∀ j < i, sRead1 c s out j = true) 0 ⟨by omega, by omega⟩ (Wk.env (by simp [subE, Env.get, vD])) ?_
  rintro i ⟨hi, hj⟩
  by_cases hil : (i : Int) < c.readings.length
  · simp only [gos, if_true, if_false, ne_eq, eq_self, Nat.reduceLT, Nat.reduceEqDiff, Nat.reduceAdd, Nat.reduceMul, Nat.reduceLeDiff, Nat.reduceBEq, reduceCtorEq, reduceIte, Array.toList, ↓reduceIte, tt, vgo, vout, vgoD, voutD, vclsOk, vids, mayWrite, V.ids, V.mids, vguard, callOf, vop, ev, cv, vbin, vint, isShift, isNilConst, vnil, isNilSlice, vload, vlen, newRow, vfill, vslice, entOf, vappend, srcOf, vcopy, vlookup, vupdate, mapOk, keyOf, intsOf, clsAt, vD, hil, cD_at (Int.natCast_nonneg i) hil]
    have hrd := hr _ (List.mem_of_getElem? (gD_get hil))
    have hhl : (gD c.readings i).hour < pa.hot.length := by omega
    refine Wr.draw (by kernel_rfl) ?_
    simp only [gos, if_true, if_false, ne_eq, eq_self, Nat.reduceLT, Nat.reduceEqDiff, Nat.reduceAdd, Nat.reduceMul, Nat.reduceLeDiff, Nat.reduceBEq, reduceCtorEq, reduceIte, Array.toList, ↓reduceIte, tt, vgo, vout, vgoD, voutD, vclsOk, vids, mayWrite, V.ids, V.mids, vguard, callOf, vop, ev, cv, vbin, vint, isShift, isNilConst, vnil, isNilSlice, vload, vlen, newRow, vfill, vslice, entOf, vappend, srcOf, vcopy, vlookup, vupdate, mapOk, keyOf, intsOf, clsAt]
    refine CD.pu (c_Contains out i hol) ?_ rfl (by simp only [V.into, intoL, cB_into, vB_into, cI_into, cR_into, cD_into, cS_into, vS_into, vI_into, vR_into, vD_into, cu_into, Bool.true_and, Bool.and_true])
    cases h1 : out.any fun y => decide ((i : Int) = y)
    · simp only [gos, if_true, if_false, ne_eq, eq_self, Nat.reduceLT, Nat.reduceEqDiff, Nat.reduceAdd, Nat.reduceMul, Nat.reduceLeDiff, Nat.reduceBEq, reduceCtorEq, reduceIte, Array.toList, ↓reduceIte, tt, vgo, vout, vgoD, voutD, vclsOk, vids, mayWrite, V.ids, V.mids, vguard, callOf, vop, ev, cv, vbin, vint, isShift, isNilConst, vnil, isNilSlice, vload, vlen, newRow, vfill, vslice, entOf, vappend, srcOf, vcopy, vlookup, vupdate, mapOk, keyOf, intsOf, clsAt, vI, hrd.1, hhl, cI_at hrd.1 hhl]
      refine CD.pu (c_has ⟨(gD c.readings i).b.lo, (gD c.readings i).b.hi⟩ _) ?_
      cases h2 : sIn (gi pa.hot (gD c.readings i).hour) (gD c.readings i).b.lo (gD c.readings i).b.hi
      · simp only [gos, if_true, if_false, ne_eq, eq_self, Nat.reduceLT, Nat.reduceEqDiff, Nat.reduceAdd, Nat.reduceMul, Nat.reduceLeDiff, Nat.reduceBEq, reduceCtorEq, reduceIte, Array.toList, ↓reduceIte, tt, vgo, vout, vgoD, voutD, vclsOk, vids, mayWrite, V.ids, V.mids, vguard, callOf, vop, ev, cv, vbin, vint, isShift, isNilConst, vnil, isNilSlice, vload, vlen, newRow, vfill, vslice, entOf, vappend, srcOf, vcopy, vlookup, vupdate, mapOk, keyOf, intsOf, clsAt]
        subst hQ
        exact FnPost.plain trivial (fun h2 e => by first | rfl | (simp only [Try.f101, vres, vresL, vres1, e _, gos, if_true, if_false, ne_eq, eq_self, Nat.reduceLT, Nat.reduceEqDiff, Nat.reduceAdd, Nat.reduceMul, Nat.reduceLeDiff, Nat.reduceBEq, reduceCtorEq, reduceIte, Array.toList, ↓reduceIte, tt, vgo, vout, vgoD, voutD, vclsOk, vids, mayWrite, V.ids, V.mids, vguard, callOf, vop, ev, cv, vbin, vint, isShift, isNilConst, vnil, isNilSlice, vload, vlen, newRow, vfill, vslice, entOf, vappend, srcOf, vcopy, vlookup, vupdate, mapOk, keyOf, intsOf, clsAt]; try rfl)) (WkV.pure (by simp only [V.into, intoL, cB_into, vB_into, cI_into, cR_into, cD_into, cS_into, vS_into, vI_into, vR_into, vD_into, cu_into, Bool.true_and, Bool.and_true])) ⟨by rw [sRight_false (i := i) (by omega) (by simp only [sRead1, h1, hp, h2, Bool.or_self])], rfl⟩
      · simp only [gos, if_true, if_false, ne_eq, eq_self, Nat.reduceLT, Nat.reduceEqDiff, Nat.reduceAdd, Nat.reduceMul, Nat.reduceLeDiff, Nat.reduceBEq, reduceCtorEq, reduceIte, Array.toList, ↓reduceIte, tt, vgo, vout, vgoD, voutD, vclsOk, vids, mayWrite, V.ids, V.mids, vguard, callOf, vop, ev, cv, vbin, vint, isShift, isNilConst, vnil, isNilSlice, vload, vlen, newRow, vfill, vslice, entOf, vappend, srcOf, vcopy, vlookup, vupdate, mapOk, keyOf, intsOf, clsAt]
        refine Nx.mk (i + 1) (show c.readings.length - (i + 1) < c.readings.length - i by omega) ⟨by omega, fun j hlt => ?_⟩ (Wk.forget (by simp [subE, Env.get, vD, vI, i64_succ (show (i : Int) < 9223372036854775807 by omega)]) (by simp [subH, Heap.get, vI]) (fun j hp => by simp [orD, domP, Heap.get] at hp) (by simp only [intoE, V.into, intoL, cB_into, vB_into, cI_into, cR_into, cD_into, cS_into, vS_into, vI_into, vR_into, vD_into, cu_into, Bool.true_and, Bool.and_true]; rfl) (by simp only [intoH, Blk.into, V.into, intoL, cB_into, vB_into, cI_into, cR_into, cD_into, cS_into, vS_into, vI_into, vR_into, vD_into, cu_into, Bool.true_and, Bool.and_true]))
        rcases Nat.lt_or_eq_of_le (Nat.le_of_lt_succ hlt) with h | rfl
        · exact hj j h
        · simp only [sRead1, h1, hp, h2, Bool.false_or]
    · simp only [gos, if_true, if_false, ne_eq, eq_self, Nat.reduceLT, Nat.reduceEqDiff, Nat.reduceAdd, Nat.reduceMul, Nat.reduceLeDiff, Nat.reduceBEq, reduceCtorEq, reduceIte, Array.toList, ↓reduceIte, tt, vgo, vout, vgoD, voutD, vclsOk, vids, mayWrite, V.ids, V.mids, vguard, callOf, vop, ev, cv, vbin, vint, isShift, isNilConst, vnil, isNilSlice, vload, vlen, newRow, vfill, vslice, entOf, vappend, srcOf, vcopy, vlookup, vupdate, mapOk, keyOf, intsOf, clsAt]
      refine Nx.mk (i + 1) (show c.readings.length - (i + 1) < c.readings.length - i by omega) ⟨by omega, fun j hlt => ?_⟩ (Wk.forget (by simp [subE, Env.get, vD, vI, i64_succ (show (i : Int) < 9223372036854775807 by omega)]) (by simp [subH, Heap.get, vI]) (fun j hp => by simp [orD, domP, Heap.get] at hp) (by simp only [intoE, V.into, intoL, cB_into, vB_into, cI_into, cR_into, cD_into, cS_into, vS_into, vI_into, vR_into, vD_into, cu_into, Bool.true_and, Bool.and_true]; rfl) (by simp only [intoH, Blk.into, V.into, intoL, cB_into, vB_into, cI_into, cR_into, cD_into, cS_into, vS_into, vI_into, vR_into, vD_into, cu_into, Bool.true_and, Bool.and_true]))
      rcases Nat.lt_or_eq_of_le (Nat.le_of_lt_succ hlt) with h | rfl
      · exact hj j h
      · simp only [sRead1, h1, Bool.true_or]
  · simp only [gos, if_true, if_false, ne_eq, eq_self, Nat.reduceLT, Nat.reduceEqDiff, Nat.reduceAdd, Nat.reduceMul, Nat.reduceLeDiff, Nat.reduceBEq, reduceCtorEq, reduceIte, Array.toList, ↓reduceIte, tt, vgo, vout, vgoD, voutD, vclsOk, vids, mayWrite, V.ids, V.mids, vguard, callOf, vop, ev, cv, vbin, vint, isShift, isNilConst, vnil, isNilSlice, vload, vlen, newRow, vfill, vslice, entOf, vappend, srcOf, vcopy, vlookup, vupdate, mapOk, keyOf, intsOf, clsAt, vD, hil]
    subst hQ
    exact FnPost.plain trivial (fun h2 e => by first | rfl | (simp only [Try.f101, vres, vresL, vres1, e _, gos, if_true, if_false, ne_eq, eq_self, Nat.reduceLT, Nat.reduceEqDiff, Nat.reduceAdd, Nat.reduceMul, Nat.reduceLeDiff, Nat.reduceBEq, reduceCtorEq, reduceIte, Array.toList, ↓reduceIte, tt, vgo, vout, vgoD, voutD, vclsOk, vids, mayWrite, V.ids, V.mids, vguard, callOf, vop, ev, cv, vbin, vint, isShift, isNilConst, vnil, isNilSlice, vload, vlen, newRow, vfill, vslice, entOf, vappend, srcOf, vcopy, vlookup, vupdate, mapOk, keyOf, intsOf, clsAt]; try rfl)) (WkV.pure (by simp only [V.into, intoL, cB_into, vB_into, cI_into, cR_into, cD_into, cS_into, vS_into, vI_into, vR_into, vD_into, cu_into, Bool.true_and, Bool.and_true])) ⟨by rw [sRight_true fun j hj' => hj j (by omega)], rfl⟩
end Go.Vm
set_option linter.unusedVariables false
set_option linter.unusedSimpArgs false
set_option maxRecDepth 100000
namespace Go.Vm
open Go.Proofs
theorem wc_any (p : Nat → Bool) (c : Cu) (tr : List Sc) : intoL p (wcs c tr .any) = true := wc_into p c tr .any rfl
def sBounds (ns : List Int) : Rg := match ns with
  | [] => ⟨0, 0⟩
  | n :: l => l.foldl sWider (sWider ⟨n, n⟩ n)
theorem sBounds_one (n : Int) : sBounds [n] = sWider ⟨n, n⟩ n := rfl
theorem sBounds_snoc {ns : List Int} (h : ns ≠ []) (n : Int) : sBounds (ns ++ [n]) = sWider (sBounds ns) n := by
  cases ns with
  | nil => exact absurd rfl h
  | cons x l => simp [sBounds]
def sPast (c : Cu) (coal want : List Int) (s : Sc) : Past := (sPlay c s coal want (c.last + 1).toNat).2
set_option maxHeartbeats 2000000 in
theorem c_bounds (pf : FuncId) (q : Past → Int) (c : Cu) (tr : List Sc) (want : List Int) (hour : Int) (htl : (tr.length : Int) ≤ 1000000) (hok : okS tr) (hpl : ∀ s ∈ tr, PlayOk c s c.coal want)
    (hq : ∀ s ∈ tr, Pu Try.prog (.fn pf [] []) [.agg (sPast c c.coal want s).cs, vi hour] (vi (q (sPast c c.coal want s)))) :
    Pu Try.prog (.fn 81 [] []) [.agg [.fn pf [] []], .rop (wcs c tr .any), vI want, vi hour]
      (.agg [vi (sBounds (tr.map fun s => q (sPast c c.coal want s))).lo, vi (sBounds (tr.map fun s => q (sPast c c.coal want s))).hi]) := by
  refine Ev.fn Try.func81 rfl rfl (Fn.body tabOk Try.func81 rfl (Nat.le_of_ble_eq_true rfl) (Ks.ok (fz := (fzn [8, 10])) (cl := (cln [(4, .d tg0 [cP, cP, cP, cP, cP, cP, cL, cP, cP, cP, cP, cP, cP, cP, cP, cP, cP])])) tabOk mixed ?_))
  generalize hQ : FnPost tt Try.f81 _ _ = Q
  simp only [Try.f81, List.nil_append, List.append_nil, List.cons_append, argsEnv, Nat.reduceAdd]
  simp only [gos, if_true, if_false, ne_eq, eq_self, Nat.reduceLT, Nat.reduceEqDiff, Nat.reduceAdd, Nat.reduceMul, Nat.reduceLeDiff, Nat.reduceBEq, reduceCtorEq, reduceIte, Array.toList, ↓reduceIte, tt, vgo, vout, vgoD, voutD, vclsOk, vids, mayWrite, V.ids, V.mids, vguard, callOf, vop, ev, cv, vbin, vint, isShift, isNilConst, vnil, isNilSlice, vload, vlen, newRow, vfill, vslice, entOf, vappend, srcOf, vcopy, vlookup, vupdate, mapOk, keyOf, intsOf, clsAt, vS]
  let r : Nat → Rg := fun i => sBounds ((tr.take i).map fun s => q (sPast c c.coal want s))
  refine W.loop tabOk mixed (fun i : Nat => ([(4, .rop [.fn pf [] []]), (1, .rop (wcs c tr .any)), (2, vI want), (3, vi hour), (15, vS tr), (16, vi tr.length), (17, vi i), (8, .ptr 8 0 0)], [(8, ⟨0, .row [vi (r i).lo, vi (r i).hi]⟩)])) (fun i => tr.length - i) (fun i => i ≤ tr.length) 0 (by omega) (Wk.env (by simp [subE, Env.get, vS])) ?_
  intro i hi
  by_cases hil : (i : Int) < tr.length
  · have hmem := List.mem_of_getElem? (gS_get hil)
    have h5 := hok _ hmem
    have hT : ∀ X : List V, List.take 5 (cI (gS tr i).loss ++ X) = cI (gS tr i).loss := fun X => by
      rw [List.take_append_of_le_length (by rw [cI_len]; omega), List.take_of_length_le (by rw [cI_len]; omega)]
    have hL : ∀ X : List V, 6 ≤ (cI (gS tr i).loss ++ X).length + 1 := fun X => by rw [List.length_append, cI_len]; omega
    have hL2 : ∀ X : List V, 5 ≤ (cI (gS tr i).loss ++ X).length := fun X => by rw [List.length_append, cI_len]; omega
    have hl5 : (cI (gS tr i).loss).length = 5 := by rw [cI_len]; exact h5
    have ho5 : oneL (cI (gS tr i).loss) = true := by
      generalize (gS tr i).loss = l
      induction l with
      | nil => rfl
      | cons x l ih => simpa [cI, oneL, V.one] using ih
    have ht5 : List.take 5 (cI (gS tr i).loss) = cI (gS tr i).loss := List.take_of_length_le (by omega)
    simp only [gos, if_true, if_false, ne_eq, eq_self, Nat.reduceLT, Nat.reduceEqDiff, Nat.reduceAdd, Nat.reduceMul, Nat.reduceLeDiff, Nat.reduceBEq, reduceCtorEq, reduceIte, Array.toList, ↓reduceIte, tt, vgo, vout, vgoD, voutD, vclsOk, vids, mayWrite, V.ids, V.mids, vguard, callOf, vop, ev, cv, vbin, vint, isShift, isNilConst, vnil, isNilSlice, vload, vlen, newRow, vfill, vslice, entOf, vappend, srcOf, vcopy, vlookup, vupdate, mapOk, keyOf, intsOf, clsAt, vS, hil, cS_at hok (Int.natCast_nonneg i) hil, hT, hL, hL2, hl5, ho5, ht5]
    refine Wr.draw (by kernel_rfl) ?_
    simp only [gos, if_true, if_false, ne_eq, eq_self, Nat.reduceLT, Nat.reduceEqDiff, Nat.reduceAdd, Nat.reduceMul, Nat.reduceLeDiff, Nat.reduceBEq, reduceCtorEq, reduceIte, Array.toList, ↓reduceIte, tt, vgo, vout, vgoD, voutD, vclsOk, vids, mayWrite, V.ids, V.mids, vguard, callOf, vop, ev, cv, vbin, vint, isShift, isNilConst, vnil, isNilSlice, vload, vlen, newRow, vfill, vslice, entOf, vappend, srcOf, vcopy, vlookup, vupdate, mapOk, keyOf, intsOf, clsAt, hl5, ho5, ht5]
    refine CD.pu (c_play c (gS tr i) c.coal want (hpl _ hmem)) ?_ rfl (by simp only [V.into, intoL, cB_into, vB_into, cI_into, cR_into, cD_into, cS_into, vS_into, vI_into, vR_into, vD_into, cu_into, Bool.true_and, Bool.and_true, Sc.cs])
    simp only [gos, if_true, if_false, ne_eq, eq_self, Nat.reduceLT, Nat.reduceEqDiff, Nat.reduceAdd, Nat.reduceMul, Nat.reduceLeDiff, Nat.reduceBEq, reduceCtorEq, reduceIte, Array.toList, ↓reduceIte, tt, vgo, vout, vgoD, voutD, vclsOk, vids, mayWrite, V.ids, V.mids, vguard, callOf, vop, ev, cv, vbin, vint, isShift, isNilConst, vnil, isNilSlice, vload, vlen, newRow, vfill, vslice, entOf, vappend, srcOf, vcopy, vlookup, vupdate, mapOk, keyOf, intsOf, clsAt]
    refine CD.pu (hq _ hmem) ?_ rfl (by simp only [V.into, intoL, cB_into, vB_into, cI_into, cR_into, cD_into, cS_into, vS_into, vI_into, vR_into, vD_into, cu_into, Bool.true_and, Bool.and_true, Past.cs])
    have htk : (tr.take (i + 1)).map (fun s => q (sPast c c.coal want s)) = (tr.take i).map (fun s => q (sPast c c.coal want s)) ++ [q (sPast c c.coal want (gS tr i))] := by
      rw [List.take_add_one, gS_get hil, List.map_append]; rfl
    generalize hn : q (sPast c c.coal want (gS tr i)) = n at htk ⊢
    by_cases hi0 : i = 0
    · have hz : ((i : Int) = 0) = True := by simp [hi0]
      have hr1 : r (i + 1) = sWider ⟨n, n⟩ n := by
        show sBounds _ = _
        rw [htk, hi0]; rfl
      simp only [gos, if_true, if_false, ne_eq, eq_self, Nat.reduceLT, Nat.reduceEqDiff, Nat.reduceAdd, Nat.reduceMul, Nat.reduceLeDiff, Nat.reduceBEq, reduceCtorEq, reduceIte, Array.toList, ↓reduceIte, tt, vgo, vout, vgoD, voutD, vclsOk, vids, mayWrite, V.ids, V.mids, vguard, callOf, vop, ev, cv, vbin, vint, isShift, isNilConst, vnil, isNilSlice, vload, vlen, newRow, vfill, vslice, entOf, vappend, srcOf, vcopy, vlookup, vupdate, mapOk, keyOf, intsOf, clsAt, hz]
      refine Cl.pu (c_wider ⟨n, n⟩ n) ?_
      simp only [gos, if_true, if_false, ne_eq, eq_self, Nat.reduceLT, Nat.reduceEqDiff, Nat.reduceAdd, Nat.reduceMul, Nat.reduceLeDiff, Nat.reduceBEq, reduceCtorEq, reduceIte, Array.toList, ↓reduceIte, tt, vgo, vout, vgoD, voutD, vclsOk, vids, mayWrite, V.ids, V.mids, vguard, callOf, vop, ev, cv, vbin, vint, isShift, isNilConst, vnil, isNilSlice, vload, vlen, newRow, vfill, vslice, entOf, vappend, srcOf, vcopy, vlookup, vupdate, mapOk, keyOf, intsOf, clsAt]
      refine Nx.mk (i + 1) (show tr.length - (i + 1) < tr.length - i by omega) (by omega) (Wk.forget (by simp [subE, Env.get, vS, i64_succ (show (i : Int) < 9223372036854775807 by omega)]) (by simp [subH, Heap.get, hr1]) (fun j hp => by simp [orD, domP, Heap.get] at hp) (by simp only [intoE, V.into, intoL, cB_into, vB_into, cI_into, cR_into, cD_into, cS_into, vS_into, vI_into, vR_into, vD_into, cu_into, Bool.true_and, Bool.and_true, wc_any]; rfl) (by simp only [intoH, Blk.into, V.into, intoL, cB_into, vB_into, cI_into, cR_into, cD_into, cS_into, vS_into, vI_into, vR_into, vD_into, cu_into, Bool.true_and, Bool.and_true]))
    · have hz : ((i : Int) = 0) = False := by simp [hi0]
      have hr1 : r (i + 1) = sWider (r i) n := by
        show sBounds _ = sWider (sBounds _) n
        rw [htk, sBounds_snoc (by
          intro e
          have := congrArg List.length e
          rw [List.length_map, List.length_take] at this
          have : min i tr.length = 0 := this
          omega)]
      simp only [gos, if_true, if_false, ne_eq, eq_self, Nat.reduceLT, Nat.reduceEqDiff, Nat.reduceAdd, Nat.reduceMul, Nat.reduceLeDiff, Nat.reduceBEq, reduceCtorEq, reduceIte, Array.toList, ↓reduceIte, tt, vgo, vout, vgoD, voutD, vclsOk, vids, mayWrite, V.ids, V.mids, vguard, callOf, vop, ev, cv, vbin, vint, isShift, isNilConst, vnil, isNilSlice, vload, vlen, newRow, vfill, vslice, entOf, vappend, srcOf, vcopy, vlookup, vupdate, mapOk, keyOf, intsOf, clsAt, hz]
      refine Cl.pu (c_wider (r i) n) ?_
      simp only [gos, if_true, if_false, ne_eq, eq_self, Nat.reduceLT, Nat.reduceEqDiff, Nat.reduceAdd, Nat.reduceMul, Nat.reduceLeDiff, Nat.reduceBEq, reduceCtorEq, reduceIte, Array.toList, ↓reduceIte, tt, vgo, vout, vgoD, voutD, vclsOk, vids, mayWrite, V.ids, V.mids, vguard, callOf, vop, ev, cv, vbin, vint, isShift, isNilConst, vnil, isNilSlice, vload, vlen, newRow, vfill, vslice, entOf, vappend, srcOf, vcopy, vlookup, vupdate, mapOk, keyOf, intsOf, clsAt]
      refine Nx.mk (i + 1) (show tr.length - (i + 1) < tr.length - i by omega) (by omega) (Wk.forget (by simp [subE, Env.get, vS, i64_succ (show (i : Int) < 9223372036854775807 by omega)]) (by simp [subH, Heap.get, hr1]) (fun j hp => by simp [orD, domP, Heap.get] at hp) (by simp only [intoE, V.into, intoL, cB_into, vB_into, cI_into, cR_into, cD_into, cS_into, vS_into, vI_into, vR_into, vD_into, cu_into, Bool.true_and, Bool.and_true, wc_any]; rfl) (by simp only [intoH, Blk.into, V.into, intoL, cB_into, vB_into, cI_into, cR_into, cD_into, cS_into, vS_into, vI_into, vR_into, vD_into, cu_into, Bool.true_and, Bool.and_true]))
  · have e : tr.take i = tr := List.take_of_length_le (by omega)
    simp only [gos, if_true, if_false, ne_eq, eq_self, Nat.reduceLT, Nat.reduceEqDiff, Nat.reduceAdd, Nat.reduceMul, Nat.reduceLeDiff, Nat.reduceBEq, reduceCtorEq, reduceIte, Array.toList, ↓reduceIte, tt, vgo, vout, vgoD, voutD, vclsOk, vids, mayWrite, V.ids, V.mids, vguard, callOf, vop, ev, cv, vbin, vint, isShift, isNilConst, vnil, isNilSlice, vload, vlen, newRow, vfill, vslice, entOf, vappend, srcOf, vcopy, vlookup, vupdate, mapOk, keyOf, intsOf, clsAt, vS, hil]
    subst hQ
    exact FnPost.plain trivial (fun h2 e => by first | rfl | (simp only [Try.f81, vres, vresL, vres1, e _, gos, if_true, if_false, ne_eq, eq_self, Nat.reduceLT, Nat.reduceEqDiff, Nat.reduceAdd, Nat.reduceMul, Nat.reduceLeDiff, Nat.reduceBEq, reduceCtorEq, reduceIte, Array.toList, ↓reduceIte, tt, vgo, vout, vgoD, voutD, vclsOk, vids, mayWrite, V.ids, V.mids, vguard, callOf, vop, ev, cv, vbin, vint, isShift, isNilConst, vnil, isNilSlice, vload, vlen, newRow, vfill, vslice, entOf, vappend, srcOf, vcopy, vlookup, vupdate, mapOk, keyOf, intsOf, clsAt]; try rfl)) (WkV.pure (by simp only [V.into, intoL, cB_into, vB_into, cI_into, cR_into, cD_into, cS_into, vS_into, vI_into, vR_into, vD_into, cu_into, Bool.true_and, Bool.and_true])) ⟨by simp only [r, e], rfl⟩
end Go.Vm
set_option linter.unusedVariables false
set_option linter.unusedSimpArgs false
set_option maxRecDepth 100000
namespace Go.Vm
open Go.Proofs
def pad5 (l : List Int) : List Int := l ++ List.replicate (5 - l.length) 0
def zSc : Sc := ⟨0, [0, 0, 0, 0, 0]⟩
def sScOk (c : Cu) (t : Tr2) : Bool := sIn t.heat c.heat.lo c.heat.hi && decide ((t.loss.length : Int) = c.last + 1) && (List.range t.loss.length).all fun i => sIn (gi t.loss i) (gR c.loss i).lo (gR c.loss i).hi
def sScene (c : Cu) (t : Tr2) : Sc := if sScOk c t then ⟨t.heat, pad5 t.loss⟩ else zSc
theorem range_all_false {n : Nat} {f : Nat → Bool} {i : Nat} (h : i < n) (hf : f i = false) : (List.range n).all f = false := by
  rw [Bool.eq_false_iff]; intro ha
  rw [List.all_eq_true] at ha
  rw [ha i (List.mem_range.2 h)] at hf; cases hf
theorem range_all_true {n : Nat} {f : Nat → Bool} (hf : ∀ i, i < n → f i = true) : (List.range n).all f = true := by
  rw [List.all_eq_true]; intro i hi; exact hf i (List.mem_range.1 hi)
theorem cI_one : ∀ l : List Int, oneL (cI l) = true
  | [] => rfl
  | x :: l => by simp only [cI, List.map_cons, oneL, V.one, Bool.true_and]; exact cI_one l
theorem copy5 {l : List Int} (h : l.length ≤ 5) {a : V} : List.take l.length (cI l) ++ List.drop (1 + l.length) [a, vi 0, vi 0, vi 0, vi 0, vi 0] = cI (pad5 l) := by
  match l, h with
  | [], _ => rfl
  | [x], _ => rfl
  | [x, y], _ => rfl
  | [x, y, z], _ => rfl
  | [x, y, z, u], _ => rfl
  | [x, y, z, u, v], _ => rfl
set_option maxHeartbeats 2000000 in
theorem c_scene (c : Cu) (t : Tr2) (h0 : 0 ≤ c.last ∧ c.last ≤ 4) (hl : (c.loss.length : Int) = c.last + 1) (htl : (t.loss.length : Int) ≤ 1000000) :
    Pu Try.prog (.fn 97 [] []) [.agg c.cs, .agg t.cs] (.tup [.agg (sScene c t).cs, .bool (sScOk c t)]) := by
  refine Ev.fn Try.func97 rfl rfl (Fn.body tabOk Try.func97 rfl (Nat.le_of_ble_eq_true rfl) (Ks.ok (fz := (fzn [4])) (cl := (cln [(10, .d tg0 [cP, cL, cP, cP, cW])])) tabOk mixed ?_))
  generalize hQ : FnPost tt Try.f97 _ _ = Q
  simp only [Try.f97, List.nil_append, List.append_nil, List.cons_append, argsEnv, Nat.reduceAdd]
  simp only [gos, if_true, if_false, ne_eq, eq_self, Nat.reduceLT, Nat.reduceEqDiff, Nat.reduceAdd, Nat.reduceMul, Nat.reduceLeDiff, Nat.reduceBEq, reduceCtorEq, reduceIte, Array.toList, ↓reduceIte, tt, vgo, vout, vgoD, voutD, vclsOk, vids, mayWrite, V.ids, V.mids, vguard, callOf, vop, ev, cv, vbin, vint, isShift, isNilConst, vnil, isNilSlice, vload, vlen, newRow, vfill, vslice, entOf, vappend, srcOf, vcopy, vlookup, vupdate, mapOk, keyOf, intsOf, clsAt, Tr2.cs]
  refine Cl.pu (c_has c.heat _) ?_
  cases h1 : sIn t.heat c.heat.lo c.heat.hi
  · simp only [gos, if_true, if_false, ne_eq, eq_self, Nat.reduceLT, Nat.reduceEqDiff, Nat.reduceAdd, Nat.reduceMul, Nat.reduceLeDiff, Nat.reduceBEq, reduceCtorEq, reduceIte, Array.toList, ↓reduceIte, tt, vgo, vout, vgoD, voutD, vclsOk, vids, mayWrite, V.ids, V.mids, vguard, callOf, vop, ev, cv, vbin, vint, isShift, isNilConst, vnil, isNilSlice, vload, vlen, newRow, vfill, vslice, entOf, vappend, srcOf, vcopy, vlookup, vupdate, mapOk, keyOf, intsOf, clsAt]
    subst hQ
    exact FnPost.plain trivial (fun h2 e => by first | rfl | (simp only [Try.f97, vres, vresL, vres1, e _, gos, if_true, if_false, ne_eq, eq_self, Nat.reduceLT, Nat.reduceEqDiff, Nat.reduceAdd, Nat.reduceMul, Nat.reduceLeDiff, Nat.reduceBEq, reduceCtorEq, reduceIte, Array.toList, ↓reduceIte, tt, vgo, vout, vgoD, voutD, vclsOk, vids, mayWrite, V.ids, V.mids, vguard, callOf, vop, ev, cv, vbin, vint, isShift, isNilConst, vnil, isNilSlice, vload, vlen, newRow, vfill, vslice, entOf, vappend, srcOf, vcopy, vlookup, vupdate, mapOk, keyOf, intsOf, clsAt]; try rfl)) (WkV.pure (by simp only [V.into, intoL, cB_into, vB_into, cI_into, cR_into, cD_into, cS_into, vS_into, vI_into, vR_into, vD_into, cu_into, Bool.true_and, Bool.and_true])) ⟨by simp [sScene, sScOk, h1, zSc, Sc.cs, cI], rfl⟩
  simp only [gos, if_true, if_false, ne_eq, eq_self, Nat.reduceLT, Nat.reduceEqDiff, Nat.reduceAdd, Nat.reduceMul, Nat.reduceLeDiff, Nat.reduceBEq, reduceCtorEq, reduceIte, Array.toList, ↓reduceIte, tt, vgo, vout, vgoD, voutD, vclsOk, vids, mayWrite, V.ids, V.mids, vguard, callOf, vop, ev, cv, vbin, vint, isShift, isNilConst, vnil, isNilSlice, vload, vlen, newRow, vfill, vslice, entOf, vappend, srcOf, vcopy, vlookup, vupdate, mapOk, keyOf, intsOf, clsAt, vI, i64_in (show -9223372036854775808 ≤ c.last + 1 by omega) (show c.last + 1 ≤ 9223372036854775807 by omega)]
  by_cases h2 : (t.loss.length : Int) = c.last + 1
  case neg =>
    have hb : ((t.loss.length : Int) != c.last + 1) = true := by simp [h2]
    simp only [gos, if_true, if_false, ne_eq, eq_self, Nat.reduceLT, Nat.reduceEqDiff, Nat.reduceAdd, Nat.reduceMul, Nat.reduceLeDiff, Nat.reduceBEq, reduceCtorEq, reduceIte, Array.toList, ↓reduceIte, tt, vgo, vout, vgoD, voutD, vclsOk, vids, mayWrite, V.ids, V.mids, vguard, callOf, vop, ev, cv, vbin, vint, isShift, isNilConst, vnil, isNilSlice, vload, vlen, newRow, vfill, vslice, entOf, vappend, srcOf, vcopy, vlookup, vupdate, mapOk, keyOf, intsOf, clsAt, hb]
    subst hQ
    exact FnPost.plain trivial (fun h2 e => by first | rfl | (simp only [Try.f97, vres, vresL, vres1, e _, gos, if_true, if_false, ne_eq, eq_self, Nat.reduceLT, Nat.reduceEqDiff, Nat.reduceAdd, Nat.reduceMul, Nat.reduceLeDiff, Nat.reduceBEq, reduceCtorEq, reduceIte, Array.toList, ↓reduceIte, tt, vgo, vout, vgoD, voutD, vclsOk, vids, mayWrite, V.ids, V.mids, vguard, callOf, vop, ev, cv, vbin, vint, isShift, isNilConst, vnil, isNilSlice, vload, vlen, newRow, vfill, vslice, entOf, vappend, srcOf, vcopy, vlookup, vupdate, mapOk, keyOf, intsOf, clsAt]; try rfl)) (WkV.pure (by simp only [V.into, intoL, cB_into, vB_into, cI_into, cR_into, cD_into, cS_into, vS_into, vI_into, vR_into, vD_into, cu_into, Bool.true_and, Bool.and_true])) ⟨by simp [sScene, sScOk, h2, zSc, Sc.cs, cI], rfl⟩
  have hb : ((t.loss.length : Int) != c.last + 1) = false := by simp [h2]
  simp only [gos, if_true, if_false, ne_eq, eq_self, Nat.reduceLT, Nat.reduceEqDiff, Nat.reduceAdd, Nat.reduceMul, Nat.reduceLeDiff, Nat.reduceBEq, reduceCtorEq, reduceIte, Array.toList, ↓reduceIte, tt, vgo, vout, vgoD, voutD, vclsOk, vids, mayWrite, V.ids, V.mids, vguard, callOf, vop, ev, cv, vbin, vint, isShift, isNilConst, vnil, isNilSlice, vload, vlen, newRow, vfill, vslice, entOf, vappend, srcOf, vcopy, vlookup, vupdate, mapOk, keyOf, intsOf, clsAt, hb]
  refine W.loop tabOk mixed (fun i : Nat => ([(2, .rop c.cs), (3, .rop [vi t.heat, vI t.loss]), (25, vI t.loss), (26, vi t.loss.length), (27, vi i), (4, .ptr 4 0 0)], [(4, ⟨0, .row [vi 0, vi 0, vi 0, vi 0, vi 0, vi 0]⟩)])) (fun i => t.loss.length - i) (fun i => i ≤ t.loss.length ∧ ∀ j < i, sIn (gi t.loss j) (gR c.loss j).lo (gR c.loss j).hi = true) 0 ⟨by omega, by omega⟩ (Wk.env (by simp [subE, Env.get, vI])) ?_
  rintro i ⟨hi, hj⟩
  by_cases hil : (i : Int) < t.loss.length
  · have hil2 : (i : Int) < c.loss.length := by omega
    simp only [gos, if_true, if_false, ne_eq, eq_self, Nat.reduceLT, Nat.reduceEqDiff, Nat.reduceAdd, Nat.reduceMul, Nat.reduceLeDiff, Nat.reduceBEq, reduceCtorEq, reduceIte, Array.toList, ↓reduceIte, tt, vgo, vout, vgoD, voutD, vclsOk, vids, mayWrite, V.ids, V.mids, vguard, callOf, vop, ev, cv, vbin, vint, isShift, isNilConst, vnil, isNilSlice, vload, vlen, newRow, vfill, vslice, entOf, vappend, srcOf, vcopy, vlookup, vupdate, mapOk, keyOf, intsOf, clsAt, vI, vR, hil, hil2, cI_at (Int.natCast_nonneg i) hil, cR_at (Int.natCast_nonneg i) hil2]
    refine Cl.pu (c_has (gR c.loss i) _) ?_
    cases h3 : sIn (gi t.loss i) (gR c.loss i).lo (gR c.loss i).hi
    · simp only [gos, if_true, if_false, ne_eq, eq_self, Nat.reduceLT, Nat.reduceEqDiff, Nat.reduceAdd, Nat.reduceMul, Nat.reduceLeDiff, Nat.reduceBEq, reduceCtorEq, reduceIte, Array.toList, ↓reduceIte, tt, vgo, vout, vgoD, voutD, vclsOk, vids, mayWrite, V.ids, V.mids, vguard, callOf, vop, ev, cv, vbin, vint, isShift, isNilConst, vnil, isNilSlice, vload, vlen, newRow, vfill, vslice, entOf, vappend, srcOf, vcopy, vlookup, vupdate, mapOk, keyOf, intsOf, clsAt]
      have hf : sScOk c t = false := by
        have := range_all_false (n := t.loss.length) (f := fun i => sIn (gi t.loss i) (gR c.loss i).lo (gR c.loss i).hi) (i := i) (by omega) h3
        simp [sScOk, this]
      subst hQ
      exact FnPost.plain trivial (fun h2 e => by first | rfl | (simp only [Try.f97, vres, vresL, vres1, e _, gos, if_true, if_false, ne_eq, eq_self, Nat.reduceLT, Nat.reduceEqDiff, Nat.reduceAdd, Nat.reduceMul, Nat.reduceLeDiff, Nat.reduceBEq, reduceCtorEq, reduceIte, Array.toList, ↓reduceIte, tt, vgo, vout, vgoD, voutD, vclsOk, vids, mayWrite, V.ids, V.mids, vguard, callOf, vop, ev, cv, vbin, vint, isShift, isNilConst, vnil, isNilSlice, vload, vlen, newRow, vfill, vslice, entOf, vappend, srcOf, vcopy, vlookup, vupdate, mapOk, keyOf, intsOf, clsAt]; try rfl)) (WkV.pure (by simp only [V.into, intoL, cB_into, vB_into, cI_into, cR_into, cD_into, cS_into, vS_into, vI_into, vR_into, vD_into, cu_into, Bool.true_and, Bool.and_true])) ⟨by simp [sScene, hf, zSc, Sc.cs, cI], rfl⟩
    · simp only [gos, if_true, if_false, ne_eq, eq_self, Nat.reduceLT, Nat.reduceEqDiff, Nat.reduceAdd, Nat.reduceMul, Nat.reduceLeDiff, Nat.reduceBEq, reduceCtorEq, reduceIte, Array.toList, ↓reduceIte, tt, vgo, vout, vgoD, voutD, vclsOk, vids, mayWrite, V.ids, V.mids, vguard, callOf, vop, ev, cv, vbin, vint, isShift, isNilConst, vnil, isNilSlice, vload, vlen, newRow, vfill, vslice, entOf, vappend, srcOf, vcopy, vlookup, vupdate, mapOk, keyOf, intsOf, clsAt]
      refine Nx.mk (i + 1) (show t.loss.length - (i + 1) < t.loss.length - i by omega) ⟨by omega, fun j hlt => ?_⟩ (Wk.env (by simp [subE, Env.get, vI, i64_succ (show (i : Int) < 9223372036854775807 by omega)]))
      rcases Nat.lt_or_eq_of_le (Nat.le_of_lt_succ hlt) with h | rfl
      · exact hj j h
      · exact h3
  · have hok : sScOk c t = true := by
      have := range_all_true (n := t.loss.length) (f := fun i => sIn (gi t.loss i) (gR c.loss i).lo (gR c.loss i).hi) fun j hlt => hj j (by omega)
      simp [sScOk, this, h1, h2]
    simp only [gos, if_true, if_false, ne_eq, eq_self, Nat.reduceLT, Nat.reduceEqDiff, Nat.reduceAdd, Nat.reduceMul, Nat.reduceLeDiff, Nat.reduceBEq, reduceCtorEq, reduceIte, Array.toList, ↓reduceIte, tt, vgo, vout, vgoD, voutD, vclsOk, vids, mayWrite, V.ids, V.mids, vguard, callOf, vop, ev, cv, vbin, vint, isShift, isNilConst, vnil, isNilSlice, vload, vlen, newRow, vfill, vslice, entOf, vappend, srcOf, vcopy, vlookup, vupdate, mapOk, keyOf, intsOf, clsAt, vI, hil]
    refine Wr.draw (by kernel_rfl) ?_
    have hn : t.loss.length ≤ 5 := by omega
    have hp5 : (pad5 t.loss).length = 5 := by simp [pad5]; omega
    have ht5 : List.take 5 (cI (pad5 t.loss)) = cI (pad5 t.loss) := List.take_of_length_le (by rw [cI_len]; omega)
    have hd5 : List.drop 5 (cI (pad5 t.loss)) = [] := List.drop_eq_nil_of_le (by rw [cI_len]; omega)
    simp only [gos, if_true, if_false, ne_eq, eq_self, Nat.reduceLT, Nat.reduceEqDiff, Nat.reduceAdd, Nat.reduceMul, Nat.reduceLeDiff, Nat.reduceBEq, reduceCtorEq, reduceIte, Array.toList, ↓reduceIte, tt, vgo, vout, vgoD, voutD, vclsOk, vids, mayWrite, V.ids, V.mids, vguard, callOf, vop, ev, cv, vbin, vint, isShift, isNilConst, vnil, isNilSlice, vload, vlen, newRow, vfill, vslice, entOf, vappend, srcOf, vcopy, vlookup, vupdate, mapOk, keyOf, intsOf, clsAt, cI_len, Nat.mul_one, cI_one, Nat.min_eq_left hn, copy5 hn, hp5, ht5, hd5]
    subst hQ
    have hres : sScene c t = ⟨t.heat, pad5 t.loss⟩ := by simp [sScene, hok]
    exact FnPost.plain trivial (v := .tup [.agg (vi t.heat :: cI (pad5 t.loss)), .bool true]) (fun h2 e => by simp only [Try.f97, vres, vresL, vres1, e _, gos, if_true, if_false, ne_eq, eq_self, Nat.reduceLT, Nat.reduceEqDiff, Nat.reduceAdd, Nat.reduceMul, Nat.reduceLeDiff, Nat.reduceBEq, reduceCtorEq, reduceIte, Array.toList, ↓reduceIte, tt, vgo, vout, vgoD, voutD, vclsOk, vids, mayWrite, V.ids, V.mids, vguard, callOf, vop, ev, cv, vbin, vint, isShift, isNilConst, vnil, isNilSlice, vload, vlen, newRow, vfill, vslice, entOf, vappend, srcOf, vcopy, vlookup, vupdate, mapOk, keyOf, intsOf, clsAt, cI_len, hp5, ht5]) (WkV.pure (by simp only [V.into, intoL, cB_into, vB_into, cI_into, cR_into, cD_into, cS_into, vS_into, vI_into, vR_into, vD_into, cu_into, Bool.true_and, Bool.and_true])) ⟨by rw [hres, hok]; rfl, rfl⟩
end Go.Vm
set_option linter.unusedVariables false
set_option linter.unusedSimpArgs false
set_option maxRecDepth 100000
namespace Go.Vm
open Go.Proofs
/-- Valid coppers. -/
structure CuOk (c : Cu) : Prop where
  last : 0 ≤ c.last ∧ c.last ≤ 4
  rds : (c.readings.length : Int) ≤ 5
  most : 0 ≤ c.most ∧ c.most ≤ 999
  start : 0 ≤ c.start ∧ c.start ≤ c.most
  per : 1 ≤ c.per ∧ c.per ≤ 20
  shovels : 0 ≤ c.shovels ∧ c.shovels ≤ 3
  coal : (c.coal.length : Int) = c.last + 1 ∧ ∀ x ∈ c.coal, 0 ≤ x ∧ x ≤ c.shovels
  want : (c.want.length : Int) = c.last + 1 ∧ ∀ x ∈ c.want, 0 ≤ x ∧ x ≤ 20
  heat : sInside c.heat 99 = true
  loss : (c.loss.length : Int) = c.last + 1 ∧ ∀ r ∈ c.loss, sInside r 99 = true
  readings : ∀ r ∈ c.readings, sReading c r = true
  many : sMany c ≤ 2000
theorem sCheck_ok {c : Cu} (h : sCheck c = 0) : CuOk c := by
  unfold sCheck at h
  split at h
  · cases h
  rename_i h1
  split at h
  · cases h
  rename_i h2
  split at h
  · cases h
  rename_i h3
  split at h
  · cases h
  rename_i h4
  simp only [Bool.not_eq_true] at h2 h3
  simp only [sBad1, Bool.or_eq_false_iff, Bool.not_eq_false', decide_eq_false_iff_not, sIn, Bool.and_eq_true, decide_eq_true_eq] at h2
  simp only [sBad2, Bool.or_eq_false_iff, Bool.not_eq_false', decide_eq_false_iff_not, sIsCoal, sPromised, sIn, Bool.and_eq_true, decide_eq_true_eq, List.all_eq_true, ne_eq, Decidable.not_not] at h3
  obtain ⟨⟨⟨⟨a1, a2⟩, a3⟩, a4⟩, a5⟩ := h2
  obtain ⟨⟨⟨⟨⟨b1, b2⟩, b3⟩, b4⟩, b5⟩, b6⟩ := h3
  exact ⟨by omega, by omega, by omega, a2, a4, a5, b1, b2, b3, ⟨b4, b5⟩, b6, by omega⟩
theorem CuOk.wf {c : Cu} (k : CuOk c) : c.wf := by
  have := k.last; have := k.coal.1; have := k.want.1; have := k.loss.1; have := k.rds
  exact ⟨⟨by omega, by omega⟩, by omega, by omega, by omega, by omega⟩
/-- A truth that the coppers list. -/
structure ScOk (c : Cu) (s : Sc) : Prop where
  heat : 0 ≤ s.heat ∧ s.heat ≤ 99
  loss : s.loss.length = 5 ∧ ∀ x ∈ s.loss, 0 ≤ x ∧ x ≤ 99
theorem CuOk.play {c : Cu} (k : CuOk c) {s : Sc} (ks : ScOk c s) {coal want : List Int} (hc : (coal.length : Int) = c.last + 1 ∧ ∀ x ∈ coal, 0 ≤ x ∧ x ≤ 3) (hw : (want.length : Int) = c.last + 1 ∧ ∀ x ∈ want, 0 ≤ x ∧ x ≤ 40) : PlayOk c s coal want :=
  ⟨k.last, k.most, k.start, k.per, ks.heat, ks.loss, hc, hw⟩
theorem CuOk.play0 {c : Cu} (k : CuOk c) {s : Sc} (ks : ScOk c s) : PlayOk c s c.coal c.want :=
  k.play ks ⟨k.coal.1, fun x hx => by have := k.coal.2 x hx; have := k.shovels; omega⟩ ⟨k.want.1, fun x hx => by have := k.want.2 x hx; omega⟩
theorem CuOk.hours {c : Cu} (k : CuOk c) : ∀ r ∈ c.readings, 0 ≤ r.hour ∧ r.hour ≤ c.last := fun r hr => by
  have := k.readings r hr
  simp only [sReading, sIn, Bool.and_eq_true, decide_eq_true_eq] at this
  exact this.1
theorem scOk_of {c : Cu} (k : CuOk c) {t : Tr2} (h : sScOk c t = true) : ScOk c (sScene c t) := by
  have hs : sScene c t = ⟨t.heat, pad5 t.loss⟩ := by simp [sScene, h]
  simp only [sScOk, Bool.and_eq_true, decide_eq_true_eq, List.all_eq_true, List.mem_range, sIn] at h
  obtain ⟨⟨h1, h2⟩, h3⟩ := h
  have hh := k.heat
  simp only [sInside, Bool.and_eq_true, decide_eq_true_eq] at hh
  have hl := k.last
  rw [hs]
  refine ⟨by simp only; omega, by simp [pad5]; omega, fun x hx => ?_⟩
  simp only [pad5, List.mem_append] at hx
  rcases hx with hx | hx
  · obtain ⟨i, hi, rfl⟩ := List.mem_iff_getElem.1 hx
    have h4 := h3 i hi
    have h5 := k.loss.2 _ (List.mem_of_getElem? (gR_get (l := c.loss) (i := i) (by have := k.loss.1; omega)))
    simp only [sInside, Bool.and_eq_true, decide_eq_true_eq] at h5
    have h6 : gi t.loss i = t.loss[i] := by rw [gi, Int.toNat_natCast, List.getD_eq_getElem?_getD, List.getElem?_eq_getElem hi]; rfl
    rw [h6] at h4
    omega
  · rw [List.mem_replicate] at hx; omega
theorem sl0_vI : ImpV .sl0 (vI []) := ImpV.sl0
def sProveTruth (c : Cu) (t : Tr2) : Bool := decide (sCheck c = 0) && (sScOk c t && sRight c (sScene c t) [])
set_option maxHeartbeats 2000000 in
theorem c_ProveTruth (c : Cu) (t : Tr2) (hc : c.wf) (htl : (t.loss.length : Int) ≤ 1000000) : Pu Try.prog (.fn 58 [] []) [.agg c.cs, .agg t.cs] (.bool (sProveTruth c t)) := by
  refine Ev.fn Try.func58 rfl rfl (Fn.body tabOk Try.func58 rfl (Nat.le_of_ble_eq_true rfl) (Ks.ok (fz := (fzn [5])) (cl := (cln [])) tabOk mixed ?_))
  generalize hQ : FnPost tt Try.f58 _ _ = Q
  simp only [Try.f58, List.nil_append, List.append_nil, List.cons_append, argsEnv, Nat.reduceAdd]
  simp only [gos, if_true, if_false, ne_eq, eq_self, Nat.reduceLT, Nat.reduceEqDiff, Nat.reduceAdd, Nat.reduceMul, Nat.reduceLeDiff, Nat.reduceBEq, reduceCtorEq, reduceIte, Array.toList, ↓reduceIte, tt, vgo, vout, vgoD, voutD, vclsOk, vids, mayWrite, V.ids, V.mids, vguard, callOf, vop, ev, cv, vbin, vint, isShift, isNilConst, vnil, isNilSlice, vload, vlen, newRow, vfill, vslice, entOf, vappend, srcOf, vcopy, vlookup, vupdate, mapOk, keyOf, intsOf, clsAt]
  refine Cl.pu (c_Check c hc) ?_ rfl (by simp only [V.into, intoL, cB_into, vB_into, cI_into, cR_into, cD_into, cS_into, vS_into, vI_into, vR_into, vD_into, cu_into, Bool.true_and, Bool.and_true])
  by_cases h0 : sCheck c = 0
  case neg =>
    have hb : (sCheck c != 0) = true := by simp [h0]
    simp only [gos, if_true, if_false, ne_eq, eq_self, Nat.reduceLT, Nat.reduceEqDiff, Nat.reduceAdd, Nat.reduceMul, Nat.reduceLeDiff, Nat.reduceBEq, reduceCtorEq, reduceIte, Array.toList, ↓reduceIte, tt, vgo, vout, vgoD, voutD, vclsOk, vids, mayWrite, V.ids, V.mids, vguard, callOf, vop, ev, cv, vbin, vint, isShift, isNilConst, vnil, isNilSlice, vload, vlen, newRow, vfill, vslice, entOf, vappend, srcOf, vcopy, vlookup, vupdate, mapOk, keyOf, intsOf, clsAt, hb]
    subst hQ
    exact FnPost.plain trivial (fun h2 e => by first | rfl | (simp only [Try.f58, vres, vresL, vres1, e _, gos, if_true, if_false, ne_eq, eq_self, Nat.reduceLT, Nat.reduceEqDiff, Nat.reduceAdd, Nat.reduceMul, Nat.reduceLeDiff, Nat.reduceBEq, reduceCtorEq, reduceIte, Array.toList, ↓reduceIte, tt, vgo, vout, vgoD, voutD, vclsOk, vids, mayWrite, V.ids, V.mids, vguard, callOf, vop, ev, cv, vbin, vint, isShift, isNilConst, vnil, isNilSlice, vload, vlen, newRow, vfill, vslice, entOf, vappend, srcOf, vcopy, vlookup, vupdate, mapOk, keyOf, intsOf, clsAt]; try rfl)) (WkV.pure (by simp only [V.into, intoL, cB_into, vB_into, cI_into, cR_into, cD_into, cS_into, vS_into, vI_into, vR_into, vD_into, cu_into, Bool.true_and, Bool.and_true])) ⟨by simp [sProveTruth, h0], rfl⟩
  have hb : (sCheck c != 0) = false := by simp [h0]
  have k := sCheck_ok h0
  have hts : t.cs.take 2 = t.cs := rfl
  have htn : t.cs.length = 2 := rfl
  simp only [gos, if_true, if_false, ne_eq, eq_self, Nat.reduceLT, Nat.reduceEqDiff, Nat.reduceAdd, Nat.reduceMul, Nat.reduceLeDiff, Nat.reduceBEq, reduceCtorEq, reduceIte, Array.toList, ↓reduceIte, tt, vgo, vout, vgoD, voutD, vclsOk, vids, mayWrite, V.ids, V.mids, vguard, callOf, vop, ev, cv, vbin, vint, isShift, isNilConst, vnil, isNilSlice, vload, vlen, newRow, vfill, vslice, entOf, vappend, srcOf, vcopy, vlookup, vupdate, mapOk, keyOf, intsOf, clsAt, hb, hts, htn]
  refine Cl.pu (c_scene c t k.last k.loss.1 htl) ?_ rfl (by simp only [V.into, intoL, cB_into, vB_into, cI_into, cR_into, cD_into, cS_into, vS_into, vI_into, vR_into, vD_into, cu_into, Bool.true_and, Bool.and_true, Tr2.cs])
  cases h1 : sScOk c t
  · have hz : (sScene c t) = zSc := by simp [sScene, h1]
    simp only [gos, if_true, if_false, ne_eq, eq_self, Nat.reduceLT, Nat.reduceEqDiff, Nat.reduceAdd, Nat.reduceMul, Nat.reduceLeDiff, Nat.reduceBEq, reduceCtorEq, reduceIte, Array.toList, ↓reduceIte, tt, vgo, vout, vgoD, voutD, vclsOk, vids, mayWrite, V.ids, V.mids, vguard, callOf, vop, ev, cv, vbin, vint, isShift, isNilConst, vnil, isNilSlice, vload, vlen, newRow, vfill, vslice, entOf, vappend, srcOf, vcopy, vlookup, vupdate, mapOk, keyOf, intsOf, clsAt, hz, zSc, Sc.cs, cI]
    subst hQ
    exact FnPost.plain trivial (fun h2 e => by first | rfl | (simp only [Try.f58, vres, vresL, vres1, e _, gos, if_true, if_false, ne_eq, eq_self, Nat.reduceLT, Nat.reduceEqDiff, Nat.reduceAdd, Nat.reduceMul, Nat.reduceLeDiff, Nat.reduceBEq, reduceCtorEq, reduceIte, Array.toList, ↓reduceIte, tt, vgo, vout, vgoD, voutD, vclsOk, vids, mayWrite, V.ids, V.mids, vguard, callOf, vop, ev, cv, vbin, vint, isShift, isNilConst, vnil, isNilSlice, vload, vlen, newRow, vfill, vslice, entOf, vappend, srcOf, vcopy, vlookup, vupdate, mapOk, keyOf, intsOf, clsAt]; try rfl)) (WkV.pure (by simp only [V.into, intoL, cB_into, vB_into, cI_into, cR_into, cD_into, cS_into, vS_into, vI_into, vR_into, vD_into, cu_into, Bool.true_and, Bool.and_true])) ⟨by simp [sProveTruth, h1], rfl⟩
  have ks := scOk_of k h1
  generalize hsc : sScene c t = s at ks ⊢
  have hs5 : (cI s.loss).length = 5 := by rw [cI_len]; exact ks.loss.1
  have ht5 : List.take 5 (cI s.loss) = cI s.loss := List.take_of_length_le (by omega)
  have hd5 : List.drop 5 (cI s.loss) = [] := List.drop_eq_nil_of_le (by omega)
  simp only [gos, if_true, if_false, ne_eq, eq_self, Nat.reduceLT, Nat.reduceEqDiff, Nat.reduceAdd, Nat.reduceMul, Nat.reduceLeDiff, Nat.reduceBEq, reduceCtorEq, reduceIte, Array.toList, ↓reduceIte, tt, vgo, vout, vgoD, voutD, vclsOk, vids, mayWrite, V.ids, V.mids, vguard, callOf, vop, ev, cv, vbin, vint, isShift, isNilConst, vnil, isNilSlice, vload, vlen, newRow, vfill, vslice, entOf, vappend, srcOf, vcopy, vlookup, vupdate, mapOk, keyOf, intsOf, clsAt, Sc.cs, hs5, ht5, hd5, cI_one]
  refine Cl.imp (cs := [.agg c.cs, .agg s.cs, vI []]) (ImpV.refl _) ⟨ImpV.refl _, ImpV.refl _, sl0_vI, trivial⟩ (Cl.pu (c_right c s [] (k.play0 ks) k.hours hc.readings (by simp)) ?_ rfl (by simp only [V.into, intoL, cB_into, vB_into, cI_into, cR_into, cD_into, cS_into, vS_into, vI_into, vR_into, vD_into, cu_into, Bool.true_and, Bool.and_true, Sc.cs]))
  simp only [gos, if_true, if_false, ne_eq, eq_self, Nat.reduceLT, Nat.reduceEqDiff, Nat.reduceAdd, Nat.reduceMul, Nat.reduceLeDiff, Nat.reduceBEq, reduceCtorEq, reduceIte, Array.toList, ↓reduceIte, tt, vgo, vout, vgoD, voutD, vclsOk, vids, mayWrite, V.ids, V.mids, vguard, callOf, vop, ev, cv, vbin, vint, isShift, isNilConst, vnil, isNilSlice, vload, vlen, newRow, vfill, vslice, entOf, vappend, srcOf, vcopy, vlookup, vupdate, mapOk, keyOf, intsOf, clsAt]
  subst hQ
  exact FnPost.plain trivial (fun h2 e => by first | rfl | (simp only [Try.f58, vres, vresL, vres1, e _, gos, if_true, if_false, ne_eq, eq_self, Nat.reduceLT, Nat.reduceEqDiff, Nat.reduceAdd, Nat.reduceMul, Nat.reduceLeDiff, Nat.reduceBEq, reduceCtorEq, reduceIte, Array.toList, ↓reduceIte, tt, vgo, vout, vgoD, voutD, vclsOk, vids, mayWrite, V.ids, V.mids, vguard, callOf, vop, ev, cv, vbin, vint, isShift, isNilConst, vnil, isNilSlice, vload, vlen, newRow, vfill, vslice, entOf, vappend, srcOf, vcopy, vlookup, vupdate, mapOk, keyOf, intsOf, clsAt]; try rfl)) (WkV.pure (by simp only [V.into, intoL, cB_into, vB_into, cI_into, cR_into, cD_into, cS_into, vS_into, vI_into, vR_into, vD_into, cu_into, Bool.true_and, Bool.and_true])) ⟨by simp [sProveTruth, h0, h1, hsc], rfl⟩
end Go.Vm
set_option linter.unusedVariables false
set_option linter.unusedSimpArgs false
set_option maxRecDepth 100000
namespace Go.Vm
open Go.Proofs
/-- Play's answer: the lists, and the error. -/
def sPlayA (c : Cu) (t : Tr2) : List Int × List Int × Int :=
  if sCheck c ≠ 0 then ([], [], sCheck c) else if sScOk c t then ((sPast c c.coal c.want (sScene c t)).hot, (sPast c c.coal c.want (sScene c t)).left, 0) else ([], [], 2)
theorem WkV.nil2 {a : V} (ha : a.into (fun _ => false) = true) : WkV (domP []) (.tup [.sl0, .sl0, a]) [] (.tup [vI [], vI [], a]) [] := fun g w x hv H => by
  refine ⟨g, ?_, H, Tr.refl g [] w, Kp.refl _ g⟩
  simp only [VR] at hv ⊢
  obtain ⟨vs, rfl, h⟩ := hv
  exact ⟨vs, rfl, @impL_ok g [.sl0, .sl0, a] [vI [], vI [], a] _ ⟨sl0_vI, sl0_vI, ImpV.refl _, trivial⟩ h⟩
set_option maxHeartbeats 2000000 in
theorem c_Play (c : Cu) (t : Tr2) (hc : c.wf) (htl : (t.loss.length : Int) ≤ 1000000) : Pu Try.prog (.fn 48 [] []) [.agg c.cs, .agg t.cs] (.tup [vI (sPlayA c t).1, vI (sPlayA c t).2.1, vi (sPlayA c t).2.2]) := by
  refine Ev.fn Try.func48 rfl rfl (Fn.body tabOk Try.func48 rfl (Nat.le_of_ble_eq_true rfl) (Ks.ok (fz := (fzn [8, 10])) (cl := (cln [(8, .d tg0 [cP, cL, cP, cL, cP, cP, cP])])) tabOk mixed ?_))
  generalize hQ : FnPost tt Try.f48 _ _ = Q
  simp only [Try.f48, List.nil_append, List.append_nil, List.cons_append, argsEnv, Nat.reduceAdd]
  have hts : t.cs.take 2 = t.cs := rfl
  have htn : t.cs.length = 2 := rfl
  simp only [gos, if_true, if_false, ne_eq, eq_self, Nat.reduceLT, Nat.reduceEqDiff, Nat.reduceAdd, Nat.reduceMul, Nat.reduceLeDiff, Nat.reduceBEq, reduceCtorEq, reduceIte, Array.toList, ↓reduceIte, tt, vgo, vout, vgoD, voutD, vclsOk, vids, mayWrite, V.ids, V.mids, vguard, callOf, vop, ev, cv, vbin, vint, isShift, isNilConst, vnil, isNilSlice, vload, vlen, newRow, vfill, vslice, entOf, vappend, srcOf, vcopy, vlookup, vupdate, mapOk, keyOf, intsOf, clsAt]
  refine Cl.pu (c_Check c hc) ?_ rfl (by simp only [V.into, intoL, cB_into, vB_into, cI_into, cR_into, cD_into, cS_into, vS_into, vI_into, vR_into, vD_into, cu_into, Bool.true_and, Bool.and_true])
  by_cases h0 : sCheck c = 0
  case neg =>
    have hb : (sCheck c != 0) = true := by simp [h0]
    simp only [gos, if_true, if_false, ne_eq, eq_self, Nat.reduceLT, Nat.reduceEqDiff, Nat.reduceAdd, Nat.reduceMul, Nat.reduceLeDiff, Nat.reduceBEq, reduceCtorEq, reduceIte, Array.toList, ↓reduceIte, tt, vgo, vout, vgoD, voutD, vclsOk, vids, mayWrite, V.ids, V.mids, vguard, callOf, vop, ev, cv, vbin, vint, isShift, isNilConst, vnil, isNilSlice, vload, vlen, newRow, vfill, vslice, entOf, vappend, srcOf, vcopy, vlookup, vupdate, mapOk, keyOf, intsOf, clsAt, hb]
    subst hQ
    have hr : sPlayA c t = ([], [], sCheck c) := by simp [sPlayA, h0]
    rw [hr]
    exact FnPost.plain trivial (v := .tup [.sl0, .sl0, vi (sCheck c)]) (fun h2 e => by rfl) (WkV.nil2 rfl) ⟨rfl, rfl⟩
  have hb : (sCheck c != 0) = false := by simp [h0]
  have k := sCheck_ok h0
  simp only [gos, if_true, if_false, ne_eq, eq_self, Nat.reduceLT, Nat.reduceEqDiff, Nat.reduceAdd, Nat.reduceMul, Nat.reduceLeDiff, Nat.reduceBEq, reduceCtorEq, reduceIte, Array.toList, ↓reduceIte, tt, vgo, vout, vgoD, voutD, vclsOk, vids, mayWrite, V.ids, V.mids, vguard, callOf, vop, ev, cv, vbin, vint, isShift, isNilConst, vnil, isNilSlice, vload, vlen, newRow, vfill, vslice, entOf, vappend, srcOf, vcopy, vlookup, vupdate, mapOk, keyOf, intsOf, clsAt, hb, hts, htn]
  refine Cl.pu (c_scene c t k.last k.loss.1 htl) ?_ rfl (by simp only [V.into, intoL, cB_into, vB_into, cI_into, cR_into, cD_into, cS_into, vS_into, vI_into, vR_into, vD_into, cu_into, Bool.true_and, Bool.and_true, Tr2.cs])
  cases h1 : sScOk c t
  · have hz : (sScene c t) = zSc := by simp [sScene, h1]
    simp only [gos, if_true, if_false, ne_eq, eq_self, Nat.reduceLT, Nat.reduceEqDiff, Nat.reduceAdd, Nat.reduceMul, Nat.reduceLeDiff, Nat.reduceBEq, reduceCtorEq, reduceIte, Array.toList, ↓reduceIte, tt, vgo, vout, vgoD, voutD, vclsOk, vids, mayWrite, V.ids, V.mids, vguard, callOf, vop, ev, cv, vbin, vint, isShift, isNilConst, vnil, isNilSlice, vload, vlen, newRow, vfill, vslice, entOf, vappend, srcOf, vcopy, vlookup, vupdate, mapOk, keyOf, intsOf, clsAt, hz, zSc, Sc.cs, cI]
    subst hQ
    have hr : sPlayA c t = ([], [], 2) := by simp [sPlayA, h0, h1]
    rw [hr]
    exact FnPost.plain trivial (v := .tup [.sl0, .sl0, vi 2]) (fun h2 e => by rfl) (WkV.trans (WkV.pure rfl) (WkV.nil2 rfl)) ⟨rfl, rfl⟩
  have ks := scOk_of k h1
  have hr : sPlayA c t = ((sPast c c.coal c.want (sScene c t)).hot, (sPast c c.coal c.want (sScene c t)).left, 0) := by simp [sPlayA, h0, h1]
  rw [hr] at hQ
  generalize hsc : sScene c t = s at ks hQ ⊢
  have hs5 : (cI s.loss).length = 5 := by rw [cI_len]; exact ks.loss.1
  have ht5 : List.take 5 (cI s.loss) = cI s.loss := List.take_of_length_le (by omega)
  have hd5 : List.drop 5 (cI s.loss) = [] := List.drop_eq_nil_of_le (by omega)
  simp only [gos, if_true, if_false, ne_eq, eq_self, Nat.reduceLT, Nat.reduceEqDiff, Nat.reduceAdd, Nat.reduceMul, Nat.reduceLeDiff, Nat.reduceBEq, reduceCtorEq, reduceIte, Array.toList, ↓reduceIte, tt, vgo, vout, vgoD, voutD, vclsOk, vids, mayWrite, V.ids, V.mids, vguard, callOf, vop, ev, cv, vbin, vint, isShift, isNilConst, vnil, isNilSlice, vload, vlen, newRow, vfill, vslice, entOf, vappend, srcOf, vcopy, vlookup, vupdate, mapOk, keyOf, intsOf, clsAt, Sc.cs, hs5, ht5, hd5, cI_one]
  refine Cl.pu (c_play c s c.coal c.want (k.play0 ks)) ?_ rfl (by simp only [V.into, intoL, cB_into, vB_into, cI_into, cR_into, cD_into, cS_into, vS_into, vI_into, vR_into, vD_into, cu_into, Bool.true_and, Bool.and_true, Sc.cs])
  simp only [gos, if_true, if_false, ne_eq, eq_self, Nat.reduceLT, Nat.reduceEqDiff, Nat.reduceAdd, Nat.reduceMul, Nat.reduceLeDiff, Nat.reduceBEq, reduceCtorEq, reduceIte, Array.toList, ↓reduceIte, tt, vgo, vout, vgoD, voutD, vclsOk, vids, mayWrite, V.ids, V.mids, vguard, callOf, vop, ev, cv, vbin, vint, isShift, isNilConst, vnil, isNilSlice, vload, vlen, newRow, vfill, vslice, entOf, vappend, srcOf, vcopy, vlookup, vupdate, mapOk, keyOf, intsOf, clsAt]
  refine Wr.draw (by kernel_rfl) ?_
  simp only [gos, if_true, if_false, ne_eq, eq_self, Nat.reduceLT, Nat.reduceEqDiff, Nat.reduceAdd, Nat.reduceMul, Nat.reduceLeDiff, Nat.reduceBEq, reduceCtorEq, reduceIte, Array.toList, ↓reduceIte, tt, vgo, vout, vgoD, voutD, vclsOk, vids, mayWrite, V.ids, V.mids, vguard, callOf, vop, ev, cv, vbin, vint, isShift, isNilConst, vnil, isNilSlice, vload, vlen, newRow, vfill, vslice, entOf, vappend, srcOf, vcopy, vlookup, vupdate, mapOk, keyOf, intsOf, clsAt]
  subst hQ
  exact FnPost.plain trivial (fun h2 e => by first | rfl | (simp only [Try.f48, vres, vresL, vres1, e _, gos, if_true, if_false, ne_eq, eq_self, Nat.reduceLT, Nat.reduceEqDiff, Nat.reduceAdd, Nat.reduceMul, Nat.reduceLeDiff, Nat.reduceBEq, reduceCtorEq, reduceIte, Array.toList, ↓reduceIte, tt, vgo, vout, vgoD, voutD, vclsOk, vids, mayWrite, V.ids, V.mids, vguard, callOf, vop, ev, cv, vbin, vint, isShift, isNilConst, vnil, isNilSlice, vload, vlen, newRow, vfill, vslice, entOf, vappend, srcOf, vcopy, vlookup, vupdate, mapOk, keyOf, intsOf, clsAt]; try rfl)) (WkV.pure (by simp only [V.into, intoL, cB_into, vB_into, cI_into, cR_into, cD_into, cS_into, vS_into, vI_into, vR_into, vD_into, cu_into, Bool.true_and, Bool.and_true])) ⟨rfl, rfl⟩
end Go.Vm
set_option linter.unusedVariables false
set_option linter.unusedSimpArgs false
set_option maxRecDepth 100000
namespace Go.Vm
open Go.Proofs
theorem WkV.sl0 {p : Nat → Bool} {h : Heap} (id z : Nat) (hn : h.get id = none) : WkV p .sl0 h (.own id 0 0 z 0) (h.set id ⟨0, .row []⟩) := fun g w x hv H => by
  obtain ⟨g', E, H', t, k⟩ := Wk.sl0E (p := p) (ρ := [(0, .sl0)]) 0 id z rfl hn g w 1 #[x] ⟨rfl, fun s c e => by
    simp only [Env.get] at e
    split at e
    · rename_i hs; injection e with e; subst e; subst hs; exact hv
    · cases e⟩ H
  exact ⟨g', E.look 0 _ (by simp [Env.get]), H', t, k⟩
theorem c_Clone0 (l : List Int) (hl : (l.length : Int) ≤ 1000000) : Ev Try.prog (.fn 92 [] []) [vI l] [] fun v h' => v = .own 7 0 0 1 l.length ∧ h' = [(7, ⟨0, .row (cI l)⟩)] := by
  refine Ev.fn Try.func92 rfl rfl (Fn.body tabOk Try.func92 rfl (Nat.le_of_ble_eq_true rfl) (Ks.ok (fz := (fzn [7])) (cl := (cln [(1, .ex)])) tabOk mixed ?_))
  generalize hQ : FnPost tt Try.f92 _ _ = Q
  simp only [Try.f92, List.nil_append, List.append_nil, List.cons_append, argsEnv, Nat.reduceAdd]
  simp only [gos, if_true, if_false, ne_eq, eq_self, Nat.reduceLT, Nat.reduceEqDiff, Nat.reduceAdd, Nat.reduceMul, Nat.reduceLeDiff, Nat.reduceBEq, reduceCtorEq, reduceIte, Array.toList, ↓reduceIte, tt, vgo, vout, vgoD, voutD, vclsOk, vids, mayWrite, V.ids, V.mids, vguard, callOf, vop, ev, cv, vbin, vint, isShift, isNilConst, vnil, isNilSlice, vload, vlen, newRow, vfill, vslice, entOf, vappend, srcOf, vcopy, vlookup, vupdate, mapOk, keyOf, intsOf, clsAt]
  refine Wr.nil tabOk _ rfl ?_
  simp only [gos, if_true, if_false, ne_eq, eq_self, Nat.reduceLT, Nat.reduceEqDiff, Nat.reduceAdd, Nat.reduceMul, Nat.reduceLeDiff, Nat.reduceBEq, reduceCtorEq, reduceIte, Array.toList, ↓reduceIte, tt, vgo, vout, vgoD, voutD, vclsOk, vids, mayWrite, V.ids, V.mids, vguard, callOf, vop, ev, cv, vbin, vint, isShift, isNilConst, vnil, isNilSlice, vload, vlen, newRow, vfill, vslice, entOf, vappend, srcOf, vcopy, vlookup, vupdate, mapOk, keyOf, intsOf, clsAt, List.dropLast_cons_cons, List.dropLast_singleton, List.dropLast]
  refine Wo.mk ⟨rfl, rfl, _, _, _, _, _, rfl, rfl, ⟨_, rfl⟩, fun q => ?_⟩
  cases l with
  | nil =>
    cases q
    · refine ⟨.bool false, rfl, ?_⟩
      show R Try.prog tt _ _ _ _ _ Q _ .normal [(4, .bool false), (3, vI []), (2, .sl0), (0, vI [])] [] []
      simp only [gos, if_true, if_false, ne_eq, eq_self, Nat.reduceLT, Nat.reduceEqDiff, Nat.reduceAdd, Nat.reduceMul, Nat.reduceLeDiff, Nat.reduceBEq, reduceCtorEq, reduceIte, Array.toList, ↓reduceIte, tt, vgo, vout, vgoD, voutD, vclsOk, vids, mayWrite, V.ids, V.mids, vguard, callOf, vop, ev, cv, vbin, vint, isShift, isNilConst, vnil, isNilSlice, vload, vlen, newRow, vfill, vslice, entOf, vappend, srcOf, vcopy, vlookup, vupdate, mapOk, keyOf, intsOf, clsAt, vI, cI]
      subst hQ
      exact FnPost.plain trivial (fun h2 e => by rfl) WkV.refl ⟨rfl, rfl⟩
    · refine ⟨.bool true, rfl, ?_⟩
      show R Try.prog tt _ _ _ _ _ Q _ .normal [(4, .bool true), (3, vI []), (2, .sl0), (0, vI [])] [] []
      simp only [gos, if_true, if_false, ne_eq, eq_self, Nat.reduceLT, Nat.reduceEqDiff, Nat.reduceAdd, Nat.reduceMul, Nat.reduceLeDiff, Nat.reduceBEq, reduceCtorEq, reduceIte, Array.toList, ↓reduceIte, tt, vgo, vout, vgoD, voutD, vclsOk, vids, mayWrite, V.ids, V.mids, vguard, callOf, vop, ev, cv, vbin, vint, isShift, isNilConst, vnil, isNilSlice, vload, vlen, newRow, vfill, vslice, entOf, vappend, srcOf, vcopy, vlookup, vupdate, mapOk, keyOf, intsOf, clsAt, vI, cI]
      subst hQ
      exact FnPost.plain trivial (fun h2 e => by rfl) (WkV.sl0 7 1 rfl) ⟨rfl, rfl⟩
  | cons x r =>
    refine ⟨.bool false, rfl, ?_⟩
    show R Try.prog tt _ _ _ _ _ Q _ .normal [(4, .bool false), (3, vI (x :: r)), (2, .sl0), (0, vI (x :: r))] [] []
    have hn : r.length + 1 ≤ 1000000 := by simp at hl; omega
    have hn2 : r.length ≤ 999999 := by omega
    simp only [gos, if_true, if_false, ne_eq, eq_self, Nat.reduceLT, Nat.reduceEqDiff, Nat.reduceAdd, Nat.reduceMul, Nat.reduceLeDiff, Nat.reduceBEq, reduceCtorEq, reduceIte, Array.toList, ↓reduceIte, tt, vgo, vout, vgoD, voutD, vclsOk, vids, mayWrite, V.ids, V.mids, vguard, callOf, vop, ev, cv, vbin, vint, isShift, isNilConst, vnil, isNilSlice, vload, vlen, newRow, vfill, vslice, entOf, vappend, srcOf, vcopy, vlookup, vupdate, mapOk, keyOf, intsOf, clsAt, vI, cI_len, Nat.mul_one, cI_one, hn, hn2]
    subst hQ
    exact FnPost.plain trivial (fun h2 e => by rfl) WkV.refl ⟨rfl, rfl⟩
theorem c_Clone (l : List Int) (hl : (l.length : Int) ≤ 1000000) (h : Heap) (h7 : h.get 7 = none) : Ev Try.prog (.fn 92 [] []) [vI l] h fun v h' => v = .own 7 0 0 1 l.length ∧ h' = (7, ⟨0, .row (cI l)⟩) :: h :=
  ((c_Clone0 l hl).frame' h (fun _ => rfl) (fun i e he => by cases he) rfl (by simp only [V.into, intoL, cB_into, vB_into, cI_into, cR_into, cD_into, cS_into, vS_into, vI_into, vR_into, vD_into, cu_into, Bool.true_and, Bool.and_true]) rfl (fun v h' hh i e he => by
    obtain ⟨_, rfl⟩ := hh
    simp only [Heap.get] at he
    split at he
    · rename_i hi; subst hi; exact h7
    · cases he)).mono fun v h'' hh => by
      obtain ⟨h', ⟨a, rfl⟩, rfl⟩ := hh
      exact ⟨a, rfl⟩
theorem n_Clone (l : List Int) (hl : (l.length : Int) ≤ 1000000) : NewB Try.prog (.fn 92 [] []) [vI l] (.own 7 0 0 1 l.length) 7 ⟨0, .row (cI l)⟩ := fun h2 h7 =>
  (c_Clone l hl h2 h7).mono fun v h'' ⟨a, b⟩ => ⟨a, fun i => by
    rw [b, Heap.get_set]
    simp only [Heap.get]⟩
end Go.Vm
set_option linter.unusedVariables false
set_option linter.unusedSimpArgs false
set_option maxRecDepth 100000
namespace Go.Vm
open Go.Proofs
theorem c_IndexFunc_Sc (pv : V) (f : Sc → Bool) (l : List Sc) (hok : okS l) (hl : (l.length : Int) ≤ 1000000) (hp : pv.into (fun _ => false) = true) (hf : ∀ x ∈ l, Pu Try.prog pv [.agg x.cs] (.bool (f x))) :
    Pu Try.prog (.fn 145 [] []) [vS l, pv] (vi (sIdx f l)) := by
  refine Ev.fn Try.func145 rfl rfl (Fn.body tabOk Try.func145 rfl (Nat.le_of_ble_eq_true rfl) (Ks.ok (fz := (fzn [])) (cl := (cln [])) tabOk mixed ?_))
  generalize hQ : FnPost tt Try.f145 _ _ = Q
  simp only [Try.f145, List.nil_append, List.append_nil, List.cons_append, argsEnv, Nat.reduceAdd]
  simp only [gos, if_true, if_false, ne_eq, eq_self, Nat.reduceLT, Nat.reduceEqDiff, Nat.reduceAdd, Nat.reduceMul, Nat.reduceLeDiff, Nat.reduceBEq, reduceCtorEq, reduceIte, Array.toList, ↓reduceIte, tt, vgo, vout, vgoD, voutD, vclsOk, vids, mayWrite, V.ids, V.mids, vguard, callOf, vop, ev, cv, vbin, vint, isShift, isNilConst, vnil, isNilSlice, vload, vlen, newRow, vfill, vslice, entOf, vappend, srcOf, vcopy, vlookup, vupdate, mapOk, keyOf, intsOf, clsAt, vS]
  refine W.loop tabOk mixed (fun i : Nat => ([(0, vS l), (1, pv), (7, vi l.length), (8, vi i)], [])) (fun i => l.length - i) (fun i => i ≤ l.length ∧ ∀ (j : Nat) y, j < i → l[j]? = some y → f y = false) 0 ⟨by omega, by omega⟩ (Wk.env (by simp [subE, Env.get, vS])) ?_
  rintro i ⟨hi, hj⟩
  by_cases hil : (i : Int) < l.length
  · have hmem := List.mem_of_getElem? (gS_get hil)
    have h5 := hok _ hmem
    have hT : ∀ X : List V, List.take 5 (cI (gS l i).loss ++ X) = cI (gS l i).loss := fun X => by
      rw [List.take_append_of_le_length (by rw [cI_len]; omega), List.take_of_length_le (by rw [cI_len]; omega)]
    have hL2 : ∀ X : List V, 5 ≤ (cI (gS l i).loss ++ X).length := fun X => by rw [List.length_append, cI_len]; omega
    simp only [gos, if_true, if_false, ne_eq, eq_self, Nat.reduceLT, Nat.reduceEqDiff, Nat.reduceAdd, Nat.reduceMul, Nat.reduceLeDiff, Nat.reduceBEq, reduceCtorEq, reduceIte, Array.toList, ↓reduceIte, tt, vgo, vout, vgoD, voutD, vclsOk, vids, mayWrite, V.ids, V.mids, vguard, callOf, vop, ev, cv, vbin, vint, isShift, isNilConst, vnil, isNilSlice, vload, vlen, newRow, vfill, vslice, entOf, vappend, srcOf, vcopy, vlookup, vupdate, mapOk, keyOf, intsOf, clsAt, vS, hil, cS_at hok (Int.natCast_nonneg i) hil, hT, hL2]
    refine Cl.pu (hf (gS l i) hmem) ?_ hp (by simp only [V.into, intoL, cB_into, vB_into, cI_into, cR_into, cD_into, cS_into, vS_into, vI_into, vR_into, vD_into, cu_into, Bool.true_and, Bool.and_true, Sc.cs])
    cases hfx : f (gS l i)
    · simp only [gos, if_true, if_false, ne_eq, eq_self, Nat.reduceLT, Nat.reduceEqDiff, Nat.reduceAdd, Nat.reduceMul, Nat.reduceLeDiff, Nat.reduceBEq, reduceCtorEq, reduceIte, Array.toList, ↓reduceIte, tt, vgo, vout, vgoD, voutD, vclsOk, vids, mayWrite, V.ids, V.mids, vguard, callOf, vop, ev, cv, vbin, vint, isShift, isNilConst, vnil, isNilSlice, vload, vlen, newRow, vfill, vslice, entOf, vappend, srcOf, vcopy, vlookup, vupdate, mapOk, keyOf, intsOf, clsAt]
      refine Nx.mk (i + 1) (show l.length - (i + 1) < l.length - i by omega) ⟨by omega, fun j y hlt hy => ?_⟩ (Wk.env (by simp [subE, Env.get, vS, i64_succ (show (i : Int) < 9223372036854775807 by omega)]))
      rcases Nat.lt_or_eq_of_le (Nat.le_of_lt_succ hlt) with h | rfl
      · exact hj j y h hy
      · rw [gS_get hil] at hy; injection hy with hy; rw [← hy]; exact hfx
    · simp only [gos, if_true, if_false, ne_eq, eq_self, Nat.reduceLT, Nat.reduceEqDiff, Nat.reduceAdd, Nat.reduceMul, Nat.reduceLeDiff, Nat.reduceBEq, reduceCtorEq, reduceIte, Array.toList, ↓reduceIte, tt, vgo, vout, vgoD, voutD, vclsOk, vids, mayWrite, V.ids, V.mids, vguard, callOf, vop, ev, cv, vbin, vint, isShift, isNilConst, vnil, isNilSlice, vload, vlen, newRow, vfill, vslice, entOf, vappend, srcOf, vcopy, vlookup, vupdate, mapOk, keyOf, intsOf, clsAt]
      subst hQ
      exact FnPost.plain trivial (fun h2 e => by first | rfl | (simp only [Try.f145, vres, vresL, vres1, e _, gos, if_true, if_false, ne_eq, eq_self, Nat.reduceLT, Nat.reduceEqDiff, Nat.reduceAdd, Nat.reduceMul, Nat.reduceLeDiff, Nat.reduceBEq, reduceCtorEq, reduceIte, Array.toList, ↓reduceIte, tt, vgo, vout, vgoD, voutD, vclsOk, vids, mayWrite, V.ids, V.mids, vguard, callOf, vop, ev, cv, vbin, vint, isShift, isNilConst, vnil, isNilSlice, vload, vlen, newRow, vfill, vslice, entOf, vappend, srcOf, vcopy, vlookup, vupdate, mapOk, keyOf, intsOf, clsAt]; try rfl)) (WkV.pure (by simp only [V.into, intoL, cB_into, vB_into, cI_into, cR_into, cD_into, cS_into, vS_into, vI_into, vR_into, vD_into, cu_into, Bool.true_and, Bool.and_true])) ⟨by rw [sIdx_some (gS_get hil) hfx hj], rfl⟩
  · simp only [gos, if_true, if_false, ne_eq, eq_self, Nat.reduceLT, Nat.reduceEqDiff, Nat.reduceAdd, Nat.reduceMul, Nat.reduceLeDiff, Nat.reduceBEq, reduceCtorEq, reduceIte, Array.toList, ↓reduceIte, tt, vgo, vout, vgoD, voutD, vclsOk, vids, mayWrite, V.ids, V.mids, vguard, callOf, vop, ev, cv, vbin, vint, isShift, isNilConst, vnil, isNilSlice, vload, vlen, newRow, vfill, vslice, entOf, vappend, srcOf, vcopy, vlookup, vupdate, mapOk, keyOf, intsOf, clsAt, vS, hil]
    subst hQ
    exact FnPost.plain trivial (fun h2 e => by first | rfl | (simp only [Try.f145, vres, vresL, vres1, e _, gos, if_true, if_false, ne_eq, eq_self, Nat.reduceLT, Nat.reduceEqDiff, Nat.reduceAdd, Nat.reduceMul, Nat.reduceLeDiff, Nat.reduceBEq, reduceCtorEq, reduceIte, Array.toList, ↓reduceIte, tt, vgo, vout, vgoD, voutD, vclsOk, vids, mayWrite, V.ids, V.mids, vguard, callOf, vop, ev, cv, vbin, vint, isShift, isNilConst, vnil, isNilSlice, vload, vlen, newRow, vfill, vslice, entOf, vappend, srcOf, vcopy, vlookup, vupdate, mapOk, keyOf, intsOf, clsAt]; try rfl)) (WkV.pure (by simp only [V.into, intoL, cB_into, vB_into, cI_into, cR_into, cD_into, cS_into, vS_into, vI_into, vR_into, vD_into, cu_into, Bool.true_and, Bool.and_true])) ⟨by rw [sIdx_none fun j y hy => hj j y (by have := (List.getElem?_eq_some_iff.1 hy).1; omega) hy], rfl⟩
theorem c_ContainsFunc_Sc (pv : V) (f : Sc → Bool) (l : List Sc) (hok : okS l) (hl : (l.length : Int) ≤ 1000000) (hp : pv.into (fun _ => false) = true) (hf : ∀ x ∈ l, Pu Try.prog pv [.agg x.cs] (.bool (f x))) :
    Pu Try.prog (.fn 142 [] []) [vS l, pv] (.bool (l.any f)) := by
  refine Ev.fn Try.func142 rfl rfl (Fn.body tabOk Try.func142 rfl (Nat.le_of_ble_eq_true rfl) (Ks.ok (fz := (fzn [])) (cl := (cln [])) tabOk mixed ?_))
  generalize hQ : FnPost tt Try.f142 _ _ = Q
  simp only [Try.f142, List.nil_append, List.append_nil, List.cons_append, argsEnv, Nat.reduceAdd]
  simp only [gos, if_true, if_false, ne_eq, eq_self, Nat.reduceLT, Nat.reduceEqDiff, Nat.reduceAdd, Nat.reduceMul, Nat.reduceLeDiff, Nat.reduceBEq, reduceCtorEq, reduceIte, Array.toList, ↓reduceIte, tt, vgo, vout, vgoD, voutD, vclsOk, vids, mayWrite, V.ids, V.mids, vguard, callOf, vop, ev, cv, vbin, vint, isShift, isNilConst, vnil, isNilSlice, vload, vlen, newRow, vfill, vslice, entOf, vappend, srcOf, vcopy, vlookup, vupdate, mapOk, keyOf, intsOf, clsAt]
  refine Cl.pu (c_IndexFunc_Sc pv f l hok hl hp hf) ?_ rfl (by simp only [V.into, intoL, cB_into, vB_into, cI_into, cR_into, cD_into, cS_into, vS_into, vI_into, vR_into, vD_into, cu_into, Bool.true_and, Bool.and_true, hp])
  simp only [gos, if_true, if_false, ne_eq, eq_self, Nat.reduceLT, Nat.reduceEqDiff, Nat.reduceAdd, Nat.reduceMul, Nat.reduceLeDiff, Nat.reduceBEq, reduceCtorEq, reduceIte, Array.toList, ↓reduceIte, tt, vgo, vout, vgoD, voutD, vclsOk, vids, mayWrite, V.ids, V.mids, vguard, callOf, vop, ev, cv, vbin, vint, isShift, isNilConst, vnil, isNilSlice, vload, vlen, newRow, vfill, vslice, entOf, vappend, srcOf, vcopy, vlookup, vupdate, mapOk, keyOf, intsOf, clsAt]
  subst hQ
  exact FnPost.plain trivial (fun h2 e => by first | rfl | (simp only [Try.f142, vres, vresL, vres1, e _, gos, if_true, if_false, ne_eq, eq_self, Nat.reduceLT, Nat.reduceEqDiff, Nat.reduceAdd, Nat.reduceMul, Nat.reduceLeDiff, Nat.reduceBEq, reduceCtorEq, reduceIte, Array.toList, ↓reduceIte, tt, vgo, vout, vgoD, voutD, vclsOk, vids, mayWrite, V.ids, V.mids, vguard, callOf, vop, ev, cv, vbin, vint, isShift, isNilConst, vnil, isNilSlice, vload, vlen, newRow, vfill, vslice, entOf, vappend, srcOf, vcopy, vlookup, vupdate, mapOk, keyOf, intsOf, clsAt]; try rfl)) (WkV.pure (by simp only [V.into, intoL, cB_into, vB_into, cI_into, cR_into, cD_into, cS_into, vS_into, vI_into, vR_into, vD_into, cu_into, Bool.true_and, Bool.and_true])) ⟨by rw [← sIdx_any], rfl⟩
theorem c_all1_Sc (pv : V) (f : Sc → Bool) (x : Sc) (h5 : x.loss.length = 5) (hp : pv.into (fun _ => false) = true) (hf : Pu Try.prog pv [.agg x.cs] (.bool (f x))) :
    Pu Try.prog (.fn 143 [] [.rop [pv]]) [.agg x.cs] (.bool (!f x)) := by
  refine Ev.fn Try.func143 rfl rfl (Fn.body tabOk Try.func143 rfl (Nat.le_of_ble_eq_true rfl) (Ks.ok (fz := (fzn [])) (cl := (cln [])) tabOk mixed ?_))
  generalize hQ : FnPost tt Try.f143 _ _ = Q
  simp only [Try.f143, List.nil_append, List.append_nil, List.cons_append, argsEnv, Nat.reduceAdd]
  have hsc : x.cs.length = 6 := by simp [Sc.cs, cI_len, h5]
  have hst : x.cs.take 6 = x.cs := List.take_of_length_le (by omega)
  simp only [gos, if_true, if_false, ne_eq, eq_self, Nat.reduceLT, Nat.reduceEqDiff, Nat.reduceAdd, Nat.reduceMul, Nat.reduceLeDiff, Nat.reduceBEq, reduceCtorEq, reduceIte, Array.toList, ↓reduceIte, tt, vgo, vout, vgoD, voutD, vclsOk, vids, mayWrite, V.ids, V.mids, vguard, callOf, vop, ev, cv, vbin, vint, isShift, isNilConst, vnil, isNilSlice, vload, vlen, newRow, vfill, vslice, entOf, vappend, srcOf, vcopy, vlookup, vupdate, mapOk, keyOf, intsOf, clsAt, hsc, hst]
  refine Cl.pu hf ?_ hp (by simp only [V.into, intoL, cB_into, vB_into, cI_into, cR_into, cD_into, cS_into, vS_into, vI_into, vR_into, vD_into, cu_into, Bool.true_and, Bool.and_true, Sc.cs])
  simp only [gos, if_true, if_false, ne_eq, eq_self, Nat.reduceLT, Nat.reduceEqDiff, Nat.reduceAdd, Nat.reduceMul, Nat.reduceLeDiff, Nat.reduceBEq, reduceCtorEq, reduceIte, Array.toList, ↓reduceIte, tt, vgo, vout, vgoD, voutD, vclsOk, vids, mayWrite, V.ids, V.mids, vguard, callOf, vop, ev, cv, vbin, vint, isShift, isNilConst, vnil, isNilSlice, vload, vlen, newRow, vfill, vslice, entOf, vappend, srcOf, vcopy, vlookup, vupdate, mapOk, keyOf, intsOf, clsAt]
  subst hQ
  exact FnPost.plain trivial (fun h2 e => by first | rfl | (simp only [Try.f143, vres, vresL, vres1, e _, gos, if_true, if_false, ne_eq, eq_self, Nat.reduceLT, Nat.reduceEqDiff, Nat.reduceAdd, Nat.reduceMul, Nat.reduceLeDiff, Nat.reduceBEq, reduceCtorEq, reduceIte, Array.toList, ↓reduceIte, tt, vgo, vout, vgoD, voutD, vclsOk, vids, mayWrite, V.ids, V.mids, vguard, callOf, vop, ev, cv, vbin, vint, isShift, isNilConst, vnil, isNilSlice, vload, vlen, newRow, vfill, vslice, entOf, vappend, srcOf, vcopy, vlookup, vupdate, mapOk, keyOf, intsOf, clsAt]; try rfl)) (WkV.pure (by simp only [V.into, intoL, cB_into, vB_into, cI_into, cR_into, cD_into, cS_into, vS_into, vI_into, vR_into, vD_into, cu_into, Bool.true_and, Bool.and_true])) ⟨rfl, rfl⟩
theorem c_all_Sc (pf : FuncId) (pa pc : List V) (f : Sc → Bool) (l : List Sc) (hok : okS l) (hl : (l.length : Int) ≤ 1000000) (ha : intoL (fun _ => false) pa = true) (hp : intoL (fun _ => false) pc = true) (hf : ∀ x ∈ l, Pu Try.prog (.fn pf pa pc) [.agg x.cs] (.bool (f x))) :
    Pu Try.prog (.fn 132 [] []) [vS l, .fn pf pa pc] (.bool (l.all f)) := by
  refine Ev.fn Try.func132 rfl rfl (Fn.body tabOk Try.func132 rfl (Nat.le_of_ble_eq_true rfl) (Ks.ok (fz := (fzn [])) (cl := (cln [])) tabOk mixed ?_))
  generalize hQ : FnPost tt Try.f132 _ _ = Q
  simp only [Try.f132, List.nil_append, List.append_nil, List.cons_append, argsEnv, Nat.reduceAdd]
  simp only [gos, if_true, if_false, ne_eq, eq_self, Nat.reduceLT, Nat.reduceEqDiff, Nat.reduceAdd, Nat.reduceMul, Nat.reduceLeDiff, Nat.reduceBEq, reduceCtorEq, reduceIte, Array.toList, ↓reduceIte, tt, vgo, vout, vgoD, voutD, vclsOk, vids, mayWrite, V.ids, V.mids, vguard, callOf, vop, ev, cv, vbin, vint, isShift, isNilConst, vnil, isNilSlice, vload, vlen, newRow, vfill, vslice, entOf, vappend, srcOf, vcopy, vlookup, vupdate, mapOk, keyOf, intsOf, clsAt]
  refine Cl.pu (c_ContainsFunc_Sc (.fn 143 [] [.rop [.fn pf pa pc]]) (fun x => !f x) l hok hl (by simp only [V.into, intoL, cB_into, vB_into, cI_into, cR_into, cD_into, cS_into, vS_into, vI_into, vR_into, vD_into, cu_into, Bool.true_and, Bool.and_true, hp, ha]) fun x hx => c_all1_Sc (.fn pf pa pc) f x (hok x hx) (by simp only [V.into, intoL, cB_into, vB_into, cI_into, cR_into, cD_into, cS_into, vS_into, vI_into, vR_into, vD_into, cu_into, Bool.true_and, Bool.and_true, hp, ha]) (hf x hx)) ?_ rfl (by simp only [V.into, intoL, cB_into, vB_into, cI_into, cR_into, cD_into, cS_into, vS_into, vI_into, vR_into, vD_into, cu_into, Bool.true_and, Bool.and_true, hp, ha])
  simp only [gos, if_true, if_false, ne_eq, eq_self, Nat.reduceLT, Nat.reduceEqDiff, Nat.reduceAdd, Nat.reduceMul, Nat.reduceLeDiff, Nat.reduceBEq, reduceCtorEq, reduceIte, Array.toList, ↓reduceIte, tt, vgo, vout, vgoD, voutD, vclsOk, vids, mayWrite, V.ids, V.mids, vguard, callOf, vop, ev, cv, vbin, vint, isShift, isNilConst, vnil, isNilSlice, vload, vlen, newRow, vfill, vslice, entOf, vappend, srcOf, vcopy, vlookup, vupdate, mapOk, keyOf, intsOf, clsAt]
  subst hQ
  exact FnPost.plain trivial (fun h2 e => by first | rfl | (simp only [Try.f132, vres, vresL, vres1, e _, gos, if_true, if_false, ne_eq, eq_self, Nat.reduceLT, Nat.reduceEqDiff, Nat.reduceAdd, Nat.reduceMul, Nat.reduceLeDiff, Nat.reduceBEq, reduceCtorEq, reduceIte, Array.toList, ↓reduceIte, tt, vgo, vout, vgoD, voutD, vclsOk, vids, mayWrite, V.ids, V.mids, vguard, callOf, vop, ev, cv, vbin, vint, isShift, isNilConst, vnil, isNilSlice, vload, vlen, newRow, vfill, vslice, entOf, vappend, srcOf, vcopy, vlookup, vupdate, mapOk, keyOf, intsOf, clsAt]; try rfl)) (WkV.pure (by simp only [V.into, intoL, cB_into, vB_into, cI_into, cR_into, cD_into, cS_into, vS_into, vI_into, vR_into, vD_into, cu_into, Bool.true_and, Bool.and_true])) ⟨by rw [List.all_eq_not_any_not], rfl⟩
end Go.Vm
set_option linter.unusedVariables false
set_option linter.unusedSimpArgs false
set_option maxRecDepth 100000
namespace Go.Vm
open Go.Proofs
/-- All promises are kept, in a truth, with coal. -/
def sKept (c : Cu) (coal want : List Int) (s : Sc) : Bool := !((sPast c coal want s).kept.any fun y => decide (false = y))
set_option maxHeartbeats 1000000 in
theorem c_sure1 (c : Cu) (tr : List Sc) (coal : List Int) (s : Sc) (k : PlayOk c s coal c.want) :
    Pu Try.prog (.fn 133 [] [.rop [.rop (wcs c tr .any)], .rop [vI coal]]) [.agg s.cs] (.bool (sKept c coal c.want s)) := by
  refine Ev.fn Try.func133 rfl rfl (Fn.body tabOk Try.func133 rfl (Nat.le_of_ble_eq_true rfl) (Ks.ok (fz := (fzn [])) (cl := (cln [(1, .d tg0 [cP, cP, cP, cP, cP, cP, cP, cP, cP, cP, cP, cP, cP, cP, cP, cP])])) tabOk mixed ?_))
  generalize hQ : FnPost tt Try.f133 _ _ = Q
  simp only [Try.f133, List.nil_append, List.append_nil, List.cons_append, argsEnv, Nat.reduceAdd]
  have hsc : s.cs.length = 6 := by simp [Sc.cs, cI_len, k.loss.1]
  have hst : s.cs.take 6 = s.cs := List.take_of_length_le (by omega)
  simp only [gos, if_true, if_false, ne_eq, eq_self, Nat.reduceLT, Nat.reduceEqDiff, Nat.reduceAdd, Nat.reduceMul, Nat.reduceLeDiff, Nat.reduceBEq, reduceCtorEq, reduceIte, Array.toList, ↓reduceIte, tt, vgo, vout, vgoD, voutD, vclsOk, vids, mayWrite, V.ids, V.mids, vguard, callOf, vop, ev, cv, vbin, vint, isShift, isNilConst, vnil, isNilSlice, vload, vlen, newRow, vfill, vslice, entOf, vappend, srcOf, vcopy, vlookup, vupdate, mapOk, keyOf, intsOf, clsAt]
  refine Wr.draw (by kernel_rfl) ?_
  simp only [gos, if_true, if_false, ne_eq, eq_self, Nat.reduceLT, Nat.reduceEqDiff, Nat.reduceAdd, Nat.reduceMul, Nat.reduceLeDiff, Nat.reduceBEq, reduceCtorEq, reduceIte, Array.toList, ↓reduceIte, tt, vgo, vout, vgoD, voutD, vclsOk, vids, mayWrite, V.ids, V.mids, vguard, callOf, vop, ev, cv, vbin, vint, isShift, isNilConst, vnil, isNilSlice, vload, vlen, newRow, vfill, vslice, entOf, vappend, srcOf, vcopy, vlookup, vupdate, mapOk, keyOf, intsOf, clsAt, hsc, hst]
  refine CD.pu (c_play c s coal c.want k) ?_ rfl (by simp only [V.into, intoL, cB_into, vB_into, cI_into, cR_into, cD_into, cS_into, vS_into, vI_into, vR_into, vD_into, cu_into, Bool.true_and, Bool.and_true, Sc.cs])
  have hk := sPlay_inv k (c.last + 1).toNat (by have := k.last; omega)
  have := k.last
  simp only [gos, if_true, if_false, ne_eq, eq_self, Nat.reduceLT, Nat.reduceEqDiff, Nat.reduceAdd, Nat.reduceMul, Nat.reduceLeDiff, Nat.reduceBEq, reduceCtorEq, reduceIte, Array.toList, ↓reduceIte, tt, vgo, vout, vgoD, voutD, vclsOk, vids, mayWrite, V.ids, V.mids, vguard, callOf, vop, ev, cv, vbin, vint, isShift, isNilConst, vnil, isNilSlice, vload, vlen, newRow, vfill, vslice, entOf, vappend, srcOf, vcopy, vlookup, vupdate, mapOk, keyOf, intsOf, clsAt]
  refine CD.pu (c_ContainsB _ false (by omega)) ?_ rfl (by simp only [V.into, intoL, cB_into, vB_into, cI_into, cR_into, cD_into, cS_into, vS_into, vI_into, vR_into, vD_into, cu_into, Bool.true_and, Bool.and_true])
  simp only [gos, if_true, if_false, ne_eq, eq_self, Nat.reduceLT, Nat.reduceEqDiff, Nat.reduceAdd, Nat.reduceMul, Nat.reduceLeDiff, Nat.reduceBEq, reduceCtorEq, reduceIte, Array.toList, ↓reduceIte, tt, vgo, vout, vgoD, voutD, vclsOk, vids, mayWrite, V.ids, V.mids, vguard, callOf, vop, ev, cv, vbin, vint, isShift, isNilConst, vnil, isNilSlice, vload, vlen, newRow, vfill, vslice, entOf, vappend, srcOf, vcopy, vlookup, vupdate, mapOk, keyOf, intsOf, clsAt]
  subst hQ
  exact FnPost.plain trivial (fun h2 e => by first | rfl | (simp only [Try.f133, vres, vresL, vres1, e _, gos, if_true, if_false, ne_eq, eq_self, Nat.reduceLT, Nat.reduceEqDiff, Nat.reduceAdd, Nat.reduceMul, Nat.reduceLeDiff, Nat.reduceBEq, reduceCtorEq, reduceIte, Array.toList, ↓reduceIte, tt, vgo, vout, vgoD, voutD, vclsOk, vids, mayWrite, V.ids, V.mids, vguard, callOf, vop, ev, cv, vbin, vint, isShift, isNilConst, vnil, isNilSlice, vload, vlen, newRow, vfill, vslice, entOf, vappend, srcOf, vcopy, vlookup, vupdate, mapOk, keyOf, intsOf, clsAt]; try rfl)) (WkV.pure (by simp only [V.into, intoL, cB_into, vB_into, cI_into, cR_into, cD_into, cS_into, vS_into, vI_into, vR_into, vD_into, cu_into, Bool.true_and, Bool.and_true])) ⟨rfl, rfl⟩
end Go.Vm
