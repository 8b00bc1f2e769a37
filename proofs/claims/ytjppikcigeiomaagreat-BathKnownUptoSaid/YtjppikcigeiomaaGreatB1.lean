import Derived.Test.YtjppikcigeiomaaGreatTabOk
import Derived.Test.YtjppikcigeiomaaGreatVm28
set_option linter.unusedVariables false
set_option linter.unusedSimpArgs false
namespace Go.Vm
open Go.Proofs
/-- Which boxes are read-only from the start: all but these. -/
def fzn : List Nat → Nat → Bool
  | [], _ => true
  | x :: l, d => if d = x then false else fzn l d
theorem i64_in {n : Int} (h1 : -9223372036854775808 ≤ n) (h2 : n ≤ 9223372036854775807) : IntKind.i64.wrap n = n := by
  simp [IntKind.wrap, IntKind.bits, IntKind.signed]
  omega
theorem i64_succ {i : Nat} (h : (i : Int) < 9223372036854775807) : IntKind.i64.wrap ((i : Int) + 1) = ((i + 1 : Nat) : Int) := by
  rw [i64_in (by omega) (by omega)]; simp
abbrev cP : Cls := some ([], [])
abbrev cL : Cls := some ([0], [])
abbrev cW : Cls := some ([0], [0])
def tg0 : Nat → Nat := fun _ => 0
theorem gomin (a b : Int) : (if b < a then b else a) = min a b := by omega
theorem gomax (a b : Int) : (if a < b then b else a) = max a b := by omega
/-- A function without blocks around it forgets its own. -/
theorem WkV.pure {v : V} {h : Heap} (hi : v.into (fun _ => false) = true) : WkV (domP []) v h v [] :=
  WkV.drop (by simp [subH]) (fun i hp => by simp [domP, Heap.get] at hp) hi rfl
def I64 (n : Int) : Prop := -9223372036854775808 ≤ n ∧ n ≤ 9223372036854775807
/-! ### data -/
abbrev vi (n : Int) : V := .int .i64 n
structure Rg where
  lo : Int
  hi : Int
  deriving DecidableEq
structure Rd where
  hour : Int
  b : Rg
  deriving DecidableEq
structure Cu where
  last : Int
  start : Int
  most : Int
  per : Int
  shovels : Int
  coal : List Int
  want : List Int
  heat : Rg
  loss : List Rg
  readings : List Rd
  deriving DecidableEq
structure Tr2 where
  heat : Int
  loss : List Int
  deriving DecidableEq
def cI (l : List Int) : List V := l.map vi
def Rg.cs (r : Rg) : List V := [vi r.lo, vi r.hi]
def cR : List Rg → List V
  | [] => []
  | r :: l => vi r.lo :: vi r.hi :: cR l
def cD : List Rd → List V
  | [] => []
  | r :: l => vi r.hour :: vi r.b.lo :: vi r.b.hi :: cD l
def Rd.cs (r : Rd) : List V := [vi r.hour, vi r.b.lo, vi r.b.hi]
def vI (l : List Int) : V := .ro l.length (cI l)
def vR (l : List Rg) : V := .ro l.length (cR l)
def vD (l : List Rd) : V := .ro l.length (cD l)
def Cu.cs (c : Cu) : List V := [vi c.last, vi c.start, vi c.most, vi c.per, vi c.shovels, vI c.coal, vI c.want, vi c.heat.lo, vi c.heat.hi, vR c.loss, vD c.readings]
def Tr2.cs (t : Tr2) : List V := [vi t.heat, vI t.loss]
def gi (l : List Int) (n : Int) : Int := l.getD n.toNat 0
def gR (l : List Rg) (n : Int) : Rg := l.getD n.toNat ⟨0, 0⟩
def gD (l : List Rd) (n : Int) : Rd := l.getD n.toNat ⟨0, ⟨0, 0⟩⟩
theorem all_gi {l : List Int} {f : Int → Bool} (h : ∀ j : Nat, j < l.length → f (gi l j) = true) : l.all f = true := by
  rw [List.all_eq_true]
  intro x hx
  obtain ⟨i, hi, rfl⟩ := List.mem_iff_getElem.1 hx
  have := h i hi
  rwa [gi, Int.toNat_natCast, List.getD_eq_getElem?_getD, List.getElem?_eq_getElem hi] at this
theorem all_gi_false {l : List Int} {f : Int → Bool} {j : Nat} (hj : (j : Int) < l.length) (h : f (gi l j) = false) : l.all f = false := by
  rw [Bool.eq_false_iff]
  intro ha
  rw [List.all_eq_true] at ha
  have hj' : j < l.length := by omega
  have := ha (gi l j) (by rw [gi, Int.toNat_natCast, List.getD_eq_getElem?_getD, List.getElem?_eq_getElem hj']; exact List.getElem_mem _)
  rw [h] at this; cases this
theorem cI_len (l : List Int) : (cI l).length = l.length := by simp [cI]
theorem cR_len : ∀ l : List Rg, (cR l).length = l.length * 2
  | [] => rfl
  | r :: l => by simp [cR, cR_len l]; omega
theorem cD_len : ∀ l : List Rd, (cD l).length = l.length * 3
  | [] => rfl
  | r :: l => by simp [cD, cD_len l]; omega
theorem cI_drop : ∀ (l : List Int) (i : Nat), (cI l).drop i = cI (l.drop i) := fun l i => by simp [cI]
theorem cR_drop : ∀ (l : List Rg) (i : Nat), (cR l).drop (i * 2) = cR (l.drop i)
  | l, 0 => by simp
  | [], i + 1 => by simp [cR]
  | r :: l, i + 1 => by rw [show (i + 1) * 2 = i * 2 + 1 + 1 by omega]; simp [cR, cR_drop l i]
theorem cD_drop : ∀ (l : List Rd) (i : Nat), (cD l).drop (i * 3) = cD (l.drop i)
  | l, 0 => by simp
  | [], i + 1 => by simp [cD]
  | r :: l, i + 1 => by rw [show (i + 1) * 3 = i * 3 + 1 + 1 + 1 by omega]; simp [cD, cD_drop l i]
theorem gi_drop {l : List Int} {n : Int} (h0 : 0 ≤ n) (h1 : n < l.length) : l.drop n.toNat = gi l n :: l.drop (n.toNat + 1) := by
  have : n.toNat < l.length := by omega
  rw [List.drop_eq_getElem_cons this, gi, List.getD_eq_getElem?_getD, List.getElem?_eq_getElem this]; rfl
theorem gR_drop {l : List Rg} {n : Int} (h0 : 0 ≤ n) (h1 : n < l.length) : l.drop n.toNat = gR l n :: l.drop (n.toNat + 1) := by
  have : n.toNat < l.length := by omega
  rw [List.drop_eq_getElem_cons this, gR, List.getD_eq_getElem?_getD, List.getElem?_eq_getElem this]; rfl
theorem gD_drop {l : List Rd} {n : Int} (h0 : 0 ≤ n) (h1 : n < l.length) : l.drop n.toNat = gD l n :: l.drop (n.toNat + 1) := by
  have : n.toNat < l.length := by omega
  rw [List.drop_eq_getElem_cons this, gD, List.getD_eq_getElem?_getD, List.getElem?_eq_getElem this]; rfl
/-- An element's cells, and the rest. -/
theorem cI_at {l : List Int} {n : Int} (h0 : 0 ≤ n) (h1 : n < l.length) : (cI l).drop (n.toNat * 1) = vi (gi l n) :: cI (l.drop (n.toNat + 1)) := by
  rw [Nat.mul_one, cI_drop, gi_drop h0 h1]; rfl
theorem cR_at {l : List Rg} {n : Int} (h0 : 0 ≤ n) (h1 : n < l.length) : (cR l).drop (n.toNat * 2) = vi (gR l n).lo :: vi (gR l n).hi :: cR (l.drop (n.toNat + 1)) := by
  rw [cR_drop, gR_drop h0 h1]; rfl
theorem cD_at {l : List Rd} {n : Int} (h0 : 0 ≤ n) (h1 : n < l.length) : (cD l).drop (n.toNat * 3) = vi (gD l n).hour :: vi (gD l n).b.lo :: vi (gD l n).b.hi :: cD (l.drop (n.toNat + 1)) := by
  rw [cD_drop, gD_drop h0 h1]; rfl
theorem cI_into (p : Nat → Bool) : ∀ l : List Int, intoL p (cI l) = true
  | [] => rfl
  | x :: l => by simp only [cI, List.map_cons, intoL, V.into, Bool.true_and]; exact cI_into p l
theorem cR_into (p : Nat → Bool) : ∀ l : List Rg, intoL p (cR l) = true
  | [] => rfl
  | x :: l => by simp only [cR, intoL, V.into, Bool.true_and]; exact cR_into p l
theorem cD_into (p : Nat → Bool) : ∀ l : List Rd, intoL p (cD l) = true
  | [] => rfl
  | x :: l => by simp only [cD, intoL, V.into, Bool.true_and]; exact cD_into p l
theorem vI_into (p : Nat → Bool) (l : List Int) : (vI l).into p = true := by simp only [vI, V.into]; exact cI_into p l
theorem vR_into (p : Nat → Bool) (l : List Rg) : (vR l).into p = true := by simp only [vR, V.into]; exact cR_into p l
theorem vD_into (p : Nat → Bool) (l : List Rd) : (vD l).into p = true := by simp only [vD, V.into]; exact cD_into p l
theorem cu_into (p : Nat → Bool) (c : Cu) : intoL p c.cs = true := by
  simp only [Cu.cs, intoL, V.into, vI_into, vR_into, vD_into, Bool.true_and]
/-- A truth, as the program has it: the heat, and five losses. -/
structure Sc where
  heat : Int
  loss : List Int
  deriving DecidableEq
def Sc.cs (s : Sc) : List V := vi s.heat :: cI s.loss
def cS : List Sc → List V
  | [] => []
  | s :: l => vi s.heat :: (cI s.loss ++ cS l)
def vS (l : List Sc) : V := .ro l.length (cS l)
def gS (l : List Sc) (n : Int) : Sc := l.getD n.toNat ⟨0, []⟩
def okS (l : List Sc) : Prop := ∀ s ∈ l, s.loss.length = 5
theorem cS_len : ∀ {l : List Sc}, okS l → (cS l).length = l.length * 6
  | [], _ => rfl
  | s :: l, h => by
    have h1 := h s (by simp)
    have h2 := cS_len (l := l) fun x hx => h x (by simp [hx])
    simp [cS, h2, cI_len, h1]; omega
theorem cS_drop : ∀ {l : List Sc} (i : Nat), okS l → (cS l).drop (i * 6) = cS (l.drop i)
  | l, 0, _ => by simp
  | [], i + 1, _ => by simp [cS]
  | s :: l, i + 1, h => by
    have h1 := h s (by simp)
    rw [show (i + 1) * 6 = i * 6 + 5 + 1 by omega]
    simp only [cS, List.drop_succ_cons, List.drop_append, cI_len, h1]
    rw [List.drop_eq_nil_of_le (by rw [cI_len]; omega), List.nil_append, Nat.add_sub_cancel]
    exact cS_drop i fun x hx => h x (by simp [hx])
theorem gS_drop {l : List Sc} {n : Int} (h0 : 0 ≤ n) (h1 : n < l.length) : l.drop n.toNat = gS l n :: l.drop (n.toNat + 1) := by
  have : n.toNat < l.length := by omega
  rw [List.drop_eq_getElem_cons this, gS, List.getD_eq_getElem?_getD, List.getElem?_eq_getElem this]; rfl
theorem cS_at {l : List Sc} {n : Int} (hl : okS l) (h0 : 0 ≤ n) (h1 : n < l.length) : (cS l).drop (n.toNat * 6) = vi (gS l n).heat :: (cI (gS l n).loss ++ cS (l.drop (n.toNat + 1))) := by
  rw [cS_drop _ hl, gS_drop h0 h1]; rfl
theorem gS_mem {l : List Sc} {n : Int} (h0 : 0 ≤ n) (h1 : n < l.length) : gS l n ∈ l := by
  have : n.toNat < l.length := by omega
  rw [gS, List.getD_eq_getElem?_getD, List.getElem?_eq_getElem this]; exact List.getElem_mem _
theorem cS_into (p : Nat → Bool) : ∀ l : List Sc, intoL p (cS l) = true
  | [] => rfl
  | s :: l => by
    simp only [cS, intoL, V.into, Bool.true_and]
    have : ∀ (a b : List V), intoL p a = true → intoL p b = true → intoL p (a ++ b) = true := by
      intro a b ha hb
      induction a with
      | nil => exact hb
      | cons x a ih => simp only [List.cons_append, intoL, Bool.and_eq_true] at ha ⊢; exact ⟨ha.1, ih ha.2⟩
    exact this _ _ (cI_into p _) (cS_into p l)
theorem vS_into (p : Nat → Bool) (l : List Sc) : (vS l).into p = true := by simp only [vS, V.into]; exact cS_into p l
theorem gi_get {l : List Int} {i : Nat} (h : (i : Int) < l.length) : l[i]? = some (gi l i) := by
  have : i < l.length := by omega
  rw [gi, Int.toNat_natCast, List.getD_eq_getElem?_getD, List.getElem?_eq_getElem this]; rfl
theorem gR_get {l : List Rg} {i : Nat} (h : (i : Int) < l.length) : l[i]? = some (gR l i) := by
  have : i < l.length := by omega
  rw [gR, Int.toNat_natCast, List.getD_eq_getElem?_getD, List.getElem?_eq_getElem this]; rfl
theorem gD_get {l : List Rd} {i : Nat} (h : (i : Int) < l.length) : l[i]? = some (gD l i) := by
  have : i < l.length := by omega
  rw [gD, Int.toNat_natCast, List.getD_eq_getElem?_getD, List.getElem?_eq_getElem this]; rfl
theorem gS_get {l : List Sc} {i : Nat} (h : (i : Int) < l.length) : l[i]? = some (gS l i) := by
  have : i < l.length := by omega
  rw [gS, Int.toNat_natCast, List.getD_eq_getElem?_getD, List.getElem?_eq_getElem this]; rfl
/-- The number of the first element of which f is true; -1 if there is none. -/
def sIdx {α : Type} (f : α → Bool) (l : List α) : Int := match l.findIdx? f with
  | some i => i
  | none => -1
theorem sIdx_some {α : Type} {f : α → Bool} {l : List α} {i : Nat} {x : α} (hx : l[i]? = some x) (hf : f x = true) (hj : ∀ (j : Nat) y, j < i → l[j]? = some y → f y = false) : sIdx f l = i := by
  have : l.findIdx? f = some i := by
    rw [List.findIdx?_eq_some_iff_getElem]
    obtain ⟨h1, h2⟩ := List.getElem?_eq_some_iff.1 hx
    refine ⟨h1, by rw [h2]; exact hf, fun j hji => ?_⟩
    have := hj j _ hji (List.getElem?_eq_getElem (by omega))
    simp [this]
  simp [sIdx, this]
theorem sIdx_none {α : Type} {f : α → Bool} {l : List α} (hj : ∀ (j : Nat) y, l[j]? = some y → f y = false) : sIdx f l = -1 := by
  have : l.findIdx? f = none := by
    rw [List.findIdx?_eq_none_iff]
    intro x hx
    obtain ⟨i, hi⟩ := List.mem_iff_getElem?.1 hx
    exact hj i x hi
  simp [sIdx, this]
theorem sIdx_any {α : Type} (f : α → Bool) (l : List α) : decide (0 ≤ sIdx f l) = l.any f := by
  unfold sIdx
  cases h : l.findIdx? f with
  | none =>
    rw [List.findIdx?_eq_none_iff] at h
    have : l.any f = false := by rw [List.any_eq_false]; intro x hx; simp [h x hx]
    simp [this]
  | some i =>
    rw [List.findIdx?_eq_some_iff_getElem] at h
    obtain ⟨h1, h2, _⟩ := h
    have : l.any f = true := by rw [List.any_eq_true]; exact ⟨_, List.getElem_mem h1, h2⟩
    simp [this]
def cB (l : List Bool) : List V := l.map V.bool
def vB (l : List Bool) : V := .ro l.length (cB l)
theorem on_int {k : IntKind} {n : Int} : V.one (.int k n) = true := rfl
theorem ce_int {k : IntKind} {n : Int} : V.cells? (.int k n) = some [.int k n] := rfl
theorem on_bool {b : Bool} : V.one (.bool b) = true := rfl
theorem ce_bool {b : Bool} : V.cells? (.bool b) = some [.bool b] := rfl
theorem on_nilp  : V.one (.nilp) = true := rfl
theorem ce_nilp  : V.cells? (.nilp) = some [.nilp] := rfl
theorem on_rop {l : List V} : V.one (.rop l) = true := rfl
theorem ce_rop {l : List V} : V.cells? (.rop l) = some [.rop l] := rfl
theorem on_ptr {i v o : Nat} : V.one (.ptr i v o) = true := rfl
theorem ce_ptr {i v o : Nat} : V.cells? (.ptr i v o) = some [.ptr i v o] := rfl
theorem on_sl0  : V.one (.sl0) = true := rfl
theorem ce_sl0  : V.cells? (.sl0) = some [.sl0] := rfl
theorem on_ro {n : Nat} {l : List V} : V.one (.ro n l) = true := rfl
theorem ce_ro {n : Nat} {l : List V} : V.cells? (.ro n l) = some [.ro n l] := rfl
theorem on_own {i v o s n : Nat} : V.one (.own i v o s n) = true := rfl
theorem ce_own {i v o s n : Nat} : V.cells? (.own i v o s n) = some [.own i v o s n] := rfl
theorem on_fn {f : FuncId} {a b : List V} : V.one (.fn f a b) = true := rfl
theorem ce_fn {f : FuncId} {a b : List V} : V.cells? (.fn f a b) = some [.fn f a b] := rfl
theorem on_nilfn  : V.one (.nilfn) = true := rfl
theorem ce_nilfn  : V.cells? (.nilfn) = some [.nilfn] := rfl
theorem on_mp {i : Nat} : V.one (.mp i) = true := rfl
theorem ce_mp {i : Nat} : V.cells? (.mp i) = some [.mp i] := rfl
theorem on_vI {l : List Int} : V.one (vI l) = true := rfl
theorem ce_vI {l : List Int} : V.cells? (vI l) = some [vI l] := rfl
theorem on_vR {l : List Rg} : V.one (vR l) = true := rfl
theorem ce_vR {l : List Rg} : V.cells? (vR l) = some [vR l] := rfl
theorem on_vD {l : List Rd} : V.one (vD l) = true := rfl
theorem ce_vD {l : List Rd} : V.cells? (vD l) = some [vD l] := rfl
theorem on_vS {l : List Sc} : V.one (vS l) = true := rfl
theorem ce_vS {l : List Sc} : V.cells? (vS l) = some [vS l] := rfl
theorem on_vB {l : List Bool} : V.one (vB l) = true := rfl
theorem ce_vB {l : List Bool} : V.cells? (vB l) = some [vB l] := rfl
theorem ce_agg {l : List V} : V.cells? (.agg l) = some l := rfl
/-- Coppers at work. -/
def wcs (c : Cu) (tr : List Sc) (m : V) : List V := [vi c.last, vi c.start, vi c.most, vi c.per, vi c.shovels, vI c.coal, vI c.want, vi c.heat.lo, vi c.heat.hi, vR c.loss, vD c.readings, vS tr, m]
theorem wc_take {c : Cu} {tr : List Sc} {m : V} : (wcs c tr m).take 11 = c.cs := rfl
theorem wc_len {c : Cu} {tr : List Sc} {m : V} : (wcs c tr m).length = 13 := rfl
theorem wc_h5 {c : Cu} {tr : List Sc} {m : V} : ((wcs c tr m).drop 5).head? = some (vI c.coal) := rfl
theorem wc_h6 {c : Cu} {tr : List Sc} {m : V} : ((wcs c tr m).drop 6).head? = some (vI c.want) := rfl
theorem wc_h11 {c : Cu} {tr : List Sc} {m : V} : ((wcs c tr m).drop 11).head? = some (vS tr) := rfl
theorem wc_h12 {c : Cu} {tr : List Sc} {m : V} : ((wcs c tr m).drop 12).head? = some m := rfl
theorem wc_into (p : Nat → Bool) (c : Cu) (tr : List Sc) (m : V) (h : m.into p = true) : intoL p (wcs c tr m) = true := by
  simp only [wcs, intoL, V.into, vI_into, vR_into, vD_into, vS_into, h, Bool.true_and]
def gB (l : List Bool) (n : Int) : Bool := l.getD n.toNat false
theorem cB_at {l : List Bool} {n : Int} (h0 : 0 ≤ n) (h1 : n < l.length) : (cB l).drop (n.toNat * 1) = V.bool (gB l n) :: cB (l.drop (n.toNat + 1)) := by
  have : n.toNat < l.length := by omega
  rw [Nat.mul_one, show (cB l).drop n.toNat = cB (l.drop n.toNat) by simp [cB], List.drop_eq_getElem_cons this, gB, List.getD_eq_getElem?_getD, List.getElem?_eq_getElem this]; rfl
theorem gB_get {l : List Bool} {i : Nat} (h : (i : Int) < l.length) : l[i]? = some (gB l i) := by
  have : i < l.length := by omega
  rw [gB, Int.toNat_natCast, List.getD_eq_getElem?_getD, List.getElem?_eq_getElem this]; rfl
theorem cI_frz (i v : Nat) (cs : List V) : ∀ l : List Int, frzL i v cs (cI l) = cI l
  | [] => rfl
  | x :: l => by simp only [cI, List.map_cons, frzL, V.frz]; exact congrArg _ (cI_frz i v cs l)
theorem cI_snoc (l : List Int) (x : Int) : cI (l ++ [x]) = cI l ++ [vi x] := by simp [cI]
theorem cI_take (l : List Int) : (cI l).take l.length = cI l := List.take_of_length_le (by simp [cI])
theorem cB_into (p : Nat → Bool) : ∀ l : List Bool, intoL p (cB l) = true
  | [] => rfl
  | x :: l => by simp only [cB, List.map_cons, intoL, V.into, Bool.true_and]; exact cB_into p l
theorem vB_into (p : Nat → Bool) (l : List Bool) : (vB l).into p = true := by simp only [vB, V.into]; exact cB_into p l
theorem cB_len (l : List Bool) : (cB l).length = l.length := by simp [cB]
theorem cB_frz (i v : Nat) (cs : List V) : ∀ l : List Bool, frzL i v cs (cB l) = cB l
  | [] => rfl
  | x :: l => by simp only [cB, List.map_cons, frzL, V.frz]; exact congrArg _ (cB_frz i v cs l)
theorem cB_snoc (l : List Bool) (x : Bool) : cB (l ++ [x]) = cB l ++ [.bool x] := by simp [cB]
theorem cB_take (l : List Bool) : (cB l).take l.length = cB l := List.take_of_length_le (by simp [cB])
theorem cu_h0 {c : Cu} : c.cs.head? = some (vi c.last) := rfl
theorem cu_h1 {c : Cu} : (c.cs.drop 1).head? = some (vi c.start) := rfl
theorem cu_h2 {c : Cu} : (c.cs.drop 2).head? = some (vi c.most) := rfl
theorem cu_h3 {c : Cu} : (c.cs.drop 3).head? = some (vi c.per) := rfl
theorem cu_h4 {c : Cu} : (c.cs.drop 4).head? = some (vi c.shovels) := rfl
theorem cu_h5 {c : Cu} : (c.cs.drop 5).head? = some (vI c.coal) := rfl
theorem cu_h6 {c : Cu} : (c.cs.drop 6).head? = some (vI c.want) := rfl
theorem cu_h7 {c : Cu} : (c.cs.drop 7).head? = some (vi c.heat.lo) := rfl
theorem cu_h8 {c : Cu} : (c.cs.drop 8).head? = some (vi c.heat.hi) := rfl
theorem cu_h9 {c : Cu} : (c.cs.drop 9).head? = some (vR c.loss) := rfl
theorem cu_h10 {c : Cu} : (c.cs.drop 10).head? = some (vD c.readings) := rfl
theorem cu_g0 {c : Cu} : c.cs[0]? = some (vi c.last) := rfl
theorem cu_g1 {c : Cu} : c.cs[1]? = some (vi c.start) := rfl
theorem cu_g2 {c : Cu} : c.cs[2]? = some (vi c.most) := rfl
theorem cu_g3 {c : Cu} : c.cs[3]? = some (vi c.per) := rfl
theorem cu_g4 {c : Cu} : c.cs[4]? = some (vi c.shovels) := rfl
theorem cu_g5 {c : Cu} : c.cs[5]? = some (vI c.coal) := rfl
theorem cu_g6 {c : Cu} : c.cs[6]? = some (vI c.want) := rfl
theorem cu_g7 {c : Cu} : c.cs[7]? = some (vi c.heat.lo) := rfl
theorem cu_g8 {c : Cu} : c.cs[8]? = some (vi c.heat.hi) := rfl
theorem cu_g9 {c : Cu} : c.cs[9]? = some (vR c.loss) := rfl
theorem cu_g10 {c : Cu} : c.cs[10]? = some (vD c.readings) := rfl
theorem cu_t {c : Cu} : (c.cs.drop 7).take 2 = [vi c.heat.lo, vi c.heat.hi] := rfl
theorem cu_l {c : Cu} : (c.cs.drop 7).length = 4 := rfl
theorem cu_len {c : Cu} : c.cs.length = 11 := rfl
theorem cu_take {c : Cu} : c.cs.take 11 = c.cs := rfl
end Go.Vm

set_option linter.unusedVariables false
set_option maxRecDepth 100000
namespace Go.Vm
open Go.Proofs
/-- The rules by which code is gone through. -/
theorem gos : type_of% (And.intro (And.intro (And.intro (And.intro (And.intro (And.intro (And.intro @Go.Vm.W_seq (And.intro @Go.Vm.W_skip @Go.Vm.W_ret)) (And.intro @Go.Vm.W_exit (And.intro @Go.Vm.W_block @Go.Vm.W_label))) (And.intro (And.intro @Go.Vm.W_cond (And.intro @Go.Vm.W_region @Go.Vm.Wr_pl)) (And.intro @Go.Vm.cln.eq_1 (And.intro @Go.Vm.cln.eq_2 @Go.Vm.R_nil)))) (And.intro (And.intro (And.intro @Go.Vm.R_code (And.intro @Go.Vm.R_code_exit @Go.Vm.R_code_ret)) (And.intro @Go.Vm.R_wk (And.intro @Go.Vm.R_orc @Go.Vm.LQ_normal))) (And.intro (And.intro @Go.Vm.LQ_exit (And.intro @Go.Vm.LQ_ret @Go.Vm.R_blk)) (And.intro @Go.Vm.R_blk_exit (And.intro @Go.Vm.R_blk_ret @Go.Vm.RL_cons))))) (And.intro (And.intro (And.intro (And.intro @Go.Vm.RL_nil (And.intro @Go.Vm.RO_ok @Go.Vm.RO_call)) (And.intro @Go.Vm.RD_cons (And.intro @Go.Vm.RD_nil @Go.Vm.RDO_ok))) (And.intro (And.intro @Go.Vm.RDO_call (And.intro @Go.Vm.Br_true @Go.Vm.Br_false)) (And.intro @Go.Vm.fzn.eq_1 (And.intro @Go.Vm.fzn.eq_2 @Go.Vm.tgL.eq_1)))) (And.intro (And.intro (And.intro @Go.Vm.tgL.eq_2 (And.intro @Go.Vm.rdP.eq_1 @Go.Vm.rdP.eq_2)) (And.intro @Go.Vm.wrP.eq_1 (And.intro @Go.Vm.wrP.eq_2 @Go.Vm.dstOk.eq_1))) (And.intro (And.intro @Go.Vm.dstOk.eq_2 (And.intro @Go.Vm.evL.eq_1 @Go.Vm.evL.eq_2)) (And.intro (And.intro @Go.Vm.evP.eq_1 @Go.Vm.evP.eq_2) (And.intro @Go.Vm.Env.get.eq_1 @Go.Vm.Env.get.eq_2)))))) (And.intro (And.intro (And.intro (And.intro (And.intro @Go.Vm.Env.put.eq_1 (And.intro @Go.Vm.Env.put.eq_2 @Go.Vm.on_int)) (And.intro @Go.Vm.on_bool (And.intro @Go.Vm.on_nilp @Go.Vm.on_rop))) (And.intro (And.intro @Go.Vm.on_ptr (And.intro @Go.Vm.on_sl0 @Go.Vm.on_ro)) (And.intro @Go.Vm.on_own (And.intro @Go.Vm.on_fn @Go.Vm.on_nilfn)))) (And.intro (And.intro (And.intro @Go.Vm.on_mp (And.intro @Go.Vm.on_vI @Go.Vm.on_vR)) (And.intro @Go.Vm.on_vD (And.intro @Go.Vm.on_vS @Go.Vm.on_vB))) (And.intro (And.intro @Go.Vm.ce_int (And.intro @Go.Vm.ce_bool @Go.Vm.ce_nilp)) (And.intro @Go.Vm.ce_rop (And.intro @Go.Vm.ce_ptr @Go.Vm.ce_sl0))))) (And.intro (And.intro (And.intro (And.intro @Go.Vm.ce_ro (And.intro @Go.Vm.ce_own @Go.Vm.ce_fn)) (And.intro @Go.Vm.ce_nilfn (And.intro @Go.Vm.ce_mp @Go.Vm.ce_vI))) (And.intro (And.intro @Go.Vm.ce_vR (And.intro @Go.Vm.ce_vD @Go.Vm.ce_vS)) (And.intro @Go.Vm.ce_vB (And.intro @Go.Vm.ce_agg @Go.Vm.oneL.eq_1)))) (And.intro (And.intro (And.intro @Go.Vm.oneL.eq_2 (And.intro @Go.Vm.zeros.eq_1 @Go.Vm.zeros.eq_2)) (And.intro @Go.Vm.Heap.get.eq_1 (And.intro @Go.Vm.Heap.get.eq_2 @Go.Vm.Heap.set.eq_1))) (And.intro (And.intro @Go.Vm.Heap.set.eq_2 (And.intro @List.zipIdx_cons.{0} @List.zipIdx_nil.{0})) (And.intro (And.intro @List.map_cons.{0, 0} @List.map_nil.{0, 0}) (And.intro @decide_true @decide_false))))))) (And.intro (And.intro (And.intro (And.intro (And.intro (And.intro @Bool.false_eq_true (And.intro @beq_iff_eq.{0} @BEq.rfl.{0})) (And.intro @Option.bind_some.{0, 0} (And.intro @Option.bind_none.{0, 0} @Option.map_some.{0, 0}))) (And.intro (And.intro @Option.map_none.{0, 0} (And.intro @List.getElem?_cons_zero.{0} @List.getElem?_cons_succ.{0})) (And.intro @List.head?_cons.{0} (And.intro @and_self @and_true)))) (And.intro (And.intro (And.intro @true_and (And.intro @not_true_eq_false @not_false_eq_true)) (And.intro @Bool.not_true (And.intro @Bool.not_false @Bool.true_and))) (And.intro (And.intro @Bool.and_true (And.intro @Bool.false_and @Bool.and_false)) (And.intro @beq_true (And.intro @beq_false @Bool.beq_eq_decide_eq.{0}))))) (And.intro (And.intro (And.intro (And.intro @Go.Vm.cu_h0 (And.intro @Go.Vm.cu_h1 @Go.Vm.cu_h2)) (And.intro @Go.Vm.cu_h3 (And.intro @Go.Vm.cu_h4 @Go.Vm.cu_h5))) (And.intro (And.intro @Go.Vm.cu_h6 (And.intro @Go.Vm.cu_h7 @Go.Vm.cu_h8)) (And.intro @Go.Vm.cu_h9 (And.intro @Go.Vm.cu_h10 @Go.Vm.cu_g0)))) (And.intro (And.intro (And.intro @Go.Vm.cu_g1 (And.intro @Go.Vm.cu_g2 @Go.Vm.cu_g3)) (And.intro @Go.Vm.cu_g4 (And.intro @Go.Vm.cu_g5 @Go.Vm.cu_g6))) (And.intro (And.intro @Go.Vm.cu_g7 (And.intro @Go.Vm.cu_g8 @Go.Vm.cu_g9)) (And.intro (And.intro @Go.Vm.cu_g10 @Go.Vm.cu_t) (And.intro @Go.Vm.cu_l @Go.Vm.cu_len)))))) (And.intro (And.intro (And.intro (And.intro (And.intro @Go.Vm.cu_take (And.intro @Go.Vm.wc_take @Go.Vm.wc_len)) (And.intro @Go.Vm.wc_h5 (And.intro @Go.Vm.wc_h6 @Go.Vm.wc_h11))) (And.intro (And.intro @Go.Vm.wc_h12 (And.intro @List.drop_zero.{0} @List.drop_succ_cons.{0})) (And.intro @List.drop_nil.{0} (And.intro @List.drop_drop.{0} @List.take_succ_cons.{0})))) (And.intro (And.intro (And.intro @List.take_zero.{0} (And.intro @List.take_nil.{0} @List.length_cons.{0})) (And.intro @List.length_nil.{0} (And.intro @Nat.le_add_left @Nat.zero_le))) (And.intro (And.intro @bne_self_eq_false.{0} (And.intro @Bool.false_or @Bool.or_false)) (And.intro (And.intro @Bool.true_or @Bool.or_true) (And.intro @Option.getD_some.{0} @Option.getD_none.{0}))))) (And.intro (And.intro (And.intro (And.intro @ge_iff_le.{0} (And.intro @gt_iff_lt.{0} @Bool.true_eq_false)) (And.intro @decide_eq_true_eq (And.intro @List.cons_append.{0} @List.nil_append.{0}))) (And.intro (And.intro @List.append_nil.{0} (And.intro @Nat.le_refl @Int.natCast_nonneg)) (And.intro @List.getD_cons_zero.{0} (And.intro @List.getD_cons_succ.{0} @List.getD_nil.{0})))) (And.intro (And.intro (And.intro @Go.Vm.gomin (And.intro @Go.Vm.gomax @Go.Vm.cP.eq_1)) (And.intro @Go.Vm.cL.eq_1 (And.intro @Go.Vm.cW.eq_1 @Go.Vm.tg0.eq_1))) (And.intro (And.intro @List.contains_nil.{0} (And.intro @List.contains_cons.{0} @List.all_nil.{0})) (And.intro (And.intro @List.all_cons.{0} @Option.toList_some.{0}) (And.intro @Option.toList_none.{0} @List.length_map.{0, 0})))))))) := (And.intro (And.intro (And.intro (And.intro (And.intro (And.intro (And.intro @Go.Vm.W_seq (And.intro @Go.Vm.W_skip @Go.Vm.W_ret)) (And.intro @Go.Vm.W_exit (And.intro @Go.Vm.W_block @Go.Vm.W_label))) (And.intro (And.intro @Go.Vm.W_cond (And.intro @Go.Vm.W_region @Go.Vm.Wr_pl)) (And.intro @Go.Vm.cln.eq_1 (And.intro @Go.Vm.cln.eq_2 @Go.Vm.R_nil)))) (And.intro (And.intro (And.intro @Go.Vm.R_code (And.intro @Go.Vm.R_code_exit @Go.Vm.R_code_ret)) (And.intro @Go.Vm.R_wk (And.intro @Go.Vm.R_orc @Go.Vm.LQ_normal))) (And.intro (And.intro @Go.Vm.LQ_exit (And.intro @Go.Vm.LQ_ret @Go.Vm.R_blk)) (And.intro @Go.Vm.R_blk_exit (And.intro @Go.Vm.R_blk_ret @Go.Vm.RL_cons))))) (And.intro (And.intro (And.intro (And.intro @Go.Vm.RL_nil (And.intro @Go.Vm.RO_ok @Go.Vm.RO_call)) (And.intro @Go.Vm.RD_cons (And.intro @Go.Vm.RD_nil @Go.Vm.RDO_ok))) (And.intro (And.intro @Go.Vm.RDO_call (And.intro @Go.Vm.Br_true @Go.Vm.Br_false)) (And.intro @Go.Vm.fzn.eq_1 (And.intro @Go.Vm.fzn.eq_2 @Go.Vm.tgL.eq_1)))) (And.intro (And.intro (And.intro @Go.Vm.tgL.eq_2 (And.intro @Go.Vm.rdP.eq_1 @Go.Vm.rdP.eq_2)) (And.intro @Go.Vm.wrP.eq_1 (And.intro @Go.Vm.wrP.eq_2 @Go.Vm.dstOk.eq_1))) (And.intro (And.intro @Go.Vm.dstOk.eq_2 (And.intro @Go.Vm.evL.eq_1 @Go.Vm.evL.eq_2)) (And.intro (And.intro @Go.Vm.evP.eq_1 @Go.Vm.evP.eq_2) (And.intro @Go.Vm.Env.get.eq_1 @Go.Vm.Env.get.eq_2)))))) (And.intro (And.intro (And.intro (And.intro (And.intro @Go.Vm.Env.put.eq_1 (And.intro @Go.Vm.Env.put.eq_2 @Go.Vm.on_int)) (And.intro @Go.Vm.on_bool (And.intro @Go.Vm.on_nilp @Go.Vm.on_rop))) (And.intro (And.intro @Go.Vm.on_ptr (And.intro @Go.Vm.on_sl0 @Go.Vm.on_ro)) (And.intro @Go.Vm.on_own (And.intro @Go.Vm.on_fn @Go.Vm.on_nilfn)))) (And.intro (And.intro (And.intro @Go.Vm.on_mp (And.intro @Go.Vm.on_vI @Go.Vm.on_vR)) (And.intro @Go.Vm.on_vD (And.intro @Go.Vm.on_vS @Go.Vm.on_vB))) (And.intro (And.intro @Go.Vm.ce_int (And.intro @Go.Vm.ce_bool @Go.Vm.ce_nilp)) (And.intro @Go.Vm.ce_rop (And.intro @Go.Vm.ce_ptr @Go.Vm.ce_sl0))))) (And.intro (And.intro (And.intro (And.intro @Go.Vm.ce_ro (And.intro @Go.Vm.ce_own @Go.Vm.ce_fn)) (And.intro @Go.Vm.ce_nilfn (And.intro @Go.Vm.ce_mp @Go.Vm.ce_vI))) (And.intro (And.intro @Go.Vm.ce_vR (And.intro @Go.Vm.ce_vD @Go.Vm.ce_vS)) (And.intro @Go.Vm.ce_vB (And.intro @Go.Vm.ce_agg @Go.Vm.oneL.eq_1)))) (And.intro (And.intro (And.intro @Go.Vm.oneL.eq_2 (And.intro @Go.Vm.zeros.eq_1 @Go.Vm.zeros.eq_2)) (And.intro @Go.Vm.Heap.get.eq_1 (And.intro @Go.Vm.Heap.get.eq_2 @Go.Vm.Heap.set.eq_1))) (And.intro (And.intro @Go.Vm.Heap.set.eq_2 (And.intro @List.zipIdx_cons.{0} @List.zipIdx_nil.{0})) (And.intro (And.intro @List.map_cons.{0, 0} @List.map_nil.{0, 0}) (And.intro @decide_true @decide_false))))))) (And.intro (And.intro (And.intro (And.intro (And.intro (And.intro @Bool.false_eq_true (And.intro @beq_iff_eq.{0} @BEq.rfl.{0})) (And.intro @Option.bind_some.{0, 0} (And.intro @Option.bind_none.{0, 0} @Option.map_some.{0, 0}))) (And.intro (And.intro @Option.map_none.{0, 0} (And.intro @List.getElem?_cons_zero.{0} @List.getElem?_cons_succ.{0})) (And.intro @List.head?_cons.{0} (And.intro @and_self @and_true)))) (And.intro (And.intro (And.intro @true_and (And.intro @not_true_eq_false @not_false_eq_true)) (And.intro @Bool.not_true (And.intro @Bool.not_false @Bool.true_and))) (And.intro (And.intro @Bool.and_true (And.intro @Bool.false_and @Bool.and_false)) (And.intro @beq_true (And.intro @beq_false @Bool.beq_eq_decide_eq.{0}))))) (And.intro (And.intro (And.intro (And.intro @Go.Vm.cu_h0 (And.intro @Go.Vm.cu_h1 @Go.Vm.cu_h2)) (And.intro @Go.Vm.cu_h3 (And.intro @Go.Vm.cu_h4 @Go.Vm.cu_h5))) (And.intro (And.intro @Go.Vm.cu_h6 (And.intro @Go.Vm.cu_h7 @Go.Vm.cu_h8)) (And.intro @Go.Vm.cu_h9 (And.intro @Go.Vm.cu_h10 @Go.Vm.cu_g0)))) (And.intro (And.intro (And.intro @Go.Vm.cu_g1 (And.intro @Go.Vm.cu_g2 @Go.Vm.cu_g3)) (And.intro @Go.Vm.cu_g4 (And.intro @Go.Vm.cu_g5 @Go.Vm.cu_g6))) (And.intro (And.intro @Go.Vm.cu_g7 (And.intro @Go.Vm.cu_g8 @Go.Vm.cu_g9)) (And.intro (And.intro @Go.Vm.cu_g10 @Go.Vm.cu_t) (And.intro @Go.Vm.cu_l @Go.Vm.cu_len)))))) (And.intro (And.intro (And.intro (And.intro (And.intro @Go.Vm.cu_take (And.intro @Go.Vm.wc_take @Go.Vm.wc_len)) (And.intro @Go.Vm.wc_h5 (And.intro @Go.Vm.wc_h6 @Go.Vm.wc_h11))) (And.intro (And.intro @Go.Vm.wc_h12 (And.intro @List.drop_zero.{0} @List.drop_succ_cons.{0})) (And.intro @List.drop_nil.{0} (And.intro @List.drop_drop.{0} @List.take_succ_cons.{0})))) (And.intro (And.intro (And.intro @List.take_zero.{0} (And.intro @List.take_nil.{0} @List.length_cons.{0})) (And.intro @List.length_nil.{0} (And.intro @Nat.le_add_left @Nat.zero_le))) (And.intro (And.intro @bne_self_eq_false.{0} (And.intro @Bool.false_or @Bool.or_false)) (And.intro (And.intro @Bool.true_or @Bool.or_true) (And.intro @Option.getD_some.{0} @Option.getD_none.{0}))))) (And.intro (And.intro (And.intro (And.intro @ge_iff_le.{0} (And.intro @gt_iff_lt.{0} @Bool.true_eq_false)) (And.intro @decide_eq_true_eq (And.intro @List.cons_append.{0} @List.nil_append.{0}))) (And.intro (And.intro @List.append_nil.{0} (And.intro @Nat.le_refl @Int.natCast_nonneg)) (And.intro @List.getD_cons_zero.{0} (And.intro @List.getD_cons_succ.{0} @List.getD_nil.{0})))) (And.intro (And.intro (And.intro @Go.Vm.gomin (And.intro @Go.Vm.gomax @Go.Vm.cP.eq_1)) (And.intro @Go.Vm.cL.eq_1 (And.intro @Go.Vm.cW.eq_1 @Go.Vm.tg0.eq_1))) (And.intro (And.intro @List.contains_nil.{0} (And.intro @List.contains_cons.{0} @List.all_nil.{0})) (And.intro (And.intro @List.all_cons.{0} @Option.toList_some.{0}) (And.intro @Option.toList_none.{0} @List.length_map.{0, 0}))))))))
end Go.Vm

set_option linter.unusedVariables false
set_option linter.unusedSimpArgs false
set_option maxRecDepth 100000
namespace Go.Vm
open Go.Proofs
def sIn (a b c : Int) : Bool := decide (b ≤ a) && decide (a ≤ c)
theorem c_within (a b c : Int) : Pu Tryz.prog (.fn 151 [] []) [vi a, vi b, vi c] (.bool (sIn a b c)) := by
  refine Ev.fn Tryz.func151 rfl rfl (Fn.body tabOk Tryz.func151 rfl (Nat.le_of_ble_eq_true rfl) (Ks.ok (fz := (fzn [])) (cl := (cln [])) tabOk mixed ?_))
  generalize hQ : FnPost tt Tryz.f151 _ _ = Q
  simp only [Tryz.f151, List.nil_append, List.append_nil, argsEnv, Nat.reduceAdd]
  by_cases h : b ≤ a
  · simp only [gos, eq_self, Nat.reduceLT, Nat.reduceEqDiff, reduceCtorEq, reduceIte, ↓reduceIte, vgo, vout, vguard, callOf, vop, ev, cv, vbin, vint, isShift, isNilConst, h]
    subst hQ
    exact FnPost.plain trivial (fun h2 e => by first | rfl | (simp only [Tryz.f151, vres, vresL, vres1, e _, gos, if_true, if_false, ne_eq, eq_self, Nat.reduceLT, Nat.reduceEqDiff, Nat.reduceAdd, Nat.reduceMul, Nat.reduceLeDiff, Nat.reduceBEq, reduceCtorEq, reduceIte, Array.toList, ↓reduceIte, tt, vgo, vout, vgoD, voutD, vclsOk, vids, mayWrite, V.ids, V.mids, vguard, callOf, vop, ev, cv, vbin, vint, isShift, isNilConst, vnil, isNilSlice, vload, vlen, newRow, vfill, vslice, entOf, vappend, srcOf, vcopy, vlookup, vupdate, mapOk, keyOf, intsOf, clsAt]; try rfl)) (WkV.pure (by simp only [V.into])) ⟨by simp [sIn, h], rfl⟩
  · simp only [gos, eq_self, Nat.reduceLT, Nat.reduceEqDiff, reduceCtorEq, reduceIte, ↓reduceIte, vgo, vout, vguard, callOf, vop, ev, cv, vbin, vint, isShift, isNilConst, h]
    subst hQ
    exact FnPost.plain trivial (fun h2 e => by first | rfl | (simp only [Tryz.f151, vres, vresL, vres1, e _, gos, if_true, if_false, ne_eq, eq_self, Nat.reduceLT, Nat.reduceEqDiff, Nat.reduceAdd, Nat.reduceMul, Nat.reduceLeDiff, Nat.reduceBEq, reduceCtorEq, reduceIte, Array.toList, ↓reduceIte, tt, vgo, vout, vgoD, voutD, vclsOk, vids, mayWrite, V.ids, V.mids, vguard, callOf, vop, ev, cv, vbin, vint, isShift, isNilConst, vnil, isNilSlice, vload, vlen, newRow, vfill, vslice, entOf, vappend, srcOf, vcopy, vlookup, vupdate, mapOk, keyOf, intsOf, clsAt]; try rfl)) (WkV.pure (by simp only [V.into])) ⟨by simp [sIn, h], rfl⟩
theorem c_has (r : Rg) (n : Int) : Pu Tryz.prog (.fn 158 [] []) [.agg [vi r.lo, vi r.hi], vi n] (.bool (sIn n r.lo r.hi)) := by
  refine Ev.fn Tryz.func158 rfl rfl (Fn.body tabOk Tryz.func158 rfl (Nat.le_of_ble_eq_true rfl) (Ks.ok (fz := (fzn [])) (cl := (cln [])) tabOk mixed ?_))
  generalize hQ : FnPost tt Tryz.f158 _ _ = Q
  simp only [Tryz.f158, List.nil_append, List.append_nil, argsEnv, Nat.reduceAdd]
  simp only [gos, eq_self, Nat.reduceLT, Nat.reduceEqDiff, reduceCtorEq, reduceIte, ↓reduceIte, tt, vgo, vout, vguard, callOf, vop, ev, cv, vload, newRow]
  refine Cl.pu (c_within _ _ _) ?_
  simp only [gos, eq_self, Nat.reduceLT, reduceIte, ↓reduceIte, vgo, vout, vguard, callOf, vop, ev]
  subst hQ
  exact FnPost.plain trivial (fun h2 e => by first | rfl | (simp only [Tryz.f158, vres, vresL, vres1, e _, gos, if_true, if_false, ne_eq, eq_self, Nat.reduceLT, Nat.reduceEqDiff, Nat.reduceAdd, Nat.reduceMul, Nat.reduceLeDiff, Nat.reduceBEq, reduceCtorEq, reduceIte, Array.toList, ↓reduceIte, tt, vgo, vout, vgoD, voutD, vclsOk, vids, mayWrite, V.ids, V.mids, vguard, callOf, vop, ev, cv, vbin, vint, isShift, isNilConst, vnil, isNilSlice, vload, vlen, newRow, vfill, vslice, entOf, vappend, srcOf, vcopy, vlookup, vupdate, mapOk, keyOf, intsOf, clsAt]; try rfl)) (WkV.pure (by simp only [V.into])) ⟨rfl, rfl⟩
def sInside (r : Rg) (most : Int) : Bool := decide (0 ≤ r.lo) && decide (r.lo ≤ r.hi) && decide (r.hi ≤ most)
theorem c_inside (r : Rg) (n : Int) : Pu Tryz.prog (.fn 153 [] []) [.agg [vi r.lo, vi r.hi], vi n] (.bool (sInside r n)) := by
  refine Ev.fn Tryz.func153 rfl rfl (Fn.body tabOk Tryz.func153 rfl (Nat.le_of_ble_eq_true rfl) (Ks.ok (fz := (fzn [])) (cl := (cln [])) tabOk mixed ?_))
  generalize hQ : FnPost tt Tryz.f153 _ _ = Q
  simp only [Tryz.f153, List.nil_append, List.append_nil, argsEnv, Nat.reduceAdd]
  by_cases h : 0 ≤ r.lo
  · by_cases h2 : r.lo ≤ r.hi
    · simp only [gos, eq_self, Nat.reduceLT, Nat.reduceEqDiff, reduceCtorEq, reduceIte, ↓reduceIte, tt, vgo, vout, vguard, callOf, vop, ev, cv, vbin, vint, isShift, isNilConst, vload, newRow, h, h2]
      subst hQ
      exact FnPost.plain trivial (fun h2 e => by first | rfl | (simp only [Tryz.f153, vres, vresL, vres1, e _, gos, if_true, if_false, ne_eq, eq_self, Nat.reduceLT, Nat.reduceEqDiff, Nat.reduceAdd, Nat.reduceMul, Nat.reduceLeDiff, Nat.reduceBEq, reduceCtorEq, reduceIte, Array.toList, ↓reduceIte, tt, vgo, vout, vgoD, voutD, vclsOk, vids, mayWrite, V.ids, V.mids, vguard, callOf, vop, ev, cv, vbin, vint, isShift, isNilConst, vnil, isNilSlice, vload, vlen, newRow, vfill, vslice, entOf, vappend, srcOf, vcopy, vlookup, vupdate, mapOk, keyOf, intsOf, clsAt]; try rfl)) (WkV.pure (by simp only [V.into])) ⟨by simp [sInside, h, h2], rfl⟩
    · simp only [gos, eq_self, Nat.reduceLT, Nat.reduceEqDiff, reduceCtorEq, reduceIte, ↓reduceIte, tt, vgo, vout, vguard, callOf, vop, ev, cv, vbin, vint, isShift, isNilConst, vload, newRow, h, h2]
      subst hQ
      exact FnPost.plain trivial (fun h2 e => by first | rfl | (simp only [Tryz.f153, vres, vresL, vres1, e _, gos, if_true, if_false, ne_eq, eq_self, Nat.reduceLT, Nat.reduceEqDiff, Nat.reduceAdd, Nat.reduceMul, Nat.reduceLeDiff, Nat.reduceBEq, reduceCtorEq, reduceIte, Array.toList, ↓reduceIte, tt, vgo, vout, vgoD, voutD, vclsOk, vids, mayWrite, V.ids, V.mids, vguard, callOf, vop, ev, cv, vbin, vint, isShift, isNilConst, vnil, isNilSlice, vload, vlen, newRow, vfill, vslice, entOf, vappend, srcOf, vcopy, vlookup, vupdate, mapOk, keyOf, intsOf, clsAt]; try rfl)) (WkV.pure (by simp only [V.into])) ⟨by simp [sInside, h, h2], rfl⟩
  · simp only [gos, eq_self, Nat.reduceLT, Nat.reduceEqDiff, reduceCtorEq, reduceIte, ↓reduceIte, tt, vgo, vout, vguard, callOf, vop, ev, cv, vbin, vint, isShift, isNilConst, vload, newRow, h]
    subst hQ
    exact FnPost.plain trivial (fun h2 e => by first | rfl | (simp only [Tryz.f153, vres, vresL, vres1, e _, gos, if_true, if_false, ne_eq, eq_self, Nat.reduceLT, Nat.reduceEqDiff, Nat.reduceAdd, Nat.reduceMul, Nat.reduceLeDiff, Nat.reduceBEq, reduceCtorEq, reduceIte, Array.toList, ↓reduceIte, tt, vgo, vout, vgoD, voutD, vclsOk, vids, mayWrite, V.ids, V.mids, vguard, callOf, vop, ev, cv, vbin, vint, isShift, isNilConst, vnil, isNilSlice, vload, vlen, newRow, vfill, vslice, entOf, vappend, srcOf, vcopy, vlookup, vupdate, mapOk, keyOf, intsOf, clsAt]; try rfl)) (WkV.pure (by simp only [V.into])) ⟨by simp [sInside, h], rfl⟩
def sSize (r : Rg) : Int := r.hi - r.lo + 1
theorem c_size (r : Rg) (h1 : I64 (r.hi - r.lo)) (h2 : I64 (sSize r)) : Pu Tryz.prog (.fn 157 [] []) [.agg [vi r.lo, vi r.hi]] (vi (sSize r)) := by
  refine Ev.fn Tryz.func157 rfl rfl (Fn.body tabOk Tryz.func157 rfl (Nat.le_of_ble_eq_true rfl) (Ks.ok (fz := (fzn [])) (cl := (cln [])) tabOk mixed ?_))
  generalize hQ : FnPost tt Tryz.f157 _ _ = Q
  simp only [Tryz.f157, List.nil_append, List.append_nil, argsEnv]
  simp only [gos, eq_self, Nat.reduceLT, Nat.reduceEqDiff, reduceCtorEq, reduceIte, ↓reduceIte, tt, vgo, vout, vguard, callOf, vop, ev, cv, vbin, vint, isShift, isNilConst, vload, newRow]
  subst hQ
  exact FnPost.plain trivial (fun h2 e => by first | rfl | (simp only [Tryz.f157, vres, vresL, vres1, e _, gos, if_true, if_false, ne_eq, eq_self, Nat.reduceLT, Nat.reduceEqDiff, Nat.reduceAdd, Nat.reduceMul, Nat.reduceLeDiff, Nat.reduceBEq, reduceCtorEq, reduceIte, Array.toList, ↓reduceIte, tt, vgo, vout, vgoD, voutD, vclsOk, vids, mayWrite, V.ids, V.mids, vguard, callOf, vop, ev, cv, vbin, vint, isShift, isNilConst, vnil, isNilSlice, vload, vlen, newRow, vfill, vslice, entOf, vappend, srcOf, vcopy, vlookup, vupdate, mapOk, keyOf, intsOf, clsAt]; try rfl)) (WkV.pure (by simp only [V.into])) ⟨by show vi (IntKind.i64.wrap (IntKind.i64.wrap (r.hi - r.lo) + 1)) = _; rw [i64_in h1.1 h1.2]; exact congrArg vi (i64_in h2.1 h2.2), rfl⟩
def sMin (l : List Int) : Int := match l with
  | [] => 0
  | x :: l => l.foldl min x
theorem sMin_succ {l : List Int} {i : Nat} (h1 : 1 ≤ i) (hi : (i : Int) < l.length) : sMin (l.take (i + 1)) = min (sMin (l.take i)) (gi l i) := by
  have hi' : i < l.length := by omega
  have e : l.take (i + 1) = l.take i ++ [gi l i] := by
    rw [List.take_add_one, List.getElem?_eq_getElem hi', gi, Int.toNat_natCast, List.getD_eq_getElem?_getD, List.getElem?_eq_getElem hi']; rfl
  rw [e]
  cases h : l.take i with
  | nil => 
    have := congrArg List.length h
    rw [List.length_take] at this
    have this : min i l.length = 0 := this
    omega
  | cons x r => simp [sMin]
theorem c_Min (l : List Int) (h0 : 1 ≤ (l.length : Int)) (hl : (l.length : Int) ≤ 1000000) : Pu Tryz.prog (.fn 138 [] []) [vI l] (vi (sMin l)) := by
  refine Ev.fn Tryz.func138 rfl rfl (Fn.body tabOk Tryz.func138 rfl (Nat.le_of_ble_eq_true rfl) (Ks.ok (fz := (fzn [])) (cl := (cln [])) tabOk mixed ?_))
  generalize hQ : FnPost tt Tryz.f138 _ _ = Q
  simp only [Tryz.f138, List.nil_append, List.append_nil, argsEnv]
  have h1 : ¬ ((l.length : Int) < 1) := by omega
  have h2 : (0 : Int) < l.length := by omega
  have h3 := cI_at (l := l) (n := 0) (by omega) h2
  simp only [gos, eq_self, Nat.reduceLT, reduceCtorEq, reduceIte, ↓reduceIte, tt, vgo, vout, vguard, callOf, vop, ev, cv, vbin, vint, isShift, isNilConst, vload, vlen, vI, h1, h2, h3, Int.le_refl]
  refine W.loop tabOk mixed (fun i : Nat => ([(0, vI l), (3, vi (sMin (l.take i))), (4, vi i)], [])) (fun i => l.length - i) (fun i => 1 ≤ i ∧ i ≤ l.length) 1 ⟨by omega, by omega⟩ (Wk.env (by
    have : sMin (l.take 1) = gi l 0 := by
      cases l with
      | nil => simp at h0
      | cons x r => simp [sMin, gi]
    simp [subE, Env.get, vI, this])) ?_
  rintro i ⟨hi1, hi⟩
  by_cases hil : (i : Int) < l.length
  · simp only [gos, eq_self, Nat.reduceLT, Nat.reduceEqDiff, reduceCtorEq, reduceIte, ↓reduceIte, tt, vgo, vout, vguard, callOf, vop, ev, cv, vbin, vint, isShift, isNilConst, vload, vlen, vI, hil, Int.natCast_nonneg, cI_at (Int.natCast_nonneg i) hil]
    exact Nx.mk (i + 1) (show l.length - (i + 1) < l.length - i by omega) ⟨by omega, by omega⟩ (Wk.env (by simp [subE, Env.get, i64_succ (show (i : Int) < 9223372036854775807 by omega), sMin_succ hi1 hil]))
  · simp only [gos, eq_self, Nat.reduceLT, Nat.reduceEqDiff, reduceCtorEq, reduceIte, ↓reduceIte, tt, vgo, vout, vguard, callOf, vop, ev, vbin, vint, isShift, isNilConst, vlen, vI, hil]
    subst hQ
    exact FnPost.plain trivial (fun h2 e => by first | rfl | (simp only [Tryz.f138, vres, vresL, vres1, e _, gos, if_true, if_false, ne_eq, eq_self, Nat.reduceLT, Nat.reduceEqDiff, Nat.reduceAdd, Nat.reduceMul, Nat.reduceLeDiff, Nat.reduceBEq, reduceCtorEq, reduceIte, Array.toList, ↓reduceIte, tt, vgo, vout, vgoD, voutD, vclsOk, vids, mayWrite, V.ids, V.mids, vguard, callOf, vop, ev, cv, vbin, vint, isShift, isNilConst, vnil, isNilSlice, vload, vlen, newRow, vfill, vslice, entOf, vappend, srcOf, vcopy, vlookup, vupdate, mapOk, keyOf, intsOf, clsAt]; try rfl)) (WkV.pure (by simp only [V.into])) ⟨by rw [List.take_of_length_le (by omega)], rfl⟩
theorem c_minimum (l : List Int) (h0 : 1 ≤ (l.length : Int)) (hl : (l.length : Int) ≤ 1000000) : Pu Tryz.prog (.fn 141 [] []) [vI l] (vi (sMin l)) := by
  refine Ev.fn Tryz.func141 rfl rfl (Fn.body tabOk Tryz.func141 rfl (Nat.le_of_ble_eq_true rfl) (Ks.ok (fz := (fzn [])) (cl := (cln [])) tabOk mixed ?_))
  generalize hQ : FnPost tt Tryz.f141 _ _ = Q
  simp only [Tryz.f141, List.nil_append, List.append_nil, argsEnv]
  simp only [gos, eq_self, Nat.reduceLT, reduceCtorEq, reduceIte, ↓reduceIte, vgo, vout, vguard, callOf, vop, ev, cv]
  refine Cl.pu (c_Min l h0 hl) ?_ rfl (by simp only [intoL, vI_into, Bool.and_true])
  simp only [gos, eq_self, Nat.reduceLT, reduceIte, ↓reduceIte, vgo, vout, vguard, callOf, vop, ev]
  subst hQ
  exact FnPost.plain trivial (fun h2 e => by first | rfl | (simp only [Tryz.f141, vres, vresL, vres1, e _, gos, if_true, if_false, ne_eq, eq_self, Nat.reduceLT, Nat.reduceEqDiff, Nat.reduceAdd, Nat.reduceMul, Nat.reduceLeDiff, Nat.reduceBEq, reduceCtorEq, reduceIte, Array.toList, ↓reduceIte, tt, vgo, vout, vgoD, voutD, vclsOk, vids, mayWrite, V.ids, V.mids, vguard, callOf, vop, ev, cv, vbin, vint, isShift, isNilConst, vnil, isNilSlice, vload, vlen, newRow, vfill, vslice, entOf, vappend, srcOf, vcopy, vlookup, vupdate, mapOk, keyOf, intsOf, clsAt]; try rfl)) (WkV.pure (by simp only [V.into])) ⟨rfl, rfl⟩
theorem c_min2 (a b : Int) : Pu Tryz.prog (.fn 141 [] []) [.ro 2 [vi a, vi b]] (vi (min a b)) := c_minimum [a, b] (by simp) (by simp)
def sWider (r : Rg) (n : Int) : Rg := ⟨min r.lo n, max r.hi n⟩
theorem c_wider (r : Rg) (n : Int) : Pu Tryz.prog (.fn 161 [] []) [.agg [vi r.lo, vi r.hi], vi n] (.agg [vi (sWider r n).lo, vi (sWider r n).hi]) := by
  refine Ev.fn Tryz.func161 rfl rfl (Fn.body tabOk Tryz.func161 rfl (Nat.le_of_ble_eq_true rfl) (Ks.ok (fz := (fzn [4])) (cl := (cln [(1, .d tg0 [cP, cP, cP, cP, cP, cP, cP, cP, cP, cP, cW])])) tabOk mixed ?_))
  generalize hQ : FnPost tt Tryz.f161 _ _ = Q
  simp only [Tryz.f161, List.nil_append, List.append_nil, argsEnv, Nat.reduceAdd]
  simp only [gos, eq_self, Nat.reduceLT, Nat.reduceEqDiff, reduceCtorEq, reduceIte, ↓reduceIte, tt, vgo, vout, vguard, callOf, vop, ev, newRow]
  refine Wr.draw (by kernel_rfl) ?_
  simp only [gos, eq_self, Nat.reduceLT, Nat.reduceEqDiff, Nat.reduceAdd, Nat.reduceMul, Nat.reduceLeDiff, reduceCtorEq, reduceIte, ↓reduceIte, tt, vgoD, voutD, vclsOk, vids, mayWrite, V.ids, vguard, callOf, vop, ev, vload, vfill, clsAt]
  refine CD.pu (c_min2 _ _) ?_
  simp only [gos, eq_self, Nat.reduceLT, Nat.reduceEqDiff, Nat.reduceAdd, Nat.reduceLeDiff, reduceCtorEq, reduceIte, ↓reduceIte, tt, vgoD, voutD, vclsOk, vids, mayWrite, V.ids, vguard, callOf, vop, ev, vload, vfill]
  subst hQ
  exact FnPost.plain trivial (fun h2 e => by first | rfl | (simp only [Tryz.f161, vres, vresL, vres1, e _, gos, eq_self, Nat.reduceLT, Nat.reduceEqDiff, Nat.reduceAdd, reduceCtorEq, reduceIte, ↓reduceIte, tt, vload]; try rfl)) (WkV.pure (by simp only [V.into, intoL, Bool.and_true])) ⟨rfl, rfl⟩
theorem c_hour (c : Cu) (n : Int) : Pu Tryz.prog (.fn 122 [] []) [.agg c.cs, vi n] (.bool (sIn n 0 c.last)) := by
  refine Ev.fn Tryz.func122 rfl rfl (Fn.body tabOk Tryz.func122 rfl (Nat.le_of_ble_eq_true rfl) (Ks.ok (fz := (fzn [])) (cl := (cln [])) tabOk mixed ?_))
  generalize hQ : FnPost tt Tryz.f122 _ _ = Q
  simp only [Tryz.f122, List.nil_append, List.append_nil, argsEnv, Nat.reduceAdd]
  simp only [gos, eq_self, Nat.reduceLT, Nat.reduceEqDiff, reduceCtorEq, reduceIte, ↓reduceIte, tt, vgo, vout, vguard, callOf, vop, ev, cv, vload, newRow]
  refine Cl.pu (c_within _ _ _) ?_
  simp only [gos, eq_self, Nat.reduceLT, reduceIte, ↓reduceIte, vgo, vout, vguard, callOf, vop, ev]
  subst hQ
  exact FnPost.plain trivial (fun h2 e => by first | rfl | (simp only [Tryz.f122, vres, vresL, vres1, e _, gos, if_true, if_false, ne_eq, eq_self, Nat.reduceLT, Nat.reduceEqDiff, Nat.reduceAdd, Nat.reduceMul, Nat.reduceLeDiff, Nat.reduceBEq, reduceCtorEq, reduceIte, Array.toList, ↓reduceIte, tt, vgo, vout, vgoD, voutD, vclsOk, vids, mayWrite, V.ids, V.mids, vguard, callOf, vop, ev, cv, vbin, vint, isShift, isNilConst, vnil, isNilSlice, vload, vlen, newRow, vfill, vslice, entOf, vappend, srcOf, vcopy, vlookup, vupdate, mapOk, keyOf, intsOf, clsAt]; try rfl)) (WkV.pure (by simp only [V.into])) ⟨rfl, rfl⟩
theorem c_lost (r : Rg) : Pu Tryz.prog (.fn 155 [] []) [.agg [vi r.lo, vi r.hi]] (.bool (sInside r 99)) := by
  refine Ev.fn Tryz.func155 rfl rfl (Fn.body tabOk Tryz.func155 rfl (Nat.le_of_ble_eq_true rfl) (Ks.ok (fz := (fzn [])) (cl := (cln [])) tabOk mixed ?_))
  generalize hQ : FnPost tt Tryz.f155 _ _ = Q
  simp only [Tryz.f155, List.nil_append, List.append_nil, argsEnv]
  simp only [gos, eq_self, Nat.reduceLT, Nat.reduceEqDiff, Nat.reduceAdd, reduceCtorEq, reduceIte, ↓reduceIte, tt, vgo, vout, vguard, callOf, vop, ev, cv, vload, newRow]
  refine Cl.pu (c_inside _ _) ?_
  simp only [gos, eq_self, Nat.reduceLT, reduceIte, ↓reduceIte, vgo, vout, vguard, callOf, vop, ev]
  subst hQ
  exact FnPost.plain trivial (fun h2 e => by first | rfl | (simp only [Tryz.f155, vres, vresL, vres1, e _, gos, if_true, if_false, ne_eq, eq_self, Nat.reduceLT, Nat.reduceEqDiff, Nat.reduceAdd, Nat.reduceMul, Nat.reduceLeDiff, Nat.reduceBEq, reduceCtorEq, reduceIte, Array.toList, ↓reduceIte, tt, vgo, vout, vgoD, voutD, vclsOk, vids, mayWrite, V.ids, V.mids, vguard, callOf, vop, ev, cv, vbin, vint, isShift, isNilConst, vnil, isNilSlice, vload, vlen, newRow, vfill, vslice, entOf, vappend, srcOf, vcopy, vlookup, vupdate, mapOk, keyOf, intsOf, clsAt]; try rfl)) (WkV.pure (by simp only [V.into])) ⟨rfl, rfl⟩
theorem c_buckets (n : Int) : Pu Tryz.prog (.fn 147 [] []) [vi n] (.bool (sIn n 0 20)) := by
  refine Ev.fn Tryz.func147 rfl rfl (Fn.body tabOk Tryz.func147 rfl (Nat.le_of_ble_eq_true rfl) (Ks.ok (fz := (fzn [])) (cl := (cln [])) tabOk mixed ?_))
  generalize hQ : FnPost tt Tryz.f147 _ _ = Q
  simp only [Tryz.f147, List.nil_append, List.append_nil, argsEnv]
  simp only [gos, eq_self, Nat.reduceLT, reduceCtorEq, reduceIte, ↓reduceIte, vgo, vout, vguard, callOf, vop, ev, cv]
  refine Cl.pu (c_within _ _ _) ?_
  simp only [gos, eq_self, Nat.reduceLT, reduceIte, ↓reduceIte, vgo, vout, vguard, callOf, vop, ev]
  subst hQ
  exact FnPost.plain trivial (fun h2 e => by first | rfl | (simp only [Tryz.f147, vres, vresL, vres1, e _, gos, if_true, if_false, ne_eq, eq_self, Nat.reduceLT, Nat.reduceEqDiff, Nat.reduceAdd, Nat.reduceMul, Nat.reduceLeDiff, Nat.reduceBEq, reduceCtorEq, reduceIte, Array.toList, ↓reduceIte, tt, vgo, vout, vgoD, voutD, vclsOk, vids, mayWrite, V.ids, V.mids, vguard, callOf, vop, ev, cv, vbin, vint, isShift, isNilConst, vnil, isNilSlice, vload, vlen, newRow, vfill, vslice, entOf, vappend, srcOf, vcopy, vlookup, vupdate, mapOk, keyOf, intsOf, clsAt]; try rfl)) (WkV.pure (by simp only [V.into])) ⟨rfl, rfl⟩
def sReading (c : Cu) (r : Rd) : Bool := sIn r.hour 0 c.last && sInside r.b 999
theorem c_reading1 (c : Cu) (r : Rd) : Pu Tryz.prog (.fn 150 [.agg c.cs] []) [.agg [vi r.hour, vi r.b.lo, vi r.b.hi]] (.bool (sReading c r)) := by
  refine Ev.fn Tryz.func150 rfl rfl (Fn.body tabOk Tryz.func150 rfl (Nat.le_of_ble_eq_true rfl) (Ks.ok (fz := (fzn [])) (cl := (cln [])) tabOk mixed ?_))
  generalize hQ : FnPost tt Tryz.f150 _ _ = Q
  simp only [Tryz.f150, List.nil_append, List.append_nil, List.cons_append, argsEnv, Nat.reduceAdd]
  simp only [gos, eq_self, Nat.reduceLT, Nat.reduceEqDiff, reduceCtorEq, reduceIte, ↓reduceIte, tt, vgo, vout, vguard, callOf, vop, ev, cv, vload, newRow]
  refine Cl.pu (c_hour c _) ?_ rfl (by simp only [V.into, intoL, cu_into, Bool.and_true])
  cases h : sIn r.hour 0 c.last
  · simp only [gos, eq_self, Nat.reduceLT, Nat.reduceEqDiff, reduceIte, ↓reduceIte, vgo, vout, vguard, callOf, vop, ev, cv]
    subst hQ
    exact FnPost.plain trivial (fun h2 e => by first | rfl | (simp only [Tryz.f150, vres, vresL, vres1, e _, gos, if_true, if_false, ne_eq, eq_self, Nat.reduceLT, Nat.reduceEqDiff, Nat.reduceAdd, Nat.reduceMul, Nat.reduceLeDiff, Nat.reduceBEq, reduceCtorEq, reduceIte, Array.toList, ↓reduceIte, tt, vgo, vout, vgoD, voutD, vclsOk, vids, mayWrite, V.ids, V.mids, vguard, callOf, vop, ev, cv, vbin, vint, isShift, isNilConst, vnil, isNilSlice, vload, vlen, newRow, vfill, vslice, entOf, vappend, srcOf, vcopy, vlookup, vupdate, mapOk, keyOf, intsOf, clsAt]; try rfl)) (WkV.pure (by simp only [V.into])) ⟨by simp [sReading, h], rfl⟩
  · simp only [gos, eq_self, Nat.reduceLT, Nat.reduceEqDiff, Nat.reduceAdd, reduceCtorEq, reduceIte, ↓reduceIte, tt, vgo, vout, vguard, callOf, vop, ev, cv, vload]
    refine Cl.pu (c_inside _ _) ?_
    simp only [gos, eq_self, Nat.reduceLT, Nat.reduceEqDiff, reduceIte, ↓reduceIte, vgo, vout, vguard, callOf, vop, ev]
    subst hQ
    exact FnPost.plain trivial (fun h2 e => by first | rfl | (simp only [Tryz.f150, vres, vresL, vres1, e _, gos, if_true, if_false, ne_eq, eq_self, Nat.reduceLT, Nat.reduceEqDiff, Nat.reduceAdd, Nat.reduceMul, Nat.reduceLeDiff, Nat.reduceBEq, reduceCtorEq, reduceIte, Array.toList, ↓reduceIte, tt, vgo, vout, vgoD, voutD, vclsOk, vids, mayWrite, V.ids, V.mids, vguard, callOf, vop, ev, cv, vbin, vint, isShift, isNilConst, vnil, isNilSlice, vload, vlen, newRow, vfill, vslice, entOf, vappend, srcOf, vcopy, vlookup, vupdate, mapOk, keyOf, intsOf, clsAt]; try rfl)) (WkV.pure (by simp only [V.into])) ⟨by simp [sReading, h], rfl⟩
end Go.Vm

set_option linter.unusedVariables false
set_option linter.unusedSimpArgs false
set_option maxRecDepth 100000
namespace Go.Vm
open Go.Proofs
theorem c_Index (l : List Int) (x : Int) (hl : (l.length : Int) ≤ 1000000) : Pu Tryz.prog (.fn 163 [] []) [vI l, vi x] (vi (sIdx (fun y => decide (x = y)) l)) := by
  refine Ev.fn Tryz.func163 rfl rfl (Fn.body tabOk Tryz.func163 rfl (Nat.le_of_ble_eq_true rfl) (Ks.ok (fz := (fzn [])) (cl := (cln [])) tabOk mixed ?_))
  generalize hQ : FnPost tt Tryz.f163 _ _ = Q
  simp only [Tryz.f163, List.nil_append, List.append_nil, argsEnv, Nat.reduceAdd]
  simp only [gos, eq_self, Nat.reduceLT, reduceCtorEq, reduceIte, ↓reduceIte, tt, vgo, vout, vguard, callOf, vop, ev, cv, vlen, vI]
  refine W.loop tabOk mixed (fun i : Nat => ([(0, vI l), (1, vi x), (7, vi l.length), (8, vi i)], [])) (fun i => l.length - i) (fun i => i ≤ l.length ∧ ∀ (j : Nat) y, j < i → l[j]? = some y → decide (x = y) = false) 0 ⟨by omega, by omega⟩ (Wk.env (by simp [subE, Env.get, vI])) ?_
  rintro i ⟨hi, hj⟩
  by_cases hil : (i : Int) < l.length
  · cases hf : decide (x = gi l i)
    · simp only [gos, eq_self, Nat.reduceLT, Nat.reduceEqDiff, reduceCtorEq, reduceIte, ↓reduceIte, tt, vgo, vout, vguard, callOf, vop, ev, cv, vbin, vint, isShift, isNilConst, vload, vI, hil, cI_at (Int.natCast_nonneg i) hil, hf]
      refine Nx.mk (i + 1) (show l.length - (i + 1) < l.length - i by omega) ⟨by omega, fun j y hlt hy => ?_⟩ (Wk.env (by simp [subE, Env.get, i64_succ (show (i : Int) < 9223372036854775807 by omega)]))
      rcases Nat.lt_or_eq_of_le (Nat.le_of_lt_succ hlt) with h | rfl
      · exact hj j y h hy
      · rw [gi_get hil] at hy; injection hy with hy; rw [← hy]; exact hf
    · simp only [gos, eq_self, Nat.reduceLT, Nat.reduceEqDiff, reduceCtorEq, reduceIte, ↓reduceIte, tt, vgo, vout, vguard, callOf, vop, ev, vbin, vint, isShift, isNilConst, vload, vI, hil, cI_at (Int.natCast_nonneg i) hil, hf]
      subst hQ
      exact FnPost.plain trivial (fun h2 e => by first | rfl | (simp only [Tryz.f163, vres, vresL, vres1, e _, gos, if_true, if_false, ne_eq, eq_self, Nat.reduceLT, Nat.reduceEqDiff, Nat.reduceAdd, Nat.reduceMul, Nat.reduceLeDiff, Nat.reduceBEq, reduceCtorEq, reduceIte, Array.toList, ↓reduceIte, tt, vgo, vout, vgoD, voutD, vclsOk, vids, mayWrite, V.ids, V.mids, vguard, callOf, vop, ev, cv, vbin, vint, isShift, isNilConst, vnil, isNilSlice, vload, vlen, newRow, vfill, vslice, entOf, vappend, srcOf, vcopy, vlookup, vupdate, mapOk, keyOf, intsOf, clsAt]; try rfl)) (WkV.pure (by simp only [V.into])) ⟨by rw [sIdx_some (f := fun y => decide (x = y)) (gi_get hil) hf hj], rfl⟩
  · simp only [gos, eq_self, Nat.reduceLT, Nat.reduceEqDiff, reduceCtorEq, reduceIte, ↓reduceIte, vgo, vout, vguard, callOf, vop, ev, cv, vbin, vint, isShift, isNilConst, vI, hil]
    subst hQ
    exact FnPost.plain trivial (fun h2 e => by first | rfl | (simp only [Tryz.f163, vres, vresL, vres1, e _, gos, if_true, if_false, ne_eq, eq_self, Nat.reduceLT, Nat.reduceEqDiff, Nat.reduceAdd, Nat.reduceMul, Nat.reduceLeDiff, Nat.reduceBEq, reduceCtorEq, reduceIte, Array.toList, ↓reduceIte, tt, vgo, vout, vgoD, voutD, vclsOk, vids, mayWrite, V.ids, V.mids, vguard, callOf, vop, ev, cv, vbin, vint, isShift, isNilConst, vnil, isNilSlice, vload, vlen, newRow, vfill, vslice, entOf, vappend, srcOf, vcopy, vlookup, vupdate, mapOk, keyOf, intsOf, clsAt]; try rfl)) (WkV.pure (by simp only [V.into])) ⟨by rw [sIdx_none (f := fun y => decide (x = y)) fun j y hy => hj j y (by have := (List.getElem?_eq_some_iff.1 hy).1; omega) hy], rfl⟩
theorem c_Contains (l : List Int) (x : Int) (hl : (l.length : Int) ≤ 1000000) : Pu Tryz.prog (.fn 134 [] []) [vI l, vi x] (.bool (l.any fun y => decide (x = y))) := by
  refine Ev.fn Tryz.func134 rfl rfl (Fn.body tabOk Tryz.func134 rfl (Nat.le_of_ble_eq_true rfl) (Ks.ok (fz := (fzn [])) (cl := (cln [])) tabOk mixed ?_))
  generalize hQ : FnPost tt Tryz.f134 _ _ = Q
  simp only [Tryz.f134, List.nil_append, List.append_nil, argsEnv, Nat.reduceAdd]
  simp only [gos, eq_self, Nat.reduceLT, Nat.reduceEqDiff, reduceCtorEq, reduceIte, ↓reduceIte, vgo, vout, vguard, callOf, vop, ev, cv]
  refine Cl.pu (c_Index l x hl) ?_ rfl (by simp only [V.into, intoL, vI_into, Bool.and_true])
  simp only [gos, eq_self, Nat.reduceLT, reduceIte, ↓reduceIte, vgo, vout, vguard, callOf, vop, ev, cv, vbin, vint, isShift, isNilConst]
  subst hQ
  exact FnPost.plain trivial (fun h2 e => by first | rfl | (simp only [Tryz.f134, vres, vresL, vres1, e _, gos, if_true, if_false, ne_eq, eq_self, Nat.reduceLT, Nat.reduceEqDiff, Nat.reduceAdd, Nat.reduceMul, Nat.reduceLeDiff, Nat.reduceBEq, reduceCtorEq, reduceIte, Array.toList, ↓reduceIte, tt, vgo, vout, vgoD, voutD, vclsOk, vids, mayWrite, V.ids, V.mids, vguard, callOf, vop, ev, cv, vbin, vint, isShift, isNilConst, vnil, isNilSlice, vload, vlen, newRow, vfill, vslice, entOf, vappend, srcOf, vcopy, vlookup, vupdate, mapOk, keyOf, intsOf, clsAt]; try rfl)) (WkV.pure (by simp only [V.into])) ⟨by rw [← sIdx_any], rfl⟩
theorem c_IndexFunc_int (pv : V) (f : Int → Bool) (l : List Int) (hl : (l.length : Int) ≤ 1000000) (hp : pv.into (fun _ => false) = true) (hf : ∀ x ∈ l, Pu Tryz.prog pv [vi x] (.bool (f x))) :
    Pu Tryz.prog (.fn 120 [] []) [vI l, pv] (vi (sIdx f l)) := by
  refine Ev.fn Tryz.func120 rfl rfl (Fn.body tabOk Tryz.func120 rfl (Nat.le_of_ble_eq_true rfl) (Ks.ok (fz := (fzn [])) (cl := (cln [])) tabOk mixed ?_))
  generalize hQ : FnPost tt Tryz.f120 _ _ = Q
  simp only [Tryz.f120, List.nil_append, List.append_nil, argsEnv, Nat.reduceAdd]
  simp only [gos, eq_self, Nat.reduceLT, reduceCtorEq, reduceIte, ↓reduceIte, tt, vgo, vout, vguard, callOf, vop, ev, cv, vlen, vI]
  refine W.loop tabOk mixed (fun i : Nat => ([(0, vI l), (1, pv), (7, vi l.length), (8, vi i)], [])) (fun i => l.length - i) (fun i => i ≤ l.length ∧ ∀ (j : Nat) y, j < i → l[j]? = some y → f y = false) 0 ⟨by omega, by omega⟩ (Wk.env (by simp [subE, Env.get, vI])) ?_
  rintro i ⟨hi, hj⟩
  by_cases hil : (i : Int) < l.length
  · simp only [gos, eq_self, Nat.reduceLT, Nat.reduceEqDiff, reduceCtorEq, reduceIte, ↓reduceIte, tt, vgo, vout, vguard, callOf, vop, ev, vbin, vint, isShift, isNilConst, vload, vI, hil, cI_at (Int.natCast_nonneg i) hil]
    refine Cl.pu (hf (gi l i) (List.mem_of_getElem? (gi_get hil))) ?_ hp (by simp only [V.into, intoL, Bool.and_true])
    cases hfx : f (gi l i)
    · simp only [gos, eq_self, Nat.reduceLT, Nat.reduceEqDiff, reduceCtorEq, reduceIte, ↓reduceIte, vgo, vout, vguard, callOf, vop, ev, cv, vbin, vint, isShift, isNilConst]
      refine Nx.mk (i + 1) (show l.length - (i + 1) < l.length - i by omega) ⟨by omega, fun j y hlt hy => ?_⟩ (Wk.env (by simp [subE, Env.get, i64_succ (show (i : Int) < 9223372036854775807 by omega)]))
      rcases Nat.lt_or_eq_of_le (Nat.le_of_lt_succ hlt) with h | rfl
      · exact hj j y h hy
      · rw [gi_get hil] at hy; injection hy with hy; rw [← hy]; exact hfx
    · simp only [gos, eq_self, Nat.reduceLT, Nat.reduceEqDiff, reduceIte, ↓reduceIte, vgo, vout, vguard, callOf, vop, ev]
      subst hQ
      exact FnPost.plain trivial (fun h2 e => by first | rfl | (simp only [Tryz.f120, vres, vresL, vres1, e _, gos, if_true, if_false, ne_eq, eq_self, Nat.reduceLT, Nat.reduceEqDiff, Nat.reduceAdd, Nat.reduceMul, Nat.reduceLeDiff, Nat.reduceBEq, reduceCtorEq, reduceIte, Array.toList, ↓reduceIte, tt, vgo, vout, vgoD, voutD, vclsOk, vids, mayWrite, V.ids, V.mids, vguard, callOf, vop, ev, cv, vbin, vint, isShift, isNilConst, vnil, isNilSlice, vload, vlen, newRow, vfill, vslice, entOf, vappend, srcOf, vcopy, vlookup, vupdate, mapOk, keyOf, intsOf, clsAt]; try rfl)) (WkV.pure (by simp only [V.into])) ⟨by rw [sIdx_some (gi_get hil) hfx hj], rfl⟩
  · simp only [gos, eq_self, Nat.reduceLT, Nat.reduceEqDiff, reduceCtorEq, reduceIte, ↓reduceIte, vgo, vout, vguard, callOf, vop, ev, cv, vbin, vint, isShift, isNilConst, vI, hil]
    subst hQ
    exact FnPost.plain trivial (fun h2 e => by first | rfl | (simp only [Tryz.f120, vres, vresL, vres1, e _, gos, if_true, if_false, ne_eq, eq_self, Nat.reduceLT, Nat.reduceEqDiff, Nat.reduceAdd, Nat.reduceMul, Nat.reduceLeDiff, Nat.reduceBEq, reduceCtorEq, reduceIte, Array.toList, ↓reduceIte, tt, vgo, vout, vgoD, voutD, vclsOk, vids, mayWrite, V.ids, V.mids, vguard, callOf, vop, ev, cv, vbin, vint, isShift, isNilConst, vnil, isNilSlice, vload, vlen, newRow, vfill, vslice, entOf, vappend, srcOf, vcopy, vlookup, vupdate, mapOk, keyOf, intsOf, clsAt]; try rfl)) (WkV.pure (by simp only [V.into])) ⟨by rw [sIdx_none fun j y hy => hj j y (by have := (List.getElem?_eq_some_iff.1 hy).1; omega) hy], rfl⟩
theorem c_ContainsFunc_int (pv : V) (f : Int → Bool) (l : List Int) (hl : (l.length : Int) ≤ 1000000) (hp : pv.into (fun _ => false) = true) (hf : ∀ x ∈ l, Pu Tryz.prog pv [vi x] (.bool (f x))) :
    Pu Tryz.prog (.fn 171 [] []) [vI l, pv] (.bool (l.any f)) := by
  refine Ev.fn Tryz.func171 rfl rfl (Fn.body tabOk Tryz.func171 rfl (Nat.le_of_ble_eq_true rfl) (Ks.ok (fz := (fzn [])) (cl := (cln [])) tabOk mixed ?_))
  generalize hQ : FnPost tt Tryz.f171 _ _ = Q
  simp only [Tryz.f171, List.nil_append, List.append_nil, argsEnv, Nat.reduceAdd]
  simp only [gos, eq_self, Nat.reduceLT, Nat.reduceEqDiff, reduceCtorEq, reduceIte, ↓reduceIte, vgo, vout, vguard, callOf, vop, ev, cv]
  refine Cl.pu (c_IndexFunc_int pv f l hl hp hf) ?_ rfl (by simp only [intoL, vI_into, Bool.and_true, hp])
  simp only [gos, eq_self, Nat.reduceLT, reduceIte, ↓reduceIte, vgo, vout, vguard, callOf, vop, ev, cv, vbin, vint, isShift, isNilConst]
  subst hQ
  exact FnPost.plain trivial (fun h2 e => by first | rfl | (simp only [Tryz.f171, vres, vresL, vres1, e _, gos, if_true, if_false, ne_eq, eq_self, Nat.reduceLT, Nat.reduceEqDiff, Nat.reduceAdd, Nat.reduceMul, Nat.reduceLeDiff, Nat.reduceBEq, reduceCtorEq, reduceIte, Array.toList, ↓reduceIte, tt, vgo, vout, vgoD, voutD, vclsOk, vids, mayWrite, V.ids, V.mids, vguard, callOf, vop, ev, cv, vbin, vint, isShift, isNilConst, vnil, isNilSlice, vload, vlen, newRow, vfill, vslice, entOf, vappend, srcOf, vcopy, vlookup, vupdate, mapOk, keyOf, intsOf, clsAt]; try rfl)) (WkV.pure (by simp only [V.into])) ⟨by rw [← sIdx_any], rfl⟩
theorem c_all1_int (pv : V) (f : Int → Bool) (x : Int) (hp : pv.into (fun _ => false) = true) (hf : Pu Tryz.prog pv [vi x] (.bool (f x))) :
    Pu Tryz.prog (.fn 172 [] [.rop [pv]]) [vi x] (.bool (!f x)) := by
  refine Ev.fn Tryz.func172 rfl rfl (Fn.body tabOk Tryz.func172 rfl (Nat.le_of_ble_eq_true rfl) (Ks.ok (fz := (fzn [])) (cl := (cln [])) tabOk mixed ?_))
  generalize hQ : FnPost tt Tryz.f172 _ _ = Q
  simp only [Tryz.f172, List.nil_append, List.cons_append, argsEnv, Nat.reduceAdd]
  simp only [gos, eq_self, Nat.reduceLT, Nat.reduceEqDiff, reduceCtorEq, reduceIte, ↓reduceIte, tt, vgo, vout, vguard, callOf, vop, ev, cv, vload]
  refine Cl.pu hf ?_ hp (by simp only [V.into, intoL, Bool.and_true])
  simp only [gos, eq_self, Nat.reduceLT, reduceIte, ↓reduceIte, vgo, vout, vguard, callOf, vop, ev]
  subst hQ
  exact FnPost.plain trivial (fun h2 e => by first | rfl | (simp only [Tryz.f172, vres, vresL, vres1, e _, gos, if_true, if_false, ne_eq, eq_self, Nat.reduceLT, Nat.reduceEqDiff, Nat.reduceAdd, Nat.reduceMul, Nat.reduceLeDiff, Nat.reduceBEq, reduceCtorEq, reduceIte, Array.toList, ↓reduceIte, tt, vgo, vout, vgoD, voutD, vclsOk, vids, mayWrite, V.ids, V.mids, vguard, callOf, vop, ev, cv, vbin, vint, isShift, isNilConst, vnil, isNilSlice, vload, vlen, newRow, vfill, vslice, entOf, vappend, srcOf, vcopy, vlookup, vupdate, mapOk, keyOf, intsOf, clsAt]; try rfl)) (WkV.pure (by simp only [V.into])) ⟨rfl, rfl⟩
theorem c_all_int (pf : FuncId) (pa pc : List V) (f : Int → Bool) (l : List Int) (hl : (l.length : Int) ≤ 1000000) (ha : intoL (fun _ => false) pa = true) (hp : intoL (fun _ => false) pc = true) (hf : ∀ x ∈ l, Pu Tryz.prog (.fn pf pa pc) [vi x] (.bool (f x))) :
    Pu Tryz.prog (.fn 146 [] []) [vI l, .fn pf pa pc] (.bool (l.all f)) := by
  refine Ev.fn Tryz.func146 rfl rfl (Fn.body tabOk Tryz.func146 rfl (Nat.le_of_ble_eq_true rfl) (Ks.ok (fz := (fzn [])) (cl := (cln [])) tabOk mixed ?_))
  generalize hQ : FnPost tt Tryz.f146 _ _ = Q
  simp only [Tryz.f146, List.nil_append, List.append_nil, argsEnv, Nat.reduceAdd]
  simp only [gos, eq_self, Nat.reduceLT, Nat.reduceEqDiff, reduceCtorEq, reduceIte, ↓reduceIte, vgo, vout, vguard, callOf, vop, ev, cv, newRow]
  refine Cl.pu (c_ContainsFunc_int (.fn 172 [] [.rop [.fn pf pa pc]]) (fun x => !f x) l hl (by simp only [V.into, intoL, Bool.and_true, hp, ha]) fun x hx => c_all1_int (.fn pf pa pc) f x (by simp only [V.into, Bool.and_true, hp, ha]) (hf x hx)) ?_ rfl (by simp only [V.into, intoL, vI_into, Bool.and_true, hp, ha])
  simp only [gos, eq_self, Nat.reduceLT, reduceIte, ↓reduceIte, vgo, vout, vguard, callOf, vop, ev]
  subst hQ
  exact FnPost.plain trivial (fun h2 e => by first | rfl | (simp only [Tryz.f146, vres, vresL, vres1, e _, gos, if_true, if_false, ne_eq, eq_self, Nat.reduceLT, Nat.reduceEqDiff, Nat.reduceAdd, Nat.reduceMul, Nat.reduceLeDiff, Nat.reduceBEq, reduceCtorEq, reduceIte, Array.toList, ↓reduceIte, tt, vgo, vout, vgoD, voutD, vclsOk, vids, mayWrite, V.ids, V.mids, vguard, callOf, vop, ev, cv, vbin, vint, isShift, isNilConst, vnil, isNilSlice, vload, vlen, newRow, vfill, vslice, entOf, vappend, srcOf, vcopy, vlookup, vupdate, mapOk, keyOf, intsOf, clsAt]; try rfl)) (WkV.pure (by simp only [V.into])) ⟨by rw [List.all_eq_not_any_not], rfl⟩
theorem c_IndexFunc_Rg (pv : V) (f : Rg → Bool) (l : List Rg) (hl : (l.length : Int) ≤ 1000000) (hp : pv.into (fun _ => false) = true) (hf : ∀ x ∈ l, Pu Tryz.prog pv [.agg [vi x.lo, vi x.hi]] (.bool (f x))) :
    Pu Tryz.prog (.fn 182 [] []) [vR l, pv] (vi (sIdx f l)) := by
  refine Ev.fn Tryz.func182 rfl rfl (Fn.body tabOk Tryz.func182 rfl (Nat.le_of_ble_eq_true rfl) (Ks.ok (fz := (fzn [])) (cl := (cln [])) tabOk mixed ?_))
  generalize hQ : FnPost tt Tryz.f182 _ _ = Q
  simp only [Tryz.f182, List.nil_append, List.append_nil, argsEnv, Nat.reduceAdd]
  simp only [gos, eq_self, Nat.reduceLT, reduceCtorEq, reduceIte, ↓reduceIte, tt, vgo, vout, vguard, callOf, vop, ev, cv, vlen, vR]
  refine W.loop tabOk mixed (fun i : Nat => ([(0, vR l), (1, pv), (7, vi l.length), (8, vi i)], [])) (fun i => l.length - i) (fun i => i ≤ l.length ∧ ∀ (j : Nat) y, j < i → l[j]? = some y → f y = false) 0 ⟨by omega, by omega⟩ (Wk.env (by simp [subE, Env.get, vR])) ?_
  rintro i ⟨hi, hj⟩
  by_cases hil : (i : Int) < l.length
  · simp only [gos, eq_self, Nat.reduceLT, Nat.reduceEqDiff, reduceCtorEq, reduceIte, ↓reduceIte, tt, vgo, vout, vguard, callOf, vop, ev, vbin, vint, isShift, isNilConst, vload, vR, hil, cR_at (Int.natCast_nonneg i) hil]
    refine Cl.pu (hf (gR l i) (List.mem_of_getElem? (gR_get hil))) ?_ hp (by simp only [V.into, intoL, Bool.and_true])
    cases hfx : f (gR l i)
    · simp only [gos, eq_self, Nat.reduceLT, Nat.reduceEqDiff, reduceCtorEq, reduceIte, ↓reduceIte, vgo, vout, vguard, callOf, vop, ev, cv, vbin, vint, isShift, isNilConst]
      refine Nx.mk (i + 1) (show l.length - (i + 1) < l.length - i by omega) ⟨by omega, fun j y hlt hy => ?_⟩ (Wk.env (by simp [subE, Env.get, i64_succ (show (i : Int) < 9223372036854775807 by omega)]))
      rcases Nat.lt_or_eq_of_le (Nat.le_of_lt_succ hlt) with h | rfl
      · exact hj j y h hy
      · rw [gR_get hil] at hy; injection hy with hy; rw [← hy]; exact hfx
    · simp only [gos, eq_self, Nat.reduceLT, Nat.reduceEqDiff, reduceIte, ↓reduceIte, vgo, vout, vguard, callOf, vop, ev]
      subst hQ
      exact FnPost.plain trivial (fun h2 e => by first | rfl | (simp only [Tryz.f182, vres, vresL, vres1, e _, gos, if_true, if_false, ne_eq, eq_self, Nat.reduceLT, Nat.reduceEqDiff, Nat.reduceAdd, Nat.reduceMul, Nat.reduceLeDiff, Nat.reduceBEq, reduceCtorEq, reduceIte, Array.toList, ↓reduceIte, tt, vgo, vout, vgoD, voutD, vclsOk, vids, mayWrite, V.ids, V.mids, vguard, callOf, vop, ev, cv, vbin, vint, isShift, isNilConst, vnil, isNilSlice, vload, vlen, newRow, vfill, vslice, entOf, vappend, srcOf, vcopy, vlookup, vupdate, mapOk, keyOf, intsOf, clsAt]; try rfl)) (WkV.pure (by simp only [V.into])) ⟨by rw [sIdx_some (gR_get hil) hfx hj], rfl⟩
  · simp only [gos, eq_self, Nat.reduceLT, Nat.reduceEqDiff, reduceCtorEq, reduceIte, ↓reduceIte, vgo, vout, vguard, callOf, vop, ev, cv, vbin, vint, isShift, isNilConst, vR, hil]
    subst hQ
    exact FnPost.plain trivial (fun h2 e => by first | rfl | (simp only [Tryz.f182, vres, vresL, vres1, e _, gos, if_true, if_false, ne_eq, eq_self, Nat.reduceLT, Nat.reduceEqDiff, Nat.reduceAdd, Nat.reduceMul, Nat.reduceLeDiff, Nat.reduceBEq, reduceCtorEq, reduceIte, Array.toList, ↓reduceIte, tt, vgo, vout, vgoD, voutD, vclsOk, vids, mayWrite, V.ids, V.mids, vguard, callOf, vop, ev, cv, vbin, vint, isShift, isNilConst, vnil, isNilSlice, vload, vlen, newRow, vfill, vslice, entOf, vappend, srcOf, vcopy, vlookup, vupdate, mapOk, keyOf, intsOf, clsAt]; try rfl)) (WkV.pure (by simp only [V.into])) ⟨by rw [sIdx_none fun j y hy => hj j y (by have := (List.getElem?_eq_some_iff.1 hy).1; omega) hy], rfl⟩
theorem c_ContainsFunc_Rg (pv : V) (f : Rg → Bool) (l : List Rg) (hl : (l.length : Int) ≤ 1000000) (hp : pv.into (fun _ => false) = true) (hf : ∀ x ∈ l, Pu Tryz.prog pv [.agg [vi x.lo, vi x.hi]] (.bool (f x))) :
    Pu Tryz.prog (.fn 174 [] []) [vR l, pv] (.bool (l.any f)) := by
  refine Ev.fn Tryz.func174 rfl rfl (Fn.body tabOk Tryz.func174 rfl (Nat.le_of_ble_eq_true rfl) (Ks.ok (fz := (fzn [])) (cl := (cln [])) tabOk mixed ?_))
  generalize hQ : FnPost tt Tryz.f174 _ _ = Q
  simp only [Tryz.f174, List.nil_append, List.append_nil, argsEnv, Nat.reduceAdd]
  simp only [gos, eq_self, Nat.reduceLT, Nat.reduceEqDiff, reduceCtorEq, reduceIte, ↓reduceIte, vgo, vout, vguard, callOf, vop, ev, cv]
  refine Cl.pu (c_IndexFunc_Rg pv f l hl hp hf) ?_ rfl (by simp only [intoL, vR_into, Bool.and_true, hp])
  simp only [gos, eq_self, Nat.reduceLT, reduceIte, ↓reduceIte, vgo, vout, vguard, callOf, vop, ev, cv, vbin, vint, isShift, isNilConst]
  subst hQ
  exact FnPost.plain trivial (fun h2 e => by first | rfl | (simp only [Tryz.f174, vres, vresL, vres1, e _, gos, if_true, if_false, ne_eq, eq_self, Nat.reduceLT, Nat.reduceEqDiff, Nat.reduceAdd, Nat.reduceMul, Nat.reduceLeDiff, Nat.reduceBEq, reduceCtorEq, reduceIte, Array.toList, ↓reduceIte, tt, vgo, vout, vgoD, voutD, vclsOk, vids, mayWrite, V.ids, V.mids, vguard, callOf, vop, ev, cv, vbin, vint, isShift, isNilConst, vnil, isNilSlice, vload, vlen, newRow, vfill, vslice, entOf, vappend, srcOf, vcopy, vlookup, vupdate, mapOk, keyOf, intsOf, clsAt]; try rfl)) (WkV.pure (by simp only [V.into])) ⟨by rw [← sIdx_any], rfl⟩
theorem c_all1_Rg (pv : V) (f : Rg → Bool) (x : Rg) (hp : pv.into (fun _ => false) = true) (hf : Pu Tryz.prog pv [.agg [vi x.lo, vi x.hi]] (.bool (f x))) :
    Pu Tryz.prog (.fn 175 [] [.rop [pv]]) [.agg [vi x.lo, vi x.hi]] (.bool (!f x)) := by
  refine Ev.fn Tryz.func175 rfl rfl (Fn.body tabOk Tryz.func175 rfl (Nat.le_of_ble_eq_true rfl) (Ks.ok (fz := (fzn [])) (cl := (cln [])) tabOk mixed ?_))
  generalize hQ : FnPost tt Tryz.f175 _ _ = Q
  simp only [Tryz.f175, List.nil_append, List.cons_append, argsEnv, Nat.reduceAdd]
  simp only [gos, eq_self, Nat.reduceLT, Nat.reduceEqDiff, Nat.reduceAdd, reduceCtorEq, reduceIte, ↓reduceIte, tt, vgo, vout, vguard, callOf, vop, ev, cv, vload, newRow]
  refine Cl.pu hf ?_ hp (by simp only [V.into, intoL, Bool.and_true])
  simp only [gos, eq_self, Nat.reduceLT, reduceIte, ↓reduceIte, vgo, vout, vguard, callOf, vop, ev]
  subst hQ
  exact FnPost.plain trivial (fun h2 e => by first | rfl | (simp only [Tryz.f175, vres, vresL, vres1, e _, gos, if_true, if_false, ne_eq, eq_self, Nat.reduceLT, Nat.reduceEqDiff, Nat.reduceAdd, Nat.reduceMul, Nat.reduceLeDiff, Nat.reduceBEq, reduceCtorEq, reduceIte, Array.toList, ↓reduceIte, tt, vgo, vout, vgoD, voutD, vclsOk, vids, mayWrite, V.ids, V.mids, vguard, callOf, vop, ev, cv, vbin, vint, isShift, isNilConst, vnil, isNilSlice, vload, vlen, newRow, vfill, vslice, entOf, vappend, srcOf, vcopy, vlookup, vupdate, mapOk, keyOf, intsOf, clsAt]; try rfl)) (WkV.pure (by simp only [V.into])) ⟨rfl, rfl⟩
theorem c_all_Rg (pf : FuncId) (pa pc : List V) (f : Rg → Bool) (l : List Rg) (hl : (l.length : Int) ≤ 1000000) (ha : intoL (fun _ => false) pa = true) (hp : intoL (fun _ => false) pc = true) (hf : ∀ x ∈ l, Pu Tryz.prog (.fn pf pa pc) [.agg [vi x.lo, vi x.hi]] (.bool (f x))) :
    Pu Tryz.prog (.fn 154 [] []) [vR l, .fn pf pa pc] (.bool (l.all f)) := by
  refine Ev.fn Tryz.func154 rfl rfl (Fn.body tabOk Tryz.func154 rfl (Nat.le_of_ble_eq_true rfl) (Ks.ok (fz := (fzn [])) (cl := (cln [])) tabOk mixed ?_))
  generalize hQ : FnPost tt Tryz.f154 _ _ = Q
  simp only [Tryz.f154, List.nil_append, List.append_nil, argsEnv, Nat.reduceAdd]
  simp only [gos, eq_self, Nat.reduceLT, Nat.reduceEqDiff, reduceCtorEq, reduceIte, ↓reduceIte, vgo, vout, vguard, callOf, vop, ev, cv, newRow]
  refine Cl.pu (c_ContainsFunc_Rg (.fn 175 [] [.rop [.fn pf pa pc]]) (fun x => !f x) l hl (by simp only [V.into, intoL, Bool.and_true, hp, ha]) fun x hx => c_all1_Rg (.fn pf pa pc) f x (by simp only [V.into, Bool.and_true, hp, ha]) (hf x hx)) ?_ rfl (by simp only [V.into, intoL, vR_into, Bool.and_true, hp, ha])
  simp only [gos, eq_self, Nat.reduceLT, reduceIte, ↓reduceIte, vgo, vout, vguard, callOf, vop, ev]
  subst hQ
  exact FnPost.plain trivial (fun h2 e => by first | rfl | (simp only [Tryz.f154, vres, vresL, vres1, e _, gos, if_true, if_false, ne_eq, eq_self, Nat.reduceLT, Nat.reduceEqDiff, Nat.reduceAdd, Nat.reduceMul, Nat.reduceLeDiff, Nat.reduceBEq, reduceCtorEq, reduceIte, Array.toList, ↓reduceIte, tt, vgo, vout, vgoD, voutD, vclsOk, vids, mayWrite, V.ids, V.mids, vguard, callOf, vop, ev, cv, vbin, vint, isShift, isNilConst, vnil, isNilSlice, vload, vlen, newRow, vfill, vslice, entOf, vappend, srcOf, vcopy, vlookup, vupdate, mapOk, keyOf, intsOf, clsAt]; try rfl)) (WkV.pure (by simp only [V.into])) ⟨by rw [List.all_eq_not_any_not], rfl⟩
theorem c_IndexFunc_Rd (pv : V) (f : Rd → Bool) (l : List Rd) (hl : (l.length : Int) ≤ 1000000) (hp : pv.into (fun _ => false) = true) (hf : ∀ x ∈ l, Pu Tryz.prog pv [.agg [vi x.hour, vi x.b.lo, vi x.b.hi]] (.bool (f x))) :
    Pu Tryz.prog (.fn 183 [] []) [vD l, pv] (vi (sIdx f l)) := by
  refine Ev.fn Tryz.func183 rfl rfl (Fn.body tabOk Tryz.func183 rfl (Nat.le_of_ble_eq_true rfl) (Ks.ok (fz := (fzn [])) (cl := (cln [])) tabOk mixed ?_))
  generalize hQ : FnPost tt Tryz.f183 _ _ = Q
  simp only [Tryz.f183, List.nil_append, List.append_nil, argsEnv, Nat.reduceAdd]
  simp only [gos, eq_self, Nat.reduceLT, reduceCtorEq, reduceIte, ↓reduceIte, tt, vgo, vout, vguard, callOf, vop, ev, cv, vlen, vD]
  refine W.loop tabOk mixed (fun i : Nat => ([(0, vD l), (1, pv), (7, vi l.length), (8, vi i)], [])) (fun i => l.length - i) (fun i => i ≤ l.length ∧ ∀ (j : Nat) y, j < i → l[j]? = some y → f y = false) 0 ⟨by omega, by omega⟩ (Wk.env (by simp [subE, Env.get, vD])) ?_
  rintro i ⟨hi, hj⟩
  by_cases hil : (i : Int) < l.length
  · simp only [gos, eq_self, Nat.reduceLT, Nat.reduceEqDiff, reduceCtorEq, reduceIte, ↓reduceIte, tt, vgo, vout, vguard, callOf, vop, ev, vbin, vint, isShift, isNilConst, vload, vD, hil, cD_at (Int.natCast_nonneg i) hil]
    refine Cl.pu (hf (gD l i) (List.mem_of_getElem? (gD_get hil))) ?_ hp (by simp only [V.into, intoL, Bool.and_true])
    cases hfx : f (gD l i)
    · simp only [gos, eq_self, Nat.reduceLT, Nat.reduceEqDiff, reduceCtorEq, reduceIte, ↓reduceIte, vgo, vout, vguard, callOf, vop, ev, cv, vbin, vint, isShift, isNilConst]
      refine Nx.mk (i + 1) (show l.length - (i + 1) < l.length - i by omega) ⟨by omega, fun j y hlt hy => ?_⟩ (Wk.env (by simp [subE, Env.get, i64_succ (show (i : Int) < 9223372036854775807 by omega)]))
      rcases Nat.lt_or_eq_of_le (Nat.le_of_lt_succ hlt) with h | rfl
      · exact hj j y h hy
      · rw [gD_get hil] at hy; injection hy with hy; rw [← hy]; exact hfx
    · simp only [gos, eq_self, Nat.reduceLT, Nat.reduceEqDiff, reduceIte, ↓reduceIte, vgo, vout, vguard, callOf, vop, ev]
      subst hQ
      exact FnPost.plain trivial (fun h2 e => by first | rfl | (simp only [Tryz.f183, vres, vresL, vres1, e _, gos, if_true, if_false, ne_eq, eq_self, Nat.reduceLT, Nat.reduceEqDiff, Nat.reduceAdd, Nat.reduceMul, Nat.reduceLeDiff, Nat.reduceBEq, reduceCtorEq, reduceIte, Array.toList, ↓reduceIte, tt, vgo, vout, vgoD, voutD, vclsOk, vids, mayWrite, V.ids, V.mids, vguard, callOf, vop, ev, cv, vbin, vint, isShift, isNilConst, vnil, isNilSlice, vload, vlen, newRow, vfill, vslice, entOf, vappend, srcOf, vcopy, vlookup, vupdate, mapOk, keyOf, intsOf, clsAt]; try rfl)) (WkV.pure (by simp only [V.into])) ⟨by rw [sIdx_some (gD_get hil) hfx hj], rfl⟩
  · simp only [gos, eq_self, Nat.reduceLT, Nat.reduceEqDiff, reduceCtorEq, reduceIte, ↓reduceIte, vgo, vout, vguard, callOf, vop, ev, cv, vbin, vint, isShift, isNilConst, vD, hil]
    subst hQ
    exact FnPost.plain trivial (fun h2 e => by first | rfl | (simp only [Tryz.f183, vres, vresL, vres1, e _, gos, if_true, if_false, ne_eq, eq_self, Nat.reduceLT, Nat.reduceEqDiff, Nat.reduceAdd, Nat.reduceMul, Nat.reduceLeDiff, Nat.reduceBEq, reduceCtorEq, reduceIte, Array.toList, ↓reduceIte, tt, vgo, vout, vgoD, voutD, vclsOk, vids, mayWrite, V.ids, V.mids, vguard, callOf, vop, ev, cv, vbin, vint, isShift, isNilConst, vnil, isNilSlice, vload, vlen, newRow, vfill, vslice, entOf, vappend, srcOf, vcopy, vlookup, vupdate, mapOk, keyOf, intsOf, clsAt]; try rfl)) (WkV.pure (by simp only [V.into])) ⟨by rw [sIdx_none fun j y hy => hj j y (by have := (List.getElem?_eq_some_iff.1 hy).1; omega) hy], rfl⟩
theorem c_ContainsFunc_Rd (pv : V) (f : Rd → Bool) (l : List Rd) (hl : (l.length : Int) ≤ 1000000) (hp : pv.into (fun _ => false) = true) (hf : ∀ x ∈ l, Pu Tryz.prog pv [.agg [vi x.hour, vi x.b.lo, vi x.b.hi]] (.bool (f x))) :
    Pu Tryz.prog (.fn 176 [] []) [vD l, pv] (.bool (l.any f)) := by
  refine Ev.fn Tryz.func176 rfl rfl (Fn.body tabOk Tryz.func176 rfl (Nat.le_of_ble_eq_true rfl) (Ks.ok (fz := (fzn [])) (cl := (cln [])) tabOk mixed ?_))
  generalize hQ : FnPost tt Tryz.f176 _ _ = Q
  simp only [Tryz.f176, List.nil_append, List.append_nil, argsEnv, Nat.reduceAdd]
  simp only [gos, eq_self, Nat.reduceLT, Nat.reduceEqDiff, reduceCtorEq, reduceIte, ↓reduceIte, vgo, vout, vguard, callOf, vop, ev, cv]
  refine Cl.pu (c_IndexFunc_Rd pv f l hl hp hf) ?_ rfl (by simp only [intoL, vD_into, Bool.and_true, hp])
  simp only [gos, eq_self, Nat.reduceLT, reduceIte, ↓reduceIte, vgo, vout, vguard, callOf, vop, ev, cv, vbin, vint, isShift, isNilConst]
  subst hQ
  exact FnPost.plain trivial (fun h2 e => by first | rfl | (simp only [Tryz.f176, vres, vresL, vres1, e _, gos, if_true, if_false, ne_eq, eq_self, Nat.reduceLT, Nat.reduceEqDiff, Nat.reduceAdd, Nat.reduceMul, Nat.reduceLeDiff, Nat.reduceBEq, reduceCtorEq, reduceIte, Array.toList, ↓reduceIte, tt, vgo, vout, vgoD, voutD, vclsOk, vids, mayWrite, V.ids, V.mids, vguard, callOf, vop, ev, cv, vbin, vint, isShift, isNilConst, vnil, isNilSlice, vload, vlen, newRow, vfill, vslice, entOf, vappend, srcOf, vcopy, vlookup, vupdate, mapOk, keyOf, intsOf, clsAt]; try rfl)) (WkV.pure (by simp only [V.into])) ⟨by rw [← sIdx_any], rfl⟩
theorem c_all1_Rd (pv : V) (f : Rd → Bool) (x : Rd) (hp : pv.into (fun _ => false) = true) (hf : Pu Tryz.prog pv [.agg [vi x.hour, vi x.b.lo, vi x.b.hi]] (.bool (f x))) :
    Pu Tryz.prog (.fn 177 [] [.rop [pv]]) [.agg [vi x.hour, vi x.b.lo, vi x.b.hi]] (.bool (!f x)) := by
  refine Ev.fn Tryz.func177 rfl rfl (Fn.body tabOk Tryz.func177 rfl (Nat.le_of_ble_eq_true rfl) (Ks.ok (fz := (fzn [])) (cl := (cln [])) tabOk mixed ?_))
  generalize hQ : FnPost tt Tryz.f177 _ _ = Q
  simp only [Tryz.f177, List.nil_append, List.cons_append, argsEnv, Nat.reduceAdd]
  simp only [gos, eq_self, Nat.reduceLT, Nat.reduceEqDiff, Nat.reduceAdd, reduceCtorEq, reduceIte, ↓reduceIte, tt, vgo, vout, vguard, callOf, vop, ev, cv, vload, newRow]
  refine Cl.pu hf ?_ hp (by simp only [V.into, intoL, Bool.and_true])
  simp only [gos, eq_self, Nat.reduceLT, reduceIte, ↓reduceIte, vgo, vout, vguard, callOf, vop, ev]
  subst hQ
  exact FnPost.plain trivial (fun h2 e => by first | rfl | (simp only [Tryz.f177, vres, vresL, vres1, e _, gos, if_true, if_false, ne_eq, eq_self, Nat.reduceLT, Nat.reduceEqDiff, Nat.reduceAdd, Nat.reduceMul, Nat.reduceLeDiff, Nat.reduceBEq, reduceCtorEq, reduceIte, Array.toList, ↓reduceIte, tt, vgo, vout, vgoD, voutD, vclsOk, vids, mayWrite, V.ids, V.mids, vguard, callOf, vop, ev, cv, vbin, vint, isShift, isNilConst, vnil, isNilSlice, vload, vlen, newRow, vfill, vslice, entOf, vappend, srcOf, vcopy, vlookup, vupdate, mapOk, keyOf, intsOf, clsAt]; try rfl)) (WkV.pure (by simp only [V.into])) ⟨rfl, rfl⟩
theorem c_all_Rd (pf : FuncId) (pa pc : List V) (f : Rd → Bool) (l : List Rd) (hl : (l.length : Int) ≤ 1000000) (ha : intoL (fun _ => false) pa = true) (hp : intoL (fun _ => false) pc = true) (hf : ∀ x ∈ l, Pu Tryz.prog (.fn pf pa pc) [.agg [vi x.hour, vi x.b.lo, vi x.b.hi]] (.bool (f x))) :
    Pu Tryz.prog (.fn 156 [] []) [vD l, .fn pf pa pc] (.bool (l.all f)) := by
  refine Ev.fn Tryz.func156 rfl rfl (Fn.body tabOk Tryz.func156 rfl (Nat.le_of_ble_eq_true rfl) (Ks.ok (fz := (fzn [])) (cl := (cln [])) tabOk mixed ?_))
  generalize hQ : FnPost tt Tryz.f156 _ _ = Q
  simp only [Tryz.f156, List.nil_append, List.append_nil, argsEnv, Nat.reduceAdd]
  simp only [gos, eq_self, Nat.reduceLT, Nat.reduceEqDiff, reduceCtorEq, reduceIte, ↓reduceIte, vgo, vout, vguard, callOf, vop, ev, cv, newRow]
  refine Cl.pu (c_ContainsFunc_Rd (.fn 177 [] [.rop [.fn pf pa pc]]) (fun x => !f x) l hl (by simp only [V.into, intoL, Bool.and_true, hp, ha]) fun x hx => c_all1_Rd (.fn pf pa pc) f x (by simp only [V.into, Bool.and_true, hp, ha]) (hf x hx)) ?_ rfl (by simp only [V.into, intoL, vD_into, Bool.and_true, hp, ha])
  simp only [gos, eq_self, Nat.reduceLT, reduceIte, ↓reduceIte, vgo, vout, vguard, callOf, vop, ev]
  subst hQ
  exact FnPost.plain trivial (fun h2 e => by first | rfl | (simp only [Tryz.f156, vres, vresL, vres1, e _, gos, if_true, if_false, ne_eq, eq_self, Nat.reduceLT, Nat.reduceEqDiff, Nat.reduceAdd, Nat.reduceMul, Nat.reduceLeDiff, Nat.reduceBEq, reduceCtorEq, reduceIte, Array.toList, ↓reduceIte, tt, vgo, vout, vgoD, voutD, vclsOk, vids, mayWrite, V.ids, V.mids, vguard, callOf, vop, ev, cv, vbin, vint, isShift, isNilConst, vnil, isNilSlice, vload, vlen, newRow, vfill, vslice, entOf, vappend, srcOf, vcopy, vlookup, vupdate, mapOk, keyOf, intsOf, clsAt]; try rfl)) (WkV.pure (by simp only [V.into])) ⟨by rw [List.all_eq_not_any_not], rfl⟩
end Go.Vm

set_option linter.unusedVariables false
set_option linter.unusedSimpArgs false
set_option maxRecDepth 100000
namespace Go.Vm
open Go.Proofs
theorem len_wrap {k : Nat} {n : Int} (hn : I64 n) (hk : (k : Int) ≤ 1000000) : ((k : Int) = IntKind.i64.wrap (n + 1)) = ((k : Int) = n + 1) := by
  unfold I64 at hn
  by_cases h : n = 9223372036854775807
  · subst h
    have : IntKind.i64.wrap (9223372036854775807 + 1) = -9223372036854775808 := by decide
    rw [this]
    exact propext ⟨fun e => by omega, fun e => by omega⟩
  · rw [i64_in (by omega) (by omega)]
def sIsCoal (c : Cu) (l : List Int) : Bool := decide ((l.length : Int) = c.last + 1) && l.all fun n => sIn n 0 c.shovels
def sPromised (c : Cu) (l : List Int) : Bool := decide ((l.length : Int) = c.last + 1) && l.all fun n => sIn n 0 20
theorem c_isCoal1 (c : Cu) (n : Int) : Pu Tryz.prog (.fn 173 [] [.rop c.cs]) [vi n] (.bool (sIn n 0 c.shovels)) := by
  refine Ev.fn Tryz.func173 rfl rfl (Fn.body tabOk Tryz.func173 rfl (Nat.le_of_ble_eq_true rfl) (Ks.ok (fz := (fzn [])) (cl := (cln [])) tabOk mixed ?_))
  generalize hQ : FnPost tt Tryz.f173 _ _ = Q
  simp only [Tryz.f173, List.nil_append, List.cons_append, argsEnv, Nat.reduceAdd]
  simp only [gos, eq_self, Nat.reduceLT, Nat.reduceEqDiff, reduceCtorEq, reduceIte, ↓reduceIte, tt, vgo, vout, vguard, callOf, vop, ev, cv, vload]
  refine Cl.pu (c_within _ _ _) ?_
  simp only [gos, eq_self, Nat.reduceLT, reduceIte, ↓reduceIte, vgo, vout, vguard, callOf, vop, ev]
  subst hQ
  exact FnPost.plain trivial (fun h2 e => by first | rfl | (simp only [Tryz.f173, vres, vresL, vres1, e _, gos, if_true, if_false, ne_eq, eq_self, Nat.reduceLT, Nat.reduceEqDiff, Nat.reduceAdd, Nat.reduceMul, Nat.reduceLeDiff, Nat.reduceBEq, reduceCtorEq, reduceIte, Array.toList, ↓reduceIte, tt, vgo, vout, vgoD, voutD, vclsOk, vids, mayWrite, V.ids, V.mids, vguard, callOf, vop, ev, cv, vbin, vint, isShift, isNilConst, vnil, isNilSlice, vload, vlen, newRow, vfill, vslice, entOf, vappend, srcOf, vcopy, vlookup, vupdate, mapOk, keyOf, intsOf, clsAt]; try rfl)) (WkV.pure (by simp only [V.into])) ⟨rfl, rfl⟩
theorem c_isCoal (c : Cu) (l : List Int) (hc : I64 c.last) (hl : (l.length : Int) ≤ 1000000) : Pu Tryz.prog (.fn 152 [] []) [.agg c.cs, vI l] (.bool (sIsCoal c l)) := by
  refine Ev.fn Tryz.func152 rfl rfl (Fn.body tabOk Tryz.func152 rfl (Nat.le_of_ble_eq_true rfl) (Ks.ok (fz := (fzn [])) (cl := (cln [])) tabOk mixed ?_))
  generalize hQ : FnPost tt Tryz.f152 _ _ = Q
  simp only [Tryz.f152, List.nil_append, List.append_nil, argsEnv, Nat.reduceAdd]
  by_cases h : (l.length : Int) = c.last + 1
  · have hb : decide ((l.length : Int) = IntKind.i64.wrap (c.last + 1)) = true := by rw [decide_eq_true_eq, len_wrap hc hl]; exact h
    simp only [gos, eq_self, Nat.reduceLT, Nat.reduceEqDiff, reduceCtorEq, reduceIte, ↓reduceIte, tt, vgo, vout, vguard, callOf, vop, ev, cv, vbin, vint, isShift, isNilConst, vload, vlen, newRow, vI, hb]
    refine Cl.pu (c_all_int _ [] [.rop c.cs] (fun n => sIn n 0 c.shovels) l hl rfl (by simp only [V.into, intoL, cu_into, Bool.and_true]) fun x _ => c_isCoal1 c x) ?_ (by simp only [V.into, intoL, Bool.and_true]) (by simp only [V.into, intoL, cI_into, cu_into, Bool.and_true])
    simp only [gos, eq_self, Nat.reduceLT, Nat.reduceEqDiff, reduceIte, ↓reduceIte, vgo, vout, vguard, callOf, vop, ev]
    subst hQ
    exact FnPost.plain trivial (fun h2 e => by first | rfl | (simp only [Tryz.f152, vres, vresL, vres1, e _, gos, if_true, if_false, ne_eq, eq_self, Nat.reduceLT, Nat.reduceEqDiff, Nat.reduceAdd, Nat.reduceMul, Nat.reduceLeDiff, Nat.reduceBEq, reduceCtorEq, reduceIte, Array.toList, ↓reduceIte, tt, vgo, vout, vgoD, voutD, vclsOk, vids, mayWrite, V.ids, V.mids, vguard, callOf, vop, ev, cv, vbin, vint, isShift, isNilConst, vnil, isNilSlice, vload, vlen, newRow, vfill, vslice, entOf, vappend, srcOf, vcopy, vlookup, vupdate, mapOk, keyOf, intsOf, clsAt]; try rfl)) (WkV.pure (by simp only [V.into])) ⟨by simp only [sIsCoal, h, decide_true, Bool.true_and], rfl⟩
  · have hb : decide ((l.length : Int) = IntKind.i64.wrap (c.last + 1)) = false := by rw [decide_eq_false_iff_not, len_wrap hc hl]; exact h
    simp only [gos, eq_self, Nat.reduceLT, Nat.reduceEqDiff, reduceCtorEq, reduceIte, ↓reduceIte, tt, vgo, vout, vguard, callOf, vop, ev, cv, vbin, vint, isShift, isNilConst, vload, vlen, newRow, vI, hb]
    subst hQ
    exact FnPost.plain trivial (fun h2 e => by first | rfl | (simp only [Tryz.f152, vres, vresL, vres1, e _, gos, if_true, if_false, ne_eq, eq_self, Nat.reduceLT, Nat.reduceEqDiff, Nat.reduceAdd, Nat.reduceMul, Nat.reduceLeDiff, Nat.reduceBEq, reduceCtorEq, reduceIte, Array.toList, ↓reduceIte, tt, vgo, vout, vgoD, voutD, vclsOk, vids, mayWrite, V.ids, V.mids, vguard, callOf, vop, ev, cv, vbin, vint, isShift, isNilConst, vnil, isNilSlice, vload, vlen, newRow, vfill, vslice, entOf, vappend, srcOf, vcopy, vlookup, vupdate, mapOk, keyOf, intsOf, clsAt]; try rfl)) (WkV.pure (by simp only [V.into])) ⟨by simp only [sIsCoal, h, decide_false, Bool.false_and], rfl⟩
theorem c_promised (c : Cu) (l : List Int) (hc : I64 c.last) (hl : (l.length : Int) ≤ 1000000) : Pu Tryz.prog (.fn 108 [] []) [.agg c.cs, vI l] (.bool (sPromised c l)) := by
  refine Ev.fn Tryz.func108 rfl rfl (Fn.body tabOk Tryz.func108 rfl (Nat.le_of_ble_eq_true rfl) (Ks.ok (fz := (fzn [])) (cl := (cln [])) tabOk mixed ?_))
  generalize hQ : FnPost tt Tryz.f108 _ _ = Q
  simp only [Tryz.f108, List.nil_append, List.append_nil, argsEnv, Nat.reduceAdd]
  by_cases h : (l.length : Int) = c.last + 1
  · have hb : decide ((l.length : Int) = IntKind.i64.wrap (c.last + 1)) = true := by rw [decide_eq_true_eq, len_wrap hc hl]; exact h
    simp only [gos, eq_self, Nat.reduceLT, Nat.reduceEqDiff, reduceCtorEq, reduceIte, ↓reduceIte, tt, vgo, vout, vguard, callOf, vop, ev, cv, vbin, vint, isShift, isNilConst, vload, vlen, newRow, vI, hb]
    refine Cl.pu (c_all_int _ [] [] (fun n => sIn n 0 20) l hl rfl rfl fun x _ => c_buckets x) ?_ rfl (by simp only [V.into, intoL, cI_into, Bool.and_true])
    simp only [gos, eq_self, Nat.reduceLT, Nat.reduceEqDiff, reduceIte, ↓reduceIte, vgo, vout, vguard, callOf, vop, ev]
    subst hQ
    exact FnPost.plain trivial (fun h2 e => by first | rfl | (simp only [Tryz.f108, vres, vresL, vres1, e _, gos, if_true, if_false, ne_eq, eq_self, Nat.reduceLT, Nat.reduceEqDiff, Nat.reduceAdd, Nat.reduceMul, Nat.reduceLeDiff, Nat.reduceBEq, reduceCtorEq, reduceIte, Array.toList, ↓reduceIte, tt, vgo, vout, vgoD, voutD, vclsOk, vids, mayWrite, V.ids, V.mids, vguard, callOf, vop, ev, cv, vbin, vint, isShift, isNilConst, vnil, isNilSlice, vload, vlen, newRow, vfill, vslice, entOf, vappend, srcOf, vcopy, vlookup, vupdate, mapOk, keyOf, intsOf, clsAt]; try rfl)) (WkV.pure (by simp only [V.into])) ⟨by simp only [sPromised, h, decide_true, Bool.true_and], rfl⟩
  · have hb : decide ((l.length : Int) = IntKind.i64.wrap (c.last + 1)) = false := by rw [decide_eq_false_iff_not, len_wrap hc hl]; exact h
    simp only [gos, eq_self, Nat.reduceLT, Nat.reduceEqDiff, reduceCtorEq, reduceIte, ↓reduceIte, tt, vgo, vout, vguard, callOf, vop, ev, cv, vbin, vint, isShift, isNilConst, vload, vlen, newRow, vI, hb]
    subst hQ
    exact FnPost.plain trivial (fun h2 e => by first | rfl | (simp only [Tryz.f108, vres, vresL, vres1, e _, gos, if_true, if_false, ne_eq, eq_self, Nat.reduceLT, Nat.reduceEqDiff, Nat.reduceAdd, Nat.reduceMul, Nat.reduceLeDiff, Nat.reduceBEq, reduceCtorEq, reduceIte, Array.toList, ↓reduceIte, tt, vgo, vout, vgoD, voutD, vclsOk, vids, mayWrite, V.ids, V.mids, vguard, callOf, vop, ev, cv, vbin, vint, isShift, isNilConst, vnil, isNilSlice, vload, vlen, newRow, vfill, vslice, entOf, vappend, srcOf, vcopy, vlookup, vupdate, mapOk, keyOf, intsOf, clsAt]; try rfl)) (WkV.pure (by simp only [V.into])) ⟨by simp only [sPromised, h, decide_false, Bool.false_and], rfl⟩
/-- Lists as long as memory may hold them here. -/
structure Cu.wf (c : Cu) : Prop where
  last : I64 c.last
  coal : (c.coal.length : Int) ≤ 1000000
  want : (c.want.length : Int) ≤ 1000000
  loss : (c.loss.length : Int) ≤ 1000000
  readings : (c.readings.length : Int) ≤ 1000000
def sBad1 (c : Cu) : Bool := decide (c.last < 0) || !sIn c.start 0 c.most || decide (999 < c.most) || !sIn c.per 1 20 || !sIn c.shovels 0 3
def sBad2 (c : Cu) : Bool := !sIsCoal c c.coal || !sPromised c c.want || !sInside c.heat 99 || decide ((c.loss.length : Int) ≠ c.last + 1) || !(c.loss.all fun r => sInside r 99) || !(c.readings.all fun r => sReading c r)
def sManyL (n : Int) (l : List Rg) : Int := l.foldl (fun m r => min (m * sSize r) 2001) n
def sMany (c : Cu) : Int := sManyL (sSize c.heat) c.loss
def sCheck (c : Cu) : Int :=
  if 4 < c.last ∨ 5 < (c.readings.length : Int) then 3 else if sBad1 c = true then 1 else if sBad2 c = true then 1 else if 2000 < sMany c then 3 else 0
theorem sManyL_succ {l : List Rg} {n : Int} {i : Nat} (hi : (i : Int) < l.length) : sManyL n (l.take (i + 1)) = min (sManyL n (l.take i) * sSize (gR l i)) 2001 := by
  have e : l.take (i + 1) = l.take i ++ [gR l i] := by
    rw [List.take_add_one, gR_get hi]; rfl
  rw [e, sManyL, List.foldl_append]; rfl
theorem size_le {r : Rg} (h : sInside r 99 = true) : 1 ≤ sSize r ∧ sSize r ≤ 100 ∧ 0 ≤ r.hi - r.lo ∧ r.hi - r.lo ≤ 99 := by
  simp only [sInside, Bool.and_eq_true, decide_eq_true_eq] at h
  unfold sSize; omega
theorem sManyL_le {n : Int} (hn : 1 ≤ n ∧ n ≤ 2001) : ∀ {l : List Rg}, (∀ r ∈ l, sInside r 99 = true) → 1 ≤ sManyL n l ∧ sManyL n l ≤ 2001
  | [], _ => hn
  | r :: l, h => by
    have h1 := size_le (h r (by simp))
    refine sManyL_le (n := min (n * sSize r) 2001) ⟨?_, by omega⟩ fun x hx => h x (by simp [hx])
    have : 1 * 1 ≤ n * sSize r := Int.mul_le_mul hn.1 h1.1 (by omega) (by omega)
    omega
set_option maxHeartbeats 2000000 in
theorem c_Check (c : Cu) (hc : c.wf) : Pu Tryz.prog (.fn 113 [] []) [.agg c.cs] (vi (sCheck c)) := by
  refine Ev.fn Tryz.func113 rfl rfl (Fn.body tabOk Tryz.func113 rfl (Nat.le_of_ble_eq_true rfl) (Ks.ok (fz := (fzn [6])) (cl := (cln [])) tabOk mixed ?_))
  generalize hQ : FnPost tt Tryz.f113 _ _ = Q
  simp only [Tryz.f113, List.nil_append, List.append_nil, argsEnv]
  have hin : intoL (fun _ => false) [V.agg c.cs] = true := by simp only [V.into, intoL, cu_into, Bool.and_true]
  have hin2 : ∀ v, intoL (fun _ => false) [V.agg c.cs, vi v] = true := fun v => by simp only [V.into, intoL, cu_into, Bool.and_true]
  by_cases h1 : 4 < c.last
  · simp only [gos, eq_self, Nat.reduceLT, Nat.reduceEqDiff, reduceCtorEq, reduceIte, ↓reduceIte, tt, vgo, vout, vguard, callOf, vop, ev, cv, vbin, vint, isShift, isNilConst, vload, newRow, h1]
    subst hQ
    exact FnPost.plain trivial (fun h2 e => by first | rfl | (simp only [Tryz.f113, vres, vresL, vres1, e _, gos, if_true, if_false, ne_eq, eq_self, Nat.reduceLT, Nat.reduceEqDiff, Nat.reduceAdd, Nat.reduceMul, Nat.reduceLeDiff, Nat.reduceBEq, reduceCtorEq, reduceIte, Array.toList, ↓reduceIte, tt, vgo, vout, vgoD, voutD, vclsOk, vids, mayWrite, V.ids, V.mids, vguard, callOf, vop, ev, cv, vbin, vint, isShift, isNilConst, vnil, isNilSlice, vload, vlen, newRow, vfill, vslice, entOf, vappend, srcOf, vcopy, vlookup, vupdate, mapOk, keyOf, intsOf, clsAt]; try rfl)) (WkV.pure (by simp only [V.into])) ⟨by simp [sCheck, h1], rfl⟩
  by_cases h2 : 5 < (c.readings.length : Int)
  · simp only [gos, eq_self, Nat.reduceLT, Nat.reduceEqDiff, reduceCtorEq, reduceIte, ↓reduceIte, tt, vgo, vout, vguard, callOf, vop, ev, cv, vbin, vint, isShift, isNilConst, vload, vlen, newRow, h1, h2, vD]
    subst hQ
    exact FnPost.plain trivial (fun h2 e => by first | rfl | (simp only [Tryz.f113, vres, vresL, vres1, e _, gos, if_true, if_false, ne_eq, eq_self, Nat.reduceLT, Nat.reduceEqDiff, Nat.reduceAdd, Nat.reduceMul, Nat.reduceLeDiff, Nat.reduceBEq, reduceCtorEq, reduceIte, Array.toList, ↓reduceIte, tt, vgo, vout, vgoD, voutD, vclsOk, vids, mayWrite, V.ids, V.mids, vguard, callOf, vop, ev, cv, vbin, vint, isShift, isNilConst, vnil, isNilSlice, vload, vlen, newRow, vfill, vslice, entOf, vappend, srcOf, vcopy, vlookup, vupdate, mapOk, keyOf, intsOf, clsAt]; try rfl)) (WkV.pure (by simp only [V.into])) ⟨by simp [sCheck, h1, h2], rfl⟩
  by_cases h3 : c.last < 0
  · simp only [gos, eq_self, Nat.reduceLT, Nat.reduceEqDiff, reduceCtorEq, reduceIte, ↓reduceIte, tt, vgo, vout, vguard, callOf, vop, ev, cv, vbin, vint, isShift, isNilConst, vload, vlen, newRow, h1, h2, h3, vD]
    subst hQ
    exact FnPost.plain trivial (fun h2 e => by first | rfl | (simp only [Tryz.f113, vres, vresL, vres1, e _, gos, if_true, if_false, ne_eq, eq_self, Nat.reduceLT, Nat.reduceEqDiff, Nat.reduceAdd, Nat.reduceMul, Nat.reduceLeDiff, Nat.reduceBEq, reduceCtorEq, reduceIte, Array.toList, ↓reduceIte, tt, vgo, vout, vgoD, voutD, vclsOk, vids, mayWrite, V.ids, V.mids, vguard, callOf, vop, ev, cv, vbin, vint, isShift, isNilConst, vnil, isNilSlice, vload, vlen, newRow, vfill, vslice, entOf, vappend, srcOf, vcopy, vlookup, vupdate, mapOk, keyOf, intsOf, clsAt]; try rfl)) (WkV.pure (by simp only [V.into])) ⟨by simp [sCheck, sBad1, h1, h2, h3], rfl⟩
  simp only [gos, eq_self, Nat.reduceLT, Nat.reduceEqDiff, reduceCtorEq, reduceIte, ↓reduceIte, tt, vgo, vout, vguard, callOf, vop, ev, cv, vbin, vint, isShift, isNilConst, vload, vlen, newRow, h1, h2, h3, vD]
  refine Cl.pu (c_within _ _ _) ?_
  cases h4 : sIn c.start 0 c.most
  · simp only [gos, eq_self, Nat.reduceLT, Nat.reduceEqDiff, reduceIte, ↓reduceIte, vgo, vout, vguard, callOf, vop, ev, cv]
    subst hQ
    exact FnPost.plain trivial (fun h2 e => by first | rfl | (simp only [Tryz.f113, vres, vresL, vres1, e _, gos, if_true, if_false, ne_eq, eq_self, Nat.reduceLT, Nat.reduceEqDiff, Nat.reduceAdd, Nat.reduceMul, Nat.reduceLeDiff, Nat.reduceBEq, reduceCtorEq, reduceIte, Array.toList, ↓reduceIte, tt, vgo, vout, vgoD, voutD, vclsOk, vids, mayWrite, V.ids, V.mids, vguard, callOf, vop, ev, cv, vbin, vint, isShift, isNilConst, vnil, isNilSlice, vload, vlen, newRow, vfill, vslice, entOf, vappend, srcOf, vcopy, vlookup, vupdate, mapOk, keyOf, intsOf, clsAt]; try rfl)) (WkV.pure (by simp only [V.into])) ⟨by simp [sCheck, sBad1, h1, h2, h4], rfl⟩
  simp only [gos, eq_self, Nat.reduceLT, Nat.reduceEqDiff, reduceCtorEq, reduceIte, ↓reduceIte, tt, vgo, vout, vguard, callOf, vop, ev, cv, vbin, vint, isShift, isNilConst, vload]
  by_cases h5 : 999 < c.most
  · simp only [gos, eq_self, Nat.reduceLT, Nat.reduceEqDiff, reduceIte, ↓reduceIte, vgo, vout, vguard, callOf, vop, ev, cv, h5]
    subst hQ
    exact FnPost.plain trivial (fun h2 e => by first | rfl | (simp only [Tryz.f113, vres, vresL, vres1, e _, gos, if_true, if_false, ne_eq, eq_self, Nat.reduceLT, Nat.reduceEqDiff, Nat.reduceAdd, Nat.reduceMul, Nat.reduceLeDiff, Nat.reduceBEq, reduceCtorEq, reduceIte, Array.toList, ↓reduceIte, tt, vgo, vout, vgoD, voutD, vclsOk, vids, mayWrite, V.ids, V.mids, vguard, callOf, vop, ev, cv, vbin, vint, isShift, isNilConst, vnil, isNilSlice, vload, vlen, newRow, vfill, vslice, entOf, vappend, srcOf, vcopy, vlookup, vupdate, mapOk, keyOf, intsOf, clsAt]; try rfl)) (WkV.pure (by simp only [V.into])) ⟨by simp [sCheck, sBad1, h1, h2, h4, h5], rfl⟩
  simp only [gos, eq_self, Nat.reduceLT, Nat.reduceEqDiff, reduceCtorEq, reduceIte, ↓reduceIte, tt, vgo, vout, vguard, callOf, vop, ev, cv, vload, h5]
  refine Cl.pu (c_within _ _ _) ?_
  cases h6 : sIn c.per 1 20
  · simp only [gos, eq_self, Nat.reduceLT, Nat.reduceEqDiff, reduceIte, ↓reduceIte, vgo, vout, vguard, callOf, vop, ev, cv]
    subst hQ
    exact FnPost.plain trivial (fun h2 e => by first | rfl | (simp only [Tryz.f113, vres, vresL, vres1, e _, gos, if_true, if_false, ne_eq, eq_self, Nat.reduceLT, Nat.reduceEqDiff, Nat.reduceAdd, Nat.reduceMul, Nat.reduceLeDiff, Nat.reduceBEq, reduceCtorEq, reduceIte, Array.toList, ↓reduceIte, tt, vgo, vout, vgoD, voutD, vclsOk, vids, mayWrite, V.ids, V.mids, vguard, callOf, vop, ev, cv, vbin, vint, isShift, isNilConst, vnil, isNilSlice, vload, vlen, newRow, vfill, vslice, entOf, vappend, srcOf, vcopy, vlookup, vupdate, mapOk, keyOf, intsOf, clsAt]; try rfl)) (WkV.pure (by simp only [V.into])) ⟨by simp [sCheck, sBad1, h1, h2, h6], rfl⟩
  simp only [gos, eq_self, Nat.reduceLT, Nat.reduceEqDiff, reduceCtorEq, reduceIte, ↓reduceIte, tt, vgo, vout, vguard, callOf, vop, ev, cv, vload]
  refine Cl.pu (c_within _ _ _) ?_
  cases h7 : sIn c.shovels 0 3
  · simp only [gos, eq_self, Nat.reduceLT, Nat.reduceEqDiff, reduceIte, ↓reduceIte, vgo, vout, vguard, callOf, vop, ev, cv]
    subst hQ
    exact FnPost.plain trivial (fun h2 e => by first | rfl | (simp only [Tryz.f113, vres, vresL, vres1, e _, gos, if_true, if_false, ne_eq, eq_self, Nat.reduceLT, Nat.reduceEqDiff, Nat.reduceAdd, Nat.reduceMul, Nat.reduceLeDiff, Nat.reduceBEq, reduceCtorEq, reduceIte, Array.toList, ↓reduceIte, tt, vgo, vout, vgoD, voutD, vclsOk, vids, mayWrite, V.ids, V.mids, vguard, callOf, vop, ev, cv, vbin, vint, isShift, isNilConst, vnil, isNilSlice, vload, vlen, newRow, vfill, vslice, entOf, vappend, srcOf, vcopy, vlookup, vupdate, mapOk, keyOf, intsOf, clsAt]; try rfl)) (WkV.pure (by simp only [V.into])) ⟨by simp [sCheck, sBad1, h1, h2, h7], rfl⟩
  have hb1 : sBad1 c = false := by simp [sBad1, h3, h4, h5, h6, h7]
  simp only [gos, eq_self, Nat.reduceLT, Nat.reduceEqDiff, reduceCtorEq, reduceIte, ↓reduceIte, tt, vgo, vout, vguard, callOf, vop, ev, vload]
  refine Cl.pu (c_isCoal c c.coal hc.last hc.coal) ?_ rfl (by simp only [V.into, intoL, vI_into, cu_into, Bool.and_true])
  cases h8 : sIsCoal c c.coal
  · simp only [gos, eq_self, Nat.reduceLT, Nat.reduceEqDiff, reduceIte, ↓reduceIte, vgo, vout, vguard, callOf, vop, ev, cv]
    subst hQ
    exact FnPost.plain trivial (fun h2 e => by first | rfl | (simp only [Tryz.f113, vres, vresL, vres1, e _, gos, if_true, if_false, ne_eq, eq_self, Nat.reduceLT, Nat.reduceEqDiff, Nat.reduceAdd, Nat.reduceMul, Nat.reduceLeDiff, Nat.reduceBEq, reduceCtorEq, reduceIte, Array.toList, ↓reduceIte, tt, vgo, vout, vgoD, voutD, vclsOk, vids, mayWrite, V.ids, V.mids, vguard, callOf, vop, ev, cv, vbin, vint, isShift, isNilConst, vnil, isNilSlice, vload, vlen, newRow, vfill, vslice, entOf, vappend, srcOf, vcopy, vlookup, vupdate, mapOk, keyOf, intsOf, clsAt]; try rfl)) (WkV.pure (by simp only [V.into])) ⟨by simp [sCheck, hb1, sBad2, h1, h2, h8], rfl⟩
  simp only [gos, eq_self, Nat.reduceLT, Nat.reduceEqDiff, reduceCtorEq, reduceIte, ↓reduceIte, tt, vgo, vout, vguard, callOf, vop, ev, vload]
  refine Cl.pu (c_promised c c.want hc.last hc.want) ?_ rfl (by simp only [V.into, intoL, vI_into, cu_into, Bool.and_true])
  cases h9 : sPromised c c.want
  · simp only [gos, eq_self, Nat.reduceLT, Nat.reduceEqDiff, reduceIte, ↓reduceIte, vgo, vout, vguard, callOf, vop, ev, cv]
    subst hQ
    exact FnPost.plain trivial (fun h2 e => by first | rfl | (simp only [Tryz.f113, vres, vresL, vres1, e _, gos, if_true, if_false, ne_eq, eq_self, Nat.reduceLT, Nat.reduceEqDiff, Nat.reduceAdd, Nat.reduceMul, Nat.reduceLeDiff, Nat.reduceBEq, reduceCtorEq, reduceIte, Array.toList, ↓reduceIte, tt, vgo, vout, vgoD, voutD, vclsOk, vids, mayWrite, V.ids, V.mids, vguard, callOf, vop, ev, cv, vbin, vint, isShift, isNilConst, vnil, isNilSlice, vload, vlen, newRow, vfill, vslice, entOf, vappend, srcOf, vcopy, vlookup, vupdate, mapOk, keyOf, intsOf, clsAt]; try rfl)) (WkV.pure (by simp only [V.into])) ⟨by simp [sCheck, hb1, sBad2, h1, h2, h9], rfl⟩
  simp only [gos, eq_self, Nat.reduceLT, Nat.reduceEqDiff, Nat.reduceLeDiff, reduceCtorEq, reduceIte, ↓reduceIte, tt, vgo, vout, vguard, callOf, vop, ev, cv, vload]
  refine Cl.pu (c_inside _ _) ?_
  cases h10 : sInside c.heat 99
  · simp only [gos, eq_self, Nat.reduceLT, Nat.reduceEqDiff, reduceIte, ↓reduceIte, vgo, vout, vguard, callOf, vop, ev, cv]
    subst hQ
    exact FnPost.plain trivial (fun h2 e => by first | rfl | (simp only [Tryz.f113, vres, vresL, vres1, e _, gos, if_true, if_false, ne_eq, eq_self, Nat.reduceLT, Nat.reduceEqDiff, Nat.reduceAdd, Nat.reduceMul, Nat.reduceLeDiff, Nat.reduceBEq, reduceCtorEq, reduceIte, Array.toList, ↓reduceIte, tt, vgo, vout, vgoD, voutD, vclsOk, vids, mayWrite, V.ids, V.mids, vguard, callOf, vop, ev, cv, vbin, vint, isShift, isNilConst, vnil, isNilSlice, vload, vlen, newRow, vfill, vslice, entOf, vappend, srcOf, vcopy, vlookup, vupdate, mapOk, keyOf, intsOf, clsAt]; try rfl)) (WkV.pure (by simp only [V.into])) ⟨by simp [sCheck, hb1, sBad2, h1, h2, h10], rfl⟩
  simp only [gos, eq_self, Nat.reduceLT, Nat.reduceEqDiff, reduceCtorEq, reduceIte, ↓reduceIte, tt, vgo, vout, vguard, callOf, vop, ev, cv, vbin, vint, isShift, isNilConst, vload, vlen, vR, i64_in (show -9223372036854775808 ≤ c.last + 1 by omega) (show c.last + 1 ≤ 9223372036854775807 by omega)]
  by_cases h11 : (c.loss.length : Int) = c.last + 1
  case neg =>
    have hb : ((c.loss.length : Int) != c.last + 1) = true := by simp [h11]
    simp only [gos, eq_self, Nat.reduceLT, Nat.reduceEqDiff, reduceIte, ↓reduceIte, vgo, vout, vguard, callOf, vop, ev, cv, hb]
    subst hQ
    exact FnPost.plain trivial (fun h2 e => by first | rfl | (simp only [Tryz.f113, vres, vresL, vres1, e _, gos, if_true, if_false, ne_eq, eq_self, Nat.reduceLT, Nat.reduceEqDiff, Nat.reduceAdd, Nat.reduceMul, Nat.reduceLeDiff, Nat.reduceBEq, reduceCtorEq, reduceIte, Array.toList, ↓reduceIte, tt, vgo, vout, vgoD, voutD, vclsOk, vids, mayWrite, V.ids, V.mids, vguard, callOf, vop, ev, cv, vbin, vint, isShift, isNilConst, vnil, isNilSlice, vload, vlen, newRow, vfill, vslice, entOf, vappend, srcOf, vcopy, vlookup, vupdate, mapOk, keyOf, intsOf, clsAt]; try rfl)) (WkV.pure (by simp only [V.into])) ⟨by simp [sCheck, hb1, sBad2, h1, h2, h11], rfl⟩
  have hb : ((c.loss.length : Int) != c.last + 1) = false := by simp [h11]
  simp only [gos, eq_self, Nat.reduceLT, Nat.reduceEqDiff, reduceCtorEq, reduceIte, ↓reduceIte, tt, vgo, vout, vguard, callOf, vop, ev, vload, hb]
  refine Cl.pu (c_all_Rg _ [] [] (fun r => sInside r 99) c.loss hc.loss rfl rfl fun x _ => c_lost x) ?_ rfl (by simp only [V.into, intoL, vR_into, Bool.and_true])
  cases h12 : c.loss.all fun r => sInside r 99
  · simp only [gos, eq_self, Nat.reduceLT, Nat.reduceEqDiff, reduceIte, ↓reduceIte, vgo, vout, vguard, callOf, vop, ev, cv]
    subst hQ
    exact FnPost.plain trivial (fun h2 e => by first | rfl | (simp only [Tryz.f113, vres, vresL, vres1, e _, gos, if_true, if_false, ne_eq, eq_self, Nat.reduceLT, Nat.reduceEqDiff, Nat.reduceAdd, Nat.reduceMul, Nat.reduceLeDiff, Nat.reduceBEq, reduceCtorEq, reduceIte, Array.toList, ↓reduceIte, tt, vgo, vout, vgoD, voutD, vclsOk, vids, mayWrite, V.ids, V.mids, vguard, callOf, vop, ev, cv, vbin, vint, isShift, isNilConst, vnil, isNilSlice, vload, vlen, newRow, vfill, vslice, entOf, vappend, srcOf, vcopy, vlookup, vupdate, mapOk, keyOf, intsOf, clsAt]; try rfl)) (WkV.pure (by simp only [V.into])) ⟨by simp only [sCheck, hb1, sBad2, h1, h2, h12]; simp, rfl⟩
  simp only [gos, eq_self, Nat.reduceLT, Nat.reduceEqDiff, reduceCtorEq, reduceIte, ↓reduceIte, tt, vgo, vout, vguard, callOf, vop, ev, vload]
  refine Cl.pu (c_all_Rd _ [.agg c.cs] [] (fun r => sReading c r) c.readings hc.readings (by simp only [V.into, intoL, cu_into, Bool.and_true]) rfl fun x _ => c_reading1 c x) ?_ (by simp only [V.into, intoL, Bool.and_true]) (by simp only [V.into, intoL, vD_into, cu_into, Bool.and_true])
  cases h13 : c.readings.all fun r => sReading c r
  · simp only [gos, eq_self, Nat.reduceLT, Nat.reduceEqDiff, reduceIte, ↓reduceIte, vgo, vout, vguard, callOf, vop, ev, cv]
    subst hQ
    exact FnPost.plain trivial (fun h2 e => by first | rfl | (simp only [Tryz.f113, vres, vresL, vres1, e _, gos, if_true, if_false, ne_eq, eq_self, Nat.reduceLT, Nat.reduceEqDiff, Nat.reduceAdd, Nat.reduceMul, Nat.reduceLeDiff, Nat.reduceBEq, reduceCtorEq, reduceIte, Array.toList, ↓reduceIte, tt, vgo, vout, vgoD, voutD, vclsOk, vids, mayWrite, V.ids, V.mids, vguard, callOf, vop, ev, cv, vbin, vint, isShift, isNilConst, vnil, isNilSlice, vload, vlen, newRow, vfill, vslice, entOf, vappend, srcOf, vcopy, vlookup, vupdate, mapOk, keyOf, intsOf, clsAt]; try rfl)) (WkV.pure (by simp only [V.into])) ⟨by simp only [sCheck, hb1, sBad2, h1, h2, h13]; simp, rfl⟩
  have hb2 : sBad2 c = false := by simp only [sBad2, h8, h9, h10, h11, h12, h13]; simp
  have hz := size_le h10
  simp only [gos, eq_self, Nat.reduceLT, Nat.reduceEqDiff, Nat.reduceLeDiff, reduceCtorEq, reduceIte, ↓reduceIte, tt, vgo, vout, vguard, callOf, vop, ev, vload]
  refine Cl.pu (c_size c.heat ⟨by omega, by omega⟩ ⟨by omega, by omega⟩) ?_
  simp only [gos, eq_self, Nat.reduceLT, Nat.reduceEqDiff, reduceCtorEq, reduceIte, ↓reduceIte, tt, vgo, vout, vguard, callOf, vop, ev, cv, vload, vlen, vR]
  have hall : ∀ r ∈ c.loss, sInside r 99 = true := by simpa using h12
  refine W.loop tabOk mixed (fun i : Nat => ([(4, vi (sManyL (sSize c.heat) (c.loss.take i))), (93, vR c.loss), (94, vi c.loss.length), (95, vi i)], [])) (fun i => c.loss.length - i) (fun i => i ≤ c.loss.length) 0 (by omega) (Wk.env (by simp [subE, Env.get, vR, sManyL])) ?_
  intro i hi
  by_cases hil : (i : Int) < c.loss.length
  · simp only [gos, eq_self, Nat.reduceLT, Nat.reduceEqDiff, Nat.reduceAdd, reduceCtorEq, reduceIte, ↓reduceIte, tt, vgo, vout, vguard, callOf, vop, ev, vbin, vint, isShift, isNilConst, vload, newRow, vR, hil, cR_at (Int.natCast_nonneg i) hil]
    have hr := size_le (hall _ (List.mem_of_getElem? (gR_get hil)))
    have hm := sManyL_le (n := sSize c.heat) ⟨by omega, by omega⟩ (l := c.loss.take i) fun r hr => hall r (List.mem_of_mem_take hr)
    refine Cl.pu (c_size (gR c.loss i) ⟨by omega, by omega⟩ ⟨by omega, by omega⟩) ?_
    have h0 : 0 ≤ sManyL (sSize c.heat) (c.loss.take i) * sSize (gR c.loss i) := Int.mul_nonneg (by omega) (by omega)
    have h100 : sManyL (sSize c.heat) (c.loss.take i) * sSize (gR c.loss i) ≤ 2001 * 100 := Int.mul_le_mul hm.2 hr.2.1 (by omega) (by omega)
    simp only [gos, eq_self, Nat.reduceLT, Nat.reduceEqDiff, Nat.reduceAdd, Nat.reduceMul, Nat.reduceLeDiff, reduceCtorEq, reduceIte, ↓reduceIte, tt, vgo, vout, vguard, callOf, vop, ev, cv, vbin, vint, isShift, isNilConst, vfill, i64_in (show -9223372036854775808 ≤ sManyL (sSize c.heat) (c.loss.take i) * sSize (gR c.loss i) by omega) (show sManyL (sSize c.heat) (c.loss.take i) * sSize (gR c.loss i) ≤ 9223372036854775807 by omega)]
    refine Cl.pu (c_min2 _ _) ?_
    simp only [gos, eq_self, Nat.reduceLT, Nat.reduceEqDiff, reduceIte, ↓reduceIte, vgo, vout, vguard, callOf, vop, ev, cv, vbin, vint, isShift, isNilConst]
    have := hc.loss
    exact Nx.mk (i + 1) (show c.loss.length - (i + 1) < c.loss.length - i by omega) (by omega) (Wk.forget (by simp [subE, Env.get, sManyL_succ hil, i64_succ (show (i : Int) < 9223372036854775807 by omega)]) (by simp [subH]) (fun j hp => by simp [orD, domP, Heap.get] at hp) (by simp only [intoE, V.into, cR_into, Bool.and_true]) rfl)
  · simp only [gos, eq_self, Nat.reduceLT, Nat.reduceEqDiff, reduceIte, ↓reduceIte, vgo, vout, vguard, callOf, vop, ev, cv, vbin, vint, isShift, isNilConst, vR, hil]
    have e : c.loss.take i = c.loss := List.take_of_length_le (by omega)
    rw [e]
    by_cases h14 : 2000 < sManyL (sSize c.heat) c.loss
    · simp only [gos, eq_self, Nat.reduceLT, reduceIte, ↓reduceIte, vgo, vout, vguard, callOf, vop, ev, cv, h14]
      subst hQ
      exact FnPost.plain trivial (fun h2 e => by first | rfl | (simp only [Tryz.f113, vres, vresL, vres1, e _, gos, if_true, if_false, ne_eq, eq_self, Nat.reduceLT, Nat.reduceEqDiff, Nat.reduceAdd, Nat.reduceMul, Nat.reduceLeDiff, Nat.reduceBEq, reduceCtorEq, reduceIte, Array.toList, ↓reduceIte, tt, vgo, vout, vgoD, voutD, vclsOk, vids, mayWrite, V.ids, V.mids, vguard, callOf, vop, ev, cv, vbin, vint, isShift, isNilConst, vnil, isNilSlice, vload, vlen, newRow, vfill, vslice, entOf, vappend, srcOf, vcopy, vlookup, vupdate, mapOk, keyOf, intsOf, clsAt]; try rfl)) (WkV.pure (by simp only [V.into])) ⟨by simp [sCheck, hb1, hb2, h1, h2, sMany, h14], rfl⟩
    · simp only [gos, eq_self, Nat.reduceLT, reduceIte, ↓reduceIte, vgo, vout, vguard, callOf, vop, ev, cv, h14]
      subst hQ
      exact FnPost.plain trivial (fun h2 e => by first | rfl | (simp only [Tryz.f113, vres, vresL, vres1, e _, gos, if_true, if_false, ne_eq, eq_self, Nat.reduceLT, Nat.reduceEqDiff, Nat.reduceAdd, Nat.reduceMul, Nat.reduceLeDiff, Nat.reduceBEq, reduceCtorEq, reduceIte, Array.toList, ↓reduceIte, tt, vgo, vout, vgoD, voutD, vclsOk, vids, mayWrite, V.ids, V.mids, vguard, callOf, vop, ev, cv, vbin, vint, isShift, isNilConst, vnil, isNilSlice, vload, vlen, newRow, vfill, vslice, entOf, vappend, srcOf, vcopy, vlookup, vupdate, mapOk, keyOf, intsOf, clsAt]; try rfl)) (WkV.pure (by simp only [V.into])) ⟨by simp [sCheck, hb1, hb2, h1, h2, sMany, h14], rfl⟩
end Go.Vm

set_option linter.unusedVariables false
set_option linter.unusedSimpArgs false
set_option maxRecDepth 100000
namespace Go.Vm
open Go.Proofs
structure Past where
  hot : List Int
  left : List Int
  kept : List Bool
/-- What is in the first hours: the heat, and the lists. -/
def sPlay (c : Cu) (s : Sc) (coal want : List Int) : Nat → Int × Past
  | 0 => (c.start, ⟨[], [], []⟩)
  | i + 1 =>
    let (h, p) := sPlay c s coal want i
    let h1 := max 0 (min c.most (h + gi coal i * s.heat) - gi s.loss i)
    let k := decide (gi want i ≤ h1.tdiv c.per)
    let h2 := if k then h1 - gi want i * c.per else 0
    (h2, ⟨p.hot ++ [h1.tdiv c.per], p.left ++ [h2], p.kept ++ [k]⟩)
structure PlayOk (c : Cu) (s : Sc) (coal want : List Int) : Prop where
  last : 0 ≤ c.last ∧ c.last ≤ 4
  most : 0 ≤ c.most ∧ c.most ≤ 999
  start : 0 ≤ c.start ∧ c.start ≤ c.most
  per : 1 ≤ c.per ∧ c.per ≤ 20
  heat : 0 ≤ s.heat ∧ s.heat ≤ 99
  loss : s.loss.length = 5 ∧ ∀ x ∈ s.loss, 0 ≤ x ∧ x ≤ 99
  coal : (coal.length : Int) = c.last + 1 ∧ ∀ x ∈ coal, 0 ≤ x ∧ x ≤ 3
  want : (want.length : Int) = c.last + 1 ∧ ∀ x ∈ want, 0 ≤ x ∧ x ≤ 40
theorem gi_mem {l : List Int} {i : Nat} (h : i < l.length) : gi l i ∈ l := by
  rw [gi, Int.toNat_natCast, List.getD_eq_getElem?_getD, List.getElem?_eq_getElem h]; exact List.getElem_mem _
theorem sPlay_inv {c : Cu} {s : Sc} {coal want : List Int} (k : PlayOk c s coal want) : ∀ i : Nat, (i : Int) ≤ c.last + 1 →
    0 ≤ (sPlay c s coal want i).1 ∧ (sPlay c s coal want i).1 ≤ 999 ∧ (sPlay c s coal want i).2.hot.length = i ∧ (sPlay c s coal want i).2.left.length = i ∧ (sPlay c s coal want i).2.kept.length = i
  | 0, _ => ⟨k.start.1, by have := k.start; have := k.most; simp only [sPlay]; omega, rfl, rfl, rfl⟩
  | i + 1, hi => by
    obtain ⟨h1, h2, h3, h4, h5⟩ := sPlay_inv k i (by omega)
    simp only [sPlay, List.length_append, List.length_singleton, h3, h4, h5, and_true]
    have := k.most
    have hl := (k.loss.2 _ (gi_mem (l := s.loss) (i := i) (by have := k.loss.1; have := k.last; omega)))
    have hw := (k.want.2 _ (gi_mem (l := want) (i := i) (by have := k.want.1; omega)))
    split
    · rename_i hd
      simp only [decide_eq_true_eq] at hd
      generalize hx : max 0 (min c.most ((sPlay c s coal want i).1 + gi coal i * s.heat) - gi s.loss i) = x at hd ⊢
      have hx0 : 0 ≤ x := by omega
      rw [Int.tdiv_eq_ediv_of_nonneg hx0] at hd
      have := Int.mul_le_of_le_ediv (by have := k.per; omega) hd
      have : 0 ≤ gi want i * c.per := Int.mul_nonneg hw.1 (by have := k.per; omega)
      omega
    · omega
def plSt (c : Cu) (s : Sc) (coal want : List Int) (i : Nat) : Env × Heap :=
  ([(9, vi (sPlay c s coal want i).1), (17, vi (c.last + 1)), (18, vi i), (4, .rop c.cs), (5, .rop s.cs), (2, vI coal), (3, vI want), (8, .ptr 8 0 0)],
   [(8, ⟨0, .row [.own 64 i 0 1 i, .own 69 i 0 1 i, .own 74 i 0 1 i]⟩), (64, ⟨i, .row (cI (sPlay c s coal want i).2.hot)⟩), (69, ⟨i, .row (cI (sPlay c s coal want i).2.left)⟩), (74, ⟨i, .row (cB (sPlay c s coal want i).2.kept)⟩)])
theorem wk_past (i : Nat) (H L : List Int) (K : List Bool) (h1 : H.length = i) (h2 : L.length = i) (h3 : K.length = i) :
    WkV (domP []) (.agg [.own 64 i 0 1 i, .own 69 i 0 1 i, .own 74 i 0 1 i]) [(8, ⟨0, .row [.own 64 i 0 1 i, .own 69 i 0 1 i, .own 74 i 0 1 i]⟩), (64, ⟨i, .row (cI H)⟩), (69, ⟨i, .row (cI L)⟩), (74, ⟨i, .row (cB K)⟩)] (.agg [vI H, vI L, vB K]) [] := by
  have e1 : (cI H).take i = cI H := by rw [← h1]; exact cI_take H
  have e2 : (cI L).take i = cI L := by rw [← h2]; exact cI_take L
  have e3 : (cB K).take i = cB K := by rw [← h3]; exact cB_take K
  refine WkV.frz 64 (v' := .agg [.ro i (cI H), .own 69 i 0 1 i, .own 74 i 0 1 i]) (h' := [(8, ⟨0, .row [.ro i (cI H), .own 69 i 0 1 i, .own 74 i 0 1 i]⟩), (69, ⟨i, .row (cI L)⟩), (74, ⟨i, .row (cB K)⟩)]) (ver := i) (cs := cI H) rfl rfl (cI_into _ _) rfl ?_ ?_ ?_
  · simp [V.frz, frzL, e1]
  · simp [frzH, Blk.frz, V.frz, frzL, e1, cI_frz, cB_frz]
  refine WkV.frz 69 (v' := .agg [.ro i (cI H), .ro i (cI L), .own 74 i 0 1 i]) (h' := [(8, ⟨0, .row [.ro i (cI H), .ro i (cI L), .own 74 i 0 1 i]⟩), (74, ⟨i, .row (cB K)⟩)]) (ver := i) (cs := cI L) rfl rfl (cI_into _ _) rfl ?_ ?_ ?_
  · simp [V.frz, frzL, e2, cI_frz]
  · simp [frzH, Blk.frz, V.frz, frzL, e2, cI_frz, cB_frz]
  refine WkV.frz 74 (v' := .agg [.ro i (cI H), .ro i (cI L), .ro i (cB K)]) (h' := [(8, ⟨0, .row [.ro i (cI H), .ro i (cI L), .ro i (cB K)]⟩)]) (ver := i) (cs := cB K) rfl rfl (cB_into _ _) rfl ?_ ?_ ?_
  · simp [V.frz, frzL, e3, cI_frz]
  · simp [frzH, Blk.frz, V.frz, frzL, e3, cI_frz]
  have : V.agg [vI H, vI L, vB K] = .agg [.ro i (cI H), .ro i (cI L), .ro i (cB K)] := by simp only [vI, vB, h1, h2, h3]
  rw [this]
  exact WkV.pure (by simp only [V.into, intoL, cB_into, cI_into, Bool.and_true])
set_option maxHeartbeats 2000000 in
theorem c_play (c : Cu) (s : Sc) (coal want : List Int) (k : PlayOk c s coal want) : Pu Tryz.prog (.fn 115 [] []) [.agg c.cs, .agg s.cs, vI coal, vI want]
    (.agg [vI (sPlay c s coal want (c.last + 1).toNat).2.hot, vI (sPlay c s coal want (c.last + 1).toNat).2.left, vB (sPlay c s coal want (c.last + 1).toNat).2.kept]) := by
  refine Ev.fn Tryz.func115 rfl rfl (Fn.body tabOk Tryz.func115 rfl (Nat.le_of_ble_eq_true rfl) (Ks.ok (fz := (fzn [8])) (cl := (cln [(5, .d tg0 [cP, cP, cP, cP, cP, cP, cP, cP, cP, cP, cP, cP, cP, cP, cP, cP, cP, cP, cP, cP]), (9, .d tg0 [cP, cP, cP, cP, cP, cP, cP, cP, cP, cP]), (11, .d (tgL [(64, 1), (69, 2), (74, 3)]) [cP, cL, cP, cP, some ([1], [1]), cP, cL, cP, cP, some ([2], [2]), cP, cL, cP, cP, some ([3], [3]), cP, cW, cP, cW, cP, cW])])) tabOk mixed ?_))
  generalize hQ : FnPost tt Tryz.f115 _ _ = Q
  simp only [Tryz.f115, List.nil_append, List.append_nil, argsEnv, Nat.reduceAdd]
  have hl := k.last
  simp only [gos, eq_self, Nat.reduceLT, Nat.reduceEqDiff, reduceCtorEq, reduceIte, ↓reduceIte, tt, vgo, vout, vguard, callOf, vop, ev, cv, vbin, vint, isShift, isNilConst, vload, newRow, i64_in (show -9223372036854775808 ≤ c.last + 1 by omega) (show c.last + 1 ≤ 9223372036854775807 by omega)]
  refine W.loop tabOk mixed (plSt c s coal want) (fun i => (c.last + 1).toNat - i) (fun i => (i : Int) ≤ c.last + 1) 0 (by omega) (Wk.trans (Wk.sl0H 8 0 64 1 rfl rfl rfl) (Wk.trans (Wk.sl0H 8 1 69 1 rfl rfl rfl) (Wk.trans (Wk.sl0H 8 2 74 1 rfl rfl rfl) (Wk.env ?_)))) ?_
  · simp [subE, Env.get, plSt, sPlay]
  intro i hi
  by_cases hil : (i : Int) < c.last + 1
  · have hci : (i : Int) < coal.length := by have := k.coal.1; omega
    have hwi : (i : Int) < want.length := by have := k.want.1; omega
    have hsi : (i : Int) < s.loss.length := by have := k.loss.1; omega
    have hs5 : (i : Int) < ((5 : Nat) : Int) := by omega
    obtain ⟨p1, p2, p3, p4, p5⟩ := sPlay_inv k i hi
    have hc3 := k.coal.2 _ (gi_mem (l := coal) (i := i) (by omega))
    have hw3 := k.want.2 _ (gi_mem (l := want) (i := i) (by omega))
    have hl3 := k.loss.2 _ (gi_mem (l := s.loss) (i := i) (by omega))
    have hh := k.heat
    have hpe := k.per
    have hmo := k.most
    have m0 : 0 ≤ gi coal i * s.heat := Int.mul_nonneg hc3.1 hh.1
    have m1 : gi coal i * s.heat ≤ 3 * 99 := Int.mul_le_mul hc3.2 hh.2 hh.1 (by omega)
    simp only [gos, eq_self, Nat.reduceLT, Nat.reduceEqDiff, reduceIte, ↓reduceIte, vgo, vout, vguard, callOf, vop, ev, vbin, vint, isShift, isNilConst, plSt, hil]
    refine Wr.draw (by kernel_rfl) ?_
    simp only [gos, eq_self, Nat.reduceLT, Nat.reduceEqDiff, Nat.reduceAdd, Nat.reduceMul, Nat.reduceLeDiff, reduceCtorEq, reduceIte, ↓reduceIte, tt, vgoD, voutD, vclsOk, vids, mayWrite, V.ids, vguard, callOf, vop, ev, vbin, vint, isShift, isNilConst, vload, vfill, clsAt, vI, Sc.cs, hci, cI_at (Int.natCast_nonneg i) hci,
      i64_in (show -9223372036854775808 ≤ gi coal i * s.heat by omega) (show gi coal i * s.heat ≤ 9223372036854775807 by omega),
      i64_in (show -9223372036854775808 ≤ (sPlay c s coal want i).1 + gi coal i * s.heat by omega) (show (sPlay c s coal want i).1 + gi coal i * s.heat ≤ 9223372036854775807 by omega)]
    refine CD.pu (c_min2 _ _) ?_
    simp only [gos, eq_self, Nat.reduceLT, Nat.reduceEqDiff, reduceCtorEq, reduceIte, ↓reduceIte, tt, vgo, vout, vgoD, voutD, vclsOk, vids, mayWrite, V.ids, vguard, callOf, vop, ev, cv, vbin, vint, isShift, isNilConst, vload, hs5, cI_at (Int.natCast_nonneg i) hsi,
      i64_in (show -9223372036854775808 ≤ min c.most ((sPlay c s coal want i).1 + gi coal i * s.heat) - gi s.loss i by omega) (show min c.most ((sPlay c s coal want i).1 + gi coal i * s.heat) - gi s.loss i ≤ 9223372036854775807 by omega)]
    have hnext : sPlay c s coal want (i + 1) = sPlay c s coal want (i + 1) := rfl
    conv at hnext => rhs; simp only [sPlay]
    generalize hx : max 0 (min c.most ((sPlay c s coal want i).1 + gi coal i * s.heat) - gi s.loss i) = x at hnext ⊢
    have hx0 : 0 ≤ x := by omega
    have hx9 : x ≤ 999 := by omega
    have hper : ¬ c.per = 0 := by omega
    have hd0 : 0 ≤ x.tdiv c.per := Int.tdiv_nonneg hx0 (by omega)
    have hd9 : x.tdiv c.per ≤ 999 := by
      have := Int.tdiv_le_self c.per hx0
      omega
    have hwm0 : 0 ≤ gi want i * c.per := Int.mul_nonneg hw3.1 (by omega)
    have hwm : gi want i * c.per ≤ 40 * 20 := Int.mul_le_mul hw3.2 hpe.2 (by omega) (by omega)
    by_cases hk : gi want i ≤ x.tdiv c.per
    · simp only [gos, eq_self, Nat.reduceLT, Nat.reduceEqDiff, reduceCtorEq, reduceIte, ↓reduceIte, tt, vgo, vout, vguard, callOf, vop, ev, vbin, vint, isShift, isNilConst, vload, hwi, hper, cI_at (Int.natCast_nonneg i) hwi, hk, i64_in (show -9223372036854775808 ≤ x.tdiv c.per by omega) (show x.tdiv c.per ≤ 9223372036854775807 by omega)]
      refine Wr.draw (by kernel_rfl) ?_
      simp only [gos, eq_self, Nat.reduceLT, Nat.reduceEqDiff, Nat.reduceAdd, reduceCtorEq, reduceIte, ↓reduceIte, tt, vgoD, voutD, vclsOk, vids, mayWrite, V.ids, vguard, callOf, vop, ev, vbin, vint, isShift, isNilConst, vload, clsAt, hwi, cI_at (Int.natCast_nonneg i) hwi, i64_in (show -9223372036854775808 ≤ gi want i * c.per by omega) (show gi want i * c.per ≤ 9223372036854775807 by omega), i64_in (show -9223372036854775808 ≤ x - gi want i * c.per by omega) (show x - gi want i * c.per ≤ 9223372036854775807 by omega)]
      refine Wr.draw (by kernel_rfl) ?_
      simp only [gos, eq_self, Nat.reduceLT, Nat.reduceEqDiff, Nat.reduceAdd, Nat.reduceLeDiff, reduceCtorEq, reduceIte, ↓reduceIte, tt, vgo, vout, vgoD, voutD, vclsOk, vids, mayWrite, V.ids, vguard, callOf, vop, ev, cv, vbin, vint, isShift, isNilConst, vload, vfill, vappend, srcOf, clsAt, Nat.mul_one, cI_len, p3, p4, p5, cB_len, show i + 1 ≤ 1000000 by omega]
      refine Nx.mk (i + 1) (show (c.last + 1).toNat - (i + 1) < (c.last + 1).toNat - i by omega) (by omega) ?_
      simp only [plSt, hnext, hk, cI_snoc, cB_snoc, decide_true, if_true]
      exact Wk.env (by simp [subE, Env.get, vI, Sc.cs, i64_succ (show (i : Int) < 9223372036854775807 by omega)])
    · simp only [gos, eq_self, Nat.reduceLT, Nat.reduceEqDiff, reduceCtorEq, reduceIte, ↓reduceIte, tt, vgo, vout, vguard, callOf, vop, ev, cv, vbin, vint, isShift, isNilConst, vload, hwi, hper, cI_at (Int.natCast_nonneg i) hwi, hk, i64_in (show -9223372036854775808 ≤ x.tdiv c.per by omega) (show x.tdiv c.per ≤ 9223372036854775807 by omega)]
      refine Wr.draw (by kernel_rfl) ?_
      simp only [gos, eq_self, Nat.reduceLT, Nat.reduceEqDiff, Nat.reduceAdd, Nat.reduceLeDiff, reduceCtorEq, reduceIte, ↓reduceIte, tt, vgo, vout, vgoD, voutD, vclsOk, vids, mayWrite, V.ids, vguard, callOf, vop, ev, cv, vbin, vint, isShift, isNilConst, vload, vfill, vappend, srcOf, clsAt, Nat.mul_one, cI_len, p3, p4, p5, cB_len, show i + 1 ≤ 1000000 by omega]
      refine Nx.mk (i + 1) (show (c.last + 1).toNat - (i + 1) < (c.last + 1).toNat - i by omega) (by omega) ?_
      simp only [plSt, hnext, hk, cI_snoc, cB_snoc, decide_false, Bool.false_eq_true, if_false]
      exact Wk.env (by simp [subE, Env.get, vI, Sc.cs, i64_succ (show (i : Int) < 9223372036854775807 by omega)])
  · have hie : (c.last + 1).toNat = i := by omega
    obtain ⟨p1, p2, p3, p4, p5⟩ := sPlay_inv k i hi
    simp only [gos, eq_self, Nat.reduceLT, Nat.reduceEqDiff, Nat.reduceAdd, reduceCtorEq, reduceIte, ↓reduceIte, tt, vgo, vout, vguard, callOf, vop, ev, vbin, vint, isShift, isNilConst, vload, plSt, hil]
    subst hQ
    rw [hie]
    exact FnPost.plain trivial (v := .agg [.own 64 i 0 1 i, .own 69 i 0 1 i, .own 74 i 0 1 i]) (fun h2 e => by simp only [Tryz.f115, vres, vresL, vres1, e _, gos, eq_self, Nat.reduceLT, Nat.reduceEqDiff, Nat.reduceAdd, reduceCtorEq, reduceIte, ↓reduceIte, tt, vload]) (wk_past i _ _ _ p3 p4 p5) ⟨rfl, rfl⟩
end Go.Vm

set_option linter.unusedVariables false
set_option linter.unusedSimpArgs false
set_option maxRecDepth 100000
namespace Go.Vm
open Go.Proofs
theorem c_IndexB (l : List Bool) (x : Bool) (hl : (l.length : Int) ≤ 1000000) : Pu Tryz.prog (.fn 181 [] []) [vB l, .bool x] (vi (sIdx (fun y => decide (x = y)) l)) := by
  refine Ev.fn Tryz.func181 rfl rfl (Fn.body tabOk Tryz.func181 rfl (Nat.le_of_ble_eq_true rfl) (Ks.ok (fz := (fzn [])) (cl := (cln [])) tabOk mixed ?_))
  generalize hQ : FnPost tt Tryz.f181 _ _ = Q
  simp only [Tryz.f181, List.nil_append, List.append_nil, argsEnv, Nat.reduceAdd]
  simp only [gos, eq_self, Nat.reduceLT, reduceCtorEq, reduceIte, ↓reduceIte, tt, vgo, vout, vguard, callOf, vop, ev, cv, vlen, vB]
  refine W.loop tabOk mixed (fun i : Nat => ([(0, vB l), (1, .bool x), (7, vi l.length), (8, vi i)], [])) (fun i => l.length - i) (fun i => i ≤ l.length ∧ ∀ (j : Nat) y, j < i → l[j]? = some y → decide (x = y) = false) 0 ⟨by omega, by omega⟩ (Wk.env (by simp [subE, Env.get, vB])) ?_
  rintro i ⟨hi, hj⟩
  by_cases hil : (i : Int) < l.length
  · cases hf : decide (x = gB l i)
    · simp only [gos, eq_self, Nat.reduceLT, Nat.reduceEqDiff, reduceCtorEq, reduceIte, ↓reduceIte, tt, vgo, vout, vguard, callOf, vop, ev, cv, vbin, vint, isShift, isNilConst, vload, vB, hil, cB_at (Int.natCast_nonneg i) hil, hf]
      refine Nx.mk (i + 1) (show l.length - (i + 1) < l.length - i by omega) ⟨by omega, fun j y hlt hy => ?_⟩ (Wk.env (by simp [subE, Env.get, i64_succ (show (i : Int) < 9223372036854775807 by omega)]))
      rcases Nat.lt_or_eq_of_le (Nat.le_of_lt_succ hlt) with h | rfl
      · exact hj j y h hy
      · rw [gB_get hil] at hy; injection hy with hy; rw [← hy]; exact hf
    · simp only [gos, eq_self, Nat.reduceLT, Nat.reduceEqDiff, reduceCtorEq, reduceIte, ↓reduceIte, tt, vgo, vout, vguard, callOf, vop, ev, vbin, vint, isShift, isNilConst, vload, vB, hil, cB_at (Int.natCast_nonneg i) hil, hf]
      subst hQ
      exact FnPost.plain trivial (fun h2 e => by first | rfl | (simp only [Tryz.f181, vres, vresL, vres1, e _, gos, if_true, if_false, ne_eq, eq_self, Nat.reduceLT, Nat.reduceEqDiff, Nat.reduceAdd, Nat.reduceMul, Nat.reduceLeDiff, Nat.reduceBEq, reduceCtorEq, reduceIte, Array.toList, ↓reduceIte, tt, vgo, vout, vgoD, voutD, vclsOk, vids, mayWrite, V.ids, V.mids, vguard, callOf, vop, ev, cv, vbin, vint, isShift, isNilConst, vnil, isNilSlice, vload, vlen, newRow, vfill, vslice, entOf, vappend, srcOf, vcopy, vlookup, vupdate, mapOk, keyOf, intsOf, clsAt]; try rfl)) (WkV.pure (by simp only [V.into])) ⟨by rw [sIdx_some (f := fun y => decide (x = y)) (gB_get hil) hf hj], rfl⟩
  · simp only [gos, eq_self, Nat.reduceLT, Nat.reduceEqDiff, reduceCtorEq, reduceIte, ↓reduceIte, vgo, vout, vguard, callOf, vop, ev, cv, vbin, vint, isShift, isNilConst, vB, hil]
    subst hQ
    exact FnPost.plain trivial (fun h2 e => by first | rfl | (simp only [Tryz.f181, vres, vresL, vres1, e _, gos, if_true, if_false, ne_eq, eq_self, Nat.reduceLT, Nat.reduceEqDiff, Nat.reduceAdd, Nat.reduceMul, Nat.reduceLeDiff, Nat.reduceBEq, reduceCtorEq, reduceIte, Array.toList, ↓reduceIte, tt, vgo, vout, vgoD, voutD, vclsOk, vids, mayWrite, V.ids, V.mids, vguard, callOf, vop, ev, cv, vbin, vint, isShift, isNilConst, vnil, isNilSlice, vload, vlen, newRow, vfill, vslice, entOf, vappend, srcOf, vcopy, vlookup, vupdate, mapOk, keyOf, intsOf, clsAt]; try rfl)) (WkV.pure (by simp only [V.into])) ⟨by rw [sIdx_none (f := fun y => decide (x = y)) fun j y hy => hj j y (by have := (List.getElem?_eq_some_iff.1 hy).1; omega) hy], rfl⟩
theorem c_ContainsB (l : List Bool) (x : Bool) (hl : (l.length : Int) ≤ 1000000) : Pu Tryz.prog (.fn 167 [] []) [vB l, .bool x] (.bool (l.any fun y => decide (x = y))) := by
  refine Ev.fn Tryz.func167 rfl rfl (Fn.body tabOk Tryz.func167 rfl (Nat.le_of_ble_eq_true rfl) (Ks.ok (fz := (fzn [])) (cl := (cln [])) tabOk mixed ?_))
  generalize hQ : FnPost tt Tryz.f167 _ _ = Q
  simp only [Tryz.f167, List.nil_append, List.append_nil, argsEnv, Nat.reduceAdd]
  simp only [gos, eq_self, Nat.reduceLT, Nat.reduceEqDiff, reduceCtorEq, reduceIte, ↓reduceIte, vgo, vout, vguard, callOf, vop, ev, cv]
  refine Cl.pu (c_IndexB l x hl) ?_ rfl (by simp only [V.into, intoL, vB_into, Bool.and_true])
  simp only [gos, eq_self, Nat.reduceLT, reduceIte, ↓reduceIte, vgo, vout, vguard, callOf, vop, ev, cv, vbin, vint, isShift, isNilConst]
  subst hQ
  exact FnPost.plain trivial (fun h2 e => by first | rfl | (simp only [Tryz.f167, vres, vresL, vres1, e _, gos, if_true, if_false, ne_eq, eq_self, Nat.reduceLT, Nat.reduceEqDiff, Nat.reduceAdd, Nat.reduceMul, Nat.reduceLeDiff, Nat.reduceBEq, reduceCtorEq, reduceIte, Array.toList, ↓reduceIte, tt, vgo, vout, vgoD, voutD, vclsOk, vids, mayWrite, V.ids, V.mids, vguard, callOf, vop, ev, cv, vbin, vint, isShift, isNilConst, vnil, isNilSlice, vload, vlen, newRow, vfill, vslice, entOf, vappend, srcOf, vcopy, vlookup, vupdate, mapOk, keyOf, intsOf, clsAt]; try rfl)) (WkV.pure (by simp only [V.into])) ⟨by rw [← sIdx_any], rfl⟩
def Past.cs (p : Past) : List V := [vI p.hot, vI p.left, vB p.kept]
theorem c_pbuckets (p : Past) (i : Int) (h0 : 0 ≤ i) (h : i < p.hot.length) : Pu Tryz.prog (.fn 127 [] []) [.agg p.cs, vi i] (vi (gi p.hot i)) := by
  refine Ev.fn Tryz.func127 rfl rfl (Fn.body tabOk Tryz.func127 rfl (Nat.le_of_ble_eq_true rfl) (Ks.ok (fz := (fzn [])) (cl := (cln [])) tabOk mixed ?_))
  generalize hQ : FnPost tt Tryz.f127 _ _ = Q
  simp only [Tryz.f127, List.nil_append, List.append_nil, argsEnv, Nat.reduceAdd]
  simp only [gos, eq_self, Nat.reduceLT, Nat.reduceEqDiff, reduceCtorEq, reduceIte, ↓reduceIte, tt, vgo, vout, vguard, callOf, vop, ev, cv, vload, newRow, Past.cs, vI, h0, h, cI_at h0 h]
  subst hQ
  exact FnPost.plain trivial (fun h2 e => by first | rfl | (simp only [Tryz.f127, vres, vresL, vres1, e _, gos, if_true, if_false, ne_eq, eq_self, Nat.reduceLT, Nat.reduceEqDiff, Nat.reduceAdd, Nat.reduceMul, Nat.reduceLeDiff, Nat.reduceBEq, reduceCtorEq, reduceIte, Array.toList, ↓reduceIte, tt, vgo, vout, vgoD, voutD, vclsOk, vids, mayWrite, V.ids, V.mids, vguard, callOf, vop, ev, cv, vbin, vint, isShift, isNilConst, vnil, isNilSlice, vload, vlen, newRow, vfill, vslice, entOf, vappend, srcOf, vcopy, vlookup, vupdate, mapOk, keyOf, intsOf, clsAt]; try rfl)) (WkV.pure (by simp only [V.into])) ⟨rfl, rfl⟩
theorem c_prest (p : Past) (i : Int) (h0 : 0 ≤ i) (h : i < p.left.length) : Pu Tryz.prog (.fn 129 [] []) [.agg p.cs, vi i] (vi (gi p.left i)) := by
  refine Ev.fn Tryz.func129 rfl rfl (Fn.body tabOk Tryz.func129 rfl (Nat.le_of_ble_eq_true rfl) (Ks.ok (fz := (fzn [])) (cl := (cln [])) tabOk mixed ?_))
  generalize hQ : FnPost tt Tryz.f129 _ _ = Q
  simp only [Tryz.f129, List.nil_append, List.append_nil, argsEnv, Nat.reduceAdd]
  simp only [gos, eq_self, Nat.reduceLT, Nat.reduceEqDiff, reduceCtorEq, reduceIte, ↓reduceIte, tt, vgo, vout, vguard, callOf, vop, ev, cv, vload, newRow, Past.cs, vI, h0, h, cI_at h0 h]
  subst hQ
  exact FnPost.plain trivial (fun h2 e => by first | rfl | (simp only [Tryz.f129, vres, vresL, vres1, e _, gos, if_true, if_false, ne_eq, eq_self, Nat.reduceLT, Nat.reduceEqDiff, Nat.reduceAdd, Nat.reduceMul, Nat.reduceLeDiff, Nat.reduceBEq, reduceCtorEq, reduceIte, Array.toList, ↓reduceIte, tt, vgo, vout, vgoD, voutD, vclsOk, vids, mayWrite, V.ids, V.mids, vguard, callOf, vop, ev, cv, vbin, vint, isShift, isNilConst, vnil, isNilSlice, vload, vlen, newRow, vfill, vslice, entOf, vappend, srcOf, vcopy, vlookup, vupdate, mapOk, keyOf, intsOf, clsAt]; try rfl)) (WkV.pure (by simp only [V.into])) ⟨rfl, rfl⟩
theorem c_pwhole (p : Past) (i : Int) (h : (p.kept.length : Int) ≤ 1000000) : Pu Tryz.prog (.fn 149 [] []) [.agg p.cs, vi i] (vi (if p.kept.any fun y => decide (false = y) then 0 else 1)) := by
  refine Ev.fn Tryz.func149 rfl rfl (Fn.body tabOk Tryz.func149 rfl (Nat.le_of_ble_eq_true rfl) (Ks.ok (fz := (fzn [])) (cl := (cln [])) tabOk mixed ?_))
  generalize hQ : FnPost tt Tryz.f149 _ _ = Q
  simp only [Tryz.f149, List.nil_append, List.append_nil, argsEnv, Nat.reduceAdd]
  simp only [gos, eq_self, Nat.reduceLT, Nat.reduceEqDiff, reduceCtorEq, reduceIte, ↓reduceIte, tt, vgo, vout, vguard, callOf, vop, ev, cv, vload, newRow, Past.cs]
  refine Cl.pu (c_ContainsB p.kept false h) ?_ rfl (by simp only [V.into, intoL, vB_into, Bool.and_true])
  cases hb : p.kept.any fun y => decide (false = y)
  · simp only [gos, eq_self, Nat.reduceLT, reduceIte, ↓reduceIte, vgo, vout, vguard, callOf, vop, ev, cv]
    subst hQ
    exact FnPost.plain trivial (fun h2 e => by first | rfl | (simp only [Tryz.f149, vres, vresL, vres1, e _, gos, if_true, if_false, ne_eq, eq_self, Nat.reduceLT, Nat.reduceEqDiff, Nat.reduceAdd, Nat.reduceMul, Nat.reduceLeDiff, Nat.reduceBEq, reduceCtorEq, reduceIte, Array.toList, ↓reduceIte, tt, vgo, vout, vgoD, voutD, vclsOk, vids, mayWrite, V.ids, V.mids, vguard, callOf, vop, ev, cv, vbin, vint, isShift, isNilConst, vnil, isNilSlice, vload, vlen, newRow, vfill, vslice, entOf, vappend, srcOf, vcopy, vlookup, vupdate, mapOk, keyOf, intsOf, clsAt]; try rfl)) (WkV.pure (by simp only [V.into])) ⟨by rw [hb]; rfl, rfl⟩
  · simp only [gos, eq_self, Nat.reduceLT, reduceIte, ↓reduceIte, vgo, vout, vguard, callOf, vop, ev, cv]
    subst hQ
    exact FnPost.plain trivial (fun h2 e => by first | rfl | (simp only [Tryz.f149, vres, vresL, vres1, e _, gos, if_true, if_false, ne_eq, eq_self, Nat.reduceLT, Nat.reduceEqDiff, Nat.reduceAdd, Nat.reduceMul, Nat.reduceLeDiff, Nat.reduceBEq, reduceCtorEq, reduceIte, Array.toList, ↓reduceIte, tt, vgo, vout, vgoD, voutD, vclsOk, vids, mayWrite, V.ids, V.mids, vguard, callOf, vop, ev, cv, vbin, vint, isShift, isNilConst, vnil, isNilSlice, vload, vlen, newRow, vfill, vslice, entOf, vappend, srcOf, vcopy, vlookup, vupdate, mapOk, keyOf, intsOf, clsAt]; try rfl)) (WkV.pure (by simp only [V.into])) ⟨by rw [hb]; rfl, rfl⟩
def sVerdict (r : Rg) : Int := if 0 < r.lo then 1 else if r.hi = 0 then 2 else 3
theorem c_verdict (r : Rg) : Pu Tryz.prog (.fn 148 [] []) [.agg [vi r.lo, vi r.hi]] (vi (sVerdict r)) := by
  refine Ev.fn Tryz.func148 rfl rfl (Fn.body tabOk Tryz.func148 rfl (Nat.le_of_ble_eq_true rfl) (Ks.ok (fz := (fzn [])) (cl := (cln [])) tabOk mixed ?_))
  generalize hQ : FnPost tt Tryz.f148 _ _ = Q
  simp only [Tryz.f148, List.nil_append, List.append_nil, argsEnv]
  by_cases h1 : 0 < r.lo
  · simp only [gos, eq_self, Nat.reduceLT, Nat.reduceEqDiff, reduceCtorEq, reduceIte, ↓reduceIte, tt, vgo, vout, vguard, callOf, vop, ev, cv, vbin, vint, isShift, isNilConst, vload, newRow, h1]
    subst hQ
    exact FnPost.plain trivial (fun h2 e => by first | rfl | (simp only [Tryz.f148, vres, vresL, vres1, e _, gos, if_true, if_false, ne_eq, eq_self, Nat.reduceLT, Nat.reduceEqDiff, Nat.reduceAdd, Nat.reduceMul, Nat.reduceLeDiff, Nat.reduceBEq, reduceCtorEq, reduceIte, Array.toList, ↓reduceIte, tt, vgo, vout, vgoD, voutD, vclsOk, vids, mayWrite, V.ids, V.mids, vguard, callOf, vop, ev, cv, vbin, vint, isShift, isNilConst, vnil, isNilSlice, vload, vlen, newRow, vfill, vslice, entOf, vappend, srcOf, vcopy, vlookup, vupdate, mapOk, keyOf, intsOf, clsAt]; try rfl)) (WkV.pure (by simp only [V.into])) ⟨by simp [sVerdict, h1], rfl⟩
  · by_cases h2 : r.hi = 0
    · simp only [gos, eq_self, Nat.reduceLT, Nat.reduceEqDiff, reduceCtorEq, reduceIte, ↓reduceIte, tt, vgo, vout, vguard, callOf, vop, ev, cv, vbin, vint, isShift, isNilConst, vload, newRow, h1, h2]
      subst hQ
      exact FnPost.plain trivial (fun h2 e => by first | rfl | (simp only [Tryz.f148, vres, vresL, vres1, e _, gos, if_true, if_false, ne_eq, eq_self, Nat.reduceLT, Nat.reduceEqDiff, Nat.reduceAdd, Nat.reduceMul, Nat.reduceLeDiff, Nat.reduceBEq, reduceCtorEq, reduceIte, Array.toList, ↓reduceIte, tt, vgo, vout, vgoD, voutD, vclsOk, vids, mayWrite, V.ids, V.mids, vguard, callOf, vop, ev, cv, vbin, vint, isShift, isNilConst, vnil, isNilSlice, vload, vlen, newRow, vfill, vslice, entOf, vappend, srcOf, vcopy, vlookup, vupdate, mapOk, keyOf, intsOf, clsAt]; try rfl)) (WkV.pure (by simp only [V.into])) ⟨by simp [sVerdict, h1, h2], rfl⟩
    · simp only [gos, eq_self, Nat.reduceLT, Nat.reduceEqDiff, reduceCtorEq, reduceIte, ↓reduceIte, tt, vgo, vout, vguard, callOf, vop, ev, cv, vbin, vint, isShift, isNilConst, vload, newRow, h1, h2]
      subst hQ
      exact FnPost.plain trivial (fun h2 e => by first | rfl | (simp only [Tryz.f148, vres, vresL, vres1, e _, gos, if_true, if_false, ne_eq, eq_self, Nat.reduceLT, Nat.reduceEqDiff, Nat.reduceAdd, Nat.reduceMul, Nat.reduceLeDiff, Nat.reduceBEq, reduceCtorEq, reduceIte, Array.toList, ↓reduceIte, tt, vgo, vout, vgoD, voutD, vclsOk, vids, mayWrite, V.ids, V.mids, vguard, callOf, vop, ev, cv, vbin, vint, isShift, isNilConst, vnil, isNilSlice, vload, vlen, newRow, vfill, vslice, entOf, vappend, srcOf, vcopy, vlookup, vupdate, mapOk, keyOf, intsOf, clsAt]; try rfl)) (WkV.pure (by simp only [V.into])) ⟨by simp [sVerdict, h1, h2], rfl⟩
/-- Is a reading right, or left out? -/
def sRead1 (c : Cu) (s : Sc) (out : List Int) (i : Nat) : Bool :=
  (out.any fun y => decide ((i : Int) = y)) || sIn (gi (sPlay c s c.coal c.want (c.last + 1).toNat).2.hot (gD c.readings i).hour) (gD c.readings i).b.lo (gD c.readings i).b.hi
def sRight (c : Cu) (s : Sc) (out : List Int) : Bool := (List.range c.readings.length).all fun i => sRead1 c s out i
theorem sRight_false {c : Cu} {s : Sc} {out : List Int} {i : Nat} (h : i < c.readings.length) (hf : sRead1 c s out i = false) : sRight c s out = false := by
  rw [Bool.eq_false_iff]; intro ha
  simp only [sRight, List.all_eq_true, List.mem_range] at ha
  rw [ha i h] at hf; cases hf
theorem sRight_true {c : Cu} {s : Sc} {out : List Int} (hf : ∀ i, i < c.readings.length → sRead1 c s out i = true) : sRight c s out = true := by
  simp only [sRight, List.all_eq_true, List.mem_range]; exact hf
set_option maxHeartbeats 2000000 in
theorem c_right (c : Cu) (s : Sc) (out : List Int) (k : PlayOk c s c.coal c.want) (hr : ∀ r ∈ c.readings, 0 ≤ r.hour ∧ r.hour ≤ c.last) (hrl : (c.readings.length : Int) ≤ 1000000) (hol : (out.length : Int) ≤ 1000000) :
    Pu Tryz.prog (.fn 145 [] []) [.agg c.cs, .agg s.cs, vI out] (.bool (sRight c s out)) := by
  refine Ev.fn Tryz.func145 rfl rfl (Fn.body tabOk Tryz.func145 rfl (Nat.le_of_ble_eq_true rfl) (Ks.ok (fz := (fzn [7, 9])) (cl := (cln [(5, .d tg0 [cP, cP, cP, cP, cP, cP, cL, cP, cL, cP, cL, cP, cP, cP, cP, cP])])) tabOk mixed ?_))
  generalize hQ : FnPost tt Tryz.f145 _ _ = Q
  simp only [Tryz.f145, List.nil_append, List.append_nil, argsEnv, Nat.reduceAdd]
  have hk := sPlay_inv k (c.last + 1).toNat (by have := k.last; omega)
  have hsc : s.cs.length = 6 := by simp [Sc.cs, cI_len, k.loss.1]
  have hst : s.cs.take 6 = s.cs := List.take_of_length_le (by omega)
  simp only [gos, eq_self, Nat.reduceLT, Nat.reduceEqDiff, reduceCtorEq, reduceIte, ↓reduceIte, tt, vgo, vout, vguard, callOf, vop, ev, cv, vload, newRow, hsc, hst]
  refine Cl.pu (c_play c s c.coal c.want k) ?_ rfl (by simp only [V.into, intoL, cI_into, vI_into, cu_into, Bool.and_true, Sc.cs])
  generalize hp : (sPlay c s c.coal c.want (c.last + 1).toNat).2 = pa at hk ⊢
  simp only [gos, eq_self, Nat.reduceLT, Nat.reduceEqDiff, Nat.reduceAdd, reduceCtorEq, reduceIte, ↓reduceIte, tt, vgo, vout, vguard, callOf, vop, ev, cv, vload, vlen, newRow, vD]
  refine W.loop tabOk mixed (fun i : Nat => ([(18, vD c.readings), (19, vi c.readings.length), (20, vi i), (2, vI out), (7, .ptr 7 0 0)], [(7, ⟨0, .row [vI pa.hot, vI pa.left, vB pa.kept]⟩)])) (fun i => c.readings.length - i) (fun i => i ≤ c.readings.length ∧ ∀ j < i, sRead1 c s out j = true) 0 ⟨by omega, by omega⟩ (Wk.env (by simp [subE, Env.get, vD])) ?_
  rintro i ⟨hi, hj⟩
  by_cases hil : (i : Int) < c.readings.length
  · simp only [gos, eq_self, Nat.reduceLT, Nat.reduceEqDiff, Nat.reduceAdd, reduceCtorEq, reduceIte, ↓reduceIte, tt, vgo, vout, vguard, callOf, vop, ev, vbin, vint, isShift, isNilConst, vload, newRow, vD, hil, cD_at (Int.natCast_nonneg i) hil]
    have hrd := hr _ (List.mem_of_getElem? (gD_get hil))
    have hhl : (gD c.readings i).hour < pa.hot.length := by omega
    refine Wr.draw (by kernel_rfl) ?_
    simp only [gos, eq_self, Nat.reduceLT, Nat.reduceEqDiff, Nat.reduceAdd, reduceIte, ↓reduceIte, vgoD, voutD, vclsOk, vids, mayWrite, vguard, callOf, vop, ev, clsAt]
    refine CD.pu (c_Contains out i hol) ?_ rfl (by simp only [V.into, intoL, vI_into, Bool.and_true])
    cases h1 : out.any fun y => decide ((i : Int) = y)
    · simp only [gos, eq_self, Nat.reduceLT, Nat.reduceEqDiff, Nat.reduceAdd, reduceCtorEq, reduceIte, ↓reduceIte, tt, vgoD, voutD, vclsOk, vids, mayWrite, V.ids, vguard, callOf, vop, ev, vload, vI, hrd.1, hhl, cI_at hrd.1 hhl]
      refine CD.pu (c_has ⟨(gD c.readings i).b.lo, (gD c.readings i).b.hi⟩ _) ?_
      cases h2 : sIn (gi pa.hot (gD c.readings i).hour) (gD c.readings i).b.lo (gD c.readings i).b.hi
      · simp only [gos, eq_self, Nat.reduceLT, Nat.reduceEqDiff, reduceIte, ↓reduceIte, vgo, vout, vgoD, voutD, vclsOk, vids, mayWrite, vguard, callOf, vop, ev, cv]
        subst hQ
        exact FnPost.plain trivial (fun h2 e => by first | rfl | (simp only [Tryz.f145, vres, vresL, vres1, e _, gos, if_true, if_false, ne_eq, eq_self, Nat.reduceLT, Nat.reduceEqDiff, Nat.reduceAdd, Nat.reduceMul, Nat.reduceLeDiff, Nat.reduceBEq, reduceCtorEq, reduceIte, Array.toList, ↓reduceIte, tt, vgo, vout, vgoD, voutD, vclsOk, vids, mayWrite, V.ids, V.mids, vguard, callOf, vop, ev, cv, vbin, vint, isShift, isNilConst, vnil, isNilSlice, vload, vlen, newRow, vfill, vslice, entOf, vappend, srcOf, vcopy, vlookup, vupdate, mapOk, keyOf, intsOf, clsAt]; try rfl)) (WkV.pure (by simp only [V.into])) ⟨by rw [sRight_false (i := i) (by omega) (by simp only [sRead1, h1, hp, h2, Bool.or_self])], rfl⟩
      · simp only [gos, eq_self, Nat.reduceLT, Nat.reduceEqDiff, reduceIte, ↓reduceIte, vgo, vout, vgoD, voutD, vclsOk, vids, mayWrite, vguard, callOf, vop, ev, cv, vbin, vint, isShift, isNilConst]
        refine Nx.mk (i + 1) (show c.readings.length - (i + 1) < c.readings.length - i by omega) ⟨by omega, fun j hlt => ?_⟩ (Wk.forget (by simp [subE, Env.get, i64_succ (show (i : Int) < 9223372036854775807 by omega)]) (by simp [subH, Heap.get]) (fun j hp => by simp [orD, domP, Heap.get] at hp) (by simp only [intoE, V.into, cI_into, cD_into, Bool.true_and, Bool.and_true]; rfl) (by simp only [intoH, Blk.into, V.into, intoL, vB_into, cI_into, Bool.and_true]))
        rcases Nat.lt_or_eq_of_le (Nat.le_of_lt_succ hlt) with h | rfl
        · exact hj j h
        · simp only [sRead1, h1, hp, h2, Bool.false_or]
    · simp only [gos, eq_self, Nat.reduceLT, Nat.reduceEqDiff, reduceIte, ↓reduceIte, vgo, vout, vgoD, voutD, vclsOk, vids, mayWrite, vguard, callOf, vop, ev, cv, vbin, vint, isShift, isNilConst]
      refine Nx.mk (i + 1) (show c.readings.length - (i + 1) < c.readings.length - i by omega) ⟨by omega, fun j hlt => ?_⟩ (Wk.forget (by simp [subE, Env.get, vI, i64_succ (show (i : Int) < 9223372036854775807 by omega)]) (by simp [subH, Heap.get, vI]) (fun j hp => by simp [orD, domP, Heap.get] at hp) (by simp only [intoE, V.into, cD_into, vI_into, Bool.true_and, Bool.and_true]; rfl) (by simp only [intoH, Blk.into, intoL, vB_into, vI_into, Bool.and_true]))
      rcases Nat.lt_or_eq_of_le (Nat.le_of_lt_succ hlt) with h | rfl
      · exact hj j h
      · simp only [sRead1, h1, Bool.true_or]
  · simp only [gos, eq_self, Nat.reduceLT, Nat.reduceEqDiff, reduceIte, ↓reduceIte, vgo, vout, vguard, callOf, vop, ev, cv, vbin, vint, isShift, isNilConst, vD, hil]
    subst hQ
    exact FnPost.plain trivial (fun h2 e => by first | rfl | (simp only [Tryz.f145, vres, vresL, vres1, e _, gos, if_true, if_false, ne_eq, eq_self, Nat.reduceLT, Nat.reduceEqDiff, Nat.reduceAdd, Nat.reduceMul, Nat.reduceLeDiff, Nat.reduceBEq, reduceCtorEq, reduceIte, Array.toList, ↓reduceIte, tt, vgo, vout, vgoD, voutD, vclsOk, vids, mayWrite, V.ids, V.mids, vguard, callOf, vop, ev, cv, vbin, vint, isShift, isNilConst, vnil, isNilSlice, vload, vlen, newRow, vfill, vslice, entOf, vappend, srcOf, vcopy, vlookup, vupdate, mapOk, keyOf, intsOf, clsAt]; try rfl)) (WkV.pure (by simp only [V.into])) ⟨by rw [sRight_true fun j hj' => hj j (by omega)], rfl⟩
end Go.Vm

set_option linter.unusedVariables false
set_option linter.unusedSimpArgs false
set_option maxRecDepth 100000
namespace Go.Vm
open Go.Proofs
theorem wc_any (p : Nat → Bool) (c : Cu) (tr : List Sc) : intoL p (wcs c tr .any) = true := wc_into p c tr .any rfl
def sBounds (ns : List Int) : Rg := match ns with
  | [] => ⟨0, 0⟩
  | n :: l => l.foldl sWider (sWider ⟨n, n⟩ n)
theorem sBounds_snoc {ns : List Int} (h : ns ≠ []) (n : Int) : sBounds (ns ++ [n]) = sWider (sBounds ns) n := by
  cases ns with
  | nil => exact absurd rfl h
  | cons x l => simp [sBounds]
def sPast (c : Cu) (coal want : List Int) (s : Sc) : Past := (sPlay c s coal want (c.last + 1).toNat).2
set_option maxHeartbeats 2000000 in
theorem c_bounds (pf : FuncId) (q : Past → Int) (c : Cu) (tr : List Sc) (want : List Int) (hour : Int) (htl : (tr.length : Int) ≤ 1000000) (hok : okS tr) (hpl : ∀ s ∈ tr, PlayOk c s c.coal want)
    (hq : ∀ s ∈ tr, Pu Tryz.prog (.fn pf [] []) [.agg (sPast c c.coal want s).cs, vi hour] (vi (q (sPast c c.coal want s)))) :
    Pu Tryz.prog (.fn 128 [] []) [.agg [.fn pf [] []], .rop (wcs c tr .any), vI want, vi hour]
      (.agg [vi (sBounds (tr.map fun s => q (sPast c c.coal want s))).lo, vi (sBounds (tr.map fun s => q (sPast c c.coal want s))).hi]) := by
  refine Ev.fn Tryz.func128 rfl rfl (Fn.body tabOk Tryz.func128 rfl (Nat.le_of_ble_eq_true rfl) (Ks.ok (fz := (fzn [8, 10])) (cl := (cln [(4, .d tg0 [cP, cP, cP, cP, cP, cP, cL, cP, cP, cP, cP, cP, cP, cP, cP, cP, cP])])) tabOk mixed ?_))
  generalize hQ : FnPost tt Tryz.f128 _ _ = Q
  simp only [Tryz.f128, List.nil_append, List.append_nil, argsEnv, Nat.reduceAdd]
  simp only [gos, eq_self, Nat.reduceLT, Nat.reduceEqDiff, reduceCtorEq, reduceIte, ↓reduceIte, tt, vgo, vout, vguard, callOf, vop, ev, cv, vload, vlen, newRow, vS]
  let r : Nat → Rg := fun i => sBounds ((tr.take i).map fun s => q (sPast c c.coal want s))
  refine W.loop tabOk mixed (fun i : Nat => ([(4, .rop [.fn pf [] []]), (1, .rop (wcs c tr .any)), (2, vI want), (3, vi hour), (15, vS tr), (16, vi tr.length), (17, vi i), (8, .ptr 8 0 0)], [(8, ⟨0, .row [vi (r i).lo, vi (r i).hi]⟩)])) (fun i => tr.length - i) (fun i => i ≤ tr.length) 0 (by omega) (Wk.env (by simp [subE, Env.get, vS])) ?_
  intro i hi
  by_cases hil : (i : Int) < tr.length
  · have hmem := List.mem_of_getElem? (gS_get hil)
    have h5 := hok _ hmem
    have hT : ∀ X : List V, List.take 5 (cI (gS tr i).loss ++ X) = cI (gS tr i).loss := fun X => by
      rw [List.take_append_of_le_length (by rw [cI_len]; omega), List.take_of_length_le (by rw [cI_len]; omega)]
    have hL : ∀ X : List V, 6 ≤ (cI (gS tr i).loss ++ X).length + 1 := fun X => by rw [List.length_append, cI_len]; omega
    have hL2 : ∀ X : List V, 5 ≤ (cI (gS tr i).loss ++ X).length := fun X => by rw [List.length_append, cI_len]; omega
    have hl5 : (cI (gS tr i).loss).length = 5 := by rw [cI_len]; exact h5
    have ho5 : oneL (cI (gS tr i).loss) = true := by
      generalize (gS tr i).loss = l
      induction l with
      | nil => rfl
      | cons x l ih => simpa [cI, oneL, V.one] using ih
    have ht5 : List.take 5 (cI (gS tr i).loss) = cI (gS tr i).loss := List.take_of_length_le (by omega)
    simp only [gos, eq_self, Nat.reduceLT, Nat.reduceEqDiff, Nat.reduceAdd, reduceCtorEq, reduceIte, ↓reduceIte, tt, vgo, vout, vguard, callOf, vop, ev, vbin, vint, isShift, isNilConst, vload, newRow, vS, hil, cS_at hok (Int.natCast_nonneg i) hil, hT, hL, hl5, ho5]
    refine Wr.draw (by kernel_rfl) ?_
    simp only [gos, eq_self, Nat.reduceLT, Nat.reduceEqDiff, Nat.reduceAdd, Nat.reduceLeDiff, reduceCtorEq, reduceIte, ↓reduceIte, tt, vgoD, voutD, vclsOk, vids, mayWrite, V.ids, vguard, callOf, vop, ev, vload, clsAt, hl5, ht5]
    refine CD.pu (c_play c (gS tr i) c.coal want (hpl _ hmem)) ?_ rfl (by simp only [V.into, intoL, cI_into, vI_into, cu_into, Bool.and_true])
    simp only [gos, eq_self, Nat.reduceLT, Nat.reduceEqDiff, reduceIte, ↓reduceIte, vgoD, voutD, vclsOk, vids, mayWrite, vguard, callOf, vop, ev]
    refine CD.pu (hq _ hmem) ?_ rfl (by simp only [V.into, intoL, vB_into, vI_into, Bool.and_true])
    have htk : (tr.take (i + 1)).map (fun s => q (sPast c c.coal want s)) = (tr.take i).map (fun s => q (sPast c c.coal want s)) ++ [q (sPast c c.coal want (gS tr i))] := by
      rw [List.take_add_one, gS_get hil, List.map_append]; rfl
    generalize hn : q (sPast c c.coal want (gS tr i)) = n at htk ⊢
    by_cases hi0 : i = 0
    · have hz : ((i : Int) = 0) = True := by simp [hi0]
      have hr1 : r (i + 1) = sWider ⟨n, n⟩ n := by
        show sBounds _ = _
        rw [htk, hi0]; rfl
      simp only [gos, eq_self, Nat.reduceLT, Nat.reduceEqDiff, Nat.reduceAdd, Nat.reduceLeDiff, reduceCtorEq, reduceIte, ↓reduceIte, tt, vgo, vout, vgoD, voutD, vclsOk, vids, mayWrite, vguard, callOf, vop, ev, cv, vbin, vint, isShift, isNilConst, vload, vfill, hz]
      refine Cl.pu (c_wider ⟨n, n⟩ n) ?_
      simp only [gos, eq_self, Nat.reduceLT, Nat.reduceEqDiff, Nat.reduceAdd, reduceCtorEq, reduceIte, ↓reduceIte, tt, vgo, vout, vguard, callOf, vop, ev, cv, vbin, vint, isShift, isNilConst]
      refine Nx.mk (i + 1) (show tr.length - (i + 1) < tr.length - i by omega) (by omega) (Wk.forget (by simp [subE, Env.get, i64_succ (show (i : Int) < 9223372036854775807 by omega)]) (by simp [subH, Heap.get, hr1]) (fun j hp => by simp [orD, domP, Heap.get] at hp) (by simp only [intoE, V.into, intoL, cS_into, vI_into, Bool.true_and, Bool.and_true, wc_any]; rfl) (by simp only [intoH, Blk.into, V.into, intoL, Bool.and_true]))
    · have hz : ((i : Int) = 0) = False := by simp [hi0]
      have hr1 : r (i + 1) = sWider (r i) n := by
        show sBounds _ = sWider (sBounds _) n
        rw [htk, sBounds_snoc (by
          intro e
          have := congrArg List.length e
          rw [List.length_map, List.length_take] at this
          have : min i tr.length = 0 := this
          omega)]
      simp only [gos, eq_self, Nat.reduceLT, Nat.reduceEqDiff, Nat.reduceAdd, reduceCtorEq, reduceIte, ↓reduceIte, tt, vgo, vout, vgoD, voutD, vclsOk, vids, mayWrite, vguard, callOf, vop, ev, cv, vbin, vint, isShift, isNilConst, vload, hz]
      refine Cl.pu (c_wider (r i) n) ?_
      simp only [gos, eq_self, Nat.reduceLT, Nat.reduceEqDiff, Nat.reduceAdd, reduceCtorEq, reduceIte, ↓reduceIte, tt, vgo, vout, vguard, callOf, vop, ev, cv, vbin, vint, isShift, isNilConst]
      refine Nx.mk (i + 1) (show tr.length - (i + 1) < tr.length - i by omega) (by omega) (Wk.forget (by simp [subE, Env.get, i64_succ (show (i : Int) < 9223372036854775807 by omega)]) (by simp [subH, Heap.get, hr1]) (fun j hp => by simp [orD, domP, Heap.get] at hp) (by simp only [intoE, V.into, intoL, cS_into, vI_into, Bool.true_and, Bool.and_true, wc_any]; rfl) (by simp only [intoH, Blk.into, V.into, intoL, Bool.and_true]))
  · have e : tr.take i = tr := List.take_of_length_le (by omega)
    simp only [gos, eq_self, Nat.reduceLT, Nat.reduceEqDiff, Nat.reduceAdd, reduceCtorEq, reduceIte, ↓reduceIte, tt, vgo, vout, vguard, callOf, vop, ev, vbin, vint, isShift, isNilConst, vload, vS, hil]
    subst hQ
    exact FnPost.plain trivial (fun h2 e => by first | rfl | (simp only [Tryz.f128, vres, vresL, vres1, e _, gos, eq_self, Nat.reduceLT, Nat.reduceEqDiff, Nat.reduceAdd, reduceCtorEq, reduceIte, ↓reduceIte, tt, vload]; try rfl)) (WkV.pure (by simp only [V.into, intoL, Bool.and_true])) ⟨by simp only [r, e], rfl⟩
end Go.Vm

set_option linter.unusedVariables false
set_option linter.unusedSimpArgs false
set_option maxRecDepth 100000
namespace Go.Vm
open Go.Proofs
def pad5 (l : List Int) : List Int := l ++ List.replicate (5 - l.length) 0
theorem range_all_false {n : Nat} {f : Nat → Bool} {i : Nat} (h : i < n) (hf : f i = false) : (List.range n).all f = false := by
  rw [Bool.eq_false_iff]; intro ha
  rw [List.all_eq_true] at ha
  rw [ha i (List.mem_range.2 h)] at hf; cases hf
theorem range_all_true {n : Nat} {f : Nat → Bool} (hf : ∀ i, i < n → f i = true) : (List.range n).all f = true := by
  rw [List.all_eq_true]; intro i hi; exact hf i (List.mem_range.1 hi)
theorem cI_one : ∀ l : List Int, oneL (cI l) = true
  | [] => rfl
  | x :: l => by simp only [cI, List.map_cons, oneL, V.one, Bool.true_and]; exact cI_one l
end Go.Vm

set_option linter.unusedVariables false
set_option linter.unusedSimpArgs false
set_option maxRecDepth 100000
namespace Go.Vm
open Go.Proofs
/-- Valid coppers. -/
structure CuOk (c : Cu) : Prop where
  last : 0 ≤ c.last ∧ c.last ≤ 4
  rds : (c.readings.length : Int) ≤ 5
  most : 0 ≤ c.most ∧ c.most ≤ 999
  start : 0 ≤ c.start ∧ c.start ≤ c.most
  per : 1 ≤ c.per ∧ c.per ≤ 20
  shovels : 0 ≤ c.shovels ∧ c.shovels ≤ 3
  coal : (c.coal.length : Int) = c.last + 1 ∧ ∀ x ∈ c.coal, 0 ≤ x ∧ x ≤ c.shovels
  want : (c.want.length : Int) = c.last + 1 ∧ ∀ x ∈ c.want, 0 ≤ x ∧ x ≤ 20
  heat : sInside c.heat 99 = true
  loss : (c.loss.length : Int) = c.last + 1 ∧ ∀ r ∈ c.loss, sInside r 99 = true
  readings : ∀ r ∈ c.readings, sReading c r = true
  many : sMany c ≤ 2000
theorem sCheck_ok {c : Cu} (h : sCheck c = 0) : CuOk c := by
  unfold sCheck at h
  split at h
  · cases h
  rename_i h1
  split at h
  · cases h
  rename_i h2
  split at h
  · cases h
  rename_i h3
  split at h
  · cases h
  rename_i h4
  simp only [Bool.not_eq_true] at h2 h3
  simp only [sBad1, Bool.or_eq_false_iff, Bool.not_eq_false', decide_eq_false_iff_not, sIn, Bool.and_eq_true, decide_eq_true_eq] at h2
  simp only [sBad2, Bool.or_eq_false_iff, Bool.not_eq_false', decide_eq_false_iff_not, sIsCoal, sPromised, sIn, Bool.and_eq_true, decide_eq_true_eq, List.all_eq_true, ne_eq, Decidable.not_not] at h3
  obtain ⟨⟨⟨⟨a1, a2⟩, a3⟩, a4⟩, a5⟩ := h2
  obtain ⟨⟨⟨⟨⟨b1, b2⟩, b3⟩, b4⟩, b5⟩, b6⟩ := h3
  exact ⟨by omega, by omega, by omega, a2, a4, a5, b1, b2, b3, ⟨b4, b5⟩, b6, by omega⟩
theorem CuOk.wf {c : Cu} (k : CuOk c) : c.wf := by
  have := k.last; have := k.coal.1; have := k.want.1; have := k.loss.1; have := k.rds
  exact ⟨⟨by omega, by omega⟩, by omega, by omega, by omega, by omega⟩
/-- A truth that the coppers list. -/
structure ScOk (c : Cu) (s : Sc) : Prop where
  heat : 0 ≤ s.heat ∧ s.heat ≤ 99
  loss : s.loss.length = 5 ∧ ∀ x ∈ s.loss, 0 ≤ x ∧ x ≤ 99
theorem CuOk.play {c : Cu} (k : CuOk c) {s : Sc} (ks : ScOk c s) {coal want : List Int} (hc : (coal.length : Int) = c.last + 1 ∧ ∀ x ∈ coal, 0 ≤ x ∧ x ≤ 3) (hw : (want.length : Int) = c.last + 1 ∧ ∀ x ∈ want, 0 ≤ x ∧ x ≤ 40) : PlayOk c s coal want :=
  ⟨k.last, k.most, k.start, k.per, ks.heat, ks.loss, hc, hw⟩
theorem CuOk.play0 {c : Cu} (k : CuOk c) {s : Sc} (ks : ScOk c s) : PlayOk c s c.coal c.want :=
  k.play ks ⟨k.coal.1, fun x hx => by have := k.coal.2 x hx; have := k.shovels; omega⟩ ⟨k.want.1, fun x hx => by have := k.want.2 x hx; omega⟩
theorem CuOk.hours {c : Cu} (k : CuOk c) : ∀ r ∈ c.readings, 0 ≤ r.hour ∧ r.hour ≤ c.last := fun r hr => by
  have := k.readings r hr
  simp only [sReading, sIn, Bool.and_eq_true, decide_eq_true_eq] at this
  exact this.1
theorem sl0_vI : ImpV .sl0 (vI []) := ImpV.sl0
end Go.Vm

set_option linter.unusedVariables false
set_option linter.unusedSimpArgs false
set_option maxRecDepth 100000
namespace Go.Vm
open Go.Proofs
theorem WkV.nil2 {a : V} (ha : a.into (fun _ => false) = true) : WkV (domP []) (.tup [.sl0, .sl0, a]) [] (.tup [vI [], vI [], a]) [] := fun g w x hv H => by
  refine ⟨g, ?_, H, Tr.refl g [] w, Kp.refl _ g⟩
  simp only [VR] at hv ⊢
  obtain ⟨vs, rfl, h⟩ := hv
  exact ⟨vs, rfl, @impL_ok g [.sl0, .sl0, a] [vI [], vI [], a] _ ⟨sl0_vI, sl0_vI, ImpV.refl _, trivial⟩ h⟩
end Go.Vm

set_option linter.unusedVariables false
set_option linter.unusedSimpArgs false
set_option maxRecDepth 100000
namespace Go.Vm
open Go.Proofs
theorem WkV.sl0 {p : Nat → Bool} {h : Heap} (id z : Nat) (hn : h.get id = none) : WkV p .sl0 h (.own id 0 0 z 0) (h.set id ⟨0, .row []⟩) := fun g w x hv H => by
  obtain ⟨g', E, H', t, k⟩ := Wk.sl0E (p := p) (ρ := [(0, .sl0)]) 0 id z rfl hn g w 1 #[x] ⟨rfl, fun s c e => by
    simp only [Env.get] at e
    split at e
    · rename_i hs; injection e with e; subst e; subst hs; exact hv
    · cases e⟩ H
  exact ⟨g', E.look 0 _ (by simp [Env.get]), H', t, k⟩
theorem c_Clone0 (l : List Int) (hl : (l.length : Int) ≤ 1000000) : Ev Tryz.prog (.fn 100 [] []) [vI l] [] fun v h' => v = .own 7 0 0 1 l.length ∧ h' = [(7, ⟨0, .row (cI l)⟩)] := by
  refine Ev.fn Tryz.func100 rfl rfl (Fn.body tabOk Tryz.func100 rfl (Nat.le_of_ble_eq_true rfl) (Ks.ok (fz := (fzn [7])) (cl := (cln [(1, .ex)])) tabOk mixed ?_))
  generalize hQ : FnPost tt Tryz.f100 _ _ = Q
  simp only [Tryz.f100, List.nil_append, List.append_nil, argsEnv]
  simp only [gos, eq_self, Nat.reduceLT, reduceCtorEq, reduceIte, ↓reduceIte, vgo, vout, vguard, callOf, vop, ev, cv]
  refine Wr.nil tabOk _ rfl ?_
  simp only [gos, eq_self, Nat.reduceLT, reduceCtorEq, reduceIte, ↓reduceIte, vgo, vout, vguard, callOf, vop, ev, List.dropLast]
  refine Wo.mk ⟨rfl, rfl, _, _, _, _, _, rfl, rfl, ⟨_, rfl⟩, fun q => ?_⟩
  cases l with
  | nil =>
    cases q
    · refine ⟨.bool false, rfl, ?_⟩
      show R Tryz.prog tt _ _ _ _ _ Q _ .normal [(4, .bool false), (3, vI []), (2, .sl0), (0, vI [])] [] []
      simp only [gos, eq_self, Nat.reduceLT, Nat.reduceEqDiff, Nat.reduceMul, Nat.reduceLeDiff, reduceCtorEq, reduceIte, ↓reduceIte, tt, vgo, vout, vguard, callOf, vop, ev, vfill, vappend, srcOf, vI, cI]
      subst hQ
      exact FnPost.plain trivial (fun h2 e => by rfl) WkV.refl ⟨rfl, rfl⟩
    · refine ⟨.bool true, rfl, ?_⟩
      show R Tryz.prog tt _ _ _ _ _ Q _ .normal [(4, .bool true), (3, vI []), (2, .sl0), (0, vI [])] [] []
      simp only [gos, eq_self, Nat.reduceLT, Nat.reduceEqDiff, reduceIte, ↓reduceIte, vgo, vout, vguard, callOf, vop, ev, cv, vI, cI]
      subst hQ
      exact FnPost.plain trivial (fun h2 e => by rfl) (WkV.sl0 7 1 rfl) ⟨rfl, rfl⟩
  | cons x r =>
    refine ⟨.bool false, rfl, ?_⟩
    show R Tryz.prog tt _ _ _ _ _ Q _ .normal [(4, .bool false), (3, vI (x :: r)), (2, .sl0), (0, vI (x :: r))] [] []
    have hn : r.length + 1 ≤ 1000000 := by simp at hl; omega
    have hn2 : r.length ≤ 999999 := by omega
    simp only [gos, eq_self, Nat.reduceLT, Nat.reduceEqDiff, Nat.reduceLeDiff, reduceCtorEq, reduceIte, ↓reduceIte, tt, vgo, vout, vguard, callOf, vop, ev, vfill, vappend, srcOf, vI, cI_len, Nat.mul_one, cI_one, hn]
    subst hQ
    exact FnPost.plain trivial (fun h2 e => by rfl) WkV.refl ⟨rfl, rfl⟩
theorem c_Clone (l : List Int) (hl : (l.length : Int) ≤ 1000000) (h : Heap) (h7 : h.get 7 = none) : Ev Tryz.prog (.fn 100 [] []) [vI l] h fun v h' => v = .own 7 0 0 1 l.length ∧ h' = (7, ⟨0, .row (cI l)⟩) :: h :=
  ((c_Clone0 l hl).frame' h (fun _ => rfl) (fun i e he => by cases he) rfl (by simp only [intoL, vI_into, Bool.and_true]) rfl (fun v h' hh i e he => by
    obtain ⟨_, rfl⟩ := hh
    simp only [Heap.get] at he
    split at he
    · rename_i hi; subst hi; exact h7
    · cases he)).mono fun v h'' hh => by
      obtain ⟨h', ⟨a, rfl⟩, rfl⟩ := hh
      exact ⟨a, rfl⟩
theorem n_Clone (l : List Int) (hl : (l.length : Int) ≤ 1000000) : NewB Tryz.prog (.fn 100 [] []) [vI l] (.own 7 0 0 1 l.length) 7 ⟨0, .row (cI l)⟩ := fun h2 h7 =>
  (c_Clone l hl h2 h7).mono fun v h'' ⟨a, b⟩ => ⟨a, fun i => by
    rw [b, Heap.get_set]
    simp only [Heap.get]⟩
end Go.Vm

set_option linter.unusedVariables false
set_option linter.unusedSimpArgs false
set_option maxRecDepth 100000
namespace Go.Vm
open Go.Proofs
theorem c_IndexFunc_Sc (pv : V) (f : Sc → Bool) (l : List Sc) (hok : okS l) (hl : (l.length : Int) ≤ 1000000) (hp : pv.into (fun _ => false) = true) (hf : ∀ x ∈ l, Pu Tryz.prog pv [.agg x.cs] (.bool (f x))) :
    Pu Tryz.prog (.fn 184 [] []) [vS l, pv] (vi (sIdx f l)) := by
  refine Ev.fn Tryz.func184 rfl rfl (Fn.body tabOk Tryz.func184 rfl (Nat.le_of_ble_eq_true rfl) (Ks.ok (fz := (fzn [])) (cl := (cln [])) tabOk mixed ?_))
  generalize hQ : FnPost tt Tryz.f184 _ _ = Q
  simp only [Tryz.f184, List.nil_append, List.append_nil, argsEnv, Nat.reduceAdd]
  simp only [gos, eq_self, Nat.reduceLT, reduceCtorEq, reduceIte, ↓reduceIte, tt, vgo, vout, vguard, callOf, vop, ev, cv, vlen, vS]
  refine W.loop tabOk mixed (fun i : Nat => ([(0, vS l), (1, pv), (7, vi l.length), (8, vi i)], [])) (fun i => l.length - i) (fun i => i ≤ l.length ∧ ∀ (j : Nat) y, j < i → l[j]? = some y → f y = false) 0 ⟨by omega, by omega⟩ (Wk.env (by simp [subE, Env.get, vS])) ?_
  rintro i ⟨hi, hj⟩
  by_cases hil : (i : Int) < l.length
  · have hmem := List.mem_of_getElem? (gS_get hil)
    have h5 := hok _ hmem
    have hT : ∀ X : List V, List.take 5 (cI (gS l i).loss ++ X) = cI (gS l i).loss := fun X => by
      rw [List.take_append_of_le_length (by rw [cI_len]; omega), List.take_of_length_le (by rw [cI_len]; omega)]
    have hL2 : ∀ X : List V, 5 ≤ (cI (gS l i).loss ++ X).length := fun X => by rw [List.length_append, cI_len]; omega
    simp only [gos, eq_self, Nat.reduceLT, Nat.reduceEqDiff, Nat.reduceLeDiff, reduceCtorEq, reduceIte, ↓reduceIte, tt, vgo, vout, vguard, callOf, vop, ev, vbin, vint, isShift, isNilConst, vload, vS, hil, cS_at hok (Int.natCast_nonneg i) hil, hT, hL2]
    refine Cl.pu (hf (gS l i) hmem) ?_ hp (by simp only [V.into, intoL, cI_into, Bool.and_true])
    cases hfx : f (gS l i)
    · simp only [gos, eq_self, Nat.reduceLT, Nat.reduceEqDiff, reduceCtorEq, reduceIte, ↓reduceIte, vgo, vout, vguard, callOf, vop, ev, cv, vbin, vint, isShift, isNilConst]
      refine Nx.mk (i + 1) (show l.length - (i + 1) < l.length - i by omega) ⟨by omega, fun j y hlt hy => ?_⟩ (Wk.env (by simp [subE, Env.get, i64_succ (show (i : Int) < 9223372036854775807 by omega)]))
      rcases Nat.lt_or_eq_of_le (Nat.le_of_lt_succ hlt) with h | rfl
      · exact hj j y h hy
      · rw [gS_get hil] at hy; injection hy with hy; rw [← hy]; exact hfx
    · simp only [gos, eq_self, Nat.reduceLT, Nat.reduceEqDiff, reduceIte, ↓reduceIte, vgo, vout, vguard, callOf, vop, ev]
      subst hQ
      exact FnPost.plain trivial (fun h2 e => by first | rfl | (simp only [Tryz.f184, vres, vresL, vres1, e _, gos, if_true, if_false, ne_eq, eq_self, Nat.reduceLT, Nat.reduceEqDiff, Nat.reduceAdd, Nat.reduceMul, Nat.reduceLeDiff, Nat.reduceBEq, reduceCtorEq, reduceIte, Array.toList, ↓reduceIte, tt, vgo, vout, vgoD, voutD, vclsOk, vids, mayWrite, V.ids, V.mids, vguard, callOf, vop, ev, cv, vbin, vint, isShift, isNilConst, vnil, isNilSlice, vload, vlen, newRow, vfill, vslice, entOf, vappend, srcOf, vcopy, vlookup, vupdate, mapOk, keyOf, intsOf, clsAt]; try rfl)) (WkV.pure (by simp only [V.into])) ⟨by rw [sIdx_some (gS_get hil) hfx hj], rfl⟩
  · simp only [gos, eq_self, Nat.reduceLT, Nat.reduceEqDiff, reduceCtorEq, reduceIte, ↓reduceIte, vgo, vout, vguard, callOf, vop, ev, cv, vbin, vint, isShift, isNilConst, vS, hil]
    subst hQ
    exact FnPost.plain trivial (fun h2 e => by first | rfl | (simp only [Tryz.f184, vres, vresL, vres1, e _, gos, if_true, if_false, ne_eq, eq_self, Nat.reduceLT, Nat.reduceEqDiff, Nat.reduceAdd, Nat.reduceMul, Nat.reduceLeDiff, Nat.reduceBEq, reduceCtorEq, reduceIte, Array.toList, ↓reduceIte, tt, vgo, vout, vgoD, voutD, vclsOk, vids, mayWrite, V.ids, V.mids, vguard, callOf, vop, ev, cv, vbin, vint, isShift, isNilConst, vnil, isNilSlice, vload, vlen, newRow, vfill, vslice, entOf, vappend, srcOf, vcopy, vlookup, vupdate, mapOk, keyOf, intsOf, clsAt]; try rfl)) (WkV.pure (by simp only [V.into])) ⟨by rw [sIdx_none fun j y hy => hj j y (by have := (List.getElem?_eq_some_iff.1 hy).1; omega) hy], rfl⟩
theorem c_ContainsFunc_Sc (pv : V) (f : Sc → Bool) (l : List Sc) (hok : okS l) (hl : (l.length : Int) ≤ 1000000) (hp : pv.into (fun _ => false) = true) (hf : ∀ x ∈ l, Pu Tryz.prog pv [.agg x.cs] (.bool (f x))) :
    Pu Tryz.prog (.fn 179 [] []) [vS l, pv] (.bool (l.any f)) := by
  refine Ev.fn Tryz.func179 rfl rfl (Fn.body tabOk Tryz.func179 rfl (Nat.le_of_ble_eq_true rfl) (Ks.ok (fz := (fzn [])) (cl := (cln [])) tabOk mixed ?_))
  generalize hQ : FnPost tt Tryz.f179 _ _ = Q
  simp only [Tryz.f179, List.nil_append, List.append_nil, argsEnv, Nat.reduceAdd]
  simp only [gos, eq_self, Nat.reduceLT, Nat.reduceEqDiff, reduceCtorEq, reduceIte, ↓reduceIte, vgo, vout, vguard, callOf, vop, ev, cv]
  refine Cl.pu (c_IndexFunc_Sc pv f l hok hl hp hf) ?_ rfl (by simp only [intoL, vS_into, Bool.and_true, hp])
  simp only [gos, eq_self, Nat.reduceLT, reduceIte, ↓reduceIte, vgo, vout, vguard, callOf, vop, ev, cv, vbin, vint, isShift, isNilConst]
  subst hQ
  exact FnPost.plain trivial (fun h2 e => by first | rfl | (simp only [Tryz.f179, vres, vresL, vres1, e _, gos, if_true, if_false, ne_eq, eq_self, Nat.reduceLT, Nat.reduceEqDiff, Nat.reduceAdd, Nat.reduceMul, Nat.reduceLeDiff, Nat.reduceBEq, reduceCtorEq, reduceIte, Array.toList, ↓reduceIte, tt, vgo, vout, vgoD, voutD, vclsOk, vids, mayWrite, V.ids, V.mids, vguard, callOf, vop, ev, cv, vbin, vint, isShift, isNilConst, vnil, isNilSlice, vload, vlen, newRow, vfill, vslice, entOf, vappend, srcOf, vcopy, vlookup, vupdate, mapOk, keyOf, intsOf, clsAt]; try rfl)) (WkV.pure (by simp only [V.into])) ⟨by rw [← sIdx_any], rfl⟩
theorem c_all1_Sc (pv : V) (f : Sc → Bool) (x : Sc) (h5 : x.loss.length = 5) (hp : pv.into (fun _ => false) = true) (hf : Pu Tryz.prog pv [.agg x.cs] (.bool (f x))) :
    Pu Tryz.prog (.fn 180 [] [.rop [pv]]) [.agg x.cs] (.bool (!f x)) := by
  refine Ev.fn Tryz.func180 rfl rfl (Fn.body tabOk Tryz.func180 rfl (Nat.le_of_ble_eq_true rfl) (Ks.ok (fz := (fzn [])) (cl := (cln [])) tabOk mixed ?_))
  generalize hQ : FnPost tt Tryz.f180 _ _ = Q
  simp only [Tryz.f180, List.nil_append, List.cons_append, argsEnv, Nat.reduceAdd]
  have hsc : x.cs.length = 6 := by simp [Sc.cs, cI_len, h5]
  have hst : x.cs.take 6 = x.cs := List.take_of_length_le (by omega)
  simp only [gos, eq_self, Nat.reduceLT, Nat.reduceEqDiff, reduceCtorEq, reduceIte, ↓reduceIte, tt, vgo, vout, vguard, callOf, vop, ev, cv, vload, newRow, hsc, hst]
  refine Cl.pu hf ?_ hp (by simp only [V.into, intoL, cI_into, Bool.and_true, Sc.cs])
  simp only [gos, eq_self, Nat.reduceLT, reduceIte, ↓reduceIte, vgo, vout, vguard, callOf, vop, ev]
  subst hQ
  exact FnPost.plain trivial (fun h2 e => by first | rfl | (simp only [Tryz.f180, vres, vresL, vres1, e _, gos, if_true, if_false, ne_eq, eq_self, Nat.reduceLT, Nat.reduceEqDiff, Nat.reduceAdd, Nat.reduceMul, Nat.reduceLeDiff, Nat.reduceBEq, reduceCtorEq, reduceIte, Array.toList, ↓reduceIte, tt, vgo, vout, vgoD, voutD, vclsOk, vids, mayWrite, V.ids, V.mids, vguard, callOf, vop, ev, cv, vbin, vint, isShift, isNilConst, vnil, isNilSlice, vload, vlen, newRow, vfill, vslice, entOf, vappend, srcOf, vcopy, vlookup, vupdate, mapOk, keyOf, intsOf, clsAt]; try rfl)) (WkV.pure (by simp only [V.into])) ⟨rfl, rfl⟩
theorem c_all_Sc (pf : FuncId) (pa pc : List V) (f : Sc → Bool) (l : List Sc) (hok : okS l) (hl : (l.length : Int) ≤ 1000000) (ha : intoL (fun _ => false) pa = true) (hp : intoL (fun _ => false) pc = true) (hf : ∀ x ∈ l, Pu Tryz.prog (.fn pf pa pc) [.agg x.cs] (.bool (f x))) :
    Pu Tryz.prog (.fn 165 [] []) [vS l, .fn pf pa pc] (.bool (l.all f)) := by
  refine Ev.fn Tryz.func165 rfl rfl (Fn.body tabOk Tryz.func165 rfl (Nat.le_of_ble_eq_true rfl) (Ks.ok (fz := (fzn [])) (cl := (cln [])) tabOk mixed ?_))
  generalize hQ : FnPost tt Tryz.f165 _ _ = Q
  simp only [Tryz.f165, List.nil_append, List.append_nil, argsEnv, Nat.reduceAdd]
  simp only [gos, eq_self, Nat.reduceLT, Nat.reduceEqDiff, reduceCtorEq, reduceIte, ↓reduceIte, vgo, vout, vguard, callOf, vop, ev, cv, newRow]
  refine Cl.pu (c_ContainsFunc_Sc (.fn 180 [] [.rop [.fn pf pa pc]]) (fun x => !f x) l hok hl (by simp only [V.into, intoL, Bool.and_true, hp, ha]) fun x hx => c_all1_Sc (.fn pf pa pc) f x (hok x hx) (by simp only [V.into, Bool.and_true, hp, ha]) (hf x hx)) ?_ rfl (by simp only [V.into, intoL, vS_into, Bool.and_true, hp, ha])
  simp only [gos, eq_self, Nat.reduceLT, reduceIte, ↓reduceIte, vgo, vout, vguard, callOf, vop, ev]
  subst hQ
  exact FnPost.plain trivial (fun h2 e => by first | rfl | (simp only [Tryz.f165, vres, vresL, vres1, e _, gos, if_true, if_false, ne_eq, eq_self, Nat.reduceLT, Nat.reduceEqDiff, Nat.reduceAdd, Nat.reduceMul, Nat.reduceLeDiff, Nat.reduceBEq, reduceCtorEq, reduceIte, Array.toList, ↓reduceIte, tt, vgo, vout, vgoD, voutD, vclsOk, vids, mayWrite, V.ids, V.mids, vguard, callOf, vop, ev, cv, vbin, vint, isShift, isNilConst, vnil, isNilSlice, vload, vlen, newRow, vfill, vslice, entOf, vappend, srcOf, vcopy, vlookup, vupdate, mapOk, keyOf, intsOf, clsAt]; try rfl)) (WkV.pure (by simp only [V.into])) ⟨by rw [List.all_eq_not_any_not], rfl⟩
end Go.Vm

set_option linter.unusedVariables false
set_option linter.unusedSimpArgs false
set_option maxRecDepth 100000
namespace Go.Vm
open Go.Proofs
/-- All promises are kept, in a truth, with coal. -/
def sKept (c : Cu) (coal want : List Int) (s : Sc) : Bool := !((sPast c coal want s).kept.any fun y => decide (false = y))
set_option maxHeartbeats 1000000 in
theorem c_sure1 (c : Cu) (tr : List Sc) (coal : List Int) (s : Sc) (k : PlayOk c s coal c.want) :
    Pu Tryz.prog (.fn 166 [] [.rop [.rop (wcs c tr .any)], .rop [vI coal]]) [.agg s.cs] (.bool (sKept c coal c.want s)) := by
  refine Ev.fn Tryz.func166 rfl rfl (Fn.body tabOk Tryz.func166 rfl (Nat.le_of_ble_eq_true rfl) (Ks.ok (fz := (fzn [])) (cl := (cln [(1, .d tg0 [cP, cP, cP, cP, cP, cP, cP, cP, cP, cP, cP, cP, cP, cP, cP, cP])])) tabOk mixed ?_))
  generalize hQ : FnPost tt Tryz.f166 _ _ = Q
  simp only [Tryz.f166, List.nil_append, List.cons_append, argsEnv, Nat.reduceAdd]
  have hsc : s.cs.length = 6 := by simp [Sc.cs, cI_len, k.loss.1]
  have hst : s.cs.take 6 = s.cs := List.take_of_length_le (by omega)
  simp only [gos, eq_self, Nat.reduceLT, reduceCtorEq, reduceIte, ↓reduceIte, vgo, vout, vguard, callOf, vop, ev, cv, newRow]
  refine Wr.draw (by kernel_rfl) ?_
  simp only [gos, eq_self, Nat.reduceLT, Nat.reduceEqDiff, Nat.reduceAdd, Nat.reduceLeDiff, reduceCtorEq, reduceIte, ↓reduceIte, tt, vgoD, voutD, vclsOk, vids, mayWrite, V.ids, vguard, callOf, vop, ev, vload, clsAt, hsc, hst]
  refine CD.pu (c_play c s coal c.want k) ?_ rfl (by simp only [V.into, intoL, cI_into, vI_into, cu_into, Bool.and_true, Sc.cs])
  have hk := sPlay_inv k (c.last + 1).toNat (by have := k.last; omega)
  have := k.last
  simp only [gos, eq_self, Nat.reduceLT, reduceIte, ↓reduceIte, tt, vgoD, voutD, vclsOk, vids, mayWrite, vguard, callOf, vop, ev, cv]
  refine CD.pu (c_ContainsB _ false (by omega)) ?_ rfl (by simp only [V.into, intoL, vB_into, Bool.and_true])
  simp only [gos, eq_self, Nat.reduceLT, reduceIte, ↓reduceIte, vgoD, voutD, vclsOk, vids, mayWrite, vguard, callOf, vop, ev]
  subst hQ
  exact FnPost.plain trivial (fun h2 e => by first | rfl | (simp only [Tryz.f166, vres, vresL, vres1, e _, gos, if_true, if_false, ne_eq, eq_self, Nat.reduceLT, Nat.reduceEqDiff, Nat.reduceAdd, Nat.reduceMul, Nat.reduceLeDiff, Nat.reduceBEq, reduceCtorEq, reduceIte, Array.toList, ↓reduceIte, tt, vgo, vout, vgoD, voutD, vclsOk, vids, mayWrite, V.ids, V.mids, vguard, callOf, vop, ev, cv, vbin, vint, isShift, isNilConst, vnil, isNilSlice, vload, vlen, newRow, vfill, vslice, entOf, vappend, srcOf, vcopy, vlookup, vupdate, mapOk, keyOf, intsOf, clsAt]; try rfl)) (WkV.pure (by simp only [V.into])) ⟨rfl, rfl⟩
end Go.Vm

set_option linter.unusedVariables false
set_option linter.unusedSimpArgs false
set_option maxRecDepth 100000
namespace Go.Vm
open Go.Proofs
/-- What coal is known to be sure. -/
abbrev Memo := List (List Int × Bool)
def memoV : Memo → List (V × V)
  | [] => []
  | (k, b) :: r => (.agg (cI k), .bool b) :: memoV r
def mget (key : List Int) : Memo → Option Bool
  | [] => none
  | (k, b) :: r => if key = k then some b else mget key r
def okM (m : Memo) : Prop := ∀ x ∈ m, x.1.length = 5
theorem intsOf_cI : ∀ l : List Int, intsOf (cI l) = some l
  | [] => rfl
  | x :: l => by
    have := intsOf_cI l
    simp only [cI, List.map_cons, intsOf] at this ⊢
    rw [this]
theorem vfind_memo {key : List Int} : ∀ {m : Memo}, okM m → vfind 5 key (memoV m) = some ((mget key m).map V.bool)
  | [], _ => rfl
  | (k, b) :: r, h => by
    have h5 : k.length = 5 := h (k, b) (by simp)
    simp only [memoV, vfind, intsOf_cI, h5, if_true, mget]
    split
    · rfl
    · exact vfind_memo fun x hx => h x (by simp [hx])
theorem memoV_snoc (m : Memo) (k : List Int) (b : Bool) : memoV (m ++ [(k, b)]) = memoV m ++ [(.agg (cI k), .bool b)] := by
  induction m with
  | nil => rfl
  | cons x r ih => obtain ⟨k', b'⟩ := x; simp only [List.cons_append, memoV, ih]
theorem copy50 {l : List Int} (h : l.length ≤ 5) : List.take l.length (cI l) ++ List.drop (0 + l.length) [vi 0, vi 0, vi 0, vi 0, vi 0] = cI (pad5 l) := by
  match l, h with
  | [], _ => rfl
  | [x], _ => rfl
  | [x, y], _ => rfl
  | [x, y, z], _ => rfl
  | [x, y, z, u], _ => rfl
  | [x, y, z, u, v], _ => rfl
theorem memo_into (p : Nat → Bool) : ∀ m : Memo, intoPs p (memoV m) = true
  | [] => rfl
  | (k, b) :: r => by simp only [memoV, intoPs, V.into, cI_into, memo_into p r, Bool.and_self]
theorem wcs_imp (c : Cu) (tr : List Sc) (m : V) : impL (wcs c tr m) (wcs c tr .any) :=
  ⟨ImpV.refl _, ImpV.refl _, ImpV.refl _, ImpV.refl _, ImpV.refl _, ImpV.refl _, ImpV.refl _, ImpV.refl _, ImpV.refl _, ImpV.refl _, ImpV.refl _, ImpV.refl _, ImpV.any _, trivial⟩
def sSure (c : Cu) (tr : List Sc) (m : Memo) (coal : List Int) : Bool := (mget (pad5 coal) m).getD (tr.all fun s => sKept c coal c.want s)
def sSureM (c : Cu) (tr : List Sc) (m : Memo) (coal : List Int) : Memo := match mget (pad5 coal) m with
  | some _ => m
  | none => m ++ [(pad5 coal, tr.all fun s => sKept c coal c.want s)]
set_option maxHeartbeats 2000000 in
theorem c_sure (c : Cu) (tr : List Sc) (m : Memo) (mi : Nat) (h5 : mi ≠ 5) (hm : okM m) (coal : List Int) (hok : okS tr) (htl : (tr.length : Int) ≤ 1000000) (hcl : coal.length ≤ 5) (k : ∀ s ∈ tr, PlayOk c s coal c.want) :
    Ev Tryz.prog (.fn 140 [] []) [.rop (wcs c tr (.mp mi)), vI coal] [(mi, ⟨0, .map (memoV m)⟩)] fun v h' => v = .bool (sSure c tr m coal) ∧ h' = [(mi, ⟨0, .map (memoV (sSureM c tr m coal))⟩)] := by
  refine Ev.fn Tryz.func140 rfl rfl (Fn.body tabOk Tryz.func140 rfl (Nat.le_of_ble_eq_true rfl) (Ks.ok (fz := (fzn [5])) (cl := (cln [(2, .d tg0 [cL, cP, cW]), (3, .d tg0 [cP, cP, cP, cP, cL, cL, cP, cP, cP, cP, cP]), (6, .d tg0 [cP, cP, cP, cP, cL, cP, cW])])) tabOk mixed ?_))
  generalize hQ : FnPost tt Tryz.f140 _ _ = Q
  simp only [Tryz.f140, List.nil_append, List.append_nil, argsEnv, Nat.reduceAdd]
  have h5' : ¬ 5 = mi := fun e => h5 e.symm
  simp only [gos, eq_self, Nat.reduceLT, Nat.reduceEqDiff, reduceCtorEq, reduceIte, ↓reduceIte, tt, vgo, vout, vguard, callOf, vop, ev, cv, newRow, h5']
  refine Wr.draw (by kernel_rfl) ?_
  simp only [gos, eq_self, Nat.reduceLT, Nat.reduceEqDiff, Nat.reduceAdd, reduceCtorEq, reduceIte, ↓reduceIte, tt, vgoD, voutD, vclsOk, vids, mayWrite, V.ids, vguard, callOf, vop, ev, vload, vslice, entOf, srcOf, vcopy, clsAt, h5', vI, cI_len, Nat.mul_one, cI_one, Nat.min_eq_left hcl]
  rw [show List.take coal.length (cI coal) ++ List.drop (0 + coal.length) [V.int IntKind.i64 0, V.int IntKind.i64 0, V.int IntKind.i64 0, V.int IntKind.i64 0, V.int IntKind.i64 0] = cI (pad5 coal) from copy50 hcl]
  have hp5 : (pad5 coal).length = 5 := by simp [pad5]; omega
  have ht5 : List.take 5 (cI (pad5 coal)) = cI (pad5 coal) := List.take_of_length_le (by rw [cI_len]; omega)
  refine Wr.draw (by kernel_rfl) ?_
  cases hg : mget (pad5 coal) m with
  | some b =>
    simp only [gos, ne_eq, eq_self, Nat.reduceLT, Nat.reduceEqDiff, Nat.reduceAdd, reduceCtorEq, reduceIte, ↓reduceIte, tt, vgo, vout, vgoD, voutD, vclsOk, vids, mayWrite, V.ids, V.mids, vguard, callOf, vop, ev, vload, vlookup, mapOk, keyOf, clsAt, h5', hp5, ht5, cI_len, intsOf_cI, vfind_memo hm, hg]
    subst hQ
    refine FnPost.plain trivial (v := .bool b) (fun h2 e => by rfl) (WkV.drop (h' := [(mi, ⟨0, .map (memoV m)⟩)]) (by simp [subH, Heap.get]) (fun j hp => by simpa [domP, Heap.get] using hp) rfl (by simp only [intoH, Blk.into, memo_into, Bool.and_self])) ⟨by simp [sSure, hg], by simp [sSureM, hg]⟩
  | none =>
    simp only [gos, ne_eq, eq_self, Nat.reduceLT, Nat.reduceEqDiff, Nat.reduceAdd, reduceCtorEq, reduceIte, ↓reduceIte, tt, vgo, vout, vgoD, voutD, vclsOk, vids, mayWrite, V.ids, V.mids, vguard, callOf, vop, ev, vload, vlookup, mapOk, keyOf, clsAt, h5', hp5, ht5, cI_len, intsOf_cI, vfind_memo hm, hg]
    refine Cl.less (cs := [vS tr, .fn 166 [] [.rop [.rop (wcs c tr .any)], .rop [vI coal]]]) (ImpV.refl _) ⟨ImpV.refl _, ImpV.fn trivial ⟨ImpV.rop ⟨ImpV.rop (wcs_imp c tr _), trivial⟩, ImpV.refl _, trivial⟩, trivial⟩
      (Cl.pu (c_all_Sc _ [] _ (sKept c coal c.want) tr hok htl rfl (by simp only [V.into, intoL, vI_into, Bool.and_true, wc_any]) fun x hx => c_sure1 c tr coal x (k x hx)) ?_ rfl (by simp only [V.into, intoL, vS_into, vI_into, Bool.and_true, wc_any]))
    simp only [gos, eq_self, Nat.reduceLT, Nat.reduceEqDiff, reduceIte, ↓reduceIte, vgo, vout, vguard, callOf, vop, ev]
    refine Wr.draw (by kernel_rfl) ?_
    simp only [gos, ne_eq, eq_self, Nat.reduceLT, Nat.reduceEqDiff, Nat.reduceAdd, reduceCtorEq, reduceIte, ↓reduceIte, tt, vgo, vout, vgoD, voutD, vclsOk, vids, mayWrite, V.ids, V.mids, vguard, callOf, vop, ev, vload, vupdate, mapOk, keyOf, clsAt, h5', hp5, ht5, cI_len, intsOf_cI, vfind_memo hm, hg]
    subst hQ
    refine FnPost.plain trivial (v := .bool (tr.all (sKept c coal c.want))) (fun h2 e => by rfl) (WkV.drop (h' := [(mi, ⟨0, .map (memoV (sSureM c tr m coal))⟩)]) (by simp [subH, Heap.get, sSureM, hg, memoV_snoc]) (fun j hp => by simpa [domP, Heap.get] using hp) rfl (by simp only [intoH, Blk.into, memo_into, Bool.and_self])) ⟨by simp [sSure, hg], rfl⟩
end Go.Vm

set_option linter.unusedVariables false
set_option linter.unusedSimpArgs false
set_option maxRecDepth 100000
namespace Go.Vm
open Go.Proofs
theorem gi_take {l : List Int} {i : Nat} (h : (i : Int) < l.length) : l.take (i + 1) = l.take i ++ [gi l i] := by
  rw [List.take_add_one, gi_get h]; rfl
end Go.Vm

set_option linter.unusedVariables false
set_option linter.unusedSimpArgs false
set_option maxRecDepth 100000
namespace Go.Vm
open Go.Proofs
theorem cR_frz (i v : Nat) (cs : List V) : ∀ l : List Rg, frzL i v cs (cR l) = cR l
  | [] => rfl
  | x :: l => by simp only [cR, frzL, V.frz, cR_frz i v cs l]
theorem cD_frz (i v : Nat) (cs : List V) : ∀ l : List Rd, frzL i v cs (cD l) = cD l
  | [] => rfl
  | x :: l => by simp only [cD, frzL, V.frz, cD_frz i v cs l]
theorem frzL_append (i v : Nat) (cs : List V) : ∀ a b : List V, frzL i v cs (a ++ b) = frzL i v cs a ++ frzL i v cs b
  | [], b => rfl
  | x :: a, b => by simp only [List.cons_append, frzL, frzL_append i v cs a b]
theorem cS_frz (i v : Nat) (cs : List V) : ∀ l : List Sc, frzL i v cs (cS l) = cS l
  | [] => rfl
  | x :: l => by simp only [cS, frzL, V.frz, frzL_append, cI_frz, cS_frz i v cs l]
theorem wcs_frz (i v : Nat) (cs : List V) (c : Cu) (tr : List Sc) : frzL i v cs (wcs c tr .any) = wcs c tr .any := by
  simp only [wcs, frzL, V.frz, vI, vR, vD, vS, cI_frz, cR_frz, cD_frz, cS_frz]
/-- The first i numbers of more are added. -/
def sAdd (want more : List Int) : Nat → List Int
  | 0 => want
  | i + 1 => (sAdd want more i).set i (gi (sAdd want more i) i + gi more i)
theorem sAdd_len (want more : List Int) : ∀ i, (sAdd want more i).length = want.length
  | 0 => rfl
  | i + 1 => by rw [sAdd, List.length_set, sAdd_len want more i]
theorem gi_set_ne {l : List Int} {i j : Nat} (x : Int) (h : i ≠ j) : gi (l.set i x) j = gi l j := by
  simp only [gi, Int.toNat_natCast, List.getD_eq_getElem?_getD]
  rw [List.getElem?_set_ne h]
theorem sAdd_ge (want more : List Int) : ∀ (i j : Nat), i ≤ j → gi (sAdd want more i) j = gi want j
  | 0, _, _ => rfl
  | i + 1, j, h => by rw [sAdd, gi_set_ne _ (by omega), sAdd_ge want more i j (by omega)]
theorem cI_set {l : List Int} {i : Nat} (x : Int) (h : i < l.length) : (cI l).take i ++ [vi x] ++ (cI l).drop (i + 1) = cI (l.set i x) := by
  simp only [cI]
  rw [← List.map_take, ← List.map_drop, List.set_eq_take_append_cons_drop, if_pos h]
  simp
def sWith (c : Cu) (tr : List Sc) (more : List Int) : Int :=
  sVerdict (sBounds (tr.map fun s => if (sPast c c.coal (sAdd c.want more more.length) s).kept.any (fun y => decide (false = y)) then 0 else 1))
set_option maxHeartbeats 2000000 in
theorem c_with (c : Cu) (tr : List Sc) (more : List Int) (htl : (tr.length : Int) ≤ 1000000) (hok : okS tr) (hw : c.want.length ≤ 5) (hm : more.length = c.want.length) (hb : ∀ i, i < c.want.length → 0 ≤ gi c.want i ∧ gi c.want i ≤ 20 ∧ 0 ≤ gi more i ∧ gi more i ≤ 20)
    (hpl : ∀ s ∈ tr, PlayOk c s c.coal (sAdd c.want more more.length)) :
    Pu Tryz.prog (.fn 109 [] []) [.rop (wcs c tr .any), vI more] (vi (sWith c tr more)) := by
  refine Ev.fn Tryz.func109 rfl rfl (Fn.body tabOk Tryz.func109 rfl (Nat.le_of_ble_eq_true rfl) (Ks.ok (fz := (fzn [])) (cl := (cln [(7, .ex)])) tabOk mixed ?_))
  generalize hQ : FnPost tt Tryz.f109 _ _ = Q
  simp only [Tryz.f109, List.nil_append, List.append_nil, argsEnv, Nat.reduceAdd]
  simp only [gos, eq_self, Nat.reduceLT, Nat.reduceEqDiff, reduceCtorEq, reduceIte, ↓reduceIte, tt, vgo, vout, vguard, callOf, vop, ev, cv, vload]
  refine Cl.mk (c_Clone c.want (by omega) [] rfl) ?_
  rintro v h' ⟨rfl, rfl⟩
  simp only [gos, eq_self, Nat.reduceLT, Nat.reduceEqDiff, reduceCtorEq, reduceIte, ↓reduceIte, tt, vgo, vout, vguard, callOf, vop, ev, cv, vlen, vI]
  refine W.loop tabOk mixed (fun i : Nat => ([(0, .rop (wcs c tr .any)), (5, .own 7 0 0 1 c.want.length), (14, vI more), (15, vi more.length), (16, vi i)], [(7, ⟨0, .row (cI (sAdd c.want more i))⟩)])) (fun i => more.length - i) (fun i => i ≤ more.length) 0 (by omega) (Wk.env (by simp [subE, Env.get, vI])) ?_
  intro i hi
  by_cases hil : (i : Int) < more.length
  · have hil2 : (i : Int) < c.want.length := by omega
    have hil3 : (i : Int) < (sAdd c.want more i).length := by rw [sAdd_len]; exact hil2
    have hcur : gi (sAdd c.want more i) i = gi c.want i := sAdd_ge c.want more i i (Nat.le_refl _)
    have hbb := hb i (by omega)
    have hi2 : (↑i : Int).toNat = i := Int.toNat_natCast i
    have hle : i + 1 ≤ (cI (sAdd c.want more i)).length := by rw [cI_len]; omega
    have e1 : List.drop i (cI more) = vi (gi more i) :: cI (more.drop (i + 1)) := by have := cI_at (Int.natCast_nonneg i) hil; rwa [hi2, Nat.mul_one] at this
    have e2 : List.drop i (cI (sAdd c.want more i)) = vi (gi (sAdd c.want more i) i) :: cI ((sAdd c.want more i).drop (i + 1)) := by have := cI_at (Int.natCast_nonneg i) hil3; rwa [hi2, Nat.mul_one] at this
    have e3 : List.take i (cI (sAdd c.want more i)) ++ [vi (gi c.want i + gi more i)] ++ List.drop (i + 1) (cI (sAdd c.want more i)) = cI (sAdd c.want more (i + 1)) := by
      rw [cI_set _ (by omega), sAdd, hcur]
    simp only [gos, eq_self, Nat.reduceLT, Nat.reduceEqDiff, reduceCtorEq, reduceIte, ↓reduceIte, tt, vgo, vout, vguard, callOf, vop, ev, cv, vbin, vint, isShift, isNilConst, vload, vI, hil, hil2, e1, e2, hcur, i64_in (show -9223372036854775808 ≤ gi c.want i + gi more i by omega) (show gi c.want i + gi more i ≤ 9223372036854775807 by omega), Nat.mul_one, hi2, hle, Nat.zero_add]
    rw [show List.take i (cI (sAdd c.want more i)) ++ [V.int IntKind.i64 (gi c.want i + gi more i)] ++ List.drop (i + 1) (cI (sAdd c.want more i)) = cI (sAdd c.want more (i + 1)) from e3]
    exact Nx.mk (i + 1) (show more.length - (i + 1) < more.length - i by omega) (by omega) (Wk.env (by simp [subE, Env.get, i64_succ (show (i : Int) < 9223372036854775807 by omega)]))
  · have hie : i = more.length := by omega
    have hlen := sAdd_len c.want more i
    simp only [gos, eq_self, Nat.reduceLT, Nat.reduceEqDiff, reduceCtorEq, reduceIte, ↓reduceIte, vgo, vout, vguard, callOf, vop, ev, vbin, vint, isShift, isNilConst, vI, hil]
    refine Wr.at tabOk 3 ?_
    simp only [gos, eq_self, Nat.reduceLT, Nat.reduceEqDiff, Nat.reduceAdd, reduceCtorEq, reduceIte, ↓reduceIte, tt, vgo, vout, vguard, callOf, vop, ev, vfill]
    refine Wa.mk (Wk.freeze 7 rfl rfl (cI_into _ _) rfl) ?_
    have ht : List.take c.want.length (cI (sAdd c.want more i)) = cI (sAdd c.want more i) := List.take_of_length_le (by rw [cI_len]; omega)
    simp only [frzE, frzH, V.frz, frzL, gos, eq_self, Nat.reduceLT, Nat.reduceEqDiff, reduceIte, ↓reduceIte, vgo, vout, vguard, callOf, ev, cv, Nat.mul_one, ht, wcs_frz, cI_frz]
    have hv : V.ro c.want.length (cI (sAdd c.want more i)) = vI (sAdd c.want more i) := by rw [vI, hlen]
    rw [hv]
    rw [← hie] at hpl
    have hq : ∀ s ∈ tr, Pu Tryz.prog (.fn 149 [] []) [.agg (sPast c c.coal (sAdd c.want more i) s).cs, vi 0] (vi (if (sPast c c.coal (sAdd c.want more i) s).kept.any (fun y => decide (false = y)) then 0 else 1)) := fun s hs => by
      have hk := sPlay_inv (hpl s hs) (c.last + 1).toNat (by have := (hpl s hs).last; omega)
      have := (hpl s hs).last
      exact c_pwhole _ 0 (by simp only [sPast]; omega)
    refine Cl.pu (c_bounds _ (fun p => if p.kept.any (fun y => decide (false = y)) then 0 else 1) c tr (sAdd c.want more i) 0 htl hok hpl hq) ?_ rfl (by simp only [V.into, intoL, vI_into, Bool.and_true, wc_any])
    simp only [gos, eq_self, Nat.reduceLT, reduceIte, ↓reduceIte, vgo, vout, vguard, callOf, ev]
    refine Cl.pu (c_verdict _) ?_
    simp only [gos, eq_self, Nat.reduceLT, reduceIte, ↓reduceIte, vgo, vout, vguard, callOf, vop, ev]
    subst hQ
    exact FnPost.plain trivial (fun h2 e => by first | rfl | (simp only [Tryz.f109, vres, vresL, vres1, e _, gos, if_true, if_false, ne_eq, eq_self, Nat.reduceLT, Nat.reduceEqDiff, Nat.reduceAdd, Nat.reduceMul, Nat.reduceLeDiff, Nat.reduceBEq, reduceCtorEq, reduceIte, Array.toList, ↓reduceIte, tt, vgo, vout, vgoD, voutD, vclsOk, vids, mayWrite, V.ids, V.mids, vguard, callOf, vop, ev, cv, vbin, vint, isShift, isNilConst, vnil, isNilSlice, vload, vlen, newRow, vfill, vslice, entOf, vappend, srcOf, vcopy, vlookup, vupdate, mapOk, keyOf, intsOf, clsAt]; try rfl)) (WkV.pure (by simp only [V.into])) ⟨by simp only [sWith, hie], rfl⟩
end Go.Vm

set_option linter.unusedVariables false
set_option linter.unusedSimpArgs false
set_option maxRecDepth 100000
namespace Go.Vm
open Go.Proofs
/-! ### all truths, in their order -/
def rangeI (lo hi : Int) : List Int := (List.range (hi + 1 - lo).toNat).map fun (i : Nat) => lo + i
def genH (c : Cu) : Nat → Nat → List Int → List (List Int)
  | 0, _, ls => [ls]
  | k + 1, hour, ls => (rangeI (gR c.loss hour).lo (gR c.loss hour).hi).flatMap fun n => genH c k (hour + 1) (ls.set hour n)
def runAll {σ : Type} (step : Sc → σ → Bool × σ) : List Sc → σ → Bool × σ
  | [], x => (true, x)
  | s :: r, x => match step s x with
    | (true, x') => runAll step r x'
    | (false, x') => (false, x')
theorem runAll_append {σ : Type} (step : Sc → σ → Bool × σ) : ∀ (a b : List Sc) (x : σ), runAll step (a ++ b) x = match runAll step a x with
    | (true, x') => runAll step b x'
    | (false, x') => (false, x')
  | [], b, x => rfl
  | s :: a, b, x => by
    simp only [List.cons_append, runAll]
    cases h : step s x with
    | mk t x' => cases t <;> simp only [runAll_append step a b x']
/-- The losses of these hours alone are looked at. -/
theorem genH_congr (c : Cu) : ∀ (k hour : Nat) (l1 l2 : List Int), l1.length = l2.length → (∀ j, j < hour ∨ hour + k ≤ j → l1[j]? = l2[j]?) → genH c k hour l1 = genH c k hour l2
  | 0, hour, l1, l2, hl, h => by
    simp only [genH]
    have : l1 = l2 := List.ext_getElem? fun j => h j (by omega)
    rw [this]
  | k + 1, hour, l1, l2, hl, h => by
    simp only [genH]
    congr 1
    funext n
    refine genH_congr c k (hour + 1) _ _ (by simp [hl]) fun j hj => ?_
    by_cases e : hour = j
    · subst e
      by_cases hh : hour < l1.length
      · rw [List.getElem?_set_self hh, List.getElem?_set_self (by omega)]
      · rw [List.getElem?_eq_none (by simp; omega), List.getElem?_eq_none (by simp; omega)]
    · rw [List.getElem?_set_ne e, List.getElem?_set_ne e]
      exact h j (by omega)
end Go.Vm

set_option linter.unusedVariables false
set_option linter.unusedSimpArgs false
set_option maxRecDepth 100000
namespace Go.Vm
open Go.Proofs
/-- A run through a list in which each step is one that may be done. -/
def Good {σ : Type} (step : Sc → σ → Bool × σ) (ok : Sc → σ → Prop) : List Sc → σ → Prop
  | [], _ => True
  | s :: r, x => ok s x ∧ ((step s x).1 = true → Good step ok r (step s x).2)
theorem Good_append {σ : Type} {step : Sc → σ → Bool × σ} {ok : Sc → σ → Prop} : ∀ {a b : List Sc} {x : σ}, Good step ok (a ++ b) x → Good step ok a x ∧ ((runAll step a x).1 = true → Good step ok b (runAll step a x).2)
  | [], b, x, g => ⟨trivial, fun _ => g⟩
  | s :: a, b, x, g => by
    simp only [List.cons_append, Good] at g
    simp only [Good, runAll]
    cases h : step s x with
    | mk t y =>
      rw [h] at g
      cases t with
      | false => exact ⟨⟨g.1, fun e => by simp at e⟩, fun e => by simp at e⟩
      | true =>
        obtain ⟨g1, g2⟩ := Good_append (g.2 rfl)
        exact ⟨⟨g.1, fun _ => g1⟩, g2⟩
/-- What a body of a loop over all truths does. -/
structure YOk (P : Program) {σ : Type} (yv : V) (hp : σ → Heap) (step : Sc → σ → Bool × σ) (ok : Sc → σ → Prop) : Prop where
  call : ∀ s x, ok s x → Ev P yv [.agg s.cs] (hp x) fun v h' => v = .bool (step s x).1 ∧ h' = hp (step s x).2
  into : ∀ x, yv.into (domP (hp x)) = true
  closed : ∀ x, intoH (domP (hp x)) (hp x) = true
  dom : ∀ x y i, domP (hp x) i = domP (hp y) i
  a3 : ∀ x, (hp x).get 3 = none
  a4 : ∀ x, (hp x).get 4 = none
  one : yv.cells? = some [yv]
def chooseV (c : Cu) (yv : V) : V := .fn 170 [] [.rop c.cs, .rop [yv], .ptr 3 0 0, .ptr 4 0 0]
def chH (c : Cu) (yv : V) (heat : Int) (ls : List Int) (h : Heap) : Heap := (3, ⟨0, .row (vi heat :: cI ls)⟩) :: (4, ⟨0, .row [chooseV c yv]⟩) :: h
theorem Heap.get_cons2 {e3 e4 : Ent} {h : Heap} {i : Nat} (a3 : h.get 3 = none) (a4 : h.get 4 = none) : Heap.get (h ++ [(3, e3), (4, e4)]) i = Heap.get ((3, e3) :: (4, e4) :: h) i := by
  rw [Heap.get_append]
  simp only [Heap.get]
  by_cases h3 : i = 3
  · subst h3; simp [a3]
  · by_cases h4 : i = 4
    · subst h4; simp [a4]
    · simp [h3, h4]
theorem YOk.callH {P : Program} {σ : Type} {yv : V} {hp : σ → Heap} {step : Sc → σ → Bool × σ} {ok : Sc → σ → Prop} (Y : YOk P yv hp step ok) (c : Cu) (heat : Int) (ls : List Int) (x : σ) (ho : ok ⟨heat, ls⟩ x) :
    Ev P yv [.agg (vi heat :: cI ls)] (chH c yv heat ls (hp x)) fun v h' => v = .bool (step ⟨heat, ls⟩ x).1 ∧ h' = chH c yv heat ls (hp (step ⟨heat, ls⟩ x).2) := by
  refine ((Y.call ⟨heat, ls⟩ x ho).frame' [(3, ⟨0, .row (vi heat :: cI ls)⟩), (4, ⟨0, .row [chooseV c yv]⟩)] (fun i => Heap.get_cons2 (Y.a3 x) (Y.a4 x)) ?_ (Y.into x) (by simp only [V.into, intoL, cI_into, Bool.and_true, Sc.cs]) (Y.closed x) ?_).norm ?_
  · intro i e he
    simp only [Heap.get]
    have h3 : i ≠ 3 := fun h => by subst h; rw [Y.a3 x] at he; cases he
    have h4 : i ≠ 4 := fun h => by subst h; rw [Y.a4 x] at he; cases he
    rw [if_neg h3, if_neg h4]
  · rintro v h' ⟨_, rfl⟩ i e he
    simp only [Heap.get]
    have h3 : i ≠ 3 := fun h => by subst h; rw [Y.a3 _] at he; cases he
    have h4 : i ≠ 4 := fun h => by subst h; rw [Y.a4 _] at he; cases he
    rw [if_neg h3, if_neg h4]
  · rintro v h'' ⟨h', ⟨rfl, rfl⟩, rfl⟩
    exact ⟨_, fun i => Heap.get_cons2 (Y.a3 _) (Y.a4 _), rfl, rfl⟩
set_option maxHeartbeats 2000000 in
theorem c_choose (c : Cu) (k0 : CuOk c) {σ : Type} (yv : V) (hp : σ → Heap) (step : Sc → σ → Bool × σ) (ok : Sc → σ → Prop) (Y : YOk Tryz.prog yv hp step ok) (heat : Int) :
    ∀ (k hour : Nat) (ls : List Int) (x : σ), (hour : Int) + k = c.last + 1 → ls.length = 5 → Good step ok ((genH c k hour ls).map fun l => ⟨heat, l⟩) x →
    Ev Tryz.prog (chooseV c yv) [vi hour] (chH c yv heat ls (hp x)) fun v h' => ∃ ls', ls'.length = 5 ∧ (∀ j, j < hour ∨ hour + k ≤ j → ls'[j]? = ls[j]?) ∧
      v = .bool (runAll step ((genH c k hour ls).map fun l => ⟨heat, l⟩) x).1 ∧ h' = chH c yv heat ls' (hp (runAll step ((genH c k hour ls).map fun l => ⟨heat, l⟩) x).2)
  | 0, hour, ls, x, hh, hl, hok => by
    have hgt : c.last < (hour : Int) := by omega
    unfold chooseV
    refine Ev.fn Tryz.func170 rfl rfl (Fn.body tabOk Tryz.func170 rfl (Nat.le_of_ble_eq_true rfl) (Ks.ok (fz := (fzn [])) (cl := (cln [])) tabOk mixed ?_))
    generalize hQ : FnPost tt Tryz.f170 _ _ = Q
    simp only [Tryz.f170, List.nil_append, List.cons_append, argsEnv, Nat.reduceAdd]
    have hl5 : (cI ls).length = 5 := by rw [cI_len]; exact hl
    have ht5 : List.take 5 (cI ls) = cI ls := List.take_of_length_le (by omega)
    simp only [gos, eq_self, Nat.reduceLT, Nat.reduceEqDiff, Nat.reduceAdd, reduceCtorEq, reduceIte, ↓reduceIte, tt, vgo, vout, vguard, callOf, vop, ev, cv, vbin, vint, isShift, isNilConst, vload, hgt, chH, chooseV, hl5, ht5]
    refine Cl.mk (Y.callH c heat ls x hok.1) ?_
    rintro v h' ⟨rfl, rfl⟩
    simp only [gos, eq_self, Nat.reduceLT, reduceIte, ↓reduceIte, vgo, vout, vguard, callOf, vop, ev]
    subst hQ
    have hone : runAll step (List.map (fun l => (⟨heat, l⟩ : Sc)) (genH c 0 hour ls)) x = step ⟨heat, ls⟩ x := by
      simp only [genH, List.map_cons, List.map_nil, runAll]
      cases h : step ⟨heat, ls⟩ x with
      | mk t y => cases t <;> rfl
    rw [hone]
    exact FnPost.plain trivial (fun h2 e => by rfl) WkV.refl ⟨ls, hl, fun _ _ => rfl, rfl, rfl⟩
  | k + 1, hour, ls, x, hh, hl, hok => by
    have hle : ¬ c.last < (hour : Int) := by omega
    have hll : (hour : Int) < c.loss.length := by have := k0.loss.1; omega
    have hin := k0.loss.2 _ (List.mem_of_getElem? (gR_get hll))
    have hsz := size_le hin
    simp only [sInside, Bool.and_eq_true, decide_eq_true_eq] at hin
    have hlast := k0.last
    unfold chooseV
    refine Ev.fn Tryz.func170 rfl rfl (Fn.body tabOk Tryz.func170 rfl (Nat.le_of_ble_eq_true rfl) (Ks.ok (fz := (fzn [])) (cl := (cln [])) tabOk mixed ?_))
    generalize hQ : FnPost tt Tryz.f170 _ _ = Q
    simp only [Tryz.f170, List.nil_append, List.cons_append, argsEnv, Nat.reduceAdd]
    simp only [gos, eq_self, Nat.reduceLT, Nat.reduceEqDiff, reduceCtorEq, reduceIte, ↓reduceIte, tt, vgo, vout, vguard, callOf, vop, ev, cv, vbin, vint, isShift, isNilConst, vload, hle, chH, chooseV, vR, hll, cR_at (Int.natCast_nonneg hour) hll]
    let f : Int → List Sc := fun n => (genH c k (hour + 1) (ls.set hour n)).map fun l => ⟨heat, l⟩
    refine W.loop tabOk mixed (fun a : Nat × List Int × σ => ([(0, vi hour), (1, .rop c.cs), (2, .rop [yv]), (3, .ptr 3 0 0), (4, .ptr 4 0 0), (7, vi ((gR c.loss hour).lo + a.1))], chH c yv heat a.2.1 (hp a.2.2))) (fun a => (rangeI (gR c.loss hour).lo (gR c.loss hour).hi).length - a.1)
      (fun a => a.1 ≤ (rangeI (gR c.loss hour).lo (gR c.loss hour).hi).length ∧ a.2.1.length = 5 ∧ (∀ j, j < hour ∨ hour + (k + 1) ≤ j → a.2.1[j]? = ls[j]?) ∧ runAll step (((rangeI (gR c.loss hour).lo (gR c.loss hour).hi).take a.1).flatMap f) x = (true, a.2.2)) (0, ls, x) ⟨by simp, hl, fun _ _ => rfl, rfl⟩ (Wk.env (by simp [subE, Env.get])) ?_
    rintro ⟨i, ls1, x1⟩ ⟨hi, hl1, hag, hrun⟩
    simp only at hi hl1 hag hrun ⊢
    have hrl : (rangeI (gR c.loss hour).lo (gR c.loss hour).hi).length = ((gR c.loss hour).hi + 1 - (gR c.loss hour).lo).toNat := by simp [rangeI]
    have hh5 : (hour : Int) < ((5 : Nat) : Int) := by omega
    have hi2 : (↑hour : Int).toNat = hour := Int.toNat_natCast hour
    have hl6 : (cI ls1).length = 5 := by rw [cI_len]; exact hl1
    by_cases hil : (gR c.loss hour).lo + (i : Int) ≤ (gR c.loss hour).hi
    · have hst : List.take (1 + hour) (vi heat :: cI ls1) ++ [vi ((gR c.loss hour).lo + i)] ++ List.drop (1 + hour) (cI ls1) = vi heat :: cI (ls1.set hour ((gR c.loss hour).lo + i)) := by
        rw [show 1 + hour = hour + 1 by omega, List.take_succ_cons, ← cI_set _ (by omega)]
        simp
      have hcond : 1 + hour + 1 ≤ 6 := by omega
      have hcond2 : 1 + hour ≤ 5 := by omega
      have e0 := cR_at (Int.natCast_nonneg hour) hll
      rw [hi2] at e0
      have e1 : List.drop (hour * 2 + 1) (cR c.loss) = vi (gR c.loss hour).hi :: cR (c.loss.drop (hour + 1)) := by rw [← List.drop_drop, e0]; rfl
      simp only [gos, eq_self, Nat.reduceLT, Nat.reduceEqDiff, Nat.reduceAdd, reduceCtorEq, reduceIte, ↓reduceIte, tt, vgo, vout, vguard, callOf, vop, ev, cv, vbin, vint, isShift, isNilConst, vload, chH, chooseV, vR, hll, e0, hst, hil, hh5, hi2, Nat.mul_one, hl6, hcond]
      have hgen : genH c k (hour + 1) (ls1.set hour ((gR c.loss hour).lo + i)) = genH c k (hour + 1) (ls.set hour ((gR c.loss hour).lo + i)) := by
        refine genH_congr c k (hour + 1) _ _ (by simp [hl, hl1]) fun j hj => ?_
        by_cases e : hour = j
        · subst e
          rw [List.getElem?_set_self (by omega), List.getElem?_set_self (by omega)]
        · rw [List.getElem?_set_ne e, List.getElem?_set_ne e]
          exact hag j (by omega)
      have hstep : (rangeI (gR c.loss hour).lo (gR c.loss hour).hi)[i]? = some ((gR c.loss hour).lo + i) := by
        simp only [rangeI, List.getElem?_map]
        rw [List.getElem?_range (by omega)]; rfl
      have hnext : runAll step (((rangeI (gR c.loss hour).lo (gR c.loss hour).hi).take (i + 1)).flatMap f) x = runAll step (f ((gR c.loss hour).lo + i)) x1 := by
        rw [List.take_add_one, hstep, List.flatMap_append, runAll_append, hrun]
        simp
      rw [i64_succ (show (hour : Int) < 9223372036854775807 by omega)]
      have hf : List.map (fun l => (⟨heat, l⟩ : Sc)) (genH c k (hour + 1) (ls1.set hour ((gR c.loss hour).lo + i))) = f ((gR c.loss hour).lo + i) := by rw [hgen]
      have hgood : Good step ok (f ((gR c.loss hour).lo + i)) x1 := by
        have g0 : Good step ok ((rangeI (gR c.loss hour).lo (gR c.loss hour).hi).flatMap f) x := by
          have := hok
          simp only [genH, List.map_flatMap] at this
          exact this
        rw [← List.take_append_drop i (rangeI (gR c.loss hour).lo (gR c.loss hour).hi), List.flatMap_append] at g0
        have g1 := (Good_append g0).2
        rw [hrun] at g1
        have g2 := g1 rfl
        rw [List.drop_eq_getElem?_toList_append, hstep] at g2
        exact (Good_append g2).1
      refine Cl.mk (c_choose c k0 yv hp step ok Y heat k (hour + 1) (ls1.set hour ((gR c.loss hour).lo + i)) x1 (by omega) (by simp [hl1]) (by rw [hf]; exact hgood)) ?_
      rintro v h' ⟨ls2, hl2, hag2, rfl, rfl⟩
      rw [hf]
      cases hr : runAll step (f ((gR c.loss hour).lo + i)) x1 with
      | mk t x2 =>
        rw [hr] at hnext
        cases t with
        | true =>
          simp only [gos, eq_self, Nat.reduceLT, Nat.reduceEqDiff, reduceCtorEq, reduceIte, ↓reduceIte, vgo, vout, vguard, callOf, vop, ev, cv, vbin, vint, isShift, isNilConst]
          refine Nx.mk (i + 1, ls2, x2) (show _ - (i + 1) < _ - i by omega) ⟨by simp only; omega, hl2, fun j hj => ?_, hnext⟩ (Wk.env ?_)
          · rw [hag2 j (by omega), List.getElem?_set_ne (by omega), hag j hj]
          · have hb1 := hin
            have hw : IntKind.i64.wrap ((gR c.loss hour).lo + ((i : Int) + 1)) = (gR c.loss hour).lo + ((i : Int) + 1) := i64_in (by omega) (by omega)
            simp [subE, Env.get, Int.add_assoc, hw]
        | false =>
          have hrest : runAll step (List.map (fun l => (⟨heat, l⟩ : Sc)) (genH c (k + 1) hour ls)) x = (false, x2) := by
            simp only [genH, List.map_flatMap]
            rw [← List.take_append_drop (i + 1) (rangeI (gR c.loss hour).lo (gR c.loss hour).hi), List.flatMap_append, runAll_append]
            rw [show runAll step (List.flatMap (fun n => List.map (fun l => (⟨heat, l⟩ : Sc)) (genH c k (hour + 1) (ls.set hour n))) (List.take (i + 1) (rangeI (gR c.loss hour).lo (gR c.loss hour).hi))) x = (false, x2) from hnext]
          simp only [gos, eq_self, Nat.reduceLT, reduceIte, ↓reduceIte, vgo, vout, vguard, callOf, vop, ev, cv]
          subst hQ
          rw [hrest]
          exact FnPost.plain trivial (v := .bool false) (fun h2 e => by rfl) WkV.refl ⟨ls2, hl2, fun j hj => by rw [hag2 j (by omega), List.getElem?_set_ne (by omega), hag j (by omega)], rfl, rfl⟩
    · have hie : i = (rangeI (gR c.loss hour).lo (gR c.loss hour).hi).length := by omega
      have e0 := cR_at (Int.natCast_nonneg hour) hll
      rw [hi2] at e0
      have e1 : List.drop (hour * 2 + 1) (cR c.loss) = vi (gR c.loss hour).hi :: cR (c.loss.drop (hour + 1)) := by rw [← List.drop_drop, e0]; rfl
      have hrest : runAll step (List.map (fun l => (⟨heat, l⟩ : Sc)) (genH c (k + 1) hour ls)) x = (true, x1) := by
        simp only [genH, List.map_flatMap]
        rw [hie, List.take_length] at hrun
        exact hrun
      simp only [gos, eq_self, Nat.reduceLT, Nat.reduceEqDiff, reduceCtorEq, reduceIte, ↓reduceIte, tt, vgo, vout, vguard, callOf, vop, ev, cv, vbin, vint, isShift, isNilConst, vload, chH, chooseV, vR, hll, e0, hil, hi2]
      subst hQ
      rw [hrest]
      exact FnPost.plain trivial (v := .bool true) (fun h2 e => by rfl) WkV.refl ⟨ls1, hl1, hag, rfl, rfl⟩
end Go.Vm

set_option linter.unusedVariables false
set_option linter.unusedSimpArgs false
set_option maxRecDepth 100000
namespace Go.Vm
open Go.Proofs
/-- What is known, with the heap's list in another form. -/
theorem Wk.heap {p : Nat → Bool} {ρ ρ' : Env} {h h' : Heap} (e : HEq' h h') (hρ : subE ρ ρ') : Wk p ρ h ρ' h' := fun g w N T E H =>
  ⟨g, ⟨E.size, fun s c e' => E.look s c (subE_ok hρ s c e')⟩, H.congr e, (Tr.refl g h w).congr (fun _ => rfl) e, Kp.refl p g⟩
/-- The blocks that a function forgets when it ends. -/
theorem WkV.forgetF {p : Nat → Bool} {v : V} {h h' : Heap} (hh : ∀ i e, h'.get i = some e → h.get i = some e) (hp : ∀ i, p i = true → domP h' i = true) (hi : v.into (domP h') = true) (hb : intoH (domP h') h' = true) : WkV p v h v h' := by
  intro g w x hv H
  have H' := H.cut hh hb
  refine ⟨g.cut (domP h'), hv.sub (g.cut_sub _) _ _ hi, H', ?_, fun i v x hpi e => by simp [Gh.cut, hp i hpi, e]⟩
  refine ⟨rfl, rfl, rfl, Nat.le_refl _, fun _ _ _ => rfl, ?_, fun _ _ _ e => e, fun _ _ e => .inl e⟩
  rintro B ⟨i, e, c, h1, h2⟩ _
  refine ⟨i, e, c, hh i e h1, ?_⟩
  simp only [Gh.cut] at h2
  split at h2
  · exact h2
  · cases h2
def zL : List Int := [0, 0, 0, 0, 0]
/-- All truths, in the order of the program. -/
def truths (c : Cu) : List Sc := (rangeI c.heat.lo c.heat.hi).flatMap fun h => (genH c (c.last + 1).toNat 0 zL).map fun l => ⟨h, l⟩
theorem rangeI_len (lo hi : Int) : (rangeI lo hi).length = (hi + 1 - lo).toNat := by simp [rangeI]
theorem rangeI_get {lo hi : Int} {i : Nat} (h : lo + (i : Int) ≤ hi) : (rangeI lo hi)[i]? = some (lo + i) := by
  simp only [rangeI, List.getElem?_map]
  rw [List.getElem?_range (by omega)]; rfl
theorem rangeI_mem {lo hi x : Int} (h : x ∈ rangeI lo hi) : lo ≤ x ∧ x ≤ hi := by
  simp only [rangeI, List.mem_map, List.mem_range] at h
  obtain ⟨i, h1, rfl⟩ := h
  omega
theorem genH_ok (c : Cu) (k0 : CuOk c) : ∀ (k hour : Nat) (ls : List Int), (hour : Int) + k ≤ c.last + 1 → (ls.length = 5 ∧ ∀ x ∈ ls, 0 ≤ x ∧ x ≤ 99) → ∀ l ∈ genH c k hour ls, l.length = 5 ∧ ∀ x ∈ l, 0 ≤ x ∧ x ≤ 99
  | 0, hour, ls, hh, hl, l, hm => by
    simp only [genH, List.mem_singleton] at hm
    subst hm; exact hl
  | k + 1, hour, ls, hh, hl, l, hm => by
    simp only [genH, List.mem_flatMap] at hm
    obtain ⟨n, h1, h2⟩ := hm
    have hll : (hour : Int) < c.loss.length := by have := k0.loss.1; omega
    have hin := k0.loss.2 _ (List.mem_of_getElem? (gR_get hll))
    simp only [sInside, Bool.and_eq_true, decide_eq_true_eq] at hin
    have := rangeI_mem h1
    refine genH_ok c k0 k (hour + 1) _ (by omega) ⟨by simp [hl.1], fun x hx => ?_⟩ l h2
    rcases List.mem_or_eq_of_mem_set hx with hx | rfl
    · exact hl.2 x hx
    · omega
theorem truths_ok {c : Cu} (k0 : CuOk c) {s : Sc} (h : s ∈ truths c) : ScOk c s := by
  simp only [truths, List.mem_flatMap, List.mem_map] at h
  obtain ⟨n, h1, l, h2, rfl⟩ := h
  have := rangeI_mem h1
  have hin := k0.heat
  simp only [sInside, Bool.and_eq_true, decide_eq_true_eq] at hin
  have hl := k0.last
  exact ⟨by simp only; omega, genH_ok c k0 _ 0 zL (by omega) ⟨rfl, by simp [zL]⟩ l h2⟩
set_option maxHeartbeats 2000000 in
theorem c_scenes1 (c : Cu) (k0 : CuOk c) {σ : Type} (yv : V) (hp : σ → Heap) (step : Sc → σ → Bool × σ) (ok : Sc → σ → Prop) (Y : YOk Tryz.prog yv hp step ok) (x0 : σ) (hok : Good step ok (truths c) x0) :
    Ev Tryz.prog (.fn 169 [] [.rop c.cs]) [yv] (hp x0) fun v h' => h' = hp (runAll step (truths c) x0).2 := by
  have hin := k0.heat
  simp only [sInside, Bool.and_eq_true, decide_eq_true_eq] at hin
  have hlast := k0.last
  have a3 := Y.a3 x0
  have a4 := Y.a4 x0
  refine Ev.fn Tryz.func169 rfl rfl (Fn.body tabOk Tryz.func169 rfl (Nat.le_of_ble_eq_true rfl) (Ks.ok (fz := (fzn [3, 4])) (cl := (cln [])) tabOk mixed ?_))
  generalize hQ : FnPost tt Tryz.f169 _ _ = Q
  simp only [Tryz.f169, List.nil_append, List.cons_append, argsEnv, Nat.reduceAdd]
  have hy : yv.cells? = some [yv] := Y.one
  simp only [gos, eq_self, Nat.reduceLT, Nat.reduceEqDiff, Nat.reduceAdd, Nat.reduceLeDiff, reduceCtorEq, reduceIte, ↓reduceIte, tt, vgo, vout, vguard, callOf, vop, ev, vload, newRow, Heap.get_set, a3, a4, hy]
  let g : Int → List Sc := fun h => (genH c (c.last + 1).toNat 0 zL).map fun l => ⟨h, l⟩
  refine W.loop tabOk mixed (fun a : Nat × List Int × σ => ([(0, yv), (1, .rop c.cs), (2, .rop [yv]), (3, .ptr 3 0 0), (4, .ptr 4 0 0)], chH c yv (c.heat.lo + a.1) a.2.1 (hp a.2.2))) (fun a => (rangeI c.heat.lo c.heat.hi).length - a.1)
    (fun a => a.1 ≤ (rangeI c.heat.lo c.heat.hi).length ∧ a.2.1.length = 5 ∧ (∀ j, (c.last + 1).toNat ≤ j → a.2.1[j]? = zL[j]?) ∧ runAll step (((rangeI c.heat.lo c.heat.hi).take a.1).flatMap g) x0 = (true, a.2.2)) (0, zL, x0) ⟨by simp, rfl, fun _ _ => rfl, rfl⟩ (Wk.heap ?_ (by simp [subE, Env.get])) ?_
  · intro i
    simp only [Heap.get_set, chH, Heap.get]
    by_cases h3 : i = 3
    · subst h3; simp [cI, zL]
    · by_cases h4 : i = 4
      · subst h4; simp [chooseV]
      · simp only [h3, h4, if_false]
  rintro ⟨i, ls, x⟩ ⟨hi, hl, hag, hrun⟩
  simp only at hi hl hag hrun ⊢
  have hrl := rangeI_len c.heat.lo c.heat.hi
  have hl6 : (cI ls).length = 5 := by rw [cI_len]; exact hl
  by_cases hil : c.heat.lo + (i : Int) ≤ c.heat.hi
  · simp only [gos, eq_self, Nat.reduceLT, Nat.reduceEqDiff, Nat.reduceAdd, reduceCtorEq, reduceIte, ↓reduceIte, tt, vgo, vout, vguard, callOf, vop, ev, cv, vbin, vint, isShift, isNilConst, vload, chH, chooseV, hil]
    have hgen : genH c (c.last + 1).toNat 0 ls = genH c (c.last + 1).toNat 0 zL := genH_congr c _ _ _ _ (by simp [hl, zL]) fun j hj => hag j (by omega)
    have hgood : Good step ok (g (c.heat.lo + i)) x := by
      have g0 : Good step ok ((rangeI c.heat.lo c.heat.hi).flatMap g) x0 := hok
      rw [← List.take_append_drop i (rangeI c.heat.lo c.heat.hi), List.flatMap_append] at g0
      have g1 := (Good_append g0).2
      rw [hrun] at g1
      have g2 := g1 rfl
      rw [List.drop_eq_getElem?_toList_append, rangeI_get hil] at g2
      exact (Good_append g2).1
    have hnext : runAll step (((rangeI c.heat.lo c.heat.hi).take (i + 1)).flatMap g) x0 = runAll step (g (c.heat.lo + i)) x := by
      rw [List.take_add_one, rangeI_get hil, List.flatMap_append, runAll_append, hrun]
      simp
    refine Cl.mk (c_choose c k0 yv hp step ok Y (c.heat.lo + i) (c.last + 1).toNat 0 ls x (by omega) hl (by rw [hgen]; exact hgood)) ?_
    rintro v h' ⟨ls2, hl2, hag2, rfl, rfl⟩
    rw [hgen, show List.map (fun l => (⟨c.heat.lo + i, l⟩ : Sc)) (genH c (c.last + 1).toNat 0 zL) = g (c.heat.lo + i) from rfl]
    have hl7 : (cI ls2).length = 5 := by rw [cI_len]; exact hl2
    cases hr : runAll step (g (c.heat.lo + i)) x with
    | mk t x2 =>
      rw [hr] at hnext
      cases t with
      | true =>
        simp only [gos, eq_self, Nat.reduceLT, Nat.reduceEqDiff, Nat.reduceAdd, Nat.reduceLeDiff, reduceCtorEq, reduceIte, ↓reduceIte, tt, vgo, vout, vguard, callOf, vop, ev, cv, vbin, vint, isShift, isNilConst, vload, chH, chooseV, hl7]
        refine Nx.mk (i + 1, ls2, x2) (show _ - (i + 1) < _ - i by omega) ⟨by simp only; omega, hl2, fun j hj => ?_, hnext⟩ ?_
        · rw [hag2 j (by omega), hag j hj]
        · have e2 : c.heat.lo + (i : Int) + 1 = c.heat.lo + ((i + 1 : Nat) : Int) := by omega
          rw [i64_in (show -9223372036854775808 ≤ c.heat.lo + (i : Int) + 1 by omega) (show c.heat.lo + (i : Int) + 1 ≤ 9223372036854775807 by omega), e2]
          exact Wk.env (by simp [subE, Env.get])
      | false =>
        have hrest : runAll step (truths c) x0 = (false, x2) := by
          unfold truths
          rw [← List.take_append_drop (i + 1) (rangeI c.heat.lo c.heat.hi), List.flatMap_append, runAll_append]
          rw [show runAll step (List.flatMap (fun h => List.map (fun l => (⟨h, l⟩ : Sc)) (genH c (c.last + 1).toNat 0 zL)) (List.take (i + 1) (rangeI c.heat.lo c.heat.hi))) x0 = (false, x2) from hnext]
        simp only [gos, eq_self, Nat.reduceLT, reduceIte, ↓reduceIte, vgo, vout, vguard, callOf, vop, ev]
        subst hQ
        rw [hrest]
        refine FnPost.plain trivial (v := .tup []) (fun h2 e => by rfl) (WkV.forgetF ?_ ?_ ?_ ?_) rfl
        · intro i e he
          simp only [chH, Heap.get]
          rw [if_neg (fun h => by subst h; rw [Y.a3] at he; cases he), if_neg (fun h => by subst h; rw [Y.a4] at he; cases he)]
          exact he
        · intro i hp; rw [Y.dom _ x0]; exact hp
        · rfl
        · exact Y.closed _
  · have hie : i = (rangeI c.heat.lo c.heat.hi).length := by omega
    have hrest : runAll step (truths c) x0 = (true, x) := by
      rw [hie, List.take_length] at hrun
      exact hrun
    simp only [gos, eq_self, Nat.reduceLT, Nat.reduceEqDiff, Nat.reduceAdd, reduceCtorEq, reduceIte, ↓reduceIte, tt, vgo, vout, vguard, callOf, vop, ev, vbin, vint, isShift, isNilConst, vload, chH, chooseV, hil]
    subst hQ
    rw [hrest]
    refine FnPost.plain trivial (v := .tup []) (fun h2 e => by rfl) (WkV.forgetF ?_ ?_ ?_ ?_) rfl
    · intro i e he
      simp only [Heap.get]
      rw [if_neg (fun h => by subst h; rw [Y.a3] at he; cases he), if_neg (fun h => by subst h; rw [Y.a4] at he; cases he)]
      exact he
    · intro i hp; rw [Y.dom _ x0]; exact hp
    · rfl
    · exact Y.closed _
theorem c_scenes (c : Cu) (hc : c.wf) : Pu Tryz.prog (.fn 144 [] []) [.agg c.cs] (.fn 169 [] [.rop c.cs]) := by
  refine Ev.fn Tryz.func144 rfl rfl (Fn.body tabOk Tryz.func144 rfl (Nat.le_of_ble_eq_true rfl) (Ks.ok (fz := (fzn [])) (cl := (cln [])) tabOk mixed ?_))
  generalize hQ : FnPost tt Tryz.f144 _ _ = Q
  simp only [Tryz.f144, List.nil_append, List.append_nil, argsEnv]
  simp only [gos, eq_self, Nat.reduceLT, Nat.reduceEqDiff, reduceIte, ↓reduceIte, vgo, vout, vguard, callOf, vop, ev, cv, newRow]
  subst hQ
  exact FnPost.plain trivial (fun h2 e => by first | rfl | (simp only [Tryz.f144, vres, vresL, vres1, e _, gos, if_true, if_false, ne_eq, eq_self, Nat.reduceLT, Nat.reduceEqDiff, Nat.reduceAdd, Nat.reduceMul, Nat.reduceLeDiff, Nat.reduceBEq, reduceCtorEq, reduceIte, Array.toList, ↓reduceIte, tt, vgo, vout, vgoD, voutD, vclsOk, vids, mayWrite, V.ids, V.mids, vguard, callOf, vop, ev, cv, vbin, vint, isShift, isNilConst, vnil, isNilSlice, vload, vlen, newRow, vfill, vslice, entOf, vappend, srcOf, vcopy, vlookup, vupdate, mapOk, keyOf, intsOf, clsAt]; try rfl)) (WkV.pure (by simp only [V.into, intoL, cu_into, Bool.and_true])) ⟨rfl, rfl⟩
end Go.Vm

set_option linter.unusedVariables false
set_option linter.unusedSimpArgs false
set_option maxRecDepth 100000
namespace Go.Vm
open Go.Proofs
/-- What is known when a function comes back, said anew. -/
theorem Ev.weakV {P : Program} {fv : V} {args : List V} {h : Heap} {R R2 : V → Heap → Prop} (e : Ev P fv args h R) (n : ∀ v h', R v h' → ∃ v2 h2, WkV (domP h) v h' v2 h2 ∧ R2 v2 h2) : Ev P fv args h R2 := by
  intro g w fc vs h1 h2 H
  obtain ⟨fr0, hb, e⟩ := e g w fc vs h1 h2 H
  refine ⟨fr0, hb, fun c cs => ?_⟩
  obtain ⟨v, h', vc, g', w', r, st, hv, hH, hT, hle⟩ := e c cs
  obtain ⟨v2, h2, wk, r2⟩ := n v h' r
  obtain ⟨g2, hv2, H2, t2, k2⟩ := wk g' w' vc hv hH
  refine ⟨v2, h2, vc, g2, w', r2, st, hv2, H2, hT.trans t2, ⟨fun i v x _ hm => ?_, fun B o v e => t2.romono _ _ _ (hle.ro _ _ _ e)⟩⟩
  obtain ⟨en, h3, _⟩ := H.dom i v (by rw [hm]; simp)
  exact k2 i v x (by simp [domP, h3]) (hle.m _ _ _ rfl hm)
section
variable {P : Program} {tt : Tab} {fz : Nat → Bool} {cl : Cl0} {b : Frame} {N : Nat} {p : Nat → Bool} {Q : Post} {k : List Itm} {ρ : Env} {D : List Nat} {h : Heap}
/-- A loop over a function; its code gets a name. -/
theorem W.rangeFuncG (lj dj : Nat) (hl : h.get lj = none) (hd : h.get dj = none) (hne : lj ≠ dj) (hb : b.roundOf = none) {f : Operand} {ps : Array Tmp} {sa bd : Code}
    (e : ∀ sa2 bd2, sa2 = sa → bd2 = bd → Ev P (ev ρ f) [.yl lj] ((h.set dj ⟨0, .dfr true⟩).set lj (lent .ready none b.fn N ρ ps.toList sa2 bd2 dj)) fun _ h' => RfPost (fun x ρ D h => R P tt fz cl b N p Q k x ρ D h) lj dj b.fn N ρ D ps.toList sa2 bd2 h') :
    W P tt fz cl b N p Q (.rangeFunc f ps sa bd) k ρ D h := W.rangeFunc lj dj hl hd hne hb (e sa bd rfl rfl)
theorem W.named {c c' : Code} (e : c' = c) (w : W P tt fz cl b N p Q c k ρ D h) : W P tt fz cl b N p Q c' k ρ D h := e ▸ w
end
/-- A call of yield; what must hold at the ends gets names. -/
theorem Ev.roundG {P : Program} {tt : Tab} {N : Nat} {ρ : Env} {h : Heap} (K : TabOk P tt) (hm : P.follows .mixedOrders = true) (fz : Nat → Bool) (cl : Cl0) {i : Nat} {pd : Option Code} {fn : FuncId} {ps : List Tmp} {sa bd : Code} {dj : Nat} (hi : h.get i = some (lent .ready pd fn N ρ ps sa bd dj)) {args : List V} (hl : ps.length = args.length) (hN : lts N ps = true) {S : V → Heap → Prop}
    (e : ∀ L Q2, (∀ x ρ' D' h', RPost i fn N ρ ps sa bd dj S x ρ' D' h' → Q2 x ρ' D' h') → ∀ Q1 : Post, (∀ ρ1 h1 pd, h1.get i = some (lent .ready pd fn N ρ ps sa bd dj) → W P tt fz cl (rbase fn L) N (domP h) Q2 bd [] ρ1 [] (h1.set i (lent .busy pd fn N ρ ps sa bd dj)) → Q1 .normal ρ1 [] h1) →
      W P tt fz cl (rbase fn L) N (domP h) Q1 sa [] (putL ρ ps args) [] h) : Ev P (.yl i) args h S :=
  Ev.roundW K hm fz cl hi hl hN fun L => e L _ (fun _ _ _ _ q => q) _ fun ρ1 h1 pd h2 w => ⟨pd, rfl, rfl, h2, w⟩
/-- The end of a function in which deferred calls were gathered: none. -/
theorem FnPost.defer {tt : Tab} {fn : Func} {p : Nat → Bool} {R : V → Heap → Prop} {x : Xit} {ρ : Env} {D : List Nat} {h : Heap} (hx : match x with | .exit _ => False | _ => True) (hn : D.Nodup) (hd : ∀ i ∈ D, h.get i = some ⟨0, .dfr true⟩) {v : V}
    (hv : ∀ h2, (∀ i, i ∉ D → h2.get i = h.get i) → vres tt ρ h2 fn.results.toList = some v) {v3 : V} {h3 : Heap} (k : ∀ h2, (∀ i, i ∉ D → h2.get i = h.get i) → WkV p v h2 v3 h3) (r : R v3 h3) : FnPost tt fn p R x ρ D h :=
  ⟨hx, hn, hd, fun h2 e => ⟨v, hv h2 e, v3, h3, k h2 e, r⟩⟩
theorem cI_ren (s : Nat → Nat) : ∀ l : List Int, renL s (cI l) = cI l
  | [] => rfl
  | x :: l => by simp only [cI, List.map_cons, renL, V.ren]; exact congrArg _ (cI_ren s l)
theorem cR_ren (s : Nat → Nat) : ∀ l : List Rg, renL s (cR l) = cR l
  | [] => rfl
  | x :: l => by simp only [cR, renL, V.ren, cR_ren s l]
theorem cD_ren (s : Nat → Nat) : ∀ l : List Rd, renL s (cD l) = cD l
  | [] => rfl
  | x :: l => by simp only [cD, renL, V.ren, cD_ren s l]
theorem cu_ren (s : Nat → Nat) (c : Cu) : renL s c.cs = c.cs := by
  simp only [Cu.cs, renL, V.ren, vI, vR, vD, cI_ren, cR_ren, cD_ren]
end Go.Vm

set_option linter.unusedVariables false
set_option linter.unusedSimpArgs false
set_option maxRecDepth 100000
namespace Go.Vm
open Go.Proofs
/-! ### there are at most 2000 truths -/
def pL : List Rg → Int
  | [] => 1
  | r :: l => sSize r * pL l
theorem pL_pos : ∀ {l : List Rg}, (∀ r ∈ l, 1 ≤ sSize r) → 1 ≤ pL l
  | [], _ => by simp [pL]
  | r :: l, h => by
    have h1 := h r (by simp)
    have h2 := pL_pos (l := l) fun x hx => h x (by simp [hx])
    have := Int.mul_le_mul h1 h2 (by omega) (by omega)
    simp only [pL]; omega
theorem sManyL_ge : ∀ (l : List Rg) (n : Int), 0 ≤ n → (∀ r ∈ l, 1 ≤ sSize r) → min (n * pL l) 2001 ≤ sManyL n l
  | [], n, hn, _ => by simp only [pL, sManyL, List.foldl_nil]; omega
  | r :: l, n, hn, h => by
    have h1 := h r (by simp)
    have h2 := pL_pos (l := l) fun x hx => h x (by simp [hx])
    have hm : 0 ≤ n * sSize r := Int.mul_nonneg hn (by omega)
    have ih := sManyL_ge l (min (n * sSize r) 2001) (by omega) fun x hx => h x (by simp [hx])
    have e : sManyL n (r :: l) = sManyL (min (n * sSize r) 2001) l := rfl
    rw [e, pL, ← Int.mul_assoc]
    refine Int.le_trans ?_ ih
    by_cases hc : n * sSize r ≤ 2001
    · rw [Int.min_eq_left hc]; exact Int.le_refl _
    · rw [show min (n * sSize r) 2001 = 2001 by omega]
      have : 2001 * 1 ≤ 2001 * pL l := Int.mul_le_mul_of_nonneg_left h2 (by omega)
      omega
theorem flat_len {α β : Type} (f : α → List β) (m : Nat) : ∀ (l : List α), (∀ x ∈ l, (f x).length = m) → (l.flatMap f).length = l.length * m
  | [], _ => by simp
  | x :: l, h => by
    rw [List.flatMap_cons, List.length_append, flat_len f m l fun y hy => h y (by simp [hy]), h x (by simp), List.length_cons, Nat.add_mul]
    omega
theorem genH_len (c : Cu) : ∀ (k hour : Nat) (ls : List Int), hour + k ≤ c.loss.length → (∀ r ∈ c.loss, 1 ≤ sSize r) → ((genH c k hour ls).length : Int) = pL ((c.loss.drop hour).take k)
  | 0, hour, ls, _, _ => by simp [genH, pL]
  | k + 1, hour, ls, h, hs => by
    have hll : (hour : Int) < c.loss.length := by omega
    have e : c.loss.drop hour = gR c.loss hour :: c.loss.drop (hour + 1) := by
      have := gR_drop (l := c.loss) (n := hour) (by omega) hll
      rwa [Int.toNat_natCast] at this
    have hr : 1 ≤ sSize (gR c.loss hour) := hs _ (List.mem_of_getElem? (gR_get hll))
    obtain ⟨m, hm⟩ : ∃ m, ∀ n, (genH c k (hour + 1) (ls.set hour n)).length = m := by
      refine ⟨(genH c k (hour + 1) ls).length, fun n => ?_⟩
      have h1 := genH_len c k (hour + 1) (ls.set hour n) (by omega) hs
      have h2 := genH_len c k (hour + 1) ls (by omega) hs
      omega
    have h1 := genH_len c k (hour + 1) (ls.set hour 0) (by omega) hs
    rw [genH, flat_len _ m _ fun n _ => hm n, e, List.take_succ_cons, pL, ← h1, hm, rangeI_len, Int.natCast_mul]
    congr 1
    simp only [sSize] at hr ⊢
    omega
theorem truths_len {c : Cu} (k : CuOk c) : ((truths c).length : Int) ≤ 2000 := by
  have hs : ∀ r ∈ c.loss, 1 ≤ sSize r := fun r hr => by
    have := k.loss.2 r hr
    simp only [sInside, Bool.and_eq_true, decide_eq_true_eq] at this
    simp only [sSize]; omega
  have hh : 1 ≤ sSize c.heat := by
    have := k.heat
    simp only [sInside, Bool.and_eq_true, decide_eq_true_eq] at this
    simp only [sSize]; omega
  have h1 := genH_len c (c.last + 1).toNat 0 zL (by have := k.loss.1; omega) hs
  rw [List.drop_zero, List.take_of_length_le (by have := k.loss.1; omega)] at h1
  have h2 := sManyL_ge c.loss (sSize c.heat) (by omega) hs
  have h3 := k.many
  simp only [sMany] at h3
  rw [truths, flat_len _ (genH c (c.last + 1).toNat 0 zL).length _ fun n _ => by simp, Int.natCast_mul, h1, rangeI_len]
  have : ((c.heat.hi + 1 - c.heat.lo).toNat : Int) = sSize c.heat := by simp only [sSize] at hh ⊢; omega
  rw [this]
  omega
end Go.Vm

set_option linter.unusedVariables false
set_option linter.unusedSimpArgs false
set_option maxRecDepth 100000
namespace Go.Vm
open Go.Proofs
/-- The truths that are right, in their order. -/
def askAdd (c : Cu) (s : Sc) (tr : List Sc) : List Sc := if sRight c s [] = true ∧ tr.getLast? ≠ some s then tr ++ [s] else tr
def askStep (c : Cu) (s : Sc) (tr : List Sc) : Bool × List Sc := (true, askAdd c s tr)
def sTruth (c : Cu) : List Sc := (runAll (askStep c) (truths c) []).2
def askOk (c : Cu) (s : Sc) (tr : List Sc) : Prop := ScOk c s ∧ okS tr ∧ (tr.length : Int) + 1 ≤ 1000000
theorem askAdd_len (c : Cu) (s : Sc) (tr : List Sc) : (askAdd c s tr).length ≤ tr.length + 1 := by
  unfold askAdd; split <;> simp
theorem askAdd_ok {c : Cu} {s : Sc} {tr : List Sc} (hs : ScOk c s) (h : okS tr) : okS (askAdd c s tr) := by
  unfold askAdd; split
  · intro x hx
    simp only [List.mem_append, List.mem_singleton] at hx
    rcases hx with hx | rfl
    · exact h x hx
    · exact hs.loss.1
  · exact h
theorem Good_ask (c : Cu) (l : List Sc) : ∀ (tr : List Sc), (∀ s ∈ l, ScOk c s) → okS tr → (tr.length : Int) + l.length ≤ 1000000 → Good (askStep c) (askOk c) l tr := by
  induction l with
  | nil => intro tr _ _ _; trivial
  | cons s l ih =>
    intro tr hs h hl
    have h1 := hs s (by simp)
    have h2 := askAdd_len c s tr
    simp only [List.length_cons, Int.natCast_add, Int.cast_ofNat_Int] at hl
    exact ⟨⟨h1, h, by omega⟩, fun _ => ih (askAdd c s tr) (fun x hx => hs x (by simp [hx])) (askAdd_ok h1 h) (by omega)⟩
theorem ask_ok (c : Cu) (l : List Sc) : ∀ (tr : List Sc), (∀ s ∈ l, ScOk c s) → okS tr → okS (runAll (askStep c) l tr).2 := by
  induction l with
  | nil => intro tr _ h; exact h
  | cons s l ih =>
    intro tr hs h
    exact ih (askAdd c s tr) (fun x hx => hs x (by simp [hx])) (askAdd_ok (hs s (by simp)) h)
theorem ask_len (c : Cu) (l : List Sc) : ∀ (tr : List Sc), ((runAll (askStep c) l tr).2.length : Int) ≤ tr.length + l.length := by
  induction l with
  | nil => intro tr; simp [runAll]
  | cons s l ih =>
    intro tr
    have h2 := askAdd_len c s tr
    have := ih (askAdd c s tr)
    simp only [runAll, askStep, List.length_cons] at this ⊢
    omega
theorem cS_snoc : ∀ (l : List Sc) (s : Sc), cS (l ++ [s]) = cS l ++ (vi s.heat :: cI s.loss)
  | [], s => by simp [cS]
  | x :: l, s => by simp [cS, cS_snoc l s]
def askH (c : Cu) (ps : List Tmp) (sa sb : Code) (tr : List Sc) : Heap :=
  [(17, ⟨0, .map []⟩), (19, ⟨0, .row [vi c.last, vi c.start, vi c.most, vi c.per, vi c.shovels, vI c.coal, vI c.want, vi c.heat.lo, vi c.heat.hi, vR c.loss, vD c.readings, .own 57 tr.length 0 6 tr.length, .mp 17]⟩), (7, ⟨0, .row [.ptr 19 0 0]⟩), (57, ⟨tr.length, .row (cS tr)⟩), (51, ⟨0, .dfr true⟩),
   (50, lent .ready none 107 67 [(21, .fn 169 [] [.rop c.cs]), (20, .agg c.cs), (2, .rop c.cs), (7, .ptr 7 0 0), (4, .nilp), (5, vi 0)] ps sa sb 51)]
theorem askH_closed (c : Cu) (ps : List Tmp) (sa sb : Code) (tr : List Sc) : intoH (domP (askH c ps sa sb tr)) (askH c ps sa sb tr) = true := by
  simp only [askH, intoH, lent, Blk.into, intoE, V.into, intoL, cS_into, vI_into, vR_into, vD_into, cu_into, Bool.true_and, Bool.and_true, intoPs, domP, Heap.get]
  rfl
theorem askH_dom (c : Cu) (ps : List Tmp) (sa sb : Code) (x y : List Sc) (i : Nat) : domP (askH c ps sa sb x) i = domP (askH c ps sa sb y) i := by
  simp only [askH, domP, Heap.get]
  repeat' split
  all_goals rfl
def sAsked (c : Cu) (fine : Bool) : Int := if sCheck c ≠ 0 then sCheck c else if fine = false then 2 else if sTruth c = [] then 11 else 0
/-- What asked returns: the error, or coppers at work. -/
def AskPost (c : Cu) (e : Int) (v : V) (h' : Heap) : Prop :=
  (e ≠ 0 ∧ v = .tup [.nilp, vi e] ∧ h' = []) ∨ (e = 0 ∧ v = .tup [.rop (wcs c (sTruth c) (.mp 17)), vi 0] ∧ h' = [(17, ⟨0, .map []⟩)])
set_option maxHeartbeats 4000000 in
theorem c_asked (c : Cu) (hc : c.wf) (fine : Bool) : Ev Tryz.prog (.fn 107 [] []) [.agg c.cs, .bool fine] [] (AskPost c (sAsked c fine)) := by
  refine Ev.fn Tryz.func107 rfl rfl (Fn.body tabOk Tryz.func107 rfl (Nat.le_of_ble_eq_true rfl) (Ks.ok (fz := (fzn [7, 17, 19])) (cl := (cln [(6, .ex)])) tabOk mixed ?_))
  generalize hQ : FnPost tt Tryz.f107 _ _ = Q
  simp only [Tryz.f107, List.nil_append, List.append_nil, argsEnv, Nat.reduceAdd]
  simp only [gos, eq_self, Nat.reduceLT, Nat.reduceEqDiff, reduceCtorEq, reduceIte, ↓reduceIte, tt, vgo, vout, vguard, callOf, vop, ev, cv, vload, newRow]
  refine Cl.pu (c_Check c hc) ?_ rfl (by simp only [V.into, intoL, cu_into, Bool.and_true])
  by_cases h0 : sCheck c = 0
  case neg =>
    have hb : (sCheck c != 0) = true := by simp [h0]
    simp only [gos, eq_self, Nat.reduceLT, Nat.reduceEqDiff, reduceIte, ↓reduceIte, vgo, vout, vguard, callOf, vop, ev, cv, vbin, vint, isShift, isNilConst, hb]
    subst hQ
    exact FnPost.plain trivial (fun h2 e => by rfl) (WkV.refl) (.inl ⟨by simp [sAsked, h0], by simp [sAsked, h0], rfl⟩)
  have hb : (sCheck c != 0) = false := by simp [h0]
  have k0 := sCheck_ok h0
  simp only [gos, eq_self, Nat.reduceLT, Nat.reduceEqDiff, reduceCtorEq, reduceIte, ↓reduceIte, vgo, vout, vguard, callOf, vop, ev, cv, vbin, vint, isShift, isNilConst, hb]
  cases fine
  case false =>
    simp only [gos, eq_self, Nat.reduceLT, Nat.reduceEqDiff, reduceIte, ↓reduceIte, vgo, vout, vguard, callOf, vop, ev, cv]
    subst hQ
    exact FnPost.plain trivial (fun h2 e => by rfl) (WkV.refl) (.inl ⟨by simp [sAsked, h0], by simp [sAsked, h0], rfl⟩)
  simp only [gos, eq_self, reduceIte, ↓reduceIte]
  refine Wr.at tabOk 6 ?_
  simp only [gos, eq_self, Nat.reduceLT, Nat.reduceEqDiff, Nat.reduceAdd, Nat.reduceLeDiff, reduceCtorEq, reduceIte, ↓reduceIte, tt, vgo, vout, vguard, callOf, vop, ev, vload, newRow, vfill, Cu.cs]
  refine Wa.mk (Wk.trans (Wk.sl0H 19 11 57 6 rfl rfl rfl) (Wk.env (ρ' := [(2, .rop c.cs), (7, .ptr 7 0 0), (4, .nilp), (5, vi 0)]) (by simp [subE, Env.get, Cu.cs]))) ?_
  simp only [gos, eq_self, Nat.reduceLT, Nat.reduceEqDiff, reduceCtorEq, reduceIte, ↓reduceIte, tt, vgo, vout, vguard, callOf, vop, ev, vload, List.set]
  refine Cl.pu (c_scenes c hc) ?_ rfl (by simp only [V.into, intoL, cu_into, Bool.and_true])
  simp only [gos]
  refine W.rangeFuncG 50 51 rfl rfl (by decide) rfl ?_
  intro sa sb hsa hsb
  have Y : YOk Tryz.prog (.yl 50) (askH c [22] sa sb) (askStep c) (askOk c) := by
    refine ⟨?_, ?_, ?_, ?_, ?_, ?_, rfl⟩
    · rintro s tr ⟨hs, htr, htl⟩
      have hl6 : (cI s.loss).length = 5 := by rw [cI_len]; exact hs.loss.1
      have ht5 : List.take 5 (cI s.loss) = cI s.loss := List.take_of_length_le (by omega)
      have hd5 : List.drop 5 (cI s.loss) = [] := List.drop_eq_nil_of_le (by omega)
      refine (Ev.roundG (i := 50) (pd := none) tabOk mixed (fzn [8]) (cln [(9, .d tg0 [cP, cL, cP, cP, cL, cP, cP, cL, cP, cP, cP, cL, cP, cP, cL, cL, cP, cP, cL, cP, cP, cP, cL, cL, cP, cP, cP]), (10, .d (tgL [(57, 1)]) [cL, cL, cP, cP, cL, cL, cP, some ([1], [1]), cP, cP, cW])]) rfl rfl rfl (S := fun v h' => v = .bool true ∧ h' = askH c [22] sa sb (askAdd c s tr) ++ [(8, ⟨0, .row s.cs⟩)]) ?_).weakV ?_
      · intro L Q2 hQ2 Q1 hQ1
        refine W.named hsa ?_
        simp only [gos, eq_self, Nat.reduceLT, Nat.reduceEqDiff, Nat.reduceAdd, reduceCtorEq, reduceIte, ↓reduceIte, tt, vgo, vout, vguard, callOf, vop, ev, newRow, putL, askH, Sc.cs, hl6, cI_one]
        refine hQ1 _ _ none rfl (W.named hsb ?_)
        simp only [gos, eq_self, Nat.reduceEqDiff, reduceIte, ↓reduceIte]
        refine Wr.draw (by kernel_rfl) ?_
        simp only [gos, eq_self, Nat.reduceLT, Nat.reduceEqDiff, Nat.reduceAdd, reduceCtorEq, reduceIte, ↓reduceIte, tt, vgoD, voutD, vclsOk, vids, mayWrite, V.ids, vguard, callOf, vop, ev, cv, vload, clsAt, hl6, ht5]
        have hq : Pu Tryz.prog (.fn 145 [] []) [.agg c.cs, .agg (vi s.heat :: cI s.loss), .sl0] (.bool (sRight c s [])) :=
          Ev.less (cs := [.agg c.cs, .agg s.cs, vI []]) (ImpV.refl _) ⟨ImpV.refl _, ImpV.refl _, sl0_vI, trivial⟩ (c_right c s [] (k0.play0 hs) k0.hours hc.readings (by simp))
        refine CD.pu hq ?_ rfl (by simp only [V.into, intoL, cI_into, cu_into, Bool.and_true])
        cases hr : sRight c s [] with
        | false =>
          simp only [gos, eq_self, Nat.reduceLT, Nat.reduceEqDiff, reduceIte, ↓reduceIte, vgoD, voutD, vclsOk, vids, mayWrite, vguard, callOf, vop, ev, cv]
          refine hQ2 _ _ _ _ ⟨.busy, none, rfl, rfl, ?_⟩
          simp only [askAdd, hr, askH, Sc.cs]; rfl
        | true =>
          by_cases htn : tr.length = 0
          · have hb : decide ((tr.length : Int) = 0) = true := by simp [htn]
            have hcl : (cS tr).length = tr.length * 6 := cS_len htr
            have htl2 : tr.length ≤ 999999 := by omega
            simp only [gos, eq_self, Nat.reduceLT, Nat.reduceEqDiff, Nat.reduceAdd, reduceCtorEq, reduceIte, ↓reduceIte, tt, vgoD, voutD, vclsOk, vids, mayWrite, V.ids, vguard, callOf, vop, ev, cv, vbin, vint, isShift, isNilConst, vload, vlen, hb]
            refine Wr.draw (by kernel_rfl) ?_
            simp only [gos, eq_self, Nat.reduceLT, Nat.reduceEqDiff, Nat.reduceAdd, Nat.reduceMul, Nat.reduceLeDiff, reduceCtorEq, reduceIte, ↓reduceIte, tt, vgoD, voutD, vclsOk, vids, mayWrite, V.ids, vguard, callOf, vop, ev, vload, vfill, vappend, srcOf, clsAt, hl6, ht5, hcl, htl2, cI_one]
            have hadd : askAdd c s tr = tr ++ [s] := by
              have : tr = [] := List.length_eq_zero_iff.1 htn
              simp [askAdd, hr, this]
            refine hQ2 _ _ _ _ ⟨.busy, none, rfl, rfl, ?_⟩
            simp only [hadd, askH, Sc.cs, cS_snoc, List.length_append, List.length_singleton]; rfl
          · have hb : decide ((tr.length : Int) = 0) = false := by simp [htn]
            have hcl : (cS tr).length = tr.length * 6 := cS_len htr
            have htl2 : tr.length ≤ 999999 := by omega
            have hw : IntKind.i64.wrap ((tr.length : Int) - 1) = ((tr.length - 1 : Nat) : Int) := by rw [i64_in (by omega) (by omega)]; omega
            have hlt : ((tr.length - 1 : Nat) : Int) < (tr.length : Int) := by omega
            have hi2 : (((tr.length - 1 : Nat) : Int)).toNat = tr.length - 1 := Int.toNat_natCast _
            have hx5 : (cI (gS tr (tr.length - 1 : Nat)).loss).length = 5 := by rw [cI_len]; exact htr _ (gS_mem (by omega) (by omega))
            have hat : List.drop ((tr.length - 1) * 6) (cS tr) = vi (gS tr (tr.length - 1 : Nat)).heat :: (cI (gS tr (tr.length - 1 : Nat)).loss ++ cS (tr.drop (tr.length - 1 + 1))) := by
              have := cS_at htr (Int.natCast_nonneg (tr.length - 1)) hlt
              rwa [Int.toNat_natCast] at this
            have hxl : (gS tr (tr.length - 1 : Nat)).loss.length = 5 := htr _ (gS_mem (by omega) (by omega))
            have hlast : tr.getLast? = some (gS tr (tr.length - 1 : Nat)) := by rw [List.getLast?_eq_getElem?]; exact gS_get hlt
            have hsl := hs.loss.1
            generalize gS tr (tr.length - 1 : Nat) = x at hx5 hat hxl hlast
            have hle5 : 5 ≤ (cI x.loss ++ cS (tr.drop (tr.length - 1 + 1))).length := by rw [List.length_append, hx5]; omega
            have htk : List.take 5 (cI x.loss ++ cS (tr.drop (tr.length - 1 + 1))) = cI x.loss := by rw [List.take_append_of_le_length (by omega), List.take_of_length_le (by omega)]
            have hn1 : (x.heat :: x.loss != s.heat :: s.loss) = decide (x ≠ s) := by
              obtain ⟨a, l⟩ := x; obtain ⟨b, m⟩ := s
              simp [bne, Bool.beq_eq_decide_eq]
            simp only [gos, ne_eq, eq_self, Nat.reduceLT, Nat.reduceEqDiff, Nat.reduceAdd, Nat.reduceLeDiff, reduceCtorEq, reduceIte, ↓reduceIte, tt, vgoD, voutD, vclsOk, vids, mayWrite, V.ids, vguard, callOf, vop, ev, cv, vbin, vint, isShift, isNilConst, vload, vlen, intsOf, hl6, ht5, hb, hw, hlt, hi2, hat, Nat.zero_add, hle5, htk, intsOf_cI, hxl, hsl, hn1]
            by_cases hxs : x = s
            · have hdx : decide (x ≠ s) = false := by simp [hxs]
              have hadd : askAdd c s tr = tr := by simp [askAdd, hr, hlast, hxs]
              simp only [gos, hdx]
              refine hQ2 _ _ _ _ ⟨.busy, none, rfl, rfl, ?_⟩
              simp only [hadd, askH, Sc.cs]; rfl
            · have hdx : decide (x ≠ s) = true := by simp [hxs]
              have hadd : askAdd c s tr = tr ++ [s] := by simp [askAdd, hr, hlast, hxs]
              simp only [gos, eq_self, Nat.reduceEqDiff, reduceIte, ↓reduceIte, hdx]
              refine Wr.draw (by kernel_rfl) ?_
              simp only [gos, eq_self, Nat.reduceLT, Nat.reduceEqDiff, Nat.reduceAdd, Nat.reduceMul, Nat.reduceLeDiff, reduceCtorEq, reduceIte, ↓reduceIte, tt, vgoD, voutD, vclsOk, vids, mayWrite, V.ids, vguard, callOf, vop, ev, vload, vfill, vappend, srcOf, clsAt, hl6, ht5, hcl, htl2, cI_one]
              refine hQ2 _ _ _ _ ⟨.busy, none, rfl, rfl, ?_⟩
              simp only [hadd, askH, Sc.cs, cS_snoc, List.length_append, List.length_singleton]; rfl
      · rintro v h' ⟨rfl, rfl⟩
        refine ⟨_, _, WkV.forgetF (h' := askH c [22] sa sb (askAdd c s tr)) (fun i e he => by rw [Heap.get_append, he]; rfl) (fun i hi => by rw [askH_dom _ _ _ _ _ tr]; exact hi) rfl (askH_closed _ _ _ _ _), rfl, rfl⟩
    · intro x; rfl
    · exact askH_closed c [22] sa sb
    · exact askH_dom c [22] sa sb
    · intro x; rfl
    · intro x; rfl
  have htl := truths_len k0
  have hall : ∀ s ∈ truths c, ScOk c s := fun s hs => truths_ok k0 hs
  refine (c_scenes1 c k0 (.yl 50) _ _ _ Y [] (Good_ask c _ [] hall (by intro s hs; cases hs) (by simp only [List.length_nil]; omega))).mono ?_
  rintro v h' rfl
  have hT1 := ask_ok c (truths c) [] hall (by intro s hs; cases hs)
  have hT2 := ask_len c (truths c) []
  rw [show (runAll (askStep c) (truths c) []).2 = sTruth c from rfl] at hT1 hT2 ⊢
  refine ⟨.ready, none, rfl, by decide, ?_⟩
  by_cases htn : sTruth c = []
  · have hb : decide (((sTruth c).length : Int) = 0) = true := by simp [htn]
    simp only [gos, eq_self, Nat.reduceLT, Nat.reduceEqDiff, Nat.reduceAdd, reduceCtorEq, reduceIte, ↓reduceIte, tt, vgo, vout, vguard, callOf, vop, ev, cv, vbin, vint, isShift, isNilConst, vload, vlen, askH, hb]
    subst hQ
    refine FnPost.defer trivial (by decide) (by simp [Heap.get]) (v := .tup [.nilp, vi 11]) (fun h2 e => ?_) (fun h2 e => WkV.forgetF (h' := []) (fun i e he => by cases he) (fun i hi => by cases hi) rfl rfl) (.inl ⟨by simp [sAsked, h0, htn], by simp [sAsked, h0, htn], rfl⟩)
    rfl
  · have hb : decide (((sTruth c).length : Int) = 0) = false := by
      rw [decide_eq_false_iff_not]
      intro h; exact htn (List.length_eq_zero_iff.1 (by omega))
    simp only [gos, eq_self, Nat.reduceLT, Nat.reduceEqDiff, Nat.reduceAdd, reduceCtorEq, reduceIte, ↓reduceIte, tt, vgo, vout, vguard, callOf, vop, ev, cv, vbin, vint, isShift, isNilConst, vload, vlen, askH, hb]
    subst hQ
    have hcl : (cS (sTruth c)).length = (sTruth c).length * 6 := cS_len hT1
    have htk : (cS (sTruth c)).take ((sTruth c).length * 6) = cS (sTruth c) := List.take_of_length_le (by omega)
    refine FnPost.defer trivial (by decide) (by simp [Heap.get]) (v := .tup [.ptr 19 0 0, vi 0]) (v3 := .tup [.rop (wcs c (sTruth c) (.mp 17)), vi 0]) (h3 := [(17, ⟨0, .map []⟩)]) (fun h2 e => by rfl) (fun h2 e => ?_) (.inr ⟨by simp [sAsked, h0, htn], rfl, rfl⟩)
    generalize sTruth c = tr at hcl htk e ⊢
    let h5 : Heap := [(17, ⟨0, .map []⟩), (19, ⟨0, .row [vi c.last, vi c.start, vi c.most, vi c.per, vi c.shovels, vI c.coal, vI c.want, vi c.heat.lo, vi c.heat.hi, vR c.loss, vD c.readings, .own 57 tr.length 0 6 tr.length, .mp 17]⟩), (57, ⟨tr.length, .row (cS tr)⟩)]
    refine WkV.trans (v1 := .tup [.ptr 19 0 0, vi 0]) (h1 := h5) (WkV.forgetF ?_ ?_ rfl ?_) ?_
    · intro i en he
      have h51 : i ≠ 51 := by rintro rfl; cases he
      rw [e i (by simpa using h51)]
      simp only [h5, Heap.get] at he ⊢
      repeat' split at he
      all_goals (first | (cases he; done) | skip)
      all_goals simp_all
    · intro i hi; cases hi
    · simp only [h5, intoH, Blk.into, V.into, intoL, cS_into, vI_into, vR_into, vD_into, Bool.true_and, Bool.and_true, intoPs, domP, Heap.get]
      rfl
    · refine WkV.frz 57 (ver := tr.length) (cs := cS tr) (v' := .tup [.ptr 19 0 0, vi 0]) (h' := [(17, ⟨0, .map []⟩), (19, ⟨0, .row (wcs c tr (.mp 17))⟩)]) rfl rfl (cS_into _ _) rfl (by simp [V.frz, frzL]) ?_ ?_
      · simp only [h5, frzH, Blk.frz, frzPs, frzL, V.frz, vI, vR, vD, cI_frz, cR_frz, cD_frz, if_true, List.drop_zero, htk, wcs, vS]
        simp
      refine WkV.frz 19 (ver := 0) (cs := wcs c tr (.mp 17)) (v' := .tup [.rop (wcs c tr (.mp 17)), vi 0]) (h' := [(17, ⟨0, .map []⟩)]) rfl rfl (wc_into _ _ _ _ rfl) rfl (by simp [V.frz, frzL]) (by simp [frzH, Blk.frz, frzPs]) ?_
      exact WkV.refl
end Go.Vm

set_option linter.unusedVariables false
set_option linter.unusedSimpArgs false
set_option maxRecDepth 100000
namespace Go.Vm
open Go.Proofs
theorem WkV.less {p : Nat → Bool} {v v' : V} {h : Heap} (i : ImpV v v') : WkV p v h v' h := fun g w x hv H => ⟨g, i g x hv, H, Tr.refl g h w, Kp.refl p g⟩
theorem ImpV.tup {l m : List V} (i : impL l m) : ImpV (.tup l) (.tup m) := fun g x h => by
  simp only [VR] at h ⊢
  obtain ⟨vs, e, hc⟩ := h
  exact ⟨vs, e, impL_ok i hc⟩
/-- Coppers at work, or nothing. -/
def askV (c : Cu) (e : Int) : V := if e = 0 then .rop (wcs c (sTruth c) .any) else .nilp
theorem c_asked0 (c : Cu) (hc : c.wf) (fine : Bool) : Pu Tryz.prog (.fn 107 [] []) [.agg c.cs, .bool fine] (.tup [askV c (sAsked c fine), vi (sAsked c fine)]) := by
  refine (c_asked c hc fine).weakV ?_
  rintro v h' (⟨h0, rfl, rfl⟩ | ⟨h0, rfl, rfl⟩)
  · exact ⟨_, _, WkV.refl, by simp [askV, h0], rfl⟩
  · refine ⟨_, _, WkV.trans (WkV.less (v' := .tup [.rop (wcs c (sTruth c) .any), vi 0]) (ImpV.tup ⟨ImpV.rop (wcs_imp _ _ _), ImpV.refl _, trivial⟩)) (WkV.forgetF (h' := []) (fun i e he => by cases he) (fun i hi => by cases hi) ?_ rfl), ?_, rfl⟩
    · simp only [V.into, intoL, Bool.and_true, wc_any]
    · simp [askV, h0]
/-- What is known when asked returns no error. -/
structure AskOk (c : Cu) (fine : Bool) : Prop where
  chk : sCheck c = 0
  k0 : CuOk c
  fine : fine = true
  ne : sTruth c ≠ []
  ok : okS (sTruth c)
  len : ((sTruth c).length : Int) ≤ 2000
  sc : ∀ s ∈ sTruth c, ScOk c s
  mem : ∀ s ∈ sTruth c, s ∈ truths c ∧ sRight c s [] = true
theorem ask_mem (c : Cu) (l : List Sc) : ∀ (tr : List Sc), ∀ s ∈ (runAll (askStep c) l tr).2, s ∈ tr ∨ (s ∈ l ∧ sRight c s [] = true) := by
  induction l with
  | nil => intro tr s hs; exact .inl hs
  | cons x l ih =>
    intro tr s hs
    rcases ih (askAdd c x tr) s hs with h | h
    · unfold askAdd at h
      split at h
      · rename_i hr
        simp only [List.mem_append, List.mem_singleton] at h
        rcases h with h | rfl
        · exact .inl h
        · exact .inr ⟨by simp, hr.1⟩
      · exact .inl h
    · exact .inr ⟨by simp [h.1], h.2⟩
theorem askOk_of {c : Cu} {fine : Bool} (h : sAsked c fine = 0) : AskOk c fine := by
  unfold sAsked at h
  split at h
  · rename_i h1; exact absurd h h1
  rename_i h1
  split at h
  · cases h
  rename_i h2
  split at h
  · cases h
  rename_i h3
  have h0 : sCheck c = 0 := Classical.not_not.1 h1
  have k0 := sCheck_ok h0
  have hall : ∀ s ∈ truths c, ScOk c s := fun s hs => truths_ok k0 hs
  have hm : ∀ s ∈ sTruth c, s ∈ truths c ∧ sRight c s [] = true := fun s hs => by
    rcases ask_mem c (truths c) [] s hs with h | h
    · cases h
    · exact h
  refine ⟨h0, k0, by simpa using h2, h3, ask_ok c (truths c) [] hall (by intro s hs; cases hs), ?_, fun s hs => hall s (hm s hs).1, hm⟩
  have h4 := ask_len c (truths c) []
  have h5 := truths_len k0
  simp only [List.length_nil] at h4
  simp only [sTruth]; omega
/-- The bounds of an answer of an hour. -/
def sB (c : Cu) (f : Past → Int) : Rg := sBounds ((sTruth c).map fun s => f (sPast c c.coal c.want s))
def sHotB (c : Cu) (i : Int) : Rg := sB c fun p => gi p.hot i
def sLeftB (c : Cu) (i : Int) : Rg := sB c fun p => gi p.left i
def nR (n : Int) (f : Int → Rg) : List Rg := (List.range n.toNat).map fun (i : Nat) => f i
def nI (n : Int) (f : Int → Int) : List Int := (List.range n.toNat).map fun (i : Nat) => f i
theorem nR_succ (i : Nat) (f : Int → Rg) : nR ((i + 1 : Nat) : Int) f = nR i f ++ [f i] := by simp [nR, List.range_succ]
theorem nR_len (i : Nat) (f : Int → Rg) : (nR i f).length = i := by simp [nR]
theorem cR_snoc : ∀ (l : List Rg) (r : Rg), cR (l ++ [r]) = cR l ++ [vi r.lo, vi r.hi]
  | [], r => rfl
  | x :: l, r => by simp [cR, cR_snoc l r]
def sBoundsA (c : Cu) : List Rg × List Rg × Int :=
  if sAsked c true = 0 then (nR (c.last + 1) (sHotB c), nR (c.last + 1) (sLeftB c), 0) else ([], [], sAsked c true)
def bdSt (c : Cu) (i : Nat) : Env × Heap :=
  ([(1, .rop c.cs), (2, .own 29 i 0 2 i), (3, .own 38 i 0 2 i), (4, vi 0), (5, .rop (wcs c (sTruth c) .any)), (17, vi (c.last + 1)), (18, vi i)], [(29, ⟨i, .row (cR (nR i (sHotB c)))⟩), (38, ⟨i, .row (cR (nR i (sLeftB c)))⟩)])
theorem wk_two (i : Nat) (H L : List Rg) (h1 : H.length = i) (h2 : L.length = i) {a : V} (ha : a = vi 0) :
    WkV (domP []) (.tup [.own 29 i 0 2 i, .own 38 i 0 2 i, a]) [(29, ⟨i, .row (cR H)⟩), (38, ⟨i, .row (cR L)⟩)] (.tup [vR H, vR L, a]) [] := by
  have e1 : (cR H).take (i * 2) = cR H := List.take_of_length_le (by rw [cR_len]; omega)
  have e2 : (cR L).take (i * 2) = cR L := List.take_of_length_le (by rw [cR_len]; omega)
  subst ha
  refine WkV.frz 29 (v' := .tup [.ro i (cR H), .own 38 i 0 2 i, vi 0]) (h' := [(38, ⟨i, .row (cR L)⟩)]) (ver := i) (cs := cR H) rfl rfl (cR_into _ _) rfl ?_ ?_ ?_
  · simp [V.frz, frzL, e1]
  · simp [frzH, Blk.frz, cR_frz]
  refine WkV.frz 38 (v' := .tup [.ro i (cR H), .ro i (cR L), vi 0]) (h' := []) (ver := i) (cs := cR L) rfl rfl (cR_into _ _) rfl ?_ ?_ ?_
  · simp [V.frz, frzL, e2, cR_frz]
  · simp [frzH]
  have : V.tup [vR H, vR L, vi 0] = .tup [.ro i (cR H), .ro i (cR L), vi 0] := by simp only [vR, h1, h2]
  rw [this]
  exact WkV.refl
set_option maxHeartbeats 2000000 in
theorem c_Bounds (c : Cu) (hc : c.wf) : Pu Tryz.prog (.fn 84 [] []) [.agg c.cs] (.tup [vR (sBoundsA c).1, vR (sBoundsA c).2.1, vi (sBoundsA c).2.2]) := by
  refine Ev.fn Tryz.func84 rfl rfl (Fn.body tabOk Tryz.func84 rfl (Nat.le_of_ble_eq_true rfl) (Ks.ok (fz := (fzn [])) (cl := (cln [])) tabOk mixed ?_))
  generalize hQ : FnPost tt Tryz.f84 _ _ = Q
  simp only [Tryz.f84, List.nil_append, List.append_nil, argsEnv]
  simp only [gos, eq_self, Nat.reduceLT, Nat.reduceEqDiff, reduceCtorEq, reduceIte, ↓reduceIte, tt, vgo, vout, vguard, callOf, vop, ev, cv, vload, newRow]
  refine Cl.pu (c_asked0 c hc true) ?_ rfl (by simp only [V.into, intoL, cu_into, Bool.and_true])
  by_cases h0 : sAsked c true = 0
  case neg =>
    have hb : (sAsked c true != 0) = true := by simp [h0]
    simp only [gos, eq_self, Nat.reduceLT, Nat.reduceEqDiff, reduceIte, ↓reduceIte, vgo, vout, vguard, callOf, vop, ev, cv, vbin, vint, isShift, isNilConst, hb]
    subst hQ
    have hr : sBoundsA c = ([], [], sAsked c true) := by simp [sBoundsA, h0]
    rw [hr]
    exact FnPost.plain trivial (v := .tup [.sl0, .sl0, vi (sAsked c true)]) (fun h2 e => by rfl) (WkV.nil2 rfl) ⟨rfl, rfl⟩
  have A := askOk_of h0
  have hl := A.k0.last
  have hb : (sAsked c true != 0) = false := by simp [h0]
  simp only [gos, eq_self, Nat.reduceLT, Nat.reduceEqDiff, reduceCtorEq, reduceIte, ↓reduceIte, tt, vgo, vout, vguard, callOf, vop, ev, cv, vbin, vint, isShift, isNilConst, vload, askV, h0, i64_in (show -9223372036854775808 ≤ c.last + 1 by omega) (show c.last + 1 ≤ 9223372036854775807 by omega)]
  have hq : ∀ s ∈ sTruth c, PlayOk c s c.coal c.want := fun s hs => A.k0.play0 (A.sc s hs)
  refine W.loop tabOk mixed (bdSt c) (fun i => (c.last + 1).toNat - i) (fun i => (i : Int) ≤ c.last + 1) 0 (by omega) (Wk.trans (Wk.sl0E 2 29 2 rfl rfl) (Wk.trans (Wk.sl0E 3 38 2 rfl rfl) (Wk.env ?_))) ?_
  · simp [subE, Env.get, bdSt]
  intro i hi
  by_cases hil : (i : Int) < c.last + 1
  · have hn1 : (cR (nR i (sHotB c))).length = i * 2 := by rw [cR_len, nR_len]
    have hn2 : (cR (nR i (sLeftB c))).length = i * 2 := by rw [cR_len, nR_len]
    have hi9 : i ≤ 999999 := by omega
    simp only [gos, eq_self, Nat.reduceLT, Nat.reduceEqDiff, Nat.reduceAdd, reduceCtorEq, reduceIte, ↓reduceIte, tt, vgo, vout, vguard, callOf, vop, ev, vbin, vint, isShift, isNilConst, vload, vfill, bdSt, hil]
    refine Cl.pu (c_bounds _ (fun p => gi p.hot i) c (sTruth c) c.want i (by have := A.len; omega) A.ok hq ?_) ?_ rfl (by simp only [V.into, intoL, vI_into, Bool.and_true, wc_any])
    · intro s hs
      have := (sPlay_inv (hq s hs) (c.last + 1).toNat (by omega)).2.2.1
      exact c_pbuckets _ i (by omega) (by simp only [sPast]; omega)
    simp only [gos, eq_self, Nat.reduceLT, Nat.reduceEqDiff, Nat.reduceAdd, Nat.reduceMul, Nat.reduceLeDiff, reduceCtorEq, reduceIte, ↓reduceIte, tt, vgo, vout, vguard, callOf, vop, ev, vload, vfill, vappend, srcOf, hn1, hi9]
    refine Cl.pu (c_bounds _ (fun p => gi p.left i) c (sTruth c) c.want i (by have := A.len; omega) A.ok hq ?_) ?_ rfl (by simp only [V.into, intoL, vI_into, Bool.and_true, wc_any])
    · intro s hs
      have := (sPlay_inv (hq s hs) (c.last + 1).toNat (by omega)).2.2.2.1
      exact c_prest _ i (by omega) (by simp only [sPast]; omega)
    simp only [gos, eq_self, Nat.reduceLT, Nat.reduceEqDiff, Nat.reduceAdd, Nat.reduceMul, Nat.reduceLeDiff, reduceCtorEq, reduceIte, ↓reduceIte, tt, vgo, vout, vguard, callOf, vop, ev, cv, vbin, vint, isShift, isNilConst, vfill, vappend, srcOf, hn2, hi9]
    refine Nx.mk (i + 1) (show (c.last + 1).toNat - (i + 1) < (c.last + 1).toNat - i by omega) (by omega) (Wk.heap (fun j => ?_) ?_)
    · simp only [bdSt, nR_succ, cR_snoc]; rfl
    · simp [subE, Env.get, bdSt, i64_succ (show (i : Int) < 9223372036854775807 by omega)]
  · have hie : ((i : Nat) : Int) = c.last + 1 := by omega
    simp only [gos, eq_self, Nat.reduceLT, Nat.reduceEqDiff, reduceIte, ↓reduceIte, vgo, vout, vguard, callOf, vop, ev, cv, vbin, vint, isShift, isNilConst, bdSt, hil]
    subst hQ
    have hr : sBoundsA c = (nR i (sHotB c), nR i (sLeftB c), 0) := by rw [sBoundsA, if_pos h0, hie]
    rw [hr]
    refine FnPost.plain trivial (v := .tup [.own 29 i 0 2 i, .own 38 i 0 2 i, vi 0]) (fun h2 e => by rfl) ?_ ⟨rfl, rfl⟩
    exact wk_two i _ _ (nR_len _ _) (nR_len _ _) rfl
end Go.Vm

set_option linter.unusedVariables false
set_option linter.unusedSimpArgs false
set_option maxRecDepth 100000
namespace Go.Vm
open Go.Proofs
/-- An own block is lent for a call of a function that only reads; the result does not speak of blocks. -/
theorem Ev.lend {P : Program} {fv fv' : V} {args args' : List V} {v : V} {h : Heap} (i : Nat) {ver : Nat} {cs : List V} (hi : h.get i = some ⟨ver, .row cs⟩) (hc : intoL (fun j => decide (j ≠ i)) cs = true) (hl : noLoopOn i h = true)
    (hf : fv.frz i ver cs = fv') (ha : frzL i ver cs args = args') (c : Pu P fv' args' v) (hv : ∀ g g' x, VR g v x → VR g' v x) (hf2 : fv'.into (fun _ => false) = true := by rfl) (ha2 : intoL (fun _ => false) args' = true := by rfl) :
    Ev P fv args h fun v' h' => v' = v ∧ h' = h := by
  intro g w fc vs h1 h2 H
  obtain ⟨g', hv', H', t', _⟩ := (WkV.of_wk (p := fun _ => false) (v := .tup (fv :: args)) (v' := .tup (fv' :: args')) (h := h) (h' := frzH i ver cs h) (by
    have := Wk.freeze (p := fun _ => false) (ρ := [(0, .tup (fv :: args))]) i hi rfl hc hl
    simpa only [frzE, V.frz, frzL, hf, ha] using this)) g w (.tuple (fc :: vs).toArray) (by
      simp only [VR]; exact ⟨(fc :: vs).toArray, rfl, VRL.cons h1 h2⟩) H
  simp only [VR] at hv'
  obtain ⟨us, e1, hv'⟩ := hv'
  injection e1 with e1; subst e1
  simp only [VRL] at hv'
  obtain ⟨u, us', e2, k1, k2⟩ := hv'
  injection e2 with e2 e3; subst e2; subst e3
  have Hc : HRel (g'.cut (domP [])) [] w := H'.cut (fun i e he => by cases he) rfl
  obtain ⟨fr0, hbg, c⟩ := c (g'.cut (domP [])) w fc vs (k1.sub (g'.cut_sub _) _ _ hf2) (k2.sub (g'.cut_sub _) _ _ ha2) Hc
  refine ⟨fr0, hbg, fun cl cs' => ?_⟩
  obtain ⟨v1, h'', vc, g1, w1, ⟨rfl, rfl⟩, st, hv1, H1, T1, hle⟩ := c cl cs'
  have hun : ∀ B, B < w.heap.size → w1.heap[B]? = w.heap[B]? := fun B hB => T1.mods B hB (by rintro ⟨j, e, c', hj, _⟩; cases hj)
  refine ⟨_, h, vc, g, w1, ⟨rfl, rfl⟩, st, hv _ _ _ hv1, ⟨fun B o x e => ?_, fun j e he => ?_, H.inj, H.apart, H.dom⟩, ⟨T1.os, T1.tape, T1.output, T1.size, fun B hB _ => hun B hB, fun B o _ => o, fun _ _ _ e => e, fun _ _ e => .inl e⟩, Gh.le.refl g⟩
  · exact H1.ro B o x (hle.ro _ _ _ (t'.romono _ _ _ e))
  · obtain ⟨x, h3, h4⟩ := H.own j e he
    exact ⟨x, h3, h4.le (Gh.le.refl g) fun B cc hx => by subst hx; exact hun B (H.lt ⟨j, e, cc, he, h3⟩)⟩
/-! ### Keeps -/
theorem WkV.nil1 {a : V} : WkV (domP []) (.tup [.sl0, a]) [] (.tup [vI [], a]) [] := WkV.less (ImpV.tup ⟨sl0_vI, ImpV.refl _, trivial⟩)
/-! ### More -/
def sMoreA (c : Cu) (more : List Int) : Int × Int :=
  if sAsked c (sPromised c more) = 0 then (sWith c (sTruth c) more, 0) else (0, sAsked c (sPromised c more))
theorem sAdd_get (want more : List Int) : ∀ (i j : Nat), j < want.length → gi (sAdd want more i) j = if j < i then gi want j + gi more j else gi want j
  | 0, j, _ => by simp [sAdd]
  | i + 1, j, hj => by
    have hl := sAdd_len want more i
    by_cases h : i = j
    · subst h
      have : gi (sAdd want more (i + 1)) i = gi (sAdd want more i) i + gi more i := by
        simp only [sAdd, gi, Int.toNat_natCast, List.getD_eq_getElem?_getD]
        rw [List.getElem?_set_self (by omega)]; rfl
      rw [this, sAdd_get want more i i hj]
      simp
    · rw [sAdd, gi_set_ne _ h, sAdd_get want more i j hj]
      by_cases h2 : j < i
      · rw [if_pos h2, if_pos (by omega)]
      · rw [if_neg h2, if_neg (by omega)]
theorem mem_gi {l : List Int} {x : Int} (h : x ∈ l) : ∃ j : Nat, j < l.length ∧ gi l j = x := by
  obtain ⟨j, hj, rfl⟩ := List.mem_iff_getElem.1 h
  exact ⟨j, hj, by rw [gi, Int.toNat_natCast, List.getD_eq_getElem?_getD, List.getElem?_eq_getElem hj]; rfl⟩
/-- Promises that can be added. -/
theorem with_ok {c : Cu} (k : CuOk c) {more : List Int} (h1 : (more.length : Int) = c.last + 1) (h2 : ∀ x ∈ more, 0 ≤ x ∧ x ≤ 20) {s : Sc} (hs : ScOk c s) : PlayOk c s c.coal (sAdd c.want more more.length) := by
  have hw := k.want
  refine k.play hs ⟨k.coal.1, fun x hx => by have := k.coal.2 x hx; have := k.shovels; omega⟩ ⟨by rw [sAdd_len]; exact hw.1, fun x hx => ?_⟩
  obtain ⟨j, hj, rfl⟩ := mem_gi hx
  rw [sAdd_len] at hj
  rw [sAdd_get _ _ _ _ hj]
  have a1 := hw.2 _ (gi_mem hj)
  split
  · have a2 := h2 _ (gi_mem (l := more) (i := j) (by omega))
    omega
  · omega
theorem with_b {c : Cu} (k : CuOk c) {more : List Int} (h1 : (more.length : Int) = c.last + 1) (h2 : ∀ x ∈ more, 0 ≤ x ∧ x ≤ 20) : ∀ i, i < c.want.length → 0 ≤ gi c.want i ∧ gi c.want i ≤ 20 ∧ 0 ≤ gi more i ∧ gi more i ≤ 20 := fun i hi => by
  have a1 := k.want.2 _ (gi_mem hi)
  have a2 := h2 _ (gi_mem (l := more) (i := i) (by have := k.want.1; omega))
  exact ⟨a1.1, a1.2, a2.1, a2.2⟩
theorem promised_ok {c : Cu} {l : List Int} (h : sPromised c l = true) : (l.length : Int) = c.last + 1 ∧ ∀ x ∈ l, 0 ≤ x ∧ x ≤ 20 := by
  simp only [sPromised, sIn, Bool.and_eq_true, decide_eq_true_eq, List.all_eq_true] at h
  exact h
set_option maxHeartbeats 2000000 in
theorem c_More (c : Cu) (hc : c.wf) (more : List Int) (hm : (more.length : Int) ≤ 1000000) : Pu Tryz.prog (.fn 56 [] []) [.agg c.cs, vI more] (.tup [vi (sMoreA c more).1, vi (sMoreA c more).2]) := by
  refine Ev.fn Tryz.func56 rfl rfl (Fn.body tabOk Tryz.func56 rfl (Nat.le_of_ble_eq_true rfl) (Ks.ok (fz := (fzn [])) (cl := (cln [(1, .d tg0 [cP, cP, cP, cP, cP, cP, cP, cP, cP, cP])])) tabOk mixed ?_))
  generalize hQ : FnPost tt Tryz.f56 _ _ = Q
  simp only [Tryz.f56, List.nil_append, List.append_nil, argsEnv, Nat.reduceAdd]
  simp only [gos, eq_self, Nat.reduceLT, reduceCtorEq, reduceIte, ↓reduceIte, vgo, vout, vguard, callOf, vop, ev, cv, newRow]
  refine Wr.draw (by kernel_rfl) ?_
  simp only [gos, eq_self, Nat.reduceLT, Nat.reduceEqDiff, Nat.reduceAdd, reduceCtorEq, reduceIte, ↓reduceIte, tt, vgoD, voutD, vclsOk, vids, mayWrite, V.ids, vguard, callOf, vop, ev, vload, clsAt]
  refine CD.pu (c_promised c more hc.last hm) ?_ rfl (by simp only [V.into, intoL, vI_into, cu_into, Bool.and_true])
  simp only [gos, eq_self, Nat.reduceLT, Nat.reduceEqDiff, reduceIte, ↓reduceIte, vgoD, voutD, vguard, callOf, ev]
  refine CD.pu (c_asked0 c hc (sPromised c more)) ?_ rfl (by simp only [V.into, intoL, cu_into, Bool.and_true])
  by_cases h0 : sAsked c (sPromised c more) = 0
  case neg =>
    have hb : (sAsked c (sPromised c more) != 0) = true := by simp [h0]
    simp only [gos, eq_self, Nat.reduceLT, Nat.reduceEqDiff, reduceIte, ↓reduceIte, vgo, vout, vgoD, voutD, vclsOk, vids, mayWrite, vguard, callOf, vop, ev, cv, vbin, vint, isShift, isNilConst, hb]
    subst hQ
    have hr : sMoreA c more = (0, sAsked c (sPromised c more)) := by simp [sMoreA, h0]
    rw [hr]
    exact FnPost.plain trivial (fun h2 e => by rfl) WkV.refl ⟨rfl, rfl⟩
  have A := askOk_of h0
  have hp := promised_ok A.fine
  have hb : (sAsked c (sPromised c more) != 0) = false := by simp [h0]
  simp only [gos, eq_self, Nat.reduceLT, Nat.reduceEqDiff, reduceCtorEq, reduceIte, ↓reduceIte, vgo, vout, vgoD, voutD, vclsOk, vids, mayWrite, vguard, callOf, vop, ev, cv, vbin, vint, isShift, isNilConst, askV, h0]
  refine Cl.pu (c_with c (sTruth c) more (by have := A.len; omega) A.ok (by have := A.k0.want.1; have := A.k0.last; omega) (by have := A.k0.want.1; omega) (with_b A.k0 hp.1 hp.2) fun s hs => with_ok A.k0 hp.1 hp.2 (A.sc s hs)) ?_ rfl (by simp only [V.into, intoL, vI_into, Bool.and_true, wc_any])
  simp only [gos, eq_self, Nat.reduceLT, reduceIte, ↓reduceIte, vgo, vout, vguard, callOf, vop, ev, cv]
  subst hQ
  have hr : sMoreA c more = (sWith c (sTruth c) more, 0) := by simp [sMoreA, h0]
  rw [hr]
  exact FnPost.plain trivial (fun h2 e => by rfl) WkV.refl ⟨rfl, rfl⟩
end Go.Vm

set_option linter.unusedVariables false
set_option linter.unusedSimpArgs false
set_option maxRecDepth 100000
namespace Go.Vm
open Go.Proofs
/-- A number of buckets more in an hour. -/
def moreAt (c : Cu) (hour n : Int) : List Int := (List.replicate (c.last + 1).toNat 0).set hour.toNat n
def sSpareA (c : Cu) (hour : Int) : Int × Int :=
  if sAsked c (sIn hour 0 c.last) = 0 then (match (List.range 21).find? fun (j : Nat) => decide (sWith c (sTruth c) (moreAt c hour (20 - j)) = 1) with
    | some j => (20 - j, 0)
    | none => (0, 10)) else (0, sAsked c (sIn hour 0 c.last))
theorem moreAt_len (c : Cu) (hour n : Int) : (moreAt c hour n).length = (c.last + 1).toNat := by simp [moreAt]
theorem moreAt_le {c : Cu} {hour n : Int} (h : 0 ≤ n ∧ n ≤ 20) : ∀ x ∈ moreAt c hour n, 0 ≤ x ∧ x ≤ 20 := fun x hx => by
  rcases List.mem_or_eq_of_mem_set hx with hx | rfl
  · rw [List.mem_replicate] at hx; omega
  · exact h
theorem moreAt_set (c : Cu) (hour n m : Int) : (moreAt c hour m).set hour.toNat n = moreAt c hour n := by simp [moreAt]
theorem moreAt_zero (c : Cu) (hour : Int) : moreAt c hour 0 = List.replicate (c.last + 1).toNat 0 := by
  refine List.ext_getElem? fun j => ?_
  simp only [moreAt, List.getElem?_set, List.getElem?_replicate, List.length_replicate]
  by_cases h : hour.toNat = j
  · simp [h]
  · simp [h]
theorem zeros_vi : ∀ n : Nat, zeros [vi 0] n = cI (List.replicate n 0)
  | 0 => rfl
  | n + 1 => by simp only [zeros, List.replicate_succ, cI, List.map_cons, zeros_vi n]; rfl
theorem find_range {p : Nat → Bool} {n : Nat} : ∀ {a : Nat}, a < n → p a = true → (∀ j, j < a → p j = false) → (List.range n).find? p = some a := by
  intro a ha h1 h2
  rw [List.find?_eq_some_iff_getElem]
  refine ⟨h1, a, by simpa using ha, by simp, fun j hj => ?_⟩
  simp [h2 j hj]
set_option maxHeartbeats 2000000 in
theorem c_Spare (c : Cu) (hc : c.wf) (hour : Int) : Pu Tryz.prog (.fn 78 [] []) [.agg c.cs, vi hour] (.tup [vi (sSpareA c hour).1, vi (sSpareA c hour).2]) := by
  refine Ev.fn Tryz.func78 rfl rfl (Fn.body tabOk Tryz.func78 rfl (Nat.le_of_ble_eq_true rfl) (Ks.ok (fz := (fzn [24])) (cl := (cln [(1, .d tg0 [cP, cP, cP, cP, cP, cP, cP, cP, cP, cP])])) tabOk mixed ?_))
  generalize hQ : FnPost tt Tryz.f78 _ _ = Q
  simp only [Tryz.f78, List.nil_append, List.append_nil, argsEnv, Nat.reduceAdd]
  simp only [gos, eq_self, Nat.reduceLT, Nat.reduceEqDiff, reduceCtorEq, reduceIte, ↓reduceIte, vgo, vout, vguard, callOf, vop, ev, cv, newRow]
  refine Wr.draw (by kernel_rfl) ?_
  simp only [gos, eq_self, Nat.reduceLT, Nat.reduceEqDiff, Nat.reduceAdd, reduceCtorEq, reduceIte, ↓reduceIte, tt, vgoD, voutD, vclsOk, vids, mayWrite, V.ids, vguard, callOf, vop, ev, vload, clsAt]
  refine CD.pu (c_hour c hour) ?_ rfl (by simp only [V.into, intoL, cu_into, Bool.and_true])
  simp only [gos, eq_self, Nat.reduceLT, Nat.reduceEqDiff, reduceIte, ↓reduceIte, vgoD, voutD, vguard, callOf, ev]
  refine CD.pu (c_asked0 c hc (sIn hour 0 c.last)) ?_ rfl (by simp only [V.into, intoL, cu_into, Bool.and_true])
  by_cases h0 : sAsked c (sIn hour 0 c.last) = 0
  case neg =>
    have hb : (sAsked c (sIn hour 0 c.last) != 0) = true := by simp [h0]
    simp only [gos, eq_self, Nat.reduceLT, Nat.reduceEqDiff, reduceIte, ↓reduceIte, vgo, vout, vgoD, voutD, vclsOk, vids, mayWrite, vguard, callOf, vop, ev, cv, vbin, vint, isShift, isNilConst, hb]
    subst hQ
    have hr : sSpareA c hour = (0, sAsked c (sIn hour 0 c.last)) := by simp [sSpareA, h0]
    rw [hr]
    exact FnPost.plain trivial (fun h2 e => by rfl) WkV.refl ⟨rfl, rfl⟩
  have A := askOk_of h0
  have hf := A.fine
  simp only [sIn, Bool.and_eq_true, decide_eq_true_eq] at hf
  have hl := A.k0.last
  have hb : (sAsked c (sIn hour 0 c.last) != 0) = false := by simp [h0]
  have hn : ((c.last + 1).toNat : Int) = c.last + 1 := by omega
  have hge : 0 ≤ c.last + 1 := by omega
  have hle : c.last + 1 ≤ 1000000 := by omega
  simp only [gos, eq_self, Nat.reduceLT, Nat.reduceEqDiff, Nat.reduceLeDiff, reduceCtorEq, reduceIte, ↓reduceIte, tt, vgo, vout, vgoD, voutD, vclsOk, vids, mayWrite, vguard, callOf, vop, ev, cv, vbin, vint, isShift, isNilConst, vload, askV, h0, i64_in (show -9223372036854775808 ≤ c.last + 1 by omega) (show c.last + 1 ≤ 9223372036854775807 by omega), hge, hle]
  refine W.loop tabOk mixed (fun a : Nat × Int => ([(1, vi hour), (6, .rop (wcs c (sTruth c) .any)), (8, .own 24 0 0 1 (c.last + 1).toNat), (9, vi (20 - (a.1 : Int)))], [(24, ⟨0, .row (cI (moreAt c hour a.2))⟩)])) (fun a => 21 - a.1)
    (fun a => a.1 ≤ 21 ∧ ∀ j, j < a.1 → decide (sWith c (sTruth c) (moreAt c hour (20 - (j : Nat))) = 1) = false) (0, 0) ⟨by simp, by intro j hj; simp at hj⟩ (Wk.heap (fun j => ?_) (by simp [subE, Env.get])) ?_
  · simp only [moreAt_zero]
    rw [← zeros_vi]
  rintro ⟨a, m⟩ ⟨ha, hno⟩
  simp only at ha hno ⊢
  by_cases hil : a < 21
  · have hc1 : decide (0 ≤ 20 - (a : Int)) = true := by rw [decide_eq_true_eq]; omega
    have hh1 : 0 ≤ hour := hf.1
    have hh2 : hour < ((c.last + 1).toNat : Int) := by omega
    have hh3 : hour.toNat + 1 ≤ (cI (moreAt c hour m)).length := by rw [cI_len, moreAt_len]; omega
    have hset : List.take hour.toNat (cI (moreAt c hour m)) ++ [vi (20 - (a : Int))] ++ List.drop (hour.toNat + 1) (cI (moreAt c hour m)) = cI (moreAt c hour (20 - (a : Int))) := by
      rw [cI_set _ (by rw [moreAt_len]; omega), moreAt_set]
    simp only [gos, eq_self, Nat.reduceLT, Nat.reduceEqDiff, reduceCtorEq, reduceIte, ↓reduceIte, tt, vgo, vout, vguard, callOf, vop, ev, cv, vbin, vint, isShift, isNilConst, hc1, hh1, hh2, hh3, hset, Nat.zero_add, Nat.mul_one]
    have hmo := moreAt_le (c := c) (hour := hour) (n := 20 - (a : Int)) (by omega)
    have hml : ((moreAt c hour (20 - (a : Int))).length : Int) = c.last + 1 := by rw [moreAt_len]; omega
    have htk : List.take (c.last + 1).toNat (cI (moreAt c hour (20 - (a : Int)))) = cI (moreAt c hour (20 - (a : Int))) := List.take_of_length_le (by rw [cI_len]; omega)
    refine Cl.mk (Ev.lend 24 (ver := 0) (cs := cI (moreAt c hour (20 - (a : Int)))) (args' := [.rop (wcs c (sTruth c) .any), vI (moreAt c hour (20 - (a : Int)))]) rfl (cI_into _ _) rfl rfl ?_
      (c_with c (sTruth c) (moreAt c hour (20 - (a : Int))) (by have := A.len; omega) A.ok (by have := A.k0.want.1; omega) (by have := A.k0.want.1; omega) (with_b A.k0 hml hmo) fun s hs => with_ok A.k0 hml hmo (A.sc s hs)) (fun _ _ _ h => by simpa only [VR] using h) rfl (by simp only [V.into, intoL, vI_into, Bool.and_true, wc_any])) ?_
    · simp only [frzL, V.frz, wcs_frz, if_true, List.drop_zero, Nat.mul_one, htk, vI]
      rw [moreAt_len]
    rintro v h' ⟨rfl, rfl⟩
    by_cases hw : sWith c (sTruth c) (moreAt c hour (20 - (a : Int))) = 1
    · have hd : decide (sWith c (sTruth c) (moreAt c hour (20 - (a : Int))) = 1) = true := by simp [hw]
      simp only [gos, eq_self, Nat.reduceLT, Nat.reduceEqDiff, reduceIte, ↓reduceIte, vgo, vout, vguard, callOf, vop, ev, cv, vbin, vint, isShift, isNilConst, hd]
      subst hQ
      have hr : sSpareA c hour = (20 - (a : Int), 0) := by rw [sSpareA, if_pos h0, find_range hil hd hno]
      rw [hr]
      exact FnPost.plain trivial (v := .tup [vi (20 - (a : Int)), vi 0]) (fun h2 e => by rfl) (WkV.pure rfl) ⟨rfl, rfl⟩
    · have hd : decide (sWith c (sTruth c) (moreAt c hour (20 - (a : Int))) = 1) = false := by simp [hw]
      simp only [gos, eq_self, Nat.reduceLT, Nat.reduceEqDiff, reduceIte, ↓reduceIte, vgo, vout, vguard, callOf, vop, ev, cv, vbin, vint, isShift, isNilConst, hd]
      refine Nx.mk (a + 1, 20 - (a : Int)) (show 21 - (a + 1) < 21 - a by omega) ⟨by simp only; omega, fun j hj => ?_⟩ (Wk.env ?_)
      · rcases Nat.lt_succ_iff_lt_or_eq.1 hj with h | rfl
        · exact hno j h
        · exact hd
      · have e2 : (20 - (a : Int)) - 1 = 20 - ((a + 1 : Nat) : Int) := by omega
        rw [i64_in (show -9223372036854775808 ≤ 20 - (a : Int) - 1 by omega) (show 20 - (a : Int) - 1 ≤ 9223372036854775807 by omega), e2]
        simp [subE, Env.get]
  · have ha21 : a = 21 := by omega
    subst ha21
    have hc1 : decide (0 ≤ 20 - ((21 : Nat) : Int)) = false := by decide
    simp only [gos, eq_self, Nat.reduceLT, Nat.reduceEqDiff, reduceIte, ↓reduceIte, vgo, vout, vguard, callOf, vop, ev, cv, vbin, vint, isShift, isNilConst, hc1]
    subst hQ
    have hr : sSpareA c hour = (0, 10) := by
      rw [sSpareA, if_pos h0, List.find?_eq_none.2]
      intro j hj
      rw [List.mem_range] at hj
      simp [hno j hj]
    rw [hr]
    exact FnPost.plain trivial (v := .tup [vi 0, vi 10]) (fun h2 e => by rfl) (WkV.pure rfl) ⟨rfl, rfl⟩
/-! ### Lacks -/
end Go.Vm

set_option linter.unusedVariables false
set_option linter.unusedSimpArgs false
set_option maxRecDepth 100000
namespace Go.Vm
open Go.Proofs
theorem c_askedN (c : Cu) (hc : c.wf) (fine : Bool) (h0 : sAsked c fine ≠ 0) : Ev Tryz.prog (.fn 107 [] []) [.agg c.cs, .bool fine] [] fun v h' => v = .tup [.nilp, vi (sAsked c fine)] ∧ h' = [] :=
  (c_asked c hc fine).mono fun v h' h => by
    rcases h with ⟨_, h1, h2⟩ | ⟨h, _⟩
    · exact ⟨h1, h2⟩
    · exact absurd h h0
theorem c_askedY (c : Cu) (hc : c.wf) (fine : Bool) (h0 : sAsked c fine = 0) : Ev Tryz.prog (.fn 107 [] []) [.agg c.cs, .bool fine] [] fun v h' => v = .tup [.rop (wcs c (sTruth c) (.mp 17)), vi 0] ∧ h' = [(17, ⟨0, .map []⟩)] :=
  (c_asked c hc fine).mono fun v h' h => by
    rcases h with ⟨h, _⟩ | ⟨_, h1, h2⟩
    · exact absurd h0 h
    · exact ⟨h1, h2⟩
/-- Whether coal is sure. -/
def sSureP (c : Cu) (coal : List Int) : Bool := (sTruth c).all fun s => sKept c coal c.want s
theorem coal_play {c : Cu} (k : CuOk c) {l : List Int} (h : (l.length : Int) = c.last + 1 ∧ ∀ x ∈ l, 0 ≤ x ∧ x ≤ c.shovels) {s : Sc} (hs : ScOk c s) : PlayOk c s l c.want :=
  k.play hs ⟨h.1, fun x hx => by have := h.2 x hx; have := k.shovels; omega⟩ ⟨k.want.1, fun x hx => by have := k.want.2 x hx; omega⟩
end Go.Vm

set_option linter.unusedVariables false
set_option linter.unusedSimpArgs false
set_option maxRecDepth 100000
namespace Go.Vm
open Go.Proofs
/-! ### the least coal -/
theorem findSome_some {α : Type} {f : Int → Option α} {lo hi : Int} {i : Nat} {l : α} (h : lo + (i : Int) ≤ hi) (hs : f (lo + i) = some l) (hn : ∀ j : Nat, j < i → f (lo + j) = none) : (rangeI lo hi).findSome? f = some l := by
  rw [← List.take_append_drop i (rangeI lo hi), List.findSome?_append]
  have e1 : ((rangeI lo hi).take i).findSome? f = none := by
    rw [List.findSome?_eq_none_iff]
    intro x hx
    obtain ⟨j, hj, rfl⟩ := List.mem_iff_getElem.1 hx
    rw [List.getElem_take]
    simp only [List.length_take] at hj
    have := rangeI_get (lo := lo) (hi := hi) (i := j) (by omega)
    rw [List.getElem?_eq_getElem (by omega)] at this
    injection this with this
    rw [this]; exact hn j (by omega)
  rw [e1, List.drop_eq_getElem?_toList_append, rangeI_get h]
  simp [hs]
theorem findSome_none {α : Type} {f : Int → Option α} {lo hi : Int} (hn : ∀ j : Nat, lo + (j : Int) ≤ hi → f (lo + j) = none) : (rangeI lo hi).findSome? f = none := by
  rw [List.findSome?_eq_none_iff]
  intro x hx
  simp only [rangeI, List.mem_map, List.mem_range] at hx
  obtain ⟨j, h1, rfl⟩ := hx
  exact hn j (by omega)
/-- The first coal, in their order, that begins so, has so many shovels more, and is sure. -/
def addF (c : Cu) (P : List Int → Bool) : Nat → List Int → Int → Option (List Int)
  | 0, coal, many => if many = 0 ∧ P coal = true then some coal else none
  | k + 1, coal, many => (rangeI 0 (min c.shovels many)).findSome? fun n => addF c P k (coal ++ [n]) (many - n)
structure MemoOk (c : Cu) (m : Memo) : Prop where
  ok : okM m
  is : ∀ x ∈ m, ∃ coal, (coal.length : Int) = c.last + 1 ∧ x.1 = pad5 coal ∧ x.2 = sSureP c coal
theorem mget_mem {key : List Int} {b : Bool} : ∀ {m : Memo}, mget key m = some b → (key, b) ∈ m
  | [], h => by simp [mget] at h
  | (k, x) :: r, h => by
    simp only [mget] at h
    split at h
    · rename_i hk; injection h with h; subst h; subst hk; simp
    · simp [mget_mem h]
theorem pad5_inj {a b : List Int} (h : a.length = b.length) (e : pad5 a = pad5 b) : a = b := by
  simp only [pad5] at e
  exact (List.append_inj e h).1
theorem memo_sure {c : Cu} {m : Memo} (M : MemoOk c m) {coal : List Int} (h : (coal.length : Int) = c.last + 1) : sSure c (sTruth c) m coal = sSureP c coal := by
  unfold sSure
  cases hg : mget (pad5 coal) m with
  | none => rfl
  | some b =>
    obtain ⟨d, h1, h2, h3⟩ := M.is _ (mget_mem hg)
    have := pad5_inj (by omega) h2
    subst this
    simp only at h3
    rw [h3]; rfl
theorem memo_step {c : Cu} {m : Memo} (M : MemoOk c m) {coal : List Int} (hl : c.last ≤ 4) (h : (coal.length : Int) = c.last + 1) : MemoOk c (sSureM c (sTruth c) m coal) := by
  unfold sSureM
  split
  · exact M
  · refine ⟨fun x hx => ?_, fun x hx => ?_⟩
    · simp only [List.mem_append, List.mem_singleton] at hx
      rcases hx with hx | rfl
      · exact M.ok x hx
      · simp [pad5]; omega
    · simp only [List.mem_append, List.mem_singleton] at hx
      rcases hx with hx | rfl
      · exact M.is x hx
      · exact ⟨coal, h, rfl, rfl⟩
def fV : Option (List Int) → V
  | none => .sl0
  | some l => vI l
def leastV (c : Cu) : V := .fn 139 [] [.rop c.cs, .ptr 6 0 0, .rop [.rop (wcs c (sTruth c) (.mp 17))], .ptr 70 0 0]
def leH (c : Cu) (m : Memo) (f : Option (List Int)) : Heap := [(17, ⟨0, .map (memoV m)⟩), (6, ⟨0, .row [fV f]⟩), (70, ⟨0, .row [leastV c]⟩)]
theorem fV_frz (i v : Nat) (cs : List V) (f : Option (List Int)) : (fV f).frz i v cs = fV f := by
  cases f
  · rfl
  · simp only [fV, vI, V.frz, cI_frz]
theorem cu_frz (i v : Nat) (cs : List V) (c : Cu) : frzL i v cs c.cs = c.cs := by
  simp only [Cu.cs, frzL, V.frz, vI, vR, vD, cI_frz, cR_frz, cD_frz]
theorem wcs_frz' (i v : Nat) (cs : List V) (c : Cu) (tr : List Sc) (m : V) : frzL i v cs (wcs c tr m) = wcs c tr (m.frz i v cs) := by
  simp only [wcs, frzL, V.frz, vI, vR, vD, vS, cI_frz, cR_frz, cD_frz, cS_frz]
theorem memo_frz (i v : Nat) (cs : List V) : ∀ m : Memo, frzPs i v cs (memoV m) = memoV m
  | [] => rfl
  | (k, b) :: r => by simp only [memoV, frzPs, V.frz, cI_frz, memo_frz i v cs r]
set_option maxHeartbeats 4000000 in
theorem c_add (c : Cu) (A : AskOk c true) : ∀ (k : Nat) (coal : List Int) (many : Int) (m : Memo) (f : Option (List Int)), (coal.length : Int) + k = c.last + 1 → (∀ x ∈ coal, 0 ≤ x ∧ x ≤ c.shovels) → 0 ≤ many ∧ many ≤ 1000 → MemoOk c m →
    Ev Tryz.prog (leastV c) [vI coal, vi many] (leH c m f) fun v h' => ∃ m' f', MemoOk c m' ∧ (∀ l, addF c (sSureP c) k coal many = some l → f' = some l) ∧ v = .bool (addF c (sSureP c) k coal many).isSome ∧ h' = leH c m' f'
  | 0, coal, many, m, f, hlen, hco, hmany, M => by
    have hl := A.k0.last
    have hlen' : (coal.length : Int) = c.last + 1 := by omega
    unfold leastV
    refine Ev.fn Tryz.func139 rfl rfl (Fn.body tabOk Tryz.func139 rfl (Nat.le_of_ble_eq_true rfl) (Ks.ok (fz := (fzn [])) (cl := (cln [])) tabOk mixed ?_))
    generalize hQ : FnPost tt Tryz.f139 _ _ = Q
    simp only [Tryz.f139, List.nil_append, List.cons_append, argsEnv, Nat.reduceAdd]
    have hd : decide ((coal.length : Int) = c.last + 1) = true := by simp only [hlen', decide_true]
    simp only [gos, eq_self, Nat.reduceLT, Nat.reduceEqDiff, Nat.reduceAdd, reduceCtorEq, reduceIte, ↓reduceIte, tt, vgo, vout, vguard, callOf, vop, ev, cv, vbin, vint, isShift, isNilConst, vload, vlen, vI, hd, i64_in (show -9223372036854775808 ≤ c.last + 1 by omega) (show c.last + 1 ≤ 9223372036854775807 by omega), leH]
    by_cases h0 : many = 0
    · have hd0 : decide (many = 0) = true := by simp only [h0, decide_true]
      simp only [gos, eq_self, Nat.reduceLT, Nat.reduceEqDiff, reduceCtorEq, reduceIte, ↓reduceIte, vgo, vout, vguard, callOf, vop, ev, hd0]
      have hsub : ∀ (X : Memo) (i : Nat) (e : Ent), Heap.get [(17, ⟨0, .map (memoV X)⟩)] i = some e → Heap.get [(6, ⟨0, .row [vI coal]⟩), (70, ⟨0, .row [leastV c]⟩)] i = none := fun X i e he => by
        simp only [Heap.get] at he ⊢
        by_cases h17 : i = 17
        · subst h17; rfl
        · rw [if_neg h17] at he; cases he
      refine Cl.mk ((c_sure c (sTruth c) m 17 (by decide) M.ok coal A.ok (by have := A.len; omega) (by omega) fun s hs => coal_play A.k0 ⟨hlen', hco⟩ (A.sc s hs)).frame [(6, ⟨0, .row [vI coal]⟩), (70, ⟨0, .row [leastV c]⟩)] (hsub m) rfl ?_ ?_ ?_) ?_
      · simp only [V.into, intoL, vI_into, Bool.and_true]
        rw [wc_into _ _ _ _ (by rfl)]
      · simp only [intoH, Blk.into, memo_into, Bool.and_self]
      · rintro v h' ⟨_, rfl⟩
        exact hsub _
      rintro v h'' ⟨h', ⟨rfl, rfl⟩, rfl⟩
      simp only [gos, eq_self, Nat.reduceLT, Nat.reduceEqDiff, reduceIte, ↓reduceIte, vgo, vout, vguard, callOf, vop, ev]
      subst hQ
      have hs := memo_sure M hlen'
      refine FnPost.plain trivial (v := .bool (sSure c (sTruth c) m coal)) (fun h2 e => by rfl) WkV.refl ⟨sSureM c (sTruth c) m coal, some coal, memo_step M (by omega) hlen', ?_, ?_, rfl⟩
      · intro l hl'
        simp only [addF] at hl'
        split at hl'
        · exact hl'
        · cases hl'
      · rw [hs]
        simp only [addF, h0, true_and]
        cases sSureP c coal <;> rfl
    · have hd0 : decide (many = 0) = false := by simp only [h0, decide_false]
      simp only [gos, eq_self, Nat.reduceLT, Nat.reduceEqDiff, reduceIte, ↓reduceIte, vgo, vout, vguard, callOf, vop, ev, cv, hd0]
      subst hQ
      refine FnPost.plain trivial (v := .bool false) (fun h2 e => by rfl) WkV.refl ⟨m, some coal, M, ?_, ?_, rfl⟩
      · intro l hl'
        simp only [addF, h0, false_and, if_false] at hl'
        cases hl'
      · simp only [addF, h0, false_and, if_false]; rfl
  | k + 1, coal, many, m, f, hlen, hco, hmany, M => by
    have hl := A.k0.last
    have hsh := A.k0.shovels
    unfold leastV
    refine Ev.fn Tryz.func139 rfl rfl (Fn.body tabOk Tryz.func139 rfl (Nat.le_of_ble_eq_true rfl) (Ks.ok (fz := (fzn [])) (cl := (cln [(7, .ex)])) tabOk mixed ?_))
    generalize hQ : FnPost tt Tryz.f139 _ _ = Q
    simp only [Tryz.f139, List.nil_append, List.cons_append, argsEnv, Nat.reduceAdd]
    have hd : decide ((coal.length : Int) = c.last + 1) = false := by rw [decide_eq_false_iff_not]; omega
    have hmin : 0 ≤ min c.shovels many ∧ min c.shovels many ≤ 3 := by omega
    simp only [gos, eq_self, Nat.reduceLT, Nat.reduceEqDiff, Nat.reduceAdd, Nat.reduceMul, Nat.reduceLeDiff, reduceCtorEq, reduceIte, ↓reduceIte, tt, vgo, vout, vguard, callOf, vop, ev, cv, vbin, vint, isShift, isNilConst, vload, vlen, vfill, vI, hd, i64_in (show -9223372036854775808 ≤ c.last + 1 by omega) (show c.last + 1 ≤ 9223372036854775807 by omega), leH]
    refine Cl.pu (c_min2 c.shovels many) ?_
    simp only [gos, eq_self, Nat.reduceLT, reduceIte, ↓reduceIte, vgo, vout, vguard, callOf, vop, ev, cv, vbin, vint, isShift, isNilConst, i64_in (show -9223372036854775808 ≤ min c.shovels many + 1 by omega) (show min c.shovels many + 1 ≤ 9223372036854775807 by omega)]
    refine W.loop tabOk mixed (fun a : Nat × Memo × Option (List Int) => ([(0, vI coal), (1, vi many), (2, .rop c.cs), (3, .ptr 6 0 0), (4, .rop [.rop (wcs c (sTruth c) (.mp 17))]), (5, .ptr 70 0 0), (29, vi (min c.shovels many + 1)), (30, vi a.1)], leH c a.2.1 a.2.2)) (fun a => (min c.shovels many + 1).toNat - a.1)
      (fun a => (a.1 : Int) ≤ min c.shovels many + 1 ∧ MemoOk c a.2.1 ∧ ∀ j : Nat, j < a.1 → addF c (sSureP c) k (coal ++ [(j : Int)]) (many - j) = none) (0, m, f) ⟨by simp only; omega, M, fun j hj => by simp at hj⟩ (Wk.env (by simp [subE, Env.get, vI])) ?_
    rintro ⟨i, m1, f1⟩ ⟨hi, M1, hno⟩
    simp only at hi M1 hno ⊢
    by_cases hil : (i : Int) < min c.shovels many + 1
    · simp only [gos, eq_self, Nat.reduceLT, Nat.reduceEqDiff, reduceCtorEq, reduceIte, ↓reduceIte, vgo, vout, vguard, callOf, vop, ev, vbin, vint, isShift, isNilConst, hil]
      refine Wr.last tabOk mixed (tgL [(7, 1), (38, 1)]) [cL, cP, some ([1], [1]), cP, cP, some ([1], [1]), cP, cP, cP, none] _ (by kernel_rfl) (by kernel_rfl) rfl ?_
      simp only [gos, eq_self, Nat.reduceLT, Nat.reduceEqDiff, Nat.reduceAdd, reduceCtorEq, reduceIte, ↓reduceIte, tt, vgoD, voutD, vclsOk, vids, mayWrite, V.ids, vguard, callOf, vop, ev, vload, clsAt, leH, List.dropLast, List.getLast]
      refine CD.new (n_Clone coal (by omega)) rfl rfl rfl ?_
      have hcl : (cI coal).length = coal.length := cI_len coal
      have hcm : coal.length ≤ 999999 := by omega
      simp only [gos, eq_self, Nat.reduceLT, Nat.reduceEqDiff, Nat.reduceAdd, Nat.reduceLeDiff, reduceCtorEq, reduceIte, ↓reduceIte, tt, vgoD, voutD, vclsOk, vids, mayWrite, V.ids, vguard, callOf, vop, ev, vbin, vint, isShift, isNilConst, vfill, vappend, srcOf, hcl, hcm, Nat.mul_one, i64_in (show -9223372036854775808 ≤ many - (i : Int) by omega) (show many - (i : Int) ≤ 9223372036854775807 by omega)]
      refine Wa.mk (Wk.freeze 7 (ver := 1) (cs := cI coal ++ [vi i]) (by rfl) (by rfl) (by rw [← cI_snoc]; exact cI_into _ _) (by rfl)) ?_
      rw [← cI_snoc]
      simp only [frzE, frzH, V.frz, frzL, Blk.frz, leastV, cu_frz, wcs_frz', memo_frz, fV_frz, vI, cI_frz, gos, eq_self, Nat.reduceLT, Nat.reduceEqDiff, reduceCtorEq, reduceIte, ↓reduceIte, vgo, vout, vguard, callOf, ev]
      have hll : (coal ++ [(i : Int)]).length = coal.length + 1 := by simp
      have ht : List.take ((coal.length + 1) * 1) (cI (coal ++ [(i : Int)])) = cI (coal ++ [(i : Int)]) := List.take_of_length_le (by rw [cI_len, hll]; omega)
      rw [ht, show V.ro (coal.length + 1) (cI (coal ++ [(i : Int)])) = vI (coal ++ [(i : Int)]) by rw [vI, hll]]
      refine Cl.mk (c_add c A k (coal ++ [(i : Int)]) (many - i) m1 f1 (by rw [hll]; omega) ?_ (by omega) M1) ?_
      · intro x hx
        simp only [List.mem_append, List.mem_singleton] at hx
        rcases hx with hx | rfl
        · exact hco x hx
        · omega
      rintro v h' ⟨m2, f2, M2, hf2, rfl, rfl⟩
      cases hr : addF c (sSureP c) k (coal ++ [(i : Int)]) (many - i) with
      | some l =>
        simp only [gos, eq_self, Nat.reduceLT, Nat.reduceEqDiff, reduceIte, ↓reduceIte, vgo, vout, vguard, callOf, vop, ev, cv, Option.isSome_some]
        subst hQ
        have hrr : addF c (sSureP c) (k + 1) coal many = some l := by
          rw [addF]
          have e0 : ∀ n : Nat, (0 : Int) + n = n := fun n => by omega
          exact findSome_some (i := i) (by omega) (by rw [e0]; exact hr) (fun j hj => by rw [e0]; exact hno j hj)
        rw [hrr]
        exact FnPost.plain trivial (v := .bool true) (fun h2 e => by rfl) WkV.refl ⟨m2, f2, M2, fun l' e => by rw [hf2 l hr]; exact e, rfl, rfl⟩
      | none =>
        simp only [gos, eq_self, Nat.reduceLT, Nat.reduceEqDiff, reduceCtorEq, reduceIte, ↓reduceIte, vgo, vout, vguard, callOf, vop, ev, cv, vbin, vint, isShift, isNilConst, Option.isSome_none]
        refine Nx.mk (i + 1, m2, f2) (show (min c.shovels many + 1).toNat - (i + 1) < (min c.shovels many + 1).toNat - i by omega) ⟨by simp only; omega, M2, fun j hj => ?_⟩ (Wk.env ?_)
        · rcases Nat.lt_succ_iff_lt_or_eq.1 hj with h | rfl
          · exact hno j h
          · exact hr
        · simp [subE, Env.get, i64_succ (show (i : Int) < 9223372036854775807 by omega)]
    · have hrr : addF c (sSureP c) (k + 1) coal many = none := by
        rw [addF]
        refine findSome_none fun j hj => ?_
        rw [Int.zero_add]
        exact hno j (by omega)
      simp only [gos, eq_self, Nat.reduceLT, Nat.reduceEqDiff, reduceCtorEq, reduceIte, ↓reduceIte, vgo, vout, vguard, callOf, vop, ev, cv, vbin, vint, isShift, isNilConst, hil]
      subst hQ
      rw [hrr]
      exact FnPost.plain trivial (v := .bool false) (fun h2 e => by rfl) WkV.refl ⟨m1, f1, M1, (fun l e => by cases e), rfl, rfl⟩
end Go.Vm
