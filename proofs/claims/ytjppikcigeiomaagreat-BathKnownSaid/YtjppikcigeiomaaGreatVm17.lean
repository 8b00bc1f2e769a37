import Derived.Test.YtjppikcigeiomaaGreatVm16
set_option linter.unusedVariables false
set_option linter.unusedSimpArgs false
namespace Go.Vm

/-! ### the static check of a region that draws -/
def maskOf (acc : List Nat) (o : Oper) : Nat :=
  o.after.toList.foldl (fun s e => if Region.binds .any e then s ||| 2 ^ e.on ||| acc.getD e.on 0 else s) 0
def masks : List Oper → List Nat → List Nat
  | [], acc => acc
  | o :: os, acc => masks os (acc ++ [maskOf acc o])
def clsOk : Cls → Bool
  | none => true
  | some (r, w) => w.all r.contains
def clsInd : Cls → Cls → Bool
  | none, none => false
  | none, some (r, _) => r.isEmpty
  | some (r, _), none => r.isEmpty
  | some (r1, w1), some (r2, w2) => (w1.all fun t => !r2.contains t) && (w2.all fun t => !r1.contains t)
def indepB (ops : List Oper) (c1 c2 : Cls) (o1 o2 : Oper) : Bool :=
  (o1.dst.toList.all fun d => !(namesOf ops o2).contains d) && (o2.dst.toList.all fun d => !(namesOf ops o1).contains d) && clsInd c1 c2
def clsAt (cls : List Cls) (i : Nat) : Cls := cls.getD i none
def chkB (ops : List Oper) (cls : List Cls) : Bool :=
  let ms := masks ops []
  (cls.all clsOk) &&
  (List.range ops.length).all fun j => match ops[j]? with
    | none => false
    | some oj => (oj.after.toList.all fun e => !Region.binds .any e || decide (e.on < j)) &&
      (List.range j).all fun i => match ops[i]? with
        | none => false
        | some oi => (ms.getD j 0).testBit i || indepB ops (clsAt cls i) (clsAt cls j) oi oj

/-- i comes ahead of j, by the edges. -/
inductive TP (ops : List Oper) : Nat → Nat → Prop
  | one {i j : Nat} {o : Oper} {e : Edge} (ho : ops[j]? = some o) (he : e ∈ o.after.toList) (hb : Region.binds .any e = true) (hi : e.on = i) : TP ops i j
  | more {i y j : Nat} {o : Oper} {e : Edge} (h : TP ops i y) (ho : ops[j]? = some o) (he : e ∈ o.after.toList) (hb : Region.binds .any e = true) (hi : e.on = y) : TP ops i j

theorem foldl_mask (acc : List Nat) (x : Nat) : ∀ (l : List Edge) (s : Nat), (l.foldl (fun s e => if Region.binds .any e then s ||| 2 ^ e.on ||| acc.getD e.on 0 else s) s).testBit x = true →
    s.testBit x = true ∨ ∃ e ∈ l, Region.binds .any e = true ∧ (e.on = x ∨ (acc.getD e.on 0).testBit x = true)
  | [], s, h => .inl h
  | e :: l, s, h => by
    simp only [List.foldl_cons] at h
    rcases foldl_mask acc x l _ h with h | ⟨e', h1, h2⟩
    · split at h
      · rename_i hb
        simp only [Nat.testBit_or, Bool.or_eq_true, Nat.testBit_two_pow, decide_eq_true_eq] at h
        rcases h with (h | h) | h
        · exact .inl h
        · exact .inr ⟨e, by simp, hb, .inl h⟩
        · exact .inr ⟨e, by simp, hb, .inr h⟩
      · exact .inl h
    · exact .inr ⟨e', by simp [h1], h2⟩
theorem masks_ok (ops : List Oper) : ∀ (os : List Oper) (acc : List Nat), (∀ j, os[j]? = ops[acc.length + j]?) → (∀ j x, (acc.getD j 0).testBit x = true → TP ops x j) →
    ∀ j x, ((masks os acc).getD j 0).testBit x = true → TP ops x j
  | [], acc, _, ha, j, x, h => ha j x h
  | o :: os, acc, hos, ha, j, x, h => by
    simp only [masks] at h
    refine masks_ok ops os (acc ++ [maskOf acc o]) (fun j => ?_) (fun j x hx => ?_) j x h
    · have := hos (j + 1)
      simp only [List.getElem?_cons_succ] at this
      rw [this, List.length_append, List.length_singleton]
      congr 1; omega
    · by_cases hj : j < acc.length
      · rw [List.getD_eq_getElem?_getD, List.getElem?_append_left hj, ← List.getD_eq_getElem?_getD] at hx; exact ha j x hx
      · by_cases hj2 : j = acc.length
        · subst hj2
          rw [List.getD_eq_getElem?_getD, List.getElem?_append_right (Nat.le_refl _)] at hx
          simp only [Nat.sub_self, List.getElem?_cons_zero, Option.getD_some] at hx
          have ho : ops[acc.length]? = some o := by have := hos 0; simpa using this.symm
          rcases foldl_mask acc x _ 0 hx with h0 | ⟨e, he, hb, h1 | h1⟩
          · simp at h0
          · exact .one ho he hb h1
          · exact .more (ha _ _ h1) ho he hb rfl
        · have : (acc ++ [maskOf acc o]).getD j 0 = 0 := by
            rw [List.getD_eq_getElem?_getD, List.getElem?_eq_none (by simp; omega)]; rfl
          rw [this] at hx; simp at hx

theorem clsOk_ok (tag : Nat → Nat) {c : Cls} (h : clsOk c = true) : ∀ i, wrP tag c i = true → rdP tag c i = true := by
  intro i hi
  cases c with
  | none => rfl
  | some p =>
    obtain ⟨r, w⟩ := p
    simp only [clsOk, List.all_eq_true] at h
    simp only [wrP, rdP] at hi ⊢
    exact h _ (by simpa using hi)
theorem indepB_ok {ops : List Oper} {c1 c2 : Cls} {o1 o2 : Oper} (tag : Nat → Nat) (k1 : clsOk c1 = true) (k2 : clsOk c2 = true) (h : indepB ops c1 c2 o1 o2 = true) : Indep ops tag c1 c2 o1 o2 := by
  simp only [indepB, Bool.and_eq_true, List.all_eq_true, Bool.not_eq_true', Option.mem_toList] at h
  obtain ⟨⟨h1, h2⟩, h3⟩ := h
  refine ⟨fun d hd hm => ?_, fun d hd hm => ?_, fun i hi hr => ?_, fun i hi hr => ?_⟩
  · have := h1 d hd; rw [List.contains_eq_mem] at this; simp [hm] at this
  · have := h2 d hd; rw [List.contains_eq_mem] at this; simp [hm] at this
  · cases c1 with
    | none =>
      cases c2 with
      | none => simp [clsInd] at h3
      | some q => obtain ⟨r, w⟩ := q; simp only [clsInd, List.isEmpty_iff] at h3; subst h3; simp [rdP] at hr
    | some p =>
      obtain ⟨r1, w1⟩ := p
      cases c2 with
      | none => simp only [clsInd, List.isEmpty_iff] at h3; subst h3; have := clsOk_ok tag k1 i hi; simp [rdP] at this
      | some q =>
        obtain ⟨r2, w2⟩ := q
        simp only [clsInd, Bool.and_eq_true, List.all_eq_true, Bool.not_eq_true'] at h3
        simp only [wrP, rdP, List.contains_eq_mem, decide_eq_true_eq] at hi hr
        have := h3.1 _ hi; rw [List.contains_eq_mem] at this; simp [hr] at this
  · cases c2 with
    | none =>
      cases c1 with
      | none => simp [clsInd] at h3
      | some q => obtain ⟨r, w⟩ := q; simp only [clsInd, List.isEmpty_iff] at h3; subst h3; simp [rdP] at hr
    | some p =>
      obtain ⟨r2, w2⟩ := p
      cases c1 with
      | none => simp only [clsInd, List.isEmpty_iff] at h3; subst h3; have := clsOk_ok tag k2 i hi; simp [rdP] at this
      | some q =>
        obtain ⟨r1, w1⟩ := q
        simp only [clsInd, Bool.and_eq_true, List.all_eq_true, Bool.not_eq_true'] at h3
        simp only [wrP, rdP, List.contains_eq_mem, decide_eq_true_eq] at hi hr
        have := h3.2 _ hi; rw [List.contains_eq_mem] at this; simp [hr] at this

structure Chk (ops : List Oper) (cls : List Cls) : Prop where
  okc : ∀ i, clsOk (clsAt cls i) = true
  edge : ∀ j o e, ops[j]? = some o → e ∈ o.after.toList → Region.binds .any e = true → e.on < j
  pair : ∀ i j oi oj, i < j → ops[i]? = some oi → ops[j]? = some oj → TP ops i j ∨ ∀ tag, Indep ops tag (clsAt cls i) (clsAt cls j) oi oj
theorem chk_ok {ops : List Oper} {cls : List Cls} (h : chkB ops cls = true) : Chk ops cls := by
  simp only [chkB, Bool.and_eq_true, List.all_eq_true, List.mem_range] at h
  obtain ⟨h0, h1⟩ := h
  have hc : ∀ i, clsOk (clsAt cls i) = true := fun i => by
    unfold clsAt
    rw [List.getD_eq_getElem?_getD]
    cases e : cls[i]? with
    | none => rfl
    | some c => exact h0 c (List.mem_of_getElem? e)
  have hj : ∀ j oj, ops[j]? = some oj → j < ops.length := fun j oj h => (List.getElem?_eq_some_iff.1 h).1
  refine ⟨hc, fun j o e ho he hb => ?_, fun i j oi oj hij ho1 ho2 => ?_⟩
  · have := h1 j (hj j o ho)
    rw [ho] at this
    simp only [Bool.and_eq_true, List.all_eq_true, Bool.or_eq_true, Bool.not_eq_true', decide_eq_true_eq] at this
    rcases this.1 e he with h | h
    · rw [hb] at h; cases h
    · exact h
  · have := h1 j (hj j oj ho2)
    rw [ho2] at this
    simp only [Bool.and_eq_true, List.all_eq_true, List.mem_range] at this
    have := this.2 i hij
    rw [ho1] at this
    simp only [Bool.or_eq_true] at this
    rcases this with h | h
    · exact .inl (masks_ok ops ops [] (by simp) (fun j x hx => by simp at hx) j i h)
    · exact .inr fun tag => indepB_ok tag (hc i) (hc j) h

/-! ### the operations in another order -/
section
variable {P : Program} {tt : Tab} {fz : Nat → Bool} {N : Nat} {ops : List Oper} {tag : Nat → Nat} {cls : List Cls}
def Ch (P : Program) (tt : Tab) (fz : Nat → Bool) (N : Nat) (ops : List Oper) (tag : Nat → Nat) (cls : List Cls) : List Nat → Env → Heap → Env → Heap → Prop
  | [], ρ, h, ρ', h' => EEq ρ ρ' ∧ HEq' h h'
  | i :: is, ρ, h, ρ', h' => ∃ o v h1, ops[i]? = some o ∧ Act P tt fz N ops tag (clsAt cls i) o ρ h v h1 ∧ Ch P tt fz N ops tag cls is (ρ.put o.dst v) h1 ρ' h'

theorem Act.congr {c : Cls} {o : Oper} {ρ ρ2 : Env} {h h2 h1 : Heap} {v : V} (hc : clsOk c = true) (e : EEq ρ ρ2) (e' : HEq' h h2) (a : Act P tt fz N ops tag c o ρ h v h1) :
    ∃ k, Act P tt fz N ops tag c o ρ2 h2 v k ∧ HEq' h1 k := by
  obtain ⟨⟨k, a', hk⟩, hf⟩ := act_local (ρ2 := ρ2) (h2 := h2) (clsOk_ok tag hc) a (fun s _ => (e s).symm) (fun i _ => (e' i).symm)
  refine ⟨k, a', fun i => ?_⟩
  rw [hk i]
  by_cases hw : wrP tag c i = true
  · rw [if_pos hw]
  · rw [if_neg hw, hf i hw, e' i]
theorem Ch.congr (hc : ∀ i, clsOk (clsAt cls i) = true) : ∀ (is : List Nat) {ρ ρ2 : Env} {h h2 : Heap} {ρ' : Env} {h' : Heap}, EEq ρ ρ2 → HEq' h h2 → Ch P tt fz N ops tag cls is ρ h ρ' h' → Ch P tt fz N ops tag cls is ρ2 h2 ρ' h'
  | [], ρ, ρ2, h, h2, ρ', h', e, e', c => ⟨fun s => (e s).symm.trans (c.1 s), fun i => (e' i).symm.trans (c.2 i)⟩
  | i :: is, ρ, ρ2, h, h2, ρ', h', e, e', ⟨o, v, h1, ho, a, c⟩ => by
    obtain ⟨k, a', hk⟩ := a.congr (hc i) e e'
    exact ⟨o, v, k, ho, a', Ch.congr hc is (e.put o.dst v) hk c⟩
theorem Ch.bubble (hc : ∀ i, clsOk (clsAt cls i) = true) {i : Nat} {o : Oper} (ho : ops[i]? = some o) {post : List Nat} : ∀ (pre : List Nat) {ρ : Env} {h : Heap} {ρ' : Env} {h' : Heap},
    (∀ x ∈ pre, ∀ ox, ops[x]? = some ox → Indep ops tag (clsAt cls x) (clsAt cls i) ox o) → Ch P tt fz N ops tag cls (pre ++ i :: post) ρ h ρ' h' → Ch P tt fz N ops tag cls (i :: (pre ++ post)) ρ h ρ' h'
  | [], _, _, _, _, _, c => c
  | x :: pre, ρ, h, ρ', h', hi, ⟨ox, v, h1, hox, a, c⟩ => by
    have c2 := Ch.bubble hc ho pre (fun y hy => hi y (by simp [hy])) c
    obtain ⟨o', v2, h2, ho', a2, c3⟩ := c2
    rw [ho] at ho'; injection ho' with ho'; subst ho'
    obtain ⟨k1, k2, b1, b2, e1, e2⟩ := diamond (clsOk_ok tag (hc x)) (clsOk_ok tag (hc i)) (hi x (by simp) ox hox) a a2
    exact ⟨o, v2, k1, ho, b1, ox, v, k2, hox, b2, Ch.congr hc _ (fun s => (e2 s).symm) (fun j => (e1 j).symm) c3⟩

/-- L is an order of R that keeps to the edges. -/
def Valid (ops : List Oper) (cls : List Cls) : List Nat → List Nat → Prop
  | R, [] => R = []
  | R, i :: L => ∃ pre post o, R = pre ++ i :: post ∧ ops[i]? = some o ∧ (∀ x ∈ pre, ¬ TP ops x i) ∧ (∀ x ∈ pre, ∀ ox, ops[x]? = some ox → ∀ tag, Indep ops tag (clsAt cls x) (clsAt cls i) ox o) ∧ Valid ops cls (pre ++ post) L
theorem Ch.valid (hc : ∀ i, clsOk (clsAt cls i) = true) : ∀ (L R : List Nat) {ρ : Env} {h : Heap} {ρ' : Env} {h' : Heap}, Valid ops cls R L → Ch P tt fz N ops tag cls R ρ h ρ' h' → Ch P tt fz N ops tag cls L ρ h ρ' h'
  | [], R, _, _, _, _, hv, c => by simp only [Valid] at hv; subst hv; exact c
  | i :: L, R, ρ, h, ρ', h', hv, c => by
    obtain ⟨pre, post, o, rfl, ho, _, hi, hv⟩ := hv
    obtain ⟨o', v, h1, ho', a, c2⟩ := Ch.bubble hc ho pre (fun x hx ox hox => hi x hx ox hox tag) c
    exact ⟨o', v, h1, ho', a, Ch.valid hc L _ hv c2⟩

/-! ### the machine's own orders -/
def rem (n : Nat) (listed : Array Bool) : List Nat := (List.range n).filter fun i => !listed.getD i true
theorem rem_split {n : Nat} {listed : Array Bool} {i : Nat} (hi : i < n) (hl : listed.getD i true = false) :
    ∃ pre post, rem n listed = pre ++ i :: post ∧ (∀ x ∈ pre, x < i ∧ listed.getD x true = false) ∧ (i < listed.size → rem n (listed.setIfInBounds i true) = pre ++ post) := by
  have hr : List.range n = List.range i ++ i :: (List.range' (i + 1) (n - i - 1)) := by
    rw [List.range_eq_range', List.range_eq_range']
    rw [show n = i + (1 + (n - i - 1)) by omega, ← List.range'_append_1]
    congr 1
    · rw [show i + (1 + (n - i - 1)) - i - 1 = n - i - 1 by omega, Nat.zero_add, Nat.add_comm 1, List.range'_succ]
  refine ⟨(List.range i).filter fun x => !listed.getD x true, (List.range' (i + 1) (n - i - 1)).filter fun x => !listed.getD x true, ?_, ?_, ?_⟩
  · unfold rem
    rw [hr, List.filter_append, List.filter_cons_of_pos (by simp [hl])]
  · intro x hx
    simp only [List.mem_filter, List.mem_range, Bool.not_eq_true'] at hx
    exact hx
  · intro hs
    unfold rem
    rw [hr, List.filter_append, List.filter_cons_of_neg (by simp [Array.getD_eq_getD_getElem?, Array.getElem?_setIfInBounds, hs])]
    congr 1
    · refine List.filter_congr fun x hx => ?_
      have : i ≠ x := by simp at hx; omega
      simp [Array.getD_eq_getD_getElem?, Array.getElem?_setIfInBounds, this]
    · refine List.filter_congr fun x hx => ?_
      have : i ≠ x := by simp [List.mem_range'] at hx; omega
      simp [Array.getD_eq_getD_getElem?, Array.getElem?_setIfInBounds, this]
theorem lin_ok {opsA : Array Oper} (he : opsA.toList = ops) (C : Chk ops cls) : ∀ (fuel t : Nat) (listed : Array Bool) (acc : List Nat), listed.size = opsA.size → (rem opsA.size listed).length ≤ fuel →
    (∀ j o e, ops[j]? = some o → listed.getD j true = true → e ∈ o.after.toList → Region.binds .any e = true → listed.getD e.on true = true) →
    ∃ L, Region.linearise.go .any opsA fuel t listed acc = acc.reverse ++ L ∧ Valid ops cls (rem opsA.size listed) L
  | 0, t, listed, acc, _, hf, _ => ⟨[], by simp [Region.linearise.go], by simp only [Valid]; exact List.eq_nil_of_length_eq_zero (by omega)⟩
  | fuel + 1, t, listed, acc, hs, hf, hcl => by
    have hget : ∀ i, opsA[i]? = ops[i]? := fun i => by rw [← he, Array.getElem?_toList]
    simp only [Region.linearise.go]
    generalize hrs : ((List.range opsA.size).filter fun i => !listed.getD i true && ((opsA[i]?).map (·.after.all fun e => !Region.binds .any e || listed.getD e.on false)).getD false) = rs
    by_cases hre : rem opsA.size listed = []
    · have hrs0 : rs = [] := by
        rw [← hrs, List.filter_eq_nil_iff]
        intro i hi hh
        have : i ∈ rem opsA.size listed := by simp only [rem, List.mem_filter]; simp only [Bool.and_eq_true] at hh; exact ⟨hi, hh.1⟩
        rw [hre] at this; simp at this
      rw [hrs0]
      exact ⟨[], by simp, by simp only [Valid]; exact hre⟩
    · -- there is one that is ready
      have hne : rs ≠ [] := by
        obtain ⟨i, r, hir⟩ := List.exists_cons_of_ne_nil hre
        have hmem : i ∈ rem opsA.size listed := by rw [hir]; simp
        have hmem2 := hmem
        simp only [rem, List.mem_filter, List.mem_range, Bool.not_eq_true'] at hmem2
        have hmin : ∀ x, x < i → listed.getD x true = true := fun x hx => by
          cases hlx : listed.getD x true with
          | true => rfl
          | false =>
            obtain ⟨pre, post, hsp, _, _⟩ := rem_split (n := opsA.size) hmem2.1 hmem2.2
            have hsorted : (rem opsA.size listed).Pairwise (· < ·) := (List.pairwise_lt_range).filter _
            have hxr : x ∈ rem opsA.size listed := by simp only [rem, List.mem_filter, List.mem_range]; exact ⟨by omega, by simp [hlx]⟩
            rw [hir] at hsorted hxr
            rcases List.mem_cons.1 hxr with rfl | hxr
            · omega
            · have := (List.pairwise_cons.1 hsorted).1 x hxr; omega
        have hi' : i ∈ rs := by
          rw [← hrs]
          simp only [List.mem_filter, List.mem_range, Bool.and_eq_true, Bool.not_eq_true']
          refine ⟨hmem2.1, hmem2.2, ?_⟩
          rw [Array.getElem?_eq_getElem hmem2.1]
          simp only [Option.map_some, Option.getD_some, Array.all_eq_true_iff_forall_mem]
          intro e hee
          cases hb : Region.binds .any e with
          | false => rfl
          | true =>
            have hlt := C.edge i opsA[i] e (by rw [← hget, Array.getElem?_eq_getElem hmem2.1]) (by simpa using hee) hb
            have := hmin e.on hlt
            simp only [Bool.not_true, Bool.false_or]
            have hs2 : e.on < listed.size := by omega
            simp only [Array.getD_eq_getD_getElem?, Array.getElem?_eq_getElem hs2] at this ⊢
            exact this
        intro h0; rw [h0] at hi'; simp at hi'
      have hlt : t % rs.length < rs.length := Nat.mod_lt _ (List.length_pos_iff.2 hne)
      rw [List.getElem?_eq_getElem hlt]
      simp only
      generalize hi : rs[t % rs.length] = i
      have him : i ∈ rs := by rw [← hi]; exact List.getElem_mem hlt
      rw [← hrs] at him
      simp only [List.mem_filter, List.mem_range, Bool.and_eq_true, Bool.not_eq_true'] at him
      obtain ⟨hin, hil, hir⟩ := him
      have ho : ops[i]? = some opsA[i] := by rw [← hget, Array.getElem?_eq_getElem hin]
      rw [Array.getElem?_eq_getElem hin] at hir
      simp only [Option.map_some, Option.getD_some, Array.all_eq_true_iff_forall_mem] at hir
      have hready : ∀ e, e ∈ opsA[i].after.toList → Region.binds .any e = true → listed.getD e.on true = true := fun e hee hb => by
        have := hir e (by simpa using hee)
        rw [hb] at this
        simp only [Bool.not_true, Bool.false_or] at this
        rw [Array.getD_eq_getD_getElem?] at this ⊢
        cases q : listed[e.on]? with
        | none => rw [q] at this; simp at this
        | some z => rw [q] at this; simpa using this
      have htp : ∀ x j, TP ops x j → listed.getD j true = true → listed.getD x true = true := fun x j h => by
        induction h with
        | one ho he hb hi => intro hj; rw [← hi]; exact hcl _ _ _ ho hj he hb
        | more h ho he hb hi ih => intro hj; exact ih (by rw [← hi]; exact hcl _ _ _ ho hj he hb)
      obtain ⟨pre, post, hsp, hpre, hset⟩ := rem_split (n := opsA.size) hin hil
      have hset := hset (by omega)
      obtain ⟨L, hL, hV⟩ := lin_ok he C fuel (t / rs.length) (listed.setIfInBounds i true) (i :: acc) (by simpa using hs) (by
          rw [hset]; rw [hsp] at hf; simp at hf ⊢; omega) (fun j o e hoj hj hee hb => by
          by_cases hji : i = j
          · subst hji
            rw [ho] at hoj; injection hoj with hoj; subst hoj
            have := hready e hee hb
            rw [Array.getD_eq_getD_getElem?, Array.getElem?_setIfInBounds]
            split
            · split <;> rfl
            · rwa [← Array.getD_eq_getD_getElem?]
          · have hj' : listed.getD j true = true := by
              rw [Array.getD_eq_getD_getElem?, Array.getElem?_setIfInBounds, if_neg hji] at hj
              rwa [Array.getD_eq_getD_getElem?]
            have := hcl j o e hoj hj' hee hb
            rw [Array.getD_eq_getD_getElem?, Array.getElem?_setIfInBounds]
            split
            · split <;> rfl
            · rwa [← Array.getD_eq_getD_getElem?])
      have hnt : ∀ x ∈ pre, ¬ TP ops x i := fun x hx h => by
        obtain ⟨hxi, hxl⟩ := hpre x hx
        have : listed.getD x true = true := by
          cases h with
          | one ho2 he2 hb2 hi2 => rw [ho] at ho2; injection ho2 with ho2; subst ho2; rw [← hi2]; exact hready _ he2 hb2
          | more h2 ho2 he2 hb2 hi2 => rw [ho] at ho2; injection ho2 with ho2; subst ho2; exact htp _ _ h2 (by rw [← hi2]; exact hready _ he2 hb2)
        rw [this] at hxl; cases hxl
      refine ⟨i :: L, by rw [hL]; simp, pre, post, opsA[i], hsp, ho, hnt, fun x hx ox hox tag => ?_, by rw [← hset]; exact hV⟩
      obtain ⟨hxi, hxl⟩ := hpre x hx
      rcases C.pair x i ox opsA[i] hxi hox ho with h | h
      · exact absurd h (hnt x hx)
      · exact h tag
/-- What stands behind all others comes last. -/
theorem Valid.last {m : Nat} (hm : ∀ x, x < m → TP ops x m) : ∀ (L R : List Nat), (∀ x ∈ R, x < m) → Valid ops cls (R ++ [m]) L → ∃ L', L = L' ++ [m] ∧ Valid ops cls R L'
  | [], R, _, hv => by simp [Valid] at hv
  | i :: L, R, hR, ⟨pre, post, o, e, ho, hnt, hi, hv⟩ => by
    rcases List.eq_nil_or_concat post with rfl | ⟨post', z, rfl⟩
    · have e2 := List.append_inj' e (by simp)
      obtain ⟨rfl, e3⟩ := e2
      injection e3 with e3; subst e3
      have hR0 : R = [] := by
        cases R with
        | nil => rfl
        | cons x R => exact absurd (hm x (hR x (by simp))) (hnt x (by simp))
      subst hR0
      cases L with
      | nil => exact ⟨[], rfl, by simp [Valid]⟩
      | cons j L => obtain ⟨pre, post, _, e, _⟩ := hv; simp at e
    · rw [List.concat_eq_append] at e hv
      rw [show pre ++ i :: (post' ++ [z]) = (pre ++ i :: post') ++ [z] by simp] at e
      obtain ⟨rfl, e3⟩ := List.append_inj' e (by simp)
      injection e3 with e3; subst e3
      rw [← List.append_assoc] at hv
      obtain ⟨L', rfl, hv'⟩ := Valid.last hm L (pre ++ post') (fun x hx => hR x (by simp at hx ⊢; rcases hx with h | h <;> simp [h])) hv
      exact ⟨i :: L', rfl, pre, post', o, rfl, ho, hnt, hi, hv'⟩
end
end Go.Vm
