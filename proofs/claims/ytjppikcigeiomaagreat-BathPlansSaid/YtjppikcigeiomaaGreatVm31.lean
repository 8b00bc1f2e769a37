import Derived.Test.YtjppikcigeiomaaGreatVm30
set_option linter.unusedVariables false
set_option linter.unusedSimpArgs false
namespace Go.Vm
/-! ### a region whose first operation may float behind the place m -/
section
variable {ops : List Oper} {cls : List Cls}
theorem Valid.last2 {m : Nat} : ∀ (L R : List Nat), (∀ x ∈ R, TP ops x m) → Valid ops cls (R ++ [m]) L → ∃ L', L = L' ++ [m] ∧ Valid ops cls R L'
  | [], R, _, hv => by simp [Valid] at hv
  | i :: L, R, hR, ⟨pre, post, o, e, ho, hnt, hi, hv⟩ => by
    rcases List.eq_nil_or_concat post with rfl | ⟨post', z, rfl⟩
    · have e2 := List.append_inj' e (by simp)
      obtain ⟨rfl, e3⟩ := e2
      injection e3 with e3; subst e3
      have hR0 : R = [] := by
        cases R with
        | nil => rfl
        | cons x R => exact absurd (hR x (by simp)) (hnt x (by simp))
      subst hR0
      cases L with
      | nil => exact ⟨[], rfl, by simp [Valid]⟩
      | cons j L => obtain ⟨pre, post, _, e, _⟩ := hv; simp at e
    · rw [List.concat_eq_append] at e hv
      rw [show pre ++ i :: (post' ++ [z]) = (pre ++ i :: post') ++ [z] by simp] at e
      obtain ⟨rfl, e3⟩ := List.append_inj' e (by simp)
      injection e3 with e3; subst e3
      rw [← List.append_assoc] at hv
      obtain ⟨L', rfl, hv'⟩ := Valid.last2 L (pre ++ post') (fun x hx => hR x (by simp at hx ⊢; rcases hx with h | h <;> simp [h])) hv
      exact ⟨i :: L', rfl, pre, post', o, rfl, ho, hnt, hi, hv'⟩
theorem Valid.float {m : Nat} : ∀ (L A : List Nat), (∀ x ∈ A, TP ops x m) → Valid ops cls (0 :: (A ++ [m])) L →
    (∃ L', L = L' ++ [m] ∧ Valid ops cls (0 :: A) L') ∨ (∃ L', L = L' ++ [m, 0] ∧ Valid ops cls A L')
  | [], A, _, hv => by simp [Valid] at hv
  | i :: L, A, hA, ⟨pre, post, o, e, ho, hnt, hi, hv⟩ => by
    cases pre with
    | nil =>
      rw [List.nil_append] at e
      injection e with e1 e2
      subst e1 e2
      obtain ⟨L', rfl, hv'⟩ := Valid.last2 L A hA hv
      exact .inl ⟨0 :: L', rfl, [], A, o, rfl, ho, hnt, hi, hv'⟩
    | cons y pre =>
      rw [List.cons_append] at e
      injection e with e1 e2
      subst e1
      rcases List.eq_nil_or_concat post with rfl | ⟨post', z, rfl⟩
      · have e3 := List.append_inj' e2 (by simp)
        obtain ⟨rfl, e4⟩ := e3
        injection e4 with e4; subst e4
        have hA0 : A = [] := by
          cases A with
          | nil => rfl
          | cons x A => exact absurd (hA x (by simp)) (hnt x (by simp))
        subst hA0
        rw [List.append_nil] at hv
        cases L with
        | nil => simp [Valid] at hv
        | cons j L =>
          obtain ⟨pre2, post2, _, e5, _, _, _, hv2⟩ := hv
          cases pre2 with
          | nil =>
            rw [List.nil_append] at e5
            injection e5 with e6 e7
            subst e6 e7
            cases L with
            | nil => exact .inr ⟨[], rfl, by simp [Valid]⟩
            | cons j L => obtain ⟨_, _, _, e8, _⟩ := hv2; simp at e8
          | cons y2 pre2 => simp at e5
      · rw [List.concat_eq_append] at e2 hv
        rw [show pre ++ i :: (post' ++ [z]) = (pre ++ i :: post') ++ [z] by simp] at e2
        obtain ⟨rfl, e3⟩ := List.append_inj' e2 (by simp)
        injection e3 with e3; subst e3
        rw [show (0 :: pre) ++ (post' ++ [m]) = 0 :: ((pre ++ post') ++ [m]) by simp] at hv
        rcases Valid.float L (pre ++ post') (fun x hx => hA x (by simp at hx ⊢; rcases hx with h | h <;> simp [h])) hv with ⟨L', rfl, hv'⟩ | ⟨L', rfl, hv'⟩
        · exact .inl ⟨i :: L', rfl, 0 :: pre, post', o, rfl, ho, hnt, hi, hv'⟩
        · exact .inr ⟨i :: L', rfl, pre, post', o, rfl, ho, fun x hx => hnt x (List.mem_cons_of_mem _ hx), fun x hx => hi x (List.mem_cons_of_mem _ hx), hv'⟩
end
/-- The operation m stands behind 1, .., m - 1; those behind m stand behind all that are ahead of them. -/
def floatB (ops : List Oper) (m : Nat) : Bool := decide (0 < m) && (decide (m < ops.length) && ((List.range (m - 1)).all (fun i => ((masks ops []).getD m 0).testBit (i + 1)) && (List.range (ops.length - (m + 1))).all fun d => (List.range (m + 1 + d)).all fun i => ((masks ops []).getD (m + 1 + d) 0).testBit i))
section
variable {P : Program} {b : Frame} {N : Nat} {p : Nat → Bool} {ρ : Env} {D : List Nat} {h : Heap} {Q : Xit → Env → List Nat → Heap → Prop} {tt : Tab}
theorem runI_pick {fz : Nat → Bool} {ops : List Oper} {Q : Env → Heap → Prop} : ∀ (is : List Nat) (os : List Oper) (ρ : Env) (h : Heap), is.map (ops[·]?) = os.map some → RunL P tt fz N ops os ρ h Q → RunI P tt fz N ops is ρ h Q
  | [], [], ρ, h, _, r => r
  | [], o :: os, ρ, h, e, _ => by simp at e
  | i :: is, [], ρ, h, e, _ => by simp at e
  | i :: is, o :: os, ρ, h, e, r => by
    simp only [List.map_cons, List.cons.injEq] at e
    simp only [RunI, e.1]
    exact StepK.mono (fun ρ' h' r' => runI_pick is os ρ' h' e.2 r') r
/-- A region that is split, in each of its orders, into a part that draws and one that does not; between them what is known may be said anew. -/
theorem Ex.drawSplit (K : TabOk P tt) (hm : P.follows .mixedOrders = true) (fz : Nat → Bool) (tag : Nat → Nat) (cls : List Cls) {id : Nat} {ops : Array Oper} (hchk : chkB ops.toList cls = true)
    (hs : ∀ L, Valid ops.toList cls (List.range ops.size) L → ∃ L' rest, L = L' ++ rest ∧ ∃ ρ1 h1, Ch P tt fz N ops.toList tag cls L' ρ h ρ1 h1 ∧ ∃ ρ2 h2, Wk (orD p D) ρ1 h1 ρ2 h2 ∧ RunI P tt fz N ops.toList rest ρ2 h2 fun ρ' h' => Q .normal ρ' D h') : Ex P b N p ρ D h (.region id ops true) Q := by
  intro g w T Ds k cs h1 h2 h3
  have C := chk_ok hchk
  have hrem : rem ops.size (Array.replicate ops.size false) = List.range ops.size := by
    unfold rem
    rw [List.filter_eq_self]
    intro i hi
    simp at hi
    simp [Array.getD_eq_getD_getElem?, hi]
  obtain ⟨L, hL, hV⟩ := lin_ok (opsA := ops) rfl C ops.size (w.tape w.drawn (.order b.fn id)) (Array.replicate ops.size false) [] (by simp) (by unfold rem; exact Nat.le_trans (List.length_filter_le _ _) (by simp)) (fun j o e ho hj _ _ => by
    have hj2 : j < ops.size := by have := (List.getElem?_eq_some_iff.1 ho).1; simpa using this
    simp [Array.getD_eq_getD_getElem?, hj2] at hj)
  rw [hrem] at hV
  obtain ⟨L', rest, rfl, ρ1, hp1, cL, ρ2, hp2, wk, q⟩ := hs L hV
  have rI := runI_of_ch C.okc L' cL
  have hsch : Region.schedule (P.follows .mixedOrders) ops (w.tape w.drawn (.order b.fn id)) = L' ++ rest := by
    simp only [Region.schedule, hm, Bool.true_or, if_true, Region.linearise]
    simpa using hL
  obtain ⟨ρ3, hp3, g', w', T', ⟨e1, e2⟩, E', H', t', l', s⟩ := runI_ok2 (b := b) (k := k) (cs := cs) (Ds := Ds) (rest := rest) K L' h1 h3.drew rI
  have E1 := E'.congr e1
  have H1 := H'.congr e2
  have t1 : Tr g h w g' hp1 w' := ((Tr.drew g h w).trans t').congr (fun _ => rfl) e2
  obtain ⟨g2, E3, H3, t2, k2⟩ := wk g' w' N T' E1 H1
  obtain ⟨ρ4, hp4, g4, w4, T4, q4, E4, H4, t4, l4, s4⟩ := runI_ok (b := b) (k := k) (cs := cs) (Ds := Ds) K _ E3 H3 q
  refine ⟨.normal, ρ4, D, hp4, g4, w4, T4, Ds, q4, E4, ?_, H4, (t1.trans t2).trans t4, ?_, ?_⟩
  · exact h2.keep fun i hi v x hm => l4.m _ _ _ rfl (k2 i v x (by simp [orD, hi]) (l'.m _ _ _ rfl hm))
  · exact fun i v x hp hm => l4.m _ _ _ rfl (k2 i v x (by simp [orD, hp]) (l'.m _ _ _ rfl hm))
  · refine (Steps.one ?_).trans ((s.trans s4).trans (.one st_regionEnd))
    rw [st_draw, hsch]
theorem Ex.drawFloat (K : TabOk P tt) (hm : P.follows .mixedOrders = true) (fz : Nat → Bool) (tag : Nat → Nat) (cls : List Cls) (m : Nat) {id : Nat} {ops : Array Oper} (hchk : chkB ops.toList cls = true) (hfl : floatB ops.toList m = true)
    (r1 : RunD P tt fz N ops.toList tag (((ops.toList.take m).zipIdx).map fun x => (x.1, clsAt cls x.2)) ρ h fun ρ1 h1 => ∃ ρ2 h2, Wk (orD p D) ρ1 h1 ρ2 h2 ∧ RunL P tt fz N ops.toList (ops.toList.drop m) ρ2 h2 fun ρ' h' => Q .normal ρ' D h')
    (r2 : RunD P tt fz N ops.toList tag ((((ops.toList.take m).drop 1).zipIdx 1).map fun x => (x.1, clsAt cls x.2)) ρ h fun ρ1 h1 => ∃ ρ2 h2, Wk (orD p D) ρ1 h1 ρ2 h2 ∧ RunL P tt fz N ops.toList ((ops.toList.drop m).take 1 ++ (ops.toList.take 1 ++ ops.toList.drop (m + 1))) ρ2 h2 fun ρ' h' => Q .normal ρ' D h') : Ex P b N p ρ D h (.region id ops true) Q := by
  have C := chk_ok hchk
  refine Ex.drawSplit K hm fz tag cls hchk fun L hV => ?_
  simp only [floatB, Bool.and_eq_true, decide_eq_true_eq, List.all_eq_true, List.mem_range] at hfl
  obtain ⟨hm0, hml, hf1, hf2⟩ := hfl
  have hsz : ops.toList.length = ops.size := by simp
  rw [hsz] at hml hf2
  have mok := masks_ok ops.toList ops.toList [] (by simp) (fun j x hx => by simp at hx)
  have htp : ∀ e, e < ops.size - (m + 1) → ∀ x, x < m + 1 + e → TP ops.toList x (m + 1 + e) := fun e he x hx => mok _ x (hf2 e he x hx)
  have hmp : ∀ x, 1 ≤ x → x < m → TP ops.toList x m := fun x h1 h2 => by
    have := hf1 (x - 1) (by omega)
    rw [show x - 1 + 1 = x by omega] at this
    exact mok _ x this
  rw [show ops.size = (m + 1) + (ops.size - (m + 1)) by omega] at hV
  obtain ⟨L1, rfl, hV1⟩ := Valid.tail (ops.size - (m + 1)) L htp hV
  have hr : List.range (m + 1) = 0 :: (List.range' 1 (m - 1) ++ [m]) := by
    rw [List.range_succ, List.range_eq_range', show m = (m - 1) + 1 by omega, List.range'_succ]
    simp
  rw [hr] at hV1
  have hA : ∀ x ∈ List.range' 1 (m - 1), TP ops.toList x m := fun x hx => by
    rw [List.mem_range'_1] at hx
    exact hmp x hx.1 (by omega)
  have htl : (ops.toList.take m).length = m := by rw [List.length_take, hsz]; omega
  have hdl : (ops.toList.drop m).length = ops.size - m := by rw [List.length_drop, hsz]
  have hdl1 : (ops.toList.drop (m + 1)).length = ops.size - (m + 1) := by rw [List.length_drop, hsz]
  have hget : ∀ (s n : Nat), s + n ≤ ops.size → (List.range' s n).map (ops.toList[·]?) = ((ops.toList.drop s).take n).map some := fun s n hsn => by
    apply List.ext_getElem?
    intro j
    rw [List.getElem?_map, List.getElem?_map, List.getElem?_take, List.getElem?_drop]
    by_cases hj : j < n
    · rw [List.getElem?_range' hj, if_pos hj, List.getElem?_eq_getElem (l := ops.toList) (i := s + j) (by rw [hsz]; omega)]
      simp only [Option.map_some, Nat.one_mul]
      rw [List.getElem?_eq_getElem (l := ops.toList) (i := s + j) (by rw [hsz]; omega)]
    · rw [List.getElem?_eq_none (by simp; omega), if_neg hj]; rfl
  rcases Valid.float L1 (List.range' 1 (m - 1)) hA hV1 with ⟨L', rfl, hV'⟩ | ⟨L', rfl, hV'⟩
  · obtain ⟨ρ1, hp1, c, ρ2, hp2, wk, q⟩ := ch_of_runD' (ops := ops.toList) (cls := cls) (ops.toList.take m) 0 ρ h (fun j o e => by
      rw [Nat.zero_add]
      rw [List.getElem?_take] at e
      split at e
      · exact e
      · cases e) r1
    rw [htl, show List.range' 0 m = 0 :: List.range' 1 (m - 1) by rw [show m = (m - 1) + 1 by omega, List.range'_succ]; simp] at c
    have cL := Ch.valid C.okc L' _ hV' c
    refine ⟨L', [m] ++ List.range' (m + 1) (ops.size - (m + 1)), by simp, ρ1, hp1, cL, ρ2, hp2, wk, ?_⟩
    have e1 : [m] ++ List.range' (m + 1) (ops.size - (m + 1)) = List.range' m (ops.size - m) := by
      rw [show ops.size - m = (ops.size - (m + 1)) + 1 by omega, List.range'_succ]; rfl
    rw [e1]
    refine runI_pick _ _ _ _ ?_ q
    rw [hget m (ops.size - m) (by omega), List.take_of_length_le (by omega)]
  · obtain ⟨ρ1, hp1, c, ρ2, hp2, wk, q⟩ := ch_of_runD' (ops := ops.toList) (cls := cls) ((ops.toList.take m).drop 1) 1 ρ h (fun j o e => by
      rw [List.getElem?_drop, List.getElem?_take] at e
      split at e
      · exact e
      · cases e) r2
    have hl2 : ((ops.toList.take m).drop 1).length = m - 1 := by rw [List.length_drop, htl]
    rw [hl2] at c
    have cL := Ch.valid C.okc L' _ hV' c
    refine ⟨L', [m] ++ ([0] ++ List.range' (m + 1) (ops.size - (m + 1))), by simp, ρ1, hp1, cL, ρ2, hp2, wk, ?_⟩
    refine runI_pick _ _ _ _ ?_ q
    rw [List.map_append, List.map_append, List.map_append, List.map_append, hget (m + 1) _ (by omega), List.take_of_length_le (l := ops.toList.drop (m + 1)) (by omega)]
    have h0 := hget 0 1 (by omega)
    have h1 := hget m 1 (by omega)
    rw [show List.range' 0 1 = [0] from rfl, List.drop_zero] at h0
    rw [show List.range' m 1 = [m] from rfl] at h1
    rw [h0, h1]
end
section
variable {P : Program} {tt : Tab} {fz : Nat → Bool} {cl : Cl0} {b : Frame} {N : Nat} {p : Nat → Bool} {Q : Post} {k : List Itm} {ρ : Env} {D : List Nat} {h : Heap}
theorem Wr.float (K : TabOk P tt) (hm : P.follows .mixedOrders = true) (tag : Nat → Nat) (cls : List Cls) (m : Nat) {id : Nat} {ops : Array Oper} (hchk : chkB ops.toList cls = true) (hfl : floatB ops.toList m = true)
    (r1 : RD P tt fz cl b N p Q tag ops.toList (((ops.toList.take m).zipIdx).map fun x => (x.1, clsAt cls x.2)) (.wk ops.toList (ops.toList.drop m) :: k) ρ D h)
    (r2 : RD P tt fz cl b N p Q tag ops.toList ((((ops.toList.take m).drop 1).zipIdx 1).map fun x => (x.1, clsAt cls x.2)) (.wk ops.toList ((ops.toList.drop m).take 1 ++ (ops.toList.take 1 ++ ops.toList.drop (m + 1))) :: k) ρ D h) : Wr P tt fz cl b N p Q .ex id ops true k ρ D h := Ex.drawFloat K hm fz tag cls m hchk hfl r1 r2
end
end Go.Vm
