import Derived.Test.YtjppikcigeiomaaGreatVm28
set_option linter.unusedVariables false
set_option linter.unusedSimpArgs false
namespace Go.Vm
/-- From the place m on each operation stands behind all that are ahead of it. -/
def tailB (ops : List Oper) (m : Nat) : Bool := decide (m ≤ ops.length) && (List.range (ops.length - m)).all fun d => (List.range (m + d)).all fun i => ((masks ops []).getD (m + d) 0).testBit i
section
variable {P : Program} {b : Frame} {N : Nat} {p : Nat → Bool} {ρ : Env} {D : List Nat} {h : Heap} {Q : Xit → Env → List Nat → Heap → Prop} {tt : Tab}
theorem Valid.tail {ops : List Oper} {cls : List Cls} {m : Nat} : ∀ (d : Nat) (L : List Nat), (∀ e, e < d → ∀ x, x < m + e → TP ops x (m + e)) → Valid ops cls (List.range (m + d)) L → ∃ L', L = L' ++ List.range' m d ∧ Valid ops cls (List.range m) L'
  | 0, L, _, hv => ⟨L, by simp, hv⟩
  | d + 1, L, ht, hv => by
    rw [show m + (d + 1) = (m + d) + 1 by omega, List.range_succ] at hv
    obtain ⟨L1, rfl, hv1⟩ := Valid.last (ht d (by omega)) L _ (fun x hx => by simpa using hx) hv
    obtain ⟨L2, rfl, hv2⟩ := Valid.tail d L1 (fun e he => ht e (by omega)) hv1
    exact ⟨L2, by rw [List.append_assoc, List.range'_concat, Nat.one_mul], hv2⟩
/-- A region that draws up to a place; from there on the order is given; between them what is known may be said anew. -/
theorem Ex.drawTail (K : TabOk P tt) (hm : P.follows .mixedOrders = true) (fz : Nat → Bool) (tag : Nat → Nat) (cls : List Cls) (m : Nat) {id : Nat} {ops : Array Oper} (hchk : chkB ops.toList cls = true) (htail : tailB ops.toList m = true)
    (r : RunD P tt fz N ops.toList tag (((ops.toList.take m).zipIdx).map fun x => (x.1, clsAt cls x.2)) ρ h fun ρ1 h1 => ∃ ρ2 h2, Wk (orD p D) ρ1 h1 ρ2 h2 ∧ RunL P tt fz N ops.toList (ops.toList.drop m) ρ2 h2 fun ρ' h' => Q .normal ρ' D h') : Ex P b N p ρ D h (.region id ops true) Q := by
  intro g w T Ds k cs h1 h2 h3
  have C := chk_ok hchk
  simp only [tailB, Bool.and_eq_true, decide_eq_true_eq, List.all_eq_true, List.mem_range] at htail
  obtain ⟨hml, htl⟩ := htail
  have hml' : m ≤ ops.size := by simpa using hml
  have hlen : (ops.toList.take m).length = m := by rw [List.length_take]; omega
  have rd := ch_of_runD' (ops := ops.toList) (cls := cls) (ops.toList.take m) 0 ρ h (fun j o e => by
    rw [Nat.zero_add]
    rw [List.getElem?_take] at e
    split at e
    · exact e
    · cases e) r
  obtain ⟨ρ1, hp1, c, ρ2, hp2, wk, q⟩ := rd
  rw [← List.range_eq_range', hlen] at c
  have hrem : rem ops.size (Array.replicate ops.size false) = List.range (m + (ops.size - m)) := by
    have : rem ops.size (Array.replicate ops.size false) = List.range ops.size := by
      unfold rem
      rw [List.filter_eq_self]
      intro i hi
      simp at hi
      simp [Array.getD_eq_getD_getElem?, hi]
    rw [this]; congr 1; omega
  obtain ⟨L, hL, hV⟩ := lin_ok (opsA := ops) rfl C ops.size (w.tape w.drawn (.order b.fn id)) (Array.replicate ops.size false) [] (by simp) (by unfold rem; exact Nat.le_trans (List.length_filter_le _ _) (by simp)) (fun j o e ho hj _ _ => by
    have hj2 : j < ops.size := by have := (List.getElem?_eq_some_iff.1 ho).1; simpa using this
    simp [Array.getD_eq_getD_getElem?, hj2] at hj)
  rw [hrem] at hV
  have htp : ∀ e, e < ops.size - m → ∀ x, x < m + e → TP ops.toList x (m + e) := fun e he x hx => by
    have := htl e (by simpa using he) x hx
    exact masks_ok ops.toList ops.toList [] (by simp) (fun j x hx => by simp at hx) _ x this
  obtain ⟨L', rfl, hV'⟩ := Valid.tail (ops.size - m) L htp hV
  have cL := Ch.valid C.okc L' _ hV' c
  have rI := runI_of_ch C.okc L' cL
  have hsch : Region.schedule (P.follows .mixedOrders) ops (w.tape w.drawn (.order b.fn id)) = L' ++ List.range' m (ops.size - m) := by
    simp only [Region.schedule, hm, Bool.true_or, if_true, Region.linearise]
    simpa using hL
  obtain ⟨ρ3, hp3, g', w', T', ⟨e1, e2⟩, E', H', t', l', s⟩ := runI_ok2 (b := b) (k := k) (cs := cs) (Ds := Ds) (rest := List.range' m (ops.size - m)) K L' h1 h3.drew rI
  have E1 := E'.congr e1
  have H1 := H'.congr e2
  have t1 : Tr g h w g' hp1 w' := ((Tr.drew g h w).trans t').congr (fun _ => rfl) e2
  obtain ⟨g2, E3, H3, t2, k2⟩ := wk g' w' N T' E1 H1
  have r3 := runI_of_runL' (ops := ops.toList) (ops.toList.drop m) m ρ2 hp2 (fun j o e => by rw [List.getElem?_drop] at e; exact e) q
  have hdl : (ops.toList.drop m).length = ops.size - m := by simp
  rw [hdl] at r3
  obtain ⟨ρ4, hp4, g4, w4, T4, q4, E4, H4, t4, l4, s4⟩ := runI_ok (b := b) (k := k) (cs := cs) (Ds := Ds) K _ E3 H3 r3
  refine ⟨.normal, ρ4, D, hp4, g4, w4, T4, Ds, q4, E4, ?_, H4, (t1.trans t2).trans t4, ?_, ?_⟩
  · exact h2.keep fun i hi v x hm => l4.m _ _ _ rfl (k2 i v x (by simp [orD, hi]) (l'.m _ _ _ rfl hm))
  · exact fun i v x hp hm => l4.m _ _ _ rfl (k2 i v x (by simp [orD, hp]) (l'.m _ _ _ rfl hm))
  · refine (Steps.one ?_).trans ((s.trans s4).trans (.one st_regionEnd))
    rw [st_draw, hsch]
end
section
variable {P : Program} {tt : Tab} {fz : Nat → Bool} {cl : Cl0} {b : Frame} {N : Nat} {p : Nat → Bool} {Q : Post} {k : List Itm} {ρ : Env} {D : List Nat} {h : Heap}
theorem Wr.tail (K : TabOk P tt) (hm : P.follows .mixedOrders = true) (tag : Nat → Nat) (cls : List Cls) (m : Nat) {id : Nat} {ops : Array Oper} (hchk : chkB ops.toList cls = true) (htail : tailB ops.toList m = true)
    (r : RD P tt fz cl b N p Q tag ops.toList (((ops.toList.take m).zipIdx).map fun x => (x.1, clsAt cls x.2)) (.wk ops.toList (ops.toList.drop m) :: k) ρ D h) : Wr P tt fz cl b N p Q .ex id ops true k ρ D h := Ex.drawTail K hm fz tag cls m hchk htail r
end
end Go.Vm
