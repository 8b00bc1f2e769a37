import Derived.Test.YtjppikcigeiomaaGreatVm25
set_option linter.unusedVariables false
set_option linter.unusedSimpArgs false
namespace Go.Vm

section
variable {P : Program} {tt : Tab} {fz : Nat → Bool} {N : Nat}
theorem runI_ok2 (K : TabOk P tt) {b : Frame} {k : List Item} {cs : List Frame} {Ds : List Deferred} {ops : Array Oper} {rest : List Nat} {Q : Env → Heap → Prop} : ∀ (is : List Nat) {g : Gh} {ρ : Env} {h : Heap} {w : World} {T : Array Value},
    ER g N ρ T → HRel g h w → RunI P tt fz N ops.toList is ρ h Q →
    ∃ ρ' h' g' w' T', Q ρ' h' ∧ ER g' N ρ' T' ∧ HRel g' h' w' ∧ Tr g h w g' h' w' ∧ g.le g' ∧
      Steps P (lone (cfg b T Ds (.inRegion ops (is ++ rest) :: k)) cs w) (lone (cfg b T' Ds (.inRegion ops rest :: k)) cs w')
  | [], g, ρ, h, w, T, E, H, r => ⟨ρ, h, g, w, T, r, E, H, Tr.refl g h w, Gh.le.refl g, .refl _ _⟩
  | i :: is, g, ρ, h, w, T, E, H, r => by
    simp only [RunI] at r
    split at r
    · exact r.elim
    · rename_i o ho
      rw [Array.getElem?_toList] at ho
      obtain ⟨ρ1, h1, g1, w1, T1, r1, E1, H1, t1, l1, s1⟩ := step_ok (b := b) (k := k) (cs := cs) (Ds := Ds) (rest := is ++ rest) K ho E H r
      obtain ⟨ρ2, h2, g2, w2, T2, r2, E2, H2, t2, l2, s2⟩ := runI_ok2 K is E1 H1 r1
      exact ⟨ρ2, h2, g2, w2, T2, r2, E2, H2, t1.trans t2, l1.trans l2, s1.trans s2⟩
theorem runI_of_runL' {ops : List Oper} {Q : Env → Heap → Prop} : ∀ (os : List Oper) (n : Nat) (ρ : Env) (h : Heap), (∀ j o, os[j]? = some o → ops[n + j]? = some o) → RunL P tt fz N ops os ρ h Q → RunI P tt fz N ops (List.range' n os.length) ρ h Q
  | [], n, ρ, h, _, r => r
  | o :: os, n, ρ, h, he, r => by
    have h0 : ops[n]? = some o := he 0 o (by simp)
    simp only [List.length_cons, List.range'_succ, RunI, h0]
    exact StepK.mono (fun ρ' h' r' => runI_of_runL' os (n + 1) ρ' h' (fun j o' e => by have := he (j + 1) o' (by simpa using e); simpa [Nat.add_assoc, Nat.add_comm 1 j] using this) r') r
theorem ch_of_runD' {ops : List Oper} {tag : Nat → Nat} {cls : List Cls} {K : Env → Heap → Prop} : ∀ (os : List Oper) (n : Nat) (ρ : Env) (h : Heap), (∀ j o, os[j]? = some o → ops[n + j]? = some o) →
    RunD P tt fz N ops tag ((os.zipIdx n).map fun x => (x.1, clsAt cls x.2)) ρ h K → ∃ ρ' h', Ch P tt fz N ops tag cls (List.range' n os.length) ρ h ρ' h' ∧ K ρ' h'
  | [], n, ρ, h, _, r => ⟨ρ, h, ⟨fun _ => rfl, fun _ => rfl⟩, r⟩
  | o :: os, n, ρ, h, he, r => by
    have h0 : ops[n]? = some o := he 0 o (by simp)
    simp only [List.zipIdx_cons, List.map_cons, RunD] at r
    obtain ⟨v, h1, a, r⟩ := ActK.ex r
    obtain ⟨ρ', h', c, k⟩ := ch_of_runD' os (n + 1) _ h1 (fun j o' e => by have := he (j + 1) o' (by simpa using e); simpa [Nat.add_assoc, Nat.add_comm 1 j] using this) r
    exact ⟨ρ', h', ⟨o, v, h1, h0, a, c⟩, k⟩
end

section
variable {P : Program} {b : Frame} {N : Nat} {p : Nat → Bool} {ρ : Env} {D : List Nat} {h : Heap} {Q : Xit → Env → List Nat → Heap → Prop} {tt : Tab}
/-- A region in two parts; between them what is known may be said anew. -/
theorem Ex.regionAt (K : TabOk P tt) (fz : Nat → Bool) (n : Nat) {id : Nat} {ops : Array Oper}
    (r : RunL P tt fz N ops.toList (ops.toList.take n) ρ h fun ρ1 h1 => ∃ ρ2 h2, Wk (orD p D) ρ1 h1 ρ2 h2 ∧ RunL P tt fz N ops.toList (ops.toList.drop n) ρ2 h2 fun ρ' h' => Q .normal ρ' D h') : Ex P b N p ρ D h (.region id ops false) Q := by
  intro g w T Ds k cs E1 d1 H1
  have r1 := runI_of_runL' (ops := ops.toList) (ops.toList.take n) 0 ρ h (fun j o e => by
    rw [Nat.zero_add]
    rw [List.getElem?_take] at e
    split at e
    · exact e
    · cases e) r
  have hsplit : List.range ops.size = List.range' 0 (ops.toList.take n).length ++ List.range' (0 + 1 * (ops.toList.take n).length) (ops.toList.drop n).length := by
    rw [List.range'_append, List.range_eq_range']
    congr 1
    simp [List.length_take, List.length_drop]; omega
  obtain ⟨ρ1, h1, g1, w1, T1, ⟨ρ2, h2, wk, r2⟩, E2, H2, t1, l1, s1⟩ := runI_ok2 (b := b) (k := k) (cs := cs) (Ds := Ds) (rest := List.range' (0 + 1 * (ops.toList.take n).length) (ops.toList.drop n).length) K _ E1 H1 r1
  obtain ⟨g2, E3, H3, t2, k2⟩ := wk g1 w1 N T1 E2 H2
  by_cases hn : n ≤ ops.toList.length
  · have r3 := runI_of_runL' (ops := ops.toList) (ops.toList.drop n) n ρ2 h2 (fun j o e => by rw [List.getElem?_drop] at e; exact e) r2
    have hn' : 0 + 1 * (ops.toList.take n).length = n := by rw [List.length_take]; omega
    rw [hn'] at s1 hsplit
    obtain ⟨ρ4, h4, g4, w4, T4, q, E4, H4, t4, l4, s4⟩ := runI_ok (b := b) (k := k) (cs := cs) (Ds := Ds) K _ E3 H3 r3
    refine ⟨.normal, ρ4, D, h4, g4, w4, T4, Ds, q, E4, ?_, H4, (t1.trans t2).trans t4, ?_, ?_⟩
    · exact d1.keep fun i hi v x hm => l4.m _ _ _ rfl (k2 i v x (by simp [orD, hi]) (l1.m _ _ _ rfl hm))
    · exact fun i v x hp hm => l4.m _ _ _ rfl (k2 i v x (by simp [orD, hp]) (l1.m _ _ _ rfl hm))
    · refine (Steps.one ?_).trans ((s1.trans s4).trans (.one st_regionEnd))
      rw [st_region, hsplit]
  · have hd : ops.toList.drop n = [] := List.drop_eq_nil_of_le (by omega)
    rw [hd] at r2 hsplit s1
    simp only [RunL] at r2
    simp only [List.length_nil, List.range'_zero] at hsplit s1
    refine ⟨.normal, ρ2, D, h2, g2, w1, T1, Ds, r2, E3, ?_, H3, t1.trans t2, ?_, ?_⟩
    · exact d1.keep fun i hi v x hm => k2 i v x (by simp [orD, hi]) (l1.m _ _ _ rfl hm)
    · exact fun i v x hp hm => k2 i v x (by simp [orD, hp]) (l1.m _ _ _ rfl hm)
    · refine (Steps.one ?_).trans (s1.trans (.one st_regionEnd))
      rw [st_region, hsplit]

/-- All stand ahead of the last one. -/
def lastB (ops : List Oper) : Bool := (List.range (ops.length - 1)).all fun i => ((masks ops []).getD (ops.length - 1) 0).testBit i
/-- A region that draws, whose last operation comes last; ahead of it what is known may be said anew. -/
theorem Ex.drawLast (K : TabOk P tt) (hm : P.follows .mixedOrders = true) (fz : Nat → Bool) (tag : Nat → Nat) (cls : List Cls) {id : Nat} {ops : Array Oper} {o : Oper} (hchk : chkB ops.toList cls = true) (hlast : lastB ops.toList = true) (ho : ops.toList.getLast? = some o)
    (r : RunD P tt fz N ops.toList tag ((ops.toList.dropLast.zipIdx).map fun x => (x.1, clsAt cls x.2)) ρ h fun ρ1 h1 => ∃ ρ2 h2, Wk (orD p D) ρ1 h1 ρ2 h2 ∧ StepK P tt fz none N ops.toList o ρ2 h2 fun ρ' h' => Q .normal ρ' D h') : Ex P b N p ρ D h (.region id ops true) Q := by
  intro g w T Ds k cs h1 h2 h3
  have C := chk_ok hchk
  have hpos : 0 < ops.size := by
    rcases Nat.eq_zero_or_pos ops.size with e | e
    · have : ops.toList = [] := by simpa using e
      rw [this] at ho; cases ho
    · exact e
  have hlen : ops.toList.dropLast.length = ops.size - 1 := by simp
  have hol : ops[ops.size - 1]? = some o := by
    rw [List.getLast?_eq_getElem?] at ho
    simpa using ho
  have rd := ch_of_runD' (ops := ops.toList) (cls := cls) ops.toList.dropLast 0 ρ h (fun j o e => by
    rw [Nat.zero_add]
    rw [List.getElem?_dropLast] at e
    split at e
    · exact e
    · cases e) r
  obtain ⟨ρ1, hp1, c, ρ2, hp2, wk, q⟩ := rd
  rw [← List.range_eq_range', hlen] at c
  have hrem : rem ops.size (Array.replicate ops.size false) = List.range (ops.size - 1) ++ [ops.size - 1] := by
    have : rem ops.size (Array.replicate ops.size false) = List.range ops.size := by
      unfold rem
      rw [List.filter_eq_self]
      intro i hi
      simp at hi
      simp [Array.getD_eq_getD_getElem?, hi]
    rw [this, ← List.range_succ]
    congr 1; omega
  obtain ⟨L, hL, hV⟩ := lin_ok (opsA := ops) rfl C ops.size (w.tape w.drawn (.order b.fn id)) (Array.replicate ops.size false) [] (by simp) (by unfold rem; exact Nat.le_trans (List.length_filter_le _ _) (by simp)) (fun j o e ho hj _ _ => by
    have hj2 : j < ops.size := by have := (List.getElem?_eq_some_iff.1 ho).1; simpa using this
    simp [Array.getD_eq_getD_getElem?, hj2] at hj)
  rw [hrem] at hV
  have htp : ∀ x, x < ops.size - 1 → TP ops.toList x (ops.size - 1) := fun x hx => by
    simp only [lastB, List.all_eq_true, List.mem_range] at hlast
    have := hlast x (by simpa using hx)
    exact masks_ok ops.toList ops.toList [] (by simp) (fun j x hx => by simp at hx) _ x (by simpa using this)
  obtain ⟨L', rfl, hV'⟩ := Valid.last htp L _ (fun x hx => by simpa using hx) hV
  have cL := Ch.valid C.okc L' _ hV' c
  have rI := runI_of_ch C.okc L' cL
  have hsch : Region.schedule (P.follows .mixedOrders) ops (w.tape w.drawn (.order b.fn id)) = L' ++ [ops.size - 1] := by
    simp only [Region.schedule, hm, Bool.true_or, if_true, Region.linearise]
    simpa using hL
  obtain ⟨ρ3, hp3, g', w', T', ⟨e1, e2⟩, E', H', t', l', s⟩ := runI_ok2 (b := b) (k := k) (cs := cs) (Ds := Ds) (rest := [ops.size - 1]) K L' h1 h3.drew rI
  have E1 := E'.congr e1
  have H1 := H'.congr e2
  have t1 : Tr g h w g' hp1 w' := ((Tr.drew g h w).trans t').congr (fun _ => rfl) e2
  obtain ⟨g2, E3, H3, t2, k2⟩ := wk g' w' N T' E1 H1
  obtain ⟨ρ4, hp4, g4, w4, T4, q4, E4, H4, t4, l4, s4⟩ := step_ok (b := b) (k := k) (cs := cs) (Ds := Ds) (rest := []) K hol E3 H3 q
  refine ⟨.normal, ρ4, D, hp4, g4, w4, T4, Ds, q4, E4, ?_, H4, (t1.trans t2).trans t4, ?_, ?_⟩
  · exact h2.keep fun i hi v x hm => l4.m _ _ _ rfl (k2 i v x (by simp [orD, hi]) (l'.m _ _ _ rfl hm))
  · exact fun i v x hp hm => l4.m _ _ _ rfl (k2 i v x (by simp [orD, hp]) (l'.m _ _ _ rfl hm))
  · refine (Steps.one ?_).trans ((s.trans s4).trans (.one st_regionEnd))
    rw [st_draw, hsch]
end
end Go.Vm
