import Derived.Test.YtjppikcigeiomaaGreatVm26
set_option linter.unusedVariables false
set_option linter.unusedSimpArgs false
namespace Go.Vm

section
variable {P : Program} {tt : Tab} {fz : Nat → Bool} {cl : Cl0} {b : Frame} {N : Nat} {p : Nat → Bool} {Q : Post} {k : List Itm} {ρ : Env} {D : List Nat} {h : Heap}
/-- A region whose last operation compares a slice with nil. -/
theorem Ex.regionNil (K : TabOk P tt) (fz : Nat → Bool) {id : Nat} {ops : Array Oper} {o : Oper} (ho : ops.toList.getLast? = some o) {Q : Xit → Env → List Nat → Heap → Prop}
    (r : RunL P tt fz N ops.toList ops.toList.dropLast ρ h fun ρ1 h1 => OrcK tt N ops.toList o ρ1 fun ρ' => Q .normal ρ' D h1) : Ex P b N p ρ D h (.region id ops false) Q := by
  intro g w T Ds k cs E1 d1 H1
  have hpos : 0 < ops.size := by
    rcases Nat.eq_zero_or_pos ops.size with e | e
    · have : ops.toList = [] := by simpa using e
      rw [this] at ho; cases ho
    · exact e
  have hol : ops[ops.size - 1]? = some o := by
    rw [List.getLast?_eq_getElem?] at ho
    simpa using ho
  have r1 := runI_of_runL' (ops := ops.toList) ops.toList.dropLast 0 ρ h (fun j o e => by
    rw [Nat.zero_add]
    rw [List.getElem?_dropLast] at e
    split at e
    · exact e
    · cases e) r
  have hsplit : List.range ops.size = List.range' 0 ops.toList.dropLast.length ++ [ops.size - 1] := by
    rw [← List.range_eq_range', List.length_dropLast, Array.length_toList, ← List.range_succ]
    congr 1; omega
  obtain ⟨ρ1, h1, g1, w1, T1, ⟨hd, hg, op, t, x, y, u, hop, hy, ⟨n, hn⟩, hq⟩, E2, H2, t1, l1, s1⟩ := runI_ok2 (b := b) (k := k) (cs := cs) (Ds := Ds) (rest := [ops.size - 1]) K _ E1 H1 r1
  have hw := wanted_ok E2 hg
  obtain ⟨dst, op', ty, pos, after, gd⟩ := o
  simp only at hop
  subst hop
  obtain ⟨q, hpost⟩ := op_nil (P := P) (tt := tt) (dst := dst) (ty := ty) (pos := pos) (after := after) (gd := gd) (op := op) (t := t) (u := u) H2 E2 K hy hn
  obtain ⟨v, hv, hQ⟩ := hq q
  obtain ⟨nx, vc, g', w', p1, p2, p3, p4, p5, p6⟩ := hpost (some q) v (.inl rfl) hv
  refine ⟨.normal, _, D, h1, g', w', putT T1 dst vc, Ds, hQ, (E2.le p4).putD hd p3, d1.keep fun i _ v x hm => p4.m _ _ _ rfl (l1.m _ _ _ rfl hm), p5, t1.trans p6, Kp.of_le (l1.trans p4), ?_⟩
  refine (Steps.one ?_).trans (s1.trans ((Steps.one (st_op hol hw (fun c => by simp) p1 p2)).trans (.one st_regionEnd)))
  rw [st_region, hsplit]

theorem Wr.nil (K : TabOk P tt) {id : Nat} {ops : Array Oper} (o : Oper) (ho : ops.toList.getLast? = some o) (r : RL P tt fz cl b N p Q ops.toList ops.toList.dropLast (.orc ops.toList o :: k) ρ D h) : Wr P tt fz cl b N p Q .ex id ops false k ρ D h := Ex.regionNil K fz ho r
theorem Wr.at (K : TabOk P tt) (n : Nat) {id : Nat} {ops : Array Oper} (r : RL P tt fz cl b N p Q ops.toList (ops.toList.take n) (.wk ops.toList (ops.toList.drop n) :: k) ρ D h) : Wr P tt fz cl b N p Q .ex id ops false k ρ D h := Ex.regionAt K fz n r
theorem Wr.last (K : TabOk P tt) (hm : P.follows .mixedOrders = true) (tag : Nat → Nat) (cls : List Cls) {id : Nat} {ops : Array Oper} (o : Oper) (hchk : chkB ops.toList cls = true) (hlast : lastB ops.toList = true) (ho : ops.toList.getLast? = some o)
    (r : RD P tt fz cl b N p Q tag ops.toList ((ops.toList.dropLast.zipIdx).map fun x => (x.1, clsAt cls x.2)) (.wk ops.toList [o] :: k) ρ D h) : Wr P tt fz cl b N p Q .ex id ops true k ρ D h := Ex.drawLast K hm fz tag cls hchk hlast ho r
/-- What is known, said anew, ahead of whatever. -/
theorem Wa.mk {all rest : List Oper} {ρ2 : Env} {h2 : Heap} (wk : Wk (orD p D) ρ h ρ2 h2) (r : RL P tt fz cl b N p Q all rest k ρ2 D h2) : Wa P tt fz cl b N p Q all rest k ρ D h := ⟨ρ2, h2, wk, r⟩
theorem Wo.mk {all : List Oper} {o : Oper} (r : OrcK tt N all o ρ fun ρ' => R P tt fz cl b N p Q k .normal ρ' D h) : Wo P tt fz cl b N p Q all o k ρ D h := r
/-- A loop over a function. -/
theorem W.rangeFunc (lj dj : Nat) (hl : h.get lj = none) (hd : h.get dj = none) (hne : lj ≠ dj) (hb : b.roundOf = none) {f : Operand} {ps : Array Tmp} {as bd : Code}
    (e : Ev P (ev ρ f) [.yl lj] ((h.set dj ⟨0, .dfr true⟩).set lj (lent .ready none b.fn N ρ ps.toList as bd dj)) fun _ h' => RfPost (fun x ρ D h => R P tt fz cl b N p Q k x ρ D h) lj dj b.fn N ρ D ps.toList as bd h') :
    W P tt fz cl b N p Q (.rangeFunc f ps as bd) k ρ D h := Ex.rangeFunc lj dj hl hd hne hb e
/-- A call of yield, for simp. -/
theorem Ev.roundW (K : TabOk P tt) (hm : P.follows .mixedOrders = true) (fz : Nat → Bool) (cl : Cl0) {i : Nat} {pd : Option Code} {fn : FuncId} {ps : List Tmp} {as bd : Code} {dj : Nat} (hi : h.get i = some (lent .ready pd fn N ρ ps as bd dj)) {args : List V} (hl : ps.length = args.length) (hN : lts N ps = true) {S : V → Heap → Prop}
    (e : ∀ L, W P tt fz cl (rbase fn L) N (domP h) (fun x ρ1 D1 h1 => ∃ pd, x = .normal ∧ D1 = [] ∧ h1.get i = some (lent .ready pd fn N ρ ps as bd dj) ∧ W P tt fz cl (rbase fn L) N (domP h) (RPost i fn N ρ ps as bd dj S) bd [] ρ1 [] (h1.set i (lent .busy pd fn N ρ ps as bd dj))) as [] (putL ρ ps args) [] h) : Ev P (.yl i) args h S := by
  refine Ev.round hi hl hN fun L => (Ks.ok K hm (e L)).mono fun x ρ1 D1 h1 q => ?_
  obtain ⟨pd, rfl, rfl, h2, q⟩ := q
  exact ⟨rfl, pd, h2, Ks.ok K hm q⟩
end

/-! ### more ways to say what is known -/
mutual
/-- An id is called otherwise. -/
def V.ren (s : Nat → Nat) : V → V
  | .rop cs => .rop (renL s cs)
  | .ptr i v o => .ptr (s i) v o
  | .ro n cs => .ro n (renL s cs)
  | .own i v o z n => .own (s i) v o z n
  | .fn f a c => .fn f (renL s a) (renL s c)
  | .yl i => .yl (s i)
  | .mp i => .mp (s i)
  | .agg cs => .agg (renL s cs)
  | .tup cs => .tup (renL s cs)
  | .any => .any
  | .und => .und
  | .int k n => .int k n
  | .bool x => .bool x
  | .nilp => .nilp
  | .sl0 => .sl0
  | .nilfn => .nilfn
def renL (s : Nat → Nat) : List V → List V
  | [] => []
  | c :: cs => c.ren s :: renL s cs
end
def renE (s : Nat → Nat) : Env → Env
  | [] => []
  | (t, c) :: r => (t, c.ren s) :: renE s r
def renPs (s : Nat → Nat) : List (V × V) → List (V × V)
  | [] => []
  | (a, c) :: r => (a.ren s, c.ren s) :: renPs s r
def Blk.ren (s : Nat → Nat) : Blk → Blk
  | .row cs => .row (renL s cs)
  | .map es => .map (renPs s es)
  | .loop st pd fn N ρ ps as bd d => .loop st pd fn N (renE s ρ) ps as bd (s d)
  | .dfr f => .dfr f
def renH (s : Nat → Nat) : Heap → Heap
  | [] => []
  | (i, e) :: r => (s i, ⟨e.ver, e.blk.ren s⟩) :: renH s r
def sw (i j k : Nat) : Nat := if k = i then j else if k = j then i else k
theorem sw_sw (i j k : Nat) : sw i j (sw i j k) = k := by
  unfold sw
  repeat' split
  all_goals omega
structure Rnm (g g' : Gh) (s : Nat → Nat) : Prop where
  m : ∀ k v x, g.m k v = some x → g'.m (s k) v = some x
  ro : ∀ B o v, g.ro B o = some v → g'.ro B o = some v
mutual
theorem VR.ren {g g' : Gh} {s : Nat → Nat} (F : Rnm g g' s) : ∀ (c : V) (v : Value), VR g c v → VR g' (c.ren s) v
  | .any, _, _ => by simp only [V.ren, VR]
  | .und, _, h => by simpa only [V.ren, VR] using h
  | .int .., _, h => by simpa only [V.ren, VR] using h
  | .bool .., _, h => by simpa only [V.ren, VR] using h
  | .nilp, _, h => by simpa only [V.ren, VR] using h
  | .sl0, _, h => by simpa only [V.ren, VR] using h
  | .nilfn, _, h => by simpa only [V.ren, VR] using h
  | .rop l, v, h => by
      simp only [V.ren, VR] at h ⊢
      obtain ⟨B, o, e, hc⟩ := h
      exact ⟨B, o, e, VRC.ren F B o l hc⟩
  | .ptr j w off, v, h => by
      simp only [V.ren, VR] at h ⊢
      obtain ⟨B, c, e, hc⟩ := h
      exact ⟨B, c, e, F.m _ _ _ hc⟩
  | .ro n l, v, h => by
      simp only [V.ren, VR] at h ⊢
      obtain ⟨a, cap, e, hn, hc⟩ := h
      refine ⟨a, cap, e, hn, ?_⟩
      rcases hc with ⟨h1, rfl⟩ | ⟨B, o, ea, hc⟩
      · exact .inl ⟨h1, by simp only [renL]⟩
      · exact .inr ⟨B, o, ea, VRC.ren F B o l hc⟩
  | .own j w off z n, v, h => by
      simp only [V.ren, VR] at h ⊢
      obtain ⟨a, cap, e, hn, x, hx, hc⟩ := h
      exact ⟨a, cap, e, hn, x, F.m _ _ _ hx, hc⟩
  | .fn f a c, v, h => by
      simp only [V.ren, VR] at h ⊢
      obtain ⟨fs, cs', e, h1, h2⟩ := h
      exact ⟨fs, cs', e, VRL.ren F a _ h1, VRL.ren F c _ h2⟩
  | .yl j, v, h => by
      simp only [V.ren, VR] at h ⊢
      obtain ⟨B, c, e, hc⟩ := h
      exact ⟨B, c, e, F.m _ _ _ hc⟩
  | .mp j, v, h => by
      simp only [V.ren, VR] at h ⊢
      obtain ⟨B, c, e, hc⟩ := h
      exact ⟨B, c, e, F.m _ _ _ hc⟩
  | .agg l, v, h => by
      simp only [V.ren, VR] at h ⊢
      obtain ⟨vs, e, h1⟩ := h
      exact ⟨vs, e, VRL.ren F l _ h1⟩
  | .tup l, v, h => by
      simp only [V.ren, VR] at h ⊢
      obtain ⟨vs, e, h1⟩ := h
      exact ⟨vs, e, VRL.ren F l _ h1⟩
theorem VRL.ren {g g' : Gh} {s : Nat → Nat} (F : Rnm g g' s) : ∀ (l : List V) (vs : List Value), VRL g l vs → VRL g' (renL s l) vs
  | [], vs, h => by simpa only [renL, VRL] using h
  | c :: l, vs, h => by
    simp only [VRL] at h
    obtain ⟨v, vs', rfl, h1, h2⟩ := h
    simp only [renL]
    exact VRL.cons (VR.ren F c v h1) (VRL.ren F l vs' h2)
theorem VRC.ren {g g' : Gh} {s : Nat → Nat} (F : Rnm g g' s) : ∀ (B o : Nat) (l : List V), VRC g B o l → VRC g' B o (renL s l)
  | _, _, [], _ => by simp only [renL, VRC]
  | B, o, c :: l, h => by
    simp only [renL, VRC] at h ⊢
    obtain ⟨⟨v, e, h1⟩, h2⟩ := h
    exact ⟨⟨v, F.ro _ _ _ e, VR.ren F c v h1⟩, VRC.ren F B (o + 1) l h2⟩
end
theorem MR.ren {g g' : Gh} {s : Nat → Nat} (F : Rnm g g' s) : ∀ {ps : List (V × V)} {es : List MapEntry}, MR g ps es → MR g' (renPs s ps) es
  | [], _, h => by simpa only [MR, renPs] using h
  | (a, c) :: ps, es, h => by
    simp only [MR, renPs] at h ⊢
    obtain ⟨e, es', rfl, h1, h2, h3⟩ := h
    exact ⟨e, es', rfl, VR.ren F _ _ h1, VR.ren F _ _ h2, MR.ren F h3⟩
theorem renE_get {s : Nat → Nat} : ∀ {ρ : Env} {t : Nat}, (renE s ρ).get t = (ρ.get t).map (V.ren s)
  | [], t => rfl
  | (u, c) :: r, t => by
    simp only [renE, Env.get]
    split
    · rfl
    · exact renE_get
theorem renH_get {i j : Nat} : ∀ {h : Heap} {k : Nat}, (renH (sw i j) h).get k = (h.get (sw i j k)).map fun e => ⟨e.ver, e.blk.ren (sw i j)⟩
  | [], k => rfl
  | (u, e) :: r, k => by
    simp only [renH, Heap.get]
    by_cases hk : k = sw i j u
    · subst hk; simp [sw_sw]
    · have : ¬ sw i j k = u := fun h => hk (by rw [← h, sw_sw])
      rw [if_neg hk, if_neg this]; exact renH_get
theorem ER.ren {g g' : Gh} {s : Nat → Nat} (F : Rnm g g' s) {N : Nat} {ρ : Env} {T : Array Value} (E : ER g N ρ T) : ER g' N (renE s ρ) T := by
  refine ⟨E.size, fun t c e => ?_⟩
  rw [renE_get] at e
  simp only [Option.map_eq_some_iff] at e
  obtain ⟨d, h1, rfl⟩ := e
  exact VR.ren F _ _ (E.look t d h1)
theorem BR.ren {g g' : Gh} {s : Nat → Nat} (F : Rnm g g' s) {w : World} {x : Own} {b : Blk} (h : BR g w x b) : BR g' w x (b.ren s) := by
  cases b with
  | row l =>
    cases x with
    | virt => simp only [BR, Blk.ren] at h ⊢; subst h; simp only [renL]
    | blk B c =>
      simp only [BR, Blk.ren] at h ⊢
      obtain ⟨a, el, h1, h2, pre, post, h3, h4⟩ := h
      exact ⟨a, el, h1, h2, pre, post, h3, VRL.ren F _ _ h4⟩
  | map es =>
    cases x with
    | virt => simp only [BR] at h
    | blk B c =>
      simp only [BR, Blk.ren] at h ⊢
      obtain ⟨en, cl, h1, h2⟩ := h
      exact ⟨en, cl, h1, h2.ren F⟩
  | loop st pend fn N ρ ps as bd d =>
    cases x with
    | virt => simp only [BR] at h
    | blk B c =>
      simp only [BR, Blk.ren] at h ⊢
      obtain ⟨T, dd, dc, h1, h2, h3⟩ := h
      exact ⟨T, dd, dc, h1, h2.ren F, F.m _ _ _ h3⟩
  | dfr f =>
    cases x with
    | virt => simp only [BR] at h
    | blk B c => simpa only [BR, Blk.ren] using h

/-- An own block is called otherwise. -/
theorem Wk.ren {p : Nat → Bool} {ρ : Env} {h : Heap} (i j : Nat) (hi : p i = false) (hj : p j = false) : Wk p ρ h (renE (sw i j) ρ) (renH (sw i j) h) := by
  intro g w N T E H
  let g' : Gh := ⟨fun k v => g.m (sw i j k) v, g.ro⟩
  have F : Rnm g g' (sw i j) := ⟨fun k v x e => by simp only [g', sw_sw]; exact e, fun _ _ _ e => e⟩
  have hget : ∀ k e', (renH (sw i j) h).get k = some e' → ∃ e, h.get (sw i j k) = some e ∧ e' = ⟨e.ver, e.blk.ren (sw i j)⟩ := fun k e' he => by
    rw [renH_get, Option.map_eq_some_iff] at he
    obtain ⟨e, h1, h2⟩ := he
    exact ⟨e, h1, h2.symm⟩
  refine ⟨g', E.ren F, ⟨H.ro, fun k e' he => ?_, fun a c x y B u v h1 h2 m1 m2 => ?_, fun k e' B c o he hm => ?_, fun k v hv => ?_⟩, ⟨rfl, rfl, rfl, Nat.le_refl _, fun _ _ _ => rfl, ?_, fun _ _ _ e => e, fun _ _ e => .inl e⟩, fun k v x hp e => ?_⟩
  · obtain ⟨e, h1, rfl⟩ := hget k e' he
    obtain ⟨x, h2, h3⟩ := H.own _ e h1
    exact ⟨x, h2, h3.ren F⟩
  · obtain ⟨e1, a1, rfl⟩ := hget a x h1
    obtain ⟨e2, a2, rfl⟩ := hget c y h2
    have := H.inj _ _ e1 e2 B u v a1 a2 m1 m2
    rw [← sw_sw i j a, this, sw_sw]
  · obtain ⟨e, h1, rfl⟩ := hget k e' he
    exact H.apart _ e B c o h1 hm
  · obtain ⟨en, h1, h2⟩ := H.dom _ v hv
    exact ⟨⟨en.ver, en.blk.ren (sw i j)⟩, by rw [renH_get, h1]; rfl, h2⟩
  · rintro B ⟨k, e', c, he, hm⟩ _
    obtain ⟨e, h1, rfl⟩ := hget k e' he
    exact ⟨_, e, c, h1, hm⟩
  · have hk : sw i j k = k := by
      unfold sw
      rw [if_neg (fun e => by subst e; rw [hi] at hp; cases hp), if_neg (fun e => by subst e; rw [hj] at hp; cases hp)]
    simp only [g', hk]; exact e
end Go.Vm
