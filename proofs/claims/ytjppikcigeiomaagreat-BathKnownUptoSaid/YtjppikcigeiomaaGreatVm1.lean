import Derived.WalkKit
set_option linter.unusedVariables false
set_option linter.unusedSimpArgs false
namespace Go.Vm

/-- Abstract values. -/
inductive V where
  | any
  | und
  | int (k : IntKind) (n : Int)
  | bool (b : Bool)
  | nilp
  | rop (cs : List V)
  | ptr (i ver off : Nat)
  | sl0
  | ro (n : Nat) (cs : List V)
  | own (i ver off s n : Nat)
  | fn (f : FuncId) (first cap : List V)
  | nilfn
  | yl (i : Nat)
  | mp (i : Nat)
  | agg (cs : List V)
  | tup (cs : List V)
  deriving Inhabited

inductive Own where
  | virt
  | blk (B cap : Nat)

structure Gh where
  m : Nat → Nat → Option Own
  ro : Nat → Nat → Option Value

mutual
def VR (g : Gh) : V → Value → Prop
  | .any, _ => True
  | .und, v => v = undef
  | .int k n, v => v = .int k n
  | .bool b, v => v = .bool b
  | .nilp, v => v = .pointer none
  | .rop cs, v => ∃ B o, v = .pointer (some ⟨B, o, none⟩) ∧ VRC g B o cs
  | .ptr i ver off, v => ∃ B c, v = .pointer (some ⟨B, off, none⟩) ∧ g.m i ver = some (.blk B c)
  | .sl0, v => ∃ a, v = .slice a 0 0
  | .ro n cs, v => ∃ a cap, v = .slice a n cap ∧ n ≤ cap ∧ ((n = 0 ∧ cs = []) ∨ ∃ B o, a = some ⟨B, o, none⟩ ∧ VRC g B o cs)
  | .own i ver off s n, v => ∃ a cap, v = .slice a n cap ∧ n ≤ cap ∧ ∃ x, g.m i ver = some x ∧
      match x with
      | .virt => n = 0 ∧ cap = 0
      | .blk B c => a = some ⟨B, off, none⟩ ∧ off + cap * s ≤ c
  | .fn f first cap, v => ∃ fs cs, v = .func (.func f) fs cs ∧ VRL g first fs.toList ∧ VRL g cap cs.toList
  | .nilfn, v => v = .nilFunc
  | .yl i, v => ∃ L c, v = .func (.yield L) #[] #[] ∧ g.m i 0 = some (.blk L c)
  | .mp i, v => ∃ r c, v = .map (some r) ∧ g.m i 0 = some (.blk r c)
  | .agg cs, v => ∃ vs, v = .agg vs ∧ VRL g cs vs.toList
  | .tup cs, v => ∃ vs, v = .tuple vs ∧ VRL g cs vs.toList
def VRL (g : Gh) : List V → List Value → Prop
  | [], vs => vs = []
  | c :: cs, vs => ∃ v vs', vs = v :: vs' ∧ VR g c v ∧ VRL g cs vs'
def VRC (g : Gh) : Nat → Nat → List V → Prop
  | _, _, [] => True
  | B, o, c :: cs => (∃ v, g.ro B o = some v ∧ VR g c v) ∧ VRC g B (o + 1) cs
end

mutual
def V.into (p : Nat → Bool) : V → Bool
  | .rop cs => intoL p cs
  | .ptr i _ _ => p i
  | .ro _ cs => intoL p cs
  | .own i _ _ _ _ => p i
  | .fn _ a b => intoL p a && intoL p b
  | .yl i => p i
  | .mp i => p i
  | .agg cs => intoL p cs
  | .tup cs => intoL p cs
  | _ => true
def intoL (p : Nat → Bool) : List V → Bool
  | [] => true
  | c :: cs => c.into p && intoL p cs
end

structure Gh.sub (p : Nat → Bool) (g g' : Gh) : Prop where
  m : ∀ i v x, p i = true → g.m i v = some x → g'.m i v = some x
  ro : ∀ B o v, g.ro B o = some v → g'.ro B o = some v

mutual
theorem VR.sub {p : Nat → Bool} {g g' : Gh} (h : g.sub p g') : ∀ (c : V) (v : Value), c.into p = true → VR g c v → VR g' c v
  | .any, _, _, _ => by simp only [VR]
  | .und, _, _, hv => by simpa only [VR] using hv
  | .int .., _, _, hv => by simpa only [VR] using hv
  | .bool .., _, _, hv => by simpa only [VR] using hv
  | .nilp, _, _, hv => by simpa only [VR] using hv
  | .sl0, _, _, hv => by simpa only [VR] using hv
  | .nilfn, _, _, hv => by simpa only [VR] using hv
  | .rop cs, v, hp, hv => by
      simp only [VR, V.into] at hv hp ⊢
      obtain ⟨B, o, e, hc⟩ := hv
      exact ⟨B, o, e, VRC.sub h B o cs hp hc⟩
  | .ptr i ver off, v, hp, hv => by
      simp only [VR, V.into] at hv hp ⊢
      obtain ⟨B, c, e, hc⟩ := hv
      exact ⟨B, c, e, h.m _ _ _ hp hc⟩
  | .ro n cs, v, hp, hv => by
      simp only [VR, V.into] at hv hp ⊢
      obtain ⟨a, cap, e, hn, hc⟩ := hv
      refine ⟨a, cap, e, hn, ?_⟩
      rcases hc with hc | ⟨B, o, ea, hc⟩
      · exact .inl hc
      · exact .inr ⟨B, o, ea, VRC.sub h B o cs hp hc⟩
  | .own i ver off s n, v, hp, hv => by
      simp only [VR, V.into] at hv hp ⊢
      obtain ⟨a, cap, e, hn, x, hx, hc⟩ := hv
      exact ⟨a, cap, e, hn, x, h.m _ _ _ hp hx, hc⟩
  | .fn f a b, v, hp, hv => by
      simp only [VR, V.into, Bool.and_eq_true] at hv hp ⊢
      obtain ⟨fs, cs, e, h1, h2⟩ := hv
      exact ⟨fs, cs, e, VRL.sub h a _ hp.1 h1, VRL.sub h b _ hp.2 h2⟩
  | .yl i, v, hp, hv => by
      simp only [VR, V.into] at hv hp ⊢
      obtain ⟨B, c, e, hc⟩ := hv
      exact ⟨B, c, e, h.m _ _ _ hp hc⟩
  | .mp i, v, hp, hv => by
      simp only [VR, V.into] at hv hp ⊢
      obtain ⟨B, c, e, hc⟩ := hv
      exact ⟨B, c, e, h.m _ _ _ hp hc⟩
  | .agg cs, v, hp, hv => by
      simp only [VR, V.into] at hv hp ⊢
      obtain ⟨vs, e, h1⟩ := hv
      exact ⟨vs, e, VRL.sub h cs _ hp h1⟩
  | .tup cs, v, hp, hv => by
      simp only [VR, V.into] at hv hp ⊢
      obtain ⟨vs, e, h1⟩ := hv
      exact ⟨vs, e, VRL.sub h cs _ hp h1⟩
theorem VRL.sub {p : Nat → Bool} {g g' : Gh} (h : g.sub p g') : ∀ (cs : List V) (vs : List Value), intoL p cs = true → VRL g cs vs → VRL g' cs vs
  | [], _, _, hv => by simpa only [VRL] using hv
  | c :: cs, vs, hp, hv => by
      simp only [VRL, intoL, Bool.and_eq_true] at hv hp ⊢
      obtain ⟨v, vs', e, h1, h2⟩ := hv
      exact ⟨v, vs', e, VR.sub h c v hp.1 h1, VRL.sub h cs vs' hp.2 h2⟩
theorem VRC.sub {p : Nat → Bool} {g g' : Gh} (h : g.sub p g') : ∀ (B o : Nat) (cs : List V), intoL p cs = true → VRC g B o cs → VRC g' B o cs
  | _, _, [], _, _ => by simp only [VRC]
  | B, o, c :: cs, hp, hv => by
      simp only [VRC, intoL, Bool.and_eq_true] at hv hp ⊢
      obtain ⟨⟨v, e, h1⟩, h2⟩ := hv
      exact ⟨⟨v, h.ro _ _ _ e, VR.sub h c v hp.1 h1⟩, VRC.sub h B (o + 1) cs hp.2 h2⟩
end

mutual
theorem V.into_true : ∀ c : V, c.into (fun _ => true) = true
  | .any | .und | .int .. | .bool .. | .nilp | .sl0 | .nilfn | .ptr .. | .own .. | .yl .. | .mp .. => by simp only [V.into]
  | .rop cs | .ro _ cs | .agg cs | .tup cs => by simp only [V.into]; exact intoL_true cs
  | .fn _ a b => by simp only [V.into, Bool.and_eq_true]; exact ⟨intoL_true a, intoL_true b⟩
theorem intoL_true : ∀ cs : List V, intoL (fun _ => true) cs = true
  | [] => by simp only [intoL]
  | c :: cs => by simp only [intoL, Bool.and_eq_true]; exact ⟨V.into_true c, intoL_true cs⟩
end

/-- 'g'' knows all that 'g' knows. -/
abbrev Gh.le (g g' : Gh) : Prop := g.sub (fun _ => true) g'
theorem Gh.le.refl (g : Gh) : g.le g := ⟨fun _ _ _ _ h => h, fun _ _ _ h => h⟩
theorem Gh.le.trans {a b c : Gh} (h : a.le b) (k : b.le c) : a.le c := ⟨fun i v x p e => k.m i v x p (h.m i v x p e), fun B o v e => k.ro _ _ _ (h.ro _ _ _ e)⟩
theorem VR.le {g g' : Gh} (h : g.le g') {c : V} {v : Value} (hv : VR g c v) : VR g' c v := VR.sub h c v (V.into_true c) hv
theorem VRL.le {g g' : Gh} (h : g.le g') {cs : List V} {vs : List Value} (hv : VRL g cs vs) : VRL g' cs vs := VRL.sub h cs vs (intoL_true cs) hv
theorem VRC.le {g g' : Gh} (h : g.le g') {B o : Nat} {cs : List V} (hv : VRC g B o cs) : VRC g' B o cs := VRC.sub h B o cs (intoL_true cs) hv

theorem VRL.length {g : Gh} : ∀ {cs : List V} {vs : List Value}, VRL g cs vs → vs.length = cs.length
  | [], vs, h => by simp only [VRL] at h; simp [h]
  | c :: cs, vs, h => by
    simp only [VRL] at h
    obtain ⟨v, vs', rfl, _, h2⟩ := h
    simp [VRL.length h2]
theorem VRL.nil {g : Gh} : VRL g [] [] := by simp only [VRL]
theorem VRL.cons {g : Gh} {c : V} {v : Value} {cs : List V} {vs : List Value} (h : VR g c v) (k : VRL g cs vs) : VRL g (c :: cs) (v :: vs) := by
  simp only [VRL]; exact ⟨v, vs, rfl, h, k⟩
theorem VRL.get {g : Gh} : ∀ {cs : List V} {vs : List Value}, VRL g cs vs → ∀ {j : Nat} {c : V}, cs[j]? = some c → ∃ v, vs[j]? = some v ∧ VR g c v
  | [], _, _, j, c, e => by simp at e
  | d :: cs, vs, h, 0, c, e => by
    simp only [VRL] at h
    obtain ⟨v, vs', rfl, h1, _⟩ := h
    simp at e; subst e
    exact ⟨v, by simp, h1⟩
  | d :: cs, vs, h, j + 1, c, e => by
    simp only [VRL] at h
    obtain ⟨v, vs', rfl, _, h2⟩ := h
    simp at e
    simpa using VRL.get h2 e
theorem VRL.of_get {g : Gh} : ∀ {cs : List V} {vs : List Value}, vs.length = cs.length → (∀ (j : Nat) (c : V) (v : Value), cs[j]? = some c → vs[j]? = some v → VR g c v) → VRL g cs vs
  | [], vs, hl, _ => by simp only [VRL]; exact List.eq_nil_of_length_eq_zero hl
  | c :: cs, [], hl, _ => by simp at hl
  | c :: cs, v :: vs, hl, h => VRL.cons (h 0 c v (by simp) (by simp)) (VRL.of_get (by simpa using hl) fun j c' v' e1 e2 => h (j + 1) c' v' (by simpa using e1) (by simpa using e2))
theorem VRL.append {g : Gh} : ∀ {cs ds : List V} {vs us : List Value}, VRL g cs vs → VRL g ds us → VRL g (cs ++ ds) (vs ++ us)
  | [], ds, vs, us, h, k => by simp only [VRL] at h; subst h; simpa using k
  | c :: cs, ds, vs, us, h, k => by
    simp only [VRL] at h
    obtain ⟨v, vs', rfl, h1, h2⟩ := h
    exact VRL.cons h1 (VRL.append h2 k)
theorem VRL.take {g : Gh} : ∀ {cs : List V} {vs : List Value} (n : Nat), VRL g cs vs → VRL g (cs.take n) (vs.take n)
  | _, _, 0, _ => by simp [VRL]
  | [], vs, n + 1, h => by simp only [VRL] at h; subst h; simp [VRL]
  | c :: cs, vs, n + 1, h => by
    simp only [VRL] at h
    obtain ⟨v, vs', rfl, h1, h2⟩ := h
    simpa using VRL.cons h1 (VRL.take n h2)
theorem VRL.drop {g : Gh} : ∀ {cs : List V} {vs : List Value} (n : Nat), VRL g cs vs → VRL g (cs.drop n) (vs.drop n)
  | _, _, 0, h => by simpa using h
  | [], vs, n + 1, h => by simp only [VRL] at h; subst h; simp [VRL]
  | c :: cs, vs, n + 1, h => by
    simp only [VRL] at h
    obtain ⟨v, vs', rfl, _, h2⟩ := h
    simpa using VRL.drop n h2
theorem VRC.drop {g : Gh} {B : Nat} : ∀ {o : Nat} {cs : List V} (n : Nat), VRC g B o cs → VRC g B (o + n) (cs.drop n)
  | o, cs, 0, h => by simpa using h
  | o, [], n + 1, _ => by simp [VRC]
  | o, c :: cs, n + 1, h => by
    simp only [VRC] at h
    have := VRC.drop n h.2
    rw [show o + 1 + n = o + (n + 1) by omega] at this
    simpa using this
theorem VRC.take {g : Gh} {B : Nat} : ∀ {o : Nat} {cs : List V} (n : Nat), VRC g B o cs → VRC g B o (cs.take n)
  | o, cs, 0, _ => by simp [VRC]
  | o, [], n + 1, _ => by simp [VRC]
  | o, c :: cs, n + 1, h => by
    simp only [VRC, List.take_succ_cons] at h ⊢
    exact ⟨h.1, VRC.take n h.2⟩
theorem VRC.get {g : Gh} {B : Nat} : ∀ {o : Nat} {cs : List V}, VRC g B o cs → ∀ {j : Nat} {c : V}, cs[j]? = some c → ∃ v, g.ro B (o + j) = some v ∧ VR g c v
  | o, [], _, j, c, e => by simp at e
  | o, d :: cs, h, 0, c, e => by
    simp only [VRC] at h
    simp at e; subst e
    simpa using h.1
  | o, d :: cs, h, j + 1, c, e => by
    simp only [VRC] at h
    simp at e
    have := VRC.get h.2 e
    rwa [show o + 1 + j = o + (j + 1) by omega] at this
theorem VRC.of_get {g : Gh} {B : Nat} : ∀ {o : Nat} {cs : List V}, (∀ (j : Nat) (c : V), cs[j]? = some c → ∃ v, g.ro B (o + j) = some v ∧ VR g c v) → VRC g B o cs
  | o, [], _ => by simp [VRC]
  | o, c :: cs, h => by
    simp only [VRC]
    refine ⟨by simpa using h 0 c (by simp), VRC.of_get fun j c' e => ?_⟩
    have := h (j + 1) c' (by simpa using e)
    rwa [show o + (j + 1) = o + 1 + j by omega] at this

/-! ### the heap of own blocks -/
abbrev Env := List (Nat × V)
inductive Blk where
  | row (cs : List V)
  | map (es : List (V × V))
  | loop (st : LoopState) (pend : Option Code) (fn : FuncId) (N : Nat) (ρ : Env) (params : List Tmp) (assign body : Code) (dfr : Nat)
  | dfr (fresh : Bool)
  deriving Inhabited
structure Ent where
  ver : Nat
  blk : Blk
  deriving Inhabited
abbrev Heap := List (Nat × Ent)
def Heap.get : Heap → Nat → Option Ent
  | [], _ => none
  | (j, e) :: h, i => if i = j then some e else Heap.get h i
def Heap.set : Heap → Nat → Ent → Heap
  | [], i, e => [(i, e)]
  | (j, d) :: h, i, e => if i = j then (j, e) :: h else (j, d) :: Heap.set h i e
def Heap.del : Heap → Nat → Heap
  | [], _ => []
  | (j, d) :: h, i => if i = j then Heap.del h i else (j, d) :: Heap.del h i
def Env.get : Env → Nat → Option V
  | [], _ => none
  | (j, e) :: h, i => if i = j then some e else Env.get h i
theorem Heap.get_set (h : Heap) (i j : Nat) (e : Ent) : (h.set i e).get j = if j = i then some e else h.get j := by
  induction h with
  | nil => simp [Heap.set, Heap.get]
  | cons x h ih =>
    obtain ⟨k, d⟩ := x
    by_cases h1 : i = k
    · subst h1
      simp only [Heap.set, if_true, Heap.get]
      by_cases h2 : j = i <;> simp [h2]
    · simp only [Heap.set, if_neg h1, Heap.get, ih]
      by_cases h2 : j = k
      · subst h2; rw [if_pos rfl, if_neg (fun e => h1 e.symm), if_pos rfl]
      · rw [if_neg h2, if_neg h2]
theorem Heap.get_del (h : Heap) (i j : Nat) : (h.del i).get j = if j = i then none else h.get j := by
  induction h with
  | nil => simp [Heap.del, Heap.get]
  | cons x h ih =>
    obtain ⟨k, d⟩ := x
    by_cases h1 : i = k
    · subst h1
      simp only [Heap.del, if_true, Heap.get, ih]
      by_cases h2 : j = i <;> simp [h2]
    · simp only [Heap.del, if_neg h1, Heap.get, ih]
      by_cases h2 : j = k
      · subst h2; rw [if_pos rfl, if_neg (fun e => h1 e.symm), if_pos rfl]
      · rw [if_neg h2, if_neg h2]

structure ER (g : Gh) (N : Nat) (ρ : Env) (T : Array Value) : Prop where
  size : T.size = N
  look : ∀ s c, ρ.get s = some c → VR g c (T.getD s undef)

def MR (g : Gh) : List (V × V) → List MapEntry → Prop
  | [], es => es = []
  | (k, c) :: ps, es => ∃ e es', es = e :: es' ∧ VR g k e.key ∧ VR g c e.val ∧ MR g ps es'

/-- A block of one's own in memory. -/
def BR (g : Gh) (w : World) (x : Own) : Blk → Prop
  | .row cs => match x with
    | .virt => cs = []
    | .blk B cap => ∃ c elem, w.heap[B]? = some (.cells c elem (0, 0)) ∧ c.size = cap ∧ ∃ pre post, c.toList = pre ++ post ∧ VRL g cs pre
  | .map es => match x with
    | .virt => False
    | .blk B _ => ∃ en clock, w.heap[B]? = some (.map en clock) ∧ MR g es en.toList
  | .loop st pend fn N ρ params assign body dfr => match x with
    | .virt => False
    | .blk B _ => ∃ T d dc, w.heap[B]? = some (.loop { state := st, pending := pend, fn := fn, tmps := T, params := params.toArray, assign := assign, body := body, defers := d })
        ∧ ER g N ρ T ∧ g.m dfr 0 = some (.blk d dc)
  | .dfr fresh => match x with
    | .virt => False
    | .blk B _ => w.heap[B]? = some (.deferred (if fresh then some [] else none))

structure HRel (g : Gh) (h : Heap) (w : World) : Prop where
  ro : ∀ B o v, g.ro B o = some v → w.cell? ⟨B, o, none⟩ = some v
  own : ∀ i e, h.get i = some e → ∃ x, g.m i e.ver = some x ∧ BR g w x e.blk
  inj : ∀ i j e e' B c c', h.get i = some e → h.get j = some e' → g.m i e.ver = some (.blk B c) → g.m j e'.ver = some (.blk B c') → i = j
  apart : ∀ i e B c o, h.get i = some e → g.m i e.ver = some (.blk B c) → g.ro B o = none
  dom : ∀ i v, g.m i v ≠ none → ∃ e, h.get i = some e ∧ v ≤ e.ver

/-- Block B is one of the own blocks. -/
def OwnB (g : Gh) (h : Heap) (B : Nat) : Prop := ∃ i e c, h.get i = some e ∧ g.m i e.ver = some (.blk B c)

/-- What a step may do to the world: only own blocks and new ones turn. -/
structure Tr (g : Gh) (h : Heap) (w : World) (g' : Gh) (h' : Heap) (w' : World) : Prop where
  os : w'.os = w.os
  tape : w'.tape = w.tape
  output : w'.output = w.output
  size : w.heap.size ≤ w'.heap.size
  mods : ∀ B, B < w.heap.size → ¬ OwnB g h B → w'.heap[B]? = w.heap[B]?
  own' : ∀ B, OwnB g' h' B → B < w.heap.size → OwnB g h B
  romono : ∀ B o v, g.ro B o = some v → g'.ro B o = some v
  ronew : ∀ B o, g'.ro B o ≠ none → g.ro B o ≠ none ∨ w.heap.size ≤ B ∨ OwnB g h B

theorem Tr.refl (g : Gh) (h : Heap) (w : World) : Tr g h w g h w :=
  ⟨rfl, rfl, rfl, Nat.le_refl _, fun _ _ _ => rfl, fun _ h _ => h, fun _ _ _ h => h, fun _ _ h => .inl h⟩
theorem Tr.trans {g h w g1 h1 w1 g2 h2 w2} (a : Tr g h w g1 h1 w1) (b : Tr g1 h1 w1 g2 h2 w2) : Tr g h w g2 h2 w2 where
  os := b.os.trans a.os
  tape := b.tape.trans a.tape
  output := b.output.trans a.output
  size := Nat.le_trans a.size b.size
  mods B hB hn := by
    rw [b.mods B (Nat.lt_of_lt_of_le hB a.size) (fun ho => hn (a.own' B ho hB)), a.mods B hB hn]
  own' B ho hB := a.own' B (b.own' B ho (Nat.lt_of_lt_of_le hB a.size)) hB
  romono B o v e := b.romono _ _ _ (a.romono _ _ _ e)
  ronew B o e := by
    rcases b.ronew B o e with e | e | e
    · exact a.ronew B o e
    · exact .inr (.inl (Nat.le_trans a.size e))
    · by_cases hB : B < w.heap.size
      · exact .inr (.inr (a.own' B e hB))
      · exact .inr (.inl (by omega))
end Go.Vm
