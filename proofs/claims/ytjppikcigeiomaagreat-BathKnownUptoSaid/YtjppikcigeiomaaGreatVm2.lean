import Derived.Test.YtjppikcigeiomaaGreatVm1
set_option linter.unusedVariables false
set_option linter.unusedSimpArgs false
namespace Go.Vm

/-- What the evaluator is told of a type. kind: 1 integer, 2 bool, 3 slice, 4 array, 5 struct, 6 map, 7 pointer, 8 func, 0 none of these. -/
structure Row where
  kind : Nat := 0
  agg : Bool := false
  size : Nat := 1
  bytes : Nat := 8
  zero : List V := []
  ik : IntKind := .i64
  elem : Nat := 0
  len : Nat := 0
  flds : List (Nat × Nat × Bool) := []
  ints : Bool := false
  deriving Inhabited
abbrev Tab := Nat → Row

def cv : Value → V
  | .int k n => .int k n
  | .bool b => .bool b
  | .pointer none => .nilp
  | .slice none 0 0 => .sl0
  | .nilFunc => .nilfn
  | _ => .any
def ev (ρ : Env) : Operand → V
  | .tmp t => (ρ.get t).getD .any
  | .const v => cv v
  | .func f => .fn f [] []
  | .global _ => .any
def evL (ρ : Env) : List Operand → List V
  | [] => []
  | x :: xs => ev ρ x :: evL ρ xs

/-- The cells of a value that lies in memory. -/
def V.cells? : V → Option (List V)
  | .agg cs => some cs
  | .any | .tup _ | .und => none
  | c => some [c]
def V.one : V → Bool
  | .agg _ | .any | .tup _ | .und => false
  | _ => true
def oneL : List V → Bool
  | [] => true
  | c :: cs => c.one && oneL cs

def vload (r : Row) (cs : List V) : Option V :=
  if r.agg then (if r.size ≤ cs.length then some (.agg (cs.take r.size)) else none) else cs.head?

def vbits (op : BinOp) (k : IntKind) (x y : Int) : Int :=
  match op with
  | .and => k.wrap (BitVec.ofInt k.bits x &&& BitVec.ofInt k.bits y).toNat
  | .or => k.wrap (BitVec.ofInt k.bits x ||| BitVec.ofInt k.bits y).toNat
  | .xor => k.wrap (BitVec.ofInt k.bits x ^^^ BitVec.ofInt k.bits y).toNat
  | _ => k.wrap (BitVec.ofInt k.bits x &&& ~~~(BitVec.ofInt k.bits y)).toNat

def vint (op : BinOp) (k : IntKind) (a b : Int) : Option V :=
  match op with
  | .add => some (.int k (k.wrap (a + b)))
  | .sub => some (.int k (k.wrap (a - b)))
  | .mul => some (.int k (k.wrap (a * b)))
  | .quo => if b = 0 then none else some (.int k (k.wrap (a.tdiv b)))
  | .rem => if b = 0 then none else some (.int k (a.tmod b))
  | .eql => some (.bool (a == b))
  | .neq => some (.bool (a != b))
  | .lss => some (.bool (a < b))
  | .leq => some (.bool (a ≤ b))
  | .gtr => some (.bool (a > b))
  | .geq => some (.bool (a ≥ b))
  | .shl => if b < 0 then none else some (.int k (k.wrap (a * 2 ^ (min b.toNat k.bits))))
  | .shr => if b < 0 then none else some (.int k (a.fdiv (2 ^ (min b.toNat k.bits))))
  | .and | .or | .xor | .andNot => some (.int k (vbits op k a b))

def intsOf : List V → Option (List Int)
  | [] => some []
  | .int .i64 n :: cs => match intsOf cs with
    | some l => some (n :: l)
    | none => none
  | _ => none

def isShift : BinOp → Bool
  | .shl | .shr => true
  | _ => false

/-- Is a slice's value surely not nil (some false), surely nil (some true), or not known (none)? -/
def isNilSlice : V → Option Bool
  | .ro n _ => if 0 < n then some false else none
  | _ => none

def vbin (tt : Tab) (op : BinOp) (T : Nat) (x y : V) : Option V :=
  match x, y with
  | .int k a, .int k' b => if isShift op then vint op k a b else if k = k' then vint op k a b else none
  | .bool a, .bool b => if (tt T).kind = 2 then (match op with
    | .eql => some (.bool (a == b))
    | .neq => some (.bool (a != b))
    | _ => none) else none
  | .agg xs, .agg ys => if (tt T).ints then (match intsOf xs, intsOf ys with
    | some a, some b => if (tt T).kind ≠ 0 ∧ a.length = (tt T).size ∧ b.length = (tt T).size then (match op with
      | .eql => some (.bool (a == b))
      | .neq => some (.bool (a != b))
      | _ => none) else none
    | _, _ => none) else none
  | _, _ => none

def isNilConst : Operand → Bool
  | .const (.slice none 0 0) => true
  | _ => false
/-- x == nil, x a slice. -/
def vnil (tt : Tab) (orc : Option Bool) (op : BinOp) (T : Nat) (x : V) : Option V :=
  if (tt T).kind = 3 then
    match (match isNilSlice x with
      | some b => some b
      | none => orc) with
    | some b => (match op with
      | .eql => some (.bool b)
      | .neq => some (.bool (!b))
      | _ => none)
    | none => none
  else none

def vfill (place : Nat → Option (Nat × Nat)) (cells : List V) : List (Nat × V) → Option (List V)
  | [] => some cells
  | (i, v) :: rest =>
    match place i, v.cells? with
    | some (off, size), some vs => if vs.length = size ∧ off + vs.length ≤ cells.length then vfill place (cells.take off ++ vs ++ cells.drop (off + vs.length)) rest else none
    | _, _ => none

def zeros (z : List V) : Nat → List V
  | 0 => []
  | n + 1 => z ++ zeros z n

def evP (ρ : Env) : List (Nat × Operand) → List (Nat × V)
  | [] => []
  | (i, x) :: xs => (i, ev ρ x) :: evP ρ xs

def newRow (fz : Bool) (h : Heap) (i : Nat) (cs : List V) : Option (V × Heap) :=
  if fz then some (.rop cs, h) else match h.get i with
    | none => if oneL cs then some (.ptr i 0 0, h.set i ⟨0, .row cs⟩) else none
    | some _ => none

/-- append: the elements that are put behind. -/
def srcOf (sz : Nat) (h : Heap) : V → Option (Nat × List V)
  | .sl0 => some (0, [])
  | .ro n cs => if cs.length = n * sz then some (n, cs) else none
  | .own i ver off s n => match h.get i with
    | some ⟨v', .row cs⟩ => if ver = v' ∧ s = sz ∧ off + n * sz ≤ cs.length then some (n, (cs.drop off).take (n * sz)) else none
    | _ => none
  | _ => none

def vappend (tt : Tab) (h : Heap) (d : Nat) (T : Nat) (a b : V) : Option (V × Heap) :=
  let r := tt T
  let e := tt r.elem
  if r.kind = 3 ∧ 0 < e.size ∧ 0 < e.bytes ∧ e.bytes ≤ 4096 then
    match srcOf e.size h b with
    | some (m, ys) => if oneL ys then
      match a with
      | .sl0 => match h.get d with
        | none => if m ≤ 1000000 then some (.own d 0 0 e.size m, h.set d ⟨0, .row ys⟩) else if (m + m / 4 + 1000) * e.bytes ≤ 281474976710656 then some (.own d 0 0 e.size m, h.set d ⟨0, .row ys⟩) else none
        | some _ => none
      | .own i ver 0 s n => match h.get i with
        | some ⟨v', .row cs⟩ => if ver = v' ∧ s = e.size ∧ cs.length = n * s ∧ 0 < m ∧ n + m ≤ 1000000 then some (.own i (ver + 1) 0 s (n + m), h.set i ⟨ver + 1, .row (cs ++ ys)⟩) else if m = 0 then some (.own i ver 0 s n, h) else if ver = v' ∧ s = e.size ∧ cs.length = n * s ∧ 0 < m ∧ (n + m + (n + m) / 4 + 1000) * e.bytes ≤ 281474976710656 then some (.own i (ver + 1) 0 s (n + m), h.set i ⟨ver + 1, .row (cs ++ ys)⟩) else none
        | _ => none
      | _ => none else none
    | none => none
  else none

/-- The same, said once for all lengths. -/
def vappendO (tt : Tab) (h : Heap) (d : Nat) (T : Nat) (a b : V) : Option (V × Heap) :=
  let r := tt T
  let e := tt r.elem
  if r.kind = 3 ∧ 0 < e.size ∧ 0 < e.bytes ∧ e.bytes ≤ 4096 then
    match srcOf e.size h b with
    | some (m, ys) => if oneL ys then
      match a with
      | .sl0 => match h.get d with
        | none => if m ≤ 1000000 ∨ (m + m / 4 + 1000) * e.bytes ≤ 281474976710656 then some (.own d 0 0 e.size m, h.set d ⟨0, .row ys⟩) else none
        | some _ => none
      | .own i ver 0 s n => match h.get i with
        | some ⟨v', .row cs⟩ => if ver = v' ∧ s = e.size ∧ cs.length = n * s ∧ 0 < m ∧ (n + m ≤ 1000000 ∨ (n + m + (n + m) / 4 + 1000) * e.bytes ≤ 281474976710656) then some (.own i (ver + 1) 0 s (n + m), h.set i ⟨ver + 1, .row (cs ++ ys)⟩) else if m = 0 then some (.own i ver 0 s n, h) else none
        | _ => none
      | _ => none else none
    | none => none
  else none

theorem vappend_or {tt : Tab} {h : Heap} {d T : Nat} {a b : V} {r : V × Heap} (hv : vappend tt h d T a b = some r) : vappendO tt h d T a b = some r := by
  unfold vappend at hv
  unfold vappendO
  simp only at hv ⊢
  split at hv
  case isFalse => cases hv
  rename_i h1
  rw [if_pos h1]
  split at hv
  case h_2 => cases hv
  rename_i m ys h2
  split at hv
  case isFalse => cases hv
  rename_i h3
  rw [if_pos h3]
  cases a with
  | sl0 =>
    simp only at hv ⊢
    cases hd : h.get d with
    | some e => rw [hd] at hv; cases hv
    | none =>
      rw [hd] at hv
      simp only at hv ⊢
      by_cases h4 : m ≤ 1000000
      · rw [if_pos h4] at hv; rw [if_pos (.inl h4)]; exact hv
      · rw [if_neg h4] at hv
        split at hv
        case isFalse => cases hv
        rename_i h5
        rw [if_pos (.inr h5)]; exact hv
  | own i ver off s n =>
    cases off with
    | succ off => cases hv
    | zero =>
      simp only at hv ⊢
      cases hi : h.get i with
      | none => rw [hi] at hv; cases hv
      | some e =>
        rw [hi] at hv
        obtain ⟨v', bl⟩ := e
        cases bl with
        | row cs =>
          simp only at hv ⊢
          split at hv
          · rename_i h4
            rw [if_pos ⟨h4.1, h4.2.1, h4.2.2.1, h4.2.2.2.1, .inl h4.2.2.2.2⟩]; exact hv
          · split at hv
            · rename_i h4 h5
              rw [if_neg (fun h6 => by omega), if_pos h5]; exact hv
            · split at hv
              case isFalse => cases hv
              rename_i h4 h5 h6
              rw [if_pos ⟨h6.1, h6.2.1, h6.2.2.1, h6.2.2.2.1, .inr h6.2.2.2.2⟩]; exact hv
        | _ => cases hv
  | _ => cases hv
def vlen : V → Option Int
  | .sl0 => some 0
  | .ro n _ => some n
  | .own _ _ _ _ n => some n
  | _ => none

def vcopy (tt : Tab) (h : Heap) (T : Nat) (a b : V) : Option (V × Heap) :=
  let r := tt T
  let e := tt r.elem
  if r.kind = 3 ∧ 0 < e.size then
    match srcOf e.size h b, a with
    | some (m, ys), .own i ver off s n => match h.get i with
      | some ⟨v', .row cs⟩ =>
        let k := min m n
        if oneL ys ∧ ver = v' ∧ s = e.size ∧ off + n * s ≤ cs.length then
          some (.int .i64 k, h.set i ⟨ver, .row (cs.take off ++ ys.take (k * s) ++ cs.drop (off + k * s))⟩) else none
      | _ => none
    | _, _ => none
  else none

/-! maps, whose keys are of integers alone -/
def vfind (n : Nat) (ks : List Int) : List (V × V) → Option (Option V)
  | [] => some none
  | (.agg kc, c) :: r => match intsOf kc with
    | some l => if l.length = n then (if ks = l then some (some c) else vfind n ks r) else none
    | none => none
  | _ :: _ => none
def mapOk (tt : Tab) (T : Nat) : Bool := decide ((tt T).kind = 6) && decide ((tt (tt T).len).kind ≠ 0) && (tt (tt T).len).ints
def keyOf (tt : Tab) (T : Nat) : V → Option (List Int)
  | .agg kc => match intsOf kc with
    | some ks => if ks.length = (tt (tt T).len).size then some ks else none
    | none => none
  | _ => none
def vlookup (tt : Tab) (T : Nat) (en : Option Ent) (k : V) : Option V :=
  if mapOk tt T = true ∧ (tt (tt T).elem).kind ≠ 0 ∧ (tt (tt T).elem).agg = false then
    match en, keyOf tt T k with
    | some ⟨0, .map es⟩, some ks => match vfind (tt (tt T).len).size ks es with
      | some (some c) => some (.tup [c, .bool true])
      | some none => match (tt (tt T).elem).zero with
        | [z] => some (.tup [z, .bool false])
        | _ => none
      | none => none
    | _, _ => none
  else none
def vupdate (tt : Tab) (T : Nat) (en : Option Ent) (k x : V) : Option Ent :=
  if mapOk tt T = true then
    match en, keyOf tt T k with
    | some ⟨0, .map es⟩, some ks => match vfind (tt (tt T).len).size ks es with
      | some none => some ⟨0, .map (es ++ [(k, x)])⟩
      | _ => none
    | _, _ => none
  else none

def entOf (h : Heap) : V → Option Ent
  | .ptr i _ _ => h.get i
  | _ => none
def vslice (tt : Tab) (en : Option Ent) (T : Nat) (x : V) (lo hi mx : Option V) : Option V :=
  let r := tt T
  let e := tt r.elem
  match lo, mx with
  | none, none =>
    match r.kind, x, hi with
    | 4, .ptr i ver off, none => match en with
      | some ⟨v', .row cs⟩ => if ver = v' ∧ off + r.len * e.size ≤ cs.length then some (.own i ver off e.size r.len) else none
      | _ => none
    | 4, .rop cs, none => if r.len * e.size ≤ cs.length then some (.ro r.len (cs.take (r.len * e.size))) else none
    | 4, .rop cs, some (.int _ k) => if (0 ≤ k ∧ k ≤ r.len) ∧ r.len * e.size ≤ cs.length then some (.ro k.toNat (cs.take (k.toNat * e.size))) else none
    | 3, .ro n cs, some (.int _ k) => if 0 ≤ k ∧ k ≤ n then some (.ro k.toNat (cs.take (k.toNat * e.size))) else none
    | 3, .sl0, some (.int _ k) => if k = 0 then some .sl0 else none
    | 3, .own i ver off s n, some (.int _ k) => if 0 ≤ k ∧ k ≤ n then some (.own i ver off s k.toNat) else none
    | _, _, _ => none
  | some (.int _ k), none =>
    match r.kind, x, hi with
    | 3, .ro n cs, none => if (0 ≤ k ∧ k ≤ n) ∧ cs.length = n * e.size then some (.ro (n - k.toNat) (cs.drop (k.toNat * e.size))) else none
    | _, _, _ => none
  | _, _ => none

def vop (tt : Tab) (fz : Nat → Bool) (orc : Option Bool) (ρ : Env) (h : Heap) (dst : Option Nat) : Op → Option (V × Heap)
  | .move x | .assign x => some (ev ρ x, h)
  | .pick c a b => match ev ρ c with
    | .bool t => some (if t then ev ρ a else ev ρ b, h)
    | _ => none
  | .alloc T => match dst with
    | some d => if (tt T).kind = 0 then none else newRow false h d (tt T).zero
    | none => none
  | .box T x => match dst, (ev ρ x).cells? with
    | some d, some cs => newRow (fz d) h d cs
    | _, _ => none
  | .build T parts => match (tt T).kind with
    | 5 => match vfill (fun i => ((tt T).flds[i]?).map fun f => (f.1, f.2.1)) (tt T).zero (evP ρ parts.toList) with
      | some cs => some (.agg cs, h)
      | none => none
    | 4 => match vfill (fun i => some (i * (tt (tt T).elem).size, (tt (tt T).elem).size)) (tt T).zero (evP ρ parts.toList) with
      | some cs => some (.agg cs, h)
      | none => none
    | _ => none
  | .buildSlice T len parts => match dst with
    | some d => if (tt T).kind = 3 ∧ len * (tt (tt T).elem).size ≤ 10000 then
        match vfill (fun i => some (i * (tt (tt T).elem).size, (tt (tt T).elem).size)) (zeros (tt (tt T).elem).zero len) (evP ρ parts.toList) with
        | some cs =>
          if len = 0 then some (.sl0, h)
          else if fz d then some (.ro len cs, h)
          else match h.get d with
            | none => if oneL cs ∧ cs.length = len * (tt (tt T).elem).size then some (.own d 0 0 (tt (tt T).elem).size len, h.set d ⟨0, .row cs⟩) else none
            | some _ => none
        | none => none
      else none
    | none => none
  | .load T a => if (tt T).kind = 0 then none else match ev ρ a with
    | .rop cs => (vload (tt T) cs).map fun v => (v, h)
    | .ptr i ver off => match h.get i with
      | some ⟨v', .row cs⟩ => if ver = v' then (vload (tt T) (cs.drop off)).map fun v => (v, h) else none
      | _ => none
    | _ => none
  | .store T a x => if (tt T).kind = 0 then none else match ev ρ a, (ev ρ x).cells? with
    | .ptr i ver off, some vs => match h.get i with
      | some ⟨v', .row cs⟩ => if ver = v' ∧ vs.length = (tt T).size ∧ off + vs.length ≤ cs.length ∧ oneL vs = true then
          some (.und, h.set i ⟨ver, .row (cs.take off ++ vs ++ cs.drop (off + vs.length))⟩) else none
      | _ => none
    | _, _ => none
  | .nilCheck x => match ev ρ x with
    | .ptr i v o => some (.ptr i v o, h)
    | .rop cs => some (.rop cs, h)
    | .fn f a b => some (.fn f a b, h)
    | _ => none
  | .binOp op T x y _ => if isNilConst y then (match vlen (ev ρ x) with
      | some _ => (vnil tt orc op T (ev ρ x)).map fun v => (v, h)
      | none => none)
    else (vbin tt op T (ev ρ x) (ev ρ y)).map fun v => (v, h)
  | .unOp op _ x => match op, ev ρ x with
    | .not, .bool b => some (.bool (!b), h)
    | .neg, .int k n => some (.int k (k.wrap (0 - n)), h)
    | _, _ => none
  | .convert s d x => match ev ρ x with
    | .int _ n => if (tt d).kind = 1 ∧ (tt s).kind = 1 then some (.int (tt d).ik ((tt d).ik.wrap n), h) else none
    | _ => none
  | .makeFunc fn first cap => match fn with
    | .func f => some (.fn f (evL ρ first.toList) (evL ρ cap.toList), h)
    | _ => none
  | .makeSlice T l c => match dst, ev ρ l, ev ρ c with
    | some d, .int .i64 n, .int .i64 m => if n = m ∧ 0 ≤ n ∧ n ≤ 1000000 ∧ (tt T).kind = 3 ∧ (tt (tt T).elem).bytes ≤ 4096 ∧ 0 < (tt (tt T).elem).size ∧ oneL (tt (tt T).elem).zero = true then
        match h.get d with
        | none => some (.own d 0 0 (tt (tt T).elem).size n.toNat, h.set d ⟨0, .row (zeros (tt (tt T).elem).zero n.toNat)⟩)
        | some _ => none
      else none
    | _, _, _ => none
  | .slice T x lo hi mx => (vslice tt (entOf h (ev ρ x)) T (ev ρ x) (lo.map (ev ρ)) (hi.map (ev ρ)) (mx.map (ev ρ))).map fun v => (v, h)
  | .fieldAddr T x f => if (tt T).kind = 5 then
      match (tt T).flds[f]? with
      | some (off, sz, _) => if sz = 0 then none else match ev ρ x with
        | .rop cs => some (.rop (cs.drop off), h)
        | .ptr i ver o => some (.ptr i ver (o + off), h)
        | _ => none
      | none => none
    else none
  | .field T x f => if (tt T).kind = 5 then
      match (tt T).flds[f]?, ev ρ x with
      | some (off, sz, ag), .agg cs =>
        if ag then (if off + sz ≤ cs.length then some (.agg ((cs.drop off).take sz), h) else none)
        else (match cs[off]? with
          | some c => some (c, h)
          | none => none)
      | _, _ => none
    else none
  | .indexAddr T x i => match ev ρ i with
    | .int _ n => match (tt T).kind, ev ρ x with
      | 4, .rop cs => if 0 ≤ n ∧ n < (tt T).len then some (.rop (cs.drop (n.toNat * (tt (tt T).elem).size)), h) else none
      | 4, .ptr j ver o => if 0 ≤ n ∧ n < (tt T).len then some (.ptr j ver (o + n.toNat * (tt (tt T).elem).size), h) else none
      | 3, .ro len cs => if 0 ≤ n ∧ n < len then some (.rop (cs.drop (n.toNat * (tt (tt T).elem).size)), h) else none
      | 3, .own j ver o s len => if 0 ≤ n ∧ n < len ∧ s = (tt (tt T).elem).size then some (.ptr j ver (o + n.toNat * s), h) else none
      | _, _ => none
    | _ => none
  | .index T x i => match ev ρ i with
    | .int _ n => match ev ρ x with
      | .agg cs => if ((tt T).kind = 4 ∧ (tt (tt T).elem).agg = false) ∧ (0 ≤ n ∧ n < (tt T).len) then (cs.drop (n.toNat * (tt (tt T).elem).size)).head?.map fun v => (v, h) else none
      | _ => none
    | _ => none
  | .extract t i => match ev ρ t with
    | .tup vs => match vs[i]? with
      | some c => some (c, h)
      | none => none
    | _ => none
  | .lookup T x ix true => match ev ρ x with
    | .mp i => (vlookup tt T (h.get i) (ev ρ ix)).map fun v => (v, h)
    | _ => none
  | .mapUpdate T m k x => match ev ρ m with
    | .mp i => (vupdate tt T (h.get i) (ev ρ k) (ev ρ x)).map fun e => (.und, h.set i e)
    | _ => none
  | .makeMap T none => match dst with
    | some d => match h.get d with
      | none => some (.mp d, h.set d ⟨0, .map []⟩)
      | some _ => none
    | none => none
  | .call { callee := .builtin b, args, argTypes } => match b, args.toList, argTypes.toList with
    | .len, [x], [t] => if (tt t).kind = 3 then (match vlen (ev ρ x) with
      | some n => some (.int .i64 n, h)
      | none => none) else none
    | .min, [x, y], _ => match ev ρ x, ev ρ y with
      | .int k a, .int _ b => some (.int k (if b < a then b else a), h)
      | _, _ => none
    | .min, [x, y, z], _ => match ev ρ x, ev ρ y, ev ρ z with
      | .int k a, .int _ b, .int _ c => some (.int k (if c < (if b < a then b else a) then c else (if b < a then b else a)), h)
      | _, _, _ => none
    | .max, [x, y], _ => match ev ρ x, ev ρ y with
      | .int k a, .int _ b => some (.int k (if b > a then b else a), h)
      | _, _ => none
    | .append, [x, y], [t, u] => match dst with
      | some d => if (tt u).kind = 3 then vappend tt h d t (ev ρ x) (ev ρ y) else none
      | none => none
    | .copy, [x, y], t :: _ => vcopy tt h t (ev ρ x) (ev ρ y)
    | _, _, _ => none
  | _ => none

/-- One operation of a region, its guard looked at. -/
def vguard (ρ : Env) (ops : List Oper) (o : Oper) : Option Bool :=
  match o.guard with
  | none => some true
  | some (j, want) => match (ops[j]?).bind (·.dst) with
    | none => none
    | some d => match ρ.get d with
      | some (.bool b) => some (b == want)
      | some .und => some false
      | _ => none
def Env.put (ρ : Env) : Option Nat → V → Env
  | some d, v => (d, v) :: ρ
  | none, _ => ρ
def vstep (tt : Tab) (fz : Nat → Bool) (orc : Option Bool) (N : Nat) (ops : List Oper) (ρ : Env) (h : Heap) (o : Oper) : Option (Env × Heap) :=
  if (match o.dst with | some d => decide (d < N) | none => true) then
    match vguard ρ ops o with
    | some true => match vop tt fz orc ρ h o.dst o.op with
      | some (v, h') => some (ρ.put o.dst v, h')
      | none => none
    | some false => some (ρ.put o.dst .und, h)
    | none => none
  else none
def vrun (tt : Tab) (fz : Nat → Bool) (orc : Option Bool) (N : Nat) (ops : List Oper) : Env → Heap → List Oper → Option (Env × Heap)
  | ρ, h, [] => some (ρ, h)
  | ρ, h, o :: os => match vstep tt fz orc N ops ρ h o with
    | some (ρ', h') => vrun tt fz orc N ops ρ' h' os
    | none => none
end Go.Vm
