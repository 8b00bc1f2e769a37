import Derived.Test.YtjbgmnpbpmljaaaB3
import Derived.Test.YtjbgmnpbpmljaaaRows
import Derived.WalkKit
import Derived.ProofKit
import Derived.OpenShut
import Derived.ShutString
import Derived.ChangeOld
import Derived.Below
set_option linter.unusedVariables false
set_option linter.unusedSimpArgs false
set_option maxRecDepth 100000
namespace Go.Vm
open Go.Proofs Go.ChangeShapes Go.WideShapes Go.ChangeAt Go.RowKit
/-! ### from a contract to the row -/
theorem hrel0 (w : World) : HRel (gh0 w) [] w :=
  ⟨fun B o v e => e, fun i e he => (by cases he), fun i j e e' B c c' he => (by cases he), fun i e B c o he => (by cases he), fun i v h => absurd rfl h⟩
theorem calls_of_fn {P : Program} {f : FuncId} {vs : List V} {xs : List Value} {w : World} (c : Fn P f vs [] fun v h' => v = .bool true) (hv : VRL (gh0 w) vs xs) :
    Calls P f xs.toArray w fun e w' => e = .returned (.bool true) ∧ Below w.heap.size w w' := fun cs => by
  obtain ⟨v, h', vc, g', w', fr, rfl, st, hf, hl, hvc, H', t, le⟩ := c (gh0 w) w xs hv (hrel0 w) cs
  simp only [VR] at hvc
  subst hvc
  exact ⟨.returned (.bool true), w', fr, ⟨rfl, t.os, t.tape, t.output, t.size, fun k hk => t.mods k hk (by rintro ⟨i, e, c, he, _⟩; cases he)⟩, st, hf, hl⟩
section
variable {H : Type} {enc : TypeId × Value → H} {P : Program} {w : World} {base : Nat} {spare : Nat → Bool} {held : Bool} {fuel : Nat} {t : TypeId} {cs : List Value} {x : DataW H × List MemPlace}
end
section
variable {H : Type} {enc : TypeId × Value → H} {w : World} {base : Nat} {spare : Nat → Bool} {held : Bool} {fuel : Nat} {cs : List Value} {x : DataW H × List MemPlace}
theorem rd_rg (h : DataW.trod enc Try.prog w base spare held fuel 24 cs = some x) : ∃ r : Rg, r.ok ∧ VRL (gh0 w) r.cs cs := by
  obtain ⟨xs, n, _, _, hl, hx, hf⟩ := DataW.trod_struct Try.underlying24 h
  have hl2 : cs.length = 2 := hl.trans (by kernel_rfl)
  have hx2 : xs.length = 2 := hx
  have f0 : DataW.trod enc Try.prog w base spare held n 3 ((cs.drop 0).take (Try.prog.cellsOf 3)) = xs[0]? := hf 0 _ rfl
  have f1 : DataW.trod enc Try.prog w base spare held n 3 ((cs.drop 1).take (Try.prog.cellsOf 3)) = xs[1]? := hf 1 _ rfl
  rw [List.getElem?_eq_getElem (by omega)] at f0 f1
  obtain ⟨a, ha, va⟩ := rd_int Try.underlying3 f0
  obtain ⟨b, hb, vb⟩ := rd_int Try.underlying3 f1
  refine ⟨⟨a, b⟩, ⟨ha, hb⟩, ?_⟩
  have hc : Try.prog.cellsOf 3 = 1 := by kernel_rfl
  simp only [hc, List.drop_zero] at va vb
  rw [List.take_of_length_le (by simp; omega)] at vb
  exact VRL_two va vb
theorem rd_rd (h : DataW.trod enc Try.prog w base spare held fuel 96 cs = some x) : ∃ r : Rd, r.ok ∧ VRL (gh0 w) r.cs cs := by
  obtain ⟨xs, n, _, _, hl, hx, hf⟩ := DataW.trod_struct Try.underlying96 h
  have hl2 : cs.length = 3 := hl.trans (by kernel_rfl)
  have hx2 : xs.length = 2 := hx
  have f0 : DataW.trod enc Try.prog w base spare held n 3 ((cs.drop 0).take (Try.prog.cellsOf 3)) = xs[0]? := hf 0 _ rfl
  have f1 : DataW.trod enc Try.prog w base spare held n 24 ((cs.drop 1).take (Try.prog.cellsOf 24)) = xs[1]? := hf 1 _ rfl
  rw [List.getElem?_eq_getElem (by omega)] at f0 f1
  obtain ⟨a, ha, va⟩ := rd_int Try.underlying3 f0
  obtain ⟨b, hb, vb⟩ := rd_rg f1
  refine ⟨⟨a, b⟩, ⟨ha, hb⟩, ?_⟩
  have hc : Try.prog.cellsOf 3 = 1 := by kernel_rfl
  have hc2 : Try.prog.cellsOf 24 = 2 := by kernel_rfl
  simp only [hc, hc2, List.drop_zero] at va vb
  rw [List.take_of_length_le (by simp; omega)] at vb
  exact VRL_two va vb
theorem cR_flat : ∀ l : List Rg, l.flatMap Rg.cs = cR l
  | [] => rfl
  | r :: l => by rw [List.flatMap_cons, cR_flat l]; rfl
theorem cD_flat : ∀ l : List Rd, l.flatMap Rd.cs = cD l
  | [] => rfl
  | r :: l => by rw [List.flatMap_cons, cD_flat l]; rfl
theorem rd_cu (h : DataW.trod enc Try.prog w base spare held fuel 28 cs = some x) : ∃ c : Cu, c.ok ∧ VRL (gh0 w) c.cs cs := by
  obtain ⟨xs, n, _, _, hl, hx, hf⟩ := DataW.trod_struct Try.underlying28 h
  have hl2 : cs.length = 11 := hl.trans (by kernel_rfl)
  have hx2 : xs.length = 10 := hx
  have f0 : DataW.trod enc Try.prog w base spare held n 3 ((cs.drop 0).take (Try.prog.cellsOf 3)) = xs[0]? := hf 0 _ rfl
  have f1 : DataW.trod enc Try.prog w base spare held n 3 ((cs.drop 1).take (Try.prog.cellsOf 3)) = xs[1]? := hf 1 _ rfl
  have f2 : DataW.trod enc Try.prog w base spare held n 3 ((cs.drop 2).take (Try.prog.cellsOf 3)) = xs[2]? := hf 2 _ rfl
  have f3 : DataW.trod enc Try.prog w base spare held n 3 ((cs.drop 3).take (Try.prog.cellsOf 3)) = xs[3]? := hf 3 _ rfl
  have f4 : DataW.trod enc Try.prog w base spare held n 3 ((cs.drop 4).take (Try.prog.cellsOf 3)) = xs[4]? := hf 4 _ rfl
  have f5 : DataW.trod enc Try.prog w base spare held n 22 ((cs.drop 5).take (Try.prog.cellsOf 22)) = xs[5]? := hf 5 _ rfl
  have f6 : DataW.trod enc Try.prog w base spare held n 22 ((cs.drop 6).take (Try.prog.cellsOf 22)) = xs[6]? := hf 6 _ rfl
  have f7 : DataW.trod enc Try.prog w base spare held n 24 ((cs.drop 7).take (Try.prog.cellsOf 24)) = xs[7]? := hf 7 _ rfl
  have f8 : DataW.trod enc Try.prog w base spare held n 25 ((cs.drop 9).take (Try.prog.cellsOf 25)) = xs[8]? := hf 8 _ rfl
  have f9 : DataW.trod enc Try.prog w base spare held n 26 ((cs.drop 10).take (Try.prog.cellsOf 26)) = xs[9]? := hf 9 _ rfl
  rw [List.getElem?_eq_getElem (by omega)] at f0 f1 f2 f3 f4 f5 f6 f7 f8 f9
  have hc : Try.prog.cellsOf 3 = 1 := by kernel_rfl
  have hc2 : Try.prog.cellsOf 24 = 2 := by kernel_rfl
  have hc3 : Try.prog.cellsOf 22 = 1 := by kernel_rfl
  have hc4 : Try.prog.cellsOf 25 = 1 := by kernel_rfl
  have hc5 : Try.prog.cellsOf 26 = 1 := by kernel_rfl
  have hc6 : Try.prog.cellsOf 96 = 3 := by kernel_rfl
  obtain ⟨a0, h0, v0⟩ := rd_int Try.underlying3 f0
  obtain ⟨a1, h1, v1⟩ := rd_int Try.underlying3 f1
  obtain ⟨a2, h2, v2⟩ := rd_int Try.underlying3 f2
  obtain ⟨a3, h3, v3⟩ := rd_int Try.underlying3 f3
  obtain ⟨a4, h4, v4⟩ := rd_int Try.underlying3 f4
  obtain ⟨a5, h5, _, v5⟩ := rd_ints Try.underlying22 Try.underlying3 hc f5
  obtain ⟨a6, h6, _, v6⟩ := rd_ints Try.underlying22 Try.underlying3 hc f6
  obtain ⟨a7, h7, v7⟩ := rd_rg f7
  obtain ⟨a8, h8, _, v8⟩ := rd_slice Rg.cs Rg.ok 2 Try.underlying25 hc2 (by omega) (fun _ => rfl) f8 fun n cs x h => rd_rg h
  obtain ⟨a9, h9, _, v9⟩ := rd_slice Rd.cs Rd.ok 3 Try.underlying26 hc6 (by omega) (fun _ => rfl) f9 fun n cs x h => rd_rd h
  rw [cR_flat] at v8
  rw [cD_flat] at v9
  refine ⟨⟨a0, a1, a2, a3, a4, a5, a6, a7, a8, a9⟩, ⟨h0, h1, h2, h3, h4, h5, h6, h7, h8, h9⟩, ?_⟩
  match cs, hl2 with
  | [c0, c1, c2, c3, c4, c5, c6, c7, c8, c9, c10], _ =>
    simp only [hc, hc2, hc3, hc4, hc5, List.drop_zero, List.drop_succ_cons, List.take_succ_cons, List.take_zero, List.take_nil] at v0 v1 v2 v3 v4 v5 v6 v7 v8 v9
    exact VRL.append v0 (VRL.append v1 (VRL.append v2 (VRL.append v3 (VRL.append v4 (VRL.append v5 (VRL.append v6 (VRL.append v7 (VRL.append v8 v9))))))))
end
end Go.Vm

set_option linter.unusedVariables false
set_option linter.unusedSimpArgs false
set_option maxRecDepth 100000
namespace Go.Vm
open Go.Proofs
/-! ### sets of readings, by bits -/
theorem shr5 {b p : Nat} (hb : b < 32) (hp : p < 6) : (b : Int).fdiv (2 ^ min ((p : Int)).toNat IntKind.i64.bits) = ((b >>> p : Nat) : Int) := by
  have : ∀ b : Fin 32, ∀ p : Fin 6, (((b : Nat) : Int)).fdiv (2 ^ min ((((p : Nat) : Int))).toNat IntKind.i64.bits) = (((b : Nat) >>> (p : Nat) : Nat) : Int) := by decide +kernel
  exact this ⟨b, hb⟩ ⟨p, hp⟩
theorem bit5 {b p : Nat} (hb : b < 32) (hp : p < 6) : decide (((b >>> p : Nat) : Int).tmod 2 = 1) = b.testBit p := by
  have : ∀ b : Fin 32, ∀ p : Fin 6, decide ((((b : Nat) >>> (p : Nat) : Nat) : Int).tmod 2 = 1) = (b : Nat).testBit p := by decide +kernel
  exact this ⟨b, hb⟩ ⟨p, hp⟩
/-! ### before, shorter -/
end Go.Vm

set_option linter.unusedVariables false
set_option linter.unusedSimpArgs false
set_option maxRecDepth 100000
namespace Go.Vm
open Go.Proofs
/-! ### which readings can be right together -/
theorem shl2 {i : Nat} (h : i < 5) : IntKind.i64.wrap (2 * 2 ^ min ((i : Int)).toNat IntKind.i64.bits) = 2 ^ (i + 1) := by
  have : ∀ i : Fin 5, IntKind.i64.wrap (2 * 2 ^ min (((i : Nat) : Int)).toNat IntKind.i64.bits) = 2 ^ ((i : Nat) + 1) := by decide +kernel
  exact this ⟨i, h⟩
end Go.Vm

set_option linter.unusedVariables false
set_option linter.unusedSimpArgs false
set_option maxRecDepth 100000
namespace Go.Vm
open Go.Proofs
/-! ### some of the readings -/
def pickN (l : List Rd) (b : Nat) : Nat → List Rd
  | 0 => []
  | i + 1 => if b.testBit i then pickN l b i ++ [gD l i] else pickN l b i
def pickR (l : List Rd) (b : Nat) : List Rd := pickN l b l.length
theorem pickN_len (l : List Rd) (b : Nat) : ∀ i, (pickN l b i).length ≤ i
  | 0 => Nat.le_refl _
  | i + 1 => by
    have := pickN_len l b i
    rw [pickN]; split
    · rw [List.length_append]; simp; omega
    · omega
theorem pickN_mem (l : List Rd) (b : Nat) : ∀ i, i ≤ l.length → ∀ r ∈ pickN l b i, r ∈ l
  | 0, _, r, hr => by simp [pickN] at hr
  | i + 1, h, r, hr => by
    rw [pickN] at hr
    split at hr
    · rw [List.mem_append, List.mem_singleton] at hr
      rcases hr with hr | rfl
      · exact pickN_mem l b i (by omega) r hr
      · exact List.mem_of_getElem? (gD_get (l := l) (i := i) (by omega))
    · exact pickN_mem l b i (by omega) r hr
theorem wk_some (c : Cu) (m : Nat) (r : List Rd) (hm : r.length = m) (a b : Ent) (p : Nat → Bool) (hp : ∀ i, p i = false) :
    WkV p (.agg [vi c.last, vi c.start, vi c.most, vi c.per, vi c.shovels, vI c.coal, vI c.want, vi c.heat.lo, vi c.heat.hi, vR c.loss, .own 30 m 0 3 m]) [(4, a), (5, b), (30, ⟨m, .row (cD r)⟩)] (.agg (cuR c r).cs) [] := by
  have ht : (cD r).take (m * 3) = cD r := List.take_of_length_le (by rw [cD_len]; omega)
  refine WkV.trans (WkV.forgetF (h' := [(30, ⟨m, .row (cD r)⟩)]) (fun j e he => ?_) (fun j hj => by rw [hp j] at hj; cases hj) ?_ ?_) (WkV.frz 30 (v' := .agg (cuR c r).cs) (h' := []) (ver := m) (cs := cD r) rfl (hp 30) (cD_into _ _) rfl ?_ ?_ WkV.refl)
  · simp only [Heap.get] at he ⊢
    split at he
    · rename_i h30; subst h30; exact he
    · cases he
  · simp only [V.into, intoL, V.into, intoL, vI_into, vR_into, Bool.true_and, Bool.and_true, domP, Heap.get]; rfl
  · simp only [intoH, Blk.into, cD_into, Bool.and_self]
  · simp [V.frz, frzL, vI, vR, cI_frz, cR_frz, cuR, Cu.cs, vD, ht, hm]
  · simp [frzH]
set_option maxHeartbeats 2000000 in
theorem c_some (c : Cu) (k0 : CuOk c) (b : Nat) (hb : b < 32) : Pu Try.prog (.fn 54 [] []) [.agg c.cs, vi b] (.agg (cuR c (pickR c.readings b)).cs) := by
  have hrd := k0.rds
  refine Ev.fn Try.func54 rfl rfl (Fn.body tabOk Try.func54 rfl (Nat.le_of_ble_eq_true rfl) (Ks.ok (fz := (fzn [4, 5])) (cl := (cln [(7, .d (tgL [(30, 1)]) [cP, cL, cP, cL, cP, cP, cL, cP, some ([1], [1]), cP, cW])])) tabOk mixed ?_))
  generalize hQ : FnPost tt Try.f54 _ _ = Q
  simp only [Try.f54, List.nil_append, List.append_nil, argsEnv, Nat.reduceAdd]
  simp only [gos, eq_self, Nat.reduceLT, Nat.reduceEqDiff, Nat.reduceAdd, reduceCtorEq, reduceIte, ↓reduceIte, tt, vgo, vout, vguard, callOf, vop, ev, cv, vload, newRow, Cu.cs]
  refine W.loop tabOk mixed (fun i : Nat => ([(1, vi b), (2, .rop c.cs), (4, .ptr 4 0 0), (5, .ptr 5 0 0), (6, vi i)], [(4, ⟨0, .row [vi 0, vi 0, vi 0, vi 0, vi 0, .sl0, .sl0, vi 0, vi 0, .sl0, .sl0]⟩), (5, ⟨0, .row [vi c.last, vi c.start, vi c.most, vi c.per, vi c.shovels, vI c.coal, vI c.want, vi c.heat.lo, vi c.heat.hi, vR c.loss, .own 30 (pickN c.readings b i).length 0 3 (pickN c.readings b i).length]⟩), (30, ⟨(pickN c.readings b i).length, .row (cD (pickN c.readings b i))⟩)])) (fun i => c.readings.length - i) (fun i => i ≤ c.readings.length) 0 (by omega)
    (Wk.trans (Wk.sl0H 5 10 30 3 rfl rfl rfl) (Wk.env (by simp [subE, Env.get, Cu.cs]))) ?_
  intro i hi
  have hc10 : (List.drop 10 c.cs).head? = some (vD c.readings) := rfl
  have hpl := pickN_len c.readings b i
  by_cases hil : (i : Int) < c.readings.length
  · have hw := u64_in (n := (i : Int)) (by omega) (by omega)
    have hn : ¬ (i : Int) < 0 := by omega
    have hs := shr5 hb (p := i) (by omega)
    have hbt := bit5 hb (p := i) (by omega)
    have z2 : ¬ (2 : Int) = 0 := by omega
    have hl : (cD (pickN c.readings b i)).length = (pickN c.readings b i).length * 3 := cD_len _
    have hl9 : (pickN c.readings b i).length ≤ 999999 := by omega
    simp only [gos, eq_self, Nat.reduceLT, Nat.reduceEqDiff, reduceCtorEq, reduceIte, ↓reduceIte, tt, vgo, vout, vguard, callOf, vop, ev, cv, vbin, vint, isShift, isNilConst, vload, vlen, hc10, vD, hil, hw, hn, hs, z2, hbt]
    have hstep : pickN c.readings b (i + 1) = if b.testBit i then pickN c.readings b i ++ [gD c.readings i] else pickN c.readings b i := rfl
    cases ht : b.testBit i with
    | true =>
      rw [ht, if_pos rfl] at hstep
      simp only [gos, eq_self, reduceIte, ↓reduceIte]
      refine Wr.draw (by kernel_rfl) ?_
      simp only [gos, eq_self, Nat.reduceLT, Nat.reduceEqDiff, Nat.reduceAdd, Nat.reduceMul, Nat.reduceLeDiff, reduceCtorEq, reduceIte, ↓reduceIte, tt, vgo, vout, vgoD, voutD, vclsOk, vids, mayWrite, V.ids, vguard, callOf, vop, ev, cv, vbin, vint, isShift, isNilConst, vload, vfill, vappend, srcOf, clsAt, hc10, vD, hil, cD_at (Int.natCast_nonneg i) hil, hl, hl9]
      refine Nx.mk (i + 1) (show c.readings.length - (i + 1) < c.readings.length - i by omega) (by omega) (Wk.heap (fun j => ?_) ?_)
      · rw [hstep, cD_snoc, List.length_append]; rfl
      · simp [subE, Env.get, i64_succ (show (i : Int) < 9223372036854775807 by omega)]
    | false =>
      rw [ht, if_neg (by simp)] at hstep
      simp only [gos, eq_self, Nat.reduceLT, Nat.reduceEqDiff, reduceIte, ↓reduceIte, vgo, vout, vguard, callOf, vop, ev, cv, vbin, vint, isShift, isNilConst]
      exact Nx.mk (i + 1) (show c.readings.length - (i + 1) < c.readings.length - i by omega) (by omega) (by rw [hstep]; exact Wk.env (by simp [subE, Env.get, i64_succ (show (i : Int) < 9223372036854775807 by omega)]))
  · have hie : i = c.readings.length := by omega
    simp only [gos, eq_self, Nat.reduceLT, Nat.reduceEqDiff, Nat.reduceAdd, reduceCtorEq, reduceIte, ↓reduceIte, tt, vgo, vout, vguard, callOf, vop, ev, vbin, vint, isShift, isNilConst, vload, vlen, hc10, vD, hil]
    subst hQ
    rw [pickR, ← hie]
    exact FnPost.plain trivial (v := .agg [vi c.last, vi c.start, vi c.most, vi c.per, vi c.shovels, vI c.coal, vI c.want, vi c.heat.lo, vi c.heat.hi, vR c.loss, .own 30 (pickN c.readings b i).length 0 3 (pickN c.readings b i).length]) (fun h2 e => by simp only [Try.f54, vres, vresL, vres1, gos, eq_self, Nat.reduceLT, Nat.reduceEqDiff, Nat.reduceAdd, reduceCtorEq, reduceIte, ↓reduceIte, tt, vload, e _]) (wk_some c _ _ rfl _ _ _ (fun _ => rfl)) ⟨rfl, rfl⟩
end Go.Vm

set_option linter.unusedVariables false
set_option linter.unusedSimpArgs false
set_option maxRecDepth 100000
namespace Go.Vm
/-! ### plain law: which readings can be right together -/
def possN (c : Cu) (b : Nat) : Bool := (truths c).any fun s => (List.range c.readings.length).all fun i => !b.testBit i || sRead1 c s [] i
theorem range_all_congr {n : Nat} {f g : Nat → Bool} (h : ∀ i, i < n → f i = g i) : (List.range n).all f = (List.range n).all g := by
  rw [Bool.eq_iff_iff, List.all_eq_true, List.all_eq_true]
  exact ⟨fun a i hi => by rw [← h i (List.mem_range.1 hi)]; exact a i hi, fun a i hi => by rw [h i (List.mem_range.1 hi)]; exact a i hi⟩
theorem any_congr {α : Type} {l : List α} {f g : α → Bool} (h : ∀ x ∈ l, f x = g x) : l.any f = l.any g := by
  rw [Bool.eq_iff_iff, List.any_eq_true, List.any_eq_true]
  exact ⟨fun ⟨x, hx, a⟩ => ⟨x, hx, by rw [← h x hx]; exact a⟩, fun ⟨x, hx, a⟩ => ⟨x, hx, by rw [h x hx]; exact a⟩⟩
theorem pow5 {n : Nat} (h : n < 6) : 2 ^ n ≤ 32 := Nat.pow_le_pow_right (n := 2) (by omega) (show n ≤ 5 by omega)
/-- 3: other readings. -/
def rdOk (c : Cu) (s : Sc) (r : Rd) : Bool := sIn (gi (sPlay c s c.coal c.want (c.last + 1).toNat).2.hot r.hour) r.b.lo r.b.hi
theorem read1_ok (c : Cu) (s : Sc) (i : Nat) : sRead1 c s [] i = rdOk c s (gD c.readings i) := by simp only [sRead1, List.any_nil, Bool.false_or]; rfl
theorem range_gD (l : List Rd) (f : Rd → Bool) : ((List.range l.length).all fun i => f (gD l i)) = l.all f := by
  rw [Bool.eq_iff_iff, List.all_eq_true, List.all_eq_true]
  constructor
  · intro h x hx
    obtain ⟨i, hi, rfl⟩ := List.mem_iff_getElem.1 hx
    have := h i (List.mem_range.2 hi)
    rwa [gD, Int.toNat_natCast, List.getD_eq_getElem?_getD, List.getElem?_eq_getElem hi] at this
  · intro h i hi
    rw [List.mem_range] at hi
    exact h _ (List.mem_of_getElem? (gD_get (l := l) (i := i) (by omega)))
theorem right_all (c : Cu) (s : Sc) : sRight c s [] = c.readings.all (rdOk c s) := by
  rw [← range_gD, sRight]
  exact range_all_congr fun i _ => read1_ok c s i
theorem cuR_listed (c : Cu) (l : List Rd) (t : Tr2) : Listed (cuR c l) t ↔ Listed c t := ⟨fun h => ⟨h.heat, h.len, h.loss⟩, fun h => ⟨h.heat, h.len, h.loss⟩⟩
theorem cuR_rdOk (c : Cu) (l : List Rd) (s : Sc) (r : Rd) : rdOk (cuR c l) s r = rdOk c s r := by
  simp only [rdOk, sPlay_cu c (cuR c l) rfl rfl rfl]; rfl
theorem any_truths {c x : Cu} (k0 : CuOk c) (kx : CuOk x) (h : ∀ t, Listed x t ↔ Listed c t) (f : Sc → Bool) : (truths x).any f = (truths c).any f := by
  rw [Bool.eq_iff_iff, List.any_eq_true, List.any_eq_true]
  constructor
  · rintro ⟨s, hs, hf⟩
    obtain ⟨t, ht, rfl⟩ := (mem_truths kx _).1 hs
    exact ⟨_, (mem_truths k0 _).2 ⟨t, (h t).1 ht, rfl⟩, hf⟩
  · rintro ⟨s, hs, hf⟩
    obtain ⟨t, ht, rfl⟩ := (mem_truths k0 _).1 hs
    exact ⟨_, (mem_truths kx _).2 ⟨t, (h t).2 ht, rfl⟩, hf⟩
theorem poss_cuR {c : Cu} (k0 : CuOk c) {l : List Rd} (kx : CuOk (cuR c l)) : sPoss (cuR c l) [] = (truths c).any fun s => l.all (rdOk c s) := by
  rw [sPoss, any_truths k0 kx (cuR_listed c l)]
  refine any_congr fun s _ => ?_
  rw [right_all]
  congr 1
  funext r
  exact cuR_rdOk c l s r
theorem pick_all (l : List Rd) (b : Nat) (f : Rd → Bool) : ∀ n, (pickN l b n).all f = (List.range n).all fun i => !b.testBit i || f (gD l i)
  | 0 => rfl
  | n + 1 => by
    rw [pickN, List.range_succ, List.all_append, ← pick_all l b f n]
    split
    · rename_i h; rw [List.all_append]; simp [h]
    · rename_i h; simp [h]
theorem pick_ok {c : Cu} (k0 : CuOk c) (b : Nat) : CuOk (cuR c (pickR c.readings b)) :=
  ⟨k0.last, by have := k0.rds; have := pickN_len c.readings b c.readings.length; simp only [cuR, pickR]; omega, k0.most, k0.start, k0.per, k0.shovels, k0.coal, k0.want, k0.heat, k0.loss, fun r hr => k0.readings r (pickN_mem _ _ _ (Nat.le_refl _) r hr), k0.many⟩
theorem poss_pick {c : Cu} (k0 : CuOk c) (b : Nat) : sPoss (cuR c (pickR c.readings b)) [] = possN c b := by
  rw [poss_cuR k0 (pick_ok k0 b), possN]
  refine any_congr fun s _ => ?_
  rw [pickR, pick_all]
  exact range_all_congr fun i _ => by rw [read1_ok]
theorem take_all (l : List Rd) (f : Rd → Bool) : ∀ n, n ≤ l.length → (l.take n).all f = (List.range n).all fun i => f (gD l i)
  | 0, _ => rfl
  | n + 1, h => by
    have e : l.take (n + 1) = l.take n ++ [gD l n] := by rw [List.take_add_one, gD_get (by omega)]; rfl
    rw [e, List.range_succ, List.all_append, List.all_append, take_all l f n (by omega)]; rfl
theorem testBit_ones {k i : Nat} : (2 ^ k - 1).testBit i = decide (i < k) := Nat.testBit_two_pow_sub_one k i
theorem poss_cut {c : Cu} (k0 : CuOk c) {k : Nat} (hk : k ≤ c.readings.length) : sPoss (cut c k) [] = possN c (2 ^ k - 1) := by
  have e : cut c k = cuR c (c.readings.take k) := rfl
  have := poss_cuR k0 (l := c.readings.take k) (cut_ok k0 k)
  rw [e, this, possN]
  refine any_congr fun s _ => ?_
  rw [take_all _ _ _ hk, Bool.eq_iff_iff, List.all_eq_true, List.all_eq_true]
  simp only [List.mem_range, testBit_ones, read1_ok]
  constructor
  · intro h i hi
    by_cases hik : i < k
    · rw [h i hik]; simp
    · rw [decide_eq_false hik]; rfl
  · intro h i hi
    have := h i (by omega)
    rwa [decide_eq_true hi] at this
/-- 4: there is a truth. -/
theorem asked_poss {x : Cu} (kx : CuOk x) : sAsked x true = if sPoss x [] = true then 0 else 11 := by
  have hne : sTruth x = [] ↔ ¬ sPoss x [] = true := by
    rw [sPoss, List.any_eq_true, List.eq_nil_iff_forall_not_mem]
    constructor
    · rintro h ⟨s, hs, hr⟩; exact h s ((mem_sTruth x s).2 ⟨hs, hr⟩)
    · intro h s hs; exact h ⟨s, (mem_sTruth x s).1 hs⟩
  rw [sAsked, if_neg (by simp [chk_of kx]), if_neg (by simp)]
  by_cases h : sPoss x [] = true
  · rw [if_pos h, if_neg (fun e => hne.1 e h)]
  · rw [if_neg h, if_pos (hne.2 h)]
theorem keeps_err (x : Cu) : (sKeepsA x).2 = sAsked x true := by
  rw [sKeepsA]; split
  · rename_i h; rw [h]
  · rfl
/-! ### the smallest set -/
theorem poss_zero {c : Cu} (k0 : CuOk c) : possN c 0 = true := by
  obtain ⟨x, hx⟩ := List.exists_mem_of_ne_nil _ (truths_ne k0)
  rw [possN, List.any_eq_true]
  exact ⟨x, hx, by simp⟩
end Go.Vm

set_option linter.unusedVariables false
set_option linter.unusedSimpArgs false
set_option maxRecDepth 100000
namespace Go.Vm
open Go.Proofs
theorem find_range_some {p : Nat → Bool} {n i : Nat} (h : (List.range n).find? p = some i) : i < n ∧ p i = true ∧ ∀ j, j < i → p j = false := by
  obtain ⟨h1, k, hk, e, hn⟩ := List.find?_eq_some_iff_getElem.1 h
  simp only [List.getElem_range, List.length_range] at e hk
  subst e
  exact ⟨hk, h1, fun j hj => by have := hn j hj; simpa using this⟩
theorem pow_cast {k : Nat} : (2 : Int) ^ k - 1 = ((2 ^ k - 1 : Nat) : Int) := by
  rw [Int.natCast_sub Nat.one_le_two_pow, Int.natCast_pow]; rfl
/-- What Keeps says of coppers with some of their readings. -/
theorem keeps_pick {c : Cu} (k0 : CuOk c) (b : Nat) : (sKeepsA (cuR c (pickR c.readings b))).2 = if possN c b = true then 0 else 11 := by
  rw [keeps_err, asked_poss (pick_ok k0 b), poss_pick k0]
theorem poss_all {c : Cu} (k0 : CuOk c) : sPoss c [] = possN c (2 ^ c.readings.length - 1) := by
  have e : cut c c.readings.length = c := by simp only [cut, List.take_length]
  have := poss_cut k0 (Nat.le_refl c.readings.length)
  rwa [e] at this
/-- The readings ahead of the first wrong one. -/
theorem poss_ahead {c : Cu} (k0 : CuOk c) {i : Nat} (hi : i ≤ c.readings.length) (h : ∀ j, j < i → (!(sPoss (cut c (j + 1)) [])) = false) : possN c (2 ^ i - 1) = true := by
  cases i with
  | zero => exact poss_zero k0
  | succ j =>
    have := h j (by omega)
    rw [poss_cut k0 hi] at this
    simpa using this
set_option maxHeartbeats 4000000 in
theorem l_CopperFirst (c : Cu) (hc : I64 c.last) : Vm.Fn Try.prog 9 [.agg c.cs] [] fun v h' => v = .bool true := by
  refine Fn.body tabOk Try.func9 rfl (Nat.le_of_ble_eq_true rfl) (Ks.ok (fz := (fzn [])) (cl := (cln [])) tabOk mixed ?_)
  generalize hQ : FnPost tt Try.f9 _ _ = Q
  simp only [Try.f9, argsEnv]
  simp only [gos, eq_self, Nat.reduceLT, Nat.reduceEqDiff, reduceCtorEq, reduceIte, ↓reduceIte, tt, vgo, vout, vguard, callOf, vop, ev, cv, vload, newRow]
  refine Cl.pu (c_ready c hc) ?_ rfl (by simp only [V.into, intoL, cu_into, Bool.and_true])
  cases ht : sReady c with
  | false =>
    simp only [gos, eq_self, Nat.reduceLT, reduceIte, ↓reduceIte, vgo, vout, vguard, callOf, vop, ev]
    refine Cl.pu c_awake ?_
    simp only [gos, eq_self, Nat.reduceLT, reduceIte, ↓reduceIte, vgo, vout, vguard, callOf, vop, ev]
    subst hQ
    exact FnPost.plain trivial (v := .bool true) (fun h2 e => by rfl) WkV.refl rfl
  | true =>
  obtain ⟨hth, h0⟩ := ready_ok ht
  have wf := thin_wf hc hth
  have k0 := sCheck_ok h0
  have hrd := k0.rds
  simp only [gos, eq_self, Nat.reduceLT, Nat.reduceEqDiff, reduceCtorEq, reduceIte, ↓reduceIte, tt, vgo, vout, vguard, callOf, vop, ev, vload]
  refine Cl.pu (c_lCopper c wf) ?_ rfl (by simp only [V.into, intoL, cu_into, Bool.and_true])
  simp only [gos, eq_self, Nat.reduceLT, reduceIte, ↓reduceIte, vgo, vout, vguard, callOf, ev]
  refine Cl.pu (c_First c wf) ?_ rfl (by simp only [V.into, intoL, cu_into, Bool.and_true])
  cases hf : (List.range c.readings.length).find? fun i => !(sPoss (cut c (i + 1)) []) with
  | none =>
    have e1 : sFirstA c = (0, 7) := by simp only [sFirstA, h0, if_true, hf]
    have hp : (sKeepsA c).2 = 0 := by
      rw [keeps_err, asked_poss k0, poss_all k0, poss_ahead k0 (Nat.le_refl _) fun j hj => by
        have := List.find?_eq_none.1 hf j (List.mem_range.2 hj)
        simpa using this]
      rfl
    have z7 : ((7 : Int) != 0) = true := rfl
    have z1 : decide ((7 : Int) = 7) = true := rfl
    have z0 : decide ((0 : Int) = 0) = true := rfl
    rw [e1]
    simp only [gos, eq_self, Nat.reduceLT, Nat.reduceEqDiff, reduceCtorEq, reduceIte, ↓reduceIte, tt, vgo, vout, vguard, callOf, vop, ev, cv, vbin, vint, isShift, isNilConst, vload, z7]
    refine Cl.pu (c_lCopper c wf) ?_ rfl (by simp only [V.into, intoL, cu_into, Bool.and_true])
    simp only [gos, eq_self, Nat.reduceLT, reduceIte, ↓reduceIte, vgo, vout, vguard, callOf, ev]
    refine Cl.pu (c_Keeps c wf) ?_ rfl (by simp only [V.into, intoL, cu_into, Bool.and_true])
    rw [hp]
    simp only [gos, eq_self, Nat.reduceLT, Nat.reduceEqDiff, reduceIte, ↓reduceIte, vgo, vout, vguard, callOf, vop, ev, cv, vbin, vint, isShift, isNilConst]
    refine Cl.pu c_awake ?_
    simp only [gos, eq_self, Nat.reduceLT, Nat.reduceEqDiff, reduceIte, ↓reduceIte, vgo, vout, vguard, callOf, vop, ev]
    subst hQ
    exact FnPost.plain trivial (v := .bool true) (fun h2 e => by rfl) WkV.refl rfl
  | some i =>
    obtain ⟨hi, hpi, hno⟩ := find_range_some hf
    have e1 : sFirstA c = ((i : Int), 0) := by simp only [sFirstA, h0, if_true, hf]
    have z1 : ((0 : Int) != 0) = false := rfl
    have hin : sIn (i : Int) 0 ((c.readings.length : Int) - 1) = true := by simp only [sIn, Bool.and_eq_true, decide_eq_true_eq]; omega
    have hw := u64_in (n := (i : Int)) (by omega) (by omega)
    have hn : ¬ (i : Int) < 0 := by omega
    have p1 := pow5 (n := i) (by omega)
    have p2 := pow5 (n := i + 1) (by omega)
    have g1 : (sKeepsA (cuR c (pickR c.readings (2 ^ i - 1)))).2 = 0 := by rw [keeps_pick k0, poss_ahead k0 (by omega) hno]; rfl
    have g2 : (sKeepsA (cuR c (pickR c.readings (2 ^ (i + 1) - 1)))).2 = 11 := by
      have : possN c (2 ^ (i + 1) - 1) = false := by rw [← poss_cut k0 (by omega)]; simpa using hpi
      rw [keeps_pick k0, this]; rfl
    have hc10 : (List.drop 10 c.cs).head? = some (vD c.readings) := rfl
    rw [e1]
    simp only [gos, eq_self, Nat.reduceLT, Nat.reduceEqDiff, reduceCtorEq, reduceIte, ↓reduceIte, tt, vgo, vout, vguard, callOf, vop, ev, cv, vbin, vint, isShift, isNilConst, vload, vlen, hc10, vD, i64_in (show -9223372036854775808 ≤ (c.readings.length : Int) - 1 by omega) (show (c.readings.length : Int) - 1 ≤ 9223372036854775807 by omega)]
    refine Cl.pu (c_rIn _ _ _) ?_
    rw [hin]
    simp only [gos, eq_self, Nat.reduceLT, Nat.reduceEqDiff, reduceCtorEq, reduceIte, ↓reduceIte, tt, vgo, vout, vguard, callOf, vop, ev, cv, vbin, vint, isShift, isNilConst, vload, hw, hn, shl1 (i := i) (by omega), full_sub (i := i) (by omega)]
    rw [pow_cast]
    refine Cl.pu (c_some c k0 (2 ^ i - 1) (by omega)) ?_ rfl (by simp only [V.into, intoL, cu_into, Bool.and_true])
    simp only [gos, eq_self, Nat.reduceLT, reduceIte, ↓reduceIte, vgo, vout, vguard, callOf, ev]
    refine Cl.pu (c_lCopper _ (pick_ok k0 _).wf) ?_ rfl (by simp only [V.into, intoL, cu_into, Bool.and_true])
    simp only [gos, eq_self, Nat.reduceLT, reduceIte, ↓reduceIte, vgo, vout, vguard, callOf, ev]
    refine Cl.pu (c_Keeps _ (pick_ok k0 _).wf) ?_ rfl (by simp only [V.into, intoL, cu_into, Bool.and_true])
    rw [g1]
    simp only [gos, eq_self, Nat.reduceLT, Nat.reduceEqDiff, reduceCtorEq, reduceIte, ↓reduceIte, tt, vgo, vout, vguard, callOf, vop, ev, cv, vbin, vint, isShift, isNilConst, vload, hw, hn, shl2 (i := i) (by omega), full_sub (i := i + 1) (by omega)]
    rw [pow_cast]
    refine Cl.pu (c_some c k0 (2 ^ (i + 1) - 1) (by omega)) ?_ rfl (by simp only [V.into, intoL, cu_into, Bool.and_true])
    simp only [gos, eq_self, Nat.reduceLT, reduceIte, ↓reduceIte, vgo, vout, vguard, callOf, ev]
    refine Cl.pu (c_lCopper _ (pick_ok k0 _).wf) ?_ rfl (by simp only [V.into, intoL, cu_into, Bool.and_true])
    simp only [gos, eq_self, Nat.reduceLT, reduceIte, ↓reduceIte, vgo, vout, vguard, callOf, ev]
    refine Cl.pu (c_Keeps _ (pick_ok k0 _).wf) ?_ rfl (by simp only [V.into, intoL, cu_into, Bool.and_true])
    rw [g2]
    have y1 : decide ((0 : Int) = 0) = true := rfl
    have y2 : decide ((11 : Int) = 11) = true := rfl
    simp only [gos, eq_self, Nat.reduceLT, Nat.reduceEqDiff, reduceIte, ↓reduceIte, vgo, vout, vguard, callOf, vop, ev, cv, vbin, vint, isShift, isNilConst]
    refine Cl.pu c_awake ?_
    simp only [gos, eq_self, Nat.reduceLT, Nat.reduceEqDiff, reduceIte, ↓reduceIte, vgo, vout, vguard, callOf, vop, ev]
    subst hQ
    exact FnPost.plain trivial (v := .bool true) (fun h2 e => by rfl) WkV.refl rfl
end Go.Vm
