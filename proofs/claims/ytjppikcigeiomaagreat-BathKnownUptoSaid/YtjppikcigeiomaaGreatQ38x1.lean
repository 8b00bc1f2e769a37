import Derived.Test.YtjppikcigeiomaaGreatB4
import Derived.Test.YtjppikcigeiomaaGreatRows
import Derived.WalkKit
import Derived.ProofKit
import Derived.OpenShut
import Derived.ShutString
import Derived.ChangeOld
import Derived.Below
set_option linter.unusedVariables false
set_option linter.unusedSimpArgs false
set_option maxRecDepth 100000
namespace Go.Vm
open Go.Proofs
def cuR (c : Cu) (r : List Rd) : Cu := { c with readings := r }
end Go.Vm

set_option linter.unusedVariables false
set_option linter.unusedSimpArgs false
set_option maxRecDepth 100000
namespace Go.Vm
open Go.Proofs Go.ChangeShapes Go.WideShapes Go.ChangeAt Go.RowKit
/-! ### from a contract to the row -/
theorem hrel0 (w : World) : HRel (gh0 w) [] w :=
  ⟨fun B o v e => e, fun i e he => (by cases he), fun i j e e' B c c' he => (by cases he), fun i e B c o he => (by cases he), fun i v h => absurd rfl h⟩
theorem calls_of_fn {P : Program} {f : FuncId} {vs : List V} {xs : List Value} {w : World} (c : Fn P f vs [] fun v h' => v = .bool true) (hv : VRL (gh0 w) vs xs) :
    Calls P f xs.toArray w fun e w' => e = .returned (.bool true) ∧ Below w.heap.size w w' := fun cs => by
  obtain ⟨v, h', vc, g', w', fr, rfl, st, hf, hl, hvc, H', t, le⟩ := c (gh0 w) w xs hv (hrel0 w) cs
  simp only [VR] at hvc
  subst hvc
  exact ⟨.returned (.bool true), w', fr, ⟨rfl, t.os, t.tape, t.output, t.size, fun k hk => t.mods k hk (by rintro ⟨i, e, c, he, _⟩; cases he)⟩, st, hf, hl⟩
section
variable {H : Type} {enc : TypeId × Value → H} {P : Program} {w : World} {base : Nat} {spare : Nat → Bool} {held : Bool} {fuel : Nat} {t : TypeId} {cs : List Value} {x : DataW H × List MemPlace}
end
section
variable {H : Type} {enc : TypeId × Value → H} {w : World} {base : Nat} {spare : Nat → Bool} {held : Bool} {fuel : Nat} {cs : List Value} {x : DataW H × List MemPlace}
end
end Go.Vm

set_option linter.unusedVariables false
set_option linter.unusedSimpArgs false
set_option maxRecDepth 100000
namespace Go.Vm
open Go.Proofs Go.ChangeShapes Go.WideShapes Go.ChangeAt Go.RowKit
section
variable {H : Type} {enc : TypeId × Value → H} {w : World} {base : Nat} {spare : Nat → Bool} {held : Bool} {fuel : Nat} {cs : List Value} {x : DataW H × List MemPlace}
theorem rd_u16 (h : DataW.trod enc Tryz.prog w base spare held fuel 77 cs = some x) : ∃ n : Int, (0 ≤ n ∧ n ≤ 65535) ∧ VRL (gh0 w) [.int .u16 n] cs := by
  obtain ⟨n, rfl, _, h2⟩ := DataW.trod_int Tryz.underlying77 h
  exact ⟨n, bounds_u16 h2, VRL.cons (by simp only [VR]) VRL.nil⟩
theorem rd_words (h : DataW.trod enc Tryz.prog w base spare held fuel 86 cs = some x) : ∃ l : List Int, (∀ n ∈ l, 0 ≤ n ∧ n ≤ 65535) ∧ VRL (gh0 w) [vW l] cs := by
  obtain ⟨l, h1, h2, h3⟩ := rd_slice (fun n : Int => [V.int .u16 n]) (fun n => 0 ≤ n ∧ n ≤ 65535) 1 Tryz.underlying86 (by kernel_rfl) (by omega) (fun _ => rfl) h fun n cs x h => rd_u16 h
  have e : l.flatMap (fun n : Int => [V.int .u16 n]) = cW16 l := by
    clear h1 h2 h3
    induction l with
    | nil => rfl
    | cons y l ih => simp only [List.flatMap_cons, cW16, List.map_cons, List.singleton_append] at ih ⊢; rw [ih]
  rw [e] at h3
  exact ⟨l, h1, h3⟩
end
end Go.Vm

set_option linter.unusedVariables false
set_option linter.unusedSimpArgs false
set_option maxRecDepth 100000
namespace Go.Vm
/-! ### plain laws of one truth -/
theorem mul_le_of_tdiv {w a p : Int} (h0 : 0 ≤ a) (hp : 1 ≤ p) (h : w ≤ a.tdiv p) : w * p ≤ a := by
  rw [Int.tdiv_eq_ediv_of_nonneg h0] at h
  exact Int.mul_le_of_le_ediv (by omega) h
theorem warm_heat {c : Cu} {s s' : Sc} {coal coal' want : List Int} {n : Nat} (w : Warm s s' coal coal' n) {i : Nat} (hi : i < n) (h : (sPlay c s coal want i).1 ≤ (sPlay c s' coal' want i).1) : sHeat c s coal want i ≤ sHeat c s' coal' want i := by
  have h1 := w.loss i hi
  have h2 := w.coal i hi
  have h3 : gi coal i * s.heat ≤ gi coal' i * s'.heat := Int.mul_le_mul h2.2 w.heat.2 w.heat.1 (by omega)
  simp only [sHeat]
  omega
theorem warm_play {c : Cu} {s s' : Sc} {coal coal' want : List Int} {n : Nat} (hp : 1 ≤ c.per) (w : Warm s s' coal coal' n) : ∀ i, i ≤ n → (sPlay c s coal want i).1 ≤ (sPlay c s' coal' want i).1
  | 0, _ => Int.le_refl _
  | i + 1, hi => by
    have ih := warm_heat w (show i < n by omega) (warm_play (want := want) hp w i (by omega))
    have h0 : 0 ≤ sHeat c s coal want i := by simp only [sHeat]; omega
    have h1 : 0 ≤ sHeat c s' coal' want i := by simp only [sHeat]; omega
    have hm := tdiv_mono h0 ih hp
    rw [sPlay_heat, sPlay_heat]
    by_cases hk : gi want i ≤ (sHeat c s coal want i).tdiv c.per
    · rw [if_pos hk, if_pos (by omega)]; omega
    · rw [if_neg hk]
      split
      · rename_i hk2
        have := mul_le_of_tdiv h1 hp hk2
        omega
      · omega
end Go.Vm

set_option linter.unusedVariables false
set_option linter.unusedSimpArgs false
set_option maxRecDepth 100000
namespace Go.Vm
/-! ### lists that are changed in some places -/
theorem vW_into (p : Nat → Bool) (l : List Int) : (vW l).into p = true := by simp only [vW, V.into]; exact cW16_into p l
end Go.Vm

set_option linter.unusedVariables false
set_option linter.unusedSimpArgs false
set_option maxRecDepth 100000
namespace Go.Vm
/-! ### plain law: which readings can be right together -/
theorem cuR_listed (c : Cu) (l : List Rd) (t : Tr2) : Listed (cuR c l) t ↔ Listed c t := ⟨fun h => ⟨h.heat, h.len, h.loss⟩, fun h => ⟨h.heat, h.len, h.loss⟩⟩
theorem cuR_rdOk (c : Cu) (l : List Rd) (s : Sc) (r : Rd) : rdOk (cuR c l) s r = rdOk c s r := by
  simp only [rdOk, sPlay_cu c (cuR c l) rfl rfl rfl]; rfl
/-! ### the smallest set -/
end Go.Vm

set_option linter.unusedVariables false
set_option linter.unusedSimpArgs false
set_option maxRecDepth 100000
namespace Go.Vm
/-! ### the least coal: the program's search and the reference's are the same -/
/-! the reference's numbers of coal, in order -/
theorem sure_whole {c : Cu} (k0 : CuOk c) (hne : sTruth c ≠ []) (coal : List Int) : sSureP c coal = decide (rWholes c (rTruths c) coal c.want = 1) := by
  rw [← wholes_same k0 hne]
  have e : ((sTruth c).map fun s => if (sPast c coal c.want s).kept.any (fun y => decide (false = y)) then (0 : Int) else 1) = (sTruth c).map fun s => if sKept c coal c.want s = true then 1 else 0 := by
    apply List.map_congr_left
    intro s _
    by_cases h : ((sPast c coal c.want s).kept.any fun y => decide (false = y)) = true
    · have h2 : sKept c coal c.want s = false := by rw [sKept, h]; rfl
      rw [if_pos h, h2, if_neg (by simp)]
    · have h2 : sKept c coal c.want s = true := by rw [Bool.not_eq_true] at h; rw [sKept, h]; rfl
      rw [if_neg h, h2, if_pos rfl]
  rw [e, sVerdict_01 _ hne, sSureP]
  cases (sTruth c).all fun s => sKept c coal c.want s with
  | true => rfl
  | false => cases (sTruth c).any fun s => sKept c coal c.want s <;> rfl
end Go.Vm

set_option linter.unusedVariables false
set_option linter.unusedSimpArgs false
set_option maxRecDepth 100000
namespace Go.Vm
/-! ### fewer promises, more coal -/
theorem whole_coal {c : Cu} {coal coal' want : List Int} {t : Tr2} (hp : 1 ≤ c.per) (hh : 0 ≤ t.heat) (hc : ∀ i : Nat, i < (c.last + 1).toNat → 0 ≤ gi coal i ∧ gi coal i ≤ gi coal' i) (h : wholeI c coal want t = true) : wholeI c coal' want t = true := by
  rw [whole_iff] at h ⊢
  intro i hi
  have w : Warm (tS t) (tS t) coal coal' (c.last + 1).toNat := ⟨⟨hh, Int.le_refl _⟩, fun i _ => Int.le_refl _, hc⟩
  have hm := tdiv_mono (sHeat_ge c (tS t) coal want i) (warm_heat w hi (warm_play hp w i (by omega))) hp
  have := h i hi
  omega
end Go.Vm

set_option linter.unusedVariables false
set_option linter.unusedSimpArgs false
set_option maxRecDepth 100000
namespace Go.Vm
/-! ### fewer truths -/
theorem SubT.sure {x c : Cu} (S : SubT x c) (X : AskOk x true) (A : AskOk c true) {coal : List Int} (h : sSureP c coal = true) : sSureP x coal = true := by
  have hne : rTruths x ≠ [] := fun e => X.ne ((same_nil X.k0).2 e)
  rw [sure_whole A.k0 A.ne, decide_eq_true_eq] at h
  rw [sure_whole X.k0 X.ne, decide_eq_true_eq, S.want]
  exact S.wholes hne h
/-! which readings are left out -/
theorem more_sub {c : Cu} (k0 : CuOk c) {r : Rd} (kx : CuOk (cuR c (c.readings ++ [r]))) : SubT (cuR c (c.readings ++ [r])) c :=
  ⟨rfl, rfl, rfl, rfl, rfl, rfl, fun t ht => by
    obtain ⟨h1, h2⟩ := (mem_rTruths' kx t).1 ht
    refine (mem_rTruths' k0 t).2 ⟨(cuR_listed _ _ _).1 h1, ?_⟩
    rw [right_all, List.all_eq_true] at h2 ⊢
    intro q hq
    have := h2 q (by simp only [cuR]; exact List.mem_append_left _ hq)
    rw [cuR_rdOk] at this
    exact this⟩
end Go.Vm

set_option maxRecDepth 100000
set_option linter.unusedVariables false
namespace Go.Proofs.YtjppikcigeiomaaGreat
open Go.ChangeShapes Go.WideShapes Go.ChangeAt Go.RowKit Go.Vm
/-! ### what the bound on the arguments gives -/
theorem bulk_part {H : Type} {d : DataW H} : ∀ {l : List (DataW H)}, d ∈ l → Rows.uptoBulk d ≤ Rows.uptoBulkAll l
  | x :: r, h => by
    simp only [Rows.uptoBulkAll]
    rcases List.mem_cons.1 h with e | e
    · subst e; omega
    · have := bulk_part e; omega
theorem bulk_one {H : Type} (d : DataW H) : 1 ≤ Rows.uptoBulk d := by
  cases d with
  | lit l => cases l <;> simp [Rows.uptoBulk]
  | nil => simp [Rows.uptoBulk]
  | ptr d => simp [Rows.uptoBulk]
  | slice elems spare => simp [Rows.uptoBulk]
  | agg parts => simp [Rows.uptoBulk]
  | iface t d => simp [Rows.uptoBulk]
  | map entries => simp [Rows.uptoBulk]
  | held h => simp [Rows.uptoBulk]
theorem bulk_len {H : Type} : ∀ (l : List (DataW H)), l.length ≤ Rows.uptoBulkAll l
  | [] => by simp [Rows.uptoBulkAll]
  | x :: r => by have := bulk_one x; have := bulk_len r; simp only [Rows.uptoBulkAll, List.length_cons]; omega
theorem bulk_all {H : Type} {k : Nat} : ∀ (l : List (DataW H)), (∀ d ∈ l, k ≤ Rows.uptoBulk d) → k * l.length ≤ Rows.uptoBulkAll l
  | [], _ => by simp
  | x :: r, h => by
    have h1 := h x (by simp)
    have h2 := bulk_all r fun d hd => h d (by simp [hd])
    simp only [Rows.uptoBulkAll, List.length_cons, Nat.mul_add, Nat.mul_one]; omega
section
variable {H : Type} {enc : TypeId × Value → H} {w : World} {base fuel : Nat} {spare : Nat → Bool} {held : Bool} {cs : List Value} {x : DataW H × List MemPlace}
/-- So many readings, at most: each counts three. -/
theorem bulk_rds (h : DataW.trod enc Tryz.prog w base spare held fuel 28 cs = some x) {c : Cu} (hv : VRL (gh0 w) c.cs cs) : 3 * c.readings.length ≤ Rows.uptoBulk x.1 := by
  obtain ⟨xs, n, _, rfl, hl, hx, hf⟩ := DataW.trod_struct Tryz.underlying28 h
  have hx2 : xs.length = 10 := hx
  have f9 : DataW.trod enc Tryz.prog w base spare held n 26 ((cs.drop 10).take (Tryz.prog.cellsOf 26)) = xs[9]? := hf 9 _ rfl
  have hc5 : Tryz.prog.cellsOf 26 = 1 := by kernel_rfl
  have hl2 : cs.length = 11 := hl.trans (by kernel_rfl)
  rw [List.getElem?_eq_getElem (by omega), hc5] at f9
  obtain ⟨v, g1, g2⟩ := VRL.get hv (j := 10) (c := vD c.readings) rfl
  simp only [vD, VR] at g2
  obtain ⟨a, cap, rfl, _, _⟩ := g2
  have e : (cs.drop 10).take 1 = [.slice a c.readings.length cap] := by
    rw [List.drop_eq_getElem_cons (by omega), List.take_succ_cons, List.take_zero]
    rw [List.getElem?_eq_getElem (by omega)] at g1
    injection g1 with g1
    rw [g1]
  rw [e] at f9
  have hp : Rows.uptoBulk xs[9].1 ≤ Rows.uptoBulkAll (xs.map (·.1)) := bulk_part (List.mem_map.2 ⟨xs[9], List.getElem_mem _, rfl⟩)
  simp only [Rows.uptoBulk]
  rcases DataW.trod_slice Tryz.underlying26 f9 with ⟨h1, _⟩ | ⟨a', len, cap', elems, rest, n', _, h1, h2, _, _, _, h3, h4, _⟩
  · simp only [List.cons.injEq, Value.slice.injEq, and_true] at h1
    omega
  · simp only [List.cons.injEq, Value.slice.injEq, and_true] at h1
    rw [h2] at hp
    simp only [Rows.uptoBulk] at hp
    have := bulk_all (k := 3) (elems.map (·.1)) fun d hd => by
      obtain ⟨y, hy, rfl⟩ := List.mem_map.1 hd
      obtain ⟨i, hi, rfl⟩ := List.getElem_of_mem hy
      have h5 := h4 i (by omega)
      rw [List.getElem?_eq_getElem hi, Option.bind_eq_some_iff] at h5
      obtain ⟨cc, _, h6⟩ := h5
      obtain ⟨ys, n2, _, e2, _, hy2, _⟩ := DataW.trod_struct Tryz.underlying93 h6
      have hy3 : ys.length = 2 := hy2
      rw [e2]
      simp only [Rows.uptoBulk]
      have := bulk_len (ys.map (·.1))
      rw [List.length_map] at this
      omega
    rw [List.length_map] at this
    omega
end
end Go.Proofs.YtjppikcigeiomaaGreat

set_option maxRecDepth 100000
set_option linter.unusedVariables false
namespace Go.Proofs.YtjppikcigeiomaaGreat
open Go.ChangeShapes Go.WideShapes Go.ChangeAt Go.RowKit Go.Vm
/-! ### what the bound on the arguments gives, of a room -/
section
variable {H : Type} {enc : TypeId × Value → H} {w : World} {base fuel : Nat} {spare : Nat → Bool} {held : Bool} {cs : List Value} {x : DataW H × List MemPlace}
theorem bulk_rdsR (h : DataW.trod enc Tryz.prog w base spare held fuel 31 cs = some x) {r : Rm} (hv : VRL (gh0 w) r.cs cs) : 3 * r.cu.readings.length ≤ Rows.uptoBulk x.1 := by
  obtain ⟨xs, n, _, rfl, hl, hx, hf⟩ := DataW.trod_struct Tryz.underlying31 h
  have hx2 : xs.length = 4 := hx
  have f0 : DataW.trod enc Tryz.prog w base spare held n 28 ((cs.drop 0).take (Tryz.prog.cellsOf 28)) = xs[0]? := hf 0 _ rfl
  have hc1 : Tryz.prog.cellsOf 28 = 11 := by kernel_rfl
  rw [List.getElem?_eq_getElem (by omega), hc1, List.drop_zero] at f0
  have hp : Rows.uptoBulk xs[0].1 ≤ Rows.uptoBulkAll (xs.map (·.1)) := bulk_part (List.mem_map.2 ⟨xs[0], List.getElem_mem _, rfl⟩)
  have hv2 : VRL (gh0 w) r.cu.cs (cs.take 11) := hv.take 11
  have h2 := bulk_rds f0 hv2
  simp only [Rows.uptoBulk]
  omega
theorem rds_smallR {d : DataW H} {pl : List MemPlace} (h : DataW.trod enc Tryz.prog w base spare held fuel 31 cs = some (d, pl)) {r : Rm} (hv : VRL (gh0 w) r.cs cs) {ds : List (DataW H)} (hb : Rows.uptoBulkAll (d :: ds) ≤ 1048576) : r.cu.readings.length ≤ 999999 := by
  have : 3 * r.cu.readings.length ≤ Rows.uptoBulk d := bulk_rdsR h hv
  simp only [Rows.uptoBulkAll] at hb
  omega
end
end Go.Proofs.YtjppikcigeiomaaGreat

set_option linter.unusedVariables false
set_option linter.unusedSimpArgs false
set_option maxRecDepth 100000
namespace Go.Vm
open Go.Proofs
theorem c_ProvePlan (r : Rm) (hr : r.wf) (plan : List Int) (hp : (plan.length : Int) ≤ 1000000) : Pu Tryz.prog (.fn 62 [] []) [.agg r.cs, vI plan] (.bool (sProveP r plan)) := by
  refine Ev.fn Tryz.func62 rfl rfl (Fn.body tabOk Tryz.func62 rfl (Nat.le_of_ble_eq_true rfl) (Ks.ok (fz := (fzn [])) (cl := (cln [])) tabOk mixed ?_))
  generalize hQ : FnPost tt Tryz.f62 _ _ = Q
  simp only [Tryz.f62, List.nil_append, List.append_nil, argsEnv, Nat.reduceAdd]
  simp only [gos, eq_self, Nat.reduceLT, Nat.reduceEqDiff, reduceCtorEq, reduceIte, ↓reduceIte, tt, vgo, vout, vguard, callOf, vop, ev, cv, vload, newRow, rms]
  refine Cl.pu (c_bKeeps r hr plan hp) ?_ rfl (by simp only [V.into, intoL, vI_into, Bool.and_true, rm_into])
  by_cases h : (sKeepsR r plan).2 = 0
  · have hd : decide ((sKeepsR r plan).2 = 0) = true := by simp [h]
    simp only [gos, eq_self, Nat.reduceLT, Nat.reduceEqDiff, reduceIte, ↓reduceIte, vgo, vout, vguard, callOf, vop, ev, cv, vbin, vint, isShift, isNilConst, hd]
    subst hQ
    exact FnPost.plain trivial (fun h2 e => by first | rfl | (simp only [Tryz.f62, vres, vresL, vres1, e _, gos, if_true, if_false, ne_eq, eq_self, Nat.reduceLT, Nat.reduceEqDiff, Nat.reduceAdd, Nat.reduceMul, Nat.reduceLeDiff, Nat.reduceBEq, reduceCtorEq, reduceIte, Array.toList, ↓reduceIte, tt, vgo, vout, vgoD, voutD, vclsOk, vids, mayWrite, V.ids, V.mids, vguard, callOf, vop, ev, cv, vbin, vint, isShift, isNilConst, vnil, isNilSlice, vload, vlen, newRow, vfill, vslice, entOf, vappend, srcOf, vcopy, vlookup, vupdate, mapOk, keyOf, intsOf, clsAt]; try rfl)) (WkV.pure (by simp only [V.into])) ⟨by simp [sProveP, h], rfl⟩
  · have hd : decide ((sKeepsR r plan).2 = 0) = false := by simp [h]
    simp only [gos, eq_self, Nat.reduceLT, Nat.reduceEqDiff, reduceIte, ↓reduceIte, vgo, vout, vguard, callOf, vop, ev, cv, vbin, vint, isShift, isNilConst, hd]
    subst hQ
    exact FnPost.plain trivial (fun h2 e => by first | rfl | (simp only [Tryz.f62, vres, vresL, vres1, e _, gos, if_true, if_false, ne_eq, eq_self, Nat.reduceLT, Nat.reduceEqDiff, Nat.reduceAdd, Nat.reduceMul, Nat.reduceLeDiff, Nat.reduceBEq, reduceCtorEq, reduceIte, Array.toList, ↓reduceIte, tt, vgo, vout, vgoD, voutD, vclsOk, vids, mayWrite, V.ids, V.mids, vguard, callOf, vop, ev, cv, vbin, vint, isShift, isNilConst, vnil, isNilSlice, vload, vlen, newRow, vfill, vslice, entOf, vappend, srcOf, vcopy, vlookup, vupdate, mapOk, keyOf, intsOf, clsAt]; try rfl)) (WkV.pure (by simp only [V.into])) ⟨by simp [sProveP, h], rfl⟩
end Go.Vm

set_option linter.unusedVariables false
set_option linter.unusedSimpArgs false
set_option maxRecDepth 100000
namespace Go.Vm
/-! ### what is sure in one room and in another -/
theorem check_of {x : Rm} (ha : sAsked x.cu true = 0) (hpl : 0 ≤ x.pl ∧ x.pl ≤ 5) (hbu : 1 ≤ x.bu ∧ x.bu ≤ 9) (hl : x.ba.length ≤ 5) (hb : ∀ b ∈ x.ba, 0 ≤ b.lo ∧ b.lo ≤ b.hi ∧ b.hi ≤ x.cu.last) : sCheckR x = 0 := by
  have h1 : ¬ (sAsked x.cu true ≠ 0) := by simp [ha]
  have h2 : ¬ (5 < x.pl ∨ 5 < (x.ba.length : Int)) := by omega
  have h3 : x.ba.all (sValid x) = true := by
    rw [List.all_eq_true]
    intro b hb2
    have := hb b hb2
    simp only [sValid, Bool.and_eq_true, decide_eq_true_eq]; omega
  have h4 : sIn x.bu 1 9 = true := by simp [sIn]; omega
  rw [sCheckR, if_neg h1, if_neg h2, h3, h4, if_neg (by simp; omega)]
theorem RmOk.check {r : Rm} (k : RmOk r) : sCheckR r = 0 := check_of k.ask k.pl k.bu k.len k.ba
theorem sure_room {r x : Rm} (k : RmOk r) (kx : RmOk x) (hl : x.cu.last = r.cu.last) (hw : x.cu.want = r.cu.want) (hpl : r.pl ≤ x.pl) (hbu : x.bu ≤ r.bu)
    (hT : ∀ w : List Int, rWholes r.cu (rTruths r.cu) r.cu.coal w = 1 → rWholes x.cu (rTruths x.cu) x.cu.coal w = 1)
    {n m : List Int} (h : ∀ i : Nat, (i : Int) ≤ r.cu.last → 0 ≤ gi m i ∧ gi m i ≤ gi n i) (hs : sSureN r n = true) : sSureN x m = true := by
  have hla := k.A.k0.last
  have hbx := kx.bu
  have hbr := k.bu
  simp only [sSureN, Bool.and_eq_true, decide_eq_true_eq] at hs
  have hmul : ∀ i : Nat, (i : Int) ≤ r.cu.last → 0 ≤ x.bu * gi m i ∧ x.bu * gi m i ≤ r.bu * gi n i := fun i hi => by
    have h1 := h i hi
    exact ⟨Int.mul_nonneg (by omega) h1.1, Int.mul_le_mul hbu h1.2 h1.1 (by omega)⟩
  have hp : sPossN x m = true := by
    have hp := hs.1
    rw [sPossN, List.all_eq_true] at hp ⊢
    intro i hi
    rw [hl] at hi
    have hi2 := List.mem_range.1 hi
    have h1 := h i (by omega)
    have h2 := hmul i (by omega)
    have h3 := hp i hi
    simp only [sRoom, Bool.or_eq_true, Bool.and_eq_true, decide_eq_true_eq] at h3 ⊢
    rw [hw]
    rcases h3 with h3 | ⟨h3, h4⟩
    · left; omega
    · right; omega
  simp only [sSureN, Bool.and_eq_true, decide_eq_true_eq]
  refine ⟨hp, ?_⟩
  rw [keV_eq kx (fun i hi => (h i (by omega)).1) hp, hw]
  have hkn := hs.2
  rw [keV_eq k (fun i hi => by have := h i hi; omega) hs.1] at hkn
  refine hT _ (more_one k.A.k0 k.ne (fun i hi => ?_) hkn)
  rw [nb_gi (by omega), nb_gi (by omega)]
  exact hmul i (by omega)
/-! a plan without some baths, by places -/
theorem pk_eq (b : Nat) (p : List Int) : pk b 0 p = ((List.range p.length).filter fun i => b.testBit i).map fun (i : Nat) => gi p i := by
  have e : ∀ n, n ≤ p.length → pk b 0 (p.take n) = ((List.range n).filter fun i => b.testBit i).map fun (i : Nat) => gi p i := by
    intro n
    induction n with
    | zero => intro _; simp [pk]
    | succ n ih =>
      intro hn
      rw [gi_take (by omega), pk_snoc, ih (by omega), List.length_take, Nat.min_eq_left (by omega), Nat.zero_add, List.range_succ, List.filter_append, List.map_append]
      congr 1
      simp only [List.filter_cons, List.filter_nil]
      split <;> rfl
  have := e p.length (Nat.le_refl _)
  rwa [List.take_length] at this
theorem pk_mem {b : Nat} {p : List Int} {x : Int} (h : x ∈ pk b 0 p) : ∃ j : Nat, j < p.length ∧ b.testBit j = true ∧ x = gi p j := by
  rw [pk_eq] at h
  simp only [List.mem_map, List.mem_filter, List.mem_range] at h
  obtain ⟨j, ⟨h1, h2⟩, rfl⟩ := h
  exact ⟨j, h1, h2, rfl⟩
theorem pk_congr {b : Nat} {p q : List Int} (hl : p.length = q.length) (h : ∀ j : Nat, j < p.length → b.testBit j = true → gi p j = gi q j) : pk b 0 p = pk b 0 q := by
  rw [pk_eq, pk_eq, ← hl]
  apply List.map_congr_left
  intro j hj
  simp only [List.mem_filter, List.mem_range] at hj
  exact h j hj.1 hj.2
theorem mem_rSuf (r : Rm) (b : Nat) : ∀ (k i : Nat) (p : List Int), p ∈ rSuf r b k i ↔ p.length = k ∧ ∀ j : Nat, j < k → if b.testBit (i + j) = true then (gR r.ba ((i + j : Nat) : Int)).lo ≤ gi p j ∧ gi p j ≤ (gR r.ba ((i + j : Nat) : Int)).hi else gi p j = 0
  | 0, i, p => by
    simp only [rSuf, List.mem_singleton]
    constructor
    · rintro rfl; exact ⟨rfl, fun j hj => by omega⟩
    · rintro ⟨h, _⟩; exact List.length_eq_zero_iff.1 h
  | k + 1, i, p => by
    have ih := mem_rSuf r b k (i + 1)
    have hgi0 : ∀ (x : Int) (q : List Int), gi (x :: q) (0 : Nat) = x := fun x q => rfl
    have hgis : ∀ (x : Int) (q : List Int) (j : Nat), gi (x :: q) ((j + 1 : Nat) : Int) = gi q j := fun x q j => by simp only [gi, Int.toNat_natCast, List.getD_cons_succ]
    rw [rSuf]
    constructor
    · intro h
      obtain ⟨x, q, hq, rfl, hx⟩ : ∃ x q, q ∈ rSuf r b k (i + 1) ∧ p = x :: q ∧ if b.testBit i = true then (gR r.ba i).lo ≤ x ∧ x ≤ (gR r.ba i).hi else x = 0 := by
        split at h
        · simp only [List.mem_flatMap, List.mem_map] at h
          obtain ⟨x, hx, q, hq, rfl⟩ := h
          rename_i hb
          exact ⟨x, q, hq, rfl, by rw [if_pos hb]; exact mem_rangeI.1 hx⟩
        · obtain ⟨q, hq, rfl⟩ := List.mem_map.1 h
          rename_i hb
          exact ⟨0, q, hq, rfl, by rw [if_neg hb]⟩
      obtain ⟨h1, h2⟩ := (ih q).1 hq
      refine ⟨by simp [h1], fun j hj => ?_⟩
      cases j with
      | zero => rw [Nat.add_zero, hgi0]; exact hx
      | succ j =>
        rw [hgis]
        have := h2 j (by omega)
        rw [show i + 1 + j = i + (j + 1) by omega] at this
        exact this
    · rintro ⟨h1, h2⟩
      cases p with
      | nil => simp at h1
      | cons x q =>
        have h0 := h2 0 (by omega)
        rw [Nat.add_zero, hgi0] at h0
        have hq : q ∈ rSuf r b k (i + 1) := (ih q).2 ⟨by simpa using h1, fun j hj => by
          have := h2 (j + 1) (by omega)
          rw [hgis, show i + (j + 1) = i + 1 + j by omega] at this
          exact this⟩
        split
        · rename_i hb
          rw [if_pos hb] at h0
          simp only [List.mem_flatMap, List.mem_map]
          exact ⟨x, mem_rangeI.2 h0, q, hq, rfl⟩
        · rename_i hb
          rw [if_neg hb] at h0
          exact List.mem_map.2 ⟨q, hq, by rw [h0]⟩
theorem pk_range {r : Rm} (k : RmOk r) {b : Nat} {p : List Int} (hl : p.length = r.ba.length) (h : ∀ j : Nat, j < r.ba.length → b.testBit j = true → (gR r.ba j).lo ≤ gi p j ∧ gi p j ≤ (gR r.ba j).hi) : ∀ x ∈ pk b 0 p, 0 ≤ x ∧ x ≤ r.cu.last := fun x hx => by
  obtain ⟨j, h1, h2, rfl⟩ := pk_mem hx
  have h3 := h j (by omega) h2
  have h4 := k.ba _ (List.mem_of_getElem? (gR_get (show (j : Int) < r.ba.length by omega)))
  omega
theorem rest_iff {r : Rm} (k : RmOk r) {b : Nat} : restN r b = true ↔ ∃ p : List Int, p.length = r.ba.length ∧ (∀ j : Nat, j < r.ba.length → b.testBit j = true → (gR r.ba j).lo ≤ gi p j ∧ gi p j ≤ (gR r.ba j).hi) ∧ sSureN r (cntN (pk b 0 p)) = true := by
  rw [restN, Bool.not_eq_true', List.isEmpty_eq_false_iff]
  constructor
  · intro h
    obtain ⟨p, hp⟩ := List.exists_mem_of_ne_nil _ h
    rw [rSures, rPlansF_suf, List.mem_filter] at hp
    obtain ⟨h1, h2⟩ := hp
    obtain ⟨q, hq, rfl⟩ := List.mem_map.1 h1
    obtain ⟨g1, g2⟩ := (mem_rSuf r b _ _ q).1 hq
    rw [List.nil_append] at h2
    have hin : ∀ j : Nat, j < r.ba.length → b.testBit j = true → (gR r.ba j).lo ≤ gi q j ∧ gi q j ≤ (gR r.ba j).hi := fun j hj hb => by
      have := g2 j hj
      simp only [List.length_nil, Nat.zero_add] at this
      rw [if_pos hb] at this
      exact this
    exact ⟨q, g1, hin, by rw [(num_ref k (pk_range k g1 hin) (rNum_eq r q b)).2.2]; exact h2⟩
  · rintro ⟨p, hl, hin, hs⟩
    let q : List Int := (List.range r.ba.length).map fun j => if b.testBit j = true then gi p j else 0
    have hql : q.length = r.ba.length := by simp [q]
    have hqg : ∀ j : Nat, j < r.ba.length → gi q j = if b.testBit j = true then gi p j else 0 := fun j hj => gi_map hj
    have hpk : pk b 0 q = pk b 0 p := pk_congr (by omega) fun j hj hb => by rw [hqg j (by omega), if_pos hb]
    have hin2 : ∀ j : Nat, j < r.ba.length → b.testBit j = true → (gR r.ba j).lo ≤ gi q j ∧ gi q j ≤ (gR r.ba j).hi := fun j hj hb => by rw [hqg j hj, if_pos hb]; exact hin j hj hb
    refine List.ne_nil_of_mem (a := q) ?_
    rw [rSures, rPlansF_suf, List.mem_filter]
    refine ⟨List.mem_map.2 ⟨q, (mem_rSuf r b _ _ q).2 ⟨hql, fun j hj => ?_⟩, List.nil_append q⟩, ?_⟩
    · simp only [List.length_nil, Nat.zero_add]
      rw [hqg j hj]
      split
      · rename_i hb; exact hin j hj hb
      · rfl
    · rw [← (num_ref k (pk_range k hql hin2) (rNum_eq r q b)).2.2, hpk]
      exact hs
theorem short_len {a b : List Int} (h : lShorter a b = false) : b.length ≤ a.length := by
  simp only [lShorter, Bool.or_eq_false_iff, decide_eq_false_iff_not] at h
  omega
theorem give_le {r x : Rm} (k : RmOk r) (kx : RmOk x) (hr : sSureN r zL = true) (hx : sSureN x zL = true)
    (h : ∀ b, b < 2 ^ r.ba.length → restN r (2 ^ r.ba.length - 1 - b) = true → ∃ c, c < 2 ^ x.ba.length ∧ restN x (2 ^ x.ba.length - 1 - c) = true ∧ (sBits c).length ≤ (sBits b).length) :
    ((giveAll x).getD []).length ≤ ((giveAll r).getD []).length := by
  obtain ⟨b, b1, b2, b3, b4⟩ := give_best k hr
  obtain ⟨d, d1, d2, d3, d4⟩ := give_best kx hx
  obtain ⟨c, c1, c2, c3⟩ := h b b1 b3
  have := short_len (d4 c c1 c2)
  rw [b2, d2]
  simp only [Option.getD_some]
  omega
end Go.Vm

set_option linter.unusedVariables false
set_option linter.unusedSimpArgs false
set_option maxRecDepth 100000
namespace Go.Vm
/-! ### a room whose coppers have more coal, and no readings -/
def rmC (r : Rm) (l : List Int) : Rm := { r with cu := { r.cu with coal := l } }
structure MoreC (r : Rm) (l : List Int) : Prop where
  dry : r.cu.readings = []
  len : (l.length : Int) = r.cu.last + 1
  sh : ∀ x ∈ l, 0 ≤ x ∧ x ≤ r.cu.shovels
  le : ∀ i : Nat, (i : Int) ≤ r.cu.last → gi r.cu.coal i ≤ gi l i
theorem coal_okR {r : Rm} (k : RmOk r) {l : List Int} (h1 : (l.length : Int) = r.cu.last + 1) (h2 : ∀ x ∈ l, 0 ≤ x ∧ x ≤ r.cu.shovels) : CuOk (rmC r l).cu :=
  have k0 := k.A.k0
  ⟨k0.last, k0.rds, k0.most, k0.start, k0.per, k0.shovels, ⟨h1, h2⟩, k0.want, k0.heat, k0.loss, k0.readings, k0.many⟩
theorem rmC_ok {r : Rm} (k : RmOk r) (hd : r.cu.readings = []) {l : List Int} (h1 : (l.length : Int) = r.cu.last + 1) (h2 : ∀ x ∈ l, 0 ≤ x ∧ x ≤ r.cu.shovels) : RmOk (rmC r l) :=
  have ha := dry_asked (coal_okR k h1 h2) hd
  ⟨ha, askOk_of ha, k.pl, k.bu, k.len, k.ba⟩
theorem MoreC.ok {r : Rm} {l : List Int} (M : MoreC r l) (k : RmOk r) : RmOk (rmC r l) := rmC_ok k M.dry M.len M.sh
theorem MoreC.sure {r : Rm} {l : List Int} (M : MoreC r l) (k : RmOk r) {n : List Int} (h0 : ∀ i : Nat, (i : Int) ≤ r.cu.last → 0 ≤ gi n i) (hs : sSureN r n = true) : sSureN (rmC r l) n = true := by
  have k0 := k.A.k0
  have kx := M.ok k
  refine sure_room k kx rfl rfl (Int.le_refl _) (Int.le_refl _) (fun w hw => ?_) (fun i hi => ⟨h0 i hi, Int.le_refl _⟩) hs
  rw [wholes_one k.ne] at hw
  rw [wholes_one kx.ne]
  intro t ht
  rw [truths_dry r.cu (rmC r l).cu rfl rfl M.dry M.dry] at ht
  rw [whole_cu r.cu (rmC r l).cu rfl rfl rfl rfl]
  refine whole_coal k0.per.1 (rTr_ok k0 _ t ht).sc.heat.1 (fun i hi => ?_) (hw t ht)
  have h1 := k0.coal.2 _ (gi_mem (l := r.cu.coal) (i := i) (by have := k0.coal.1; omega))
  exact ⟨h1.1, M.le i (by omega)⟩
theorem zL_ge (i : Nat) : 0 ≤ gi zL i := by rw [zL_gi]; omega
theorem MoreC.rest {r : Rm} {l : List Int} (M : MoreC r l) (k : RmOk r) {b : Nat} (h : restN r b = true) : restN (rmC r l) b = true := by
  obtain ⟨p, h1, h2, h3⟩ := (rest_iff k).1 h
  exact (rest_iff (M.ok k)).2 ⟨p, h1, h2, M.sure k (fun i _ => (num_same k (pk_range k h1 h2) i).2) h3⟩
theorem MoreC.most {r : Rm} {l : List Int} (M : MoreC r l) (k : RmOk r) (hs : sSureN r zL = true) : (mostF r).sum ≤ (mostF (rmC r l)).sum := by
  have kx := M.ok k
  have hx := M.sure k (fun i _ => zL_ge i) hs
  have h1 := (mostF_spec k hs).1
  have h2 : mostF r ∈ sureL (rmC r l) := by
    rw [sureL, List.mem_filter] at h1 ⊢
    refine ⟨h1.1, M.sure k (fun i _ => ?_) h1.2⟩
    rw [pad5_gi]
    exact gi_ge0 (fun y hy => ((digs_mem.1 h1.1).2 y hy).1) i
  rcases (mostF_spec kx hx).2 _ h2 with h | ⟨h, _⟩ <;> omega
theorem giveR_eqC {r : Rm} (k : RmOk r) : sGiveR r = if sSureN r zL = true then ((giveAll r).getD [], 0) else ([], 10) := by rw [sGiveR, if_pos k.check]
theorem cW16_frz (i ver : Nat) (cs : List V) : ∀ l : List Int, frzL i ver cs (cW16 l) = cW16 l
  | [] => rfl
  | x :: l => by
    have := cW16_frz i ver cs l
    simp only [cW16, List.map_cons, frzL, V.frz] at this ⊢
    rw [this]
theorem vW_frz (i ver : Nat) (cs : List V) (l : List Int) : (vW l).frz i ver cs = vW l := by simp only [vW, V.frz, cW16_frz]
end Go.Vm

set_option linter.unusedVariables false
set_option linter.unusedSimpArgs false
set_option maxRecDepth 100000
namespace Go.Vm
/-! ### one more reading -/
def rmRd (r : Rm) (d : Rd) : Rm := { r with cu := cuR r.cu (r.cu.readings ++ [d]) }
theorem known_sure {r : Rm} {d : Rd} (k : RmOk r) (kx : RmOk (rmRd r d)) {n : List Int} (h0 : ∀ i : Nat, (i : Int) ≤ r.cu.last → 0 ≤ gi n i) (hs : sSureN r n = true) : sSureN (rmRd r d) n = true := by
  have T : SubT (rmRd r d).cu r.cu := more_sub k.A.k0 kx.A.k0
  exact sure_room k kx rfl rfl (Int.le_refl _) (Int.le_refl _) (fun w hw => T.wholes kx.ne hw) (fun i hi => ⟨h0 i hi, Int.le_refl _⟩) hs
theorem known_rest {r : Rm} {d : Rd} (k : RmOk r) (kx : RmOk (rmRd r d)) {b : Nat} (h : restN r b = true) : restN (rmRd r d) b = true := by
  obtain ⟨p, h1, h2, h3⟩ := (rest_iff k).1 h
  exact (rest_iff kx).2 ⟨p, h1, h2, known_sure k kx (fun i _ => (num_same k (pk_range k h1 h2) i).2) h3⟩
theorem known_give {r : Rm} {d : Rd} (k : RmOk r) (kx : RmOk (rmRd r d)) (hs : sSureN r zL = true) : sSureN (rmRd r d) zL = true ∧ ((giveAll (rmRd r d)).getD []).length ≤ ((giveAll r).getD []).length :=
  ⟨known_sure k kx (fun i _ => zL_ge i) hs, give_le k kx hs (known_sure k kx (fun i _ => zL_ge i) hs) fun b hb hr => ⟨b, hb, known_rest k kx hr, Nat.le_refl _⟩⟩
theorem known_prove {r : Rm} {d : Rd} (k : RmOk r) (kx : RmOk (rmRd r d)) {plan : List Int} (ha : sAre r plan = true) (hs : sProveP r plan = true) : sProveP (rmRd r d) plan = true := by
  rw [prove_of k.check ha] at hs
  rw [prove_of kx.check (show sAre (rmRd r d) plan = true from ha)]
  obtain ⟨_, h2⟩ := are_ok k ha
  exact known_sure k kx (fun i _ => (num_same k h2 i).2) hs
/-- A room's cells with another slice of readings. -/
def rmRow10' (r : Rm) (v : V) : List V := [vi r.cu.last, vi r.cu.start, vi r.cu.most, vi r.cu.per, vi r.cu.shovels, vI r.cu.coal, vI r.cu.want, vi r.cu.heat.lo, vi r.cu.heat.hi, vR r.cu.loss, v, vi r.bu, vi r.pl, vR r.ba]
theorem rmRow10_frz' (i ver : Nat) (cs : List V) (r : Rm) (v : V) : frzL i ver cs (rmRow10' r v) = rmRow10' r (v.frz i ver cs) := by
  simp only [rmRow10', frzL, vI_frz, vR, V.frz, cR_frz]
end Go.Vm

set_option linter.unusedVariables false
set_option linter.unusedSimpArgs false
set_option maxRecDepth 100000
namespace Go.Vm
open Go.Proofs
theorem cD_oneK : ∀ l : List Rd, oneL (cD l) = true
  | [] => rfl
  | r :: l => by simp only [cD, oneL, V.one, Bool.true_and, cD_oneK l]
set_option maxHeartbeats 8000000 in
theorem l_BathKnown (r : Rm) (hl : I64 r.cu.last) (hrl : r.cu.readings.length ≤ 5864062014634) (d : Rd) (words : List Int) (hw : ∀ x ∈ words, 0 ≤ x ∧ x ≤ 65535) :
    Vm.Fn Tryz.prog 16 [.agg r.cs, .agg d.cs, vW words] [] fun v h' => v = .bool true := by
  refine Fn.body tabOk Tryz.func16 rfl (Nat.le_of_ble_eq_true rfl) (Ks.ok (fz := (fzn [7])) (cl := (cln [(2, .d (tgL [(18, 1), (21, 1)]) [cP, cP, cP, cP, some ([1], [1]), cP, cP, some ([1], [1]), cP, cP, some ([0, 1], [0, 1])]), (3, .ex)])) tabOk mixed ?_)
  generalize hQ : FnPost tt Tryz.f16 _ _ = Q
  simp only [Tryz.f16, argsEnv, Nat.reduceAdd]
  have hD1 : (cD r.cu.readings).length = r.cu.readings.length * 3 := cD_len _
  have tD : List.take (r.cu.readings.length * 3) (cD r.cu.readings) = cD r.cu.readings := List.take_of_length_le (by omega)
  have hone := cD_oneK r.cu.readings
  have hsn : cD r.cu.readings ++ [vi d.hour, vi d.b.lo, vi d.b.hi] = cD (r.cu.readings ++ [d]) := (cD_snoc r.cu.readings d).symm
  have hlen1 : (r.cu.readings ++ [d]).length = r.cu.readings.length + 1 := by simp
  have tD' : List.take ((r.cu.readings.length + 1) * 3) (cD (r.cu.readings ++ [d])) = cD (r.cu.readings ++ [d]) := List.take_of_length_le (by rw [cD_len, hlen1]; omega)
  have e0 : ∀ v : V, List.take 10 r.cs ++ [v] ++ List.drop 11 r.cs = rmRow10' r v := fun v => rfl
  simp only [gos, eq_self, Nat.reduceLT, Nat.reduceEqDiff, Nat.reduceAdd, reduceCtorEq, reduceIte, ↓reduceIte, tt, vgo, vout, vguard, callOf, vop, ev, cv, vload, newRow, rms, Rd.cs]
  refine Wr.draw (by kernel_rfl) ?_
  have hr6 : (r.cu.readings.length + r.cu.readings.length / 4 + 1000) * 24 ≤ 281474976710656 := by clear tD tD' hone hsn hlen1 hD1; omega
  have hr7 : (r.cu.readings.length + 1 + (r.cu.readings.length + 1) / 4 + 1000) * 24 ≤ 281474976710656 := by clear tD tD' hone hsn hlen1 hD1 hr6; omega
  simp only [gos, eq_self, Nat.reduceLT, Nat.reduceEqDiff, Nat.reduceAdd, Nat.reduceMul, Nat.reduceLeDiff, reduceCtorEq, reduceIte, ↓reduceIte, tt, vgoD, voutD, vclsOk, vids, mayWrite, V.ids, vguard, callOf, vop, ev, vload, vfill, vappend, srcOf, clsAt, rms, vD, hD1, hr6, hr7, hone, hsn, e0, ite_self]
  clear hr6 hr7
  refine Wr.at tabOk 0 ?_
  simp only [gos]
  refine Wa.mk (ρ2 := [(2, vW words), (3, .rop r.cs), (7, .rop (rmRd r d).cs)]) (h2 := []) ?_ ?_
  · have e3 : V.ro (r.cu.readings.length + 1) (cD (r.cu.readings ++ [d])) = vD (r.cu.readings ++ [d]) := by rw [vD, hlen1]
    have e5 : rmRow10' r (vD (r.cu.readings ++ [d])) = (rmRd r d).cs := rfl
    refine Wk.trans (Wk.env (ρ' := [(2, vW words), (3, .rop r.cs), (7, .ptr 7 0 0)]) (by simp [subE, Env.get])) ?_
    refine Wk.trans (Wk.freeze 18 rfl rfl (cD_into _ _) rfl) ?_
    simp only [gos, eq_self, Nat.reduceEqDiff, reduceIte, ↓reduceIte, frzE, frzH, Blk.frz, V.frz, rm_frz, rmRow10_frz', vW_frz, tD', e3, e5]
    refine Wk.trans (Wk.freeze 7 rfl rfl (rm_into _ _) rfl) ?_
    simp only [gos, eq_self, reduceIte, ↓reduceIte, frzE, frzH, V.frz, rm_frz, vW_frz]
    exact Wk.env (by simp [subE, Env.get])
  simp only [gos, eq_self, Nat.reduceLT, Nat.reduceEqDiff, reduceCtorEq, reduceIte, ↓reduceIte, tt, vgo, vout, vguard, callOf, vop, ev, vload, rms]
  refine Cl.pu (c_ready9 r hl) ?_ rfl (by simp only [V.into, intoL, Bool.and_true, rm_into])
  cases hrd : sReadyR r with
  | false =>
    simp only [gos, eq_self, Nat.reduceLT, Nat.reduceEqDiff, reduceIte, ↓reduceIte, vgo, vout, vguard, callOf, vop, ev, cv]
    refine Cl.pu c_awake9 ?_
    simp only [gos, eq_self, Nat.reduceLT, reduceIte, ↓reduceIte, vgo, vout, vguard, callOf, vop, ev]
    subst hQ
    exact FnPost.plain trivial (v := .bool true) (fun h2 e => by rfl) WkV.refl rfl
  | true =>
    obtain ⟨hr, h0, k, hb4, hp3⟩ := ready9_ok hl hrd
    have hlx : I64 (rmRd r d).cu.last := hl
    simp only [gos, eq_self, Nat.reduceLT, Nat.reduceEqDiff, reduceCtorEq, reduceIte, ↓reduceIte, tt, vgo, vout, vguard, callOf, vop, ev, vload, rms]
    refine Cl.pu (c_ready9 (rmRd r d) hlx) ?_ rfl (by simp only [V.into, intoL, Bool.and_true, rm_into])
    cases hrx : sReadyR (rmRd r d) with
    | false =>
      simp only [gos, eq_self, Nat.reduceLT, Nat.reduceEqDiff, reduceIte, ↓reduceIte, vgo, vout, vguard, callOf, vop, ev]
      refine Cl.pu c_awake9 ?_
      simp only [gos, eq_self, Nat.reduceLT, reduceIte, ↓reduceIte, vgo, vout, vguard, callOf, vop, ev]
      subst hQ
      exact FnPost.plain trivial (v := .bool true) (fun h2 e => by rfl) WkV.refl rfl
    | true =>
      obtain ⟨hxw, hx0, kx, hxb, hxp⟩ := ready9_ok hlx hrx
      have k0 := k.A.k0
      have hla := k0.last
      have hcl := chosen_len r words
      have ha := chosen_are k hw
      have hp : ((sChosen r words).length : Int) ≤ 1000000 := by omega
      have hkg := known_give k kx
      have hkp := fun (p : List Int) (h : sAre r p = true) => known_prove k kx (plan := p) h
      generalize rmRd r d = x at hxw kx hkg hkp
      simp only [gos, eq_self, Nat.reduceLT, Nat.reduceEqDiff, reduceCtorEq, reduceIte, ↓reduceIte, tt, vgo, vout, vguard, callOf, vop, ev, vload, rms]
      refine Cl.pu (c_Chosen r k words hw) ?_ rfl (by simp only [V.into, intoL, Bool.and_true, rm_into, vW_into])
      generalize sChosen r words = plan at hcl ha hp ⊢
      have hpx := hkp plan ha
      simp only [gos, eq_self, Nat.reduceLT, Nat.reduceEqDiff, reduceCtorEq, reduceIte, ↓reduceIte, tt, vgo, vout, vguard, callOf, vop, ev, vload, rms]
      refine Cl.pu (c_Room r hr) ?_ rfl (by simp only [V.into, intoL, Bool.and_true, rm_into])
      simp only [gos, eq_self, Nat.reduceLT, reduceIte, ↓reduceIte, vgo, vout, vguard, callOf, ev]
      refine Cl.pu (c_bGive r hr) ?_ rfl (by simp only [V.into, intoL, Bool.and_true, rm_into])
      simp only [gos, eq_self, Nat.reduceLT, Nat.reduceEqDiff, reduceCtorEq, reduceIte, ↓reduceIte, tt, vgo, vout, vguard, callOf, vop, ev, vload, rms]
      refine Cl.pu (c_Room x hxw) ?_ rfl (by simp only [V.into, intoL, Bool.and_true, rm_into])
      simp only [gos, eq_self, Nat.reduceLT, reduceIte, ↓reduceIte, vgo, vout, vguard, callOf, ev]
      refine Cl.pu (c_bGive x hxw) ?_ rfl (by simp only [V.into, intoL, Bool.and_true, rm_into])
      rw [giveR_eqC k, giveR_eqC kx]
      have y0 : decide ((0 : Int) = 0) = true := rfl
      have y1 : decide ((10 : Int) = 0) = false := rfl
      have y2 : decide ((10 : Int) = 10) = true := rfl
      cases hs : sSureN r zL with
      | true =>
        obtain ⟨hsx, hle⟩ := hkg hs
        have hle2 : ((((giveAll x).getD []).length : Nat) : Int) ≤ ((((giveAll r).getD []).length : Nat) : Int) := by omega
        rw [hsx]
        simp only [gos, eq_self, Nat.reduceLT, Nat.reduceEqDiff, reduceCtorEq, reduceIte, ↓reduceIte, tt, vgo, vout, vguard, callOf, vop, ev, cv, vbin, vint, isShift, isNilConst, vload, vlen, rms, vI, hle2]
        refine Cl.pu (c_Room r hr) ?_ rfl (by simp only [V.into, intoL, Bool.and_true, rm_into])
        simp only [gos, eq_self, Nat.reduceLT, Nat.reduceEqDiff, reduceIte, ↓reduceIte, vgo, vout, vguard, callOf, vop, ev]
        refine Cl.pu (c_list9 plan hp) ?_ rfl (by simp only [V.into, intoL, cI_into, Bool.and_true])
        simp only [gos, eq_self, Nat.reduceLT, Nat.reduceEqDiff, reduceIte, ↓reduceIte, vgo, vout, vguard, callOf, ev]
        refine Cl.pu (c_ProvePlan r hr plan hp) ?_ rfl (by simp only [V.into, intoL, vI_into, Bool.and_true, rm_into])
        cases hpr : sProveP r plan with
        | false =>
          simp only [gos, eq_self, Nat.reduceLT, Nat.reduceEqDiff, reduceIte, ↓reduceIte, vgo, vout, vguard, callOf, vop, ev, cv]
          refine Cl.pu c_awake9 ?_
          simp only [gos, eq_self, Nat.reduceLT, Nat.reduceEqDiff, reduceIte, ↓reduceIte, vgo, vout, vguard, callOf, vop, ev]
          subst hQ
          exact FnPost.plain trivial (v := .bool true) (fun h2 e => by rfl) WkV.refl rfl
        | true =>
          simp only [gos, eq_self, Nat.reduceLT, Nat.reduceEqDiff, reduceCtorEq, reduceIte, ↓reduceIte, tt, vgo, vout, vguard, callOf, vop, ev, vload, rms]
          refine Cl.pu (c_Room x hxw) ?_ rfl (by simp only [V.into, intoL, Bool.and_true, rm_into])
          simp only [gos, eq_self, Nat.reduceLT, Nat.reduceEqDiff, reduceIte, ↓reduceIte, vgo, vout, vguard, callOf, vop, ev]
          refine Cl.pu (c_list9 plan hp) ?_ rfl (by simp only [V.into, intoL, cI_into, Bool.and_true])
          simp only [gos, eq_self, Nat.reduceLT, Nat.reduceEqDiff, reduceIte, ↓reduceIte, vgo, vout, vguard, callOf, ev]
          refine Cl.pu (c_ProvePlan x hxw plan hp) ?_ rfl (by simp only [V.into, intoL, vI_into, Bool.and_true, rm_into])
          rw [hpx hpr]
          simp only [gos, eq_self, Nat.reduceLT, Nat.reduceEqDiff, reduceIte, ↓reduceIte, vgo, vout, vguard, callOf, vop, ev]
          refine Cl.pu c_awake9 ?_
          simp only [gos, eq_self, Nat.reduceLT, Nat.reduceEqDiff, reduceIte, ↓reduceIte, vgo, vout, vguard, callOf, vop, ev]
          subst hQ
          exact FnPost.plain trivial (v := .bool true) (fun h2 e => by rfl) WkV.refl rfl
      | false =>
        cases hsx : sSureN x zL with
        | true =>
          simp only [gos, eq_self, Nat.reduceLT, Nat.reduceEqDiff, reduceCtorEq, reduceIte, ↓reduceIte, tt, vgo, vout, vguard, callOf, vop, ev, cv, vbin, vint, isShift, isNilConst, vload, rms, vI, y1]
          refine Cl.pu (c_Room r hr) ?_ rfl (by simp only [V.into, intoL, Bool.and_true, rm_into])
          simp only [gos, eq_self, Nat.reduceLT, Nat.reduceEqDiff, reduceIte, ↓reduceIte, vgo, vout, vguard, callOf, vop, ev]
          refine Cl.pu (c_list9 plan hp) ?_ rfl (by simp only [V.into, intoL, cI_into, Bool.and_true])
          simp only [gos, eq_self, Nat.reduceLT, Nat.reduceEqDiff, reduceIte, ↓reduceIte, vgo, vout, vguard, callOf, ev]
          refine Cl.pu (c_ProvePlan r hr plan hp) ?_ rfl (by simp only [V.into, intoL, vI_into, Bool.and_true, rm_into])
          cases hpr : sProveP r plan with
          | false =>
            simp only [gos, eq_self, Nat.reduceLT, Nat.reduceEqDiff, reduceIte, ↓reduceIte, vgo, vout, vguard, callOf, vop, ev, cv]
            refine Cl.pu c_awake9 ?_
            simp only [gos, eq_self, Nat.reduceLT, Nat.reduceEqDiff, reduceIte, ↓reduceIte, vgo, vout, vguard, callOf, vop, ev]
            subst hQ
            exact FnPost.plain trivial (v := .bool true) (fun h2 e => by rfl) WkV.refl rfl
          | true =>
            simp only [gos, eq_self, Nat.reduceLT, Nat.reduceEqDiff, reduceCtorEq, reduceIte, ↓reduceIte, tt, vgo, vout, vguard, callOf, vop, ev, vload, rms]
            refine Cl.pu (c_Room x hxw) ?_ rfl (by simp only [V.into, intoL, Bool.and_true, rm_into])
            simp only [gos, eq_self, Nat.reduceLT, Nat.reduceEqDiff, reduceIte, ↓reduceIte, vgo, vout, vguard, callOf, vop, ev]
            refine Cl.pu (c_list9 plan hp) ?_ rfl (by simp only [V.into, intoL, cI_into, Bool.and_true])
            simp only [gos, eq_self, Nat.reduceLT, Nat.reduceEqDiff, reduceIte, ↓reduceIte, vgo, vout, vguard, callOf, ev]
            refine Cl.pu (c_ProvePlan x hxw plan hp) ?_ rfl (by simp only [V.into, intoL, vI_into, Bool.and_true, rm_into])
            rw [hpx hpr]
            simp only [gos, eq_self, Nat.reduceLT, Nat.reduceEqDiff, reduceIte, ↓reduceIte, vgo, vout, vguard, callOf, vop, ev]
            refine Cl.pu c_awake9 ?_
            simp only [gos, eq_self, Nat.reduceLT, Nat.reduceEqDiff, reduceIte, ↓reduceIte, vgo, vout, vguard, callOf, vop, ev]
            subst hQ
            exact FnPost.plain trivial (v := .bool true) (fun h2 e => by rfl) WkV.refl rfl
        | false =>
          simp only [gos, eq_self, Nat.reduceLT, Nat.reduceEqDiff, reduceCtorEq, reduceIte, ↓reduceIte, tt, vgo, vout, vguard, callOf, vop, ev, cv, vbin, vint, isShift, isNilConst, vload, rms, vI, y1]
          refine Cl.pu (c_Room r hr) ?_ rfl (by simp only [V.into, intoL, Bool.and_true, rm_into])
          simp only [gos, eq_self, Nat.reduceLT, Nat.reduceEqDiff, reduceIte, ↓reduceIte, vgo, vout, vguard, callOf, vop, ev]
          refine Cl.pu (c_list9 plan hp) ?_ rfl (by simp only [V.into, intoL, cI_into, Bool.and_true])
          simp only [gos, eq_self, Nat.reduceLT, Nat.reduceEqDiff, reduceIte, ↓reduceIte, vgo, vout, vguard, callOf, ev]
          refine Cl.pu (c_ProvePlan r hr plan hp) ?_ rfl (by simp only [V.into, intoL, vI_into, Bool.and_true, rm_into])
          cases hpr : sProveP r plan with
          | false =>
            simp only [gos, eq_self, Nat.reduceLT, Nat.reduceEqDiff, reduceIte, ↓reduceIte, vgo, vout, vguard, callOf, vop, ev, cv]
            refine Cl.pu c_awake9 ?_
            simp only [gos, eq_self, Nat.reduceLT, Nat.reduceEqDiff, reduceIte, ↓reduceIte, vgo, vout, vguard, callOf, vop, ev]
            subst hQ
            exact FnPost.plain trivial (v := .bool true) (fun h2 e => by rfl) WkV.refl rfl
          | true =>
            simp only [gos, eq_self, Nat.reduceLT, Nat.reduceEqDiff, reduceCtorEq, reduceIte, ↓reduceIte, tt, vgo, vout, vguard, callOf, vop, ev, vload, rms]
            refine Cl.pu (c_Room x hxw) ?_ rfl (by simp only [V.into, intoL, Bool.and_true, rm_into])
            simp only [gos, eq_self, Nat.reduceLT, Nat.reduceEqDiff, reduceIte, ↓reduceIte, vgo, vout, vguard, callOf, vop, ev]
            refine Cl.pu (c_list9 plan hp) ?_ rfl (by simp only [V.into, intoL, cI_into, Bool.and_true])
            simp only [gos, eq_self, Nat.reduceLT, Nat.reduceEqDiff, reduceIte, ↓reduceIte, vgo, vout, vguard, callOf, ev]
            refine Cl.pu (c_ProvePlan x hxw plan hp) ?_ rfl (by simp only [V.into, intoL, vI_into, Bool.and_true, rm_into])
            rw [hpx hpr]
            simp only [gos, eq_self, Nat.reduceLT, Nat.reduceEqDiff, reduceIte, ↓reduceIte, vgo, vout, vguard, callOf, vop, ev]
            refine Cl.pu c_awake9 ?_
            simp only [gos, eq_self, Nat.reduceLT, Nat.reduceEqDiff, reduceIte, ↓reduceIte, vgo, vout, vguard, callOf, vop, ev]
            subst hQ
            exact FnPost.plain trivial (v := .bool true) (fun h2 e => by rfl) WkV.refl rfl
end Go.Vm
