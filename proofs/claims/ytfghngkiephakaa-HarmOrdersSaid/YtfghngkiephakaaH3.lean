/- HarmOrders: the walk. -/
import Derived.Test.YtfghngkiephakaaH1
import Derived.KernelRfl
set_option linter.unnecessarySimpa false
set_option linter.unusedVariables false
set_option linter.unusedSimpArgs false
set_option linter.unusedSectionVars false
set_option linter.deprecated false
set_option autoImplicit false
set_option linter.unusedVariables false
namespace Go.Proofs.Ytfghngkiephakaa
open Go.Ex Go.Proofs
set_option maxHeartbeats 4000000
set_option maxRecDepth 100000
theorem small33_run' (st : St) : callV E 6 [] st = some (.b true, st) := callV_of_runF fn6 rfl (n := 400) (by kernel_rfl) st
def OKH (x : Harm) : Prop := I64 x.flood ∧ I64 x.spill ∧ I64 x.short ∧ I64 x.moves
def numsH (x y z : Harm) : List Int := [x.flood, x.spill, x.short, x.moves, y.flood, y.spill, y.short, y.moves, z.flood, z.spill, z.short, z.moves]
def plainI (n : Int) : Bool := decide (n ≥ -1152921504606846976) && decide (n ≤ 1152921504606846976)
theorem less_asym {x y : Harm} (h1 : lessH x y = true) : lessH y x = false := by
  rw [Bool.eq_false_iff]; intro h2; rw [less_iff] at h1 h2; omega
theorem less_trans {x y z : Harm} (h1 : lessH x y = true) (h2 : lessH y z = true) : lessH x z = true := by
  rw [less_iff] at h1 h2 ⊢; omega
theorem less_irr (x : Harm) : lessH x x = false := by
  rw [Bool.eq_false_iff]; intro h; rw [less_iff] at h; omega
theorem sadd_plain {a b : Int} (ha : plainI a = true) (hb : plainI b = true) : sadd a b = a + b := by
  simp only [plainI, Bool.and_eq_true, decide_eq_true_eq] at ha hb
  rw [sadd_eq ⟨by omega, by omega⟩ ⟨by omega, by omega⟩]; omega
theorem sadd_comm {a b : Int} (ha : I64 a) (hb : I64 b) : sadd a b = sadd b a := by rw [sadd_eq ha hb, sadd_eq hb ha, Int.add_comm]
theorem sadd_zero {a : Int} (ha : I64 a) : sadd a 0 = a := by
  rw [sadd_eq ha ⟨by decide, by decide⟩]; unfold I64 at ha; omega
theorem add_comm' {x y : Harm} (hx : OKH x) (hy : OKH y) : addH x y = addH y x := by
  unfold addH; rw [sadd_comm hx.1 hy.1, sadd_comm hx.2.1 hy.2.1, sadd_comm hx.2.2.1 hy.2.2.1, sadd_comm hx.2.2.2 hy.2.2.2]
theorem add_zero' {x : Harm} (hx : OKH x) : addH x ⟨0, 0, 0, 0⟩ = x := by
  unfold addH; rw [sadd_zero hx.1, sadd_zero hx.2.1, sadd_zero hx.2.2.1, sadd_zero hx.2.2.2]
theorem less_add {x y z : Harm} (h : (numsH x y z).all plainI = true) : lessH (addH x z) (addH y z) = lessH x y := by
  simp only [numsH, List.all_cons, List.all_nil, Bool.and_true, Bool.and_eq_true] at h
  obtain ⟨a1, a2, a3, a4, b1, b2, b3, b4, c1, c2, c3, c4⟩ := h
  rw [Bool.eq_iff_iff, less_iff, less_iff]
  unfold addH
  simp only [sadd_plain a1 c1, sadd_plain a2 c2, sadd_plain a3 c3, sadd_plain a4 c4, sadd_plain b1 c1, sadd_plain b2 c2, sadd_plain b3 c3, sadd_plain b4 c4]
  omega
theorem less_up {x z : Harm} (hx : OKH x) (hz : OKH z) (h : z.flood ≥ 0 ∧ z.spill ≥ 0 ∧ z.short ≥ 0 ∧ z.moves ≥ 0) : lessH (addH x z) x = false := by
  rw [Bool.eq_false_iff]; intro hl; rw [less_iff] at hl
  unfold addH at hl
  obtain ⟨x1, x2, x3, x4⟩ := hx
  obtain ⟨z1, z2, z3, z4⟩ := hz
  simp only [sadd_eq x1 z1, sadd_eq x2 z2, sadd_eq x3 z3, sadd_eq x4 z4] at hl
  unfold I64 at x1 x2 x3 x4
  omega
theorem harmOrders_run (x y z : Harm) (hx : OKH x) (hy : OKH y) (hz : OKH z) : FN E 4 [.ag (encHarm x), .ag (encHarm y), .ag (encHarm z)] [] fun r _ => r = .b true := by
  refine FN_enter E fn4 ?_
  have h0 := small33_run'
  simp only [c4, Option.getD, Try.f4, encHarm]
  have e1 : (lessH x y && lessH y x || !((x.flood == y.flood && (x.spill == y.spill && (x.short == y.short && x.moves == y.moves))) == (!lessH x y && !lessH y x)) || lessH x y && lessH y z && !lessH x z) = false := by
    cases h1 : lessH x y with
    | true =>
      rw [less_asym h1]
      have hne : (x.flood == y.flood && (x.spill == y.spill && (x.short == y.short && x.moves == y.moves))) = false := by
        rw [Bool.eq_false_iff]; intro h; simp only [Bool.and_eq_true, beq_iff_eq] at h
        rw [less_iff] at h1; omega
      rw [hne]
      cases h2 : lessH y z with
      | true => rw [less_trans h1 h2]; rfl
      | false => rfl
    | false =>
      cases h2 : lessH y x with
      | true =>
        have hne : (x.flood == y.flood && (x.spill == y.spill && (x.short == y.short && x.moves == y.moves))) = false := by
          rw [Bool.eq_false_iff]; intro h; simp only [Bool.and_eq_true, beq_iff_eq] at h
          rw [less_iff] at h2; omega
        rw [hne]; rfl
      | false =>
        have := less_total h1 h2
        subst this
        simp
  have hneg : IntKind.i64.wrap (0 - 1152921504606846976) = -1152921504606846976 := by decide
  simp -implicitDefEqProofs (maxSteps := 1000000) only [go_sem, Nat.reduceAdd, Nat.reduceSub, Nat.reduceBEq, Nat.reduceMul, Nat.reduceLeDiff, Nat.reduceLT, Int.reduceEq, Int.reduceNeg, List.length_map, h0, e1]
  refine EX_for E 12 (fun k => [(12, .b (((numsH x y z).take k).all plainI)), (13, .i .i64 k)]) (fun _ => []) (fun _ => []) (fun _ => True) trivial ?_ (fun k hk _ => ?_)
  · simp only [go_sem, List.take_zero, List.all_nil] <;> rfl
  · have hl12 : (numsH x y z).length = 12 := rfl
    by_cases hlt : k < 12
    · have e2 := dec_t (show (k : Int) < 12 by omega)
      have hw := wrap64_succ hlt (by omega)
      have hrow := row_map enc1 (numsH x y z) k (by omega)
      have hm : (numsH x y z).map enc1 = [[.i .i64 x.flood], [.i .i64 x.spill], [.i .i64 x.short], [.i .i64 x.moves], [.i .i64 y.flood], [.i .i64 y.spill], [.i .i64 y.short], [.i .i64 y.moves], [.i .i64 z.flood], [.i .i64 z.spill], [.i .i64 z.short], [.i .i64 z.moves]] := rfl
      rw [hm] at hrow
      have hnx : ((numsH x y z).take (k + 1)).all plainI = (((numsH x y z).take k).all plainI && decide ((numsH x y z)[k] ≥ -1152921504606846976) && decide ((numsH x y z)[k] ≤ 1152921504606846976)) := by
        rw [List.take_succ_eq_append_getElem (by omega), List.all_append]
        simp only [List.all_cons, List.all_nil, Bool.and_true, plainI, Bool.and_assoc]
        rfl
      simp only [enc1] at hrow
      rw [hnx]
      generalize (numsH x y z)[k] = n at hrow
      simp -implicitDefEqProofs (maxSteps := 1000000) only [go_sem, Nat.reduceAdd, Nat.reduceSub, Nat.reduceBEq, Nat.reduceMul, Nat.reduceLeDiff, Nat.reduceLT, Int.reduceEq, Int.reduceNeg, List.length_map, e2, hw, hrow, hneg]
      exact ⟨hlt, trivial, trivial⟩
    · have e2 := dec_f (show ¬ (k : Int) < 12 by omega)
      have hkn : (numsH x y z).take k = numsH x y z := List.take_of_length_le (by omega)
      rw [hkn]
      have e3 : ((numsH x y z).all plainI && !(lessH x y == lessH (addH x z) (addH y z))) = false := by
        cases h : (numsH x y z).all plainI with
        | false => rfl
        | true => rw [less_add h]; simp
      have e4 : (decide (z.flood ≥ 0) && decide (z.spill ≥ 0) && decide (z.short ≥ 0) && decide (z.moves ≥ 0) && lessH (addH x z) x) = false := by
        cases h : (decide (z.flood ≥ 0) && decide (z.spill ≥ 0) && decide (z.short ≥ 0) && decide (z.moves ≥ 0)) with
        | false => rfl
        | true =>
          simp only [Bool.and_eq_true, decide_eq_true_eq] at h
          rw [less_up hx hz ⟨h.1.1.1, h.1.1.2, h.1.2, h.2⟩]; rfl
      have e5 := add_comm' hx hy
      have e6 := add_zero' hx
      simp -implicitDefEqProofs (maxSteps := 1000000) only [go_sem, Nat.reduceAdd, Nat.reduceSub, Nat.reduceBEq, Nat.reduceMul, Nat.reduceLeDiff, Nat.reduceLT, Int.reduceEq, Int.reduceNeg, List.length_map, e2, e3, e4, e5, e6, beq_self_eq_true]
end Go.Proofs.Ytfghngkiephakaa
