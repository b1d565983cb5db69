/- exact arithmetic that stops at the ends; comparisons. -/
import Derived.Test.YtfghngkiephakaaEng20
import Derived.Test.YtfghngkiephakaaTb
set_option linter.unnecessarySimpa false
set_option linter.unusedVariables false
set_option linter.unusedSimpArgs false
set_option linter.unusedSectionVars false
set_option linter.deprecated false
set_option autoImplicit false
set_option linter.unusedVariables false
namespace Go.Proofs.Ytfghngkiephakaa
open Go.Ex Go.Proofs
set_option maxHeartbeats 4000000
set_option maxRecDepth 100000
def endI (b : Bool) : Int := if b then -9223372036854775808 else 9223372036854775807
theorem end_run (least : Bool) (st : St) : callV E 46 [.b least] st = some (.i .i64 (endI least), st) := by
  refine call1 E fn46 rfl (by simp -implicitDefEqProofs only [go_sem, Nat.reduceAdd, Nat.reduceBEq, Nat.reduceMul, Nat.reduceLeDiff]) (by simp -implicitDefEqProofs only [go_sem, Nat.reduceAdd, Nat.reduceBEq, Nat.reduceLeDiff]) ?_
  refine FN_enter E fn46 ?_
  simp only [c46, Option.getD, Try.f46]
  cases least
  · simp -implicitDefEqProofs (maxSteps := 1000000) only [go_sem, Nat.reduceAdd, Nat.reduceSub, Nat.reduceBEq, Nat.reduceMul, Nat.reduceLeDiff, Nat.reduceLT, Int.reduceEq, Int.reduceNeg, List.length_map]
    rfl
  · simp -implicitDefEqProofs (maxSteps := 1000000) only [go_sem, Nat.reduceAdd, Nat.reduceSub, Nat.reduceBEq, Nat.reduceMul, Nat.reduceLeDiff, Nat.reduceLT, Int.reduceEq, Int.reduceNeg, List.length_map]
    rfl
@[go_sem] theorem end_s (least : Bool) (st : St) : callV E 46 [.b least] st = some (.i .i64 (endI least), st) := end_run least st
/-- a sum that stops at the ends -/
def sadd (a b : Int) : Int := if ((decide (a < 0) == decide (b < 0)) && !(decide (IntKind.i64.wrap (a + b) < 0) == decide (a < 0))) = true then endI (decide (a < 0)) else IntKind.i64.wrap (a + b)
theorem add_run (a : Int) (b : Int) (st : St) : callV E 19 [.i .i64 a, .i .i64 b] st = some (.i .i64 (sadd a b), st) := by
  refine call1 E fn19 rfl (by simp -implicitDefEqProofs only [go_sem, Nat.reduceAdd, Nat.reduceBEq, Nat.reduceMul, Nat.reduceLeDiff]) (by simp -implicitDefEqProofs only [go_sem, Nat.reduceAdd, Nat.reduceBEq, Nat.reduceLeDiff]) ?_
  refine FN_enter E fn19 ?_
  simp only [c19, Option.getD, Try.f19]
  unfold sadd
  simp -implicitDefEqProofs (maxSteps := 1000000) only [go_sem, Nat.reduceAdd, Nat.reduceSub, Nat.reduceBEq, Nat.reduceMul, Nat.reduceLeDiff, Nat.reduceLT, Int.reduceEq, Int.reduceNeg, List.length_map]
  refine ⟨fun h => ?_, fun h => ?_⟩
  · rw [if_pos h]
  · rw [if_neg (by rw [h]; decide)]
@[go_sem] theorem add_s (a : Int) (b : Int) (st : St) : callV E 19 [.i .i64 a, .i .i64 b] st = some (.i .i64 (sadd a b), st) := add_run a b st
def ssub (a b : Int) : Int := if (!(decide (a < 0) == decide (b < 0)) && !(decide (IntKind.i64.wrap (a - b) < 0) == decide (a < 0))) = true then endI (decide (a < 0)) else IntKind.i64.wrap (a - b)
theorem sub_run (a : Int) (b : Int) (st : St) : callV E 85 [.i .i64 a, .i .i64 b] st = some (.i .i64 (ssub a b), st) := by
  refine call1 E fn85 rfl (by simp -implicitDefEqProofs only [go_sem, Nat.reduceAdd, Nat.reduceBEq, Nat.reduceMul, Nat.reduceLeDiff]) (by simp -implicitDefEqProofs only [go_sem, Nat.reduceAdd, Nat.reduceBEq, Nat.reduceLeDiff]) ?_
  refine FN_enter E fn85 ?_
  simp only [c85, Option.getD, Try.f85]
  unfold ssub
  simp -implicitDefEqProofs (maxSteps := 1000000) only [go_sem, Nat.reduceAdd, Nat.reduceSub, Nat.reduceBEq, Nat.reduceMul, Nat.reduceLeDiff, Nat.reduceLT, Int.reduceEq, Int.reduceNeg, List.length_map]
  refine ⟨fun h => ?_, fun h => ?_⟩
  · rw [if_pos h]
  · rw [if_neg (by rw [h]; decide)]
@[go_sem] theorem sub_s (a : Int) (b : Int) (st : St) : callV E 85 [.i .i64 a, .i .i64 b] st = some (.i .i64 (ssub a b), st) := sub_run a b st
/-- the integers of a word -/
def I64 (n : Int) : Prop := -9223372036854775808 ≤ n ∧ n ≤ 9223372036854775807
theorem wrapI {n : Int} (h : I64 n) : IntKind.i64.wrap n = n := by
  unfold I64 at h; exact wrap64 (by omega) (by omega)
/-- what the wrapped sum is -/
theorem wrap_over {n : Int} (h : 9223372036854775808 ≤ n) (h2 : n < 18446744073709551616) : IntKind.i64.wrap n = n - 18446744073709551616 := by rw [IntKind.wrap_i64]; omega
theorem wrap_under {n : Int} (h : n < -9223372036854775808) (h2 : -18446744073709551616 ≤ n) : IntKind.i64.wrap n = n + 18446744073709551616 := by rw [IntKind.wrap_i64]; omega
theorem sadd_eq {a b : Int} (ha : I64 a) (hb : I64 b) : sadd a b = max (-9223372036854775808) (min 9223372036854775807 (a + b)) := by
  unfold I64 at ha hb
  unfold sadd endI
  by_cases h1 : a + b < -9223372036854775808
  · rw [wrap_under h1 (by omega)]
    have e1 : decide (a < 0) = true := by simp; omega
    have e2 : decide (b < 0) = true := by simp; omega
    have e3 : decide (a + b + 18446744073709551616 < 0) = false := by simp; omega
    rw [e1, e2, e3]; simp; omega
  · by_cases h2 : 9223372036854775807 < a + b
    · rw [wrap_over (by omega) (by omega)]
      have e1 : decide (a < 0) = false := by simp; omega
      have e2 : decide (b < 0) = false := by simp; omega
      have e3 : decide (a + b - 18446744073709551616 < 0) = true := by simp; omega
      rw [e1, e2, e3]; simp; omega
    · rw [wrapI ⟨by omega, by omega⟩]
      have e : (decide (a < 0) == decide (b < 0) && !(decide (a + b < 0) == decide (a < 0))) = false := by
        by_cases g1 : a < 0 <;> by_cases g2 : b < 0 <;> simp [g1, g2] <;> omega
      rw [e]; simp; omega
theorem ssub_eq {a b : Int} (ha : I64 a) (hb : I64 b) : ssub a b = max (-9223372036854775808) (min 9223372036854775807 (a - b)) := by
  unfold I64 at ha hb
  unfold ssub endI
  by_cases h1 : a - b < -9223372036854775808
  · rw [wrap_under h1 (by omega)]
    have e1 : decide (a < 0) = true := by simp; omega
    have e2 : decide (b < 0) = false := by simp; omega
    have e3 : decide (a - b + 18446744073709551616 < 0) = false := by simp; omega
    rw [e1, e2, e3]; simp; omega
  · by_cases h2 : 9223372036854775807 < a - b
    · rw [wrap_over (by omega) (by omega)]
      have e1 : decide (a < 0) = false := by simp; omega
      have e2 : decide (b < 0) = true := by simp; omega
      have e3 : decide (a - b - 18446744073709551616 < 0) = true := by simp; omega
      rw [e1, e2, e3]; simp; omega
    · rw [wrapI ⟨by omega, by omega⟩]
      have e : (!(decide (a < 0) == decide (b < 0)) && !(decide (a - b < 0) == decide (a < 0))) = false := by
        by_cases g1 : a < 0 <;> by_cases g2 : b < 0 <;> simp [g1, g2] <;> omega
      rw [e]; simp; omega
theorem sadd_I (a b : Int) (ha : I64 a) (hb : I64 b) : I64 (sadd a b) := by rw [sadd_eq ha hb]; unfold I64; omega
theorem ssub_I (a b : Int) (ha : I64 a) (hb : I64 b) : I64 (ssub a b) := by rw [ssub_eq ha hb]; unfold I64; omega
end Go.Proofs.Ytfghngkiephakaa
