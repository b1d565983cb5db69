/- The alarms: what each function computes. -/
import Derived.Test.YtdnhlbbbcallpaaEng19
import Derived.Test.YtdnhlbbbcallpaaTab
set_option linter.unnecessarySimpa false
set_option linter.unusedVariables false
set_option linter.unusedSimpArgs false
set_option linter.unusedSectionVars false
set_option linter.deprecated false
set_option autoImplicit false
namespace Go.Proofs.Ytdnhlbbbcallpaa
open Go.Ex Go.Proofs

structure Town where
  name : ByteArray
  place : Int
  flood : Int
  lead : Int
  people : Int
  watch : Int
  quorum : Int
def encTown (t : Town) : List AV := [.s t.name, .i .i64 t.place, .i .i64 t.flood, .i .i64 t.lead, .i .i64 t.people, .i .i64 t.watch, .i .i64 t.quorum]
structure Sight where
  crest : Int
  quorum : Bool
def encSight (s : Sight) : List AV := [.i .i64 s.crest, .b s.quorum]
structure Alarm where
  level : Int
  calm : Int
  thn : Int
def encAlarm (s : Alarm) : List AV := [.i .i64 s.level, .i .i64 s.calm, .i .i64 s.thn]
def demand (t : Town) (s : Sight) : Int :=
  if 0 ≤ s.crest ∧ s.crest ≤ IntKind.i64.wrap (t.lead + 1) then 3 else if 0 ≤ s.crest ∧ s.crest ≤ IntKind.i64.wrap (IntKind.i64.wrap (2 * t.lead) + 2) then 2 else if 0 ≤ s.crest ∨ s.quorum = true then 1 else 0
def next (t : Town) (a : Alarm) (s : Sight) : Alarm :=
  if a.level ≤ demand t s then ⟨demand t s, 0, 0⟩
  else if 3 ≤ a.level ∧ 0 ≤ s.crest then ⟨a.level, 0, 0⟩
  else if 2 ≤ a.calm then ⟨if a.calm ≠ 0 ∧ a.thn > demand t s then a.thn else demand t s, 0, 0⟩ else ⟨a.level, IntKind.i64.wrap (a.calm + 1), if a.calm ≠ 0 ∧ a.thn > demand t s then a.thn else demand t s⟩
def runs (t : Town) (a : Alarm) : List Sight → List Alarm
  | [] => []
  | s :: r => next t a s :: runs t (next t a s) r
def lastA (t : Town) (a : Alarm) : List Sight → Alarm
  | [] => a
  | s :: r => lastA t (next t a s) r

set_option maxHeartbeats 4000000
set_option maxRecDepth 100000
theorem demand_run (t : Town) (s : Sight) (st : St) : callV E 33 [.ag (encTown t), .ag (encSight s)] st = some (.i .i64 (demand t s), st) := by
  refine call1 E fn33 rfl (by simp -implicitDefEqProofs only [go_sem, Nat.reduceAdd, Nat.reduceBEq, Nat.reduceMul, Nat.reduceLeDiff, encTown, encSight]) (by simp -implicitDefEqProofs only [go_sem, Nat.reduceAdd, Nat.reduceBEq, Nat.reduceLeDiff, encTown, encSight]) ?_
  refine FN_enter E fn33 ?_
  simp only [c33, Option.getD, Try.f33, encTown, encSight]
  simp -implicitDefEqProofs only [go_sem, Nat.reduceAdd, Nat.reduceBEq, Nat.reduceMul, Nat.reduceLeDiff, ti3, ti4, ti23, ti32]
  simp only [demand]
  refine ⟨fun h => ?_, fun h => ⟨fun h2 => ?_, fun h2 => ⟨fun h3 => ?_, fun h3 => ?_⟩⟩⟩ <;> simp_all <;> omega

theorem Demand_run (t : Town) (s : Sight) (st : St) : callV E 16 [.ag (encTown t), .ag (encSight s)] st = some (.i .i64 (demand t s), st) := by
  refine call1 E fn16 rfl (by simp -implicitDefEqProofs only [go_sem, Nat.reduceAdd, Nat.reduceBEq, Nat.reduceMul, Nat.reduceLeDiff, encTown, encSight]) (by simp -implicitDefEqProofs only [go_sem, Nat.reduceAdd, Nat.reduceBEq, Nat.reduceLeDiff, encTown, encSight]) ?_
  refine FN_enter E fn16 ?_
  obtain ⟨r, hr⟩ : ∃ r, r = demand t s := ⟨_, rfl⟩
  rw [← hr]
  simp only [c16, Option.getD, Try.f16, encTown, encSight]
  simp -implicitDefEqProofs only [go_sem, Nat.reduceAdd, Nat.reduceBEq, Nat.reduceMul, Nat.reduceLeDiff, ti3, ti4, ti23, ti32, Option.some.injEq, AV.i.injEq, true_and]
  refine ⟨fun h1 => ⟨fun h2 => ?_, fun h2 => ?_⟩, fun h1 => ⟨fun h2 => ?_, fun h2 => ⟨fun h3 => ?_, fun h3 => ?_⟩⟩⟩
  all_goals
    simp only [Bool.and_eq_true, Bool.and_eq_false_iff, decide_eq_true_eq, decide_eq_false_iff_not, bne_iff_ne, bne_eq_false_iff_eq] at *
    rw [hr]
    unfold demand
    repeat' split
    all_goals first | omega | (simp_all; done) | (simp_all; omega)
theorem next_run (t : Town) (a : Alarm) (s : Sight) (st : St) : callV E 14 [.ag (encTown t), .ag (encAlarm a), .ag (encSight s)] st = some (.ag (encAlarm (next t a s)), st) := by
  refine call1 E fn14 rfl (by simp -implicitDefEqProofs only [go_sem, Nat.reduceAdd, Nat.reduceBEq, Nat.reduceMul, Nat.reduceLeDiff, encTown, encSight, encAlarm]) (by simp -implicitDefEqProofs only [go_sem, Nat.reduceAdd, Nat.reduceBEq, Nat.reduceLeDiff, encTown, encSight, encAlarm]) ?_
  refine FN_enter E fn14 ?_
  have hd := fun st => demand_run t s st
  obtain ⟨r, hr⟩ : ∃ r, r = next t a s := ⟨_, rfl⟩
  rw [← hr]
  simp only [encTown, encSight] at hd
  simp only [c14, Option.getD, Try.f14, encTown, encSight, encAlarm]
  simp -implicitDefEqProofs only [go_sem, Nat.reduceAdd, Nat.reduceBEq, Nat.reduceMul, Nat.reduceLeDiff, ti3, ti4, ti23, ti32, ti25, hd, Option.some.injEq, AV.ag.injEq, List.cons.injEq, AV.i.injEq, true_and, and_true]
  refine ⟨fun h1 => ?_, fun h1 => ⟨fun h2 => ?_, fun h2 => ⟨fun h3 => ⟨fun h4 => ?_, fun h4 => ?_⟩, fun h3 => ⟨fun h4 => ?_, fun h4 => ?_⟩⟩⟩⟩
  all_goals
    simp only [Bool.and_eq_true, Bool.and_eq_false_iff, decide_eq_true_eq, decide_eq_false_iff_not, bne_iff_ne, bne_eq_false_iff_eq] at *
    rw [hr]
    unfold next
    repeat' split
    all_goals first | omega | (simp_all; done) | (simp_all; omega)
theorem Next_run (t : Town) (a : Alarm) (s : Sight) (st : St) : callV E 15 [.ag (encTown t), .ag (encAlarm a), .ag (encSight s)] st = some (.ag (encAlarm (next t a s)), st) := by
  refine call1 E fn15 rfl (by simp -implicitDefEqProofs only [go_sem, Nat.reduceAdd, Nat.reduceBEq, Nat.reduceMul, Nat.reduceLeDiff, encTown, encSight, encAlarm]) (by simp -implicitDefEqProofs only [go_sem, Nat.reduceAdd, Nat.reduceBEq, Nat.reduceLeDiff, encTown, encSight, encAlarm]) ?_
  refine FN_enter E fn15 ?_
  have hd := fun st => Demand_run t s st
  obtain ⟨r, hr⟩ : ∃ r, r = next t a s := ⟨_, rfl⟩
  rw [← hr]
  simp only [encTown, encSight] at hd
  simp only [c15, Option.getD, Try.f15, encTown, encSight, encAlarm]
  simp -implicitDefEqProofs only [go_sem, Nat.reduceAdd, Nat.reduceBEq, Nat.reduceMul, Nat.reduceLeDiff, ti3, ti4, ti23, ti32, ti25, hd, Option.some.injEq, AV.ag.injEq, List.cons.injEq, AV.i.injEq, true_and, and_true]
  refine ⟨fun h1 => ?_, fun h1 => ⟨fun h2 => ?_, fun h2 => ⟨fun h3 => ⟨fun h4 => ?_, fun h4 => ?_⟩, fun h3 => ⟨fun h4 => ?_, fun h4 => ?_⟩⟩⟩⟩
  all_goals
    simp only [Bool.and_eq_true, Bool.and_eq_false_iff, decide_eq_true_eq, decide_eq_false_iff_not, bne_iff_ne, bne_eq_false_iff_eq] at *
    rw [hr]
    unfold next
    repeat' split
    all_goals first | omega | (simp_all; done) | (simp_all; omega)

theorem lastA_take (t : Town) : ∀ (ss : List Sight) (a : Alarm) (k : Nat) (h : k < ss.length), lastA t a (ss.take (k + 1)) = next t (lastA t a (ss.take k)) ss[k]
  | [], a, k, h => by simp at h
  | s :: ss, a, 0, h => by simp [lastA]
  | s :: ss, a, k + 1, h => by
    simp only [List.take_succ_cons, lastA, List.getElem_cons_succ]
    exact lastA_take t ss _ k (by simpa using h)
theorem runs_take (t : Town) : ∀ (ss : List Sight) (a : Alarm) (k : Nat) (h : k < ss.length), (runs t a ss).take (k + 1) = (runs t a ss).take k ++ [next t (lastA t a (ss.take k)) ss[k]]
  | [], a, k, h => by simp at h
  | s :: ss, a, 0, h => by simp [lastA, runs]
  | s :: ss, a, k + 1, h => by
    simp only [List.take_succ_cons, lastA, runs, List.getElem_cons_succ, List.cons_append]
    rw [runs_take t ss _ k (by simpa using h)]
theorem runs_length (t : Town) : ∀ (ss : List Sight) (a : Alarm), (runs t a ss).length = ss.length
  | [], a => rfl
  | s :: ss, a => by simp [runs, runs_length t ss]

theorem run_run (t : Town) (ss : List Sight) (hn : ss.length ≤ 1000) (st : St) : callV E 12 [.ag (encTown t), .sl 2 (ss.map encSight) false] st = some (.sl 3 ((runs t ⟨0, 0, 0⟩ ss).map encAlarm) false, st) := by
  refine call1 E fn12 rfl (by simp -implicitDefEqProofs only [go_sem, Nat.reduceAdd, Nat.reduceBEq, Nat.reduceMul, Nat.reduceLeDiff, encTown, encSight]) (by simp -implicitDefEqProofs only [go_sem, Nat.reduceAdd, Nat.reduceBEq, Nat.reduceLeDiff, encTown, encSight]) ?_
  refine FN_enter E fn12 ?_
  have hd := fun a s st => next_run t a s st
  obtain ⟨r, hr⟩ : ∃ r, r = (runs t ⟨0, 0, 0⟩ ss).map encAlarm := ⟨_, rfl⟩
  rw [← hr]
  simp only [encTown, encSight, encAlarm] at hd
  simp only [c12, Option.getD, Try.f12, encTown]
  simp -implicitDefEqProofs only [go_sem, Nat.reduceAdd, Nat.reduceBEq, Nat.reduceMul, Nat.reduceLeDiff, ti3, ti4, ti23, ti32, ti25, ti26, ti28]
  refine EX_for E ss.length (fun k => [(6, .hs 0 3 0 (((runs t ⟨0, 0, 0⟩ ss).take k).map encAlarm).length (((runs t ⟨0, 0, 0⟩ ss).take k).map encAlarm).length), (11, .i .i64 k)]) (fun k => [(5, encAlarm (lastA t ⟨0, 0, 0⟩ (ss.take k)))])
    (fun k => [.arr 3 (((runs t ⟨0, 0, 0⟩ ss).take k).map encAlarm) true 0]) (fun _ => True) trivial ?_ (fun k hk _ => ?_)
  · simp -implicitDefEqProofs only [go_sem, Nat.reduceAdd, Nat.reduceBEq, Nat.reduceMul, Nat.reduceLeDiff, List.take_zero, List.map_nil, lastA, encAlarm, List.length_map] <;> rfl
  · by_cases hlt : k < ss.length
    · have hrow := row_map encSight ss k hlt
      have e1 : decide ((k : Int) < ss.length) = true := by simp; omega
      have hfit : decide ((((runs t ⟨0, 0, 0⟩ ss).take k).length + 1) * 24 ≤ 35184372088832) = true := by simp [runs_length]; omega
      have hw := wrap64_succ hlt (by omega)
      simp only [encSight] at hrow
      simp -implicitDefEqProofs only [go_sem, Nat.reduceAdd, Nat.reduceBEq, Nat.reduceMul, Nat.reduceLeDiff, ti3, ti4, ti23, ti32, ti25, ti26, ti28, hd, List.length_map, e1, hrow, encAlarm, hfit, hw, runs_take t ss _ k hlt, lastA_take t ss _ k hlt, List.map_append, List.map_cons, List.map_nil, List.length_append]
      exact ⟨hlt, trivial, trivial⟩
    · have e1 : decide ((k : Int) < ss.length) = false := by simp; omega
      have hkn : k = (runs t ⟨0, 0, 0⟩ ss).length := by rw [runs_length]; omega
      simp -implicitDefEqProofs only [go_sem, Nat.reduceAdd, Nat.reduceBEq, Nat.reduceMul, Nat.reduceLeDiff, ti3, ti4, ti23, ti32, ti25, ti26, ti28, hd, List.length_map, e1, encAlarm, Nat.zero_add, List.drop_zero]
      rw [hr, hkn]
      simp [take_len, take_map_len]
theorem Run_run (t : Town) (ss : List Sight) (hn : ss.length ≤ 1000) (st : St) : callV E 13 [.ag (encTown t), .sl 2 (ss.map encSight) false] st = some (.sl 3 ((runs t ⟨0, 0, 0⟩ ss).map encAlarm) false, st) := by
  refine call1 E fn13 rfl (by simp -implicitDefEqProofs only [go_sem, Nat.reduceAdd, Nat.reduceBEq, Nat.reduceMul, Nat.reduceLeDiff, encTown, encSight]) (by simp -implicitDefEqProofs only [go_sem, Nat.reduceAdd, Nat.reduceBEq, Nat.reduceLeDiff, encTown, encSight]) ?_
  refine FN_enter E fn13 ?_
  have hd := fun a s st => Next_run t a s st
  obtain ⟨r, hr⟩ : ∃ r, r = (runs t ⟨0, 0, 0⟩ ss).map encAlarm := ⟨_, rfl⟩
  rw [← hr]
  simp only [encTown, encSight, encAlarm] at hd
  simp only [c13, Option.getD, Try.f13, encTown]
  simp -implicitDefEqProofs only [go_sem, Nat.reduceAdd, Nat.reduceBEq, Nat.reduceMul, Nat.reduceLeDiff, ti3, ti4, ti23, ti32, ti25, ti26, ti28]
  refine EX_for E ss.length (fun k => [(6, .hs 0 3 0 (((runs t ⟨0, 0, 0⟩ ss).take k).map encAlarm).length (((runs t ⟨0, 0, 0⟩ ss).take k).map encAlarm).length), (7, .i .i64 k)]) (fun k => [(5, encAlarm (lastA t ⟨0, 0, 0⟩ (ss.take k)))])
    (fun k => [.arr 3 (((runs t ⟨0, 0, 0⟩ ss).take k).map encAlarm) true 0]) (fun _ => True) trivial ?_ (fun k hk _ => ?_)
  · simp -implicitDefEqProofs only [go_sem, Nat.reduceAdd, Nat.reduceBEq, Nat.reduceMul, Nat.reduceLeDiff, List.take_zero, List.map_nil, lastA, encAlarm, List.length_map] <;> rfl
  · by_cases hlt : k < ss.length
    · have hrow := row_map encSight ss k hlt
      have e1 : decide ((k : Int) < ss.length) = true := by simp; omega
      have hfit : decide ((((runs t ⟨0, 0, 0⟩ ss).take k).length + 1) * 24 ≤ 35184372088832) = true := by simp [runs_length]; omega
      have hw := wrap64_succ hlt (by omega)
      simp only [encSight] at hrow
      simp -implicitDefEqProofs only [go_sem, Nat.reduceAdd, Nat.reduceBEq, Nat.reduceMul, Nat.reduceLeDiff, ti3, ti4, ti23, ti32, ti25, ti26, ti28, hd, List.length_map, e1, hrow, encAlarm, hfit, hw, runs_take t ss _ k hlt, lastA_take t ss _ k hlt, List.map_append, List.map_cons, List.map_nil, List.length_append]
      exact ⟨hlt, trivial, trivial⟩
    · have e1 : decide ((k : Int) < ss.length) = false := by simp; omega
      have hkn : k = (runs t ⟨0, 0, 0⟩ ss).length := by rw [runs_length]; omega
      simp -implicitDefEqProofs only [go_sem, Nat.reduceAdd, Nat.reduceBEq, Nat.reduceMul, Nat.reduceLeDiff, ti3, ti4, ti23, ti32, ti25, ti26, ti28, hd, List.length_map, e1, encAlarm, Nat.zero_add, List.drop_zero]
      rw [hr, hkn]
      simp [take_len, take_map_len]
end Go.Proofs.Ytdnhlbbbcallpaa
set_option autoImplicit false
namespace Go.Proofs.Ytdnhlbbbcallpaa
open Go.Ex Go.Proofs
set_option maxHeartbeats 4000000
set_option maxRecDepth 100000
theorem small_run (st : St) : callV E 11 [] st = some (.b true, st) := by
  refine call1 E fn11 rfl (by simp -implicitDefEqProofs only [go_sem, Nat.reduceAdd, Nat.reduceBEq, Nat.reduceMul, Nat.reduceLeDiff]) (by simp -implicitDefEqProofs only [go_sem, Nat.reduceAdd, Nat.reduceBEq, Nat.reduceLeDiff]) ?_
  refine FN_enter E fn11 ?_
  have hd := run_run ⟨ByteArray.empty, 0, 0, 3, 0, 0, 0⟩ [⟨9, false⟩, ⟨8, false⟩, ⟨4, false⟩, ⟨5, false⟩, ⟨-1, false⟩, ⟨-1, true⟩, ⟨-1, false⟩] (by decide)
  have hr : runs ⟨ByteArray.empty, 0, 0, 3, 0, 0, 0⟩ ⟨0, 0, 0⟩ [⟨9, false⟩, ⟨8, false⟩, ⟨4, false⟩, ⟨5, false⟩, ⟨-1, false⟩, ⟨-1, true⟩, ⟨-1, false⟩] = [⟨1, 0, 0⟩, ⟨2, 0, 0⟩, ⟨3, 0, 0⟩, ⟨3, 0, 0⟩, ⟨3, 1, 0⟩, ⟨3, 2, 1⟩, ⟨1, 0, 0⟩] := by
    simp [runs, next, demand, IntKind.wrap_i64]
  rw [hr] at hd
  simp only [encTown, encSight, encAlarm, List.map_cons, List.map_nil] at hd
  simp only [c11, Option.getD, Try.f11]
  simp -implicitDefEqProofs only [go_sem, Nat.reduceAdd, Nat.reduceBEq, Nat.reduceMul, Nat.reduceLeDiff, ti3, ti4, ti23, ti32, ti25, ti26, ti28, ti51, hd]
  iterate 8
    rw [EX_round]
    simp -implicitDefEqProofs only [go_sem, Nat.reduceAdd, Nat.reduceBEq, Nat.reduceMul, Nat.reduceLeDiff, ti3, ti4, ti23, ti32, ti25, ti26, ti28, ti51, icast, Int.reduceLT, Int.reduceLE, Int.reduceGE, Int.reduceAdd, decide_true, decide_false, wrap64, Int.reduceNeg, row_lit, row_zero, bne_self_eq_false, Int.reduceBNe, Int.reduceGT, Int.reduceGE, Int.zero_add, ge_iff_le, gt_iff_lt, Int.reduceBEq]
end Go.Proofs.Ytdnhlbbbcallpaa
