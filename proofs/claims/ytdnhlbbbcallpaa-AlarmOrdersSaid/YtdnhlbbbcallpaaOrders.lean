/- For all towns and lists of sights the law AlarmOrders returns true and leaves its arguments as they were; no condition. -/
import Derived.Test.YtdnhlbbbcallpaaFacts
import Derived.Test.YtdnhlbbbcallpaaRead
set_option linter.unnecessarySimpa false
set_option linter.unusedVariables false
set_option linter.unusedSimpArgs false
set_option linter.unusedSectionVars false
set_option linter.deprecated false
set_option autoImplicit false
namespace Go.Proofs.Ytdnhlbbbcallpaa
open Go.Ex Go.Proofs
set_option maxHeartbeats 4000000
set_option maxRecDepth 100000
theorem alarmOrders_run (t : Town) (ss : List Sight) : FN E 4 [.ag (encTown t), .sl 2 (ss.map encSight) false] [] fun r _ => r = .b true := by
  refine FN_enter E fn4 ?_
  have h0 := small_run
  have hM := fun s st => Demand_run t s st
  simp only [encTown, encAlarm, encSight] at hM
  by_cases hn : 100 < ss.length
  · have e1 : decide ((ss.length : Int) > 100) = true := by simp; omega
    simp only [c4, Option.getD, Try.f4, encTown, encAlarm]
    simp -implicitDefEqProofs only [go_sem, Nat.reduceAdd, Nat.reduceBEq, Nat.reduceMul, Nat.reduceLeDiff, ti3, ti4, ti23, ti32, ti25, ti26, ti28, h0, List.length_map, e1]
  · have e1 : decide ((ss.length : Int) > 100) = false := by simp; omega
    have hR := fun st => run_run t ss (by omega) st
    simp only [encTown] at hR
    have hl : (runs t ⟨0, 0, 0⟩ ss).length = ss.length := runs_length t ss _
    have hrn : ∀ k (h : k < ss.length) h', (runs t ⟨0, 0, 0⟩ ss)[k]'h' = at' t ss (k + 1) := fun k h h' => run_at t ss k h h'
    generalize hrs : runs t ⟨0, 0, 0⟩ ss = rs at hR hl hrn
    simp only [c4, Option.getD, Try.f4, encTown, encAlarm]
    simp -implicitDefEqProofs only [go_sem, Nat.reduceAdd, Nat.reduceBEq, Nat.reduceMul, Nat.reduceLeDiff, ti3, ti4, ti23, ti32, ti25, ti26, ti28, h0, List.length_map, e1, hR, bne_self_eq_false, hl]
    refine ⟨fun _ => trivial, fun hL => ?_⟩
    refine EX_for E ss.length (fun k => [(7, .i .i64 k)]) (fun _ => []) (fun _ => []) (fun _ => True) trivial ?_ (fun k hk _ => ?_)
    · simp only [go_sem, Nat.reduceAdd, Nat.reduceBEq, Nat.reduceMul, Nat.reduceLeDiff] <;> rfl
    · by_cases hlt : k < ss.length
      · have e2 : decide ((k : Int) < ss.length) = true := by simp; omega
        have hrow := row_map encSight ss k hlt
        have hrow2 := row_map encAlarm rs k (by omega)
        have hw := wrap64_succ hlt (by omega)
        rw [hrn k hlt] at hrow2
        simp only [encSight, encAlarm] at hrow hrow2
        have hx : (decide (ss[k].crest ≥ 0) && decide (ss[k].crest ≤ IntKind.i64.wrap (t.lead + 1)) && (at' t ss (k + 1)).level != 3 || decide ((at' t ss (k + 1)).level < demand t ss[k])) = false := by
          have g1 := next_ge t (at' t ss k) ss[k]
          have g2 := in_time t ss[k] (at' t ss k) (at_range t ss k hk).2.1
          rw [at_succ t ss k hlt]
          simp only [Bool.or_eq_false_iff, Bool.and_eq_false_iff, decide_eq_false_iff_not, bne_eq_false_iff_eq]
          refine ⟨?_, by omega⟩
          by_cases c1 : 0 ≤ ss[k].crest
          · by_cases c2 : ss[k].crest ≤ IntKind.i64.wrap (t.lead + 1)
            · exact Or.inr (g2 ⟨c1, c2⟩)
            · exact Or.inl (Or.inr c2)
          · exact Or.inl (Or.inl (by omega))
        by_cases hz : k = 0
        · have e4 : ((k : Int) == 0) = true := by simp [hz]
          simp -implicitDefEqProofs (maxSteps := 1000000) only [go_sem, Nat.reduceAdd, Nat.reduceBEq, Nat.reduceMul, Nat.reduceLeDiff, fn16, ti3, ti4, ti23, ti32, ti25, ti26, ti28, List.length_map, hl, e2, hrow, hrow2, encAlarm, hw, hM, hx, e4]
          exact ⟨hlt, trivial, trivial⟩
        · obtain ⟨j, rfl⟩ : ∃ j, k = j + 1 := ⟨k - 1, by omega⟩
          have e4 : (((j + 1 : Nat) : Int) == 0) = false := by simp; omega
          have hw1 : IntKind.i64.wrap (((j + 1 : Nat) : Int) - 1) = (j : Int) := by rw [wrap64 (by omega) (by omega)]; omega
          have hr3 := row_map encAlarm rs j (by omega)
          rw [hrn j (by omega)] at hr3
          simp only [encAlarm] at hr3
          by_cases c1 : (at' t ss (j + 1)).level = 3
          · have e5 : ((at' t ss (j + 1)).level != 3) = false := by simp [c1]
            by_cases c2 : (at' t ss (j + 1 + 1)).level = 3
            · have e6 : ((at' t ss (j + 1 + 1)).level == 3) = true := by simp [c2]
              simp -implicitDefEqProofs (maxSteps := 1000000) only [go_sem, Nat.reduceAdd, Nat.reduceBEq, Nat.reduceMul, Nat.reduceLeDiff, fn16, ti3, ti4, ti23, ti32, ti25, ti26, ti28, List.length_map, hl, e2, hrow, hrow2, hr3, encAlarm, hw, hw1, hM, hx, e4, e5, e6]
              exact ⟨hlt, trivial, trivial⟩
            · have e6 : ((at' t ss (j + 1 + 1)).level == 3) = false := by simp [c2]
              obtain ⟨i, hji, g1, g2, g3⟩ := ends t ss (j + 1) hlt c1 c2
              have hji' : j = i + 2 := by omega
              subst hji'
              have e3 : decide (((i + 2 + 1 : Nat) : Int) < 3) = false := by simp; omega
              have hr1 := row_map encSight ss (i + 2) (by omega)
              have hr2 := row_map encSight ss (i + 1) (by omega)
              simp only [encSight] at hr1 hr2
              have hw2 : IntKind.i64.wrap (((i + 2 + 1 : Nat) : Int) - 2) = ((i + 1 : Nat) : Int) := by rw [wrap64 (by omega) (by omega)]; omega
              have k1 : decide (ss[i + 2 + 1].crest ≥ 0) = false := by have := g1 hlt; simp; omega
              have k2 : decide (ss[i + 2].crest ≥ 0) = false := by have := g2 (by omega); simp; omega
              have k3 : decide (ss[i + 1].crest ≥ 0) = false := by have := g3 (by omega); simp; omega
              have hx' := hx
              rw [k1] at hx'
              simp -implicitDefEqProofs (maxSteps := 1000000) only [go_sem, Nat.reduceAdd, Nat.reduceBEq, Nat.reduceMul, Nat.reduceLeDiff, fn16, ti3, ti4, ti23, ti32, ti25, ti26, ti28, List.length_map, hl, e2, hrow, hrow2, hr3, encAlarm, hw, hw1, hM, e4, e5, e6, e3, hr1, hr2, hw2, k1, k2, k3]
              have g9 := next_ge t (at' t ss (i + 2 + 1)) ss[i + 2 + 1]
              rw [← at_succ t ss (i + 2 + 1) hlt] at g9
              refine ⟨fun h => ?_, fun _ => ⟨hlt, trivial, trivial⟩⟩
              simp only [decide_eq_true_eq] at h
              omega
          · have e5 : ((at' t ss (j + 1)).level != 3) = true := by simp [c1]
            simp -implicitDefEqProofs (maxSteps := 1000000) only [go_sem, Nat.reduceAdd, Nat.reduceBEq, Nat.reduceMul, Nat.reduceLeDiff, fn16, ti3, ti4, ti23, ti32, ti25, ti26, ti28, List.length_map, hl, e2, hrow, hrow2, hr3, encAlarm, hw, hw1, hM, hx, e4, e5]
            exact ⟨hlt, trivial, trivial⟩
      · have e2 : decide ((k : Int) < ss.length) = false := by simp; omega
        simp -implicitDefEqProofs only [go_sem, Nat.reduceAdd, Nat.reduceBEq, Nat.reduceMul, Nat.reduceLeDiff, ti3, ti4, ti23, ti32, ti25, ti26, ti28, List.length_map, hl, e2, encAlarm]
end Go.Proofs.Ytdnhlbbbcallpaa
/- AlarmOrders -/
set_option autoImplicit false
set_option linter.unusedVariables false
namespace Go.Proofs.Ytdnhlbbbcallpaa
open Go.Ex Go.Proofs Go.ChangeShapes Go.WideShapes Go.ChangeAt Go.RowKit
set_option maxRecDepth 100000
theorem alarmOrders_contract (H : Type) (enc : TypeId × Value → H) (W : World) (base : Nat) (args : Array Value) (ds gs : List (DataW H)) (before : List MemPlace)
    (hval : ∀ (j : Nat) t v, Try.f4.params[j]? = some t → args[j]? = some v → Value.okWide Try.prog W .any base t v)
    (hW : DataW.Whole enc Try.prog Try.f4.params.toList Rows.alarmOrdersSpec.vars false W args.toList ds gs before) :
    Calls Try.prog 4 args W fun e W' => ∃ v, e = .returned v ∧ Rows.alarmOrdersSpec.post enc Try.prog Try.f4 false true false false W args v W' := by
  have hW' := hW
  obtain ⟨pp, qq, hA, _⟩ := hW'
  rw [Try.params4] at hA hval
  obtain ⟨v0, vs0, d0, ds0, p0, q0, ha0, hd0, hp0, h0, r0⟩ := trodAll_cons hA
  obtain ⟨v1, vs1, d1, ds1, p1, q1, ha1, hd1, hp1, h1, r1⟩ := trodAll_cons r0
  obtain ⟨e1, e2, e3⟩ := trodAll_nil r1
  have hargs : args.toList = [v0, v1] := by rw [ha0, ha1, e1]
  have hav : ∀ j : Nat, args[j]? = [v0, v1][j]? := fun j => by rw [← hargs, Array.getElem?_toList]
  obtain ⟨x0, o0, _, k0⟩ := rdv_struct Try.underlying23 (hval 0 23 v0 rfl (hav 0)) h0 rd_Town
  obtain ⟨x1, o1, _, k1⟩ := rdv_slice Try.underlying26 (hval 1 26 v1 rfl (hav 1)) h1 rd_Sights
  obtain ⟨h', hr⟩ := FN_run (alarmOrders_run x0 x1)
  refine law_post (tb := 4) laid ?_ rfl Try.underlying4 (by kernel_rfl) ?_ hW (law_calls runOK (by rw [hargs]; exact VRs.cons k0 (VRs.cons k1 VRs.nil)) hr)
  · intro t ht
    rw [Try.params4] at ht
    have : t = 23 ∨ t = 26 := by simpa using ht
    rcases this with rfl | rfl
    all_goals exact ⟨by kernel_rfl, of_decide_eq_true (by kernel_rfl)⟩
  · intro ds hl
    rw [Try.params4] at hl
    match ds, hl with
    | [a0, a1], _ => rfl
theorem alarmOrders_lifted (os : Os) (started : os.Started) (H : Type) (enc : TypeId × Value → H) :
    ReturnsInHanded {} Try.checked os 4 .any (Rows.alarmOrdersSpec.pre6 enc Try.prog Try.f4 Rows.alarmOrdersRow.domain false) (Rows.alarmOrdersSpec.post enc Try.prog Try.f4 false true false false) := by
  refine returnsInHanded_of_change (C := Try.checked) own started (by kernel_rfl) Try.func4
    (ChangeSpec.witness6 (enc := enc) (C := Try.checked) false ⟨#[], #[.agg #[.string ByteArray.empty, .int .i64 0, .int .i64 0, .int .i64 0, .int .i64 0, .int .i64 0, .int .i64 0], .slice none 0 0], []⟩ 8 (by kernel_rfl) (by kernel_rfl) (by kernel_rfl) (by kernel_rfl)) ?_
  intro W base args ds gs before hval hW _ _
  exact alarmOrders_contract H enc W base args ds gs before hval hW
theorem alarmOrders_holds : Rows.AlarmOrdersSaid :=
  OpenClaim.holds_of_wide 4 Try.f4 rfl rfl rfl rfl rfl rfl rfl ⟨rfl, rfl, rfl, rfl, rfl⟩ rfl rfl rfl rfl rfl (by kernel_rfl) Try.func4 (by kernel_rfl)
    (of_decide_eq_true (by kernel_rfl)) (by unfold Func.isWrapper; first | (rw [if_pos (by decide +kernel)]; kernel_rfl) | (rw [if_neg (by decide +kernel)]; exact ⟨rfl, rfl⟩))
    (fun os started H enc _ => alarmOrders_lifted os started H enc)
#print axioms alarmOrders_holds
end Go.Proofs.Ytdnhlbbbcallpaa
