/- For all towns and lists of sights the law AlarmFalls returns true and leaves its arguments as they were; no condition. -/
import Derived.Test.YtdnhlbbbcallpaaFacts
import Derived.Test.YtdnhlbbbcallpaaRead
set_option linter.unnecessarySimpa false
set_option linter.unusedVariables false
set_option linter.unusedSimpArgs false
set_option linter.unusedSectionVars false
set_option linter.deprecated false
/- The law AlarmFalls: plain facts. -/
set_option autoImplicit false
set_option linter.unusedVariables false
namespace Go.Proofs.Ytdnhlbbbcallpaa
open Go.Ex Go.Proofs

def dem (t : Town) (ss : List Sight) (k : Nat) : Int := match ss[k]? with | some s => demand t s | none => 0
theorem dem_eq (t : Town) (ss : List Sight) (k : Nat) (h : k < ss.length) : dem t ss k = demand t ss[k] := by simp [dem, h]
/-- the hours of calm behind the alarm ahead of sight k -/
def Calm (t : Town) (ss : List Sight) (k : Nat) : Prop :=
  (at' t ss k).calm = 0 ∨ (∃ j, k = j + 1 ∧ (at' t ss k).calm = 1 ∧ (at' t ss k).thn = dem t ss j ∧ (at' t ss k).thn < (at' t ss k).level ∧ (at' t ss j).level = (at' t ss k).level) ∨
  (∃ j, k = j + 2 ∧ (at' t ss k).calm = 2 ∧ (at' t ss k).thn = (if dem t ss j > dem t ss (j + 1) then dem t ss j else dem t ss (j + 1)) ∧ (at' t ss k).thn < (at' t ss k).level ∧ (at' t ss (j + 1)).level = (at' t ss k).level ∧ (at' t ss j).level = (at' t ss k).level)

theorem next_cases (t : Town) (a : Alarm) (s : Sight) : (a.level ≤ demand t s ∧ next t a s = ⟨demand t s, 0, 0⟩) ∨ (demand t s < a.level ∧ next t a s = ⟨a.level, 0, 0⟩) ∨
    (demand t s < a.level ∧ 2 ≤ a.calm ∧ next t a s = ⟨if a.calm ≠ 0 ∧ a.thn > demand t s then a.thn else demand t s, 0, 0⟩) ∨
    (demand t s < a.level ∧ a.calm < 2 ∧ next t a s = ⟨a.level, IntKind.i64.wrap (a.calm + 1), if a.calm ≠ 0 ∧ a.thn > demand t s then a.thn else demand t s⟩) := by
  unfold next
  by_cases c1 : a.level ≤ demand t s
  · rw [if_pos c1]; exact Or.inl ⟨c1, rfl⟩
  · rw [if_neg c1]
    by_cases c2 : 3 ≤ a.level ∧ 0 ≤ s.crest
    · rw [if_pos c2]; exact Or.inr (Or.inl ⟨by omega, rfl⟩)
    · rw [if_neg c2]
      by_cases c3 : 2 ≤ a.calm
      · rw [if_pos c3]; exact Or.inr (Or.inr (Or.inl ⟨by omega, c3, rfl⟩))
      · rw [if_neg c3]; exact Or.inr (Or.inr (Or.inr ⟨by omega, by omega, rfl⟩))

theorem calm_all (t : Town) (ss : List Sight) : ∀ k, k ≤ ss.length → Calm t ss k
  | 0, _ => Or.inl (by rw [at_zero])
  | k + 1, h => by
    have ih := calm_all t ss k (by omega)
    have hr := at_range t ss k (by omega)
    have hs := at_succ t ss k (by omega)
    have hd := dem_eq t ss k (by omega)
    unfold Calm
    rcases next_cases t (at' t ss k) ss[k] with ⟨c, e⟩ | ⟨c, e⟩ | ⟨c, c2, e⟩ | ⟨c, c2, e⟩
    · rw [hs, e]; exact Or.inl rfl
    · rw [hs, e]; exact Or.inl rfl
    · rw [hs, e]; exact Or.inl rfl
    · rcases ih with h0 | ⟨j, rfl, h1, h2, h3, h4⟩ | ⟨j, rfl, h1, _⟩
      · refine Or.inr (Or.inl ⟨k, rfl, ?_⟩)
        rw [hs, e, h0, hd]
        simp only [ne_eq, not_true_eq_false, false_and, if_false]
        exact ⟨by rw [wrap64 (by omega) (by omega)]; rfl, by first | rfl | trivial, c, by first | rfl | trivial⟩
      · refine Or.inr (Or.inr ⟨j, rfl, ?_⟩)
        rw [hs, e, h1, hd]
        simp only [ne_eq]
        rw [h2] at h3 ⊢
        refine ⟨by rw [wrap64 (by omega) (by omega)]; rfl, ?_, ?_, by first | rfl | trivial, h4⟩
        · by_cases hg : dem t ss j > demand t ss[j + 1] <;> simp [hg]
        · by_cases hg : dem t ss j > demand t ss[j + 1] <;> simp [hg] <;> omega
      · omega

/-- a level rises only to what is demanded -/
theorem rises (t : Town) (ss : List Sight) (k : Nat) (hk : k < ss.length) (h : (at' t ss k).level < (at' t ss (k + 1)).level) : (at' t ss (k + 1)).level = demand t ss[k] := by
  have hc := calm_all t ss k (by omega)
  have hs := at_succ t ss k hk
  rcases next_cases t (at' t ss k) ss[k] with ⟨c, e⟩ | ⟨c, e⟩ | ⟨c, c2, e⟩ | ⟨c, c2, e⟩
  · rw [hs, e]
  · rw [hs, e] at h; simp at h
  · rw [hs, e] at h ⊢
    simp only at h ⊢
    by_cases hg : (at' t ss k).calm ≠ 0 ∧ (at' t ss k).thn > demand t ss[k]
    · rw [if_pos hg] at h
      rcases hc with h0 | ⟨j, _, h1, h2, h3, h4⟩ | ⟨j, _, h1, h2, h3, h4⟩
      · exact (hg.1 h0).elim
      · omega
      · omega
    · rw [if_neg hg]
  · rw [hs, e] at h; simp at h

/-- a level falls to the greatest of the last three demands -/
theorem falls (t : Town) (ss : List Sight) (k : Nat) (hk : k < ss.length) (h : (at' t ss (k + 1)).level < (at' t ss k).level) :
    ∃ j, k = j + 3 ∧ (at' t ss (j + 2)).level = (at' t ss k).level ∧ (at' t ss (j + 1)).level = (at' t ss k).level ∧
      (at' t ss (k + 1)).level = (if dem t ss (j + 1) > (if dem t ss (j + 2) > dem t ss k then dem t ss (j + 2) else dem t ss k) then dem t ss (j + 1) else (if dem t ss (j + 2) > dem t ss k then dem t ss (j + 2) else dem t ss k)) := by
  have hc := calm_all t ss k (by omega)
  have hs := at_succ t ss k hk
  have hr1 := at_range t ss (k + 1) (by omega)
  have hd := dem_eq t ss k hk
  rcases next_cases t (at' t ss k) ss[k] with ⟨c, e⟩ | ⟨c, e⟩ | ⟨c, c2, e⟩ | ⟨c, c2, e⟩
  · rw [hs, e] at h; simp only at h; omega
  · rw [hs, e] at h; simp at h
  · rcases hc with h0 | ⟨j, _, h1, h2, h3, h4⟩ | ⟨j, hj, h1, h2, h3, h4, h5⟩
    · omega
    · omega
    · subst hj
      cases j with
      | zero =>
        rw [at_zero] at h5
        have h6 : (at' t ss (0 + 2)).level = 0 := h5.symm
        have := hr1.1
        omega
      | succ j =>
        refine ⟨j, rfl, h4, h5, ?_⟩
        have e2 : dem t ss (j + 1 + 1) = dem t ss (j + 2) := rfl
        rw [hs, e]
        simp only [h1, h2, hd]
        by_cases a1 : dem t ss (j + 1) > dem t ss (j + 1 + 1)
        · rw [if_pos a1]
          by_cases a2 : dem t ss (j + 1) > demand t ss[j + 1 + 2]
          · rw [if_pos ⟨by omega, a2⟩]
            by_cases a3 : dem t ss (j + 2) > demand t ss[j + 1 + 2]
            · rw [if_pos a3, if_pos a1]
            · rw [if_neg a3, if_pos a2]
          · rw [if_neg (fun x => a2 x.2)]
            have a3 : ¬ dem t ss (j + 2) > demand t ss[j + 1 + 2] := by omega
            rw [if_neg a3, if_neg a2]
        · rw [if_neg a1]
          by_cases a2 : dem t ss (j + 1 + 1) > demand t ss[j + 1 + 2]
          · rw [if_pos ⟨by omega, a2⟩, if_pos a2, if_neg a1]
          · rw [if_neg (fun x => a2 x.2)]
            have a3 : ¬ dem t ss (j + 2) > demand t ss[j + 1 + 2] := a2
            have a4 : ¬ dem t ss (j + 1) > demand t ss[j + 1 + 2] := by omega
            rw [if_neg a3, if_neg a4]
  · rw [hs, e] at h; simp at h
end Go.Proofs.Ytdnhlbbbcallpaa
/- The law AlarmFalls: the walk. -/
set_option autoImplicit false
set_option linter.unusedVariables false
namespace Go.Proofs.Ytdnhlbbbcallpaa
open Go.Ex Go.Proofs
set_option maxHeartbeats 4000000
set_option maxRecDepth 100000
theorem alarmFalls_run (t : Town) (ss : List Sight) : FN E 5 [.ag (encTown t), .sl 2 (ss.map encSight) false] [] fun r _ => r = .b true := by
  refine FN_enter E fn5 ?_
  have h0 := small_run
  have hM := fun s st => Demand_run t s st
  simp only [encTown, encAlarm, encSight] at hM
  by_cases hn : 100 < ss.length
  · have e1 : decide ((ss.length : Int) > 100) = true := by simp; omega
    simp only [c5, Option.getD, Try.f5, encTown, encAlarm]
    simp -implicitDefEqProofs only [go_sem, Nat.reduceAdd, Nat.reduceBEq, Nat.reduceMul, Nat.reduceLeDiff, ti3, ti4, ti23, ti32, ti25, ti26, ti28, h0, List.length_map, e1]
  · have e1 : decide ((ss.length : Int) > 100) = false := by simp; omega
    have hR := fun st => run_run t ss (by omega) st
    simp only [encTown] at hR
    have hl : (runs t ⟨0, 0, 0⟩ ss).length = ss.length := runs_length t ss _
    have hrn : ∀ k (h : k < ss.length) h', (runs t ⟨0, 0, 0⟩ ss)[k]'h' = at' t ss (k + 1) := fun k h h' => run_at t ss k h h'
    generalize hrs : runs t ⟨0, 0, 0⟩ ss = rs at hR hl hrn
    simp only [c5, Option.getD, Try.f5, encTown, encAlarm]
    simp -implicitDefEqProofs only [go_sem, Nat.reduceAdd, Nat.reduceBEq, Nat.reduceMul, Nat.reduceLeDiff, ti3, ti4, ti23, ti32, ti25, ti26, ti28, h0, List.length_map, e1, hR, bne_self_eq_false, hl]
    refine EX_for E ss.length (fun k => [(7, .i .i64 (at' t ss k).level), (8, .i .i64 k)]) (fun _ => []) (fun _ => []) (fun _ => True) trivial ?_ (fun k hk _ => ?_)
    · simp only [go_sem, Nat.reduceAdd, Nat.reduceBEq, Nat.reduceMul, Nat.reduceLeDiff, at_zero] <;> rfl
    · by_cases hlt : k < ss.length
      · have e2 : decide ((k : Int) < ss.length) = true := by simp; omega
        have hrow := row_map encSight ss k hlt
        have hrow2 := row_map encAlarm rs k (by omega)
        have hw := wrap64_succ hlt (by omega)
        rw [hrn k hlt] at hrow2
        simp only [encSight, encAlarm] at hrow hrow2
        have hx : (decide ((at' t ss (k + 1)).level > (at' t ss k).level) && (at' t ss (k + 1)).level != demand t ss[k]) = false := by
          simp only [Bool.and_eq_false_iff, decide_eq_false_iff_not, bne_eq_false_iff_eq]
          by_cases c : (at' t ss k).level < (at' t ss (k + 1)).level
          · exact Or.inr (rises t ss k hlt c)
          · exact Or.inl c
        by_cases c : (at' t ss (k + 1)).level < (at' t ss k).level
        · have e3 : decide ((at' t ss (k + 1)).level < (at' t ss k).level) = true := by simp; exact c
          obtain ⟨j, rfl, g1, g2, g3⟩ := falls t ss k hlt c
          have e4 : decide (((j + 3 : Nat) : Int) < 3) = false := by simp; omega
          have hw1 : IntKind.i64.wrap (((j + 3 : Nat) : Int) - 1) = ((j + 2 : Nat) : Int) := by rw [wrap64 (by omega) (by omega)]; omega
          have hw2 : IntKind.i64.wrap (((j + 3 : Nat) : Int) - 2) = ((j + 1 : Nat) : Int) := by rw [wrap64 (by omega) (by omega)]; omega
          have hw3 : IntKind.i64.wrap (((j + 3 : Nat) : Int) - 3) = ((j : Nat) : Int) := by rw [wrap64 (by omega) (by omega)]; omega
          have hr1 := row_map encSight ss (j + 2) (by omega)
          have hr2 := row_map encSight ss (j + 1) (by omega)
          have hs1 := row_map encAlarm rs (j + 2) (by omega)
          have hs2 := row_map encAlarm rs (j + 1) (by omega)
          have hs3 := row_map encAlarm rs j (by omega)
          rw [hrn _ (by omega)] at hs1 hs2 hs3
          simp only [encSight, encAlarm] at hr1 hr2 hs1 hs2 hs3
          simp -implicitDefEqProofs (maxSteps := 1000000) only [go_sem, Nat.reduceAdd, Nat.reduceBEq, Nat.reduceMul, Nat.reduceLeDiff, fn16, ti3, ti4, ti23, ti32, ti25, ti26, ti28, List.length_map, hl, e2, hrow, hrow2, encAlarm, hw, hM, hx, e3, e4, hw1, hw2, hw3, hr1, hr2, hs1, hs2, hs3]
          rw [dem_eq t ss _ (by omega), dem_eq t ss (j + 2) (by omega), dem_eq t ss (j + 3) (by omega)] at g3
          rw [← g3]
          have g2' : (at' t ss (j + 1 + 1)).level = (at' t ss (j + 3)).level := g1
          refine ⟨fun h => ?_, fun _ => ⟨hlt, trivial, trivial⟩⟩
          exfalso
          simp only [Bool.or_eq_true, decide_eq_true_eq, bne_iff_ne, ne_eq] at h
          rcases h with ((h | h) | h) | h
          · omega
          · exact h (by first | rfl | trivial)
          · exact h g2'
          · exact h g2
        · have e3 : decide ((at' t ss (k + 1)).level < (at' t ss k).level) = false := by simp; omega
          simp -implicitDefEqProofs (maxSteps := 1000000) only [go_sem, Nat.reduceAdd, Nat.reduceBEq, Nat.reduceMul, Nat.reduceLeDiff, fn16, ti3, ti4, ti23, ti32, ti25, ti26, ti28, List.length_map, hl, e2, hrow, hrow2, encAlarm, hw, hM, hx, e3]
          exact ⟨hlt, trivial, trivial⟩
      · have e2 : decide ((k : Int) < ss.length) = false := by simp; omega
        simp -implicitDefEqProofs only [go_sem, Nat.reduceAdd, Nat.reduceBEq, Nat.reduceMul, Nat.reduceLeDiff, ti3, ti4, ti23, ti32, ti25, ti26, ti28, List.length_map, hl, e2, encAlarm]
end Go.Proofs.Ytdnhlbbbcallpaa
/- AlarmFalls -/
set_option autoImplicit false
set_option linter.unusedVariables false
namespace Go.Proofs.Ytdnhlbbbcallpaa
open Go.Ex Go.Proofs Go.ChangeShapes Go.WideShapes Go.ChangeAt Go.RowKit
set_option maxRecDepth 100000
theorem alarmFalls_contract (H : Type) (enc : TypeId × Value → H) (W : World) (base : Nat) (args : Array Value) (ds gs : List (DataW H)) (before : List MemPlace)
    (hval : ∀ (j : Nat) t v, Try.f5.params[j]? = some t → args[j]? = some v → Value.okWide Try.prog W .any base t v)
    (hW : DataW.Whole enc Try.prog Try.f5.params.toList Rows.alarmFallsSpec.vars false W args.toList ds gs before) :
    Calls Try.prog 5 args W fun e W' => ∃ v, e = .returned v ∧ Rows.alarmFallsSpec.post enc Try.prog Try.f5 false true false false W args v W' := by
  have hW' := hW
  obtain ⟨pp, qq, hA, _⟩ := hW'
  rw [Try.params5] at hA hval
  obtain ⟨v0, vs0, d0, ds0, p0, q0, ha0, hd0, hp0, h0, r0⟩ := trodAll_cons hA
  obtain ⟨v1, vs1, d1, ds1, p1, q1, ha1, hd1, hp1, h1, r1⟩ := trodAll_cons r0
  obtain ⟨e1, e2, e3⟩ := trodAll_nil r1
  have hargs : args.toList = [v0, v1] := by rw [ha0, ha1, e1]
  have hav : ∀ j : Nat, args[j]? = [v0, v1][j]? := fun j => by rw [← hargs, Array.getElem?_toList]
  obtain ⟨x0, o0, _, k0⟩ := rdv_struct Try.underlying23 (hval 0 23 v0 rfl (hav 0)) h0 rd_Town
  obtain ⟨x1, o1, _, k1⟩ := rdv_slice Try.underlying26 (hval 1 26 v1 rfl (hav 1)) h1 rd_Sights
  obtain ⟨h', hr⟩ := FN_run (alarmFalls_run x0 x1)
  refine law_post (tb := 4) laid ?_ rfl Try.underlying4 (by kernel_rfl) ?_ hW (law_calls runOK (by rw [hargs]; exact VRs.cons k0 (VRs.cons k1 VRs.nil)) hr)
  · intro t ht
    rw [Try.params5] at ht
    have : t = 23 ∨ t = 26 := by simpa using ht
    rcases this with rfl | rfl
    all_goals exact ⟨by kernel_rfl, of_decide_eq_true (by kernel_rfl)⟩
  · intro ds hl
    rw [Try.params5] at hl
    match ds, hl with
    | [a0, a1], _ => rfl
theorem alarmFalls_lifted (os : Os) (started : os.Started) (H : Type) (enc : TypeId × Value → H) :
    ReturnsInHanded {} Try.checked os 5 .any (Rows.alarmFallsSpec.pre6 enc Try.prog Try.f5 Rows.alarmFallsRow.domain false) (Rows.alarmFallsSpec.post enc Try.prog Try.f5 false true false false) := by
  refine returnsInHanded_of_change (C := Try.checked) own started (by kernel_rfl) Try.func5
    (ChangeSpec.witness6 (enc := enc) (C := Try.checked) false ⟨#[], #[.agg #[.string ByteArray.empty, .int .i64 0, .int .i64 0, .int .i64 0, .int .i64 0, .int .i64 0, .int .i64 0], .slice none 0 0], []⟩ 8 (by kernel_rfl) (by kernel_rfl) (by kernel_rfl) (by kernel_rfl)) ?_
  intro W base args ds gs before hval hW _ _
  exact alarmFalls_contract H enc W base args ds gs before hval hW
theorem alarmFalls_holds : Rows.AlarmFallsSaid :=
  OpenClaim.holds_of_wide 5 Try.f5 rfl rfl rfl rfl rfl rfl rfl ⟨rfl, rfl, rfl, rfl, rfl⟩ rfl rfl rfl rfl rfl (by kernel_rfl) Try.func5 (by kernel_rfl)
    (of_decide_eq_true (by kernel_rfl)) (by unfold Func.isWrapper; first | (rw [if_pos (by decide +kernel)]; kernel_rfl) | (rw [if_neg (by decide +kernel)]; exact ⟨rfl, rfl⟩))
    (fun os started H enc _ => alarmFalls_lifted os started H enc)
#print axioms alarmFalls_holds
end Go.Proofs.Ytdnhlbbbcallpaa
