/- For all towns, alarms and lists of sights the law AlarmTells returns true and leaves its arguments as they were; no condition. -/
import Derived.Test.YtdnhlbbbcallpaaAlarm
import Derived.Test.YtdnhlbbbcallpaaRows
import Derived.JoinedOf
set_option linter.unnecessarySimpa false
set_option linter.unusedVariables false
set_option linter.unusedSimpArgs false
set_option linter.unusedSectionVars false
set_option linter.deprecated false
set_option autoImplicit false
namespace Go.Proofs.Ytdnhlbbbcallpaa
open Go.Ex Go.Proofs
set_option maxHeartbeats 4000000
set_option maxRecDepth 100000
theorem alarmTells_run (t : Town) (a : Alarm) (ss : List Sight) : FN E 3 [.ag (encTown t), .ag (encAlarm a), .sl 2 (ss.map encSight) false] [] fun r _ => r = .b true := by
  refine FN_enter E fn3 ?_
  have h0 := small_run
  have hN := fun a s st => next_run t a s st
  have hM := fun a s st => Next_run t a s st
  simp only [encTown, encAlarm, encSight] at hN hM
  by_cases hn : 100 < ss.length
  · have e1 : decide ((ss.length : Int) > 100) = true := by simp; omega
    simp only [c3, Option.getD, Try.f3, encTown, encAlarm]
    simp -implicitDefEqProofs only [go_sem, ti3, ti4, ti23, ti32, ti25, ti26, ti28, Nat.reduceAdd, h0, List.length_map, e1]
  · have e1 : decide ((ss.length : Int) > 100) = false := by simp; omega
    have hR := fun st => run_run t ss (by omega) st
    have hS := fun st => Run_run t ss (by omega) st
    simp only [encTown] at hR hS
    have hl : (runs t ⟨0, 0, 0⟩ ss).length = ss.length := runs_length t ss _
    generalize hrs : runs t ⟨0, 0, 0⟩ ss = rs at hR hS hl
    simp only [c3, Option.getD, Try.f3, encTown, encAlarm]
    simp -implicitDefEqProofs only [go_sem, ti3, ti4, ti23, ti32, ti25, ti26, ti28, Nat.reduceAdd, h0, List.length_map, e1, hR, hS, bne_self_eq_false]
    refine EX_for E ss.length (fun k => [(10, .i .i64 k)]) (fun _ => []) (fun _ => []) (fun _ => True) trivial ?_ (fun k hk _ => ?_)
    · simp -implicitDefEqProofs only [go_sem] <;> rfl
    · by_cases hlt : k < ss.length
      · have e2 : decide ((k : Int) < ss.length) = true := by simp; omega
        have hrow := row_map encSight ss k hlt
        have hrow2 := row_map encAlarm rs k (by omega)
        have hw := wrap64_succ hlt (by omega)
        simp only [encSight, encAlarm] at hrow hrow2
        simp -implicitDefEqProofs (maxSteps := 1000000) only [go_sem, ti3, ti4, ti23, ti32, ti25, ti26, ti28, List.length_map, hl, e2, hrow, hrow2, encAlarm, Nat.reduceAdd, hw, hN, hM]
        exact ⟨hlt, trivial, trivial⟩
      · have e2 : decide ((k : Int) < ss.length) = false := by simp; omega
        simp -implicitDefEqProofs (maxSteps := 1000000) only [go_sem, ti3, ti4, ti23, ti32, ti25, ti26, ti28, List.length_map, hl, e2, encAlarm, Nat.reduceAdd]
end Go.Proofs.Ytdnhlbbbcallpaa
/- The law AlarmTells: for every input the call returns true, and each argument reads as before. -/
set_option autoImplicit false
set_option linter.unusedVariables false
namespace Go.Proofs.Ytdnhlbbbcallpaa
open Go.Ex Go.Proofs Go.ChangeShapes Go.WideShapes Go.ChangeAt Go.RowKit
set_option maxRecDepth 100000

theorem own : ownKnob Try.prog.godebug = none := by kernel_rfl
theorem laid : laidOutB Try.prog = true := by kernel_rfl

section
variable {H : Type} {enc : TypeId × Value → H} {w : World}
def okTown (t : Town) : Prop := t.name.size ≤ maxLen ∧ (Lit.int .i64 t.place).wf = true ∧ (Lit.int .i64 t.flood).wf = true ∧ (Lit.int .i64 t.lead).wf = true ∧ (Lit.int .i64 t.people).wf = true ∧ (Lit.int .i64 t.watch).wf = true ∧ (Lit.int .i64 t.quorum).wf = true
def okSight (s : Sight) : Prop := (Lit.int .i64 s.crest).wf = true
def okAlarm (s : Alarm) : Prop := (Lit.int .i64 s.level).wf = true ∧ (Lit.int .i64 s.calm).wf = true ∧ (Lit.int .i64 s.thn).wf = true
theorem rd_Town : Rd enc Try.prog w 23 encTown (fun _ => 0) okTown :=
  Rd.map (fun x => ⟨x.1, x.2.1, x.2.2.1, x.2.2.2.1, x.2.2.2.2.1, x.2.2.2.2.2.1, x.2.2.2.2.2.2.1⟩)
    (rd_struct Try.underlying23 (by kernel_rfl) (rdf_cons rfl (n := 1) (by kernel_rfl) (rd_string Try.underlying9) (rdf_cons rfl (n := 1) (by kernel_rfl) (rd_int Try.underlying3) (rdf_cons rfl (n := 1) (by kernel_rfl) (rd_int Try.underlying3) (rdf_cons rfl (n := 1) (by kernel_rfl) (rd_int Try.underlying3) (rdf_cons rfl (n := 1) (by kernel_rfl) (rd_int Try.underlying3) (rdf_cons rfl (n := 1) (by kernel_rfl) (rd_int Try.underlying3) (rdf_cons rfl (n := 1) (by kernel_rfl) (rd_int Try.underlying3) rdf_nil))))))))
    (fun x => rfl) (fun x => Nat.zero_le _) (fun x h => ⟨h.1, h.2.1, h.2.2.1, h.2.2.2.1, h.2.2.2.2.1, h.2.2.2.2.2.1, h.2.2.2.2.2.2.1⟩)
theorem rd_Sight : Rd enc Try.prog w 32 encSight (fun _ => 0) okSight :=
  Rd.map (fun x : Int × Bool × Unit => (⟨x.1, x.2.1⟩ : Sight)) (rd_struct Try.underlying32 (by kernel_rfl) (rdf_cons rfl (n := 1) (by kernel_rfl) (rd_int Try.underlying3) (rdf_cons rfl (n := 1) (by kernel_rfl) (rd_bool Try.underlying4) rdf_nil)))
    (fun x => rfl) (fun x => Nat.zero_le _) (fun x h => h.1)
theorem rd_Alarm : Rd enc Try.prog w 25 encAlarm (fun _ => 0) okAlarm :=
  Rd.map (fun x => ⟨x.1, x.2.1, x.2.2.1⟩) (rd_struct Try.underlying25 (by kernel_rfl) (rdf_cons rfl (n := 1) (by kernel_rfl) (rd_int Try.underlying3) (rdf_cons rfl (n := 1) (by kernel_rfl) (rd_int Try.underlying3) (rdf_cons rfl (n := 1) (by kernel_rfl) (rd_int Try.underlying3) rdf_nil))))
    (fun x => rfl) (fun x => Nat.zero_le _) (fun x h => ⟨h.1, h.2.1, h.2.2.1⟩)
theorem rd_Sights : Rd enc Try.prog w 26 (fun l : List Sight => [.sl 2 (l.map encSight) false]) (fun _ => 0) (fun l => l.length ≤ maxLen ∧ ∀ x ∈ l, okSight x) :=
  Rd.map id (rd_slice Try.underlying26 (by kernel_rfl) (by decide) rd_Sight) (fun x => rfl) (fun x => Nat.zero_le _) (fun x h => h)
end

theorem FN_run {f : FuncId} {args : List AV} {b : Bool} (h : FN E f args [] fun r _ => r = .b b) : ∃ h', runFV E f args [] = some (.b b, h') := by
  obtain ⟨r, h', h1, rfl⟩ := FN_eq E h
  exact ⟨h', h1⟩

theorem VRs.one {Mu : Nat → Prop} {w : World} {x : AV} {v : Value} (h : VR Mu w [] [] x v) : VRs Mu w [] [] [x] [v] := VRs.cons h VRs.nil

theorem alarmTells_contract (H : Type) (enc : TypeId × Value → H) (W : World) (base : Nat) (args : Array Value) (ds gs : List (DataW H)) (before : List MemPlace)
    (hval : ∀ (j : Nat) t v, Try.f3.params[j]? = some t → args[j]? = some v → Value.okWide Try.prog W .any base t v)
    (hW : DataW.Whole enc Try.prog Try.f3.params.toList Rows.alarmTellsSpec.vars false W args.toList ds gs before) :
    Calls Try.prog 3 args W fun e W' => ∃ v, e = .returned v ∧ Rows.alarmTellsSpec.post enc Try.prog Try.f3 false true false false W args v W' := by
  have hW' := hW
  obtain ⟨pp, qq, hA, _⟩ := hW'
  rw [Try.params3] at hA hval
  obtain ⟨v0, vs0, d0, ds0, p0, q0, ha0, hd0, hp0, h0, r0⟩ := trodAll_cons hA
  obtain ⟨v1, vs1, d1, ds1, p1, q1, ha1, hd1, hp1, h1, r1⟩ := trodAll_cons r0
  obtain ⟨v2, vs2, d2, ds2, p2, q2, ha2, hd2, hp2, h2, r2⟩ := trodAll_cons r1
  obtain ⟨e1, e2, e3⟩ := trodAll_nil r2
  have hargs : args.toList = [v0, v1, v2] := by rw [ha0, ha1, ha2, e1]
  have hav : ∀ j : Nat, args[j]? = [v0, v1, v2][j]? := fun j => by rw [← hargs, Array.getElem?_toList]
  obtain ⟨x0, o0, _, k0⟩ := rdv_struct Try.underlying23 (hval 0 23 v0 rfl (hav 0)) h0 rd_Town
  obtain ⟨x1, o1, _, k1⟩ := rdv_struct Try.underlying25 (hval 1 25 v1 rfl (hav 1)) h1 rd_Alarm
  obtain ⟨x2, o2, _, k2⟩ := rdv_slice Try.underlying26 (hval 2 26 v2 rfl (hav 2)) h2 rd_Sights
  obtain ⟨h', hr⟩ := FN_run (alarmTells_run x0 x1 x2)
  refine law_post (tb := 4) laid ?_ rfl Try.underlying4 (by kernel_rfl) ?_ hW (law_calls runOK (by rw [hargs]; exact VRs.cons k0 (VRs.cons k1 (VRs.one k2))) hr)
  · intro t ht
    have : t = 23 ∨ t = 25 ∨ t = 26 := by rw [Try.params3] at ht; simpa using ht
    rcases this with rfl | rfl | rfl
    · exact ⟨by kernel_rfl, of_decide_eq_true (by kernel_rfl)⟩
    · exact ⟨by kernel_rfl, of_decide_eq_true (by kernel_rfl)⟩
    · exact ⟨by kernel_rfl, of_decide_eq_true (by kernel_rfl)⟩
  · intro ds hl
    rw [Try.params3] at hl
    match ds, hl with
    | [a, b, c], _ => rfl

theorem alarmTells_lifted (os : Os) (started : os.Started) (H : Type) (enc : TypeId × Value → H) :
    ReturnsInHanded {} Try.checked os 3 .any (Rows.alarmTellsSpec.pre6 enc Try.prog Try.f3 Rows.alarmTellsRow.domain false) (Rows.alarmTellsSpec.post enc Try.prog Try.f3 false true false false) := by
  refine returnsInHanded_of_change (C := Try.checked) own started (by kernel_rfl) Try.func3
    (ChangeSpec.witness6 (enc := enc) (C := Try.checked) false ⟨#[], #[.agg #[.string ByteArray.empty, .int .i64 0, .int .i64 0, .int .i64 0, .int .i64 0, .int .i64 0, .int .i64 0], .agg #[.int .i64 0, .int .i64 0, .int .i64 0], .slice none 0 0], []⟩ 8 (by kernel_rfl) (by kernel_rfl) (by kernel_rfl) (by kernel_rfl)) ?_
  intro W base args ds gs before hval hW _ _
  exact alarmTells_contract H enc W base args ds gs before hval hW

theorem alarmTells_holds : Rows.AlarmTellsSaid :=
  OpenClaim.holds_of_wide 3 Try.f3 rfl rfl rfl rfl rfl rfl rfl ⟨rfl, rfl, rfl, rfl, rfl⟩ rfl rfl rfl rfl rfl (by kernel_rfl) Try.func3 (by kernel_rfl)
    (of_decide_eq_true (by kernel_rfl)) (by unfold Func.isWrapper; first | (rw [if_pos (by decide +kernel)]; kernel_rfl) | (rw [if_neg (by decide +kernel)]; exact ⟨rfl, rfl⟩))
    (fun os started H enc _ => alarmTells_lifted os started H enc)
#print axioms alarmTells_holds
end Go.Proofs.Ytdnhlbbbcallpaa
