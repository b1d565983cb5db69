/- HarmWorst: the row. -/
import Derived.Test.YtfghngkiephakaaH2
import Derived.Test.YtfghngkiephakaaRdK
set_option linter.unnecessarySimpa false
set_option linter.unusedVariables false
set_option linter.unusedSimpArgs false
set_option linter.unusedSectionVars false
set_option linter.deprecated false
set_option autoImplicit false
set_option linter.unusedVariables false
namespace Go.Proofs.Ytfghngkiephakaa
open Go.Ex Go.Proofs Go.ChangeShapes Go.WideShapes Go.ChangeAt Go.RowKit
set_option maxRecDepth 100000
section
variable {H : Type} {enc : TypeId × Value → H} {w : World}
def okHarm (s : Harm) : Prop := (Lit.int .i64 s.flood).wf = true ∧ (Lit.int .i64 s.spill).wf = true ∧ (Lit.int .i64 s.short).wf = true ∧ (Lit.int .i64 s.moves).wf = true
theorem rd_Harm : Rd enc Try.prog w 25 encHarm (fun _ => 0) okHarm :=
  Rd.map (fun x => ⟨x.1, x.2.1, x.2.2.1, x.2.2.2.1⟩) (rd_struct Try.underlying25 (by kernel_rfl) (rdf_cons rfl (n := 1) (by kernel_rfl) (rd_int Try.underlying3) (rdf_cons rfl (n := 1) (by kernel_rfl) (rd_int Try.underlying3) (rdf_cons rfl (n := 1) (by kernel_rfl) (rd_int Try.underlying3) (rdf_cons rfl (n := 1) (by kernel_rfl) (rd_int Try.underlying3) rdf_nil)))))
    (fun x => rfl) (fun x => Nat.zero_le _) (fun x h => ⟨h.1, h.2.1, h.2.2.1, h.2.2.2.1⟩)
end
theorem harmWorst_rd0 {H : Type} {enc : TypeId × Value → H} {w : World} : Rd enc Try.prog w 22 (fun l : List Harm => [.sl 4 (l.map encHarm) false]) (fun _ => 0) (fun l => l.length ≤ maxLen ∧ ∀ y ∈ l, okHarm y) :=
  Rd.map id (rd_slice Try.underlying22 (by kernel_rfl) (by decide) rd_Harm) (fun x => rfl) (fun x => Nat.zero_le _) (fun x h => h)
theorem harmWorst_contract (H : Type) (enc : TypeId × Value → H) (W : World) (base : Nat) (args : Array Value) (ds gs : List (DataW H)) (before : List MemPlace)
    (hval : ∀ (j : Nat) t v, Try.f3.params[j]? = some t → args[j]? = some v → Value.okWide Try.prog W .any base t v)
    (hW : DataW.Whole enc Try.prog Try.f3.params.toList Rows.harmWorstSpec.vars false W args.toList ds gs before) :
    Calls Try.prog 3 args W fun e W' => ∃ v, e = .returned v ∧ Rows.harmWorstSpec.post enc Try.prog Try.f3 false true false false W args v W' := by
  have hW' := hW
  obtain ⟨pp, qq, hA, _⟩ := hW'
  rw [Try.params3] at hA hval
  obtain ⟨v0, vs0, d0, ds0, p0, q0, ha0, hd0, hp0, h0, r0⟩ := trodAll_cons hA
  obtain ⟨e1, e2, e3⟩ := trodAll_nil r0
  have hargs : args.toList = [v0] := by rw [ha0, e1]
  have hav : ∀ j : Nat, args[j]? = [v0][j]? := fun j => by rw [← hargs, Array.getElem?_toList]
  obtain ⟨x0, o0, _, k0⟩ := rdv_slice Try.underlying22 (hval 0 22 v0 rfl (hav 0)) h0 harmWorst_rd0
  obtain ⟨h', hr⟩ := FN_run (harmWorst_run x0)
  refine law_post (tb := 4) laid ?_ rfl Try.underlying4 (by kernel_rfl) ?_ hW (law_calls runOK (by rw [hargs]; exact VRs.cons k0 VRs.nil) hr)
  · intro t ht
    rw [Try.params3] at ht
    have : t = 22 := by simpa using ht
    rcases this with rfl
    all_goals exact ⟨by kernel_rfl, of_decide_eq_true (by kernel_rfl)⟩
  · intro ds hl
    rw [Try.params3] at hl
    match ds, hl with
    | [a0], _ => rfl
theorem harmWorst_lifted (os : Os) (started : os.Started) (H : Type) (enc : TypeId × Value → H) :
    ReturnsInHanded {} Try.checked os 3 .any (Rows.harmWorstSpec.pre6 enc Try.prog Try.f3 Rows.harmWorstRow.domain false) (Rows.harmWorstSpec.post enc Try.prog Try.f3 false true false false) := by
  refine returnsInHanded_of_change (C := Try.checked) own started (by kernel_rfl) Try.func3
    (ChangeSpec.witness6 (enc := enc) (C := Try.checked) false ⟨#[], #[.slice none 0 0], []⟩ 8 (by kernel_rfl) (by kernel_rfl) (by kernel_rfl) (by kernel_rfl)) ?_
  intro W base args ds gs before hval hW _ _
  exact harmWorst_contract H enc W base args ds gs before hval hW
theorem harmWorst_holds : Rows.HarmWorstSaid :=
  OpenClaim.holds_of_wide 3 Try.f3 rfl rfl rfl rfl rfl rfl rfl ⟨rfl, rfl, rfl, rfl, rfl⟩ rfl rfl rfl rfl rfl (by kernel_rfl) Try.func3 (by kernel_rfl)
    (of_decide_eq_true (by kernel_rfl)) (by unfold Func.isWrapper; first | (rw [if_pos (by decide +kernel)]; kernel_rfl) | (rw [if_neg (by decide +kernel)]; exact ⟨rfl, rfl⟩))
    (fun os started H enc _ => harmWorst_lifted os started H enc)

#print axioms harmWorst_holds
end Go.Proofs.Ytfghngkiephakaa
