/- HarmOrders: the row. -/
import Derived.Test.YtfghngkiephakaaH3
import Derived.Test.YtfghngkiephakaaRdK
set_option linter.unnecessarySimpa false
set_option linter.unusedVariables false
set_option linter.unusedSimpArgs false
set_option linter.unusedSectionVars false
set_option linter.deprecated false
set_option autoImplicit false
set_option linter.unusedVariables false
namespace Go.Proofs.Ytfghngkiephakaa
open Go.Ex Go.Proofs Go.ChangeShapes Go.WideShapes Go.ChangeAt Go.RowKit
set_option maxRecDepth 100000
section
variable {H : Type} {enc : TypeId × Value → H} {w : World}
def okHarm (s : Harm) : Prop := (Lit.int .i64 s.flood).wf = true ∧ (Lit.int .i64 s.spill).wf = true ∧ (Lit.int .i64 s.short).wf = true ∧ (Lit.int .i64 s.moves).wf = true
theorem rd_Harm : Rd enc Try.prog w 25 encHarm (fun _ => 0) okHarm :=
  Rd.map (fun x => ⟨x.1, x.2.1, x.2.2.1, x.2.2.2.1⟩) (rd_struct Try.underlying25 (by kernel_rfl) (rdf_cons rfl (n := 1) (by kernel_rfl) (rd_int Try.underlying3) (rdf_cons rfl (n := 1) (by kernel_rfl) (rd_int Try.underlying3) (rdf_cons rfl (n := 1) (by kernel_rfl) (rd_int Try.underlying3) (rdf_cons rfl (n := 1) (by kernel_rfl) (rd_int Try.underlying3) rdf_nil)))))
    (fun x => rfl) (fun x => Nat.zero_le _) (fun x h => ⟨h.1, h.2.1, h.2.2.1, h.2.2.2.1⟩)
end
theorem wf_I64 {n : Int} (h : (Lit.int .i64 n).wf = true) : I64 n := by
  simp only [Lit.wf, Bool.and_eq_true, decide_eq_true_eq] at h
  exact h
theorem ok_OKH {x : Harm} (h : okHarm x) : OKH x := ⟨wf_I64 h.1, wf_I64 h.2.1, wf_I64 h.2.2.1, wf_I64 h.2.2.2⟩
theorem harmOrders_contract (H : Type) (enc : TypeId × Value → H) (W : World) (base : Nat) (args : Array Value) (ds gs : List (DataW H)) (before : List MemPlace)
    (hval : ∀ (j : Nat) t v, Try.f4.params[j]? = some t → args[j]? = some v → Value.okWide Try.prog W .any base t v)
    (hW : DataW.Whole enc Try.prog Try.f4.params.toList Rows.harmOrdersSpec.vars false W args.toList ds gs before) :
    Calls Try.prog 4 args W fun e W' => ∃ v, e = .returned v ∧ Rows.harmOrdersSpec.post enc Try.prog Try.f4 false true false false W args v W' := by
  have hW' := hW
  obtain ⟨pp, qq, hA, _⟩ := hW'
  rw [Try.params4] at hA hval
  obtain ⟨v0, vs0, d0, ds0, p0, q0, ha0, hd0, hp0, h0, r0⟩ := trodAll_cons hA
  obtain ⟨v1, vs1, d1, ds1, p1, q1, ha1, hd1, hp1, h1, r1⟩ := trodAll_cons r0
  obtain ⟨v2, vs2, d2, ds2, p2, q2, ha2, hd2, hp2, h2, r2⟩ := trodAll_cons r1
  obtain ⟨e1, e2, e3⟩ := trodAll_nil r2
  have hargs : args.toList = [v0, v1, v2] := by rw [ha0, ha1, ha2, e1]
  have hav : ∀ j : Nat, args[j]? = [v0, v1, v2][j]? := fun j => by rw [← hargs, Array.getElem?_toList]
  obtain ⟨x0, o0, _, k0⟩ := rdv_struct Try.underlying25 (hval 0 25 v0 rfl (hav 0)) h0 rd_Harm
  obtain ⟨x1, o1, _, k1⟩ := rdv_struct Try.underlying25 (hval 1 25 v1 rfl (hav 1)) h1 rd_Harm
  obtain ⟨x2, o2, _, k2⟩ := rdv_struct Try.underlying25 (hval 2 25 v2 rfl (hav 2)) h2 rd_Harm
  obtain ⟨h', hr⟩ := FN_run (harmOrders_run x0 x1 x2 (ok_OKH o0) (ok_OKH o1) (ok_OKH o2))
  refine law_post (tb := 4) laid ?_ rfl Try.underlying4 (by kernel_rfl) ?_ hW (law_calls runOK (by rw [hargs]; exact VRs.cons k0 (VRs.cons k1 (VRs.cons k2 VRs.nil))) hr)
  · intro t ht
    rw [Try.params4] at ht
    have : t = 25 ∨ t = 25 ∨ t = 25 := by simpa using ht
    rcases this with rfl | rfl | rfl
    all_goals exact ⟨by kernel_rfl, of_decide_eq_true (by kernel_rfl)⟩
  · intro ds hl
    rw [Try.params4] at hl
    match ds, hl with
    | [a0, a1, a2], _ => rfl
theorem harmOrders_lifted (os : Os) (started : os.Started) (H : Type) (enc : TypeId × Value → H) :
    ReturnsInHanded {} Try.checked os 4 .any (Rows.harmOrdersSpec.pre6 enc Try.prog Try.f4 Rows.harmOrdersRow.domain false) (Rows.harmOrdersSpec.post enc Try.prog Try.f4 false true false false) := by
  refine returnsInHanded_of_change (C := Try.checked) own started (by kernel_rfl) Try.func4
    (ChangeSpec.witness6 (enc := enc) (C := Try.checked) false ⟨#[], #[.agg #[.int .i64 0, .int .i64 0, .int .i64 0, .int .i64 0], .agg #[.int .i64 0, .int .i64 0, .int .i64 0, .int .i64 0], .agg #[.int .i64 0, .int .i64 0, .int .i64 0, .int .i64 0]], []⟩ 8 (by kernel_rfl) (by kernel_rfl) (by kernel_rfl) (by kernel_rfl)) ?_
  intro W base args ds gs before hval hW _ _
  exact harmOrders_contract H enc W base args ds gs before hval hW
theorem harmOrders_holds : Rows.HarmOrdersSaid :=
  OpenClaim.holds_of_wide 4 Try.f4 rfl rfl rfl rfl rfl rfl rfl ⟨rfl, rfl, rfl, rfl, rfl⟩ rfl rfl rfl rfl rfl (by kernel_rfl) Try.func4 (by kernel_rfl)
    (of_decide_eq_true (by kernel_rfl)) (by unfold Func.isWrapper; first | (rw [if_pos (by decide +kernel)]; kernel_rfl) | (rw [if_neg (by decide +kernel)]; exact ⟨rfl, rfl⟩))
    (fun os started H enc _ => harmOrders_lifted os started H enc)

#print axioms harmOrders_holds
end Go.Proofs.Ytfghngkiephakaa
