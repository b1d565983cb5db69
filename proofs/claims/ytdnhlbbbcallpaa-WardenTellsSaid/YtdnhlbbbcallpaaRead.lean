/- The arguments, read. -/
import Derived.Test.YtdnhlbbbcallpaaAlarm
import Derived.Test.YtdnhlbbbcallpaaRows
import Derived.JoinedOf
set_option linter.unnecessarySimpa false
set_option linter.unusedVariables false
set_option linter.unusedSimpArgs false
set_option linter.unusedSectionVars false
set_option linter.deprecated false
/- The arguments of the alarm laws, read. -/
set_option autoImplicit false
set_option linter.unusedVariables false
namespace Go.Proofs.Ytdnhlbbbcallpaa
open Go.Ex Go.Proofs Go.ChangeShapes Go.WideShapes Go.ChangeAt Go.RowKit
set_option maxRecDepth 100000

theorem own : ownKnob Try.prog.godebug = none := by kernel_rfl
theorem laid : laidOutB Try.prog = true := by kernel_rfl

section
variable {H : Type} {enc : TypeId × Value → H} {w : World}
def okTown (t : Town) : Prop := t.name.size ≤ maxLen ∧ (Lit.int .i64 t.place).wf = true ∧ (Lit.int .i64 t.flood).wf = true ∧ (Lit.int .i64 t.lead).wf = true ∧ (Lit.int .i64 t.people).wf = true ∧ (Lit.int .i64 t.watch).wf = true ∧ (Lit.int .i64 t.quorum).wf = true
def okSight (s : Sight) : Prop := (Lit.int .i64 s.crest).wf = true
def okAlarm (s : Alarm) : Prop := (Lit.int .i64 s.level).wf = true ∧ (Lit.int .i64 s.calm).wf = true ∧ (Lit.int .i64 s.thn).wf = true
theorem rd_Town : Rd enc Try.prog w 23 encTown (fun _ => 0) okTown :=
  Rd.map (fun x => ⟨x.1, x.2.1, x.2.2.1, x.2.2.2.1, x.2.2.2.2.1, x.2.2.2.2.2.1, x.2.2.2.2.2.2.1⟩)
    (rd_struct Try.underlying23 (by kernel_rfl) (rdf_cons rfl (n := 1) (by kernel_rfl) (rd_string Try.underlying9) (rdf_cons rfl (n := 1) (by kernel_rfl) (rd_int Try.underlying3) (rdf_cons rfl (n := 1) (by kernel_rfl) (rd_int Try.underlying3) (rdf_cons rfl (n := 1) (by kernel_rfl) (rd_int Try.underlying3) (rdf_cons rfl (n := 1) (by kernel_rfl) (rd_int Try.underlying3) (rdf_cons rfl (n := 1) (by kernel_rfl) (rd_int Try.underlying3) (rdf_cons rfl (n := 1) (by kernel_rfl) (rd_int Try.underlying3) rdf_nil))))))))
    (fun x => rfl) (fun x => Nat.zero_le _) (fun x h => ⟨h.1, h.2.1, h.2.2.1, h.2.2.2.1, h.2.2.2.2.1, h.2.2.2.2.2.1, h.2.2.2.2.2.2.1⟩)
theorem rd_Sight : Rd enc Try.prog w 32 encSight (fun _ => 0) okSight :=
  Rd.map (fun x : Int × Bool × Unit => (⟨x.1, x.2.1⟩ : Sight)) (rd_struct Try.underlying32 (by kernel_rfl) (rdf_cons rfl (n := 1) (by kernel_rfl) (rd_int Try.underlying3) (rdf_cons rfl (n := 1) (by kernel_rfl) (rd_bool Try.underlying4) rdf_nil)))
    (fun x => rfl) (fun x => Nat.zero_le _) (fun x h => h.1)
theorem rd_Alarm : Rd enc Try.prog w 25 encAlarm (fun _ => 0) okAlarm :=
  Rd.map (fun x => ⟨x.1, x.2.1, x.2.2.1⟩) (rd_struct Try.underlying25 (by kernel_rfl) (rdf_cons rfl (n := 1) (by kernel_rfl) (rd_int Try.underlying3) (rdf_cons rfl (n := 1) (by kernel_rfl) (rd_int Try.underlying3) (rdf_cons rfl (n := 1) (by kernel_rfl) (rd_int Try.underlying3) rdf_nil))))
    (fun x => rfl) (fun x => Nat.zero_le _) (fun x h => ⟨h.1, h.2.1, h.2.2.1⟩)
theorem rd_Sights : Rd enc Try.prog w 26 (fun l : List Sight => [.sl 2 (l.map encSight) false]) (fun _ => 0) (fun l => l.length ≤ maxLen ∧ ∀ x ∈ l, okSight x) :=
  Rd.map id (rd_slice Try.underlying26 (by kernel_rfl) (by decide) rd_Sight) (fun x => rfl) (fun x => Nat.zero_le _) (fun x h => h)
end

theorem FN_run {f : FuncId} {args : List AV} {b : Bool} (h : FN E f args [] fun r _ => r = .b b) : ∃ h', runFV E f args [] = some (.b b, h') := by
  obtain ⟨r, h', h1, rfl⟩ := FN_eq E h
  exact ⟨h', h1⟩

theorem VRs.one {Mu : Nat → Prop} {w : World} {x : AV} {v : Value} (h : VR Mu w [] [] x v) : VRs Mu w [] [] [x] [v] := VRs.cons h VRs.nil

end Go.Proofs.Ytdnhlbbbcallpaa
