/- The arguments of the warden laws, read. -/
import Derived.Test.YtdnhlbbbcallpaaPosts2
import Derived.Test.YtdnhlbbbcallpaaRead
set_option linter.unnecessarySimpa false
set_option linter.unusedVariables false
set_option linter.unusedSimpArgs false
set_option linter.unusedSectionVars false
set_option linter.deprecated false
/- The arguments of the warden laws, read. -/
set_option autoImplicit false
set_option linter.unusedVariables false
namespace Go.Proofs.Ytdnhlbbbcallpaa
open Go.Ex Go.Proofs Go.ChangeShapes Go.WideShapes Go.ChangeAt Go.RowKit
set_option maxRecDepth 100000
section
variable {H : Type} {enc : TypeId × Value → H} {w : World}
def okCL (s : CL) : Prop := (Lit.int .i64 s.town).wf = true ∧ (Lit.int .i64 s.level).wf = true ∧ (Lit.int .i64 s.number).wf = true ∧ (Lit.int .i64 s.warden).wf = true
def okWS (s : WS) : Prop := (Lit.int .i64 s.act).wf = true ∧ (Lit.int .i64 s.town).wf = true ∧ (Lit.int .i64 s.level).wf = true ∧ (Lit.int .i64 s.hour).wf = true ∧ okCL s.call
theorem rd_CL : Rd enc Try.prog w 42 encCL (fun _ => 0) okCL :=
  Rd.map (fun x => ⟨x.1, x.2.1, x.2.2.1, x.2.2.2.1⟩) (rd_struct Try.underlying42 (by kernel_rfl) (rdf_cons rfl (n := 1) (by kernel_rfl) (rd_int Try.underlying3) (rdf_cons rfl (n := 1) (by kernel_rfl) (rd_int Try.underlying3) (rdf_cons rfl (n := 1) (by kernel_rfl) (rd_int Try.underlying3) (rdf_cons rfl (n := 1) (by kernel_rfl) (rd_int Try.underlying3) rdf_nil)))))
    (fun x => rfl) (fun x => Nat.zero_le _) (fun x h => ⟨h.1, h.2.1, h.2.2.1, h.2.2.2.1⟩)
theorem rd_WS : Rd enc Try.prog w 44 encWS (fun _ => 0) okWS :=
  Rd.map (fun x => ⟨x.1, x.2.1, x.2.2.1, x.2.2.2.1, x.2.2.2.2.1⟩) (rd_struct Try.underlying44 (by kernel_rfl) (rdf_cons rfl (n := 1) (by kernel_rfl) (rd_int Try.underlying3) (rdf_cons rfl (n := 1) (by kernel_rfl) (rd_int Try.underlying3) (rdf_cons rfl (n := 1) (by kernel_rfl) (rd_int Try.underlying3) (rdf_cons rfl (n := 1) (by kernel_rfl) (rd_int Try.underlying3) (rdf_cons rfl (n := 4) (by kernel_rfl) rd_CL rdf_nil))))))
    (fun x => rfl) (fun x => Nat.zero_le _) (fun x h => ⟨h.1, h.2.1, h.2.2.1, h.2.2.2.1, h.2.2.2.2.1⟩)
theorem rd_WSs : Rd enc Try.prog w 36 (fun l : List WS => [.sl 8 (l.map encWS) false]) (fun _ => 0) (fun l => l.length ≤ maxLen ∧ ∀ x ∈ l, okWS x) :=
  Rd.map id (rd_slice Try.underlying36 (by kernel_rfl) (by decide) rd_WS) (fun x => rfl) (fun x => Nat.zero_le _) (fun x h => h)
end
end Go.Proofs.Ytdnhlbbbcallpaa
