/- What every law's row wants. -/
import Derived.Test.YtfghngkiephakaaEng20
import Derived.Test.YtfghngkiephakaaTb
import Derived.Test.YtfghngkiephakaaRows
import Derived.JoinedOf
set_option linter.unnecessarySimpa false
set_option linter.unusedVariables false
set_option linter.unusedSimpArgs false
set_option linter.unusedSectionVars false
set_option linter.deprecated false
set_option autoImplicit false
set_option linter.unusedVariables false
namespace Go.Proofs.Ytfghngkiephakaa
open Go.Ex Go.Proofs Go.ChangeShapes Go.WideShapes Go.ChangeAt Go.RowKit
set_option maxRecDepth 100000
theorem own : ownKnob Try.prog.godebug = none := by kernel_rfl
theorem laid : laidOutB Try.prog = true := by kernel_rfl
theorem FN_run {f : FuncId} {args : List AV} {b : Bool} (h : FN E f args [] fun r _ => r = .b b) : ∃ h', runFV E f args [] = some (.b b, h') := by
  obtain ⟨r, h', h1, rfl⟩ := FN_eq E h
  exact ⟨h', h1⟩
end Go.Proofs.Ytfghngkiephakaa
