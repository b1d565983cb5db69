/-
  No cell of these rows narrows 'for every input' (looked for: loops, veiled, ifaces, maps, wideKeys, modest, calm, conditions, laid).
  DERIVED. THE GIVEN ROWS OF THIS SEAT. 3 by the template 'for every input the law returns true; each argument reads behind the call as it read before'; 0 by the template 'total and deterministic' (their statements: YtfghngkiephakaaTotals.lean).
  GIVEN WITH THE SEED: the statements are not yours to turn. If you find one false, say at which input.
  Laid BY PROGRAM, IN A SANDBOX (cutbox-rows.mjs): the forced cells as the released guide's own fill.sh prints them over the translation 3f09c40680688f53… (all of the seat's roots in one cut). By AI agents, Wed Nov 11 2026. No macro, syntax, notation, axiom, sorry.
-/
import Derived.Test.YtfghngkiephakaaChecked
import GoSem.Claim
import GoSem.ClaimJoined
import GoSem.ClaimMapViews
import Derived.JoinedTies
import Derived.KernelRfl
namespace Go.Proofs.Ytfghngkiephakaa
/- THE CELL 'sum', in the pinned program and in every row, IS THE sha256 OF THE DUMP (.gsa) THAT YtfghngkiephakaaProg.lean LOADS. Nothing in Lean hashes anything: it is a label: what it is worth is what the hold of that sum in a sandbox is worth. -/
noncomputable def Try.pinned : Pinned := { name := "ytfghngkiephakaa", sum := "3f09c40680688f539f86ed94793ae3932de6bbb5ad663dd509b6f342756278f1", checked := Try.checked }
namespace Rows
def none {H : Type} : Left H := { results := [], args := [] }

/-- 'bournelaw33.HarmWorst': WHATEVER THE INPUT: true; the input reads as it did. -/
def harmWorstSpec : ChangeSpec := { name := "harmWorst", fn := fun _ => fun
  | [d] => { results := [.lit (.bool true)], args := [d] }
  | _ => none }
def harmWorstRow : OpenClaim := { program := "ytfghngkiephakaa", sum := "3f09c40680688f539f86ed94793ae3932de6bbb5ad663dd509b6f342756278f1", func := "bourne/bournelaw33.HarmWorst", spec := "harmWorst", unfollowed := true, recurses := true, apart := false }
def HarmWorstSaid : Prop := harmWorstRow.holds Try.pinned (OpenSpec.ofChange harmWorstSpec)

/-- ITS FALSE NEIGHBOUR: 'it returns false'. Refute it at one input. -/
def harmWorstWrong : ChangeSpec := { name := "harmWorst", fn := fun _ => fun
  | [d] => { results := [.lit (.bool false)], args := [d] }
  | _ => none }
def HarmWorstWrongFalsely : Prop := harmWorstRow.holds Try.pinned (OpenSpec.ofChange harmWorstWrong)

/-- 'bournelaw33.HarmOrders': WHATEVER THE INPUT: true; the input reads as it did. -/
def harmOrdersSpec : ChangeSpec := { name := "harmOrders", fn := fun _ => fun
  | [d1, d2, d3] => { results := [.lit (.bool true)], args := [d1, d2, d3] }
  | _ => none }
def harmOrdersRow : OpenClaim := { program := "ytfghngkiephakaa", sum := "3f09c40680688f539f86ed94793ae3932de6bbb5ad663dd509b6f342756278f1", func := "bourne/bournelaw33.HarmOrders", spec := "harmOrders", unfollowed := true, recurses := true, apart := false }
def HarmOrdersSaid : Prop := harmOrdersRow.holds Try.pinned (OpenSpec.ofChange harmOrdersSpec)

/-- ITS FALSE NEIGHBOUR: 'it returns false'. Refute it at one input. -/
def harmOrdersWrong : ChangeSpec := { name := "harmOrders", fn := fun _ => fun
  | [d1, d2, d3] => { results := [.lit (.bool false)], args := [d1, d2, d3] }
  | _ => none }
def HarmOrdersWrongFalsely : Prop := harmOrdersRow.holds Try.pinned (OpenSpec.ofChange harmOrdersWrong)

/-- 'bournelaw43.AlarmGauges': WHATEVER THE INPUT: true; the input reads as it did. -/
def alarmGaugesSpec : ChangeSpec := { name := "alarmGauges", fn := fun _ => fun
  | [d1, d2, d3, d4] => { results := [.lit (.bool true)], args := [d1, d2, d3, d4] }
  | _ => none }
def alarmGaugesRow : OpenClaim := { program := "ytfghngkiephakaa", sum := "3f09c40680688f539f86ed94793ae3932de6bbb5ad663dd509b6f342756278f1", func := "bourne/bournelaw43.AlarmGauges", spec := "alarmGauges", inPlace := ["math/bits.Add64"], unfollowed := true, recurses := true, named := ["math/bits.divideError", "math/bits.overflowError"], apart := false }
def AlarmGaugesSaid : Prop := alarmGaugesRow.holds Try.pinned (OpenSpec.ofChange alarmGaugesSpec)

/-- ITS FALSE NEIGHBOUR: 'it returns false'. Refute it at one input. -/
def alarmGaugesWrong : ChangeSpec := { name := "alarmGauges", fn := fun _ => fun
  | [d1, d2, d3, d4] => { results := [.lit (.bool false)], args := [d1, d2, d3, d4] }
  | _ => none }
def AlarmGaugesWrongFalsely : Prop := alarmGaugesRow.holds Try.pinned (OpenSpec.ofChange alarmGaugesWrong)

/- THE SECOND FORM. 'bulk': how many values and letters a reading holds, each counted each time it is reached (what is shared counts as often as it is met; a slice's spare places count too). A statement '..UptoSaid' is the law's where the arguments, and the package variables that the reading takes, are together of bulk at most 1048576: NARROWER than '..Said'. Prove '..Said' where nothing that the law and all that it calls make is longer than what came in: it says more and counts as full. Else prove '..UptoSaid'. A law counts once. -/
mutual
def uptoBulk {H : Type} : DataW H → Nat
  | .lit (.string bytes) => bytes.length + 1
  | .lit _ => 1
  | .nil => 1
  | .ptr d => uptoBulk d + 1
  | .slice elems spare => uptoBulkAll elems + uptoBulkAll spare + 1
  | .agg parts => uptoBulkAll parts + 1
  | .iface _ d => uptoBulk d + 1
  | .map entries => uptoBulkEntries entries + 1
  | .held _ => 1
def uptoBulkAll {H : Type} : List (DataW H) → Nat
  | [] => 0
  | d :: r => uptoBulk d + uptoBulkAll r
def uptoBulkEntries {H : Type} : List (Lit × DataW H) → Nat
  | [] => 0
  | x :: r => uptoBulkEntry x + uptoBulkEntries r
def uptoBulkEntry {H : Type} : Lit × DataW H → Nat
  | (.string bytes, d) => bytes.length + uptoBulk d + 1
  | (_, d) => uptoBulk d + 1
 end
def uptoSmall : (H : Type) → List (DataW H) → Bool := fun _ ds => decide (uptoBulkAll ds ≤ 1048576)
def OpenSpec.upto (s : _root_.Go.ChangeSpec) : _root_.Go.OpenSpec := { _root_.Go.OpenSpec.ofChange s with cond := some uptoSmall }

/-- 'bournelaw33.HarmWorst', WHERE WHAT IT READS IS OF BULK AT MOST 1048576: true; the input reads as it did. -/
def harmWorstUptoRow : OpenClaim := { program := "ytfghngkiephakaa", sum := "3f09c40680688f539f86ed94793ae3932de6bbb5ad663dd509b6f342756278f1", func := "bourne/bournelaw33.HarmWorst", spec := "harmWorst", unfollowed := true, recurses := true, apart := false, narrowed := true }
def HarmWorstUptoSaid : Prop := harmWorstUptoRow.holds Try.pinned (OpenSpec.upto harmWorstSpec)

/-- 'bournelaw33.HarmOrders', WHERE WHAT IT READS IS OF BULK AT MOST 1048576: true; the input reads as it did. -/
def harmOrdersUptoRow : OpenClaim := { program := "ytfghngkiephakaa", sum := "3f09c40680688f539f86ed94793ae3932de6bbb5ad663dd509b6f342756278f1", func := "bourne/bournelaw33.HarmOrders", spec := "harmOrders", unfollowed := true, recurses := true, apart := false, narrowed := true }
def HarmOrdersUptoSaid : Prop := harmOrdersUptoRow.holds Try.pinned (OpenSpec.upto harmOrdersSpec)

/-- 'bournelaw43.AlarmGauges', WHERE WHAT IT READS IS OF BULK AT MOST 1048576: true; the input reads as it did. -/
def alarmGaugesUptoRow : OpenClaim := { program := "ytfghngkiephakaa", sum := "3f09c40680688f539f86ed94793ae3932de6bbb5ad663dd509b6f342756278f1", func := "bourne/bournelaw43.AlarmGauges", spec := "alarmGauges", inPlace := ["math/bits.Add64"], unfollowed := true, recurses := true, named := ["math/bits.divideError", "math/bits.overflowError"], apart := false, narrowed := true }
def AlarmGaugesUptoSaid : Prop := alarmGaugesUptoRow.holds Try.pinned (OpenSpec.upto alarmGaugesSpec)

end Rows
end Go.Proofs.Ytfghngkiephakaa
