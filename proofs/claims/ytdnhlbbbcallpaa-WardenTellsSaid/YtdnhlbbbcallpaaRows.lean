/-
  No cell of these rows narrows 'for every input' (looked for: loops, veiled, ifaces, maps, wideKeys, modest, calm, conditions, laid).
  DERIVED. THE GIVEN ROWS OF THIS SEAT. 8 by the template 'for every input the law returns true; each argument reads behind the call as it read before'; 0 by the template 'total and deterministic' (their statements: YtdnhlbbbcallpaaTotals.lean).
  GIVEN WITH THE SEED: the statements are not yours to turn. If you find one false, say at which input.
  Laid BY PROGRAM, IN A SANDBOX (cutbox-rows.mjs): the forced cells as the released guide's own fill.sh prints them over the translation fcd98b55e30b7e32… (all of the seat's roots in one cut). By AI agents, Wed Nov 11 2026. No macro, syntax, notation, axiom, sorry.
-/
import Derived.Test.YtdnhlbbbcallpaaChecked
import GoSem.Claim
import GoSem.ClaimJoined
import GoSem.ClaimMapViews
import Derived.JoinedTies
import Derived.KernelRfl
namespace Go.Proofs.Ytdnhlbbbcallpaa
/- THE CELL 'sum', in the pinned program and in every row, IS THE sha256 OF THE DUMP (.gsa) THAT YtdnhlbbbcallpaaProg.lean LOADS. Nothing in Lean hashes anything: it is a label: what it is worth is what the hold of that sum in a sandbox is worth. -/
noncomputable def Try.pinned : Pinned := { name := "ytdnhlbbbcallpaa", sum := "fcd98b55e30b7e3241723b92d24d2458f5377dcb53005265a2d7b5c7678f3ee3", checked := Try.checked }
namespace Rows
def none {H : Type} : Left H := { results := [], args := [] }

/-- 'bournelaw43.AlarmTells': WHATEVER THE INPUT: true; the input reads as it did. -/
def alarmTellsSpec : ChangeSpec := { name := "alarmTells", fn := fun _ => fun
  | [d1, d2, d3] => { results := [.lit (.bool true)], args := [d1, d2, d3] }
  | _ => none }
def alarmTellsRow : OpenClaim := { program := "ytdnhlbbbcallpaa", sum := "fcd98b55e30b7e3241723b92d24d2458f5377dcb53005265a2d7b5c7678f3ee3", func := "bourne/bournelaw43.AlarmTells", spec := "alarmTells", apart := false }
def AlarmTellsSaid : Prop := alarmTellsRow.holds Try.pinned (OpenSpec.ofChange alarmTellsSpec)

/-- ITS FALSE NEIGHBOUR: 'it returns false'. Refute it at one input. -/
def alarmTellsWrong : ChangeSpec := { name := "alarmTells", fn := fun _ => fun
  | [d1, d2, d3] => { results := [.lit (.bool false)], args := [d1, d2, d3] }
  | _ => none }
def AlarmTellsWrongFalsely : Prop := alarmTellsRow.holds Try.pinned (OpenSpec.ofChange alarmTellsWrong)

/-- 'bournelaw43.AlarmOrders': WHATEVER THE INPUT: true; the input reads as it did. -/
def alarmOrdersSpec : ChangeSpec := { name := "alarmOrders", fn := fun _ => fun
  | [d1, d2] => { results := [.lit (.bool true)], args := [d1, d2] }
  | _ => none }
def alarmOrdersRow : OpenClaim := { program := "ytdnhlbbbcallpaa", sum := "fcd98b55e30b7e3241723b92d24d2458f5377dcb53005265a2d7b5c7678f3ee3", func := "bourne/bournelaw43.AlarmOrders", spec := "alarmOrders", apart := false }
def AlarmOrdersSaid : Prop := alarmOrdersRow.holds Try.pinned (OpenSpec.ofChange alarmOrdersSpec)

/-- ITS FALSE NEIGHBOUR: 'it returns false'. Refute it at one input. -/
def alarmOrdersWrong : ChangeSpec := { name := "alarmOrders", fn := fun _ => fun
  | [d1, d2] => { results := [.lit (.bool false)], args := [d1, d2] }
  | _ => none }
def AlarmOrdersWrongFalsely : Prop := alarmOrdersRow.holds Try.pinned (OpenSpec.ofChange alarmOrdersWrong)

/-- 'bournelaw43.AlarmFalls': WHATEVER THE INPUT: true; the input reads as it did. -/
def alarmFallsSpec : ChangeSpec := { name := "alarmFalls", fn := fun _ => fun
  | [d1, d2] => { results := [.lit (.bool true)], args := [d1, d2] }
  | _ => none }
def alarmFallsRow : OpenClaim := { program := "ytdnhlbbbcallpaa", sum := "fcd98b55e30b7e3241723b92d24d2458f5377dcb53005265a2d7b5c7678f3ee3", func := "bourne/bournelaw43.AlarmFalls", spec := "alarmFalls", apart := false }
def AlarmFallsSaid : Prop := alarmFallsRow.holds Try.pinned (OpenSpec.ofChange alarmFallsSpec)

/-- ITS FALSE NEIGHBOUR: 'it returns false'. Refute it at one input. -/
def alarmFallsWrong : ChangeSpec := { name := "alarmFalls", fn := fun _ => fun
  | [d1, d2] => { results := [.lit (.bool false)], args := [d1, d2] }
  | _ => none }
def AlarmFallsWrongFalsely : Prop := alarmFallsRow.holds Try.pinned (OpenSpec.ofChange alarmFallsWrong)

/-- 'bournelaw44.WardenTells': WHATEVER THE INPUT: true; the input reads as it did. -/
def wardenTellsSpec : ChangeSpec := { name := "wardenTells", fn := fun _ => fun
  | [d1, d2] => { results := [.lit (.bool true)], args := [d1, d2] }
  | _ => none }
def wardenTellsRow : OpenClaim := { program := "ytdnhlbbbcallpaa", sum := "fcd98b55e30b7e3241723b92d24d2458f5377dcb53005265a2d7b5c7678f3ee3", func := "bourne/bournelaw44.WardenTells", spec := "wardenTells", apart := false }
def WardenTellsSaid : Prop := wardenTellsRow.holds Try.pinned (OpenSpec.ofChange wardenTellsSpec)

/-- ITS FALSE NEIGHBOUR: 'it returns false'. Refute it at one input. -/
def wardenTellsWrong : ChangeSpec := { name := "wardenTells", fn := fun _ => fun
  | [d1, d2] => { results := [.lit (.bool false)], args := [d1, d2] }
  | _ => none }
def WardenTellsWrongFalsely : Prop := wardenTellsRow.holds Try.pinned (OpenSpec.ofChange wardenTellsWrong)

/-- 'bournelaw44.WardenClimbs': WHATEVER THE INPUT: true; the input reads as it did. -/
def wardenClimbsSpec : ChangeSpec := { name := "wardenClimbs", fn := fun _ => fun
  | [d1, d2, d3, d4, d5, d6, d7] => { results := [.lit (.bool true)], args := [d1, d2, d3, d4, d5, d6, d7] }
  | _ => none }
def wardenClimbsRow : OpenClaim := { program := "ytdnhlbbbcallpaa", sum := "fcd98b55e30b7e3241723b92d24d2458f5377dcb53005265a2d7b5c7678f3ee3", func := "bourne/bournelaw44.WardenClimbs", spec := "wardenClimbs", apart := false }
def WardenClimbsSaid : Prop := wardenClimbsRow.holds Try.pinned (OpenSpec.ofChange wardenClimbsSpec)

/-- ITS FALSE NEIGHBOUR: 'it returns false'. Refute it at one input. -/
def wardenClimbsWrong : ChangeSpec := { name := "wardenClimbs", fn := fun _ => fun
  | [d1, d2, d3, d4, d5, d6, d7] => { results := [.lit (.bool false)], args := [d1, d2, d3, d4, d5, d6, d7] }
  | _ => none }
def WardenClimbsWrongFalsely : Prop := wardenClimbsRow.holds Try.pinned (OpenSpec.ofChange wardenClimbsWrong)

/-- 'bournelaw44.WardenAcks': WHATEVER THE INPUT: true; the input reads as it did. -/
def wardenAcksSpec : ChangeSpec := { name := "wardenAcks", fn := fun _ => fun
  | [d1, d2, d3] => { results := [.lit (.bool true)], args := [d1, d2, d3] }
  | _ => none }
def wardenAcksRow : OpenClaim := { program := "ytdnhlbbbcallpaa", sum := "fcd98b55e30b7e3241723b92d24d2458f5377dcb53005265a2d7b5c7678f3ee3", func := "bourne/bournelaw44.WardenAcks", spec := "wardenAcks", apart := false }
def WardenAcksSaid : Prop := wardenAcksRow.holds Try.pinned (OpenSpec.ofChange wardenAcksSpec)

/-- ITS FALSE NEIGHBOUR: 'it returns false'. Refute it at one input. -/
def wardenAcksWrong : ChangeSpec := { name := "wardenAcks", fn := fun _ => fun
  | [d1, d2, d3] => { results := [.lit (.bool false)], args := [d1, d2, d3] }
  | _ => none }
def WardenAcksWrongFalsely : Prop := wardenAcksRow.holds Try.pinned (OpenSpec.ofChange wardenAcksWrong)

/-- 'bournelaw44.WardenAside': WHATEVER THE INPUT: true; the input reads as it did. -/
def wardenAsideSpec : ChangeSpec := { name := "wardenAside", fn := fun _ => fun
  | [d1, d2, d3, d4] => { results := [.lit (.bool true)], args := [d1, d2, d3, d4] }
  | _ => none }
def wardenAsideRow : OpenClaim := { program := "ytdnhlbbbcallpaa", sum := "fcd98b55e30b7e3241723b92d24d2458f5377dcb53005265a2d7b5c7678f3ee3", func := "bourne/bournelaw44.WardenAside", spec := "wardenAside", apart := false }
def WardenAsideSaid : Prop := wardenAsideRow.holds Try.pinned (OpenSpec.ofChange wardenAsideSpec)

/-- ITS FALSE NEIGHBOUR: 'it returns false'. Refute it at one input. -/
def wardenAsideWrong : ChangeSpec := { name := "wardenAside", fn := fun _ => fun
  | [d1, d2, d3, d4] => { results := [.lit (.bool false)], args := [d1, d2, d3, d4] }
  | _ => none }
def WardenAsideWrongFalsely : Prop := wardenAsideRow.holds Try.pinned (OpenSpec.ofChange wardenAsideWrong)

/-- 'bournelaw44.WardenAlarms': WHATEVER THE INPUT: true; the input reads as it did. -/
def wardenAlarmsSpec : ChangeSpec := { name := "wardenAlarms", fn := fun _ => fun
  | [d1, d2, d3] => { results := [.lit (.bool true)], args := [d1, d2, d3] }
  | _ => none }
def wardenAlarmsRow : OpenClaim := { program := "ytdnhlbbbcallpaa", sum := "fcd98b55e30b7e3241723b92d24d2458f5377dcb53005265a2d7b5c7678f3ee3", func := "bourne/bournelaw44.WardenAlarms", spec := "wardenAlarms", apart := false }
def WardenAlarmsSaid : Prop := wardenAlarmsRow.holds Try.pinned (OpenSpec.ofChange wardenAlarmsSpec)

/-- ITS FALSE NEIGHBOUR: 'it returns false'. Refute it at one input. -/
def wardenAlarmsWrong : ChangeSpec := { name := "wardenAlarms", fn := fun _ => fun
  | [d1, d2, d3] => { results := [.lit (.bool false)], args := [d1, d2, d3] }
  | _ => none }
def WardenAlarmsWrongFalsely : Prop := wardenAlarmsRow.holds Try.pinned (OpenSpec.ofChange wardenAlarmsWrong)

/- THE SECOND FORM. 'bulk': how many values and letters a reading holds, each counted each time it is reached (what is shared counts as often as it is met; a slice's spare places count too). A statement '..UptoSaid' is the law's where the arguments, and the package variables that the reading takes, are together of bulk at most 1048576: NARROWER than '..Said'. Prove '..Said' where nothing that the law and all that it calls make is longer than what came in: it says more and counts as full. Else prove '..UptoSaid'. A law counts once. -/
mutual
def uptoBulk {H : Type} : DataW H → Nat
  | .lit (.string bytes) => bytes.length + 1
  | .lit _ => 1
  | .nil => 1
  | .ptr d => uptoBulk d + 1
  | .slice elems spare => uptoBulkAll elems + uptoBulkAll spare + 1
  | .agg parts => uptoBulkAll parts + 1
  | .iface _ d => uptoBulk d + 1
  | .map entries => uptoBulkEntries entries + 1
  | .held _ => 1
def uptoBulkAll {H : Type} : List (DataW H) → Nat
  | [] => 0
  | d :: r => uptoBulk d + uptoBulkAll r
def uptoBulkEntries {H : Type} : List (Lit × DataW H) → Nat
  | [] => 0
  | x :: r => uptoBulkEntry x + uptoBulkEntries r
def uptoBulkEntry {H : Type} : Lit × DataW H → Nat
  | (.string bytes, d) => bytes.length + uptoBulk d + 1
  | (_, d) => uptoBulk d + 1
 end
def uptoSmall : (H : Type) → List (DataW H) → Bool := fun _ ds => decide (uptoBulkAll ds ≤ 1048576)
def OpenSpec.upto (s : _root_.Go.ChangeSpec) : _root_.Go.OpenSpec := { _root_.Go.OpenSpec.ofChange s with cond := some uptoSmall }

/-- 'bournelaw43.AlarmTells', WHERE WHAT IT READS IS OF BULK AT MOST 1048576: true; the input reads as it did. -/
def alarmTellsUptoRow : OpenClaim := { program := "ytdnhlbbbcallpaa", sum := "fcd98b55e30b7e3241723b92d24d2458f5377dcb53005265a2d7b5c7678f3ee3", func := "bourne/bournelaw43.AlarmTells", spec := "alarmTells", apart := false, narrowed := true }
def AlarmTellsUptoSaid : Prop := alarmTellsUptoRow.holds Try.pinned (OpenSpec.upto alarmTellsSpec)

/-- 'bournelaw43.AlarmOrders', WHERE WHAT IT READS IS OF BULK AT MOST 1048576: true; the input reads as it did. -/
def alarmOrdersUptoRow : OpenClaim := { program := "ytdnhlbbbcallpaa", sum := "fcd98b55e30b7e3241723b92d24d2458f5377dcb53005265a2d7b5c7678f3ee3", func := "bourne/bournelaw43.AlarmOrders", spec := "alarmOrders", apart := false, narrowed := true }
def AlarmOrdersUptoSaid : Prop := alarmOrdersUptoRow.holds Try.pinned (OpenSpec.upto alarmOrdersSpec)

/-- 'bournelaw43.AlarmFalls', WHERE WHAT IT READS IS OF BULK AT MOST 1048576: true; the input reads as it did. -/
def alarmFallsUptoRow : OpenClaim := { program := "ytdnhlbbbcallpaa", sum := "fcd98b55e30b7e3241723b92d24d2458f5377dcb53005265a2d7b5c7678f3ee3", func := "bourne/bournelaw43.AlarmFalls", spec := "alarmFalls", apart := false, narrowed := true }
def AlarmFallsUptoSaid : Prop := alarmFallsUptoRow.holds Try.pinned (OpenSpec.upto alarmFallsSpec)

/-- 'bournelaw44.WardenTells', WHERE WHAT IT READS IS OF BULK AT MOST 1048576: true; the input reads as it did. -/
def wardenTellsUptoRow : OpenClaim := { program := "ytdnhlbbbcallpaa", sum := "fcd98b55e30b7e3241723b92d24d2458f5377dcb53005265a2d7b5c7678f3ee3", func := "bourne/bournelaw44.WardenTells", spec := "wardenTells", apart := false, narrowed := true }
def WardenTellsUptoSaid : Prop := wardenTellsUptoRow.holds Try.pinned (OpenSpec.upto wardenTellsSpec)

/-- 'bournelaw44.WardenClimbs', WHERE WHAT IT READS IS OF BULK AT MOST 1048576: true; the input reads as it did. -/
def wardenClimbsUptoRow : OpenClaim := { program := "ytdnhlbbbcallpaa", sum := "fcd98b55e30b7e3241723b92d24d2458f5377dcb53005265a2d7b5c7678f3ee3", func := "bourne/bournelaw44.WardenClimbs", spec := "wardenClimbs", apart := false, narrowed := true }
def WardenClimbsUptoSaid : Prop := wardenClimbsUptoRow.holds Try.pinned (OpenSpec.upto wardenClimbsSpec)

/-- 'bournelaw44.WardenAcks', WHERE WHAT IT READS IS OF BULK AT MOST 1048576: true; the input reads as it did. -/
def wardenAcksUptoRow : OpenClaim := { program := "ytdnhlbbbcallpaa", sum := "fcd98b55e30b7e3241723b92d24d2458f5377dcb53005265a2d7b5c7678f3ee3", func := "bourne/bournelaw44.WardenAcks", spec := "wardenAcks", apart := false, narrowed := true }
def WardenAcksUptoSaid : Prop := wardenAcksUptoRow.holds Try.pinned (OpenSpec.upto wardenAcksSpec)

/-- 'bournelaw44.WardenAside', WHERE WHAT IT READS IS OF BULK AT MOST 1048576: true; the input reads as it did. -/
def wardenAsideUptoRow : OpenClaim := { program := "ytdnhlbbbcallpaa", sum := "fcd98b55e30b7e3241723b92d24d2458f5377dcb53005265a2d7b5c7678f3ee3", func := "bourne/bournelaw44.WardenAside", spec := "wardenAside", apart := false, narrowed := true }
def WardenAsideUptoSaid : Prop := wardenAsideUptoRow.holds Try.pinned (OpenSpec.upto wardenAsideSpec)

/-- 'bournelaw44.WardenAlarms', WHERE WHAT IT READS IS OF BULK AT MOST 1048576: true; the input reads as it did. -/
def wardenAlarmsUptoRow : OpenClaim := { program := "ytdnhlbbbcallpaa", sum := "fcd98b55e30b7e3241723b92d24d2458f5377dcb53005265a2d7b5c7678f3ee3", func := "bourne/bournelaw44.WardenAlarms", spec := "wardenAlarms", apart := false, narrowed := true }
def WardenAlarmsUptoSaid : Prop := wardenAlarmsUptoRow.holds Try.pinned (OpenSpec.upto wardenAlarmsSpec)

end Rows
end Go.Proofs.Ytdnhlbbbcallpaa
