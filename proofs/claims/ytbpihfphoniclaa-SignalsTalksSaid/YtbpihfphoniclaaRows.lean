/-
  No cell of these rows narrows 'for every input' (looked for: loops, veiled, ifaces, maps, wideKeys, modest, calm, conditions, laid).
  DERIVED. THE GIVEN ROWS OF THIS SEAT. 7 by the template 'for every input the law returns true; each argument reads behind the call as it read before'; 0 by the template 'total and deterministic' (their statements: YtbpihfphoniclaaTotals.lean).
  GIVEN WITH THE SEED: the statements are not yours to turn. If you find one false, say at which input.
  Laid BY PROGRAM, IN A SANDBOX (cutbox-rows.mjs): the forced cells as the released guide's own fill.sh prints them over the translation 9adcb7d43ed1f508… (all of the seat's roots in one cut). By AI agents, Wed Nov 11 2026. No macro, syntax, notation, axiom, sorry.
-/
import Derived.Test.YtbpihfphoniclaaChecked
import GoSem.Claim
import GoSem.ClaimJoined
import GoSem.ClaimMapViews
import Derived.JoinedTies
import Derived.KernelRfl
namespace Go.Proofs.Ytbpihfphoniclaa
/- THE CELL 'sum', in the pinned program and in every row, IS THE sha256 OF THE DUMP (.gsa) THAT YtbpihfphoniclaaProg.lean LOADS. Nothing in Lean hashes anything: it is a label: what it is worth is what the hold of that sum in a sandbox is worth. -/
noncomputable def Try.pinned : Pinned := { name := "ytbpihfphoniclaa", sum := "9adcb7d43ed1f5088094f33707f04336f2fac83e8dc40479f4ff3343ece158fc", checked := Try.checked }
namespace Rows
def none {H : Type} : Left H := { results := [], args := [] }

/-- 'orpimentlaw12.SignalsOne': WHATEVER THE INPUT: true; the input reads as it did. -/
def signalsOneSpec : ChangeSpec := { name := "signalsOne", fn := fun _ => fun
  | [d1, d2, d3] => { results := [.lit (.bool true)], args := [d1, d2, d3] }
  | _ => none }
def signalsOneRow : OpenClaim := { program := "ytbpihfphoniclaa", sum := "9adcb7d43ed1f5088094f33707f04336f2fac83e8dc40479f4ff3343ece158fc", func := "orpiment/orpimentlaw12.SignalsOne", spec := "signalsOne", unfollowed := true, recurses := true, apart := false }
def SignalsOneSaid : Prop := signalsOneRow.holds Try.pinned (OpenSpec.ofChange signalsOneSpec)

/-- ITS FALSE NEIGHBOUR: 'it returns false'. Refute it at one input. -/
def signalsOneWrong : ChangeSpec := { name := "signalsOne", fn := fun _ => fun
  | [d1, d2, d3] => { results := [.lit (.bool false)], args := [d1, d2, d3] }
  | _ => none }
def SignalsOneWrongFalsely : Prop := signalsOneRow.holds Try.pinned (OpenSpec.ofChange signalsOneWrong)

/-- 'orpimentlaw12.SignalsQueued': WHATEVER THE INPUT: true; the input reads as it did. -/
def signalsQueuedSpec : ChangeSpec := { name := "signalsQueued", fn := fun _ => fun
  | [d1, d2] => { results := [.lit (.bool true)], args := [d1, d2] }
  | _ => none }
def signalsQueuedRow : OpenClaim := { program := "ytbpihfphoniclaa", sum := "9adcb7d43ed1f5088094f33707f04336f2fac83e8dc40479f4ff3343ece158fc", func := "orpiment/orpimentlaw12.SignalsQueued", spec := "signalsQueued", unfollowed := true, recurses := true, apart := false }
def SignalsQueuedSaid : Prop := signalsQueuedRow.holds Try.pinned (OpenSpec.ofChange signalsQueuedSpec)

/-- ITS FALSE NEIGHBOUR: 'it returns false'. Refute it at one input. -/
def signalsQueuedWrong : ChangeSpec := { name := "signalsQueued", fn := fun _ => fun
  | [d1, d2] => { results := [.lit (.bool false)], args := [d1, d2] }
  | _ => none }
def SignalsQueuedWrongFalsely : Prop := signalsQueuedRow.holds Try.pinned (OpenSpec.ofChange signalsQueuedWrong)

/-- 'orpimentlaw12.SignalsKill': WHATEVER THE INPUT: true; the input reads as it did. -/
def signalsKillSpec : ChangeSpec := { name := "signalsKill", fn := fun _ => fun
  | [d1, d2] => { results := [.lit (.bool true)], args := [d1, d2] }
  | _ => none }
def signalsKillRow : OpenClaim := { program := "ytbpihfphoniclaa", sum := "9adcb7d43ed1f5088094f33707f04336f2fac83e8dc40479f4ff3343ece158fc", func := "orpiment/orpimentlaw12.SignalsKill", spec := "signalsKill", unfollowed := true, recurses := true, apart := false }
def SignalsKillSaid : Prop := signalsKillRow.holds Try.pinned (OpenSpec.ofChange signalsKillSpec)

/-- ITS FALSE NEIGHBOUR: 'it returns false'. Refute it at one input. -/
def signalsKillWrong : ChangeSpec := { name := "signalsKill", fn := fun _ => fun
  | [d1, d2] => { results := [.lit (.bool false)], args := [d1, d2] }
  | _ => none }
def SignalsKillWrongFalsely : Prop := signalsKillRow.holds Try.pinned (OpenSpec.ofChange signalsKillWrong)

/-- 'orpimentlaw12.SignalsStops': WHATEVER THE INPUT: true; the input reads as it did. -/
def signalsStopsSpec : ChangeSpec := { name := "signalsStops", fn := fun _ => fun
  | [d] => { results := [.lit (.bool true)], args := [d] }
  | _ => none }
def signalsStopsRow : OpenClaim := { program := "ytbpihfphoniclaa", sum := "9adcb7d43ed1f5088094f33707f04336f2fac83e8dc40479f4ff3343ece158fc", func := "orpiment/orpimentlaw12.SignalsStops", spec := "signalsStops", unfollowed := true, recurses := true, apart := false }
def SignalsStopsSaid : Prop := signalsStopsRow.holds Try.pinned (OpenSpec.ofChange signalsStopsSpec)

/-- ITS FALSE NEIGHBOUR: 'it returns false'. Refute it at one input. -/
def signalsStopsWrong : ChangeSpec := { name := "signalsStops", fn := fun _ => fun
  | [d] => { results := [.lit (.bool false)], args := [d] }
  | _ => none }
def SignalsStopsWrongFalsely : Prop := signalsStopsRow.holds Try.pinned (OpenSpec.ofChange signalsStopsWrong)

/-- 'orpimentlaw12.SignalsCalls': WHATEVER THE INPUT: true; the input reads as it did. -/
def signalsCallsSpec : ChangeSpec := { name := "signalsCalls", fn := fun _ => fun
  | [d] => { results := [.lit (.bool true)], args := [d] }
  | _ => none }
def signalsCallsRow : OpenClaim := { program := "ytbpihfphoniclaa", sum := "9adcb7d43ed1f5088094f33707f04336f2fac83e8dc40479f4ff3343ece158fc", func := "orpiment/orpimentlaw12.SignalsCalls", spec := "signalsCalls", unfollowed := true, recurses := true, apart := false }
def SignalsCallsSaid : Prop := signalsCallsRow.holds Try.pinned (OpenSpec.ofChange signalsCallsSpec)

/-- ITS FALSE NEIGHBOUR: 'it returns false'. Refute it at one input. -/
def signalsCallsWrong : ChangeSpec := { name := "signalsCalls", fn := fun _ => fun
  | [d] => { results := [.lit (.bool false)], args := [d] }
  | _ => none }
def SignalsCallsWrongFalsely : Prop := signalsCallsRow.holds Try.pinned (OpenSpec.ofChange signalsCallsWrong)

/-- 'orpimentlaw12.SignalsTalks': WHATEVER THE INPUT: true; the input reads as it did. -/
def signalsTalksSpec : ChangeSpec := { name := "signalsTalks", fn := fun _ => fun
  | [d] => { results := [.lit (.bool true)], args := [d] }
  | _ => none }
def signalsTalksRow : OpenClaim := { program := "ytbpihfphoniclaa", sum := "9adcb7d43ed1f5088094f33707f04336f2fac83e8dc40479f4ff3343ece158fc", func := "orpiment/orpimentlaw12.SignalsTalks", spec := "signalsTalks", unfollowed := true, recurses := true, apart := false }
def SignalsTalksSaid : Prop := signalsTalksRow.holds Try.pinned (OpenSpec.ofChange signalsTalksSpec)

/-- ITS FALSE NEIGHBOUR: 'it returns false'. Refute it at one input. -/
def signalsTalksWrong : ChangeSpec := { name := "signalsTalks", fn := fun _ => fun
  | [d] => { results := [.lit (.bool false)], args := [d] }
  | _ => none }
def SignalsTalksWrongFalsely : Prop := signalsTalksRow.holds Try.pinned (OpenSpec.ofChange signalsTalksWrong)

/-- 'orpimentlaw12.SignalsNil': WHATEVER THE INPUT: true; the input reads as it did. -/
def signalsNilSpec : ChangeSpec := { name := "signalsNil", fn := fun _ => fun
  | [d] => { results := [.lit (.bool true)], args := [d] }
  | _ => none }
def signalsNilRow : OpenClaim := { program := "ytbpihfphoniclaa", sum := "9adcb7d43ed1f5088094f33707f04336f2fac83e8dc40479f4ff3343ece158fc", func := "orpiment/orpimentlaw12.SignalsNil", spec := "signalsNil", unfollowed := true, recurses := true, apart := false }
def SignalsNilSaid : Prop := signalsNilRow.holds Try.pinned (OpenSpec.ofChange signalsNilSpec)

/-- ITS FALSE NEIGHBOUR: 'it returns false'. Refute it at one input. -/
def signalsNilWrong : ChangeSpec := { name := "signalsNil", fn := fun _ => fun
  | [d] => { results := [.lit (.bool false)], args := [d] }
  | _ => none }
def SignalsNilWrongFalsely : Prop := signalsNilRow.holds Try.pinned (OpenSpec.ofChange signalsNilWrong)

/- THE SECOND FORM. 'bulk': how many values and letters a reading holds, each counted each time it is reached (what is shared counts as often as it is met; a slice's spare places count too). A statement '..UptoSaid' is the law's where the arguments, and the package variables that the reading takes, are together of bulk at most 1048576: NARROWER than '..Said'. Prove '..Said' where nothing that the law and all that it calls make is longer than what came in: it says more and counts as full. Else prove '..UptoSaid'. A law counts once. -/
mutual
def uptoBulk {H : Type} : DataW H → Nat
  | .lit (.string bytes) => bytes.length + 1
  | .lit _ => 1
  | .nil => 1
  | .ptr d => uptoBulk d + 1
  | .slice elems spare => uptoBulkAll elems + uptoBulkAll spare + 1
  | .agg parts => uptoBulkAll parts + 1
  | .iface _ d => uptoBulk d + 1
  | .map entries => uptoBulkEntries entries + 1
  | .held _ => 1
def uptoBulkAll {H : Type} : List (DataW H) → Nat
  | [] => 0
  | d :: r => uptoBulk d + uptoBulkAll r
def uptoBulkEntries {H : Type} : List (Lit × DataW H) → Nat
  | [] => 0
  | x :: r => uptoBulkEntry x + uptoBulkEntries r
def uptoBulkEntry {H : Type} : Lit × DataW H → Nat
  | (.string bytes, d) => bytes.length + uptoBulk d + 1
  | (_, d) => uptoBulk d + 1
 end
def uptoSmall : (H : Type) → List (DataW H) → Bool := fun _ ds => decide (uptoBulkAll ds ≤ 1048576)
def OpenSpec.upto (s : _root_.Go.ChangeSpec) : _root_.Go.OpenSpec := { _root_.Go.OpenSpec.ofChange s with cond := some uptoSmall }

/-- 'orpimentlaw12.SignalsOne', WHERE WHAT IT READS IS OF BULK AT MOST 1048576: true; the input reads as it did. -/
def signalsOneUptoRow : OpenClaim := { program := "ytbpihfphoniclaa", sum := "9adcb7d43ed1f5088094f33707f04336f2fac83e8dc40479f4ff3343ece158fc", func := "orpiment/orpimentlaw12.SignalsOne", spec := "signalsOne", unfollowed := true, recurses := true, apart := false, narrowed := true }
def SignalsOneUptoSaid : Prop := signalsOneUptoRow.holds Try.pinned (OpenSpec.upto signalsOneSpec)

/-- 'orpimentlaw12.SignalsQueued', WHERE WHAT IT READS IS OF BULK AT MOST 1048576: true; the input reads as it did. -/
def signalsQueuedUptoRow : OpenClaim := { program := "ytbpihfphoniclaa", sum := "9adcb7d43ed1f5088094f33707f04336f2fac83e8dc40479f4ff3343ece158fc", func := "orpiment/orpimentlaw12.SignalsQueued", spec := "signalsQueued", unfollowed := true, recurses := true, apart := false, narrowed := true }
def SignalsQueuedUptoSaid : Prop := signalsQueuedUptoRow.holds Try.pinned (OpenSpec.upto signalsQueuedSpec)

/-- 'orpimentlaw12.SignalsKill', WHERE WHAT IT READS IS OF BULK AT MOST 1048576: true; the input reads as it did. -/
def signalsKillUptoRow : OpenClaim := { program := "ytbpihfphoniclaa", sum := "9adcb7d43ed1f5088094f33707f04336f2fac83e8dc40479f4ff3343ece158fc", func := "orpiment/orpimentlaw12.SignalsKill", spec := "signalsKill", unfollowed := true, recurses := true, apart := false, narrowed := true }
def SignalsKillUptoSaid : Prop := signalsKillUptoRow.holds Try.pinned (OpenSpec.upto signalsKillSpec)

/-- 'orpimentlaw12.SignalsStops', WHERE WHAT IT READS IS OF BULK AT MOST 1048576: true; the input reads as it did. -/
def signalsStopsUptoRow : OpenClaim := { program := "ytbpihfphoniclaa", sum := "9adcb7d43ed1f5088094f33707f04336f2fac83e8dc40479f4ff3343ece158fc", func := "orpiment/orpimentlaw12.SignalsStops", spec := "signalsStops", unfollowed := true, recurses := true, apart := false, narrowed := true }
def SignalsStopsUptoSaid : Prop := signalsStopsUptoRow.holds Try.pinned (OpenSpec.upto signalsStopsSpec)

/-- 'orpimentlaw12.SignalsCalls', WHERE WHAT IT READS IS OF BULK AT MOST 1048576: true; the input reads as it did. -/
def signalsCallsUptoRow : OpenClaim := { program := "ytbpihfphoniclaa", sum := "9adcb7d43ed1f5088094f33707f04336f2fac83e8dc40479f4ff3343ece158fc", func := "orpiment/orpimentlaw12.SignalsCalls", spec := "signalsCalls", unfollowed := true, recurses := true, apart := false, narrowed := true }
def SignalsCallsUptoSaid : Prop := signalsCallsUptoRow.holds Try.pinned (OpenSpec.upto signalsCallsSpec)

/-- 'orpimentlaw12.SignalsTalks', WHERE WHAT IT READS IS OF BULK AT MOST 1048576: true; the input reads as it did. -/
def signalsTalksUptoRow : OpenClaim := { program := "ytbpihfphoniclaa", sum := "9adcb7d43ed1f5088094f33707f04336f2fac83e8dc40479f4ff3343ece158fc", func := "orpiment/orpimentlaw12.SignalsTalks", spec := "signalsTalks", unfollowed := true, recurses := true, apart := false, narrowed := true }
def SignalsTalksUptoSaid : Prop := signalsTalksUptoRow.holds Try.pinned (OpenSpec.upto signalsTalksSpec)

/-- 'orpimentlaw12.SignalsNil', WHERE WHAT IT READS IS OF BULK AT MOST 1048576: true; the input reads as it did. -/
def signalsNilUptoRow : OpenClaim := { program := "ytbpihfphoniclaa", sum := "9adcb7d43ed1f5088094f33707f04336f2fac83e8dc40479f4ff3343ece158fc", func := "orpiment/orpimentlaw12.SignalsNil", spec := "signalsNil", unfollowed := true, recurses := true, apart := false, narrowed := true }
def SignalsNilUptoSaid : Prop := signalsNilUptoRow.holds Try.pinned (OpenSpec.upto signalsNilSpec)

end Rows
end Go.Proofs.Ytbpihfphoniclaa
