/-
  No cell of these rows narrows 'for every input' (looked for: loops, veiled, ifaces, maps, wideKeys, modest, calm, conditions, laid).
  DERIVED. THE GIVEN ROWS OF THIS SEAT. 7 by the template 'for every input the law returns true; each argument reads behind the call as it read before'; 0 by the template 'total and deterministic' (their statements: YtbojagkalbfenaaTotals.lean).
  GIVEN WITH THE SEED: the statements are not yours to turn. If you find one false, say at which input.
  Laid BY PROGRAM, IN A SANDBOX (cutbox-rows.mjs): the forced cells as the released guide's own fill.sh prints them over the translation 25bfc87cbbc34bcf… (all of the seat's roots in one cut). By AI agents, Wed Nov 11 2026. No macro, syntax, notation, axiom, sorry.
-/
import Derived.Test.YtbojagkalbfenaaChecked
import GoSem.Claim
import GoSem.ClaimJoined
import GoSem.ClaimMapViews
import Derived.JoinedTies
import Derived.KernelRfl
namespace Go.Proofs.Ytbojagkalbfenaa
/- THE CELL 'sum', in the pinned program and in every row, IS THE sha256 OF THE DUMP (.gsa) THAT YtbojagkalbfenaaProg.lean LOADS. Nothing in Lean hashes anything: it is a label: what it is worth is what the hold of that sum in a sandbox is worth. -/
noncomputable def Try.pinned : Pinned := { name := "ytbojagkalbfenaa", sum := "25bfc87cbbc34bcff644c59453c37f97a3c0467dfa21e229226dbbb4f6776ab8", checked := Try.checked }
namespace Rows
def none {H : Type} : Left H := { results := [], args := [] }

/-- 'orpimentlaw09.IovGather': WHATEVER THE INPUT: true; the input reads as it did. -/
def iovGatherSpec : ChangeSpec := { name := "iovGather", fn := fun _ => fun
  | [d1, d2, d3] => { results := [.lit (.bool true)], args := [d1, d2, d3] }
  | _ => none }
def iovGatherRow : OpenClaim := { program := "ytbojagkalbfenaa", sum := "25bfc87cbbc34bcff644c59453c37f97a3c0467dfa21e229226dbbb4f6776ab8", func := "orpiment/orpimentlaw09.IovGather", spec := "iovGather", unfollowed := true, recurses := true, apart := false }
def IovGatherSaid : Prop := iovGatherRow.holds Try.pinned (OpenSpec.ofChange iovGatherSpec)

/-- ITS FALSE NEIGHBOUR: 'it returns false'. Refute it at one input. -/
def iovGatherWrong : ChangeSpec := { name := "iovGather", fn := fun _ => fun
  | [d1, d2, d3] => { results := [.lit (.bool false)], args := [d1, d2, d3] }
  | _ => none }
def IovGatherWrongFalsely : Prop := iovGatherRow.holds Try.pinned (OpenSpec.ofChange iovGatherWrong)

/-- 'orpimentlaw09.IovUnits': WHATEVER THE INPUT: true; the input reads as it did. -/
def iovUnitsSpec : ChangeSpec := { name := "iovUnits", fn := fun _ => fun
  | [d1, d2] => { results := [.lit (.bool true)], args := [d1, d2] }
  | _ => none }
def iovUnitsRow : OpenClaim := { program := "ytbojagkalbfenaa", sum := "25bfc87cbbc34bcff644c59453c37f97a3c0467dfa21e229226dbbb4f6776ab8", func := "orpiment/orpimentlaw09.IovUnits", spec := "iovUnits", unfollowed := true, recurses := true, apart := false }
def IovUnitsSaid : Prop := iovUnitsRow.holds Try.pinned (OpenSpec.ofChange iovUnitsSpec)

/-- ITS FALSE NEIGHBOUR: 'it returns false'. Refute it at one input. -/
def iovUnitsWrong : ChangeSpec := { name := "iovUnits", fn := fun _ => fun
  | [d1, d2] => { results := [.lit (.bool false)], args := [d1, d2] }
  | _ => none }
def IovUnitsWrongFalsely : Prop := iovUnitsRow.holds Try.pinned (OpenSpec.ofChange iovUnitsWrong)

/-- 'orpimentlaw09.IovLength': WHATEVER THE INPUT: true; the input reads as it did. -/
def iovLengthSpec : ChangeSpec := { name := "iovLength", fn := fun _ => fun
  | [d1, d2, d3] => { results := [.lit (.bool true)], args := [d1, d2, d3] }
  | _ => none }
def iovLengthRow : OpenClaim := { program := "ytbojagkalbfenaa", sum := "25bfc87cbbc34bcff644c59453c37f97a3c0467dfa21e229226dbbb4f6776ab8", func := "orpiment/orpimentlaw09.IovLength", spec := "iovLength", unfollowed := true, recurses := true, apart := false }
def IovLengthSaid : Prop := iovLengthRow.holds Try.pinned (OpenSpec.ofChange iovLengthSpec)

/-- ITS FALSE NEIGHBOUR: 'it returns false'. Refute it at one input. -/
def iovLengthWrong : ChangeSpec := { name := "iovLength", fn := fun _ => fun
  | [d1, d2, d3] => { results := [.lit (.bool false)], args := [d1, d2, d3] }
  | _ => none }
def IovLengthWrongFalsely : Prop := iovLengthRow.holds Try.pinned (OpenSpec.ofChange iovLengthWrong)

/-- 'orpimentlaw09.IovScatter': WHATEVER THE INPUT: true; the input reads as it did. -/
def iovScatterSpec : ChangeSpec := { name := "iovScatter", fn := fun _ => fun
  | [d1, d2, d3] => { results := [.lit (.bool true)], args := [d1, d2, d3] }
  | _ => none }
def iovScatterRow : OpenClaim := { program := "ytbojagkalbfenaa", sum := "25bfc87cbbc34bcff644c59453c37f97a3c0467dfa21e229226dbbb4f6776ab8", func := "orpiment/orpimentlaw09.IovScatter", spec := "iovScatter", unfollowed := true, recurses := true, apart := false }
def IovScatterSaid : Prop := iovScatterRow.holds Try.pinned (OpenSpec.ofChange iovScatterSpec)

/-- ITS FALSE NEIGHBOUR: 'it returns false'. Refute it at one input. -/
def iovScatterWrong : ChangeSpec := { name := "iovScatter", fn := fun _ => fun
  | [d1, d2, d3] => { results := [.lit (.bool false)], args := [d1, d2, d3] }
  | _ => none }
def IovScatterWrongFalsely : Prop := iovScatterRow.holds Try.pinned (OpenSpec.ofChange iovScatterWrong)

/-- 'orpimentlaw09.IovCopy': WHATEVER THE INPUT: true; the input reads as it did. -/
def iovCopySpec : ChangeSpec := { name := "iovCopy", fn := fun _ => fun
  | [d1, d2, d3] => { results := [.lit (.bool true)], args := [d1, d2, d3] }
  | _ => none }
def iovCopyRow : OpenClaim := { program := "ytbojagkalbfenaa", sum := "25bfc87cbbc34bcff644c59453c37f97a3c0467dfa21e229226dbbb4f6776ab8", func := "orpiment/orpimentlaw09.IovCopy", spec := "iovCopy", unfollowed := true, recurses := true, apart := false }
def IovCopySaid : Prop := iovCopyRow.holds Try.pinned (OpenSpec.ofChange iovCopySpec)

/-- ITS FALSE NEIGHBOUR: 'it returns false'. Refute it at one input. -/
def iovCopyWrong : ChangeSpec := { name := "iovCopy", fn := fun _ => fun
  | [d1, d2, d3] => { results := [.lit (.bool false)], args := [d1, d2, d3] }
  | _ => none }
def IovCopyWrongFalsely : Prop := iovCopyRow.holds Try.pinned (OpenSpec.ofChange iovCopyWrong)

/-- 'orpimentlaw09.IovBack': WHATEVER THE INPUT: true; the input reads as it did. -/
def iovBackSpec : ChangeSpec := { name := "iovBack", fn := fun _ => fun
  | [d1, d2, d3] => { results := [.lit (.bool true)], args := [d1, d2, d3] }
  | _ => none }
def iovBackRow : OpenClaim := { program := "ytbojagkalbfenaa", sum := "25bfc87cbbc34bcff644c59453c37f97a3c0467dfa21e229226dbbb4f6776ab8", func := "orpiment/orpimentlaw09.IovBack", spec := "iovBack", unfollowed := true, recurses := true, apart := false }
def IovBackSaid : Prop := iovBackRow.holds Try.pinned (OpenSpec.ofChange iovBackSpec)

/-- ITS FALSE NEIGHBOUR: 'it returns false'. Refute it at one input. -/
def iovBackWrong : ChangeSpec := { name := "iovBack", fn := fun _ => fun
  | [d1, d2, d3] => { results := [.lit (.bool false)], args := [d1, d2, d3] }
  | _ => none }
def IovBackWrongFalsely : Prop := iovBackRow.holds Try.pinned (OpenSpec.ofChange iovBackWrong)

/-- 'orpimentlaw09.IovSlices': WHATEVER THE INPUT: true; the input reads as it did. -/
def iovSlicesSpec : ChangeSpec := { name := "iovSlices", fn := fun _ => fun
  | [d1, d2, d3] => { results := [.lit (.bool true)], args := [d1, d2, d3] }
  | _ => none }
def iovSlicesRow : OpenClaim := { program := "ytbojagkalbfenaa", sum := "25bfc87cbbc34bcff644c59453c37f97a3c0467dfa21e229226dbbb4f6776ab8", func := "orpiment/orpimentlaw09.IovSlices", spec := "iovSlices", unfollowed := true, recurses := true, apart := false }
def IovSlicesSaid : Prop := iovSlicesRow.holds Try.pinned (OpenSpec.ofChange iovSlicesSpec)

/-- ITS FALSE NEIGHBOUR: 'it returns false'. Refute it at one input. -/
def iovSlicesWrong : ChangeSpec := { name := "iovSlices", fn := fun _ => fun
  | [d1, d2, d3] => { results := [.lit (.bool false)], args := [d1, d2, d3] }
  | _ => none }
def IovSlicesWrongFalsely : Prop := iovSlicesRow.holds Try.pinned (OpenSpec.ofChange iovSlicesWrong)

/- THE SECOND FORM. 'bulk': how many values and letters a reading holds, each counted each time it is reached (what is shared counts as often as it is met; a slice's spare places count too). A statement '..UptoSaid' is the law's where the arguments, and the package variables that the reading takes, are together of bulk at most 1048576: NARROWER than '..Said'. Prove '..Said' where nothing that the law and all that it calls make is longer than what came in: it says more and counts as full. Else prove '..UptoSaid'. A law counts once. -/
mutual
def uptoBulk {H : Type} : DataW H → Nat
  | .lit (.string bytes) => bytes.length + 1
  | .lit _ => 1
  | .nil => 1
  | .ptr d => uptoBulk d + 1
  | .slice elems spare => uptoBulkAll elems + uptoBulkAll spare + 1
  | .agg parts => uptoBulkAll parts + 1
  | .iface _ d => uptoBulk d + 1
  | .map entries => uptoBulkEntries entries + 1
  | .held _ => 1
def uptoBulkAll {H : Type} : List (DataW H) → Nat
  | [] => 0
  | d :: r => uptoBulk d + uptoBulkAll r
def uptoBulkEntries {H : Type} : List (Lit × DataW H) → Nat
  | [] => 0
  | x :: r => uptoBulkEntry x + uptoBulkEntries r
def uptoBulkEntry {H : Type} : Lit × DataW H → Nat
  | (.string bytes, d) => bytes.length + uptoBulk d + 1
  | (_, d) => uptoBulk d + 1
 end
def uptoSmall : (H : Type) → List (DataW H) → Bool := fun _ ds => decide (uptoBulkAll ds ≤ 1048576)
def OpenSpec.upto (s : _root_.Go.ChangeSpec) : _root_.Go.OpenSpec := { _root_.Go.OpenSpec.ofChange s with cond := some uptoSmall }

/-- 'orpimentlaw09.IovGather', WHERE WHAT IT READS IS OF BULK AT MOST 1048576: true; the input reads as it did. -/
def iovGatherUptoRow : OpenClaim := { program := "ytbojagkalbfenaa", sum := "25bfc87cbbc34bcff644c59453c37f97a3c0467dfa21e229226dbbb4f6776ab8", func := "orpiment/orpimentlaw09.IovGather", spec := "iovGather", unfollowed := true, recurses := true, apart := false, narrowed := true }
def IovGatherUptoSaid : Prop := iovGatherUptoRow.holds Try.pinned (OpenSpec.upto iovGatherSpec)

/-- 'orpimentlaw09.IovUnits', WHERE WHAT IT READS IS OF BULK AT MOST 1048576: true; the input reads as it did. -/
def iovUnitsUptoRow : OpenClaim := { program := "ytbojagkalbfenaa", sum := "25bfc87cbbc34bcff644c59453c37f97a3c0467dfa21e229226dbbb4f6776ab8", func := "orpiment/orpimentlaw09.IovUnits", spec := "iovUnits", unfollowed := true, recurses := true, apart := false, narrowed := true }
def IovUnitsUptoSaid : Prop := iovUnitsUptoRow.holds Try.pinned (OpenSpec.upto iovUnitsSpec)

/-- 'orpimentlaw09.IovLength', WHERE WHAT IT READS IS OF BULK AT MOST 1048576: true; the input reads as it did. -/
def iovLengthUptoRow : OpenClaim := { program := "ytbojagkalbfenaa", sum := "25bfc87cbbc34bcff644c59453c37f97a3c0467dfa21e229226dbbb4f6776ab8", func := "orpiment/orpimentlaw09.IovLength", spec := "iovLength", unfollowed := true, recurses := true, apart := false, narrowed := true }
def IovLengthUptoSaid : Prop := iovLengthUptoRow.holds Try.pinned (OpenSpec.upto iovLengthSpec)

/-- 'orpimentlaw09.IovScatter', WHERE WHAT IT READS IS OF BULK AT MOST 1048576: true; the input reads as it did. -/
def iovScatterUptoRow : OpenClaim := { program := "ytbojagkalbfenaa", sum := "25bfc87cbbc34bcff644c59453c37f97a3c0467dfa21e229226dbbb4f6776ab8", func := "orpiment/orpimentlaw09.IovScatter", spec := "iovScatter", unfollowed := true, recurses := true, apart := false, narrowed := true }
def IovScatterUptoSaid : Prop := iovScatterUptoRow.holds Try.pinned (OpenSpec.upto iovScatterSpec)

/-- 'orpimentlaw09.IovCopy', WHERE WHAT IT READS IS OF BULK AT MOST 1048576: true; the input reads as it did. -/
def iovCopyUptoRow : OpenClaim := { program := "ytbojagkalbfenaa", sum := "25bfc87cbbc34bcff644c59453c37f97a3c0467dfa21e229226dbbb4f6776ab8", func := "orpiment/orpimentlaw09.IovCopy", spec := "iovCopy", unfollowed := true, recurses := true, apart := false, narrowed := true }
def IovCopyUptoSaid : Prop := iovCopyUptoRow.holds Try.pinned (OpenSpec.upto iovCopySpec)

/-- 'orpimentlaw09.IovBack', WHERE WHAT IT READS IS OF BULK AT MOST 1048576: true; the input reads as it did. -/
def iovBackUptoRow : OpenClaim := { program := "ytbojagkalbfenaa", sum := "25bfc87cbbc34bcff644c59453c37f97a3c0467dfa21e229226dbbb4f6776ab8", func := "orpiment/orpimentlaw09.IovBack", spec := "iovBack", unfollowed := true, recurses := true, apart := false, narrowed := true }
def IovBackUptoSaid : Prop := iovBackUptoRow.holds Try.pinned (OpenSpec.upto iovBackSpec)

/-- 'orpimentlaw09.IovSlices', WHERE WHAT IT READS IS OF BULK AT MOST 1048576: true; the input reads as it did. -/
def iovSlicesUptoRow : OpenClaim := { program := "ytbojagkalbfenaa", sum := "25bfc87cbbc34bcff644c59453c37f97a3c0467dfa21e229226dbbb4f6776ab8", func := "orpiment/orpimentlaw09.IovSlices", spec := "iovSlices", unfollowed := true, recurses := true, apart := false, narrowed := true }
def IovSlicesUptoSaid : Prop := iovSlicesUptoRow.holds Try.pinned (OpenSpec.upto iovSlicesSpec)

end Rows
end Go.Proofs.Ytbojagkalbfenaa
