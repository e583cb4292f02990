/-
  No cell of these rows narrows 'for every input' (looked for: loops, veiled, ifaces, maps, wideKeys, modest, calm, conditions, laid).
  DERIVED. THE GIVEN ROWS OF THIS SEAT. 3 by the template 'for every input the law returns true; each argument reads behind the call as it read before'; 0 by the template 'total and deterministic' (their statements: YtedoonfegcgmeaaTotals.lean).
  GIVEN WITH THE SEED: the statements are not yours to turn. If you find one false, say at which input.
  Laid BY PROGRAM, IN A SANDBOX (cutbox-rows.mjs): the forced cells as the released guide's own fill.sh prints them over the translation 8a8e5c1ec97a18a5… (all of the seat's roots in one cut). By AI agents, Wed Nov 11 2026. No macro, syntax, notation, axiom, sorry.
-/
import Derived.Test.YtedoonfegcgmeaaChecked
import GoSem.Claim
import GoSem.ClaimJoined
import GoSem.ClaimMapViews
import Derived.JoinedTies
import Derived.KernelRfl
namespace Go.Proofs.Ytedoonfegcgmeaa
/- THE CELL 'sum', in the pinned program and in every row, IS THE sha256 OF THE DUMP (.gsa) THAT YtedoonfegcgmeaaProg.lean LOADS. Nothing in Lean hashes anything: it is a label: what it is worth is what the hold of that sum in a sandbox is worth. -/
noncomputable def Try.pinned : Pinned := { name := "ytedoonfegcgmeaa", sum := "8a8e5c1ec97a18a533b3b676481a4a4676dfb8d4e2d706806e83c4a5e2ec0e75", checked := Try.checked }
namespace Rows
def none {H : Type} : Left H := { results := [], args := [] }

/-- 'orpimentlaw19.PathsCleans': WHATEVER THE INPUT: true; the input reads as it did. -/
def pathsCleansSpec : ChangeSpec := { name := "pathsCleans", fn := fun _ => fun
  | [d1, d2] => { results := [.lit (.bool true)], args := [d1, d2] }
  | _ => none }
def pathsCleansRow : OpenClaim := { program := "ytedoonfegcgmeaa", sum := "8a8e5c1ec97a18a533b3b676481a4a4676dfb8d4e2d706806e83c4a5e2ec0e75", func := "orpiment/orpimentlaw19.PathsCleans", spec := "pathsCleans", inPlace := ["internal/bytealg.IndexByteString", "internal/bytealg.IndexString", "internal/abi.NoEscape", "internal/bytealg.MakeNoZero"], unfollowed := true, recurses := true, named := ["internal/bytealg.MaxLen"], apart := false }
def PathsCleansSaid : Prop := pathsCleansRow.holds Try.pinned (OpenSpec.ofChange pathsCleansSpec)

/-- ITS FALSE NEIGHBOUR: 'it returns false'. Refute it at one input. -/
def pathsCleansWrong : ChangeSpec := { name := "pathsCleans", fn := fun _ => fun
  | [d1, d2] => { results := [.lit (.bool false)], args := [d1, d2] }
  | _ => none }
def PathsCleansWrongFalsely : Prop := pathsCleansRow.holds Try.pinned (OpenSpec.ofChange pathsCleansWrong)

/-- 'orpimentlaw19.PathsBack': WHATEVER THE INPUT: true; the input reads as it did. -/
def pathsBackSpec : ChangeSpec := { name := "pathsBack", fn := fun _ => fun
  | [d1, d2] => { results := [.lit (.bool true)], args := [d1, d2] }
  | _ => none }
def pathsBackRow : OpenClaim := { program := "ytedoonfegcgmeaa", sum := "8a8e5c1ec97a18a533b3b676481a4a4676dfb8d4e2d706806e83c4a5e2ec0e75", func := "orpiment/orpimentlaw19.PathsBack", spec := "pathsBack", inPlace := ["internal/bytealg.IndexByteString", "internal/bytealg.IndexString", "internal/abi.NoEscape", "internal/bytealg.MakeNoZero"], unfollowed := true, recurses := true, named := ["internal/bytealg.MaxLen"], apart := false }
def PathsBackSaid : Prop := pathsBackRow.holds Try.pinned (OpenSpec.ofChange pathsBackSpec)

/-- ITS FALSE NEIGHBOUR: 'it returns false'. Refute it at one input. -/
def pathsBackWrong : ChangeSpec := { name := "pathsBack", fn := fun _ => fun
  | [d1, d2] => { results := [.lit (.bool false)], args := [d1, d2] }
  | _ => none }
def PathsBackWrongFalsely : Prop := pathsBackRow.holds Try.pinned (OpenSpec.ofChange pathsBackWrong)

/-- 'orpimentlaw19.PathsNil': WHATEVER THE INPUT: true; the input reads as it did. -/
def pathsNilSpec : ChangeSpec := { name := "pathsNil", fn := fun _ => fun
  | [d] => { results := [.lit (.bool true)], args := [d] }
  | _ => none }
def pathsNilRow : OpenClaim := { program := "ytedoonfegcgmeaa", sum := "8a8e5c1ec97a18a533b3b676481a4a4676dfb8d4e2d706806e83c4a5e2ec0e75", func := "orpiment/orpimentlaw19.PathsNil", spec := "pathsNil", inPlace := ["internal/bytealg.IndexByteString", "internal/bytealg.IndexString", "internal/abi.NoEscape", "internal/bytealg.MakeNoZero"], unfollowed := true, recurses := true, named := ["internal/bytealg.MaxLen"], apart := false }
def PathsNilSaid : Prop := pathsNilRow.holds Try.pinned (OpenSpec.ofChange pathsNilSpec)

/-- ITS FALSE NEIGHBOUR: 'it returns false'. Refute it at one input. -/
def pathsNilWrong : ChangeSpec := { name := "pathsNil", fn := fun _ => fun
  | [d] => { results := [.lit (.bool false)], args := [d] }
  | _ => none }
def PathsNilWrongFalsely : Prop := pathsNilRow.holds Try.pinned (OpenSpec.ofChange pathsNilWrong)

/- THE SECOND FORM. 'bulk': how many values and letters a reading holds, each counted each time it is reached (what is shared counts as often as it is met; a slice's spare places count too). A statement '..UptoSaid' is the law's where the arguments, and the package variables that the reading takes, are together of bulk at most 1048576: NARROWER than '..Said'. Prove '..Said' where nothing that the law and all that it calls make is longer than what came in: it says more and counts as full. Else prove '..UptoSaid'. A law counts once. -/
mutual
def uptoBulk {H : Type} : DataW H → Nat
  | .lit (.string bytes) => bytes.length + 1
  | .lit _ => 1
  | .nil => 1
  | .ptr d => uptoBulk d + 1
  | .slice elems spare => uptoBulkAll elems + uptoBulkAll spare + 1
  | .agg parts => uptoBulkAll parts + 1
  | .iface _ d => uptoBulk d + 1
  | .map entries => uptoBulkEntries entries + 1
  | .held _ => 1
def uptoBulkAll {H : Type} : List (DataW H) → Nat
  | [] => 0
  | d :: r => uptoBulk d + uptoBulkAll r
def uptoBulkEntries {H : Type} : List (Lit × DataW H) → Nat
  | [] => 0
  | x :: r => uptoBulkEntry x + uptoBulkEntries r
def uptoBulkEntry {H : Type} : Lit × DataW H → Nat
  | (.string bytes, d) => bytes.length + uptoBulk d + 1
  | (_, d) => uptoBulk d + 1
 end
def uptoSmall : (H : Type) → List (DataW H) → Bool := fun _ ds => decide (uptoBulkAll ds ≤ 1048576)
def OpenSpec.upto (s : _root_.Go.ChangeSpec) : _root_.Go.OpenSpec := { _root_.Go.OpenSpec.ofChange s with cond := some uptoSmall }

/-- 'orpimentlaw19.PathsCleans', WHERE WHAT IT READS IS OF BULK AT MOST 1048576: true; the input reads as it did. -/
def pathsCleansUptoRow : OpenClaim := { program := "ytedoonfegcgmeaa", sum := "8a8e5c1ec97a18a533b3b676481a4a4676dfb8d4e2d706806e83c4a5e2ec0e75", func := "orpiment/orpimentlaw19.PathsCleans", spec := "pathsCleans", inPlace := ["internal/bytealg.IndexByteString", "internal/bytealg.IndexString", "internal/abi.NoEscape", "internal/bytealg.MakeNoZero"], unfollowed := true, recurses := true, named := ["internal/bytealg.MaxLen"], apart := false, narrowed := true }
def PathsCleansUptoSaid : Prop := pathsCleansUptoRow.holds Try.pinned (OpenSpec.upto pathsCleansSpec)

/-- 'orpimentlaw19.PathsBack', WHERE WHAT IT READS IS OF BULK AT MOST 1048576: true; the input reads as it did. -/
def pathsBackUptoRow : OpenClaim := { program := "ytedoonfegcgmeaa", sum := "8a8e5c1ec97a18a533b3b676481a4a4676dfb8d4e2d706806e83c4a5e2ec0e75", func := "orpiment/orpimentlaw19.PathsBack", spec := "pathsBack", inPlace := ["internal/bytealg.IndexByteString", "internal/bytealg.IndexString", "internal/abi.NoEscape", "internal/bytealg.MakeNoZero"], unfollowed := true, recurses := true, named := ["internal/bytealg.MaxLen"], apart := false, narrowed := true }
def PathsBackUptoSaid : Prop := pathsBackUptoRow.holds Try.pinned (OpenSpec.upto pathsBackSpec)

/-- 'orpimentlaw19.PathsNil', WHERE WHAT IT READS IS OF BULK AT MOST 1048576: true; the input reads as it did. -/
def pathsNilUptoRow : OpenClaim := { program := "ytedoonfegcgmeaa", sum := "8a8e5c1ec97a18a533b3b676481a4a4676dfb8d4e2d706806e83c4a5e2ec0e75", func := "orpiment/orpimentlaw19.PathsNil", spec := "pathsNil", inPlace := ["internal/bytealg.IndexByteString", "internal/bytealg.IndexString", "internal/abi.NoEscape", "internal/bytealg.MakeNoZero"], unfollowed := true, recurses := true, named := ["internal/bytealg.MaxLen"], apart := false, narrowed := true }
def PathsNilUptoSaid : Prop := pathsNilUptoRow.holds Try.pinned (OpenSpec.upto pathsNilSpec)

end Rows
end Go.Proofs.Ytedoonfegcgmeaa
