/-
  No cell of these rows narrows 'for every input' (looked for: loops, veiled, ifaces, maps, wideKeys, modest, calm, conditions, laid).
  DERIVED. THE GIVEN ROWS OF THIS SEAT. 4 by the template 'for every input the law returns true; each argument reads behind the call as it read before'; 0 by the template 'total and deterministic' (their statements: YtofibebphfeglaaTotals.lean).
  GIVEN WITH THE SEED: the statements are not yours to turn. If you find one false, say at which input.
  Laid BY PROGRAM, IN A SANDBOX (cutbox-rows.mjs): the forced cells as the released guide's own fill.sh prints them over the translation 54100c1c9652fb6c… (all of the seat's roots in one cut). By AI agents, Wed Nov 11 2026. No macro, syntax, notation, axiom, sorry.
-/
import Derived.Test.YtofibebphfeglaaChecked
import GoSem.Claim
import GoSem.ClaimJoined
import GoSem.ClaimMapViews
import Derived.JoinedTies
import Derived.KernelRfl
namespace Go.Proofs.Ytofibebphfeglaa
/- THE CELL 'sum', in the pinned program and in every row, IS THE sha256 OF THE DUMP (.gsa) THAT YtofibebphfeglaaProg.lean LOADS. Nothing in Lean hashes anything: it is a label: what it is worth is what the hold of that sum in a sandbox is worth. -/
noncomputable def Try.pinned : Pinned := { name := "ytofibebphfeglaa", sum := "54100c1c9652fb6cbdfecf1feafae49d385f4a215677bb6ce96d46db3b681d47", checked := Try.checked }
namespace Rows
def none {H : Type} : Left H := { results := [], args := [] }

/-- 'orpimentlaw01.CostsValues': WHATEVER THE INPUT: true; the input reads as it did. -/
def costsValuesSpec : ChangeSpec := { name := "costsValues", fn := fun _ => fun
  | [d1, d2, d3] => { results := [.lit (.bool true)], args := [d1, d2, d3] }
  | _ => none }
def costsValuesRow : OpenClaim := { program := "ytofibebphfeglaa", sum := "54100c1c9652fb6cbdfecf1feafae49d385f4a215677bb6ce96d46db3b681d47", func := "orpiment/orpimentlaw01.CostsValues", spec := "costsValues", apart := false }
def CostsValuesSaid : Prop := costsValuesRow.holds Try.pinned (OpenSpec.ofChange costsValuesSpec)

/-- ITS FALSE NEIGHBOUR: 'it returns false'. Refute it at one input. -/
def costsValuesWrong : ChangeSpec := { name := "costsValues", fn := fun _ => fun
  | [d1, d2, d3] => { results := [.lit (.bool false)], args := [d1, d2, d3] }
  | _ => none }
def CostsValuesWrongFalsely : Prop := costsValuesRow.holds Try.pinned (OpenSpec.ofChange costsValuesWrong)

/-- 'orpimentlaw01.CostsSections': WHATEVER THE INPUT: true; the input reads as it did. -/
def costsSectionsSpec : ChangeSpec := { name := "costsSections", fn := fun _ => fun
  | [d1, d2, d3] => { results := [.lit (.bool true)], args := [d1, d2, d3] }
  | _ => none }
def costsSectionsRow : OpenClaim := { program := "ytofibebphfeglaa", sum := "54100c1c9652fb6cbdfecf1feafae49d385f4a215677bb6ce96d46db3b681d47", func := "orpiment/orpimentlaw01.CostsSections", spec := "costsSections", apart := false }
def CostsSectionsSaid : Prop := costsSectionsRow.holds Try.pinned (OpenSpec.ofChange costsSectionsSpec)

/-- ITS FALSE NEIGHBOUR: 'it returns false'. Refute it at one input. -/
def costsSectionsWrong : ChangeSpec := { name := "costsSections", fn := fun _ => fun
  | [d1, d2, d3] => { results := [.lit (.bool false)], args := [d1, d2, d3] }
  | _ => none }
def CostsSectionsWrongFalsely : Prop := costsSectionsRow.holds Try.pinned (OpenSpec.ofChange costsSectionsWrong)

/-- 'orpimentlaw01.CostsBounds': WHATEVER THE INPUT: true; the input reads as it did. -/
def costsBoundsSpec : ChangeSpec := { name := "costsBounds", fn := fun _ => fun
  | [d1, d2, d3] => { results := [.lit (.bool true)], args := [d1, d2, d3] }
  | _ => none }
def costsBoundsRow : OpenClaim := { program := "ytofibebphfeglaa", sum := "54100c1c9652fb6cbdfecf1feafae49d385f4a215677bb6ce96d46db3b681d47", func := "orpiment/orpimentlaw01.CostsBounds", spec := "costsBounds", apart := false }
def CostsBoundsSaid : Prop := costsBoundsRow.holds Try.pinned (OpenSpec.ofChange costsBoundsSpec)

/-- ITS FALSE NEIGHBOUR: 'it returns false'. Refute it at one input. -/
def costsBoundsWrong : ChangeSpec := { name := "costsBounds", fn := fun _ => fun
  | [d1, d2, d3] => { results := [.lit (.bool false)], args := [d1, d2, d3] }
  | _ => none }
def CostsBoundsWrongFalsely : Prop := costsBoundsRow.holds Try.pinned (OpenSpec.ofChange costsBoundsWrong)

/-- 'orpimentlaw01.CostsPaths': WHATEVER THE INPUT: true; the input reads as it did. -/
def costsPathsSpec : ChangeSpec := { name := "costsPaths", fn := fun _ => fun
  | [d1, d2] => { results := [.lit (.bool true)], args := [d1, d2] }
  | _ => none }
def costsPathsRow : OpenClaim := { program := "ytofibebphfeglaa", sum := "54100c1c9652fb6cbdfecf1feafae49d385f4a215677bb6ce96d46db3b681d47", func := "orpiment/orpimentlaw01.CostsPaths", spec := "costsPaths", apart := false }
def CostsPathsSaid : Prop := costsPathsRow.holds Try.pinned (OpenSpec.ofChange costsPathsSpec)

/-- ITS FALSE NEIGHBOUR: 'it returns false'. Refute it at one input. -/
def costsPathsWrong : ChangeSpec := { name := "costsPaths", fn := fun _ => fun
  | [d1, d2] => { results := [.lit (.bool false)], args := [d1, d2] }
  | _ => none }
def CostsPathsWrongFalsely : Prop := costsPathsRow.holds Try.pinned (OpenSpec.ofChange costsPathsWrong)

/- THE SECOND FORM. 'bulk': how many values and letters a reading holds, each counted each time it is reached (what is shared counts as often as it is met; a slice's spare places count too). A statement '..UptoSaid' is the law's where the arguments, and the package variables that the reading takes, are together of bulk at most 1048576: NARROWER than '..Said'. Prove '..Said' where nothing that the law and all that it calls make is longer than what came in: it says more and counts as full. Else prove '..UptoSaid'. A law counts once. -/
mutual
def uptoBulk {H : Type} : DataW H → Nat
  | .lit (.string bytes) => bytes.length + 1
  | .lit _ => 1
  | .nil => 1
  | .ptr d => uptoBulk d + 1
  | .slice elems spare => uptoBulkAll elems + uptoBulkAll spare + 1
  | .agg parts => uptoBulkAll parts + 1
  | .iface _ d => uptoBulk d + 1
  | .map entries => uptoBulkEntries entries + 1
  | .held _ => 1
def uptoBulkAll {H : Type} : List (DataW H) → Nat
  | [] => 0
  | d :: r => uptoBulk d + uptoBulkAll r
def uptoBulkEntries {H : Type} : List (Lit × DataW H) → Nat
  | [] => 0
  | x :: r => uptoBulkEntry x + uptoBulkEntries r
def uptoBulkEntry {H : Type} : Lit × DataW H → Nat
  | (.string bytes, d) => bytes.length + uptoBulk d + 1
  | (_, d) => uptoBulk d + 1
 end
def uptoSmall : (H : Type) → List (DataW H) → Bool := fun _ ds => decide (uptoBulkAll ds ≤ 1048576)
def OpenSpec.upto (s : _root_.Go.ChangeSpec) : _root_.Go.OpenSpec := { _root_.Go.OpenSpec.ofChange s with cond := some uptoSmall }

/-- 'orpimentlaw01.CostsValues', WHERE WHAT IT READS IS OF BULK AT MOST 1048576: true; the input reads as it did. -/
def costsValuesUptoRow : OpenClaim := { program := "ytofibebphfeglaa", sum := "54100c1c9652fb6cbdfecf1feafae49d385f4a215677bb6ce96d46db3b681d47", func := "orpiment/orpimentlaw01.CostsValues", spec := "costsValues", apart := false, narrowed := true }
def CostsValuesUptoSaid : Prop := costsValuesUptoRow.holds Try.pinned (OpenSpec.upto costsValuesSpec)

/-- 'orpimentlaw01.CostsSections', WHERE WHAT IT READS IS OF BULK AT MOST 1048576: true; the input reads as it did. -/
def costsSectionsUptoRow : OpenClaim := { program := "ytofibebphfeglaa", sum := "54100c1c9652fb6cbdfecf1feafae49d385f4a215677bb6ce96d46db3b681d47", func := "orpiment/orpimentlaw01.CostsSections", spec := "costsSections", apart := false, narrowed := true }
def CostsSectionsUptoSaid : Prop := costsSectionsUptoRow.holds Try.pinned (OpenSpec.upto costsSectionsSpec)

/-- 'orpimentlaw01.CostsBounds', WHERE WHAT IT READS IS OF BULK AT MOST 1048576: true; the input reads as it did. -/
def costsBoundsUptoRow : OpenClaim := { program := "ytofibebphfeglaa", sum := "54100c1c9652fb6cbdfecf1feafae49d385f4a215677bb6ce96d46db3b681d47", func := "orpiment/orpimentlaw01.CostsBounds", spec := "costsBounds", apart := false, narrowed := true }
def CostsBoundsUptoSaid : Prop := costsBoundsUptoRow.holds Try.pinned (OpenSpec.upto costsBoundsSpec)

/-- 'orpimentlaw01.CostsPaths', WHERE WHAT IT READS IS OF BULK AT MOST 1048576: true; the input reads as it did. -/
def costsPathsUptoRow : OpenClaim := { program := "ytofibebphfeglaa", sum := "54100c1c9652fb6cbdfecf1feafae49d385f4a215677bb6ce96d46db3b681d47", func := "orpiment/orpimentlaw01.CostsPaths", spec := "costsPaths", apart := false, narrowed := true }
def CostsPathsUptoSaid : Prop := costsPathsUptoRow.holds Try.pinned (OpenSpec.upto costsPathsSpec)

end Rows
end Go.Proofs.Ytofibebphfeglaa
