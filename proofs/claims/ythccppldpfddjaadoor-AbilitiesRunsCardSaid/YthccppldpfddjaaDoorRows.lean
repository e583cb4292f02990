/-
  NARROWER THAN 'FOR EVERY INPUT', by the rows' own cells (each row's printed sentence says how): AbilitiesParts: laid · AbilitiesLocked: laid · AbilitiesWithin: laid · AbilitiesRuns: laid · AbilitiesLimits: laid · AbilitiesNil: laid.
  DERIVED. THE GIVEN ROWS OF THIS SEAT. 6 by the template 'for every input the law returns true; each argument reads behind the call as it read before'; 0 by the template 'total and deterministic' (their statements: YthccppldpfddjaaDoorTotals.lean).
  GIVEN WITH THE SEED: the statements are not yours to turn. If you find one false, say at which input.
  Laid BY PROGRAM, IN A SANDBOX (cutbox-rows.mjs): the forced cells as the released guide's own fill.sh prints them over the translation c7a908c695e08c66… (all of the seat's roots in one cut). By AI agents, Wed Nov 11 2026. No macro, syntax, notation, axiom, sorry.
-/
import Derived.Test.YthccppldpfddjaaDoorChecked
import GoSem.Claim
import GoSem.ClaimJoined
import GoSem.ClaimMapViews
import Derived.JoinedTies
import Derived.KernelRfl
namespace Go.Proofs.YthccppldpfddjaaDoor
/- THE CELL 'sum', in the pinned program and in every row, IS THE sha256 OF THE DUMP (.gsa) THAT YthccppldpfddjaaDoorProg.lean LOADS. Nothing in Lean hashes anything: it is a label: what it is worth is what the hold of that sum in a sandbox is worth. -/
noncomputable def Tryd.pinned : Pinned := { name := "ythccppldpfddjaadoor", sum := "c7a908c695e08c6621aef7171face9697dc911244c31ec451c3f6acf82ae7348", checked := Tryd.checked }
namespace Rows
def none {H : Type} : Left H := { results := [], args := [] }

/- WHAT THE LISTED PACKAGE-LEVEL VARIABLES READ AS WHEN THE CALL BEGINS. Each datum BY PROGRAM (the guide's laid-datum.mjs) off the statement by which the dump's own 'gosem.cut.vars' lays the variable. In a bare row this is a premise. The card (YthccppldpfddjaaDoorCards.lean) ties it to the program's text. -/
def laid_math_bits_deBruijn32tab {H : Type} : DataW H := .agg [.lit (.int .u8 0), .lit (.int .u8 1), .lit (.int .u8 28), .lit (.int .u8 2), .lit (.int .u8 29), .lit (.int .u8 14), .lit (.int .u8 24), .lit (.int .u8 3), .lit (.int .u8 30), .lit (.int .u8 22), .lit (.int .u8 20), .lit (.int .u8 15), .lit (.int .u8 25), .lit (.int .u8 17), .lit (.int .u8 4), .lit (.int .u8 8), .lit (.int .u8 31), .lit (.int .u8 27), .lit (.int .u8 13), .lit (.int .u8 23), .lit (.int .u8 21), .lit (.int .u8 19), .lit (.int .u8 16), .lit (.int .u8 7), .lit (.int .u8 26), .lit (.int .u8 12), .lit (.int .u8 18), .lit (.int .u8 6), .lit (.int .u8 11), .lit (.int .u8 5), .lit (.int .u8 10), .lit (.int .u8 9)]
def laid_math_bits_deBruijn64tab {H : Type} : DataW H := .agg [.lit (.int .u8 0), .lit (.int .u8 1), .lit (.int .u8 56), .lit (.int .u8 2), .lit (.int .u8 57), .lit (.int .u8 49), .lit (.int .u8 28), .lit (.int .u8 3), .lit (.int .u8 61), .lit (.int .u8 58), .lit (.int .u8 42), .lit (.int .u8 50), .lit (.int .u8 38), .lit (.int .u8 29), .lit (.int .u8 17), .lit (.int .u8 4), .lit (.int .u8 62), .lit (.int .u8 47), .lit (.int .u8 59), .lit (.int .u8 36), .lit (.int .u8 45), .lit (.int .u8 43), .lit (.int .u8 51), .lit (.int .u8 22), .lit (.int .u8 53), .lit (.int .u8 39), .lit (.int .u8 33), .lit (.int .u8 30), .lit (.int .u8 24), .lit (.int .u8 18), .lit (.int .u8 12), .lit (.int .u8 5), .lit (.int .u8 63), .lit (.int .u8 55), .lit (.int .u8 48), .lit (.int .u8 27), .lit (.int .u8 60), .lit (.int .u8 41), .lit (.int .u8 37), .lit (.int .u8 16), .lit (.int .u8 46), .lit (.int .u8 35), .lit (.int .u8 44), .lit (.int .u8 21), .lit (.int .u8 52), .lit (.int .u8 32), .lit (.int .u8 23), .lit (.int .u8 11), .lit (.int .u8 54), .lit (.int .u8 26), .lit (.int .u8 40), .lit (.int .u8 15), .lit (.int .u8 34), .lit (.int .u8 20), .lit (.int .u8 31), .lit (.int .u8 10), .lit (.int .u8 25), .lit (.int .u8 14), .lit (.int .u8 19), .lit (.int .u8 9), .lit (.int .u8 13), .lit (.int .u8 8), .lit (.int .u8 7), .lit (.int .u8 6)]
def laid_internal_strconv_uint64pow10 {H : Type} : DataW H := .agg [.lit (.int .u64 1), .lit (.int .u64 10), .lit (.int .u64 100), .lit (.int .u64 1000), .lit (.int .u64 10000), .lit (.int .u64 100000), .lit (.int .u64 1000000), .lit (.int .u64 10000000), .lit (.int .u64 100000000), .lit (.int .u64 1000000000), .lit (.int .u64 10000000000), .lit (.int .u64 100000000000), .lit (.int .u64 1000000000000), .lit (.int .u64 10000000000000), .lit (.int .u64 100000000000000), .lit (.int .u64 1000000000000000), .lit (.int .u64 10000000000000000), .lit (.int .u64 100000000000000000), .lit (.int .u64 1000000000000000000), .lit (.int .u64 10000000000000000000)]
def laid_orpiment_abilities_effects {H : Type} : DataW H := .iface "func table" (.agg [.iface "func" (.lit (.string [111, 114, 112, 105, 109, 101, 110, 116, 47, 97, 98, 105, 108, 105, 116, 105, 101, 115, 46, 101, 102, 102, 101, 99, 116, 115, 36, 49])), .iface "func" (.lit (.string [111, 114, 112, 105, 109, 101, 110, 116, 47, 97, 98, 105, 108, 105, 116, 105, 101, 115, 46, 101, 102, 102, 101, 99, 116, 115, 36, 50])), .iface "func" (.lit (.string [111, 114, 112, 105, 109, 101, 110, 116, 47, 97, 98, 105, 108, 105, 116, 105, 101, 115, 46, 101, 102, 102, 101, 99, 116, 115, 36, 51])), .iface "func" (.lit (.string [111, 114, 112, 105, 109, 101, 110, 116, 47, 97, 98, 105, 108, 105, 116, 105, 101, 115, 46, 101, 102, 102, 101, 99, 116, 115, 36, 52])), .iface "func" (.lit (.string [111, 114, 112, 105, 109, 101, 110, 116, 47, 97, 98, 105, 108, 105, 116, 105, 101, 115, 46, 101, 102, 102, 101, 99, 116, 115, 36, 53]))])
def laid_orpiment_abilities_domains {H : Type} : DataW H := .agg [.lit (.string [114, 111, 111, 116]), .lit (.string [117, 115, 101, 114])]

/-- 'orpimentlaw16.AbilitiesParts': WHATEVER THE INPUT: true; the input reads as it did. -/
def abilitiesPartsSpec : ChangeSpec := { name := "abilitiesParts", fn := fun _ => fun
  | [d] => { results := [.lit (.bool true)], args := [d] }
  | _ => none }
def abilitiesPartsRow : OpenClaim := { program := "ythccppldpfddjaadoor", sum := "c7a908c695e08c6621aef7171face9697dc911244c31ec451c3f6acf82ae7348", func := "orpiment/orpimentlaw16.AbilitiesParts", spec := "abilitiesParts", inPlace := ["internal/abi.NoEscape"], unfollowed := true, recurses := true, named := ["orpiment/abilities.effects", "orpiment/abilities.domains", "internal/strconv.uint64pow10", "math/bits.deBruijn32tab", "math/bits.deBruijn64tab"], apart := false, laid := [("math/bits.deBruijn32tab", laid_math_bits_deBruijn32tab), ("math/bits.deBruijn64tab", laid_math_bits_deBruijn64tab), ("internal/strconv.uint64pow10", laid_internal_strconv_uint64pow10), ("orpiment/abilities.effects", laid_orpiment_abilities_effects), ("orpiment/abilities.domains", laid_orpiment_abilities_domains)] }
def AbilitiesPartsSaid : Prop := abilitiesPartsRow.holds Tryd.pinned (OpenSpec.ofChange abilitiesPartsSpec)

/-- ITS FALSE NEIGHBOUR: 'it returns false'. Refute it at one input. -/
def abilitiesPartsWrong : ChangeSpec := { name := "abilitiesParts", fn := fun _ => fun
  | [d] => { results := [.lit (.bool false)], args := [d] }
  | _ => none }
def AbilitiesPartsWrongFalsely : Prop := abilitiesPartsRow.holds Tryd.pinned (OpenSpec.ofChange abilitiesPartsWrong)

/-- 'orpimentlaw16.AbilitiesLocked': WHATEVER THE INPUT: true; the input reads as it did. -/
def abilitiesLockedSpec : ChangeSpec := { name := "abilitiesLocked", fn := fun _ => fun
  | [d1, d2, d3] => { results := [.lit (.bool true)], args := [d1, d2, d3] }
  | _ => none }
def abilitiesLockedRow : OpenClaim := { program := "ythccppldpfddjaadoor", sum := "c7a908c695e08c6621aef7171face9697dc911244c31ec451c3f6acf82ae7348", func := "orpiment/orpimentlaw16.AbilitiesLocked", spec := "abilitiesLocked", inPlace := ["internal/abi.NoEscape"], unfollowed := true, recurses := true, named := ["orpiment/abilities.effects", "orpiment/abilities.domains", "internal/strconv.uint64pow10", "math/bits.deBruijn32tab", "math/bits.deBruijn64tab"], apart := false, laid := [("math/bits.deBruijn32tab", laid_math_bits_deBruijn32tab), ("math/bits.deBruijn64tab", laid_math_bits_deBruijn64tab), ("internal/strconv.uint64pow10", laid_internal_strconv_uint64pow10), ("orpiment/abilities.effects", laid_orpiment_abilities_effects), ("orpiment/abilities.domains", laid_orpiment_abilities_domains)] }
def AbilitiesLockedSaid : Prop := abilitiesLockedRow.holds Tryd.pinned (OpenSpec.ofChange abilitiesLockedSpec)

/-- ITS FALSE NEIGHBOUR: 'it returns false'. Refute it at one input. -/
def abilitiesLockedWrong : ChangeSpec := { name := "abilitiesLocked", fn := fun _ => fun
  | [d1, d2, d3] => { results := [.lit (.bool false)], args := [d1, d2, d3] }
  | _ => none }
def AbilitiesLockedWrongFalsely : Prop := abilitiesLockedRow.holds Tryd.pinned (OpenSpec.ofChange abilitiesLockedWrong)

/-- 'orpimentlaw16.AbilitiesWithin': WHATEVER THE INPUT: true; the input reads as it did. -/
def abilitiesWithinSpec : ChangeSpec := { name := "abilitiesWithin", fn := fun _ => fun
  | [d1, d2] => { results := [.lit (.bool true)], args := [d1, d2] }
  | _ => none }
def abilitiesWithinRow : OpenClaim := { program := "ythccppldpfddjaadoor", sum := "c7a908c695e08c6621aef7171face9697dc911244c31ec451c3f6acf82ae7348", func := "orpiment/orpimentlaw16.AbilitiesWithin", spec := "abilitiesWithin", inPlace := ["internal/abi.NoEscape"], unfollowed := true, recurses := true, named := ["orpiment/abilities.effects", "orpiment/abilities.domains", "internal/strconv.uint64pow10", "math/bits.deBruijn32tab", "math/bits.deBruijn64tab"], apart := false, laid := [("math/bits.deBruijn32tab", laid_math_bits_deBruijn32tab), ("math/bits.deBruijn64tab", laid_math_bits_deBruijn64tab), ("internal/strconv.uint64pow10", laid_internal_strconv_uint64pow10), ("orpiment/abilities.effects", laid_orpiment_abilities_effects), ("orpiment/abilities.domains", laid_orpiment_abilities_domains)] }
def AbilitiesWithinSaid : Prop := abilitiesWithinRow.holds Tryd.pinned (OpenSpec.ofChange abilitiesWithinSpec)

/-- ITS FALSE NEIGHBOUR: 'it returns false'. Refute it at one input. -/
def abilitiesWithinWrong : ChangeSpec := { name := "abilitiesWithin", fn := fun _ => fun
  | [d1, d2] => { results := [.lit (.bool false)], args := [d1, d2] }
  | _ => none }
def AbilitiesWithinWrongFalsely : Prop := abilitiesWithinRow.holds Tryd.pinned (OpenSpec.ofChange abilitiesWithinWrong)

/-- 'orpimentlaw16.AbilitiesRuns': WHATEVER THE INPUT: true; the input reads as it did. -/
def abilitiesRunsSpec : ChangeSpec := { name := "abilitiesRuns", fn := fun _ => fun
  | [d] => { results := [.lit (.bool true)], args := [d] }
  | _ => none }
def abilitiesRunsRow : OpenClaim := { program := "ythccppldpfddjaadoor", sum := "c7a908c695e08c6621aef7171face9697dc911244c31ec451c3f6acf82ae7348", func := "orpiment/orpimentlaw16.AbilitiesRuns", spec := "abilitiesRuns", inPlace := ["internal/abi.NoEscape"], unfollowed := true, recurses := true, named := ["orpiment/abilities.effects", "orpiment/abilities.domains", "internal/strconv.uint64pow10", "math/bits.deBruijn32tab", "math/bits.deBruijn64tab"], apart := false, laid := [("math/bits.deBruijn32tab", laid_math_bits_deBruijn32tab), ("math/bits.deBruijn64tab", laid_math_bits_deBruijn64tab), ("internal/strconv.uint64pow10", laid_internal_strconv_uint64pow10), ("orpiment/abilities.effects", laid_orpiment_abilities_effects), ("orpiment/abilities.domains", laid_orpiment_abilities_domains)] }
def AbilitiesRunsSaid : Prop := abilitiesRunsRow.holds Tryd.pinned (OpenSpec.ofChange abilitiesRunsSpec)

/-- ITS FALSE NEIGHBOUR: 'it returns false'. Refute it at one input. -/
def abilitiesRunsWrong : ChangeSpec := { name := "abilitiesRuns", fn := fun _ => fun
  | [d] => { results := [.lit (.bool false)], args := [d] }
  | _ => none }
def AbilitiesRunsWrongFalsely : Prop := abilitiesRunsRow.holds Tryd.pinned (OpenSpec.ofChange abilitiesRunsWrong)

/-- 'orpimentlaw16.AbilitiesLimits': WHATEVER THE INPUT: true; the input reads as it did. -/
def abilitiesLimitsSpec : ChangeSpec := { name := "abilitiesLimits", fn := fun _ => fun
  | [d] => { results := [.lit (.bool true)], args := [d] }
  | _ => none }
def abilitiesLimitsRow : OpenClaim := { program := "ythccppldpfddjaadoor", sum := "c7a908c695e08c6621aef7171face9697dc911244c31ec451c3f6acf82ae7348", func := "orpiment/orpimentlaw16.AbilitiesLimits", spec := "abilitiesLimits", inPlace := ["internal/abi.NoEscape"], unfollowed := true, recurses := true, named := ["orpiment/abilities.effects", "orpiment/abilities.domains", "internal/strconv.uint64pow10", "math/bits.deBruijn32tab", "math/bits.deBruijn64tab"], apart := false, laid := [("math/bits.deBruijn32tab", laid_math_bits_deBruijn32tab), ("math/bits.deBruijn64tab", laid_math_bits_deBruijn64tab), ("internal/strconv.uint64pow10", laid_internal_strconv_uint64pow10), ("orpiment/abilities.effects", laid_orpiment_abilities_effects), ("orpiment/abilities.domains", laid_orpiment_abilities_domains)] }
def AbilitiesLimitsSaid : Prop := abilitiesLimitsRow.holds Tryd.pinned (OpenSpec.ofChange abilitiesLimitsSpec)

/-- ITS FALSE NEIGHBOUR: 'it returns false'. Refute it at one input. -/
def abilitiesLimitsWrong : ChangeSpec := { name := "abilitiesLimits", fn := fun _ => fun
  | [d] => { results := [.lit (.bool false)], args := [d] }
  | _ => none }
def AbilitiesLimitsWrongFalsely : Prop := abilitiesLimitsRow.holds Tryd.pinned (OpenSpec.ofChange abilitiesLimitsWrong)

/-- 'orpimentlaw16.AbilitiesNil': WHATEVER THE INPUT: true; the input reads as it did. -/
def abilitiesNilSpec : ChangeSpec := { name := "abilitiesNil", fn := fun _ => fun
  | [d1, d2, d3] => { results := [.lit (.bool true)], args := [d1, d2, d3] }
  | _ => none }
def abilitiesNilRow : OpenClaim := { program := "ythccppldpfddjaadoor", sum := "c7a908c695e08c6621aef7171face9697dc911244c31ec451c3f6acf82ae7348", func := "orpiment/orpimentlaw16.AbilitiesNil", spec := "abilitiesNil", inPlace := ["internal/abi.NoEscape"], unfollowed := true, recurses := true, named := ["orpiment/abilities.effects", "orpiment/abilities.domains", "internal/strconv.uint64pow10", "math/bits.deBruijn32tab", "math/bits.deBruijn64tab"], apart := false, laid := [("math/bits.deBruijn32tab", laid_math_bits_deBruijn32tab), ("math/bits.deBruijn64tab", laid_math_bits_deBruijn64tab), ("internal/strconv.uint64pow10", laid_internal_strconv_uint64pow10), ("orpiment/abilities.effects", laid_orpiment_abilities_effects), ("orpiment/abilities.domains", laid_orpiment_abilities_domains)] }
def AbilitiesNilSaid : Prop := abilitiesNilRow.holds Tryd.pinned (OpenSpec.ofChange abilitiesNilSpec)

/-- ITS FALSE NEIGHBOUR: 'it returns false'. Refute it at one input. -/
def abilitiesNilWrong : ChangeSpec := { name := "abilitiesNil", fn := fun _ => fun
  | [d1, d2, d3] => { results := [.lit (.bool false)], args := [d1, d2, d3] }
  | _ => none }
def AbilitiesNilWrongFalsely : Prop := abilitiesNilRow.holds Tryd.pinned (OpenSpec.ofChange abilitiesNilWrong)

/- THE SECOND FORM. 'bulk': how many values and letters a reading holds, each counted each time it is reached (what is shared counts as often as it is met; a slice's spare places count too). A statement '..UptoSaid' is the law's where the arguments, and the package variables that the reading takes, are together of bulk at most 1048576: NARROWER than '..Said'. Prove '..Said' where nothing that the law and all that it calls make is longer than what came in: it says more and counts as full. Else prove '..UptoSaid'. A law counts once. -/
mutual
def uptoBulk {H : Type} : DataW H → Nat
  | .lit (.string bytes) => bytes.length + 1
  | .lit _ => 1
  | .nil => 1
  | .ptr d => uptoBulk d + 1
  | .slice elems spare => uptoBulkAll elems + uptoBulkAll spare + 1
  | .agg parts => uptoBulkAll parts + 1
  | .iface _ d => uptoBulk d + 1
  | .map entries => uptoBulkEntries entries + 1
  | .held _ => 1
def uptoBulkAll {H : Type} : List (DataW H) → Nat
  | [] => 0
  | d :: r => uptoBulk d + uptoBulkAll r
def uptoBulkEntries {H : Type} : List (Lit × DataW H) → Nat
  | [] => 0
  | x :: r => uptoBulkEntry x + uptoBulkEntries r
def uptoBulkEntry {H : Type} : Lit × DataW H → Nat
  | (.string bytes, d) => bytes.length + uptoBulk d + 1
  | (_, d) => uptoBulk d + 1
 end
def uptoSmall : (H : Type) → List (DataW H) → Bool := fun _ ds => decide (uptoBulkAll ds ≤ 1048576)
def OpenSpec.upto (s : _root_.Go.ChangeSpec) : _root_.Go.OpenSpec := { _root_.Go.OpenSpec.ofChange s with cond := some uptoSmall }

/-- 'orpimentlaw16.AbilitiesParts', WHERE WHAT IT READS IS OF BULK AT MOST 1048576: true; the input reads as it did. -/
def abilitiesPartsUptoRow : OpenClaim := { program := "ythccppldpfddjaadoor", sum := "c7a908c695e08c6621aef7171face9697dc911244c31ec451c3f6acf82ae7348", func := "orpiment/orpimentlaw16.AbilitiesParts", spec := "abilitiesParts", inPlace := ["internal/abi.NoEscape"], unfollowed := true, recurses := true, named := ["orpiment/abilities.effects", "orpiment/abilities.domains", "internal/strconv.uint64pow10", "math/bits.deBruijn32tab", "math/bits.deBruijn64tab"], apart := false, laid := [("math/bits.deBruijn32tab", laid_math_bits_deBruijn32tab), ("math/bits.deBruijn64tab", laid_math_bits_deBruijn64tab), ("internal/strconv.uint64pow10", laid_internal_strconv_uint64pow10), ("orpiment/abilities.effects", laid_orpiment_abilities_effects), ("orpiment/abilities.domains", laid_orpiment_abilities_domains)], narrowed := true }
def AbilitiesPartsUptoSaid : Prop := abilitiesPartsUptoRow.holds Tryd.pinned (OpenSpec.upto abilitiesPartsSpec)

/-- 'orpimentlaw16.AbilitiesLocked', WHERE WHAT IT READS IS OF BULK AT MOST 1048576: true; the input reads as it did. -/
def abilitiesLockedUptoRow : OpenClaim := { program := "ythccppldpfddjaadoor", sum := "c7a908c695e08c6621aef7171face9697dc911244c31ec451c3f6acf82ae7348", func := "orpiment/orpimentlaw16.AbilitiesLocked", spec := "abilitiesLocked", inPlace := ["internal/abi.NoEscape"], unfollowed := true, recurses := true, named := ["orpiment/abilities.effects", "orpiment/abilities.domains", "internal/strconv.uint64pow10", "math/bits.deBruijn32tab", "math/bits.deBruijn64tab"], apart := false, laid := [("math/bits.deBruijn32tab", laid_math_bits_deBruijn32tab), ("math/bits.deBruijn64tab", laid_math_bits_deBruijn64tab), ("internal/strconv.uint64pow10", laid_internal_strconv_uint64pow10), ("orpiment/abilities.effects", laid_orpiment_abilities_effects), ("orpiment/abilities.domains", laid_orpiment_abilities_domains)], narrowed := true }
def AbilitiesLockedUptoSaid : Prop := abilitiesLockedUptoRow.holds Tryd.pinned (OpenSpec.upto abilitiesLockedSpec)

/-- 'orpimentlaw16.AbilitiesWithin', WHERE WHAT IT READS IS OF BULK AT MOST 1048576: true; the input reads as it did. -/
def abilitiesWithinUptoRow : OpenClaim := { program := "ythccppldpfddjaadoor", sum := "c7a908c695e08c6621aef7171face9697dc911244c31ec451c3f6acf82ae7348", func := "orpiment/orpimentlaw16.AbilitiesWithin", spec := "abilitiesWithin", inPlace := ["internal/abi.NoEscape"], unfollowed := true, recurses := true, named := ["orpiment/abilities.effects", "orpiment/abilities.domains", "internal/strconv.uint64pow10", "math/bits.deBruijn32tab", "math/bits.deBruijn64tab"], apart := false, laid := [("math/bits.deBruijn32tab", laid_math_bits_deBruijn32tab), ("math/bits.deBruijn64tab", laid_math_bits_deBruijn64tab), ("internal/strconv.uint64pow10", laid_internal_strconv_uint64pow10), ("orpiment/abilities.effects", laid_orpiment_abilities_effects), ("orpiment/abilities.domains", laid_orpiment_abilities_domains)], narrowed := true }
def AbilitiesWithinUptoSaid : Prop := abilitiesWithinUptoRow.holds Tryd.pinned (OpenSpec.upto abilitiesWithinSpec)

/-- 'orpimentlaw16.AbilitiesRuns', WHERE WHAT IT READS IS OF BULK AT MOST 1048576: true; the input reads as it did. -/
def abilitiesRunsUptoRow : OpenClaim := { program := "ythccppldpfddjaadoor", sum := "c7a908c695e08c6621aef7171face9697dc911244c31ec451c3f6acf82ae7348", func := "orpiment/orpimentlaw16.AbilitiesRuns", spec := "abilitiesRuns", inPlace := ["internal/abi.NoEscape"], unfollowed := true, recurses := true, named := ["orpiment/abilities.effects", "orpiment/abilities.domains", "internal/strconv.uint64pow10", "math/bits.deBruijn32tab", "math/bits.deBruijn64tab"], apart := false, laid := [("math/bits.deBruijn32tab", laid_math_bits_deBruijn32tab), ("math/bits.deBruijn64tab", laid_math_bits_deBruijn64tab), ("internal/strconv.uint64pow10", laid_internal_strconv_uint64pow10), ("orpiment/abilities.effects", laid_orpiment_abilities_effects), ("orpiment/abilities.domains", laid_orpiment_abilities_domains)], narrowed := true }
def AbilitiesRunsUptoSaid : Prop := abilitiesRunsUptoRow.holds Tryd.pinned (OpenSpec.upto abilitiesRunsSpec)

/-- 'orpimentlaw16.AbilitiesLimits', WHERE WHAT IT READS IS OF BULK AT MOST 1048576: true; the input reads as it did. -/
def abilitiesLimitsUptoRow : OpenClaim := { program := "ythccppldpfddjaadoor", sum := "c7a908c695e08c6621aef7171face9697dc911244c31ec451c3f6acf82ae7348", func := "orpiment/orpimentlaw16.AbilitiesLimits", spec := "abilitiesLimits", inPlace := ["internal/abi.NoEscape"], unfollowed := true, recurses := true, named := ["orpiment/abilities.effects", "orpiment/abilities.domains", "internal/strconv.uint64pow10", "math/bits.deBruijn32tab", "math/bits.deBruijn64tab"], apart := false, laid := [("math/bits.deBruijn32tab", laid_math_bits_deBruijn32tab), ("math/bits.deBruijn64tab", laid_math_bits_deBruijn64tab), ("internal/strconv.uint64pow10", laid_internal_strconv_uint64pow10), ("orpiment/abilities.effects", laid_orpiment_abilities_effects), ("orpiment/abilities.domains", laid_orpiment_abilities_domains)], narrowed := true }
def AbilitiesLimitsUptoSaid : Prop := abilitiesLimitsUptoRow.holds Tryd.pinned (OpenSpec.upto abilitiesLimitsSpec)

/-- 'orpimentlaw16.AbilitiesNil', WHERE WHAT IT READS IS OF BULK AT MOST 1048576: true; the input reads as it did. -/
def abilitiesNilUptoRow : OpenClaim := { program := "ythccppldpfddjaadoor", sum := "c7a908c695e08c6621aef7171face9697dc911244c31ec451c3f6acf82ae7348", func := "orpiment/orpimentlaw16.AbilitiesNil", spec := "abilitiesNil", inPlace := ["internal/abi.NoEscape"], unfollowed := true, recurses := true, named := ["orpiment/abilities.effects", "orpiment/abilities.domains", "internal/strconv.uint64pow10", "math/bits.deBruijn32tab", "math/bits.deBruijn64tab"], apart := false, laid := [("math/bits.deBruijn32tab", laid_math_bits_deBruijn32tab), ("math/bits.deBruijn64tab", laid_math_bits_deBruijn64tab), ("internal/strconv.uint64pow10", laid_internal_strconv_uint64pow10), ("orpiment/abilities.effects", laid_orpiment_abilities_effects), ("orpiment/abilities.domains", laid_orpiment_abilities_domains)], narrowed := true }
def AbilitiesNilUptoSaid : Prop := abilitiesNilUptoRow.holds Tryd.pinned (OpenSpec.upto abilitiesNilSpec)

end Rows
end Go.Proofs.YthccppldpfddjaaDoor
