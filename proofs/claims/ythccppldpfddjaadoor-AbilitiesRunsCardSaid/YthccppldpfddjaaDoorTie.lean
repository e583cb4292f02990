/-
  DERIVED. GIVEN WITH THE SEED: THE PROGRAM's TIES (one call each: nine closed facts by the kernel) AND EACH ROW's TIE, after the 31st guide's Derived/Test/Toyas{Tie, Card}.lean. No idea stands in it: it is a product of the set-up. Laid BY PROGRAM, IN A SANDBOX (cutbox-door.mjs). By AI agents, Wed Nov 11 2026. No macro, syntax, notation, axiom, sorry.
-/
import Derived.Test.YthccppldpfddjaaDoorRows
import Derived.LaidByTextLater
import Derived.SevenTiedAt
import Derived.LaidSub
import Derived.LaidOnce
namespace Go.Proofs.YthccppldpfddjaaDoor
open Go
set_option maxRecDepth 100000
theorem seatTie1 : Tryd.prog.laidByTextLater [("math/bits.deBruijn32tab", Rows.laid_math_bits_deBruijn32tab), ("math/bits.deBruijn64tab", Rows.laid_math_bits_deBruijn64tab), ("internal/strconv.uint64pow10", Rows.laid_internal_strconv_uint64pow10), ("orpiment/abilities.effects", Rows.laid_orpiment_abilities_effects), ("orpiment/abilities.domains", Rows.laid_orpiment_abilities_domains)] [.data, .data, .data, .funcs, .widerDeep] true :=
  Program.laidByTextLater_by_one 34 8 65 (by kernel_rfl) (by kernel_rfl) (by kernel_rfl) (by kernel_rfl) (by kernel_rfl) (by kernel_rfl) (fun _ _ => by kernel_rfl)
theorem noOwnUnsafe : Tryd.pinned.checked.prog.headLifts.contains "ownunsafe" = false := by kernel_rfl
theorem tie : Tryd.prog.laidByTextLater [("math/bits.deBruijn32tab", Rows.laid_math_bits_deBruijn32tab), ("math/bits.deBruijn64tab", Rows.laid_math_bits_deBruijn64tab), ("internal/strconv.uint64pow10", Rows.laid_internal_strconv_uint64pow10), ("orpiment/abilities.effects", Rows.laid_orpiment_abilities_effects), ("orpiment/abilities.domains", Rows.laid_orpiment_abilities_domains)] [.data, .data, .data, .funcs, .widerDeep] true :=
  Program.laidByTextLater.sub seatTie1 ["math/bits.deBruijn32tab", "math/bits.deBruijn64tab", "internal/strconv.uint64pow10", "orpiment/abilities.effects", "orpiment/abilities.domains"] (by kernel_rfl) (by kernel_rfl)
theorem abilitiesParts_row_tie : Rows.abilitiesPartsRow.laidByTextAt .later Tryd.pinned [.data, .data, .data, .funcs, .widerDeep] true :=
  OpenClaim.laidByTextAt_later rfl rfl tie noOwnUnsafe
theorem abilitiesLocked_row_tie : Rows.abilitiesLockedRow.laidByTextAt .later Tryd.pinned [.data, .data, .data, .funcs, .widerDeep] true :=
  OpenClaim.laidByTextAt_later rfl rfl tie noOwnUnsafe
theorem abilitiesWithin_row_tie : Rows.abilitiesWithinRow.laidByTextAt .later Tryd.pinned [.data, .data, .data, .funcs, .widerDeep] true :=
  OpenClaim.laidByTextAt_later rfl rfl tie noOwnUnsafe
theorem abilitiesRuns_row_tie : Rows.abilitiesRunsRow.laidByTextAt .later Tryd.pinned [.data, .data, .data, .funcs, .widerDeep] true :=
  OpenClaim.laidByTextAt_later rfl rfl tie noOwnUnsafe
theorem abilitiesLimits_row_tie : Rows.abilitiesLimitsRow.laidByTextAt .later Tryd.pinned [.data, .data, .data, .funcs, .widerDeep] true :=
  OpenClaim.laidByTextAt_later rfl rfl tie noOwnUnsafe
theorem abilitiesNil_row_tie : Rows.abilitiesNilRow.laidByTextAt .later Tryd.pinned [.data, .data, .data, .funcs, .widerDeep] true :=
  OpenClaim.laidByTextAt_later rfl rfl tie noOwnUnsafe
theorem abilitiesPartsUpto_row_tie : Rows.abilitiesPartsUptoRow.laidByTextAt .later Tryd.pinned [.data, .data, .data, .funcs, .widerDeep] true :=
  OpenClaim.laidByTextAt_later rfl rfl tie noOwnUnsafe
theorem abilitiesLockedUpto_row_tie : Rows.abilitiesLockedUptoRow.laidByTextAt .later Tryd.pinned [.data, .data, .data, .funcs, .widerDeep] true :=
  OpenClaim.laidByTextAt_later rfl rfl tie noOwnUnsafe
theorem abilitiesWithinUpto_row_tie : Rows.abilitiesWithinUptoRow.laidByTextAt .later Tryd.pinned [.data, .data, .data, .funcs, .widerDeep] true :=
  OpenClaim.laidByTextAt_later rfl rfl tie noOwnUnsafe
theorem abilitiesRunsUpto_row_tie : Rows.abilitiesRunsUptoRow.laidByTextAt .later Tryd.pinned [.data, .data, .data, .funcs, .widerDeep] true :=
  OpenClaim.laidByTextAt_later rfl rfl tie noOwnUnsafe
theorem abilitiesLimitsUpto_row_tie : Rows.abilitiesLimitsUptoRow.laidByTextAt .later Tryd.pinned [.data, .data, .data, .funcs, .widerDeep] true :=
  OpenClaim.laidByTextAt_later rfl rfl tie noOwnUnsafe
theorem abilitiesNilUpto_row_tie : Rows.abilitiesNilUptoRow.laidByTextAt .later Tryd.pinned [.data, .data, .data, .funcs, .widerDeep] true :=
  OpenClaim.laidByTextAt_later rfl rfl tie noOwnUnsafe
end Go.Proofs.YthccppldpfddjaaDoor
