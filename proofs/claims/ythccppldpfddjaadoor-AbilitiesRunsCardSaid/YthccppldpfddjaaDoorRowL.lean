/- What the rows' list of package variables gives. -/
import Derived.Test.YthccppldpfddjaaDoorCards
import Derived.Test.YthccppldpfddjaaDoorTie
import Derived.Test.YthccppldpfddjaaDoorD6
import Derived.WalkKit
import Derived.ProofKit
import Derived.OpenShut
import Derived.ShutString
import Derived.ChangeOld
import Derived.SizedLaws
import Derived.LaidMore
import Derived.LaidOnce
import Derived.Lay
import Derived.Deep.DeepHandedRow
import Derived.Deep.DeepWitnessRowRef
import Derived.Lib.LaidTab
namespace Go.Proofs.YthccppldpfddjaaDoor
open Go.ChangeShapes Go.WideShapes Go.ChangeAt Go.RowKit
open Go.ChangeMaps (open_string shut_string)
set_option linter.unusedVariables false
def bs (l : List UInt8) : ByteArray := ⟨l.toArray⟩
abbrev laidL : List (String × DataW Unit) := [("math/bits.deBruijn32tab", Rows.laid_math_bits_deBruijn32tab), ("math/bits.deBruijn64tab", Rows.laid_math_bits_deBruijn64tab), ("internal/strconv.uint64pow10", Rows.laid_internal_strconv_uint64pow10), ("orpiment/abilities.effects", Rows.laid_orpiment_abilities_effects), ("orpiment/abilities.domains", Rows.laid_orpiment_abilities_domains)]
theorem gD : Tryd.prog.globalNamed "orpiment/abilities.domains" = some 0 := by kernel_rfl
theorem gDT : (Tryd.prog.globals[0]?).map (·.type) = some 94 := by kernel_rfl
theorem gE : Tryd.prog.globalNamed "orpiment/abilities.effects" = some 1 := by kernel_rfl
theorem gET : (Tryd.prog.globals[1]?).map (·.type) = some 130 := by kernel_rfl
theorem cells94 : Tryd.prog.cellsOf 94 = 2 := by kernel_rfl
theorem cells9 : Tryd.prog.cellsOf 9 = 1 := by kernel_rfl
theorem cells129 : Tryd.prog.cellsOf 129 = 1 := by kernel_rfl
/-- An array of strings that reads as the list holds the list's strings, cell for cell. -/
theorem cells_of_strs {H : Type} {enc : TypeId × Value → H} {P : Program} {w : World} {base : Nat} {sp : Nat → Bool} {held : Bool} {fuel : Nat} {t e : TypeId} {n : Nat} {cs : List Value} {zs : List (List UInt8)} {p : List MemPlace}
    (ht : P.underlying t = some (.array n e)) (he : P.underlying e = some .string) (hce : P.cellsOf e = 1) (hct : P.cellsOf t = n)
    (h : DataW.trod enc P w base sp held fuel t cs = some (.agg (zs.map fun z => .lit (.string z)), p)) : ∀ i, i < n → cs[i]? = some (.string (bs (zs.getD i []))) := by
  obtain ⟨xs, m, _, hx, hl, hlx, hi⟩ := DataW.trod_array ht h
  rw [hct] at hl
  have hxs : xs.map (·.1) = zs.map fun z => (DataW.lit (.string z) : DataW H) := by
    have := congrArg Prod.fst hx
    simpa using this.symm
  have hzl : zs.length = n := by
    have := congrArg List.length hxs
    simp at this
    omega
  intro i hin
  have h1 := hi i hin
  obtain ⟨b, hb⟩ : ∃ b, xs[i]? = some b := ⟨_, List.getElem?_eq_getElem (by omega)⟩
  rw [hb, hce] at h1
  obtain ⟨s, hc, rfl, _⟩ := DataW.trod_string he h1
  have h3 : cs[i]? = some (.string s) := by
    have := congrArg (·[0]?) hc
    simpa [List.getElem?_take, List.getElem?_drop] using this
  have h2 : (xs.map (·.1))[i]? = some (DataW.lit (.string s.data.toList) : DataW H) := by simp [hb]
  rw [hxs] at h2
  simp only [List.getElem?_map, Option.map_eq_some_iff, DataW.lit.injEq, Lit.string.injEq] at h2
  obtain ⟨z', hz', e2⟩ := h2
  rw [h3]
  congr 2
  rw [List.getD_eq_getElem?_getD, hz', Option.getD_some, e2]
  rfl

theorem met_tail {P : Program} {x : String × DataW Unit} {rest : List (String × DataW Unit)} {W : World} (h : laidMet P (x :: rest) W) : laidMet P rest W := by
  obtain ⟨ps, ⟨g', t', cs, fuel, p, q, hg', ht', hvar, hd, hq, hr⟩, hn, hc⟩ := h
  subst hr
  exact ⟨q, hq, (List.nodup_append.1 hn).2.1, fun b off hm => hc b off (List.mem_append_right _ hm)⟩
theorem dom_table {W : World} {rest : List (String × DataW Unit)} (h : laidMet Tryd.prog (("orpiment/abilities.domains", Rows.laid_orpiment_abilities_domains) :: rest) W) : DomAt W := by
  obtain ⟨ps, ⟨g', t', cs, fuel, p, q, hg', ht', hvar, hd, _, _⟩, _⟩ := h
  obtain rfl := Option.some.inj (gD.symm.trans hg')
  obtain rfl := Option.some.inj (gDT.symm.trans ht')
  intro i hi
  have h2 := cells_of_strs (zs := [domB 0, domB 1]) Tryd.underlying94 Tryd.underlying9 cells9 cells94 hd i hi
  have h3 := World.var?_cell gD hvar i
  rw [h3]
  rcases (by omega : i = 0 ∨ i = 1) with rfl | rfl <;> simpa [bs] using h2
theorem eff_table {W : World} (h : laidMetH Tryd.prog laidL W) : EffAt W := by
  obtain ⟨g, t, cs, fuel, p, hg, ht, hv, hd⟩ := h.funcs (n := "orpiment/abilities.effects") (List.mem_cons_of_mem _ (List.mem_cons_of_mem _ (List.mem_cons_of_mem _ (List.mem_cons_self ..))))
  obtain rfl := Option.some.inj (gE.symm.trans hg)
  obtain rfl := Option.some.inj (gET.symm.trans ht)
  have hd' : DataW.trod (funcToken Tryd.prog) Tryd.prog W 0 (fun _ => true) true fuel 130 cs.toList = some (.agg [.held [111, 114, 112, 105, 109, 101, 110, 116, 47, 97, 98, 105, 108, 105, 116, 105, 101, 115, 46, 101, 102, 102, 101, 99, 116, 115, 36, 49], .held [111, 114, 112, 105, 109, 101, 110, 116, 47, 97, 98, 105, 108, 105, 116, 105, 101, 115, 46, 101, 102, 102, 101, 99, 116, 115, 36, 50], .held [111, 114, 112, 105, 109, 101, 110, 116, 47, 97, 98, 105, 108, 105, 116, 105, 101, 115, 46, 101, 102, 102, 101, 99, 116, 115, 36, 51], .held [111, 114, 112, 105, 109, 101, 110, 116, 47, 97, 98, 105, 108, 105, 116, 105, 101, 115, 46, 101, 102, 102, 101, 99, 116, 115, 36, 52], .held [111, 114, 112, 105, 109, 101, 110, 116, 47, 97, 98, 105, 108, 105, 116, 105, 101, 115, 46, 101, 102, 102, 101, 99, 116, 115, 36, 53]], p) := hd
  obtain ⟨xs, m, _, hx, hl, hlx, hel⟩ := DataW.trod_array Tryd.underlying130 hd'
  rw [cells129] at hel
  simp only [Prod.mk.injEq, DataW.agg.injEq] at hx
  have key : ∀ (i f0 : Nat) (b : UInt8) (r : List UInt8), i < 5 → [[111, 114, 112, 105, 109, 101, 110, 116, 47, 97, 98, 105, 108, 105, 116, 105, 101, 115, 46, 101, 102, 102, 101, 99, 116, 115, 36, 49], [111, 114, 112, 105, 109, 101, 110, 116, 47, 97, 98, 105, 108, 105, 116, 105, 101, 115, 46, 101, 102, 102, 101, 99, 116, 115, 36, 50], [111, 114, 112, 105, 109, 101, 110, 116, 47, 97, 98, 105, 108, 105, 116, 105, 101, 115, 46, 101, 102, 102, 101, 99, 116, 115, 36, 51], [111, 114, 112, 105, 109, 101, 110, 116, 47, 97, 98, 105, 108, 105, 116, 105, 101, 115, 46, 101, 102, 102, 101, 99, 116, 115, 36, 52], [111, 114, 112, 105, 109, 101, 110, 116, 47, 97, 98, 105, 108, 105, 116, 105, 101, 115, 46, 101, 102, 102, 101, 99, 116, 115, 36, 53]][i]? = some (b :: r) → ((List.range Tryd.prog.funcs.size).filter fun f => (Tryd.prog.funcs[f]?).any (·.name.toUTF8.data.toList == b :: r)) = [f0] → W.cell? ⟨1, i, none⟩ = some (.func (.func f0) #[] #[]) := by
    intro i f0 b r hi hb hone
    have h1 := hel i hi
    obtain ⟨y, hy⟩ : ∃ y, xs[i]? = some y := ⟨_, List.getElem?_eq_getElem (by omega)⟩
    rw [hy] at h1
    have h2 : (xs.map (·.1))[i]? = some y.1 := by simp [hy]
    rw [← hx.1] at h2
    have h3 : y.1 = .held (b :: r) := by
      have h4 : ([DataW.held [111, 114, 112, 105, 109, 101, 110, 116, 47, 97, 98, 105, 108, 105, 116, 105, 101, 115, 46, 101, 102, 102, 101, 99, 116, 115, 36, 49], .held [111, 114, 112, 105, 109, 101, 110, 116, 47, 97, 98, 105, 108, 105, 116, 105, 101, 115, 46, 101, 102, 102, 101, 99, 116, 115, 36, 50], .held [111, 114, 112, 105, 109, 101, 110, 116, 47, 97, 98, 105, 108, 105, 116, 105, 101, 115, 46, 101, 102, 102, 101, 99, 116, 115, 36, 51], .held [111, 114, 112, 105, 109, 101, 110, 116, 47, 97, 98, 105, 108, 105, 116, 105, 101, 115, 46, 101, 102, 102, 101, 99, 116, 115, 36, 52], .held [111, 114, 112, 105, 109, 101, 110, 116, 47, 97, 98, 105, 108, 105, 116, 105, 101, 115, 46, 101, 102, 102, 101, 99, 116, 115, 36, 53]] : List (DataW (List UInt8)))[i]? = ([[111, 114, 112, 105, 109, 101, 110, 116, 47, 97, 98, 105, 108, 105, 116, 105, 101, 115, 46, 101, 102, 102, 101, 99, 116, 115, 36, 49], [111, 114, 112, 105, 109, 101, 110, 116, 47, 97, 98, 105, 108, 105, 116, 105, 101, 115, 46, 101, 102, 102, 101, 99, 116, 115, 36, 50], [111, 114, 112, 105, 109, 101, 110, 116, 47, 97, 98, 105, 108, 105, 116, 105, 101, 115, 46, 101, 102, 102, 101, 99, 116, 115, 36, 51], [111, 114, 112, 105, 109, 101, 110, 116, 47, 97, 98, 105, 108, 105, 116, 105, 101, 115, 46, 101, 102, 102, 101, 99, 116, 115, 36, 52], [111, 114, 112, 105, 109, 101, 110, 116, 47, 97, 98, 105, 108, 105, 116, 105, 101, 115, 46, 101, 102, 102, 101, 99, 116, 115, 36, 53]][i]?).map DataW.held := by
        rcases (by omega : i = 0 ∨ i = 1 ∨ i = 2 ∨ i = 3 ∨ i = 4) with rfl | rfl | rfl | rfl | rfl <;> rfl
      rw [h4, hb] at h2
      simpa using h2.symm
    have h5 : ∃ v, cs[i]? = some v ∧ (cs.toList.drop (i * 1)).take 1 = [v] := by
      have hlt : i < cs.size := by
        have : cs.toList.length = 5 := hl.trans (by kernel_rfl)
        simpa using (by omega : i < cs.toList.length)
      refine ⟨cs[i], by simp [hlt], ?_⟩
      rw [Nat.mul_one, List.drop_eq_getElem_cons (by simpa using hlt)]
      simp
    obtain ⟨v, hv1, hv2⟩ := h5
    rw [hv2, show y = (.held (b :: r), y.2) from by rw [← h3]] at h1
    obtain rfl := Go.func_of_trod (f0 := f0) Tryd.underlying129 hone h1
    rw [World.var?_cell hg hv i, hv1]
  intro k hk
  rcases (by omega : k = 0 ∨ k = 1 ∨ k = 2 ∨ k = 3 ∨ k = 4) with rfl | rfl | rfl | rfl | rfl
  · exact key 0 101 _ _ (by omega) rfl (by kernel_rfl)
  · exact key 1 103 _ _ (by omega) rfl (by kernel_rfl)
  · exact key 2 106 _ _ (by omega) rfl (by kernel_rfl)
  · exact key 3 107 _ _ (by omega) rfl (by kernel_rfl)
  · exact key 4 108 _ _ (by omega) rfl (by kernel_rfl)
theorem awAt_of_laid {W : World} (h : laidMetH Tryd.prog laidL W) : AwAt W := by
  have hp : laidMet Tryd.prog [("math/bits.deBruijn32tab", Rows.laid_math_bits_deBruijn32tab), ("math/bits.deBruijn64tab", Rows.laid_math_bits_deBruijn64tab), ("internal/strconv.uint64pow10", Rows.laid_internal_strconv_uint64pow10), ("orpiment/abilities.domains", Rows.laid_orpiment_abilities_domains)] W := (show laidMet Tryd.prog _ W ∧ handlesMet Tryd.prog _ W from h).1
  have h3 := met_tail (met_tail hp)
  exact ⟨eff_table h, dom_table (met_tail h3), Lib.tabIs_of_head (g := 2) (t := 146) (e := 139) (n := 20) (by kernel_rfl) (by kernel_rfl) (by kernel_rfl) (by kernel_rfl) (by kernel_rfl) (by kernel_rfl) h3⟩
theorem door_met (os : Go.Os) (args : Array Value) : laidMetH Tryd.prog laidL ((World.doorLaid Tryd.prog 34 os).forCall (fun _ _ => 0) ⟨#[], args, []⟩).memory :=
  laidMetH_of_parts3 (fuel := 8) (laidMet_of_run' 8 (by kernel_rfl) (by kernel_rfl)) (by kernel_rfl) (by kernel_rfl)
end Go.Proofs.YthccppldpfddjaaDoor
