import Derived.Test.YtmmhflpeapojgaaD6
import Derived.Test.YtmmhflpeapojgaaC8
import Derived.Deep.RegionHeld3
import Derived.Deep.Strs
import Derived.OpenShut
import Derived.WideShapes
import Derived.SizedLaws
import Derived.Deep.Slices
import Derived.WalkKit
import Derived.ProofKit
import Derived.ShutString
import Derived.ChangeOld
import Derived.Below
import Derived.Laws.Cover2
namespace Go.Proofs.Ytmmhflpeapojgaa
open Go.RowKit Go.WideShapes Go.ChangeShapes Go.Deep
theorem add_zero_ (a : Addr) (i : Nat) : (a.add i).add 0 = a.add i := by rw [Deep.add_add, Nat.add_zero]
/-- A slice of whole numbers inside a struct that came in. -/
theorem ints_of_trod {H : Type} {enc : TypeId × Value → H} {w : World} {base : Nat} {spare : Nat → Bool} {held : Bool} {fuel : Nat} {cs : List Value} {x : DataW H × List MemPlace} (hf : DataW.trod enc Try.prog w base spare held fuel 23 cs = some x) :
    ∃ (A : Option Addr) (cap : Nat) (ts : List Int), cs = [.slice A ts.length cap] ∧ IC w A ts ∧ ts.length ≤ 9223372036854775807 := by
  rcases open_slice Try.underlying23 hf with ⟨hcs, _⟩ | ⟨a, len, cap, m', n, D, Pl, hcs, _, hl, hml, hm', hx, hi⟩
  · exact ⟨none, 0, [], hcs, fun i hi => by simp at hi, by simp⟩
  · have hlm : len ≤ m' := by rw [hm']; split <;> omega
    have hc : ∀ i, i < len → ∃ q : Int, w.cell? (a.add i) = some (.int .i64 q) := by
      intro i hil
      obtain ⟨cs', hc', ht'⟩ := hi i (by omega)
      rw [show Try.prog.cellsOf 3 = 1 by kernel_rfl] at hc'
      obtain ⟨h1, h2⟩ := cells_of hc'
      obtain ⟨q, rfl, _⟩ := DataW.trod_int Try.underlying3 ht'
      have h3 := h2 0 (by omega)
      rw [add_zero_] at h3
      exact ⟨q, by simpa using h3⟩
    obtain ⟨f, hf'⟩ := Deep.choose_lt hc
    simp only [maxLen] at hml
    refine ⟨some a, cap, (List.range len).map f, by simpa using hcs, fun i hi => ⟨a, rfl, ?_⟩, by simp; omega⟩
    simp only [List.length_map, List.length_range] at hi
    simpa [List.getD_eq_getElem?_getD, hi] using hf' i hi
theorem open25 {H : Type} {enc : TypeId × Value → H} {w : World} {base : Nat} {spare : Nat → Bool} {held : Bool} {r : Reach} {b0 : Nat} {v : Value} {d : DataW H} {p : List MemPlace}
    (hv : Value.okWide Try.prog w r b0 25 v) (h : DataW.Trod enc Try.prog w base spare held 25 v d p) : ∃ (T : Option Addr) (ct : Nat) (ts : List Int) (lag : Int), v = .agg #[.slice T ts.length ct, .int .i64 lag] ∧ IC w T ts ∧ ts.length ≤ 9223372036854775807 := by
  obtain ⟨cs, rfl, hsz⟩ := okWide_struct Try.underlying25 hv
  obtain ⟨fuel, hf⟩ := h
  obtain ⟨y0, y1, m, _, hl, g0, g1⟩ := trod_struct2 Try.underlying25 hf
  obtain ⟨A, cap, ts, ea, h1, h2⟩ := ints_of_trod g0
  obtain ⟨b, eb, _⟩ := DataW.trod_int Try.underlying3 g1
  rw [show Try.prog.cellsOf 23 = 1 by kernel_rfl] at ea
  rw [show Try.prog.cellsOf 3 = 1 by kernel_rfl] at eb
  have hcl : cs.toList.length = 2 := by rw [show (2 : Nat) = Try.prog.cellsOf 25 by kernel_rfl]; exact hl
  refine ⟨A, cap, ts, b, ?_, h1, h2⟩
  congr 1
  simp only [Value.cells] at ea eb
  have e3 : cs.toList = [.slice A ts.length cap, .int .i64 b] := by
    generalize cs.toList = L at *
    match L, hcl with
    | [x, y], _ =>
      simp at ea eb
      rw [ea, eb]
  rw [← Array.toArray_toList (xs := cs), e3]
end Go.Proofs.Ytmmhflpeapojgaa
