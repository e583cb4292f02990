/- How a cost table that came in is read: a struct of two integers and an array of integers. -/
import Derived.Test.YtofibebphfeglaaKit
import Derived.Deep.Strs
import Derived.OpenShut
import Derived.WideShapes
namespace Go.Proofs.Ytofibebphfeglaa
open Go.RowKit Go.WideShapes Go.ChangeShapes Go.Deep
section
variable {H : Type} {enc : TypeId × Value → H} {P : Program} {w : World} {base : Nat} {spare : Nat → Bool} {held : Bool}

theorem trod_ints {fuel : Nat} {t e : TypeId} {n : Nat} {k : IntKind} {cs : List Value} {x : DataW H × List MemPlace} (ht : P.underlying t = some (.array n e)) (he : P.underlying e = some (.int k)) (hs : P.cellsOf e = 1) (hn : P.cellsOf t = n)
    (h : DataW.trod enc P w base spare held fuel t cs = some x) : ∃ l : List Int, l.length = n ∧ cs = l.map (fun z => Value.int k z) := by
  obtain ⟨xs, m, _, _, hl, hlx, hi⟩ := DataW.trod_array ht h
  rw [hn] at hl
  have key : ∀ i, i < n → ∃ a, cs[i]? = some (.int k a) := by
    intro i hin
    have h1 := hi i hin
    rw [List.getElem?_eq_getElem (by omega), hs] at h1
    obtain ⟨a, ha, _⟩ := DataW.trod_int he h1
    refine ⟨a, ?_⟩
    have h2 := congrArg (fun l => l[0]?) ha
    simpa [List.getElem?_take, List.getElem?_drop] using h2
  refine ⟨cs.map (fun v => match v with | .int _ a => a | _ => 0), by simp [hl], ?_⟩
  apply List.ext_getElem?
  intro i
  by_cases hin : i < n
  · obtain ⟨a, ha⟩ := key i hin
    simp [ha]
  · simp [List.getElem?_eq_none (show cs.length ≤ i by omega)]

theorem open_tab {r : Reach} {b0 : Nat} {t e : TypeId} {f0 f1 f2 : Field} {n : Nat} {v : Value} {d : DataW H} {p : List MemPlace} (hs : P.underlying t = some (.struct #[f0, f1, f2])) (hf : f0.offset = 0 ∧ f1.offset = 1 ∧ f2.offset = 2) (h0 : P.underlying f0.type = some (.int .i64)) (h1 : P.underlying f1.type = some (.int .i64)) (h2 : P.underlying f2.type = some (.array n e))
    (he : P.underlying e = some (.int .i64)) (c0 : P.cellsOf f0.type = 1) (c1 : P.cellsOf f1.type = 1) (ce : P.cellsOf e = 1) (c2 : P.cellsOf f2.type = n) (hC : P.cellsOf t = n + 2)
    (hv : Value.okWide P w r b0 t v) (h : DataW.Trod enc P w base spare held t v d p) : ∃ (s c : Int) (l : List Int), v = .agg (ints (s :: c :: l)) ∧ l.length = n := by
  obtain ⟨cs, rfl, hsz⟩ := okWide_struct hs hv
  obtain ⟨fuel, hf'⟩ := h
  obtain ⟨y0, y1, y2, m, _, hl, g0, g1, g2⟩ := trod_struct3 hs hf'
  obtain ⟨o0, o1, o2⟩ := hf
  rw [o0, c0] at g0
  rw [o1, c1] at g1
  rw [o2, c2] at g2
  obtain ⟨s, e0, _⟩ := DataW.trod_int h0 g0
  obtain ⟨c, e1, _⟩ := DataW.trod_int h1 g1
  obtain ⟨l, hl2, e2⟩ := trod_ints h2 he ce c2 g2
  refine ⟨s, c, l, ?_, hl2⟩
  congr 1
  have hcl : cs.toList.length = n + 2 := by rw [← hC]; exact hl
  have e3 : cs.toList = .int .i64 s :: .int .i64 c :: l.map (fun z => Value.int .i64 z) := by
    simp only [Value.cells] at e0 e1 e2
    generalize cs.toList = L at *
    match L, hcl with
    | x :: y :: L', hcl =>
      simp at e0 e1 e2
      rw [List.take_of_length_le (by simp at hcl; omega)] at e2
      rw [e0, e1, e2]
  simp only [ints]
  rw [← Array.toArray_toList (xs := cs), e3]
  rfl
end
end Go.Proofs.Ytofibebphfeglaa
