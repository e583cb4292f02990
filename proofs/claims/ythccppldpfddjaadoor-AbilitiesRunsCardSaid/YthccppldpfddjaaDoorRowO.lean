/- How a slice of the reference's operations that came in is read. -/
import Derived.Test.YthccppldpfddjaaDoorE1
import Derived.Deep.Strs
import Derived.OpenShut
import Derived.WideShapes
import Derived.Deep.Slices
import Derived.WalkKit
import Derived.ProofKit
namespace Go.Proofs.YthccppldpfddjaaDoor
open Go.RowKit Go.WideShapes Go.ChangeShapes Go.Deep
set_option linter.unusedVariables false
theorem cells_of {w : World} {base : Nat} {a : Addr} {n : Nat} {cs : List Value} (h : w.cells? base a n = some cs) : cs.length = n ∧ ∀ q, q < n → w.cell? (a.add q) = cs[q]? := by
  unfold World.cells? at h
  split at h
  · have hl := mapM_some_length h
    rw [List.length_range] at hl
    exact ⟨hl, fun q hq => mapM_some_get h q q (by simp [hq])⟩
  · simp at h
set_option maxRecDepth 100000 in
theorem op_of_trod {H : Type} {enc : TypeId × Value → H} {w : World} {base : Nat} {spare : Nat → Bool} {held : Bool} {fuel : Nat} {cs : List Value} {x : DataW H × List MemPlace} (hf : DataW.trod enc Tryd.prog w base spare held fuel 31 cs = some x) :
    ∃ o : OpA, cs = [.int .i64 o.kind, .int .i64 o.ab, .int .i64 o.dom, .int .i64 o.lo, .int .i64 o.hi] := by
  obtain ⟨xs, q, _, _, hl, hlen, hi⟩ := DataW.trod_struct Tryd.underlying31 hf
  rw [show Tryd.prog.cellsOf 31 = 5 by kernel_rfl] at hl
  match xs, hlen with
  | [y0, y1, y2, y3, y4], _ =>
  have h0 : DataW.trod enc Tryd.prog w base spare held q 3 ((cs.drop 0).take (Tryd.prog.cellsOf 3)) = some y0 := hi 0 _ rfl
  have h1 : DataW.trod enc Tryd.prog w base spare held q 3 ((cs.drop 1).take (Tryd.prog.cellsOf 3)) = some y1 := hi 1 _ rfl
  have h2 : DataW.trod enc Tryd.prog w base spare held q 3 ((cs.drop 2).take (Tryd.prog.cellsOf 3)) = some y2 := hi 2 _ rfl
  have h3 : DataW.trod enc Tryd.prog w base spare held q 2 ((cs.drop 3).take (Tryd.prog.cellsOf 2)) = some y3 := hi 3 _ rfl
  have h4 : DataW.trod enc Tryd.prog w base spare held q 2 ((cs.drop 4).take (Tryd.prog.cellsOf 2)) = some y4 := hi 4 _ rfl
  obtain ⟨k, e0, _, _⟩ := DataW.trod_int Tryd.underlying3 h0
  obtain ⟨a, e1, _, _⟩ := DataW.trod_int Tryd.underlying3 h1
  obtain ⟨d, e2, _, _⟩ := DataW.trod_int Tryd.underlying3 h2
  obtain ⟨lo, e3, _, _⟩ := DataW.trod_int Tryd.underlying2 h3
  obtain ⟨hi', e4, _, _⟩ := DataW.trod_int Tryd.underlying2 h4
  refine ⟨⟨k, a, d, lo, hi'⟩, ?_⟩
  simp only [show Tryd.prog.cellsOf 3 = 1 by kernel_rfl, show Tryd.prog.cellsOf 2 = 1 by kernel_rfl] at e0 e1 e2 e3 e4
  match cs, hl with
  | [c0, c1, c2, c3, c4], _ =>
    simp at e0 e1 e2 e3 e4
    rw [e0, e1, e2, e3, e4]
theorem rops_of {H : Type} {enc : TypeId × Value → H} {w : World} {base : Nat} {spare : Nat → Bool} {held : Bool} {fuel : Nat} {v : Value} {x : DataW H × List MemPlace} (hf : DataW.trod enc Tryd.prog w base spare held fuel 22 [v] = some x) : ∃ l, Ops w v l := by
  rcases open_slice Tryd.underlying22 hf with ⟨hcs, _⟩ | ⟨a, len, cap, m, n, D, Pl, hcs, _, hl, hml, hm', hx, hi⟩
  · cases hcs
    exact ⟨[], none, 0, rfl, fun j u hj => by simp [ocells] at hj⟩
  · cases hcs
    have hlm : len ≤ m := by rw [hm']; split <;> omega
    have key : ∀ i, i < len → ∃ o : OpA, ∀ q, q < 5 → w.cell? ((a.add (i * 5)).add q) = ([.int .i64 o.kind, .int .i64 o.ab, .int .i64 o.dom, .int .i64 o.lo, .int .i64 o.hi] : List Value)[q]? := by
      intro i hil
      obtain ⟨cs', hc', ht'⟩ := hi i (by omega)
      rw [show Tryd.prog.cellsOf 31 = 5 by kernel_rfl] at hc'
      obtain ⟨h1, h2⟩ := cells_of hc'
      obtain ⟨o, rfl⟩ := op_of_trod ht'
      exact ⟨o, h2⟩
    obtain ⟨f, hf'⟩ : ∃ f : Nat → OpA, ∀ i, i < len → ∀ q, q < 5 → w.cell? ((a.add (i * 5)).add q) = ([.int .i64 (f i).kind, .int .i64 (f i).ab, .int .i64 (f i).dom, .int .i64 (f i).lo, .int .i64 (f i).hi] : List Value)[q]? :=
      ⟨fun i => if h : i < len then Classical.choose (key i h) else ⟨0, 0, 0, 0, 0⟩, fun i hil => by
        simp only [hil, dite_true]
        exact Classical.choose_spec (key i hil)⟩
    refine ⟨(List.range len).map f, some a, cap, by simp, fun j u hj => ?_⟩
    have hjl : j < len * 5 := by
      have := (List.getElem?_eq_some_iff.1 hj).1
      rw [ocells_len] at this
      simpa using this
    have hil : j / 5 < len := by omega
    have hget := ocells_get ((List.range len).map f) (j / 5) (by simpa using hil)
    have hcell := hf' (j / 5) hil (j % 5) (by omega)
    have hu : ([.int .i64 (f (j / 5)).kind, .int .i64 (f (j / 5)).ab, .int .i64 (f (j / 5)).dom, .int .i64 (f (j / 5)).lo, .int .i64 (f (j / 5)).hi] : List Value)[j % 5]? = some u := by
      simp only [List.getElem_map, List.getElem_range] at hget
      obtain ⟨p1, p2, p3, p4, p5⟩ := hget
      rcases (by omega : j % 5 = 0 ∨ j % 5 = 1 ∨ j % 5 = 2 ∨ j % 5 = 3 ∨ j % 5 = 4) with h | h | h | h | h
      · rw [show j / 5 * 5 = j by omega, hj] at p1; rw [h]; exact p1.symm
      · rw [show j / 5 * 5 + 1 = j by omega, hj] at p2; rw [h]; exact p2.symm
      · rw [show j / 5 * 5 + 2 = j by omega, hj] at p3; rw [h]; exact p3.symm
      · rw [show j / 5 * 5 + 3 = j by omega, hj] at p4; rw [h]; exact p4.symm
      · rw [show j / 5 * 5 + 4 = j by omega, hj] at p5; rw [h]; exact p5.symm
    rw [hu] at hcell
    obtain ⟨b, off, spot⟩ := a
    rw [Deep.add_add] at hcell
    have hsp : spot = none := by
      have h00 := hf' 0 (by omega) 0 (by omega)
      rw [Deep.add_add] at h00
      rw [List.getElem?_cons_zero] at h00
      have hs := World.cell?_spot h00
      simpa [Addr.add] using hs
    subst hsp
    refine ⟨b, off, rfl, ?_⟩
    rw [add_at, show j / 5 * 5 + j % 5 = j by omega] at hcell
    exact hcell
set_option maxRecDepth 100000 in
theorem open_rops {H : Type} {enc : TypeId × Value → H} {w : World} {base : Nat} {spare : Nat → Bool} {held : Bool} {r : Reach} {b0 : Nat} {v : Value} {d : DataW H} {p : List MemPlace}
    (hv : Value.okWide Tryd.prog w r b0 22 v) (h : DataW.Trod enc Tryd.prog w base spare held 22 v d p) : ∃ l, Ops w v l := by
  obtain ⟨A, len, cap, rfl⟩ := okWide_slice Tryd.underlying22 hv
  obtain ⟨fuel, hf⟩ := h
  exact rops_of hf
end Go.Proofs.YthccppldpfddjaaDoor
