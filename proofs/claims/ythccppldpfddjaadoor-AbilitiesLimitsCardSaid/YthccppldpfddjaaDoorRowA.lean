/- How a slice of acts on limits that came in is read. -/
import Derived.Test.YthccppldpfddjaaDoorL13
import Derived.Test.YthccppldpfddjaaDoorRowO
import Derived.Deep.Strs
import Derived.OpenShut
import Derived.WideShapes
import Derived.Deep.Slices
import Derived.WalkKit
import Derived.ProofKit
namespace Go.Proofs.YthccppldpfddjaaDoor
open Go.RowKit Go.WideShapes Go.ChangeShapes Go.Deep
set_option linter.unusedVariables false
set_option maxRecDepth 100000 in
theorem act_of_trod {H : Type} {enc : TypeId × Value → H} {w : World} {base : Nat} {spare : Nat → Bool} {held : Bool} {fuel : Nat} {cs : List Value} {x : DataW H × List MemPlace} (hf : DataW.trod enc Tryd.prog w base spare held fuel 63 cs = some x) :
    ∃ o : ActL, (0 ≤ o.kind ∧ o.kind < 256) ∧ cs = [.int .u8 o.kind, .bool o.priv, .int .i64 o.root, .int .i64 o.a, .int .i64 o.b] := by
  obtain ⟨xs, q, _, _, hl, hlen, hi⟩ := DataW.trod_struct Tryd.underlying63 hf
  rw [show Tryd.prog.cellsOf 63 = 5 by kernel_rfl] at hl
  match xs, hlen with
  | [y0, y1, y2, y3, y4], _ =>
  have h0 : DataW.trod enc Tryd.prog w base spare held q 5 ((cs.drop 0).take (Tryd.prog.cellsOf 5)) = some y0 := hi 0 _ rfl
  have h1 : DataW.trod enc Tryd.prog w base spare held q 4 ((cs.drop 1).take (Tryd.prog.cellsOf 4)) = some y1 := hi 1 _ rfl
  have h2 : DataW.trod enc Tryd.prog w base spare held q 3 ((cs.drop 2).take (Tryd.prog.cellsOf 3)) = some y2 := hi 2 _ rfl
  have h3 : DataW.trod enc Tryd.prog w base spare held q 2 ((cs.drop 3).take (Tryd.prog.cellsOf 2)) = some y3 := hi 3 _ rfl
  have h4 : DataW.trod enc Tryd.prog w base spare held q 2 ((cs.drop 4).take (Tryd.prog.cellsOf 2)) = some y4 := hi 4 _ rfl
  obtain ⟨k, e0, _, hwf⟩ := DataW.trod_int Tryd.underlying5 h0
  obtain ⟨a, e1, _⟩ := DataW.trod_bool Tryd.underlying4 h1
  obtain ⟨d, e2, _, _⟩ := DataW.trod_int Tryd.underlying3 h2
  obtain ⟨lo, e3, _, _⟩ := DataW.trod_int Tryd.underlying2 h3
  obtain ⟨hi', e4, _, _⟩ := DataW.trod_int Tryd.underlying2 h4
  have h9 : IntKind.u8.min ≤ k ∧ k ≤ IntKind.u8.max := by simpa [Lit.wf] using hwf
  have e8 : IntKind.u8.min = 0 := by decide
  have e9 : IntKind.u8.max = 255 := by decide
  refine ⟨⟨k, a, d, lo, hi'⟩, (show 0 ≤ k ∧ k < 256 by omega), ?_⟩
  simp only [show Tryd.prog.cellsOf 3 = 1 by kernel_rfl, show Tryd.prog.cellsOf 2 = 1 by kernel_rfl, show Tryd.prog.cellsOf 5 = 1 by kernel_rfl, show Tryd.prog.cellsOf 4 = 1 by kernel_rfl] at e0 e1 e2 e3 e4
  match cs, hl with
  | [c0, c1, c2, c3, c4], _ =>
    simp at e0 e1 e2 e3 e4
    rw [e0, e1, e2, e3, e4]
theorem racts_of {H : Type} {enc : TypeId × Value → H} {w : World} {base : Nat} {spare : Nat → Bool} {held : Bool} {fuel : Nat} {v : Value} {x : DataW H × List MemPlace} (hf : DataW.trod enc Tryd.prog w base spare held fuel 57 [v] = some x) : ∃ l, Acts w v l ∧ ∀ o ∈ l, 0 ≤ o.kind ∧ o.kind < 256 := by
  rcases open_slice Tryd.underlying57 hf with ⟨hcs, _⟩ | ⟨a, len, cap, m, n, D, Pl, hcs, _, hl, hml, hm', hx, hi⟩
  · cases hcs
    exact ⟨[], ⟨none, 0, rfl, fun j u hj => by simp [acells] at hj⟩, by simp⟩
  · cases hcs
    have hlm : len ≤ m := by rw [hm']; split <;> omega
    have key : ∀ i, i < len → ∃ o : ActL, (0 ≤ o.kind ∧ o.kind < 256) ∧ ∀ q, q < 5 → w.cell? ((a.add (i * 5)).add q) = ([.int .u8 o.kind, .bool o.priv, .int .i64 o.root, .int .i64 o.a, .int .i64 o.b] : List Value)[q]? := by
      intro i hil
      obtain ⟨cs', hc', ht'⟩ := hi i (by omega)
      rw [show Tryd.prog.cellsOf 63 = 5 by kernel_rfl] at hc'
      obtain ⟨h1, h2⟩ := cells_of hc'
      obtain ⟨o, hr, rfl⟩ := act_of_trod ht'
      exact ⟨o, hr, h2⟩
    obtain ⟨f, hr', hf'⟩ : ∃ f : Nat → ActL, (∀ i, i < len → 0 ≤ (f i).kind ∧ (f i).kind < 256) ∧ ∀ i, i < len → ∀ q, q < 5 → w.cell? ((a.add (i * 5)).add q) = ([.int .u8 (f i).kind, .bool (f i).priv, .int .i64 (f i).root, .int .i64 (f i).a, .int .i64 (f i).b] : List Value)[q]? :=
      ⟨fun i => if h : i < len then Classical.choose (key i h) else ⟨0, false, 0, 0, 0⟩, fun i hil => by
        simp only [hil, dite_true]
        exact (Classical.choose_spec (key i hil)).1, fun i hil => by
        simp only [hil, dite_true]
        exact (Classical.choose_spec (key i hil)).2⟩
    refine ⟨(List.range len).map f, ⟨some a, cap, by simp, fun j u hj => ?_⟩, fun o ho => by
      obtain ⟨i, hi, rfl⟩ := List.mem_map.1 ho
      exact hr' i (List.mem_range.1 hi)⟩
    have hjl : j < len * 5 := by
      have := (List.getElem?_eq_some_iff.1 hj).1
      rw [acells_len] at this
      simpa using this
    have hil : j / 5 < len := by omega
    have hget := acells_get ((List.range len).map f) (j / 5) (by simpa using hil)
    have hcell := hf' (j / 5) hil (j % 5) (by omega)
    have hu : ([.int .u8 (f (j / 5)).kind, .bool (f (j / 5)).priv, .int .i64 (f (j / 5)).root, .int .i64 (f (j / 5)).a, .int .i64 (f (j / 5)).b] : List Value)[j % 5]? = some u := by
      simp only [List.getElem_map, List.getElem_range] at hget
      obtain ⟨p1, p2, p3, p4, p5⟩ := hget
      rcases (by omega : j % 5 = 0 ∨ j % 5 = 1 ∨ j % 5 = 2 ∨ j % 5 = 3 ∨ j % 5 = 4) with h | h | h | h | h
      · rw [show j / 5 * 5 = j by omega, hj] at p1; rw [h]; exact p1.symm
      · rw [show j / 5 * 5 + 1 = j by omega, hj] at p2; rw [h]; exact p2.symm
      · rw [show j / 5 * 5 + 2 = j by omega, hj] at p3; rw [h]; exact p3.symm
      · rw [show j / 5 * 5 + 3 = j by omega, hj] at p4; rw [h]; exact p4.symm
      · rw [show j / 5 * 5 + 4 = j by omega, hj] at p5; rw [h]; exact p5.symm
    rw [hu] at hcell
    obtain ⟨b, off, spot⟩ := a
    rw [Deep.add_add] at hcell
    have hsp : spot = none := by
      have h00 := hf' 0 (by omega) 0 (by omega)
      rw [Deep.add_add] at h00
      rw [List.getElem?_cons_zero] at h00
      have hs := World.cell?_spot h00
      simpa [Addr.add] using hs
    subst hsp
    refine ⟨b, off, rfl, ?_⟩
    rw [add_at, show j / 5 * 5 + j % 5 = j by omega] at hcell
    exact hcell
set_option maxRecDepth 100000 in
theorem open_acts {H : Type} {enc : TypeId × Value → H} {w : World} {base : Nat} {spare : Nat → Bool} {held : Bool} {r : Reach} {b0 : Nat} {v : Value} {d : DataW H} {p : List MemPlace}
    (hv : Value.okWide Tryd.prog w r b0 57 v) (h : DataW.Trod enc Tryd.prog w base spare held 57 v d p) : ∃ l, Acts w v l ∧ ∀ o ∈ l, 0 ≤ o.kind ∧ o.kind < 256 := by
  obtain ⟨A, len, cap, rfl⟩ := okWide_slice Tryd.underlying57 hv
  obtain ⟨fuel, hf⟩ := h
  exact racts_of hf
end Go.Proofs.YthccppldpfddjaaDoor
