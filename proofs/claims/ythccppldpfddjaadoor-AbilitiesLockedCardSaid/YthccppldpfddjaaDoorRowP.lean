/- How a slice of slices of operations that came in is read. -/
import Derived.Test.YthccppldpfddjaaDoorRowO
namespace Go.Proofs.YthccppldpfddjaaDoor
open Go.RowKit Go.WideShapes Go.ChangeShapes Go.Deep
set_option linter.unusedVariables false
/-- A slice of slices of operations, wherever it lies. -/
def Opss (w : World) (v : Value) (ls : List (List OpA)) : Prop := ∃ A cap, v = .slice A ls.length cap ∧ ∀ k l, ls[k]? = some l → ∃ b off u, A = some ⟨b, off, none⟩ ∧ w.cell? ⟨b, off + k, none⟩ = some u ∧ Ops w u l
theorem Opss.below {w w' : World} {v : Value} {ls : List (List OpA)} (h : Opss w v ls) (hb : Below w.heap.size w w') : Opss w' v ls := by
  obtain ⟨A, cap, rfl, hc⟩ := h
  refine ⟨A, cap, rfl, fun k l hk => ?_⟩
  obtain ⟨b, off, u, rfl, h1, h2⟩ := hc k l hk
  have hlt : b < w.heap.size := World.block_lt_of_cell? w _ h1
  exact ⟨b, off, u, rfl, (Below.cell hb (p := ⟨b, off + k, none⟩) hlt).trans h1, h2.below hb⟩
theorem Opss.at {w : World} {v : Value} {ls : List (List OpA)} (h : Opss w v ls) {A : Option Addr} {n c : Nat} (hv : v = .slice A n c) {k : Nat} (hk : k < ls.length) :
    ∃ g off A2 c2, A = some ⟨g, off, none⟩ ∧ w.cell? ⟨g, off + k, none⟩ = some (.slice A2 ls[k].length c2) ∧ Ops w (.slice A2 ls[k].length c2) ls[k] := by
  subst hv
  obtain ⟨A', cap, hv, hc⟩ := h
  cases hv
  obtain ⟨b, off, u, rfl, h1, h2⟩ := hc k ls[k] (List.getElem?_eq_getElem hk)
  obtain ⟨A2, c2, rfl, h3⟩ := id h2
  exact ⟨b, off, A2, c2, rfl, h1, h2⟩
theorem ropss_of {H : Type} {enc : TypeId × Value → H} {w : World} {base : Nat} {spare : Nat → Bool} {held : Bool} {fuel : Nat} {v : Value} {x : DataW H × List MemPlace} (hf : DataW.trod enc Tryd.prog w base spare held fuel 34 [v] = some x) : ∃ ls, Opss w v ls := by
  rcases open_slice Tryd.underlying34 hf with ⟨hcs, _⟩ | ⟨a, len, cap, m, n, D, Pl, hcs, _, hl, hml, hm', hx, hi⟩
  · cases hcs
    exact ⟨[], none, 0, rfl, fun k l hk => by simp at hk⟩
  · cases hcs
    have hlm : len ≤ m := by rw [hm']; split <;> omega
    have key : ∀ i, i < len → ∃ l : List OpA, ∃ u, w.cell? (a.add i) = some u ∧ Ops w u l := by
      intro i hil
      obtain ⟨cs', hc', ht'⟩ := hi i (by omega)
      rw [show Tryd.prog.cellsOf 22 = 1 by kernel_rfl] at hc'
      obtain ⟨h1, h2⟩ := cells_of hc'
      match cs', h1 with
      | [u], _ =>
      obtain ⟨l, hl⟩ := rops_of ht'
      have h3 := h2 0 (by omega)
      rw [Deep.add_add, Nat.mul_one, Nat.add_zero] at h3
      exact ⟨l, u, h3, hl⟩
    obtain ⟨f, hf'⟩ : ∃ f : Nat → List OpA, ∀ i, i < len → ∃ u, w.cell? (a.add i) = some u ∧ Ops w u (f i) :=
      ⟨fun i => if h : i < len then Classical.choose (key i h) else [], fun i hil => by
        simp only [hil, dite_true]
        exact Classical.choose_spec (key i hil)⟩
    refine ⟨(List.range len).map f, some a, cap, by simp, fun k l hk => ?_⟩
    have hil : k < len := by
      have := (List.getElem?_eq_some_iff.1 hk).1
      simpa using this
    obtain rfl : f k = l := by
      have := (List.getElem?_eq_some_iff.1 hk).2
      simpa using this
    obtain ⟨u, h1, h2⟩ := hf' k hil
    obtain ⟨b, off, spot⟩ := a
    have hsp : spot = none := by
      obtain ⟨u0, h0, -⟩ := hf' 0 (by omega)
      have hs := World.cell?_spot h0
      simpa [Addr.add] using hs
    subst hsp
    rw [add_at] at h1
    exact ⟨b, off, u, rfl, h1, h2⟩
set_option maxRecDepth 100000 in
theorem open_ropss {H : Type} {enc : TypeId × Value → H} {w : World} {base : Nat} {spare : Nat → Bool} {held : Bool} {r : Reach} {b0 : Nat} {v : Value} {d : DataW H} {p : List MemPlace}
    (hv : Value.okWide Tryd.prog w r b0 34 v) (h : DataW.Trod enc Tryd.prog w base spare held 34 v d p) : ∃ ls, Opss w v ls := by
  obtain ⟨A, len, cap, rfl⟩ := okWide_slice Tryd.underlying34 hv
  obtain ⟨fuel, hf⟩ := h
  exact ropss_of hf
end Go.Proofs.YthccppldpfddjaaDoor
