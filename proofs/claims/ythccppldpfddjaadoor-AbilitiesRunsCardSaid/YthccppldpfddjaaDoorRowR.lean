/- How a slice of acts on rights that came in is read. -/
import Derived.Test.YthccppldpfddjaaDoorqW
import Derived.Test.YthccppldpfddjaaDoorRowO
namespace Go.Proofs.YthccppldpfddjaaDoor
open Go.RowKit Go.WideShapes Go.ChangeShapes Go.Deep
set_option linter.unusedVariables false
set_option maxRecDepth 100000 in
theorem actr_of_trod {H : Type} {enc : TypeId × Value → H} {w : World} {base : Nat} {spare : Nat → Bool} {held : Bool} {fuel : Nat} {cs : List Value} {x : DataW H × List MemPlace} (hf : DataW.trod enc Tryd.prog w base spare held fuel 53 cs = some x) :
    ∃ o : ActR, ∃ u, (0 ≤ o.dk ∧ o.dk < 256) ∧ Ops w u o.ops ∧ cs = [.int .u8 o.dk, u, .int .i64 o.dom, .int .i64 o.ab, .int .i64 o.val] := by
  obtain ⟨xs, q, _, _, hl, hlen, hi⟩ := DataW.trod_struct Tryd.underlying53 hf
  rw [show Tryd.prog.cellsOf 53 = 5 by kernel_rfl] at hl
  match xs, hlen with
  | [y0, y1, y2, y3, y4], _ =>
  have h0 : DataW.trod enc Tryd.prog w base spare held q 5 ((cs.drop 0).take (Tryd.prog.cellsOf 5)) = some y0 := hi 0 _ rfl
  have h1 : DataW.trod enc Tryd.prog w base spare held q 22 ((cs.drop 1).take (Tryd.prog.cellsOf 22)) = some y1 := hi 1 _ rfl
  have h2 : DataW.trod enc Tryd.prog w base spare held q 3 ((cs.drop 2).take (Tryd.prog.cellsOf 3)) = some y2 := hi 2 _ rfl
  have h3 : DataW.trod enc Tryd.prog w base spare held q 3 ((cs.drop 3).take (Tryd.prog.cellsOf 3)) = some y3 := hi 3 _ rfl
  have h4 : DataW.trod enc Tryd.prog w base spare held q 2 ((cs.drop 4).take (Tryd.prog.cellsOf 2)) = some y4 := hi 4 _ rfl
  obtain ⟨k, e0, _, hwf⟩ := DataW.trod_int Tryd.underlying5 h0
  obtain ⟨d, e2, _, _⟩ := DataW.trod_int Tryd.underlying3 h2
  obtain ⟨a, e3, _, _⟩ := DataW.trod_int Tryd.underlying3 h3
  obtain ⟨vl, e4, _, _⟩ := DataW.trod_int Tryd.underlying2 h4
  have h9 : IntKind.u8.min ≤ k ∧ k ≤ IntKind.u8.max := by simpa [Lit.wf] using hwf
  have e8 : IntKind.u8.min = 0 := by decide
  have e9 : IntKind.u8.max = 255 := by decide
  simp only [show Tryd.prog.cellsOf 3 = 1 by kernel_rfl, show Tryd.prog.cellsOf 2 = 1 by kernel_rfl, show Tryd.prog.cellsOf 5 = 1 by kernel_rfl, show Tryd.prog.cellsOf 22 = 1 by kernel_rfl] at e0 h1 e2 e3 e4
  match cs, hl with
  | [c0, c1, c2, c3, c4], _ =>
    simp at e0 h1 e2 e3 e4
    obtain ⟨ops, hops⟩ := rops_of h1
    exact ⟨⟨k, ops, d, a, vl⟩, c1, (show 0 ≤ k ∧ k < 256 by omega), hops, by rw [e0, e2, e3, e4]⟩
theorem ractsr_of {H : Type} {enc : TypeId × Value → H} {w : World} {base : Nat} {spare : Nat → Bool} {held : Bool} {fuel : Nat} {v : Value} {x : DataW H × List MemPlace} (hf : DataW.trod enc Tryd.prog w base spare held fuel 51 [v] = some x) : ∃ l, ActsR w v l ∧ ∀ o ∈ l, 0 ≤ o.dk ∧ o.dk < 256 := by
  rcases open_slice Tryd.underlying51 hf with ⟨hcs, _⟩ | ⟨a, len, cap, m, n, D, Pl, hcs, _, hl, hml, hm', hx, hi⟩
  · cases hcs
    exact ⟨[], ⟨none, 0, rfl, fun j u hj => by simp at hj⟩, by simp⟩
  · cases hcs
    have hlm : len ≤ m := by rw [hm']; split <;> omega
    have key : ∀ i, i < len → ∃ o : ActR, (0 ≤ o.dk ∧ o.dk < 256) ∧ ∃ u, Ops w u o.ops ∧ ∀ q, q < 5 → w.cell? ((a.add (i * 5)).add q) = ([.int .u8 o.dk, u, .int .i64 o.dom, .int .i64 o.ab, .int .i64 o.val] : List Value)[q]? := by
      intro i hil
      obtain ⟨cs', hc', ht'⟩ := hi i (by omega)
      rw [show Tryd.prog.cellsOf 53 = 5 by kernel_rfl] at hc'
      obtain ⟨h1, h2⟩ := cells_of hc'
      obtain ⟨o, u, hr, ho, rfl⟩ := actr_of_trod ht'
      exact ⟨o, hr, u, ho, h2⟩
    obtain ⟨f, hf'⟩ : ∃ f : Nat → ActR, ∀ i, i < len → (0 ≤ (f i).dk ∧ (f i).dk < 256) ∧ ∃ u, Ops w u (f i).ops ∧ ∀ q, q < 5 → w.cell? ((a.add (i * 5)).add q) = ([.int .u8 (f i).dk, u, .int .i64 (f i).dom, .int .i64 (f i).ab, .int .i64 (f i).val] : List Value)[q]? :=
      ⟨fun i => if h : i < len then Classical.choose (key i h) else ⟨0, [], 0, 0, 0⟩, fun i hil => by
        simp only [hil, dite_true]
        exact Classical.choose_spec (key i hil)⟩
    refine ⟨(List.range len).map f, ⟨some a, cap, by simp, fun k o hk => ?_⟩, fun o ho => by
      obtain ⟨i, hi, rfl⟩ := List.mem_map.1 ho
      exact (hf' i (List.mem_range.1 hi)).1⟩
    have hil : k < len := by
      have := (List.getElem?_eq_some_iff.1 hk).1
      simpa using this
    obtain rfl : f k = o := by
      have := (List.getElem?_eq_some_iff.1 hk).2
      simpa using this
    obtain ⟨-, u, ho, hq⟩ := hf' k hil
    obtain ⟨b, off, spot⟩ := a
    have hsp : spot = none := by
      obtain ⟨-, u0, -, h0⟩ := hf' 0 (by omega)
      have h00 := h0 0 (by omega)
      rw [Deep.add_add] at h00
      rw [List.getElem?_cons_zero] at h00
      have hs := World.cell?_spot h00
      simpa [Addr.add] using hs
    subst hsp
    have hc : ∀ q, q < 5 → w.cell? ⟨b, off + k * 5 + q, none⟩ = ([.int .u8 (f k).dk, u, .int .i64 (f k).dom, .int .i64 (f k).ab, .int .i64 (f k).val] : List Value)[q]? := fun q hq5 => by
      have := hq q hq5
      rw [Deep.add_add, add_at, ← Nat.add_assoc] at this
      exact this
    exact ⟨b, off, u, rfl, ho, hc 0 (by omega), hc 1 (by omega), hc 2 (by omega), hc 3 (by omega), hc 4 (by omega)⟩
set_option maxRecDepth 100000 in
theorem open_actsr {H : Type} {enc : TypeId × Value → H} {w : World} {base : Nat} {spare : Nat → Bool} {held : Bool} {r : Reach} {b0 : Nat} {v : Value} {d : DataW H} {p : List MemPlace}
    (hv : Value.okWide Tryd.prog w r b0 51 v) (h : DataW.Trod enc Tryd.prog w base spare held 51 v d p) : ∃ l, ActsR w v l ∧ ∀ o ∈ l, 0 ≤ o.dk ∧ o.dk < 256 := by
  obtain ⟨A, len, cap, rfl⟩ := okWide_slice Tryd.underlying51 hv
  obtain ⟨fuel, hf⟩ := h
  exact ractsr_of hf
end Go.Proofs.YthccppldpfddjaaDoor
