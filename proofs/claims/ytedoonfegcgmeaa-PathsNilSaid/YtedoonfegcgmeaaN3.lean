/- How an Act by value is read. -/
import Derived.Test.YtedoonfegcgmeaaN2
import Derived.Deep.Strs
import Derived.OpenShut
import Derived.WideShapes
import Derived.SizedLaws
import Derived.Deep.Slices
import Derived.WalkKit
import Derived.ProofKit
namespace Go.Proofs.Ytedoonfegcgmeaa
open Go.RowKit Go.WideShapes Go.ChangeShapes Go.Deep
set_option maxRecDepth 100000 in
theorem act_of_trod {H : Type} {enc : TypeId × Value → H} {w : World} {base : Nat} {spare : Nat → Bool} {held : Bool} {fuel : Nat} {cs : List Value} {x : DataW H × List MemPlace} (hf : DataW.trod enc Try.prog w base spare held fuel 29 cs = some x) :
    ∃ (k : Int) (a b : ByteArray) (n m : Int) (f : Bool), cs = (actc k a b n m f).toList := by
  obtain ⟨xs, q, _, _, hl, hlen, hi⟩ := DataW.trod_struct Try.underlying29 hf
  rw [show Try.prog.cellsOf 29 = 6 by kernel_rfl] at hl
  match xs, hlen with
  | [y0, y1, y2, y3, y4, y5], _ =>
  have h0 : DataW.trod enc Try.prog w base spare held q 5 ((cs.drop 0).take (Try.prog.cellsOf 5)) = some y0 := hi 0 _ rfl
  have h1 : DataW.trod enc Try.prog w base spare held q 9 ((cs.drop 1).take (Try.prog.cellsOf 9)) = some y1 := hi 1 _ rfl
  have h2 : DataW.trod enc Try.prog w base spare held q 9 ((cs.drop 2).take (Try.prog.cellsOf 9)) = some y2 := hi 2 _ rfl
  have h3 : DataW.trod enc Try.prog w base spare held q 3 ((cs.drop 3).take (Try.prog.cellsOf 3)) = some y3 := hi 3 _ rfl
  have h4 : DataW.trod enc Try.prog w base spare held q 3 ((cs.drop 4).take (Try.prog.cellsOf 3)) = some y4 := hi 4 _ rfl
  have h5 : DataW.trod enc Try.prog w base spare held q 4 ((cs.drop 5).take (Try.prog.cellsOf 4)) = some y5 := hi 5 _ rfl
  obtain ⟨k, e0, _, _⟩ := DataW.trod_int Try.underlying5 h0
  obtain ⟨a, e1, _⟩ := DataW.trod_string Try.underlying9 h1
  obtain ⟨b, e2, _⟩ := DataW.trod_string Try.underlying9 h2
  obtain ⟨n, e3, _, _⟩ := DataW.trod_int Try.underlying3 h3
  obtain ⟨m, e4, _, _⟩ := DataW.trod_int Try.underlying3 h4
  obtain ⟨f, e5, _⟩ := DataW.trod_bool Try.underlying4 h5
  refine ⟨k, a, b, n, m, f, ?_⟩
  simp only [show Try.prog.cellsOf 3 = 1 by kernel_rfl, show Try.prog.cellsOf 5 = 1 by kernel_rfl, show Try.prog.cellsOf 9 = 1 by kernel_rfl, show Try.prog.cellsOf 4 = 1 by kernel_rfl] at e0 e1 e2 e3 e4 e5
  unfold actc
  match cs, hl with
  | [c0, c1, c2, c3, c4, c5], _ =>
    simp at e0 e1 e2 e3 e4 e5
    rw [e0, e1, e2, e3, e4, e5]
set_option maxRecDepth 100000 in
theorem open29 {H : Type} {enc : TypeId × Value → H} {w : World} {base : Nat} {spare : Nat → Bool} {held : Bool} {r : Reach} {b0 : Nat} {v : Value} {d : DataW H} {p : List MemPlace}
    (hv : Value.okWide Try.prog w r b0 29 v) (h : DataW.Trod enc Try.prog w base spare held 29 v d p) :
    ∃ (k : Int) (a b : ByteArray) (n m : Int) (f : Bool), v = .agg (actc k a b n m f) := by
  obtain ⟨cs, rfl, hsz⟩ := okWide_struct Try.underlying29 hv
  obtain ⟨fuel, hf⟩ := h
  obtain ⟨k, a, b, n, m, f, e⟩ := act_of_trod hf
  refine ⟨k, a, b, n, m, f, ?_⟩
  simp only [Value.cells] at e
  rw [← Array.toArray_toList (xs := cs), e]
theorem nil_row (k : Int) (a b : ByteArray) (n m : Int) (f : Bool) (W : World) : Calls Try.prog 5 #[.agg (actc k a b n m f)] W fun e w' => e = .returned (.bool true) ∧ Below W.heap.size W w' := nil_law k a b n m f W
end Go.Proofs.Ytedoonfegcgmeaa
