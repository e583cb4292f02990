/- How an array of three uint64 that came in is read; SignalsOne for it. -/
import Derived.Test.YtbpihfphoniclaaO1
import Derived.Test.YtbpihfphoniclaaD6
namespace Go.Proofs.Ytbpihfphoniclaa
open Go.RowKit Go.WideShapes Go.ChangeShapes Go.Deep
set_option maxRecDepth 100000 in
theorem three_of_trod {H : Type} {enc : TypeId × Value → H} {w : World} {base : Nat} {spare : Nat → Bool} {held : Bool} {fuel : Nat} {cs : List Value} {x : DataW H × List MemPlace} (hf : DataW.trod enc Try.prog w base spare held fuel 23 cs = some x) :
    ∃ (a b c : Nat), cs = [.int .u64 a, .int .u64 b, .int .u64 c] ∧ a < 18446744073709551616 ∧ b < 18446744073709551616 ∧ c < 18446744073709551616 := by
  obtain ⟨xs, m, _, _, hl, hlx, hi⟩ := DataW.trod_array Try.underlying23 hf
  rw [show Try.prog.cellsOf 23 = 3 by kernel_rfl] at hl
  rw [show Try.prog.cellsOf 22 = 1 by kernel_rfl] at hi
  match xs, hlx with
  | [y0, y1, y2], _ =>
  have h0 : DataW.trod enc Try.prog w base spare held m 22 ((cs.drop (0 * 1)).take 1) = some y0 := hi 0 (by omega)
  have h1 : DataW.trod enc Try.prog w base spare held m 22 ((cs.drop (1 * 1)).take 1) = some y1 := hi 1 (by omega)
  have h2 : DataW.trod enc Try.prog w base spare held m 22 ((cs.drop (2 * 1)).take 1) = some y2 := hi 2 (by omega)
  obtain ⟨a, e0, _, w0⟩ := DataW.trod_int Try.underlying22 h0
  obtain ⟨b, e1, _, w1⟩ := DataW.trod_int Try.underlying22 h1
  obtain ⟨c, e2, _, w2⟩ := DataW.trod_int Try.underlying22 h2
  obtain ⟨a, rfl, ha⟩ := u64_of_wf w0
  obtain ⟨b, rfl, hb⟩ := u64_of_wf w1
  obtain ⟨c, rfl, hc⟩ := u64_of_wf w2
  refine ⟨a, b, c, ?_, ha, hb, hc⟩
  match cs, hl with
  | [c0, c1, c2], _ =>
    simp at e0 e1 e2
    rw [e0, e1, e2]
set_option maxRecDepth 100000 in
theorem open23 {H : Type} {enc : TypeId × Value → H} {w : World} {base : Nat} {spare : Nat → Bool} {held : Bool} {r : Reach} {b0 : Nat} {v : Value} {d : DataW H} {p : List MemPlace}
    (hv : Value.okWide Try.prog w r b0 23 v) (h : DataW.Trod enc Try.prog w base spare held 23 v d p) :
    ∃ (a b c : Nat), v = .agg #[.int .u64 a, .int .u64 b, .int .u64 c] ∧ a < 18446744073709551616 ∧ b < 18446744073709551616 ∧ c < 18446744073709551616 := by
  simp only [Value.okWide, Try.underlying23] at hv
  obtain ⟨cs, rfl, hs, _⟩ := hv
  obtain ⟨fuel, hf⟩ := h
  obtain ⟨a, b, c, e, r⟩ := three_of_trod hf
  refine ⟨a, b, c, ?_, r⟩
  simp only [Value.cells] at e
  rw [← Array.toArray_toList (xs := cs), e]
theorem one_row (a b c : Nat) (g v : Int) (w : World) (ha : a < 18446744073709551616) (hb : b < 18446744073709551616) (hc : c < 18446744073709551616) (hg : (Lit.int .u8 g).wf = true) (_ : (Lit.int .i64 v).wf = true) :
    Calls Try.prog 3 #[.agg #[.int .u64 a, .int .u64 b, .int .u64 c], .int .u8 g, .int .i64 v] w fun e w' => e = .returned (.bool true) ∧ Below w.heap.size w w' := by
  have hg : 0 ≤ g ∧ g ≤ 255 := by simpa [Lit.wf, IntKind.min, IntKind.max, IntKind.bits, IntKind.signed] using hg
  exact one_law a b c g v ha hb hc hg.1 hg.2 w
end Go.Proofs.Ytbpihfphoniclaa
