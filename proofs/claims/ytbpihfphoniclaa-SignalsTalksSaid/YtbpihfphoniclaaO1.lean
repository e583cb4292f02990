/- How an Op by value is read. -/
import Derived.Test.YtbpihfphoniclaaD0
import Derived.Deep.Strs
import Derived.OpenShut
import Derived.WideShapes
import Derived.SizedLaws
import Derived.Deep.Slices
import Derived.WalkKit
import Derived.ProofKit
namespace Go.Proofs.Ytbpihfphoniclaa
open Go.RowKit Go.WideShapes Go.ChangeShapes Go.Deep
theorem i64_of_wf {n : Int} (h : (Lit.int .i64 n).wf = true) : -9223372036854775808 ≤ n ∧ n ≤ 9223372036854775807 := by
  simpa [Lit.wf, IntKind.min, IntKind.max, IntKind.bits, IntKind.signed] using h
theorem u64_of_wf {n : Int} (h : (Lit.int .u64 n).wf = true) : ∃ b : Nat, n = (b : Int) ∧ b < 18446744073709551616 := by
  have : 0 ≤ n ∧ n ≤ 18446744073709551615 := by simpa [Lit.wf, IntKind.min, IntKind.max, IntKind.bits, IntKind.signed] using h
  exact ⟨n.toNat, by omega, by omega⟩
def okI (n : Int) : Prop := -9223372036854775808 ≤ n ∧ n ≤ 9223372036854775807
set_option maxRecDepth 100000 in
theorem op_of_trod {H : Type} {enc : TypeId × Value → H} {w : World} {base : Nat} {spare : Nat → Bool} {held : Bool} {fuel : Nat} {cs : List Value} {x : DataW H × List MemPlace} (hf : DataW.trod enc Try.prog w base spare held fuel 49 cs = some x) :
    ∃ (k th p s n : Int) (b : Nat) (v : Int), cs = (opc k th p s n b v).toList ∧ b < 18446744073709551616 ∧ okI k ∧ okI th ∧ okI p ∧ okI s ∧ okI n ∧ okI v := by
  obtain ⟨xs, m, _, _, hl, hlen, hi⟩ := DataW.trod_struct Try.underlying49 hf
  rw [show Try.prog.cellsOf 49 = 7 by kernel_rfl] at hl
  match xs, hlen with
  | [y0, y1, y2, y3, y4, y5, y6], _ =>
  have h0 : DataW.trod enc Try.prog w base spare held m 3 ((cs.drop 0).take (Try.prog.cellsOf 3)) = some y0 := hi 0 _ rfl
  have h1 : DataW.trod enc Try.prog w base spare held m 3 ((cs.drop 1).take (Try.prog.cellsOf 3)) = some y1 := hi 1 _ rfl
  have h2 : DataW.trod enc Try.prog w base spare held m 3 ((cs.drop 2).take (Try.prog.cellsOf 3)) = some y2 := hi 2 _ rfl
  have h3 : DataW.trod enc Try.prog w base spare held m 3 ((cs.drop 3).take (Try.prog.cellsOf 3)) = some y3 := hi 3 _ rfl
  have h4 : DataW.trod enc Try.prog w base spare held m 3 ((cs.drop 4).take (Try.prog.cellsOf 3)) = some y4 := hi 4 _ rfl
  have h5 : DataW.trod enc Try.prog w base spare held m 22 ((cs.drop 5).take (Try.prog.cellsOf 22)) = some y5 := hi 5 _ rfl
  have h6 : DataW.trod enc Try.prog w base spare held m 2 ((cs.drop 6).take (Try.prog.cellsOf 2)) = some y6 := hi 6 _ rfl
  obtain ⟨k, e0, _, w0⟩ := DataW.trod_int Try.underlying3 h0
  obtain ⟨th, e1, _, w1⟩ := DataW.trod_int Try.underlying3 h1
  obtain ⟨p, e2, _, w2⟩ := DataW.trod_int Try.underlying3 h2
  obtain ⟨s, e3, _, w3⟩ := DataW.trod_int Try.underlying3 h3
  obtain ⟨n, e4, _, w4⟩ := DataW.trod_int Try.underlying3 h4
  obtain ⟨b, e5, _, w5⟩ := DataW.trod_int Try.underlying22 h5
  obtain ⟨v, e6, _, w6⟩ := DataW.trod_int Try.underlying2 h6
  obtain ⟨b, rfl, hb⟩ := u64_of_wf w5
  refine ⟨k, th, p, s, n, b, v, ?_, hb, i64_of_wf w0, i64_of_wf w1, i64_of_wf w2, i64_of_wf w3, i64_of_wf w4, i64_of_wf w6⟩
  simp only [show Try.prog.cellsOf 3 = 1 by kernel_rfl, show Try.prog.cellsOf 22 = 1 by kernel_rfl, show Try.prog.cellsOf 2 = 1 by kernel_rfl] at e0 e1 e2 e3 e4 e5 e6
  unfold opc
  match cs, hl with
  | [c0, c1, c2, c3, c4, c5, c6], _ =>
    simp at e0 e1 e2 e3 e4 e5 e6
    rw [e0, e1, e2, e3, e4, e5, e6]
set_option maxRecDepth 100000 in
theorem open49 {H : Type} {enc : TypeId × Value → H} {w : World} {base : Nat} {spare : Nat → Bool} {held : Bool} {r : Reach} {b0 : Nat} {v : Value} {d : DataW H} {p : List MemPlace}
    (hv : Value.okWide Try.prog w r b0 49 v) (h : DataW.Trod enc Try.prog w base spare held 49 v d p) :
    ∃ (k th p s n : Int) (b : Nat) (u : Int), v = .agg (opc k th p s n b u) ∧ b < 18446744073709551616 ∧ okI k ∧ okI th ∧ okI p ∧ okI s ∧ okI n ∧ okI u := by
  obtain ⟨cs, rfl, hsz⟩ := okWide_struct Try.underlying49 hv
  obtain ⟨fuel, hf⟩ := h
  obtain ⟨k, th, p, s, n, b, u, e, r⟩ := op_of_trod hf
  refine ⟨k, th, p, s, n, b, u, ?_, r⟩
  simp only [Value.cells] at e
  rw [← Array.toArray_toList (xs := cs), e]
end Go.Proofs.Ytbpihfphoniclaa
