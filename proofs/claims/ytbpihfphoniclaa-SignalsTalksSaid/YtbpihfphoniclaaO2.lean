/- How a slice of Ops that came in is read. -/
import Derived.Test.YtbpihfphoniclaaO1
namespace Go.Proofs.Ytbpihfphoniclaa
open Go.RowKit Go.WideShapes Go.ChangeShapes Go.Deep
abbrev OpT := Int × Int × Int × Int × Int × Nat × Int
def opT (o : OpT) : Array Value := opc o.1 o.2.1 o.2.2.1 o.2.2.2.1 o.2.2.2.2.1 o.2.2.2.2.2.1 o.2.2.2.2.2.2
def o0 : OpT := (0, 0, 0, 0, 0, 0, 0)
def okO (o : OpT) : Prop := o.2.2.2.2.2.1 < 18446744073709551616
/-- The cells of a slice of Ops. -/
def OC (w : World) (A : Option Addr) (l : List OpT) : Prop := ∀ i, i < l.length → ∃ ad, A = some ad ∧ ad.block < w.heap.size ∧ okO (l.getD i o0) ∧ ∀ j u, (opT (l.getD i o0))[j]? = some u → w.cell? ((ad.add (i * 7)).add j) = some u
theorem add_block (ad : Addr) (j : Nat) : (ad.add j).block = ad.block := by
  unfold Addr.add
  split <;> rfl
theorem OC.below {w w' : World} {A : Option Addr} {l : List OpT} (h : OC w A l) (hb : Below w.heap.size w w') : OC w' A l := by
  intro i hi
  obtain ⟨ad, e, hlt, hok, hc⟩ := h i hi
  refine ⟨ad, e, by have := hb.size; omega, hok, fun j u hu => ?_⟩
  rw [hb.cell (p := (ad.add (i * 7)).add j) (by rw [add_block, add_block]; exact hlt)]
  exact hc j u hu
section
variable {H : Type} {enc : TypeId × Value → H} {P : Program} {w : World} {base : Nat} {spare : Nat → Bool} {held : Bool}
theorem cells_of {a : Addr} {n : Nat} {cs : List Value} (h : w.cells? base a n = some cs) : cs.length = n ∧ ∀ q, q < n → w.cell? (a.add q) = cs[q]? := by
  unfold World.cells? at h
  split at h
  · have hl := mapM_some_length h
    rw [List.length_range] at hl
    exact ⟨hl, fun q hq => mapM_some_get h q q (by simp [hq])⟩
  · simp at h

/-- A slice that came in, whatever its elements: its shape, its reach, and each element's cells with their reading. -/
theorem open_rows {r : Reach} {b0 : Nat} {ts : List TypeId} {ds : List (DataW H)} {j : Nat} {t e : TypeId} {m B : Nat} {v : Value} {d : DataW H} {p : List MemPlace} (hu : P.underlying t = some (.slice e)) (hm : P.cellsOf e = m) (hB : P.bytesOf e = B)
    (ht : ts[j]? = some t) (hd : ds[j]? = some d) (hsz : (DataW.weightsEach P ts ds).all (· ≤ reachBytes) = true)
    (hv : Value.okWide P w r b0 t v) (h : DataW.Trod enc P w base spare held t v d p) :
    ∃ A len cap, v = .slice A len cap ∧ len ≤ cap ∧ cap ≤ maxLen ∧ len * B ≤ 140737488351232 ∧ (A = none → len = 0 ∧ cap = 0) ∧ ∀ i, i < len → ∃ ad cs fuel y, A = some ad ∧ cs.length = m ∧ (∀ q, q < m → w.cell? (ad.add (i * m + q)) = cs[q]?) ∧ DataW.trod enc P w base spare held fuel e cs = some y := by
  obtain ⟨A, len, cap, rfl⟩ := okWide_slice hu hv
  obtain ⟨fuel, hf⟩ := h
  refine ⟨A, len, cap, rfl, ?_⟩
  rcases open_slice hu hf with ⟨hcs, _⟩ | ⟨a, len', cap', m', n, D, Pl, hcs, _, hl, hml, hm', hx, hi⟩
  · simp [Value.cells] at hcs
    obtain ⟨rfl, rfl, rfl⟩ := hcs
    exact ⟨Nat.le_refl _, by simp [maxLen], by simp, fun _ => ⟨rfl, rfl⟩, fun i hi => by omega⟩
  · simp [Value.cells] at hcs
    obtain ⟨rfl, rfl, rfl⟩ := hcs
    obtain ⟨hx, _⟩ := Prod.mk.inj hx
    subst hx
    have z := sized_slice hsz ht hd hu
    rw [hB] at z
    simp only [List.length_map, List.length_range] at z
    have hlm : len ≤ m' := by rw [hm']; split <;> omega
    refine ⟨hl, hml, Nat.le_trans (Nat.mul_le_mul_right _ (by omega)) z, fun h => (by cases h), fun i hil => ?_⟩
    obtain ⟨cs', hc', ht'⟩ := hi i (by omega)
    rw [hm] at hc'
    obtain ⟨h1, h2⟩ := cells_of hc'
    exact ⟨a, cs', n, _, rfl, h1, fun q hq => by rw [← Deep.add_add]; exact h2 q hq, ht'⟩
theorem slice_block {r : Reach} {b0 : Nat} {t e : TypeId} {a : Addr} {n c : Nat} (hu : P.underlying t = some (.slice e)) (hv : Value.okWide P w r b0 t (.slice (some a) n c)) : a.block < w.heap.size := by
  simp only [Value.okWide, hu, Cell.okWide, Cell.ok] at hv
  obtain ⟨_, _, _, _, row, cells, hs, _⟩ := hv
  unfold World.shape? at hs
  by_cases h : a.block < w.heap.size
  · exact h
  · rw [Array.getElem?_eq_none (by omega)] at hs
    cases hs
end

set_option maxRecDepth 100000 in
theorem open46 {H : Type} {enc : TypeId × Value → H} {w : World} {base : Nat} {spare : Nat → Bool} {held : Bool} {r : Reach} {b0 : Nat} {ts : List TypeId} {ds : List (DataW H)} {j t : Nat} {v : Value} {d : DataW H} {p : List MemPlace}
    (htt : t = 46) (ht : ts[j]? = some t) (hd : ds[j]? = some d) (hsz : (DataW.weightsEach Try.prog ts ds).all (· ≤ reachBytes) = true)
    (hv : Value.okWide Try.prog w r b0 46 v) (h : DataW.Trod enc Try.prog w base spare held 46 v d p) :
    ∃ (A : Option Addr) (cap : Nat) (l : List OpT), v = .slice A l.length cap ∧ OC w A l ∧ l.length ≤ 140737488351232 := by
  subst htt
  obtain ⟨A, len, cap, rfl, hl, hm, hz, _, hi⟩ := open_rows (m := 7) (B := 56) Try.underlying46 (by kernel_rfl) (by kernel_rfl) ht hd hsz hv h
  have hc : ∀ i, i < len → ∃ q : OpT, okO q ∧ ∃ ad, A = some ad ∧ ∀ j u, (opT q)[j]? = some u → w.cell? ((ad.add (i * 7)).add j) = some u := by
    intro i hil
    obtain ⟨ad, cs, fuel, y, rfl, hl, hcell, hy⟩ := hi i hil
    obtain ⟨k, th, p, s, n, b, u, e, hb, _⟩ := op_of_trod hy
    refine ⟨(k, th, p, s, n, b, u), hb, ad, rfl, fun j x hx => ?_⟩
    have hj : j < 7 := by
      have := (Array.getElem?_eq_some_iff.1 hx).1
      simpa [opT, opc] using this
    have h1 := hcell j hj
    rw [← Deep.add_add] at h1
    rw [h1, e]
    simpa [opT] using hx
  haveI : Inhabited OpT := ⟨o0⟩
  obtain ⟨f, hf⟩ := Deep.choose_lt hc
  refine ⟨A, cap, (List.range len).map f, by simp, ?_, by simp; omega⟩
  intro i hil
  simp only [List.length_map, List.length_range] at hil
  obtain ⟨hok, ad, rfl, hcell⟩ := hf i hil
  have hg : ((List.range len).map f).getD i o0 = f i := by simp [List.getD_eq_getElem?_getD, hil]
  rw [hg]
  have h0 := hcell 0 _ (by simp [opT, opc]; rfl)
  refine ⟨ad, rfl, by have := Go.block_lt_of_cell h0; rwa [add_block, add_block] at this, hok, hcell⟩
end Go.Proofs.Ytbpihfphoniclaa
