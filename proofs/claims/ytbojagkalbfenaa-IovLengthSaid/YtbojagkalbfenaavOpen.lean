/- How lists of parts that came in are read. -/
import Derived.Test.YtbojagkalbfenaavQ3
import Derived.Deep.Strs
import Derived.OpenShut
import Derived.WideShapes
import Derived.SizedLaws
import Derived.Deep.Slices
namespace Go.Proofs.Ytbojagkalbfenaa
open Go.RowKit Go.WideShapes Go.ChangeShapes Go.Deep PIovLength Go.Proofs.YtbojagkalbfenaaW.PrintWords
section
variable {H : Type} {enc : TypeId × Value → H} {P : Program} {w : World} {base : Nat} {spare : Nat → Bool} {held : Bool}
theorem cells_of {a : Addr} {n : Nat} {cs : List Value} (h : w.cells? base a n = some cs) : cs.length = n ∧ ∀ q, q < n → w.cell? (a.add q) = cs[q]? := by
  unfold World.cells? at h
  split at h
  · have hl := mapM_some_length h
    rw [List.length_range] at hl
    exact ⟨hl, fun q hq => mapM_some_get h q q (by simp [hq])⟩
  · simp at h

/-- A slice that came in, whatever its elements: its shape, its reach, and each element's cells with their reading. -/
theorem open_rows {r : Reach} {b0 : Nat} {ts : List TypeId} {ds : List (DataW H)} {j : Nat} {t e : TypeId} {m B : Nat} {v : Value} {d : DataW H} {p : List MemPlace} (hu : P.underlying t = some (.slice e)) (hm : P.cellsOf e = m) (hB : P.bytesOf e = B)
    (ht : ts[j]? = some t) (hd : ds[j]? = some d) (hsz : (DataW.weightsEach P ts ds).all (· ≤ reachBytes) = true)
    (hv : Value.okWide P w r b0 t v) (h : DataW.Trod enc P w base spare held t v d p) :
    ∃ A len cap, v = .slice A len cap ∧ len ≤ cap ∧ cap ≤ maxLen ∧ len * B ≤ 140737488351232 ∧ (A = none → len = 0 ∧ cap = 0) ∧ ∀ i, i < len → ∃ ad cs fuel y, A = some ad ∧ cs.length = m ∧ (∀ q, q < m → w.cell? (ad.add (i * m + q)) = cs[q]?) ∧ DataW.trod enc P w base spare held fuel e cs = some y := by
  obtain ⟨A, len, cap, rfl⟩ := okWide_slice hu hv
  obtain ⟨fuel, hf⟩ := h
  refine ⟨A, len, cap, rfl, ?_⟩
  rcases open_slice hu hf with ⟨hcs, _⟩ | ⟨a, len', cap', m', n, D, Pl, hcs, _, hl, hml, hm', hx, hi⟩
  · simp [Value.cells] at hcs
    obtain ⟨rfl, rfl, rfl⟩ := hcs
    exact ⟨Nat.le_refl _, by simp [maxLen], by simp, fun _ => ⟨rfl, rfl⟩, fun i hi => by omega⟩
  · simp [Value.cells] at hcs
    obtain ⟨rfl, rfl, rfl⟩ := hcs
    obtain ⟨hx, _⟩ := Prod.mk.inj hx
    subst hx
    have z := sized_slice hsz ht hd hu
    rw [hB] at z
    simp only [List.length_map, List.length_range] at z
    have hlm : len ≤ m' := by rw [hm']; split <;> omega
    refine ⟨hl, hml, Nat.le_trans (Nat.mul_le_mul_right _ (by omega)) z, fun h => (by cases h), fun i hil => ?_⟩
    obtain ⟨cs', hc', ht'⟩ := hi i (by omega)
    rw [hm] at hc'
    obtain ⟨h1, h2⟩ := cells_of hc'
    exact ⟨a, cs', n, _, rfl, h1, fun q hq => by rw [← Deep.add_add]; exact h2 q hq, ht'⟩
theorem slice_block {r : Reach} {b0 : Nat} {t e : TypeId} {a : Addr} {n c : Nat} (hu : P.underlying t = some (.slice e)) (hv : Value.okWide P w r b0 t (.slice (some a) n c)) : a.block < w.heap.size := by
  simp only [Value.okWide, hu, Cell.okWide, Cell.ok] at hv
  obtain ⟨_, _, _, _, row, cells, hs, _⟩ := hv
  unfold World.shape? at hs
  by_cases h : a.block < w.heap.size
  · exact h
  · rw [Array.getElem?_eq_none (by omega)] at hs
    cases hs
end
theorem pairs_kept {w w1 : World} {A : Option Addr} {l : List (Int × Int)} (h : Pairs w A l) (hb : ∀ k, k < w.heap.size → w1.heap[k]? = w.heap[k]?) : Pairs w1 A l := by
  intro i hi
  obtain ⟨ad, e, h1, h2⟩ := h i hi
  exact ⟨ad, e, (World.cell?_of_block (w := w) (hb _ (World.block_lt_of_cell? _ _ h1))).trans h1, (World.cell?_of_block (w := w) (hb _ (World.block_lt_of_cell? _ _ h2))).trans h2⟩
theorem V_of_pairs {w : World} {b : Nat} {A : Option Addr} {l : List S44} {c : Nat} (hc : l.length ≤ c) (hl : l.length ≤ 9223372036854775807) (h : Pairs w A (prs l)) : Kd.V k44 44 w b (fun k => k < w.heap.size) (.slice A l.length c) l := by
  refine Kd.V_mk hc (fun W' hW' => C_of_pairs hl (pairs_kept h ?_))
  intro i hi
  exact hW' i hi hi
theorem open23 {H : Type} {enc : TypeId × Value → H} {w : World} {base : Nat} {spare : Nat → Bool} {held : Bool} {r : Reach} {b0 : Nat} {ts : List TypeId} {ds : List (DataW H)} {j t : Nat} {v : Value} {d : DataW H} {p : List MemPlace}
    (htt : t = 23) (ht : ts[j]? = some t) (hd : ds[j]? = some d) (hsz : (DataW.weightsEach Try.prog ts ds).all (· ≤ reachBytes) = true)
    (hv : Value.okWide Try.prog w r b0 23 v) (h : DataW.Trod enc Try.prog w base spare held 23 v d p) :
    ∃ (A : Option Addr) (cap : Nat) (l : List S44), v = .slice A l.length cap ∧ Kd.V k44 44 w w.heap.size (fun k => k < w.heap.size) (.slice A l.length cap) l ∧ (∀ ad, A = some ad → ad.block < w.heap.size) ∧ l.length * 16 ≤ 140737488351232 := by
  subst htt
  obtain ⟨A, len, cap, rfl, hl, _, hz, _, hi⟩ := open_rows (m := 2) (B := 16) Try.underlying23 (by kernel_rfl) (by kernel_rfl) ht hd hsz hv h
  have hc : ∀ i, i < len → ∃ q : S44, ∃ ad, A = some ad ∧ w.cell? (ad.add (i * 2)) = some (.int .i64 q.f0) ∧ w.cell? ⟨(ad.add (i * 2)).block, (ad.add (i * 2)).off + 1, none⟩ = some (.int .i64 q.f1) := by
    intro i hil
    obtain ⟨ad, cs, fuel, y, rfl, hl, hcell, hy⟩ := hi i hil
    obtain ⟨y0, y1, m, _, _, g0, g1⟩ := trod_struct2 Try.underlying44 hy
    obtain ⟨a, ea, _⟩ := DataW.trod_int Try.underlying2 g0
    obtain ⟨b, eb, _⟩ := DataW.trod_int Try.underlying2 g1
    rw [show Try.prog.cellsOf 2 = 1 by kernel_rfl] at ea eb
    match cs, hl with
    | [c0, c1], _ =>
      simp at ea eb
      subst ea eb
      have h0 := hcell 0 (by omega)
      have h1 := hcell 1 (by omega)
      refine ⟨⟨a, b⟩, ad, rfl, by simpa using h0, ?_⟩
      rw [← Deep.add_add] at h1
      have e2 : (ad.add (i * 2)).add 1 = ⟨(ad.add (i * 2)).block, (ad.add (i * 2)).off + 1, none⟩ := by unfold Addr.add; simp
      rw [e2] at h1
      simpa using h1
  haveI : Inhabited S44 := ⟨z44⟩
  obtain ⟨f, hf⟩ := Deep.choose_lt hc
  have hp : Pairs w A (prs ((List.range len).map f)) := by
    intro i hil
    rw [prs_length] at hil
    simp only [List.length_map, List.length_range] at hil
    have := hf i hil
    simpa [prs, List.getD_eq_getElem?_getD, hil] using this
  refine ⟨A, cap, (List.range len).map f, by simp, V_of_pairs (by simpa using hl) (by simp; omega) hp, ?_, by simpa using hz⟩
  rintro ad rfl
  exact slice_block Try.underlying23 hv
theorem length_row (A0 : Option Addr) (cap0 : Nat) (l0 : List S44) (a1 a2 : Int) (w : World) (v0 : Kd.V k44 44 w w.heap.size (fun k => k < w.heap.size) (.slice A0 l0.length cap0) l0) (hA0 : ∀ ad, A0 = some ad → ad.block < w.heap.size) (_ : l0.length * 16 ≤ 140737488351232) (_ : (Lit.int .i64 a1).wf = true) (_ : (Lit.int .i64 a2).wf = true) :
    Calls Try.prog 5 #[.slice A0 l0.length cap0, .int .i64 a1, .int .i64 a2] w fun e w' => e = .returned (.bool true) ∧ Below w.heap.size w w' :=
  length_law A0 l0 cap0 a1 a2 _ w v0 hA0
end Go.Proofs.Ytbojagkalbfenaa
