import Derived.Test.YtmmhflpeapojgaaC7
import Derived.Deep.RegionHeld3
import Derived.Deep.Strs
import Derived.OpenShut
import Derived.WideShapes
import Derived.SizedLaws
import Derived.Deep.Slices
import Derived.WalkKit
import Derived.ProofKit
import Derived.ShutString
import Derived.ChangeOld
import Derived.Below
import Derived.Laws.Cover2
namespace Go.Proofs.Ytmmhflpeapojgaa
open Go.RowKit Go.WideShapes Go.ChangeShapes Go.Deep
section
variable {H : Type} {enc : TypeId × Value → H} {P : Program} {w : World} {base : Nat} {spare : Nat → Bool} {held : Bool}
theorem cells_of {a : Addr} {n : Nat} {cs : List Value} (h : w.cells? base a n = some cs) : cs.length = n ∧ ∀ q, q < n → w.cell? (a.add q) = cs[q]? := by
  unfold World.cells? at h
  split at h
  · have hl := mapM_some_length h
    rw [List.length_range] at hl
    exact ⟨hl, fun q hq => mapM_some_get h q q (by simp [hq])⟩
  · simp at h

/-- A slice that came in, whatever its elements: its shape, its reach, and each element's cells with their reading. -/
theorem open_rows {r : Reach} {b0 : Nat} {ts : List TypeId} {ds : List (DataW H)} {j : Nat} {t e : TypeId} {m B : Nat} {v : Value} {d : DataW H} {p : List MemPlace} (hu : P.underlying t = some (.slice e)) (hm : P.cellsOf e = m) (hB : P.bytesOf e = B)
    (ht : ts[j]? = some t) (hd : ds[j]? = some d) (hsz : (DataW.weightsEach P ts ds).all (· ≤ reachBytes) = true)
    (hv : Value.okWide P w r b0 t v) (h : DataW.Trod enc P w base spare held t v d p) :
    ∃ A len cap, v = .slice A len cap ∧ len ≤ cap ∧ cap ≤ maxLen ∧ len * B ≤ 140737488351232 ∧ (A = none → len = 0 ∧ cap = 0) ∧ ∀ i, i < len → ∃ ad cs fuel y, A = some ad ∧ cs.length = m ∧ (∀ q, q < m → w.cell? (ad.add (i * m + q)) = cs[q]?) ∧ DataW.trod enc P w base spare held fuel e cs = some y := by
  obtain ⟨A, len, cap, rfl⟩ := okWide_slice hu hv
  obtain ⟨fuel, hf⟩ := h
  refine ⟨A, len, cap, rfl, ?_⟩
  rcases open_slice hu hf with ⟨hcs, _⟩ | ⟨a, len', cap', m', n, D, Pl, hcs, _, hl, hml, hm', hx, hi⟩
  · simp [Value.cells] at hcs
    obtain ⟨rfl, rfl, rfl⟩ := hcs
    exact ⟨Nat.le_refl _, by simp [maxLen], by simp, fun _ => ⟨rfl, rfl⟩, fun i hi => by omega⟩
  · simp [Value.cells] at hcs
    obtain ⟨rfl, rfl, rfl⟩ := hcs
    obtain ⟨hx, _⟩ := Prod.mk.inj hx
    subst hx
    have z := sized_slice hsz ht hd hu
    rw [hB] at z
    simp only [List.length_map, List.length_range] at z
    have hlm : len ≤ m' := by rw [hm']; split <;> omega
    refine ⟨hl, hml, Nat.le_trans (Nat.mul_le_mul_right _ (by omega)) z, fun h => (by cases h), fun i hil => ?_⟩
    obtain ⟨cs', hc', ht'⟩ := hi i (by omega)
    rw [hm] at hc'
    obtain ⟨h1, h2⟩ := cells_of hc'
    exact ⟨a, cs', n, _, rfl, h1, fun q hq => by rw [← Deep.add_add]; exact h2 q hq, ht'⟩
theorem slice_block {r : Reach} {b0 : Nat} {t e : TypeId} {a : Addr} {n c : Nat} (hu : P.underlying t = some (.slice e)) (hv : Value.okWide P w r b0 t (.slice (some a) n c)) : a.block < w.heap.size := by
  simp only [Value.okWide, hu, Cell.okWide, Cell.ok] at hv
  obtain ⟨_, _, _, _, row, cells, hs, _⟩ := hv
  unfold World.shape? at hs
  by_cases h : a.block < w.heap.size
  · exact h
  · rw [Array.getElem?_eq_none (by omega)] at hs
    cases hs
end

theorem trod_float {H : Type} {enc : TypeId × Value → H} {P : Program} {w : World} {base : Nat} {spare : Nat → Bool} {held : Bool} {fuel : Nat} {t : TypeId} {cs : List Value} {x : DataW H × List MemPlace} {k : FloatKind} (ht : P.underlying t = some (.float k)) (h : DataW.trod enc P w base spare held fuel t cs = some x) : ∃ b, cs = [.float k b] ∧ (Lit.float k b).wf = true := by
  cases fuel with
  | zero => simp [DataW.trod] at h
  | succ n =>
    unfold DataW.trod at h
    rw [ht] at h
    split at h <;> simp_all
theorem wf_lt {b : Nat} (h : (Lit.float .f32 b).wf = true) : b < 4294967296 := by
  simp only [Lit.wf, decide_eq_true_eq] at h
  exact h
/-- A slice of floats that came in. -/
theorem open22 {H : Type} {enc : TypeId × Value → H} {w : World} {base : Nat} {spare : Nat → Bool} {held : Bool} {r : Reach} {b0 : Nat} {ts : List TypeId} {ds : List (DataW H)} {j t : Nat} {v : Value} {d : DataW H} {p : List MemPlace}
    (htt : t = 22) (ht : ts[j]? = some t) (hd : ds[j]? = some d) (hsz : (DataW.weightsEach Try.prog ts ds).all (· ≤ reachBytes) = true)
    (hv : Value.okWide Try.prog w r b0 22 v) (h : DataW.Trod enc Try.prog w base spare held 22 v d p) :
    ∃ (A : Option Addr) (cap : Nat) (l : List Nat), v = .slice A l.length cap ∧ FC w A l ∧ l.length ≤ 9223372036854775807 ∧ (∀ x ∈ l, x < 4294967296) ∧ l.length ≤ cap ∧ cap ≤ 9223372036854775807 ∧ (A = none → l.length = 0 ∧ cap = 0) := by
  subst htt
  obtain ⟨A, len, cap, rfl, hl, hm, hz, hn, hi⟩ := open_rows (m := 1) (B := 4) Try.underlying22 (by kernel_rfl) (by kernel_rfl) ht hd hsz hv h
  have hc : ∀ i, i < len → ∃ q : Nat, ∃ ad, A = some ad ∧ w.cell? (ad.add i) = some (.float .f32 q) ∧ q < 4294967296 := by
    intro i hil
    obtain ⟨ad, cs, fuel, y, e, hl, hcell, hy⟩ := hi i hil
    obtain ⟨b, rfl, hw⟩ := trod_float Try.underlying27 hy
    have h0 := hcell 0 (by omega)
    exact ⟨b, ad, e, by simpa using h0, wf_lt hw⟩
  obtain ⟨f, hf⟩ := Deep.choose_lt hc
  simp only [maxLen] at hm
  refine ⟨A, cap, (List.range len).map f, by simp, fun i hi => ?_, by simp; omega, ?_, by simpa using hl, by omega, by simpa using hn⟩
  · simp only [List.length_map, List.length_range] at hi
    obtain ⟨ad, e, h1, _⟩ := hf i hi
    exact ⟨ad, e, by simpa [List.getD_eq_getElem?_getD, hi] using h1⟩
  · intro x hx
    simp only [List.mem_map, List.mem_range] at hx
    obtain ⟨i, hi, rfl⟩ := hx
    obtain ⟨_, _, _, h2⟩ := hf i hi
    exact h2
/-- An array of eight floats that came in. -/
theorem open48 {w : World} {r : Reach} {b0 : Nat} {v : Value} (hv : Value.okWide Try.prog w r b0 48 v) : ∃ xs : List Nat, xs.length = 8 ∧ v = .agg (fx xs) := by
  simp only [Value.okWide, Try.underlying48] at hv
  obtain ⟨cs, rfl, hsz, ts, hts, _, h⟩ := hv
  rw [show Try.prog.cellsOf 48 = 8 by kernel_rfl] at hsz
  rw [show Try.prog.cellTypes Try.prog.depth 48 = some [27, 27, 27, 27, 27, 27, 27, 27] by kernel_rfl] at hts
  cases hts
  have hc : ∀ i, i < 8 → ∃ q : Nat, cs[i]? = some (.float .f32 q) := by
    intro i hi
    obtain ⟨u, hu, hok⟩ := h i _ (Array.getElem?_eq_getElem (show i < cs.size by omega))
    have hu' : u = 27 := by have := List.mem_of_getElem? hu; simpa using this
    subst hu'
    obtain ⟨b, hb⟩ := okWide_float (v := cs[i]'(by omega)) Try.underlying27 (by simp only [Value.okWide, Try.underlying27]; exact hok)
    exact ⟨b, by rw [Array.getElem?_eq_getElem (show i < cs.size by omega), hb]⟩
  obtain ⟨f, hf⟩ := Deep.choose_lt hc
  refine ⟨(List.range 8).map f, by simp, ?_⟩
  congr 1
  apply Array.ext_getElem?
  intro i
  rcases Nat.lt_or_ge i 8 with q | q
  · rw [hf i q, fx_get]; simp [q]
  · rw [Array.getElem?_eq_none (by omega), fx_get]; simp [q]
end Go.Proofs.Ytmmhflpeapojgaa
