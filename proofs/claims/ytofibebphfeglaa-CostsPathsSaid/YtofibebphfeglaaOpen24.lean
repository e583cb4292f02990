/- How the cost tables of this program are read when they come in as arguments: two integers and an array of 24 integers, of any values. -/
import Derived.Test.YtofibebphfeglaaProg
import Derived.Test.YtofibebphfeglaaOpen
namespace Go.Proofs.Ytofibebphfeglaa
open Go.RowKit Go.ChangeShapes Go.WideShapes Go.Deep
theorem open24 {H : Type} {enc : TypeId × Value → H} {w : World} {base : Nat} {spare : Nat → Bool} {held : Bool} {r : Reach} {b0 : Nat} {v : Value} {d : DataW H} {p : List MemPlace}
    (hv : Value.okWide Try.prog w r b0 24 v) (h : DataW.Trod enc Try.prog w base spare held 24 v d p) : ∃ (s c : Int) (l : List Int), v = .agg (ints (s :: c :: l)) ∧ l.length = 24 :=
  open_tab Try.underlying24 ⟨rfl, rfl, rfl⟩ Try.underlying2 Try.underlying2 Try.underlying22 Try.underlying2 (by kernel_rfl) (by kernel_rfl) (by kernel_rfl) (by kernel_rfl) (by kernel_rfl) hv h
theorem open45 {H : Type} {enc : TypeId × Value → H} {w : World} {base : Nat} {spare : Nat → Bool} {held : Bool} {r : Reach} {b0 : Nat} {ts : List TypeId} {ds : List (DataW H)} {j t : Nat} {v : Value} {d : DataW H} {p : List MemPlace}
    (htt : t = 45) (ht : ts[j]? = some t) (hd : ds[j]? = some d) (hsz : (DataW.weightsEach Try.prog ts ds).all (· ≤ reachBytes) = true)
    (hv : Value.okWide Try.prog w r b0 45 v) (h : DataW.Trod enc Try.prog w base spare held 45 v d p) :
    ∃ (A : Option Addr) (cap : Nat) (cs : List (Int × Int)), v = .slice A cs.length cap ∧ (∀ i, i < cs.length → ∃ ad, A = some ad ∧ w.cell? (ad.add (i * 2)) = some (.int .i64 (cs.getD i (0, 0)).1) ∧ w.cell? ⟨(ad.add (i * 2)).block, (ad.add (i * 2)).off + 1, none⟩ = some (.int .i64 (cs.getD i (0, 0)).2)) ∧ cs.length * 16 ≤ 140737488351232 := by
  subst htt
  obtain ⟨A, len, cap, rfl, _, _, hz, _, hi⟩ := open_rows (m := 2) (B := 16) Try.underlying45 (by kernel_rfl) (by kernel_rfl) ht hd hsz hv h
  have hc : ∀ i, i < len → ∃ q : Int × Int, ∃ ad, A = some ad ∧ w.cell? (ad.add (i * 2)) = some (.int .i64 q.1) ∧ w.cell? ⟨(ad.add (i * 2)).block, (ad.add (i * 2)).off + 1, none⟩ = some (.int .i64 q.2) := by
    intro i hil
    obtain ⟨ad, cs, fuel, y, rfl, hl, hcell, hy⟩ := hi i hil
    obtain ⟨y0, y1, m, _, _, g0, g1⟩ := trod_struct2 Try.underlying48 hy
    obtain ⟨a, ea, _⟩ := DataW.trod_int Try.underlying3 g0
    obtain ⟨b, eb, _⟩ := DataW.trod_int Try.underlying3 g1
    rw [show Try.prog.cellsOf 3 = 1 by kernel_rfl] at ea eb
    match cs, hl with
    | [c0, c1], _ =>
      simp at ea eb
      subst ea eb
      have h0 := hcell 0 (by omega)
      have h1 := hcell 1 (by omega)
      refine ⟨(a, b), ad, rfl, by simpa using h0, ?_⟩
      rw [← Deep.add_add] at h1
      have e2 : (ad.add (i * 2)).add 1 = ⟨(ad.add (i * 2)).block, (ad.add (i * 2)).off + 1, none⟩ := by unfold Addr.add; simp
      rw [e2] at h1
      simpa using h1
  obtain ⟨f, hf⟩ := Deep.choose_lt hc
  refine ⟨A, cap, (List.range len).map f, by simp, ?_, by simpa using hz⟩
  intro i hil
  simp only [List.length_map, List.length_range] at hil
  have := hf i hil
  simpa [List.getD_eq_getElem?_getD, hil] using this
end Go.Proofs.Ytofibebphfeglaa
