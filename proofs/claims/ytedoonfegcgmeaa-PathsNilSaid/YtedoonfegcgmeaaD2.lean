/- awake. -/
import Derived.Test.YtedoonfegcgmeaaD1
import Derived.Test.YtedoonfegcgmeaaE2
namespace Go.Proofs.Ytedoonfegcgmeaa
open Go.RowKit
set_option linter.unusedVariables false
def dev : Bs := [47, 100, 101, 118]
def dev2 : Bs := [47, 100, 101, 118, 47]
def xy : Bs := [120, 47, 121]
def dxy : Bs := [47, 100, 101, 118, 47, 120, 47, 121]
theorem cand1 {w : World} {n0 : Nat} {v : Value} (h : w.ownsRow n0 51 2 v 1 (candV [(3, xy)])) : ∃ g c, v = .slice (some ⟨g, 0, none⟩) 1 c ∧ g < w.heap.size ∧ w.cell? ⟨g, 0, none⟩ = some (.int .i64 3) ∧ w.cell? ⟨g, 1, none⟩ = some (.string ⟨xy.toArray⟩) := by
  obtain ⟨g, c, rfl⟩ := ownsRow_succ h
  have h1 := fun k u hk => h.cells (g := g) rfl k u hk
  refine ⟨g, c, rfl, ?_, ?_, ?_⟩
  · rcases h.2 with ⟨h0, _⟩ | ⟨g', cap', cur, hv, _, hh, _⟩
    · cases h0
    · cases hv; exact (Array.getElem?_eq_some_iff.1 hh).1
  · simpa [Addr.add, candV] using h1 0 _ rfl
  · simpa [Addr.add, candV] using h1 1 _ rfl
theorem j1 : joinS dev xy = (dxy, 0) := by decide
theorem l1 : outL dev dxy 3 (bwd (pfx dxy) (pfx dxy).length) = [(3, xy)] := by decide
theorem c1 : cleanS dev2 = (dev, 0) := by decide
theorem c2 : cleanS [47, 97, 47, 46, 47, 98, 47, 47, 99, 47, 46, 46] = ([47, 97, 47, 98], 0) := by decide
set_option maxHeartbeats 2000000 in
set_option maxRecDepth 100000 in
theorem awake_calls : Awake := by
  intro w
  have HC2 := Lib.hid (fun W => cleanP_calls [47, 97, 47, 46, 47, 98, 47, 47, 99, 47, 46, 46] W)
  rw [c2] at HC2
  unfold str at HC2
  simp only at HC2
  have HAT := Lib.hid (fun (W : World) (tb gb lb : Nat) h1 h2 => attach_first tb gb lb dev2 dev 1 3 W (by decide) (by decide) (by decide) c1 (by decide) h1 h2)
  unfold str dev2 at HAT
  have HRS := Lib.hid (fun (W : World) (base tb : Nat) (gg cap gb lb ib cap2 : Nat) h hm => resolve_one base tb dev dev xy dxy 1 3 gg cap gb lb ib cap2 1 W h hm j1 (by decide) (by decide) (by decide) _ l1 rfl)
  unfold str at HRS
  go_enter Try.func6, Try.ntmps6
  go_wp2_with (first
    | (go_at_call 7; refine (HC2.out _).mono ?_; rintro e w1 ⟨rfl, hb⟩; have HB1 := Lib.hid hb; clear hb)
    | (go_at_call 21; refine (new_calls _).mono ?_; rintro e w2 ⟨rfl, h1, h2, h3, hb, hs⟩; have HB2 := Lib.hid (And.intro h1 (And.intro h2 (And.intro h3 (And.intro hb hs)))); clear h1 h2 h3 hb hs)
    | (go_at_call 13; refine (HAT.out _ (w1.heap.size + 2) w1.heap.size (w1.heap.size + 1) HB2.out.1 HB2.out.2.1).mono ?_; rintro e w3 ⟨rfl, gg, cap, ib, cap2, h1, h2, h3, h4, h5⟩; have HB3 := Lib.hid (And.intro h1 (And.intro h2 (And.intro h3 (And.intro h4 h5)))); clear h1 h2 h3 h4 h5)
    | (go_at_call 15; refine (HRS.out w3 w2.heap.size (w1.heap.size + 2) gg cap w1.heap.size (w1.heap.size + 1) ib cap2 ⟨HB3.out.1, HB3.out.2.1, HB3.out.2.2.1, HB3.out.2.2.2.1⟩ (mapV_empty ((HB3.out.2.2.2.2.block _ (by have := HB2.out.2.2.2.2; omega) (by rintro (h | h) <;> omega)).trans HB2.out.2.2.1))).mono ?_; rintro e w4 ⟨v, n0, rfl, h1, h2, h3⟩; obtain ⟨g, c, rfl, hg, k0, k1⟩ := cand1 h2; have HB4 := Lib.hid (And.intro h1 (And.intro h2 (And.intro h3 hg))); clear h1 h2 h3 hg; unfold xy at k1)
    | (go_at_call 22; refine (equal_one g w4.heap.size c 1 3 xy _ ((World.cell?_alloc_lt _ _ _ HB4.out.2.2.2).trans k0) ((World.cell?_alloc_lt _ _ _ HB4.out.2.2.2).trans k1) ((cell_of_row _ _ _ _ _ _ (World.alloc_heap_new w4 _)).trans rfl) ((cell_of_row _ _ _ _ _ _ (World.alloc_heap_new w4 _)).trans rfl)).mono ?_; rintro e w5 ⟨rfl, hb⟩; have HB5 := Lib.hid hb; clear hb))
  go_ret
  refine ⟨rfl, ?_⟩
  have b3 : Below w.heap.size w w3 := by
    have h5 := HB3.out.2.2.2.2
    have h2 := HB2.out
    have h1 := HB1.out
    have b2 := h1.trans (h2.2.2.2.1.mono h1.size)
    exact b2.trans ⟨h5.os, h5.tape, h5.output, h5.size, fun k hk => h5.block k (by have := h1.size; omega) (by have := h1.size; rintro (h | h) <;> omega)⟩
  exact ((b3.trans (HB4.out.2.2.1.mono b3.size)).alloc (Nat.le_trans b3.size HB4.out.2.2.1.size) _).trans (HB5.out.mono (by have := b3.size; have := HB4.out.2.2.1.size; simp; omega))
end Go.Proofs.Ytedoonfegcgmeaa
