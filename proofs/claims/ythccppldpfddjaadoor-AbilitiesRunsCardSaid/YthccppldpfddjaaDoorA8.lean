/- slices.Insert of one range ahead of the end: where there is room. -/
import Derived.Test.YthccppldpfddjaaDoorA7
namespace Go.Proofs.YthccppldpfddjaaDoor
open Go.RowKit
set_option linter.unusedVariables false
theorem shape_row {w : World} {g : Nat} {cs : Array Value} {t : TypeId} {fr : Nat × Nat} (h : w.heap[g]? = some (.cells cs t fr)) : w.shape? g = some (t, cs.size) := by
  simp [World.shape?, h]
theorem overlaps_no (w : World) (vb g off lb cb : Nat) (a b : Value) (cur : Array Value) (hvb : w.heap[vb]? = some (.cells #[a, b] 43 (0, 0))) (hg : w.heap[g]? = some (.cells cur 43 (0, 0))) (hne : vb ≠ g) (hc : cur.size ≠ 0) :
    (callFunc 115 #[.slice (some ⟨vb, 0, none⟩) 1 1, .slice (some ⟨g, off, none⟩) lb cb]).run Tryd.prog w = .ok (.value (.bool false)) w := by
  rw [run_callFunc_extern Tryd.func115 (by kernel_rfl) (by kernel_rfl) (by kernel_rfl) (e := Extern.SlicesOverlaps.overlaps #[36, 36] #[4]) (by kernel_rfl),
    Lib.run_overlaps_apart w 36 4 43 Tryd.underlying36 2 Tryd.sizeOf43 ⟨vb, 0, none⟩ ⟨g, off, none⟩ 1 1 lb cb hne 43 43 2 cur.size (shape_row hvb) (shape_row hg) hc (frozen_of_row w vb 0 _ _ hvb) (frozen_of_row w vb 2 _ _ hvb)]
  rfl
set_option maxHeartbeats 4000000 in
set_option maxRecDepth 100000 in
theorem insert_room (B g c : Nat) (l : List Rg) (r : Rg) (i vb : Nat) (cur : Array Value) (w : World) (hg : w.heap[g]? = some (.cells cur 43 (0, 0))) (hcur : cur.toList.take (l.length * 2) = pcells l) (hcs : c * 2 ≤ cur.size) (hcm : c ≤ maxLen) (hi : i < l.length) (hroom : l.length + 1 ≤ c)
    (hB : B ≤ g) (hvb : w.heap[vb]? = some (.cells #[.int .i64 r.1, .int .i64 r.2] 43 (0, 0))) (hne : vb ≠ g) (hlen : l.length ≤ 1000) :
    Calls Tryd.prog 111 #[.slice (some ⟨g, 0, none⟩) l.length c, .int .i64 i, .slice (some ⟨vb, 0, none⟩) 1 1] w fun e w' => ∃ v', e = .returned v' ∧ Ls w' 43 v' (l.take i ++ r :: l.drop i) ∧ (∀ g, v'.ownBlock = some g → B ≤ g) ∧ Below B w w' := by
  have hov := fun off lb cb => overlaps_no w vb g off lb cb _ _ cur hvb hg hne (by omega)
  have g0 : ¬ ((i : Int) = (l.length : Int)) := by omega
  have g1 : ¬ ((c : Int) < (l.length : Int) + 1) := by omega
  have g2 : (l.length : Int) + 1 ≤ (c : Int) := by omega
  have g3 : (i : Int) ≤ (l.length : Int) := by omega
  have g4 : (i : Int) + 1 ≤ (l.length : Int) + 1 := by omega
  have g5 : ¬ c = i := by omega
  have g6 : ¬ c = i + 1 := by omega
  have g7 : (c : Int) ≤ 9223372036854775807 := by unfold maxLen at hcm; omega
  have g8 : ((i : Int) + 1).toNat = i + 1 := by omega
  have g9 : IntKind.i64.wrap ((i : Int) + 1) = (i : Int) + 1 := by rw [IntKind.wrap_i64]; omega
  have g10 : (0 : Int) ≤ (i : Int) + 1 := by omega
  have g11 : (i : Int) ≤ (l.length : Int) + 1 := by omega
  have HH := Lib.hid (And.intro hg (And.intro hcur (And.intro hcs (And.intro hi (And.intro hroom (And.intro hB (And.intro hvb hne)))))))
  have hn1 : (pcells (l.drop i)).length = Nat.min (l.length + 1 - i) (l.length - i) * 2 := by
    rw [pcells_len, List.length_drop]
    simp only [Nat.min_def]
    split <;> omega
  have hn2 : ∀ j v, (pcells (l.drop i))[j]? = some v → w.drew.cell? ((⟨g, i * 2, none⟩ : Addr).add j) = some v := by
    intro j v hj
    rw [add_at, cell_of_row _ _ _ _ _ _ (show w.drew.heap[g]? = _ from hg)]
    rw [pcells_drop, ← hcur, List.getElem?_drop, List.getElem?_take] at hj
    split at hj
    · simpa using hj
    · cases hj
  have hn3 : (i + 1) * 2 + (pcells (l.drop i)).length ≤ cur.size := by rw [pcells_len, List.length_drop]; omega
  have HF := Lib.hid (And.intro hn1 (And.intro hn2 hn3))
  clear hg hcur hcs hi hroom hB hvb hne hcm hn1 hn2 hn3
  go_enter Tryd.func111, Tryd.ntmps111
  go_wp2_with (simp only [hov])
  go_region_law (refine step_copy_k rfl (.tmp 73) (.tmp 76) 36 36 rfl 43 2 Tryd.underlying36 size43 (l.length - i) (c - (i + 1)) (l.length + 1 - i) (c - i) g ((i + 1) * 2) ⟨g, i * 2, none⟩ (by simp [Act.eval, Act.put]) (by simp [Act.eval, Act.put]) cur 43 HH.out.1 (pcells (l.drop i)) HF.out.1 HF.out.2.1 HF.out.2.2 (pcells_one _) ?_; intro w2 hw2; have HW2 := Lib.hid hw2; clear hw2)
  have hg2 : w2.heap[g]? = some (.cells (splice cur.toList ((i + 1) * 2) (pcells (l.drop i))).toArray 43 (0, 0)) := by
    rw [HW2.out]
    exact setRow_heap w.drew g cur _ 43 _ HH.out.1
  have hsp := splice_two cur.toList l r i (by have := HH.out.2.2.2.1; omega) (by have := HH.out.2.2.1; have := HH.out.2.2.2.2.1; simp; omega) HH.out.2.1
  have hv2 : ∀ j v, (pcells [r])[j]? = some v → w2.cell? ((⟨vb, 0, none⟩ : Addr).add j) = some v := by
    intro j v hj
    have h7 : w2.heap[vb]? = some (.cells #[.int .i64 r.1, .int .i64 r.2] 43 (0, 0)) := by
      rw [HW2.out, setRow_other _ _ _ _ HH.out.2.2.2.2.2.2.2]
      exact HH.out.2.2.2.2.2.2.1
    rw [add_at, cell_of_row _ _ _ _ _ _ h7]
    simpa [pcells] using hj
  have hm2 : (pcells [r]).length = Nat.min 1 (l.length + 1 - i) * 2 := by
    have := HH.out.2.2.2.1
    simp only [pcells, List.flatMap_cons, List.flatMap_nil, List.append_nil, List.length_cons, List.length_nil, Nat.min_def]
    split <;> omega
  have hf2 : i * 2 + (pcells [r]).length ≤ (splice cur.toList ((i + 1) * 2) (pcells (l.drop i))).toArray.size := by
    have h1 : (splice cur.toList ((i + 1) * 2) (pcells (l.drop i))).length = cur.toList.length := length_splice _ _ _ (by rw [pcells_len, List.length_drop]; have := HH.out.2.2.1; have := HH.out.2.2.2; simp; omega)
    have := HH.out.2.2.1
    have := HH.out.2.2.2
    rw [show (pcells [r]).length = 2 from rfl, List.size_toArray, h1, Array.length_toList]
    omega
  have hcp2 := fun ty => run_copy_row_k (P := Tryd.prog) w2 36 36 ty 43 g (i * 2) (l.length + 1 - i) (c - i) ⟨vb, 0, none⟩ 1 1 _ 43 (pcells [r]) 2 Tryd.underlying36 size43 hg2 hm2 hv2 hf2 (pcells_one _)
  obtain ⟨w3, hw3⟩ : ∃ w3, w3 = w2.setRow g (splice (splice cur.toList ((i + 1) * 2) (pcells (l.drop i))) (i * 2) (pcells [r])).toArray := ⟨_, rfl⟩
  rw [show (splice cur.toList ((i + 1) * 2) (pcells (l.drop i))).toArray.toList.take (i * 2) ++ pcells [r] ++ (splice cur.toList ((i + 1) * 2) (pcells (l.drop i))).toArray.toList.drop (i * 2 + (pcells [r]).length) = splice (splice cur.toList ((i + 1) * 2) (pcells (l.drop i))) (i * 2) (pcells [r]) by simp [splice], ← hw3] at hcp2
  have HF2 := Lib.hid (And.intro hg2 (And.intro hv2 (And.intro hm2 (And.intro hf2 hsp))))
  have HW3 := Lib.hid hw3
  clear hg2 hv2 hm2 hf2 hsp hov HF hw3
  go_wp2
  go_ret
  have hg3 : w3.heap[g]? = some (.cells (splice (splice cur.toList ((i + 1) * 2) (pcells (l.drop i))) (i * 2) (pcells [r])).toArray 43 (0, 0)) := by
    rw [HW3.out]
    have := setRow_heap w2 g _ (splice (splice cur.toList ((i + 1) * 2) (pcells (l.drop i))) (i * 2) (pcells [r])).toArray 43 _ HF2.out.1
    simpa using this
  have hlen2 : (l.take i ++ r :: l.drop i).length = l.length + 1 := by
    have := HH.out.2.2.2.1
    simp; omega
  refine ⟨.slice (some ⟨g, 0, none⟩) (l.length + 1) c, rfl, ⟨pcells_len _, .inr ⟨g, c, _, by rw [hlen2], hg3, by rw [hlen2]; exact HH.out.2.2.2.2.1, by unfold maxLen; omega, ?_, ?_⟩⟩, ?_, ?_⟩
  · have h1 := HF2.out.2.2.2.2.2
    have h2 := HH.out.2.2.1
    simp only [List.size_toArray, h1, Array.length_toList]
    exact h2
  · rw [hlen2]
    simpa using HF2.out.2.2.2.2.1
  · intro g' hg'
    simp only [Value.ownBlock, Option.some.injEq] at hg'
    have := HH.out.2.2.2.2.2.1
    omega
  · rw [HW3.out, HW2.out]
    have hB := HH.out.2.2.2.2.2.1
    exact below_setRow (below_setRow ((Below.refl B w).drew) hB _) hB _
end Go.Proofs.YthccppldpfddjaaDoor
