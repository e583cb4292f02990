/- slices.Insert of one range ahead of the end: where there is no room; the whole contract. -/
import Derived.Test.YthccppldpfddjaaDoorA8
namespace Go.Proofs.YthccppldpfddjaaDoor
open Go.RowKit
set_option linter.unusedVariables false
theorem splice_grow (row : List Value) (l : List Rg) (r : Rg) (i : Nat) (hi : i ≤ l.length) (hs : (l.length + 1) * 2 ≤ row.length) (hc : row.take (i * 2) = pcells (l.take i)) :
    (splice (splice row (i * 2) (pcells [r])) ((i + 1) * 2) (pcells (l.drop i))).take ((l.length + 1) * 2) = pcells (l.take i ++ r :: l.drop i) ∧
    (splice (splice row (i * 2) (pcells [r])) ((i + 1) * 2) (pcells (l.drop i))).length = row.length := by
  have hld : (pcells (l.drop i)).length = (l.length - i) * 2 := by rw [pcells_len, List.length_drop]
  have hlt : (pcells (l.take i)).length = i * 2 := by rw [pcells_len, List.length_take, Nat.min_eq_left hi]
  have hl1 : (splice row (i * 2) (pcells [r])).length = row.length := length_splice _ _ _ (by simp [pcells]; omega)
  refine ⟨?_, by rw [length_splice _ _ _ (by rw [hl1, hld]; omega), hl1]⟩
  have e1 : (splice row (i * 2) (pcells [r])).take ((i + 1) * 2) = pcells (l.take i) ++ pcells [r] := by
    unfold splice
    rw [hc, ← List.append_assoc]
    have h2 : (pcells (l.take i) ++ pcells [r]).length = (i + 1) * 2 := by rw [List.length_append, hlt]; simp [pcells]; omega
    rw [← h2]
    exact List.take_left
  rw [splice, e1]
  have e5 : pcells (l.take i ++ r :: l.drop i) = pcells (l.take i) ++ pcells [r] ++ pcells (l.drop i) := by
    rw [pcells_append, show r :: l.drop i = [r] ++ l.drop i from rfl, pcells_append, List.append_assoc]
  have e6 : (pcells (l.take i) ++ pcells [r] ++ pcells (l.drop i)).length = (l.length + 1) * 2 := by
    rw [List.length_append, List.length_append, hlt, hld]
    simp [pcells]
    omega
  rw [e5, ← e6, ← List.append_assoc]
  exact List.take_left
set_option maxHeartbeats 4000000 in
set_option maxRecDepth 100000 in
theorem insert_grow (B g c : Nat) (l : List Rg) (r : Rg) (i vb : Nat) (cur : Array Value) (w : World) (hg : w.heap[g]? = some (.cells cur 43 (0, 0))) (hcur : cur.toList.take (l.length * 2) = pcells l) (hi : i < l.length) (hnc : l.length ≤ c) (hroom : c < l.length + 1)
    (hB : B ≤ w.heap.size) (hvb : w.heap[vb]? = some (.cells #[.int .i64 r.1, .int .i64 r.2] 43 (0, 0))) (hlen : l.length ≤ 1000) :
    Calls Tryd.prog 111 #[.slice (some ⟨g, 0, none⟩) l.length c, .int .i64 i, .slice (some ⟨vb, 0, none⟩) 1 1] w fun e w' => ∃ v', e = .returned v' ∧ Ls w' 43 v' (l.take i ++ r :: l.drop i) ∧ (∀ g, v'.ownBlock = some g → B ≤ g) ∧ Below B w w' := by
  obtain ⟨i0, hi0, hz0, hz1, hz2⟩ := info_parts info43
  have hgl : g < w.heap.size := (Array.getElem?_eq_some_iff.1 hg).1
  have hvl : vb < w.heap.size := (Array.getElem?_eq_some_iff.1 hvb).1
  have hik : i + (l.length + 1 - i) = l.length + 1 := by omega
  have hkk : (l.length : Int) + 1 - (i : Int) = ((l.length + 1 - i : Nat) : Int) := by omega
  have hti : (pcells (l.take i)).length = i * 2 := by rw [pcells_len, List.length_take, Nat.min_eq_left (by omega)]
  have hrd : ∀ j u, (pcells l)[j]? = some u → w.cell? ⟨g, j, none⟩ = some u := by
    intro j u hj
    rw [cell_of_row _ _ _ _ _ _ hg]
    rw [← hcur, List.getElem?_take] at hj
    split at hj
    · simpa using hj
    · cases hj
  have hold : (Builtin.firstCells i0.size i (.slice (some ⟨g, 0, none⟩) i c)).run Tryd.prog w.drew = .ok (pcells (l.take i)).toArray w.drew := by
    rw [hz1]
    refine run_firstCells_some w.drew 2 i ⟨g, 0, none⟩ i c (pcells (l.take i)) (by rw [hti]) (fun j v hj => ?_)
    rw [add_at, Nat.zero_add]
    rw [pcells_take, List.getElem?_take] at hj
    split at hj
    · exact hrd j v hj
    · cases hj
  obtain ⟨G, hG⟩ : ∃ G, G = grownCap w (l.length + 1) c 43 := ⟨_, rfl⟩
  obtain ⟨ROW, hROW⟩ : ∃ ROW : Array Value, ROW = (pcells (l.take i)).toArray ++ Builtin.zeroCells (Value.agg #[.int .i64 0, .int .i64 0]).cells (l.length + 1 - i) ++ Builtin.zeroCells (Value.agg #[.int .i64 0, .int .i64 0]).cells (G - (l.length + 1)) := ⟨_, rfl⟩
  have hrz := fun ty => Lib.run_append_grow_zeros (P := Tryd.prog) w 36 3 ty 43 i0 _ .i64 .i64 Tryd.underlying36 Tryd.underlying3 hi0 hz0 (some ⟨g, 0, none⟩) i c (pcells (l.take i)) hold (l.length + 1 - i) (by omega) (by omega) (by omega) (by omega) (by rw [hz2]; omega) (by rw [hz2, hik]; exact growslice_fits hroom (by omega))
  rw [hik, ← hkk, ← hG, ← hROW] at hrz
  have hGn : l.length + 1 ≤ G := by rw [hG]; exact grownCap_ge w _ _ _
  have hG63 : (G : Int) ≤ 9223372036854775807 := by
    have := grownCap_le_maxLen w (l.length + 1) c 43 (by unfold maxLen; omega)
    rw [← hG] at this
    unfold maxLen at this
    omega
  have hRs : ROW.size = G * 2 := by
    rw [hROW]
    simp only [Array.size_append, List.size_toArray, size_zeroCells, hti, Value.cells]
    simp
    omega
  have hRt : ROW.toList.take (i * 2) = pcells (l.take i) := by
    rw [hROW]
    simp only [Array.toList_append, List.append_assoc]
    rw [← hti]
    exact List.take_left
  obtain ⟨W1, hW1⟩ : ∃ W1, W1 = w.drew.alloc (.cells ROW 43) := ⟨_, rfl⟩
  rw [← hW1] at hrz
  have hb1 : Below w.heap.size w W1 := by rw [hW1]; exact ((Below.refl _ w).drew).alloc (Nat.le_refl _) _
  have hg1 : W1.heap[w.heap.size]? = some (.cells ROW 43 (0, 0)) := by rw [hW1]; exact heap_alloc_new w.drew _
  have hs1 : W1.heap.size = w.heap.size + 1 := by rw [hW1]; simp
  have hv1 : ∀ j v, (pcells [r])[j]? = some v → W1.cell? ((⟨vb, 0, none⟩ : Addr).add j) = some v := by
    intro j v hj
    rw [add_at, cell_of_row _ _ _ _ _ _ ((hb1.block _ hvl).trans hvb)]
    simpa [pcells] using hj
  have hm1 : (pcells [r]).length = Nat.min 1 (l.length + 1 - i) * 2 := by
    simp only [pcells, List.flatMap_cons, List.flatMap_nil, List.append_nil, List.length_cons, List.length_nil, Nat.min_def]
    split <;> omega
  have hcp1 := fun ty => run_copy_row_k (P := Tryd.prog) W1 36 36 ty 43 w.heap.size (i * 2) (l.length + 1 - i) (G - i) ⟨vb, 0, none⟩ 1 1 ROW 43 (pcells [r]) 2 Tryd.underlying36 size43 hg1 hm1 hv1 (by rw [show (pcells [r]).length = 2 from rfl, hRs]; omega) (pcells_one _)
  obtain ⟨W2, hW2⟩ : ∃ W2, W2 = W1.setRow w.heap.size (splice ROW.toList (i * 2) (pcells [r])).toArray := ⟨_, rfl⟩
  rw [show ROW.toList.take (i * 2) ++ pcells [r] ++ ROW.toList.drop (i * 2 + (pcells [r]).length) = splice ROW.toList (i * 2) (pcells [r]) by simp [splice], ← hW2] at hcp1
  have hb2 : Below w.heap.size w W2 := by rw [hW2]; exact below_setRow hb1 (Nat.le_refl _) _
  have hg2 : W2.drew.heap[w.heap.size]? = some (.cells (splice ROW.toList (i * 2) (pcells [r])).toArray 43 (0, 0)) := by rw [hW2]; exact setRow_heap W1 _ _ _ 43 _ hg1
  have hn2 : (pcells (l.drop i)).length = Nat.min (l.length - i) (l.length - i) * 2 := by rw [pcells_len, List.length_drop]; simp only [Nat.min_def]; split <;> rfl
  have hr2 : ∀ j v, (pcells (l.drop i))[j]? = some v → W2.drew.cell? ((⟨g, i * 2, none⟩ : Addr).add j) = some v := by
    intro j v hj
    rw [add_at]
    rw [pcells_drop, List.getElem?_drop] at hj
    exact (hb2.cell (p := ⟨g, i * 2 + j, none⟩) hgl).trans (hrd _ _ hj)
  have hl2 : (splice ROW.toList (i * 2) (pcells [r])).length = G * 2 := by
    rw [length_splice _ _ _ (by rw [show (pcells [r]).length = 2 from rfl]; simp [hRs]; omega)]
    simpa using hRs
  have hf2 : (i + 1) * 2 + (pcells (l.drop i)).length ≤ (splice ROW.toList (i * 2) (pcells [r])).toArray.size := by
    rw [List.size_toArray, hl2, pcells_len, List.length_drop]
    omega
  have hsp := splice_grow ROW.toList l r i (by omega) (by simp [hRs]; omega) hRt
  have HF := Lib.hid (And.intro hg2 (And.intro hn2 (And.intro hr2 (And.intro hf2 (And.intro hsp (And.intro hb2 (And.intro hRs hGn)))))))
  have g0 : ¬ ((i : Int) = (l.length : Int)) := by omega
  have g1 : (c : Int) < (l.length : Int) + 1 := by omega
  have g3 : (i : Int) ≤ (l.length : Int) := by omega
  have g4 : (i : Int) + 1 ≤ (l.length : Int) + 1 := by omega
  have g5 : ¬ c = i := by omega
  have g6 : ¬ G = i + 1 := by omega
  have g7 : ¬ G = i := by omega
  have g8 : ((i : Int) + 1).toNat = i + 1 := by omega
  have g9 : IntKind.i64.wrap ((i : Int) + 1) = (i : Int) + 1 := by rw [IntKind.wrap_i64]; omega
  have g10 : (0 : Int) ≤ (i : Int) + 1 := by omega
  have g11 : (i : Int) ≤ (l.length : Int) + 1 := by omega
  have g12 : (i : Int) ≤ (c : Int) := by omega
  have hc1000 : (c : Int) ≤ 1001 := by omega
  clear hg2 hn2 hr2 hf2 hsp hb2 hRs hGn hl2 hW2 hv1 hm1 hs1 hg1 hb1 hW1 hRt hROW hG hold hrd hti hkk hik hvl hgl hcur hg hi0 hz0 hz1 hz2 hroom hnc hi
  have HB := Lib.hid (And.intro hB hvb)
  clear hB hvb
  go_enter Tryd.func111, Tryd.ntmps111
  go_wp2_with (at_builtin; refine Lib.wpList_append_run _ rfl _ _ _ _ rfl _ _ rfl rfl _ _ (hrz _) ?_)
  clear hrz hcp1
  go_region_law (refine step_copy_k rfl (.tmp 50) (.tmp 53) 36 36 rfl 43 2 Tryd.underlying36 size43 (l.length - i) (G - (i + 1)) (l.length - i) (c - i) w.heap.size ((i + 1) * 2) ⟨g, i * 2, none⟩ (by simp [Act.eval, Act.put]) (by simp [Act.eval, Act.put]) _ 43 HF.out.1 (pcells (l.drop i)) HF.out.2.1 HF.out.2.2.1 HF.out.2.2.2.1 (pcells_one _) ?_; intro w3 hw3; have HW3 := Lib.hid hw3; clear hw3)
  go_wp2
  go_ret
  have hg3 : w3.heap[w.heap.size]? = some (.cells (splice (splice ROW.toList (i * 2) (pcells [r])) ((i + 1) * 2) (pcells (l.drop i))).toArray 43 (0, 0)) := by
    rw [HW3.out]
    have := setRow_heap W2.drew w.heap.size _ (splice (splice ROW.toList (i * 2) (pcells [r])) ((i + 1) * 2) (pcells (l.drop i))).toArray 43 _ HF.out.1
    simpa using this
  have hlen2 : (l.take i ++ r :: l.drop i).length = l.length + 1 := by simp; omega
  refine ⟨.slice (some ⟨w.heap.size, 0, none⟩) (l.length + 1) G, rfl, ⟨pcells_len _, .inr ⟨w.heap.size, G, _, by rw [hlen2], hg3, by rw [hlen2]; exact HF.out.2.2.2.2.2.2.2, by unfold maxLen; omega, ?_, ?_⟩⟩, ?_, ?_⟩
  · have h1 := HF.out.2.2.2.2.1.2
    have h2 := HF.out.2.2.2.2.2.2.1
    simp only [List.size_toArray, h1, Array.length_toList]
    omega
  · rw [hlen2]
    simpa using HF.out.2.2.2.2.1.1
  · intro g' hg'
    simp only [Value.ownBlock, Option.some.injEq] at hg'
    have := HB.out.1
    omega
  · rw [HW3.out]
    have h3 := HF.out.2.2.2.2.2.1
    exact (below_setRow h3.drew (Nat.le_refl _) _).mono HB.out.1
theorem insert_calls (B : Nat) (v : Value) (l : List Rg) (r : Rg) (i vb : Nat) (w : World) (hl : Ls w 43 v l) (hi : i ≤ l.length) (hown : ∀ g, v.ownBlock = some g → B ≤ g) (hB : B ≤ w.heap.size)
    (hvb : w.heap[vb]? = some (.cells #[.int .i64 r.1, .int .i64 r.2] 43 (0, 0))) (hne : v.ownBlock ≠ some vb) (hlen : l.length ≤ 1000) :
    Calls Tryd.prog 111 #[v, .int .i64 i, .slice (some ⟨vb, 0, none⟩) 1 1] w fun e w' => ∃ v', e = .returned v' ∧ Ls w' 43 v' (l.take i ++ r :: l.drop i) ∧ (∀ g, v'.ownBlock = some g → B ≤ g) ∧ Below B w w' := by
  by_cases he : i = l.length
  · subst he
    rw [List.take_length, List.drop_length]
    exact insert_end B v l r vb w hl hown hB hvb hlen
  · rcases hl.2 with ⟨-, h0⟩ | ⟨g, c, cur, rfl, hg, h1, h2, h3, h4⟩
    · omega
    · by_cases hr : l.length + 1 ≤ c
      · exact insert_room B g c l r i vb cur w hg h4 h3 h2 (by omega) hr (hown g rfl) hvb (fun e => hne (by rw [e]; rfl)) hlen
      · exact insert_grow B g c l r i vb cur w hg h4 (by omega) h1 (by omega) hB hvb hlen
end Go.Proofs.YthccppldpfddjaaDoor
