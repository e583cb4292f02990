import Derived.Test.YtbojagkalbfenaaY4
import Derived.Test.YtbojagkalbfenaaBridge
namespace Go.Proofs.Ytbojagkalbfenaa
open Go.RowKit
attribute [local go_sem] Oper.semAt_some ints_get ints_size ints_getElem

def piece (ds : List Value) (x : Int × Int) : List Value := (ds.drop x.1.toNat).take x.2.toNat
def gatherL (ds : List Value) (xs : List (Int × Int)) : List Value := xs.flatMap (piece ds)
theorem gatherL_snoc (ds : List Value) (pre : List (Int × Int)) (x : Int × Int) : gatherL ds (pre ++ [x]) = gatherL ds pre ++ piece ds x := by simp [gatherL]
theorem piece_length {ds : List Value} {x : Int × Int} (h0 : 0 ≤ x.1) (h1 : 0 ≤ x.2) (h : x.1 + x.2 ≤ ds.length) : (piece ds x).length = x.2.toNat := by
  simp only [piece, List.length_take, List.length_drop]; omega
theorem gatherL_bound {ds : List Value} : ∀ {xs : List (Int × Int)}, (∀ x ∈ xs, x.2 ≤ 4096) → (gatherL ds xs).length ≤ 4096 * xs.length
  | [], _ => by simp [gatherL]
  | x :: xs, h => by
    have h1 := gatherL_bound (ds := ds) (xs := xs) (fun y hy => h y (List.mem_cons_of_mem _ hy))
    have h2 := h x List.mem_cons_self
    have h3 : (piece ds x).length ≤ x.2.toNat := by simp only [piece, List.length_take]; omega
    simp only [gatherL, List.flatMap_cons, List.length_append, List.length_cons] at h1 ⊢
    omega
theorem slicedL_length : ∀ (l : List (Int × Int)) (off m : Int), (slicedL l off m).length ≤ l.length
  | [], _, _ => by simp [slicedL]
  | p :: r, off, m => by
    simp only [slicedL]
    have h1 := slicedL_length r (off - p.2) m
    have h2 := slicedL_length r 0 (m - min (p.2 - off) m)
    split
    · simp
    · split <;> simp only [List.length_cons] <;> omega

/-- What is behind 'out = append(out, ..)' with the row laid above the variable's box. -/
theorem out_appended {W w1 : World} {s B : Nat} {t e : TypeId} {size : Nat} {v v' : Value} {k m : Nat} {xs ys : List Value} (hv : Boxed W B t v) (hte : t ≠ e) (hrow : W.ownsRow s e size v k xs) (hB : B < s) (hs : s ≤ W.heap.size)
    (hown' : w1.ownsRow s e size v' m ys) (hgrow : W.grownBy w1 v.ownBlock) :
    Boxed w1 B t v ∧ Boxed (w1.setCell ⟨B, 0, none⟩ v') B t v' ∧ (w1.setCell ⟨B, 0, none⟩ v').ownsRow s e size v' m ys ∧ Below B W (w1.setCell ⟨B, 0, none⟩ v') ∧ (∀ j, j < s → j ≠ B → (w1.setCell ⟨B, 0, none⟩ v').heap[j]? = W.heap[j]?) ∧ KeepsOthers W (w1.setCell ⟨B, 0, none⟩ v') := by
  have hv1 : Boxed w1 B t v := hv.kept hgrow (hv.not_row hte hrow)
  have hg : ∀ j, v.ownBlock = some j → s ≤ j := by
    intro j ej
    rcases hrow.2 with ⟨rfl, _⟩ | ⟨g, cap, cur, rfl, hb, _, _⟩
    · simp [Value.ownBlock] at ej
    · obtain rfl : g = j := by simpa [Value.ownBlock] using ej
      exact hb
  refine ⟨hv1, hv1.set v', hown'.kept (grownBy_setCell' w1 B v') (.inr (hv1.not_row hte hown').symm), ?_, ?_, ?_⟩
  · exact ((Below.refl B W).grown hgrow (by omega) (fun j ej => by have := hg j ej; omega)).setCell (p := ⟨B, 0, none⟩) (Nat.le_refl _) v'
  · intro j hj hjB
    rw [Below.heap_setCell _ _ _ _ hjB]
    exact hgrow.block j (by omega) (fun e' => by have := hg j e'.symm; omega)
  · refine (KeepsOthers.of_grownBy hgrow fun j o ej hj => ?_).trans (KeepsOthers.setCell _ _ _)
    rcases hrow.2 with ⟨rfl, _⟩ | ⟨g, cap, cur, rfl, _, hgb, _⟩
    · simp [Value.ownBlock] at ej
    · obtain rfl : g = j := by simpa [Value.ownBlock] using ej
      rw [hgb] at hj; cases hj; rfl
end Go.Proofs.Ytbojagkalbfenaa
