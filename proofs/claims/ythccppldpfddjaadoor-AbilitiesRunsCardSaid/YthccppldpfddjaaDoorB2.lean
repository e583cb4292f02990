/- Arrays of rights in a block. -/
import Derived.Test.YthccppldpfddjaaDoorB1
namespace Go.Proofs.YthccppldpfddjaaDoor
open Go.RowKit
set_option linter.unusedVariables false
def rcell (lv : Nat → Value) (S : Nat → Rt) (j : Nat) : Value := if j % 3 = 0 then lv (j / 3) else if j % 3 = 1 then .bool (S (j / 3)).lk else .bool (S (j / 3)).inh
/-- Block t holds n rights; their ranges lie behind the slices lv. -/
structure RArr (n : Nat) (T E : TypeId) (w : World) (t : Nat) (lv : Nat → Value) (S : Nat → Rt) : Prop where
  tab : ∃ cs, w.heap[t]? = some (.cells cs T (0, 0)) ∧ cs.size = n * 3 ∧ ∀ j, j < n * 3 → cs[j]? = some (rcell lv S j)
  row : ∀ i, i < n → Ls w E (lv i) (S i).rs
section
variable {n : Nat} {T E : TypeId} {w w' : World} {t : Nat} {lv : Nat → Value} {S : Nat → Rt}
theorem RArr.lt (h : RArr n T E w t lv S) : t < w.heap.size := by
  obtain ⟨cs, h1, _⟩ := h.tab
  exact (Array.getElem?_eq_some_iff.1 h1).1
theorem RArr.kept (h : RArr n T E w t lv S) (h1 : w'.heap[t]? = w.heap[t]?) (h2 : ∀ (k : Nat) (cs : Array Value) (fr : Nat × Nat), w.heap[k]? = some (.cells cs E fr) → w'.heap[k]? = w.heap[k]?) : RArr n T E w' t lv S := by
  obtain ⟨⟨cs, h3, h4, h5⟩, h6⟩ := h
  refine ⟨⟨cs, h1.trans h3, h4, h5⟩, fun i hi => Rw.kept (h6 i hi) fun g hg => ?_⟩
  obtain ⟨cur, hc⟩ := Rw.ty (h6 i hi) g hg
  exact h2 g cur _ hc
theorem RArr.below (h : RArr n T E w t lv S) (hb : Below w.heap.size w w') : RArr n T E w' t lv S :=
  h.kept (hb.block _ h.lt) fun k cs fr hk => hb.block _ (Array.getElem?_eq_some_iff.1 hk).1
/-- Another block of another type is written. -/
theorem RArr.other (h : RArr n T E w t lv S) {u : Nat} {cs : Array Value} {U : TypeId} {fr : Nat × Nat} (hu : w.heap[u]? = some (.cells cs U fr)) (h1 : u ≠ t) (h2 : U ≠ E) (hw : ∀ k, k < w.heap.size → k ≠ u → w'.heap[k]? = w.heap[k]?) : RArr n T E w' t lv S :=
  h.kept (hw _ h.lt (Ne.symm h1)) fun k ds fr' hk => hw _ (Array.getElem?_eq_some_iff.1 hk).1 (by rintro rfl; rw [hu] at hk; cases hk; exact h2 rfl)
theorem RArr.cell (h : RArr n T E w t lv S) {j : Nat} (hj : j < n * 3) : w.cell? ⟨t, j, none⟩ = some (rcell lv S j) := by
  obtain ⟨cs, h1, h2, h3⟩ := h.tab
  rw [cell_of_row _ _ _ _ _ _ h1]
  exact h3 j hj
theorem RArr.frozen (h : RArr n T E w t lv S) (j : Nat) : w.frozen? ⟨t, j, none⟩ = false := by
  obtain ⟨cs, h1, h2, h3⟩ := h.tab
  exact frozen_of_row w t j _ _ h1
theorem rcell0 (lv : Nat → Value) (S : Nat → Rt) (i : Nat) : rcell lv S (i * 3) = lv i := by
  unfold rcell
  rw [if_pos (by omega), show i * 3 / 3 = i by omega]
theorem rcell1 (lv : Nat → Value) (S : Nat → Rt) (i : Nat) : rcell lv S (i * 3 + 1) = .bool (S i).lk := by
  unfold rcell
  rw [if_neg (by omega), if_pos (by omega), show (i * 3 + 1) / 3 = i by omega]
theorem rcell2 (lv : Nat → Value) (S : Nat → Rt) (i : Nat) : rcell lv S (i * 3 + 2) = .bool (S i).inh := by
  unfold rcell
  rw [if_neg (by omega), if_neg (by omega), show (i * 3 + 2) / 3 = i by omega]
theorem RArr.three (h : RArr n T E w t lv S) {i : Nat} (hi : i < n) : w.cell? ⟨t, i * 3, none⟩ = some (lv i) ∧ w.cell? ⟨t, i * 3 + 1, none⟩ = some (.bool (S i).lk) ∧ w.cell? ⟨t, i * 3 + 2, none⟩ = some (.bool (S i).inh) := by
  refine ⟨?_, ?_, ?_⟩
  · rw [h.cell (by omega), rcell0]
  · rw [h.cell (by omega), rcell1]
  · rw [h.cell (by omega), rcell2]
theorem rcell_upd (lv : Nat → Value) (S : Nat → Rt) (i : Nat) (v : Value) (r : Rt) (j : Nat) :
    rcell (upd lv i v) (upd S i r) j = if j = i * 3 then v else if j = i * 3 + 1 then .bool r.lk else if j = i * 3 + 2 then .bool r.inh else rcell lv S j := by
  unfold rcell
  by_cases h : j / 3 = i
  · rw [h, upd_same, upd_same]
    rcases (by omega : j = i * 3 ∨ j = i * 3 + 1 ∨ j = i * 3 + 2) with h | h | h
    · rw [if_pos (by omega), if_pos h]
    · rw [if_neg (by omega), if_pos (by omega), if_neg (by omega), if_pos h]
    · rw [if_neg (by omega), if_neg (by omega), if_neg (by omega), if_neg (by omega), if_pos h]
  · rw [upd_other _ _ h, upd_other _ _ h, if_neg (show ¬ j = i * 3 by omega), if_neg (show ¬ j = i * 3 + 1 by omega), if_neg (show ¬ j = i * 3 + 2 by omega)]
/-- The whole right number i is written. -/
theorem RArr.store (h : RArr n T E w t lv S) (hTE : T ≠ E) {i : Nat} (hi : i < n) {v : Value} {r : Rt} (hv : Ls w E v r.rs) :
    RArr n T E (set3 w t (i * 3) v (.bool r.lk) (.bool r.inh)) t (upd lv i v) (upd S i r) := by
  obtain ⟨cs, h1, h2, h3⟩ := h.tab
  refine ⟨⟨_, set3_row h1 (i * 3) v (.bool r.lk) (.bool r.inh), by simpa using h2, fun j hj => ?_⟩, fun k hk => ?_⟩
  · rw [rcell_upd]
    simp only [Array.getElem?_setIfInBounds, Array.size_setIfInBounds]
    by_cases e1 : j = i * 3
    · subst e1; simp; omega
    · by_cases e2 : j = i * 3 + 1
      · subst e2; simp; omega
      · by_cases e3 : j = i * 3 + 2
        · subst e3; simp; omega
        · rw [if_neg e1, if_neg e2, if_neg e3, if_neg (Ne.symm e3), if_neg (Ne.symm e2), if_neg (Ne.symm e1)]
          exact h3 j hj
  · by_cases e : k = i
    · subst e
      rw [upd_same, upd_same]
      exact hv.set3 h1 hTE _ _ _ _
    · rw [upd_other _ _ e, upd_other _ _ e]
      exact (h.row k hk).set3 h1 hTE _ _ _ _
/-- The ranges of right number i are written. -/
theorem RArr.set_rs (h : RArr n T E w t lv S) (hTE : T ≠ E) {i : Nat} (hi : i < n) {v : Value} {rs : List Rg} (hv : Ls w E v rs) :
    RArr n T E (w.setCell ⟨t, i * 3, none⟩ v) t (upd lv i v) (upd S i { S i with rs := rs }) := by
  obtain ⟨cs, h1, h2, h3⟩ := h.tab
  refine ⟨⟨_, heap_setCell_same _ _ _ _ _ _ h1, by simpa using h2, fun j hj => ?_⟩, fun k hk => ?_⟩
  · rw [rcell_upd]
    simp only [Array.getElem?_setIfInBounds]
    by_cases e1 : j = i * 3
    · subst e1; simp; omega
    · rw [if_neg e1, if_neg (Ne.symm e1), h3 j hj]
      by_cases e2 : j = i * 3 + 1
      · subst e2; simp [rcell1]
      · by_cases e3 : j = i * 3 + 2
        · subst e3; simp [rcell2]
        · rw [if_neg e2, if_neg e3]
  · by_cases e : k = i
    · subst e
      rw [upd_same, upd_same]
      exact hv.set h1 hTE _ _
    · rw [upd_other _ _ e, upd_other _ _ e]
      exact (h.row k hk).set h1 hTE _ _
theorem upd_self {α : Type} (f : Nat → α) (i : Nat) : upd f i (f i) = f := by
  funext j
  by_cases h : j = i
  · subst h; rw [upd_same]
  · rw [upd_other _ _ h]
theorem RArr.set_lk (h : RArr n T E w t lv S) (hTE : T ≠ E) {i : Nat} (hi : i < n) (b : Bool) :
    RArr n T E (w.setCell ⟨t, i * 3 + 1, none⟩ (.bool b)) t lv (upd S i { S i with lk := b }) := by
  obtain ⟨cs, h1, h2, h3⟩ := h.tab
  refine ⟨⟨_, heap_setCell_same _ _ _ _ _ _ h1, by simpa using h2, fun j hj => ?_⟩, fun k hk => ?_⟩
  · have := rcell_upd lv S i (lv i) { S i with lk := b } j
    rw [upd_self] at this
    rw [this]
    simp only [Array.getElem?_setIfInBounds]
    by_cases e2 : j = i * 3 + 1
    · subst e2; simp; omega
    · rw [if_neg (Ne.symm e2), if_neg e2, h3 j hj]
      by_cases e1 : j = i * 3
      · subst e1; simp [rcell0]
      · by_cases e3 : j = i * 3 + 2
        · subst e3; simp [rcell2]
        · rw [if_neg e1, if_neg e3]
  · have hr : Ls (w.setCell ⟨t, i * 3 + 1, none⟩ (.bool b)) E (lv k) (S k).rs := (h.row k hk).set h1 hTE _ _
    by_cases e : k = i
    · subst e; rw [upd_same]; exact hr
    · rw [upd_other _ _ e]; exact hr
theorem RArr.set_inh (h : RArr n T E w t lv S) (hTE : T ≠ E) {i : Nat} (hi : i < n) (b : Bool) :
    RArr n T E (w.setCell ⟨t, i * 3 + 2, none⟩ (.bool b)) t lv (upd S i { S i with inh := b }) := by
  obtain ⟨cs, h1, h2, h3⟩ := h.tab
  refine ⟨⟨_, heap_setCell_same _ _ _ _ _ _ h1, by simpa using h2, fun j hj => ?_⟩, fun k hk => ?_⟩
  · have := rcell_upd lv S i (lv i) { S i with inh := b } j
    rw [upd_self] at this
    rw [this]
    simp only [Array.getElem?_setIfInBounds]
    by_cases e3 : j = i * 3 + 2
    · subst e3; simp; omega
    · rw [if_neg (Ne.symm e3), if_neg e3, h3 j hj]
      by_cases e1 : j = i * 3
      · subst e1; simp [rcell0]
      · by_cases e2 : j = i * 3 + 1
        · subst e2; simp [rcell1]
        · rw [if_neg e1, if_neg e2]
  · have hr : Ls (w.setCell ⟨t, i * 3 + 2, none⟩ (.bool b)) E (lv k) (S k).rs := (h.row k hk).set h1 hTE _ _
    by_cases e : k = i
    · subst e; rw [upd_same]; exact hr
    · rw [upd_other _ _ e]; exact hr
end
end Go.Proofs.YthccppldpfddjaaDoor
