/- copied, standard, and how equal rights are told. -/
import Derived.Test.YthccppldpfddjaaDoorA1
namespace Go.Proofs.YthccppldpfddjaaDoor
open Go.RowKit
set_option linter.unusedVariables false
theorem below_two {w w1 : World} {a b : Obj} (h : Below ((w.alloc a).alloc b).heap.size ((w.alloc a).alloc b) w1) : Below w.heap.size w w1 :=
  (((Below.refl w.heap.size w).alloc (Nat.le_refl _) a).alloc (by simp) b).trans (h.mono (by simp; omega))
theorem two_first {w w1 : World} {cs ds : Array Value} {t u : TypeId} (h : Below ((w.alloc (.cells cs t)).alloc (.cells ds u)).heap.size ((w.alloc (.cells cs t)).alloc (.cells ds u)) w1) : w1.heap[w.heap.size]? = some (.cells cs t (0, 0)) :=
  (h.block _ (by simp; omega)).trans ((Below.heap_alloc _ _ _ (by simp)).trans (heap_alloc_new w _))
theorem two_second {w w1 : World} {cs ds : Array Value} {t u : TypeId} (h : Below ((w.alloc (.cells cs t)).alloc (.cells ds u)).heap.size ((w.alloc (.cells cs t)).alloc (.cells ds u)) w1) : w1.heap[w.heap.size + 1]? = some (.cells ds u (0, 0)) :=
  (h.block _ (by simp)).trans (by have := heap_alloc_new (w.alloc (.cells cs t)) (.cells ds u); simpa using this)
theorem cells_three {w : World} {g : Nat} {a b c : Value} {t : TypeId} (h : w.heap[g]? = some (.cells #[a, b, c] t (0, 0))) : w.cell? ⟨g, 0, none⟩ = some a ∧ w.cell? ⟨g, 1, none⟩ = some b ∧ w.cell? ⟨g, 2, none⟩ = some c := by
  refine ⟨?_, ?_, ?_⟩ <;> rw [cell_of_row _ _ _ _ _ _ h] <;> rfl
theorem frozen_three {w : World} {g : Nat} {a b c : Value} {t : TypeId} (h : w.heap[g]? = some (.cells #[a, b, c] t (0, 0))) : w.frozen? ⟨g, 0, none⟩ = false ∧ w.frozen? ⟨g, 1, none⟩ = false ∧ w.frozen? ⟨g, 2, none⟩ = false :=
  ⟨frozen_of_row w g 0 _ _ h, frozen_of_row w g 1 _ _ h, frozen_of_row w g 2 _ _ h⟩
theorem Ls.other {w w' : World} {e : TypeId} {v : Value} {l : List Rg} (h : Ls w e v l) {k : Nat} {cs : Array Value} {t : TypeId} {fr : Nat × Nat} (hk : w.heap[k]? = some (.cells cs t fr)) (hne : t ≠ e) (hw : ∀ g, g < w.heap.size → g ≠ k → w'.heap[g]? = w.heap[g]?) : Ls w' e v l := by
  refine Rw.kept h fun g hg => hw g (Rw.lt h g hg) ?_
  rintro rfl
  obtain ⟨cur, hc⟩ := Rw.ty h g hg
  rw [hk] at hc
  cases hc
  exact hne rfl
theorem Ls.set {w : World} {e : TypeId} {v : Value} {l : List Rg} (h : Ls w e v l) {k : Nat} {cs : Array Value} {t : TypeId} {fr : Nat × Nat} (hk : w.heap[k]? = some (.cells cs t fr)) (hne : t ≠ e) (i : Nat) (u : Value) : Ls (w.setCell ⟨k, i, none⟩ u) e v l :=
  h.other hk hne fun g _ hg => Below.heap_setCell _ _ _ _ hg
def set3 (w : World) (t o : Nat) (a b c : Value) : World := ((w.setCell ⟨t, o, none⟩ a).setCell ⟨t, o + 1, none⟩ b).setCell ⟨t, o + 2, none⟩ c
theorem set3_row {w : World} {t : Nat} {cs : Array Value} {ty : TypeId} (h : w.heap[t]? = some (.cells cs ty (0, 0))) (o : Nat) (a b c : Value) :
    (set3 w t o a b c).heap[t]? = some (.cells (((cs.setIfInBounds o a).setIfInBounds (o + 1) b).setIfInBounds (o + 2) c) ty (0, 0)) :=
  heap_setCell_same _ _ _ _ _ _ (heap_setCell_same _ _ _ _ _ _ (heap_setCell_same _ _ _ _ _ _ h))
theorem set3_other (w : World) (t o : Nat) (a b c : Value) (k : Nat) (h : k ≠ t) : (set3 w t o a b c).heap[k]? = w.heap[k]? := by
  unfold set3
  rw [Below.heap_setCell _ _ _ _ h, Below.heap_setCell _ _ _ _ h, Below.heap_setCell _ _ _ _ h]
theorem set3_size (w : World) (t o : Nat) (a b c : Value) : (set3 w t o a b c).heap.size = w.heap.size := by simp [set3, World.setCell]
theorem below_set3 {w w1 : World} {B : Nat} (h : Below B w w1) (t o : Nat) (a b c : Value) (ht : B ≤ t) : Below B w (set3 w1 t o a b c) := ((h.setCell ht _).setCell ht _).setCell ht _
theorem Ls.set3 {w : World} {e : TypeId} {v : Value} {l : List Rg} (h : Ls w e v l) {k : Nat} {cs : Array Value} {t : TypeId} {fr : Nat × Nat} (hk : w.heap[k]? = some (.cells cs t fr)) (hne : t ≠ e) (o : Nat) (a b c : Value) : Ls (set3 w k o a b c) e v l :=
  h.other hk hne fun g _ hg => set3_other _ _ _ _ _ _ _ hg
theorem ls_new (w : World) (e : TypeId) (l : List Rg) (h : l.length ≤ maxLen) : Ls (w.alloc (.cells (pcells l).toArray e)) e (.slice (some ⟨w.heap.size, 0, none⟩) l.length l.length) l := by
  refine ⟨pcells_len l, .inr ⟨w.heap.size, l.length, _, rfl, heap_alloc_new w _, Nat.le_refl _, h, ?_, ?_⟩⟩
  · simp [pcells_len]
  · rw [← pcells_len]; simp
set_option maxHeartbeats 1000000 in
theorem copied_calls (r : Rt) (v : Value) (w : World) (h : Ls w 43 v r.rs) (hl : r.rs.length ≤ 1000000) :
    Calls Tryd.prog 47 #[.agg (rv v r)] w fun e w' => ∃ v', e = .returned (.agg (rv v' r)) ∧ Ls w' 43 v' r.rs ∧ Below w.heap.size w w' := by
  obtain ⟨A, cap, hv, -, -, -, -⟩ := Rw.form h
  have HC := Lib.hid (fun w' (hb : Below w.heap.size w w') => clone_calls r.rs v w' (h.below hb) hl)
  have HB := Lib.hid (((Below.refl w.heap.size w).alloc (Nat.le_refl _) (.cells (rv v r) 38)).alloc (by simp) (.cells #[.slice none 0 0, .bool false, .bool false] 38))
  unfold rv at HB ⊢
  generalize r.lk = lk at *
  generalize r.inh = inh at *
  clear h hl
  subst hv
  go_enter Tryd.func47, Tryd.ntmps47
  go_wp2_with (go_at_call 67; refine (HC.out _ HB.out).mono ?_; rintro e w1 ⟨v', rfl, h1, h2⟩; obtain ⟨A', cap', rfl, -, -, -, -⟩ := Rw.form h1; have HX := Lib.hid (And.intro h1 (And.intro (two_first h2) (And.intro (two_second h2) (below_two h2)))); obtain ⟨c0, c1, c2⟩ := cells_three (two_first h2); obtain ⟨d0, d1, d2⟩ := cells_three (two_second h2); obtain ⟨f0, f1, f2⟩ := frozen_three (two_first h2); obtain ⟨g0, g1, g2⟩ := frozen_three (two_second h2); clear h1 h2)
  have hx := HX.out.2.1
  have hy := HX.out.2.2.1
  have hy1 : (w1.setCell ⟨w.heap.size, 0, none⟩ (.slice A' r.rs.length cap')).heap[w.heap.size + 1]? = some (.cells #[.slice none 0 0, .bool false, .bool false] 38 (0, 0)) := (Below.heap_setCell _ _ _ _ (by simp)).trans hy
  have e1 := set3_row hy1 0 (.slice A' r.rs.length cap') (.bool lk) (.bool inh)
  refine bodyPost_ret (v := .agg #[.slice A' r.rs.length cap', .bool lk, .bool inh]) (results_cell_row rfl _ _ (w.heap.size + 1) 38 #[.slice A' r.rs.length cap', .bool lk, .bool inh] (0, 0) _ rfl e1 Tryd.underlying38 rfl size38) rfl ?_
  refine ⟨_, rfl, (HX.out.1.set hx (by decide) 0 _).set3 hy1 (by decide) 0 _ _ _, ?_⟩
  exact below_set3 (HX.out.2.2.2.setCell (by simp) _) _ _ _ _ _ (by omega)
set_option maxHeartbeats 1000000 in
/-- The default right of a domain. -/
theorem standard_calls (d : Nat) (w : World) : Calls Tryd.prog 36 #[.int .i64 d] w fun e w' => ∃ v, e = .returned (.agg (rv v (stdR d))) ∧ Ls w' 43 v (stdR d).rs ∧ Below w.heap.size w w' := by
  have HB := Lib.hid ((Below.refl w.heap.size w).alloc (Nat.le_refl _) (.cells #[.slice none 0 0, .bool false, .bool false] 38))
  rcases Nat.eq_zero_or_pos d with rfl | hd
  · rw [show stdR 0 = ⟨[(0, MX)], false, false⟩ from rfl]
    go_enter Tryd.func36, Tryd.ntmps36
    go_wp2
    have hx : (w.alloc (.cells #[.slice (some ⟨w.heap.size + 1, 0, none⟩) 1 1, .bool false, .bool false] 38)).heap[w.heap.size]? = some (.cells #[.slice (some ⟨w.heap.size + 1, 0, none⟩) 1 1, .bool false, .bool false] 38 (0, 0)) := heap_alloc_new w _
    refine bodyPost_ret (v := .agg #[.slice (some ⟨w.heap.size + 1, 0, none⟩) 1 1, .bool false, .bool false]) (results_cell_row rfl _ _ w.heap.size 38 #[.slice (some ⟨w.heap.size + 1, 0, none⟩) 1 1, .bool false, .bool false] (0, 0) _ rfl ((Below.heap_alloc _ _ _ (by simp)).trans hx) Tryd.underlying38 rfl size38) rfl ?_
    refine ⟨_, rfl, ?_, ((Below.refl w.heap.size w).alloc (Nat.le_refl _) _).alloc (by simp) _⟩
    have := ls_new (w.alloc (.cells #[.slice (some ⟨w.heap.size + 1, 0, none⟩) 1 1, .bool false, .bool false] 38)) 43 [((0 : Int), MX)] (by simp [maxLen])
    simpa [pcells, MX] using this
  · have hd1 : ((d : Int) == 0) = false := by simp; omega
    rw [show stdR d = ⟨[], false, false⟩ by unfold stdR; rw [if_neg (by omega)]]
    go_enter Tryd.func36, Tryd.ntmps36
    go_wp2
    refine bodyPost_ret (v := .agg #[.slice none 0 0, .bool false, .bool false]) (results_cell_row rfl _ _ w.heap.size 38 #[.slice none 0 0, .bool false, .bool false] (0, 0) _ rfl (heap_alloc_new w _) Tryd.underlying38 rfl size38) rfl ?_
    exact ⟨_, rfl, ls_nil _ _, HB.out⟩
end Go.Proofs.YthccppldpfddjaaDoor
