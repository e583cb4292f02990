import Derived.Test.YtmmhflpeapojgaaB3
namespace Go.Proofs.Ytmmhflpeapojgaa
set_option linter.unusedVariables false
set_option linter.unusedSimpArgs false
open Go.RowKit Ieee
attribute [local go_sem] ints_get ints_size ints_getElem

def exW : List (Nat × Nat) := [(1065353216, 0), (1073741824, 0), (1077936128, 0), (1082130432, 0)]
def exP : List (Int × Int) := [(1, 0), (2, 0), (3, 0), (4, 0)]
theorem exW_F : exW = exP.map FP := by decide +kernel
theorem ex_out : outT exP = [(1092616192, 0), (3221225472, 1073741824), (3221225472, 0), (3221225472, 3221225472)] := by decide +kernel
theorem FP_GP {p : Int × Int} (h : Bd 1000000 p) : GP (FP p) p := by
  unfold Bd at h
  exact ⟨G_F fmt_fine (small_of (by omega)), G_F fmt_fine (small_of (by omega))⟩
theorem ex_gp : ∀ i, i < 4 → GP (exW.getD i (0, 0)) (exP.getD i (0, 0)) := by
  intro i hi
  rw [exW_F]
  have : (exP.map FP).getD i (0, 0) = FP (exP.getD i (0, 0)) := by
    simp only [List.getD_eq_getElem?_getD, List.getElem?_map]
    rw [List.getElem?_eq_getElem (show i < exP.length from hi)]
    rfl
  rw [this]
  refine FP_GP ?_
  match i, hi with
  | 0, _ => unfold Bd exP; simp
  | 1, _ => unfold Bd exP; simp
  | 2, _ => unfold Bd exP; simp
  | 3, _ => unfold Bd exP; simp
theorem ex_code : mcode [1077936128, 3212836864, 1082130432] [0, 4] = 0 := by decide +kernel
theorem ex_val : fullG [1077936128, 3212836864, 1082130432] [0, 4] = #[.int .i64 3, .float .f32 3212836864, .float .f32 1082130432, .int .i64 6, .int .i64 26, .int .i64 2] := by kernel_rfl
theorem transform_ex (w : World) : Calls Try.prog 20 #[.agg #[.complex .f32 1065353216 0, .complex .f32 1073741824 0, .complex .f32 1077936128 0, .complex .f32 1082130432 0]] w fun e w' => e = .returned (.tuple #[.agg #[.complex .f32 1092616192 0, .complex .f32 3221225472 1073741824, .complex .f32 3221225472 0, .complex .f32 3221225472 3221225472], .int .i64 0]) ∧ Below w.heap.size w w' := by
  have := transform_good exW exP rfl rfl ex_gp (by intro p hp; simp [exP] at hp; rcases hp with rfl | rfl | rfl | rfl <;> (unfold Bd; simp)) w
  rw [ex_out] at this
  exact this
theorem measure_ex (g1 g2 : Nat) (w : World) (h1 : w.heap[g1]? = some (.cells #[.float .f32 1077936128, .float .f32 3212836864, .float .f32 1082130432] 27 (0, 0))) (h2 : w.heap[g2]? = some (.cells #[.int .i64 0, .int .i64 4] 3 (0, 0))) :
    Calls Try.prog 7 #[.slice (some ⟨g1, 0, none⟩) 3 3, .slice (some ⟨g2, 0, none⟩) 2 2] w fun e w' => e = .returned (.tuple #[.agg #[.int .i64 3, .float .f32 3212836864, .float .f32 1082130432, .int .i64 6, .int .i64 26, .int .i64 2], .int .i64 0]) ∧ Below w.heap.size w w' := by
  have := measure_calls (some ⟨g1, 0, none⟩) 3 [1077936128, 3212836864, 1082130432] (some ⟨g2, 0, none⟩) 2 [0, 4] w (by simp) (by simp)
    (fun i hi => ⟨_, rfl, by
      rw [add_at, cell_of_row _ _ _ _ _ _ h1]
      match i, hi with
      | 0, _ => rfl
      | 1, _ => rfl
      | 2, _ => rfl⟩)
    (fun i hi => ⟨_, rfl, by
      rw [add_at, cell_of_row _ _ _ _ _ _ h2]
      match i, hi with
      | 0, _ => rfl
      | 1, _ => rfl⟩) (by intro x hx; simp at hx; omega)
  unfold MPost at this
  unfold gval at this
  rw [ex_code, if_pos rfl, ex_val] at this
  exact this
theorem cells_of_heap {w : World} {g : Nat} {cs : Array Value} {t : TypeId} {fr : Nat × Nat} (h : w.heap[g]? = some (.cells cs t fr)) : ∀ j v, cs[j]? = some v → w.cell? ((⟨g, 0, none⟩ : Addr).add j) = some v := fun j v hv => by
  rw [add_at, cell_of_row _ _ _ _ _ _ h]
  simpa using hv
theorem heap3 (w : World) (a b c : Obj) : (((w.alloc a).alloc b).alloc c).heap[w.heap.size + 1]? = some b ∧ (((w.alloc a).alloc b).alloc c).heap[w.heap.size + 1 + 1]? = some c ∧ (((w.alloc a).alloc b).alloc c).heap[w.heap.size]? = some a := by
  have e1 : (w.alloc a).heap.size = w.heap.size + 1 := by simp
  have e2 : ((w.alloc a).alloc b).heap.size = w.heap.size + 1 + 1 := by simp
  refine ⟨?_, ?_, ?_⟩
  · rw [Below.heap_alloc _ _ _ (by omega), ← e1]; exact heap_alloc_new _ _
  · rw [← e2]; exact heap_alloc_new _ _
  · rw [Below.heap_alloc _ _ _ (by omega), Below.heap_alloc _ _ _ (by omega)]; exact heap_alloc_new _ _
set_option maxHeartbeats 2000000 in
theorem awake_calls (w : World) : Calls Try.prog 6 #[] w fun e w' => e = .returned (.bool true) ∧ Below w.heap.size w w' := by
  have e54 : ∀ W, (binOp .eql 54 (.agg #[.complex .f32 1092616192 0, .complex .f32 3221225472 1073741824, .complex .f32 3221225472 0, .complex .f32 3221225472 3221225472]) (.agg #[.complex .f32 1092616192 0, .complex .f32 3221225472 1073741824, .complex .f32 3221225472 0, .complex .f32 3221225472 3221225472])).run Try.prog W = .ok (.bool true) W := fun W => by kernel_rfl
  have e29 : ∀ W, (binOp .eql 29 (.agg #[.int .i64 3, .float .f32 3212836864, .float .f32 1082130432, .int .i64 6, .int .i64 26, .int .i64 2]) (.agg #[.int .i64 3, .float .f32 3212836864, .float .f32 1082130432, .int .i64 6, .int .i64 26, .int .i64 2])).run Try.prog W = .ok (.bool true) W := fun W => by kernel_rfl
  go_enter Try.func6, Try.ntmps6
  go_wp2_with (first
    | (go_at_call 20; go_loud (refine (transform_ex _).mono ?_; rintro e w1 ⟨rfl, hd⟩; have HB := Lib.hid hd; clear hd))
    | (go_at_call 7; go_loud (refine (measure_ex _ _ _ (heap3 w1 _ _ _).1 (heap3 w1 _ _ _).2.1).mono ?_; rintro e w2 ⟨rfl, hd⟩; have HX := Lib.hid (heap_kept (heap3 w1 _ _ _).2.2 hd); have HB2 := Lib.hid (below_then' (((HB.out.alloc HB.out.size _).alloc (by simp; have := HB.out.size; omega) _).alloc (by simp; have := HB.out.size; omega) _) hd); clear hd))
    | ((with_reducible change wpList _ _ _ (⟨_, .load 54 (.tmp 1), _, _, _, _⟩ :: _) _ _); go_loud (refine wpList_load_cells (by rfl) 54 (.tmp 1) rfl ⟨w1.heap.size, 0, none⟩ rfl _ _ (cells_of_heap (heap_kept HX.out ((Below.refl _ _).alloc (Nat.le_refl _) _))) Try.underlying54 rfl (n := 4) (by kernel_rfl) rfl ?_))
    | ((with_reducible change wpList _ _ _ (⟨_, .load 29 (.tmp 3), _, _, _, _⟩ :: _) _ _); go_loud (refine wpList_load_cells (by rfl) 29 (.tmp 3) rfl ⟨w2.heap.size, 0, none⟩ rfl _ _ (cells_of_heap (heap_alloc_new w2 _)) Try.underlying29 rfl (n := 6) (by kernel_rfl) rfl ?_)))
  go_ret
  exact ⟨rfl, HB2.out.alloc HB2.out.size _⟩
end Go.Proofs.Ytmmhflpeapojgaa
