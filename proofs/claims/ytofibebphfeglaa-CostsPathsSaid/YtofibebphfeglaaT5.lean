import Derived.Test.YtofibebphfeglaaT4
namespace Go.Proofs.Ytofibebphfeglaa
open Go.RowKit
attribute [local go_sem] ints_get ints_size ints_getElem

def dl (k : Nat) : List Int := 4 :: 1 :: (List.replicate k 2 ++ List.replicate (24 - k) 0)
theorem dl_len (k : Nat) (h : k ≤ 24) : (dl k).length = 26 := by simp [dl]; omega
theorem ints_set (l : List Int) (i : Nat) (v : Int) : (ints l).setIfInBounds i (.int .i64 v) = ints (l.set i v) := by
  apply Array.ext_getElem?
  intro j
  simp only [Array.getElem?_setIfInBounds, ints_get, ints_size, List.getElem?_set]
  by_cases h : i = j
  · subst h
    by_cases h2 : i < l.length <;> simp [h2]
  · simp [h]
theorem dl_set (k : Nat) (h : k < 24) : (dl k).set (2 + k) 2 = dl (k + 1) := by
  unfold dl
  rw [show 2 + k = (k + 1) + 1 by omega, List.set_cons_succ, List.set_cons_succ]
  congr 2
  rw [List.set_append_right _ _ (by simp), List.length_replicate, Nat.sub_self]
  rw [show 24 - k = (24 - (k + 1)) + 1 by omega, List.replicate_succ, List.set_cons_zero, List.replicate_succ']
  simp
/-- The costs of the default table. -/
def defs : List Int := [3, 3, 3, 2, 2, 2, 2, 2, 2, 2, 2, 2, 2, 2, 2, 2, 2, 2, 2, 2, 2, 2, 8, 1]
theorem dl_end : ((((((dl 24).set 2 3).set 3 3).set 4 3).set 24 8).set 25 1) = 4 :: 1 :: defs := by decide
theorem ints_setCell {w : World} {g : Nat} {l : List Int} {t : TypeId} (hg : w.heap[g]? = some (.cells (ints l) t (0, 0))) (i : Nat) (v : Int) : (w.setCell ⟨g, i, none⟩ (.int .i64 v)).heap[g]? = some (.cells (ints (l.set i v)) t (0, 0)) := by
  rw [heap_setCell_same w g i _ t _ hg, ints_set]
theorem ints_cell {w : World} {g : Nat} {l : List Int} {t : TypeId} (hg : w.heap[g]? = some (.cells (ints l) t (0, 0))) (i : Nat) (h : i < l.length) : w.cell? ⟨g, i, none⟩ = some (.int .i64 (l.getD i 0)) := by
  rw [cell_of_row _ _ _ _ _ _ hg, ints_get]
  simp [List.getElem?_eq_getElem h, List.getD_eq_getElem?_getD]

def z26 : List Int := List.replicate 26 0
theorem z26_len : z26.length = 26 := by decide
/-- The world while a table is filled: the table's block, the result's block, and that nothing older has turned. -/
def DInv (w : World) (T : TypeId) (l : List Int) (wr : World) : Prop :=
  wr.heap[w.heap.size + 1]? = some (.cells (ints l) T (0, 0)) ∧ wr.heap[w.heap.size]? = some (.cells (ints z26) T (0, 0)) ∧ wr.heap.size = w.heap.size + 2 ∧ Below w.heap.size w wr
theorem DInv.set {w : World} {T : TypeId} {l : List Int} {wr : World} (h : DInv w T l wr) (i : Nat) (v : Int) : DInv w T (l.set i v) (wr.setCell ⟨w.heap.size + 1, i, none⟩ (.int .i64 v)) := by
  obtain ⟨h1, h2, h3, h4⟩ := h
  refine ⟨ints_setCell h1 i v, ?_, ?_, h4.setCell (by simp) _⟩
  · rw [heap_setCell_other _ _ _ _ (by simp)]; exact h2
  · simp [World.setCell, h3]
theorem DInv.cells {w : World} {T : TypeId} {l : List Int} {wr : World} (h : DInv w T l wr) : ∀ j v, (ints l)[j]? = some v → wr.cell? ((⟨w.heap.size + 1, 0, none⟩ : Addr).add j) = some v := by
  intro j v hv
  rw [add_at, cell_of_row _ _ _ _ _ _ h.1]
  simpa using hv
theorem DInv.zero {w : World} {T : TypeId} {l : List Int} {wr : World} (h : DInv w T l wr) : wr.heap[w.heap.size]? = some (.cells (ints z26) T (0, 0)) := h.2.1
theorem DInv.below {w : World} {T : TypeId} {l : List Int} {wr : World} (h : DInv w T l wr) : Below w.heap.size w wr := h.2.2.2
theorem dstart (w : World) (T : TypeId) : DInv w T (dl 0) (((w.alloc (.cells (ints z26) T)).alloc (.cells (ints z26) T)).setRow (w.heap.size + 1) (ints (dl 0))) := by
  refine ⟨setRow_heap _ _ _ _ _ _ (heap_alloc2_new _ _ _), ?_, by simp, below_setRow' (((Below.refl _ _).alloc (Nat.le_refl _) _).alloc (by simp) _) (by omega) _⟩
  rw [setRow_other _ _ _ _ (by omega), heap_alloc2_old]

theorem zero24 : (Try.prog.info? 24).map (·.zero) = some (some (.agg (ints z26))) := by kernel_rfl
theorem built24d : Try.prog.built 24 [(0, .int .i64 4), (1, .int .i64 1)] = some (ints (dl 0)) := by kernel_rfl

set_option maxRecDepth 100000 in
theorem default_calls (w : World) : Calls Try.prog 12 #[] w fun e w' => e = .returned (.agg (ints (4 :: 1 :: defs))) ∧ Below w.heap.size w w' := by
  go_enter Try.func12, Try.ntmps12
  go_wp2_with (first
    | ((with_reducible change wpList _ _ _ (⟨_, .alloc 24, _, _, _, _⟩ :: _) _ _); refine wpList_alloc_to rfl 24 rfl _ zero24 ?_)
    | ((with_reducible change wpList _ _ _ (⟨_, .build 24 _, _, _, _, _⟩ :: _) _ _); refine wpList_build_to rfl 24 #[(0, .const (.int .i64 4)), (1, .const (.int .i64 1))] rfl [(0, .int .i64 4), (1, .int .i64 1)] (by simp [Act.eval, Act.put]) _ built24d ?_)
    | ((with_reducible change wpList _ _ _ (⟨_, .store 24 (.tmp 1) (.tmp 3), _, _, _, _⟩ :: _) _ _); refine wpList_store_row rfl 24 (.tmp 1) (.tmp 3) rfl _ (ints (dl 0)) rfl rfl 24 _ (heap_alloc_new _ _) (by rw [ints_size]; exact size24) (by rw [ints_size, ints_size]; rfl) (ints_one _) ?_))
  have h0 := Lib.hid (dstart w 24)
  go_loopw [4] (fun i wr => ∃ k : Nat, k ≤ 24 ∧ i = .int .i64 k ∧ Hid (DInv w 24 (dl k) wr)) (fun i _ => 24 - (intOf i).toNat)
  case atStart => exact ⟨0, by omega, rfl, h0⟩
  case round =>
    obtain ⟨k, hk, rfl, hi⟩ := hrel
    obtain ⟨hi1, hi2, hi3, hi4⟩ := hi.out
    have H2 := Lib.hid hi2
    clear hi2
    by_cases hlt : k < 24
    · have hc := ints_cell hi1 (2 + k) (by rw [dl_len k hk]; omega)
      have hf := frozen_of_row wr (w.heap.size + 1) (2 + k) _ _ hi1
      have H1 := Lib.hid hi1
      clear hi1
      go_wp2
      go_roundw
      case rel => exact ⟨k + 1, by omega, by go_num, Lib.hid (by rw [← dl_set k hlt]; exact DInv.set hi.out _ _)⟩
      case measure => simp [intOf]; omega
    · obtain rfl : k = 24 := by omega
      have hc0 := ints_cell hi1 2 (by decide)
      have hc1 := ints_cell hi1 3 (by decide)
      have hc2 := ints_cell hi1 4 (by decide)
      have hc3 := ints_cell hi1 24 (by decide)
      have hc4 := ints_cell hi1 25 (by decide)
      have hf0 := frozen_of_row wr (w.heap.size + 1) 2 _ _ hi1
      have hf1 := frozen_of_row wr (w.heap.size + 1) 3 _ _ hi1
      have hf2 := frozen_of_row wr (w.heap.size + 1) 4 _ _ hi1
      have hf3 := frozen_of_row wr (w.heap.size + 1) 24 _ _ hi1
      have hf4 := frozen_of_row wr (w.heap.size + 1) 25 _ _ hi1
      have hI := Lib.hid ((((((hi.out.set 2 3).set 3 3).set 4 3).set 24 8).set 25 1))
      rw [dl_end] at hI
      clear hi1 hi
      go_wp2_with (first
        | ((with_reducible change wpList _ _ _ (⟨_, .load 24 (.tmp 1), _, _, _, _⟩ :: _) _ _); refine wpList_load_cells rfl 24 (.tmp 1) rfl ⟨w.heap.size + 1, 0, none⟩ rfl (ints (4 :: 1 :: defs)) _ (hI.out.cells) Try.underlying24 rfl size24 (by rw [ints_size]; rfl) ?_)
        | ((with_reducible change wpList _ _ _ (⟨_, .store 24 (.tmp 0) (.tmp 21), _, _, _, _⟩ :: _) _ _); refine wpList_store_row rfl 24 (.tmp 0) (.tmp 21) rfl _ (ints (4 :: 1 :: defs)) rfl rfl 24 _ (hI.out.zero) (by rw [ints_size]; exact size24) (by rw [ints_size, ints_size]; rfl) (ints_one _) ?_))
      refine bodyPost_ret (v := .agg (ints (4 :: 1 :: defs))) (results_cell_row rfl _ _ w.heap.size 24 (ints (4 :: 1 :: defs)) (0, 0) _ rfl (setRow_heap _ _ _ _ _ _ hI.out.zero) Try.underlying24 rfl (by rw [ints_size]; exact size24)) rfl
        ⟨rfl, below_setRow' hI.out.below (Nat.le_refl _) _⟩

theorem zero29 : (Try.prog.info? 29).map (·.zero) = some (some (.agg (ints z26))) := by kernel_rfl
theorem built29d : Try.prog.built 29 [(0, .int .i64 4), (1, .int .i64 1)] = some (ints (dl 0)) := by kernel_rfl

set_option maxRecDepth 100000 in
theorem rdefault_calls (w : World) : Calls Try.prog 13 #[] w fun e w' => e = .returned (.agg (ints (4 :: 1 :: defs))) ∧ Below w.heap.size w w' := by
  go_enter Try.func13, Try.ntmps13
  go_wp2_with (first
    | ((with_reducible change wpList _ _ _ (⟨_, .alloc 29, _, _, _, _⟩ :: _) _ _); refine wpList_alloc_to rfl 29 rfl _ zero29 ?_)
    | ((with_reducible change wpList _ _ _ (⟨_, .build 29 _, _, _, _, _⟩ :: _) _ _); refine wpList_build_to rfl 29 #[(0, .const (.int .i64 4)), (1, .const (.int .i64 1))] rfl [(0, .int .i64 4), (1, .int .i64 1)] (by simp [Act.eval, Act.put]) _ built29d ?_)
    | ((with_reducible change wpList _ _ _ (⟨_, .store 29 (.tmp 1) (.tmp 3), _, _, _, _⟩ :: _) _ _); refine wpList_store_row rfl 29 (.tmp 1) (.tmp 3) rfl _ (ints (dl 0)) rfl rfl 29 _ (heap_alloc_new _ _) (by rw [ints_size]; exact size29) (by rw [ints_size, ints_size]; rfl) (ints_one _) ?_))
  have h0 := Lib.hid (dstart w 29)
  go_loopw [2] (fun i wr => ∃ k : Nat, k ≤ 24 ∧ i = .int .i64 k ∧ Hid (DInv w 29 (dl k) wr)) (fun i _ => 24 - (intOf i).toNat)
  case atStart => exact ⟨0, by omega, rfl, h0⟩
  case round =>
    obtain ⟨k, hk, rfl, hi⟩ := hrel
    obtain ⟨hi1, hi2, hi3, hi4⟩ := hi.out
    have H2 := Lib.hid hi2
    clear hi2
    by_cases hlt : k < 24
    · have hc := ints_cell hi1 (2 + k) (by rw [dl_len k hk]; omega)
      have hf := frozen_of_row wr (w.heap.size + 1) (2 + k) _ _ hi1
      have H1 := Lib.hid hi1
      clear hi1
      go_wp2
      go_roundw
      case rel => exact ⟨k + 1, by omega, by go_num, Lib.hid (by rw [← dl_set k hlt]; exact DInv.set hi.out _ _)⟩
      case measure => simp [intOf]; omega
    · obtain rfl : k = 24 := by omega
      have hc0 := ints_cell hi1 2 (by decide)
      have hc1 := ints_cell hi1 3 (by decide)
      have hc2 := ints_cell hi1 4 (by decide)
      have hc3 := ints_cell hi1 24 (by decide)
      have hc4 := ints_cell hi1 25 (by decide)
      have hf0 := frozen_of_row wr (w.heap.size + 1) 2 _ _ hi1
      have hf1 := frozen_of_row wr (w.heap.size + 1) 3 _ _ hi1
      have hf2 := frozen_of_row wr (w.heap.size + 1) 4 _ _ hi1
      have hf3 := frozen_of_row wr (w.heap.size + 1) 24 _ _ hi1
      have hf4 := frozen_of_row wr (w.heap.size + 1) 25 _ _ hi1
      have hI := Lib.hid ((((((hi.out.set 2 3).set 3 3).set 4 3).set 24 8).set 25 1))
      rw [dl_end] at hI
      clear hi1 hi
      go_wp2_with (first
        | ((with_reducible change wpList _ _ _ (⟨_, .load 29 (.tmp 1), _, _, _, _⟩ :: _) _ _); refine wpList_load_cells rfl 29 (.tmp 1) rfl ⟨w.heap.size + 1, 0, none⟩ rfl (ints (4 :: 1 :: defs)) _ (hI.out.cells) Try.underlying29 rfl size29 (by rw [ints_size]; rfl) ?_)
        | ((with_reducible change wpList _ _ _ (⟨_, .store 29 (.tmp 0) (.tmp 21), _, _, _, _⟩ :: _) _ _); refine wpList_store_row rfl 29 (.tmp 0) (.tmp 21) rfl _ (ints (4 :: 1 :: defs)) rfl rfl 29 _ (hI.out.zero) (by rw [ints_size]; exact size29) (by rw [ints_size, ints_size]; rfl) (ints_one _) ?_))
      refine bodyPost_ret (v := .agg (ints (4 :: 1 :: defs))) (results_cell_row rfl _ _ w.heap.size 29 (ints (4 :: 1 :: defs)) (0, 0) _ rfl (setRow_heap _ _ _ _ _ _ hI.out.zero) Try.underlying29 rfl (by rw [ints_size]; exact size29)) rfl
        ⟨rfl, below_setRow' hI.out.below (Nat.le_refl _) _⟩
end Go.Proofs.Ytofibebphfeglaa
