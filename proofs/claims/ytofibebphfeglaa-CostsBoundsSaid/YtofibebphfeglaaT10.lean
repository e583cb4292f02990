import Derived.Test.YtofibebphfeglaaT9
namespace Go.Proofs.Ytofibebphfeglaa
open Go.RowKit
attribute [local go_sem] ints_get ints_size ints_getElem

theorem cells_of_heap {w : World} {g : Nat} {l : List Int} {T : TypeId} {fr : Nat × Nat} (h : w.heap[g]? = some (.cells (ints l) T fr)) : ∀ j v, (ints l)[j]? = some v → w.cell? ((⟨g, 0, none⟩ : Addr).add j) = some v := by
  intro j v hv
  rw [add_at, cell_of_row _ _ _ _ _ _ h]
  simpa using hv
theorem heap_kept {w w1 : World} {g : Nat} {o : Obj} (h : w.heap[g]? = some o) (hb : Below w.heap.size w w1) : w1.heap[g]? = some o :=
  (hb.block g (Array.getElem?_eq_some_iff.1 h).1).trans h
theorem heap_set {w : World} {g : Nat} {old : Array Value} {T : TypeId} {fr : Nat × Nat} (cs : Array Value) (h : w.heap[g]? = some (.cells old T fr)) : (w.setRow g cs).heap[g]? = some (.cells cs T fr) := setRow_heap _ _ _ _ _ _ h

theorem ok_defs : okT 4 1 defs = true := by decide
theorem cost_awake (w : World) : Calls Try.prog 7 #[.agg (ints (4 :: 1 :: defs)), .int .i64 0, .int .i64 17] w fun e w' => e = .returned (.tuple #[.int .i64 5, .int .i64 0]) ∧ Below w.heap.size w w' :=
  cost_good 4 1 defs rfl 0 17 w ok_defs (by omega) (by omega)
theorem secs_awake (w : World) : Calls Try.prog 15 #[.agg (ints (4 :: 1 :: defs)), .int .i64 10] w fun e w' => ∃ v, e = .returned (.tuple #[v, .int .i64 0]) ∧ w'.ownsRow w.heap.size 2 1 v 3 (row [4, 4, 2]) ∧ Below w.heap.size w w' :=
  sections_good 4 1 defs rfl 10 w ok_defs (by omega)
theorem pre_awake1 (w : World) : Calls Try.prog 17 #[.agg (ints (4 :: 1 :: defs)), .int .i64 10, .int .i64 8] w fun e w' => e = .returned (.bool true) ∧ Below w.heap.size w w' :=
  pre_calls 4 1 defs rfl 10 8 w
theorem pre_awake2 (w : World) : Calls Try.prog 17 #[.agg (ints (4 :: 1 :: defs)), .int .i64 10, .int .i64 10] w fun e w' => e = .returned (.bool false) ∧ Below w.heap.size w w' :=
  pre_calls 4 1 defs rfl 10 10 w

set_option maxRecDepth 100000 in
theorem awake_calls (w : World) : Calls Try.prog 14 #[] w fun e w' => e = .returned (.bool true) ∧ Below w.heap.size w w' := by
  go_enter Try.func14, Try.ntmps14
  go_wp2_with (first
    | (go_at_call 12; refine (default_calls _).mono ?_; rintro e w1 ⟨rfl, hb1⟩; have HW := Lib.hid hb1; have hsz := hb1.size; clear hb1)
    | ((with_reducible change wpList _ _ _ (⟨_, .alloc 24, _, _, _, _⟩ :: _) _ _); refine wpList_alloc_to rfl 24 rfl _ zero24 ?_; replace HW := Lib.hid (HW.out.alloc HW.out.size (.cells (ints z26) 24)); have HF := Lib.hid (heap_alloc_new w1 (.cells (ints z26) 24)))
    | ((with_reducible change wpList _ _ _ (⟨_, .store 24 (.tmp 1) (.tmp 6), _, _, _, _⟩ :: _) _ _); refine wpList_store_row rfl 24 (.tmp 1) (.tmp 6) rfl _ (ints (4 :: 1 :: defs)) rfl rfl 24 _ HF.out (by rw [ints_size]; exact size24) (by rw [ints_size, ints_size]; rfl) (ints_one _) ?_; replace HF := Lib.hid (heap_set (ints (4 :: 1 :: defs)) HF.out); replace HW := Lib.hid (below_setRow' HW.out (g := w1.heap.size) hsz (ints (4 :: 1 :: defs))))
    | ((with_reducible change wpList _ _ _ (⟨_, .load 24 (.tmp 1), _, _, _, _⟩ :: _) _ _); refine wpList_load_cells rfl 24 (.tmp 1) rfl ⟨w1.heap.size, 0, none⟩ rfl (ints (4 :: 1 :: defs)) _ (cells_of_heap HF.out) Try.underlying24 rfl size24 (by rw [ints_size]; rfl) ?_)
    | (go_at_call 7; refine (cost_awake _).mono ?_; rintro e w2 ⟨rfl, hb2⟩; replace HF := Lib.hid (heap_kept HF.out hb2); replace HW := Lib.hid (below_then' HW.out hb2); clear hb2)
    | (go_at_call 15; refine (secs_awake _).mono ?_; rintro e w3 ⟨v, rfl, hown, hb3⟩; obtain ⟨g, cap, rfl, hg, hcells⟩ := own_open hown (by omega); have hc2 := hcells 2 (by omega); rw [show ([4, 4, 2] : List Int).getD 2 0 = 2 from rfl] at hc2; clear hcells hown; replace HF := Lib.hid (heap_kept HF.out hb3); replace HW := Lib.hid (below_then' HW.out hb3); clear hb3)
    | (go_at_call 17; (first | (with_reducible refine (pre_awake1 _).mono ?_) | (with_reducible refine (pre_awake2 _).mono ?_)); rintro e w4 ⟨rfl, hb4⟩; replace HF := Lib.hid (heap_kept HF.out hb4); replace HW := Lib.hid (below_then' HW.out hb4); clear hb4))
  go_ret
  exact ⟨rfl, HW.out⟩
end Go.Proofs.Ytofibebphfeglaa
