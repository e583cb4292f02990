/- The law of the texts. -/
import Derived.Test.YtofibebphfeglaaDoorX12
namespace Go.Proofs.YtofibebphfeglaaDoor
open Go.RowKit
set_option linter.unusedVariables false
theorem zero36 : (Tryd.prog.info? 36).map (·.zero) = some (some (.agg (flt 0 0))) := by kernel_rfl
theorem cells_row {w : World} {g : Nat} {cs : Array Value} {T : TypeId} {fr : Nat × Nat} (h : w.heap[g]? = some (.cells cs T fr)) : ∀ j v, cs[j]? = some v → w.cell? ((⟨g, 0, none⟩ : Addr).add j) = some v := by
  intro j v hv
  rw [add_at, cell_of_row _ _ _ _ _ _ h]
  simpa using hv
theorem flt_one (x y : Int) : (flt x y).all (·.oneCell') = true := by simp [flt, Value.oneCell']
/-- A fresh pair of a table and a fault, filled. -/
theorem pair_rows (W : World) (T : TypeId) (Y : List Int) (y z : Int) :
    ((((W.alloc (.cells (ints z26) T)).alloc (.cells (flt 0 0) 36)).setRow W.heap.size (ints Y)).setRow (W.heap.size + 1) (flt y z)).heap[W.heap.size]? = some (.cells (ints Y) T (0, 0)) ∧
    ((((W.alloc (.cells (ints z26) T)).alloc (.cells (flt 0 0) 36)).setRow W.heap.size (ints Y)).setRow (W.heap.size + 1) (flt y z)).heap[W.heap.size + 1]? = some (.cells (flt y z) 36 (0, 0)) ∧
    Below W.heap.size W ((((W.alloc (.cells (ints z26) T)).alloc (.cells (flt 0 0) 36)).setRow W.heap.size (ints Y)).setRow (W.heap.size + 1) (flt y z)) ∧
    ((W.alloc (.cells (ints z26) T)).alloc (.cells (flt 0 0) 36)).heap[W.heap.size]? = some (.cells (ints z26) T (0, 0)) ∧
    (((W.alloc (.cells (ints z26) T)).alloc (.cells (flt 0 0) 36)).setRow W.heap.size (ints Y)).heap[W.heap.size + 1]? = some (.cells (flt 0 0) 36 (0, 0)) := by
  have h1 := heap_alloc_new W (.cells (ints z26) T)
  have h2 := heap_alloc_new (W.alloc (.cells (ints z26) T)) (.cells (flt 0 0) 36)
  rw [World.size_alloc] at h2
  have h1' := (Below.heap_alloc (W.alloc (.cells (ints z26) T)) (.cells (flt 0 0) 36) W.heap.size (by simp)).trans h1
  have h3 := (setRow_other _ W.heap.size (W.heap.size + 1) (ints Y) (by omega)).trans h2
  refine ⟨(setRow_other _ _ _ _ (by omega)).trans (setRow_heap _ _ _ _ _ _ h1'), setRow_heap _ _ _ _ _ _ h3, ?_, h1', h3⟩
  exact below_setRow' (below_setRow' (((Below.refl _ W).alloc (Nat.le_refl _) _).alloc (by simp) _) (Nat.le_refl _) _) (by omega) _
set_option maxHeartbeats 4000000 in
set_option maxRecDepth 100000 in
theorem texts_law (s c : Int) (l : List Int) (hl : l.length = 24) (t : Bs) (w : World) (hN : NamesAt w) (hP : PowAt w) :
    Calls Tryd.prog 4 #[.agg (ints (s :: c :: l)), .string ⟨t.toArray⟩] w fun e w' => e = .returned (.bool true) ∧ Below w.heap.size w w' := by
  by_cases hg : 1000 < t.length ∧ t.length ≤ 65536
  · obtain ⟨h1, h2⟩ := hg
    have h1' : (1000 : Int) < t.length := by omega
    have h2' : (t.length : Int) ≤ 65536 := by omega
    have HW := Lib.hid ((Below.refl w.heap.size w).alloc (Nat.le_refl _) (.cells (ints (s :: c :: l)) 28))
    clear h1 h2
    go_enter Tryd.func4, Tryd.ntmps4
    go_wp2_with (go_at_call 6; refine (awake_calls _).mono ?_; rintro e w1 ⟨rfl, hb⟩; replace HW := Lib.hid (below_then' HW.out hb); clear hb)
    go_ret
    exact ⟨rfl, HW.out⟩
  · obtain ⟨X, hX⟩ : ∃ X : Bs, (if okT s c l = true then bstr (textS s c l) else bstr []) = .string ⟨X.toArray⟩ := ⟨if okT s c l = true then textS s c l else [], by split <;> rfl⟩
    have HT : Hid (∀ W, NamesAt W → PowAt W → Calls Tryd.prog 11 #[.agg (ints (s :: c :: l))] W fun e w' => e = .returned (.tuple #[.string ⟨X.toArray⟩, .int .i64 (chk s c l)]) ∧ Below W.heap.size W w') := Lib.hid fun W h1 h2 => by
      rw [← hX]; exact text_calls s c l hl W h1 h2
    have HRT : Hid (∀ W, Calls Tryd.prog 12 #[.agg (ints (s :: c :: l))] W fun e w' => e = .returned (.tuple #[.string ⟨X.toArray⟩, .int .i64 (chk s c l)]) ∧ Below W.heap.size W w') := Lib.hid fun W => by
      rw [← hX]; exact rtext_calls s c l hl W
    have HPA : Hid (∀ W, NamesAt W → Calls Tryd.prog 14 #[.string ⟨t.toArray⟩] W fun e w' => e = .returned (.tuple #[.agg (ints (parsed t).1), .agg (flt (parsed t).2.1 (parsed t).2.2)]) ∧ Below W.heap.size W w') := Lib.hid fun W h => parse_calls t W h
    have HRP : Hid (∀ W, Calls Tryd.prog 15 #[.string ⟨t.toArray⟩] W fun e w' => e = .returned (.tuple #[.agg (ints (parsed t).1), .agg (flt (parsed t).2.1 (parsed t).2.2)]) ∧ Below W.heap.size W w') := Lib.hid fun W => rparse_calls t W
    have HY := Lib.hid (parsed_len t)
    have HNP := Lib.hid (And.intro hN hP)
    have H := Lib.hid hl
    have HW := Lib.hid ((Below.refl w.heap.size w).alloc (Nat.le_refl _) (.cells (ints (s :: c :: l)) 28))
    have HF := Lib.hid (heap_alloc_new w (.cells (ints (s :: c :: l)) 28))
    have hS28 : Hid ((Tryd.prog.info? 28).map (·.size) = some (ints (parsed t).1).size) := Lib.hid (by rw [ints_size, HY.out]; exact size28)
    have hS33 : Hid ((Tryd.prog.info? 33).map (·.size) = some (ints (parsed t).1).size) := Lib.hid (by rw [ints_size, HY.out]; exact size33)
    have hZZ : Hid ((ints z26).size = (ints (parsed t).1).size) := Lib.hid (by rw [ints_size, ints_size, HY.out]; rfl)
    clear hX hN hP hl
    generalize chk s c l = E at *
    generalize parsed t = P at *
    obtain ⟨Y, y, z⟩ := P
    simp only at HPA HRP HY hS28 hS33 hZZ
    have heq33 := eq33 HY.out
    have heq36 := eq36 y z
    rcases (by omega : (1000 : Int) < t.length ∧ ¬ (t.length : Int) ≤ 65536 ∨ ¬ (1000 : Int) < t.length) with hA | hA
    all_goals
      first | (obtain ⟨h1, h2⟩ := hA) | skip
      clear hg
      go_enter Tryd.func4, Tryd.ntmps4
      go_wp2_with (first
        | ((with_reducible change wpList _ _ _ (⟨_, .load 28 (.tmp 2), _, _, _, _⟩ :: _) _ _); refine wpList_load_cells rfl 28 (.tmp 2) rfl ⟨w.heap.size, 0, none⟩ rfl (ints (s :: c :: l)) _ (cells_of_heap HF.out) Tryd.underlying28 rfl size28 (by rw [ints_size]; simp only [List.length_cons, H.out]) ?_)
        | (go_at_call 11; refine (HT.out _ (HNP.out.1.below HW.out) (HNP.out.2.below HW.out)).mono ?_; rintro e w1 ⟨rfl, hb⟩; replace HF := Lib.hid (heap_kept HF.out hb); replace HW := Lib.hid (below_then' HW.out hb); clear hb)
        | (go_at_call 13; refine (from_calls s c l H.out _).mono ?_; rintro e w2 ⟨rfl, hb⟩; replace HF := Lib.hid (heap_kept HF.out hb); replace HW := Lib.hid (below_then' HW.out hb); clear hb)
        | (go_at_call 12; refine (HRT.out _).mono ?_; rintro e w3 ⟨rfl, hb⟩; replace HF := Lib.hid (heap_kept HF.out hb); replace HW := Lib.hid (below_then' HW.out hb); clear hb)
        | (go_at_call 14; refine (HPA.out _ (HNP.out.1.below HW.out)).mono ?_; rintro e w5 ⟨rfl, hb⟩; replace HF := Lib.hid (heap_kept HF.out hb); replace HW := Lib.hid (below_then' HW.out hb); clear hb; have H9 := Lib.hid (pair_rows w5 28 Y y z))
        | ((with_reducible change wpList _ _ _ (⟨_, .alloc 28, _, _, _, _⟩ :: _) _ _); refine wpList_alloc_to rfl 28 rfl (ints z26) zero28 ?_)
        | ((with_reducible change wpList _ _ _ (⟨_, .alloc 33, _, _, _, _⟩ :: _) _ _); refine wpList_alloc_to rfl 33 rfl (ints z26) zero33 ?_)
        | ((with_reducible change wpList _ _ _ (⟨_, .alloc 36, _, _, _, _⟩ :: _) _ _); refine wpList_alloc_to rfl 36 rfl (flt 0 0) zero36 ?_; rw [World.size_alloc])
        | ((with_reducible change wpList _ _ _ (⟨_, .store 28 _ _, _, _, _, _⟩ :: _) _ _); refine wpList_store_row rfl 28 (.tmp 9) (.tmp 36) rfl w5.heap.size (ints Y) rfl rfl 28 _ H9.out.2.2.2.1 hS28.out hZZ.out (ints_one _) ?_)
        | ((with_reducible change wpList _ _ _ (⟨_, .store 36 _ _, _, _, _, _⟩ :: _) _ _); refine wpList_store_row rfl 36 (.tmp 10) (.tmp 37) rfl (w5.heap.size + 1) (flt y z) rfl rfl 36 _ H9.out.2.2.2.2 size36 rfl (flt_one _ _) ?_; replace HF := Lib.hid (heap_kept HF.out H9.out.2.2.1); replace HW := Lib.hid (below_then' HW.out H9.out.2.2.1))
        | (go_at_call 15; refine (HRP.out _).mono ?_; rintro e w6 ⟨rfl, hb⟩; have R9 := Lib.hid (heap_kept H9.out.1 hb); have R10 := Lib.hid (heap_kept H9.out.2.1 hb); replace HF := Lib.hid (heap_kept HF.out hb); replace HW := Lib.hid (below_then' HW.out hb); clear hb; have H11 := Lib.hid (pair_rows w6 33 Y y z))
        | ((with_reducible change wpList _ _ _ (⟨_, .store 33 _ _, _, _, _, _⟩ :: _) _ _); refine wpList_store_row rfl 33 (.tmp 11) (.tmp 41) rfl w6.heap.size (ints Y) rfl rfl 33 _ H11.out.2.2.2.1 hS33.out hZZ.out (ints_one _) ?_)
        | ((with_reducible change wpList _ _ _ (⟨_, .store 36 _ _, _, _, _, _⟩ :: _) _ _); refine wpList_store_row rfl 36 (.tmp 12) (.tmp 42) rfl (w6.heap.size + 1) (flt y z) rfl rfl 36 _ H11.out.2.2.2.2 size36 rfl (flt_one _ _) ?_; replace R9 := Lib.hid (heap_kept R9.out H11.out.2.2.1); replace R10 := Lib.hid (heap_kept R10.out H11.out.2.2.1); replace HW := Lib.hid (below_then' HW.out H11.out.2.2.1)))
      refine wp_region_quiet_below (by kernel_rfl) (by kernel_rfl) ?_
      obtain ⟨y0, Y', hy⟩ : ∃ y0 Y', Y = y0 :: Y' := by
        have := HY.out
        match Y, this with
        | a :: b, _ => exact ⟨_, _, rfl⟩
      obtain ⟨y1, Y'', hy2⟩ : ∃ y0 Y'', Y' = y0 :: Y'' := by
        have := HY.out
        rw [hy] at this
        match Y', this with
        | a :: b, _ => exact ⟨_, _, rfl⟩
      have HFR : Hid (∀ W, Calls Tryd.prog 13 #[.agg (ints Y)] W fun e w' => e = .returned (.agg (ints Y)) ∧ Below W.heap.size W w') := Lib.hid fun W => by
        rw [hy, hy2]
        exact from_calls y0 y1 Y'' (by have := HY.out; rw [hy, hy2] at this; simpa using this) W
      clear hy hy2
      repeat (first
        | ((with_reducible change wpQuiet _ _ _ _ (⟨_, .load 28 _, _, _, _, _⟩ :: _) _); refine wpQuiet_load_cells rfl 28 (.tmp 9) rfl ⟨w5.heap.size, 0, none⟩ rfl (ints Y) _ (cells_row R9.out) Tryd.underlying28 rfl hS28.out rfl ?_)
        | ((with_reducible change wpQuiet _ _ _ _ (⟨_, .load 33 _, _, _, _, _⟩ :: _) _); refine wpQuiet_load_cells rfl 33 (.tmp 11) rfl ⟨w6.heap.size, 0, none⟩ rfl (ints Y) _ (cells_row H11.out.1) Tryd.underlying33 rfl hS33.out rfl ?_)
        | ((with_reducible change wpQuiet _ _ _ _ (⟨_, .load 36 (.tmp 10), _, _, _, _⟩ :: _) _); refine wpQuiet_load_cells rfl 36 (.tmp 10) rfl ⟨w5.heap.size + 1, 0, none⟩ rfl (flt y z) _ (cells_row R10.out) Tryd.underlying36 rfl size36 rfl ?_)
        | ((with_reducible change wpQuiet _ _ _ _ (⟨_, .load 36 (.tmp 12), _, _, _, _⟩ :: _) _); refine wpQuiet_load_cells rfl 36 (.tmp 12) rfl ⟨w6.heap.size + 1, 0, none⟩ rfl (flt y z) _ (cells_row H11.out.2.1) Tryd.underlying36 rfl size36 rfl ?_)
        | quiet_step (first
            | (go_at_call 13; exact (HFR.out _).regrown_of)
            | (go_at_call 6; exact (awake_calls _).regrown_of)))
      refine wpQuiet_nil ?_
      intro w8 hw8
      have hb8 := Lib.hid (below_of_regrown hw8)
      clear hw8
      go_wp2
      go_ret
      exact ⟨rfl, below_then' HW.out hb8.out⟩
end Go.Proofs.YtofibebphfeglaaDoor
