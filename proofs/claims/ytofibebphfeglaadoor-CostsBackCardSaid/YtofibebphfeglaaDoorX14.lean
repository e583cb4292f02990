/- The law of the way back. -/
import Derived.Test.YtofibebphfeglaaDoorX13
import Derived.Test.YtofibebphfeglaaDoorY3
namespace Go.Proofs.YtofibebphfeglaaDoor
open Go.RowKit
set_option linter.unusedVariables false
theorem flt_cell {w : World} {g : Nat} {x y : Int} {T : TypeId} (h : w.heap[g]? = some (.cells (flt x y) T (0, 0))) : w.cell? ⟨g, 0, none⟩ = some (.int .i64 x) ∧ w.cell? ⟨g, 1, none⟩ = some (.int .i64 y) :=
  ⟨cell_of_row _ _ _ _ _ _ h, cell_of_row _ _ _ _ _ _ h⟩
set_option maxHeartbeats 4000000 in
set_option maxRecDepth 100000 in
theorem back_law (s c : Int) (l : List Int) (hl : l.length = 24) (t : Bs) (w : World) (hN : NamesAt w) (hP : PowAt w) :
    Calls Tryd.prog 5 #[.agg (ints (s :: c :: l)), .string ⟨t.toArray⟩] w fun e w' => e = .returned (.bool true) ∧ Below w.heap.size w w' := by
  have HNP := Lib.hid (And.intro hN hP)
  have H := Lib.hid hl
  have HW := Lib.hid ((Below.refl w.heap.size w).alloc (Nat.le_refl _) (.cells (ints (s :: c :: l)) 28))
  have HF := Lib.hid (heap_alloc_new w (.cells (ints (s :: c :: l)) 28))
  by_cases hg : 1000 < t.length
  · have h1' : (1000 : Int) < t.length := by omega
    clear hg hN hP
    go_enter Tryd.func5, Tryd.ntmps5
    go_wp2_with (go_at_call 6; refine (awake_calls _).mono ?_; rintro e w1 ⟨rfl, hb⟩; replace HW := Lib.hid (below_then' HW.out hb); clear hb)
    go_ret
    exact ⟨rfl, HW.out⟩
  · have h1' : ¬ (1000 : Int) < t.length := by omega
    have HPB : Hid (∀ W, NamesAt W → Calls Tryd.prog 14 #[.string ⟨t.toArray⟩] W fun e w' => e = .returned (.tuple #[.agg (ints (parsed t).1), .agg (flt (parsed t).2.1 (parsed t).2.2)]) ∧ Below W.heap.size W w') := Lib.hid fun W h => parse_calls t W h
    have HY := Lib.hid (parsed_len t)
    have HTP := Lib.hid (@text_parsed t)
    have hne := neq28 (Y := s :: c :: l) (by simp [hl])
    have hS28 : Hid ((Tryd.prog.info? 28).map (·.size) = some (ints (parsed t).1).size) := Lib.hid (by rw [ints_size, HY.out]; exact size28)
    have hZZ : Hid ((ints z26).size = (ints (parsed t).1).size) := Lib.hid (by rw [ints_size, ints_size, HY.out]; rfl)
    have hS28' : Hid ((Tryd.prog.info? 28).map (·.size) = some (ints (s :: c :: l)).size) := Lib.hid (by rw [ints_size]; simp only [List.length_cons, hl]; exact size28)
    have hZZ' : Hid ((ints z26).size = (ints (s :: c :: l)).size) := Lib.hid (by rw [ints_size, ints_size]; simp only [List.length_cons, hl]; rfl)
    have HT0 := Lib.hid fun W h1 h2 => text_calls s c l hl W h1 h2
    clear hg hN hP hl
    cases hok : okT s c l with
    | false =>
      have HT : Hid (∀ W, NamesAt W → PowAt W → Calls Tryd.prog 11 #[.agg (ints (s :: c :: l))] W fun e w' => e = .returned (.tuple #[.string ⟨([] : Bs).toArray⟩, .int .i64 34]) ∧ Below W.heap.size W w') := Lib.hid fun W h1 h2 => by
        have := HT0.out W h1 h2
        rw [hok, chk_f hok] at this
        exact this
      clear HT0 hok
      by_cases hz : (parsed t).2.2 = 0
      · obtain ⟨s2, c2, l2, hy, hl2, hok2, htx⟩ := HTP.out hz
        have HT2 : Hid (∀ W, NamesAt W → PowAt W → Calls Tryd.prog 11 #[.agg (ints (parsed t).1)] W fun e w' => e = .returned (.tuple #[.string ⟨t.toArray⟩, .int .i64 0]) ∧ Below W.heap.size W w') := Lib.hid fun W h1 h2 => by
          have := text_calls s2 c2 l2 hl2 W h1 h2
          rw [if_pos hok2, htx, chk_t hok2, ← hy] at this
          exact this
        clear hy hl2 hok2 htx
        clear HTP
        generalize parsed t = P at *
        obtain ⟨Y, y, z⟩ := P
        simp only at HPB HY hS28 hZZ hz HT2
        subst hz
        go_enter Tryd.func5, Tryd.ntmps5
        go_wp2_with (first
        | ((with_reducible change wpList _ _ _ (⟨_, .load 28 (.tmp 2), _, _, _, _⟩ :: _) _ _); refine wpList_load_cells rfl 28 (.tmp 2) rfl ⟨w.heap.size, 0, none⟩ rfl (ints (s :: c :: l)) _ (cells_of_heap HF.out) Tryd.underlying28 rfl size28 (by rw [ints_size]; simp only [List.length_cons, H.out]) ?_)
        | ((with_reducible change wpList _ _ _ (⟨_, .load 28 (.tmp 7), _, _, _, _⟩ :: _) _ _); refine wpList_load_cells rfl 28 (.tmp 7) rfl ⟨w5.heap.size, 0, none⟩ rfl (ints (s :: c :: l)) _ (cells_of_heap R7.out) Tryd.underlying28 rfl size28 (by rw [ints_size]; simp only [List.length_cons, H.out]) ?_)
        | ((with_reducible change wpList _ _ _ (⟨_, .load 28 (.tmp 9), _, _, _, _⟩ :: _) _ _); refine wpList_load_cells rfl 28 (.tmp 9) rfl ⟨w6.heap.size, 0, none⟩ rfl (ints Y) _ (cells_of_heap R9.out.1) Tryd.underlying28 rfl hS28.out rfl ?_)
        | (go_at_call 11; with_reducible refine (HT.out _ (HNP.out.1.below HW.out) (HNP.out.2.below HW.out)).mono ?_; rintro e w1 ⟨rfl, hb⟩; replace HF := Lib.hid (heap_kept HF.out hb); replace HW := Lib.hid (below_then' HW.out hb); clear hb)
        | (go_at_call 11; refine (HT2.out _ (HNP.out.1.below HW.out) (HNP.out.2.below HW.out)).mono ?_; rintro e w7 ⟨rfl, hb⟩; replace HW := Lib.hid (below_then' HW.out hb); clear hb)
        | (go_at_call 14; with_reducible refine (HPA.out _ (HNP.out.1.below HW.out)).mono ?_; rintro e w5 ⟨rfl, hb⟩; replace HF := Lib.hid (heap_kept HF.out hb); replace HW := Lib.hid (below_then' HW.out hb); clear hb; have H7 := Lib.hid (pair_rows w5 28 (s :: c :: l) 0 0))
        | (go_at_call 14; refine (HPB.out _ (HNP.out.1.below HW.out)).mono ?_; rintro e w6 ⟨rfl, hb⟩; replace HW := Lib.hid (below_then' HW.out hb); clear hb; have H9 := Lib.hid (pair_rows w6 28 Y y 0))
        | ((with_reducible change wpList _ _ _ (⟨_, .alloc 28, _, _, _, _⟩ :: _) _ _); refine wpList_alloc_to rfl 28 rfl (ints z26) zero28 ?_)
        | ((with_reducible change wpList _ _ _ (⟨_, .alloc 36, _, _, _, _⟩ :: _) _ _); refine wpList_alloc_to rfl 36 rfl (flt 0 0) zero36 ?_; rw [World.size_alloc])
        | ((with_reducible change wpList _ _ _ (⟨_, .store 28 (.tmp 7) _, _, _, _, _⟩ :: _) _ _); refine wpList_store_row rfl 28 (.tmp 7) (.tmp 27) rfl w5.heap.size (ints (s :: c :: l)) rfl rfl 28 _ H7.out.2.2.2.1 hS28'.out hZZ'.out (ints_one _) ?_)
        | ((with_reducible change wpList _ _ _ (⟨_, .store 36 (.tmp 8) _, _, _, _, _⟩ :: _) _ _); refine wpList_store_row rfl 36 (.tmp 8) (.tmp 28) rfl (w5.heap.size + 1) (flt 0 0) rfl rfl 36 _ H7.out.2.2.2.2 size36 rfl (flt_one _ _) ?_; replace HF := Lib.hid (heap_kept HF.out H7.out.2.2.1); replace HW := Lib.hid (below_then' HW.out H7.out.2.2.1); have R7 := Lib.hid H7.out.1; obtain ⟨c70, c71⟩ := flt_cell H7.out.2.1)
        | ((with_reducible change wpList _ _ _ (⟨_, .store 28 (.tmp 9) _, _, _, _, _⟩ :: _) _ _); refine wpList_store_row rfl 28 (.tmp 9) (.tmp 45) rfl w6.heap.size (ints Y) rfl rfl 28 _ H9.out.2.2.2.1 hS28.out hZZ.out (ints_one _) ?_)
        | ((with_reducible change wpList _ _ _ (⟨_, .store 36 (.tmp 10) _, _, _, _, _⟩ :: _) _ _); refine wpList_store_row rfl 36 (.tmp 10) (.tmp 46) rfl (w6.heap.size + 1) (flt y 0) rfl rfl 36 _ H9.out.2.2.2.2 size36 rfl (flt_one _ _) ?_; replace HW := Lib.hid (below_then' HW.out H9.out.2.2.1); have R9 := Lib.hid H9.out; obtain ⟨c90, c91⟩ := flt_cell H9.out.2.1)
        | (go_at_call 6; refine (awake_calls _).mono ?_; rintro e w8 ⟨rfl, hb⟩; replace HW := Lib.hid (below_then' HW.out hb); clear hb))
        all_goals
          go_ret
          exact ⟨rfl, HW.out⟩
      · skip
        clear HTP
        generalize parsed t = P at *
        obtain ⟨Y, y, z⟩ := P
        simp only at HPB HY hS28 hZZ hz 
        skip
        go_enter Tryd.func5, Tryd.ntmps5
        go_wp2_with (first
        | ((with_reducible change wpList _ _ _ (⟨_, .load 28 (.tmp 2), _, _, _, _⟩ :: _) _ _); refine wpList_load_cells rfl 28 (.tmp 2) rfl ⟨w.heap.size, 0, none⟩ rfl (ints (s :: c :: l)) _ (cells_of_heap HF.out) Tryd.underlying28 rfl size28 (by rw [ints_size]; simp only [List.length_cons, H.out]) ?_)
        | ((with_reducible change wpList _ _ _ (⟨_, .load 28 (.tmp 7), _, _, _, _⟩ :: _) _ _); refine wpList_load_cells rfl 28 (.tmp 7) rfl ⟨w5.heap.size, 0, none⟩ rfl (ints (s :: c :: l)) _ (cells_of_heap R7.out) Tryd.underlying28 rfl size28 (by rw [ints_size]; simp only [List.length_cons, H.out]) ?_)
        | ((with_reducible change wpList _ _ _ (⟨_, .load 28 (.tmp 9), _, _, _, _⟩ :: _) _ _); refine wpList_load_cells rfl 28 (.tmp 9) rfl ⟨w6.heap.size, 0, none⟩ rfl (ints Y) _ (cells_of_heap R9.out.1) Tryd.underlying28 rfl hS28.out rfl ?_)
        | (go_at_call 11; with_reducible refine (HT.out _ (HNP.out.1.below HW.out) (HNP.out.2.below HW.out)).mono ?_; rintro e w1 ⟨rfl, hb⟩; replace HF := Lib.hid (heap_kept HF.out hb); replace HW := Lib.hid (below_then' HW.out hb); clear hb)
        | (go_at_call 11; refine (HT2.out _ (HNP.out.1.below HW.out) (HNP.out.2.below HW.out)).mono ?_; rintro e w7 ⟨rfl, hb⟩; replace HW := Lib.hid (below_then' HW.out hb); clear hb)
        | (go_at_call 14; with_reducible refine (HPA.out _ (HNP.out.1.below HW.out)).mono ?_; rintro e w5 ⟨rfl, hb⟩; replace HF := Lib.hid (heap_kept HF.out hb); replace HW := Lib.hid (below_then' HW.out hb); clear hb; have H7 := Lib.hid (pair_rows w5 28 (s :: c :: l) 0 0))
        | (go_at_call 14; refine (HPB.out _ (HNP.out.1.below HW.out)).mono ?_; rintro e w6 ⟨rfl, hb⟩; replace HW := Lib.hid (below_then' HW.out hb); clear hb; have H9 := Lib.hid (pair_rows w6 28 Y y z))
        | ((with_reducible change wpList _ _ _ (⟨_, .alloc 28, _, _, _, _⟩ :: _) _ _); refine wpList_alloc_to rfl 28 rfl (ints z26) zero28 ?_)
        | ((with_reducible change wpList _ _ _ (⟨_, .alloc 36, _, _, _, _⟩ :: _) _ _); refine wpList_alloc_to rfl 36 rfl (flt 0 0) zero36 ?_; rw [World.size_alloc])
        | ((with_reducible change wpList _ _ _ (⟨_, .store 28 (.tmp 7) _, _, _, _, _⟩ :: _) _ _); refine wpList_store_row rfl 28 (.tmp 7) (.tmp 27) rfl w5.heap.size (ints (s :: c :: l)) rfl rfl 28 _ H7.out.2.2.2.1 hS28'.out hZZ'.out (ints_one _) ?_)
        | ((with_reducible change wpList _ _ _ (⟨_, .store 36 (.tmp 8) _, _, _, _, _⟩ :: _) _ _); refine wpList_store_row rfl 36 (.tmp 8) (.tmp 28) rfl (w5.heap.size + 1) (flt 0 0) rfl rfl 36 _ H7.out.2.2.2.2 size36 rfl (flt_one _ _) ?_; replace HF := Lib.hid (heap_kept HF.out H7.out.2.2.1); replace HW := Lib.hid (below_then' HW.out H7.out.2.2.1); have R7 := Lib.hid H7.out.1; obtain ⟨c70, c71⟩ := flt_cell H7.out.2.1)
        | ((with_reducible change wpList _ _ _ (⟨_, .store 28 (.tmp 9) _, _, _, _, _⟩ :: _) _ _); refine wpList_store_row rfl 28 (.tmp 9) (.tmp 45) rfl w6.heap.size (ints Y) rfl rfl 28 _ H9.out.2.2.2.1 hS28.out hZZ.out (ints_one _) ?_)
        | ((with_reducible change wpList _ _ _ (⟨_, .store 36 (.tmp 10) _, _, _, _, _⟩ :: _) _ _); refine wpList_store_row rfl 36 (.tmp 10) (.tmp 46) rfl (w6.heap.size + 1) (flt y z) rfl rfl 36 _ H9.out.2.2.2.2 size36 rfl (flt_one _ _) ?_; replace HW := Lib.hid (below_then' HW.out H9.out.2.2.1); have R9 := Lib.hid H9.out; obtain ⟨c90, c91⟩ := flt_cell H9.out.2.1)
        | (go_at_call 6; refine (awake_calls _).mono ?_; rintro e w8 ⟨rfl, hb⟩; replace HW := Lib.hid (below_then' HW.out hb); clear hb))
        all_goals
          go_ret
          exact ⟨rfl, HW.out⟩
    | true =>
      have HT : Hid (∀ W, NamesAt W → PowAt W → Calls Tryd.prog 11 #[.agg (ints (s :: c :: l))] W fun e w' => e = .returned (.tuple #[.string ⟨(textS s c l).toArray⟩, .int .i64 0]) ∧ Below W.heap.size W w') := Lib.hid fun W h1 h2 => by
        have := HT0.out W h1 h2
        rw [if_pos hok, chk_t hok] at this
        exact this
      have HPA : Hid (∀ W, NamesAt W → Calls Tryd.prog 14 #[.string ⟨(textS s c l).toArray⟩] W fun e w' => e = .returned (.tuple #[.agg (ints (s :: c :: l)), .agg (flt 0 0)]) ∧ Below W.heap.size W w') := Lib.hid fun W h => by
        have := parse_calls (textS s c l) W h
        rw [parsed_text H.out hok] at this
        exact this
      generalize textS s c l = X at *
      clear HT0 hok
      by_cases hz : (parsed t).2.2 = 0
      · obtain ⟨s2, c2, l2, hy, hl2, hok2, htx⟩ := HTP.out hz
        have HT2 : Hid (∀ W, NamesAt W → PowAt W → Calls Tryd.prog 11 #[.agg (ints (parsed t).1)] W fun e w' => e = .returned (.tuple #[.string ⟨t.toArray⟩, .int .i64 0]) ∧ Below W.heap.size W w') := Lib.hid fun W h1 h2 => by
          have := text_calls s2 c2 l2 hl2 W h1 h2
          rw [if_pos hok2, htx, chk_t hok2, ← hy] at this
          exact this
        clear hy hl2 hok2 htx
        clear HTP
        generalize parsed t = P at *
        obtain ⟨Y, y, z⟩ := P
        simp only at HPB HY hS28 hZZ hz HT2
        subst hz
        go_enter Tryd.func5, Tryd.ntmps5
        go_wp2_with (first
        | ((with_reducible change wpList _ _ _ (⟨_, .load 28 (.tmp 2), _, _, _, _⟩ :: _) _ _); refine wpList_load_cells rfl 28 (.tmp 2) rfl ⟨w.heap.size, 0, none⟩ rfl (ints (s :: c :: l)) _ (cells_of_heap HF.out) Tryd.underlying28 rfl size28 (by rw [ints_size]; simp only [List.length_cons, H.out]) ?_)
        | ((with_reducible change wpList _ _ _ (⟨_, .load 28 (.tmp 7), _, _, _, _⟩ :: _) _ _); refine wpList_load_cells rfl 28 (.tmp 7) rfl ⟨w5.heap.size, 0, none⟩ rfl (ints (s :: c :: l)) _ (cells_of_heap R7.out) Tryd.underlying28 rfl size28 (by rw [ints_size]; simp only [List.length_cons, H.out]) ?_)
        | ((with_reducible change wpList _ _ _ (⟨_, .load 28 (.tmp 9), _, _, _, _⟩ :: _) _ _); refine wpList_load_cells rfl 28 (.tmp 9) rfl ⟨w6.heap.size, 0, none⟩ rfl (ints Y) _ (cells_of_heap R9.out.1) Tryd.underlying28 rfl hS28.out rfl ?_)
        | (go_at_call 11; with_reducible refine (HT.out _ (HNP.out.1.below HW.out) (HNP.out.2.below HW.out)).mono ?_; rintro e w1 ⟨rfl, hb⟩; replace HF := Lib.hid (heap_kept HF.out hb); replace HW := Lib.hid (below_then' HW.out hb); clear hb)
        | (go_at_call 11; refine (HT2.out _ (HNP.out.1.below HW.out) (HNP.out.2.below HW.out)).mono ?_; rintro e w7 ⟨rfl, hb⟩; replace HW := Lib.hid (below_then' HW.out hb); clear hb)
        | (go_at_call 14; with_reducible refine (HPA.out _ (HNP.out.1.below HW.out)).mono ?_; rintro e w5 ⟨rfl, hb⟩; replace HF := Lib.hid (heap_kept HF.out hb); replace HW := Lib.hid (below_then' HW.out hb); clear hb; have H7 := Lib.hid (pair_rows w5 28 (s :: c :: l) 0 0))
        | (go_at_call 14; refine (HPB.out _ (HNP.out.1.below HW.out)).mono ?_; rintro e w6 ⟨rfl, hb⟩; replace HW := Lib.hid (below_then' HW.out hb); clear hb; have H9 := Lib.hid (pair_rows w6 28 Y y 0))
        | ((with_reducible change wpList _ _ _ (⟨_, .alloc 28, _, _, _, _⟩ :: _) _ _); refine wpList_alloc_to rfl 28 rfl (ints z26) zero28 ?_)
        | ((with_reducible change wpList _ _ _ (⟨_, .alloc 36, _, _, _, _⟩ :: _) _ _); refine wpList_alloc_to rfl 36 rfl (flt 0 0) zero36 ?_; rw [World.size_alloc])
        | ((with_reducible change wpList _ _ _ (⟨_, .store 28 (.tmp 7) _, _, _, _, _⟩ :: _) _ _); refine wpList_store_row rfl 28 (.tmp 7) (.tmp 27) rfl w5.heap.size (ints (s :: c :: l)) rfl rfl 28 _ H7.out.2.2.2.1 hS28'.out hZZ'.out (ints_one _) ?_)
        | ((with_reducible change wpList _ _ _ (⟨_, .store 36 (.tmp 8) _, _, _, _, _⟩ :: _) _ _); refine wpList_store_row rfl 36 (.tmp 8) (.tmp 28) rfl (w5.heap.size + 1) (flt 0 0) rfl rfl 36 _ H7.out.2.2.2.2 size36 rfl (flt_one _ _) ?_; replace HF := Lib.hid (heap_kept HF.out H7.out.2.2.1); replace HW := Lib.hid (below_then' HW.out H7.out.2.2.1); have R7 := Lib.hid H7.out.1; obtain ⟨c70, c71⟩ := flt_cell H7.out.2.1)
        | ((with_reducible change wpList _ _ _ (⟨_, .store 28 (.tmp 9) _, _, _, _, _⟩ :: _) _ _); refine wpList_store_row rfl 28 (.tmp 9) (.tmp 45) rfl w6.heap.size (ints Y) rfl rfl 28 _ H9.out.2.2.2.1 hS28.out hZZ.out (ints_one _) ?_)
        | ((with_reducible change wpList _ _ _ (⟨_, .store 36 (.tmp 10) _, _, _, _, _⟩ :: _) _ _); refine wpList_store_row rfl 36 (.tmp 10) (.tmp 46) rfl (w6.heap.size + 1) (flt y 0) rfl rfl 36 _ H9.out.2.2.2.2 size36 rfl (flt_one _ _) ?_; replace HW := Lib.hid (below_then' HW.out H9.out.2.2.1); have R9 := Lib.hid H9.out; obtain ⟨c90, c91⟩ := flt_cell H9.out.2.1)
        | (go_at_call 6; refine (awake_calls _).mono ?_; rintro e w8 ⟨rfl, hb⟩; replace HW := Lib.hid (below_then' HW.out hb); clear hb))
        all_goals
          go_ret
          exact ⟨rfl, HW.out⟩
      · skip
        clear HTP
        generalize parsed t = P at *
        obtain ⟨Y, y, z⟩ := P
        simp only at HPB HY hS28 hZZ hz 
        skip
        go_enter Tryd.func5, Tryd.ntmps5
        go_wp2_with (first
        | ((with_reducible change wpList _ _ _ (⟨_, .load 28 (.tmp 2), _, _, _, _⟩ :: _) _ _); refine wpList_load_cells rfl 28 (.tmp 2) rfl ⟨w.heap.size, 0, none⟩ rfl (ints (s :: c :: l)) _ (cells_of_heap HF.out) Tryd.underlying28 rfl size28 (by rw [ints_size]; simp only [List.length_cons, H.out]) ?_)
        | ((with_reducible change wpList _ _ _ (⟨_, .load 28 (.tmp 7), _, _, _, _⟩ :: _) _ _); refine wpList_load_cells rfl 28 (.tmp 7) rfl ⟨w5.heap.size, 0, none⟩ rfl (ints (s :: c :: l)) _ (cells_of_heap R7.out) Tryd.underlying28 rfl size28 (by rw [ints_size]; simp only [List.length_cons, H.out]) ?_)
        | ((with_reducible change wpList _ _ _ (⟨_, .load 28 (.tmp 9), _, _, _, _⟩ :: _) _ _); refine wpList_load_cells rfl 28 (.tmp 9) rfl ⟨w6.heap.size, 0, none⟩ rfl (ints Y) _ (cells_of_heap R9.out.1) Tryd.underlying28 rfl hS28.out rfl ?_)
        | (go_at_call 11; with_reducible refine (HT.out _ (HNP.out.1.below HW.out) (HNP.out.2.below HW.out)).mono ?_; rintro e w1 ⟨rfl, hb⟩; replace HF := Lib.hid (heap_kept HF.out hb); replace HW := Lib.hid (below_then' HW.out hb); clear hb)
        | (go_at_call 11; refine (HT2.out _ (HNP.out.1.below HW.out) (HNP.out.2.below HW.out)).mono ?_; rintro e w7 ⟨rfl, hb⟩; replace HW := Lib.hid (below_then' HW.out hb); clear hb)
        | (go_at_call 14; with_reducible refine (HPA.out _ (HNP.out.1.below HW.out)).mono ?_; rintro e w5 ⟨rfl, hb⟩; replace HF := Lib.hid (heap_kept HF.out hb); replace HW := Lib.hid (below_then' HW.out hb); clear hb; have H7 := Lib.hid (pair_rows w5 28 (s :: c :: l) 0 0))
        | (go_at_call 14; refine (HPB.out _ (HNP.out.1.below HW.out)).mono ?_; rintro e w6 ⟨rfl, hb⟩; replace HW := Lib.hid (below_then' HW.out hb); clear hb; have H9 := Lib.hid (pair_rows w6 28 Y y z))
        | ((with_reducible change wpList _ _ _ (⟨_, .alloc 28, _, _, _, _⟩ :: _) _ _); refine wpList_alloc_to rfl 28 rfl (ints z26) zero28 ?_)
        | ((with_reducible change wpList _ _ _ (⟨_, .alloc 36, _, _, _, _⟩ :: _) _ _); refine wpList_alloc_to rfl 36 rfl (flt 0 0) zero36 ?_; rw [World.size_alloc])
        | ((with_reducible change wpList _ _ _ (⟨_, .store 28 (.tmp 7) _, _, _, _, _⟩ :: _) _ _); refine wpList_store_row rfl 28 (.tmp 7) (.tmp 27) rfl w5.heap.size (ints (s :: c :: l)) rfl rfl 28 _ H7.out.2.2.2.1 hS28'.out hZZ'.out (ints_one _) ?_)
        | ((with_reducible change wpList _ _ _ (⟨_, .store 36 (.tmp 8) _, _, _, _, _⟩ :: _) _ _); refine wpList_store_row rfl 36 (.tmp 8) (.tmp 28) rfl (w5.heap.size + 1) (flt 0 0) rfl rfl 36 _ H7.out.2.2.2.2 size36 rfl (flt_one _ _) ?_; replace HF := Lib.hid (heap_kept HF.out H7.out.2.2.1); replace HW := Lib.hid (below_then' HW.out H7.out.2.2.1); have R7 := Lib.hid H7.out.1; obtain ⟨c70, c71⟩ := flt_cell H7.out.2.1)
        | ((with_reducible change wpList _ _ _ (⟨_, .store 28 (.tmp 9) _, _, _, _, _⟩ :: _) _ _); refine wpList_store_row rfl 28 (.tmp 9) (.tmp 45) rfl w6.heap.size (ints Y) rfl rfl 28 _ H9.out.2.2.2.1 hS28.out hZZ.out (ints_one _) ?_)
        | ((with_reducible change wpList _ _ _ (⟨_, .store 36 (.tmp 10) _, _, _, _, _⟩ :: _) _ _); refine wpList_store_row rfl 36 (.tmp 10) (.tmp 46) rfl (w6.heap.size + 1) (flt y z) rfl rfl 36 _ H9.out.2.2.2.2 size36 rfl (flt_one _ _) ?_; replace HW := Lib.hid (below_then' HW.out H9.out.2.2.1); have R9 := Lib.hid H9.out; obtain ⟨c90, c91⟩ := flt_cell H9.out.2.1)
        | (go_at_call 6; refine (awake_calls _).mono ?_; rintro e w8 ⟨rfl, hb⟩; replace HW := Lib.hid (below_then' HW.out hb); clear hb))
        all_goals
          go_ret
          exact ⟨rfl, HW.out⟩
end Go.Proofs.YtofibebphfeglaaDoor
