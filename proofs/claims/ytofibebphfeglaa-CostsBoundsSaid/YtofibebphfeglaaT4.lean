import Derived.Test.YtofibebphfeglaaT3
namespace Go.Proofs.Ytofibebphfeglaa
open Go.RowKit
attribute [local go_sem] ints_get ints_size ints_getElem

set_option maxRecDepth 100000 in
theorem rcost_calls (s c : Int) (l : List Int) (hl : l.length = 24) (op b : Int) (w : World) :
    Calls Try.prog 8 #[.agg (ints (s :: c :: l)), .int .i64 op, .int .i64 b] w fun e w' => e = .returned (.tuple #[.int .i64 (costN s c l op b), .int .i64 (costE s c l op b)]) ∧ Below w.heap.size w w' := by
  have H := Lib.hid hl
  by_cases ht : okT s c l = true
  · by_cases ho : 0 ≤ op ∧ op < 24
    · by_cases hb : 0 ≤ b ∧ b ≤ 4096
      · have e1 : costE s c l op b = 0 := by simp [costE, ht, okOp, okB, ho, hb]
        have e2 : costN s c l op b = l.getD op.toNat 0 + c * units b := by simp [costN, e1]
        rw [e1, e2]
        exact rcost_good s c l hl op b w ht ho hb
      · have e1 : costE s c l op b = 34 := by simp [costE, ht, okOp, okB, ho, hb]
        have e2 : costN s c l op b = 0 := by simp [costN, e1]
        rw [e1, e2]
        obtain ⟨ho0, ho1⟩ := ho
        have HE := Lib.hid (chk_t ht)
        have HB := Lib.hid ((Below.refl w.heap.size w).alloc (Nat.le_refl _) (.cells (ints (s :: c :: l)) 29))
        clear ht hl e1 e2
        rcases (by omega : b < 0 ∨ (0 ≤ b ∧ 4096 < b)) with hb' | ⟨hb', hb''⟩
        all_goals
          clear hb
          go_enter Try.func8, Try.ntmps8
          go_wp2_with (first
            | (refine wpList_load_cells rfl 29 (.tmp 3) rfl ⟨w.heap.size, 0, none⟩ rfl (ints (s :: c :: l)) _ (cells_new w _ _ 29 0 rfl) Try.underlying29 rfl size29 (by rw [ints_size]; simp only [List.length_cons, H.out]) ?_)
            | (go_at_call 11; refine (rcheck_calls s c l H.out _).mono ?_; rw [HE.out]; rintro e w1 ⟨rfl, hb1⟩))
          go_ret2
          exact ⟨rfl, below_then' HB.out hb1⟩
    · have e1 : costE s c l op b = 17 := by simp [costE, ht, okOp, ho]
      have e2 : costN s c l op b = 0 := by simp [costN, e1]
      rw [e1, e2]
      have HE := Lib.hid (chk_t ht)
      have HB := Lib.hid ((Below.refl w.heap.size w).alloc (Nat.le_refl _) (.cells (ints (s :: c :: l)) 29))
      clear ht hl e1 e2
      rcases (by omega : op < 0 ∨ (0 ≤ op ∧ 24 ≤ op)) with ho' | ⟨ho', ho''⟩
      all_goals
        clear ho
        go_enter Try.func8, Try.ntmps8
        go_wp2_with (first
          | (refine wpList_load_cells rfl 29 (.tmp 3) rfl ⟨w.heap.size, 0, none⟩ rfl (ints (s :: c :: l)) _ (cells_new w _ _ 29 0 rfl) Try.underlying29 rfl size29 (by rw [ints_size]; simp only [List.length_cons, H.out]) ?_)
          | (go_at_call 11; refine (rcheck_calls s c l H.out _).mono ?_; rw [HE.out]; rintro e w1 ⟨rfl, hb1⟩))
        go_ret2
        exact ⟨rfl, below_then' HB.out hb1⟩
  · have ht : okT s c l = false := by simpa using ht
    have e1 : costE s c l op b = 34 := by simp [costE, ht]
    have e2 : costN s c l op b = 0 := by simp [costN, e1]
    rw [e1, e2]
    have HE := Lib.hid (chk_f ht)
    have HB := Lib.hid ((Below.refl w.heap.size w).alloc (Nat.le_refl _) (.cells (ints (s :: c :: l)) 29))
    clear ht hl e1 e2
    go_enter Try.func8, Try.ntmps8
    go_wp2_with (first
      | (refine wpList_load_cells rfl 29 (.tmp 3) rfl ⟨w.heap.size, 0, none⟩ rfl (ints (s :: c :: l)) _ (cells_new w _ _ 29 0 rfl) Try.underlying29 rfl size29 (by rw [ints_size]; simp only [List.length_cons, H.out]) ?_)
      | (go_at_call 11; refine (rcheck_calls s c l H.out _).mono ?_; rw [HE.out]; rintro e w1 ⟨rfl, hb1⟩))
    go_ret2
    exact ⟨rfl, below_then' HB.out hb1⟩

theorem built29 (s c : Int) (l : List Int) (hl : l.length = 24) : Try.prog.built 29 [(0, .int .i64 s), (1, .int .i64 c), (2, .agg (ints l))] = some (ints (s :: c :: l)) := by
  obtain ⟨a0, a1, a2, a3, a4, a5, a6, a7, a8, a9, a10, a11, a12, a13, a14, a15, a16, a17, a18, a19, a20, a21, a22, a23, rfl⟩ := list24 hl
  kernel_rfl

set_option maxRecDepth 100000 in
theorem from_calls (s c : Int) (l : List Int) (hl : l.length = 24) (w : World) :
    Calls Try.prog 9 #[.agg (ints (s :: c :: l))] w fun e w' => e = .returned (.agg (ints (s :: c :: l))) ∧ Below w.heap.size w w' := by
  have H := Lib.hid hl
  have HBu := Lib.hid (built29 s c l hl)
  clear hl
  go_enter Try.func9, Try.ntmps9
  go_wp2_with (first
    | (refine wpList_load_cells rfl 22 (.tmp 7) rfl ⟨w.heap.size, 2, none⟩ rfl (ints l) _ (cells_kept (l := s :: c :: l) (T := 24) ((Below.refl _ _).alloc (by simp) _) rfl) Try.underlying22 rfl size22 (by rw [ints_size, H.out]) ?_)
    | (refine wpList_build_to rfl 29 #[(0, .tmp 4), (1, .tmp 6), (2, .tmp 8)] rfl [(0, .int .i64 s), (1, .int .i64 c), (2, .agg (ints l))] (by simp [Act.eval, Act.put]) _ HBu.out ?_)
    | (refine wpList_store_row rfl 29 (.tmp 2) (.tmp 9) rfl (w.heap.size + 1) (ints (s :: c :: l)) rfl rfl 29 _ (heap_alloc2_new _ _ _) (by rw [ints_size]; simp only [List.length_cons, H.out]; exact size29) (by rw [ints_size]; simp only [List.length_cons, H.out]; rfl) (ints_one _) ?_))


  refine bodyPost_ret (v := .agg (ints (s :: c :: l))) (results_cell_row rfl _ _ (w.heap.size + 1) 29 (ints (s :: c :: l)) (0, 0) _ rfl (setRow_heap _ _ _ _ _ _ (heap_alloc2_new _ _ _)) Try.underlying29 rfl (by rw [ints_size]; simp only [List.length_cons, H.out]; exact size29)) rfl
    ⟨rfl, below_setRow' (((Below.refl _ _).alloc (Nat.le_refl _) _).alloc (by simp) _) (by omega) _⟩
end Go.Proofs.Ytofibebphfeglaa
