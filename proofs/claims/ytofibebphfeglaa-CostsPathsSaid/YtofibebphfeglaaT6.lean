import Derived.Test.YtofibebphfeglaaT5
namespace Go.Proofs.Ytofibebphfeglaa
open Go.RowKit
attribute [local go_sem] ints_get ints_size ints_getElem

def preB (s c : Int) (l : List Int) (n d : Int) : Bool := okT s c l && decide (1 ≤ n ∧ n ≤ 100000 ∧ 0 ≤ d ∧ d < n ∧ d % s = 0)
theorem pre_end {s c : Int} {l : List Int} {n d : Int} {b : Bool} (hok : okT s c l = true) (h : 1 ≤ n ∧ n ≤ 100000 ∧ 0 ≤ d ∧ d ≤ n) (hb : b = true ↔ (d < n ∧ d % s = 0)) : b = preB s c l n d := by
  rw [Bool.eq_iff_iff, hb]
  simp only [preB, hok, Bool.true_and, decide_eq_true_eq]
  omega

set_option maxRecDepth 100000 in
theorem pre_calls (s c : Int) (l : List Int) (hl : l.length = 24) (n d : Int) (w : World) :
    Calls Try.prog 17 #[.agg (ints (s :: c :: l)), .int .i64 n, .int .i64 d] w fun e w' => e = .returned (.bool (preB s c l n d)) ∧ Below w.heap.size w w' := by
  have H := Lib.hid hl
  have HB := Lib.hid ((Below.refl w.heap.size w).alloc (Nat.le_refl _) (.cells (ints (s :: c :: l)) 24))
  clear hl
  cases hok : okT s c l with
  | false =>
    have HE := Lib.hid (chk_f hok)
    have HO := Lib.hid hok
    clear hok
    go_enter Try.func17, Try.ntmps17
    go_wp2_with (first
      | ((with_reducible change wpList _ _ _ (⟨_, .load 24 (.tmp 3), _, _, _, _⟩ :: _) _ _); refine wpList_load_cells rfl 24 (.tmp 3) rfl ⟨w.heap.size, 0, none⟩ rfl (ints (s :: c :: l)) _ (cells_new w _ _ 24 0 rfl) Try.underlying24 rfl size24 (by rw [ints_size]; simp only [List.length_cons, H.out]) ?_)
      | (go_at_call 10; refine (check_calls s c l H.out _).mono ?_; rw [HE.out]; rintro e w1 ⟨rfl, hb1⟩; have hc0 := cell_kept1 hb1 0 (by simp); rw [show (s :: c :: l).getD 0 0 = s from rfl] at hc0; have HW := Lib.hid (below_then' HB.out hb1); clear hb1))
    all_goals (go_ret; exact ⟨ret_bool (by simp only [preB, HO.out]; rfl), HW.out⟩)
  | true =>
    have HE := Lib.hid (chk_t hok)
    obtain ⟨⟨hs0, hs1⟩, -, -⟩ := okT_c hok
    have HO := Lib.hid hok
    clear hok
    by_cases h1 : 1 ≤ n ∧ n ≤ 100000 ∧ 0 ≤ d ∧ d ≤ n
    · obtain ⟨h1, h2, h3, h4⟩ := h1
      go_enter Try.func17, Try.ntmps17
      go_wp2_with (first
        | ((with_reducible change wpList _ _ _ (⟨_, .load 24 (.tmp 3), _, _, _, _⟩ :: _) _ _); refine wpList_load_cells rfl 24 (.tmp 3) rfl ⟨w.heap.size, 0, none⟩ rfl (ints (s :: c :: l)) _ (cells_new w _ _ 24 0 rfl) Try.underlying24 rfl size24 (by rw [ints_size]; simp only [List.length_cons, H.out]) ?_)
        | (go_at_call 10; refine (check_calls s c l H.out _).mono ?_; rw [HE.out]; rintro e w1 ⟨rfl, hb1⟩; have hc0 := cell_kept1 hb1 0 (by simp); rw [show (s :: c :: l).getD 0 0 = s from rfl] at hc0; have HW := Lib.hid (below_then' HB.out hb1); clear hb1))
      all_goals (go_ret; exact ⟨ret_bool (pre_end HO.out (by omega) (by have hz : d = 0 → d % s = 0 := (fun h => by rw [h]; exact Int.zero_emod s); simp; omega)), HW.out⟩)
    · have hn : preB s c l n d = false := by simp only [preB, HO.out, Bool.true_and, decide_eq_false_iff_not]; omega
      rw [hn]
      rcases (by omega : n < 1 ∨ (1 ≤ n ∧ 100000 < n) ∨ (1 ≤ n ∧ n ≤ 100000 ∧ d < 0) ∨ (1 ≤ n ∧ n ≤ 100000 ∧ 0 ≤ d ∧ n < d)) with h | ⟨h, h2⟩ | ⟨h, h2, h3⟩ | ⟨h, h2, h3, h4⟩
      all_goals
        clear h1 hn
        go_enter Try.func17, Try.ntmps17
        go_wp2_with (first
          | ((with_reducible change wpList _ _ _ (⟨_, .load 24 (.tmp 3), _, _, _, _⟩ :: _) _ _); refine wpList_load_cells rfl 24 (.tmp 3) rfl ⟨w.heap.size, 0, none⟩ rfl (ints (s :: c :: l)) _ (cells_new w _ _ 24 0 rfl) Try.underlying24 rfl size24 (by rw [ints_size]; simp only [List.length_cons, H.out]) ?_)
          | (go_at_call 10; refine (check_calls s c l H.out _).mono ?_; rw [HE.out]; rintro e w1 ⟨rfl, hb1⟩; have hc0 := cell_kept1 hb1 0 (by simp); rw [show (s :: c :: l).getD 0 0 = s from rfl] at hc0; have HW := Lib.hid (below_then' HB.out hb1); clear hb1))
        go_ret
        exact ⟨rfl, HW.out⟩

set_option maxRecDepth 100000 in
theorem rpre_calls (s c : Int) (l : List Int) (hl : l.length = 24) (n d : Int) (w : World) :
    Calls Try.prog 18 #[.agg (ints (s :: c :: l)), .int .i64 n, .int .i64 d] w fun e w' => e = .returned (.bool (preB s c l n d)) ∧ Below w.heap.size w w' := by
  have H := Lib.hid hl
  have HB := Lib.hid ((Below.refl w.heap.size w).alloc (Nat.le_refl _) (.cells (ints (s :: c :: l)) 29))
  clear hl
  cases hok : okT s c l with
  | false =>
    have HE := Lib.hid (chk_f hok)
    have HO := Lib.hid hok
    clear hok
    go_enter Try.func18, Try.ntmps18
    go_wp2_with (first
      | ((with_reducible change wpList _ _ _ (⟨_, .load 29 (.tmp 3), _, _, _, _⟩ :: _) _ _); refine wpList_load_cells rfl 29 (.tmp 3) rfl ⟨w.heap.size, 0, none⟩ rfl (ints (s :: c :: l)) _ (cells_new w _ _ 29 0 rfl) Try.underlying29 rfl size29 (by rw [ints_size]; simp only [List.length_cons, H.out]) ?_)
      | (go_at_call 11; refine (rcheck_calls s c l H.out _).mono ?_; rw [HE.out]; rintro e w1 ⟨rfl, hb1⟩; have hc0 := cell_kept1 hb1 0 (by simp); rw [show (s :: c :: l).getD 0 0 = s from rfl] at hc0; have HW := Lib.hid (below_then' HB.out hb1); clear hb1))
    all_goals (go_ret; exact ⟨ret_bool (by simp only [preB, HO.out]; rfl), HW.out⟩)
  | true =>
    have HE := Lib.hid (chk_t hok)
    obtain ⟨⟨hs0, hs1⟩, -, -⟩ := okT_c hok
    have HO := Lib.hid hok
    clear hok
    by_cases h1 : 1 ≤ n ∧ n ≤ 100000 ∧ 0 ≤ d ∧ d ≤ n
    · obtain ⟨h1, h2, h3, h4⟩ := h1
      go_enter Try.func18, Try.ntmps18
      go_wp2_with (first
        | ((with_reducible change wpList _ _ _ (⟨_, .load 29 (.tmp 3), _, _, _, _⟩ :: _) _ _); refine wpList_load_cells rfl 29 (.tmp 3) rfl ⟨w.heap.size, 0, none⟩ rfl (ints (s :: c :: l)) _ (cells_new w _ _ 29 0 rfl) Try.underlying29 rfl size29 (by rw [ints_size]; simp only [List.length_cons, H.out]) ?_)
        | (go_at_call 11; refine (rcheck_calls s c l H.out _).mono ?_; rw [HE.out]; rintro e w1 ⟨rfl, hb1⟩; have hc0 := cell_kept1 hb1 0 (by simp); rw [show (s :: c :: l).getD 0 0 = s from rfl] at hc0; have HW := Lib.hid (below_then' HB.out hb1); clear hb1))
      all_goals (go_ret; exact ⟨ret_bool (pre_end HO.out (by omega) (by have hz : d = 0 → d % s = 0 := (fun h => by rw [h]; exact Int.zero_emod s); simp; omega)), HW.out⟩)
    · have hn : preB s c l n d = false := by simp only [preB, HO.out, Bool.true_and, decide_eq_false_iff_not]; omega
      rw [hn]
      rcases (by omega : n < 1 ∨ (1 ≤ n ∧ 100000 < n) ∨ (1 ≤ n ∧ n ≤ 100000 ∧ d < 0) ∨ (1 ≤ n ∧ n ≤ 100000 ∧ 0 ≤ d ∧ n < d)) with h | ⟨h, h2⟩ | ⟨h, h2, h3⟩ | ⟨h, h2, h3, h4⟩
      all_goals
        clear h1 hn
        go_enter Try.func18, Try.ntmps18
        go_wp2_with (first
          | ((with_reducible change wpList _ _ _ (⟨_, .load 29 (.tmp 3), _, _, _, _⟩ :: _) _ _); refine wpList_load_cells rfl 29 (.tmp 3) rfl ⟨w.heap.size, 0, none⟩ rfl (ints (s :: c :: l)) _ (cells_new w _ _ 29 0 rfl) Try.underlying29 rfl size29 (by rw [ints_size]; simp only [List.length_cons, H.out]) ?_)
          | (go_at_call 11; refine (rcheck_calls s c l H.out _).mono ?_; rw [HE.out]; rintro e w1 ⟨rfl, hb1⟩; have hc0 := cell_kept1 hb1 0 (by simp); rw [show (s :: c :: l).getD 0 0 = s from rfl] at hc0; have HW := Lib.hid (below_then' HB.out hb1); clear hb1))
        go_ret
        exact ⟨rfl, HW.out⟩
end Go.Proofs.Ytofibebphfeglaa
