import Derived.Test.YtofibebphfeglaaT6
namespace Go.Proofs.Ytofibebphfeglaa
open Go.RowKit
attribute [local go_sem] ints_get ints_size ints_getElem

def row (l : List Int) : List Value := l.map (fun n => Value.int .i64 n)
def secF (s n : Int) (j : Nat) : Int := min s (n - s * j)
/-- The first k sections. -/
def secK (s n : Int) (k : Nat) : List Int := (List.range k).map (secF s n)
def secQ (s n : Int) : Nat := ((n + s - 1) / s).toNat
/-- The lengths of the sections of an operation of n ticks. -/
def secs (s n : Int) : List Int := secK s n (secQ s n)
theorem secK_succ (s n : Int) (k : Nat) : row (secK s n (k + 1)) = row (secK s n k) ++ [.int .i64 (secF s n k)] := by
  simp [row, secK, List.range_succ]
theorem secK_len (s n : Int) (k : Nat) : (secK s n k).length = k := by simp [secK]
theorem sec_le {s : Int} (h : 1 ≤ s) (k : Nat) : (k : Int) ≤ s * k := by
  have := Int.mul_le_mul_of_nonneg_right h (show (0 : Int) ≤ k by omega)
  omega
theorem secQ_of {s n : Int} {k : Nat} (hs : 1 ≤ s) (h1 : s * (k : Int) < n + s) (h2 : n ≤ s * (k : Int)) : secQ s n = k := by
  unfold secQ
  have e : (n + s - 1) / s = (k : Int) := by
    have h3 : n + s - 1 = (n - s * (k : Int) + s - 1) + s * (k : Int) := by omega
    rw [h3, Int.add_mul_ediv_left _ _ (by omega), Int.ediv_eq_zero_of_lt (by omega) (by omega)]
    omega
  rw [e]; rfl
def secE (s c : Int) (l : List Int) (n : Int) : Int := if okT s c l && decide (1 ≤ n ∧ n ≤ 100000) then 0 else 34
def secL (s c : Int) (l : List Int) (n : Int) : List Int := if okT s c l && decide (1 ≤ n ∧ n ≤ 100000) then secs s n else []
theorem info2 : (Try.prog.info? 2).map (fun i => (i.zero, i.size, i.bytes)) = some (some (.int .i64 0), 1, 8) := by kernel_rfl
theorem row_nil (s n : Int) : row (secK s n 0) = [] := rfl
theorem ret_slice {v : Value} {a b : Int} (h : a = b) : Ending.returned (.tuple #[v, .int .i64 a]) = .returned (.tuple #[v, .int .i64 b]) := by rw [h]

set_option maxRecDepth 100000 in
theorem sections_bad (s c : Int) (l : List Int) (hl : l.length = 24) (n : Int) (w : World) (hbad : (okT s c l && decide (1 ≤ n ∧ n ≤ 100000)) = false) :
    Calls Try.prog 15 #[.agg (ints (s :: c :: l)), .int .i64 n] w fun e w' => e = .returned (.tuple #[.slice none 0 0, .int .i64 34]) ∧ Below w.heap.size w w' := by
  have H := Lib.hid hl
  have HB := Lib.hid ((Below.refl w.heap.size w).alloc (Nat.le_refl _) (.cells (ints (s :: c :: l)) 24))
  clear hl
  cases hok : okT s c l with
  | false =>
    have HE := Lib.hid (chk_f hok)
    clear hok hbad
    go_enter Try.func15, Try.ntmps15
    go_wp2_with (first
      | ((with_reducible change wpList _ _ _ (⟨_, .load 24 (.tmp 2), _, _, _, _⟩ :: _) _ _); refine wpList_load_cells rfl 24 (.tmp 2) rfl ⟨w.heap.size, 0, none⟩ rfl (ints (s :: c :: l)) _ (cells_new w _ _ 24 0 rfl) Try.underlying24 rfl size24 (by rw [ints_size]; simp only [List.length_cons, H.out]) ?_)
      | (go_at_call 10; refine (check_calls s c l H.out _).mono ?_; rw [HE.out]; rintro e w1 ⟨rfl, hb1⟩; have hc0 := cell_kept1 hb1 0 (by simp); rw [show (s :: c :: l).getD 0 0 = s from rfl] at hc0; have hlt0 := World.block_lt_of_cell? w1 _ hc0; have HW := Lib.hid (below_then' HB.out hb1); clear hb1))
    all_goals (go_ret2; exact ⟨rfl, HW.out⟩)
  | true =>
    have HE := Lib.hid (chk_t hok)
    rw [hok, Bool.true_and, decide_eq_false_iff_not] at hbad
    clear hok
    rcases (by omega : n < 1 ∨ (1 ≤ n ∧ 100000 < n)) with h | ⟨h, h2⟩
    all_goals
      clear hbad
      go_enter Try.func15, Try.ntmps15
      go_wp2_with (first
        | ((with_reducible change wpList _ _ _ (⟨_, .load 24 (.tmp 2), _, _, _, _⟩ :: _) _ _); refine wpList_load_cells rfl 24 (.tmp 2) rfl ⟨w.heap.size, 0, none⟩ rfl (ints (s :: c :: l)) _ (cells_new w _ _ 24 0 rfl) Try.underlying24 rfl size24 (by rw [ints_size]; simp only [List.length_cons, H.out]) ?_)
        | (go_at_call 10; refine (check_calls s c l H.out _).mono ?_; rw [HE.out]; rintro e w1 ⟨rfl, hb1⟩; have hc0 := cell_kept1 hb1 0 (by simp); rw [show (s :: c :: l).getD 0 0 = s from rfl] at hc0; have hlt0 := World.block_lt_of_cell? w1 _ hc0; have HW := Lib.hid (below_then' HB.out hb1); clear hb1))
      go_ret2
      exact ⟨rfl, HW.out⟩

set_option maxRecDepth 100000 in
theorem rsections_bad (s c : Int) (l : List Int) (hl : l.length = 24) (n : Int) (w : World) (hbad : (okT s c l && decide (1 ≤ n ∧ n ≤ 100000)) = false) :
    Calls Try.prog 16 #[.agg (ints (s :: c :: l)), .int .i64 n] w fun e w' => e = .returned (.tuple #[.slice none 0 0, .int .i64 34]) ∧ Below w.heap.size w w' := by
  have H := Lib.hid hl
  have HB := Lib.hid ((Below.refl w.heap.size w).alloc (Nat.le_refl _) (.cells (ints (s :: c :: l)) 29))
  clear hl
  cases hok : okT s c l with
  | false =>
    have HE := Lib.hid (chk_f hok)
    clear hok hbad
    go_enter Try.func16, Try.ntmps16
    go_wp2_with (first
      | ((with_reducible change wpList _ _ _ (⟨_, .load 29 (.tmp 2), _, _, _, _⟩ :: _) _ _); refine wpList_load_cells rfl 29 (.tmp 2) rfl ⟨w.heap.size, 0, none⟩ rfl (ints (s :: c :: l)) _ (cells_new w _ _ 29 0 rfl) Try.underlying29 rfl size29 (by rw [ints_size]; simp only [List.length_cons, H.out]) ?_)
      | (go_at_call 11; refine (rcheck_calls s c l H.out _).mono ?_; rw [HE.out]; rintro e w1 ⟨rfl, hb1⟩; have hc0 := cell_kept1 hb1 0 (by simp); rw [show (s :: c :: l).getD 0 0 = s from rfl] at hc0; have hlt0 := World.block_lt_of_cell? w1 _ hc0; have HW := Lib.hid (below_then' HB.out hb1); clear hb1))
    all_goals (go_ret2; exact ⟨rfl, HW.out⟩)
  | true =>
    have HE := Lib.hid (chk_t hok)
    rw [hok, Bool.true_and, decide_eq_false_iff_not] at hbad
    clear hok
    rcases (by omega : n < 1 ∨ (1 ≤ n ∧ 100000 < n)) with h | ⟨h, h2⟩
    all_goals
      clear hbad
      go_enter Try.func16, Try.ntmps16
      go_wp2_with (first
        | ((with_reducible change wpList _ _ _ (⟨_, .load 29 (.tmp 2), _, _, _, _⟩ :: _) _ _); refine wpList_load_cells rfl 29 (.tmp 2) rfl ⟨w.heap.size, 0, none⟩ rfl (ints (s :: c :: l)) _ (cells_new w _ _ 29 0 rfl) Try.underlying29 rfl size29 (by rw [ints_size]; simp only [List.length_cons, H.out]) ?_)
        | (go_at_call 11; refine (rcheck_calls s c l H.out _).mono ?_; rw [HE.out]; rintro e w1 ⟨rfl, hb1⟩; have hc0 := cell_kept1 hb1 0 (by simp); rw [show (s :: c :: l).getD 0 0 = s from rfl] at hc0; have hlt0 := World.block_lt_of_cell? w1 _ hc0; have HW := Lib.hid (below_then' HB.out hb1); clear hb1))
      go_ret2
      exact ⟨rfl, HW.out⟩

set_option maxRecDepth 100000 in
theorem sections_good (s c : Int) (l : List Int) (hl : l.length = 24) (n : Int) (w : World) (hok : okT s c l = true) (hn : 1 ≤ n ∧ n ≤ 100000) :
    Calls Try.prog 15 #[.agg (ints (s :: c :: l)), .int .i64 n] w fun e w' => ∃ v, e = .returned (.tuple #[v, .int .i64 0]) ∧ w'.ownsRow w.heap.size 2 1 v (secs s n).length (row (secs s n)) ∧ Below w.heap.size w w' := by
  obtain ⟨hn0, hn1⟩ := hn
  have H := Lib.hid hl
  have HB := Lib.hid ((Below.refl w.heap.size w).alloc (Nat.le_refl _) (.cells (ints (s :: c :: l)) 24))
  have HE := Lib.hid (chk_t hok)
  obtain ⟨⟨hs0, hs1⟩, -, -⟩ := okT_c hok
  clear hok hl
  go_enter Try.func15, Try.ntmps15
  go_wp2_with (first
    | ((with_reducible change wpList _ _ _ (⟨_, .load 24 (.tmp 2), _, _, _, _⟩ :: _) _ _); refine wpList_load_cells rfl 24 (.tmp 2) rfl ⟨w.heap.size, 0, none⟩ rfl (ints (s :: c :: l)) _ (cells_new w _ _ 24 0 rfl) Try.underlying24 rfl size24 (by rw [ints_size]; simp only [List.length_cons, H.out]) ?_)
    | (go_at_call 10; refine (check_calls s c l H.out _).mono ?_; rw [HE.out]; rintro e w1 ⟨rfl, hb1⟩; have hc0 := cell_kept1 hb1 0 (by simp); rw [show (s :: c :: l).getD 0 0 = s from rfl] at hc0; have hlt0 := World.block_lt_of_cell? w1 _ hc0; have HW := Lib.hid (below_then' HB.out hb1); clear hb1))
  go_loopw [1, 6] (fun m v wr => ∃ k : Nat, s * (k : Int) < n + s ∧ m = .int .i64 (n - s * (k : Int)) ∧ wr.ownsRow w1.heap.size 2 1 v k (row (secK s n k)) ∧ Below w1.heap.size w1 wr) (fun m _ _ => (intOf m + s).toNat)
  case atStart => exact ⟨0, by omega, by simp, ⟨by simp [row, secK], .inl ⟨rfl, rfl⟩⟩, Below.refl _ _⟩
  case round =>
    obtain ⟨k, hk, rfl, hown, hb⟩ := hrel
    have hc1 := (hb.cell hlt0).trans hc0
    have hkl := sec_le hs0 k
    by_cases hlt : s * (k : Int) < n
    · rcases (by omega : n - s * (k : Int) ≤ s ∨ s < n - s * (k : Int)) with hms | hms
      all_goals
        first
          | have HM := Lib.hid (show secF s n k = n - s * (k : Int) by unfold secF; omega)
          | have HM := Lib.hid (show secF s n k = s by unfold secF; omega)
        go_wp2_with (first
          | (at_builtin; refine wpList_append_1 rfl (.tmp 24) (.tmp 29) 37 2 rfl (.int .i64 0) 1 8 Try.underlying37 info2 rfl (by decide) w1 w1.heap.size k _ (row (secK s n k)) rfl hown hb [_] (by first | rfl | simp [Act.eval, Act.put]) rfl (by simp [Value.oneCell']) (by unfold maxLen; omega) (by omega) hb.size ?_; intro v' w2 hown2 hb2; replace hown2 : w2.ownsRow w1.heap.size 2 1 v' (k + 1) (row (secK s n (k + 1))) := (by (rw [secK_succ, HM.out]; exact hown2)); have hc2 := (hb2.cell hlt0).trans hc0))
        go_roundw
        case rel => exact ⟨k + 1, by rw [mul_succ']; omega, by rw [mul_succ']; go_num, hown2, hb2⟩
        case measure => simp [intOf]; omega
    · have HQ := Lib.hid (secQ_of hs0 hk (by omega))
      go_wp2
      go_ret2
      exact ⟨_, rfl, by unfold secs; rw [HQ.out, secK_len]; exact own_mono hown HW.out.size, below_then' HW.out hb⟩
set_option maxRecDepth 100000 in
theorem rsections_good (s c : Int) (l : List Int) (hl : l.length = 24) (n : Int) (w : World) (hok : okT s c l = true) (hn : 1 ≤ n ∧ n ≤ 100000) :
    Calls Try.prog 16 #[.agg (ints (s :: c :: l)), .int .i64 n] w fun e w' => ∃ v, e = .returned (.tuple #[v, .int .i64 0]) ∧ w'.ownsRow w.heap.size 2 1 v (secs s n).length (row (secs s n)) ∧ Below w.heap.size w w' := by
  obtain ⟨hn0, hn1⟩ := hn
  have H := Lib.hid hl
  have HB := Lib.hid ((Below.refl w.heap.size w).alloc (Nat.le_refl _) (.cells (ints (s :: c :: l)) 29))
  have HE := Lib.hid (chk_t hok)
  obtain ⟨⟨hs0, hs1⟩, -, -⟩ := okT_c hok
  clear hok hl
  go_enter Try.func16, Try.ntmps16
  go_wp2_with (first
    | ((with_reducible change wpList _ _ _ (⟨_, .load 29 (.tmp 2), _, _, _, _⟩ :: _) _ _); refine wpList_load_cells rfl 29 (.tmp 2) rfl ⟨w.heap.size, 0, none⟩ rfl (ints (s :: c :: l)) _ (cells_new w _ _ 29 0 rfl) Try.underlying29 rfl size29 (by rw [ints_size]; simp only [List.length_cons, H.out]) ?_)
    | (go_at_call 11; refine (rcheck_calls s c l H.out _).mono ?_; rw [HE.out]; rintro e w1 ⟨rfl, hb1⟩; have hc0 := cell_kept1 hb1 0 (by simp); rw [show (s :: c :: l).getD 0 0 = s from rfl] at hc0; have hlt0 := World.block_lt_of_cell? w1 _ hc0; have HW := Lib.hid (below_then' HB.out hb1); clear hb1))
  go_loopw [1, 6] (fun m v wr => ∃ k : Nat, s * (k : Int) < n ∧ m = .int .i64 (n - s * (k : Int)) ∧ wr.ownsRow w1.heap.size 2 1 v k (row (secK s n k)) ∧ Below w1.heap.size w1 wr) (fun m _ _ => (intOf m + s).toNat)
  case atStart => exact ⟨0, by omega, by simp, ⟨by simp [row, secK], .inl ⟨rfl, rfl⟩⟩, Below.refl _ _⟩
  case round =>
    obtain ⟨k, hk, rfl, hown, hb⟩ := hrel
    have hc1 := (hb.cell hlt0).trans hc0
    have hkl := sec_le hs0 k
    by_cases hlt : s < n - s * (k : Int)
    · have HM := Lib.hid (show secF s n k = s by unfold secF; omega)
      go_wp2_with (first
        | (at_builtin; refine wpList_append_1 rfl (.tmp 22) (.tmp 25) 37 2 rfl (.int .i64 0) 1 8 Try.underlying37 info2 rfl (by decide) w1 w1.heap.size k _ (row (secK s n k)) rfl hown hb [_] (by first | rfl | simp [Act.eval, Act.put]) rfl (by simp [Value.oneCell']) (by unfold maxLen; omega) (by omega) hb.size ?_; intro v' w2 hown2 hb2; replace hown2 : w2.ownsRow w1.heap.size 2 1 v' (k + 1) (row (secK s n (k + 1))) := (by (rw [secK_succ, HM.out]; exact hown2)); have hc2 := (hb2.cell hlt0).trans hc0))
      go_roundw
      case rel => exact ⟨k + 1, by rw [mul_succ']; omega, by rw [mul_succ']; go_num, hown2, hb2⟩
      case measure => simp [intOf]; omega
    · have HM := Lib.hid (show secF s n k = n - s * (k : Int) by unfold secF; omega)
      have HQ := Lib.hid (secQ_of (s := s) (n := n) (k := k + 1) hs0 (by rw [mul_succ']; omega) (by rw [mul_succ']; omega))
      go_wp2_with (first
        | (at_builtin; refine wpList_append_1 rfl (.tmp 31) (.tmp 33) 37 2 rfl (.int .i64 0) 1 8 Try.underlying37 info2 rfl (by decide) w1 w1.heap.size k _ (row (secK s n k)) rfl hown hb [_] (by first | rfl | simp [Act.eval, Act.put]) rfl (by simp [Value.oneCell']) (by unfold maxLen; omega) (by omega) hb.size ?_; intro v' w2 hown2 hb2; replace hown2 : w2.ownsRow w1.heap.size 2 1 v' (k + 1) (row (secK s n (k + 1))) := (by (rw [secK_succ, HM.out]; exact hown2))))
      go_ret2
      exact ⟨_, rfl, by unfold secs; rw [HQ.out, secK_len]; exact own_mono hown2 HW.out.size, below_then' HW.out hb2⟩

end Go.Proofs.Ytofibebphfeglaa
