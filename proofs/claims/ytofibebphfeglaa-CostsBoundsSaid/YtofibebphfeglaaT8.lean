import Derived.Test.YtofibebphfeglaaT7
namespace Go.Proofs.Ytofibebphfeglaa
open Go.RowKit
attribute [local go_sem] ints_get ints_size ints_getElem

theorem sec_pos (s n : Int) (hs : 1 ≤ s) (hn : 1 ≤ n) : 0 < secQ s n := by
  unfold secQ
  have : (1 : Int) ≤ (n + s - 1) / s := by
    rw [Int.le_ediv_iff_mul_le (by omega)]
    omega
  omega
theorem secs_len (s n : Int) : (secs s n).length = secQ s n := by unfold secs; exact secK_len _ _ _
theorem secs_get (s n : Int) (k : Nat) (h : k < secQ s n) : (secs s n).getD k 0 = secF s n k := by
  unfold secs secK
  simp [List.getD_eq_getElem?_getD, h]
theorem secE_t {s c : Int} {l : List Int} {n : Int} (h : okT s c l = true) (hn : 1 ≤ n ∧ n ≤ 100000) : secE s c l n = 0 := by simp [secE, h, hn]
theorem secL_t {s c : Int} {l : List Int} {n : Int} (h : okT s c l = true) (hn : 1 ≤ n ∧ n ≤ 100000) : secL s c l n = secs s n := by simp [secL, h, hn]
theorem secE_f {s c : Int} {l : List Int} {n : Int} (h : (okT s c l && decide (1 ≤ n ∧ n ≤ 100000)) = false) : secE s c l n = 34 := by simp only [secE, h]; rfl
theorem secL_f {s c : Int} {l : List Int} {n : Int} (h : (okT s c l && decide (1 ≤ n ∧ n ≤ 100000)) = false) : secL s c l n = [] := by simp only [secL, h]; rfl

theorem sections_calls (s c : Int) (l : List Int) (hl : l.length = 24) (n : Int) (w : World) :
    Calls Try.prog 15 #[.agg (ints (s :: c :: l)), .int .i64 n] w fun e w' => ∃ v, e = .returned (.tuple #[v, .int .i64 (secE s c l n)]) ∧ w'.ownsRow w.heap.size 2 1 v (secL s c l n).length (row (secL s c l n)) ∧ Below w.heap.size w w' := by
  cases h : okT s c l && decide (1 ≤ n ∧ n ≤ 100000) with
  | false =>
    rw [secE_f h, secL_f h]
    exact (sections_bad s c l hl n w h).mono fun e w' ⟨he, hb⟩ => ⟨_, he, ⟨rfl, .inl ⟨rfl, rfl⟩⟩, hb⟩
  | true =>
    simp only [Bool.and_eq_true, decide_eq_true_eq] at h
    rw [secE_t h.1 h.2, secL_t h.1 h.2]
    exact sections_good s c l hl n w h.1 h.2

theorem rsections_calls (s c : Int) (l : List Int) (hl : l.length = 24) (n : Int) (w : World) :
    Calls Try.prog 16 #[.agg (ints (s :: c :: l)), .int .i64 n] w fun e w' => ∃ v, e = .returned (.tuple #[v, .int .i64 (secE s c l n)]) ∧ w'.ownsRow w.heap.size 2 1 v (secL s c l n).length (row (secL s c l n)) ∧ Below w.heap.size w w' := by
  cases h : okT s c l && decide (1 ≤ n ∧ n ≤ 100000) with
  | false =>
    rw [secE_f h, secL_f h]
    exact (rsections_bad s c l hl n w h).mono fun e w' ⟨he, hb⟩ => ⟨_, he, ⟨rfl, .inl ⟨rfl, rfl⟩⟩, hb⟩
  | true =>
    simp only [Bool.and_eq_true, decide_eq_true_eq] at h
    rw [secE_t h.1 h.2, secL_t h.1 h.2]
    exact rsections_good s c l hl n w h.1 h.2

/-- The greatest cost of the first k operations, each with the greatest number of bytes. -/
def lg (c : Int) (l : List Int) (k : Nat) : Int := (l.take k).foldl (fun m x => max m (x + c * units 4096)) 0
def lgst (s c : Int) (l : List Int) : Int := if okT s c l then min (lg c l 24) s else 0
theorem lg_succ (c : Int) (l : List Int) (k : Nat) (h : k < l.length) : lg c l (k + 1) = max (lg c l k) (l.getD k 0 + c * units 4096) := by
  unfold lg
  rw [List.take_succ_eq_append_getElem h, List.foldl_append]
  simp [List.getD_eq_getElem?_getD, List.getElem?_eq_getElem h]
theorem lg_bd {s c : Int} {l : List Int} (h : okT s c l = true) (hl : l.length = 24) (k : Nat) (hk : k ≤ 24) : 0 ≤ lg c l k ∧ lg c l k ≤ 26600 := by
  induction k with
  | zero => simp [lg]
  | succ k ih =>
    have h1 := ih (by omega)
    have h2 := okT_l h k (by omega)
    obtain ⟨-, hc0, hc1⟩ := okT_c h
    have h3 := mul_bd hc0 hc1 (u := units 4096) (by decide) (by decide)
    rw [lg_succ c l k (by omega)]
    omega

set_option maxRecDepth 100000 in
theorem longest_calls (s c : Int) (l : List Int) (hl : l.length = 24) (w : World) :
    Calls Try.prog 19 #[.agg (ints (s :: c :: l))] w fun e w' => e = .returned (.int .i64 (lgst s c l)) ∧ Below w.heap.size w w' := by
  have H := Lib.hid hl
  have HB := Lib.hid ((Below.refl w.heap.size w).alloc (Nat.le_refl _) (.cells (ints (s :: c :: l)) 24))
  have hidx := fun (w : World) (i : Int) (h0 : 0 ≤ i) (h1 : i < (24 : Nat)) => run_index_ints (P := Try.prog) w 22 2 24 l i H.out h0 h1 (by kernel_rfl) (by kernel_rfl) (by kernel_rfl)
  cases hok : okT s c l with
  | false =>
    have HE := Lib.hid (chk_f hok)
    have HR := Lib.hid (show lgst s c l = 0 by simp [lgst, hok])
    clear hok hl
    go_enter Try.func19, Try.ntmps19
    go_wp2_with (first
      | ((with_reducible change wpList _ _ _ (⟨_, .load 24 (.tmp 1), _, _, _, _⟩ :: _) _ _); refine wpList_load_cells rfl 24 (.tmp 1) rfl ⟨w.heap.size, 0, none⟩ rfl (ints (s :: c :: l)) _ (cells_new w _ _ 24 0 rfl) Try.underlying24 rfl size24 (by rw [ints_size]; simp only [List.length_cons, H.out]) ?_)
      | (go_at_call 10; refine (check_calls s c l H.out _).mono ?_; rw [HE.out]; rintro e w1 ⟨rfl, hb1⟩))
    go_ret
    exact ⟨ret_int HR.out.symm, below_then' HB.out hb1⟩
  | true =>
    have HE := Lib.hid (chk_t hok)
    have HR := Lib.hid (show lgst s c l = min (lg c l 24) s by simp [lgst, hok])
    have HL := fun k hk => Lib.hid (lg_bd hok hl k hk)
    have HO := Lib.hid hok
    obtain ⟨⟨hs0, hs1⟩, hc0, hc1⟩ := okT_c hok
    have HM := Lib.hid (mul_bd hc0 hc1 (u := units 4096) (by decide) (by decide))
    clear hok hl
    go_enter Try.func19, Try.ntmps19
    go_wp2_with (first
      | ((with_reducible change wpList _ _ _ (⟨_, .load 24 (.tmp 1), _, _, _, _⟩ :: _) _ _); refine wpList_load_cells rfl 24 (.tmp 1) rfl ⟨w.heap.size, 0, none⟩ rfl (ints (s :: c :: l)) _ (cells_new w _ _ 24 0 rfl) Try.underlying24 rfl size24 (by rw [ints_size]; simp only [List.length_cons, H.out]) ?_)
      | (go_at_call 10; refine (check_calls s c l H.out _).mono ?_; rw [HE.out]; rintro e w1 ⟨rfl, hb1⟩)
      | ((with_reducible change wpList _ _ _ (⟨_, .load 22 (.tmp 9), _, _, _, _⟩ :: _) _ _); refine wpList_load_cells rfl 22 (.tmp 9) rfl ⟨w.heap.size, 2, none⟩ rfl (ints l) _ (cells_kept hb1 rfl) Try.underlying22 rfl size22 (by rw [ints_size, H.out]) ?_))
    go_loopw [3, 11] (fun m i wr => ∃ k : Nat, k ≤ 24 ∧ i = .int .i64 k ∧ m = .int .i64 (lg c l k) ∧ Below (w.alloc (.cells (ints (s :: c :: l)) 24)).heap.size (w.alloc (.cells (ints (s :: c :: l)) 24)) wr) (fun _ i _ => 24 - (intOf i).toNat)
    case atStart => exact ⟨0, by omega, rfl, rfl, hb1⟩
    case round =>
      obtain ⟨k, hk, rfl, rfl, hb⟩ := hrel
      have hlk := (HL k hk).out
      by_cases hlt : k < 24
      · have hx := okT_l HO.out k (by rw [H.out]; exact hlt)
        have hm := HM.out
        have HS := Lib.hid (lg_succ c l k (by rw [H.out]; exact hlt))
        simp only [List.getD_eq_getElem?_getD] at hx
        go_wp2_with (first
          | ((with_reducible change wpList _ _ _ (⟨_, .load 24 (.tmp 1), _, _, _, _⟩ :: _) _ _); refine wpList_load_cells rfl 24 (.tmp 1) rfl ⟨w.heap.size, 0, none⟩ rfl (ints (s :: c :: l)) _ (cells_kept hb rfl) Try.underlying24 rfl size24 (by rw [ints_size]; simp only [List.length_cons, H.out]) ?_)
          | (go_at_call 23; refine (copying_calls s c l 4096 _ hc0 hc1 (by omega) (by omega)).mono ?_; rintro e w2 ⟨rfl, hb2⟩))
        all_goals
          go_roundw
          case rel => exact ⟨k + 1, by omega, by go_num, by rw [HS.out]; simp only [List.getD_eq_getElem?_getD]; first | rfl | (congr 1; omega), below_then' hb hb2⟩
          case measure => simp [intOf]; omega
      · obtain rfl : k = 24 := by omega
        have hcs := cell_kept1 hb 0 (by simp)
        rw [show (s :: c :: l).getD 0 0 = s from rfl] at hcs
        go_wp2
        all_goals
          go_ret
          exact ⟨ret_int (by rw [HR.out]; first | rfl | omega), below_then' HB.out hb⟩
end Go.Proofs.Ytofibebphfeglaa
