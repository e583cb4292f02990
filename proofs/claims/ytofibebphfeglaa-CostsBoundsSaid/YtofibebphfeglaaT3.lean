import Derived.Test.YtofibebphfeglaaT2
namespace Go.Proofs.Ytofibebphfeglaa
open Go.RowKit
attribute [local go_sem] ints_get ints_size ints_getElem

set_option maxRecDepth 100000 in
theorem rcheck_calls (s c : Int) (l : List Int) (hl : l.length = 24) (w : World) :
    Calls Try.prog 11 #[.agg (ints (s :: c :: l))] w fun e w' => e = .returned (.int .i64 (chk s c l)) ∧ Below w.heap.size w w' := by
  have H := Lib.hid hl
  clear hl
  have HB := Lib.hid ((Below.refl w.heap.size w).alloc (Nat.le_refl _) (.cells (ints (s :: c :: l)) 29))
  go_enter Try.func11, Try.ntmps11
  go_wp2
  all_goals try (go_ret; exact ⟨ret_int (chk_bad (by omega)), HB.out⟩)
  go_loop [3] (fun i => ∃ k : Nat, k ≤ 24 ∧ i = .int .i64 k ∧ Hid ((l.take k).all rng = true)) (fun i => 24 - (intOf i).toNat)
  case atStart => exact ⟨0, by omega, rfl, rfl⟩
  case round =>
    obtain ⟨k, hk, rfl, hall⟩ := hrel
    have hw := Lib.hid ‹((1 ≤ s ∧ s ≤ 1000) ∧ 0 ≤ c) ∧ c ≤ 100›
    by_cases hlt : k < 24
    · have hce : (w.alloc (.cells (ints (s :: c :: l)) 29)).cell? ⟨w.heap.size, 2 + k, none⟩ = some (.int .i64 (l.getD k 0)) := by
        have := cell_kept1 (Below.refl (w.alloc (.cells (ints (s :: c :: l)) 29)).heap.size (w.alloc (.cells (ints (s :: c :: l)) 29))) (2 + k) (by simp [H.out]; omega)
        rw [this]; simp [List.getD_eq_getElem?_getD, Nat.add_comm 2]
      go_wp2
      all_goals first
        | (go_ret; exact ⟨ret_int (chk_cost (all_of_take_not _ _ k (by rw [H.out]; exact hlt) (rng_f (by simp only [List.getD_eq_getElem?_getD]; omega)))), HB.out⟩)
        | skip
      go_round
      case rel => exact ⟨k + 1, by omega, by go_num, Lib.hid (by rw [take_all _ _ _ (by rw [H.out]; exact hlt), hall.out, rng_t (by simp only [List.getD_eq_getElem?_getD]; omega)]; rfl)⟩
      case measure => simp [intOf]; omega
    · obtain rfl : k = 24 := by omega
      go_wp2
      go_ret
      exact ⟨ret_int (chk_good (by have := hw.out; omega) (by have := hall.out; rwa [List.take_of_length_le (by rw [H.out]; omega)] at this)), HB.out⟩

theorem units_of {b : Int} {k : Nat} (h0 : 0 ≤ b) (h1 : b ≤ 16 * k) (h2 : (16 * k : Int) < b + 16) : (k : Int) = units b := by unfold units; omega
theorem mul_succ' (c : Int) (k : Nat) : c * ((k + 1 : Nat) : Int) = c * (k : Int) + c := by rw [Int.natCast_succ, Int.mul_add, Int.mul_one]

set_option maxRecDepth 100000 in
theorem rcost_good (s c : Int) (l : List Int) (hl : l.length = 24) (op b : Int) (w : World) (ht : okT s c l = true) (ho : 0 ≤ op ∧ op < 24) (hb : 0 ≤ b ∧ b ≤ 4096) :
    Calls Try.prog 8 #[.agg (ints (s :: c :: l)), .int .i64 op, .int .i64 b] w fun e w' => e = .returned (.tuple #[.int .i64 (l.getD op.toNat 0 + c * units b), .int .i64 0]) ∧ Below w.heap.size w w' := by
  obtain ⟨ho0, ho1⟩ := ho
  obtain ⟨hb0, hb1⟩ := hb
  obtain ⟨-, hc0, hc1⟩ := okT_c ht
  have H := Lib.hid hl
  have hk := Lib.hid (okT_l ht op.toNat (by omega))
  have HE := Lib.hid (chk_t ht)
  have HB := Lib.hid ((Below.refl w.heap.size w).alloc (Nat.le_refl _) (.cells (ints (s :: c :: l)) 29))
  clear ht hl
  go_enter Try.func8, Try.ntmps8
  go_wp2_with (first
    | (refine wpList_load_cells rfl 29 (.tmp 3) rfl ⟨w.heap.size, 0, none⟩ rfl (ints (s :: c :: l)) _ (cells_new w _ _ 29 0 rfl) Try.underlying29 rfl size29 (by rw [ints_size]; simp only [List.length_cons, H.out]) ?_)
    | (go_at_call 11; refine (rcheck_calls s c l H.out _).mono ?_; rw [HE.out]; rintro e w1 ⟨rfl, hb1⟩; have hce := cell_kept1 hb1 (2 + op.toNat) (by simp [H.out]; omega); have hcc := cell_kept1 hb1 1 (by simp); rw [show (s :: c :: l).getD (2 + op.toNat) 0 = l.getD op.toNat 0 by simp [List.getD_eq_getElem?_getD, Nat.add_comm 2]] at hce; rw [show (s :: c :: l).getD 1 0 = c from rfl] at hcc; have HW := Lib.hid (below_then' HB.out hb1); clear hb1))
  go_loop [8, 9] (fun n i => ∃ k : Nat, 16 * k < b + 16 ∧ i = .int .i64 ((16 * k : Nat) : Int) ∧ n = .int .i64 (l.getD op.toNat 0 + c * k)) (fun _ i => (b + 16 - intOf i).toNat)
  case atStart => exact ⟨0, by omega, rfl, by simp⟩
  case round =>
    obtain ⟨k, hk1, rfl, rfl⟩ := hrel
    have hm := mul_bd hc0 hc1 (u := (k : Int)) (by omega) (by omega)
    have hkb := Lib.hid hk
    have hk' := hk.out
    simp only [List.getD_eq_getElem?_getD] at hk'
    by_cases hlt : ((16 * k : Nat) : Int) < b
    · go_wp2
      go_round
      case rel => exact ⟨k + 1, by omega, by go_num, by rw [mul_succ']; simp only [List.getD_eq_getElem?_getD]; go_num⟩
      case measure => simp [intOf]; omega
    · go_wp2
      go_ret2
      exact ⟨ret_int2 (by rw [units_of hb0 (by omega) hk1]) rfl, HW.out⟩
end Go.Proofs.Ytofibebphfeglaa
