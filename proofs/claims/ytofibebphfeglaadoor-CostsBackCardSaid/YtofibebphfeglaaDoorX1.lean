/- Small functions of Text and Parse: From, the reference's Check, value, Digits, label. -/
import Derived.Test.YtofibebphfeglaaDoorW1
namespace Go.Proofs.YtofibebphfeglaaDoor
open Go.RowKit
set_option linter.unusedVariables false
attribute [local go_sem] ints_get ints_size ints_getElem
theorem size33 : (Tryd.prog.info? 33).map (·.size) = some 26 := by kernel_rfl
set_option maxRecDepth 100000 in
theorem rcheck_calls (s c : Int) (l : List Int) (hl : l.length = 24) (w : World) :
    Calls Tryd.prog 26 #[.agg (ints (s :: c :: l))] w fun e w' => e = .returned (.int .i64 (chk s c l)) ∧ Below w.heap.size w w' := by
  have H := Lib.hid hl
  clear hl
  have HB := Lib.hid ((Below.refl w.heap.size w).alloc (Nat.le_refl _) (.cells (ints (s :: c :: l)) 33))
  go_enter Tryd.func26, Tryd.ntmps26
  go_wp2
  all_goals try (go_ret; exact ⟨ret_int (chk_bad (by omega)), HB.out⟩)
  go_loop [3] (fun i => ∃ k : Nat, k ≤ 24 ∧ i = .int .i64 k ∧ Hid ((l.take k).all rng = true)) (fun i => 24 - (intOf i).toNat)
  case atStart => exact ⟨0, by omega, rfl, rfl⟩
  case round =>
    obtain ⟨k, hk, rfl, hall⟩ := hrel
    have hw := Lib.hid ‹((1 ≤ s ∧ s ≤ 1000) ∧ 0 ≤ c) ∧ c ≤ 100›
    by_cases hlt : k < 24
    · have hce : (w.alloc (.cells (ints (s :: c :: l)) 33)).cell? ⟨w.heap.size, 2 + k, none⟩ = some (.int .i64 (l.getD k 0)) := by
        have := cell_kept1 (Below.refl (w.alloc (.cells (ints (s :: c :: l)) 33)).heap.size (w.alloc (.cells (ints (s :: c :: l)) 33))) (2 + k) (by simp [H.out]; omega)
        rw [this]; simp [List.getD_eq_getElem?_getD, Nat.add_comm 2]
      go_wp2
      all_goals first
        | (go_ret; exact ⟨ret_int (chk_cost (all_of_take_not _ _ k (by rw [H.out]; exact hlt) (rng_f (by simp only [List.getD_eq_getElem?_getD]; omega)))), HB.out⟩)
        | skip
      go_round
      case rel => exact ⟨k + 1, by omega, by go_num, Lib.hid (by rw [take_all _ _ _ (by rw [H.out]; exact hlt), hall.out, rng_t (by simp only [List.getD_eq_getElem?_getD]; omega)]; rfl)⟩
      case measure => simp [intOf]; omega
    · obtain rfl : k = 24 := by omega
      go_wp2
      go_ret
      exact ⟨ret_int (chk_good (by have := hw.out; omega) (by have := hall.out; rwa [List.take_of_length_le (by rw [H.out]; omega)] at this)), HB.out⟩
theorem built33 (s c : Int) (l : List Int) (hl : l.length = 24) : Tryd.prog.built 33 [(0, .int .i64 s), (1, .int .i64 c), (2, .agg (ints l))] = some (ints (s :: c :: l)) := by
  obtain ⟨a0, a1, a2, a3, a4, a5, a6, a7, a8, a9, a10, a11, a12, a13, a14, a15, a16, a17, a18, a19, a20, a21, a22, a23, rfl⟩ := list24 hl
  kernel_rfl
set_option maxRecDepth 100000 in
/-- value(line) is the address of cell number line. -/
theorem value_calls (b line : Nat) (h : line < 26) (w : World) : Calls Tryd.prog 24 #[.pointer (some ⟨b, 0, none⟩), .int .i64 line] w fun e w' => e = .returned (.pointer (some ⟨b, line, none⟩)) ∧ w' = w := by
  rcases Nat.lt_or_ge line 2 with h2 | h2
  · rcases (by omega : line = 0 ∨ line = 1) with rfl | rfl
    all_goals
      go_enter Tryd.func24, Tryd.ntmps24
      go_wp2
      go_ret
      exact ⟨rfl, rfl⟩
  · obtain ⟨k, rfl⟩ : ∃ k, line = 2 + k := ⟨line - 2, by omega⟩
    have e1 : ((2 + k : Nat) : Int) ≠ 0 := by omega
    have e2 : ((2 + k : Nat) : Int) ≠ 1 := by omega
    have e3 : ((2 + k : Nat) : Int) - 2 = (k : Int) := by omega
    go_enter Tryd.func24, Tryd.ntmps24
    go_wp2
    go_ret
    refine ⟨?_, rfl⟩
    simp
theorem size26' : (Tryd.prog.info? 26).map (·.size) = some 24 := by kernel_rfl
set_option maxRecDepth 100000 in
theorem from_calls (s c : Int) (l : List Int) (hl : l.length = 24) (w : World) :
    Calls Tryd.prog 13 #[.agg (ints (s :: c :: l))] w fun e w' => e = .returned (.agg (ints (s :: c :: l))) ∧ Below w.heap.size w w' := by
  have H := Lib.hid hl
  have HBu := Lib.hid (built33 s c l hl)
  clear hl
  go_enter Tryd.func13, Tryd.ntmps13
  go_wp2_with (first
    | (refine wpList_load_cells rfl 26 (.tmp 7) rfl ⟨w.heap.size, 2, none⟩ rfl (ints l) _ (cells_kept (l := s :: c :: l) (T := 28) ((Below.refl _ _).alloc (by simp) _) rfl) Tryd.underlying26 rfl size26 (by rw [ints_size, H.out]) ?_)
    | (refine wpList_build_to rfl 33 #[(0, .tmp 4), (1, .tmp 6), (2, .tmp 8)] rfl [(0, .int .i64 s), (1, .int .i64 c), (2, .agg (ints l))] (by simp [Act.eval, Act.put]) _ HBu.out ?_)
    | (refine wpList_store_row rfl 33 (.tmp 2) (.tmp 9) rfl (w.heap.size + 1) (ints (s :: c :: l)) rfl rfl 33 _ (heap_alloc2_new _ _ _) (by rw [ints_size]; simp only [List.length_cons, H.out]; exact size33) (by rw [ints_size]; simp only [List.length_cons, H.out]; rfl) (ints_one _) ?_))
  refine bodyPost_ret (v := .agg (ints (s :: c :: l))) (results_cell_row rfl _ _ (w.heap.size + 1) 33 (ints (s :: c :: l)) (0, 0) _ rfl (setRow_heap _ _ _ _ _ _ (heap_alloc2_new _ _ _)) Tryd.underlying33 rfl (by rw [ints_size]; simp only [List.length_cons, H.out]; exact size33)) rfl
    ⟨rfl, below_setRow' (((Below.refl _ _).alloc (Nat.le_refl _) _).alloc (by simp) _) (by omega) _⟩
def dec (n : Int) : List UInt8 := Lib.decDigits n.toNat
def dstr (l : List UInt8) : Value := .string ⟨l.toArray⟩
theorem dec_small {n : Int} (h0 : 0 ≤ n) (h1 : n < 10) : dec n = [UInt8.ofNat (48 + n.toNat)] := Lib.decDigits_one (by omega)
theorem dec_big {n : Int} (h0 : 0 ≤ n) (h1 : ¬ n < 10) : dec n = dec (n / 10) ++ dec (n % 10) := by
  unfold dec
  rw [Lib.decDigits, dif_neg (by omega)]
  have e1 : (n / 10).toNat = n.toNat / 10 := by omega
  have e2 : (n % 10).toNat = n.toNat % 10 := by omega
  rw [e1, e2, Lib.decDigits_one (i := n.toNat % 10) (by omega)]
theorem bs_app (a b : List UInt8) : (⟨a.toArray⟩ : ByteArray) ++ ⟨b.toArray⟩ = ⟨(a ++ b).toArray⟩ := by
  apply ByteArray.ext
  simp
theorem decDigits_len : ∀ u : Nat, (Lib.decDigits u).length ≤ u + 1 := by
  intro u
  induction u using Nat.strongRecOn with
  | _ u ih =>
    rw [Lib.decDigits]
    split
    · simp
    · rw [List.length_append]
      have := ih (u / 10) (by omega)
      simp
      omega
theorem dec_len {n : Int} (h0 : 0 ≤ n) (h1 : n ≤ 1000000) : (dec n).length ≤ 1000001 := by
  have := decDigits_len n.toNat
  unfold dec
  omega
set_option maxRecDepth 100000 in
theorem digits_calls : ∀ (u : Nat) (n : Int), n.toNat = u → 0 ≤ n → n ≤ 1000000 → ∀ w : World, Calls Tryd.prog 27 #[.int .i64 n] w fun e w' => e = .returned (.string ⟨(dec n).toArray⟩) ∧ w' = w := by
  intro u
  induction u using Nat.strongRecOn with
  | _ u ih =>
    intro n hu h0 h9 w
    by_cases h : n < 10
    · have hd := dec_small h0 h
      clear ih hu
      rcases (by omega : n = 0 ∨ n = 1 ∨ n = 2 ∨ n = 3 ∨ n = 4 ∨ n = 5 ∨ n = 6 ∨ n = 7 ∨ n = 8 ∨ n = 9) with rfl | rfl | rfl | rfl | rfl | rfl | rfl | rfl | rfl | rfl
      all_goals
        rw [hd]
        clear hd
        go_enter Tryd.func27, Tryd.ntmps27
        go_wp2
        go_ret
        exact ⟨rfl, rfl⟩
    · have HQ := Lib.hid (ih (n / 10).toNat (by omega) (n / 10) rfl (by omega) (by omega))
      have HR := Lib.hid (ih (n % 10).toNat (by omega) (n % 10) rfl (by omega) (by omega))
      have HD := Lib.hid (dec_big h0 h)
      have l1 := dec_len (n := n / 10) (by omega) (by omega)
      have l2 := dec_len (n := n % 10) (by omega) (by omega)
      clear ih
      go_enter Tryd.func27, Tryd.ntmps27
      go_wp2_with (go_at_call 27; first | ((with_reducible refine (HQ.out _).mono ?_); rintro e w' ⟨rfl, rfl⟩) | ((with_reducible refine (HR.out _).mono ?_); rintro e w' ⟨rfl, rfl⟩))
      go_ret
      exact ⟨by rw [HD.out]; simp [bs_app], rfl⟩
end Go.Proofs.YtofibebphfeglaaDoor
