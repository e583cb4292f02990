import Derived.Test.YtofibebphfeglaaT12
namespace Go.Proofs.Ytofibebphfeglaa
open Go.RowKit
attribute [local go_sem] ints_get ints_size ints_getElem

theorem secQ_lt {s n : Int} (hs : 1 ≤ s) (k : Nat) : k < secQ s n ↔ s * (k : Int) < n := by
  unfold secQ
  have h1 : (k : Int) + 1 ≤ (n + s - 1) / s ↔ ((k : Int) + 1) * s ≤ n + s - 1 := Int.le_ediv_iff_mul_le (by omega)
  rw [Int.add_mul, Int.mul_comm] at h1
  omega
theorem lg_ge (c : Int) (l : List Int) (hl : l.length = 24) (k : Nat) (hk : k < 24) : l.getD k 0 + c * units 4096 ≤ lg c l 24 := by
  have h : ∀ j, k < j → j ≤ 24 → l.getD k 0 + c * units 4096 ≤ lg c l j := by
    intro j
    induction j with
    | zero => omega
    | succ j ih =>
      intro h1 h2
      rw [lg_succ c l j (by omega)]
      by_cases he : k = j
      · subst he; omega
      · have := ih (by omega) (by omega); omega
  exact h 24 hk (by omega)
theorem units_mono {a b : Int} (h : a ≤ b) : units a ≤ units b := by unfold units; omega
theorem mul_mono {c a b : Int} (hc : 0 ≤ c) (h : a ≤ b) : c * a ≤ c * b := Int.mul_le_mul_of_nonneg_left h hc
theorem cost_facts {s c : Int} {l : List Int} (hok : okT s c l = true) (hl : l.length = 24) {op b : Int} (ho : 0 ≤ op ∧ op < 24) (hb : 0 ≤ b ∧ b ≤ 4096) :
    1 ≤ l.getD op.toNat 0 + c * units b ∧ l.getD op.toNat 0 + c * units b ≤ 26600 ∧ l.getD op.toNat 0 + c * units b ≤ lg c l 24 := by
  obtain ⟨-, hc0, hc1⟩ := okT_c hok
  have h1 := okT_l hok op.toNat (by omega)
  have h2 := mul_bd hc0 hc1 (units_bd hb.1 hb.2).1 (units_bd hb.1 hb.2).2
  have h3 := lg_ge c l hl op.toNat (by omega)
  have h4 := mul_mono hc0 (units_mono (a := b) (b := 4096) hb.2)
  omega
theorem pre_mid {s c : Int} {l : List Int} {n : Int} {k : Nat} (hok : okT s c l = true) (hn : 1 ≤ n ∧ n ≤ 100000) (hs : 1 ≤ s) (h : s * (k : Int) < n) : preB s c l n (s * (k : Int)) = true := by
  have h0 : 0 ≤ s * (k : Int) := Int.mul_nonneg (by omega) (by omega)
  simp only [preB, hok, Bool.true_and, decide_eq_true_eq]
  exact ⟨by omega, by omega, by omega, by omega, Int.mul_emod_right s k⟩
theorem pre_last {s c : Int} {l : List Int} {n : Int} : preB s c l n n = false := by
  simp only [preB, Bool.and_eq_false_iff, decide_eq_false_iff_not]
  right; omega
theorem pre_in {s c : Int} {l : List Int} {n x : Int} {k : Nat} (hx : 1 < x) (hxs : x ≤ s) : preB s c l n (s * (k : Int) + x - 1) = false := by
  simp only [preB, Bool.and_eq_false_iff, decide_eq_false_iff_not]
  right
  have : (s * (k : Int) + x - 1) % s = x - 1 := by
    rw [show s * (k : Int) + x - 1 = (x - 1) + s * (k : Int) by omega, Int.add_mul_emod_self_left]
    exact Int.emod_eq_of_lt (by omega) (by omega)
  omega

set_option maxRecDepth 100000 in
theorem bounds_bad (s c : Int) (l : List Int) (hl : l.length = 24) (op b : Int) (w : World) (he : costE s c l op b ≠ 0) :
    Calls Try.prog 5 #[.agg (ints (s :: c :: l)), .int .i64 op, .int .i64 b] w fun e w' => e = .returned (.bool true) ∧ Below w.heap.size w w' := by
  have H := Lib.hid hl
  have he' : (costE s c l op b == 0) = false := by simpa using he
  clear he hl
  have HF := Lib.hid (heap_alloc_new w (.cells (ints (s :: c :: l)) 24))
  have HW := Lib.hid ((Below.refl w.heap.size w).alloc (Nat.le_refl _) (.cells (ints (s :: c :: l)) 24))
  go_enter Try.func5, Try.ntmps5
  go_wp2_with (first
    | ((with_reducible change wpList _ _ _ (⟨_, .load 24 (.tmp 3), _, _, _, _⟩ :: _) _ _); refine wpList_load_cells rfl 24 (.tmp 3) rfl ⟨w.heap.size, 0, none⟩ rfl (ints (s :: c :: l)) _ (cells_of_heap HF.out) Try.underlying24 rfl size24 (by rw [ints_size]; simp only [List.length_cons, H.out]) ?_)
    | (go_at_call 7; refine (cost_calls s c l H.out _ _ _).mono ?_; rintro e w2 ⟨rfl, hb2⟩; replace HW := Lib.hid (below_then' HW.out hb2); clear hb2)
    | (go_at_call 14; refine (awake_calls _).mono ?_; rintro e w2 ⟨rfl, hb2⟩; replace HW := Lib.hid (below_then' HW.out hb2); clear hb2))
  go_ret
  exact ⟨rfl, HW.out⟩

set_option maxHeartbeats 8000000 in
set_option maxRecDepth 100000 in
theorem bounds_good (s c : Int) (l : List Int) (hl : l.length = 24) (op b : Int) (w : World) (hok : okT s c l = true) (ho : 0 ≤ op ∧ op < 24) (hb : 0 ≤ b ∧ b ≤ 4096) :
    Calls Try.prog 5 #[.agg (ints (s :: c :: l)), .int .i64 op, .int .i64 b] w fun e w' => e = .returned (.bool true) ∧ Below w.heap.size w w' := by
  have H := Lib.hid hl
  have HO := Lib.hid hok
  have HOp := Lib.hid ho
  have HBb := Lib.hid hb
  obtain ⟨n, hn⟩ : ∃ n, n = l.getD op.toNat 0 + c * units b := ⟨_, rfl⟩
  obtain ⟨hn1, hn2, hn3⟩ : 1 ≤ n ∧ n ≤ 26600 ∧ n ≤ lg c l 24 := by rw [hn]; exact cost_facts hok hl ho hb
  have HN := Lib.hid hn
  obtain ⟨⟨hs0, hs1⟩, hc0, hc1⟩ := okT_c hok
  have HLG := Lib.hid (show lgst s c l = min (lg c l 24) s by simp [lgst, hok])
  obtain ⟨hb0, hb1⟩ := hb
  have hqp := sec_pos s n hs0 hn1
  have hq0 : ((secQ s n : Int) == 0) = false := by simp; omega
  clear hok hn hl ho
  have HF := Lib.hid (heap_alloc_new w (.cells (ints (s :: c :: l)) 24))
  have hcs := ints_cell HF.out 0 (by simp)
  have HW := Lib.hid ((Below.refl w.heap.size w).alloc (Nat.le_refl _) (.cells (ints (s :: c :: l)) 24))
  go_enter Try.func5, Try.ntmps5
  go_wp2_with (first
    | ((with_reducible change wpList _ _ _ (⟨_, .load 24 (.tmp 3), _, _, _, _⟩ :: _) _ _); refine wpList_load_cells rfl 24 (.tmp 3) rfl ⟨w.heap.size, 0, none⟩ rfl (ints (s :: c :: l)) _ (cells_of_heap HF.out) Try.underlying24 rfl size24 (by rw [ints_size]; simp only [List.length_cons, H.out]) ?_)
    | (go_at_call 7; refine (cost_good s c l H.out _ _ _ HO.out HOp.out HBb.out).mono ?_; rw [← HN.out]; rintro e w2 ⟨rfl, hb2⟩; replace HF := Lib.hid (heap_kept HF.out hb2); clear hcs; have hcs : w2.cell? ⟨w.heap.size, 0, none⟩ = some (.int .i64 s) := ints_cell HF.out 0 (by simp); replace HW := Lib.hid (below_then' HW.out hb2); clear hb2)
    | (go_at_call 14; refine (awake_calls _).mono ?_; rintro e w2 ⟨rfl, hb2⟩; replace HW := Lib.hid (below_then' HW.out hb2); clear hb2)
    | (go_at_call 15; refine (sections_good s c l H.out n _ HO.out ⟨hn1, by omega⟩).mono ?_; rw [secs_len]; rintro e w3 ⟨v, rfl, hown, hb3⟩; obtain ⟨g, cap, rfl, hg, hcells⟩ := own_open hown (sec_pos s n hs0 hn1); replace HF := Lib.hid (heap_kept HF.out hb3); clear hcs; have hcs : w3.cell? ⟨w.heap.size, 0, none⟩ = some (.int .i64 s) := ints_cell HF.out 0 (by simp); replace HW := Lib.hid (below_then' HW.out hb3); have HC := Lib.hid hcells; clear hb3 hcells hown)
    | (go_at_call 19; refine (longest_calls s c l H.out _).mono ?_; rw [HLG.out]; rintro e w4 ⟨rfl, hb4⟩; replace HF := Lib.hid (heap_kept HF.out hb4); clear hcs; have hcs : w4.cell? ⟨w.heap.size, 0, none⟩ = some (.int .i64 s) := ints_cell HF.out 0 (by simp); replace HW := Lib.hid (below_then' HW.out hb4); have H34 := Lib.hid hb4; clear hb4))
  · go_ret
    exact ⟨rfl, HW.out⟩
  · go_loopw [11, 12] (fun m i wr => ∃ k : Nat, k ≤ secQ s n ∧ i = .int .i64 k ∧ m = .int .i64 (min n (s * (k : Int))) ∧ Hid (Below w4.heap.size w4 wr)) (fun _ i _ => secQ s n - (intOf i).toNat)
    case atStart => exact ⟨0, by omega, rfl, by simp; omega, Lib.hid (Below.refl _ _)⟩
    case round =>
      obtain ⟨k, hk, rfl, rfl, hb⟩ := hrel
      have hbw := hb.out
      by_cases hlt : k < secQ s n
      · have hsk := (secQ_lt hs0 k).1 hlt
        have hsk0 : 0 ≤ s * (k : Int) := Int.mul_nonneg (by omega) (by omega)
        obtain ⟨x, hx⟩ : ∃ x, x = secF s n k := ⟨_, rfl⟩
        have hx1 : 1 ≤ x ∧ x ≤ s ∧ x ≤ n - s * (k : Int) := by rw [hx]; unfold secF; omega
        obtain ⟨hx1, hx2, hx3⟩ := hx1
        have hcx : wr.cell? ⟨g, k, none⟩ = some (.int .i64 x) := by
          rw [hbw.cell (Nat.lt_of_lt_of_le hg H34.out.size), H34.out.cell hg, hx, ← secs_get s n k hlt]
          exact HC.out k hlt
        replace HF := Lib.hid (heap_kept HF.out hbw)
        rw [show min n (s * (k : Int)) = s * (k : Int) by omega]
        have HX := Lib.hid hx
        obtain ⟨p, hp⟩ : ∃ p, p = decide (k + 1 < secQ s n) := ⟨_, rfl⟩
        have HP : Hid (preB s c l n (s * (k : Int) + x) = p) := Lib.hid (by
          by_cases h1 : k + 1 < secQ s n
          · have h2 := (secQ_lt (n := n) hs0 (k + 1)).1 h1
            rw [mul_succ'] at h2
            have h3 : x = s := by rw [hx]; unfold secF; omega
            rw [hp, h3, ← mul_succ', pre_mid HO.out ⟨hn1, by omega⟩ hs0 (by rw [mul_succ']; omega)]
            simp [h1]
          · have h2 := mt (secQ_lt (n := n) hs0 (k + 1)).2 h1
            rw [mul_succ'] at h2
            have h3 : s * (k : Int) + x = n := by rw [hx]; unfold secF; omega
            rw [h3, pre_last, hp]
            simp [h1])
        have HZ : Hid (s * ((k + 1 : Nat) : Int) = s * (k : Int) + s ∧ (k + 1 = secQ s n → n ≤ s * (k : Int) + s) ∧ (k + 1 < secQ s n → s * (k : Int) + s < n)) := Lib.hid (by
          refine ⟨mul_succ' s k, fun h1 => ?_, fun h1 => ?_⟩
          · have h2 := mt (secQ_lt (n := n) hs0 (k + 1)).2 (by omega)
            rw [mul_succ'] at h2
            omega
          · have h2 := (secQ_lt (n := n) hs0 (k + 1)).1 h1
            rw [mul_succ'] at h2
            omega)
        have hqb := Lib.hid (secQ_le s n hs0 hn1)
        have hqb' : secQ s n ≤ 100000 := by have := hqb.out; omega
        clear hx hbw
        rcases (by omega : k + 1 < secQ s n ∨ k + 1 = secQ s n) with hkq | hkq
        · obtain rfl : p = true := by rw [hp]; simp; omega
          clear hp
          have HKQ := Lib.hid hkq
          have hkq' : (k : Int) < (secQ s n : Int) - 1 := by omega
          rcases (by omega : x ≤ 1 ∨ 1 < x) with h1 | h1
          · have hd1 : decide (n < s * (k : Int) + x) = false := by simp; omega
            have hd2 : decide (x < 1) = false := by simp; omega
            have hd3 : decide (min (lg c l 24) s < x) = false := by simp; omega
            have hd4 : decide (1 < x) = false := by simp; omega
            have HI : Hid (1 < x → preB s c l n (s * (k : Int) + x - 1) = false) := Lib.hid (fun h => pre_in h hx2)
            go_wp2_with (first
              | ((with_reducible change wpList _ _ _ (⟨_, .load 24 (.tmp 3), _, _, _, _⟩ :: _) _ _); refine wpList_load_cells rfl 24 (.tmp 3) rfl ⟨w.heap.size, 0, none⟩ rfl (ints (s :: c :: l)) _ (cells_of_heap HF.out) Try.underlying24 rfl size24 (by rw [ints_size]; simp only [List.length_cons, H.out]) ?_)
              | (go_at_call 17; first | ((with_reducible refine (pre_calls s c l H.out n (s * (k : Int) + x) _).mono ?_); rw [HP.out]) | ((with_reducible refine (pre_calls s c l H.out n (s * (k : Int) + x - 1) _).mono ?_); rw [HI.out h1]))
              | (rintro e w6 ⟨rfl, hb6⟩; replace HF := Lib.hid (heap_kept HF.out hb6); replace hcx : w6.cell? ⟨g, k, none⟩ = some (.int .i64 x) := (hb6.cell (World.block_lt_of_cell? _ _ hcx)).trans hcx; replace hb := Lib.hid (below_then' hb.out hb6); clear hb6))
            go_roundw
            case rel => exact ⟨k + 1, by omega, by go_num, by rw [HZ.out.1]; have := HZ.out.2; have := HX.out; unfold secF at this; congr 1; omega, hb⟩
            case measure => simp [intOf]; omega
          · have hd1 : decide (n < s * (k : Int) + x) = false := by simp; omega
            have hd2 : decide (x < 1) = false := by simp; omega
            have hd3 : decide (min (lg c l 24) s < x) = false := by simp; omega
            have hd4 : decide (1 < x) = true := by simp; omega
            have HI : Hid (1 < x → preB s c l n (s * (k : Int) + x - 1) = false) := Lib.hid (fun h => pre_in h hx2)
            go_wp2_with (first
              | ((with_reducible change wpList _ _ _ (⟨_, .load 24 (.tmp 3), _, _, _, _⟩ :: _) _ _); refine wpList_load_cells rfl 24 (.tmp 3) rfl ⟨w.heap.size, 0, none⟩ rfl (ints (s :: c :: l)) _ (cells_of_heap HF.out) Try.underlying24 rfl size24 (by rw [ints_size]; simp only [List.length_cons, H.out]) ?_)
              | (go_at_call 17; first | ((with_reducible refine (pre_calls s c l H.out n (s * (k : Int) + x) _).mono ?_); rw [HP.out]) | ((with_reducible refine (pre_calls s c l H.out n (s * (k : Int) + x - 1) _).mono ?_); rw [HI.out h1]))
              | (rintro e w6 ⟨rfl, hb6⟩; replace HF := Lib.hid (heap_kept HF.out hb6); replace hcx : w6.cell? ⟨g, k, none⟩ = some (.int .i64 x) := (hb6.cell (World.block_lt_of_cell? _ _ hcx)).trans hcx; replace hb := Lib.hid (below_then' hb.out hb6); clear hb6))
            go_roundw
            case rel => exact ⟨k + 1, by omega, by go_num, by rw [HZ.out.1]; have := HZ.out.2; have := HX.out; unfold secF at this; congr 1; omega, hb⟩
            case measure => simp [intOf]; omega
        · obtain rfl : p = false := by rw [hp]; simp; omega
          clear hp
          have HKQ := Lib.hid hkq
          have hkq' : (secQ s n : Int) - 1 ≤ k := by omega
          rcases (by omega : x ≤ 1 ∨ 1 < x) with h1 | h1
          · have hd1 : decide (n < s * (k : Int) + x) = false := by simp; omega
            have hd2 : decide (x < 1) = false := by simp; omega
            have hd3 : decide (min (lg c l 24) s < x) = false := by simp; omega
            have hd4 : decide (1 < x) = false := by simp; omega
            have HI : Hid (1 < x → preB s c l n (s * (k : Int) + x - 1) = false) := Lib.hid (fun h => pre_in h hx2)
            go_wp2_with (first
              | ((with_reducible change wpList _ _ _ (⟨_, .load 24 (.tmp 3), _, _, _, _⟩ :: _) _ _); refine wpList_load_cells rfl 24 (.tmp 3) rfl ⟨w.heap.size, 0, none⟩ rfl (ints (s :: c :: l)) _ (cells_of_heap HF.out) Try.underlying24 rfl size24 (by rw [ints_size]; simp only [List.length_cons, H.out]) ?_)
              | (go_at_call 17; first | ((with_reducible refine (pre_calls s c l H.out n (s * (k : Int) + x) _).mono ?_); rw [HP.out]) | ((with_reducible refine (pre_calls s c l H.out n (s * (k : Int) + x - 1) _).mono ?_); rw [HI.out h1]))
              | (rintro e w6 ⟨rfl, hb6⟩; replace HF := Lib.hid (heap_kept HF.out hb6); replace hcx : w6.cell? ⟨g, k, none⟩ = some (.int .i64 x) := (hb6.cell (World.block_lt_of_cell? _ _ hcx)).trans hcx; replace hb := Lib.hid (below_then' hb.out hb6); clear hb6))
            go_roundw
            case rel => exact ⟨k + 1, by omega, by go_num, by rw [HZ.out.1]; have := HZ.out.2; have := HX.out; unfold secF at this; congr 1; omega, hb⟩
            case measure => simp [intOf]; omega
          · have hd1 : decide (n < s * (k : Int) + x) = false := by simp; omega
            have hd2 : decide (x < 1) = false := by simp; omega
            have hd3 : decide (min (lg c l 24) s < x) = false := by simp; omega
            have hd4 : decide (1 < x) = true := by simp; omega
            have HI : Hid (1 < x → preB s c l n (s * (k : Int) + x - 1) = false) := Lib.hid (fun h => pre_in h hx2)
            go_wp2_with (first
              | ((with_reducible change wpList _ _ _ (⟨_, .load 24 (.tmp 3), _, _, _, _⟩ :: _) _ _); refine wpList_load_cells rfl 24 (.tmp 3) rfl ⟨w.heap.size, 0, none⟩ rfl (ints (s :: c :: l)) _ (cells_of_heap HF.out) Try.underlying24 rfl size24 (by rw [ints_size]; simp only [List.length_cons, H.out]) ?_)
              | (go_at_call 17; first | ((with_reducible refine (pre_calls s c l H.out n (s * (k : Int) + x) _).mono ?_); rw [HP.out]) | ((with_reducible refine (pre_calls s c l H.out n (s * (k : Int) + x - 1) _).mono ?_); rw [HI.out h1]))
              | (rintro e w6 ⟨rfl, hb6⟩; replace HF := Lib.hid (heap_kept HF.out hb6); replace hcx : w6.cell? ⟨g, k, none⟩ = some (.int .i64 x) := (hb6.cell (World.block_lt_of_cell? _ _ hcx)).trans hcx; replace hb := Lib.hid (below_then' hb.out hb6); clear hb6))
            go_roundw
            case rel => exact ⟨k + 1, by omega, by go_num, by rw [HZ.out.1]; have := HZ.out.2; have := HX.out; unfold secF at this; congr 1; omega, hb⟩
            case measure => simp [intOf]; omega
      · obtain rfl : k = secQ s n := by omega
        have hend := mt (secQ_lt (n := n) hs0 (secQ s n)).2 (Nat.lt_irrefl _)
        rw [show min n (s * (secQ s n : Int)) = n by omega]
        replace HF := Lib.hid (heap_kept HF.out hbw)
        clear hbw
        by_cases hb4 : b < 4096
        · obtain ⟨n2, hn2e⟩ : ∃ n2, n2 = l.getD op.toNat 0 + c * units (b + 1) := ⟨_, rfl⟩
          have hge : n ≤ n2 := by
            have := mul_mono hc0 (units_mono (a := b) (b := b + 1) (by omega))
            rw [HN.out, hn2e]; omega
          have HN2 := Lib.hid hn2e
          clear hn2e hend
          go_wp2_with (first
            | ((with_reducible change wpList _ _ _ (⟨_, .load 24 (.tmp 3), _, _, _, _⟩ :: _) _ _); refine wpList_load_cells rfl 24 (.tmp 3) rfl ⟨w.heap.size, 0, none⟩ rfl (ints (s :: c :: l)) _ (cells_of_heap HF.out) Try.underlying24 rfl size24 (by rw [ints_size]; simp only [List.length_cons, H.out]) ?_)
            | (go_at_call 7; refine (cost_good s c l H.out op (b + 1) _ HO.out HOp.out ⟨by omega, by omega⟩).mono ?_; rw [← HN2.out]; rintro e w6 ⟨rfl, hb6⟩; replace hb := Lib.hid (below_then' hb.out hb6); clear hb6)
            | (go_at_call 14; refine (awake_calls _).mono ?_; rintro e w7 ⟨rfl, hb7⟩; replace hb := Lib.hid (below_then' hb.out hb7); clear hb7))
          go_ret
          exact ⟨rfl, below_then' HW.out hb.out⟩
        · clear hend
          go_wp2_with (go_at_call 14; refine (awake_calls _).mono ?_; rintro e w7 ⟨rfl, hb7⟩; replace hb := Lib.hid (below_then' hb.out hb7); clear hb7)
          go_ret
          exact ⟨rfl, below_then' HW.out hb.out⟩

theorem bounds_all (s0 c0 : Int) (l0 : List Int) (a1 a2 : Int) (w : World) (hl0 : l0.length = 24) (_ : (Lit.int .i64 a1).wf = true) (_ : (Lit.int .i64 a2).wf = true) :
    Calls Try.prog 5 #[.agg (ints (s0 :: c0 :: l0)), .int .i64 a1, .int .i64 a2] w fun e w' => e = .returned (.bool true) ∧ Below w.heap.size w w' := by
  by_cases he : costE s0 c0 l0 a1 a2 = 0
  · have h1 : okT s0 c0 l0 = true := by
      by_cases h : okT s0 c0 l0 = true
      · exact h
      · simp [costE, h] at he
    have h2 : 0 ≤ a1 ∧ a1 < 24 := by
      by_cases h : 0 ≤ a1 ∧ a1 < 24
      · exact h
      · simp [costE, h1, okOp, h] at he
    have h3 : 0 ≤ a2 ∧ a2 ≤ 4096 := by
      by_cases h : 0 ≤ a2 ∧ a2 ≤ 4096
      · exact h
      · simp [costE, h1, okOp, h2, okB, h] at he
    exact bounds_good s0 c0 l0 hl0 a1 a2 w h1 h2 h3
  · exact bounds_bad s0 c0 l0 hl0 a1 a2 w he
end Go.Proofs.Ytofibebphfeglaa
