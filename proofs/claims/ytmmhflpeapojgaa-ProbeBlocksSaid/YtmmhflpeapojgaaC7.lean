import Derived.Test.YtmmhflpeapojgaaC6
import Derived.Deep.WholeRow
namespace Go.Proofs.Ytmmhflpeapojgaa
set_option linter.unusedVariables false
set_option linter.unusedSimpArgs false
open Go.RowKit Ieee
attribute [local go_sem] ints_get ints_size ints_getElem

set_option maxHeartbeats 4000000 in
theorem walsh_rest (xs : List Nat) (A : Option Addr) (c : Nat) (l : List Nat) (w : World) (hl : l.length ≤ 9223372036854775807) (hC : FC w A l) (hB : Below w.heap.size w (w.alloc (.cells (fx xs) 48))) (hH : (w.alloc (.cells (fx xs) 48)).heap[w.heap.size]? = some (.cells (fx xs) 48 (0, 0)))
    (hx : xs.length = 8) (hwl : (wval xs).length = 8) (hcase : ((300 : Int) < (l.length : Int) ∧ ¬ (l.length : Int) ≤ 4096) ∨ ¬ (300 : Int) < (l.length : Int)) :
    Calls Try.prog 5 #[.agg (fx xs), .slice A l.length c] w fun e w' => e = .returned (.bool true) ∧ Below w.heap.size w w' := by
  have HC := Lib.hid hC
  have HB := Lib.hid hB
  have HH := Lib.hid hH
  have HX := Lib.hid hx
  have H48 := Lib.hid (size48 xs hx)
  have HWL := Lib.hid hwl
  clear hC hB hH hx hwl
  rcases hcase with ⟨h1, h2⟩ | h1
  · have h2b : decide ((l.length : Int) ≤ 4096) = false := by simp; omega
    go_enter Try.func5, Try.ntmps5
    go_wp2_with (first
      | ((with_reducible change wpList _ _ _ (⟨some 20, .load 48 (.tmp 2), _, _, _, _⟩ :: _) _ _); go_loud (refine wpList_load_row rfl 48 (.tmp 2) rfl w.heap.size rfl 48 (fx xs) (0, 0) _ HH.out Try.underlying48 rfl H48.out ?_))
      | ((with_reducible change wpList _ _ _ (⟨some 25, .load 48 (.tmp 2), _, _, _, _⟩ :: _) _ _); go_loud (refine wpList_load_row rfl 48 (.tmp 2) rfl w.heap.size rfl 48 (fx xs) (0, 0) _ HH1.out Try.underlying48 rfl H48.out ?_))
      | (go_at_call 16; go_loud (refine (walsh_calls xs HX.out _).mono ?_; intro e w1 hp; obtain ⟨rfl, hd⟩ := hp; have HB1 := Lib.hid ((below_then' HB.out hd).alloc (below_then' HB.out hd).size (.cells (fx (wval xs)) 48)); have HH1 := Lib.hid (heap_kept (heap_kept HH.out hd) ((Below.refl _ _).alloc (Nat.le_refl _) (.cells (fx (wval xs)) 48))); have HA1 := Lib.hid (heap_alloc_new w1 (.cells (fx (wval xs)) 48)); clear hd))
      | (go_at_call 17; go_loud (refine (rwalsh_calls xs HX.out _).mono ?_; intro e w2 hp; obtain ⟨rfl, hd⟩ := hp; have HB2 := Lib.hid ((below_then' HB1.out hd).alloc (below_then' HB1.out hd).size (.cells (fx (wval xs)) 48)); have HA2 := Lib.hid (heap_kept (heap_kept HA1.out hd) ((Below.refl _ _).alloc (Nat.le_refl _) (.cells (fx (wval xs)) 48))); have HA3 := Lib.hid (heap_alloc_new w2 (.cells (fx (wval xs)) 48)); clear hd))
      | ((with_reducible change wpList _ _ _ (⟨_, .store 48 (.tmp 5) (.tmp 22), _, _, _, _⟩ :: _) _ _); go_loud (refine wpList_store_row rfl 48 (.tmp 5) (.tmp 22) rfl w1.heap.size (fx (wval xs)) rfl rfl 48 _ (heap_alloc_new w1 _) (size48 _ HWL.out) (by rw [fx_size, HWL.out]; rfl) (fx_one _) ?_; rw [World.setRow_alloc_new]))
      | ((with_reducible change wpList _ _ _ (⟨_, .store 48 (.tmp 7) (.tmp 27), _, _, _, _⟩ :: _) _ _); go_loud (refine wpList_store_row rfl 48 (.tmp 7) (.tmp 27) rfl w2.heap.size (fx (wval xs)) rfl rfl 48 _ (heap_alloc_new w2 _) (size48 _ HWL.out) (by rw [fx_size, HWL.out]; rfl) (fx_one _) ?_; rw [World.setRow_alloc_new])))
    generalize (w2.alloc (.cells (fx (wval xs)) 48)) = W3 at *
    go_loopw [9] (fun i wr => ∃ k : Nat, k ≤ 8 ∧ i = .int .i64 k ∧ Hid (Below W3.heap.size W3 wr)) (fun i _ => 8 - (intOf i).toNat)
    case atStart => exact ⟨0, Nat.zero_le _, rfl, Lib.hid (Below.refl _ _)⟩
    case round =>
      obtain ⟨k, hk, rfl, HK⟩ := hrel
      by_cases hlt : k < 8
      · have hlt' : (k : Int) < 8 := by omega
        have hk0 : (0 : Int) ≤ (k : Int) := by omega
        have hkw : k < (wval xs).length := by rw [HWL.out]; exact hlt
        have hc1 : wr.cell? ⟨w1.heap.size, k, none⟩ = some (.float .f32 ((wval xs).getD k 0)) := by rw [cell_of_row _ _ _ _ _ _ (heap_kept HA2.out HK.out), fx_get, List.getD_eq_getElem?_getD, List.getElem?_eq_getElem hkw]; rfl
        have hc2 : wr.cell? ⟨w2.heap.size, k, none⟩ = some (.float .f32 ((wval xs).getD k 0)) := by rw [cell_of_row _ _ _ _ _ _ (heap_kept HA3.out HK.out), fx_get, List.getD_eq_getElem?_getD, List.getElem?_eq_getElem hkw]; rfl
        generalize (wval xs).getD k 0 = x at *
        clear hkw
        go_wp2
        go_quiet ((go_at_call 9; exact Calls.quiet_of_same ((bits_same x _).mono (fun e w' h => ⟨h.1, h.2.symm⟩))))
        go_wp2
        go_roundw
        case rel => exact ⟨k + 1, by omega, by go_num, Lib.hid (below_drewN HK.out _)⟩
        case measure => simp [intOf]; omega
      · obtain rfl : k = 8 := by omega
        have hge : ¬ ((8 : Nat) : Int) < 8 := by omega
        have hfc := HC.out.below (below_then' HB2.out HK.out)
        have HFC := Lib.hid hfc
        clear hfc
        go_wp2_with (first
          | (go_at_call 18; refine (samples_calls A c l _ hl HFC.out).mono ?_; rintro e w' ⟨rfl, rfl⟩)
          | (go_at_call 19; refine (rsamples_calls A c l _ hl HFC.out).mono ?_; rintro e w' ⟨rfl, rfl⟩)
          | (go_at_call 6; refine (awake_calls _).mono ?_; rintro e w9 ⟨rfl, hd⟩; replace HK := Lib.hid (below_then' HK.out hd); clear hd))
        go_ret
        exact ⟨rfl, below_then' HB2.out HK.out⟩
  · have h1b : decide ((300 : Int) < (l.length : Int)) = false := by simp; omega
    go_enter Try.func5, Try.ntmps5
    go_wp2_with (first
      | ((with_reducible change wpList _ _ _ (⟨some 20, .load 48 (.tmp 2), _, _, _, _⟩ :: _) _ _); go_loud (refine wpList_load_row rfl 48 (.tmp 2) rfl w.heap.size rfl 48 (fx xs) (0, 0) _ HH.out Try.underlying48 rfl H48.out ?_))
      | ((with_reducible change wpList _ _ _ (⟨some 25, .load 48 (.tmp 2), _, _, _, _⟩ :: _) _ _); go_loud (refine wpList_load_row rfl 48 (.tmp 2) rfl w.heap.size rfl 48 (fx xs) (0, 0) _ HH1.out Try.underlying48 rfl H48.out ?_))
      | (go_at_call 16; go_loud (refine (walsh_calls xs HX.out _).mono ?_; intro e w1 hp; obtain ⟨rfl, hd⟩ := hp; have HB1 := Lib.hid ((below_then' HB.out hd).alloc (below_then' HB.out hd).size (.cells (fx (wval xs)) 48)); have HH1 := Lib.hid (heap_kept (heap_kept HH.out hd) ((Below.refl _ _).alloc (Nat.le_refl _) (.cells (fx (wval xs)) 48))); have HA1 := Lib.hid (heap_alloc_new w1 (.cells (fx (wval xs)) 48)); clear hd))
      | (go_at_call 17; go_loud (refine (rwalsh_calls xs HX.out _).mono ?_; intro e w2 hp; obtain ⟨rfl, hd⟩ := hp; have HB2 := Lib.hid ((below_then' HB1.out hd).alloc (below_then' HB1.out hd).size (.cells (fx (wval xs)) 48)); have HA2 := Lib.hid (heap_kept (heap_kept HA1.out hd) ((Below.refl _ _).alloc (Nat.le_refl _) (.cells (fx (wval xs)) 48))); have HA3 := Lib.hid (heap_alloc_new w2 (.cells (fx (wval xs)) 48)); clear hd))
      | ((with_reducible change wpList _ _ _ (⟨_, .store 48 (.tmp 5) (.tmp 22), _, _, _, _⟩ :: _) _ _); go_loud (refine wpList_store_row rfl 48 (.tmp 5) (.tmp 22) rfl w1.heap.size (fx (wval xs)) rfl rfl 48 _ (heap_alloc_new w1 _) (size48 _ HWL.out) (by rw [fx_size, HWL.out]; rfl) (fx_one _) ?_; rw [World.setRow_alloc_new]))
      | ((with_reducible change wpList _ _ _ (⟨_, .store 48 (.tmp 7) (.tmp 27), _, _, _, _⟩ :: _) _ _); go_loud (refine wpList_store_row rfl 48 (.tmp 7) (.tmp 27) rfl w2.heap.size (fx (wval xs)) rfl rfl 48 _ (heap_alloc_new w2 _) (size48 _ HWL.out) (by rw [fx_size, HWL.out]; rfl) (fx_one _) ?_; rw [World.setRow_alloc_new])))
    generalize (w2.alloc (.cells (fx (wval xs)) 48)) = W3 at *
    go_loopw [9] (fun i wr => ∃ k : Nat, k ≤ 8 ∧ i = .int .i64 k ∧ Hid (Below W3.heap.size W3 wr)) (fun i _ => 8 - (intOf i).toNat)
    case atStart => exact ⟨0, Nat.zero_le _, rfl, Lib.hid (Below.refl _ _)⟩
    case round =>
      obtain ⟨k, hk, rfl, HK⟩ := hrel
      by_cases hlt : k < 8
      · have hlt' : (k : Int) < 8 := by omega
        have hk0 : (0 : Int) ≤ (k : Int) := by omega
        have hkw : k < (wval xs).length := by rw [HWL.out]; exact hlt
        have hc1 : wr.cell? ⟨w1.heap.size, k, none⟩ = some (.float .f32 ((wval xs).getD k 0)) := by rw [cell_of_row _ _ _ _ _ _ (heap_kept HA2.out HK.out), fx_get, List.getD_eq_getElem?_getD, List.getElem?_eq_getElem hkw]; rfl
        have hc2 : wr.cell? ⟨w2.heap.size, k, none⟩ = some (.float .f32 ((wval xs).getD k 0)) := by rw [cell_of_row _ _ _ _ _ _ (heap_kept HA3.out HK.out), fx_get, List.getD_eq_getElem?_getD, List.getElem?_eq_getElem hkw]; rfl
        generalize (wval xs).getD k 0 = x at *
        clear hkw
        go_wp2
        go_quiet ((go_at_call 9; exact Calls.quiet_of_same ((bits_same x _).mono (fun e w' h => ⟨h.1, h.2.symm⟩))))
        go_wp2
        go_roundw
        case rel => exact ⟨k + 1, by omega, by go_num, Lib.hid (below_drewN HK.out _)⟩
        case measure => simp [intOf]; omega
      · obtain rfl : k = 8 := by omega
        have hge : ¬ ((8 : Nat) : Int) < 8 := by omega
        have hfc := HC.out.below (below_then' HB2.out HK.out)
        have HFC := Lib.hid hfc
        clear hfc
        go_wp2_with (first
          | (go_at_call 18; refine (samples_calls A c l _ hl HFC.out).mono ?_; rintro e w' ⟨rfl, rfl⟩)
          | (go_at_call 19; refine (rsamples_calls A c l _ hl HFC.out).mono ?_; rintro e w' ⟨rfl, rfl⟩)
          | (go_at_call 6; refine (awake_calls _).mono ?_; rintro e w9 ⟨rfl, hd⟩; replace HK := Lib.hid (below_then' HK.out hd); clear hd))
        go_ret
        exact ⟨rfl, below_then' HB2.out HK.out⟩
set_option maxHeartbeats 2000000 in
theorem walsh_law (xs : List Nat) (hx : xs.length = 8) (A : Option Addr) (c : Nat) (l : List Nat) (w : World) (hl : l.length ≤ 9223372036854775807) (hC : FC w A l) :
    Calls Try.prog 5 #[.agg (fx xs), .slice A l.length c] w fun e w' => e = .returned (.bool true) ∧ Below w.heap.size w w' := by
  have HC := Lib.hid hC
  have HB := Lib.hid ((Below.refl w.heap.size w).alloc (Nat.le_refl _) (.cells (fx xs) 48))
  have HH := Lib.hid (heap_alloc_new w (.cells (fx xs) 48))
  have HX := Lib.hid hx
  have H48 := Lib.hid (size48 xs hx)
  have HWL := Lib.hid (wval_len xs)
  clear hC hx
  by_cases hmid : 300 < l.length ∧ l.length ≤ 4096
  · have h1 : (300 : Int) < (l.length : Int) := by omega
    have h2 : (l.length : Int) ≤ 4096 := by omega
    clear hmid
    go_enter Try.func5, Try.ntmps5
    go_wp2_with (go_at_call 6; refine (awake_calls _).mono ?_; rintro e w9 ⟨rfl, hd⟩; replace HB := Lib.hid (below_then' HB.out hd); clear hd)
    go_ret
    exact ⟨rfl, HB.out⟩
  · rcases (show (300 < l.length ∧ ¬ l.length ≤ 4096) ∨ ¬ 300 < l.length by omega) with ⟨h1, h2⟩ | h1
    · have h1' : (300 : Int) < (l.length : Int) := by omega
      have h2' : ¬ (l.length : Int) ≤ 4096 := by omega
      have h2b : decide ((l.length : Int) ≤ 4096) = false := by simp; omega
      clear hmid h1 h2
      exact walsh_rest xs A c l w hl HC.out HB.out HH.out HX.out HWL.out (.inl ⟨h1', h2'⟩)
    · exact walsh_rest xs A c l w hl HC.out HB.out HH.out HX.out HWL.out (.inr (by omega))
end Go.Proofs.Ytmmhflpeapojgaa
