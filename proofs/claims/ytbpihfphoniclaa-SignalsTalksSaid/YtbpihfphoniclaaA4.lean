import Derived.Test.YtbpihfphoniclaaA3
namespace Go.Proofs.Ytbpihfphoniclaa
open Go.RowKit
set_option linter.unusedVariables false
/-- The index of the least signal in the set among the first k elements (the first of them), or -1. -/
def firstK (l : List Pd) (m : Nat) : Nat → Int
  | 0 => -1
  | k + 1 => if hasB m (l.getD k (0, 0)).1 && (decide (firstK l m k < 0) || decide ((l.getD k (0, 0)).1 < (l.getD (firstK l m k).toNat (0, 0)).1)) then (k : Int) else firstK l m k
theorem below_drewN {B : Nat} {a w : World} (h : Below B a w) (n : Nat) : Below B a (w.drewN n) := ⟨h.os, h.tape, h.output, h.size, h.block⟩
theorem firstK_succ (l : List Pd) (m k : Nat) : firstK l m (k + 1) = if hasB m (l.getD k (0, 0)).1 && (decide (firstK l m k < 0) || decide ((l.getD k (0, 0)).1 < (l.getD (firstK l m k).toNat (0, 0)).1)) then (k : Int) else firstK l m k := rfl
theorem firstK_bound (l : List Pd) (m k : Nat) : -1 ≤ firstK l m k ∧ firstK l m k < k := by
  induction k with
  | zero => simp [firstK]
  | succ k ih =>
    unfold firstK
    split <;> omega
theorem has_same (m : Nat) (s : Int) (w : World) (b : Bool) (hb : hasB m s = b) (hm : m < 18446744073709551616) (h1 : 1 ≤ s) (h2 : s ≤ 64) : Calls Try.prog 33 #[.int .u64 m, .int .i64 s] w fun e w' => e = .returned (.bool b) ∧ w' = w :=
  (has_calls m s w hm h1 h2).mono fun e w' h => ⟨by rw [← hb]; exact h.1, h.2.symm⟩
set_option maxHeartbeats 4000000 in
theorem first_calls (v : Value) (l : List Pd) (m : Nat) (w : World) (h : Ls w 94 v l) (hl : l.length ≤ 1000) (hs : ∀ x ∈ l, 1 ≤ x.1 ∧ x.1 ≤ 56) (hm : m < 18446744073709551616) :
    Calls Try.prog 61 #[v, .int .u64 m] w fun e w' => e = .returned (.int .i64 (firstK l m l.length)) ∧ Below w.heap.size w w' := by
  obtain ⟨A, cap, rfl, _, _, _, hat⟩ := h.at
  have HAT := Lib.hid hat
  have HM := Lib.hid hm
  have HS := Lib.hid hs
  clear hat h hm hs
  go_enter Try.func61, Try.ntmps61
  go_wp2
  go_loopw [5, 10] (fun n i wr => ∃ k : Nat, k ≤ l.length ∧ i = .int .i64 k ∧ n = .int .i64 (firstK l m k) ∧ Hid (Below w.heap.size w wr)) (fun _ i _ => l.length - (intOf i).toNat)
  case atStart => exact ⟨0, by omega, rfl, rfl, Lib.hid (Below.refl _ _)⟩
  case round =>
    obtain ⟨k, hk, rfl, rfl, HB⟩ := hrel
    by_cases hlt : k < l.length
    · obtain ⟨g, rfl, hg, hc0, hc1⟩ := HAT.out k hlt
      obtain ⟨hy0, hy1⟩ := HS.out _ (show l.getD k (0, 0) ∈ l by rw [List.getD_eq_getElem?_getD, List.getElem?_eq_getElem hlt]; exact List.getElem_mem hlt)
      have hQ := firstK_succ l m k
      obtain ⟨hq0, hq1⟩ := firstK_bound l m k
      have hat2 : 0 ≤ firstK l m k → w.cell? ⟨g, (firstK l m k).toNat * 2, none⟩ = some (.int .i64 (l.getD (firstK l m k).toNat (0, 0)).1) := fun h0 => by
        obtain ⟨g', e, _, hc, _⟩ := HAT.out (firstK l m k).toNat (by omega)
        cases e
        exact hc
      have HQ := Lib.hid hQ
      clear hQ
      generalize firstK l m k = q at *
      generalize l.getD k (0, 0) = y at *
      obtain ⟨y1, y2⟩ := y
      have hd0 := (HB.out.cell (p := ⟨g, k * 2, none⟩) hg).trans hc0
      have hd1 := (HB.out.cell (p := ⟨g, k * 2 + 1, none⟩) hg).trans hc1
      have HCE := Lib.hid (pair_cells hd0 hd1)
      have hlt' : (k : Int) < (l.length : Int) := by omega
      have hbs := HB.out.size
      have hk0 : (0 : Int) ≤ (k : Int) := by omega
      clear hc0 hc1 hd0 hd1
      cases hb : hasB m y1 with
      | false =>
        have HH := Lib.hid hb
        clear hb hat2
        go_wp2_with ((with_reducible change wpList _ _ _ (⟨_, .load 94 (.tmp 13), _, _, _, _⟩ :: _) _ _); refine wpList_load_cells (by rfl) 94 (.tmp 13) rfl ⟨g, k * 2, none⟩ rfl #[.int .i64 y1, .int .i64 y2] _ HCE.out Try.underlying94 rfl (n := 2) (by kernel_rfl) rfl ?_)
        go_quiet ((go_at_call 33; exact Calls.quiet_of_same (has_same m y1 _ false HH.out HM.out hy0 (by omega))))
        go_wp2
        go_roundw
        case rel => exact ⟨k + 1, by omega, by go_num, by rw [HQ.out]; simp [HH.out], Lib.hid (below_drewN (HB.out.alloc hbs _) _)⟩
        case measure => simp [intOf]; omega
      | true =>
        have HH := Lib.hid hb
        clear hb
        by_cases hq : q < 0
        · have hqd : decide (q < 0) = true := by simpa using hq
          clear hat2
          go_wp2_with ((with_reducible change wpList _ _ _ (⟨_, .load 94 (.tmp 13), _, _, _, _⟩ :: _) _ _); refine wpList_load_cells (by rfl) 94 (.tmp 13) rfl ⟨g, k * 2, none⟩ rfl #[.int .i64 y1, .int .i64 y2] _ HCE.out Try.underlying94 rfl (n := 2) (by kernel_rfl) rfl ?_)
          go_quiet ((go_at_call 33; exact Calls.quiet_of_same (has_same m y1 _ true HH.out HM.out hy0 (by omega))))
          go_wp2
          go_roundw
          case rel => exact ⟨k + 1, by omega, by go_num, by rw [HQ.out]; simp [HH.out, hq], Lib.hid (below_drewN (HB.out.alloc hbs _) _)⟩
          case measure => simp [intOf]; omega
        · have hqd : decide (q < 0) = false := by simpa using hq
          have hq2 : 0 ≤ q := by omega
          have hq3 : q < (l.length : Int) := by omega
          have hcq : ∀ o, (wr.alloc o).cell? ⟨g, q.toNat * 2, none⟩ = some (.int .i64 (l.getD q.toNat (0, 0)).1) := fun o => ((HB.out.alloc hbs o).cell (p := ⟨g, q.toNat * 2, none⟩) hg).trans (hat2 hq2)
          clear hat2
          generalize (l.getD q.toNat (0, 0)).1 = z at *
          by_cases hz : y1 < z
          · have hzd : decide (y1 < z) = true := by simpa using hz
            go_wp2_with ((with_reducible change wpList _ _ _ (⟨_, .load 94 (.tmp 13), _, _, _, _⟩ :: _) _ _); refine wpList_load_cells (by rfl) 94 (.tmp 13) rfl ⟨g, k * 2, none⟩ rfl #[.int .i64 y1, .int .i64 y2] _ HCE.out Try.underlying94 rfl (n := 2) (by kernel_rfl) rfl ?_)
            go_quiet ((go_at_call 33; exact Calls.quiet_of_same (has_same m y1 _ true HH.out HM.out hy0 (by omega))))
            go_wp2
            go_roundw
            case rel => exact ⟨k + 1, by omega, by go_num, by rw [HQ.out]; simp [HH.out, hz], Lib.hid (below_drewN (HB.out.alloc hbs _) _)⟩
            case measure => simp [intOf]; omega
          · have hzd : decide (y1 < z) = false := by simpa using hz
            go_wp2_with ((with_reducible change wpList _ _ _ (⟨_, .load 94 (.tmp 13), _, _, _, _⟩ :: _) _ _); refine wpList_load_cells (by rfl) 94 (.tmp 13) rfl ⟨g, k * 2, none⟩ rfl #[.int .i64 y1, .int .i64 y2] _ HCE.out Try.underlying94 rfl (n := 2) (by kernel_rfl) rfl ?_)
            go_quiet ((go_at_call 33; exact Calls.quiet_of_same (has_same m y1 _ true HH.out HM.out hy0 (by omega))))
            go_wp2
            go_roundw
            case rel => exact ⟨k + 1, by omega, by go_num, by rw [HQ.out, if_neg]; simp [HH.out]; omega, Lib.hid (below_drewN (HB.out.alloc hbs _) _)⟩
            case measure => simp [intOf]; omega
    · obtain rfl : k = l.length := by omega
      have hge : ¬ ((l.length : Int) < (l.length : Int)) := by omega
      go_wp2
      go_ret
      exact ⟨rfl, HB.out⟩
end Go.Proofs.Ytbpihfphoniclaa
