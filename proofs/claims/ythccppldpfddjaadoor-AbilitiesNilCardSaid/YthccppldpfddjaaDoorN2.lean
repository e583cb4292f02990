/- AbilitiesNil (8). -/
import Derived.Test.YthccppldpfddjaaDoorN1
namespace Go.Proofs.YthccppldpfddjaaDoor
open Go.RowKit
set_option linter.unusedVariables false
set_option maxHeartbeats 4000000 in
set_option maxRecDepth 100000 in
theorem nil_law (a b n : Int) (w : World) (hA : AwAt w) : Calls Tryd.prog 8 #[.int .i64 a, .int .i64 b, .int .i64 n] w fun e w' => e = .returned (.bool true) ∧ Below w.heap.size w w' := by
  have HA := Lib.hid hA
  clear hA
  have HW := Lib.hid (Below.refl w.heap.size w)
  go_enter Tryd.func8, Tryd.ntmps8
  go_wp2_with (first
    | (go_at_call 14; refine (nil14 _ _ _).mono ?_; rintro e w1 ⟨rfl, h1⟩; have HW1 := Lib.hid ((HW.out.trans (h1.mono HW.out.size)).alloc (Nat.le_trans HW.out.size h1.size) (.cells #[.slice none 0 0, .bool false, .bool false] 38)); clear h1 HW)
    | (go_at_call 35; refine (nil35 _ _).mono ?_; rintro e w2 ⟨rfl, h1⟩; have HW2 := Lib.hid (HW1.out.trans (h1.mono HW1.out.size)); clear h1 HW1)
    | (go_at_call 11; refine (nil11 _ _).mono ?_; rintro e w3 ⟨rfl, h1⟩; have HW3 := Lib.hid (HW2.out.trans (h1.mono HW2.out.size)); clear h1 HW2)
    | (go_at_call 27; refine (nil27 _ _ _).mono ?_; rintro e w4 ⟨rfl, h1⟩; have HW4 := Lib.hid (HW3.out.trans (h1.mono HW3.out.size)); clear h1 HW3)
    | (go_at_call 29; refine (nil29 _ _ _).mono ?_; rintro e w5 ⟨rfl, h1⟩; have HW5 := Lib.hid (HW4.out.trans (h1.mono HW4.out.size)); clear h1 HW4)
    | (go_at_call 31; refine (nil31 _ _ _).mono ?_; rintro e w6 ⟨rfl, h1⟩; have HW6 := Lib.hid (HW5.out.trans (h1.mono HW5.out.size)); clear h1 HW5))
  obtain ⟨W7, hW7⟩ : ∃ W7, W7 = w6.alloc (.cells #[.int .i64 35, .int .i64 35, .int .i64 35, .int .i64 35, .int .i64 35, .int .i64 35] 26) := ⟨_, rfl⟩
  have HW7 := Lib.hid (show Below w.heap.size w W7 from by rw [hW7]; exact HW6.out.alloc HW6.out.size _)
  have h7 : W7.heap[w6.heap.size]? = some (.cells #[.int .i64 35, .int .i64 35, .int .i64 35, .int .i64 35, .int .i64 35, .int .i64 35] 26 (0, 0)) := by rw [hW7]; exact heap_alloc_new w6 _
  have HC := Lib.hid (show ∀ k, k < 6 → W7.cell? ⟨w6.heap.size, k, none⟩ = some (.int .i64 35) from fun k hk => by
    rw [cell_of_row _ _ _ _ _ _ h7]
    rcases (by omega : k = 0 ∨ k = 1 ∨ k = 2 ∨ k = 3 ∨ k = 4 ∨ k = 5) with rfl | rfl | rfl | rfl | rfl | rfl <;> rfl)
  rw [← hW7]
  clear hW7 h7
  go_loopw [51] (fun i wr => ∃ k : Nat, k ≤ 6 ∧ i = .int .i64 k ∧ wr = W7) (fun i _ => 6 - (intOf i).toNat)
  case atStart => exact ⟨0, by omega, rfl, rfl⟩
  case round =>
    obtain ⟨k, hk, rfl, rfl⟩ := hrel
    by_cases hlt : k < 6
    · have hlt' : (k : Int) < 6 := by omega
      have hc := HC.out k hlt
      go_wp2
      go_roundw
      case rel => exact ⟨k + 1, by omega, by go_num, trivial⟩
      case measure => simp [intOf]; omega
    · obtain rfl : k = 6 := by omega
      go_wp2_with (first
        | (go_at_call 20; refine (nil20 _ _ _ _).mono ?_; rintro e w8 ⟨rfl, h1⟩; have HW8 := Lib.hid (HW7.out.trans (h1.mono HW7.out.size)); clear h1)
        | (go_at_call 15; refine (nil15 _).mono ?_; rintro e w9 ⟨rfl, h1⟩; have HW9 := Lib.hid (HW8.out.trans (h1.mono HW8.out.size)); clear h1)
        | (go_at_call 22; refine (nil22 _).mono ?_; rintro e wa ⟨rfl, h1⟩; have HWa := Lib.hid (HW9.out.trans (h1.mono HW9.out.size)); clear h1)
        | (go_at_call 18; refine (nil18 _).mono ?_; rintro e wb ⟨rfl, h1⟩; have HWb := Lib.hid (HWa.out.trans (h1.mono HWa.out.size)); clear h1)
        | (go_at_call 13; refine (nil13 _).mono ?_; rintro e wc ⟨rfl, h1⟩; have HWc := Lib.hid (HWb.out.trans (h1.mono HWb.out.size)); clear h1)
        | (go_at_call 33; refine (nil33 _).mono ?_; rintro e wd ⟨rfl, h1⟩; have HWd := Lib.hid (HWc.out.trans (h1.mono HWc.out.size)); clear h1)
        | (go_at_call 9; refine (awake_calls _ (HA.out.below HWd.out)).mono ?_; rintro e we ⟨rfl, h1⟩; have HWe := Lib.hid (HWd.out.trans (h1.mono HWd.out.size)); clear h1))
      go_ret
      exact ⟨rfl, HWe.out⟩
end Go.Proofs.YthccppldpfddjaaDoor
