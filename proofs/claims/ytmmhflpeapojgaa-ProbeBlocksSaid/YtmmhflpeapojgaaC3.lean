import Derived.Test.YtmmhflpeapojgaaC2
import Derived.StillTailTactics
namespace Go.Proofs.Ytmmhflpeapojgaa
set_option linter.unusedVariables false
set_option linter.unusedSimpArgs false
open Go.RowKit Ieee
attribute [local go_sem] ints_get ints_size ints_getElem

/-- What Walsh answers. -/
def WalshPost (xs : List Nat) (w : World) (e : Ending) (w' : World) : Prop := e = .returned (.tuple #[.agg (fx (wval xs)), .int .i64 (wcode xs)]) ∧ Below w.heap.size w w'
theorem first_bad {xs : List Nat} (h : xs.all sampleB = false) : ∃ m, m < xs.length ∧ sampleB (xs.getD m 0) = false ∧ ∀ i, i < m → sampleB (xs.getD i 0) = true := by
  induction xs with
  | nil => simp at h
  | cons x r ih =>
    cases hx : sampleB x with
    | false => exact ⟨0, by simp, by simpa using hx, fun i hi => absurd hi (by omega)⟩
    | true =>
      simp only [List.all_cons, hx, Bool.true_and] at h
      obtain ⟨m, h1, h2, h3⟩ := ih h
      refine ⟨m + 1, by simp; omega, by simpa using h2, fun i hi => ?_⟩
      match i with
      | 0 => simpa using hx
      | i + 1 => simpa using h3 i (by omega)
theorem idx48 (xs : List Nat) (hx : xs.length = 8) (k : Nat) (hk : k < 8) (W : World) : (Instr.index 48 (.agg (fx xs)) (.int .i64 (k : Int))).run Try.prog W = .ok (.float .f32 (xs.getD k 0)) W :=
  run_index_one W 48 27 8 (fx xs) _ _ k (by rw [fx_size, hx]) hk (by rw [fx_get, List.getD_eq_getElem?_getD, List.getElem?_eq_getElem (show k < xs.length by omega)]; rfl) Try.underlying48 Try.underlying27 rfl (by kernel_rfl)
theorem size48 (xs : List Nat) (hx : xs.length = 8) : (Try.prog.info? 48).map (·.size) = some (fx xs).size := by rw [fx_size, hx]; kernel_rfl

set_option maxHeartbeats 2000000 in
theorem walsh_bad (xs : List Nat) (hx : xs.length = 8) (hb : xs.all sampleB = false) (w : World) : Calls Try.prog 16 #[.agg (fx xs)] w fun e w' => WalshPost xs w e w' := by
  have hwc : wcode xs = 34 := by unfold wcode; rw [hb]; simp
  have hwv : wval xs = zero8 := by unfold wval; rw [hb]; simp
  obtain ⟨m, hm1, hm2, hm3⟩ := first_bad hb
  have HT : Hid (TW w xs zero8 (((w.alloc (.cells (fx xs) 48)).alloc (.cells #[.float .f32 0, .float .f32 0, .float .f32 0, .float .f32 0, .float .f32 0, .float .f32 0, .float .f32 0, .float .f32 0] 48)).alloc (.cells #[.float .f32 0, .float .f32 0, .float .f32 0, .float .f32 0, .float .f32 0, .float .f32 0, .float .f32 0, .float .f32 0] 48))) := Lib.hid (TW.start w xs)
  have HI := Lib.hid (fun k hk W => idx48 xs hx k hk W)
  have H48 := Lib.hid (size48 xs hx)
  have HM := Lib.hid (And.intro hwc (And.intro hwv (And.intro hm2 hm3)))
  have hm8 : m < 8 := by omega
  clear hwc hwv hm1 hm2 hm3 hb hx
  go_enter Try.func16, Try.ntmps16
  go_wp2_with (first
    | ((with_reducible change wpList _ _ _ (⟨_, .load 48 (.tmp 1), _, _, _, _⟩ :: _) _ _); go_loud (refine wpList_load_row rfl 48 (.tmp 1) rfl w.heap.size rfl 48 (fx xs) (0, 0) _ HT.out.2.1 Try.underlying48 rfl H48.out ?_)))
  generalize (((w.alloc (.cells (fx xs) 48)).alloc (.cells #[.float .f32 0, .float .f32 0, .float .f32 0, .float .f32 0, .float .f32 0, .float .f32 0, .float .f32 0, .float .f32 0] 48)).alloc (.cells #[.float .f32 0, .float .f32 0, .float .f32 0, .float .f32 0, .float .f32 0, .float .f32 0, .float .f32 0, .float .f32 0] 48)) = W0 at *
  go_loop [10] (fun i => ∃ k : Nat, k ≤ m ∧ i = .int .i64 k) (fun i => 8 - (intOf i).toNat)
  case atStart => exact ⟨0, Nat.zero_le _, rfl⟩
  case round =>
    obtain ⟨k, hk, rfl⟩ := hrel
    have hlt' : (k : Int) < 8 := by omega
    have hidx := HI.out k (by omega)
    by_cases hkm : k < m
    · have HS := Lib.hid (HM.out.2.2.2 k hkm)
      generalize xs.getD k 0 = x at *
      go_wp2_with (go_at_call 31; refine (isSample_calls x _).mono ?_; rw [HS.out]; rintro e w' ⟨rfl, rfl⟩)
      go_round
      case rel => exact ⟨k + 1, by omega, by go_num⟩
      case measure => simp [intOf]; omega
    · obtain rfl : k = m := by omega
      have HS := Lib.hid HM.out.2.2.1
      obtain ⟨z, hz1, hz2⟩ := HT.out.2.2.1
      have HZ := Lib.hid (And.intro hz1 hz2)
      clear hz1 hz2
      generalize xs.getD k 0 = x at *
      go_wp2_with (first
        | (go_at_call 31; refine (isSample_calls x _).mono ?_; rw [HS.out]; rintro e w' ⟨rfl, rfl⟩)
        | ((with_reducible change wpList _ _ _ (⟨_, .store 48 (.tmp 2) (.tmp 16), _, _, _, _⟩ :: _) _ _); go_loud (refine wpList_store_row rfl 48 (.tmp 2) (.tmp 16) rfl (w.heap.size + 1) (fx zero8) rfl rfl 48 z HZ.out.1 (by kernel_rfl) HZ.out.2 (fx_one _) ?_)))
      refine bodyPost_ret (results_cell_tmp_row rfl _ _ (w.heap.size + 1) 48 (fx zero8) (0, 0) _ rfl (setRow_heap _ _ _ _ _ _ HZ.out.1) Try.underlying48 rfl (by kernel_rfl)) rfl ?_
      exact ⟨by rw [HM.out.1, HM.out.2.1]; rfl, below_setRow HT.out.1 (by omega) _⟩
end Go.Proofs.Ytmmhflpeapojgaa
