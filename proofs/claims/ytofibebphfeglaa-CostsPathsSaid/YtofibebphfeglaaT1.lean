import Derived.Test.YtofibebphfeglaaProg
import Derived.Test.YtofibebphfeglaaKit
namespace Go.Proofs.Ytofibebphfeglaa
open Go.RowKit
attribute [local go_sem] ints_get ints_size ints_getElem

theorem size22 : (Try.prog.info? 22).map (·.size) = some 24 := by kernel_rfl
theorem size24 : (Try.prog.info? 24).map (·.size) = some 26 := by kernel_rfl
theorem size29 : (Try.prog.info? 29).map (·.size) = some 26 := by kernel_rfl

def rng (x : Int) : Bool := decide (1 ≤ x ∧ x ≤ 1000)
theorem rng_t {x : Int} (h : 1 ≤ x ∧ x ≤ 1000) : rng x = true := decide_eq_true h
theorem rng_f {x : Int} (h : ¬ (1 ≤ x ∧ x ≤ 1000)) : rng x = false := decide_eq_false h
def okT (s c : Int) (l : List Int) : Bool := decide (1 ≤ s ∧ s ≤ 1000 ∧ 0 ≤ c ∧ c ≤ 100) && l.all rng
def chk (s c : Int) (l : List Int) : Int := if okT s c l then 0 else 34
theorem chk_bad {s c : Int} {l : List Int} (h : ¬ (1 ≤ s ∧ s ≤ 1000 ∧ 0 ≤ c ∧ c ≤ 100)) : 34 = chk s c l := by simp [chk, okT, h]
theorem chk_good {s c : Int} {l : List Int} (h : (1 ≤ s ∧ s ≤ 1000 ∧ 0 ≤ c ∧ c ≤ 100)) (ha : l.all rng = true) : 0 = chk s c l := by simp only [chk, okT, ha]; simp [h]
theorem chk_cost {s c : Int} {l : List Int} (ha : l.all rng = false) : 34 = chk s c l := by simp [chk, okT, ha]

set_option maxRecDepth 100000 in
theorem check_calls (s c : Int) (l : List Int) (hl : l.length = 24) (w : World) :
    Calls Try.prog 10 #[.agg (ints (s :: c :: l))] w fun e w' => e = .returned (.int .i64 (chk s c l)) ∧ Below w.heap.size w w' := by
  have H := Lib.hid hl
  clear hl
  have hidx := fun (w : World) (i : Int) (h0 : 0 ≤ i) (h1 : i < (24 : Nat)) => run_index_ints (P := Try.prog) w 22 2 24 l i H.out h0 h1 (by kernel_rfl) (by kernel_rfl) (by kernel_rfl)
  have HB := Lib.hid ((Below.refl w.heap.size w).alloc (Nat.le_refl _) (.cells (ints (s :: c :: l)) 24))
  go_enter Try.func10, Try.ntmps10
  go_wp2_with (refine wpList_load_cells rfl 22 (.tmp 23) rfl ⟨w.heap.size, 2, none⟩ rfl (ints l) _ (cells_new w _ _ 24 2 rfl) Try.underlying22 rfl size22 (by rw [ints_size, H.out]) ?_)
  all_goals try (go_ret; exact ⟨ret_int (chk_bad (by omega)), HB.out⟩)
  go_loop [25] (fun i => ∃ k : Nat, k ≤ 24 ∧ i = .int .i64 k ∧ Hid ((l.take k).all rng = true)) (fun i => 24 - (intOf i).toNat)
  case atStart => exact ⟨0, by omega, rfl, rfl⟩
  case round =>
    obtain ⟨k, hk, rfl, hall⟩ := hrel
    have hw := Lib.hid ‹((1 ≤ s ∧ s ≤ 1000) ∧ 0 ≤ c) ∧ c ≤ 100›
    by_cases hlt : k < 24
    · go_wp2
      all_goals first
        | (go_ret; exact ⟨ret_int (chk_cost (all_of_take_not _ _ k (by rw [H.out]; exact hlt) (rng_f (by simp only [List.getD_eq_getElem?_getD]; omega)))), HB.out⟩)
        | skip
      go_round
      case rel => exact ⟨k + 1, by omega, by go_num, Lib.hid (by rw [take_all _ _ _ (by rw [H.out]; exact hlt), hall.out, rng_t (by simp only [List.getD_eq_getElem?_getD]; omega)]; rfl)⟩
      case measure => simp [intOf]; omega
    · obtain rfl : k = 24 := by omega
      go_wp2
      go_ret
      exact ⟨ret_int (chk_good (by have := hw.out; omega) (by have := hall.out; rwa [List.take_of_length_le (by rw [H.out]; omega)] at this)), HB.out⟩
end Go.Proofs.Ytofibebphfeglaa
