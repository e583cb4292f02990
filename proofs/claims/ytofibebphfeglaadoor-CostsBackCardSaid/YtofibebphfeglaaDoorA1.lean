import Derived.Test.YtofibebphfeglaaDoorProg
import Derived.Test.YtofibebphfeglaaDoorKit
import Derived.Deep.AppendLies
namespace Go.Proofs.YtofibebphfeglaaDoor
open Go.RowKit
attribute [local go_sem] ints_get ints_size ints_getElem
theorem size26 : (Tryd.prog.info? 26).map (·.size) = some 24 := by kernel_rfl
theorem size28 : (Tryd.prog.info? 28).map (·.size) = some 26 := by kernel_rfl
def rng (x : Int) : Bool := decide (1 ≤ x ∧ x ≤ 1000)
theorem rng_t {x : Int} (h : 1 ≤ x ∧ x ≤ 1000) : rng x = true := decide_eq_true h
theorem rng_f {x : Int} (h : ¬ (1 ≤ x ∧ x ≤ 1000)) : rng x = false := decide_eq_false h
def okT (s c : Int) (l : List Int) : Bool := decide (1 ≤ s ∧ s ≤ 1000 ∧ 0 ≤ c ∧ c ≤ 100) && l.all rng
def chk (s c : Int) (l : List Int) : Int := if okT s c l then 0 else 34
theorem chk_bad {s c : Int} {l : List Int} (h : ¬ (1 ≤ s ∧ s ≤ 1000 ∧ 0 ≤ c ∧ c ≤ 100)) : 34 = chk s c l := by simp [chk, okT, h]
theorem chk_good {s c : Int} {l : List Int} (h : (1 ≤ s ∧ s ≤ 1000 ∧ 0 ≤ c ∧ c ≤ 100)) (ha : l.all rng = true) : 0 = chk s c l := by simp only [chk, okT, ha]; simp [h]
theorem chk_cost {s c : Int} {l : List Int} (ha : l.all rng = false) : 34 = chk s c l := by simp [chk, okT, ha]

set_option maxRecDepth 100000 in
theorem check_calls (s c : Int) (l : List Int) (hl : l.length = 24) (w : World) :
    Calls Tryd.prog 21 #[.agg (ints (s :: c :: l))] w fun e w' => e = .returned (.int .i64 (chk s c l)) ∧ Below w.heap.size w w' := by
  have H := Lib.hid hl
  clear hl
  have hidx := fun (w : World) (i : Int) (h0 : 0 ≤ i) (h1 : i < (24 : Nat)) => run_index_ints (P := Tryd.prog) w 26 2 24 l i H.out h0 h1 (by kernel_rfl) (by kernel_rfl) (by kernel_rfl)
  have HB := Lib.hid ((Below.refl w.heap.size w).alloc (Nat.le_refl _) (.cells (ints (s :: c :: l)) 28))
  go_enter Tryd.func21, Tryd.ntmps21
  go_wp2_with (refine wpList_load_cells rfl 26 (.tmp 23) rfl ⟨w.heap.size, 2, none⟩ rfl (ints l) _ (cells_new w _ _ 28 2 rfl) Tryd.underlying26 rfl size26 (by rw [ints_size, H.out]) ?_)
  all_goals try (go_ret; exact ⟨ret_int (chk_bad (by omega)), HB.out⟩)
  go_loop [25] (fun i => ∃ k : Nat, k ≤ 24 ∧ i = .int .i64 k ∧ Hid ((l.take k).all rng = true)) (fun i => 24 - (intOf i).toNat)
  case atStart => exact ⟨0, by omega, rfl, rfl⟩
  case round =>
    obtain ⟨k, hk, rfl, hall⟩ := hrel
    have hw := Lib.hid ‹((1 ≤ s ∧ s ≤ 1000) ∧ 0 ≤ c) ∧ c ≤ 100›
    by_cases hlt : k < 24
    · go_wp2
      all_goals first
        | (go_ret; exact ⟨ret_int (chk_cost (all_of_take_not _ _ k (by rw [H.out]; exact hlt) (rng_f (by simp only [List.getD_eq_getElem?_getD]; omega)))), HB.out⟩)
        | skip
      go_round
      case rel => exact ⟨k + 1, by omega, by go_num, Lib.hid (by rw [take_all _ _ _ (by rw [H.out]; exact hlt), hall.out, rng_t (by simp only [List.getD_eq_getElem?_getD]; omega)]; rfl)⟩
      case measure => simp [intOf]; omega
    · obtain rfl : k = 24 := by omega
      go_wp2
      go_ret
      exact ⟨ret_int (chk_good (by have := hw.out; omega) (by have := hall.out; rwa [List.take_of_length_le (by rw [H.out]; omega)] at this)), HB.out⟩
def units (b : Int) : Int := (b + 16 - 1) / 16
theorem units_bd {b : Int} (h0 : 0 ≤ b) (h1 : b ≤ 4096) : 0 ≤ units b ∧ units b ≤ 256 := by unfold units; omega
theorem mul_bd {c u : Int} (h0 : 0 ≤ c) (h1 : c ≤ 100) (h2 : 0 ≤ u) (h3 : u ≤ 256) : 0 ≤ c * u ∧ c * u ≤ 25600 := by
  refine ⟨Int.mul_nonneg h0 h2, ?_⟩
  have : c * u ≤ 100 * 256 := Int.mul_le_mul h1 h3 h2 (by omega)
  omega
theorem wrap_small {x : Int} (h0 : -1000000000000 ≤ x) (h1 : x ≤ 1000000000000) : wrap64 x = x := by unfold wrap64; omega

set_option maxRecDepth 100000 in
theorem copying_calls (s c : Int) (l : List Int) (b : Int) (w : World) (hc0 : 0 ≤ c) (hc1 : c ≤ 100) (h0 : 0 ≤ b) (h1 : b ≤ 4096) :
    Calls Tryd.prog 33 #[.agg (ints (s :: c :: l)), .int .i64 b] w fun e w' => e = .returned (.int .i64 (c * units b)) ∧ Below w.heap.size w w' := by
  have hu := Lib.hid (mul_bd hc0 hc1 (units_bd h0 h1).1 (units_bd h0 h1).2)
  have HB := Lib.hid ((Below.refl w.heap.size w).alloc (Nat.le_refl _) (.cells (ints (s :: c :: l)) 28))
  go_enter Tryd.func33, Tryd.ntmps33
  go_wp2
  go_ret
  exact ⟨ret_int (by have := hu.out; unfold units at *; exact wrap_small (by omega) (by omega)), HB.out⟩

theorem copying_at (s c : Int) (l : List Int) (b : Int) (hc0 : 0 ≤ c) (hc1 : c ≤ 100) (h0 : 0 ≤ b) (h1 : b ≤ 4096) (w : World) (d : Nat) (os : Array Obj) :
    Calls Tryd.prog 33 #[.agg (ints (s :: c :: l)), .int .i64 b] (Sort.grow (redrawn w d) os) fun e w'' => e = .returned (.int .i64 (c * units b)) ∧ ∃ p : Regrown, w'' = Sort.grow (redrawn w p.d) p.os :=
  (copying_calls s c l b _ hc0 hc1 h0 h1).regrown_of

theorem okT_c {s c : Int} {l : List Int} (h : okT s c l = true) : (1 ≤ s ∧ s ≤ 1000) ∧ 0 ≤ c ∧ c ≤ 100 := by
  unfold okT at h
  simp at h
  omega
theorem okT_l {s c : Int} {l : List Int} (h : okT s c l = true) (k : Nat) (hk : k < l.length) : 1 ≤ l.getD k 0 ∧ l.getD k 0 ≤ 1000 := by
  unfold okT at h
  simp only [Bool.and_eq_true, List.all_eq_true] at h
  have := h.2 _ (List.getElem_mem hk)
  simpa [rng, List.getD_eq_getElem?_getD, List.getElem?_eq_getElem hk] using this
theorem chk_t {s c : Int} {l : List Int} (h : okT s c l = true) : chk s c l = 0 := by simp [chk, h]
theorem chk_f {s c : Int} {l : List Int} (h : okT s c l = false) : chk s c l = 34 := by simp [chk, h]

set_option maxRecDepth 100000 in
theorem cost_good (s c : Int) (l : List Int) (hl : l.length = 24) (op b : Int) (w : World) (ht : okT s c l = true) (ho : 0 ≤ op ∧ op < 24) (hb : 0 ≤ b ∧ b ≤ 4096) :
    Calls Tryd.prog 17 #[.agg (ints (s :: c :: l)), .int .i64 op, .int .i64 b] w fun e w' => e = .returned (.tuple #[.int .i64 (l.getD op.toNat 0 + c * units b), .int .i64 0]) ∧ Below w.heap.size w w' := by
  obtain ⟨ho0, ho1⟩ := ho
  obtain ⟨hb0, hb1⟩ := hb
  obtain ⟨-, hc0, hc1⟩ := okT_c ht
  have H := Lib.hid hl
  have hk := Lib.hid (okT_l ht op.toNat (by omega))
  have hu := Lib.hid (mul_bd hc0 hc1 (units_bd hb0 hb1).1 (units_bd hb0 hb1).2)
  have HE := Lib.hid (chk_t ht)
  have HB := Lib.hid ((Below.refl w.heap.size w).alloc (Nat.le_refl _) (.cells (ints (s :: c :: l)) 28))
  clear ht hl
  go_enter Tryd.func17, Tryd.ntmps17
  go_wp2_with (first
    | (refine wpList_load_cells rfl 28 (.tmp 3) rfl ⟨w.heap.size, 0, none⟩ rfl (ints (s :: c :: l)) _ (cells_new w _ _ 28 0 rfl) Tryd.underlying28 rfl size28 (by rw [ints_size]; simp only [List.length_cons, H.out]) ?_)
    | (go_at_call 21; refine (check_calls s c l H.out _).mono ?_; rw [HE.out]; rintro e w1 ⟨rfl, hb1⟩))
  have hcs := cells_kept hb1 (l' := s :: c :: l) (k := 0) rfl
  have hce : ∀ d os, (Sort.grow (redrawn w1 d) os).cell? ⟨w.heap.size, 2 + op.toNat, none⟩ = some (.int .i64 (l.getD op.toNat 0)) := fun d os =>
    cell_regrown (by have := cell_kept1 hb1 (2 + op.toNat) (by simp [H.out]; omega); rw [this]; simp [List.getD_eq_getElem?_getD, Nat.add_comm 2]) d os
  have HW := Lib.hid (below_then' HB.out hb1)
  have HCS := Lib.hid hcs
  clear hb1 hcs
  refine wp_region_quiet_below (by kernel_rfl) (by kernel_rfl) ?_
  repeat (first
    | (refine wpQuiet_load_cells rfl 28 (.tmp 3) rfl ⟨w.heap.size, 0, none⟩ rfl (ints (s :: c :: l)) _ HCS.out Tryd.underlying28 rfl size28 (by rw [ints_size]; simp only [List.length_cons, H.out]) ?_)
    | quiet_step (exact copying_at s c l b hc0 hc1 hb0 hb1 _ _ _))
  refine wpQuiet_nil ?_
  intro w2 hw2
  have hb2 := Lib.hid (below_of_regrown hw2)
  clear hw2 hce
  go_wp2
  go_ret2
  exact ⟨ret_int2 (by have := hk.out; have := hu.out; simp only [List.getD_eq_getElem?_getD] at *; exact IntWalk.i64_in _ (by omega)) rfl, below_then' HW.out hb2.out⟩

end Go.Proofs.YtofibebphfeglaaDoor
