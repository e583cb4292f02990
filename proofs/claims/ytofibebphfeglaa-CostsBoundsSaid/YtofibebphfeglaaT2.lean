import Derived.Test.YtofibebphfeglaaT1
namespace Go.Proofs.Ytofibebphfeglaa
open Go.RowKit
attribute [local go_sem] ints_get ints_size ints_getElem

def units (b : Int) : Int := (b + 16 - 1) / 16
theorem units_bd {b : Int} (h0 : 0 ≤ b) (h1 : b ≤ 4096) : 0 ≤ units b ∧ units b ≤ 256 := by unfold units; omega
theorem mul_bd {c u : Int} (h0 : 0 ≤ c) (h1 : c ≤ 100) (h2 : 0 ≤ u) (h3 : u ≤ 256) : 0 ≤ c * u ∧ c * u ≤ 25600 := by
  refine ⟨Int.mul_nonneg h0 h2, ?_⟩
  have : c * u ≤ 100 * 256 := Int.mul_le_mul h1 h3 h2 (by omega)
  omega
theorem wrap_small {x : Int} (h0 : -1000000000000 ≤ x) (h1 : x ≤ 1000000000000) : wrap64 x = x := by unfold wrap64; omega

set_option maxRecDepth 100000 in
theorem copying_calls (s c : Int) (l : List Int) (b : Int) (w : World) (hc0 : 0 ≤ c) (hc1 : c ≤ 100) (h0 : 0 ≤ b) (h1 : b ≤ 4096) :
    Calls Try.prog 23 #[.agg (ints (s :: c :: l)), .int .i64 b] w fun e w' => e = .returned (.int .i64 (c * units b)) ∧ Below w.heap.size w w' := by
  have hu := Lib.hid (mul_bd hc0 hc1 (units_bd h0 h1).1 (units_bd h0 h1).2)
  have HB := Lib.hid ((Below.refl w.heap.size w).alloc (Nat.le_refl _) (.cells (ints (s :: c :: l)) 24))
  go_enter Try.func23, Try.ntmps23
  go_wp2
  go_ret
  exact ⟨ret_int (by have := hu.out; unfold units at *; exact wrap_small (by omega) (by omega)), HB.out⟩

theorem copying_at (s c : Int) (l : List Int) (b : Int) (hc0 : 0 ≤ c) (hc1 : c ≤ 100) (h0 : 0 ≤ b) (h1 : b ≤ 4096) (w : World) (d : Nat) (os : Array Obj) :
    Calls Try.prog 23 #[.agg (ints (s :: c :: l)), .int .i64 b] (Sort.grow (redrawn w d) os) fun e w'' => e = .returned (.int .i64 (c * units b)) ∧ ∃ p : Regrown, w'' = Sort.grow (redrawn w p.d) p.os :=
  (copying_calls s c l b _ hc0 hc1 h0 h1).regrown_of

def okOp (op : Int) : Bool := decide (0 ≤ op ∧ op < 24)
def okB (b : Int) : Bool := decide (0 ≤ b ∧ b ≤ 4096)
def costE (s c : Int) (l : List Int) (op b : Int) : Int := if !okT s c l then 34 else if !okOp op then 17 else if !okB b then 34 else 0
def costN (s c : Int) (l : List Int) (op b : Int) : Int := if costE s c l op b = 0 then l.getD op.toNat 0 + c * units b else 0

theorem okT_c {s c : Int} {l : List Int} (h : okT s c l = true) : (1 ≤ s ∧ s ≤ 1000) ∧ 0 ≤ c ∧ c ≤ 100 := by
  unfold okT at h
  simp at h
  omega
theorem okT_l {s c : Int} {l : List Int} (h : okT s c l = true) (k : Nat) (hk : k < l.length) : 1 ≤ l.getD k 0 ∧ l.getD k 0 ≤ 1000 := by
  unfold okT at h
  simp only [Bool.and_eq_true, List.all_eq_true] at h
  have := h.2 _ (List.getElem_mem hk)
  simpa [rng, List.getD_eq_getElem?_getD, List.getElem?_eq_getElem hk] using this
theorem chk_t {s c : Int} {l : List Int} (h : okT s c l = true) : chk s c l = 0 := by simp [chk, h]
theorem chk_f {s c : Int} {l : List Int} (h : okT s c l = false) : chk s c l = 34 := by simp [chk, h]

set_option maxRecDepth 100000 in
theorem cost_good (s c : Int) (l : List Int) (hl : l.length = 24) (op b : Int) (w : World) (ht : okT s c l = true) (ho : 0 ≤ op ∧ op < 24) (hb : 0 ≤ b ∧ b ≤ 4096) :
    Calls Try.prog 7 #[.agg (ints (s :: c :: l)), .int .i64 op, .int .i64 b] w fun e w' => e = .returned (.tuple #[.int .i64 (l.getD op.toNat 0 + c * units b), .int .i64 0]) ∧ Below w.heap.size w w' := by
  obtain ⟨ho0, ho1⟩ := ho
  obtain ⟨hb0, hb1⟩ := hb
  obtain ⟨-, hc0, hc1⟩ := okT_c ht
  have H := Lib.hid hl
  have hk := Lib.hid (okT_l ht op.toNat (by omega))
  have hu := Lib.hid (mul_bd hc0 hc1 (units_bd hb0 hb1).1 (units_bd hb0 hb1).2)
  have HE := Lib.hid (chk_t ht)
  have HB := Lib.hid ((Below.refl w.heap.size w).alloc (Nat.le_refl _) (.cells (ints (s :: c :: l)) 24))
  clear ht hl
  go_enter Try.func7, Try.ntmps7
  go_wp2_with (first
    | (refine wpList_load_cells rfl 24 (.tmp 3) rfl ⟨w.heap.size, 0, none⟩ rfl (ints (s :: c :: l)) _ (cells_new w _ _ 24 0 rfl) Try.underlying24 rfl size24 (by rw [ints_size]; simp only [List.length_cons, H.out]) ?_)
    | (go_at_call 10; refine (check_calls s c l H.out _).mono ?_; rw [HE.out]; rintro e w1 ⟨rfl, hb1⟩))
  have hcs := cells_kept hb1 (l' := s :: c :: l) (k := 0) rfl
  have hce : ∀ d os, (Sort.grow (redrawn w1 d) os).cell? ⟨w.heap.size, 2 + op.toNat, none⟩ = some (.int .i64 (l.getD op.toNat 0)) := fun d os =>
    cell_regrown (by have := cell_kept1 hb1 (2 + op.toNat) (by simp [H.out]; omega); rw [this]; simp [List.getD_eq_getElem?_getD, Nat.add_comm 2]) d os
  have HW := Lib.hid (below_then' HB.out hb1)
  have HCS := Lib.hid hcs
  clear hb1 hcs
  refine wp_region_quiet_below (by kernel_rfl) (by kernel_rfl) ?_
  repeat (first
    | (refine wpQuiet_load_cells rfl 24 (.tmp 3) rfl ⟨w.heap.size, 0, none⟩ rfl (ints (s :: c :: l)) _ HCS.out Try.underlying24 rfl size24 (by rw [ints_size]; simp only [List.length_cons, H.out]) ?_)
    | quiet_step (exact copying_at s c l b hc0 hc1 hb0 hb1 _ _ _))
  refine wpQuiet_nil ?_
  intro w2 hw2
  have hb2 := Lib.hid (below_of_regrown hw2)
  clear hw2 hce
  go_wp2
  go_ret2
  exact ⟨ret_int2 (by have := hk.out; have := hu.out; simp only [List.getD_eq_getElem?_getD] at *; exact IntWalk.i64_in _ (by omega)) rfl, below_then' HW.out hb2.out⟩

set_option maxRecDepth 100000 in
theorem cost_calls (s c : Int) (l : List Int) (hl : l.length = 24) (op b : Int) (w : World) :
    Calls Try.prog 7 #[.agg (ints (s :: c :: l)), .int .i64 op, .int .i64 b] w fun e w' => e = .returned (.tuple #[.int .i64 (costN s c l op b), .int .i64 (costE s c l op b)]) ∧ Below w.heap.size w w' := by
  have H := Lib.hid hl
  by_cases ht : okT s c l = true
  · by_cases ho : 0 ≤ op ∧ op < 24
    · by_cases hb : 0 ≤ b ∧ b ≤ 4096
      · have e1 : costE s c l op b = 0 := by simp [costE, ht, okOp, okB, ho, hb]
        have e2 : costN s c l op b = l.getD op.toNat 0 + c * units b := by simp [costN, e1]
        rw [e1, e2]
        exact cost_good s c l hl op b w ht ho hb
      · have e1 : costE s c l op b = 34 := by simp [costE, ht, okOp, okB, ho, hb]
        have e2 : costN s c l op b = 0 := by simp [costN, e1]
        rw [e1, e2]
        obtain ⟨ho0, ho1⟩ := ho
        have HE := Lib.hid (chk_t ht)
        have HB := Lib.hid ((Below.refl w.heap.size w).alloc (Nat.le_refl _) (.cells (ints (s :: c :: l)) 24))
        clear ht hl e1 e2
        rcases (by omega : b < 0 ∨ (0 ≤ b ∧ 4096 < b)) with hb' | ⟨hb', hb''⟩
        all_goals
          clear hb
          go_enter Try.func7, Try.ntmps7
          go_wp2_with (first
            | (refine wpList_load_cells rfl 24 (.tmp 3) rfl ⟨w.heap.size, 0, none⟩ rfl (ints (s :: c :: l)) _ (cells_new w _ _ 24 0 rfl) Try.underlying24 rfl size24 (by rw [ints_size]; simp only [List.length_cons, H.out]) ?_)
            | (go_at_call 10; refine (check_calls s c l H.out _).mono ?_; rw [HE.out]; rintro e w1 ⟨rfl, hb1⟩))
          go_ret2
          exact ⟨rfl, below_then' HB.out hb1⟩
    · have e1 : costE s c l op b = 17 := by simp [costE, ht, okOp, ho]
      have e2 : costN s c l op b = 0 := by simp [costN, e1]
      rw [e1, e2]
      have HE := Lib.hid (chk_t ht)
      have HB := Lib.hid ((Below.refl w.heap.size w).alloc (Nat.le_refl _) (.cells (ints (s :: c :: l)) 24))
      clear ht hl e1 e2
      rcases (by omega : op < 0 ∨ (0 ≤ op ∧ 24 ≤ op)) with ho' | ⟨ho', ho''⟩
      all_goals
        clear ho
        go_enter Try.func7, Try.ntmps7
        go_wp2_with (first
          | (refine wpList_load_cells rfl 24 (.tmp 3) rfl ⟨w.heap.size, 0, none⟩ rfl (ints (s :: c :: l)) _ (cells_new w _ _ 24 0 rfl) Try.underlying24 rfl size24 (by rw [ints_size]; simp only [List.length_cons, H.out]) ?_)
          | (go_at_call 10; refine (check_calls s c l H.out _).mono ?_; rw [HE.out]; rintro e w1 ⟨rfl, hb1⟩))
        go_ret2
        exact ⟨rfl, below_then' HB.out hb1⟩
  · have ht : okT s c l = false := by simpa using ht
    have e1 : costE s c l op b = 34 := by simp [costE, ht]
    have e2 : costN s c l op b = 0 := by simp [costN, e1]
    rw [e1, e2]
    have HE := Lib.hid (chk_f ht)
    have HB := Lib.hid ((Below.refl w.heap.size w).alloc (Nat.le_refl _) (.cells (ints (s :: c :: l)) 24))
    clear ht hl e1 e2
    go_enter Try.func7, Try.ntmps7
    go_wp2_with (first
      | (refine wpList_load_cells rfl 24 (.tmp 3) rfl ⟨w.heap.size, 0, none⟩ rfl (ints (s :: c :: l)) _ (cells_new w _ _ 24 0 rfl) Try.underlying24 rfl size24 (by rw [ints_size]; simp only [List.length_cons, H.out]) ?_)
      | (go_at_call 10; refine (check_calls s c l H.out _).mono ?_; rw [HE.out]; rintro e w1 ⟨rfl, hb1⟩))
    go_ret2
    exact ⟨rfl, below_then' HB.out hb1⟩
end Go.Proofs.Ytofibebphfeglaa
