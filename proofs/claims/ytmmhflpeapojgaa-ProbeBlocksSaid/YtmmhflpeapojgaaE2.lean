import Derived.Test.YtmmhflpeapojgaaE1
namespace Go.Proofs.Ytmmhflpeapojgaa
set_option linter.unusedVariables false
set_option linter.unusedSimpArgs false
open Go.RowKit Ieee
attribute [local go_sem] ints_get ints_size ints_getElem

theorem rplus_calls (a b c d : Int) (w : World) (h1 : -1000000 ≤ a ∧ a ≤ 1000000) (h2 : -1000000 ≤ b ∧ b ≤ 1000000) (h3 : -1000000 ≤ c ∧ c ≤ 1000000) (h4 : -1000000 ≤ d ∧ d ≤ 1000000) :
    Calls Try.prog 41 #[.agg #[.int .i64 a, .int .i64 b], .agg #[.int .i64 c, .int .i64 d]] w fun e w' => e = .returned (.agg #[.int .i64 (a + c), .int .i64 (b + d)]) ∧ Below w.heap.size w w' := by
  have e1 : IntKind.i64.wrap (a + c) = a + c := by rw [IntKind.wrap_i64]; omega
  have e2 : IntKind.i64.wrap (b + d) = b + d := by rw [IntKind.wrap_i64]; omega
  go_enter Try.func41, Try.ntmps41
  go_wp2
  exact bodyPost_ret (results_cell_row rfl _ _ (w.heap.size + 1 + 1) 72 #[.int .i64 (a + c), .int .i64 (b + d)] (0, 0) _ rfl (heap3 w _ _ _).2.1 Try.underlying72 rfl (by kernel_rfl)) rfl
    ⟨rfl, (((Below.refl _ _).alloc (Nat.le_refl _) _).alloc (by simp) _).alloc (by simp; omega) _⟩

/-- A pair of whole numbers as a struct's cells. -/
def pcI (p : Int × Int) : Array Value := #[.int .i64 p.1, .int .i64 p.2]
/-- The world in turned's loop. -/
def RT (w wr : World) (p : Int × Int) : Prop :=
  Below w.heap.size w wr ∧ wr.heap[w.heap.size]? = some (.cells (pcI p) 72 (0, 0)) ∧ ∃ z : Array Value, wr.heap[w.heap.size + 1]? = some (.cells z 72 (0, 0)) ∧ z.size = 2
theorem RT.cell {w wr : World} {p : Int × Int} (h : RT w wr p) : wr.cell? ⟨w.heap.size, 0, none⟩ = some (.int .i64 p.1) ∧ wr.cell? ⟨w.heap.size, 1, none⟩ = some (.int .i64 p.2) := by
  constructor <;> rw [cell_of_row _ _ _ _ _ _ h.2.1] <;> rfl
theorem RT.set {w wr : World} {p : Int × Int} (h : RT w wr p) (q : Int × Int) : RT w (wr.setRow w.heap.size (pcI q)) q := by
  obtain ⟨h1, h2, z, h3, h4⟩ := h
  refine ⟨below_setRow h1 (Nat.le_refl _) _, setRow_heap _ _ _ _ _ _ h2, z, ?_, h4⟩
  rw [setRow_other _ _ _ _ (by omega)]; exact h3
theorem pcI_one (p : Int × Int) : (pcI p).all (·.oneCell') = true := by simp [pcI, Value.oneCell']
set_option maxHeartbeats 1000000 in
theorem rturned_calls (a b q : Int) (w : World) (ha : -100000 ≤ a ∧ a ≤ 100000) (hb : -100000 ≤ b ∧ b ≤ 100000) (hq : -100 ≤ q ∧ q ≤ 100) :
    Calls Try.prog 42 #[.agg (pcI (a, b)), .int .i64 q] w fun e w' => e = .returned (.agg (pcI (rot (turns4 q) (a, b)))) ∧ Below w.heap.size w w' := by
  obtain ⟨r, hr, hr0, hr1, hre⟩ := tmod4 q
  have hm : (r + 4) % 4 = (turns4 q : Int) := by unfold turns4; omega
  clear hre
  have hm4 : turns4 q < 4 := by unfold turns4; omega
  generalize turns4 q = m at *
  have hrb := fun k => rot_bound (B := 100000) k (a, b) ha hb
  have HR := Lib.hid hrb
  clear hrb
  have HRT : Hid (RT w ((w.alloc (.cells (pcI (a, b)) 72)).alloc (.cells #[.int .i64 0, .int .i64 0] 72)) (a, b)) := Lib.hid ⟨((Below.refl _ _).alloc (Nat.le_refl _) _).alloc (by simp) _, by rw [Below.heap_alloc _ _ _ (by simp)]; exact heap_alloc_new _ _, _, by have := heap_alloc_new (w.alloc (.cells (pcI (a, b)) 72)) (.cells #[.int .i64 0, .int .i64 0] 72); simpa using this, rfl⟩
  go_enter Try.func42, Try.ntmps42
  go_wp2
  go_loopw [5] (fun i wr => ∃ k : Nat, k ≤ m ∧ i = .int .i64 ((m : Int) - k) ∧ Hid (RT w wr (rot k (a, b)))) (fun i _ => (intOf i).toNat)
  case atStart => exact ⟨0, Nat.zero_le _, by simp; omega, HRT⟩
  case round =>
    obtain ⟨k, hk, rfl, HI⟩ := hrel
    obtain ⟨hc1, hc2⟩ := HI.out.cell
    obtain ⟨hb1, hb2⟩ := HR.out k
    by_cases hlt : k < m
    · have hlt' : (0 : Int) < (m : Int) - k := by omega
      have HNEW := Lib.hid (HI.out.set (rot (k + 1) (a, b)))
      have hrot : rot (k + 1) (a, b) = (-(rot k (a, b)).2, (rot k (a, b)).1) := rfl
      rw [hrot] at HNEW
      have HROT := Lib.hid hrot
      clear hrot
      generalize rot k (a, b) = p at *
      obtain ⟨x, y⟩ := p
      simp only at hc1 hc2 hb1 hb2
      have hw : IntKind.i64.wrap (-y) = -y := by rw [IntKind.wrap_i64]; omega
      go_wp2_with ((with_reducible change wpList _ _ _ (⟨_, .store 72 (.tmp 2) (.tmp 19), _, _, _, _⟩ :: _) _ _); go_loud (refine wpList_store_row rfl 72 (.tmp 2) (.tmp 19) rfl w.heap.size (pcI (-y, x)) rfl rfl 72 (pcI (x, y)) HI.out.2.1 (by kernel_rfl) rfl (pcI_one _) ?_))
      go_roundw
      case rel => exact ⟨k + 1, by omega, by go_num, by rw [HROT.out]; exact HNEW⟩
      case measure => simp [intOf]; omega
    · obtain rfl : k = m := by omega
      have hlt' : ¬ (0 : Int) < (k : Int) - k := by omega
      obtain ⟨p, hp⟩ : ∃ p, rot k (a, b) = p := ⟨_, rfl⟩
      rw [hp] at HI
      have HP := Lib.hid hp
      rw [hp] at hc1 hc2 hb1 hb2
      clear hp
      obtain ⟨_, hH, z, hz1, hz2⟩ := HI.out
      have HZ := Lib.hid (And.intro hz1 hz2)
      have HH := Lib.hid hH
      clear hz1 hz2 hH
      go_wp2_with (first
        | ((with_reducible change wpList _ _ _ (⟨_, .load 72 (.tmp 2), _, _, _, _⟩ :: _) _ _); go_loud (refine wpList_load_row rfl 72 (.tmp 2) rfl w.heap.size rfl 72 (pcI p) (0, 0) _ HH.out Try.underlying72 rfl (by kernel_rfl) ?_))
        | ((with_reducible change wpList _ _ _ (⟨_, .store 72 (.tmp 4) (.tmp 20), _, _, _, _⟩ :: _) _ _); go_loud (refine wpList_store_row rfl 72 (.tmp 4) (.tmp 20) rfl (w.heap.size + 1) (pcI p) rfl rfl 72 z HZ.out.1 (by kernel_rfl) (by rw [HZ.out.2]; rfl) (pcI_one _) ?_)))
      exact bodyPost_ret (results_cell_row rfl _ _ (w.heap.size + 1) 72 (pcI p) (0, 0) _ rfl (setRow_heap _ _ _ _ _ _ HZ.out.1) Try.underlying72 rfl (by kernel_rfl)) rfl ⟨by rw [HP.out], below_setRow HI.out.1 (by omega) _⟩
end Go.Proofs.Ytmmhflpeapojgaa
