import Derived.Test.YtofibebphfeglaaDoorA1
namespace Go.Proofs.YtofibebphfeglaaDoor
open Go.RowKit
attribute [local go_sem] ints_get ints_size ints_getElem
def dl (k : Nat) : List Int := 4 :: 1 :: (List.replicate k 2 ++ List.replicate (24 - k) 0)
theorem dl_len (k : Nat) (h : k ≤ 24) : (dl k).length = 26 := by simp [dl]; omega
theorem ints_set (l : List Int) (i : Nat) (v : Int) : (ints l).setIfInBounds i (.int .i64 v) = ints (l.set i v) := by
  apply Array.ext_getElem?
  intro j
  simp only [Array.getElem?_setIfInBounds, ints_get, ints_size, List.getElem?_set]
  by_cases h : i = j
  · subst h
    by_cases h2 : i < l.length <;> simp [h2]
  · simp [h]
theorem dl_set (k : Nat) (h : k < 24) : (dl k).set (2 + k) 2 = dl (k + 1) := by
  unfold dl
  rw [show 2 + k = (k + 1) + 1 by omega, List.set_cons_succ, List.set_cons_succ]
  congr 2
  rw [List.set_append_right _ _ (by simp), List.length_replicate, Nat.sub_self]
  rw [show 24 - k = (24 - (k + 1)) + 1 by omega, List.replicate_succ, List.set_cons_zero, List.replicate_succ']
  simp
/-- The costs of the default table. -/
def defs : List Int := [3, 3, 3, 2, 2, 2, 2, 2, 2, 2, 2, 2, 2, 2, 2, 2, 2, 2, 2, 2, 2, 2, 8, 1]
theorem dl_end : ((((((dl 24).set 2 3).set 3 3).set 4 3).set 24 8).set 25 1) = 4 :: 1 :: defs := by decide
theorem ints_setCell {w : World} {g : Nat} {l : List Int} {t : TypeId} (hg : w.heap[g]? = some (.cells (ints l) t (0, 0))) (i : Nat) (v : Int) : (w.setCell ⟨g, i, none⟩ (.int .i64 v)).heap[g]? = some (.cells (ints (l.set i v)) t (0, 0)) := by
  rw [heap_setCell_same w g i _ t _ hg, ints_set]
theorem ints_cell {w : World} {g : Nat} {l : List Int} {t : TypeId} (hg : w.heap[g]? = some (.cells (ints l) t (0, 0))) (i : Nat) (h : i < l.length) : w.cell? ⟨g, i, none⟩ = some (.int .i64 (l.getD i 0)) := by
  rw [cell_of_row _ _ _ _ _ _ hg, ints_get]
  simp [List.getElem?_eq_getElem h, List.getD_eq_getElem?_getD]

def z26 : List Int := List.replicate 26 0
theorem z26_len : z26.length = 26 := by decide
/-- The world while a table is filled: the table's block, the result's block, and that nothing older has turned. -/
def DInv (w : World) (T : TypeId) (l : List Int) (wr : World) : Prop :=
  wr.heap[w.heap.size + 1]? = some (.cells (ints l) T (0, 0)) ∧ wr.heap[w.heap.size]? = some (.cells (ints z26) T (0, 0)) ∧ wr.heap.size = w.heap.size + 2 ∧ Below w.heap.size w wr
theorem DInv.set {w : World} {T : TypeId} {l : List Int} {wr : World} (h : DInv w T l wr) (i : Nat) (v : Int) : DInv w T (l.set i v) (wr.setCell ⟨w.heap.size + 1, i, none⟩ (.int .i64 v)) := by
  obtain ⟨h1, h2, h3, h4⟩ := h
  refine ⟨ints_setCell h1 i v, ?_, ?_, h4.setCell (by simp) _⟩
  · rw [heap_setCell_other _ _ _ _ (by simp)]; exact h2
  · simp [World.setCell, h3]
theorem DInv.cells {w : World} {T : TypeId} {l : List Int} {wr : World} (h : DInv w T l wr) : ∀ j v, (ints l)[j]? = some v → wr.cell? ((⟨w.heap.size + 1, 0, none⟩ : Addr).add j) = some v := by
  intro j v hv
  rw [add_at, cell_of_row _ _ _ _ _ _ h.1]
  simpa using hv
theorem DInv.zero {w : World} {T : TypeId} {l : List Int} {wr : World} (h : DInv w T l wr) : wr.heap[w.heap.size]? = some (.cells (ints z26) T (0, 0)) := h.2.1
theorem DInv.below {w : World} {T : TypeId} {l : List Int} {wr : World} (h : DInv w T l wr) : Below w.heap.size w wr := h.2.2.2
theorem dstart (w : World) (T : TypeId) : DInv w T (dl 0) (((w.alloc (.cells (ints z26) T)).alloc (.cells (ints z26) T)).setRow (w.heap.size + 1) (ints (dl 0))) := by
  refine ⟨setRow_heap _ _ _ _ _ _ (heap_alloc2_new _ _ _), ?_, by simp, below_setRow' (((Below.refl _ _).alloc (Nat.le_refl _) _).alloc (by simp) _) (by omega) _⟩
  rw [setRow_other _ _ _ _ (by omega), heap_alloc2_old]

theorem zero28 : (Tryd.prog.info? 28).map (·.zero) = some (some (.agg (ints z26))) := by kernel_rfl
theorem built28d : Tryd.prog.built 28 [(0, .int .i64 4), (1, .int .i64 1)] = some (ints (dl 0)) := by kernel_rfl

set_option maxRecDepth 100000 in
theorem default_calls (w : World) : Calls Tryd.prog 16 #[] w fun e w' => e = .returned (.agg (ints (4 :: 1 :: defs))) ∧ Below w.heap.size w w' := by
  go_enter Tryd.func16, Tryd.ntmps16
  go_wp2_with (first
    | ((with_reducible change wpList _ _ _ (⟨_, .alloc 28, _, _, _, _⟩ :: _) _ _); refine wpList_alloc_to rfl 28 rfl _ zero28 ?_)
    | ((with_reducible change wpList _ _ _ (⟨_, .build 28 _, _, _, _, _⟩ :: _) _ _); refine wpList_build_to rfl 28 #[(0, .const (.int .i64 4)), (1, .const (.int .i64 1))] rfl [(0, .int .i64 4), (1, .int .i64 1)] (by simp [Act.eval, Act.put]) _ built28d ?_)
    | ((with_reducible change wpList _ _ _ (⟨_, .store 28 (.tmp 1) (.tmp 3), _, _, _, _⟩ :: _) _ _); refine wpList_store_row rfl 28 (.tmp 1) (.tmp 3) rfl _ (ints (dl 0)) rfl rfl 28 _ (heap_alloc_new _ _) (by rw [ints_size]; exact size28) (by rw [ints_size, ints_size]; rfl) (ints_one _) ?_))
  have h0 := Lib.hid (dstart w 28)
  go_loopw [4] (fun i wr => ∃ k : Nat, k ≤ 24 ∧ i = .int .i64 k ∧ Hid (DInv w 28 (dl k) wr)) (fun i _ => 24 - (intOf i).toNat)
  case atStart => exact ⟨0, by omega, rfl, h0⟩
  case round =>
    obtain ⟨k, hk, rfl, hi⟩ := hrel
    obtain ⟨hi1, hi2, hi3, hi4⟩ := hi.out
    have H2 := Lib.hid hi2
    clear hi2
    by_cases hlt : k < 24
    · have hc := ints_cell hi1 (2 + k) (by rw [dl_len k hk]; omega)
      have hf := frozen_of_row wr (w.heap.size + 1) (2 + k) _ _ hi1
      have H1 := Lib.hid hi1
      clear hi1
      go_wp2
      go_roundw
      case rel => exact ⟨k + 1, by omega, by go_num, Lib.hid (by rw [← dl_set k hlt]; exact DInv.set hi.out _ _)⟩
      case measure => simp [intOf]; omega
    · obtain rfl : k = 24 := by omega
      have hc0 := ints_cell hi1 2 (by decide)
      have hc1 := ints_cell hi1 3 (by decide)
      have hc2 := ints_cell hi1 4 (by decide)
      have hc3 := ints_cell hi1 24 (by decide)
      have hc4 := ints_cell hi1 25 (by decide)
      have hf0 := frozen_of_row wr (w.heap.size + 1) 2 _ _ hi1
      have hf1 := frozen_of_row wr (w.heap.size + 1) 3 _ _ hi1
      have hf2 := frozen_of_row wr (w.heap.size + 1) 4 _ _ hi1
      have hf3 := frozen_of_row wr (w.heap.size + 1) 24 _ _ hi1
      have hf4 := frozen_of_row wr (w.heap.size + 1) 25 _ _ hi1
      have hI := Lib.hid ((((((hi.out.set 2 3).set 3 3).set 4 3).set 24 8).set 25 1))
      rw [dl_end] at hI
      clear hi1 hi
      go_wp2_with (first
        | ((with_reducible change wpList _ _ _ (⟨_, .load 28 (.tmp 1), _, _, _, _⟩ :: _) _ _); refine wpList_load_cells rfl 28 (.tmp 1) rfl ⟨w.heap.size + 1, 0, none⟩ rfl (ints (4 :: 1 :: defs)) _ (hI.out.cells) Tryd.underlying28 rfl size28 (by rw [ints_size]; rfl) ?_)
        | ((with_reducible change wpList _ _ _ (⟨_, .store 28 (.tmp 0) (.tmp 21), _, _, _, _⟩ :: _) _ _); refine wpList_store_row rfl 28 (.tmp 0) (.tmp 21) rfl _ (ints (4 :: 1 :: defs)) rfl rfl 28 _ (hI.out.zero) (by rw [ints_size]; exact size28) (by rw [ints_size, ints_size]; rfl) (ints_one _) ?_))
      refine bodyPost_ret (v := .agg (ints (4 :: 1 :: defs))) (results_cell_row rfl _ _ w.heap.size 28 (ints (4 :: 1 :: defs)) (0, 0) _ rfl (setRow_heap _ _ _ _ _ _ hI.out.zero) Tryd.underlying28 rfl (by rw [ints_size]; exact size28)) rfl
        ⟨rfl, below_setRow' hI.out.below (Nat.le_refl _) _⟩

theorem mul_succ' (c : Int) (k : Nat) : c * ((k + 1 : Nat) : Int) = c * (k : Int) + c := by rw [Int.natCast_succ, Int.mul_add, Int.mul_one]

def preB (s c : Int) (l : List Int) (n d : Int) : Bool := okT s c l && decide (1 ≤ n ∧ n ≤ 100000 ∧ 0 ≤ d ∧ d < n ∧ d % s = 0)
theorem pre_end {s c : Int} {l : List Int} {n d : Int} {b : Bool} (hok : okT s c l = true) (h : 1 ≤ n ∧ n ≤ 100000 ∧ 0 ≤ d ∧ d ≤ n) (hb : b = true ↔ (d < n ∧ d % s = 0)) : b = preB s c l n d := by
  rw [Bool.eq_iff_iff, hb]
  simp only [preB, hok, Bool.true_and, decide_eq_true_eq]
  omega

set_option maxRecDepth 100000 in
theorem pre_calls (s c : Int) (l : List Int) (hl : l.length = 24) (n d : Int) (w : World) :
    Calls Tryd.prog 19 #[.agg (ints (s :: c :: l)), .int .i64 n, .int .i64 d] w fun e w' => e = .returned (.bool (preB s c l n d)) ∧ Below w.heap.size w w' := by
  have H := Lib.hid hl
  have HB := Lib.hid ((Below.refl w.heap.size w).alloc (Nat.le_refl _) (.cells (ints (s :: c :: l)) 28))
  clear hl
  cases hok : okT s c l with
  | false =>
    have HE := Lib.hid (chk_f hok)
    have HO := Lib.hid hok
    clear hok
    go_enter Tryd.func19, Tryd.ntmps19
    go_wp2_with (first
      | ((with_reducible change wpList _ _ _ (⟨_, .load 28 (.tmp 3), _, _, _, _⟩ :: _) _ _); refine wpList_load_cells rfl 28 (.tmp 3) rfl ⟨w.heap.size, 0, none⟩ rfl (ints (s :: c :: l)) _ (cells_new w _ _ 28 0 rfl) Tryd.underlying28 rfl size28 (by rw [ints_size]; simp only [List.length_cons, H.out]) ?_)
      | (go_at_call 21; refine (check_calls s c l H.out _).mono ?_; rw [HE.out]; rintro e w1 ⟨rfl, hb1⟩; have hc0 := cell_kept1 hb1 0 (by simp); rw [show (s :: c :: l).getD 0 0 = s from rfl] at hc0; have HW := Lib.hid (below_then' HB.out hb1); clear hb1))
    all_goals (go_ret; exact ⟨ret_bool (by simp only [preB, HO.out]; rfl), HW.out⟩)
  | true =>
    have HE := Lib.hid (chk_t hok)
    obtain ⟨⟨hs0, hs1⟩, -, -⟩ := okT_c hok
    have HO := Lib.hid hok
    clear hok
    by_cases h1 : 1 ≤ n ∧ n ≤ 100000 ∧ 0 ≤ d ∧ d ≤ n
    · obtain ⟨h1, h2, h3, h4⟩ := h1
      go_enter Tryd.func19, Tryd.ntmps19
      go_wp2_with (first
        | ((with_reducible change wpList _ _ _ (⟨_, .load 28 (.tmp 3), _, _, _, _⟩ :: _) _ _); refine wpList_load_cells rfl 28 (.tmp 3) rfl ⟨w.heap.size, 0, none⟩ rfl (ints (s :: c :: l)) _ (cells_new w _ _ 28 0 rfl) Tryd.underlying28 rfl size28 (by rw [ints_size]; simp only [List.length_cons, H.out]) ?_)
        | (go_at_call 21; refine (check_calls s c l H.out _).mono ?_; rw [HE.out]; rintro e w1 ⟨rfl, hb1⟩; have hc0 := cell_kept1 hb1 0 (by simp); rw [show (s :: c :: l).getD 0 0 = s from rfl] at hc0; have HW := Lib.hid (below_then' HB.out hb1); clear hb1))
      all_goals (go_ret; exact ⟨ret_bool (pre_end HO.out (by omega) (by have hz : d = 0 → d % s = 0 := (fun h => by rw [h]; exact Int.zero_emod s); simp; omega)), HW.out⟩)
    · have hn : preB s c l n d = false := by simp only [preB, HO.out, Bool.true_and, decide_eq_false_iff_not]; omega
      rw [hn]
      rcases (by omega : n < 1 ∨ (1 ≤ n ∧ 100000 < n) ∨ (1 ≤ n ∧ n ≤ 100000 ∧ d < 0) ∨ (1 ≤ n ∧ n ≤ 100000 ∧ 0 ≤ d ∧ n < d)) with h | ⟨h, h2⟩ | ⟨h, h2, h3⟩ | ⟨h, h2, h3, h4⟩
      all_goals
        clear h1 hn
        go_enter Tryd.func19, Tryd.ntmps19
        go_wp2_with (first
          | ((with_reducible change wpList _ _ _ (⟨_, .load 28 (.tmp 3), _, _, _, _⟩ :: _) _ _); refine wpList_load_cells rfl 28 (.tmp 3) rfl ⟨w.heap.size, 0, none⟩ rfl (ints (s :: c :: l)) _ (cells_new w _ _ 28 0 rfl) Tryd.underlying28 rfl size28 (by rw [ints_size]; simp only [List.length_cons, H.out]) ?_)
          | (go_at_call 21; refine (check_calls s c l H.out _).mono ?_; rw [HE.out]; rintro e w1 ⟨rfl, hb1⟩; have hc0 := cell_kept1 hb1 0 (by simp); rw [show (s :: c :: l).getD 0 0 = s from rfl] at hc0; have HW := Lib.hid (below_then' HB.out hb1); clear hb1))
        go_ret
        exact ⟨rfl, HW.out⟩

def row (l : List Int) : List Value := l.map (fun n => Value.int .i64 n)
def secF (s n : Int) (j : Nat) : Int := min s (n - s * j)
/-- The first k sections. -/
def secK (s n : Int) (k : Nat) : List Int := (List.range k).map (secF s n)
def secQ (s n : Int) : Nat := ((n + s - 1) / s).toNat
/-- The lengths of the sections of an operation of n ticks. -/
def secs (s n : Int) : List Int := secK s n (secQ s n)
theorem secK_succ (s n : Int) (k : Nat) : row (secK s n (k + 1)) = row (secK s n k) ++ [.int .i64 (secF s n k)] := by
  simp [row, secK, List.range_succ]
theorem secK_len (s n : Int) (k : Nat) : (secK s n k).length = k := by simp [secK]
theorem sec_le {s : Int} (h : 1 ≤ s) (k : Nat) : (k : Int) ≤ s * k := by
  have := Int.mul_le_mul_of_nonneg_right h (show (0 : Int) ≤ k by omega)
  omega
theorem secQ_of {s n : Int} {k : Nat} (hs : 1 ≤ s) (h1 : s * (k : Int) < n + s) (h2 : n ≤ s * (k : Int)) : secQ s n = k := by
  unfold secQ
  have e : (n + s - 1) / s = (k : Int) := by
    have h3 : n + s - 1 = (n - s * (k : Int) + s - 1) + s * (k : Int) := by omega
    rw [h3, Int.add_mul_ediv_left _ _ (by omega), Int.ediv_eq_zero_of_lt (by omega) (by omega)]
    omega
  rw [e]; rfl
theorem info2 : (Tryd.prog.info? 2).map (fun i => (i.zero, i.size, i.bytes)) = some (some (.int .i64 0), 1, 8) := by kernel_rfl
theorem row_nil (s n : Int) : row (secK s n 0) = [] := rfl
set_option maxRecDepth 100000 in
theorem sections_good (s c : Int) (l : List Int) (hl : l.length = 24) (n : Int) (w : World) (hok : okT s c l = true) (hn : 1 ≤ n ∧ n ≤ 100000) :
    Calls Tryd.prog 18 #[.agg (ints (s :: c :: l)), .int .i64 n] w fun e w' => ∃ v, e = .returned (.tuple #[v, .int .i64 0]) ∧ w'.ownsRow w.heap.size 2 1 v (secs s n).length (row (secs s n)) ∧ Below w.heap.size w w' := by
  obtain ⟨hn0, hn1⟩ := hn
  have H := Lib.hid hl
  have HB := Lib.hid ((Below.refl w.heap.size w).alloc (Nat.le_refl _) (.cells (ints (s :: c :: l)) 28))
  have HE := Lib.hid (chk_t hok)
  obtain ⟨⟨hs0, hs1⟩, -, -⟩ := okT_c hok
  clear hok hl
  go_enter Tryd.func18, Tryd.ntmps18
  go_wp2_with (first
    | ((with_reducible change wpList _ _ _ (⟨_, .load 28 (.tmp 2), _, _, _, _⟩ :: _) _ _); refine wpList_load_cells rfl 28 (.tmp 2) rfl ⟨w.heap.size, 0, none⟩ rfl (ints (s :: c :: l)) _ (cells_new w _ _ 28 0 rfl) Tryd.underlying28 rfl size28 (by rw [ints_size]; simp only [List.length_cons, H.out]) ?_)
    | (go_at_call 21; refine (check_calls s c l H.out _).mono ?_; rw [HE.out]; rintro e w1 ⟨rfl, hb1⟩; have hc0 := cell_kept1 hb1 0 (by simp); rw [show (s :: c :: l).getD 0 0 = s from rfl] at hc0; have hlt0 := World.block_lt_of_cell? w1 _ hc0; have HW := Lib.hid (below_then' HB.out hb1); clear hb1))
  go_loopw [1, 6] (fun m v wr => ∃ k : Nat, s * (k : Int) < n + s ∧ m = .int .i64 (n - s * (k : Int)) ∧ wr.ownsRow w1.heap.size 2 1 v k (row (secK s n k)) ∧ Below w1.heap.size w1 wr) (fun m _ _ => (intOf m + s).toNat)
  case atStart => exact ⟨0, by omega, by simp, ⟨by simp [row, secK], .inl ⟨rfl, rfl⟩⟩, Below.refl _ _⟩
  case round =>
    obtain ⟨k, hk, rfl, hown, hb⟩ := hrel
    have hc1 := (hb.cell hlt0).trans hc0
    have hkl := sec_le hs0 k
    by_cases hlt : s * (k : Int) < n
    · rcases (by omega : n - s * (k : Int) ≤ s ∨ s < n - s * (k : Int)) with hms | hms
      all_goals
        first
          | have HM := Lib.hid (show secF s n k = n - s * (k : Int) by unfold secF; omega)
          | have HM := Lib.hid (show secF s n k = s by unfold secF; omega)
        go_wp2_with (first
          | (at_builtin; refine wpList_append_1 rfl (.tmp 24) (.tmp 29) 45 2 rfl (.int .i64 0) 1 8 Tryd.underlying45 info2 rfl (by decide) w1 w1.heap.size k _ (row (secK s n k)) rfl hown hb [_] (by first | rfl | simp [Act.eval, Act.put]) rfl (by simp [Value.oneCell']) (by unfold maxLen; omega) (by omega) hb.size ?_; intro v' w2 hown2 hb2; replace hown2 : w2.ownsRow w1.heap.size 2 1 v' (k + 1) (row (secK s n (k + 1))) := (by (rw [secK_succ, HM.out]; exact hown2)); have hc2 := (hb2.cell hlt0).trans hc0))
        go_roundw
        case rel => exact ⟨k + 1, by rw [mul_succ']; omega, by rw [mul_succ']; go_num, hown2, hb2⟩
        case measure => simp [intOf]; omega
    · have HQ := Lib.hid (secQ_of hs0 hk (by omega))
      go_wp2
      go_ret2
      exact ⟨_, rfl, by unfold secs; rw [HQ.out, secK_len]; exact own_mono hown HW.out.size, below_then' HW.out hb⟩
theorem secs_len (s n : Int) : (secs s n).length = secQ s n := by unfold secs; exact secK_len _ _ _
/-- An owned row that is not empty, as a slice value and its cells. -/
theorem own_open {w : World} {base n : Nat} {e : TypeId} {v : Value} {xs : List Int} (h : w.ownsRow base e 1 v n (row xs)) (hn : 0 < n) :
    ∃ g cap, v = .slice (some ⟨g, 0, none⟩) n cap ∧ g < w.heap.size ∧ ∀ j, j < n → w.cell? ⟨g, j, none⟩ = some (.int .i64 (xs.getD j 0)) := by
  obtain ⟨g, cap, rfl, _, _⟩ := h.form hn
  have hl : xs.length = n := by have := h.1; simp [row] at this; exact this
  refine ⟨g, cap, rfl, own_lt' h g rfl, fun j hj => ?_⟩
  have := h.cells (g := g) rfl j (.int .i64 (xs.getD j 0)) (by simp [row, List.getElem?_eq_getElem (show j < xs.length by omega), List.getD_eq_getElem?_getD])
  rwa [add_at, Nat.zero_add] at this
theorem cells_of_heap {w : World} {g : Nat} {l : List Int} {T : TypeId} {fr : Nat × Nat} (h : w.heap[g]? = some (.cells (ints l) T fr)) : ∀ j v, (ints l)[j]? = some v → w.cell? ((⟨g, 0, none⟩ : Addr).add j) = some v := by
  intro j v hv
  rw [add_at, cell_of_row _ _ _ _ _ _ h]
  simpa using hv
theorem heap_kept {w w1 : World} {g : Nat} {o : Obj} (h : w.heap[g]? = some o) (hb : Below w.heap.size w w1) : w1.heap[g]? = some o :=
  (hb.block g (Array.getElem?_eq_some_iff.1 h).1).trans h
theorem heap_set {w : World} {g : Nat} {old : Array Value} {T : TypeId} {fr : Nat × Nat} (cs : Array Value) (h : w.heap[g]? = some (.cells old T fr)) : (w.setRow g cs).heap[g]? = some (.cells cs T fr) := setRow_heap _ _ _ _ _ _ h

theorem ok_defs : okT 4 1 defs = true := by decide
theorem cost_awake (w : World) : Calls Tryd.prog 17 #[.agg (ints (4 :: 1 :: defs)), .int .i64 0, .int .i64 17] w fun e w' => e = .returned (.tuple #[.int .i64 5, .int .i64 0]) ∧ Below w.heap.size w w' :=
  cost_good 4 1 defs rfl 0 17 w ok_defs (by omega) (by omega)
theorem secs_awake (w : World) : Calls Tryd.prog 18 #[.agg (ints (4 :: 1 :: defs)), .int .i64 10] w fun e w' => ∃ v, e = .returned (.tuple #[v, .int .i64 0]) ∧ w'.ownsRow w.heap.size 2 1 v 3 (row [4, 4, 2]) ∧ Below w.heap.size w w' :=
  sections_good 4 1 defs rfl 10 w ok_defs (by omega)
theorem pre_awake1 (w : World) : Calls Tryd.prog 19 #[.agg (ints (4 :: 1 :: defs)), .int .i64 10, .int .i64 8] w fun e w' => e = .returned (.bool true) ∧ Below w.heap.size w w' :=
  pre_calls 4 1 defs rfl 10 8 w
theorem pre_awake2 (w : World) : Calls Tryd.prog 19 #[.agg (ints (4 :: 1 :: defs)), .int .i64 10, .int .i64 10] w fun e w' => e = .returned (.bool false) ∧ Below w.heap.size w w' :=
  pre_calls 4 1 defs rfl 10 10 w

set_option maxRecDepth 100000 in
theorem awake_calls (w : World) : Calls Tryd.prog 6 #[] w fun e w' => e = .returned (.bool true) ∧ Below w.heap.size w w' := by
  go_enter Tryd.func6, Tryd.ntmps6
  go_wp2_with (first
    | (go_at_call 16; refine (default_calls _).mono ?_; rintro e w1 ⟨rfl, hb1⟩; have HW := Lib.hid hb1; have hsz := hb1.size; clear hb1)
    | ((with_reducible change wpList _ _ _ (⟨_, .alloc 28, _, _, _, _⟩ :: _) _ _); refine wpList_alloc_to rfl 28 rfl _ zero28 ?_; replace HW := Lib.hid (HW.out.alloc HW.out.size (.cells (ints z26) 28)); have HF := Lib.hid (heap_alloc_new w1 (.cells (ints z26) 28)))
    | ((with_reducible change wpList _ _ _ (⟨_, .store 28 (.tmp 1) (.tmp 6), _, _, _, _⟩ :: _) _ _); refine wpList_store_row rfl 28 (.tmp 1) (.tmp 6) rfl _ (ints (4 :: 1 :: defs)) rfl rfl 28 _ HF.out (by rw [ints_size]; exact size28) (by rw [ints_size, ints_size]; rfl) (ints_one _) ?_; replace HF := Lib.hid (heap_set (ints (4 :: 1 :: defs)) HF.out); replace HW := Lib.hid (below_setRow' HW.out (g := w1.heap.size) hsz (ints (4 :: 1 :: defs))))
    | ((with_reducible change wpList _ _ _ (⟨_, .load 28 (.tmp 1), _, _, _, _⟩ :: _) _ _); refine wpList_load_cells rfl 28 (.tmp 1) rfl ⟨w1.heap.size, 0, none⟩ rfl (ints (4 :: 1 :: defs)) _ (cells_of_heap HF.out) Tryd.underlying28 rfl size28 (by rw [ints_size]; rfl) ?_)
    | (go_at_call 17; refine (cost_awake _).mono ?_; rintro e w2 ⟨rfl, hb2⟩; replace HF := Lib.hid (heap_kept HF.out hb2); replace HW := Lib.hid (below_then' HW.out hb2); clear hb2)
    | (go_at_call 18; refine (secs_awake _).mono ?_; rintro e w3 ⟨v, rfl, hown, hb3⟩; obtain ⟨g, cap, rfl, hg, hcells⟩ := own_open hown (by omega); have hc2 := hcells 2 (by omega); rw [show ([4, 4, 2] : List Int).getD 2 0 = 2 from rfl] at hc2; clear hcells hown; replace HF := Lib.hid (heap_kept HF.out hb3); replace HW := Lib.hid (below_then' HW.out hb3); clear hb3)
    | (go_at_call 19; (first | (with_reducible refine (pre_awake1 _).mono ?_) | (with_reducible refine (pre_awake2 _).mono ?_)); rintro e w4 ⟨rfl, hb4⟩; replace HF := Lib.hid (heap_kept HF.out hb4); replace HW := Lib.hid (below_then' HW.out hb4); clear hb4))
  go_ret
  exact ⟨rfl, HW.out⟩
end Go.Proofs.YtofibebphfeglaaDoor
