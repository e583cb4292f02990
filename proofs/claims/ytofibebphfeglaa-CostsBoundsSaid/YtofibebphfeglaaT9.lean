import Derived.Test.YtofibebphfeglaaT8
import Derived.Deep.AppendLies
namespace Go.Proofs.Ytofibebphfeglaa
open Go.RowKit
attribute [local go_sem] ints_get ints_size ints_getElem

/-- An owned row that is not empty, as a slice value and its cells. -/
theorem own_open {w : World} {base n : Nat} {e : TypeId} {v : Value} {xs : List Int} (h : w.ownsRow base e 1 v n (row xs)) (hn : 0 < n) :
    ∃ g cap, v = .slice (some ⟨g, 0, none⟩) n cap ∧ g < w.heap.size ∧ ∀ j, j < n → w.cell? ⟨g, j, none⟩ = some (.int .i64 (xs.getD j 0)) := by
  obtain ⟨g, cap, rfl, _, _⟩ := h.form hn
  have hl : xs.length = n := by have := h.1; simp [row] at this; exact this
  refine ⟨g, cap, rfl, own_lt' h g rfl, fun j hj => ?_⟩
  have := h.cells (g := g) rfl j (.int .i64 (xs.getD j 0)) (by simp [row, List.getElem?_eq_getElem (show j < xs.length by omega), List.getD_eq_getElem?_getD])
  rwa [add_at, Nat.zero_add] at this
theorem rcost_ok (s c : Int) (l : List Int) (hl : l.length = 24) (k : Nat) (hk : k < 24) (hok : okT s c l = true) (w : World) :
    Calls Try.prog 8 #[.agg (ints (s :: c :: l)), .int .i64 k, .int .i64 4096] w fun e w' => e = .returned (.tuple #[.int .i64 (l.getD k 0 + c * units 4096), .int .i64 0]) ∧ Below w.heap.size w w' := by
  have := rcost_good s c l hl k 4096 w hok (by omega) (by omega)
  simpa using this
theorem costE_f {s c : Int} {l : List Int} (h : okT s c l = false) (op b : Int) : costE s c l op b = 34 := by simp [costE, h]
theorem costN_f {s c : Int} {l : List Int} (h : okT s c l = false) (op b : Int) : costN s c l op b = 0 := by simp [costN, costE_f h]
theorem rcost_no (s c : Int) (l : List Int) (hl : l.length = 24) (op b : Int) (hok : okT s c l = false) (w : World) :
    Calls Try.prog 8 #[.agg (ints (s :: c :: l)), .int .i64 op, .int .i64 b] w fun e w' => e = .returned (.tuple #[.int .i64 0, .int .i64 34]) ∧ Below w.heap.size w w' := by
  have := rcost_calls s c l hl op b w
  rwa [costE_f hok, costN_f hok] at this

set_option maxRecDepth 100000 in
theorem rlongest_bad (s c : Int) (l : List Int) (hl : l.length = 24) (hok : okT s c l = false) (w : World) :
    Calls Try.prog 20 #[.agg (ints (s :: c :: l))] w fun e w' => e = .returned (.int .i64 0) ∧ Below w.heap.size w w' := by
  have H := Lib.hid hl
  have HB := Lib.hid ((Below.refl w.heap.size w).alloc (Nat.le_refl _) (.cells (ints (s :: c :: l)) 29))
  have HO := Lib.hid hok
  clear hok hl
  go_enter Try.func20, Try.ntmps20
  go_wp2
  go_loopw [3, 4] (fun m i wr => ∃ k : Nat, k ≤ 24 ∧ i = .int .i64 k ∧ m = .int .i64 0 ∧ Below (w.alloc (.cells (ints (s :: c :: l)) 29)).heap.size (w.alloc (.cells (ints (s :: c :: l)) 29)) wr) (fun _ i _ => 24 - (intOf i).toNat)
  case atStart => exact ⟨0, by omega, rfl, rfl, Below.refl _ _⟩
  case round =>
    obtain ⟨k, hk, rfl, rfl, hb⟩ := hrel
    by_cases hlt : k < 24
    · go_wp2_with (first
        | ((with_reducible change wpList _ _ _ (⟨_, .load 29 (.tmp 1), _, _, _, _⟩ :: ⟨_, .move (.tmp 4), _, _, _, _⟩ :: _) _ _); refine wpList_load_cells rfl 29 (.tmp 1) rfl ⟨w.heap.size, 0, none⟩ rfl (ints (s :: c :: l)) _ (cells_kept hb rfl) Try.underlying29 rfl size29 (by rw [ints_size]; simp only [List.length_cons, H.out]) ?_)
        | (go_at_call 8; refine (rcost_no s c l H.out _ _ HO.out _).mono ?_; rintro e w2 ⟨rfl, hb2⟩; have hb3 := below_then' hb hb2)
        | ((with_reducible change wpList _ _ _ (⟨_, .load 29 (.tmp 1), _, _, _, _⟩ :: ⟨_, .move (.tmp 5), _, _, _, _⟩ :: _) _ _); refine wpList_load_cells rfl 29 (.tmp 1) rfl ⟨w.heap.size, 0, none⟩ rfl (ints (s :: c :: l)) _ (cells_kept hb3 rfl) Try.underlying29 rfl size29 (by rw [ints_size]; simp only [List.length_cons, H.out]) ?_)
        | (go_at_call 16; refine (rsections_bad s c l H.out _ _ (by rw [HO.out]; rfl)).mono ?_; rintro e w4 ⟨rfl, hb4⟩; have hb5 := below_then' hb3 hb4))
      refine wp_loop_rounds 1 ?_
      rw [rounds_succ]
      go_wp2
      go_roundw
      case rel => exact ⟨k + 1, by omega, by go_num, rfl, hb5⟩
      case measure => simp [intOf]; omega
    · obtain rfl : k = 24 := by omega
      go_wp2
      go_ret
      exact ⟨rfl, below_then' HB.out hb⟩

theorem secF_le (s n : Int) (hs : 1 ≤ s) (k : Nat) : secF s n k ≤ min s n := by
  have : 0 ≤ s * (k : Int) := Int.mul_nonneg (by omega) (by omega)
  unfold secF
  omega
theorem secQ_le (s n : Int) (hs : 1 ≤ s) (hn : 1 ≤ n) : (secQ s n : Int) ≤ n := by
  unfold secQ
  have h1 : n * 1 ≤ n * s := Int.mul_le_mul_of_nonneg_left hs (by omega)
  have h2 : (n + s - 1) / s < n + 1 := by
    rw [Int.ediv_lt_iff_lt_mul (by omega), Int.add_mul]
    omega
  omega
theorem secF_zero (s n : Int) : secF s n 0 = min s n := by simp [secF]

set_option maxHeartbeats 800000 in
set_option maxRecDepth 100000 in
theorem rlongest_good (s c : Int) (l : List Int) (hl : l.length = 24) (hok : okT s c l = true) (w : World) :
    Calls Try.prog 20 #[.agg (ints (s :: c :: l))] w fun e w' => e = .returned (.int .i64 (lgst s c l)) ∧ Below w.heap.size w w' := by
  have H := Lib.hid hl
  have HB := Lib.hid ((Below.refl w.heap.size w).alloc (Nat.le_refl _) (.cells (ints (s :: c :: l)) 29))
  have HO := Lib.hid hok
  have HR := Lib.hid (show lgst s c l = min (lg c l 24) s by simp [lgst, hok])
  have HL := fun k hk => Lib.hid (lg_bd hok hl k hk)
  obtain ⟨⟨hs0, hs1⟩, hc0, hc1⟩ := okT_c hok
  have HM := Lib.hid (mul_bd hc0 hc1 (u := units 4096) (by decide) (by decide))
  clear hok hl
  go_enter Try.func20, Try.ntmps20
  go_wp2
  go_loopw [3, 4] (fun m i wr => ∃ k : Nat, k ≤ 24 ∧ i = .int .i64 k ∧ m = .int .i64 (min (lg c l k) s) ∧ Below (w.alloc (.cells (ints (s :: c :: l)) 29)).heap.size (w.alloc (.cells (ints (s :: c :: l)) 29)) wr) (fun _ i _ => 24 - (intOf i).toNat)
  case atStart => exact ⟨0, by omega, rfl, by simp [lg]; omega, Below.refl _ _⟩
  case round =>
    obtain ⟨k, hk, rfl, rfl, hb⟩ := hrel
    by_cases hlt : k < 24
    · have hx := Lib.hid (okT_l HO.out k (by rw [H.out]; exact hlt))
      have HS := Lib.hid (lg_succ c l k (by rw [H.out]; exact hlt))
      obtain ⟨n, hn⟩ : ∃ n, n = l.getD k 0 + c * units 4096 := ⟨_, rfl⟩
      have hnb : 1 ≤ n ∧ n ≤ 100000 := by have := hx.out; have := HM.out; omega
      have HN := Lib.hid hn
      have HQ := sec_pos s n hs0 hnb.1
      have HLn := Lib.hid (secs_len s n)
      have hqb : secQ s n ≤ 100000 := by have := secQ_le s n hs0 hnb.1; omega
      have HNB := Lib.hid hnb
      clear hn hnb
      go_wp2_with (first
        | ((with_reducible change wpList _ _ _ (⟨_, .load 29 (.tmp 1), _, _, _, _⟩ :: ⟨_, .move (.tmp 4), _, _, _, _⟩ :: _) _ _); refine wpList_load_cells rfl 29 (.tmp 1) rfl ⟨w.heap.size, 0, none⟩ rfl (ints (s :: c :: l)) _ (cells_kept hb rfl) Try.underlying29 rfl size29 (by rw [ints_size]; simp only [List.length_cons, H.out]) ?_)
        | (go_at_call 8; refine (rcost_ok s c l H.out k hlt HO.out _).mono ?_; rw [← HN.out]; rintro e w2 ⟨rfl, hb2⟩; have hb3 := below_then' hb hb2)
        | ((with_reducible change wpList _ _ _ (⟨_, .load 29 (.tmp 1), _, _, _, _⟩ :: ⟨_, .move (.tmp 5), _, _, _, _⟩ :: _) _ _); refine wpList_load_cells rfl 29 (.tmp 1) rfl ⟨w.heap.size, 0, none⟩ rfl (ints (s :: c :: l)) _ (cells_kept hb3 rfl) Try.underlying29 rfl size29 (by rw [ints_size]; simp only [List.length_cons, H.out]) ?_)
        | (go_at_call 16; refine (rsections_good s c l H.out _ _ HO.out HNB.out).mono ?_; rintro e w4 ⟨v, rfl, hown, hb4⟩; have hb5 := below_then' hb3 hb4; rw [HLn.out] at hown; obtain ⟨g, cap, rfl, hg, hcells⟩ := own_open hown HQ; have HCS := Lib.hid hcells; clear hown hcells))
      obtain ⟨wo, rfl⟩ : ∃ wo : World, wo = w4 := ⟨_, rfl⟩
      go_loop [3, 9] (fun m i => ∃ j : Nat, j ≤ secQ s n ∧ i = .int .i64 j ∧ m = .int .i64 (if j = 0 then min (lg c l k) s else max (min (lg c l k) s) (min s n))) (fun _ i => secQ s n - (intOf i).toNat)
      case atStart => exact ⟨0, by omega, rfl, rfl⟩
      case round =>
        obtain ⟨j, hj, rfl, rfl⟩ := hrel
        by_cases hjl : j < secQ s n
        · have hcj := HCS.out j hjl
          rw [secs_get s n j hjl] at hcj
          have hle := secF_le s n hs0 j
          have HZ := Lib.hid (secF_zero s n)
          rcases Nat.eq_zero_or_pos j with hj0 | hj0
          · subst hj0
            rw [HZ.out] at hcj
            go_wp2
            all_goals
              go_round
              case rel => exact ⟨1, by omega, rfl, by rw [if_neg (by omega)]; congr 1; omega⟩
              case measure => simp [intOf]; omega
          · rw [if_neg (by omega)]
            go_wp2
            go_round
            case rel => exact ⟨j + 1, by omega, by go_num, by rw [if_neg (by omega)]⟩
            case measure => simp [intOf]; omega
        · obtain rfl : j = secQ s n := by omega
          rw [if_neg (by omega)]
          go_wp2
          go_roundw
          case rel => exact ⟨k + 1, by omega, by go_num, by rw [HS.out, ← HN.out]; congr 1; omega, hb5⟩
          case measure => simp [intOf]; omega
    · obtain rfl : k = 24 := by omega
      go_wp2
      go_ret
      exact ⟨ret_int HR.out.symm, below_then' HB.out hb⟩

theorem rlongest_calls (s c : Int) (l : List Int) (hl : l.length = 24) (w : World) :
    Calls Try.prog 20 #[.agg (ints (s :: c :: l))] w fun e w' => e = .returned (.int .i64 (lgst s c l)) ∧ Below w.heap.size w w' := by
  cases hok : okT s c l with
  | true => exact rlongest_good s c l hl hok w
  | false =>
    rw [show lgst s c l = 0 by simp [lgst, hok]]
    exact rlongest_bad s c l hl hok w
end Go.Proofs.Ytofibebphfeglaa
