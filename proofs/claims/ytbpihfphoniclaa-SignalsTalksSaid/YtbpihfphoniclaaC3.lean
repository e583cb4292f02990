import Derived.Test.YtbpihfphoniclaaC2
namespace Go.Proofs.Ytbpihfphoniclaa
open Go.RowKit
set_option linter.unusedVariables false
theorem same_calls (a b s : Int) (sb : Nat) (w : World) (hs : w.cell? ⟨sb, 0, none⟩ = some (.int .i64 s)) : Calls Try.prog 38 #[.agg #[.int .i64 a, .int .i64 b], .pointer (some ⟨sb, 0, none⟩)] w fun e w' => e = .returned (.bool (a == s)) ∧ Below w.heap.size w w' := by
  have hlt := World.block_lt_of_cell? _ _ hs
  go_enter Try.func38, Try.ntmps38
  go_wp2
  go_ret
  exact ⟨rfl, (Below.refl _ _).alloc (Nat.le_refl _) _⟩
theorem pends_succ (l : List Pd) (s : Int) (k : Nat) (hk : k < l.length) (h0 : pends (l.take k) s = false) : pends (l.take (k + 1)) s = ((l.getD k (0, 0)).1 == s) := by
  unfold pends at *
  rw [List.take_succ_eq_append_getElem hk, List.any_append, h0, List.getD_eq_getElem?_getD, List.getElem?_eq_getElem hk]
  simp
theorem pends_take {l : List Pd} {s : Int} {k : Nat} (h : pends (l.take k) s = true) : pends l s = true := by
  unfold pends at *
  obtain ⟨x, hx, h⟩ := List.any_eq_true.1 h
  exact List.any_eq_true.2 ⟨x, List.mem_of_mem_take hx, h⟩
set_option maxHeartbeats 1000000 in
set_option maxRecDepth 100000 in
theorem indexP_calls (v : Value) (l : List Pd) (s : Int) (sb : Nat) (w : World) (h : Ls w 94 v l) (hl : l.length ≤ 1000) (hs : w.cell? ⟨sb, 0, none⟩ = some (.int .i64 s)) :
    Calls Try.prog 60 #[v, .func (.func 38) #[] #[.pointer (some ⟨sb, 0, none⟩)]] w fun e w' => ∃ r : Int, e = .returned (.int .i64 r) ∧ decide (0 ≤ r) = pends l s ∧ Below w.heap.size w w' := by
  obtain ⟨A, cap, rfl, _, _, _, hat⟩ := h.at
  have HAT := Lib.hid hat
  have HS := Lib.hid hs
  have hsl := World.block_lt_of_cell? _ _ hs
  clear hat h hs
  go_enter Try.func60, Try.ntmps60
  go_wp2
  go_loopw [5, 8] (fun i m wr => ∃ k : Nat, k ≤ l.length ∧ m = .int .i64 k ∧ Hid (pends (l.take k) s = false ∧ Below w.heap.size w wr)) (fun _ m _ => l.length - (intOf m).toNat)
  case atStart => exact ⟨0, Nat.zero_le _, rfl, Lib.hid ⟨by simp [pends], Below.refl _ _⟩⟩
  case round =>
    obtain ⟨k, hk, rfl, HI⟩ := hrel
    by_cases hlt : k < l.length
    · obtain ⟨g, rfl, hg, hc0, hc1⟩ := HAT.out k hlt
      have HSN := Lib.hid (pends_succ l s k hlt HI.out.1)
      generalize l.getD k (0, 0) = y at *
      obtain ⟨y1, y2⟩ := y
      have HCE := Lib.hid (pair_cells ((HI.out.2.cell (p := ⟨g, k * 2, none⟩) hg).trans hc0) ((HI.out.2.cell (p := ⟨g, k * 2 + 1, none⟩) hg).trans hc1))
      have HSB := Lib.hid ((HI.out.2.cell (p := ⟨sb, 0, none⟩) hsl).trans HS.out)
      have hlt' : (k : Int) < (l.length : Int) := by omega
      clear hc0 hc1
      cases hy : (y1 == s) with
      | true =>
        have HY := Lib.hid hy
        clear hy
        go_wp2_with (first
          | ((with_reducible change wpList _ _ _ (⟨_, .load 94 (.tmp 14), _, _, _, _⟩ :: _) _ _); refine wpList_load_cells (by rfl) 94 (.tmp 14) rfl ⟨g, k * 2, none⟩ rfl #[.int .i64 y1, .int .i64 y2] _ HCE.out Try.underlying94 rfl (n := 2) (by kernel_rfl) rfl ?_)
          | (go_at_call 38; refine (same_calls y1 y2 s sb _ HSB.out).mono ?_; rw [HY.out]; rintro e w2 ⟨rfl, hd⟩; have HD := Lib.hid (below_then' HI.out.2 hd); clear hd))
        go_ret
        exact ⟨k, rfl, by rw [pends_take (k := k + 1) (by rw [HSN.out, HY.out])]; simp, HD.out⟩
      | false =>
        have HY := Lib.hid hy
        clear hy
        go_wp2_with (first
          | ((with_reducible change wpList _ _ _ (⟨_, .load 94 (.tmp 14), _, _, _, _⟩ :: _) _ _); refine wpList_load_cells (by rfl) 94 (.tmp 14) rfl ⟨g, k * 2, none⟩ rfl #[.int .i64 y1, .int .i64 y2] _ HCE.out Try.underlying94 rfl (n := 2) (by kernel_rfl) rfl ?_)
          | (go_at_call 38; refine (same_calls y1 y2 s sb _ HSB.out).mono ?_; rw [HY.out]; rintro e w2 ⟨rfl, hd⟩; have HD := Lib.hid (below_then' HI.out.2 hd); clear hd))
        go_roundw
        case rel => exact ⟨k + 1, by omega, by go_num, Lib.hid ⟨by rw [HSN.out, HY.out], HD.out⟩⟩
        case measure => simp [intOf]; omega
    · obtain rfl : k = l.length := by omega
      have hge : ¬ (l.length : Int) < (l.length : Int) := by omega
      have H1 : Hid (pends l s = false) := Lib.hid (by have := HI.out.1; rwa [List.take_length] at this)
      go_wp2
      go_ret
      exact ⟨-1, rfl, by rw [H1.out]; rfl, HI.out.2⟩
theorem containsP_calls (v : Value) (l : List Pd) (s : Int) (sb : Nat) (w : World) (h : Ls w 94 v l) (hl : l.length ≤ 1000) (hs : w.cell? ⟨sb, 0, none⟩ = some (.int .i64 s)) :
    Calls Try.prog 37 #[v, .func (.func 38) #[] #[.pointer (some ⟨sb, 0, none⟩)]] w fun e w' => e = .returned (.bool (pends l s)) ∧ Below w.heap.size w w' := by
  go_enter Try.func37, Try.ntmps37
  go_wp2_with (go_at_call 60; refine (indexP_calls v l s sb _ h hl hs).mono ?_; intro e w' hp; obtain ⟨r, rfl, hr, hd⟩ := hp)
  go_ret
  exact ⟨by simp [hr], hd⟩
end Go.Proofs.Ytbpihfphoniclaa
