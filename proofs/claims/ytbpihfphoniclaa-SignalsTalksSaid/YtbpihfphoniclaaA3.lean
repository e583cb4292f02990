import Derived.Test.YtbpihfphoniclaaA2
namespace Go.Proofs.Ytbpihfphoniclaa
open Go.RowKit
set_option linter.unusedVariables false
theorem Ls.at {w : World} {e : TypeId} {v : Value} {l : List Pd} (h : Ls w e v l) : ∃ A cap, v = .slice A l.length cap ∧ l.length ≤ cap ∧ cap ≤ maxLen ∧ (A = none → l = [] ∧ cap = 0) ∧
    ∀ k, k < l.length → ∃ g, A = some ⟨g, 0, none⟩ ∧ g < w.heap.size ∧ w.cell? ⟨g, k * 2, none⟩ = some (.int .i64 (l.getD k (0, 0)).1) ∧ w.cell? ⟨g, k * 2 + 1, none⟩ = some (.int .i64 (l.getD k (0, 0)).2) := by
  obtain ⟨A, cap, hv, h1, h2, h3, h4⟩ := Rw.form h
  refine ⟨A, cap, hv, h1, h2, fun e => ⟨List.eq_nil_of_length_eq_zero (h3 e).1, (h3 e).2⟩, fun k hk => ?_⟩
  cases A with
  | none => have := (h3 rfl).1; omega
  | some ad =>
    obtain ⟨g, rfl, hg, hc⟩ := h4 ad rfl
    obtain ⟨p1, p2⟩ := pcells_get l k hk
    exact ⟨g, rfl, hg, hc _ _ p1, hc _ _ p2⟩
theorem pair_cells {w : World} {g k : Nat} {a b : Value} (h1 : w.cell? ⟨g, k, none⟩ = some a) (h2 : w.cell? ⟨g, k + 1, none⟩ = some b) : ∀ j v, (#[a, b] : Array Value)[j]? = some v → w.cell? ((⟨g, k, none⟩ : Addr).add j) = some v := by
  intro j v hv
  rw [add_at]
  match j, hv with
  | 0, hv => cases hv; exact h1
  | 1, hv => cases hv; exact h2
  | j + 2, hv => simp at hv
theorem queued_succ (l : List Pd) (k : Nat) (hk : k < l.length) : queued (l.take (k + 1)) = queued (l.take k) + (if 41 ≤ (l.getD k (0, 0)).1 then 1 else 0) := by
  unfold queued
  rw [List.take_succ_eq_append_getElem hk, List.filter_append, List.length_append, List.getD_eq_getElem?_getD, List.getElem?_eq_getElem hk]
  simp only [Option.getD_some]
  by_cases h : 41 ≤ l[k].1 <;> simp [List.filter_cons, h]
theorem queued_le (l : List Pd) : queued l ≤ l.length := List.length_filter_le _ _
set_option maxHeartbeats 1000000 in
theorem queued_calls (v : Value) (l : List Pd) (w : World) (h : Ls w 94 v l) (hl : l.length ≤ 1000) :
    Calls Try.prog 36 #[v] w fun e w' => e = .returned (.int .i64 (queued l)) ∧ Below w.heap.size w w' := by
  obtain ⟨A, cap, rfl, _, _, _, hat⟩ := h.at
  have HAT := Lib.hid hat
  clear hat h
  go_enter Try.func36, Try.ntmps36
  go_wp2
  go_loopw [3, 8] (fun n i wr => ∃ k : Nat, k ≤ l.length ∧ i = .int .i64 k ∧ n = .int .i64 (queued (l.take k)) ∧ Hid (Below w.heap.size w wr)) (fun _ i _ => l.length - (intOf i).toNat)
  case atStart => exact ⟨0, by omega, rfl, rfl, Lib.hid (Below.refl _ _)⟩
  case round =>
    obtain ⟨k, hk, rfl, rfl, HB⟩ := hrel
    by_cases hlt : k < l.length
    · obtain ⟨g, rfl, hg, hc0, hc1⟩ := HAT.out k hlt
      have HQ := Lib.hid (queued_succ l k hlt)
      have hq := queued_le (l.take k)
      have hq2 : (l.take k).length ≤ k := List.length_take_le _ _
      generalize queued (l.take k) = q at *
      generalize l.getD k (0, 0) = y at *
      obtain ⟨y1, y2⟩ := y
      have hd0 := (HB.out.cell (p := ⟨g, k * 2, none⟩) hg).trans hc0
      have hd1 := (HB.out.cell (p := ⟨g, k * 2 + 1, none⟩) hg).trans hc1
      have HCE := Lib.hid (pair_cells hd0 hd1)
      have hlt' : (k : Int) < (l.length : Int) := by omega
      clear hc0 hc1 hd0 hd1
      by_cases hy : 41 ≤ y1
      all_goals
        have hbs := HB.out.size
        go_wp2_with ((with_reducible change wpList _ _ _ (⟨_, .load 94 (.tmp 10), _, _, _, _⟩ :: _) _ _); refine wpList_load_cells (by rfl) 94 (.tmp 10) rfl ⟨g, k * 2, none⟩ rfl #[.int .i64 y1, .int .i64 y2] _ HCE.out Try.underlying94 rfl (n := 2) (by kernel_rfl) rfl ?_)
        go_roundw
        case rel => exact ⟨k + 1, by omega, by go_num, by rw [HQ.out]; simp [hy], Lib.hid (HB.out.alloc hbs _)⟩
        case measure => simp [intOf]; omega
    · obtain rfl : k = l.length := by omega
      rw [List.take_length]
      have hge : ¬ ((l.length : Int) < (l.length : Int)) := by omega
      go_wp2
      go_ret
      exact ⟨rfl, HB.out⟩
end Go.Proofs.Ytbpihfphoniclaa
