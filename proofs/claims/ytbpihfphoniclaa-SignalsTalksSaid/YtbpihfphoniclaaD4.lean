/- slices.Equal of wakes (44), and equal (23) where its results are equal. -/
import Derived.Test.YtbpihfphoniclaaD0
import Derived.BigQuiet
namespace Go.Proofs.Ytbpihfphoniclaa
open Go.RowKit
set_option linter.unusedVariables false
theorem wcells_get (l : List (Int × Int × Int)) (i : Nat) (h : i < l.length) : (wcells l)[i * 3]? = some (.int .i64 (l.getD i (0, 0, 0)).1) ∧ (wcells l)[i * 3 + 1]? = some (.int .i64 (l.getD i (0, 0, 0)).2.1) ∧ (wcells l)[i * 3 + 2]? = some (.int .i64 (l.getD i (0, 0, 0)).2.2) := by
  induction l generalizing i with
  | nil => simp at h
  | cons p l ih =>
    cases i with
    | zero => simp [wcells]
    | succ i =>
      have := ih i (by simpa using h)
      simp only [wcells, List.flatMap_cons] at this ⊢
      rw [show (i + 1) * 3 = (i * 3) + 3 by omega, show (i * 3) + 3 + 1 = (i * 3 + 1) + 3 by omega, show (i * 3) + 3 + 2 = (i * 3 + 2) + 3 by omega]
      simpa using this
theorem Wk.at {w : World} {v : Value} {l : List (Int × Int × Int)} (h : Wk w v l) : ∃ A cap, v = .slice A l.length cap ∧ l.length ≤ cap ∧ cap ≤ maxLen ∧ (A = none → l = []) ∧
    ∀ k, k < l.length → ∃ g, A = some ⟨g, 0, none⟩ ∧ g < w.heap.size ∧ w.cell? ⟨g, k * 3, none⟩ = some (.int .i64 (l.getD k (0, 0, 0)).1) ∧ w.cell? ⟨g, k * 3 + 1, none⟩ = some (.int .i64 (l.getD k (0, 0, 0)).2.1) ∧ w.cell? ⟨g, k * 3 + 2, none⟩ = some (.int .i64 (l.getD k (0, 0, 0)).2.2) := by
  obtain ⟨A, cap, hv, h1, h2, h3, h4⟩ := Rw.form h
  refine ⟨A, cap, hv, h1, h2, fun e => List.eq_nil_of_length_eq_zero (h3 e).1, fun k hk => ?_⟩
  cases A with
  | none => have := (h3 rfl).1; omega
  | some ad =>
    obtain ⟨g, rfl, hg, hc⟩ := h4 ad rfl
    obtain ⟨p1, p2, p3⟩ := wcells_get l k hk
    exact ⟨g, rfl, hg, hc _ _ p1, hc _ _ p2, hc _ _ p3⟩
set_option maxHeartbeats 1000000 in
theorem equalW_calls (a b : Value) (l : List (Int × Int × Int)) (w : World) (ha : Wk w a l) (hb : Wk w b l) : Calls Try.prog 44 #[a, b] w fun e w' => e = .returned (.bool true) ∧ Below w.heap.size w w' := by
  obtain ⟨A, ca, rfl, k1, k2, _, hat⟩ := ha.at
  obtain ⟨B, cb, rfl, k3, k4, _, hbt⟩ := hb.at
  have HAT := Lib.hid hat
  have HBT := Lib.hid hbt
  clear hat hbt ha hb
  have hmax : (l.length : Int) ≤ 9223372036854775807 := by unfold maxLen at k2; omega
  clear k1 k2 k3 k4
  go_enter Try.func44, Try.ntmps44
  go_wp2
  go_loopw [13] (fun i wr => ∃ k : Nat, k ≤ l.length ∧ i = .int .i64 k ∧ Hid (Below w.heap.size w wr)) (fun i _ => l.length - (intOf i).toNat)
  case atStart => exact ⟨0, by omega, rfl, Lib.hid (Below.refl _ _)⟩
  case round =>
    obtain ⟨k, hk, rfl, HB⟩ := hrel
    by_cases hlt : k < l.length
    · obtain ⟨g, rfl, hg, hc0, hc1, hc2⟩ := HAT.out k hlt
      obtain ⟨g2, rfl, hg2, hd0, hd1, hd2⟩ := HBT.out k hlt
      generalize l.getD k (0, 0, 0) = y at *
      obtain ⟨y1, y2, y3⟩ := y
      have c0 := (HB.out.cell (p := ⟨g, k * 3, none⟩) hg).trans hc0
      have c1 := (HB.out.cell (p := ⟨g, k * 3 + 1, none⟩) hg).trans hc1
      have c2 := (HB.out.cell (p := ⟨g, k * 3 + 2, none⟩) hg).trans hc2
      have d0 := (HB.out.cell (p := ⟨g2, k * 3, none⟩) hg2).trans hd0
      have d1 := (HB.out.cell (p := ⟨g2, k * 3 + 1, none⟩) hg2).trans hd1
      have d2 := (HB.out.cell (p := ⟨g2, k * 3 + 2, none⟩) hg2).trans hd2
      have hlt' : (k : Int) < (l.length : Int) := by omega
      clear hc0 hc1 hc2 hd0 hd1 hd2
      go_wp2
      go_quiet (fail)
      go_wp2
      go_roundw
      case rel => exact ⟨k + 1, by omega, by go_num, Lib.hid (below_drewN HB.out _)⟩
      case measure => simp [intOf]; omega
    · obtain rfl : k = l.length := by omega
      have hge : ¬ ((l.length : Int) < (l.length : Int)) := by omega
      go_wp2
      go_ret
      exact ⟨rfl, HB.out⟩
set_option maxRecDepth 100000 in
theorem equal_calls (n : Int) (b : Nat) (v : Int) (ok : Bool) (x y z e : Int) (wa wb : Value) (l : List (Int × Int × Int)) (w : World) (ha : Wk w wa l) (hb : Wk w wb l) :
    Calls Try.prog 23 #[.agg (resc n b v ok x y z wa e), .agg (resc n b v ok x y z wb e)] w fun en w' => en = .returned (.bool true) ∧ Below w.heap.size w w' := by
  obtain ⟨A, ca, la, rfl⟩ := ha.sl
  obtain ⟨B, cb, lb, rfl⟩ := hb.sl
  have hX := heap22 w (.cells (resc n b v ok x y z (.slice A ca la) e) 52) (.cells (resc n b v ok x y z (.slice B cb lb) e) 52)
  have HC := Lib.hid (equalW_calls _ _ l _ (ha.below hX.1) (hb.below hX.1))
  have h1 := (heap2 w (.cells (resc n b v ok x y z (.slice A ca la) e) 52) (.cells (resc n b v ok x y z (.slice B cb lb) e) 52)).1
  have HB := Lib.hid (And.intro hX.1 (And.intro h1 hX.2))
  clear hX ha hb h1
  unfold resc at HC HB ⊢
  go_enter Try.func23, Try.ntmps23
  cases ok
  all_goals
    go_wp2_with fail
    refine HC.out.mono ?_
    rintro en w' ⟨rfl, hb⟩
    have r1 := (hb.block _ (Array.getElem?_eq_some_iff.1 HB.out.2.1).1).trans HB.out.2.1
    have r2 := (hb.block _ (Array.getElem?_eq_some_iff.1 HB.out.2.2).1).trans HB.out.2.2
    have c1 : w'.cell? ⟨w.heap.size, 8, none⟩ = some (.int .i64 e) := by rw [cell_of_row _ _ _ _ _ _ r1]; rfl
    have c2 : w'.cell? ⟨w.heap.size + 1, 8, none⟩ = some (.int .i64 e) := by rw [cell_of_row _ _ _ _ _ _ r2]; rfl
    have HB2 := Lib.hid (below_then' HB.out.1 hb)
    clear hb r1 r2
    go_wp2
    go_ret
    exact ⟨rfl, HB2.out⟩
end Go.Proofs.Ytbpihfphoniclaa
