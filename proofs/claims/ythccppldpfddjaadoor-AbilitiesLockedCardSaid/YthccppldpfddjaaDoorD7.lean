/- Right (14), within its bounds. -/
import Derived.Test.YthccppldpfddjaaDoorD6
namespace Go.Proofs.YthccppldpfddjaaDoor
open Go.RowKit
set_option linter.unusedVariables false
set_option maxHeartbeats 2000000 in
set_option maxRecDepth 100000 in
/-- Right (14), within its bounds. -/
theorem right_calls (b d a : Nat) (lv : Nat → Value) (S : St) (w : World) (h : RArr 64 77 43 w b lv S) (hS : StOk S) (hd : d < 2) (ha : a < 32) :
    Calls Tryd.prog 14 #[.pointer (some ⟨b, 0, none⟩), .int .i64 d, .int .i64 a] w fun e w' => ∃ v, e = .returned (.tuple #[.agg (rv v (S (d * 32 + a))), .int .i64 0]) ∧ Ls w' 43 v (S (d * 32 + a)).rs ∧ Below w.heap.size w w' := by
  have HV := Lib.hid (valid_calls (d : Int) (a : Int))
  rw [show (decide (0 ≤ (d : Int) ∧ (d : Int) ≤ 1 ∧ 0 ≤ (a : Int) ∧ (a : Int) < 32)) = true by simp; omega] at HV
  have hb0 : Below w.heap.size w (w.alloc (.cells #[.slice none 0 0, .bool false, .bool false] 38)) := (Below.refl _ w).alloc (Nat.le_refl _) _
  have HA := Lib.hid (And.intro h (And.intro hS hb0))
  have hi : d * 32 + a < 64 := by omega
  obtain ⟨A1, c1, hv1, -, -, -, -⟩ := Rw.form (h.row _ hi)
  have HF := Lib.hid (show ∀ w', Below (w.heap.size + 1) (w.alloc (.cells #[.slice none 0 0, .bool false, .bool false] 38)) w' → (w'.cell? ⟨b, d * 96 + a * 3, none⟩ = some (.slice A1 (S (d * 32 + a)).rs.length c1) ∧ w'.cell? ⟨b, d * 96 + a * 3 + 1, none⟩ = some (.bool (S (d * 32 + a)).lk) ∧ w'.cell? ⟨b, d * 96 + a * 3 + 2, none⟩ = some (.bool (S (d * 32 + a)).inh)) ∧
      (w'.cell? ⟨w.heap.size, 0, none⟩ = some (.slice none 0 0) ∧ w'.cell? ⟨w.heap.size, 1, none⟩ = some (.bool false) ∧ w'.cell? ⟨w.heap.size, 2, none⟩ = some (.bool false)) ∧ w'.frozen? ⟨w.heap.size, 0, none⟩ = false ∧ w'.frozen? ⟨w.heap.size, 1, none⟩ = false ∧ w'.frozen? ⟨w.heap.size, 2, none⟩ = false ∧ w'.heap[w.heap.size]? = some (.cells #[.slice none 0 0, .bool false, .bool false] 38 (0, 0)) from fun w' hw => by
    have e0 := (hw.block w.heap.size (by omega)).trans (heap_alloc_new w (.cells #[.slice none 0 0, .bool false, .bool false] 38))
    have hw0 : Below w.heap.size w w' := hb0.trans (hw.mono (by omega))
    obtain ⟨q0, q1, q2⟩ := (h.below hw0).three hi
    rw [hv1] at q0
    rw [show (d * 32 + a) * 3 = d * 96 + a * 3 by omega] at q0 q1 q2
    exact ⟨⟨q0, q1, q2⟩, ⟨by rw [cell_of_row _ _ _ _ _ _ e0]; rfl, by rw [cell_of_row _ _ _ _ _ _ e0]; rfl, by rw [cell_of_row _ _ _ _ _ _ e0]; rfl⟩, frozen_of_row _ _ _ _ _ e0, frozen_of_row _ _ _ _ _ e0, frozen_of_row _ _ _ _ _ e0, e0⟩)
  have HCP := Lib.hid (fun W' (hW : Below w.heap.size w W') => copied_calls (S (d * 32 + a)) (lv (d * 32 + a)) W' ((h.row _ hi).below hW) (by have := (hS _ hi).2; omega))
  unfold rv at HCP ⊢
  rw [hv1] at HCP
  have hdi : (d : Int) < 2 := by omega
  have hai : (a : Int) < 32 := by omega
  generalize S (d * 32 + a) = r at *
  clear h hS hb0 hi hv1 hd ha
  go_enter Tryd.func14, Tryd.ntmps14
  go_wp2_with (first
    | (go_at_call 46; refine (HV.out _).mono ?_; rintro e w1 ⟨rfl, h1⟩; have HB1 := Lib.hid (show Below (w.heap.size + 1) (w.alloc (.cells #[.slice none 0 0, .bool false, .bool false] 38)) w1 from by simpa using h1); obtain ⟨⟨q0, q1, q2⟩, -⟩ := HF.out w1 HB1.out; clear h1)
    | (go_at_call 47; refine (HCP.out _ (HA.out.2.2.trans (HB1.out.mono (by omega)))).mono ?_; rintro e w2 ⟨v2, rfl, h1, h2⟩; obtain ⟨A2, c2, rfl, -, -, -, -⟩ := Rw.form h1; have HB2 := Lib.hid (HB1.out.trans (h2.mono (by have := HB1.out.size; simpa using this))); obtain ⟨-, ⟨z0, z1, z2⟩, y0, y1, y2, y3⟩ := HF.out w2 HB2.out; have HX := Lib.hid (And.intro h1 y3); clear h1 h2 y3))
  have e1 := set3_row HX.out.2 0 (.slice A2 r.rs.length c2) (.bool r.lk) (.bool r.inh)
  have hbel : Below w.heap.size w (set3 w2 w.heap.size 0 (.slice A2 r.rs.length c2) (.bool r.lk) (.bool r.inh)) := (HA.out.2.2.trans (HB2.out.mono (by omega))).trans (set3_below _ _ _ _ (Nat.le_refl _))
  refine bodyPost_ret (v := .tuple #[.agg #[.slice A2 r.rs.length c2, .bool r.lk, .bool r.inh], .int .i64 0]) ?_ rfl ⟨_, rfl, HX.out.1.set3 HX.out.2 (by decide) 0 _ _ _, hbel⟩
  rw [results_cell_tmp rfl]
  have hl := run_loadVar_row (P := Tryd.prog) _ w.heap.size 38 38 _ (0, 0) _ e1 Tryd.underlying38 rfl size38
  unfold set3 at hl
  simp [asAddr, hl, Result.andThen]
end Go.Proofs.YthccppldpfddjaaDoor
