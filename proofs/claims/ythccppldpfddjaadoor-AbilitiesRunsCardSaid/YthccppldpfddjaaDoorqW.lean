/- The reference's Child (23). -/
import Derived.Test.YthccppldpfddjaaDoorqT
import Derived.Test.YthccppldpfddjaaDoorC3
import Derived.Test.YthccppldpfddjaaDoorD6
namespace Go.Proofs.YthccppldpfddjaaDoor
open Go.RowKit
set_option linter.unusedVariables false
def keptR (r : Rt) : Bool := r.lk || r.inh
/-- What the loop of the reference's Child keeps. -/
structure RD (w : World) (S : St) (k : Nat) (W : World) : Prop where
  bel : Below w.heap.size w W
  tab : ∃ lv, RArr 64 109 116 W w.heap.size lv (derS keptR S k)
theorem RD.below {w : World} {S : St} {k : Nat} {A B : World} (h : RD w S k A) (hb : Below A.heap.size A B) : RD w S k B := ⟨h.bel.trans (hb.mono h.bel.size), h.tab.imp fun _ h => h.below hb⟩
theorem RD.store {w : World} {S : St} {k : Nat} {A : World} (h : RD w S k A) (hk : k < 64) (hp : keptR (S k) = true) {v : Value} (hv : Ls A 116 v (S k).rs) :
    RD w S (k + 1) (set3 A w.heap.size (k * 3) v (.bool (S k).lk) (.bool (S k).inh)) := by
  obtain ⟨lv', h1⟩ := h.tab
  refine ⟨h.bel.trans (set3_below _ _ _ _ (Nat.le_refl _)), upd lv' k v, ?_⟩
  rw [← derS_set hp]
  exact h1.store (by decide) hk hv
theorem RD.skip {w : World} {S : St} {k : Nat} {A : World} (h : RD w S k A) (hp : keptR (S k) = false) : RD w S (k + 1) A := ⟨h.bel, by rw [derS_skip hp]; exact h.tab⟩
set_option maxHeartbeats 8000000 in
set_option maxRecDepth 100000 in
theorem rchild_calls (b : Nat) (lv : Nat → Value) (S : St) (w : World) (h : RArr 64 109 116 w b lv S) :
    Calls Tryd.prog 23 #[.pointer (some ⟨b, 0, none⟩)] w fun e w' => ∃ cb, e = .returned (.pointer (some ⟨cb, 0, none⟩)) ∧ w.heap.size ≤ cb ∧ (∃ lv', RArr 64 109 116 w' cb lv' (childS S)) ∧ Below w.heap.size w w' := by
  have HA := Lib.hid h
  clear h
  go_enter Tryd.func23, Tryd.ntmps23
  go_wp2_with (go_at_call 16; refine (rnew_calls w).mono ?_; rintro e w1 ⟨rfl, ⟨lv1, h1⟩, h2⟩; have H1 := Lib.hid (RD.mk (S := S) (k := 0) h2 ⟨lv1, h1.congr (fun i _ => by simp [derS])⟩); clear h1 h2)
  go_loopw [4] (fun i wr => ∃ d : Nat, d ≤ 2 ∧ i = .int .i64 d ∧ Hid (RD w S (d * 32) wr)) (fun i _ => 2 - (intOf i).toNat)
  case atStart => exact ⟨0, by omega, rfl, H1⟩
  case round =>
    clear H1
    obtain ⟨d, hd, rfl, HJ⟩ := hrel
    by_cases hlt : d < 2
    · have hlt' : (d : Int) < 2 := by omega
      go_wp2
      go_loopw [5] (fun i wr => ∃ j : Nat, j ≤ 32 ∧ i = .int .i64 j ∧ Hid (RD w S (d * 32 + j) wr)) (fun i _ => 32 - (intOf i).toNat)
      case atStart => exact ⟨0, by omega, rfl, HJ⟩
      case round =>
        clear HJ
        obtain ⟨j, hj, rfl, HI⟩ := hrel
        by_cases hjl : j < 32
        · have hjl' : (j : Int) < 32 := by omega
          have hi : d * 32 + j < 64 := by omega
          have ho : (d * 32 + j) * 3 = d * 96 + j * 3 := by omega
          have hr := HA.out.below HI.out.bel
          obtain ⟨A1, c1, hv1, -, -, -, -⟩ := Rw.form (hr.row _ hi)
          obtain ⟨q0, q1, q2⟩ := hr.three hi
          have q3 := hr.row _ hi
          rw [hv1] at q0 q3
          rw [ho] at q0 q1 q2
          have HL := Lib.hid q3
          have HK := Lib.hid (And.intro hi ho)
          have HSt := Lib.hid (fun A (hA : RD w S (d * 32 + j) A) hp (hv : Ls A 116 (.slice A1 (S (d * 32 + j)).rs.length c1) (S (d * 32 + j)).rs) => RD.store hA hi hp hv)
          have HSk := Lib.hid (fun A (hA : RD w S (d * 32 + j) A) hp => RD.skip hA hp)
          rw [ho] at HSt
          clear hr hv1 q3 ho
          generalize S (d * 32 + j) = r at *
          obtain ⟨rs, lk, inh⟩ := r
          simp only at q0 q1 q2 HL HSt
          by_cases hk : keptR ⟨rs, lk, inh⟩ = true
          · have HKp := Lib.hid hk
            have hkk : lk = true ∨ (lk = false ∧ inh = true) := by unfold keptR at hk; cases lk <;> simp_all
            clear hk
            have HW := Lib.hid (And.intro (HI.out.below ((Below.refl wr.heap.size wr).alloc (Nat.le_refl _) (.cells #[.slice A1 rs.length c1, .bool lk, .bool inh] 105))) (And.intro (Ls.below HL.out ((Below.refl wr.heap.size wr).alloc (Nat.le_refl _) (.cells #[.slice A1 rs.length c1, .bool lk, .bool inh] 105))) (heap_alloc_new wr (.cells #[.slice A1 rs.length c1, .bool lk, .bool inh] 105))))
            rcases hkk with rfl | ⟨rfl, rfl⟩
            · go_wp2
              generalize wr.alloc (.cells #[.slice A1 rs.length c1, .bool true, .bool inh] 105) = W3 at *
              obtain ⟨n0, n1, n2⟩ := cells_three HW.out.2.2
              obtain ⟨lv7, hr7⟩ := HW.out.1.tab
              obtain ⟨j0, j1, j2⟩ := hr7.three HK.out.1
              have f0 := hr7.frozen (d * 96 + j * 3)
              have f1 := hr7.frozen (d * 96 + j * 3 + 1)
              have f2 := hr7.frozen (d * 96 + j * 3 + 2)
              rw [HK.out.2] at j0 j1 j2
              clear hr7 q0 q1 q2
              have HN := Lib.hid (HSt.out _ (HW.out.1.below (Below.drew (Below.refl _ _))) HKp.out (Ls.below HW.out.2.1 (Below.drew (Below.refl _ _))))
              go_still_tail 8, (by kernel_rfl)
              change wpList _ _ _ _ _ W3.drew
              go_wp2
              go_roundw
              case rel => exact ⟨j + 1, by omega, by go_num, HN⟩
              case measure => simp [intOf]; omega
            · go_wp2
              generalize wr.alloc (.cells #[.slice A1 rs.length c1, .bool false, .bool true] 105) = W3 at *
              obtain ⟨n0, n1, n2⟩ := cells_three HW.out.2.2
              obtain ⟨lv7, hr7⟩ := HW.out.1.tab
              obtain ⟨j0, j1, j2⟩ := hr7.three HK.out.1
              have f0 := hr7.frozen (d * 96 + j * 3)
              have f1 := hr7.frozen (d * 96 + j * 3 + 1)
              have f2 := hr7.frozen (d * 96 + j * 3 + 2)
              rw [HK.out.2] at j0 j1 j2
              clear hr7 q0 q1 q2
              have HN := Lib.hid (HSt.out _ (HW.out.1.below (Below.drew (Below.refl _ _))) HKp.out (Ls.below HW.out.2.1 (Below.drew (Below.refl _ _))))
              go_still_tail 8, (by kernel_rfl)
              change wpList _ _ _ _ _ W3.drew
              go_wp2
              go_roundw
              case rel => exact ⟨j + 1, by omega, by go_num, HN⟩
              case measure => simp [intOf]; omega
          · have hkf : keptR ⟨rs, lk, inh⟩ = false := by simpa using hk
            have HKp := Lib.hid hkf
            have hkk : lk = false ∧ inh = false := by unfold keptR at hkf; simpa using hkf
            clear hk hkf
            obtain ⟨rfl, rfl⟩ := hkk
            have HW := Lib.hid (HSk.out _ (HI.out.below ((Below.refl wr.heap.size wr).alloc (Nat.le_refl _) (.cells #[.slice A1 rs.length c1, .bool false, .bool false] 105))) HKp.out)
            go_wp2
            go_roundw
            case rel => exact ⟨j + 1, by omega, by go_num, HW⟩
            case measure => simp [intOf]; omega
        · obtain rfl : j = 32 := by omega
          go_wp2
          go_roundw
          case rel => exact ⟨d + 1, by omega, by go_num, Lib.hid (by rw [show (d + 1) * 32 = d * 32 + 32 by omega]; exact HI.out)⟩
          case measure => simp [intOf]; omega
    · obtain rfl : d = 2 := by omega
      go_wp2
      go_ret
      exact ⟨_, rfl, Nat.le_refl _, HJ.out.tab.imp fun _ h => h.congr (fun i hi => by simp [derS, childS, keptR, hi]), HJ.out.bel⟩
end Go.Proofs.YthccppldpfddjaaDoor
namespace Go.Proofs.YthccppldpfddjaaDoor
open Go.RowKit
set_option linter.unusedVariables false
set_option maxHeartbeats 2000000 in
set_option maxRecDepth 100000 in
/-- Right (14), within its bounds. -/
theorem right_calls (b d a : Nat) (lv : Nat → Value) (S : St) (w : World) (h : RArr 64 77 43 w b lv S) (hS : StOk S) (hd : d < 2) (ha : a < 32) :
    Calls Tryd.prog 14 #[.pointer (some ⟨b, 0, none⟩), .int .i64 d, .int .i64 a] w fun e w' => ∃ v, e = .returned (.tuple #[.agg (rv v (S (d * 32 + a))), .int .i64 0]) ∧ Ls w' 43 v (S (d * 32 + a)).rs ∧ Below w.heap.size w w' := by
  have HV := Lib.hid (valid_calls (d : Int) (a : Int))
  rw [show (decide (0 ≤ (d : Int) ∧ (d : Int) ≤ 1 ∧ 0 ≤ (a : Int) ∧ (a : Int) < 32)) = true by simp; omega] at HV
  have hb0 : Below w.heap.size w (w.alloc (.cells #[.slice none 0 0, .bool false, .bool false] 38)) := (Below.refl _ w).alloc (Nat.le_refl _) _
  have HA := Lib.hid (And.intro h (And.intro hS hb0))
  have hi : d * 32 + a < 64 := by omega
  obtain ⟨A1, c1, hv1, -, -, -, -⟩ := Rw.form (h.row _ hi)
  have HF := Lib.hid (show ∀ w', Below (w.heap.size + 1) (w.alloc (.cells #[.slice none 0 0, .bool false, .bool false] 38)) w' → (w'.cell? ⟨b, d * 96 + a * 3, none⟩ = some (.slice A1 (S (d * 32 + a)).rs.length c1) ∧ w'.cell? ⟨b, d * 96 + a * 3 + 1, none⟩ = some (.bool (S (d * 32 + a)).lk) ∧ w'.cell? ⟨b, d * 96 + a * 3 + 2, none⟩ = some (.bool (S (d * 32 + a)).inh)) ∧
      (w'.cell? ⟨w.heap.size, 0, none⟩ = some (.slice none 0 0) ∧ w'.cell? ⟨w.heap.size, 1, none⟩ = some (.bool false) ∧ w'.cell? ⟨w.heap.size, 2, none⟩ = some (.bool false)) ∧ w'.frozen? ⟨w.heap.size, 0, none⟩ = false ∧ w'.frozen? ⟨w.heap.size, 1, none⟩ = false ∧ w'.frozen? ⟨w.heap.size, 2, none⟩ = false ∧ w'.heap[w.heap.size]? = some (.cells #[.slice none 0 0, .bool false, .bool false] 38 (0, 0)) from fun w' hw => by
    have e0 := (hw.block w.heap.size (by omega)).trans (heap_alloc_new w (.cells #[.slice none 0 0, .bool false, .bool false] 38))
    have hw0 : Below w.heap.size w w' := hb0.trans (hw.mono (by omega))
    obtain ⟨q0, q1, q2⟩ := (h.below hw0).three hi
    rw [hv1] at q0
    rw [show (d * 32 + a) * 3 = d * 96 + a * 3 by omega] at q0 q1 q2
    exact ⟨⟨q0, q1, q2⟩, ⟨by rw [cell_of_row _ _ _ _ _ _ e0]; rfl, by rw [cell_of_row _ _ _ _ _ _ e0]; rfl, by rw [cell_of_row _ _ _ _ _ _ e0]; rfl⟩, frozen_of_row _ _ _ _ _ e0, frozen_of_row _ _ _ _ _ e0, frozen_of_row _ _ _ _ _ e0, e0⟩)
  have HCP := Lib.hid (fun W' (hW : Below w.heap.size w W') => copied_calls (S (d * 32 + a)) (lv (d * 32 + a)) W' ((h.row _ hi).below hW) (by have := (hS _ hi).2; omega))
  unfold rv at HCP ⊢
  rw [hv1] at HCP
  have hdi : (d : Int) < 2 := by omega
  have hai : (a : Int) < 32 := by omega
  generalize S (d * 32 + a) = r at *
  clear h hS hb0 hi hv1 hd ha
  go_enter Tryd.func14, Tryd.ntmps14
  go_wp2_with (first
    | (go_at_call 46; refine (HV.out _).mono ?_; rintro e w1 ⟨rfl, h1⟩; have HB1 := Lib.hid (show Below (w.heap.size + 1) (w.alloc (.cells #[.slice none 0 0, .bool false, .bool false] 38)) w1 from by simpa using h1); obtain ⟨⟨q0, q1, q2⟩, -⟩ := HF.out w1 HB1.out; clear h1)
    | (go_at_call 47; refine (HCP.out _ (HA.out.2.2.trans (HB1.out.mono (by omega)))).mono ?_; rintro e w2 ⟨v2, rfl, h1, h2⟩; obtain ⟨A2, c2, rfl, -, -, -, -⟩ := Rw.form h1; have HB2 := Lib.hid (HB1.out.trans (h2.mono (by have := HB1.out.size; simpa using this))); obtain ⟨-, ⟨z0, z1, z2⟩, y0, y1, y2, y3⟩ := HF.out w2 HB2.out; have HX := Lib.hid (And.intro h1 y3); clear h1 h2 y3))
  have e1 := set3_row HX.out.2 0 (.slice A2 r.rs.length c2) (.bool r.lk) (.bool r.inh)
  have hbel : Below w.heap.size w (set3 w2 w.heap.size 0 (.slice A2 r.rs.length c2) (.bool r.lk) (.bool r.inh)) := (HA.out.2.2.trans (HB2.out.mono (by omega))).trans (set3_below _ _ _ _ (Nat.le_refl _))
  refine bodyPost_ret (v := .tuple #[.agg #[.slice A2 r.rs.length c2, .bool r.lk, .bool r.inh], .int .i64 0]) ?_ rfl ⟨_, rfl, HX.out.1.set3 HX.out.2 (by decide) 0 _ _ _, hbel⟩
  rw [results_cell_tmp rfl]
  have hl := run_loadVar_row (P := Tryd.prog) _ w.heap.size 38 38 _ (0, 0) _ e1 Tryd.underlying38 rfl size38
  unfold set3 at hl
  simp [asAddr, hl, Result.andThen]
end Go.Proofs.YthccppldpfddjaaDoor
namespace Go.Proofs.YthccppldpfddjaaDoor
open Go.RowKit
set_option linter.unusedVariables false
set_option maxHeartbeats 8000000 in
set_option maxRecDepth 100000 in
theorem alike_calls (b c : Nat) (lv lu : Nat → Value) (S : St) (w : World) (h : RArr 64 77 43 w b lv S) (hu : RArr 64 109 116 w c lu S) (hS : StOk S) :
    Calls Tryd.prog 24 #[.pointer (some ⟨b, 0, none⟩), .pointer (some ⟨c, 0, none⟩)] w fun e w' => e = .returned (.bool true) ∧ Below w.heap.size w w' := by
  have HA := Lib.hid (And.intro h (And.intro hu hS))
  clear h hu hS
  go_enter Tryd.func24, Tryd.ntmps24
  go_wp2
  go_loopw [5] (fun i wr => ∃ d : Nat, d ≤ 2 ∧ i = .int .i64 d ∧ Hid (Below w.heap.size w wr)) (fun i _ => 2 - (intOf i).toNat)
  case atStart => exact ⟨0, by omega, rfl, Lib.hid (Below.refl _ _)⟩
  case round =>
    obtain ⟨d, hd, rfl, HB⟩ := hrel
    by_cases hlt : d < 2
    · have hlt' : (d : Int) < 2 := by omega
      go_wp2
      go_loopw [6] (fun i wr => ∃ j : Nat, j ≤ 32 ∧ i = .int .i64 j ∧ Hid (Below w.heap.size w wr)) (fun i _ => 32 - (intOf i).toNat)
      case atStart => exact ⟨0, by omega, rfl, HB⟩
      case round =>
        clear HB
        obtain ⟨j, hj, rfl, HB⟩ := hrel
        by_cases hjl : j < 32
        · have hjl' : (j : Int) < 32 := by omega
          have hi : d * 32 + j < 64 := by omega
          have HR := Lib.hid (right_calls b d j lv S wr (HA.out.1.below HB.out) HA.out.2.2 hlt hjl)
          have hs := HA.out.2.1.below HB.out
          obtain ⟨B1, e1, hu1, -, -, -, -⟩ := Rw.form (hs.row _ hi)
          have HZ := Lib.hid (show ∀ W, Below wr.heap.size wr W → W.cell? ⟨c, d * 96 + j * 3, none⟩ = some (.slice B1 (S (d * 32 + j)).rs.length e1) ∧ W.cell? ⟨c, d * 96 + j * 3 + 1, none⟩ = some (.bool (S (d * 32 + j)).lk) ∧ W.cell? ⟨c, d * 96 + j * 3 + 2, none⟩ = some (.bool (S (d * 32 + j)).inh) ∧ Ls W 116 (.slice B1 (S (d * 32 + j)).rs.length e1) (S (d * 32 + j)).rs from fun W hW => by
            obtain ⟨z0, z1, z2⟩ := (hs.below hW).three hi
            have z3 := (hs.below hW).row _ hi
            rw [hu1] at z0 z3
            rw [show (d * 32 + j) * 3 = d * 96 + j * 3 by omega] at z0 z1 z2
            exact ⟨z0, z1, z2, z3⟩)
          have HL := Lib.hid (HA.out.2.2 _ hi).2
          unfold rv at HR
          clear hs hu1
          generalize S (d * 32 + j) = r at HR HZ HL
          obtain ⟨rs, lk, inh⟩ := r
          simp only at HR HZ HL
          have b1 : (inh != inh) = false := by simp
          have b2 : (lk != lk) = false := by simp
          have b3 : ((rs.length : Int) != (rs.length : Int)) = false := by simp
          go_wp2_with (go_at_call 14; refine HR.out.mono ?_; rintro e w5 ⟨v5, rfl, h1, h2⟩; obtain ⟨A5, c5, rfl, -, -, -, -⟩ := Rw.form h1; have hb5 := h2.alloc h2.size (.cells #[.slice A5 rs.length c5, .bool lk, .bool inh] 38); obtain ⟨z0, z1, z2, -⟩ := HZ.out _ hb5; have H5 := Lib.hid (And.intro h1 (And.intro h2 (And.intro (((Below.refl w5.heap.size w5).alloc (Nat.le_refl _) (.cells #[.slice A5 rs.length c5, .bool lk, .bool inh] 38)).alloc (by simp) (.cells #[.slice B1 rs.length e1, .bool lk, .bool inh] 105)) (And.intro ((Below.heap_alloc (w5.alloc (.cells #[.slice A5 rs.length c5, .bool lk, .bool inh] 38)) (.cells #[.slice B1 rs.length e1, .bool lk, .bool inh] 105) _ (by simp)).trans (heap_alloc_new w5 (.cells #[.slice A5 rs.length c5, .bool lk, .bool inh] 38))) (heap_alloc_new (w5.alloc (.cells #[.slice A5 rs.length c5, .bool lk, .bool inh] 38)) (.cells #[.slice B1 rs.length e1, .bool lk, .bool inh] 105)))))); clear h1 h2 hb5)
          have HN := Lib.hid neq43
          obtain ⟨W7, hW7⟩ : ∃ W7, W7 = (w5.alloc (.cells #[.slice A5 rs.length c5, .bool lk, .bool inh] 38)).alloc (.cells #[.slice B1 rs.length e1, .bool lk, .bool inh] 105) := ⟨_, rfl⟩
          have H7 := Lib.hid (show Below wr.heap.size wr W7 ∧ Ls W7 43 (.slice A5 rs.length c5) rs ∧ W7.heap[w5.heap.size + 1]? = some (.cells #[.slice B1 rs.length e1, .bool lk, .bool inh] 105 (0, 0)) from by
            rw [hW7]
            have h9 := H5.out.2.2.2.2
            rw [World.size_alloc] at h9
            exact ⟨H5.out.2.1.trans (H5.out.2.2.1.mono H5.out.2.1.size), H5.out.1.below H5.out.2.2.1, h9⟩)
          rw [← hW7]
          clear hW7 H5 HR z0 z1 z2
          go_loopw [65] (fun i wr => ∃ m : Nat, m ≤ rs.length ∧ i = .int .i64 m ∧ Hid (Below W7.heap.size W7 wr)) (fun i _ => rs.length - (intOf i).toNat)
          case atStart => exact ⟨0, by omega, rfl, Lib.hid (Below.refl _ _)⟩
          case round =>
            obtain ⟨m, hm, rfl, HB8⟩ := hrel
            have HB7 := Lib.hid (H7.out.1.trans (HB8.out.mono H7.out.1.size))
            by_cases hlt5 : m < rs.length
            · have hlt5' : (m : Int) < (rs.length : Int) := by omega
              have hm6 : (m : Int) ≤ 50 := by have := HL.out; omega
              obtain ⟨g3, rfl, hg3, q1, q2⟩ := Ls.at (H7.out.2.1.below HB8.out) rfl hlt5
              have HP := Lib.hid (show ∀ W, Below wr.heap.size wr W → ∃ g4, B1 = some ⟨g4, 0, none⟩ ∧ W.cell? ⟨g4, m * 2, none⟩ = some (.int .i64 rs[m].1) ∧ W.cell? ⟨g4, m * 2 + 1, none⟩ = some (.int .i64 rs[m].2) ∧ W.cell? ⟨w5.heap.size + 1, 0, none⟩ = some (.slice B1 rs.length e1) from fun W hW => by
                obtain ⟨-, -, -, hz⟩ := HZ.out _ (HB7.out.trans (hW.mono HB7.out.size))
                obtain ⟨g4, h4, hg4, p1, p2⟩ := Ls.at hz rfl hlt5
                obtain ⟨x0, -, -⟩ := cells_three (((HB8.out.trans (hW.mono HB8.out.size)).block _ (Array.getElem?_eq_some_iff.1 H7.out.2.2).1).trans H7.out.2.2)
                exact ⟨g4, h4, p1, p2, x0⟩)
              have hneq := fun w => HN.out rs[m].1 rs[m].2 rs[m].1 rs[m].2 w
              generalize rs[m] = r at *
              obtain ⟨r1, r2⟩ := r
              simp only [beq_self_eq_true, Bool.and_self, Bool.not_true] at q1 q2 hneq HP
              go_wp2
              have HB9 := Lib.hid ((Below.refl wr.heap.size wr).alloc (Nat.le_refl _) (.cells #[.int .i64 r1, .int .i64 r2] 43))
              obtain ⟨y0, y1⟩ := rtwo_cells (heap_alloc_new wr (.cells #[.int .i64 r1, .int .i64 r2] 43))
              obtain ⟨g4, rfl, p1, p2, p3⟩ := HP.out _ HB9.out
              clear q1 q2
              generalize wr.alloc (.cells #[.int .i64 r1, .int .i64 r2] 43) = W9 at *
              go_quiet (fail)
              go_wp2
              go_roundw
              case rel => exact ⟨m + 1, by omega, by go_num, Lib.hid (below_dQ (HB8.out.trans (HB9.out.mono HB8.out.size)) nq)⟩
              case measure => simp [intOf]; omega
            · obtain rfl : m = rs.length := by omega
              go_wp2
              go_roundw
              case rel => exact ⟨j + 1, by omega, by go_num, Lib.hid (HB.out.trans (HB7.out.mono HB.out.size))⟩
              case measure => simp [intOf]; omega
        · obtain rfl : j = 32 := by omega
          go_wp2
          go_roundw
          case rel => exact ⟨d + 1, by omega, by go_num, HB⟩
          case measure => simp [intOf]; omega
    · obtain rfl : d = 2 := by omega
      go_wp2
      go_ret
      exact ⟨rfl, HB.out⟩
end Go.Proofs.YthccppldpfddjaaDoor
namespace Go.Proofs.YthccppldpfddjaaDoor
open Go.RowKit
set_option linter.unusedVariables false
structure ActR where
  dk : Int
  ops : List OpA
  dom : Int
  ab : Int
  val : Int
/-- A slice of acts on rights, wherever it lies. -/
def ActsR (w : World) (v : Value) (l : List ActR) : Prop := ∃ A cap, v = .slice A l.length cap ∧ ∀ k a, l[k]? = some a → ∃ b off u, A = some ⟨b, off, none⟩ ∧ Ops w u a.ops ∧ w.cell? ⟨b, off + k * 5, none⟩ = some (.int .u8 a.dk) ∧ w.cell? ⟨b, off + k * 5 + 1, none⟩ = some u ∧
  w.cell? ⟨b, off + k * 5 + 2, none⟩ = some (.int .i64 a.dom) ∧ w.cell? ⟨b, off + k * 5 + 3, none⟩ = some (.int .i64 a.ab) ∧ w.cell? ⟨b, off + k * 5 + 4, none⟩ = some (.int .i64 a.val)
theorem ActsR.at {w W : World} {v : Value} {l : List ActR} (h : ActsR w v l) (hb : Below w.heap.size w W) {A : Option Addr} {n c : Nat} (hv : v = .slice A n c) {k : Nat} (hk : k < l.length) :
    ∃ g off A2 c2, A = some ⟨g, off, none⟩ ∧ Ops w (.slice A2 l[k].ops.length c2) l[k].ops ∧ W.cell? ⟨g, off + k * 5, none⟩ = some (.int .u8 l[k].dk) ∧ W.cell? ⟨g, off + k * 5 + 1, none⟩ = some (.slice A2 l[k].ops.length c2) ∧
      W.cell? ⟨g, off + k * 5 + 2, none⟩ = some (.int .i64 l[k].dom) ∧ W.cell? ⟨g, off + k * 5 + 3, none⟩ = some (.int .i64 l[k].ab) ∧ W.cell? ⟨g, off + k * 5 + 4, none⟩ = some (.int .i64 l[k].val) := by
  subst hv
  obtain ⟨A', cap, hv, hc⟩ := h
  cases hv
  obtain ⟨b, off, u, rfl, h0, h1, h2, h3, h4, h5⟩ := hc k l[k] (List.getElem?_eq_getElem hk)
  obtain ⟨A2, c2, rfl, h6⟩ := id h0
  have hlt : b < w.heap.size := World.block_lt_of_cell? w _ h1
  have hcell : ∀ i u, w.cell? ⟨b, i, none⟩ = some u → W.cell? ⟨b, i, none⟩ = some u := fun i u h => (Below.cell hb (p := ⟨b, i, none⟩) hlt).trans h
  exact ⟨b, off, A2, c2, rfl, h0, hcell _ _ h1, hcell _ _ h2, hcell _ _ h3, hcell _ _ h4, hcell _ _ h5⟩
/-- The program's set and the reference's: the same rights. -/
structure VR (w : World) (b c : Nat) (S : St) (W : World) : Prop where
  bel : Below w.heap.size w W
  s : ∃ lv, RArr 64 77 43 W b lv S
  r : ∃ lv, RArr 64 109 116 W c lv S
  ok : StOk S
  ge : w.heap.size ≤ b ∧ w.heap.size ≤ c
theorem VR.below {w : World} {b c : Nat} {S : St} {W W' : World} (h : VR w b c S W) (hb : Below W.heap.size W W') : VR w b c S W' :=
  ⟨h.bel.trans (hb.mono h.bel.size), h.s.imp fun _ h => h.below hb, h.r.imp fun _ h => h.below hb, h.ok, h.ge⟩
theorem rheap_ne {w : World} {a b : Nat} {cs ds : Array Value} {T U : TypeId} (h1 : w.heap[a]? = some (.cells cs T (0, 0))) (h2 : w.heap[b]? = some (.cells ds U (0, 0))) (h : T ≠ U) : a ≠ b := by
  rintro rfl
  rw [h1] at h2
  cases h2
  exact h rfl
/-- The program's set is changed; the reference's is still the old one. -/
structure VH (w : World) (b c : Nat) (S S' : St) (W : World) : Prop where
  bel : Below w.heap.size w W
  s : ∃ lv, RArr 64 77 43 W b lv S'
  r : ∃ lv, RArr 64 109 116 W c lv S
  ge : w.heap.size ≤ b ∧ w.heap.size ≤ c
theorem VR.half {w : World} {b c : Nat} {S S' : St} {W W' : World} {lv : Nat → Value} (h : VR w b c S W) (hr : RArr 64 77 43 W' b lv S') (hg : W.grownBy W' (some b)) : VH w b c S S' W' := by
  obtain ⟨l1, h1⟩ := h.s
  obtain ⟨l2, h2⟩ := h.r
  obtain ⟨cs, hc, -, -⟩ := h1.tab
  obtain ⟨ds, hd, -, -⟩ := h2.tab
  exact ⟨h.bel.grown hg h.bel.size (fun k hk => by cases hk; exact h.ge.1), ⟨_, hr⟩, ⟨_, h2.other hc (rheap_ne hc hd (by decide)) (by decide) fun k hk hne => hg.block k hk (by simpa using hne)⟩, h.ge⟩
theorem VH.whole {w : World} {b c : Nat} {S S' : St} {W W' : World} {lv : Nat → Value} (h : VH w b c S S' W) (hS : StOk S') (hr : RArr 64 109 116 W' c lv S') (hg : W.grownBy W' (some c)) : VR w b c S' W' := by
  obtain ⟨l1, h1⟩ := h.s
  obtain ⟨l2, h2⟩ := h.r
  obtain ⟨cs, hc, -, -⟩ := h1.tab
  obtain ⟨ds, hd, -, -⟩ := h2.tab
  exact ⟨h.bel.grown hg h.bel.size (fun k hk => by cases hk; exact h.ge.2), ⟨_, h1.other hd (rheap_ne hd hc (by decide)) (by decide) fun k hk hne => hg.block k hk (by simpa using hne)⟩, ⟨_, hr⟩, hS, h.ge⟩
/-- A block of another type is left by what changes a set. -/
theorem keep_other {W W' : World} {b x : Nat} {cs ds : Array Value} {T U : TypeId} (h1 : W.heap[b]? = some (.cells cs T (0, 0))) (h2 : W.heap[x]? = some (.cells ds U (0, 0))) (h : T ≠ U) (hg : W.grownBy W' (some b)) : W'.heap[x]? = W.heap[x]? :=
  hg.block x (Array.getElem?_eq_some_iff.1 h2).1 (by have := rheap_ne h1 h2 h; simp; omega)
theorem VR.child {w : World} {b c b' c' : Nat} {S : St} {W W1 W2 : World} {lv lu : Nat → Value} (h : VR w b c S W) (h1 : RArr 64 77 43 W1 b' lv (childS S)) (g1 : W.heap.size ≤ b') (k1 : Below W.heap.size W W1) (h2 : RArr 64 109 116 W2 c' lu (childS S)) (g2 : W1.heap.size ≤ c') (k2 : Below W1.heap.size W1 W2) : VR w b' c' (childS S) W2 := by
  have s0 := h.bel.size
  have s1 := k1.size
  exact ⟨h.bel.trans ((k1.trans (k2.mono s1)).mono s0), ⟨_, h1.below k2⟩, ⟨_, h2⟩, childS_ok h.ok, by omega, by omega⟩
theorem codeS_state (S : St) (o : OpA) : codeS S o ≠ 35 := by
  unfold codeS checkS
  repeat' split
  all_goals decide
theorem applyC_state (S : St) (o : OpA) : applyC S [o] ≠ 35 := by
  unfold applyC runC
  rw [if_neg (by simp)]
  split
  · simp [runC]
  · exact codeS_state S o
theorem applyC_state2 (S : St) (o : OpA) : (applyC S [o] == 35) = false := by
  simpa using applyC_state S o
set_option maxHeartbeats 2000000 in
set_option maxRecDepth 100000 in
/-- Right (14), for any numbers: the value where it does not matter. -/
theorem right_any (b : Nat) (d a : Int) (lv : Nat → Value) (S : St) (w : World) (h : RArr 64 77 43 w b lv S) (hS : StOk S) :
    Calls Tryd.prog 14 #[.pointer (some ⟨b, 0, none⟩), .int .i64 d, .int .i64 a] w fun e w' => ∃ A n c lk inh, e = .returned (.tuple #[.agg #[.slice A n c, .bool lk, .bool inh], .int .i64 (if 0 ≤ d ∧ d ≤ 1 ∧ 0 ≤ a ∧ a < 32 then 0 else 34)]) ∧ Below w.heap.size w w' := by
  by_cases hv : 0 ≤ d ∧ d ≤ 1 ∧ 0 ≤ a ∧ a < 32
  · rw [if_pos hv]
    obtain ⟨h1, h2, h3, h4⟩ := hv
    obtain ⟨d, rfl⟩ := Int.eq_ofNat_of_zero_le h1
    obtain ⟨a, rfl⟩ := Int.eq_ofNat_of_zero_le h3
    refine (right_calls b d a lv S w h hS (by omega) (by omega)).mono ?_
    rintro e w' ⟨v, rfl, hl, hb⟩
    obtain ⟨A, c, rfl, -, -, -, -⟩ := Rw.form hl
    exact ⟨_, _, _, _, _, rfl, hb⟩
  · rw [if_neg hv]
    have HV := Lib.hid (valid_calls d a)
    rw [decide_eq_false hv] at HV
    have HB0 := Lib.hid ((Below.refl w.heap.size w).alloc (Nat.le_refl _) (.cells #[.slice none 0 0, .bool false, .bool false] 38))
    have HX0 := Lib.hid (heap_alloc_new w (.cells #[.slice none 0 0, .bool false, .bool false] 38))
    clear h hS hv
    go_enter Tryd.func14, Tryd.ntmps14
    go_wp2_with (go_at_call 46; refine (HV.out _).mono ?_; rintro e w1 ⟨rfl, h1⟩; have HB1 := Lib.hid (And.intro (HB0.out.trans (h1.mono HB0.out.size)) ((h1.block _ (by simp)).trans HX0.out)); obtain ⟨z0, z1, z2⟩ := cells_three HB1.out.2; obtain ⟨f0, f1, f2⟩ := frozen_three HB1.out.2; clear h1)
    have e1 := set3_row HB1.out.2 0 (.slice none 0 0) (.bool false) (.bool false)
    refine bodyPost_ret (v := .tuple #[.agg #[.slice none 0 0, .bool false, .bool false], .int .i64 34]) ?_ rfl ⟨_, _, _, _, _, rfl, HB1.out.1.trans (set3_below _ _ _ _ (Nat.le_refl _))⟩
    rw [results_cell_tmp rfl]
    have hl := run_loadVar_row (P := Tryd.prog) _ w.heap.size 38 38 _ (0, 0) _ e1 Tryd.underlying38 rfl size38
    unfold set3 at hl
    simp [asAddr, hl, Result.andThen]
end Go.Proofs.YthccppldpfddjaaDoor
