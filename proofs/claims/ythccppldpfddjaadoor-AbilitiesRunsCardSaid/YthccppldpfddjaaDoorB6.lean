/- Rights compared (equal, 39). -/
import Derived.Test.YthccppldpfddjaaDoorB5
namespace Go.Proofs.YthccppldpfddjaaDoor
open Go.RowKit
set_option linter.unusedVariables false
set_option maxHeartbeats 2000000 in
set_option maxRecDepth 100000 in
theorem equal_calls (v u : Value) (r s : Rt) (w : World) (hv : Ls w 43 v r.rs) (hu : Ls w 43 u s.rs) (hl : r.rs.length ≤ 1000000) :
    Calls Tryd.prog 39 #[.agg (rv v r), .agg (rv u s)] w fun e w' => e = .returned (.bool (r.eqb s)) ∧ Below w.heap.size w w' := by
  obtain ⟨A, cap, rfl, -, -, -, -⟩ := Rw.form hv
  obtain ⟨B, cbp, rfl, -, -, -, -⟩ := Rw.form hu
  have HS := Lib.hid (fun W (hW : Below w.heap.size w W) => sliceseq_calls _ _ _ _ W (hv.below hW) (hu.below hW) hl)
  have hbb := ((Below.refl w.heap.size w).alloc (Nat.le_refl _) (.cells (rv (.slice A r.rs.length cap) r) 38)).alloc (by simp) (.cells (rv (.slice B s.rs.length cbp) s) 38)
  unfold rv at hbb ⊢
  have HB := Lib.hid hbb
  clear hv hu hl hbb
  obtain ⟨rs, l1, i1⟩ := r
  obtain ⟨ss, l2, i2⟩ := s
  unfold Rt.eqb
  simp only at HS HB ⊢
  by_cases h1 : l1 = l2
  · subst h1
    by_cases h2 : i1 = i2
    · subst h2
      cases l1 <;> cases i1 <;>
      (go_enter Tryd.func39, Tryd.ntmps39
       go_wp2_with (go_at_call 63; refine (HS.out _ HB.out).mono ?_; rintro e w1 ⟨rfl, h2⟩; have HB1 := Lib.hid (HB.out.trans (h2.mono HB.out.size)); clear h2)
       go_ret
       exact ⟨by simp, HB1.out⟩)
    · cases l1 <;> cases i1 <;> cases i2 <;> first | exact absurd rfl h2 | skip
      all_goals
       (go_enter Tryd.func39, Tryd.ntmps39
        go_wp2
        go_ret
        exact ⟨by simp, HB.out⟩)
  · cases l1 <;> cases l2 <;> first | exact absurd rfl h1 | skip
    all_goals
      (go_enter Tryd.func39, Tryd.ntmps39
       go_wp2
       go_ret
       exact ⟨by simp, HB.out⟩)
end Go.Proofs.YthccppldpfddjaaDoor
