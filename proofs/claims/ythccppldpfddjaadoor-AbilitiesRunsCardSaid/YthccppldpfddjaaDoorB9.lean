/- rights.apply for any operation. -/
import Derived.Test.YthccppldpfddjaaDoorB8
namespace Go.Proofs.YthccppldpfddjaaDoor
open Go.RowKit
set_option linter.unusedVariables false
set_option maxHeartbeats 4000000 in
set_option maxRecDepth 100000 in
theorem apply_calls (o : OpA) (b : Nat) (lv : Nat → Value) (S : St) (w : World) (hE : EffAt w) (h : RArr 64 77 43 w b lv S) (hS : StOk S) :
    Calls Tryd.prog 37 #[.pointer (some ⟨b, 0, none⟩), .agg (opA o)] w fun e w' => e = .returned (.int .i64 (codeS S o)) ∧ ∃ lv', RArr 64 77 43 w' b lv' (stepS S o) ∧ w.grownBy w' (some b) := by
  by_cases ho : checkS o = 0
  · obtain ⟨hk, ha, -⟩ := checkS_ok ho
    obtain ⟨kind, ab, dom, lo, hi⟩ := o
    simp only at hk ha
    obtain ⟨k, rfl⟩ := Int.eq_ofNat_of_zero_le hk.1
    obtain ⟨a, rfl⟩ := Int.eq_ofNat_of_zero_le ha.1
    exact apply_calls0 k a dom lo hi _ rfl b lv S w hE h hS ho
  · have HA := Lib.hid h
    have HC := Lib.hid (show codeS S o = checkS o from by unfold codeS; rw [if_pos ho])
    have hbx0 : Below w.heap.size w (w.alloc (.cells (opA o) 35)) := (Below.refl _ w).alloc (Nat.le_refl _) _
    have hbx : (w.alloc (.cells (opA o) 35)).heap[w.heap.size]? = some (.cells (opA o) 35 (0, 0)) := heap_alloc_new w _
    have HCk := Lib.hid (check_calls o (w.alloc (.cells (opA o) 35)))
    have hne : (checkS o != 0) = true := by simpa using ho
    have HN := Lib.hid ho
    have HB := Lib.hid hbx0
    unfold opA at HCk HB ⊢
    clear h hbx0 hbx ho
    go_enter Tryd.func37, Tryd.ntmps37
    go_wp2_with (go_at_call 61; refine HCk.out.mono ?_; rintro e w1 ⟨rfl, h1⟩; have HB1 := Lib.hid (HB.out.trans (h1.mono HB.out.size)); clear h1)
    go_ret
    refine ⟨by rw [HC.out]; rfl, lv, ?_, grown_of_below' HB1.out _⟩
    rw [show stepS S o = S from by unfold stepS; rw [HC.out, if_neg HN.out]]
    exact HA.out.below HB1.out
end Go.Proofs.YthccppldpfddjaaDoor
