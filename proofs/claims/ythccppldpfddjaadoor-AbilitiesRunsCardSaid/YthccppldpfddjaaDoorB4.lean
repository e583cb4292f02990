/- The test of an operation. -/
import Derived.Test.YthccppldpfddjaaDoorB3
namespace Go.Proofs.YthccppldpfddjaaDoor
open Go.RowKit
set_option linter.unusedVariables false
set_option maxHeartbeats 4000000 in
set_option maxRecDepth 100000 in
theorem check_calls (o : OpA) (w : World) : Calls Tryd.prog 61 #[.agg (opA o)] w fun e w' => e = .returned (.int .i64 (checkS o)) ∧ Below w.heap.size w w' := by
  unfold opA
  by_cases a0 : o.kind < 0
  · skip
    have hv : checkS o = 17 := by unfold checkS MX; (repeat' split) <;> omega
    have d0 : decide (o.kind < 0) = true := by simp; omega
    rw [hv]
    clear hv a0
    go_enter Tryd.func61, Tryd.ntmps61
    go_wp2
    go_ret
    exact ⟨rfl, (Below.refl _ _).alloc (Nat.le_refl _) _⟩
  · skip
    by_cases a1 : 5 ≤ o.kind
    · skip
      have hv : checkS o = 17 := by unfold checkS MX; (repeat' split) <;> omega
      have d0 : decide (o.kind < 0) = false := by simp; omega
      have d1 : decide (5 ≤ o.kind) = true := by simp; omega
      rw [hv]
      clear hv a0 a1
      go_enter Tryd.func61, Tryd.ntmps61
      go_wp2
      go_ret
      exact ⟨rfl, (Below.refl _ _).alloc (Nat.le_refl _) _⟩
    · skip
      by_cases a2 : o.ab < 0
      · skip
        have hv : checkS o = 34 := by unfold checkS MX; (repeat' split) <;> omega
        have d0 : decide (o.kind < 0) = false := by simp; omega
        have d1 : decide (5 ≤ o.kind) = false := by simp; omega
        have d2 : decide (o.ab < 0) = true := by simp; omega
        rw [hv]
        clear hv a0 a1 a2
        go_enter Tryd.func61, Tryd.ntmps61
        go_wp2
        go_ret
        exact ⟨rfl, (Below.refl _ _).alloc (Nat.le_refl _) _⟩
      · skip
        by_cases a3 : 32 ≤ o.ab
        · skip
          have hv : checkS o = 34 := by unfold checkS MX; (repeat' split) <;> omega
          have d0 : decide (o.kind < 0) = false := by simp; omega
          have d1 : decide (5 ≤ o.kind) = false := by simp; omega
          have d2 : decide (o.ab < 0) = false := by simp; omega
          have d3 : decide (32 ≤ o.ab) = true := by simp; omega
          rw [hv]
          clear hv a0 a1 a2 a3
          go_enter Tryd.func61, Tryd.ntmps61
          go_wp2
          go_ret
          exact ⟨rfl, (Below.refl _ _).alloc (Nat.le_refl _) _⟩
        · skip
          by_cases a4 : o.lo < 0
          · skip
            have hv : checkS o = 34 := by unfold checkS MX; (repeat' split) <;> omega
            have d0 : decide (o.kind < 0) = false := by simp; omega
            have d1 : decide (5 ≤ o.kind) = false := by simp; omega
            have d2 : decide (o.ab < 0) = false := by simp; omega
            have d3 : decide (32 ≤ o.ab) = false := by simp; omega
            have d4 : decide (o.lo < 0) = true := by simp; omega
            rw [hv]
            clear hv a0 a1 a2 a3 a4
            go_enter Tryd.func61, Tryd.ntmps61
            go_wp2
            go_ret
            exact ⟨rfl, (Below.refl _ _).alloc (Nat.le_refl _) _⟩
          · skip
            by_cases a5 : o.hi < o.lo
            · skip
              have hv : checkS o = 34 := by unfold checkS MX; (repeat' split) <;> omega
              have d0 : decide (o.kind < 0) = false := by simp; omega
              have d1 : decide (5 ≤ o.kind) = false := by simp; omega
              have d2 : decide (o.ab < 0) = false := by simp; omega
              have d3 : decide (32 ≤ o.ab) = false := by simp; omega
              have d4 : decide (o.lo < 0) = false := by simp; omega
              have d5 : decide (o.hi < o.lo) = true := by simp; omega
              rw [hv]
              clear hv a0 a1 a2 a3 a4 a5
              go_enter Tryd.func61, Tryd.ntmps61
              go_wp2
              go_ret
              exact ⟨rfl, (Below.refl _ _).alloc (Nat.le_refl _) _⟩
            · skip
              by_cases a6 : 1099511627776 < o.hi
              · skip
                have hv : checkS o = 34 := by unfold checkS MX; (repeat' split) <;> omega
                have d0 : decide (o.kind < 0) = false := by simp; omega
                have d1 : decide (5 ≤ o.kind) = false := by simp; omega
                have d2 : decide (o.ab < 0) = false := by simp; omega
                have d3 : decide (32 ≤ o.ab) = false := by simp; omega
                have d4 : decide (o.lo < 0) = false := by simp; omega
                have d5 : decide (o.hi < o.lo) = false := by simp; omega
                have d6 : decide (1099511627776 < o.hi) = true := by simp; omega
                rw [hv]
                clear hv a0 a1 a2 a3 a4 a5 a6
                go_enter Tryd.func61, Tryd.ntmps61
                go_wp2
                go_ret
                exact ⟨rfl, (Below.refl _ _).alloc (Nat.le_refl _) _⟩
              · skip
                by_cases a7 : 1 < o.kind
                · by_cases a8 : o.lo ≠ 0
                  · skip
                    have hv : checkS o = 34 := by unfold checkS MX; (repeat' split) <;> omega
                    have d0 : decide (o.kind < 0) = false := by simp; omega
                    have d1 : decide (5 ≤ o.kind) = false := by simp; omega
                    have d2 : decide (o.ab < 0) = false := by simp; omega
                    have d3 : decide (32 ≤ o.ab) = false := by simp; omega
                    have d4 : decide (o.lo < 0) = false := by simp; omega
                    have d5 : decide (o.hi < o.lo) = false := by simp; omega
                    have d6 : decide (1099511627776 < o.hi) = false := by simp; omega
                    have d7 : decide (1 < o.kind) = true := by simp; omega
                    have d8 : (o.lo != 0) = true := by simp; omega
                    have e8 : decide (o.hi < 0) = false := by simp; omega
                    rw [hv]
                    clear hv a0 a1 a2 a3 a4 a5 a6 a7 a8
                    go_enter Tryd.func61, Tryd.ntmps61
                    go_wp2
                    go_ret
                    exact ⟨rfl, (Below.refl _ _).alloc (Nat.le_refl _) _⟩
                  · by_cases a9 : o.hi ≠ 0
                    · skip
                      have hv : checkS o = 34 := by unfold checkS MX; (repeat' split) <;> omega
                      have d0 : decide (o.kind < 0) = false := by simp; omega
                      have d1 : decide (5 ≤ o.kind) = false := by simp; omega
                      have d2 : decide (o.ab < 0) = false := by simp; omega
                      have d3 : decide (32 ≤ o.ab) = false := by simp; omega
                      have d4 : decide (o.lo < 0) = false := by simp; omega
                      have d5 : decide (o.hi < o.lo) = false := by simp; omega
                      have d6 : decide (1099511627776 < o.hi) = false := by simp; omega
                      have d7 : decide (1 < o.kind) = true := by simp; omega
                      have d8 : o.lo = 0 := by omega
                      have d9 : (o.hi != 0) = true := by simp; omega
                      have e9 : decide (o.hi < 0) = false := by simp; omega
                      rw [hv]
                      clear hv a0 a1 a2 a3 a4 a5 a6 a7 a8 a9
                      go_enter Tryd.func61, Tryd.ntmps61
                      go_wp2
                      go_ret
                      exact ⟨rfl, (Below.refl _ _).alloc (Nat.le_refl _) _⟩
                    · skip
                      by_cases a10 : o.dom < 1
                      · skip
                        have hv : checkS o = 14 := by unfold checkS MX; (repeat' split) <;> omega
                        have d0 : decide (o.kind < 0) = false := by simp; omega
                        have d1 : decide (5 ≤ o.kind) = false := by simp; omega
                        have d2 : decide (o.ab < 0) = false := by simp; omega
                        have d3 : decide (32 ≤ o.ab) = false := by simp; omega
                        have d4 : decide (o.lo < 0) = false := by simp; omega
                        have d5 : decide (o.hi < o.lo) = false := by simp; omega
                        have d6 : decide (1099511627776 < o.hi) = false := by simp; omega
                        have d7 : decide (1 < o.kind) = true := by simp; omega
                        have d8 : o.lo = 0 := by omega
                        have d9 : o.hi = 0 := by omega
                        have d10 : decide (o.dom < 1) = true := by simp; omega
                        rw [hv]
                        clear hv a0 a1 a2 a3 a4 a5 a6 a7 a8 a9 a10
                        go_enter Tryd.func61, Tryd.ntmps61
                        go_wp2
                        go_ret
                        exact ⟨rfl, (Below.refl _ _).alloc (Nat.le_refl _) _⟩
                      · skip
                        by_cases a11 : 3 < o.dom
                        · skip
                          have hv : checkS o = 14 := by unfold checkS MX; (repeat' split) <;> omega
                          have d0 : decide (o.kind < 0) = false := by simp; omega
                          have d1 : decide (5 ≤ o.kind) = false := by simp; omega
                          have d2 : decide (o.ab < 0) = false := by simp; omega
                          have d3 : decide (32 ≤ o.ab) = false := by simp; omega
                          have d4 : decide (o.lo < 0) = false := by simp; omega
                          have d5 : decide (o.hi < o.lo) = false := by simp; omega
                          have d6 : decide (1099511627776 < o.hi) = false := by simp; omega
                          have d7 : decide (1 < o.kind) = true := by simp; omega
                          have d8 : o.lo = 0 := by omega
                          have d9 : o.hi = 0 := by omega
                          have d10 : decide (o.dom < 1) = false := by simp; omega
                          have d11 : decide (3 < o.dom) = true := by simp; omega
                          rw [hv]
                          clear hv a0 a1 a2 a3 a4 a5 a6 a7 a8 a9 a10 a11
                          go_enter Tryd.func61, Tryd.ntmps61
                          go_wp2
                          go_ret
                          exact ⟨rfl, (Below.refl _ _).alloc (Nat.le_refl _) _⟩
                        · skip
                          have hv : checkS o = 0 := by unfold checkS MX; (repeat' split) <;> omega
                          have d0 : decide (o.kind < 0) = false := by simp; omega
                          have d1 : decide (5 ≤ o.kind) = false := by simp; omega
                          have d2 : decide (o.ab < 0) = false := by simp; omega
                          have d3 : decide (32 ≤ o.ab) = false := by simp; omega
                          have d4 : decide (o.lo < 0) = false := by simp; omega
                          have d5 : decide (o.hi < o.lo) = false := by simp; omega
                          have d6 : decide (1099511627776 < o.hi) = false := by simp; omega
                          have d7 : decide (1 < o.kind) = true := by simp; omega
                          have d8 : o.lo = 0 := by omega
                          have d9 : o.hi = 0 := by omega
                          have d10 : decide (o.dom < 1) = false := by simp; omega
                          have d11 : decide (3 < o.dom) = false := by simp; omega
                          rw [hv]
                          clear hv a0 a1 a2 a3 a4 a5 a6 a7 a8 a9 a10 a11
                          go_enter Tryd.func61, Tryd.ntmps61
                          go_wp2
                          go_ret
                          exact ⟨rfl, (Below.refl _ _).alloc (Nat.le_refl _) _⟩
                · skip
                  by_cases a8 : o.dom < 1
                  · skip
                    have hv : checkS o = 14 := by unfold checkS MX; (repeat' split) <;> omega
                    have d0 : decide (o.kind < 0) = false := by simp; omega
                    have d1 : decide (5 ≤ o.kind) = false := by simp; omega
                    have d2 : decide (o.ab < 0) = false := by simp; omega
                    have d3 : decide (32 ≤ o.ab) = false := by simp; omega
                    have d4 : decide (o.lo < 0) = false := by simp; omega
                    have d5 : decide (o.hi < o.lo) = false := by simp; omega
                    have d6 : decide (1099511627776 < o.hi) = false := by simp; omega
                    have d7 : decide (1 < o.kind) = false := by simp; omega
                    have d8 : decide (o.dom < 1) = true := by simp; omega
                    rw [hv]
                    clear hv a0 a1 a2 a3 a4 a5 a6 a7 a8
                    go_enter Tryd.func61, Tryd.ntmps61
                    go_wp2
                    go_ret
                    exact ⟨rfl, (Below.refl _ _).alloc (Nat.le_refl _) _⟩
                  · skip
                    by_cases a9 : 3 < o.dom
                    · skip
                      have hv : checkS o = 14 := by unfold checkS MX; (repeat' split) <;> omega
                      have d0 : decide (o.kind < 0) = false := by simp; omega
                      have d1 : decide (5 ≤ o.kind) = false := by simp; omega
                      have d2 : decide (o.ab < 0) = false := by simp; omega
                      have d3 : decide (32 ≤ o.ab) = false := by simp; omega
                      have d4 : decide (o.lo < 0) = false := by simp; omega
                      have d5 : decide (o.hi < o.lo) = false := by simp; omega
                      have d6 : decide (1099511627776 < o.hi) = false := by simp; omega
                      have d7 : decide (1 < o.kind) = false := by simp; omega
                      have d8 : decide (o.dom < 1) = false := by simp; omega
                      have d9 : decide (3 < o.dom) = true := by simp; omega
                      rw [hv]
                      clear hv a0 a1 a2 a3 a4 a5 a6 a7 a8 a9
                      go_enter Tryd.func61, Tryd.ntmps61
                      go_wp2
                      go_ret
                      exact ⟨rfl, (Below.refl _ _).alloc (Nat.le_refl _) _⟩
                    · skip
                      have hv : checkS o = 0 := by unfold checkS MX; (repeat' split) <;> omega
                      have d0 : decide (o.kind < 0) = false := by simp; omega
                      have d1 : decide (5 ≤ o.kind) = false := by simp; omega
                      have d2 : decide (o.ab < 0) = false := by simp; omega
                      have d3 : decide (32 ≤ o.ab) = false := by simp; omega
                      have d4 : decide (o.lo < 0) = false := by simp; omega
                      have d5 : decide (o.hi < o.lo) = false := by simp; omega
                      have d6 : decide (1099511627776 < o.hi) = false := by simp; omega
                      have d7 : decide (1 < o.kind) = false := by simp; omega
                      have d8 : decide (o.dom < 1) = false := by simp; omega
                      have d9 : decide (3 < o.dom) = false := by simp; omega
                      rw [hv]
                      clear hv a0 a1 a2 a3 a4 a5 a6 a7 a8 a9
                      go_enter Tryd.func61, Tryd.ntmps61
                      go_wp2
                      go_ret
                      exact ⟨rfl, (Below.refl _ _).alloc (Nat.le_refl _) _⟩
end Go.Proofs.YthccppldpfddjaaDoor
