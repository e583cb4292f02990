/- Text, Right; what awake sees, in plain words. -/
import Derived.Test.YthccppldpfddjaaDoorD3
namespace Go.Proofs.YthccppldpfddjaaDoor
open Go.RowKit
set_option linter.unusedVariables false
theorem text_calls (b : Nat) (lv : Nat → Value) (S : St) (w : World) (h : RArr 64 77 43 w b lv S) (hS : StOk S) (hD : DomAt w) (hP : PowAt w) :
    Calls Tryd.prog 13 #[.pointer (some ⟨b, 0, none⟩)] w fun e w' => e = .returned (.string ⟨(textS S).toArray⟩) ∧ Below w.heap.size w w' :=
  (callsIn_wide (n := 5)).1 (text_in b lv S w h hS hD hP)
def aw1 : List OpA := [⟨1, 5, 1, 10, 20⟩, ⟨2, 5, 1, 0, 0⟩]
def aw2 : List OpA := [⟨0, 5, 1, 15, 15⟩]
theorem aw_one : applyC St0 aw1 = 0 := by decide
theorem aw_two : applyC (applyS St0 aw1) aw2 = 32 := by decide
theorem aw_five : (applyS St0 aw1) 5 = ⟨[(0, 9), (21, 1099511627776)], true, false⟩ := by
  have : ((applyS St0 aw1) 5).eqb ⟨[(0, 9), (21, 1099511627776)], true, false⟩ = true := by decide
  exact (Rt.eqb_iff _ _).1 this
theorem aw_rest : ∀ x, x < 64 → x ≠ 5 → ((applyS St0 aw1) x).eqb (stdR (x / 32)) = true := by decide
theorem flat_one (f : Nat → List UInt8) (k : Nat) : ∀ n, (∀ x, x < n → x ≠ k → f x = []) → (List.range n).flatMap f = if k < n then f k else []
  | 0, _ => by simp
  | n + 1, h => by
    rw [List.range_succ, List.flatMap_append, flat_one f k n (fun x hx => h x (by omega))]
    by_cases e : n = k
    · subst e; simp
    · have := h n (by omega) e
      by_cases h2 : k < n
      · simp [h2, this, show k < n + 1 by omega]
      · simp [h2, this, show ¬ k < n + 1 by omega]
theorem dec0 : Lib.itoa 0 = [48] := by simp [Lib.itoa, Lib.decDigits]
theorem dec5 : Lib.itoa 5 = [53] := by simp [Lib.itoa, Lib.decDigits]
theorem dec9 : Lib.itoa 9 = [57] := by simp [Lib.itoa, Lib.decDigits]
theorem dec21 : Lib.itoa 21 = [50, 49] := by simp [Lib.itoa, Lib.decDigits]
theorem decMX : Lib.itoa 1099511627776 = [49, 48, 57, 57, 53, 49, 49, 54, 50, 55, 55, 55, 54] := by simp [Lib.itoa, Lib.decDigits]
theorem aw_text : textS (applyS St0 aw1) = [114, 111, 111, 116, 32, 53, 32, 108, 45, 32, 48, 45, 57, 32, 50, 49, 45, 49, 48, 57, 57, 53, 49, 49, 54, 50, 55, 55, 55, 54, 10] := by
  unfold textS txtK
  rw [flat_one _ 5 64 (fun x hx hne => by unfold lineS; rw [aw_rest x hx hne, if_pos rfl]), if_pos (by decide)]
  unfold lineS
  rw [aw_five]
  rw [if_neg (by decide)]
  unfold headS rngS
  simp [domB, letB, dec0, dec5, dec9, dec21, decMX]
theorem valid_calls (d a : Int) (w : World) : Calls Tryd.prog 46 #[.int .i64 d, .int .i64 a] w fun e w' => e = .returned (.bool (decide (0 ≤ d ∧ d ≤ 1 ∧ 0 ≤ a ∧ a < 32))) ∧ Below w.heap.size w w' := by
  by_cases h1 : 0 ≤ d
  · by_cases h2 : d ≤ 1
    · by_cases h3 : 0 ≤ a
      · by_cases h4 : a < 32
        all_goals (go_enter Tryd.func46, Tryd.ntmps46; go_wp2; go_ret; exact ⟨by simp [h1, h2, h3, h4], Below.refl _ _⟩)
      · go_enter Tryd.func46, Tryd.ntmps46
        go_wp2
        go_ret
        exact ⟨by rw [decide_eq_false (by omega)]; rfl, Below.refl _ _⟩
    · go_enter Tryd.func46, Tryd.ntmps46
      go_wp2
      go_ret
      exact ⟨by rw [decide_eq_false (by omega)]; rfl, Below.refl _ _⟩
  · go_enter Tryd.func46, Tryd.ntmps46
    go_wp2
    go_ret
    exact ⟨by rw [decide_eq_false (by omega)]; rfl, Below.refl _ _⟩
end Go.Proofs.YthccppldpfddjaaDoor
