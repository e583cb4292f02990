import Derived.Test.YtbojagkalbfenaasL3
namespace Go.Proofs.Ytbojagkalbfenaa
set_option linter.unusedSimpArgs false
open Go.RowKit PIovSlices Go.Proofs.YtbojagkalbfenaaW.PrintWords

theorem rd_cons {l : List Int} {i : Nat} (h : i < l.length) : l.drop i = rd l i :: l.drop (i + 1) := by
  rw [List.drop_eq_getElem_cons h]
  simp [rd, List.getD_eq_getElem?_getD, List.getElem?_eq_getElem h]

theorem equal_l0 (a b : List Int) (hl : a.length = b.length) (hb : a.length ≤ 1000000) : ∀ (c k i : Nat), i + c = a.length → c < k → slices_Equal_byte_byte.l0 k a b a.length i = some (decide (a.drop i = b.drop i))
  | 0, k + 1, i, hi, _ => by
    simp only [slices_Equal_byte_byte.l0, show ¬ ((i : Int) < (a.length : Int)) by omega, if_false]
    rw [List.drop_eq_nil_of_le (by omega), List.drop_eq_nil_of_le (by omega)]
    simp
  | c + 1, k + 1, i, hi, hk => by
    have ih := equal_l0 a b hl hb c k (i + 1) (by omega) (by omega)
    rw [show ((i + 1 : Nat) : Int) = (i : Int) + 1 by omega] at ih
    simp only [slices_Equal_byte_byte.l0, show (i : Int) < (a.length : Int) by omega, show (i : Int) < (b.length : Int) by omega, show (0 : Int) ≤ (i : Int) by omega, if_true]
    rw [w64 (x := (i : Int) + 1) (by omega) (by omega), ih, rd_cons (l := a) (i := i) (by omega), rd_cons (l := b) (i := i) (by omega)]
    by_cases h : rd a i = rd b i
    · simp [h]
    · simp [h]
theorem equal_f (a b : List Int) (hb : a.length ≤ 1000000) {k : Nat} (hk : 1000002 ≤ k) : slices_Equal_byte_byte.f k a b = some (decide (a = b)) := by
  unfold slices_Equal_byte_byte.f
  by_cases h : a.length = b.length
  · rw [if_pos (by omega)]
    have := equal_l0 a b h hb a.length k 0 (by omega) (by omega)
    simpa using this
  · rw [if_neg (by omega)]
    have : a ≠ b := fun e => h (by rw [e])
    simp [this]
end Go.Proofs.Ytbojagkalbfenaa
