import Derived.Test.YtmmhflpeapojgaaFl1
import Derived.Test.YtmmhflpeapojgaaKit
import Derived.WalkLawsBesides
import Derived.Laws.FloatArith
import Derived.Laws.Cover2
import Derived.Laws.Cover3
import Derived.Laws.ComplexArith
import Derived.Outline
namespace Go.Proofs.Ytmmhflpeapojgaa
set_option linter.unusedVariables false
set_option linter.unusedSimpArgs false
open Go.RowKit Ieee

/-- The single format's words. -/
abbrev fmt : Format := FloatKind.f32.format
theorem fmt_fine : FineF fmt := fine_single
theorem small_of {n : Int} (h : -16777215 ≤ n ∧ n ≤ 16777215) : Small fmt n := by
  show n.natAbs < 2 ^ (23 + 1)
  omega
theorem nearest_F (n : Int) : FloatKind.f32.nearest n = F fmt n := rfl
def geB (x y : Nat) : Bool := FloatKind.f32.format.order x y == some .gt || FloatKind.f32.format.order x y == some .eq
def leB (x y : Nat) : Bool := FloatKind.f32.format.order x y == some .lt || FloatKind.f32.format.order x y == some .eq
def eqB (x y : Nat) : Bool := FloatKind.f32.format.order x y == some .eq
/-- A number without its fraction. -/
def trunc (x : Nat) : Int := ((fmt.read x).toInt .zero).getD 0
def wholeB (x lo hi : Nat) : Bool := geB x lo && (leB x hi && eqB x (F fmt (trunc x)))
theorem trunc_between {x lo hi : Nat} {low high : Int} (hl : low ≤ 0) (hh : 0 ≤ high) (hy : V fmt lo low) (hz : V fmt hi high) (h1 : geB x lo = true) (h2 : leB x hi = true) : (fmt.read x).toInt .zero = some (trunc x) ∧ low ≤ trunc x ∧ trunc x ≤ high := by
  obtain ⟨n, e, g1, g2⟩ := toInt_between hl hh hy hz h1 h2
  unfold trunc
  rw [e]
  exact ⟨rfl, g1, g2⟩
theorem whole_V {x lo hi : Nat} {low high : Int} (hl : low ≤ 0) (hh : 0 ≤ high) (hlo : -1000000 ≤ low) (hhi : high ≤ 1000000) (hy : V fmt lo low) (hz : V fmt hi high) (h : wholeB x lo hi = true) : V fmt x (trunc x) ∧ low ≤ trunc x ∧ trunc x ≤ high := by
  unfold wholeB at h
  simp only [Bool.and_eq_true] at h
  obtain ⟨h1, h2, h3⟩ := h
  obtain ⟨_, g1, g2⟩ := trunc_between hl hh hy hz h1 h2
  refine ⟨V_of_eq fmt_fine (V_F fmt_fine (small_of (by omega))) (small_of (by omega)) ?_, g1, g2⟩
  unfold eqB at h3
  simpa using h3
/-- The two orders of an equality. -/
theorem eqB_swap (x : Nat) {n : Int} (hn : Small fmt n) : eqB (F fmt n) x = eqB x (F fmt n) := by
  have hF := V_F fmt_fine hn
  have hself : compare n n = Ordering.eq := by simp [compare, compareOfLessAndEq]
  rw [Bool.eq_iff_iff]
  constructor
  · intro h
    unfold eqB at h
    have h' : fmt.order (F fmt n) x = some .eq := by simpa using h
    have hx : V fmt x n := by
      -- x is finite: its datum is a number
      cases hd : fmt.read x with
      | nan s t => obtain ⟨t', j, g1, _⟩ := hF; unfold Format.order at h'; rw [hd, g1] at h'; simp [Datum.order] at h'
      | infinity s => obtain ⟨t', j, g1, _⟩ := hF; unfold Format.order at h'; rw [hd, g1] at h'; cases s <;> simp [Datum.order] at h'
      | number s m i =>
        refine V_of_eq fmt_fine hF hn ?_
        obtain ⟨t', j, g1, g2, _⟩ := hF
        unfold Format.order at h' ⊢
        rw [hd, g1] at h' ⊢
        simp only [Datum.order] at h' ⊢
        injection h' with h'
        have k := cmp_eq h'
        rw [Int.min_comm, k]
        congr 1
        simp [compare, compareOfLessAndEq]
    unfold eqB
    rw [show FloatKind.f32.format.order x (F fmt n) = some (compare n n) from order_V hx hF, hself]
    rfl
  · intro h
    unfold eqB at h
    have h' : fmt.order x (F fmt n) = some .eq := by simpa using h
    have hx := V_of_eq fmt_fine hF hn h'
    unfold eqB
    rw [show FloatKind.f32.format.order (F fmt n) x = some (compare n n) from order_V hF hx, hself]
    rfl
theorem toIntVal {x : Nat} {n : Int} (h : (fmt.read x).toInt .zero = some n) (h0 : -9223372036854775808 ≤ n) (h1 : n ≤ 9223372036854775807) : floatToIntVal .f32 x .i64 = some n := by
  unfold floatToIntVal
  rw [show (FloatKind.f32.decode x).toInt .zero = some n from h]
  have a : IntKind.i64.min = -9223372036854775808 := by decide
  have b : IntKind.i64.max = 9223372036854775807 := by decide
  simp [a, b, h0, h1]
end Go.Proofs.Ytmmhflpeapojgaa
