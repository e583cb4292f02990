import Derived.Test.YtmmhflpeapojgaaE5
namespace Go.Proofs.Ytmmhflpeapojgaa
set_option linter.unusedVariables false
set_option linter.unusedSimpArgs false
open Go.RowKit Ieee

theorem fmtD_fine : FineF fmtD := fine_double
theorem smallD {n : Int} (h : -9007199254740991 ≤ n ∧ n ≤ 9007199254740991) : Small fmtD n := by
  show n.natAbs < 2 ^ (52 + 1)
  omega
/-- A word as a word of twice the size. -/
def wide (x : Nat) : Option Nat := floatToFloatBits .f32 x .f64
theorem wide_V {x : Nat} {n : Int} (h : V fmt x n) (hs : Small fmtD n) : Gives fmtD (wide x) n := by
  obtain ⟨s, m, e, h1, h2⟩ := conv_V (g := fmtD) fmtD_fine h hs
  refine ⟨_, ?_, h2⟩
  have h3 := V_finite (h2.V fmtD_fine hs)
  unfold wide floatToFloatBits
  rw [if_neg (by decide), show FloatKind.f32.decode x = fmt.read x from rfl, h1]
  simp only
  rw [if_neg]
  · rfl
  · rw [show FloatKind.f64.decode (FloatKind.f64.encode (.number s m e)) = fmtD.read (fmtD.write (.number s m e)) from rfl, h3]
    simp
theorem sq_zero {p : Int × Int} (h : sq p = 0) : p = (0, 0) := by
  obtain ⟨x, y⟩ := p
  simp only [sq] at h
  have h1 := Int.natAbs_mul_self (a := x)
  have h2 := Int.natAbs_mul_self (a := y)
  have h3 : x.natAbs * x.natAbs = 0 := by omega
  have h4 : y.natAbs * y.natAbs = 0 := by omega
  have h5 : x.natAbs = 0 := by rcases Nat.mul_eq_zero.1 h3 with h | h <;> exact h
  have h6 : y.natAbs = 0 := by rcases Nat.mul_eq_zero.1 h4 with h | h <;> exact h
  rw [show x = 0 by omega, show y = 0 by omega]
/-- The squares of a pair's parts, summed up. -/
theorem sqD {p : Int × Int} (hp : Bd 40000 p) : ∃ u v uu vv, wide (F fmt p.1) = some u ∧ wide (F fmt p.2) = some v ∧ fmtD.mul u u = some uu ∧ fmtD.mul v v = some vv ∧ fmtD.add uu vv = some (F fmtD (sq p)) := by
  by_cases h0 : sq p = 0
  · rw [sq_zero h0]
    exact ⟨0, 0, 0, 0, by decide +kernel, by decide +kernel, by decide +kernel, by decide +kernel, by decide +kernel⟩
  · unfold Bd at hp
    have b1 := sqr_bound hp.1
    have b2 := sqr_bound hp.2
    obtain ⟨u, hu, gu⟩ := wide_V (V_F fmt_fine (n := p.1) (small_of (by omega))) (smallD (by omega))
    obtain ⟨v, hv, gv⟩ := wide_V (V_F fmt_fine (n := p.2) (small_of (by omega))) (smallD (by omega))
    have vu := gu.V fmtD_fine (smallD (by omega))
    have vv := gv.V fmtD_fine (smallD (by omega))
    obtain ⟨uu, huu, guu⟩ := mul_V fmtD_fine vu vu (smallD (by omega))
    obtain ⟨ww, hww, gww⟩ := mul_V fmtD_fine vv vv (smallD (by omega))
    obtain ⟨r, hr, gr⟩ := add_V fmtD_fine (guu.V fmtD_fine (smallD (by omega))) (gww.V fmtD_fine (smallD (by omega))) (smallD (by omega))
    have e := gr.ne fmtD_fine (smallD (by omega)) h0
    subst e
    exact ⟨u, v, uu, ww, hu, hv, huu, hww, hr⟩
end Go.Proofs.Ytmmhflpeapojgaa
