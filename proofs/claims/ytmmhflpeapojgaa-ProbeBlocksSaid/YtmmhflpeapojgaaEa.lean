import Derived.Test.YtmmhflpeapojgaaE9
import Derived.Test.YtmmhflpeapojgaaC6
namespace Go.Proofs.Ytmmhflpeapojgaa
set_option linter.unusedVariables false
set_option linter.unusedSimpArgs false
open Go.RowKit Ieee

/-- What a slice of a call's own holds. -/
theorem own_open {W : World} {base : Nat} {e : TypeId} {size n : Nat} {v : Value} {xs : List Value} (h : W.ownsRow base e size v n xs) :
    ∃ B cap, v = .slice B n cap ∧ ∀ j u, xs[j]? = some u → ∃ g, B = some ⟨g, 0, none⟩ ∧ W.cell? ⟨g, j, none⟩ = some u := by
  have h0 := h
  obtain ⟨h1, h2⟩ := h
  rcases h2 with ⟨rfl, rfl⟩ | ⟨g, cap, cur, rfl, hb, hh, r⟩
  · refine ⟨none, 0, rfl, fun j u hj => ?_⟩
    have := (List.getElem?_eq_some_iff.1 hj).1
    omega
  · refine ⟨_, cap, rfl, fun j u hj => ⟨g, rfl, ?_⟩⟩
    have := h0.cells (g := g) rfl j u hj
    rw [add_at] at this
    simpa using this
theorem flts_get (l : List Nat) (i : Nat) (hi : i < l.length) : (flts l)[i]? = some (.float .f32 (l.getD i 0)) := by
  simp [flts, List.getElem?_eq_getElem hi, List.getD_eq_getElem?_getD]
theorem pwK_get (l : List Nat) (n b : Nat) (hb : b < n) (k : Nat) (hk : k < 4) : (pwK l n)[b * 4 + k]? = some (.float .f64 ((pw l b).getD k 0)) := by
  induction n with
  | zero => omega
  | succ n ih =>
    rw [pwK_succ]
    rcases Nat.lt_or_ge b n with h | h
    · rw [List.getElem?_append_left (by rw [pwK_len]; omega)]
      exact ih h
    · obtain rfl : b = n := by omega
      rw [List.getElem?_append_right (by rw [pwK_len]; omega), pwK_len, show b * 4 + k - 4 * b = k by omega]
      have hl : k < (pw l b).length := by simpa [pw] using hk
      simp only [fd, List.getElem?_map, List.getD_eq_getElem?_getD, List.getElem?_eq_getElem hl]
      rfl
theorem eq43 (n p : Nat) (h : FloatKind.f64.format.order p p = some .eq) (W : World) : (Op.equalIn (n + 1) 43 (.float .f64 p) (.float .f64 p)).run Try.prog W = .ok true W := by
  unfold Op.equalIn
  simp [Sem.run_bind, run_underlying Try.underlying43, Result.andThen_ok, Op.floatEq, h]
theorem size43 (W : World) : (sizeOf 43).run Try.prog W = .ok 1 W := by kernel_rfl
theorem agg43 (W : World) : (isAgg 43).run Try.prog W = .ok false W := by kernel_rfl
theorem equal44' (n : Nat) (p0 p1 p2 p3 : Nat) (h0 : FloatKind.f64.format.order p0 p0 = some .eq) (h1 : FloatKind.f64.format.order p1 p1 = some .eq) (h2 : FloatKind.f64.format.order p2 p2 = some .eq) (h3 : FloatKind.f64.format.order p3 p3 = some .eq) (W : World) :
    (Op.equalIn (n + 2) 44 (.agg #[.float .f64 p0, .float .f64 p1, .float .f64 p2, .float .f64 p3]) (.agg #[.float .f64 p0, .float .f64 p1, .float .f64 p2, .float .f64 p3])).run Try.prog W = .ok true W := by
  unfold Op.equalIn
  simp only [Sem.run_bind, run_underlying Try.underlying44, Result.andThen_ok, size43]
  simp [Std.Legacy.Range.forIn_eq_forIn_range', Std.Legacy.Range.size, List.range', part, agg43, size43, eq43, h0, h1, h2, h3]
end Go.Proofs.Ytmmhflpeapojgaa
