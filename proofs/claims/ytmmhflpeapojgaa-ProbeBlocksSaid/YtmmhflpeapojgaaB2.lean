import Derived.Test.YtmmhflpeapojgaaB1
namespace Go.Proofs.Ytmmhflpeapojgaa
set_option linter.unusedVariables false
set_option linter.unusedSimpArgs false
open Go.RowKit Ieee
attribute [local go_sem] ints_get ints_size ints_getElem

theorem measure_calls (A : Option Addr) (c : Nat) (l : List Nat) (B : Option Addr) (cb : Nat) (ts : List Int) (w : World) (hl : l.length ≤ 9223372036854775807) (ht : ts.length ≤ 9223372036854775807) (hC : FC w A l) (hT : IC w B ts) (hlt : ∀ x ∈ l, x < 4294967296) :
    Calls Try.prog 7 #[.slice A l.length c, .slice B ts.length cb] w fun e w' => MPost l ts w e w' := by
  by_cases h1 : scode l = 0
  · by_cases h2 : l.length = 0
    · exact measure_bad A c l B cb ts w hl ht hC hT (.inr (.inl h2))
    · by_cases h3 : 16 < ts.length
      · exact measure_bad A c l B cb ts w hl ht hC hT (.inr (.inr (.inl h3)))
      · cases h4 : ts.all inB with
        | false => exact measure_bad A c l B cb ts w hl ht hC hT (.inr (.inr (.inr h4)))
        | true => exact measure_good A c l B cb ts w hC hT hlt h1 (by omega) (by omega) h4
  · exact measure_bad A c l B cb ts w hl ht hC hT (.inl h1)
theorem whole_true {x lo hi : Nat} {n low high : Int} (hx : V fmt x n) (hs : Small fmt n) (hl : V fmt lo low) (hh : V fmt hi high) (h1 : low ≤ n) (h2 : n ≤ high) : wholeB x lo hi = true := by
  have ht : trunc x = n := by unfold trunc; rw [toInt_V hx]; rfl
  have o1 : FloatKind.f32.format.order x lo = some (compare n low) := order_V hx hl
  have o2 : FloatKind.f32.format.order x hi = some (compare n high) := order_V hx hh
  have o3 : FloatKind.f32.format.order x (F fmt n) = some (compare n n) := order_V hx (V_F fmt_fine hs)
  unfold wholeB
  rw [ht]
  unfold geB leB eqB
  rw [o1, o2, o3]
  rcases cmp_cases n low with ⟨h, h'⟩ | ⟨h, h'⟩ | ⟨h, h'⟩
  · omega
  all_goals
    rw [h]
    rcases cmp_cases n high with ⟨g, g'⟩ | ⟨g, g'⟩ | ⟨g, g'⟩
    · rw [g]
      rcases cmp_cases n n with ⟨q, q'⟩ | ⟨q, q'⟩ | ⟨q, q'⟩
      · omega
      · rw [q]; rfl
      · omega
    · rw [g]
      rcases cmp_cases n n with ⟨q, q'⟩ | ⟨q, q'⟩ | ⟨q, q'⟩
      · omega
      · rw [q]; rfl
      · omega
    · omega
theorem isComplex_true (u : Nat × Nat) (p : Int × Int) (w : World) (h : GP u p) (hb : Bd 2047 p) : Calls Try.prog 35 #[.complex .f32 u.1 u.2] w fun e w' => e = .returned (.bool true) ∧ w = w' := by
  unfold Bd at hb
  have h1 := whole_true (h.1.V fmt_fine (small_of (by omega))) (small_of (by omega)) V_low V_high (show (-2048 : Int) ≤ p.1 by omega) (show p.1 ≤ 2047 by omega)
  have h2 := whole_true (h.2.V fmt_fine (small_of (by omega))) (small_of (by omega)) V_low V_high (show (-2048 : Int) ≤ p.2 by omega) (show p.2 ≤ 2047 by omega)
  have hp : Calls Try.prog 47 #[.complex .f32 u.1 u.2, .float .f32 3305111552, .float .f32 1157619712] w fun e w' => e = .returned (.bool true) ∧ w = w' := by
    generalize u.1 = x at *
    generalize u.2 = y at *
    have H1 := Lib.hid h1
    have H2 := Lib.hid h2
    clear h1 h2 h
    go_enter Try.func47, Try.ntmps47
    go_wp2_with fail
    refine (whole_calls x 3305111552 1157619712 (low := -2048) (high := 2047) (by omega) (by omega) (by omega) (by omega) V_low V_high _).mono ?_
    rw [H1.out]
    rintro e w' ⟨rfl, rfl⟩
    go_wp2_with fail
    refine (whole_calls y 3305111552 1157619712 (low := -2048) (high := 2047) (by omega) (by omega) (by omega) (by omega) V_low V_high _).mono ?_
    rw [H2.out]
    rintro e w' ⟨rfl, rfl⟩
    go_wp2
    go_ret
    exact ⟨rfl, rfl⟩
  go_enter Try.func35, Try.ntmps35
  go_wp2_with (go_at_call 47; refine hp.mono ?_; rintro e w' ⟨rfl, rfl⟩)
  go_ret
  exact ⟨rfl, rfl⟩
end Go.Proofs.Ytmmhflpeapojgaa
