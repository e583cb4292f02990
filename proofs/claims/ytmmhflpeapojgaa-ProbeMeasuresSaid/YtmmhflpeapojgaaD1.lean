import Derived.Test.YtmmhflpeapojgaaB4
import Derived.Test.YtmmhflpeapojgaaC5
namespace Go.Proofs.Ytmmhflpeapojgaa
set_option linter.unusedVariables false
set_option linter.unusedSimpArgs false
open Go.RowKit Ieee
attribute [local go_sem] ints_get ints_size ints_getElem

set_option maxHeartbeats 2000000 in
theorem rmeasure_bad (A : Option Addr) (c : Nat) (l : List Nat) (B : Option Addr) (cb : Nat) (ts : List Int) (w : World) (hl : l.length ≤ 9223372036854775807) (ht : ts.length ≤ 9223372036854775807) (hC : FC w A l) (hT : IC w B ts)
    (hbad : scode l ≠ 0 ∨ l.length = 0 ∨ 16 < ts.length) :
    Calls Try.prog 8 #[.slice A l.length c, .slice B ts.length cb] w fun e w' => MPost l ts w e w' := by
  have HC := Lib.hid hC
  have HT := Lib.hid hT
  have HB := Lib.hid ((Below.refl w.heap.size w).alloc (Nat.le_refl _) (.cells #[.int .i64 0, .float .f32 0, .float .f32 0, .int .i64 0, .int .i64 0, .int .i64 0] 33))
  have HH := Lib.hid (heap_alloc_new w (.cells #[.int .i64 0, .float .f32 0, .float .f32 0, .int .i64 0, .int .i64 0, .int .i64 0] 33))
  clear hC hT
  by_cases h1 : scode l = 0
  · have HSC := Lib.hid h1
    by_cases h2 : l.length = 0
    · have hc : mcode l ts = 9 := by unfold mcode; rw [if_neg (by simpa using h1), if_pos h2]
      have HM := Lib.hid hc
      have hl0 : (l.length : Int) = 0 := by omega
      clear hbad h1 hc h2
      go_enter Try.func8, Try.ntmps8
      go_wp2_with (go_at_call 19; refine (rsamples_calls A c l _ hl (HC.out.below HB.out)).mono ?_; rw [HSC.out]; rintro e w' ⟨rfl, rfl⟩)
      refine bodyPost_ret (results_cell_tmp_row rfl _ _ w.heap.size 33 _ (0, 0) _ rfl HH.out Try.underlying33 rfl (by kernel_rfl)) rfl ?_
      exact (MPost.bad HM.out (by decide) rfl HB.out)
    · have hl1 : ((l.length : Int) == 0) = false := beq_eq_false_iff_ne.2 (by omega)
      have h3 : 16 < ts.length := by rcases hbad with h | h | h <;> first | exact h | (exfalso; omega)
      have hc : mcode l ts = 18 := by unfold mcode; rw [if_neg (by simpa using h1), if_neg h2, if_pos h3]
      have HM := Lib.hid hc
      have h3' : (16 : Int) < (ts.length : Int) := by omega
      clear hbad h1 hc
      go_enter Try.func8, Try.ntmps8
      go_wp2_with (go_at_call 19; refine (rsamples_calls A c l _ hl (HC.out.below HB.out)).mono ?_; rw [HSC.out]; rintro e w' ⟨rfl, rfl⟩)
      refine bodyPost_ret (results_cell_tmp_row rfl _ _ w.heap.size 33 _ (0, 0) _ rfl HH.out Try.underlying33 rfl (by kernel_rfl)) rfl ?_
      exact (MPost.bad HM.out (by decide) rfl HB.out)
  · have hc : mcode l ts = scode l := by unfold mcode; rw [if_pos h1]
    obtain ⟨sc, hsc⟩ : ∃ sc, scode l = sc := ⟨_, rfl⟩
    rw [hsc] at h1 hc
    have HM := Lib.hid (And.intro hc h1)
    have HSC := Lib.hid hsc
    have hne : (sc == 0) = false := by simpa using h1
    clear hbad h1 hc hsc
    go_enter Try.func8, Try.ntmps8
    go_wp2_with (go_at_call 19; refine (rsamples_calls A c l _ hl (HC.out.below HB.out)).mono ?_; rw [HSC.out]; rintro e w' ⟨rfl, rfl⟩)
    refine bodyPost_ret (results_cell_tmp_row rfl _ _ w.heap.size 33 _ (0, 0) _ rfl HH.out Try.underlying33 rfl (by kernel_rfl)) rfl ?_
    exact (MPost.bad HM.out.1 HM.out.2 rfl HB.out)
end Go.Proofs.Ytmmhflpeapojgaa
