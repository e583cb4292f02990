import Derived.Test.YtmmhflpeapojgaaD5
import Derived.Test.YtmmhflpeapojgaaC6
import Derived.Deep.WholeRow
namespace Go.Proofs.Ytmmhflpeapojgaa
set_option linter.unusedVariables false
set_option linter.unusedSimpArgs false
open Go.RowKit Ieee
attribute [local go_sem] ints_get ints_size ints_getElem

theorem rmeasure_calls (A : Option Addr) (c : Nat) (l : List Nat) (B : Option Addr) (cb : Nat) (ts : List Int) (w : World) (hl : l.length ≤ 9223372036854775807) (ht : ts.length ≤ 9223372036854775807) (hC : FC w A l) (hT : IC w B ts) :
    Calls Try.prog 8 #[.slice A l.length c, .slice B ts.length cb] w fun e w' => MPost l ts w e w' := by
  by_cases h1 : scode l = 0
  · by_cases h2 : l.length = 0
    · exact rmeasure_bad A c l B cb ts w hl ht hC hT (.inr (.inl h2))
    · by_cases h3 : 16 < ts.length
      · exact rmeasure_bad A c l B cb ts w hl ht hC hT (.inr (.inr h3))
      · exact rmeasure_good A c l B cb ts w hC hT h1 (by omega) (by omega)
  · exact rmeasure_bad A c l B cb ts w hl ht hC hT (.inl h1)
theorem gval_form (l : List Nat) (ts : List Int) : ∃ (n : Int) (f1 f2 : Nat) (s q v : Int), gval l ts = #[.int .i64 n, .float .f32 f1, .float .f32 f2, .int .i64 s, .int .i64 q, .int .i64 v] := by
  unfold gval
  split
  · exact ⟨_, _, _, _, _, _, rfl⟩
  · exact ⟨_, _, _, _, _, _, rfl⟩
theorem box_two {w : World} {g : Nat} {x y : Value} {t : TypeId} {fr : Nat × Nat} (h : w.heap[g]? = some (.cells #[x, y] t fr)) : w.cell? ⟨g, 0, none⟩ = some x ∧ w.cell? ⟨g, 1, none⟩ = some y := by
  constructor <;> (rw [cell_of_row _ _ _ _ _ _ h]; rfl)
theorem cells6 {w : World} {g : Nat} {a0 a1 a2 a3 a4 a5 : Value} {t : TypeId} {fr : Nat × Nat} (h : w.heap[g]? = some (.cells #[a0, a1, a2, a3, a4, a5] t fr)) : w.cell? ⟨g, 0, none⟩ = some a0 ∧ w.cell? ⟨g, 1, none⟩ = some a1 ∧ w.cell? ⟨g, 2, none⟩ = some a2 ∧ w.cell? ⟨g, 3, none⟩ = some a3 ∧ w.cell? ⟨g, 4, none⟩ = some a4 ∧ w.cell? ⟨g, 5, none⟩ = some a5 := by
  refine ⟨?_, ?_, ?_, ?_, ?_, ?_⟩ <;> (rw [cell_of_row _ _ _ _ _ _ h]; rfl)
set_option maxHeartbeats 4000000 in
theorem measures_rest (A : Option Addr) (c : Nat) (l : List Nat) (B : Option Addr) (cb : Nat) (m : List Nat) (T : Option Addr) (ct : Nat) (ts : List Int) (lag : Int) (w : World)
    (hC : FC w A l) (hD : FC w B m) (hT : IC w T ts) (hlt : ∀ x ∈ l, x < 4294967296) (h1 : l.length ≤ 300) (h2 : m.length ≤ 300) (h3 : ts.length ≤ 30) :
    Calls Try.prog 3 #[.slice A l.length c, .slice B m.length cb, .agg #[.slice T ts.length ct, .int .i64 lag]] w fun e w' => e = .returned (.bool true) ∧ Below w.heap.size w w' := by
  have HC := Lib.hid hC
  have HD := Lib.hid hD
  have HT := Lib.hid hT
  have HLT := Lib.hid hlt
  have HB := Lib.hid ((Below.refl w.heap.size w).alloc (Nat.le_refl _) (.cells #[.slice T ts.length ct, .int .i64 lag] 25))
  have HX := Lib.hid (heap_alloc_new w (.cells #[.slice T ts.length ct, .int .i64 lag] 25))
  have e1 : ¬ (300 : Int) < (l.length : Int) := by omega
  have e2 : ¬ (300 : Int) < (m.length : Int) := by omega
  have e3 : ¬ (30 : Int) < (ts.length : Int) := by omega
  have d1 : decide ((300 : Int) < (l.length : Int)) = false := decide_eq_false e1
  have d2 : decide ((300 : Int) < (m.length : Int)) = false := decide_eq_false e2
  have d3 : decide ((30 : Int) < (ts.length : Int)) = false := decide_eq_false e3
  obtain ⟨gn, f1, f2, gs, gq, gv, hgv⟩ := gval_form l ts
  have HGV := Lib.hid hgv
  obtain ⟨gc, hgc⟩ : ∃ gc, mcode l ts = gc := ⟨_, rfl⟩
  obtain ⟨cv, hcv⟩ : ∃ cv, cval l m lag = cv := ⟨_, rfl⟩
  obtain ⟨cc, hcc⟩ : ∃ cc, ccode l m lag = cc := ⟨_, rfl⟩
  have HK := Lib.hid (And.intro hgc (And.intro hcv hcc))
  clear hC hD hT hlt hgv hgc hcv hcc
  go_enter Try.func3, Try.ntmps3
  go_wp2_with (first
    | (go_at_call 7; go_loud (refine (measure_calls A c l T ct ts _ (by omega) (by omega) (HC.out.below HB.out) (HT.out.below HB.out) HLT.out).mono ?_; intro e w1 hp; obtain ⟨he, hd⟩ := hp; rw [HGV.out, HK.out.1] at he; subst he; have HB1 := Lib.hid ((below_then' HB.out hd).alloc (below_then' HB.out hd).size (.cells #[.int .i64 gn, .float .f32 f1, .float .f32 f2, .int .i64 gs, .int .i64 gq, .int .i64 gv] 29)); have HX1 := Lib.hid (heap_kept (heap_kept HX.out hd) ((Below.refl _ _).alloc (Nat.le_refl _) (.cells #[.int .i64 gn, .float .f32 f1, .float .f32 f2, .int .i64 gs, .int .i64 gq, .int .i64 gv] 29))); have HA1 := Lib.hid (heap_alloc_new w1 (.cells #[.int .i64 gn, .float .f32 f1, .float .f32 f2, .int .i64 gs, .int .i64 gq, .int .i64 gv] 29)); obtain ⟨hy0, hy1⟩ := box_two HX1.out; clear hd))
    | (go_at_call 8; go_loud (refine (rmeasure_calls A c l T ct ts _ (by omega) (by omega) (HC.out.below HB1.out) (HT.out.below HB1.out)).mono ?_; intro e w2 hp; obtain ⟨he, hd⟩ := hp; rw [HGV.out, HK.out.1] at he; subst he; have HB2 := Lib.hid ((below_then' HB1.out hd).alloc (below_then' HB1.out hd).size (.cells #[.int .i64 gn, .float .f32 f1, .float .f32 f2, .int .i64 gs, .int .i64 gq, .int .i64 gv] 33)); have HX2 := Lib.hid (heap_kept (heap_kept HX1.out hd) ((Below.refl _ _).alloc (Nat.le_refl _) (.cells #[.int .i64 gn, .float .f32 f1, .float .f32 f2, .int .i64 gs, .int .i64 gq, .int .i64 gv] 33))); have HA2 := Lib.hid (heap_kept (heap_kept HA1.out hd) ((Below.refl _ _).alloc (Nat.le_refl _) (.cells #[.int .i64 gn, .float .f32 f1, .float .f32 f2, .int .i64 gs, .int .i64 gq, .int .i64 gv] 33))); have HA3 := Lib.hid (heap_alloc_new w2 (.cells #[.int .i64 gn, .float .f32 f1, .float .f32 f2, .int .i64 gs, .int .i64 gq, .int .i64 gv] 33)); obtain ⟨hz0, hz1⟩ := box_two HX2.out; obtain ⟨p0, p1, p2, p3, p4, p5⟩ := cells6 HA2.out; obtain ⟨q0, q1, q2, q3, q4, q5⟩ := cells6 HA3.out; clear hd))
    | (go_at_call 9; go_loud (refine (bits_same _ _).mono ?_; rintro e w' ⟨rfl, rfl⟩))
    | (go_at_call 10; go_loud (refine (corr_calls A c l B cb m lag _ (by omega) (by omega) (HC.out.below HB2.out) (HD.out.below HB2.out)).mono ?_; intro e w3 hp; obtain ⟨he, hd⟩ := hp; rw [HK.out.2.1, HK.out.2.2] at he; subst he; have HB3 := Lib.hid (below_then' HB2.out hd); have HX3 := Lib.hid (heap_kept HX2.out hd); obtain ⟨hu0, hu1⟩ := box_two HX3.out; clear hd))
    | (go_at_call 11; go_loud (refine (rcorr_calls A c l B cb m lag _ (by omega) (by omega) (HC.out.below HB3.out) (HD.out.below HB3.out)).mono ?_; intro e w4 hp; obtain ⟨he, hd⟩ := hp; rw [HK.out.2.1, HK.out.2.2] at he; subst he; have HB4 := Lib.hid (below_then' HB3.out hd); clear hd))
    | (go_at_call 6; go_loud (refine (awake_calls _).mono ?_; rintro e w9 ⟨rfl, hd⟩; have HB5 := Lib.hid (below_then' HB4.out hd); clear hd)))
  go_ret
  exact ⟨rfl, HB5.out⟩
theorem measures_law (A : Option Addr) (c : Nat) (l : List Nat) (B : Option Addr) (cb : Nat) (m : List Nat) (T : Option Addr) (ct : Nat) (ts : List Int) (lag : Int) (w : World)
    (hC : FC w A l) (hD : FC w B m) (hT : IC w T ts) (hlt : ∀ x ∈ l, x < 4294967296) (hl : l.length ≤ 9223372036854775807) (hm : m.length ≤ 9223372036854775807) (ht : ts.length ≤ 9223372036854775807) :
    Calls Try.prog 3 #[.slice A l.length c, .slice B m.length cb, .agg #[.slice T ts.length ct, .int .i64 lag]] w fun e w' => e = .returned (.bool true) ∧ Below w.heap.size w w' := by
  by_cases h1 : l.length ≤ 300
  · by_cases h2 : m.length ≤ 300
    · by_cases h3 : ts.length ≤ 30
      · exact measures_rest A c l B cb m T ct ts lag w hC hD hT hlt h1 h2 h3
      · have HB := Lib.hid ((Below.refl w.heap.size w).alloc (Nat.le_refl _) (.cells #[.slice T ts.length ct, .int .i64 lag] 25))
        have d1 : decide ((300 : Int) < (l.length : Int)) = false := by simp; omega
        have d2 : decide ((300 : Int) < (m.length : Int)) = false := by simp; omega
        have e1 : ¬ (300 : Int) < (l.length : Int) := by omega
        have e2 : ¬ (300 : Int) < (m.length : Int) := by omega
        have e3 : (30 : Int) < (ts.length : Int) := by omega
        go_enter Try.func3, Try.ntmps3
        go_wp2_with (go_at_call 6; refine (awake_calls _).mono ?_; rintro e w9 ⟨rfl, hd⟩; replace HB := Lib.hid (below_then' HB.out hd); clear hd)
        go_ret
        exact ⟨rfl, HB.out⟩
    · have HB := Lib.hid ((Below.refl w.heap.size w).alloc (Nat.le_refl _) (.cells #[.slice T ts.length ct, .int .i64 lag] 25))
      have d1 : decide ((300 : Int) < (l.length : Int)) = false := by simp; omega
      have e1 : ¬ (300 : Int) < (l.length : Int) := by omega
      have e2 : (300 : Int) < (m.length : Int) := by omega
      have d2 : decide ((300 : Int) < (m.length : Int)) = true := decide_eq_true e2
      go_enter Try.func3, Try.ntmps3
      go_wp2_with (go_at_call 6; refine (awake_calls _).mono ?_; rintro e w9 ⟨rfl, hd⟩; replace HB := Lib.hid (below_then' HB.out hd); clear hd)
      go_ret
      exact ⟨rfl, HB.out⟩
  · have HB := Lib.hid ((Below.refl w.heap.size w).alloc (Nat.le_refl _) (.cells #[.slice T ts.length ct, .int .i64 lag] 25))
    have e1 : (300 : Int) < (l.length : Int) := by omega
    have d1 : decide ((300 : Int) < (l.length : Int)) = true := decide_eq_true e1
    go_enter Try.func3, Try.ntmps3
    go_wp2_with (go_at_call 6; refine (awake_calls _).mono ?_; rintro e w9 ⟨rfl, hd⟩; replace HB := Lib.hid (below_then' HB.out hd); clear hd)
    go_ret
    exact ⟨rfl, HB.out⟩
end Go.Proofs.Ytmmhflpeapojgaa
