import Derived.Test.YtmmhflpeapojgaaD2
import Derived.LoopN
namespace Go.Proofs.Ytmmhflpeapojgaa
set_option linter.unusedVariables false
set_option linter.unusedSimpArgs false
open Go.RowKit Ieee
attribute [local go_sem] ints_get ints_size ints_getElem

/-- The correlation of the first numbers. -/
def corTo (na nb : List Int) (lag lb : Int) : Nat → Int
  | 0 => 0
  | k + 1 => corTo na nb lag lb k + (if 0 ≤ (k : Int) + lag ∧ (k : Int) + lag < lb then na.getD k 0 * nb.getD ((k : Int) + lag).toNat 0 else 0)
theorem mul_bound {x y : Int} (h : -2048 ≤ x ∧ x ≤ 2047) (g : -2048 ≤ y ∧ y ≤ 2047) : -4194304 ≤ x * y ∧ x * y ≤ 4194304 := by
  have h1 : x.natAbs ≤ 2048 := by omega
  have g1 : y.natAbs ≤ 2048 := by omega
  have h2 : x.natAbs * y.natAbs ≤ 2048 * 2048 := Nat.mul_le_mul h1 g1
  have h3 : (x * y).natAbs = x.natAbs * y.natAbs := Int.natAbs_mul x y
  omega
theorem corTo_bound {na nb : List Int} (h : ∀ i, -2048 ≤ na.getD i 0 ∧ na.getD i 0 ≤ 2047) (g : ∀ i, -2048 ≤ nb.getD i 0 ∧ nb.getD i 0 ≤ 2047) (lag lb : Int) : ∀ k : Nat, -(4194304 * k : Int) ≤ corTo na nb lag lb k ∧ corTo na nb lag lb k ≤ 4194304 * k
  | 0 => by simp [corTo]
  | k + 1 => by
    have := corTo_bound h g lag lb k
    have := mul_bound (h k) (g ((k : Int) + lag).toNat)
    simp only [corTo]
    split <;> omega
def ccode (a b : List Nat) (lag : Int) : Int := if scode a ≠ 0 then scode a else if scode b ≠ 0 then scode b else if lag < -4096 ∨ 4096 < lag then 34 else 0
def cval (a b : List Nat) (lag : Int) : Int := if ccode a b lag = 0 then corTo (nums a) (nums b) lag b.length a.length else 0
def CorPost (a b : List Nat) (lag : Int) (w : World) (e : Ending) (w' : World) : Prop := e = .returned (.tuple #[.int .i64 (cval a b lag), .int .i64 (ccode a b lag)]) ∧ Below w.heap.size w w'
theorem CorPost.bad {a b : List Nat} {lag c : Int} {w w' : World} {e : Ending} (hc : ccode a b lag = c) (h0 : c ≠ 0) (he : e = .returned (.tuple #[.int .i64 0, .int .i64 c])) (hb : Below w.heap.size w w') : CorPost a b lag w e w' := by
  refine ⟨?_, hb⟩
  unfold cval
  rw [hc, if_neg h0]
  exact he
set_option maxHeartbeats 2000000 in
theorem corr_bad (A : Option Addr) (ca : Nat) (a : List Nat) (B : Option Addr) (cb : Nat) (b : List Nat) (lag : Int) (w : World) (ha : a.length ≤ 9223372036854775807) (hb : b.length ≤ 9223372036854775807) (hA : FC w A a) (hB : FC w B b) (h0 : ccode a b lag ≠ 0) :
    Calls Try.prog 10 #[.slice A a.length ca, .slice B b.length cb, .int .i64 lag] w fun e w' => CorPost a b lag w e w' := by
  have HA := Lib.hid hA
  have HBB := Lib.hid hB
  have HB := Lib.hid ((Below.refl w.heap.size w).alloc (Nat.le_refl _) (.cells #[.slice A a.length ca, .slice B b.length cb] 22))
  clear hA hB
  obtain ⟨sa, hsa⟩ : ∃ sa, scode a = sa := ⟨_, rfl⟩
  obtain ⟨sb, hsb⟩ : ∃ sb, scode b = sb := ⟨_, rfl⟩
  have HS := Lib.hid (And.intro hsa hsb)
  have hcc : ccode a b lag = if sa ≠ 0 then sa else if sb ≠ 0 then sb else if lag < -4096 ∨ 4096 < lag then 34 else 0 := by unfold ccode; rw [hsa, hsb]
  rw [hcc] at h0
  clear hsa hsb
  by_cases h1 : sa = 0
  · subst h1
    rw [if_neg (by decide)] at hcc h0
    by_cases h2 : sb = 0
    · subst h2
      rw [if_neg (by decide)] at hcc h0
      have h3 : lag < -4096 ∨ 4096 < lag := by
        by_cases h : lag < -4096 ∨ 4096 < lag
        · exact h
        · rw [if_neg h] at h0; exact absurd rfl h0
      rw [if_pos h3] at hcc
      have HCC := Lib.hid hcc
      clear hcc h0
      rcases (show lag < -4096 ∨ (¬ lag < -4096 ∧ 4096 < lag) by omega) with h4 | ⟨h4, h5⟩
      · have d1 : decide (lag < -4096) = true := decide_eq_true h4
        clear h3
        go_enter Try.func10, Try.ntmps10
        go_wp2
        refine wp_loop_rounds 3 ?_
        rw [rounds_succ]
        go_wp2_with (go_at_call 18; refine (samples_calls A ca a _ ha (HA.out.below HB.out)).mono ?_; rw [HS.out.1]; rintro e w' ⟨rfl, rfl⟩)
        rw [rounds_succ]
        go_wp2_with (go_at_call 18; refine (samples_calls B cb b _ hb (HBB.out.below HB.out)).mono ?_; rw [HS.out.2]; rintro e w' ⟨rfl, rfl⟩)
        rw [rounds_succ]
        go_wp2
        go_ret2
        exact CorPost.bad HCC.out (by decide) rfl HB.out
      · have d1 : decide (lag < -4096) = false := decide_eq_false h4
        have d2 : decide (4096 < lag) = true := decide_eq_true h5
        clear h3
        go_enter Try.func10, Try.ntmps10
        go_wp2
        refine wp_loop_rounds 3 ?_
        rw [rounds_succ]
        go_wp2_with (go_at_call 18; refine (samples_calls A ca a _ ha (HA.out.below HB.out)).mono ?_; rw [HS.out.1]; rintro e w' ⟨rfl, rfl⟩)
        rw [rounds_succ]
        go_wp2_with (go_at_call 18; refine (samples_calls B cb b _ hb (HBB.out.below HB.out)).mono ?_; rw [HS.out.2]; rintro e w' ⟨rfl, rfl⟩)
        rw [rounds_succ]
        go_wp2
        go_ret2
        exact CorPost.bad HCC.out (by decide) rfl HB.out
    · rw [if_pos h2] at hcc
      have HCC := Lib.hid (And.intro hcc h2)
      have hne : (sb == 0) = false := by simpa using h2
      clear hcc h0 h2
      go_enter Try.func10, Try.ntmps10
      go_wp2
      refine wp_loop_rounds 3 ?_
      rw [rounds_succ]
      go_wp2_with (go_at_call 18; refine (samples_calls A ca a _ ha (HA.out.below HB.out)).mono ?_; rw [HS.out.1]; rintro e w' ⟨rfl, rfl⟩)
      rw [rounds_succ]
      go_wp2_with (go_at_call 18; refine (samples_calls B cb b _ hb (HBB.out.below HB.out)).mono ?_; rw [HS.out.2]; rintro e w' ⟨rfl, rfl⟩)
      go_ret2
      exact CorPost.bad HCC.out.1 HCC.out.2 rfl HB.out
  · rw [if_pos h1] at hcc
    have HCC := Lib.hid (And.intro hcc h1)
    have hne : (sa == 0) = false := by simpa using h1
    clear hcc h0 h1
    go_enter Try.func10, Try.ntmps10
    go_wp2
    refine wp_loop_rounds 3 ?_
    rw [rounds_succ]
    go_wp2_with (go_at_call 18; refine (samples_calls A ca a _ ha (HA.out.below HB.out)).mono ?_; rw [HS.out.1]; rintro e w' ⟨rfl, rfl⟩)
    go_ret2
    exact CorPost.bad HCC.out.1 HCC.out.2 rfl HB.out
end Go.Proofs.Ytmmhflpeapojgaa
