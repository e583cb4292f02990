/- awake (9). -/
import Derived.Test.YthccppldpfddjaaDoorD5
namespace Go.Proofs.YthccppldpfddjaaDoor
open Go.RowKit
set_option linter.unusedVariables false
theorem applyS_bad {S : St} {l : List OpA} (h : applyC S l ≠ 0) : applyS S l = S := by unfold applyS; rw [if_neg h]
theorem os_new (w : World) (l : List OpA) (h : l.length ≤ maxLen) : Os (w.alloc (.cells (ocells l).toArray 35)) (.slice (some ⟨w.heap.size, 0, none⟩) l.length l.length) l := by
  refine ⟨ocells_len l, .inr ⟨w.heap.size, l.length, _, rfl, heap_alloc_new w _, Nat.le_refl _, h, ?_, ?_⟩⟩
  · simp [ocells_len]
  · rw [← ocells_len]; simp
/-- What the package's variables hold. -/
structure AwAt (w : World) : Prop where
  eff : EffAt w
  dom : DomAt w
  pow : PowAt w
theorem DomAt.below {w w' : World} {B : Nat} (h : DomAt w) (h0 : 0 < B) (hb : Below B w w') : DomAt w' := fun d hd => (World.cell?_of_block (hb.block 0 h0)).trans (h d hd)
theorem AwAt.low {w : World} (h : AwAt w) : 1 < w.heap.size := h.eff.lt
theorem AwAt.below {w w' : World} (h : AwAt w) (hb : Below w.heap.size w w') : AwAt w' :=
  ⟨h.eff.below hb, h.dom.below (by have := h.low; omega) hb, h.pow.below h.pow.low hb⟩
set_option maxHeartbeats 4000000 in
set_option maxRecDepth 100000 in
theorem awake_calls (w : World) (hA : AwAt w) : Calls Tryd.prog 9 #[] w fun e w' => e = .returned (.bool true) ∧ Below w.heap.size w w' := by
  have HA := Lib.hid hA
  have HN := Lib.hid (new_calls w)
  have hc1 : (ocells aw1).toArray = #[.int .i64 1, .int .i64 5, .int .i64 1, .int .i64 10, .int .i64 20, .int .i64 2, .int .i64 5, .int .i64 1, .int .i64 0, .int .i64 0] := rfl
  have hc2 : (ocells aw2).toArray = #[.int .i64 0, .int .i64 5, .int .i64 1, .int .i64 15, .int .i64 15] := rfl
  have HC := Lib.hid (And.intro hc1 hc2)
  have HL1 := Lib.hid (show ∀ (w1 : World) lv (h : RArr 64 77 43 w1 w.heap.size lv St0) (hb : Below w.heap.size w w1), Calls Tryd.prog 11 #[.pointer (some ⟨w.heap.size, 0, none⟩), .slice (some ⟨w1.heap.size, 0, none⟩) 2 2] (w1.alloc (.cells #[.int .i64 1, .int .i64 5, .int .i64 1, .int .i64 10, .int .i64 20, .int .i64 2, .int .i64 5, .int .i64 1, .int .i64 0, .int .i64 0] 35)) fun e w' => e = .returned (.int .i64 0) ∧ (∃ lv', RArr 64 77 43 w' w.heap.size lv' (applyS St0 aw1)) ∧ Below w.heap.size w w' from fun w1 lv h hb => by
    have h2 := os_new w1 aw1 (by unfold maxLen; decide)
    rw [HC.out.1] at h2
    have hb1 := (Below.refl w1.heap.size w1).alloc (Nat.le_refl _) (.cells #[.int .i64 1, .int .i64 5, .int .i64 1, .int .i64 10, .int .i64 20, .int .i64 2, .int .i64 5, .int .i64 1, .int .i64 0, .int .i64 0] 35)
    refine (set_apply_calls w.heap.size lv St0 _ aw1 _ (HA.out.eff.below (hb.trans (hb1.mono hb.size))) (h.below hb1) St0_ok h2).mono ?_
    rintro e w' ⟨rfl, lv', h3, h4⟩
    exact ⟨by rw [aw_one], ⟨lv', h3⟩, (hb.trans (hb1.mono hb.size)).grown h4 (Nat.le_trans hb.size hb1.size) (fun k hk => by cases hk; exact Nat.le_refl _)⟩)
  have HL2 := Lib.hid (show ∀ (w1 : World) lv (h : RArr 64 77 43 w1 w.heap.size lv (applyS St0 aw1)) (hb : Below w.heap.size w w1), Calls Tryd.prog 11 #[.pointer (some ⟨w.heap.size, 0, none⟩), .slice (some ⟨w1.heap.size, 0, none⟩) 1 1] (w1.alloc (.cells #[.int .i64 0, .int .i64 5, .int .i64 1, .int .i64 15, .int .i64 15] 35)) fun e w' => e = .returned (.int .i64 32) ∧ (∃ lv', RArr 64 77 43 w' w.heap.size lv' (applyS St0 aw1)) ∧ Below w.heap.size w w' from fun w1 lv h hb => by
    have h2 := os_new w1 aw2 (by unfold maxLen; decide)
    rw [HC.out.2] at h2
    have hb1 := (Below.refl w1.heap.size w1).alloc (Nat.le_refl _) (.cells #[.int .i64 0, .int .i64 5, .int .i64 1, .int .i64 15, .int .i64 15] 35)
    refine (set_apply_calls w.heap.size lv (applyS St0 aw1) _ aw2 _ (HA.out.eff.below (hb.trans (hb1.mono hb.size))) (h.below hb1) (applyS_ok aw1 St0_ok) h2).mono ?_
    rintro e w' ⟨rfl, lv', h3, h4⟩
    refine ⟨by rw [aw_two], ⟨lv', ?_⟩, (hb.trans (hb1.mono hb.size)).grown h4 (Nat.le_trans hb.size hb1.size) (fun k hk => by cases hk; exact Nat.le_refl _)⟩
    rw [applyS_bad (S := applyS St0 aw1) (by rw [aw_two]; decide)] at h3
    exact h3)
  clear hA hc1 hc2 HC
  go_enter Tryd.func9, Tryd.ntmps9
  go_wp2_with (first
    | (go_at_call 10; refine HN.out.mono ?_; rintro e w1 ⟨rfl, ⟨lv1, h1⟩, h2⟩; have H1 := Lib.hid (And.intro h1 h2); clear h1 h2)
    | (go_at_call 11; first
        | (refine (HL1.out _ lv1 H1.out.1 H1.out.2).mono ?_; rintro e w2 ⟨rfl, ⟨lv2, h1⟩, h2⟩; have H2 := Lib.hid (And.intro h1 h2); clear h1 h2 HL1)
        | (refine (HL2.out _ lv2 H2.out.1 H2.out.2).mono ?_; rintro e w3 ⟨rfl, ⟨lv3, h1⟩, h2⟩; have H3 := Lib.hid (And.intro h1 h2); clear h1 h2))
    | (go_at_call 13; refine (text_calls w.heap.size lv3 (applyS St0 aw1) w3 H3.out.1 (applyS_ok aw1 St0_ok) (HA.out.below H3.out.2).dom (HA.out.below H3.out.2).pow).mono ?_; rw [aw_text]; rintro e w4 ⟨rfl, h4⟩; have H4 := Lib.hid (H3.out.2.trans (h4.mono H3.out.2.size)); clear h4))
  go_ret
  exact ⟨rfl, H4.out⟩
end Go.Proofs.YthccppldpfddjaaDoor
