/- AbilitiesWithin (5): the whole law, for any two lists of operations. -/
import Derived.Test.YthccppldpfddjaaDoorW4
namespace Go.Proofs.YthccppldpfddjaaDoor
open Go.RowKit
set_option linter.unusedVariables false
theorem within_calls (b c : Nat) (lv lu : Nat → Value) (S T : St) (w : World) (h : RArr 64 77 43 w b lv S) (hS : StOk S) (hu : RArr 64 77 43 w c lu T) (hT : StOk T) :
    Calls Tryd.prog 18 #[.pointer (some ⟨b, 0, none⟩), .pointer (some ⟨c, 0, none⟩)] w fun e w' => e = .returned (.bool (wthB S T)) ∧ Below w.heap.size w w' :=
  (callsIn_wide (n := 5)).1 (within_in b c lv lu S T w h hS hu hT)
set_option maxHeartbeats 2000000 in
set_option maxRecDepth 100000 in
theorem within_none (b : Nat) (w : World) : Calls Tryd.prog 18 #[.pointer (some ⟨b, 0, none⟩), .pointer none] w fun e w' => e = .returned (.bool false) ∧ Below w.heap.size w w' := by
  have HB := Lib.hid (((Below.refl w.heap.size w).alloc (Nat.le_refl _) (.cells #[.pointer none] 24)).alloc (by simp) (.cells #[.bool false] 4))
  have HX := Lib.hid (heap_alloc_new (w.alloc (.cells #[.pointer none] 24)) (.cells #[.bool false] 4))
  go_enter Tryd.func18, Tryd.ntmps18
  go_wp2
  refine bodyPost_ret (v := .bool false) (results_cell_box rfl _ _ _ ⟨w.heap.size + 1, 0, none⟩ (.bool false) _ rfl ?_ Tryd.underlying4 rfl) rfl ⟨rfl, HB.out⟩
  have h9 := HX.out
  rw [World.size_alloc] at h9
  rw [cell_of_row _ _ _ _ _ _ h9]
  rfl
theorem RArr.far {n : Nat} {T E U : TypeId} {w w' : World} {t u : Nat} {lv : Nat → Value} {S : Nat → Rt} {cs : Array Value} (h : RArr n T E w t lv S) (hu : w.heap[u]? = some (.cells cs U (0, 0))) (hne : u ≠ t) (hT : U ≠ E) (hg : w.grownBy w' (some u)) : RArr n T E w' t lv S :=
  h.other hu hne hT fun k hk hne' => hg.block k hk (by simpa using hne')
theorem heap_ne {w : World} {a b : Nat} {cs ds : Array Value} {T U : TypeId} (h1 : w.heap[a]? = some (.cells cs T (0, 0))) (h2 : w.heap[b]? = some (.cells ds U (0, 0))) (h : T ≠ U) : a ≠ b := by
  rintro rfl
  rw [h1] at h2
  cases h2
  exact h rfl
/-- Two sets of the program and two of the reference. -/
structure VJ (w : World) (b1 b2 c1 c2 : Nat) (S1 S2 R1 R2 : St) (W : World) : Prop where
  bel : Below w.heap.size w W
  s1 : ∃ lv, RArr 64 77 43 W b1 lv S1
  s2 : ∃ lv, RArr 64 77 43 W b2 lv S2
  r1 : ∃ lv, RArr 64 109 116 W c1 lv R1
  r2 : ∃ lv, RArr 64 109 116 W c2 lv R2
  ge : w.heap.size ≤ b1 ∧ w.heap.size ≤ b2 ∧ w.heap.size ≤ c1 ∧ w.heap.size ≤ c2
  ne : b1 ≠ b2 ∧ c1 ≠ c2
theorem VJ.below {w : World} {b1 b2 c1 c2 : Nat} {S1 S2 R1 R2 : St} {W W' : World} (h : VJ w b1 b2 c1 c2 S1 S2 R1 R2 W) (hb : Below W.heap.size W W') : VJ w b1 b2 c1 c2 S1 S2 R1 R2 W' :=
  ⟨h.bel.trans (hb.mono h.bel.size), h.s1.imp fun _ h => h.below hb, h.s2.imp fun _ h => h.below hb, h.r1.imp fun _ h => h.below hb, h.r2.imp fun _ h => h.below hb, h.ge, h.ne⟩
theorem VJ.set1 {w : World} {b1 b2 c1 c2 : Nat} {S1 S2 R1 R2 S : St} {W W' : World} {lv : Nat → Value} (h : VJ w b1 b2 c1 c2 S1 S2 R1 R2 W) (hr : RArr 64 77 43 W' b1 lv S) (hg : W.grownBy W' (some b1)) : VJ w b1 b2 c1 c2 S S2 R1 R2 W' := by
  obtain ⟨l1, h1⟩ := h.s1
  obtain ⟨l2, h2⟩ := h.s2
  obtain ⟨l3, h3⟩ := h.r1
  obtain ⟨l4, h4⟩ := h.r2
  obtain ⟨cs, hc, -, -⟩ := h1.tab
  obtain ⟨ds, hd, -, -⟩ := h3.tab
  obtain ⟨es, he, -, -⟩ := h4.tab
  exact ⟨h.bel.grown hg h.bel.size (fun k hk => by cases hk; exact h.ge.1), ⟨_, hr⟩, ⟨_, h2.far hc h.ne.1 (by decide) hg⟩, ⟨_, h3.far hc (heap_ne hc hd (by decide)) (by decide) hg⟩, ⟨_, h4.far hc (heap_ne hc he (by decide)) (by decide) hg⟩, h.ge, h.ne⟩
theorem VJ.set2 {w : World} {b1 b2 c1 c2 : Nat} {S1 S2 R1 R2 S : St} {W W' : World} {lv : Nat → Value} (h : VJ w b1 b2 c1 c2 S1 S2 R1 R2 W) (hr : RArr 64 77 43 W' b2 lv S) (hg : W.grownBy W' (some b2)) : VJ w b1 b2 c1 c2 S1 S R1 R2 W' := by
  obtain ⟨l1, h1⟩ := h.s1
  obtain ⟨l2, h2⟩ := h.s2
  obtain ⟨l3, h3⟩ := h.r1
  obtain ⟨l4, h4⟩ := h.r2
  obtain ⟨cs, hc, -, -⟩ := h2.tab
  obtain ⟨ds, hd, -, -⟩ := h3.tab
  obtain ⟨es, he, -, -⟩ := h4.tab
  exact ⟨h.bel.grown hg h.bel.size (fun k hk => by cases hk; exact h.ge.2.1), ⟨_, h1.far hc (Ne.symm h.ne.1) (by decide) hg⟩, ⟨_, hr⟩, ⟨_, h3.far hc (heap_ne hc hd (by decide)) (by decide) hg⟩, ⟨_, h4.far hc (heap_ne hc he (by decide)) (by decide) hg⟩, h.ge, h.ne⟩
theorem VJ.ref1 {w : World} {b1 b2 c1 c2 : Nat} {S1 S2 R1 R2 S : St} {W W' : World} {lv : Nat → Value} (h : VJ w b1 b2 c1 c2 S1 S2 R1 R2 W) (hr : RArr 64 109 116 W' c1 lv S) (hg : W.grownBy W' (some c1)) : VJ w b1 b2 c1 c2 S1 S2 S R2 W' := by
  obtain ⟨l1, h1⟩ := h.s1
  obtain ⟨l2, h2⟩ := h.s2
  obtain ⟨l3, h3⟩ := h.r1
  obtain ⟨l4, h4⟩ := h.r2
  obtain ⟨cs, hc, -, -⟩ := h3.tab
  obtain ⟨ds, hd, -, -⟩ := h1.tab
  obtain ⟨es, he, -, -⟩ := h2.tab
  exact ⟨h.bel.grown hg h.bel.size (fun k hk => by cases hk; exact h.ge.2.2.1), ⟨_, h1.far hc (heap_ne hc hd (by decide)) (by decide) hg⟩, ⟨_, h2.far hc (heap_ne hc he (by decide)) (by decide) hg⟩, ⟨_, hr⟩, ⟨_, h4.far hc h.ne.2 (by decide) hg⟩, h.ge, h.ne⟩
theorem VJ.ref2 {w : World} {b1 b2 c1 c2 : Nat} {S1 S2 R1 R2 S : St} {W W' : World} {lv : Nat → Value} (h : VJ w b1 b2 c1 c2 S1 S2 R1 R2 W) (hr : RArr 64 109 116 W' c2 lv S) (hg : W.grownBy W' (some c2)) : VJ w b1 b2 c1 c2 S1 S2 R1 S W' := by
  obtain ⟨l1, h1⟩ := h.s1
  obtain ⟨l2, h2⟩ := h.s2
  obtain ⟨l3, h3⟩ := h.r1
  obtain ⟨l4, h4⟩ := h.r2
  obtain ⟨cs, hc, -, -⟩ := h4.tab
  obtain ⟨ds, hd, -, -⟩ := h1.tab
  obtain ⟨es, he, -, -⟩ := h2.tab
  exact ⟨h.bel.grown hg h.bel.size (fun k hk => by cases hk; exact h.ge.2.2.2), ⟨_, h1.far hc (heap_ne hc hd (by decide)) (by decide) hg⟩, ⟨_, h2.far hc (heap_ne hc he (by decide)) (by decide) hg⟩, ⟨_, h3.far hc (Ne.symm h.ne.2) (by decide) hg⟩, ⟨_, hr⟩, h.ge, h.ne⟩
theorem vj_start {w w1 w2 w3 w4 : World} (h1 : ∃ lv, RArr 64 77 43 w1 w.heap.size lv St0) (b1 : Below w.heap.size w w1) (h2 : ∃ lv, RArr 64 77 43 w2 w1.heap.size lv St0) (b2 : Below w1.heap.size w1 w2)
    (h3 : ∃ lv, RArr 64 109 116 w3 w2.heap.size lv St0) (b3 : Below w2.heap.size w2 w3) (h4 : ∃ lv, RArr 64 109 116 w4 w3.heap.size lv St0) (b4 : Below w3.heap.size w3 w4) :
    VJ w w.heap.size w1.heap.size w2.heap.size w3.heap.size St0 St0 St0 St0 w4 := by
  obtain ⟨l1, r1⟩ := h1
  obtain ⟨l2, r2⟩ := h2
  obtain ⟨l3, r3⟩ := h3
  have c3 : Below w2.heap.size w2 w4 := b3.trans (b4.mono b3.size)
  have c2 : Below w1.heap.size w1 w4 := b2.trans (c3.mono b2.size)
  have c1 : Below w.heap.size w w4 := b1.trans (c2.mono b1.size)
  have s1 := b1.size
  have s2 := b2.size
  have s3 := b3.size
  exact ⟨c1, ⟨_, r1.below c2⟩, ⟨_, r2.below c3⟩, ⟨_, r3.below b4⟩, h4, ⟨Nat.le_refl _, s1, by omega, by omega⟩, Nat.ne_of_lt r1.lt, Nat.ne_of_lt r3.lt⟩
set_option maxHeartbeats 16000000 in
set_option maxRecDepth 100000 in
theorem within_law (l : List OpA) (v1 : Value) (m : List OpA) (v2 : Value) (w : World) (hv : Ops w v1 l) (hu : Ops w v2 m) (hA : AwAt w) :
    Calls Tryd.prog 5 #[v1, v2] w fun e w' => e = .returned (.bool true) ∧ Below w.heap.size w w' := by
  obtain ⟨A, cap, rfl, -⟩ := id hv
  obtain ⟨B, cbp, rfl, -⟩ := id hu
  by_cases hlen : 210 < l.length
  · have hl : (210 : Int) < (l.length : Int) := by omega
    have HA := Lib.hid hA
    clear hv hu hlen hA
    go_enter Tryd.func5, Tryd.ntmps5
    go_wp2_with (go_at_call 9; refine (awake_calls _ HA.out).mono ?_; rintro e w1 ⟨rfl, h1⟩; have H1 := Lib.hid h1; clear h1)
    go_ret
    exact ⟨rfl, H1.out⟩
  have hl : (l.length : Int) ≤ 210 := by omega
  by_cases hlen2 : 210 < m.length
  · have hl2 : (210 : Int) < (m.length : Int) := by omega
    have HA := Lib.hid hA
    clear hv hu hlen hlen2 hA
    go_enter Tryd.func5, Tryd.ntmps5
    go_wp2_with (go_at_call 9; refine (awake_calls _ HA.out).mono ?_; rintro e w1 ⟨rfl, h1⟩; have H1 := Lib.hid h1; clear h1)
    go_ret
    exact ⟨rfl, H1.out⟩
  have hl2 : (m.length : Int) ≤ 210 := by omega
  have HL := Lib.hid (show l.length ≤ 210 ∧ m.length ≤ 210 from by omega)
  have HA := Lib.hid (And.intro hv (And.intro hu hA))
  have HS1 := Lib.hid (applyS_ok l St0_ok)
  have HS2 := Lib.hid (applyS_ok m St0_ok)
  have HW1 := Lib.hid (wth_same HS1.out HS2.out)
  have HW2 := Lib.hid (wth_same HS2.out HS1.out)
  have HW3 := Lib.hid (wth_refl (applyS St0 l))
  have HP1 := Lib.hid (fun W lv v' (hr : RArr 64 77 43 W w.heap.size lv St0) (hE : EffAt W) (ho : Os W v' l) => set_apply_calls w.heap.size lv St0 v' l W hE hr St0_ok ho)
  have HP2 := Lib.hid (fun W b lv v' (hr : RArr 64 77 43 W b lv St0) (hE : EffAt W) (ho : Os W v' m) => set_apply_calls b lv St0 v' m W hE hr St0_ok ho)
  have HR1 := Lib.hid (fun W b lv v' (hr : RArr 64 109 116 W b lv St0) (ho : Ops W v' l) => rapply_calls b lv St0 v' l W hr St0_ok ho)
  have HR2 := Lib.hid (fun W b lv v' (hr : RArr 64 109 116 W b lv St0) (ho : Ops W v' m) => rapply_calls b lv St0 v' m W hr St0_ok ho)
  generalize applyS St0 l = S1 at *
  generalize applyS St0 m = S2 at *
  generalize applyC St0 l = C1 at *
  generalize applyC St0 m = C2 at *
  have e1 : (C1 != C1) = false := by simp
  have e2 : (C2 != C2) = false := by simp
  have e3 : (wthB S1 S2 == wthB S1 S2) = true := by simp
  have e4 : (wthB S2 S1 == wthB S2 S1) = true := by simp
  clear hv hu hA hlen hlen2
  go_enter Tryd.func5, Tryd.ntmps5
  go_wp2_with (first
    | (go_at_call 10; first
        | (refine (new_calls w).mono ?_; rintro e w1 ⟨rfl, h1, h2⟩; have H1 := Lib.hid (And.intro h1 h2); clear h1 h2)
        | (refine (new_calls w1).mono ?_; rintro e w2 ⟨rfl, h1, h2⟩; have H2 := Lib.hid (And.intro h1 h2); clear h1 h2))
    | (go_at_call 16; first
        | (refine (rnew_calls w2).mono ?_; rintro e w3 ⟨rfl, h1, h2⟩; have H3 := Lib.hid (And.intro h1 h2); clear h1 h2)
        | (refine (rnew_calls w3).mono ?_; rintro e w4 ⟨rfl, h1, h2⟩; have H4 := Lib.hid (vj_start H1.out.1 H1.out.2 H2.out.1 H2.out.2 H3.out.1 H3.out.2 h1 h2); clear h1 h2 H1 H2 H3))
    | (go_at_call 12; first
        | (refine (ops_calls _ l w4 (HA.out.1.below H4.out.bel) (by have := HL.out.1; omega)).mono ?_; rintro e w5 ⟨v5, rfl, h1, h2⟩; obtain ⟨A5, c5, rfl, -, -, -, -⟩ := Rw.form h1; have H5 := Lib.hid (And.intro h1 (H4.out.below h2)); clear h1 h2 H4)
        | (refine (ops_calls _ m w7 (HA.out.2.1.below H7.out.bel) (by have := HL.out.2; omega)).mono ?_; rintro e w8 ⟨v8, rfl, h1, h2⟩; obtain ⟨A8, c8, rfl, -, -, -, -⟩ := Rw.form h1; have H8 := Lib.hid (And.intro h1 (H7.out.below h2)); clear h1 h2 H7))
    | (go_at_call 11; first
        | (obtain ⟨lva, hra⟩ := H5.out.2.s1; refine (HP1.out w5 lva _ hra (HA.out.2.2.below H5.out.2.bel).eff H5.out.1).mono ?_; rintro e w6 ⟨rfl, lv6, h1, h2⟩; have H6 := Lib.hid (VJ.set1 H5.out.2 h1 h2); clear h1 h2 hra H5)
        | (obtain ⟨lva, hra⟩ := H8.out.2.s2; refine (HP2.out w8 _ lva _ hra (HA.out.2.2.below H8.out.2.bel).eff H8.out.1).mono ?_; rintro e w9 ⟨rfl, lv9, h1, h2⟩; have H9 := Lib.hid (VJ.set2 H8.out.2 h1 h2); clear h1 h2 hra H8))
    | (go_at_call 17; first
        | (obtain ⟨lva, hra⟩ := H6.out.r1; refine (HR1.out w6 _ lva _ hra (HA.out.1.below H6.out.bel)).mono ?_; rintro e w7 ⟨rfl, lv7, h1, h2⟩; have H7 := Lib.hid (VJ.ref1 H6.out h1 h2); clear h1 h2 hra H6)
        | (obtain ⟨lva, hra⟩ := H9.out.r2; refine (HR2.out w9 _ lva _ hra (HA.out.2.1.below H9.out.bel)).mono ?_; rintro e wa ⟨rfl, lva2, h1, h2⟩; have Ha := Lib.hid (VJ.ref2 H9.out h1 h2); clear h1 h2 hra H9))
    | (go_at_call 18; first
        | (obtain ⟨lva, hra⟩ := Ha.out.s1; obtain ⟨lvb, hrb⟩ := Ha.out.s2; refine (within_calls _ _ lva lvb S1 S2 wa hra HS1.out hrb HS2.out).mono ?_; rintro e wb ⟨rfl, h1⟩; have Hb := Lib.hid (VJ.below Ha.out h1); clear h1 hra hrb Ha)
        | (obtain ⟨lva, hra⟩ := Hc.out.s1; obtain ⟨lvb, hrb⟩ := Hc.out.s2; refine (within_calls _ _ lvb lva S2 S1 wc hrb HS2.out hra HS1.out).mono ?_; rintro e wd ⟨rfl, h1⟩; have Hd := Lib.hid (VJ.below Hc.out h1); clear h1 hra hrb Hc)
        | (obtain ⟨lva, hra⟩ := He.out.s1; have h0 := within_calls _ _ lva lva S1 S1 we hra HS1.out hra HS1.out; rw [HW3.out] at h0; refine h0.mono ?_; rintro e wf ⟨rfl, h1⟩; have Hf := Lib.hid (VJ.below He.out h1); clear h0 h1 hra He)
        | (refine (within_none _ wf).mono ?_; rintro e wg ⟨rfl, h1⟩; have Hg := Lib.hid (VJ.below Hf.out h1); clear h1 Hf))
    | (go_at_call 19; first
        | (obtain ⟨lva, hra⟩ := Hb.out.r1; obtain ⟨lvb, hrb⟩ := Hb.out.r2; have h0 := rwithin_calls _ _ lva lvb S1 S2 wb hra HS1.out hrb HS2.out; rw [HW1.out] at h0; refine h0.mono ?_; rintro e wc ⟨rfl, h1⟩; have Hc := Lib.hid (VJ.below Hb.out h1); clear h0 h1 hra hrb Hb)
        | (obtain ⟨lva, hra⟩ := Hd.out.r1; obtain ⟨lvb, hrb⟩ := Hd.out.r2; have h0 := rwithin_calls _ _ lvb lva S2 S1 wd hrb HS2.out hra HS1.out; rw [HW2.out] at h0; refine h0.mono ?_; rintro e we ⟨rfl, h1⟩; have He := Lib.hid (VJ.below Hd.out h1); clear h0 h1 hra hrb Hd))
    | (go_at_call 9; refine (awake_calls _ (HA.out.2.2.below Hg.out.bel)).mono ?_; rintro e wh ⟨rfl, h1⟩; have Hh := Lib.hid (Hg.out.bel.trans (h1.mono Hg.out.bel.size)); clear h1))
  go_ret
  exact ⟨rfl, Hh.out⟩
end Go.Proofs.YthccppldpfddjaaDoor
