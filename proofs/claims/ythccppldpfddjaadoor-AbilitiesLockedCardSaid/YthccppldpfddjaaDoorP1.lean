/- AbilitiesParts (3). -/
import Derived.Test.YthccppldpfddjaaDoorE1
import Derived.Test.YthccppldpfddjaaDoorM3
namespace Go.Proofs.YthccppldpfddjaaDoor
open Go.RowKit
set_option linter.unusedVariables false
theorem RArr.grown {n : Nat} {T E : TypeId} {w w' : World} {t u : Nat} {lv lv2 : Nat → Value} {S S2 : Nat → Rt} (h : RArr n T E w t lv S) (h2 : RArr n T E w u lv2 S2) (hg : w.grownBy w' (some u)) (hne : t ≠ u) (hTE : T ≠ E) : RArr n T E w' t lv S := by
  obtain ⟨cs, hc, -, -⟩ := h2.tab
  exact h.other hc (Ne.symm hne) hTE fun k hk hne' => hg.block k hk (by simpa using hne')
/-- What the walk of Parts keeps: three sets. -/
structure PJ (w : World) (b1 b2 b3 : Nat) (S1 S2 S3 : St) (W : World) : Prop where
  bel : Below w.heap.size w W
  s1 : ∃ lv, RArr 64 77 43 W b1 lv S1
  s2 : ∃ lv, RArr 64 77 43 W b2 lv S2
  s3 : ∃ lv, RArr 64 77 43 W b3 lv S3
  ne : w.heap.size ≤ b1 ∧ b1 < b2 ∧ b2 < b3
theorem PJ.below {w : World} {b1 b2 b3 : Nat} {S1 S2 S3 : St} {W W' : World} (h : PJ w b1 b2 b3 S1 S2 S3 W) (hb : Below W.heap.size W W') : PJ w b1 b2 b3 S1 S2 S3 W' :=
  ⟨h.bel.trans (hb.mono h.bel.size), h.s1.imp fun _ h => h.below hb, h.s2.imp fun _ h => h.below hb, h.s3.imp fun _ h => h.below hb, h.ne⟩
theorem PJ.one {w : World} {b1 b2 b3 : Nat} {S1 S2 S3 S : St} {W W' : World} {lv : Nat → Value} (h : PJ w b1 b2 b3 S1 S2 S3 W) (hr : RArr 64 77 43 W' b1 lv S) (hg : W.grownBy W' (some b1)) : PJ w b1 b2 b3 S S2 S3 W' := by
  obtain ⟨l1, h1⟩ := h.s1
  obtain ⟨l2, h2⟩ := h.s2
  obtain ⟨l3, h3⟩ := h.s3
  obtain ⟨n1, n2, n3⟩ := h.ne
  exact ⟨h.bel.grown hg h.bel.size (fun k hk => by cases hk; exact n1), ⟨_, hr⟩, ⟨_, h2.grown h1 hg (by omega) (by decide)⟩, ⟨_, h3.grown h1 hg (by omega) (by decide)⟩, n1, n2, n3⟩
theorem PJ.two {w : World} {b1 b2 b3 : Nat} {S1 S2 S3 S : St} {W W' : World} {lv : Nat → Value} (h : PJ w b1 b2 b3 S1 S2 S3 W) (hr : RArr 64 77 43 W' b2 lv S) (hg : W.grownBy W' (some b2)) : PJ w b1 b2 b3 S1 S S3 W' := by
  obtain ⟨l1, h1⟩ := h.s1
  obtain ⟨l2, h2⟩ := h.s2
  obtain ⟨l3, h3⟩ := h.s3
  obtain ⟨n1, n2, n3⟩ := h.ne
  exact ⟨h.bel.grown hg h.bel.size (fun k hk => by cases hk; omega), ⟨_, h1.grown h2 hg (by omega) (by decide)⟩, ⟨_, hr⟩, ⟨_, h3.grown h2 hg (by omega) (by decide)⟩, n1, n2, n3⟩
theorem pj_start {w w1 w2 w3 : World} (h1 : ∃ lv, RArr 64 77 43 w1 w.heap.size lv St0) (b1 : Below w.heap.size w w1) (h2 : ∃ lv, RArr 64 77 43 w2 w1.heap.size lv St0) (b2 : Below w1.heap.size w1 w2) (h3 : ∃ lv, RArr 64 77 43 w3 w2.heap.size lv St0) (b3 : Below w2.heap.size w2 w3) :
    PJ w w.heap.size w1.heap.size w2.heap.size St0 St0 St0 w3 := by
  obtain ⟨l1, r1⟩ := h1
  obtain ⟨l2, r2⟩ := h2
  exact ⟨b1.trans ((b2.trans (b3.mono b2.size)).mono b1.size), ⟨_, r1.below (b2.trans (b3.mono b2.size))⟩, ⟨_, r2.below b3⟩, h3, Nat.le_refl _, r1.lt, r2.lt⟩
theorem ops_new (w : World) (l : List OpA) : Ops (w.alloc (.cells (ocells l).toArray 31)) (.slice (some ⟨w.heap.size, 0, none⟩) l.length l.length) l := by
  refine ⟨_, _, rfl, fun j u hj => ⟨w.heap.size, 0, rfl, ?_⟩⟩
  rw [cell_of_row _ _ _ _ _ _ (heap_alloc_new w _), Nat.zero_add]
  simpa using hj
set_option maxHeartbeats 8000000 in
set_option maxRecDepth 100000 in
theorem parts_law (l : List OpA) (v : Value) (w : World) (hv : Ops w v l) (hA : AwAt w) : Calls Tryd.prog 3 #[v] w fun e w' => e = .returned (.bool true) ∧ Below w.heap.size w w' := by
  obtain ⟨A, cap, rfl, -⟩ := id hv
  by_cases hlen : 200 < l.length
  · have hl : (200 : Int) < (l.length : Int) := by omega
    have HA := Lib.hid hA
    clear hv hlen hA
    go_enter Tryd.func3, Tryd.ntmps3
    go_wp2_with (go_at_call 9; refine (awake_calls _ HA.out).mono ?_; rintro e w1 ⟨rfl, h1⟩; have H1 := Lib.hid h1; clear h1)
    go_ret
    exact ⟨rfl, H1.out⟩
  · have hl : (l.length : Int) ≤ 200 := by omega
    have HL := Lib.hid (show l.length ≤ 200 from by omega)
    have HA := Lib.hid (And.intro hv hA)
    clear hv hA hlen
    go_enter Tryd.func3, Tryd.ntmps3
    go_wp2_with (first
      | (go_at_call 10; first
          | (refine (new_calls w).mono ?_; rintro e w1 ⟨rfl, h1, h2⟩; have H1 := Lib.hid (And.intro h1 h2); clear h1 h2)
          | (refine (new_calls w1).mono ?_; rintro e w2 ⟨rfl, h1, h2⟩; have H2 := Lib.hid (And.intro h1 h2); clear h1 h2)
          | (refine (new_calls w2).mono ?_; rintro e w3 ⟨rfl, h1, h2⟩; have H3 := Lib.hid (And.intro h1 h2); clear h1 h2))
      | (go_at_call 12; refine (ops_calls _ l w3 (HA.out.1.below (H1.out.2.trans ((H2.out.2.trans (H3.out.2.mono H2.out.2.size)).mono H1.out.2.size))) (by have := HL.out; omega)).mono ?_; rintro e w4 ⟨v4, rfl, h1, h2⟩; obtain ⟨A4, c4, rfl, -, -, -, -⟩ := Rw.form h1; have H4 := Lib.hid (And.intro h1 (PJ.below (pj_start H1.out.1 H1.out.2 H2.out.1 H2.out.2 H3.out.1 H3.out.2) h2)); clear h1 h2)
      | (go_at_call 11; obtain ⟨lv1, hr1⟩ := H4.out.2.s1; refine (set_apply_calls w.heap.size lv1 St0 _ l w4 (HA.out.2.below H4.out.2.bel).eff hr1 St0_ok H4.out.1).mono ?_; rintro e w5 ⟨rfl, lv5, h1, h2⟩; have H5 := Lib.hid (PJ.one H4.out.2 h1 h2); clear h1 h2 hr1))
    have HP := Lib.hid (parts_same l HL.out)
    clear H4
    go_loopw [34, 7] (fun i x wr => ∃ k : Nat, k ≤ l.length ∧ i = .int .i64 k ∧ x = .int .i64 (partF St0 0 (l.take k)).2 ∧ Hid (PJ w w.heap.size w1.heap.size w2.heap.size (applyS St0 l) (partF St0 0 (l.take k)).1 St0 wr)) (fun i _ _ => l.length - (intOf i).toNat)
    case atStart => exact ⟨0, by omega, rfl, rfl, H5⟩
    case round =>
      clear H5
      obtain ⟨k, hk, rfl, rfl, HJ⟩ := hrel
      by_cases hlt : k < l.length
      · have hlt' : (k : Int) < (l.length : Int) := by omega
        obtain ⟨g, go, rfl, q0, q1, q2, q3, q4⟩ := Ops.at (HA.out.1.below HJ.out.bel) rfl hlt
        have HT := Lib.hid (show partF St0 0 (l.take (k + 1)) = (stepS (partF St0 0 (l.take k)).1 l[k], if codeS (partF St0 0 (l.take k)).1 l[k] ≠ 0 ∧ (partF St0 0 (l.take k)).2 = 0 then codeS (partF St0 0 (l.take k)).1 l[k] else (partF St0 0 (l.take k)).2) from by rw [List.take_succ_eq_append_getElem hlt]; exact partF_snoc St0 0 (l.take k) l[k])
        have HSo := Lib.hid (partF_ok 0 (l.take k) St0_ok)
        generalize l[k] = o at *
        generalize hS2 : (partF St0 0 (l.take k)).1 = S2 at *
        generalize hF2 : (partF St0 0 (l.take k)).2 = F2 at *
        have HOo := Lib.hid (ops_new (wr.alloc (.cells #[.int .i64 o.kind, .int .i64 o.ab, .int .i64 o.dom, .int .i64 o.lo, .int .i64 o.hi] 31)) [o])
        rw [World.size_alloc, show (ocells [o]).toArray = #[.int .i64 o.kind, .int .i64 o.ab, .int .i64 o.dom, .int .i64 o.lo, .int .i64 o.hi] from rfl] at HOo
        have HO2 := Lib.hid (PJ.below HJ.out (((Below.refl wr.heap.size wr).alloc (Nat.le_refl _) (.cells #[.int .i64 o.kind, .int .i64 o.ab, .int .i64 o.dom, .int .i64 o.lo, .int .i64 o.hi] 31)).alloc (by simp) (.cells #[.int .i64 o.kind, .int .i64 o.ab, .int .i64 o.dom, .int .i64 o.lo, .int .i64 o.hi] 31)))
        have HOc := Lib.hid (ops_calls _ [o] _ HOo.out (by simp))
        have HAp := Lib.hid (fun W lv v' (hp : PJ w w.heap.size w1.heap.size w2.heap.size (applyS St0 l) S2 St0 W) (hr : RArr 64 77 43 W w1.heap.size lv S2) (ho : Os W v' [o]) => set_apply_calls w1.heap.size lv S2 v' [o] W (HA.out.2.below hp.bel).eff hr HSo.out ho)
        rw [applyC_one, applyS_one] at HAp
        clear HOo
        by_cases hc : codeS S2 o = 0
        · have HTT := Lib.hid (show (partF St0 0 (l.take (k + 1))).2 = F2 from by rw [HT.out]; simp [hc])
          have HT1 := Lib.hid (show (partF St0 0 (l.take (k + 1))).1 = stepS S2 o from by rw [HT.out])
          rw [hc] at HAp
          clear hc
          go_wp2_with (first
            | (go_at_call 12; refine HOc.out.mono ?_; rintro e w5 ⟨v5, rfl, h1, h2⟩; obtain ⟨A5, c5, rfl, -, -, -, -⟩ := Rw.form h1; have H6 := Lib.hid (And.intro h1 (PJ.below HO2.out h2)); clear h1 h2)
            | (go_at_call 11; obtain ⟨lv2, hr2⟩ := H6.out.2.s2; refine (HAp.out w5 lv2 _ H6.out.2 hr2 H6.out.1).mono ?_; rintro e w6 ⟨rfl, lv6, h1, h2⟩; have H7 := Lib.hid (PJ.two H6.out.2 h1 h2); clear h1 h2 hr2))
          go_roundw
          case rel => exact ⟨k + 1, by omega, by go_num, by rw [HTT.out], Lib.hid (by rw [HT1.out]; exact H7.out)⟩
          case measure => simp [intOf]; omega
        · have HT1 := Lib.hid (show (partF St0 0 (l.take (k + 1))).1 = stepS S2 o from by rw [HT.out])
          have hcn : (codeS S2 o != 0) = true := by simpa using hc
          by_cases hf : F2 = 0
          · have HTT := Lib.hid (show (partF St0 0 (l.take (k + 1))).2 = codeS S2 o from by rw [HT.out]; simp [hc, hf])
            clear hc
            go_wp2_with (first
              | (go_at_call 12; refine HOc.out.mono ?_; rintro e w5 ⟨v5, rfl, h1, h2⟩; obtain ⟨A5, c5, rfl, -, -, -, -⟩ := Rw.form h1; have H6 := Lib.hid (And.intro h1 (PJ.below HO2.out h2)); clear h1 h2)
              | (go_at_call 11; obtain ⟨lv2, hr2⟩ := H6.out.2.s2; refine (HAp.out w5 lv2 _ H6.out.2 hr2 H6.out.1).mono ?_; rintro e w6 ⟨rfl, lv6, h1, h2⟩; have H7 := Lib.hid (PJ.two H6.out.2 h1 h2); clear h1 h2 hr2))
            go_roundw
            case rel => exact ⟨k + 1, by omega, by go_num, by rw [HTT.out], Lib.hid (by rw [HT1.out]; exact H7.out)⟩
            case measure => simp [intOf]; omega
          · have hfn : (F2 == 0) = false := by simpa using hf
            have HTT := Lib.hid (show (partF St0 0 (l.take (k + 1))).2 = F2 from by rw [HT.out]; simp [hc, hf])
            clear hc hf
            go_wp2_with (first
              | (go_at_call 12; refine HOc.out.mono ?_; rintro e w5 ⟨v5, rfl, h1, h2⟩; obtain ⟨A5, c5, rfl, -, -, -, -⟩ := Rw.form h1; have H6 := Lib.hid (And.intro h1 (PJ.below HO2.out h2)); clear h1 h2)
              | (go_at_call 11; obtain ⟨lv2, hr2⟩ := H6.out.2.s2; refine (HAp.out w5 lv2 _ H6.out.2 hr2 H6.out.1).mono ?_; rintro e w6 ⟨rfl, lv6, h1, h2⟩; have H7 := Lib.hid (PJ.two H6.out.2 h1 h2); clear h1 h2 hr2))
            go_roundw
            case rel => exact ⟨k + 1, by omega, by go_num, by rw [HTT.out], Lib.hid (by rw [HT1.out]; exact H7.out)⟩
            case measure => simp [intOf]; omega
      · obtain rfl : k = l.length := by omega
        rw [List.take_length] at HJ ⊢
        rw [← HP.out.1]
        by_cases hE : applyC St0 l = 0
        · have HJ2 := Lib.hid (show PJ w w.heap.size w1.heap.size w2.heap.size (applyS St0 l) (applyS St0 l) St0 wr from by have h := HJ.out; rw [← HP.out.2.1 hE] at h; exact h)
          have HSO := Lib.hid (applyS_ok l St0_ok)
          generalize applyS St0 l = SA at *
          clear HJ HP
          generalize applyC St0 l = E at *
          subst hE
          go_wp2_with (first
            | (go_at_call 13; first
                | (obtain ⟨lva, hra⟩ := HJ2.out.s1; refine (text_calls _ lva _ wr hra HSO.out (HA.out.2.below HJ2.out.bel).dom (HA.out.2.below HJ2.out.bel).pow).mono ?_; rintro e w7 ⟨rfl, h1⟩; have H8 := Lib.hid (PJ.below HJ2.out h1); clear h1 hra HJ2)
                | (obtain ⟨lva, hra⟩ := H8.out.s2; refine (text_calls _ lva _ w7 hra HSO.out (HA.out.2.below H8.out.bel).dom (HA.out.2.below H8.out.bel).pow).mono ?_; rintro e w8 ⟨rfl, h1⟩; have H9 := Lib.hid (PJ.below H8.out h1); clear h1 hra))
            | (go_at_call 9; refine (awake_calls _ (HA.out.2.below H9.out.bel)).mono ?_; rintro e w9 ⟨rfl, h1⟩; have H10 := Lib.hid (H9.out.bel.trans (h1.mono H9.out.bel.size)); clear h1))
          go_ret
          exact ⟨rfl, H10.out⟩
        · have HJ2 := Lib.hid (show PJ w w.heap.size w1.heap.size w2.heap.size St0 (partF St0 0 l).1 St0 wr from by have h := HJ.out; rw [HP.out.2.2 hE] at h; exact h)
          have HSO := Lib.hid St0_ok
          have hEn : (applyC St0 l != 0) = true := by simpa using hE
          clear HJ HP hE
          generalize applyC St0 l = E at *
          go_wp2_with (first
            | (go_at_call 13; first
                | (obtain ⟨lva, hra⟩ := HJ2.out.s1; refine (text_calls _ lva _ wr hra HSO.out (HA.out.2.below HJ2.out.bel).dom (HA.out.2.below HJ2.out.bel).pow).mono ?_; rintro e w7 ⟨rfl, h1⟩; have H8 := Lib.hid (PJ.below HJ2.out h1); clear h1 hra HJ2)
                | (obtain ⟨lva, hra⟩ := H8.out.s3; refine (text_calls _ lva _ w7 hra HSO.out (HA.out.2.below H8.out.bel).dom (HA.out.2.below H8.out.bel).pow).mono ?_; rintro e w8 ⟨rfl, h1⟩; have H9 := Lib.hid (PJ.below H8.out h1); clear h1 hra))
            | (go_at_call 9; refine (awake_calls _ (HA.out.2.below H9.out.bel)).mono ?_; rintro e w9 ⟨rfl, h1⟩; have H10 := Lib.hid (H9.out.bel.trans (h1.mono H9.out.bel.size)); clear h1))
          go_ret
          exact ⟨rfl, H10.out⟩
end Go.Proofs.YthccppldpfddjaaDoor
