/- The law PathsBack, awake given. -/
import Derived.Test.YtedoonfegcgmeaaE2
namespace Go.Proofs.Ytedoonfegcgmeaa
open Go.RowKit
set_option linter.unusedVariables false
/-- A mark in the context: how far the walk has come. -/
inductive Mark : Nat → Prop
  | mk (n : Nat) : Mark n
set_option maxHeartbeats 4000000 in
set_option maxRecDepth 100000 in
theorem back_law (HAW : Awake) (a b : Bs) (w : World) : Calls Try.prog 4 #[str a, str b] w fun e w' => e = .returned (.bool true) ∧ Below w.heap.size w w' := by
  have HA := Lib.hid HAW
  unfold Awake at HA
  clear HAW
  have H7 := Lib.hid (fun W => cleanP_calls a W)
  by_cases he : (cleanS a).2 = 0
  · obtain ⟨c, hc⟩ : ∃ c, cleanS a = (c, 0) := ⟨(cleanS a).1, Prod.ext rfl he⟩
    have hid := clean_idem a he
    have hq := cleanQ_of a he
    rw [hc] at H7 hid hq
    simp only at H7 hid hq
    have H7c := Lib.hid (fun W => cleanP_calls c W)
    rw [hid] at H7c
    have H9 := Lib.hid (fun W => joinP_calls c b W)
    have H11 := Lib.hid (fun W => coversP_calls c c W)
    rw [covers_self hq] at H11
    have H11r := Lib.hid (fun W => coversP_calls [47] c W)
    rw [covers_root hq] at H11r
    have H7b : Hid (b.head? = some 47 → ∀ W, Calls Try.prog 7 #[str b] W fun e w' => e = .returned (.tuple #[str (joinS c b).1, .int .i64 (joinS c b).2]) ∧ Below W.heap.size W w') := Lib.hid fun hb W => by
      rw [join_abs c b (by rw [hid]) hb]
      exact cleanP_calls b W
    have H11p : Hid ((joinS c b).2 = 0 → ∀ W, Calls Try.prog 11 #[str [47], str (joinS c b).1] W fun e w' => e = .returned (.bool true) ∧ Below W.heap.size W w') := Lib.hid fun h W => by
      have := coversP_calls [47] (joinS c b).1 W
      rw [covers_root (joinS_zero c b h)] at this
      exact this
    generalize joinS c b = ja at *
    obtain ⟨p, g⟩ := ja
    simp only at H9 H7b H11p H7c
    clear hid hq he hc
    have walk : ∀ (gz : Bool), (g == 0) = gz → Calls Try.prog 4 #[str a, str b] w fun e w' => e = .returned (.bool true) ∧ Below w.heap.size w w' := by
      intro gz hgz
      have hgn : (g != 0) = !gz := by rw [← hgz]; rfl
      have H11q : Hid (gz = true → ∀ W, Calls Try.prog 11 #[.string ⟨#[47]⟩, str p] W fun e w' => e = .returned (.bool true) ∧ Below W.heap.size W w') := Lib.hid fun h W => H11p.out (by rw [h] at hgz; simpa using hgz) W
      have H11s : Hid (∀ W, Calls Try.prog 11 #[.string ⟨#[47]⟩, str c] W fun e w' => e = .returned (.bool true) ∧ Below W.heap.size W w') := Lib.hid H11r.out
      clear H11p H11r hgz
      unfold str at H7 H7c H9 H11 H7b H11q H11s ⊢
      obtain ⟨A, hA⟩ : ∃ x, (⟨a.toArray⟩ : ByteArray) = x := ⟨_, rfl⟩
      obtain ⟨C, hC⟩ : ∃ x, (⟨c.toArray⟩ : ByteArray) = x := ⟨_, rfl⟩
      obtain ⟨PP, hP⟩ : ∃ x, (⟨p.toArray⟩ : ByteArray) = x := ⟨_, rfl⟩
      rw [hA] at H7 ⊢
      simp only [hC] at H7 H7c H9 H11 H11s
      simp only [hP] at H9 H7b H11q
      clear hA hC hP
      have hbs : b = [] ∨ (∃ r, b = 47 :: r) ∨ ∃ x r, x ≠ 47 ∧ b = x :: r := by
        cases b with
        | nil => exact .inl rfl
        | cons x r => by_cases hx : x = 47; exact .inr (.inl ⟨r, by rw [hx]⟩); exact .inr (.inr ⟨x, r, hx, rfl⟩)
      rcases hbs with hb0 | ⟨r, hbr⟩ | ⟨x, r, hx, hbr⟩
      · subst hb0
        clear H7b
        cases gz with
        | false =>
          clear H11q
          go_enter Try.func4, Try.ntmps4
          go_wp2_with (first
            | (go_at_call 6; refine (HA.out _).mono ?_; rintro e w2 ⟨rfl, hb⟩; have HB2 := Lib.hid (below_then' HB1.out hb); have M2 := Mark.mk 2; clear hb)
            | (go_at_call 7; first
              | (guard_hyp M4; refine (H7b.out _).mono ?_; rintro e w5 ⟨rfl, hb⟩; have HB5 := Lib.hid (below_then' HB4.out hb); have M5 := Mark.mk 5; clear hb)
              | (guard_hyp M2; refine (H7c.out _).mono ?_; rintro e w3 ⟨rfl, hb⟩; have HB3 := Lib.hid (below_then' HB2.out hb); clear hb)
              | (refine (H7.out w).mono ?_; rintro e w1 ⟨rfl, hb⟩; have HB1 := Lib.hid hb; clear hb))
            | (go_at_call 9; refine (H9.out _).mono ?_; rintro e w4 ⟨rfl, hb⟩; have HB4 := Lib.hid (below_then' HB3.out hb); have M4 := Mark.mk 4; clear hb)
            | (go_at_call 11; first
              | (guard_hyp M7; refine (H11z.out _).mono ?_; rintro e w8 ⟨rfl, hb⟩; have HB8 := Lib.hid (below_then' HB7.out hb); clear hb)
              | (guard_hyp M6; refine (H11s.out _).mono ?_; rintro e w7 ⟨rfl, hb⟩; have HB7 := Lib.hid (below_then' HB6.out hb); have M7 := Mark.mk 7; clear hb)
              | (refine (H11.out _).mono ?_; rintro e w6 ⟨rfl, hb⟩; have HB6 := Lib.hid (below_then' HB4.out hb); have M6 := Mark.mk 6; clear hb)))
          go_ret
          exact ⟨rfl, HB7.out⟩
        | true =>
          have H11z := Lib.hid (H11q.out rfl)
          obtain rfl : g = 0 := by simpa using hgn
          clear hgn
          go_enter Try.func4, Try.ntmps4
          go_wp2_with (first
            | (go_at_call 6; refine (HA.out _).mono ?_; rintro e w2 ⟨rfl, hb⟩; have HB2 := Lib.hid (below_then' HB1.out hb); have M2 := Mark.mk 2; clear hb)
            | (go_at_call 7; first
              | (guard_hyp M4; refine (H7b.out _).mono ?_; rintro e w5 ⟨rfl, hb⟩; have HB5 := Lib.hid (below_then' HB4.out hb); have M5 := Mark.mk 5; clear hb)
              | (guard_hyp M2; refine (H7c.out _).mono ?_; rintro e w3 ⟨rfl, hb⟩; have HB3 := Lib.hid (below_then' HB2.out hb); clear hb)
              | (refine (H7.out w).mono ?_; rintro e w1 ⟨rfl, hb⟩; have HB1 := Lib.hid hb; clear hb))
            | (go_at_call 9; refine (H9.out _).mono ?_; rintro e w4 ⟨rfl, hb⟩; have HB4 := Lib.hid (below_then' HB3.out hb); have M4 := Mark.mk 4; clear hb)
            | (go_at_call 11; first
              | (guard_hyp M7; refine (H11z.out _).mono ?_; rintro e w8 ⟨rfl, hb⟩; have HB8 := Lib.hid (below_then' HB7.out hb); clear hb)
              | (guard_hyp M6; refine (H11s.out _).mono ?_; rintro e w7 ⟨rfl, hb⟩; have HB7 := Lib.hid (below_then' HB6.out hb); have M7 := Mark.mk 7; clear hb)
              | (refine (H11.out _).mono ?_; rintro e w6 ⟨rfl, hb⟩; have HB6 := Lib.hid (below_then' HB4.out hb); have M6 := Mark.mk 6; clear hb)))
          go_ret
          exact ⟨rfl, HB8.out⟩
      · have H7b := Lib.hid (H7b.out (by rw [hbr]; rfl))
        have hlen : (0 : Int) < (b.length : Int) := by rw [hbr]; simp
        have hhd : ∀ h : 0 < (⟨b.toArray⟩ : ByteArray).size, (⟨b.toArray⟩ : ByteArray)[0] = 47 := by
          intro h
          subst hbr
          rfl
        clear hbr
        cases gz with
        | false =>
          clear H11q
          go_enter Try.func4, Try.ntmps4
          go_wp2_with (first
            | (go_at_call 6; refine (HA.out _).mono ?_; rintro e w2 ⟨rfl, hb⟩; have HB2 := Lib.hid (below_then' HB1.out hb); have M2 := Mark.mk 2; clear hb)
            | (go_at_call 7; first
              | (guard_hyp M4; refine (H7b.out _).mono ?_; rintro e w5 ⟨rfl, hb⟩; have HB5 := Lib.hid (below_then' HB4.out hb); have M5 := Mark.mk 5; clear hb)
              | (guard_hyp M2; refine (H7c.out _).mono ?_; rintro e w3 ⟨rfl, hb⟩; have HB3 := Lib.hid (below_then' HB2.out hb); clear hb)
              | (refine (H7.out w).mono ?_; rintro e w1 ⟨rfl, hb⟩; have HB1 := Lib.hid hb; clear hb))
            | (go_at_call 9; refine (H9.out _).mono ?_; rintro e w4 ⟨rfl, hb⟩; have HB4 := Lib.hid (below_then' HB3.out hb); have M4 := Mark.mk 4; clear hb)
            | (go_at_call 11; first
              | (guard_hyp M7; refine (H11z.out _).mono ?_; rintro e w8 ⟨rfl, hb⟩; have HB8 := Lib.hid (below_then' HB7.out hb); clear hb)
              | (guard_hyp M6; refine (H11s.out _).mono ?_; rintro e w7 ⟨rfl, hb⟩; have HB7 := Lib.hid (below_then' HB6.out hb); have M7 := Mark.mk 7; clear hb)
              | (refine (H11.out _).mono ?_; rintro e w6 ⟨rfl, hb⟩; have HB6 := Lib.hid (below_then' HB5.out hb); have M6 := Mark.mk 6; clear hb)))
          go_ret
          exact ⟨rfl, HB7.out⟩
        | true =>
          have H11z := Lib.hid (H11q.out rfl)
          obtain rfl : g = 0 := by simpa using hgn
          clear hgn
          go_enter Try.func4, Try.ntmps4
          go_wp2_with (first
            | (go_at_call 6; refine (HA.out _).mono ?_; rintro e w2 ⟨rfl, hb⟩; have HB2 := Lib.hid (below_then' HB1.out hb); have M2 := Mark.mk 2; clear hb)
            | (go_at_call 7; first
              | (guard_hyp M4; refine (H7b.out _).mono ?_; rintro e w5 ⟨rfl, hb⟩; have HB5 := Lib.hid (below_then' HB4.out hb); have M5 := Mark.mk 5; clear hb)
              | (guard_hyp M2; refine (H7c.out _).mono ?_; rintro e w3 ⟨rfl, hb⟩; have HB3 := Lib.hid (below_then' HB2.out hb); clear hb)
              | (refine (H7.out w).mono ?_; rintro e w1 ⟨rfl, hb⟩; have HB1 := Lib.hid hb; clear hb))
            | (go_at_call 9; refine (H9.out _).mono ?_; rintro e w4 ⟨rfl, hb⟩; have HB4 := Lib.hid (below_then' HB3.out hb); have M4 := Mark.mk 4; clear hb)
            | (go_at_call 11; first
              | (guard_hyp M7; refine (H11z.out _).mono ?_; rintro e w8 ⟨rfl, hb⟩; have HB8 := Lib.hid (below_then' HB7.out hb); clear hb)
              | (guard_hyp M6; refine (H11s.out _).mono ?_; rintro e w7 ⟨rfl, hb⟩; have HB7 := Lib.hid (below_then' HB6.out hb); have M7 := Mark.mk 7; clear hb)
              | (refine (H11.out _).mono ?_; rintro e w6 ⟨rfl, hb⟩; have HB6 := Lib.hid (below_then' HB5.out hb); have M6 := Mark.mk 6; clear hb)))
          go_ret
          exact ⟨rfl, HB8.out⟩
      · have hlen : (0 : Int) < (b.length : Int) := by rw [hbr]; simp
        have hhd : ∀ h : 0 < (⟨b.toArray⟩ : ByteArray).size, (⟨b.toArray⟩ : ByteArray)[0] = x := by
          intro h
          subst hbr
          rfl
        have hbb : ((x.toNat : Int) == 47) = false := by
          simp only [beq_eq_false_iff_ne, ne_eq]
          intro h
          exact hx (UInt8.toNat_inj.1 (by simpa using (by omega : x.toNat = 47)))
        clear hbr hx H7b
        cases gz with
        | false =>
          clear H11q
          go_enter Try.func4, Try.ntmps4
          go_wp2_with (first
            | (go_at_call 6; refine (HA.out _).mono ?_; rintro e w2 ⟨rfl, hb⟩; have HB2 := Lib.hid (below_then' HB1.out hb); have M2 := Mark.mk 2; clear hb)
            | (go_at_call 7; first
              | (guard_hyp M4; refine (H7b.out _).mono ?_; rintro e w5 ⟨rfl, hb⟩; have HB5 := Lib.hid (below_then' HB4.out hb); have M5 := Mark.mk 5; clear hb)
              | (guard_hyp M2; refine (H7c.out _).mono ?_; rintro e w3 ⟨rfl, hb⟩; have HB3 := Lib.hid (below_then' HB2.out hb); clear hb)
              | (refine (H7.out w).mono ?_; rintro e w1 ⟨rfl, hb⟩; have HB1 := Lib.hid hb; clear hb))
            | (go_at_call 9; refine (H9.out _).mono ?_; rintro e w4 ⟨rfl, hb⟩; have HB4 := Lib.hid (below_then' HB3.out hb); have M4 := Mark.mk 4; clear hb)
            | (go_at_call 11; first
              | (guard_hyp M7; refine (H11z.out _).mono ?_; rintro e w8 ⟨rfl, hb⟩; have HB8 := Lib.hid (below_then' HB7.out hb); clear hb)
              | (guard_hyp M6; refine (H11s.out _).mono ?_; rintro e w7 ⟨rfl, hb⟩; have HB7 := Lib.hid (below_then' HB6.out hb); have M7 := Mark.mk 7; clear hb)
              | (refine (H11.out _).mono ?_; rintro e w6 ⟨rfl, hb⟩; have HB6 := Lib.hid (below_then' HB4.out hb); have M6 := Mark.mk 6; clear hb)))
          go_ret
          exact ⟨rfl, HB7.out⟩
        | true =>
          have H11z := Lib.hid (H11q.out rfl)
          obtain rfl : g = 0 := by simpa using hgn
          clear hgn
          go_enter Try.func4, Try.ntmps4
          go_wp2_with (first
            | (go_at_call 6; refine (HA.out _).mono ?_; rintro e w2 ⟨rfl, hb⟩; have HB2 := Lib.hid (below_then' HB1.out hb); have M2 := Mark.mk 2; clear hb)
            | (go_at_call 7; first
              | (guard_hyp M4; refine (H7b.out _).mono ?_; rintro e w5 ⟨rfl, hb⟩; have HB5 := Lib.hid (below_then' HB4.out hb); have M5 := Mark.mk 5; clear hb)
              | (guard_hyp M2; refine (H7c.out _).mono ?_; rintro e w3 ⟨rfl, hb⟩; have HB3 := Lib.hid (below_then' HB2.out hb); clear hb)
              | (refine (H7.out w).mono ?_; rintro e w1 ⟨rfl, hb⟩; have HB1 := Lib.hid hb; clear hb))
            | (go_at_call 9; refine (H9.out _).mono ?_; rintro e w4 ⟨rfl, hb⟩; have HB4 := Lib.hid (below_then' HB3.out hb); have M4 := Mark.mk 4; clear hb)
            | (go_at_call 11; first
              | (guard_hyp M7; refine (H11z.out _).mono ?_; rintro e w8 ⟨rfl, hb⟩; have HB8 := Lib.hid (below_then' HB7.out hb); clear hb)
              | (guard_hyp M6; refine (H11s.out _).mono ?_; rintro e w7 ⟨rfl, hb⟩; have HB7 := Lib.hid (below_then' HB6.out hb); have M7 := Mark.mk 7; clear hb)
              | (refine (H11.out _).mono ?_; rintro e w6 ⟨rfl, hb⟩; have HB6 := Lib.hid (below_then' HB4.out hb); have M6 := Mark.mk 6; clear hb)))
          go_ret
          exact ⟨rfl, HB8.out⟩
    exact walk _ rfl
  · generalize cleanS a = ca at *
    obtain ⟨c, e⟩ := ca
    simp only at H7 he
    have hee : (e != 0) = true := by simpa using he
    clear he
    unfold str at H7 ⊢
    go_enter Try.func4, Try.ntmps4
    go_wp2_with (first
      | (go_at_call 7; refine (H7.out _).mono ?_; rintro e w1 ⟨rfl, hb⟩; have HB1 := Lib.hid hb; clear hb)
      | (go_at_call 6; refine (HA.out _).mono ?_; rintro e w2 ⟨rfl, hb⟩; have HB2 := Lib.hid (below_then' HB1.out hb); clear hb))
    go_ret
    exact ⟨rfl, HB2.out⟩
end Go.Proofs.Ytedoonfegcgmeaa
