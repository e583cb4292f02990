/- Covers, the program's and the reference's. -/
import Derived.Test.YtedoonfegcgmeaaB5
namespace Go.Proofs.Ytedoonfegcgmeaa
open Go.RowKit
set_option linter.unusedVariables false
theorem pathOf_ne (l : List Bs) : pathOf l ≠ [] := by simp [pathOf]
theorem cleanS_ne (s : Bs) (h : (cleanS s).2 = 0) : (cleanS s).1 ≠ [] := by
  unfold cleanS at h ⊢
  split
  · rename_i h1; rw [if_pos h1] at h; cases h
  · rename_i h1
    rw [if_neg h1] at h
    split
    · rename_i h2; rw [if_pos h2] at h; cases h
    · rename_i h2
      rw [if_neg h2] at h
      split
      · rename_i h3; rw [if_pos h3] at h; cases h
      · rename_i h3
        rw [if_neg h3] at h
        split
        · rename_i h4; rw [if_pos h4] at h; cases h
        · exact pathOf_ne _
theorem cleanQ_eq {p : Bs} (h : cleanQ p = true) : (cleanS p).2 = 0 ∧ p = (cleanS p).1 := by
  unfold cleanQ at h
  rw [Bool.and_eq_true] at h
  exact ⟨by simpa using h.1, by simpa using h.2⟩
theorem cleanQ_len {p : Bs} (h : cleanQ p = true) : p.length ≤ 100000 ∧ p ≠ [] := by
  obtain ⟨h1, h2⟩ := cleanQ_eq h
  have h3 := cleanS_len p
  have h4 := cleanS_ne p h1
  rw [← h2] at h3 h4
  exact ⟨h3, h4⟩
def coversS (p q : Bs) : Bool := cleanQ p && cleanQ q && covB p q
set_option maxRecDepth 100000 in
theorem coversP_calls (p q : Bs) (w : World) : Calls Try.prog 11 #[str p, str q] w fun e w' => e = .returned (.bool (coversS p q)) ∧ Below w.heap.size w w' := by
  have HC := Lib.hid (fun W => cleanQ_calls p W)
  have HD := Lib.hid (fun W => cleanQ_calls q W)
  unfold coversS
  cases hp : cleanQ p with
  | false =>
    rw [hp] at HC
    obtain ⟨pa, hpa⟩ : ∃ x, str p = x := ⟨_, rfl⟩
    obtain ⟨qa, hqa⟩ : ∃ x, str q = x := ⟨_, rfl⟩
    rw [hpa] at HC ⊢
    rw [hqa] at HD ⊢
    go_enter Try.func11, Try.ntmps11
    go_wp2_with (go_at_call 31; refine (HC.out _).mono ?_; rintro e w1 ⟨rfl, hb⟩; have HB := Lib.hid hb; clear hb)
    go_ret
    exact ⟨rfl, HB.out⟩
  | true =>
    rw [hp] at HC
    cases hq : cleanQ q with
    | false =>
      rw [hq] at HD
      obtain ⟨pa, hpa⟩ : ∃ x, str p = x := ⟨_, rfl⟩
      obtain ⟨qa, hqa⟩ : ∃ x, str q = x := ⟨_, rfl⟩
      rw [hpa] at HC ⊢
      rw [hqa] at HD ⊢
      go_enter Try.func11, Try.ntmps11
      go_wp2_with (go_at_call 31; first
        | (rename Hid (Below w.heap.size w _) => HB; refine (HD.out _).mono ?_; rintro e w2 ⟨rfl, hb⟩; have HB2 := Lib.hid hb; clear hb)
        | (refine (HC.out w).mono ?_; rintro e w1 ⟨rfl, hb⟩; have HB := Lib.hid hb; clear hb))
      go_ret
      exact ⟨rfl, HB.out.trans (HB2.out.mono HB.out.size)⟩
    | true =>
      rw [hq] at HD
      have hpl := cleanQ_len hp
      have hql := cleanQ_len hq
      have HR := Lib.hid (fun W => rest_calls p q W (by omega) (by omega) hql.2)
      rw [restS_covB] at HR
      obtain ⟨pa, hpa⟩ : ∃ x, str p = x := ⟨_, rfl⟩
      obtain ⟨qa, hqa⟩ : ∃ x, str q = x := ⟨_, rfl⟩
      obtain ⟨ra, hra⟩ : ∃ x, str (restS p q).1 = x := ⟨_, rfl⟩
      rw [hpa, hqa, hra] at HR
      rw [hpa] at HC ⊢
      rw [hqa] at HD ⊢
      generalize covB p q = cv at *
      clear hp hq hpl hql
      go_enter Try.func11, Try.ntmps11
      go_wp2_with (first
        | (go_at_call 31; first
          | (rename Hid (Below w.heap.size w _) => HB; refine (HD.out _).mono ?_; rintro e w2 ⟨rfl, hb⟩; have HB2 := Lib.hid hb; clear hb)
          | (refine (HC.out w).mono ?_; rintro e w1 ⟨rfl, hb⟩; have HB := Lib.hid hb; clear hb))
        | (go_at_call 32; refine (HR.out _).mono ?_; rintro e w3 ⟨rfl, hb⟩; have HB3 := Lib.hid hb; clear hb))
      go_ret
      exact ⟨rfl, (HB.out.trans (HB2.out.mono HB.out.size)).trans (HB3.out.mono (Nat.le_trans HB.out.size HB2.out.size))⟩
set_option maxRecDepth 100000 in
theorem coversR_calls (p q : Bs) (w : World) : Calls Try.prog 12 #[str p, str q] w fun e w' => e = .returned (.bool (coversS p q)) ∧ Below w.heap.size w w' := by
  have HC := Lib.hid (fun W => cleanR_calls p W)
  have HD := Lib.hid (fun W => cleanR_calls q W)
  have HR : Hid (cleanQ p = true → cleanQ q = true → ∀ W, Calls Try.prog 33 #[str p, str q] W fun e w' => e = .returned (.bool (covB p q)) ∧ Below W.heap.size W w') := Lib.hid fun h1 h2 W => covers_calls p q W (by have := cleanQ_len h1; omega) (by have := cleanQ_len h2; omega)
  have hp1 : cleanQ p = ((cleanS p).2 == 0 && (cleanS p).1 == p) := by unfold cleanQ; congr 1; exact Bool.eq_iff_iff.2 ⟨fun h => by simpa using (by simpa using h : p = _).symm, fun h => by simpa using (by simpa using h : _ = p).symm⟩
  have hq1 : cleanQ q = ((cleanS q).2 == 0 && (cleanS q).1 == q) := by unfold cleanQ; congr 1; exact Bool.eq_iff_iff.2 ⟨fun h => by simpa using (by simpa using h : q = _).symm, fun h => by simpa using (by simpa using h : _ = q).symm⟩
  unfold coversS
  rw [hp1, hq1] at HR ⊢
  clear hp1 hq1
  generalize cleanS p = cp at *
  generalize cleanS q = cq at *
  generalize covB p q = cv at *
  obtain ⟨c, e1⟩ := cp
  obtain ⟨d, e2⟩ := cq
  simp only at HC HD HR ⊢
  have walk : ∀ (b1 b2 b3 b4 : Bool), (e1 == 0) = b1 → (e2 == 0) = b2 → (c == p) = b3 → (d == q) = b4 → Calls Try.prog 12 #[str p, str q] w fun e w' => e = .returned (.bool (b1 && b3 && (b2 && b4) && cv)) ∧ Below w.heap.size w w' := by
    intro b1 b2 b3 b4 h1 h2 h3 h4
    rw [h1, h2, h3, h4] at HR
    unfold str at HC HD HR ⊢
    cases b1 with
    | false =>
      clear HR h3 h4
      go_enter Try.func12, Try.ntmps12
      go_wp2_with (go_at_call 8; first
        | (rename Hid (Below w.heap.size w _) => HB; refine (HD.out _).mono ?_; rintro e w2 ⟨rfl, hb⟩; have HB2 := Lib.hid hb; clear hb)
        | (refine (HC.out w).mono ?_; rintro e w1 ⟨rfl, hb⟩; have HB := Lib.hid hb; clear hb))
      go_ret
      exact ⟨by simp, HB.out.trans (HB2.out.mono HB.out.size)⟩
    | true =>
      cases b2 with
      | false =>
        clear HR h3 h4
        go_enter Try.func12, Try.ntmps12
        go_wp2_with (go_at_call 8; first
          | (rename Hid (Below w.heap.size w _) => HB; refine (HD.out _).mono ?_; rintro e w2 ⟨rfl, hb⟩; have HB2 := Lib.hid hb; clear hb)
          | (refine (HC.out w).mono ?_; rintro e w1 ⟨rfl, hb⟩; have HB := Lib.hid hb; clear hb))
        go_ret
        exact ⟨by simp, HB.out.trans (HB2.out.mono HB.out.size)⟩
      | true =>
        cases b3 with
        | false =>
          clear HR h4
          go_enter Try.func12, Try.ntmps12
          go_wp2_with (go_at_call 8; first
            | (rename Hid (Below w.heap.size w _) => HB; refine (HD.out _).mono ?_; rintro e w2 ⟨rfl, hb⟩; have HB2 := Lib.hid hb; clear hb)
            | (refine (HC.out w).mono ?_; rintro e w1 ⟨rfl, hb⟩; have HB := Lib.hid hb; clear hb))
          go_ret
          exact ⟨by simp, HB.out.trans (HB2.out.mono HB.out.size)⟩
        | true =>
          cases b4 with
          | false =>
            clear HR
            go_enter Try.func12, Try.ntmps12
            go_wp2_with (go_at_call 8; first
              | (rename Hid (Below w.heap.size w _) => HB; refine (HD.out _).mono ?_; rintro e w2 ⟨rfl, hb⟩; have HB2 := Lib.hid hb; clear hb)
              | (refine (HC.out w).mono ?_; rintro e w1 ⟨rfl, hb⟩; have HB := Lib.hid hb; clear hb))
            go_ret
            exact ⟨by simp, HB.out.trans (HB2.out.mono HB.out.size)⟩
          | true =>
            have HR2 := Lib.hid (HR.out rfl rfl)
            clear HR
            go_enter Try.func12, Try.ntmps12
            go_wp2_with (first
              | (go_at_call 8; first
                | (rename Hid (Below w.heap.size w _) => HB; refine (HD.out _).mono ?_; rintro e w2 ⟨rfl, hb⟩; have HB2 := Lib.hid hb; clear hb)
                | (refine (HC.out w).mono ?_; rintro e w1 ⟨rfl, hb⟩; have HB := Lib.hid hb; clear hb))
              | (go_at_call 33; refine (HR2.out _).mono ?_; rintro e w3 ⟨rfl, hb⟩; have HB3 := Lib.hid hb; clear hb))
            go_ret
            exact ⟨by simp, (HB.out.trans (HB2.out.mono HB.out.size)).trans (HB3.out.mono (Nat.le_trans HB.out.size HB2.out.size))⟩
  exact walk _ _ _ _ rfl rfl rfl rfl
end Go.Proofs.Ytedoonfegcgmeaa
