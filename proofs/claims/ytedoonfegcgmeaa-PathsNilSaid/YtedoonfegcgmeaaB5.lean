/- The reference's Join; rest, clean, covers, Covers. -/
import Derived.Test.YtedoonfegcgmeaaB4
namespace Go.Proofs.Ytedoonfegcgmeaa
open Go.RowKit
set_option linter.unusedVariables false
set_option maxHeartbeats 1000000 in
set_option maxRecDepth 100000 in
theorem joinR_calls (d p : Bs) (w : World) : Calls Try.prog 10 #[str d, str p] w fun e w' => e = .returned (.tuple #[str (joinS d p).1, .int .i64 (joinS d p).2]) ∧ Below w.heap.size w w' := by
  have HC := Lib.hid (fun W => cleanR_calls d W)
  have hcl := cleanS_len d
  have hce := cleanS_e d
  by_cases hc : (cleanS d).2 ≠ 0
  · rw [show joinS d p = ([], (cleanS d).2) by unfold joinS; rw [if_pos hc]]
    generalize cleanS d = cd at *
    obtain ⟨c, e⟩ := cd
    have hee : (e != 0) = true := by simpa using hc
    unfold str at HC ⊢
    simp only at HC ⊢
    go_enter Try.func10, Try.ntmps10
    go_wp2_with (go_at_call 8; refine (HC.out _).mono ?_; rintro e w1 ⟨rfl, hb⟩; have HB := Lib.hid hb; clear hb)
    go_ret2
    exact ⟨rfl, HB.out⟩
  have hj1 : joinS d p = if p = [] then ([], 9) else if 255 < p.length then ([], 21) else if p.head? = some 47 then cleanS p else if 255 < (cleanS d).1.length + 1 + p.length then ([], 21) else cleanS ((cleanS d).1 ++ 47 :: p) := by
    unfold joinS; rw [if_neg hc]
  rw [hj1]
  clear hj1
  have hc0 : (cleanS d).2 = 0 := Classical.byContradiction hc
  obtain ⟨c, hcc⟩ : ∃ c, cleanS d = (c, 0) := ⟨(cleanS d).1, Prod.ext rfl hc0⟩
  rw [hcc] at HC hcl ⊢
  simp only at HC hcl ⊢
  clear hcc hc0 hc hce
  by_cases h0 : p = []
  · subst h0
    rw [if_pos rfl]
    unfold str at HC ⊢
    go_enter Try.func10, Try.ntmps10
    go_wp2_with (go_at_call 8; refine (HC.out _).mono ?_; rintro e w1 ⟨rfl, hb⟩; have HB := Lib.hid hb; clear hb)
    go_ret2
    exact ⟨rfl, HB.out⟩
  have hsb : (p == []) = false := by simpa using h0
  rw [if_neg h0]
  by_cases h255 : 255 < p.length
  · rw [if_pos h255]
    have h255' : (255 : Int) < (p.length : Int) := by omega
    clear h0 h255
    unfold str at HC ⊢
    go_enter Try.func10, Try.ntmps10
    go_wp2_with (go_at_call 8; refine (HC.out _).mono ?_; rintro e w1 ⟨rfl, hb⟩; have HB := Lib.hid hb; clear hb)
    go_ret2
    exact ⟨rfl, HB.out⟩
  have hs255 : ¬ (255 : Int) < (p.length : Int) := by omega
  rw [if_neg h255]
  obtain ⟨b, r, hbr⟩ : ∃ b r, p = b :: r := by
    cases p with
    | nil => exact absurd rfl h0
    | cons b r => exact ⟨b, r, rfl⟩
  have hlen : (0 : Int) < (p.length : Int) := by rw [hbr]; simp
  have hhd : ∀ h : 0 < (⟨p.toArray⟩ : ByteArray).size, (⟨p.toArray⟩ : ByteArray)[0] = b := by
    intro h
    subst hbr
    rfl
  by_cases hb : b = 47
  · subst hb
    have hh : p.head? = some 47 := by rw [hbr]; rfl
    rw [if_pos hh]
    have HP := Lib.hid (fun W => cleanR_calls p W)
    generalize cleanS p = cp at *
    obtain ⟨x, y⟩ := cp
    clear h0 h255 hbr hh
    unfold str at HC HP ⊢
    simp only at HP ⊢
    go_enter Try.func10, Try.ntmps10
    go_wp2_with (go_at_call 8; first
      | (rename Hid (Below w.heap.size w _) => HB; refine (HP.out _).mono ?_; rintro e w2 ⟨rfl, hb⟩; have HB2 := Lib.hid hb; clear hb)
      | (refine (HC.out w).mono ?_; rintro e w1 ⟨rfl, hb⟩; have HB := Lib.hid hb; clear hb))
    go_ret2
    exact ⟨rfl, HB.out.trans (HB2.out.mono HB.out.size)⟩
  · have hh : p.head? ≠ some 47 := by rw [hbr]; simpa using hb
    rw [if_neg hh]
    have hbb : ((b.toNat : Int) != 47) = true := by
      simp only [bne_iff_ne, ne_eq]
      intro h
      exact hb (UInt8.toNat_inj.1 (by simpa using (by omega : b.toNat = 47)))
    clear hbr hh hb h0
    by_cases hl : 255 < c.length + 1 + p.length
    · rw [if_pos hl]
      have hl' : (255 : Int) < (c.length : Int) + 1 + (p.length : Int) := by omega
      clear hl h255
      unfold str at HC ⊢
      go_enter Try.func10, Try.ntmps10
      go_wp2_with (go_at_call 8; refine (HC.out _).mono ?_; rintro e w1 ⟨rfl, hb⟩; have HB := Lib.hid hb; clear hb)
      go_ret2
      exact ⟨rfl, HB.out⟩
    · rw [if_neg hl]
      have hl' : ¬ (255 : Int) < (c.length : Int) + 1 + (p.length : Int) := by omega
      have HP := Lib.hid (fun W => cleanR_calls (c ++ 47 :: p) W)
      generalize cleanS (c ++ 47 :: p) = cp at *
      obtain ⟨x, y⟩ := cp
      clear h255
      unfold str at HC HP ⊢
      rw [← str_cat] at HP
      simp only at HP ⊢
      go_enter Try.func10, Try.ntmps10
      go_wp2_with (go_at_call 8; first
        | (rename Hid (Below w.heap.size w _) => HB; refine (HP.out _).mono ?_; rintro e w2 ⟨rfl, hb⟩; have HB2 := Lib.hid hb; clear hb)
        | (refine (HC.out w).mono ?_; rintro e w1 ⟨rfl, hb⟩; have HB := Lib.hid hb; clear hb))
      go_ret2
      exact ⟨rfl, HB.out.trans (HB2.out.mono HB.out.size)⟩
theorem mk_data2 (s : Bs) : (⟨s.toArray⟩ : ByteArray).data.toList = s := rfl
def covB (p q : Bs) : Bool := decide (p = [47] ∨ p = q ∨ (p.length < q.length ∧ q.take p.length = p ∧ q[p.length]? = some 47))
def restS (p q : Bs) : Bs × Bool := if p = q then ([], true) else if p = [47] then (q.drop 1, true) else if Lib.hasPrefix q (p ++ [47]) = true then (q.drop (p.length + 1), true) else ([], false)
theorem hasPrefix_slash (p q : Bs) : Lib.hasPrefix q (p ++ [47]) = decide (p.length < q.length ∧ q.take p.length = p ∧ q[p.length]? = some 47) := by
  unfold Lib.hasPrefix
  rw [Bool.eq_iff_iff, decide_eq_true_eq, List.isPrefixOf_iff_prefix]
  constructor
  · rintro ⟨r, rfl⟩
    refine ⟨by simp, by simp, by simp⟩
  · rintro ⟨h1, h2, h3⟩
    refine ⟨q.drop (p.length + 1), ?_⟩
    have h4 : q[p.length] = 47 := by rw [List.getElem?_eq_getElem h1] at h3; exact Option.some.inj h3
    have h5 : q = q.take p.length ++ q[p.length] :: q.drop (p.length + 1) := by rw [← List.drop_eq_getElem_cons h1, List.take_append_drop]
    rw [h2, h4] at h5
    rw [List.append_assoc]
    exact h5.symm
theorem restS_covB (p q : Bs) : (restS p q).2 = covB p q := by
  unfold restS covB
  by_cases h1 : p = q
  · simp [h1]
  · by_cases h2 : p = [47]
    · rw [if_neg h1, if_pos h2]; simp [h2]
    · rw [if_neg h1, if_neg h2, hasPrefix_slash]
      by_cases h3 : p.length < q.length ∧ q.take p.length = p ∧ q[p.length]? = some 47
      · rw [if_pos (by simpa using h3), show decide (p = [47] ∨ p = q ∨ (p.length < q.length ∧ q.take p.length = p ∧ q[p.length]? = some 47)) = true from decide_eq_true (.inr (.inr h3))]
      · rw [if_neg (by simpa using h3)]; simp [h1, h2]; exact fun a b c => h3 ⟨a, b, c⟩
theorem cat2 (a : Bs) : ((⟨a.toArray⟩ : ByteArray) ++ ⟨#[47]⟩) = ⟨(a ++ [47]).toArray⟩ := by
  apply ByteArray.ext
  simp
theorem extract_drop (s : Bs) (k : Nat) : (⟨s.toArray⟩ : ByteArray).extract k s.length = ⟨(s.drop k).toArray⟩ := by
  apply ByteArray.ext
  simp
  exact List.take_of_length_le (by simp)
theorem extract_take (s : Bs) (k : Nat) : (⟨s.toArray⟩ : ByteArray).extract 0 k = ⟨(s.take k).toArray⟩ := by
  apply ByteArray.ext
  simp
set_option maxRecDepth 100000 in
theorem rest_calls (p q : Bs) (w : World) (hp : p.length ≤ 1000000) (hq : q.length ≤ 1000000) (hq0 : q ≠ []) : Calls Try.prog 32 #[str p, str q] w fun e w' => e = .returned (.tuple #[str (restS p q).1, .bool (restS p q).2]) ∧ Below w.heap.size w w' := by
  have hql : 0 < q.length := by cases q; exact absurd rfl hq0; simp
  by_cases h1 : p = q
  · rw [show restS p q = ([], true) by unfold restS; rw [if_pos h1]]
    have hb1 : (p == q) = true := by simpa using h1
    subst h1
    unfold str
    go_enter Try.func32, Try.ntmps32
    go_wp2
    go_ret2
    exact ⟨rfl, Below.refl _ _⟩
  have hb1 : (p == q) = false := by simpa using h1
  by_cases h2 : p = [47]
  · rw [show restS p q = (q.drop 1, true) by unfold restS; rw [if_neg h1, if_pos h2]]
    have hS : (Instr.slice 9 (.string ⟨q.toArray⟩) (some (.int .i64 1)) none none).run Try.prog w = .ok (.string ⟨(q.drop 1).toArray⟩) w := by
      have := run_slice_string_l (P := Try.prog) w 9 ⟨q.toArray⟩ Try.underlying9 .i64 1 (by omega) (by show (1 : Int) ≤ ((q.toArray.size : Nat) : Int); simp; omega)
      rw [← extract_drop]
      exact this
    subst h2
    clear h1
    unfold str
    go_enter Try.func32, Try.ntmps32
    go_wp2
    go_ret2
    exact ⟨by rw [List.drop_one]; rfl, Below.refl _ _⟩
  have hb2 : (p == [47]) = false := by simpa using h2
  have HP : Hid (∀ W, Calls Try.prog 50 #[.string ⟨q.toArray⟩, .string ((⟨p.toArray⟩ : ByteArray) ++ ⟨#[47]⟩)] W fun e w' => e = .returned (.bool (Lib.hasPrefix q (p ++ [47]))) ∧ W = w') := Lib.hid fun W => by
    have := Try.strings_HasPrefix ⟨q.toArray⟩ ((⟨p.toArray⟩ : ByteArray) ++ ⟨#[47]⟩) W
    rw [mk_data2, cat2, mk_data2] at this
    rw [cat2]
    exact this.mono fun e w' h => ⟨h.1, h.2.symm⟩
  have hr : restS p q = if Lib.hasPrefix q (p ++ [47]) = true then (q.drop (p.length + 1), true) else ([], false) := by unfold restS; rw [if_neg h1, if_neg h2]
  rw [hr]
  have hps := hasPrefix_slash p q
  cases h3 : Lib.hasPrefix q (p ++ [47]) with
  | true =>
    rw [h3] at HP hps
    have hlt : p.length < q.length := (of_decide_eq_true hps.symm).1
    have hS : (Instr.slice 9 (.string ⟨q.toArray⟩) (some (.int .i64 ((p.length : Int) + 1))) none none).run Try.prog w = .ok (.string ⟨(q.drop (p.length + 1)).toArray⟩) w := by
      have := run_slice_string_l (P := Try.prog) w 9 ⟨q.toArray⟩ Try.underlying9 .i64 ((p.length : Int) + 1) (by omega) (by show (p.length : Int) + 1 ≤ ((q.toArray.size : Nat) : Int); simp; omega)
      rw [← extract_drop]
      rw [show ((p.length : Int) + 1).toNat = p.length + 1 by omega] at this
      exact this
    rw [if_pos rfl]
    clear h1 h2 hr hps h3
    unfold str
    go_enter Try.func32, Try.ntmps32
    go_wp2_with (go_at_call 50; refine (HP.out _).mono ?_; rintro e w' ⟨rfl, rfl⟩)
    go_ret2
    exact ⟨rfl, Below.refl _ _⟩
  | false =>
    rw [h3] at HP
    rw [if_neg Bool.false_ne_true]
    clear h1 h2 hr hps h3
    unfold str
    go_enter Try.func32, Try.ntmps32
    go_wp2_with (go_at_call 50; refine (HP.out _).mono ?_; rintro e w' ⟨rfl, rfl⟩)
    go_ret2
    exact ⟨rfl, Below.refl _ _⟩
set_option maxHeartbeats 1000000 in
set_option maxRecDepth 100000 in
theorem covers_calls (p q : Bs) (w : World) (hp : p.length ≤ 1000000) (hq : q.length ≤ 1000000) : Calls Try.prog 33 #[str p, str q] w fun e w' => e = .returned (.bool (covB p q)) ∧ Below w.heap.size w w' := by
  by_cases h2 : p = [47]
  · rw [show covB p q = true from decide_eq_true (.inl h2)]
    subst h2
    unfold str
    go_enter Try.func33, Try.ntmps33
    go_wp2
    go_ret
    exact ⟨rfl, Below.refl _ _⟩
  have hb2 : (p == [47]) = false := by simpa using h2
  by_cases h1 : p = q
  · rw [show covB p q = true from decide_eq_true (.inr (.inl h1))]
    have hb1 : (p == q) = true := by simpa using h1
    clear h2
    subst h1
    unfold str
    go_enter Try.func33, Try.ntmps33
    go_wp2
    go_ret
    exact ⟨rfl, Below.refl _ _⟩
  have hb1 : (p == q) = false := by simpa using h1
  have hcv : covB p q = decide (p.length < q.length ∧ q.take p.length = p ∧ q[p.length]? = some 47) := by
    unfold covB
    rw [decide_eq_decide]
    exact ⟨fun h => by rcases h with h | h | h; exact absurd h h2; exact absurd h h1; exact h, fun h => .inr (.inr h)⟩
  rw [hcv]
  by_cases h3 : p.length < q.length
  · have h3' : (p.length : Int) < (q.length : Int) := by omega
    have hS : (Instr.slice 9 (.string ⟨q.toArray⟩) none (some (.int .i64 (p.length : Int))) none).run Try.prog w = .ok (.string ⟨(q.take p.length).toArray⟩) w := by
      have := run_slice_string_h (P := Try.prog) w 9 ⟨q.toArray⟩ Try.underlying9 .i64 (p.length : Int) (by omega) (by show (p.length : Int) ≤ ((q.toArray.size : Nat) : Int); simp; omega)
      rw [← extract_take]
      rw [Int.toNat_natCast] at this
      exact this
    by_cases h4 : q.take p.length = p
    · have hb4 : (q.take p.length == p) = true := by simpa using h4
      obtain ⟨b, hbe⟩ : ∃ b, q[p.length]'h3 = b := ⟨_, rfl⟩
      have hhd : ∀ h : p.length < (⟨q.toArray⟩ : ByteArray).size, (⟨q.toArray⟩ : ByteArray)[p.length] = b := fun h => (byte_at q p.length h3 h).trans hbe
      have hq5 : q[p.length]? = some b := by rw [List.getElem?_eq_getElem h3, hbe]
      by_cases h5 : b = 47
      · subst h5
        rw [show decide (p.length < q.length ∧ q.take p.length = p ∧ q[p.length]? = some 47) = true from decide_eq_true ⟨h3, h4, hq5⟩]
        clear h2 h1 hcv h4 hq5 hbe
        unfold str
        go_enter Try.func33, Try.ntmps33
        go_wp2
        go_ret
        exact ⟨rfl, Below.refl _ _⟩
      · rw [show decide (p.length < q.length ∧ q.take p.length = p ∧ q[p.length]? = some 47) = false from decide_eq_false (fun h => h5 (Option.some.inj (hq5.symm.trans h.2.2)))]
        have hbb : ((b.toNat : Int) == 47) = false := by
          simp only [beq_eq_false_iff_ne, ne_eq]
          intro h
          exact h5 (UInt8.toNat_inj.1 (by simpa using (by omega : b.toNat = 47)))
        clear h2 h1 hcv h4 hq5 hbe h5
        unfold str
        go_enter Try.func33, Try.ntmps33
        go_wp2
        go_ret
        exact ⟨rfl, Below.refl _ _⟩
    · rw [show decide (p.length < q.length ∧ q.take p.length = p ∧ q[p.length]? = some 47) = false from decide_eq_false (fun h => h4 h.2.1)]
      have hb4 : (q.take p.length == p) = false := by simpa using h4
      clear h2 h1 hcv h4
      unfold str
      go_enter Try.func33, Try.ntmps33
      go_wp2
      go_ret
      exact ⟨rfl, Below.refl _ _⟩
  · rw [show decide (p.length < q.length ∧ q.take p.length = p ∧ q[p.length]? = some 47) = false from decide_eq_false (fun h => h3 h.1)]
    have h3' : ¬ (p.length : Int) < (q.length : Int) := by omega
    clear h2 h1 hcv h3
    unfold str
    go_enter Try.func33, Try.ntmps33
    go_wp2
    go_ret
    exact ⟨rfl, Below.refl _ _⟩
/-- The path is clean. -/
def cleanQ (p : Bs) : Bool := (cleanS p).2 == 0 && p == (cleanS p).1
set_option maxRecDepth 100000 in
theorem cleanQ_calls (p : Bs) (w : World) : Calls Try.prog 31 #[str p] w fun e w' => e = .returned (.bool (cleanQ p)) ∧ Below w.heap.size w w' := by
  have HC := Lib.hid (fun W => cleanP_calls p W)
  unfold cleanQ
  generalize cleanS p = cp at *
  obtain ⟨c, e⟩ := cp
  simp only at HC ⊢
  by_cases he : e = 0
  · subst he
    by_cases h : p = c
    · have hb : (p == c) = true := by simpa using h
      rw [hb]
      clear h
      unfold str at HC ⊢
      go_enter Try.func31, Try.ntmps31
      go_wp2_with (go_at_call 7; refine (HC.out _).mono ?_; rintro e w1 ⟨rfl, hb⟩; have HB := Lib.hid hb; clear hb)
      go_ret
      exact ⟨rfl, HB.out⟩
    · have hb : (p == c) = false := by simpa using h
      rw [hb]
      clear h
      unfold str at HC ⊢
      go_enter Try.func31, Try.ntmps31
      go_wp2_with (go_at_call 7; refine (HC.out _).mono ?_; rintro e w1 ⟨rfl, hb⟩; have HB := Lib.hid hb; clear hb)
      go_ret
      exact ⟨rfl, HB.out⟩
  · have hee : (e == 0) = false := by simpa using he
    rw [hee]
    clear he
    unfold str at HC ⊢
    go_enter Try.func31, Try.ntmps31
    go_wp2_with (go_at_call 7; refine (HC.out _).mono ?_; rintro e w1 ⟨rfl, hb⟩; have HB := Lib.hid hb; clear hb)
    go_ret
    exact ⟨rfl, HB.out⟩
end Go.Proofs.Ytedoonfegcgmeaa
