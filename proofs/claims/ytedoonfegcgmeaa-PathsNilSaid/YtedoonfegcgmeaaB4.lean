/- Clean and Join, the program's and the reference's. -/
import Derived.Test.YtedoonfegcgmeaaB3
namespace Go.Proofs.Ytedoonfegcgmeaa
open Go.RowKit
set_option linter.unusedVariables false
theorem zero_iff (s : Bs) : (0 ≤ Lib.indexByte s 0) ↔ 0 ∈ s := indexByte_iff s 0
set_option maxRecDepth 100000 in
theorem cleanP_calls (s : Bs) (w : World) : Calls Try.prog 7 #[str s] w fun e w' => e = .returned (.tuple #[str (cleanS s).1, .int .i64 (cleanS s).2]) ∧ Below w.heap.size w w' := by
  by_cases h255 : 255 < s.length
  · have h0 : s ≠ [] := by intro h; rw [h] at h255; simp at h255
    have hsb : (s == []) = false := by simpa using h0
    rw [show cleanS s = ([], 21) by unfold cleanS; rw [if_neg h0, if_pos h255]]
    have h255' : (255 : Int) < (s.length : Int) := by omega
    clear h0 h255
    unfold str
    go_enter Try.func7, Try.ntmps7
    go_wp2
    go_ret2
    exact ⟨rfl, Below.refl _ _⟩
  · exact clean_calls s w (by omega)
set_option maxRecDepth 100000 in
theorem cleanR_calls (s : Bs) (w : World) : Calls Try.prog 8 #[str s] w fun e w' => e = .returned (.tuple #[str (cleanS s).1, .int .i64 (cleanS s).2]) ∧ Below w.heap.size w w' := by
  by_cases h0 : s = []
  · subst h0
    go_enter Try.func8, Try.ntmps8
    unfold str
    go_wp2
    go_ret2
    exact ⟨rfl, Below.refl _ _⟩
  have hsb : (s == []) = false := by simpa using h0
  by_cases h255 : 255 < s.length
  · rw [show cleanS s = ([], 21) by unfold cleanS; rw [if_neg h0, if_pos h255]]
    have h255' : (255 : Int) < (s.length : Int) := by omega
    clear h0 h255
    unfold str
    go_enter Try.func8, Try.ntmps8
    go_wp2
    go_ret2
    exact ⟨rfl, Below.refl _ _⟩
  have hs255 : ¬ (255 : Int) < (s.length : Int) := by omega
  have HZ := Lib.hid (fun W => zero_calls s W (by omega))
  by_cases hz : 0 ∈ s
  · rw [show cleanS s = ([], 14) by unfold cleanS; rw [if_neg h0, if_neg h255, if_pos (.inl ((zero_iff s).2 hz))]]
    rw [show decide (0 ∈ s) = true by simpa using hz] at HZ
    clear h0 h255 hz
    unfold str at HZ ⊢
    go_enter Try.func8, Try.ntmps8
    go_wp2_with (go_at_call 27; refine (HZ.out _).mono ?_; rintro e w1 ⟨rfl, hb⟩; have HB := Lib.hid hb; clear hb)
    go_ret2
    exact ⟨rfl, HB.out⟩
  obtain ⟨b, r, hbr⟩ : ∃ b r, s = b :: r := by
    cases s with
    | nil => exact absurd rfl h0
    | cons b r => exact ⟨b, r, rfl⟩
  have hlen : (0 : Int) < (s.length : Int) := by rw [hbr]; simp
  have hhd : ∀ h : 0 < (⟨s.toArray⟩ : ByteArray).size, (⟨s.toArray⟩ : ByteArray)[0] = b := by
    intro h
    subst hbr
    rfl
  have hzi : ¬ 0 ≤ Lib.indexByte s 0 := fun h => hz ((zero_iff s).1 h)
  rw [show decide (0 ∈ s) = false by simpa using hz] at HZ
  by_cases hb : b = 47
  · subst hb
    have hh : s.head? = some 47 := by rw [hbr]; rfl
    cases hl : longB (comps s) with
    | true =>
      rw [show cleanS s = ([], 21) by unfold cleanS; rw [if_neg h0, if_neg h255, if_neg (by rintro (h | h); exact hzi h; exact h hh), if_pos hl]]
      have HC := Lib.hid (fun W => components_ref s W (by omega))
      have hcc : (parts s).length ≤ 256 := Nat.le_trans (parts_count s) (by omega)
      have hpl := parts_len s
      have HLO := Lib.hid (fun W base v h => long_calls base v (parts s) W h (by omega) (fun x hx => Nat.le_trans (hpl x hx) (by omega)))
      rw [longB_parts, show (parts s).filter (fun p => !p.isEmpty) = comps s from rfl, hl] at HLO
      generalize parts s = ps at *
      clear h0 h255 hz hbr hh hl hzi hpl
      unfold str at HZ HC ⊢
      go_enter Try.func8, Try.ntmps8
      go_wp2_with (first
        | (go_at_call 27; refine (HZ.out _).mono ?_; rintro e w1 ⟨rfl, hb⟩; have HB1 := Lib.hid hb; clear hb)
        | (go_at_call 28; refine (HC.out _).mono ?_; rintro e w2 ⟨v, rfl, hr, hb⟩; have HB2 := Lib.hid (And.intro hr hb); clear hr hb)
        | (go_at_call 29; refine (HLO.out _ _ _ HB2.out.1).mono ?_; rintro e w3 ⟨rfl, hb⟩; have HB3 := Lib.hid hb; clear hb))
      go_ret2
      exact ⟨rfl, (HB1.out.trans (HB2.out.2.mono HB1.out.size)).trans (HB3.out.mono (Nat.le_trans HB1.out.size HB2.out.2.size))⟩
    | false =>
      rw [show cleanS s = (pathOf (stk (comps s)), 0) by unfold cleanS; rw [if_neg h0, if_neg h255, if_neg (by rintro (h | h); exact hzi h; exact h hh), if_neg (by rw [hl]; exact Bool.false_ne_true)]]
      exact cleanR_ok s w h0 (by omega) hz hh hl
  · have hh : s.head? ≠ some 47 := by rw [hbr]; simpa using hb
    rw [show cleanS s = ([], 14) by unfold cleanS; rw [if_neg h0, if_neg h255, if_pos (.inr hh)]]
    have hbb : ((b.toNat : Int) != 47) = true := by
      simp only [bne_iff_ne, ne_eq]
      intro h
      exact hb (UInt8.toNat_inj.1 (by simpa using (by omega : b.toNat = 47)))
    clear h0 h255 hz hbr hh hzi hb
    unfold str at HZ ⊢
    go_enter Try.func8, Try.ntmps8
    go_wp2_with (go_at_call 27; refine (HZ.out _).mono ?_; rintro e w1 ⟨rfl, hb⟩; have HB := Lib.hid hb; clear hb)
    go_ret2
    exact ⟨rfl, HB.out⟩
theorem cleanS_len (s : Bs) : (cleanS s).1.length ≤ 100000 := by
  unfold cleanS
  split
  · simp
  · split
    · simp
    · split
      · simp
      · split
        · simp
        · have hjl := join_len (stk (comps s)) s.length (fun c hc => stk_short hc) 256 (Nat.le_trans (stk_len _) (Nat.le_trans (comps_count s) (by omega)))
          unfold pathOf
          rw [List.length_cons]
          omega
theorem cleanS_e (s : Bs) : (cleanS s).2 = 0 ∨ (cleanS s).2 = 9 ∨ (cleanS s).2 = 14 ∨ (cleanS s).2 = 21 := by
  unfold cleanS
  split
  · simp
  · split
    · simp
    · split
      · simp
      · split <;> simp
def joinS (d p : Bs) : Bs × Int :=
  if (cleanS d).2 ≠ 0 then ([], (cleanS d).2) else if p = [] then ([], 9) else if 255 < p.length then ([], 21) else if p.head? = some 47 then cleanS p
  else if 255 < (cleanS d).1.length + 1 + p.length then ([], 21) else cleanS ((cleanS d).1 ++ 47 :: p)
theorem str_cat (a x : Bs) : Value.string (((⟨a.toArray⟩ : ByteArray) ++ ⟨#[47]⟩) ++ ⟨x.toArray⟩) = .string ⟨(a ++ 47 :: x).toArray⟩ := congrArg Value.string (cat3 a x)
set_option maxHeartbeats 1000000 in
set_option maxRecDepth 100000 in
theorem joinP_calls (d p : Bs) (w : World) : Calls Try.prog 9 #[str d, str p] w fun e w' => e = .returned (.tuple #[str (joinS d p).1, .int .i64 (joinS d p).2]) ∧ Below w.heap.size w w' := by
  have HC := Lib.hid (fun W => cleanP_calls d W)
  have hcl := cleanS_len d
  have hce := cleanS_e d
  by_cases hc : (cleanS d).2 ≠ 0
  · rw [show joinS d p = ([], (cleanS d).2) by unfold joinS; rw [if_pos hc]]
    generalize cleanS d = cd at *
    obtain ⟨c, e⟩ := cd
    have hee : (e != 0) = true := by simpa using hc
    unfold str at HC ⊢
    simp only at HC ⊢
    go_enter Try.func9, Try.ntmps9
    go_wp2_with (go_at_call 7; refine (HC.out _).mono ?_; rintro e w1 ⟨rfl, hb⟩; have HB := Lib.hid hb; clear hb)
    go_ret2
    exact ⟨rfl, HB.out⟩
  have hj1 : joinS d p = if p = [] then ([], 9) else if 255 < p.length then ([], 21) else if p.head? = some 47 then cleanS p else if 255 < (cleanS d).1.length + 1 + p.length then ([], 21) else cleanS ((cleanS d).1 ++ 47 :: p) := by
    unfold joinS; rw [if_neg hc]
  rw [hj1]
  clear hj1
  have hc0 : (cleanS d).2 = 0 := Classical.byContradiction hc
  obtain ⟨c, hcc⟩ : ∃ c, cleanS d = (c, 0) := ⟨(cleanS d).1, Prod.ext rfl hc0⟩
  rw [hcc] at HC hcl ⊢
  simp only at HC hcl ⊢
  clear hcc hc0 hc hce
  by_cases h0 : p = []
  · subst h0
    rw [if_pos rfl]
    unfold str at HC ⊢
    go_enter Try.func9, Try.ntmps9
    go_wp2_with (go_at_call 7; refine (HC.out _).mono ?_; rintro e w1 ⟨rfl, hb⟩; have HB := Lib.hid hb; clear hb)
    go_ret2
    exact ⟨rfl, HB.out⟩
  have hsb : (p == []) = false := by simpa using h0
  rw [if_neg h0]
  by_cases h255 : 255 < p.length
  · rw [if_pos h255]
    have h255' : (255 : Int) < (p.length : Int) := by omega
    clear h0 h255
    unfold str at HC ⊢
    go_enter Try.func9, Try.ntmps9
    go_wp2_with (go_at_call 7; refine (HC.out _).mono ?_; rintro e w1 ⟨rfl, hb⟩; have HB := Lib.hid hb; clear hb)
    go_ret2
    exact ⟨rfl, HB.out⟩
  have hs255 : ¬ (255 : Int) < (p.length : Int) := by omega
  rw [if_neg h255]
  obtain ⟨b, r, hbr⟩ : ∃ b r, p = b :: r := by
    cases p with
    | nil => exact absurd rfl h0
    | cons b r => exact ⟨b, r, rfl⟩
  have hlen : (0 : Int) < (p.length : Int) := by rw [hbr]; simp
  have hhd : ∀ h : 0 < (⟨p.toArray⟩ : ByteArray).size, (⟨p.toArray⟩ : ByteArray)[0] = b := by
    intro h
    subst hbr
    rfl
  by_cases hb : b = 47
  · subst hb
    have hh : p.head? = some 47 := by rw [hbr]; rfl
    rw [if_pos hh]
    have HP := Lib.hid (fun W => cleanP_calls p W)
    generalize cleanS p = cp at *
    obtain ⟨x, y⟩ := cp
    clear h0 h255 hbr hh
    unfold str at HC HP ⊢
    simp only at HP ⊢
    go_enter Try.func9, Try.ntmps9
    go_wp2_with (go_at_call 7; first
      | (rename Hid (Below w.heap.size w _) => HB; refine (HP.out _).mono ?_; rintro e w2 ⟨rfl, hb⟩; have HB2 := Lib.hid hb; clear hb)
      | (refine (HC.out w).mono ?_; rintro e w1 ⟨rfl, hb⟩; have HB := Lib.hid hb; clear hb))
    go_ret2
    exact ⟨rfl, HB.out.trans (HB2.out.mono HB.out.size)⟩
  · have hh : p.head? ≠ some 47 := by rw [hbr]; simpa using hb
    rw [if_neg hh]
    have hbb : ((b.toNat : Int) == 47) = false := by
      simp only [beq_eq_false_iff_ne, ne_eq]
      intro h
      exact hb (UInt8.toNat_inj.1 (by simpa using (by omega : b.toNat = 47)))
    clear hbr hh hb h0
    by_cases hl : 255 < c.length + 1 + p.length
    · rw [if_pos hl]
      have hl' : (255 : Int) < (c.length : Int) + 1 + (p.length : Int) := by omega
      clear hl h255
      unfold str at HC ⊢
      go_enter Try.func9, Try.ntmps9
      go_wp2_with (go_at_call 7; refine (HC.out _).mono ?_; rintro e w1 ⟨rfl, hb⟩; have HB := Lib.hid hb; clear hb)
      go_ret2
      exact ⟨rfl, HB.out⟩
    · rw [if_neg hl]
      have hl' : ¬ (255 : Int) < (c.length : Int) + 1 + (p.length : Int) := by omega
      have HP := Lib.hid (fun W => cleanP_calls (c ++ 47 :: p) W)
      generalize cleanS (c ++ 47 :: p) = cp at *
      obtain ⟨x, y⟩ := cp
      clear h255
      unfold str at HC HP ⊢
      rw [← str_cat] at HP
      simp only at HP ⊢
      go_enter Try.func9, Try.ntmps9
      go_wp2_with (go_at_call 7; first
        | (rename Hid (Below w.heap.size w _) => HB; refine (HP.out _).mono ?_; rintro e w2 ⟨rfl, hb⟩; have HB2 := Lib.hid hb; clear hb)
        | (refine (HC.out w).mono ?_; rintro e w1 ⟨rfl, hb⟩; have HB := Lib.hid hb; clear hb))
      go_ret2
      exact ⟨rfl, HB.out.trans (HB2.out.mono HB.out.size)⟩
end Go.Proofs.Ytedoonfegcgmeaa
