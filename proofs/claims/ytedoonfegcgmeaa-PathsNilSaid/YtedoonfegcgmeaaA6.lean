/- Clean, whole. -/
import Derived.Test.YtedoonfegcgmeaaA5
namespace Go.Proofs.Ytedoonfegcgmeaa
open Go.RowKit
set_option linter.unusedVariables false
theorem idx0_calls (s : Bs) (W : World) : Calls Try.prog 23 #[str s, .int .u8 0] W fun e w' => e = .returned (.int .i64 (Lib.indexByte s 0)) ∧ W = w' := by
  have := Try.strings_IndexByte ⟨s.toArray⟩ 0 W
  rw [mk_data] at this
  exact this.mono fun e w' h => ⟨h.1, h.2.symm⟩
theorem ret_str2 (l : Bs) (c : Int) : Ending.returned (Value.tuple #[.string ⟨l.toArray⟩, .int .i64 c]) = .returned (.tuple #[str l, .int .i64 c]) := rfl
set_option maxRecDepth 100000 in
theorem clean_calls (s : Bs) (w : World) (hs : s.length ≤ 1000000) : Calls Try.prog 7 #[str s] w fun e w' => e = .returned (.tuple #[str (cleanS s).1, .int .i64 (cleanS s).2]) ∧ Below w.heap.size w w' := by
  by_cases h0 : s = []
  · subst h0
    go_enter Try.func7, Try.ntmps7
    unfold str
    go_wp2
    go_ret2
    exact ⟨rfl, Below.refl _ _⟩
  have hsb : (s == []) = false := by simpa using h0
  by_cases h255 : 255 < s.length
  · rw [show cleanS s = ([], 21) by unfold cleanS; rw [if_neg h0, if_pos h255]]
    have h255' : (255 : Int) < (s.length : Int) := by omega
    clear h0 h255 hs
    unfold str
    go_enter Try.func7, Try.ntmps7
    go_wp2
    go_ret2
    exact ⟨rfl, Below.refl _ _⟩
  have hs255 : ¬ (255 : Int) < (s.length : Int) := by omega
  have HZ := Lib.hid (fun W => idx0_calls s W)
  by_cases hz : 0 ≤ Lib.indexByte s 0
  · rw [show cleanS s = ([], 14) by unfold cleanS; rw [if_neg h0, if_neg h255, if_pos (.inl hz)]]
    generalize Lib.indexByte s 0 = ix at *
    clear h0 h255 hs
    unfold str at HZ ⊢
    go_enter Try.func7, Try.ntmps7
    go_wp2_with (go_at_call 23; refine (HZ.out _).mono ?_; rintro e w' ⟨rfl, rfl⟩)
    go_ret2
    exact ⟨rfl, Below.refl _ _⟩
  obtain ⟨b, r, hbr⟩ : ∃ b r, s = b :: r := by
    cases s with
    | nil => exact absurd rfl h0
    | cons b r => exact ⟨b, r, rfl⟩
  have hlen : (0 : Int) < (s.length : Int) := by rw [hbr]; simp
  have hhd : ∀ h : 0 < (⟨s.toArray⟩ : ByteArray).size, (⟨s.toArray⟩ : ByteArray)[0] = b := by
    intro h
    subst hbr
    rfl
  by_cases hb : b = 47
  · subst hb
    have hh : s.head? = some 47 := by rw [hbr]; rfl
    cases hl : longB (comps s) with
    | true =>
      rw [show cleanS s = ([], 21) by unfold cleanS; rw [if_neg h0, if_neg h255, if_neg (by rintro (h | h); exact hz h; exact h hh), if_pos hl]]
      have HN := Lib.hid (fun W => named_calls s W hs)
      have hnm : namedS s = 21 := by unfold namedS; rw [hl]; rfl
      rw [hnm] at HN
      have hzz : ¬ (0 : Int) ≤ Lib.indexByte s 0 := hz
      generalize Lib.indexByte s 0 = ix at *
      clear h0 h255 hs hbr hh hl hnm hz
      unfold str at HZ HN ⊢
      go_enter Try.func7, Try.ntmps7
      go_wp2_with (first
        | (go_at_call 23; refine (HZ.out _).mono ?_; rintro e w' ⟨rfl, rfl⟩)
        | (go_at_call 24; refine (HN.out _).mono ?_; rintro e w1 ⟨rfl, hb⟩; have HB := Lib.hid hb; clear hb))
      go_ret2
      exact ⟨rfl, HB.out⟩
    | false =>
      rw [show cleanS s = (pathOf (stk (comps s)), 0) by unfold cleanS; rw [if_neg h0, if_neg h255, if_neg (by rintro (h | h); exact hz h; exact h hh), if_neg (by rw [hl]; exact Bool.false_ne_true)]]
      exact (callsIn_wide (n := 5)).1 (clean_ok s w h0 (by omega) (by omega) hh hl)
  · have hh : s.head? ≠ some 47 := by rw [hbr]; simpa using hb
    rw [show cleanS s = ([], 14) by unfold cleanS; rw [if_neg h0, if_neg h255, if_pos (.inr hh)]]
    have hzz : ¬ (0 : Int) ≤ Lib.indexByte s 0 := hz
    have hbb : ((b.toNat : Int) != 47) = true := by
      simp only [bne_iff_ne, ne_eq]
      intro h
      exact hb (UInt8.toNat_inj.1 (by simpa using (by omega : b.toNat = 47)))
    generalize Lib.indexByte s 0 = ix at *
    clear h0 h255 hs hbr hh hz hb
    unfold str at HZ ⊢
    go_enter Try.func7, Try.ntmps7
    go_wp2_with (go_at_call 23; refine (HZ.out _).mono ?_; rintro e w' ⟨rfl, rfl⟩)
    go_ret2
    exact ⟨rfl, Below.refl _ _⟩
end Go.Proofs.Ytedoonfegcgmeaa
