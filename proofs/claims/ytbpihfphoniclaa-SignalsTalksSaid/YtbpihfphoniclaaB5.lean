import Derived.Test.YtbpihfphoniclaaB4
namespace Go.Proofs.Ytbpihfphoniclaa
open Go.RowKit
set_option linter.unusedVariables false
theorem opposite_calls {base t : Nat} {L : Lay} {S : St} (p s : Int) (w : World) (h : RepL w base t L S) (hin : Inv S 1000) (hp0 : 0 ≤ p) (hp : p < 64) :
    Calls Try.prog 34 #[.pointer (some ⟨t, 0, none⟩), .int .i64 p, .int .i64 s] w fun e w' => e = .returned (.tuple #[]) ∧ AfterL base t L (opposite S p.toNat s) w w' := by
  have HA : Hid (AfterL base t L S w w) := Lib.hid ⟨⟨L, h, rfl⟩, Fr.refl _ _ _⟩
  have HF19 := Lib.hid (forget_calls p 19 w h hin.len hp0 hp)
  have HF18 := Lib.hid (forget_calls p 18 w h hin.len hp0 hp)
  unfold opposite
  by_cases h18 : s = 18
  · subst h18
    rw [if_pos rfl]
    clear h hin
    go_enter Try.func34, Try.ntmps34
    go_wp2_with (go_at_call 41; refine HF19.out.mono ?_; rintro e w' ⟨rfl, hd⟩; have HD := Lib.hid hd; clear hd)
    go_end0
    exact ⟨rfl, HD.out⟩
  · rw [if_neg h18]
    have b18 : (s == 18) = false := by simpa using h18
    clear h18
    by_cases h19 : s = 19
    · subst h19
      rw [if_pos rfl]
      clear h hin b18
      go_enter Try.func34, Try.ntmps34
      go_wp2_with (go_at_call 41; refine HF18.out.mono ?_; rintro e w' ⟨rfl, hd⟩; have HD := Lib.hid hd; clear hd)
      go_end0
      exact ⟨rfl, HD.out⟩
    · rw [if_neg h19]
      have b19 : (s == 19) = false := by simpa using h19
      clear h hin h19
      go_enter Try.func34, Try.ntmps34
      go_wp2
      go_end0
      exact ⟨rfl, HA.out⟩
theorem action_nil (p s a : Int) (w : World) : Calls Try.prog 16 #[.pointer none, .int .i64 p, .int .i64 s, .int .i64 a] w fun e w' => e = .returned (.tuple #[.int .i64 0, .int .i64 35]) ∧ w = w' := by
  go_enter Try.func16, Try.ntmps16
  go_wp2
  go_ret2
  exact ⟨rfl, rfl⟩
theorem has_never {s : Int} (h1 : 1 ≤ s) (h2 : s ≤ 56) : hasB 262400 s = decide (s = 9 ∨ s = 19) := by
  obtain ⟨n, rfl⟩ : ∃ n : Nat, s = n := ⟨s.toNat, by omega⟩
  have key : ∀ n : Nat, n < 57 → hasB 262400 (n : Int) = decide ((n : Int) = 9 ∨ (n : Int) = 19) ∨ n = 0 := by decide
  rcases key n (by omega) with h | h
  · exact h
  · omega
set_option maxHeartbeats 1000000 in
set_option maxRecDepth 100000 in
theorem action_calls {base t : Nat} {L : Lay} {S : St} (p s a : Int) (w : World) (h : RepL w base t L S) (hin : Inv S 1000) :
    Calls Try.prog 16 #[.pointer (some ⟨t, 0, none⟩), .int .i64 p, .int .i64 s, .int .i64 a] w fun e w' => e = .returned (.tuple #[.int .i64 (actionS S p s a).1.1, .int .i64 (actionS S p s a).1.2]) ∧ After base t (actionS S p s a).2 w w' := by
  have HA := Lib.hid (After.refl h)
  have H := Lib.hid (And.intro h hin)
  clear h hin
  cases hp : isPr p with
  | false =>
    rw [show actionS S p s a = ((0, 34), S) by simp [actionS, hp]]
    have H1 := Lib.hid hp
    clear hp
    go_enter Try.func16, Try.ntmps16
    go_wp2_with (go_at_call 28; refine (process_calls p _).mono ?_; rw [H1.out]; rintro e w' ⟨rfl, rfl⟩)
    go_ret2
    exact ⟨rfl, HA.out⟩
  | true =>
    obtain ⟨p0, p1⟩ := isPr_iff.1 hp
    have H1 := Lib.hid hp
    by_cases hb : s < 1 ∨ 56 < s ∨ a < 0 ∨ 2 < a
    · rw [show actionS S p s a = ((0, 14), S) by simp [actionS, hp, hb]]
      clear hp
      rcases (by omega : s < 1 ∨ (¬ s < 1 ∧ 56 < s) ∨ (¬ s < 1 ∧ ¬ 56 < s ∧ a < 0) ∨ (¬ s < 1 ∧ ¬ 56 < s ∧ ¬ a < 0 ∧ 2 < a)) with g | ⟨g1, g⟩ | ⟨g1, g2, g⟩ | ⟨g1, g2, g3, g⟩
      all_goals
        clear hb
        go_enter Try.func16, Try.ntmps16
        go_wp2_with (go_at_call 28; refine (process_calls p _).mono ?_; rw [H1.out]; rintro e w' ⟨rfl, rfl⟩)
        go_ret2
        exact ⟨rfl, HA.out⟩
    · have g1 : ¬ s < 1 := by omega
      have g2 : ¬ 56 < s := by omega
      have g3 : ¬ a < 0 := by omega
      have g4 : ¬ 2 < a := by omega
      have HV := Lib.hid (has_never (s := s) (by omega) (by omega))
      by_cases hn : s = 9 ∨ s = 19
      · rw [show actionS S p s a = ((0, 32), S) by simp [actionS, hp, hb, hn]]
        have HN := Lib.hid hn
        clear hp hb hn
        go_enter Try.func16, Try.ntmps16
        go_wp2_with (first
          | (go_at_call 28; refine (process_calls p _).mono ?_; rw [H1.out]; rintro e w' ⟨rfl, rfl⟩)
          | (go_at_call 33; refine (has_calls 262400 s _ (by decide) (by omega) (by omega)).mono ?_; rw [HV.out, decide_eq_true HN.out]; rintro e w' ⟨rfl, rfl⟩))
        go_ret2
        exact ⟨rfl, HA.out⟩
      · have hc : w.cell? ⟨t, 256 + p.toNat * 58 + s.toNat, none⟩ = some (.int .i64 (S.ac p.toNat s.toNat)) := by
          rw [H.out.1.cellT _ (by omega), tcell_ac L S p.toNat s.toNat _ (by omega) (by omega) rfl]
        have hf := H.out.1.frozenT (256 + p.toNat * 58 + s.toNat)
        have HR := Lib.hid (H.out.1.setAc p.toNat s.toNat (256 + p.toNat * 58 + s.toNat) (by omega) (by omega) rfl a)
        have HFR := Lib.hid (H.out.1.frT (256 + p.toNat * 58 + s.toNat) (.int .i64 a))
        have HE : Hid (actionS S p s a = ((S.ac p.toNat s.toNat, 0), if ignored { S with ac := upd S.ac p.toNat (upd (S.ac p.toNat) s.toNat a) } p.toNat s then forget { S with ac := upd S.ac p.toNat (upd (S.ac p.toNat) s.toNat a) } p.toNat s else { S with ac := upd S.ac p.toNat (upd (S.ac p.toNat) s.toNat a) })) := Lib.hid (by simp [actionS, hp, hb, hn])
        rw [HE.out]
        have HN := Lib.hid (decide_eq_false hn)
        have HLEN : Hid (∀ i, i < 320 → (S.ls i).length ≤ 1000) := Lib.hid H.out.2.len
        have hsb : s < 57 := by omega
        have hs0 : 0 ≤ s := by omega
        obtain ⟨S1, hS1⟩ : ∃ S1 : St, { S with ac := upd S.ac p.toNat (upd (S.ac p.toNat) s.toNat a) } = S1 := ⟨_, rfl⟩
        have HL1 : Hid (∀ i, i < 320 → (S1.ls i).length ≤ 1000) := Lib.hid (by rw [← hS1]; exact HLEN.out)
        rw [hS1] at HR ⊢
        clear hp hb hn hS1 HE H HLEN
        cases hig : ignored S1 p.toNat s with
        | false =>
          have HIG := Lib.hid hig
          clear hig
          go_enter Try.func16, Try.ntmps16
          go_wp2_with (first
            | (go_at_call 28; refine (process_calls p _).mono ?_; rw [H1.out]; rintro e w' ⟨rfl, rfl⟩)
            | (go_at_call 33; refine (has_calls 262400 s _ (by decide) (by omega) (by omega)).mono ?_; rw [HV.out, HN.out]; rintro e w' ⟨rfl, rfl⟩)
            | (go_at_call 35; refine (ignored_calls p s _ HR.out p0 p1 hs0 hsb).mono ?_; rw [HIG.out]; rintro e w' ⟨rfl, rfl⟩))
          go_ret2
          exact ⟨rfl, ⟨_, HR.out⟩, HFR.out⟩
        | true =>
          have HIG := Lib.hid hig
          clear hig
          go_enter Try.func16, Try.ntmps16
          go_wp2_with (first
            | (go_at_call 28; refine (process_calls p _).mono ?_; rw [H1.out]; rintro e w' ⟨rfl, rfl⟩)
            | (go_at_call 33; refine (has_calls 262400 s _ (by decide) (by omega) (by omega)).mono ?_; rw [HV.out, HN.out]; rintro e w' ⟨rfl, rfl⟩)
            | (go_at_call 35; refine (ignored_calls p s _ HR.out p0 p1 hs0 hsb).mono ?_; rw [HIG.out]; rintro e w' ⟨rfl, rfl⟩)
            | (go_at_call 41; refine (forget_calls p s _ HR.out HL1.out p0 p1).mono ?_; rintro e w' ⟨rfl, hd⟩; have HD := Lib.hid hd.after; clear hd))
          go_ret2
          exact ⟨rfl, HD.out.1, HFR.out.trans HD.out.2⟩
end Go.Proofs.Ytbpihfphoniclaa
