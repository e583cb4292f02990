/- Small functions of the table of signals. -/
import Derived.Test.YtbpihfphoniclaaProg
import Derived.Test.YtbpihfphoniclaaR1
import Derived.WalkLawsBesides
import Derived.WalkSpells
import Derived.Outline
import Derived.BigQuiet
import Derived.Deep.QuietTactic
namespace Go.Proofs.Ytbpihfphoniclaa
open Go.RowKit
set_option linter.unusedVariables false
theorem thread_calls (n : Int) (w : World) : Calls Try.prog 27 #[.int .i64 n] w fun e w' => e = .returned (.bool (isTh n)) ∧ w = w' := by
  unfold isTh
  by_cases h1 : 0 ≤ n
  · by_cases h2 : n < 256
    · go_enter Try.func27, Try.ntmps27
      go_wp2
      go_ret
      exact ⟨by simp [h1, h2], rfl⟩
    · go_enter Try.func27, Try.ntmps27
      go_wp2
      go_ret
      exact ⟨by simp [h1, h2], rfl⟩
  · go_enter Try.func27, Try.ntmps27
    go_wp2
    go_ret
    exact ⟨by simp; omega, rfl⟩
theorem process_calls (n : Int) (w : World) : Calls Try.prog 28 #[.int .i64 n] w fun e w' => e = .returned (.bool (isPr n)) ∧ w = w' := by
  unfold isPr
  by_cases h1 : 0 ≤ n
  · by_cases h2 : n < 64
    · go_enter Try.func28, Try.ntmps28
      go_wp2
      go_ret
      exact ⟨by simp [h1, h2], rfl⟩
    · go_enter Try.func28, Try.ntmps28
      go_wp2
      go_ret
      exact ⟨by simp [h1, h2], rfl⟩
  · go_enter Try.func28, Try.ntmps28
    go_wp2
    go_ret
    exact ⟨by simp; omega, rfl⟩
theorem and_one (m k : Nat) (hm : m < 18446744073709551616) : bits .and .u64 ((m : Int) / 2 ^ k) 1 = if m.testBit k then 1 else 0 := by
  have e : ((m : Int) / 2 ^ k) = ((m / 2 ^ k : Nat) : Int) := by simp
  have hle : m / 2 ^ k ≤ m := Nat.div_le_self _ _
  rw [e, show (1 : Int) = ((1 : Nat) : Int) from rfl, u64_and_nat _ _ (by omega) (by omega), Nat.and_one_is_mod, Nat.testBit_eq_decide_div_mod_eq]
  have := Nat.mod_two_eq_zero_or_one (m / 2 ^ k)
  rcases this with h | h <;> simp [h]
theorem has_calls (m : Nat) (s : Int) (w : World) (hm : m < 18446744073709551616) (h1 : 1 ≤ s) (h2 : s ≤ 64) : Calls Try.prog 33 #[.int .u64 m, .int .i64 s] w fun e w' => e = .returned (.bool (hasB m s)) ∧ w = w' := by
  have HM := Lib.hid hm
  have e2 : (s - 1).toNat = s.toNat - 1 := by omega
  unfold hasB
  rw [e2]
  clear e2 hm
  go_enter Try.func33, Try.ntmps33
  go_wp2
  go_ret
  refine ⟨ret_bool ?_, rfl⟩
  show (bits .and .u64 ((m : Int) / 2 ^ (s.toNat - 1)) 1 == 1) = _
  rw [and_one m (s.toNat - 1) HM.out]
  cases m.testBit (s.toNat - 1) <;> rfl
theorem started_nil (n : Int) (w : World) : Calls Try.prog 29 #[.pointer none, .int .i64 n] w fun e w' => e = .returned (.tuple #[.pointer none, .int .i64 35]) ∧ w = w' := by
  go_enter Try.func29, Try.ntmps29
  go_wp2
  go_ret2
  exact ⟨rfl, rfl⟩
theorem started_bad {base t : Nat} {L : Lay} {S : St} (n : Int) (w : World) (hn : isTh n = false) : Calls Try.prog 29 #[.pointer (some ⟨t, 0, none⟩), .int .i64 n] w fun e w' => e = .returned (.tuple #[.pointer none, .int .i64 34]) ∧ w = w' := by
  go_enter Try.func29, Try.ntmps29
  go_wp2_with (go_at_call 27; refine (thread_calls n _).mono ?_; rw [hn]; rintro e w' ⟨rfl, rfl⟩)
  go_ret2
  exact ⟨rfl, rfl⟩
theorem started_calls {base t : Nat} {L : Lay} {S : St} (n : Int) (w : World) (h : RepL w base t L S) (hn : isTh n = true) : Calls Try.prog 29 #[.pointer (some ⟨t, 0, none⟩), .int .i64 n] w fun e w' => e = .returned (.tuple #[pv (L.ptr n.toNat), .int .i64 (if (S.tk n.toNat).isSome then 0 else 24)]) ∧ w = w' := by
  obtain ⟨h1, h2⟩ := isTh_iff.1 hn
  have HN := Lib.hid hn
  have H := Lib.hid h
  cases hx : S.tk n.toNat with
  | none =>
    rw [(h.idle n.toNat (by omega) hx).1]
    have hc := h.none_cell (by omega) hx
    clear hn h hx
    go_enter Try.func29, Try.ntmps29
    go_wp2_with (go_at_call 27; refine (thread_calls n _).mono ?_; rw [HN.out]; rintro e w' ⟨rfl, rfl⟩)
    go_ret2
    exact ⟨rfl, rfl⟩
  | some x =>
    obtain ⟨b, hb, _, _, _, hc⟩ := h.task_cell (by omega) hx
    rw [hb]
    clear hn h hx hb
    go_enter Try.func29, Try.ntmps29
    go_wp2_with (go_at_call 27; refine (thread_calls n _).mono ?_; rw [HN.out]; rintro e w' ⟨rfl, rfl⟩)
    go_ret2
    exact ⟨rfl, rfl⟩
theorem ignored_calls {base t : Nat} {L : Lay} {S : St} (p s : Int) (w : World) (h : RepL w base t L S) (hp0 : 0 ≤ p) (hp : p < 64) (hs0 : 0 ≤ s) (hs : s < 57) : Calls Try.prog 35 #[.pointer (some ⟨t, 0, none⟩), .int .i64 p, .int .i64 s] w fun e w' => e = .returned (.bool (ignored S p.toNat s)) ∧ w = w' := by
  have hc : w.cell? ⟨t, 256 + p.toNat * 58 + s.toNat, none⟩ = some (.int .i64 (S.ac p.toNat s.toNat)) := by
    rw [h.cellT _ (by omega), tcell_ac L S p.toNat s.toNat _ (by omega) (by omega) rfl]
  unfold ignored
  generalize S.ac p.toNat s.toNat = a at *
  clear h
  go_enter Try.func35, Try.ntmps35
  go_wp2
  all_goals (go_ret; exact ⟨ret_bool (by simp_all), rfl⟩)
theorem does_calls {base t : Nat} {L : Lay} {S : St} (p s : Int) (w : World) (h : RepL w base t L S) (hp0 : 0 ≤ p) (hp : p < 64) (hs0 : 0 ≤ s) (hs : s < 57) : Calls Try.prog 40 #[.pointer (some ⟨t, 0, none⟩), .int .i64 p, .int .i64 s] w fun e w' => e = .returned (.int .i64 (does S p.toNat s)) ∧ w = w' := by
  have hc : w.cell? ⟨t, 256 + p.toNat * 58 + s.toNat, none⟩ = some (.int .i64 (S.ac p.toNat s.toNat)) := by
    rw [h.cellT _ (by omega), tcell_ac L S p.toNat s.toNat _ (by omega) (by omega) rfl]
  unfold does
  generalize S.ac p.toNat s.toNat = a at *
  clear h
  go_enter Try.func40, Try.ntmps40
  go_wp2
  all_goals (go_ret; exact ⟨ret_int (by simp_all), rfl⟩)
theorem got_nil (n : Int) (w : World) : Calls Try.prog 26 #[.pointer none, .int .i64 n] w fun e w' => e = .returned (.int .i64 0) ∧ w = w' := by
  go_enter Try.func26, Try.ntmps26
  go_wp2
  go_ret
  exact ⟨rfl, rfl⟩
theorem got_calls {base t : Nat} {L : Lay} {S : St} (n : Int) (w : World) (h : RepL w base t L S) : Calls Try.prog 26 #[.pointer (some ⟨t, 0, none⟩), .int .i64 n] w fun e w' => e = .returned (.int .i64 (gotS S n)) ∧ w = w' := by
  unfold gotS
  cases hn : isTh n with
  | false =>
    have HN := Lib.hid hn
    clear hn h
    go_enter Try.func26, Try.ntmps26
    go_wp2_with (go_at_call 27; refine (thread_calls n _).mono ?_; rw [HN.out]; rintro e w' ⟨rfl, rfl⟩)
    go_ret
    exact ⟨rfl, rfl⟩
  | true =>
    obtain ⟨h1, h2⟩ := isTh_iff.1 hn
    have hc : w.cell? ⟨t, 3968 + n.toNat, none⟩ = some (.int .i64 (S.got n.toNat)) := by
      rw [h.cellT _ (by omega), tcell_got L S n.toNat _ rfl]
    have HN := Lib.hid hn
    clear hn h
    go_enter Try.func26, Try.ntmps26
    go_wp2_with (go_at_call 27; refine (thread_calls n _).mono ?_; rw [HN.out]; rintro e w' ⟨rfl, rfl⟩)
    go_ret
    exact ⟨rfl, rfl⟩
end Go.Proofs.Ytbpihfphoniclaa
