import Derived.Test.YtbpihfphoniclaaB1
namespace Go.Proofs.Ytbpihfphoniclaa
open Go.RowKit
set_option linter.unusedVariables false
theorem upd_upd {α : Type} (f : Nat → α) (i : Nat) (a b : α) : upd (upd f i a) i b = upd f i b := by
  funext j
  unfold upd
  split <;> rfl
theorem and_lt {a b n : Nat} (h : a < n) : a &&& b < n := Nat.lt_of_le_of_lt Nat.and_le_left h
theorem or_lt56 {a b : Nat} (ha : a < 72057594037927936) (hb : b < 72057594037927936) : a ||| b < 72057594037927936 := by
  have := Nat.or_lt_two_pow (n := 56) (x := a) (y := b) ha hb
  exact this
theorem andAll_lt (b : Nat) : b &&& allM < 72057594037927936 := Nat.lt_of_le_of_lt Nat.and_le_right (by decide)
theorem RepL.frB {w : World} {base t : Nat} {L : Lay} {S : St} (h : RepL w base t L S) {i : Nat} (hi : i < 256) {x : Tk} (hx : S.tk i = some x) {b : Nat} (hb : L.ptr i = some b) (k : Nat) (v : Value) : Fr base TS w (w.setCell ⟨b, k, none⟩ v) := by
  obtain ⟨b', h1, h2, h3⟩ := h.task i hi x hx
  rw [hb] at h1
  cases h1
  refine Fr.setCell h2 fun o ho => ?_
  rw [h3] at ho
  cases ho
  exact ⟨80, rfl, by decide⟩
/-- The mask of a thread is written twice. -/
theorem mask_after {w : World} {base t : Nat} {L : Lay} {S : St} (h : RepL w base t L S) {i : Nat} (hi : i < 256) {x : Tk} (hx : S.tk i = some x) {b : Nat} (hb : L.ptr i = some b) (m1 m2 : Nat) :
    After base t { S with tk := upd S.tk i (some { x with mask := m2 }) } w ((w.setCell ⟨b, 1, none⟩ (.int .u64 m1)).setCell ⟨b, 1, none⟩ (.int .u64 m2)) := by
  have h1 := h.setTk hi hx hb 1 (.int .u64 m1) { x with mask := m1 } (by simp [kcells])
  have hx1 : (upd S.tk i (some { x with mask := m1 })) i = some { x with mask := m1 } := upd_same _ _ _
  have h2 := h1.setTk hi hx1 hb 1 (.int .u64 m2) { x with mask := m2 } (by simp [kcells])
  refine ⟨⟨L, ?_⟩, (h.frB hi hx hb _ _).trans (h1.frB hi hx1 hb _ _)⟩
  have e := upd_upd S.tk i (some { x with mask := m1 }) (some { x with mask := m2 })
  simp only at h2
  rw [e] at h2
  exact h2
theorem mask_nil (th how : Int) (b : Nat) (w : World) : Calls Try.prog 13 #[.pointer none, .int .i64 th, .int .i64 how, .int .u64 b] w fun e w' => e = .returned (.tuple #[.int .u64 0, .int .i64 35]) ∧ w = w' := by
  go_enter Try.func13, Try.ntmps13
  go_wp2
  go_ret2
  exact ⟨rfl, rfl⟩
set_option maxHeartbeats 1000000 in
set_option maxRecDepth 100000 in
theorem mask_calls {base t : Nat} {L : Lay} {S : St} (th how : Int) (b : Nat) (w : World) (h : RepL w base t L S) (hin : Inv S 1000) (hb : b < 18446744073709551616) :
    Calls Try.prog 13 #[.pointer (some ⟨t, 0, none⟩), .int .i64 th, .int .i64 how, .int .u64 b] w fun e w' => e = .returned (.tuple #[.int .u64 (maskS S th how b).1.1, .int .i64 (maskS S th how b).1.2]) ∧ After base t (maskS S th how b).2 w w' := by
  have HA := Lib.hid (After.refl h)
  have H := Lib.hid h
  have HB := Lib.hid hb
  have HI := Lib.hid hin
  clear h hb hin
  cases hth : isTh th with
  | false =>
    have H1 := Lib.hid hth
    rw [show maskS S th how b = ((0, 34), S) by simp [maskS, hth]]
    clear hth
    go_enter Try.func13, Try.ntmps13
    go_wp2_with (first
      | (go_at_call 27; refine (thread_calls th _).mono ?_; rw [H1.out]; rintro e w' ⟨rfl, rfl⟩))
    go_ret2
    exact ⟨rfl, HA.out⟩
  | true =>
    have H1 := Lib.hid hth
    obtain ⟨t0, t1⟩ := isTh_iff.1 hth
    by_cases hh : how < 0 ∨ 2 < how
    · rw [show maskS S th how b = ((0, 14), S) by simp [maskS, hth, hh]]
      clear hth
      rcases hh with hh | hh
      all_goals
        go_enter Try.func13, Try.ntmps13
        go_wp2_with (first
          | (go_at_call 27; refine (thread_calls th _).mono ?_; rw [H1.out]; rintro e w' ⟨rfl, rfl⟩))
        go_ret2
        exact ⟨rfl, HA.out⟩
    · have h0 : ¬ how < 0 := by omega
      have h2 : ¬ 2 < how := by omega
      cases hx : S.tk th.toNat with
      | none =>
        rw [show maskS S th how b = ((0, 24), S) by simp [maskS, hth, hh, hx]]
        have HS : Hid (∀ W, Calls Try.prog 29 #[.pointer (some ⟨t, 0, none⟩), .int .i64 th] w W → True) := Lib.hid fun _ _ => trivial
        have HST := Lib.hid (started_calls th w H.out hth)
        have HP := Lib.hid (H.out.idle th.toNat (by omega) hx).1
        have HX := Lib.hid hx
        clear hth hh hx HS
        go_enter Try.func13, Try.ntmps13
        go_wp2_with (first
          | (go_at_call 27; refine (thread_calls th _).mono ?_; rw [H1.out]; rintro e w' ⟨rfl, rfl⟩)
          | (go_at_call 29; refine HST.out.mono ?_; rw [HP.out, HX.out]; rintro e w' ⟨rfl, rfl⟩))
        go_ret2
        exact ⟨rfl, HA.out⟩
      | some x =>
        rw [show maskS S th how b = ((x.mask, 0), { S with tk := upd S.tk th.toNat (some { x with mask := newMask x.mask how b }) }) by simp [maskS, hth, hh, hx]]
        obtain ⟨bb, hpb, _, hbl, hbc, hc⟩ := H.out.task_cell (show th.toNat < 256 by omega) hx
        obtain ⟨_, _, hm, _, _, _⟩ := HI.out.task th.toNat (by omega) x hx
        have HM := Lib.hid hm
        have HST := Lib.hid (started_calls th w H.out hth)
        have HX := Lib.hid hx
        have HPB := Lib.hid hpb
        have c1 : w.cell? ⟨bb, 1, none⟩ = some (.int .u64 x.mask) := by rw [cell_of_row _ _ _ _ _ _ hbc]; rfl
        have f1 : w.frozen? ⟨bb, 1, none⟩ = false := frozen_of_cells hbc 1
        have HN : Hid (newMask x.mask how b = (if how = 0 then x.mask ||| (b &&& allM) else if how = 1 then x.mask &&& (18446744073709551615 - (b &&& allM)) else (b &&& allM)) &&& (18446744073709551615 - nevM)) := Lib.hid rfl
        have e1 : bits .and .u64 (b : Int) 72057594037927935 = ((b &&& allM : Nat) : Int) := u64_and_nat b allM HB.out (by decide)
        have HS1 := Lib.hid (andAll_lt b)
        generalize b &&& allM = s1 at *
        clear hth hh hx hbc hm hpb
        have HE2 : Hid (bits .or .u64 (x.mask : Int) (s1 : Int) = ((x.mask ||| s1 : Nat) : Int)) := Lib.hid (u64_or_nat _ _ (by have := HM.out; omega) (by have := HS1.out; omega))
        have HE3 : Hid (bits .andNot .u64 (x.mask : Int) (s1 : Int) = ((x.mask &&& (18446744073709551615 - s1) : Nat) : Int)) := Lib.hid (u64_andNot_nat _ _ (by have := HM.out; omega) (by have := HS1.out; omega))
        have HL1 := Lib.hid (or_lt56 HM.out HS1.out)
        have HL2 : Hid (x.mask &&& (18446744073709551615 - s1) < 72057594037927936) := Lib.hid (and_lt HM.out)
        rcases (by omega : how = 0 ∨ how = 1 ∨ how = 2) with rfl | rfl | rfl
        · obtain ⟨m1, hm1⟩ : ∃ m1, x.mask ||| s1 = m1 := ⟨_, rfl⟩
          rw [if_pos rfl, hm1] at HN
          rw [hm1] at HE2 HL1
          have e2 := HE2.out
          have e3 : bits .andNot .u64 (m1 : Int) 262400 = ((newMask x.mask 0 b : Nat) : Int) := by rw [HN.out]; exact u64_andNot_nat m1 nevM (by have := HL1.out; omega) (by decide)
          have HF := Lib.hid (mask_after H.out (show th.toNat < 256 by omega) HX.out HPB.out m1 (newMask x.mask 0 b))
          generalize newMask x.mask 0 b = nm at *
          clear hm1
          go_enter Try.func13, Try.ntmps13
          go_wp2_with (first
            | (go_at_call 27; refine (thread_calls th _).mono ?_; rw [H1.out]; rintro e w' ⟨rfl, rfl⟩)
            | (go_at_call 29; refine HST.out.mono ?_; rw [HPB.out, HX.out]; simp only [pv, Option.map_some, Option.isSome_some, if_true]; rintro e w' ⟨rfl, rfl⟩))
          go_ret2
          exact ⟨rfl, HF.out⟩
        · obtain ⟨m1, hm1⟩ : ∃ m1, x.mask &&& (18446744073709551615 - s1) = m1 := ⟨_, rfl⟩
          rw [if_neg (by decide), if_pos rfl, hm1] at HN
          rw [hm1] at HE3 HL2
          have e2 := HE3.out
          have e3 : bits .andNot .u64 (m1 : Int) 262400 = ((newMask x.mask 1 b : Nat) : Int) := by rw [HN.out]; exact u64_andNot_nat m1 nevM (by have := HL2.out; omega) (by decide)
          have HF := Lib.hid (mask_after H.out (show th.toNat < 256 by omega) HX.out HPB.out m1 (newMask x.mask 1 b))
          generalize newMask x.mask 1 b = nm at *
          clear hm1
          go_enter Try.func13, Try.ntmps13
          go_wp2_with (first
            | (go_at_call 27; refine (thread_calls th _).mono ?_; rw [H1.out]; rintro e w' ⟨rfl, rfl⟩)
            | (go_at_call 29; refine HST.out.mono ?_; rw [HPB.out, HX.out]; simp only [pv, Option.map_some, Option.isSome_some, if_true]; rintro e w' ⟨rfl, rfl⟩))
          go_ret2
          exact ⟨rfl, HF.out⟩
        · obtain ⟨m1, hm1⟩ : ∃ m1, s1 = m1 := ⟨_, rfl⟩
          rw [if_neg (by decide), if_neg (by decide), hm1] at HN
          rw [hm1] at HS1 e1
          have e3 : bits .andNot .u64 (m1 : Int) 262400 = ((newMask x.mask 2 b : Nat) : Int) := by rw [HN.out]; exact u64_andNot_nat m1 nevM (by have := HS1.out; omega) (by decide)
          have HF := Lib.hid (mask_after H.out (show th.toNat < 256 by omega) HX.out HPB.out m1 (newMask x.mask 2 b))
          generalize newMask x.mask 2 b = nm at *
          clear hm1
          go_enter Try.func13, Try.ntmps13
          go_wp2_with (first
            | (go_at_call 27; refine (thread_calls th _).mono ?_; rw [H1.out]; rintro e w' ⟨rfl, rfl⟩)
            | (go_at_call 29; refine HST.out.mono ?_; rw [HPB.out, HX.out]; simp only [pv, Option.map_some, Option.isSome_some, if_true]; rintro e w' ⟨rfl, rfl⟩))
          go_ret2
          exact ⟨rfl, HF.out⟩
end Go.Proofs.Ytbpihfphoniclaa
