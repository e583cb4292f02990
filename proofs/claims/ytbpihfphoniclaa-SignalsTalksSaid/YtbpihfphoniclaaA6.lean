import Derived.Test.YtbpihfphoniclaaA5
import Derived.Laws.EntriesVeiled
namespace Go.Proofs.Ytbpihfphoniclaa
open Go.RowKit
set_option linter.unusedVariables false
/-- A slice of ints that reads as numbers. -/
def Ns (w : World) (v : Value) (l : List Nat) : Prop := Rw w 3 1 v l.length (nums l)
theorem Ns.at {w : World} {v : Value} {l : List Nat} (h : Ns w v l) : ∃ A cap, v = .slice A l.length cap ∧ l.length ≤ cap ∧ cap ≤ maxLen ∧ ∀ k, k < l.length → ∃ g, A = some ⟨g, 0, none⟩ ∧ g < w.heap.size ∧ w.cell? ⟨g, k, none⟩ = some (.int .i64 (l.getD k 0 : Nat)) := by
  obtain ⟨A, cap, hv, h1, h2, h3, h4⟩ := Rw.form h
  refine ⟨A, cap, hv, h1, h2, fun k hk => ?_⟩
  cases A with
  | none => have := (h3 rfl).1; omega
  | some ad =>
    obtain ⟨g, rfl, hg, hc⟩ := h4 ad rfl
    refine ⟨g, rfl, hg, hc k _ ?_⟩
    simp [nums, List.getD_eq_getElem?_getD, List.getElem?_eq_getElem hk]
set_option maxHeartbeats 1000000 in
theorem index_calls (v : Value) (l : List Nat) (x : Int) (w : World) (h : Ns w v l) (hl : l.length ≤ 256) :
    Calls Try.prog 55 #[v, .int .i64 x] w fun e w' => ∃ r : Int, e = .returned (.int .i64 r) ∧ decide (0 ≤ r) = (l.any fun y => x == (y : Int)) ∧ w = w' := by
  obtain ⟨A, cap, rfl, _, _, hat⟩ := h.at
  have HAT := Lib.hid hat
  clear hat h
  go_enter Try.func55, Try.ntmps55
  go_wp2
  go_loop [5, 8] (fun i m => ∃ k : Nat, k ≤ l.length ∧ m = .int .i64 k ∧ Hid ((l.take k).any (fun y => x == (y : Int)) = false)) (fun _ m => l.length - (intOf m).toNat)
  case atStart => exact ⟨0, Nat.zero_le _, rfl, Lib.hid (by simp)⟩
  case round =>
    obtain ⟨k, hk, rfl, HI⟩ := hrel
    by_cases hlt : k < l.length
    · obtain ⟨g, rfl, hg, hc⟩ := HAT.out k hlt
      have hlt' : (k : Int) < (l.length : Int) := by omega
      have hs : (l.take (k + 1)).any (fun y => x == (y : Int)) = (x == ((l.getD k 0 : Nat) : Int)) := by
        rw [List.take_succ_eq_append_getElem hlt, List.any_append, HI.out, List.getD_eq_getElem?_getD, List.getElem?_eq_getElem hlt]
        simp
      have hin : l.getD k 0 ∈ l := by rw [List.getD_eq_getElem?_getD, List.getElem?_eq_getElem hlt]; exact List.getElem_mem hlt
      generalize l.getD k 0 = y at *
      have HS := Lib.hid (And.intro hs hin)
      clear hs hin
      cases hx : (x == (y : Int)) with
      | true =>
        have HX := Lib.hid hx
        go_wp2
        go_ret
        exact ⟨k, rfl, by rw [List.any_eq_true.2 ⟨y, HS.out.2, HX.out⟩]; simp, rfl⟩
      | false =>
        have HX := Lib.hid hx
        go_wp2
        go_round
        case rel => exact ⟨k + 1, by omega, by go_num, Lib.hid (by rw [HS.out.1, HX.out])⟩
        case measure => simp [intOf]; omega
    · obtain rfl : k = l.length := by omega
      have hge : ¬ (l.length : Int) < (l.length : Int) := by omega
      have H1 : Hid ((l.any fun y => x == (y : Int)) = false) := Lib.hid (by have := HI.out; rwa [List.take_length] at this)
      go_wp2
      go_ret
      exact ⟨-1, rfl, by rw [H1.out]; rfl, rfl⟩
theorem contains_calls (v : Value) (l : List Nat) (x : Int) (w : World) (h : Ns w v l) (hl : l.length ≤ 256) :
    Calls Try.prog 31 #[v, .int .i64 x] w fun e w' => e = .returned (.bool (l.any fun y => x == (y : Int))) ∧ w = w' := by
  go_enter Try.func31, Try.ntmps31
  go_wp2_with (go_at_call 55; refine (index_calls v l x _ h hl).mono ?_; intro e w' hp; obtain ⟨r, rfl, hr, rfl⟩ := hp)
  go_ret
  exact ⟨by simp [hr], rfl⟩
/-- choose$1: the thread waits for the signal. -/
theorem want1_calls (b sb : Nat) (x : Tk) (v : Value) (s : Int) (w : World) (hb : w.heap[b]? = some (.cells (kcells x v) 80 (0, 0))) (hs : w.cell? ⟨sb, 0, none⟩ = some (.int .i64 s)) (h1 : 1 ≤ s) (h2 : s ≤ 56) (hw : x.wants < 18446744073709551616) :
    Calls Try.prog 56 #[.pointer (some ⟨b, 0, none⟩), .pointer (some ⟨sb, 0, none⟩)] w fun e w' => e = .returned (.bool (x.waits && hasB x.wants s)) ∧ ∃ n, w' = w.drewN n := by
  have c3 : w.cell? ⟨b, 3, none⟩ = some (.bool x.waits) := by rw [cell_of_row _ _ _ _ _ _ hb]; rfl
  have c4 : w.cell? ⟨b, 4, none⟩ = some (.int .u64 x.wants) := by rw [cell_of_row _ _ _ _ _ _ hb]; rfl
  obtain ⟨p, m, wt, wa⟩ := x
  clear hb
  simp only at c3 c4 hw
  have HW := Lib.hid hw
  clear hw
  cases wt with
  | false =>
    go_enter Try.func56, Try.ntmps56
    go_wp2
    go_quiet (fail)
    go_wp2
    go_ret
    exact ⟨rfl, _, rfl⟩
  | true =>
    cases hh : hasB wa s
    all_goals
      have HH := Lib.hid hh
      clear hh
      go_enter Try.func56, Try.ntmps56
      go_wp2
      go_quiet ((go_at_call 33; exact Calls.quiet_of_same (has_same wa s _ _ HH.out HW.out h1 (by omega))))
      go_wp2
      go_ret
      exact ⟨rfl, _, rfl⟩
/-- choose$2: the thread does not mask the signal. -/
theorem want2_calls (b sb : Nat) (x : Tk) (v : Value) (s : Int) (w : World) (hb : w.heap[b]? = some (.cells (kcells x v) 80 (0, 0))) (hs : w.cell? ⟨sb, 0, none⟩ = some (.int .i64 s)) (h1 : 1 ≤ s) (h2 : s ≤ 56) (hw : x.mask < 18446744073709551616) :
    Calls Try.prog 57 #[.pointer (some ⟨b, 0, none⟩), .pointer (some ⟨sb, 0, none⟩)] w fun e w' => e = .returned (.bool (!hasB x.mask s)) ∧ ∃ n, w' = w.drewN n := by
  have c4 : w.cell? ⟨b, 1, none⟩ = some (.int .u64 x.mask) := by rw [cell_of_row _ _ _ _ _ _ hb]; rfl
  obtain ⟨p, m, wt, wa⟩ := x
  clear hb
  simp only at c4 hw
  have HW := Lib.hid hw
  clear hw
  cases hh : hasB m s
  all_goals
    have HH := Lib.hid hh
    clear hh
    go_enter Try.func57, Try.ntmps57
    go_wp2
    go_quiet ((go_at_call 33; exact Calls.quiet_of_same (has_same m s _ _ HH.out HW.out h1 (by omega))))
    go_wp2
    go_ret
    exact ⟨rfl, _, rfl⟩
end Go.Proofs.Ytbpihfphoniclaa
