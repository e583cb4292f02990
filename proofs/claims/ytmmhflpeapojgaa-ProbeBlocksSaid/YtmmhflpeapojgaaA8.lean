import Derived.Test.YtmmhflpeapojgaaA7
namespace Go.Proofs.Ytmmhflpeapojgaa
set_option linter.unusedVariables false
set_option linter.unusedSimpArgs false
open Go.RowKit Ieee
attribute [local go_sem] ints_get ints_size ints_getElem

/-- A slice of whole numbers. -/
def IC (w : World) (A : Option Addr) (l : List Int) : Prop := ∀ i, i < l.length → ∃ ad, A = some ad ∧ w.cell? (ad.add i) = some (.int .i64 (l.getD i 0))
theorem IC.below {w w1 : World} {A : Option Addr} {l : List Int} (h : IC w A l) (hb : Below w.heap.size w w1) : IC w1 A l := fun i hi => by
  obtain ⟨ad, e, hc⟩ := h i hi
  exact ⟨ad, e, (hb.cell (World.block_lt_of_cell? _ _ hc)).trans hc⟩
def inB (n : Int) : Bool := decide (-2048 ≤ n ∧ n ≤ 2047)
theorem all_take_succI {l : List Int} {k : Nat} (h : k < l.length) : (l.take (k + 1)).all inB = ((l.take k).all inB && inB (l.getD k 0)) := by
  rw [List.take_succ_eq_append_getElem h, List.all_append, List.getD_eq_getElem?_getD, List.getElem?_eq_getElem h]
  simp
theorem not_allI {l : List Int} {k : Nat} (h : k < l.length) (hf : inB (l.getD k 0) = false) : l.all inB = false := by
  rw [List.all_eq_false]
  refine ⟨l[k], List.getElem_mem h, ?_⟩
  rw [List.getD_eq_getElem?_getD, List.getElem?_eq_getElem h] at hf
  simpa using hf
theorem notIn_calls (n : Int) (w : World) : Calls Try.prog 22 #[.int .i64 n] w fun e w' => e = .returned (.bool (!inB n)) ∧ w = w' := by
  by_cases h1 : n < -2048
  · have hr : inB n = false := by unfold inB; simp; omega
    rw [hr]
    clear hr
    go_enter Try.func22, Try.ntmps22
    go_wp2
    go_ret
    exact ⟨rfl, rfl⟩
  · by_cases h2 : 2047 < n
    · have hr : inB n = false := by unfold inB; simp; omega
      rw [hr]
      clear hr
      have hd : decide (n < -2048) = false := by simp; omega
      go_enter Try.func22, Try.ntmps22
      go_wp2
      go_ret
      exact ⟨rfl, rfl⟩
    · have hr : inB n = true := by unfold inB; simp; omega
      rw [hr]
      clear hr
      have hd : decide (n < -2048) = false := by simp; omega
      have hd2 : decide (2047 < n) = false := by simp; omega
      go_enter Try.func22, Try.ntmps22
      go_wp2
      go_ret
      exact ⟨rfl, rfl⟩
set_option maxHeartbeats 1000000 in
theorem index36 (A : Option Addr) (c : Nat) (l : List Int) (w : World) (hl : l.length ≤ 16) (hC : IC w A l) :
    Calls Try.prog 36 #[.slice A l.length c, .func (.func 22) #[] #[]] w fun e w' => IdxPost (!l.all inB) w e w' := by
  have HC := Lib.hid hC
  clear hC
  go_enter Try.func36, Try.ntmps36
  go_wp2
  go_loop [5, 8] (fun i m => ∃ k : Nat, k ≤ l.length ∧ m = .int .i64 k ∧ Hid ((l.take k).all inB = true)) (fun _ m => l.length - (intOf m).toNat)
  case atStart => exact ⟨0, Nat.zero_le _, rfl, Lib.hid (by simp)⟩
  case round =>
    obtain ⟨k, hk, rfl, HI⟩ := hrel
    by_cases hlt : k < l.length
    · obtain ⟨ad, rfl, hc⟩ := HC.out k hlt
      have hlt' : (k : Int) < (l.length : Int) := by omega
      have hs := all_take_succI hlt
      rw [HI.out, Bool.true_and] at hs
      have hna := not_allI hlt
      generalize l.getD k 0 = x at *
      have HS := Lib.hid (And.intro hs hna)
      clear hs hna
      cases hx : inB x with
      | true =>
        have hs1 := HS.out.1
        rw [hx] at hs1
        have H1 := Lib.hid hs1
        clear hs1
        go_wp2_with (go_at_call 22; refine (notIn_calls x _).mono ?_; rw [hx]; rintro e w' ⟨rfl, rfl⟩)
        go_round
        case rel => exact ⟨k + 1, by omega, by go_num, H1⟩
        case measure => simp [intOf]; omega
      | false =>
        have H1 := Lib.hid (HS.out.2 hx)
        go_wp2_with (go_at_call 22; refine (notIn_calls x _).mono ?_; rw [hx]; rintro e w' ⟨rfl, rfl⟩)
        go_ret
        exact ⟨k, rfl, by rw [H1.out]; simp, rfl⟩
    · obtain rfl : k = l.length := by omega
      have hge : ¬ (l.length : Int) < (l.length : Int) := by omega
      have H1 : Hid (l.all inB = true) := Lib.hid (by have := HI.out; rwa [List.take_length] at this)
      go_wp2
      go_ret
      exact ⟨-1, rfl, by rw [H1.out]; rfl, rfl⟩
theorem contains21 (A : Option Addr) (c : Nat) (l : List Int) (w : World) (hl : l.length ≤ 16) (hC : IC w A l) :
    Calls Try.prog 21 #[.slice A l.length c, .func (.func 22) #[] #[]] w fun e w' => e = .returned (.bool (!l.all inB)) ∧ w = w' := by
  go_enter Try.func21, Try.ntmps21
  go_wp2_with (go_at_call 36; refine (index36 A c l _ hl hC).mono ?_; intro e w' hp; obtain ⟨r, rfl, hr, rfl⟩ := hp)
  go_ret
  exact ⟨by simp [hr], rfl⟩
end Go.Proofs.Ytmmhflpeapojgaa
