import Derived.Test.YtmmhflpeapojgaaA5
namespace Go.Proofs.Ytmmhflpeapojgaa
set_option linter.unusedVariables false
set_option linter.unusedSimpArgs false
open Go.RowKit Ieee
attribute [local go_sem] ints_get ints_size ints_getElem

/-- A slice of floats. -/
def FC (w : World) (A : Option Addr) (l : List Nat) : Prop := ∀ i, i < l.length → ∃ ad, A = some ad ∧ w.cell? (ad.add i) = some (.float .f32 (l.getD i 0))
theorem FC.below {w w1 : World} {A : Option Addr} {l : List Nat} (h : FC w A l) (hb : Below w.heap.size w w1) : FC w1 A l := fun i hi => by
  obtain ⟨ad, e, hc⟩ := h i hi
  exact ⟨ad, e, (hb.cell (World.block_lt_of_cell? _ _ hc)).trans hc⟩
def scode (l : List Nat) : Int := if 4096 < l.length then 18 else if l.all sampleB = true then 0 else 34
/-- What IndexFunc answers. -/
def IdxPost (b : Bool) (w : World) (e : Ending) (w' : World) : Prop := ∃ r : Int, e = .returned (.int .i64 r) ∧ decide (0 ≤ r) = b ∧ w = w'
theorem all_take_succ {l : List Nat} {k : Nat} (h : k < l.length) : (l.take (k + 1)).all sampleB = ((l.take k).all sampleB && sampleB (l.getD k 0)) := by
  rw [List.take_succ_eq_append_getElem h, List.all_append, List.getD_eq_getElem?_getD, List.getElem?_eq_getElem h]
  simp
theorem not_all {l : List Nat} {k : Nat} (h : k < l.length) (hf : sampleB (l.getD k 0) = false) : l.all sampleB = false := by
  rw [List.all_eq_false]
  refine ⟨l[k], List.getElem_mem h, ?_⟩
  rw [List.getD_eq_getElem?_getD, List.getElem?_eq_getElem h] at hf
  simpa using hf
theorem notSample_calls (x : Nat) (w : World) : Calls Try.prog 34 #[.float .f32 x] w fun e w' => e = .returned (.bool (!sampleB x)) ∧ w = w' := by
  go_enter Try.func34, Try.ntmps34
  go_wp2_with (go_at_call 31; refine (isSample_calls x _).mono ?_; rintro e w' ⟨rfl, rfl⟩)
  go_ret
  exact ⟨rfl, rfl⟩
set_option maxHeartbeats 1000000 in
theorem index46 (A : Option Addr) (c : Nat) (l : List Nat) (w : World) (hl : l.length ≤ 4096) (hC : FC w A l) :
    Calls Try.prog 46 #[.slice A l.length c, .func (.func 34) #[] #[]] w fun e w' => IdxPost (!l.all sampleB) w e w' := by
  have HC := Lib.hid hC
  clear hC
  go_enter Try.func46, Try.ntmps46
  go_wp2
  go_loop [5, 8] (fun i m => ∃ k : Nat, k ≤ l.length ∧ m = .int .i64 k ∧ Hid ((l.take k).all sampleB = true)) (fun _ m => l.length - (intOf m).toNat)
  case atStart => exact ⟨0, Nat.zero_le _, rfl, Lib.hid (by simp)⟩
  case round =>
    obtain ⟨k, hk, rfl, HI⟩ := hrel
    by_cases hlt : k < l.length
    · obtain ⟨ad, rfl, hc⟩ := HC.out k hlt
      have hlt' : (k : Int) < (l.length : Int) := by omega
      have hs := all_take_succ hlt
      rw [HI.out, Bool.true_and] at hs
      have hna := not_all hlt
      generalize l.getD k 0 = x at *
      have HS := Lib.hid (And.intro hs hna)
      clear hs hna
      cases hx : sampleB x with
      | true =>
        have hs1 := HS.out.1
        rw [hx] at hs1
        have H1 := Lib.hid hs1
        clear hs1
        go_wp2_with (go_at_call 34; refine (notSample_calls x _).mono ?_; rw [hx]; rintro e w' ⟨rfl, rfl⟩)
        go_round
        case rel => exact ⟨k + 1, by omega, by go_num, H1⟩
        case measure => simp [intOf]; omega
      | false =>
        have H1 := Lib.hid (HS.out.2 hx)
        go_wp2_with (go_at_call 34; refine (notSample_calls x _).mono ?_; rw [hx]; rintro e w' ⟨rfl, rfl⟩)
        go_ret
        exact ⟨k, rfl, by rw [H1.out]; simp, rfl⟩
    · obtain rfl : k = l.length := by omega
      have hge : ¬ (l.length : Int) < (l.length : Int) := by omega
      have H1 : Hid (l.all sampleB = true) := Lib.hid (by have := HI.out; rwa [List.take_length] at this)
      go_wp2
      go_ret
      exact ⟨-1, rfl, by rw [H1.out]; rfl, rfl⟩
theorem contains33 (A : Option Addr) (c : Nat) (l : List Nat) (w : World) (hl : l.length ≤ 4096) (hC : FC w A l) :
    Calls Try.prog 33 #[.slice A l.length c, .func (.func 34) #[] #[]] w fun e w' => e = .returned (.bool (!l.all sampleB)) ∧ w = w' := by
  go_enter Try.func33, Try.ntmps33
  go_wp2_with (go_at_call 46; refine (index46 A c l _ hl hC).mono ?_; intro e w' hp; obtain ⟨r, rfl, hr, rfl⟩ := hp)
  go_ret
  exact ⟨by simp [hr], rfl⟩
theorem samples_calls (A : Option Addr) (c : Nat) (l : List Nat) (w : World) (hl : l.length ≤ 9223372036854775807) (hC : FC w A l) :
    Calls Try.prog 18 #[.slice A l.length c] w fun e w' => e = .returned (.int .i64 (scode l)) ∧ w = w' := by
  have HC := Lib.hid hC
  clear hC
  by_cases hn : 4096 < l.length
  · have hr : scode l = 18 := by unfold scode; rw [if_pos hn]
    rw [hr]
    have hn' : (4096 : Int) < (l.length : Int) := by omega
    clear hr
    go_enter Try.func18, Try.ntmps18
    go_wp2
    go_ret
    exact ⟨rfl, rfl⟩
  · have hn' : ¬ (4096 : Int) < (l.length : Int) := by omega
    cases ha : l.all sampleB with
    | true =>
      have hr : scode l = 0 := by unfold scode; rw [if_neg hn, if_pos ha]
      rw [hr]
      have HA := Lib.hid ha
      clear hr ha
      go_enter Try.func18, Try.ntmps18
      go_wp2_with (go_at_call 33; refine (contains33 A c l _ (by omega) HC.out).mono ?_; rw [HA.out]; rintro e w' ⟨rfl, rfl⟩)
      go_ret
      exact ⟨rfl, rfl⟩
    | false =>
      have hr : scode l = 34 := by unfold scode; rw [if_neg hn, if_neg (by rw [ha]; simp)]
      rw [hr]
      have HA := Lib.hid ha
      clear hr ha
      go_enter Try.func18, Try.ntmps18
      go_wp2_with (go_at_call 33; refine (contains33 A c l _ (by omega) HC.out).mono ?_; rw [HA.out]; rintro e w' ⟨rfl, rfl⟩)
      go_ret
      exact ⟨rfl, rfl⟩
set_option maxHeartbeats 1000000 in
theorem rsamples_calls (A : Option Addr) (c : Nat) (l : List Nat) (w : World) (hl : l.length ≤ 9223372036854775807) (hC : FC w A l) :
    Calls Try.prog 19 #[.slice A l.length c] w fun e w' => e = .returned (.int .i64 (scode l)) ∧ w = w' := by
  have HC := Lib.hid hC
  clear hC
  by_cases hn : 4096 < l.length
  · have hr : scode l = 18 := by unfold scode; rw [if_pos hn]
    rw [hr]
    have hn' : (4096 : Int) < (l.length : Int) := by omega
    clear hr
    go_enter Try.func19, Try.ntmps19
    go_wp2
    go_ret
    exact ⟨rfl, rfl⟩
  · have hn' : ¬ (4096 : Int) < (l.length : Int) := by omega
    have hl4 : l.length ≤ 4096 := by omega
    have HSC : Hid (scode l = if l.all sampleB = true then 0 else 34) := Lib.hid (by unfold scode; rw [if_neg hn])
    clear hn hl
    go_enter Try.func19, Try.ntmps19
    go_wp2
    go_loop [3] (fun m => ∃ k : Nat, k ≤ l.length ∧ m = .int .i64 k ∧ Hid ((l.take k).all sampleB = true)) (fun m => l.length - (intOf m).toNat)
    case atStart => exact ⟨0, Nat.zero_le _, rfl, Lib.hid (by simp)⟩
    case round =>
      obtain ⟨k, hk, rfl, HI⟩ := hrel
      by_cases hlt : k < l.length
      · obtain ⟨ad, rfl, hc⟩ := HC.out k hlt
        have hlt' : (k : Int) < (l.length : Int) := by omega
        have hs := all_take_succ hlt
        rw [HI.out, Bool.true_and] at hs
        have hna := not_all hlt
        generalize l.getD k 0 = x at *
        have HS := Lib.hid (And.intro hs hna)
        clear hs hna
        cases hx : sampleB x with
        | true =>
          have hs1 := HS.out.1
          rw [hx] at hs1
          have H1 := Lib.hid hs1
          clear hs1
          go_wp2_with (go_at_call 26; refine (rsample_calls x _).mono ?_; rw [hx]; rintro e w' ⟨rfl, rfl⟩)
          go_round
          case rel => exact ⟨k + 1, by omega, by go_num, H1⟩
          case measure => simp [intOf]; omega
        | false =>
          have H1 := Lib.hid (HS.out.2 hx)
          go_wp2_with (go_at_call 26; refine (rsample_calls x _).mono ?_; rw [hx]; rintro e w' ⟨rfl, rfl⟩)
          go_ret
          exact ⟨by rw [HSC.out, H1.out]; rfl, rfl⟩
      · obtain rfl : k = l.length := by omega
        have hge : ¬ (l.length : Int) < (l.length : Int) := by omega
        have H1 : Hid (l.all sampleB = true) := Lib.hid (by have := HI.out; rwa [List.take_length] at this)
        go_wp2
        go_ret
        exact ⟨by rw [HSC.out, H1.out]; rfl, rfl⟩
end Go.Proofs.Ytmmhflpeapojgaa
