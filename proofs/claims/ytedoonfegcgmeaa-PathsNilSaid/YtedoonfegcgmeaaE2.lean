/- The laws PathsCleans and PathsBack, awake given. -/
import Derived.Test.YtedoonfegcgmeaaE1
namespace Go.Proofs.Ytedoonfegcgmeaa
open Go.RowKit
set_option linter.unusedVariables false
def Awake : Prop := ∀ W : World, Calls Try.prog 6 #[] W fun e w' => e = .returned (.bool true) ∧ Below W.heap.size W w'
set_option maxHeartbeats 1000000 in
set_option maxRecDepth 100000 in
theorem cleans_law (HAW : Awake) (a b : Bs) (w : World) : Calls Try.prog 3 #[str a, str b] w fun e w' => e = .returned (.bool true) ∧ Below w.heap.size w w' := by
  have HA := Lib.hid HAW
  unfold Awake at HA
  clear HAW
  by_cases hs : a.length ≤ 400 ∧ b.length ≤ 400
  · have h1 : ¬ (400 : Int) < (a.length : Int) := by omega
    have h2 : ¬ (400 : Int) < (b.length : Int) := by omega
    have H7 := Lib.hid (fun W => cleanP_calls a W)
    have H8 := Lib.hid (fun W => cleanR_calls a W)
    have H9 := Lib.hid (fun W => joinP_calls a b W)
    have H10 := Lib.hid (fun W => joinR_calls a b W)
    have H11 := Lib.hid (fun W => coversP_calls a b W)
    have H12 := Lib.hid (fun W => coversR_calls a b W)
    generalize cleanS a = ca at *
    generalize joinS a b = ja at *
    generalize coversS a b = cv at *
    obtain ⟨c, e1⟩ := ca
    obtain ⟨d, e2⟩ := ja
    simp only at H7 H8 H9 H10
    unfold str at H7 H8 H9 H10 H11 H12 ⊢
    go_enter Try.func3, Try.ntmps3
    go_wp2_with (first
      | (go_at_call 7; refine (H7.out _).mono ?_; rintro e w1 ⟨rfl, hb⟩; have HB1 := Lib.hid hb; clear hb)
      | (go_at_call 8; refine (H8.out _).mono ?_; rintro e w2 ⟨rfl, hb⟩; have HB2 := Lib.hid (below_then' HB1.out hb); clear hb)
      | (go_at_call 9; refine (H9.out _).mono ?_; rintro e w3 ⟨rfl, hb⟩; have HB3 := Lib.hid (below_then' HB2.out hb); clear hb)
      | (go_at_call 10; refine (H10.out _).mono ?_; rintro e w4 ⟨rfl, hb⟩; have HB4 := Lib.hid (below_then' HB3.out hb); clear hb)
      | (go_at_call 6; refine (HA.out _).mono ?_; rintro e w5 ⟨rfl, hb⟩; have HB5 := Lib.hid (below_then' HB4.out hb); clear hb)
      | (go_at_call 11; refine (H11.out _).mono ?_; rintro e w6 ⟨rfl, hb⟩; have HB6 := Lib.hid (below_then' HB5.out hb); clear hb)
      | (go_at_call 12; refine (H12.out _).mono ?_; rintro e w7 ⟨rfl, hb⟩; have HB7 := Lib.hid (below_then' HB6.out hb); clear hb))
    go_ret
    exact ⟨by simp, HB7.out⟩
  · by_cases h1 : (400 : Int) < (a.length : Int)
    · clear hs
      unfold str
      go_enter Try.func3, Try.ntmps3
      go_wp2_with (go_at_call 6; refine (HA.out _).mono ?_; rintro e w5 ⟨rfl, hb⟩; have HB5 := Lib.hid hb; clear hb)
      go_ret
      exact ⟨rfl, HB5.out⟩
    · have h2 : (400 : Int) < (b.length : Int) := by omega
      clear hs
      unfold str
      go_enter Try.func3, Try.ntmps3
      go_wp2_with (go_at_call 6; refine (HA.out _).mono ?_; rintro e w5 ⟨rfl, hb⟩; have HB5 := Lib.hid hb; clear hb)
      go_ret
      exact ⟨rfl, HB5.out⟩
end Go.Proofs.Ytedoonfegcgmeaa
