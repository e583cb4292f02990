/- The chapter's first example. -/
import Derived.Test.YtbpihfphoniclaaD0
namespace Go.Proofs.Ytbpihfphoniclaa
open Go.RowKit
set_option linter.unusedVariables false
theorem pair_of {α β : Type} {x : α × β} {a : α} (h : x.1 = a) : x = (a, x.2) := by rw [← h]
theorem awake_states : ∃ A1 A2 A3 A4 A5, startS S0 2 1 = (0, A1) ∧ startS A1 5 1 = (0, A2) ∧ maskS A2 2 0 512 = ((0, 0), A3) ∧ killS A3 (-1) 1 10 7 = (([], 0), A4) ∧ nextS A4 5 = (((10, 7, 2), true), A5) := by
  refine ⟨_, _, _, _, _, pair_of (by decide +kernel), pair_of (by decide +kernel), pair_of (by decide +kernel), pair_of (by decide +kernel), pair_of (by decide +kernel)⟩
theorem After.rebase {base t : Nat} {S S' : St} {w w1 w2 : World} (h : After base t S w w1) (k : After base t S' w1 w2) : After base t S' w w2 := ⟨k.1, h.2.trans k.2⟩
set_option maxRecDepth 100000 in
theorem awake_calls (w : World) : Calls Try.prog 10 #[] w fun e w' => e = .returned (.bool true) ∧ Below w.heap.size w w' := by
  obtain ⟨A1, A2, A3, A4, A5, e1, e2, e3, e4, e5⟩ := awake_states
  have i1 := (inv0.startS 2 1).mono (show 0 ≤ 1000 by omega)
  rw [e1] at i1
  have i2 := Inv.startS (S := A1) i1 5 1
  rw [e2] at i2
  have i3 := Inv.maskS (S := A2) i2 2 0 512
  rw [e3] at i3
  have j3 : Inv A3 0 := by
    have k1 := inv0.startS 2 1
    rw [e1] at k1
    have k2 := Inv.startS (S := A1) k1 5 1
    rw [e2] at k2
    have k3 := Inv.maskS (S := A2) k2 2 0 512
    rw [e3] at k3
    exact k3
  have i4 := (Inv.killS j3 (-1) 1 10 7).mono (show 0 + 1 ≤ 1000 by omega)
  rw [e4] at i4
  have HI := Lib.hid (And.intro i1 (And.intro i2 (And.intro i3 i4)))
  have HE1 := Lib.hid e1
  have HE2 := Lib.hid e2
  have HE3 := Lib.hid e3
  have HE4 := Lib.hid e4
  have HE5 := Lib.hid e5
  clear e1 e2 e3 e4 e5 i1 i2 i3 i4 j3
  go_enter Try.func10, Try.ntmps10
  go_wp2_with fail
  refine (new_calls w).mono ?_
  rintro e w1 ⟨rfl, hr, hb⟩
  have HR1 := Lib.hid hr
  have HF1 := Lib.hid hb
  clear hr hb
  go_wp2_with fail
  refine (start_calls 2 1 w1 HR1.out).mono ?_
  rw [HE1.out]
  rintro e w2 ⟨rfl, ⟨⟨L2, hr⟩, hf⟩⟩
  have HR2 := Lib.hid hr
  have HF2 := Lib.hid hf
  clear hr hf
  go_wp2_with fail
  refine (start_calls 5 1 w2 HR2.out).mono ?_
  rw [HE2.out]
  rintro e w3 ⟨rfl, ⟨⟨L3, hr⟩, hf⟩⟩
  have HR3 := Lib.hid hr
  have HF3 := Lib.hid hf
  clear hr hf
  go_wp2_with fail
  refine (mask_calls 2 0 512 w3 HR3.out HI.out.2.1 (by decide)).mono ?_
  rw [HE3.out]
  rintro e w4 ⟨rfl, ⟨⟨L4, hr⟩, hf⟩⟩
  have HR4 := Lib.hid hr
  have HF4 := Lib.hid hf
  clear hr hf
  go_wp2_with fail
  refine (kill_calls (-1) 1 10 7 w4 HR4.out HI.out.2.2.1).mono ?_
  rw [HE4.out]
  rintro e w5 ⟨wk, rfl, _, ⟨⟨L5, hr⟩, hf⟩⟩
  have HR5 := Lib.hid hr
  have HF5 := Lib.hid hf
  clear hr hf
  go_wp2_with fail
  refine (next_calls 5 w5 HR5.out HI.out.2.2.2).mono ?_
  rw [HE5.out]
  simp only [dv]
  rintro e w6 ⟨rfl, ⟨⟨L6, hr⟩, hf⟩⟩
  have HF6 := Lib.hid hf
  clear hr hf
  go_wp2
  go_ret
  refine ⟨rfl, ?_⟩
  exact (HF1.out.trans (HF2.out.bel.trans (HF3.out.bel.trans (HF4.out.bel.trans (HF5.out.bel.trans HF6.out.bel))))).alloc (by have := HF1.out.size; have := HF2.out.size; have := HF3.out.size; have := HF4.out.size; have := HF5.out.size; have := HF6.out.size; omega) _
end Go.Proofs.Ytbpihfphoniclaa
