/- SignalsStops: the whole law. -/
import Derived.Test.YtbpihfphoniclaaD8
import Derived.Test.YtbpihfphoniclaaD3
import Derived.Test.YtbpihfphoniclaaO2
import Derived.LoopN
namespace Go.Proofs.Ytbpihfphoniclaa
open Go.RowKit
set_option linter.unusedVariables false
/-- What holds of the world in the law's loop. -/
def Lw (w : World) (m : Nat) (S : St) (wr : World) : Prop := (∃ L, RepL wr w.heap.size w.heap.size L S) ∧ Inv S m ∧ Five S ∧ NoB S ∧ Ac9 S ∧ Below w.heap.size w wr
theorem cells5_at {X : World} {g : Nat} (h : X.heap[g]? = some (.cells cells5 49 (0, 0))) (i : Nat) (hi : i < 5) : ∀ j v, (op5 i)[j]? = some v → X.cell? ((⟨g, i * 7, none⟩ : Addr).add j) = some v := by
  intro j v hv
  rw [add_at, cell_of_row _ _ _ _ _ _ h]
  have hj : j < 7 := by
    have := (Array.getElem?_eq_some_iff.1 hv).1
    simpa [op5, opc] using this
  rw [← hv]
  obtain rfl | rfl | rfl | rfl | rfl : i = 0 ∨ i = 1 ∨ i = 2 ∨ i = 3 ∨ i = 4 := by omega
  all_goals
    obtain rfl | rfl | rfl | rfl | rfl | rfl | rfl : j = 0 ∨ j = 1 ∨ j = 2 ∨ j = 3 ∨ j = 4 ∨ j = 5 ∨ j = 6 := by omega
    all_goals rfl
theorem row_step {w X Y : World} {base t : Nat} {S : St} {g : Nat} {cs : Array Value} (h : X.heap[g]? = some (.cells cs 49 (0, 0))) (o : Obj) (ha : After base t S (X.alloc o) Y) : Y.heap[g]? = some (.cells cs 49 (0, 0)) :=
  ha.2.oth _ _ (keep_alloc h o) (by intro e he; cases he; decide)
theorem bel_step {w X Y : World} {t : Nat} {S : St} (h : Below w.heap.size w X) (o : Obj) (ha : After w.heap.size t S (X.alloc o) Y) : Below w.heap.size w Y := (h.alloc h.size o).trans ha.2.bel
theorem inv_c1 : Inv (callS S0 0 0 0 0 0 0 0) 1 := (inv0.callS 0 0 0 0 0 0 0)
theorem inv_c2 : Inv (callS (callS S0 0 0 0 0 0 0 0) 0 1 0 0 0 0 0) 2 := ((inv0.callS 0 0 0 0 0 0 0).callS 0 1 0 0 0 0 0)
theorem inv_c3 : Inv (callS (callS (callS S0 0 0 0 0 0 0 0) 0 1 0 0 0 0 0) 0 2 0 0 0 0 0) 3 := (((inv0.callS 0 0 0 0 0 0 0).callS 0 1 0 0 0 0 0).callS 0 2 0 0 0 0 0)
theorem inv_c4 : Inv (callS (callS (callS (callS S0 0 0 0 0 0 0 0) 0 1 0 0 0 0 0) 0 2 0 0 0 0 0) 0 3 1 0 0 0 0) 4 := ((((inv0.callS 0 0 0 0 0 0 0).callS 0 1 0 0 0 0 0).callS 0 2 0 0 0 0 0).callS 0 3 1 0 0 0 0)
theorem inv_c5 : Inv (callS (callS (callS (callS (callS S0 0 0 0 0 0 0 0) 0 1 0 0 0 0 0) 0 2 0 0 0 0 0) 0 3 1 0 0 0 0) 0 4 1 0 0 0 0) 5 := (((((inv0.callS 0 0 0 0 0 0 0).callS 0 1 0 0 0 0 0).callS 0 2 0 0 0 0 0).callS 0 3 1 0 0 0 0).callS 0 4 1 0 0 0 0)
theorem or_small {S : St} {m : Nat} (h : Inv S m) (i p : Nat) (hi : i < 256) (hp : p < 64) : orOf (both S i p) < 72057594037927936 := by
  refine orOf_lt _ fun x hx => ?_
  unfold both at hx
  rcases List.mem_append.1 hx with hm | hm
  · exact h.sig i (by omega) x hm
  · exact h.sig _ (by omega) x hm
theorem or_step (a b : Nat) (ha : a < 72057594037927936) (hb : b < 72057594037927936) : bits .or .u64 0 (a : Int) = (a : Int) ∧ True ∧ bits .or .u64 (a : Int) (b : Int) = ((a ||| b : Nat) : Int) ∧ a ||| b < 72057594037927936 := by
  refine ⟨?_, trivial, u64_or_nat a b (by omega) (by omega), Nat.or_lt_two_pow (n := 56) ha hb⟩
  have := u64_or_nat 0 a (by omega) (by omega)
  rw [Nat.zero_or] at this
  exact this
theorem bits_case (x : Nat) (hx : x < 72057594037927936) (h : ¬ (x.testBit 18 = true ∧ x.testBit 17 = true)) :
    (bits .and .u64 ((x : Int) / 262144) 1 = 0 ∨ bits .and .u64 ((x : Int) / 262144) 1 = 1) ∧ (bits .and .u64 ((x : Int) / 262144) 1 = 1 → bits .and .u64 ((x : Int) / 131072) 1 = 0) := by
  have e1 := and_one x 18 (by omega)
  have e2 := and_one x 17 (by omega)
  rw [show (2 : Int) ^ 18 = 262144 by decide] at e1
  rw [show (2 : Int) ^ 17 = 131072 by decide] at e2
  rw [e1, e2]
  cases h1 : x.testBit 18 with
  | false => simp
  | true =>
    cases h2 : x.testBit 17 with
    | false => simp
    | true => exact absurd ⟨h1, h2⟩ h
set_option maxRecDepth 100000 in
set_option maxHeartbeats 8000000 in
theorem stops_law (A : Option Addr) (cap : Nat) (l : List OpT) (w : World) (hl : OC w A l) (h80 : l.length ≤ 80) :
    Calls Try.prog 6 #[.slice A l.length cap] w fun e w' => e = .returned (.bool true) ∧ Below w.heap.size w w' := by
  have HO := Lib.hid hl
  clear hl
  have hng : ¬ ((80 : Int) < (l.length : Int)) := by omega
  go_enter Try.func6, Try.ntmps6
  go_wp2_with fail
  refine (new_calls w).mono ?_
  rintro e w1 ⟨rfl, hr, hb⟩
  have HR0 := Lib.hid (hr.below ((Below.refl _ _).alloc (Nat.le_refl _) (.cells cells5 49)))
  have HF0 := Lib.hid (hb.alloc hb.size (.cells cells5 49))
  have HG0 := Lib.hid (heap_alloc_new w1 (.cells cells5 49))
  clear hr hb
  go_wp2_with fail
  refine (started17 w1).mono ?_
  rintro e w2 ⟨rfl, hw2⟩
  rw [← hw2] at HR0 HF0 HG0
  clear hw2
  obtain ⟨g5, hg5⟩ : ∃ g, w1.heap.size = g := ⟨_, rfl⟩
  rw [hg5] at HG0 ⊢
  clear hg5
  have HI0 := Lib.hid (inv0.mono (show 0 ≤ 1000 by omega))
  go_wp2_with fail
  refine wp_loop_rounds 6 ?_
  rw [rounds_succ]
  go_wp2_with ((with_reducible change wpList _ _ _ (⟨_, .load 49 (.tmp 22), _, _, _, _⟩ :: _) _ _); go_loud (refine wpList_load_cells (by rfl) 49 (.tmp 22) rfl ⟨g5, 0 * 7, none⟩ rfl #[.int .i64 0, .int .i64 0, .int .i64 0, .int .i64 0, .int .i64 0, .int .u64 0, .int .i64 0] _ (cells5_at HG0.out 0 (by omega)) Try.underlying49 rfl (n := 7) (by kernel_rfl) rfl ?_))
  refine (call_any 0 0 0 0 0 0 0 _ (HR0.out.below ((Below.refl _ _).alloc (Nat.le_refl _) _)) HI0.out (by omega) (by omega) (by omega)).mono ?_
  rintro e v1 ⟨u1, rfl, ha⟩
  have HG1 := Lib.hid (row_step (w := w) HG0.out _ ha)
  have HF1 := Lib.hid (bel_step HF0.out _ ha)
  obtain ⟨⟨L1, hr⟩, hf⟩ := ha
  have HR1 := Lib.hid hr
  have HI1 := Lib.hid ((inv_c1).mono (show 1 ≤ 1000 by omega))
  clear hr hf
  go_wp2_with fail
  rw [rounds_succ]
  go_wp2_with ((with_reducible change wpList _ _ _ (⟨_, .load 49 (.tmp 22), _, _, _, _⟩ :: _) _ _); go_loud (refine wpList_load_cells (by rfl) 49 (.tmp 22) rfl ⟨g5, 1 * 7, none⟩ rfl #[.int .i64 0, .int .i64 1, .int .i64 0, .int .i64 0, .int .i64 0, .int .u64 0, .int .i64 0] _ (cells5_at HG1.out 1 (by omega)) Try.underlying49 rfl (n := 7) (by kernel_rfl) rfl ?_))
  refine (call_any 0 1 0 0 0 0 0 _ (HR1.out.below ((Below.refl _ _).alloc (Nat.le_refl _) _)) HI1.out (by omega) (by omega) (by omega)).mono ?_
  rintro e v2 ⟨u2, rfl, ha⟩
  have HG2 := Lib.hid (row_step (w := w) HG1.out _ ha)
  have HF2 := Lib.hid (bel_step HF1.out _ ha)
  obtain ⟨⟨L2, hr⟩, hf⟩ := ha
  have HR2 := Lib.hid hr
  have HI2 := Lib.hid ((inv_c2).mono (show 2 ≤ 1000 by omega))
  clear hr hf
  go_wp2_with fail
  rw [rounds_succ]
  go_wp2_with ((with_reducible change wpList _ _ _ (⟨_, .load 49 (.tmp 22), _, _, _, _⟩ :: _) _ _); go_loud (refine wpList_load_cells (by rfl) 49 (.tmp 22) rfl ⟨g5, 2 * 7, none⟩ rfl #[.int .i64 0, .int .i64 2, .int .i64 0, .int .i64 0, .int .i64 0, .int .u64 0, .int .i64 0] _ (cells5_at HG2.out 2 (by omega)) Try.underlying49 rfl (n := 7) (by kernel_rfl) rfl ?_))
  refine (call_any 0 2 0 0 0 0 0 _ (HR2.out.below ((Below.refl _ _).alloc (Nat.le_refl _) _)) HI2.out (by omega) (by omega) (by omega)).mono ?_
  rintro e v3 ⟨u3, rfl, ha⟩
  have HG3 := Lib.hid (row_step (w := w) HG2.out _ ha)
  have HF3 := Lib.hid (bel_step HF2.out _ ha)
  obtain ⟨⟨L3, hr⟩, hf⟩ := ha
  have HR3 := Lib.hid hr
  have HI3 := Lib.hid ((inv_c3).mono (show 3 ≤ 1000 by omega))
  clear hr hf
  go_wp2_with fail
  rw [rounds_succ]
  go_wp2_with ((with_reducible change wpList _ _ _ (⟨_, .load 49 (.tmp 22), _, _, _, _⟩ :: _) _ _); go_loud (refine wpList_load_cells (by rfl) 49 (.tmp 22) rfl ⟨g5, 3 * 7, none⟩ rfl #[.int .i64 0, .int .i64 3, .int .i64 1, .int .i64 0, .int .i64 0, .int .u64 0, .int .i64 0] _ (cells5_at HG3.out 3 (by omega)) Try.underlying49 rfl (n := 7) (by kernel_rfl) rfl ?_))
  refine (call_any 0 3 1 0 0 0 0 _ (HR3.out.below ((Below.refl _ _).alloc (Nat.le_refl _) _)) HI3.out (by omega) (by omega) (by omega)).mono ?_
  rintro e v4 ⟨u4, rfl, ha⟩
  have HG4 := Lib.hid (row_step (w := w) HG3.out _ ha)
  have HF4 := Lib.hid (bel_step HF3.out _ ha)
  obtain ⟨⟨L4, hr⟩, hf⟩ := ha
  have HR4 := Lib.hid hr
  have HI4 := Lib.hid ((inv_c4).mono (show 4 ≤ 1000 by omega))
  clear hr hf
  go_wp2_with fail
  rw [rounds_succ]
  go_wp2_with ((with_reducible change wpList _ _ _ (⟨_, .load 49 (.tmp 22), _, _, _, _⟩ :: _) _ _); go_loud (refine wpList_load_cells (by rfl) 49 (.tmp 22) rfl ⟨g5, 4 * 7, none⟩ rfl #[.int .i64 0, .int .i64 4, .int .i64 1, .int .i64 0, .int .i64 0, .int .u64 0, .int .i64 0] _ (cells5_at HG4.out 4 (by omega)) Try.underlying49 rfl (n := 7) (by kernel_rfl) rfl ?_))
  refine (call_any 0 4 1 0 0 0 0 _ (HR4.out.below ((Below.refl _ _).alloc (Nat.le_refl _) _)) HI4.out (by omega) (by omega) (by omega)).mono ?_
  rintro e v5 ⟨u5, rfl, ha⟩
  have HG5 := Lib.hid (row_step (w := w) HG4.out _ ha)
  have HF5 := Lib.hid (bel_step HF4.out _ ha)
  obtain ⟨⟨L5, hr⟩, hf⟩ := ha
  have HR5 := Lib.hid hr
  have HI5 := Lib.hid ((inv_c5).mono (show 5 ≤ 1000 by omega))
  clear hr hf
  go_wp2_with fail
  rw [rounds_succ]
  go_wp2_with fail
  have HLW : Hid (Lw w 5 st5 v5) := Lib.hid ⟨⟨_, HR5.out⟩, inv_st5, five_st5, noB_st5, ac9_st5, HF5.out⟩
  clear HR0 HR1 HR2 HR3 HR4 HR5 HF0 HF1 HF2 HF3 HF4 HF5 HG0 HG1 HG2 HG3 HG4 HG5 HI0 HI1 HI2 HI3 HI4 HI5

  go_loopw [30] (fun i wr => ∃ k : Nat, ∃ S : St, k ≤ l.length ∧ i = .int .i64 k ∧ Hid (Lw w (5 + k) S wr)) (fun i _ => l.length - (intOf i).toNat)
  case atStart => exact ⟨0, st5, Nat.zero_le _, rfl, HLW⟩
  case round =>
    obtain ⟨k, S, hk, rfl, HI⟩ := hrel
    by_cases hlt : k < l.length
    · obtain ⟨ad, rfl, hadl, hbo, hcell⟩ := (OC.below HO.out HI.out.2.2.2.2.2) k hlt
      obtain ⟨⟨L, hrep⟩, hinv, hfive, hnob, hac9, hbel⟩ := HI.out
      unfold okO at hbo
      unfold opT at hcell
      generalize l.getD k o0 = oo at *
      obtain ⟨ok, ot, op, os, on, ob, ov⟩ := oo
      simp only at hbo hcell
      unfold opc at hcell
      have HCELL := Lib.hid hcell
      have HREP := Lib.hid hrep
      have HINV := Lib.hid hinv
      have HS := Lib.hid (And.intro hfive (And.intro hnob hac9))
      have HBEL := Lib.hid hbel
      have hlt' : (k : Int) < (l.length : Int) := by omega
      clear hcell hrep hinv hfive hnob hac9 hbel hadl HI
      obtain ⟨wo, rfl⟩ : ∃ wo : World, wo = wr := ⟨_, rfl⟩
      go_wp2_with (first
        | ((with_reducible change wpList _ _ _ (⟨_, .load 49 (.tmp 32), _, _, _, _⟩ :: _) _ _); go_loud (refine wpList_load_cells (by rfl) 49 (.tmp 32) rfl (ad.add (k * 7)) rfl #[.int .i64 ok, .int .i64 ot, .int .i64 op, .int .i64 os, .int .i64 on, .int .u64 ob, .int .i64 ov] _ HCELL.out Try.underlying49 rfl (n := 7) (by kernel_rfl) rfl ?_)))
      refine (small_calls ok ot op os on ob ov _).mono ?_
      rintro e wa ⟨⟨K, T, Q, G, N, V, rfl, k0, k1⟩, hb⟩
      have HREPA := Lib.hid (HREP.out.below (below_then' ((Below.refl wo.heap.size wo).alloc (Nat.le_refl _) _) hb))
      have HBA := Lib.hid (below_then' (HBEL.out.alloc HBEL.out.size _) hb)
      clear hb
      have hmm : 5 + k ≤ 1000 := by omega
      go_wp2_with fail
      refine (call_any K T Q G N ob V _ HREPA.out (HINV.out.mono hmm) hbo (by omega) k1).mono ?_
      rintro e wb ⟨ub, rfl, ⟨⟨LB, hr⟩, hf⟩⟩
      have HREPB := Lib.hid hr
      have HBB := Lib.hid (HBA.out.trans hf.bel)
      have HINVB := Lib.hid (HINV.out.callS K T Q G N ob V)
      have HSB := Lib.hid (And.intro (HS.out.1.keep (keeps_call S K T Q G N ob V k0)) (And.intro (noB_call HS.out.2.1 K T Q G N ob V k0) (ac9_call HS.out.2.2 K T Q G N ob V k0)))
      clear hr hf
      generalize callS S K T Q G N ob V = S1 at *

      have HIN := Lib.hid (HINVB.out.mono (show 5 + k + 1 ≤ 1000 by omega))
      have HREPB0 := HREPB
      have HBB0 := HBB
      have q0 : pendingS S1 (0 : Int) = (orOf (both S1 0 0), 0) := pending_five HSB.out.1 0 (by omega)
      have q1 : pendingS S1 (1 : Int) = (orOf (both S1 1 0), 0) := pending_five HSB.out.1 1 (by omega)
      have q2 : pendingS S1 (2 : Int) = (orOf (both S1 2 0), 0) := pending_five HSB.out.1 2 (by omega)
      have q3 : pendingS S1 (3 : Int) = (orOf (both S1 3 1), 0) := pending_five HSB.out.1 3 (by omega)
      have q4 : pendingS S1 (4 : Int) = (orOf (both S1 4 1), 0) := pending_five HSB.out.1 4 (by omega)
      have n0 := not_both HINVB.out HSB.out.1 HSB.out.2.1 (p := 0) (by omega) [0, 1, 2] (by intro i hi; simp at hi; omega)
      have n1 := not_both HINVB.out HSB.out.1 HSB.out.2.1 (p := 1) (by omega) [3, 4] (by intro i hi; simp at hi; omega)
      have r0 := or_small HINVB.out 0 0 (by omega) (by omega)
      have r1 := or_small HINVB.out 1 0 (by omega) (by omega)
      have r2 := or_small HINVB.out 2 0 (by omega) (by omega)
      have r3 := or_small HINVB.out 3 1 (by omega) (by omega)
      have r4 := or_small HINVB.out 4 1 (by omega) (by omega)
      simp only [List.foldl_cons, List.foldl_nil, Nat.zero_or] at n0 n1
      generalize orOf (both S1 0 0) = a0 at *
      generalize orOf (both S1 1 0) = a1 at *
      generalize orOf (both S1 2 0) = a2 at *
      generalize orOf (both S1 3 1) = a3 at *
      generalize orOf (both S1 4 1) = a4 at *
      have HP0 := Lib.hid q0
      have HP1 := Lib.hid q1
      have HP2 := Lib.hid q2
      have HP3 := Lib.hid q3
      have HP4 := Lib.hid q4
      obtain ⟨f0, x1, f1, l1⟩ := or_step a0 a1 r0 r1
      obtain ⟨-, x2, f2, l2⟩ := or_step (a0 ||| a1) a2 l1 r2
      obtain ⟨f3, x4, f4, l4⟩ := or_step a3 a4 r3 r4
      generalize a0 ||| a1 = b1 at *
      generalize b1 ||| a2 = b2 at *
      generalize a3 ||| a4 = b4 at *
      obtain ⟨c0, c1⟩ := bits_case b2 l2 n0
      obtain ⟨d0, d1⟩ := bits_case b4 l4 n1
      clear n0 n1 q0 q1 q2 q3 q4 x1 x2 x4 r0 r1 r2 r3 r4 l1 l2 l4
      rcases c0 with c0 | c0 <;> rcases d0 with d0 | d0
      all_goals
        first | (have c2 := c1 c0) | skip
        first | (have d2 := d1 d0) | skip
        clear c1 d1
        go_wp2_with fail
        refine wp_loop_rounds 3 ?_
        rw [rounds_succ]
        go_wp2_with fail
        refine wp_loop_rounds 6 ?_
        rw [rounds_succ]
        go_wp2_with fail
        refine (pend_calls 0 _ HREPB0.out HIN.out).mono ?_
        rw [HP0.out]
        rintro e wp1 ⟨rfl, hb⟩
        have HREPB1 := Lib.hid (HREPB0.out.below hb)
        have HBB1 := Lib.hid (below_then' HBB0.out hb)
        clear hb
        go_wp2_with fail
        rw [rounds_succ]
        go_wp2_with fail
        refine (pend_calls 1 _ HREPB1.out HIN.out).mono ?_
        rw [HP1.out]
        rintro e wp2 ⟨rfl, hb⟩
        have HREPB2 := Lib.hid (HREPB1.out.below hb)
        have HBB2 := Lib.hid (below_then' HBB1.out hb)
        clear hb
        go_wp2_with fail
        rw [rounds_succ]
        go_wp2_with fail
        refine (pend_calls 2 _ HREPB2.out HIN.out).mono ?_
        rw [HP2.out]
        rintro e wp3 ⟨rfl, hb⟩
        have HREPB3 := Lib.hid (HREPB2.out.below hb)
        have HBB3 := Lib.hid (below_then' HBB2.out hb)
        clear hb
        go_wp2_with fail
        rw [rounds_succ]
        go_wp2_with fail
        refine (pend_calls 3 _ HREPB3.out HIN.out).mono ?_
        rw [HP3.out]
        rintro e wp4 ⟨rfl, hb⟩
        have HREPB4 := Lib.hid (HREPB3.out.below hb)
        have HBB4 := Lib.hid (below_then' HBB3.out hb)
        clear hb
        go_wp2_with fail
        rw [rounds_succ]
        go_wp2_with fail
        refine (pend_calls 4 _ HREPB4.out HIN.out).mono ?_
        rw [HP4.out]
        rintro e wp5 ⟨rfl, hb⟩
        have HREPB5 := Lib.hid (HREPB4.out.below hb)
        have HBB5 := Lib.hid (below_then' HBB4.out hb)
        clear hb
        go_wp2_with fail
        rw [rounds_succ]
        go_wp2_with fail
        rw [rounds_succ]
        go_wp2_with fail
        refine wp_loop_rounds 6 ?_
        rw [rounds_succ]
        go_wp2_with fail
        refine (pend_calls 0 _ HREPB5.out HIN.out).mono ?_
        rw [HP0.out]
        rintro e wp6 ⟨rfl, hb⟩
        have HREPB6 := Lib.hid (HREPB5.out.below hb)
        have HBB6 := Lib.hid (below_then' HBB5.out hb)
        clear hb
        go_wp2_with fail
        rw [rounds_succ]
        go_wp2_with fail
        refine (pend_calls 1 _ HREPB6.out HIN.out).mono ?_
        rw [HP1.out]
        rintro e wp7 ⟨rfl, hb⟩
        have HREPB7 := Lib.hid (HREPB6.out.below hb)
        have HBB7 := Lib.hid (below_then' HBB6.out hb)
        clear hb
        go_wp2_with fail
        rw [rounds_succ]
        go_wp2_with fail
        refine (pend_calls 2 _ HREPB7.out HIN.out).mono ?_
        rw [HP2.out]
        rintro e wp8 ⟨rfl, hb⟩
        have HREPB8 := Lib.hid (HREPB7.out.below hb)
        have HBB8 := Lib.hid (below_then' HBB7.out hb)
        clear hb
        go_wp2_with fail
        rw [rounds_succ]
        go_wp2_with fail
        refine (pend_calls 3 _ HREPB8.out HIN.out).mono ?_
        rw [HP3.out]
        rintro e wp9 ⟨rfl, hb⟩
        have HREPB9 := Lib.hid (HREPB8.out.below hb)
        have HBB9 := Lib.hid (below_then' HBB8.out hb)
        clear hb
        go_wp2_with fail
        rw [rounds_succ]
        go_wp2_with fail
        refine (pend_calls 4 _ HREPB9.out HIN.out).mono ?_
        rw [HP4.out]
        rintro e wp10 ⟨rfl, hb⟩
        have HREPB10 := Lib.hid (HREPB9.out.below hb)
        have HBB10 := Lib.hid (below_then' HBB9.out hb)
        clear hb
        go_wp2_with fail
        rw [rounds_succ]
        go_wp2_with fail
        rw [rounds_succ]
        go_wp2_with fail
        go_roundw
        case rel => exact ⟨k + 1, S1, by omega, by go_num, Lib.hid ⟨⟨_, HREPB10.out⟩, by rw [← Nat.add_assoc]; exact HINVB.out, HSB.out.1, HSB.out.2.1, HSB.out.2.2, HBB10.out⟩⟩
        case measure => simp [intOf]; omega
    · obtain rfl : k = l.length := by omega
      have hge : ¬ ((l.length : Int) < (l.length : Int)) := by omega
      go_wp2_with fail
      refine (awake_calls _).mono ?_
      rintro e wz ⟨rfl, hb⟩
      have HZ := Lib.hid (below_then' HI.out.2.2.2.2.2 hb)
      clear hb
      go_wp2
      go_ret
      exact ⟨rfl, HZ.out⟩
end Go.Proofs.Ytbpihfphoniclaa
