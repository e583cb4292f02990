/- SignalsKill: the whole law. -/
import Derived.Test.YtbpihfphoniclaaDa
import Derived.Test.YtbpihfphoniclaaS6
namespace Go.Proofs.Ytbpihfphoniclaa
open Go.RowKit
set_option linter.unusedVariables false
/-- What holds of the world in the law's last loop. -/
def Lx (w : World) (s : Int) (j : Nat) (S : St) (wr : World) : Prop := (∃ L, RepL wr w.heap.size w.heap.size L S) ∧ Lp S s ∧ Below w.heap.size w wr ∧ (both S 0 0).length + j ≤ 172
set_option maxRecDepth 100000 in
set_option maxHeartbeats 8000000 in
theorem kill_nine (A : Option Addr) (cap : Nat) (l : List OpT) (w : World) (hl : OC w A l) (h80 : l.length ≤ 80) :
    Calls Try.prog 5 #[.slice A l.length cap, .bool false] w fun e w' => e = .returned (.bool true) ∧ Below w.heap.size w w' := by
  have HO := Lib.hid hl
  clear hl
  have hng : ¬ ((80 : Int) < (l.length : Int)) := by omega
  go_enter Try.func5, Try.ntmps5
  go_wp2_with fail
  refine (new_calls w).mono ?_
  rintro e w1 ⟨rfl, hr, hb⟩
  have HR0 := Lib.hid (hr.below ((Below.refl _ _).alloc (Nat.le_refl _) (.cells cells5 49)))
  have HF0 := Lib.hid (hb.alloc hb.size (.cells cells5 49))
  have HG0 := Lib.hid (heap_alloc_new w1 (.cells cells5 49))
  clear hr hb
  go_wp2_with fail
  refine (started17 w1).mono ?_
  rintro e w2 ⟨rfl, hw2⟩
  rw [← hw2] at HR0 HF0 HG0
  clear hw2
  obtain ⟨g5, hg5⟩ : ∃ g, w1.heap.size = g := ⟨_, rfl⟩
  rw [hg5] at HG0 ⊢
  clear hg5
  have HI0 := Lib.hid (inv0.mono (show 0 ≤ 1000 by omega))
  go_wp2_with fail
  refine wp_loop_rounds 6 ?_
  rw [rounds_succ]
  go_wp2_with ((with_reducible change wpList _ _ _ (⟨_, .load 49 (.tmp 27), _, _, _, _⟩ :: _) _ _); go_loud (refine wpList_load_cells (by rfl) 49 (.tmp 27) rfl ⟨g5, 0 * 7, none⟩ rfl #[.int .i64 0, .int .i64 0, .int .i64 0, .int .i64 0, .int .i64 0, .int .u64 0, .int .i64 0] _ (cells5_at HG0.out 0 (by omega)) Try.underlying49 rfl (n := 7) (by kernel_rfl) rfl ?_))
  refine (call_any 0 0 0 0 0 0 0 _ (HR0.out.below ((Below.refl _ _).alloc (Nat.le_refl _) _)) HI0.out (by omega) (by omega) (by omega)).mono ?_
  rintro e v1 ⟨u1, rfl, ha⟩
  have HG1 := Lib.hid (row_step (w := w) HG0.out _ ha)
  have HF1 := Lib.hid (bel_step HF0.out _ ha)
  obtain ⟨⟨L1, hr⟩, hf⟩ := ha
  have HR1 := Lib.hid hr
  have HI1 := Lib.hid ((inv_c1).mono (show 1 ≤ 1000 by omega))
  clear hr hf
  go_wp2_with fail
  rw [rounds_succ]
  go_wp2_with ((with_reducible change wpList _ _ _ (⟨_, .load 49 (.tmp 27), _, _, _, _⟩ :: _) _ _); go_loud (refine wpList_load_cells (by rfl) 49 (.tmp 27) rfl ⟨g5, 1 * 7, none⟩ rfl #[.int .i64 0, .int .i64 1, .int .i64 0, .int .i64 0, .int .i64 0, .int .u64 0, .int .i64 0] _ (cells5_at HG1.out 1 (by omega)) Try.underlying49 rfl (n := 7) (by kernel_rfl) rfl ?_))
  refine (call_any 0 1 0 0 0 0 0 _ (HR1.out.below ((Below.refl _ _).alloc (Nat.le_refl _) _)) HI1.out (by omega) (by omega) (by omega)).mono ?_
  rintro e v2 ⟨u2, rfl, ha⟩
  have HG2 := Lib.hid (row_step (w := w) HG1.out _ ha)
  have HF2 := Lib.hid (bel_step HF1.out _ ha)
  obtain ⟨⟨L2, hr⟩, hf⟩ := ha
  have HR2 := Lib.hid hr
  have HI2 := Lib.hid ((inv_c2).mono (show 2 ≤ 1000 by omega))
  clear hr hf
  go_wp2_with fail
  rw [rounds_succ]
  go_wp2_with ((with_reducible change wpList _ _ _ (⟨_, .load 49 (.tmp 27), _, _, _, _⟩ :: _) _ _); go_loud (refine wpList_load_cells (by rfl) 49 (.tmp 27) rfl ⟨g5, 2 * 7, none⟩ rfl #[.int .i64 0, .int .i64 2, .int .i64 0, .int .i64 0, .int .i64 0, .int .u64 0, .int .i64 0] _ (cells5_at HG2.out 2 (by omega)) Try.underlying49 rfl (n := 7) (by kernel_rfl) rfl ?_))
  refine (call_any 0 2 0 0 0 0 0 _ (HR2.out.below ((Below.refl _ _).alloc (Nat.le_refl _) _)) HI2.out (by omega) (by omega) (by omega)).mono ?_
  rintro e v3 ⟨u3, rfl, ha⟩
  have HG3 := Lib.hid (row_step (w := w) HG2.out _ ha)
  have HF3 := Lib.hid (bel_step HF2.out _ ha)
  obtain ⟨⟨L3, hr⟩, hf⟩ := ha
  have HR3 := Lib.hid hr
  have HI3 := Lib.hid ((inv_c3).mono (show 3 ≤ 1000 by omega))
  clear hr hf
  go_wp2_with fail
  rw [rounds_succ]
  go_wp2_with ((with_reducible change wpList _ _ _ (⟨_, .load 49 (.tmp 27), _, _, _, _⟩ :: _) _ _); go_loud (refine wpList_load_cells (by rfl) 49 (.tmp 27) rfl ⟨g5, 3 * 7, none⟩ rfl #[.int .i64 0, .int .i64 3, .int .i64 1, .int .i64 0, .int .i64 0, .int .u64 0, .int .i64 0] _ (cells5_at HG3.out 3 (by omega)) Try.underlying49 rfl (n := 7) (by kernel_rfl) rfl ?_))
  refine (call_any 0 3 1 0 0 0 0 _ (HR3.out.below ((Below.refl _ _).alloc (Nat.le_refl _) _)) HI3.out (by omega) (by omega) (by omega)).mono ?_
  rintro e v4 ⟨u4, rfl, ha⟩
  have HG4 := Lib.hid (row_step (w := w) HG3.out _ ha)
  have HF4 := Lib.hid (bel_step HF3.out _ ha)
  obtain ⟨⟨L4, hr⟩, hf⟩ := ha
  have HR4 := Lib.hid hr
  have HI4 := Lib.hid ((inv_c4).mono (show 4 ≤ 1000 by omega))
  clear hr hf
  go_wp2_with fail
  rw [rounds_succ]
  go_wp2_with ((with_reducible change wpList _ _ _ (⟨_, .load 49 (.tmp 27), _, _, _, _⟩ :: _) _ _); go_loud (refine wpList_load_cells (by rfl) 49 (.tmp 27) rfl ⟨g5, 4 * 7, none⟩ rfl #[.int .i64 0, .int .i64 4, .int .i64 1, .int .i64 0, .int .i64 0, .int .u64 0, .int .i64 0] _ (cells5_at HG4.out 4 (by omega)) Try.underlying49 rfl (n := 7) (by kernel_rfl) rfl ?_))
  refine (call_any 0 4 1 0 0 0 0 _ (HR4.out.below ((Below.refl _ _).alloc (Nat.le_refl _) _)) HI4.out (by omega) (by omega) (by omega)).mono ?_
  rintro e v5 ⟨u5, rfl, ha⟩
  have HG5 := Lib.hid (row_step (w := w) HG4.out _ ha)
  have HF5 := Lib.hid (bel_step HF4.out _ ha)
  obtain ⟨⟨L5, hr⟩, hf⟩ := ha
  have HR5 := Lib.hid hr
  have HI5 := Lib.hid ((inv_c5).mono (show 5 ≤ 1000 by omega))
  clear hr hf
  go_wp2_with fail
  rw [rounds_succ]
  go_wp2_with fail
  have HLW : Hid (Lw w 5 st5 v5) := Lib.hid ⟨⟨_, HR5.out⟩, inv_st5, five_st5, noB_st5, ac9_st5, HF5.out⟩
  clear HR0 HR1 HR2 HR3 HR4 HR5 HF0 HF1 HF2 HF3 HF4 HF5 HG0 HG1 HG2 HG3 HG4 HG5 HI0 HI1 HI2 HI3 HI4 HI5
  go_loopw [35] (fun i wr => ∃ k : Nat, ∃ S : St, k ≤ l.length ∧ i = .int .i64 k ∧ Hid (Lw w (5 + k) S wr)) (fun i _ => l.length - (intOf i).toNat)
  case atStart => exact ⟨0, st5, Nat.zero_le _, rfl, HLW⟩
  case round =>
    obtain ⟨k, S, hk, rfl, HI⟩ := hrel
    by_cases hlt : k < l.length
    · obtain ⟨ad, rfl, hadl, hbo, hcell⟩ := (OC.below HO.out HI.out.2.2.2.2.2) k hlt
      obtain ⟨⟨L, hrep⟩, hinv, hfive, hnob, hac9, hbel⟩ := HI.out
      unfold okO at hbo
      unfold opT at hcell
      generalize l.getD k o0 = oo at *
      obtain ⟨ok, ot, op, os, on, ob, ov⟩ := oo
      simp only at hbo hcell
      unfold opc at hcell
      have HCELL := Lib.hid hcell
      have HREP := Lib.hid hrep
      have HINV := Lib.hid hinv
      have HS := Lib.hid (And.intro hfive (And.intro hnob hac9))
      have HBEL := Lib.hid hbel
      have hlt' : (k : Int) < (l.length : Int) := by omega
      clear hcell hrep hinv hfive hnob hac9 hbel hadl HI
      obtain ⟨wo, rfl⟩ : ∃ wo : World, wo = wr := ⟨_, rfl⟩
      go_wp2_with (first
        | ((with_reducible change wpList _ _ _ (⟨_, .load 49 (.tmp 37), _, _, _, _⟩ :: _) _ _); go_loud (refine wpList_load_cells (by rfl) 49 (.tmp 37) rfl (ad.add (k * 7)) rfl #[.int .i64 ok, .int .i64 ot, .int .i64 op, .int .i64 os, .int .i64 on, .int .u64 ob, .int .i64 ov] _ HCELL.out Try.underlying49 rfl (n := 7) (by kernel_rfl) rfl ?_)))
      refine (small_calls ok ot op os on ob ov _).mono ?_
      rintro e wa ⟨⟨K, T, Q, G, N, V, rfl, k0, k1⟩, hb⟩
      have HREPA := Lib.hid (HREP.out.below (below_then' ((Below.refl wo.heap.size wo).alloc (Nat.le_refl _) _) hb))
      have HBA := Lib.hid (below_then' (HBEL.out.alloc HBEL.out.size _) hb)
      clear hb
      have hmm : 5 + k ≤ 1000 := by omega
      go_wp2_with fail
      refine (call_any K T Q G N ob V _ HREPA.out (HINV.out.mono hmm) hbo (by omega) k1).mono ?_
      rintro e wb ⟨ub, rfl, ⟨⟨LB, hr⟩, hf⟩⟩
      have HREPB := Lib.hid hr
      have HBB := Lib.hid (HBA.out.trans hf.bel)
      have HINVB := Lib.hid (HINV.out.callS K T Q G N ob V)
      have HSB := Lib.hid (And.intro (HS.out.1.keep (keeps_call S K T Q G N ob V k0)) (And.intro (noB_call HS.out.2.1 K T Q G N ob V k0) (ac9_call HS.out.2.2 K T Q G N ob V k0)))
      clear hr hf
      generalize callS S K T Q G N ob V = S1 at *
      go_wp2
      go_roundw
      case rel => exact ⟨k + 1, S1, by omega, by go_num, Lib.hid ⟨⟨_, HREPB.out⟩, by rw [← Nat.add_assoc]; exact HINVB.out, HSB.out.1, HSB.out.2.1, HSB.out.2.2, HBB.out⟩⟩
      case measure => simp [intOf]; omega
    · obtain rfl : k = l.length := by omega
      have hge : ¬ ((l.length : Int) < (l.length : Int)) := by omega
      obtain ⟨⟨L, hrep⟩, hinv, hfive, _, hac9, hbel⟩ := HI.out
      obtain ⟨okc, C, y, M, lk, Z, e1, e2, e3, iC, iM, hlp, hlen⟩ := kill_setup hinv (show 5 + l.length ≤ 85 by omega) hfive hac9 (s := 9) (by omega)
      have HREP := Lib.hid hrep
      have HBEL := Lib.hid hbel
      have HE1 := Lib.hid e1
      have HE2 := Lib.hid e2
      have HE3 := Lib.hid e3
      have HIC := Lib.hid (And.intro iC iM)
      have HLP := Lib.hid (And.intro hlp hlen)
      clear hrep hbel e1 e2 e3 iC iM hlp hlen hinv hfive hac9 HI
      go_wp2_with fail
      refine (cancel_calls 0 _ HREP.out).mono ?_
      rw [HE1.out]
      rintro e wc ⟨rfl, ⟨⟨LC, hr⟩, hf⟩⟩
      have HRC := Lib.hid hr
      have HBC := Lib.hid (HBEL.out.trans hf.bel)
      clear hr hf
      go_wp2_with fail
      refine (mask_calls 0 2 18446744073709551615 _ HRC.out HIC.out.1 (by omega)).mono ?_
      rw [HE2.out]
      rintro e wd ⟨rfl, ⟨⟨LD, hr⟩, hf⟩⟩
      have HRD := Lib.hid hr
      have HBD := Lib.hid (HBC.out.trans hf.bel)
      clear hr hf
      go_wp2_with fail
      refine (kill_calls 0 0 9 5 _ HRD.out HIC.out.2).mono ?_
      rw [HE3.out]
      rintro e we ⟨wk, rfl, _, ⟨⟨LE, hr⟩, hf⟩⟩
      have HRE := Lib.hid hr
      have HBE := Lib.hid (HBD.out.trans hf.bel)
      clear hr hf
      go_wp2_with fail
      go_loopw [62] (fun i wr => ∃ j : Nat, ∃ S : St, i = .int .i64 j ∧ Hid (Lx w 9 j S wr)) (fun i _ => 200 - (intOf i).toNat)
      case atStart => exact ⟨0, Z, rfl, Lib.hid ⟨⟨_, HRE.out⟩, HLP.out.1, HBE.out, HLP.out.2⟩⟩
      case round =>
        obtain ⟨j, S2, rfl, HX⟩ := hrel
        obtain ⟨⟨LX, hrx⟩, hlpx, hbx, hlx⟩ := HX.out
        have hpos : 1 ≤ (both S2 0 0).length := by
          obtain ⟨vv, hv⟩ := pends_iff.1 hlpx.pn
          exact List.length_pos_of_mem hv
        obtain ⟨tt, tv, td, S3, hn, htd, htn⟩ := next_lp hlpx (by omega)
        have hj200 : (j : Int) < 200 := by omega
        have HRX := Lib.hid hrx
        have HBX := Lib.hid hbx
        have HN := Lib.hid hn
        have HIX := Lib.hid hlpx.inv
        have HTN := Lib.hid htn
        have HLX := Lib.hid hlx
        clear hrx hbx hn hlpx hlx htn HX hpos
        by_cases hts : tt = 9
        · subst hts
          have htd2 : td = 2 := htd rfl
          clear htd
          subst htd2
          go_wp2_with fail
          refine (next_calls 0 _ HRX.out HIX.out).mono ?_
          rw [HN.out]
          simp only [dv]
          rintro e wf ⟨rfl, ⟨⟨LF, hr⟩, hf⟩⟩
          have HBF := Lib.hid (HBX.out.trans hf.bel)
          clear hr hf
          go_wp2_with fail
          refine (awake_calls _).mono ?_
          rintro e wz ⟨rfl, hb⟩
          have HZ := Lib.hid (below_then' (HBF.out.alloc HBF.out.size _) hb)
          clear hb
          go_wp2
          go_ret
          exact ⟨rfl, HZ.out⟩
        · have htb : (tt == 9) = false := by simpa using hts
          have HTN2 := Lib.hid (HTN.out hts)
          clear HTN htd hts
          go_wp2_with fail
          refine (next_calls 0 _ HRX.out HIX.out).mono ?_
          rw [HN.out]
          simp only [dv]
          rintro e wf ⟨rfl, ⟨⟨LF, hr⟩, hf⟩⟩
          have HRF := Lib.hid (hr.below ((Below.refl _ _).alloc (Nat.le_refl _) (.cells #[.int .i64 tt, .int .i64 tv, .int .i64 td] 35)))
          have HBF := Lib.hid ((HBX.out.trans hf.bel).alloc (HBX.out.trans hf.bel).size (.cells #[.int .i64 tt, .int .i64 tv, .int .i64 td] 35))
          clear hr hf
          go_wp2
          go_roundw
          case rel => exact ⟨j + 1, S3, by go_num, Lib.hid ⟨⟨_, HRF.out⟩, HTN2.out.1, HBF.out, by have := HTN2.out.2; have := HLX.out; omega⟩⟩
          case measure => simp [intOf]; omega
set_option maxRecDepth 100000 in
set_option maxHeartbeats 8000000 in
theorem kill_nineteen (A : Option Addr) (cap : Nat) (l : List OpT) (w : World) (hl : OC w A l) (h80 : l.length ≤ 80) :
    Calls Try.prog 5 #[.slice A l.length cap, .bool true] w fun e w' => e = .returned (.bool true) ∧ Below w.heap.size w w' := by
  have HO := Lib.hid hl
  clear hl
  have hng : ¬ ((80 : Int) < (l.length : Int)) := by omega
  go_enter Try.func5, Try.ntmps5
  go_wp2_with fail
  refine (new_calls w).mono ?_
  rintro e w1 ⟨rfl, hr, hb⟩
  have HR0 := Lib.hid (hr.below ((Below.refl _ _).alloc (Nat.le_refl _) (.cells cells5 49)))
  have HF0 := Lib.hid (hb.alloc hb.size (.cells cells5 49))
  have HG0 := Lib.hid (heap_alloc_new w1 (.cells cells5 49))
  clear hr hb
  go_wp2_with fail
  refine (started17 w1).mono ?_
  rintro e w2 ⟨rfl, hw2⟩
  rw [← hw2] at HR0 HF0 HG0
  clear hw2
  obtain ⟨g5, hg5⟩ : ∃ g, w1.heap.size = g := ⟨_, rfl⟩
  rw [hg5] at HG0 ⊢
  clear hg5
  have HI0 := Lib.hid (inv0.mono (show 0 ≤ 1000 by omega))
  go_wp2_with fail
  refine wp_loop_rounds 6 ?_
  rw [rounds_succ]
  go_wp2_with ((with_reducible change wpList _ _ _ (⟨_, .load 49 (.tmp 27), _, _, _, _⟩ :: _) _ _); go_loud (refine wpList_load_cells (by rfl) 49 (.tmp 27) rfl ⟨g5, 0 * 7, none⟩ rfl #[.int .i64 0, .int .i64 0, .int .i64 0, .int .i64 0, .int .i64 0, .int .u64 0, .int .i64 0] _ (cells5_at HG0.out 0 (by omega)) Try.underlying49 rfl (n := 7) (by kernel_rfl) rfl ?_))
  refine (call_any 0 0 0 0 0 0 0 _ (HR0.out.below ((Below.refl _ _).alloc (Nat.le_refl _) _)) HI0.out (by omega) (by omega) (by omega)).mono ?_
  rintro e v1 ⟨u1, rfl, ha⟩
  have HG1 := Lib.hid (row_step (w := w) HG0.out _ ha)
  have HF1 := Lib.hid (bel_step HF0.out _ ha)
  obtain ⟨⟨L1, hr⟩, hf⟩ := ha
  have HR1 := Lib.hid hr
  have HI1 := Lib.hid ((inv_c1).mono (show 1 ≤ 1000 by omega))
  clear hr hf
  go_wp2_with fail
  rw [rounds_succ]
  go_wp2_with ((with_reducible change wpList _ _ _ (⟨_, .load 49 (.tmp 27), _, _, _, _⟩ :: _) _ _); go_loud (refine wpList_load_cells (by rfl) 49 (.tmp 27) rfl ⟨g5, 1 * 7, none⟩ rfl #[.int .i64 0, .int .i64 1, .int .i64 0, .int .i64 0, .int .i64 0, .int .u64 0, .int .i64 0] _ (cells5_at HG1.out 1 (by omega)) Try.underlying49 rfl (n := 7) (by kernel_rfl) rfl ?_))
  refine (call_any 0 1 0 0 0 0 0 _ (HR1.out.below ((Below.refl _ _).alloc (Nat.le_refl _) _)) HI1.out (by omega) (by omega) (by omega)).mono ?_
  rintro e v2 ⟨u2, rfl, ha⟩
  have HG2 := Lib.hid (row_step (w := w) HG1.out _ ha)
  have HF2 := Lib.hid (bel_step HF1.out _ ha)
  obtain ⟨⟨L2, hr⟩, hf⟩ := ha
  have HR2 := Lib.hid hr
  have HI2 := Lib.hid ((inv_c2).mono (show 2 ≤ 1000 by omega))
  clear hr hf
  go_wp2_with fail
  rw [rounds_succ]
  go_wp2_with ((with_reducible change wpList _ _ _ (⟨_, .load 49 (.tmp 27), _, _, _, _⟩ :: _) _ _); go_loud (refine wpList_load_cells (by rfl) 49 (.tmp 27) rfl ⟨g5, 2 * 7, none⟩ rfl #[.int .i64 0, .int .i64 2, .int .i64 0, .int .i64 0, .int .i64 0, .int .u64 0, .int .i64 0] _ (cells5_at HG2.out 2 (by omega)) Try.underlying49 rfl (n := 7) (by kernel_rfl) rfl ?_))
  refine (call_any 0 2 0 0 0 0 0 _ (HR2.out.below ((Below.refl _ _).alloc (Nat.le_refl _) _)) HI2.out (by omega) (by omega) (by omega)).mono ?_
  rintro e v3 ⟨u3, rfl, ha⟩
  have HG3 := Lib.hid (row_step (w := w) HG2.out _ ha)
  have HF3 := Lib.hid (bel_step HF2.out _ ha)
  obtain ⟨⟨L3, hr⟩, hf⟩ := ha
  have HR3 := Lib.hid hr
  have HI3 := Lib.hid ((inv_c3).mono (show 3 ≤ 1000 by omega))
  clear hr hf
  go_wp2_with fail
  rw [rounds_succ]
  go_wp2_with ((with_reducible change wpList _ _ _ (⟨_, .load 49 (.tmp 27), _, _, _, _⟩ :: _) _ _); go_loud (refine wpList_load_cells (by rfl) 49 (.tmp 27) rfl ⟨g5, 3 * 7, none⟩ rfl #[.int .i64 0, .int .i64 3, .int .i64 1, .int .i64 0, .int .i64 0, .int .u64 0, .int .i64 0] _ (cells5_at HG3.out 3 (by omega)) Try.underlying49 rfl (n := 7) (by kernel_rfl) rfl ?_))
  refine (call_any 0 3 1 0 0 0 0 _ (HR3.out.below ((Below.refl _ _).alloc (Nat.le_refl _) _)) HI3.out (by omega) (by omega) (by omega)).mono ?_
  rintro e v4 ⟨u4, rfl, ha⟩
  have HG4 := Lib.hid (row_step (w := w) HG3.out _ ha)
  have HF4 := Lib.hid (bel_step HF3.out _ ha)
  obtain ⟨⟨L4, hr⟩, hf⟩ := ha
  have HR4 := Lib.hid hr
  have HI4 := Lib.hid ((inv_c4).mono (show 4 ≤ 1000 by omega))
  clear hr hf
  go_wp2_with fail
  rw [rounds_succ]
  go_wp2_with ((with_reducible change wpList _ _ _ (⟨_, .load 49 (.tmp 27), _, _, _, _⟩ :: _) _ _); go_loud (refine wpList_load_cells (by rfl) 49 (.tmp 27) rfl ⟨g5, 4 * 7, none⟩ rfl #[.int .i64 0, .int .i64 4, .int .i64 1, .int .i64 0, .int .i64 0, .int .u64 0, .int .i64 0] _ (cells5_at HG4.out 4 (by omega)) Try.underlying49 rfl (n := 7) (by kernel_rfl) rfl ?_))
  refine (call_any 0 4 1 0 0 0 0 _ (HR4.out.below ((Below.refl _ _).alloc (Nat.le_refl _) _)) HI4.out (by omega) (by omega) (by omega)).mono ?_
  rintro e v5 ⟨u5, rfl, ha⟩
  have HG5 := Lib.hid (row_step (w := w) HG4.out _ ha)
  have HF5 := Lib.hid (bel_step HF4.out _ ha)
  obtain ⟨⟨L5, hr⟩, hf⟩ := ha
  have HR5 := Lib.hid hr
  have HI5 := Lib.hid ((inv_c5).mono (show 5 ≤ 1000 by omega))
  clear hr hf
  go_wp2_with fail
  rw [rounds_succ]
  go_wp2_with fail
  have HLW : Hid (Lw w 5 st5 v5) := Lib.hid ⟨⟨_, HR5.out⟩, inv_st5, five_st5, noB_st5, ac9_st5, HF5.out⟩
  clear HR0 HR1 HR2 HR3 HR4 HR5 HF0 HF1 HF2 HF3 HF4 HF5 HG0 HG1 HG2 HG3 HG4 HG5 HI0 HI1 HI2 HI3 HI4 HI5
  go_loopw [35] (fun i wr => ∃ k : Nat, ∃ S : St, k ≤ l.length ∧ i = .int .i64 k ∧ Hid (Lw w (5 + k) S wr)) (fun i _ => l.length - (intOf i).toNat)
  case atStart => exact ⟨0, st5, Nat.zero_le _, rfl, HLW⟩
  case round =>
    obtain ⟨k, S, hk, rfl, HI⟩ := hrel
    by_cases hlt : k < l.length
    · obtain ⟨ad, rfl, hadl, hbo, hcell⟩ := (OC.below HO.out HI.out.2.2.2.2.2) k hlt
      obtain ⟨⟨L, hrep⟩, hinv, hfive, hnob, hac9, hbel⟩ := HI.out
      unfold okO at hbo
      unfold opT at hcell
      generalize l.getD k o0 = oo at *
      obtain ⟨ok, ot, op, os, on, ob, ov⟩ := oo
      simp only at hbo hcell
      unfold opc at hcell
      have HCELL := Lib.hid hcell
      have HREP := Lib.hid hrep
      have HINV := Lib.hid hinv
      have HS := Lib.hid (And.intro hfive (And.intro hnob hac9))
      have HBEL := Lib.hid hbel
      have hlt' : (k : Int) < (l.length : Int) := by omega
      clear hcell hrep hinv hfive hnob hac9 hbel hadl HI
      obtain ⟨wo, rfl⟩ : ∃ wo : World, wo = wr := ⟨_, rfl⟩
      go_wp2_with (first
        | ((with_reducible change wpList _ _ _ (⟨_, .load 49 (.tmp 37), _, _, _, _⟩ :: _) _ _); go_loud (refine wpList_load_cells (by rfl) 49 (.tmp 37) rfl (ad.add (k * 7)) rfl #[.int .i64 ok, .int .i64 ot, .int .i64 op, .int .i64 os, .int .i64 on, .int .u64 ob, .int .i64 ov] _ HCELL.out Try.underlying49 rfl (n := 7) (by kernel_rfl) rfl ?_)))
      refine (small_calls ok ot op os on ob ov _).mono ?_
      rintro e wa ⟨⟨K, T, Q, G, N, V, rfl, k0, k1⟩, hb⟩
      have HREPA := Lib.hid (HREP.out.below (below_then' ((Below.refl wo.heap.size wo).alloc (Nat.le_refl _) _) hb))
      have HBA := Lib.hid (below_then' (HBEL.out.alloc HBEL.out.size _) hb)
      clear hb
      have hmm : 5 + k ≤ 1000 := by omega
      go_wp2_with fail
      refine (call_any K T Q G N ob V _ HREPA.out (HINV.out.mono hmm) hbo (by omega) k1).mono ?_
      rintro e wb ⟨ub, rfl, ⟨⟨LB, hr⟩, hf⟩⟩
      have HREPB := Lib.hid hr
      have HBB := Lib.hid (HBA.out.trans hf.bel)
      have HINVB := Lib.hid (HINV.out.callS K T Q G N ob V)
      have HSB := Lib.hid (And.intro (HS.out.1.keep (keeps_call S K T Q G N ob V k0)) (And.intro (noB_call HS.out.2.1 K T Q G N ob V k0) (ac9_call HS.out.2.2 K T Q G N ob V k0)))
      clear hr hf
      generalize callS S K T Q G N ob V = S1 at *
      go_wp2
      go_roundw
      case rel => exact ⟨k + 1, S1, by omega, by go_num, Lib.hid ⟨⟨_, HREPB.out⟩, by rw [← Nat.add_assoc]; exact HINVB.out, HSB.out.1, HSB.out.2.1, HSB.out.2.2, HBB.out⟩⟩
      case measure => simp [intOf]; omega
    · obtain rfl : k = l.length := by omega
      have hge : ¬ ((l.length : Int) < (l.length : Int)) := by omega
      obtain ⟨⟨L, hrep⟩, hinv, hfive, _, hac9, hbel⟩ := HI.out
      obtain ⟨okc, C, y, M, lk, Z, e1, e2, e3, iC, iM, hlp, hlen⟩ := kill_setup hinv (show 5 + l.length ≤ 85 by omega) hfive hac9 (s := 19) (by omega)
      have HREP := Lib.hid hrep
      have HBEL := Lib.hid hbel
      have HE1 := Lib.hid e1
      have HE2 := Lib.hid e2
      have HE3 := Lib.hid e3
      have HIC := Lib.hid (And.intro iC iM)
      have HLP := Lib.hid (And.intro hlp hlen)
      clear hrep hbel e1 e2 e3 iC iM hlp hlen hinv hfive hac9 HI
      go_wp2_with fail
      refine (cancel_calls 0 _ HREP.out).mono ?_
      rw [HE1.out]
      rintro e wc ⟨rfl, ⟨⟨LC, hr⟩, hf⟩⟩
      have HRC := Lib.hid hr
      have HBC := Lib.hid (HBEL.out.trans hf.bel)
      clear hr hf
      go_wp2_with fail
      refine (mask_calls 0 2 18446744073709551615 _ HRC.out HIC.out.1 (by omega)).mono ?_
      rw [HE2.out]
      rintro e wd ⟨rfl, ⟨⟨LD, hr⟩, hf⟩⟩
      have HRD := Lib.hid hr
      have HBD := Lib.hid (HBC.out.trans hf.bel)
      clear hr hf
      go_wp2_with fail
      refine (kill_calls 0 0 19 5 _ HRD.out HIC.out.2).mono ?_
      rw [HE3.out]
      rintro e we ⟨wk, rfl, _, ⟨⟨LE, hr⟩, hf⟩⟩
      have HRE := Lib.hid hr
      have HBE := Lib.hid (HBD.out.trans hf.bel)
      clear hr hf
      go_wp2_with fail
      go_loopw [62] (fun i wr => ∃ j : Nat, ∃ S : St, i = .int .i64 j ∧ Hid (Lx w 19 j S wr)) (fun i _ => 200 - (intOf i).toNat)
      case atStart => exact ⟨0, Z, rfl, Lib.hid ⟨⟨_, HRE.out⟩, HLP.out.1, HBE.out, HLP.out.2⟩⟩
      case round =>
        obtain ⟨j, S2, rfl, HX⟩ := hrel
        obtain ⟨⟨LX, hrx⟩, hlpx, hbx, hlx⟩ := HX.out
        have hpos : 1 ≤ (both S2 0 0).length := by
          obtain ⟨vv, hv⟩ := pends_iff.1 hlpx.pn
          exact List.length_pos_of_mem hv
        obtain ⟨tt, tv, td, S3, hn, htd, htn⟩ := next_lp hlpx (by omega)
        have hj200 : (j : Int) < 200 := by omega
        have HRX := Lib.hid hrx
        have HBX := Lib.hid hbx
        have HN := Lib.hid hn
        have HIX := Lib.hid hlpx.inv
        have HTN := Lib.hid htn
        have HLX := Lib.hid hlx
        clear hrx hbx hn hlpx hlx htn HX hpos
        by_cases hts : tt = 19
        · subst hts
          have htd2 : td = 3 := htd rfl
          clear htd
          subst htd2
          go_wp2_with fail
          refine (next_calls 0 _ HRX.out HIX.out).mono ?_
          rw [HN.out]
          simp only [dv]
          rintro e wf ⟨rfl, ⟨⟨LF, hr⟩, hf⟩⟩
          have HBF := Lib.hid (HBX.out.trans hf.bel)
          clear hr hf
          go_wp2_with fail
          refine (awake_calls _).mono ?_
          rintro e wz ⟨rfl, hb⟩
          have HZ := Lib.hid (below_then' (HBF.out.alloc HBF.out.size _) hb)
          clear hb
          go_wp2
          go_ret
          exact ⟨rfl, HZ.out⟩
        · have htb : (tt == 19) = false := by simpa using hts
          have HTN2 := Lib.hid (HTN.out hts)
          clear HTN htd hts
          go_wp2_with fail
          refine (next_calls 0 _ HRX.out HIX.out).mono ?_
          rw [HN.out]
          simp only [dv]
          rintro e wf ⟨rfl, ⟨⟨LF, hr⟩, hf⟩⟩
          have HRF := Lib.hid (hr.below ((Below.refl _ _).alloc (Nat.le_refl _) (.cells #[.int .i64 tt, .int .i64 tv, .int .i64 td] 35)))
          have HBF := Lib.hid ((HBX.out.trans hf.bel).alloc (HBX.out.trans hf.bel).size (.cells #[.int .i64 tt, .int .i64 tv, .int .i64 td] 35))
          clear hr hf
          go_wp2
          go_roundw
          case rel => exact ⟨j + 1, S3, by go_num, Lib.hid ⟨⟨_, HRF.out⟩, HTN2.out.1, HBF.out, by have := HTN2.out.2; have := HLX.out; omega⟩⟩
          case measure => simp [intOf]; omega
theorem kill_big (A : Option Addr) (cap : Nat) (l : List OpT) (b : Bool) (w : World) (h80 : ¬ l.length ≤ 80) :
    Calls Try.prog 5 #[.slice A l.length cap, .bool b] w fun e w' => e = .returned (.bool true) ∧ Below w.heap.size w w' := by
  have hng : (80 : Int) < (l.length : Int) := by omega
  go_enter Try.func5, Try.ntmps5
  go_wp2_with fail
  refine (awake_calls _).mono ?_
  rintro e wz ⟨rfl, hb⟩
  have HZ := Lib.hid hb
  clear hb
  go_wp2
  go_ret
  exact ⟨rfl, HZ.out⟩
theorem kill_row (A : Option Addr) (cap : Nat) (l : List OpT) (b : Bool) (w : World) (hl : OC w A l) (_ : l.length ≤ 140737488351232) :
    Calls Try.prog 5 #[.slice A l.length cap, .bool b] w fun e w' => e = .returned (.bool true) ∧ Below w.heap.size w w' := by
  by_cases h : l.length ≤ 80
  · cases b
    · exact kill_nine A cap l w hl h
    · exact kill_nineteen A cap l w hl h
  · exact kill_big A cap l b w h
end Go.Proofs.Ytbpihfphoniclaa
