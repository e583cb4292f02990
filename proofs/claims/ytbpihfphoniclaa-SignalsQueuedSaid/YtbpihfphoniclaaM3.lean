/- SignalsQueued: the walk. -/
import Derived.Test.YtbpihfphoniclaaM2b
import Derived.Test.YtbpihfphoniclaaD3
import Derived.Test.YtbpihfphoniclaaO1
import Derived.OwnWalk
import Derived.LoopN
namespace Go.Proofs.Ytbpihfphoniclaa
open Go.RowKit
set_option linter.unusedVariables false
/-- The cells of a slice of bytes. -/
def OB (w : World) (A : Option Addr) (l : List Int) : Prop := ∀ i, i < l.length → ∃ ad, A = some ad ∧ ad.block < w.heap.size ∧ 0 ≤ l.getD i 0 ∧ l.getD i 0 ≤ 255 ∧ w.cell? (ad.add i) = some (.int .u8 (l.getD i 0))
theorem add_block' (ad : Addr) (j : Nat) : (ad.add j).block = ad.block := by
  unfold Addr.add
  split <;> rfl
theorem OB.below {w w' : World} {A : Option Addr} {l : List Int} (h : OB w A l) (hb : Below w.heap.size w w') : OB w' A l := by
  intro i hi
  obtain ⟨ad, e, hlt, h0, h1, hc⟩ := h i hi
  exact ⟨ad, e, by have := hb.size; omega, h0, h1, by rw [hb.cell (p := ad.add i) (by rw [add_block']; exact hlt)]; exact hc⟩
theorem Gm.up {w : World} {base bm n : Nat} {M : Int → Value} {Q : List Pd} (h : Gm w base bm n M Q) : Gm w base bm (n + 1) M Q := by
  obtain ⟨⟨es, clock, a, b, c, d⟩, r1, r2, r3, r4, r5⟩ := h
  exact ⟨⟨es, clock, a, b, by omega, d⟩, r1, r2, r3, r4, r5⟩
/-- What holds of the world where the signals are sent. -/
def Fi (w : World) (bm m k : Nat) (Q : List Pd) (M : Int → Value) (wr : World) : Prop :=
  (∃ L, RepL wr w.heap.size w.heap.size L (Sq m Q)) ∧ Inv (Sq m Q) k ∧ All3 Q ∧ Q.length ≤ k ∧ Gm wr w.heap.size bm k M Q ∧ Below w.heap.size w wr
theorem cell_first (w : World) (v : Value) (e : TypeId) : ∀ ad, some (⟨w.heap.size, 0, none⟩ : Addr) = some ad → ∀ j u, [v][j]? = some u → (w.alloc (.cells #[v] e)).cell? (ad.add j) = some u := by
  rintro ad rfl' j u hu
  cases rfl'
  match j, hu with
  | 0, hu =>
    cases hu
    rw [add_at, cell_of_row _ _ _ _ _ _ (heap_alloc_new w _)]
    rfl
  | j + 1, hu => simp at hu
theorem nub {w : World} {base bm n : Nat} {M : Int → Value} {Q : List Pd} (h : Gm w base bm n M Q) {s : Int} (hs : Ok3 s) : (M s).ownBlock ≠ some bm := by
  intro e
  obtain ⟨cur, hc⟩ := (h.row s hs).ty bm e
  obtain ⟨es, clock, hb⟩ := h.bt
  rw [hb] at hc
  cases hc
/-- The worlds of one round: the kill's, the box of the number, the append's, the map's. -/
theorem fi_next {w wb w3 w4 : World} {bm m k : Nat} {Q : List Pd} {M : Int → Value} {s : Int} (hs : Ok3 s) (hno : ¬ (s = 10 ∧ want Q 10 ≠ [])) (h3 : All3 Q) (hl : Q.length ≤ k)
    (hrep : ∃ L, RepL wb w.heap.size w.heap.size L (Sq m (addQ Q s k))) (hinv : Inv (Sq m (addQ Q s k)) (k + 1)) (hgm : Gm wb w.heap.size bm k M Q) (hbel : Below w.heap.size w wb) {v' : Value}
    (hr : Rw w3 2 1 v' ((want Q s).length + 1) (n64 (want Q s) ++ [.int .i64 k])) (hg : (wb.alloc (.cells #[.int .i64 k] 2)).grownBy w3 (M s).ownBlock) (ho : v'.ownBlock = (M s).ownBlock ∨ v'.ownBlock = some (wb.alloc (.cells #[.int .i64 k] 2)).heap.size)
    (hm : MapV w4 bm (k + 1) (updI M s v')) (hg2 : w3.grownBy w4 (some bm)) : Fi w bm m (k + 1) (addQ Q s k) (updI M s v') w4 := by
  have hb1 : Below wb.heap.size wb (wb.alloc (.cells #[.int .i64 k] 2)) := (Below.refl _ _).alloc (Nat.le_refl _) _
  have hgm1 := hgm.below hb1
  obtain ⟨L, hrep⟩ := hrep
  have hr1 := hrep.below hb1
  have hty : ∀ g, (M s).ownBlock = some g → (∃ cur, (wb.alloc (.cells #[.int .i64 k] 2)).heap[g]? = some (.cells cur 2 (0, 0))) ∨ (∃ es clock, (wb.alloc (.cells #[.int .i64 k] 2)).heap[g]? = some (.map es clock)) := fun g hg' => .inl ((hgm1.row s hs).ty g hg')
  have hr2 := hr1.grown2 hg hty
  have hbmap : ∃ es clock, w3.heap[bm]? = some (.map es clock) := by
    obtain ⟨es, clock, hb⟩ := hgm1.bt
    exact ⟨es, clock, by rw [hg.block bm (Array.getElem?_eq_some_iff.1 hb).1 (fun e => nub hgm1 hs e.symm)]; exact hb⟩
  have hr3 := hr2.grown2 hg2 (fun g hg' => by cases hg'; exact .inr hbmap)
  have hsz := hbel.size
  have hb2 := (hbel.alloc hbel.size (.cells #[.int .i64 k] 2)).grown hg (by have := hb1.size; omega) (fun g hg' => hgm1.rb s hs g hg')
  have hb3 := hb2.grown hg2 hb2.size (fun g hg' => by cases hg'; exact hgm1.bb)
  refine ⟨⟨L, hr3⟩, hinv, h3.add hs k, Nat.le_trans (addQ_len Q s k) (by omega), ?_, hb3⟩
  refine gm_step hgm1 (by have := hb1.size; omega) hs hno hr hg ho hm hg2 ?_
  obtain ⟨es, clock, h1, _⟩ := hm
  exact ⟨es, clock, h1⟩
set_option maxRecDepth 100000 in
set_option maxHeartbeats 8000000 in
theorem queued_m (A : Option Addr) (cap : Nat) (l : List Int) (w : World) (hl : OB w A l) (h64 : l.length ≤ 64) :
    Calls Try.prog 4 #[.slice A l.length cap, .bool true] w fun e w' => e = .returned (.bool true) ∧ Below w.heap.size w w' := by
  obtain ⟨i2, hi2, hz0, hz1, hz2⟩ := info_parts (P := Try.prog) (e := 2) (z := .int .i64 0) (size := 1) (bytes := 8) (by kernel_rfl)
  have hmm := @run_makeMap Try.prog
  have HO := Lib.hid hl
  clear hl
  have hng : ¬ ((64 : Int) < (l.length : Int)) := by omega
  obtain ⟨B0, e1, e2⟩ : ∃ B0, startS S0 0 0 = (0, B0) ∧ actionS B0 0 10 2 = ((0, 0), Sq 0 []) := ⟨_, start_sq, action_sq⟩
  have i1 := inv0.startS 0 0
  rw [e1] at i1
  have i1 : Inv B0 0 := i1
  have i3 := i1.actionS 0 10 2
  rw [e2] at i3
  have i3 : Inv (Sq 0 []) 0 := i3
  have i4 := i3.maskS 0 2 18446744073709551615
  have e4 := mask_sq 0 [] 18446744073709551615
  rw [newMask_all] at e4
  rw [e4] at i4
  have i4 : Inv (Sq mK []) 0 := i4
  have HE1 := Lib.hid e1
  have HE2 := Lib.hid e2
  have HE4 := Lib.hid e4
  have HI := Lib.hid (And.intro i1 (And.intro i3 i4))
  clear e1 e2 e4 i1 i3 i4
  obtain ⟨MM, hMM⟩ : ∃ MM : Nat, MM = mK := ⟨_, rfl⟩
  go_enter Try.func4, Try.ntmps4
  go_wp2_with fail
  refine (new_calls w).mono ?_
  rintro e w1 ⟨rfl, hr, hb⟩
  have HR1 := Lib.hid hr
  have HF1 := Lib.hid hb
  clear hr hb
  go_wp2_with fail
  refine (start_calls 0 0 w1 HR1.out).mono ?_
  rw [HE1.out]
  rintro e w2 ⟨rfl, ⟨⟨L2, hr⟩, hf⟩⟩
  have HR2 := Lib.hid hr
  have HF2 := Lib.hid (HF1.out.trans hf.bel)
  clear hr hf
  go_wp2_with fail
  refine (action_calls 0 10 2 w2 HR2.out (HI.out.1.mono (by omega))).mono ?_
  rw [HE2.out]
  rintro e w3 ⟨rfl, ⟨⟨L3, hr⟩, hf⟩⟩
  have HR3 := Lib.hid hr
  have HF3 := Lib.hid (HF2.out.trans hf.bel)
  clear hr hf
  go_wp2_with fail
  refine (mask_calls 0 2 18446744073709551615 w3 HR3.out (HI.out.2.1.mono (by omega)) (by omega)).mono ?_
  rw [HE4.out]
  rintro e w4 ⟨rfl, ⟨⟨L4, hr⟩, hf⟩⟩
  have HR4 := Lib.hid hr
  have HF4 := Lib.hid (HF3.out.trans hf.bel)
  clear hr hf
  rw [← hMM] at HR4
  have HIM : Hid (Inv (Sq MM []) 0) := Lib.hid (by rw [hMM]; exact HI.out.2.2)
  go_wp2_with fail
  have HFI : Hid (Fi w w4.heap.size MM 0 [] (fun _ => .slice none 0 0) (w4.alloc (.map #[] 0))) := Lib.hid ⟨⟨_, HR4.out.below ((Below.refl _ _).alloc (Nat.le_refl _) _)⟩, HIM.out, (fun x hx => by cases hx), Nat.le_refl _, Gm.made w4 HF4.out.size, HF4.out.alloc HF4.out.size _⟩
  generalize w4.alloc (.map #[] 0) = W0 at *
  generalize w4.heap.size = bm at *
  clear HE1 HE2 HE4 HI HR1 HR2 HR3 HR4 HF1 HF2 HF3 HF4 HIM hmm
  go_loopw [47] (fun i wr => ∃ k : Nat, ∃ Q : List Pd, ∃ M : Int → Value, k ≤ l.length ∧ i = .int .i64 k ∧ Hid (Fi w bm MM k Q M wr)) (fun i _ => l.length - (intOf i).toNat)
  case atStart => exact ⟨0, [], fun _ => .slice none 0 0, Nat.zero_le _, rfl, HFI⟩
  case round =>
    obtain ⟨k, Q, M, hk, rfl, HI⟩ := hrel
    by_cases hlt : k < l.length
    · obtain ⟨⟨L, hrep⟩, hinv, hall, hlen, hgm, hbel⟩ := HI.out
      obtain ⟨ad, rfl, hadl, hy0, hy1, hcell⟩ := (OB.below HO.out hbel) k hlt
      generalize l.getD k 0 = y at *
      have hb0 : Below wr.heap.size wr (wr.alloc (.cells #[.int .i64 10, .int .i64 41, .int .i64 50] 3)) := (Below.refl _ _).alloc (Nat.le_refl _) _
      have HREPA := Lib.hid (hrep.below hb0)
      have HINV := Lib.hid hinv
      have HA3 := Lib.hid hall
      have HLEN := Lib.hid hlen
      have HGM := Lib.hid (hgm.below hb0)
      have HBELA := Lib.hid (hbel.alloc hbel.size (.cells #[.int .i64 10, .int .i64 41, .int .i64 50] 3))
      have hlt' : (k : Int) < (l.length : Int) := by omega
      have hym : y.tmod 3 = 0 ∨ y.tmod 3 = 1 ∨ y.tmod 3 = 2 := by
        have h1 := Int.tmod_nonneg 3 hy0
        have h2 := Int.tmod_lt_of_pos y (show (0 : Int) < 3 by omega)
        omega
      clear hrep hinv hall hgm hbel hb0 HI hadl
      rcases hym with hym | hym | hym
      · by_cases hw10 : want Q 10 = []
        · have HK := Lib.hid (kill_sq MM Q (s := 10) (.inl rfl) (k : Int) (by omega))
          have HINV2 := Lib.hid (HINV.out.killS 0 0 10 k)
          rw [HK.out] at HINV2
          go_wp2_with fail
          refine (kill_calls 0 0 10 k _ HREPA.out (HINV.out.mono (by omega))).mono ?_
          rw [HK.out]
          rintro e wb ⟨wk, rfl, _, ⟨⟨LB, hr⟩, hf⟩⟩
          have HGB := Lib.hid (HGM.out.fr hf)
          have HREPB := Lib.hid hr
          have HBB := Lib.hid (HBELA.out.trans hf.bel)
          clear hr hf
          obtain ⟨As, cs, hMs, q1, q2, _, _⟩ := Rw.form (HGB.out.row 10 (.inl rfl))
          have HMs := Lib.hid hMs
          have HRWS := Lib.hid ((HGB.out.below ((Below.refl _ _).alloc (Nat.le_refl _) (.cells #[.int .i64 k] 2))).row 10 (.inl rfl))
          have hnub := nub (HGB.out.below ((Below.refl _ _).alloc (Nat.le_refl _) (.cells #[.int .i64 k] 2))) (s := 10) (.inl rfl)
          have HBT := Lib.hid (HGB.out.below ((Below.refl _ _).alloc (Nat.le_refl _) (.cells #[.int .i64 k] 2))).bt
          have HMV := Lib.hid (HGB.out.below ((Below.refl _ _).alloc (Nat.le_refl _) (.cells #[.int .i64 k] 2))).mp
          have hwl : (want Q 10).length ≤ Q.length := by unfold want; rw [List.length_map]; exact List.length_filter_le _ _
          have HNUB := Lib.hid hnub
          have HNS := Lib.hid (And.intro hMs hwl)
          clear hnub
          rw [hMs] at HRWS
          obtain ⟨ns, hns⟩ : ∃ ns, (want Q 10).length = ns := ⟨_, rfl⟩
          rw [hns] at HMs HRWS q1 hwl
          have hns0 : ns = 0 := by rw [← hns, hw10]; rfl
          subst hns0
          have HNN := Lib.hid hns
          clear hns hMs
          go_wp2_with (first
            | (at_lookup; go_loud (refine wpList_look (by rfl) _ _ rfl bm k M rfl HGB.out.mp 10 (by omega) rfl ?_; rw [HMs.out]))
            | (at_builtin; go_loud (refine wpList_append_rw _ rfl _ _ 44 rfl 2 i2 (.int .i64 0) 1 8 Try.underlying44 hi2 hz0 hz1 hz2 rfl (by omega) _ _ _ rfl HRWS.out _ 1 1 [.int .i64 k] rfl rfl (cell_first wb _ 2) (fun h => by cases h) (by intro u hu; simp at hu; subst hu; rfl) (by unfold maxLen; omega) (by omega) ?_; intro v' w3 hr3 hg3 ho3 hb3))
            | (at_mapUpdate; go_loud (refine wpList_put (by rfl) _ _ _ rfl bm k M rfl (HMV.out.kept (hg3.block bm (by obtain ⟨es, clock, hb⟩ := HBT.out; exact (Array.getElem?_eq_some_iff.1 hb).1) (by rw [← HMs.out]; exact fun e => HNUB.out e.symm))) (by unfold maxLen; omega) 10 (by omega) rfl _ rfl ?_; intro w4 hm4 hg4)))
          go_roundw
          case rel => exact ⟨k + 1, addQ Q 10 k, updI M 10 v', by omega, by go_num, Lib.hid (fi_next (.inl rfl) (fun h => h.2 hw10) HA3.out HLEN.out ⟨_, HREPB.out⟩ HINV2.out HGB.out HBB.out (by rw [HNN.out]; exact hr3) (by rw [HMs.out]; exact hg3) (by rw [HMs.out]; exact ho3) hm4 hg4)⟩
          case measure => simp [intOf]; omega
        · have HK := Lib.hid (kill_sq MM Q (s := 10) (.inl rfl) (k : Int) (by omega))
          have HINV2 := Lib.hid (HINV.out.killS 0 0 10 k)
          rw [HK.out] at HINV2
          go_wp2_with fail
          refine (kill_calls 0 0 10 k _ HREPA.out (HINV.out.mono (by omega))).mono ?_
          rw [HK.out]
          rintro e wb ⟨wk, rfl, _, ⟨⟨LB, hr⟩, hf⟩⟩
          have HGB := Lib.hid (HGM.out.fr hf)
          have HREPB := Lib.hid hr
          have HBB := Lib.hid (HBELA.out.trans hf.bel)
          clear hr hf
          obtain ⟨As, cs, hMs, q1, q2, _, _⟩ := Rw.form (HGB.out.row 10 (.inl rfl))
          have HMs := Lib.hid hMs
          have hpos : 0 < (want Q 10).length := List.length_pos_iff.2 hw10
          obtain ⟨ns, hns⟩ : ∃ ns, (want Q 10).length = ns := ⟨_, rfl⟩
          rw [hns] at HMs hpos
          have hnz : ((ns : Int) == 0) = false := by simp; omega
          have HAQ : Hid (addQ Q 10 k = Q) := Lib.hid (by unfold addQ; rw [if_pos ⟨rfl, hw10⟩])
          clear hns hMs
          go_wp2_with (first
            | (at_lookup; go_loud (refine wpList_look (by rfl) _ _ rfl bm k M rfl HGB.out.mp 10 (by omega) rfl ?_; rw [HMs.out])))
          go_roundw
          case rel => exact ⟨k + 1, Q, M, by omega, by go_num, Lib.hid ⟨⟨_, by rw [← HAQ.out]; exact HREPB.out⟩, by rw [← HAQ.out]; exact HINV2.out, HA3.out, by have := HLEN.out; omega, HGB.out.up, HBB.out⟩⟩
          case measure => simp [intOf]; omega
      · have HK := Lib.hid (kill_sq MM Q (s := 41) (.inr (.inl rfl)) (k : Int) (by omega))
        have HINV2 := Lib.hid (HINV.out.killS 0 0 41 k)
        rw [HK.out] at HINV2
        go_wp2_with fail
        refine (kill_calls 0 0 41 k _ HREPA.out (HINV.out.mono (by omega))).mono ?_
        rw [HK.out]
        rintro e wb ⟨wk, rfl, _, ⟨⟨LB, hr⟩, hf⟩⟩
        have HGB := Lib.hid (HGM.out.fr hf)
        have HREPB := Lib.hid hr
        have HBB := Lib.hid (HBELA.out.trans hf.bel)
        clear hr hf
        obtain ⟨As, cs, hMs, q1, q2, _, _⟩ := Rw.form (HGB.out.row 41 (.inr (.inl rfl)))
        have HMs := Lib.hid hMs
        have HRWS := Lib.hid ((HGB.out.below ((Below.refl _ _).alloc (Nat.le_refl _) (.cells #[.int .i64 k] 2))).row 41 (.inr (.inl rfl)))
        have hnub := nub (HGB.out.below ((Below.refl _ _).alloc (Nat.le_refl _) (.cells #[.int .i64 k] 2))) (s := 41) (.inr (.inl rfl))
        have HBT := Lib.hid (HGB.out.below ((Below.refl _ _).alloc (Nat.le_refl _) (.cells #[.int .i64 k] 2))).bt
        have HMV := Lib.hid (HGB.out.below ((Below.refl _ _).alloc (Nat.le_refl _) (.cells #[.int .i64 k] 2))).mp
        have hwl : (want Q 41).length ≤ Q.length := by unfold want; rw [List.length_map]; exact List.length_filter_le _ _
        have HNUB := Lib.hid hnub
        have HNS := Lib.hid (And.intro hMs hwl)
        clear hnub
        rw [hMs] at HRWS
        obtain ⟨ns, hns⟩ : ∃ ns, (want Q 41).length = ns := ⟨_, rfl⟩
        rw [hns] at HMs HRWS q1 hwl
        have HNN := Lib.hid hns
        clear hns hMs
        go_wp2_with (first
          | (at_lookup; go_loud (refine wpList_look (by rfl) _ _ rfl bm k M rfl HGB.out.mp 41 (by omega) rfl ?_; rw [HMs.out]))
          | (at_builtin; go_loud (refine wpList_append_rw _ rfl _ _ 44 rfl 2 i2 (.int .i64 0) 1 8 Try.underlying44 hi2 hz0 hz1 hz2 rfl (by omega) _ _ _ rfl HRWS.out _ 1 1 [.int .i64 k] rfl rfl (cell_first wb _ 2) (fun h => by cases h) (by intro u hu; simp at hu; subst hu; rfl) (by unfold maxLen; omega) (by omega) ?_; intro v' w3 hr3 hg3 ho3 hb3))
          | (at_mapUpdate; go_loud (refine wpList_put (by rfl) _ _ _ rfl bm k M rfl (HMV.out.kept (hg3.block bm (by obtain ⟨es, clock, hb⟩ := HBT.out; exact (Array.getElem?_eq_some_iff.1 hb).1) (by rw [← HMs.out]; exact fun e => HNUB.out e.symm))) (by unfold maxLen; omega) 41 (by omega) rfl _ rfl ?_; intro w4 hm4 hg4)))
        go_roundw
        case rel => exact ⟨k + 1, addQ Q 41 k, updI M 41 v', by omega, by go_num, Lib.hid (fi_next (.inr (.inl rfl)) (fun h => absurd h.1 (by omega)) HA3.out HLEN.out ⟨_, HREPB.out⟩ HINV2.out HGB.out HBB.out (by rw [HNN.out]; exact hr3) (by rw [HMs.out]; exact hg3) (by rw [HMs.out]; exact ho3) hm4 hg4)⟩
        case measure => simp [intOf]; omega
      · have HK := Lib.hid (kill_sq MM Q (s := 50) (.inr (.inr rfl)) (k : Int) (by omega))
        have HINV2 := Lib.hid (HINV.out.killS 0 0 50 k)
        rw [HK.out] at HINV2
        go_wp2_with fail
        refine (kill_calls 0 0 50 k _ HREPA.out (HINV.out.mono (by omega))).mono ?_
        rw [HK.out]
        rintro e wb ⟨wk, rfl, _, ⟨⟨LB, hr⟩, hf⟩⟩
        have HGB := Lib.hid (HGM.out.fr hf)
        have HREPB := Lib.hid hr
        have HBB := Lib.hid (HBELA.out.trans hf.bel)
        clear hr hf
        obtain ⟨As, cs, hMs, q1, q2, _, _⟩ := Rw.form (HGB.out.row 50 (.inr (.inr rfl)))
        have HMs := Lib.hid hMs
        have HRWS := Lib.hid ((HGB.out.below ((Below.refl _ _).alloc (Nat.le_refl _) (.cells #[.int .i64 k] 2))).row 50 (.inr (.inr rfl)))
        have hnub := nub (HGB.out.below ((Below.refl _ _).alloc (Nat.le_refl _) (.cells #[.int .i64 k] 2))) (s := 50) (.inr (.inr rfl))
        have HBT := Lib.hid (HGB.out.below ((Below.refl _ _).alloc (Nat.le_refl _) (.cells #[.int .i64 k] 2))).bt
        have HMV := Lib.hid (HGB.out.below ((Below.refl _ _).alloc (Nat.le_refl _) (.cells #[.int .i64 k] 2))).mp
        have hwl : (want Q 50).length ≤ Q.length := by unfold want; rw [List.length_map]; exact List.length_filter_le _ _
        have HNUB := Lib.hid hnub
        have HNS := Lib.hid (And.intro hMs hwl)
        clear hnub
        rw [hMs] at HRWS
        obtain ⟨ns, hns⟩ : ∃ ns, (want Q 50).length = ns := ⟨_, rfl⟩
        rw [hns] at HMs HRWS q1 hwl
        have HNN := Lib.hid hns
        clear hns hMs
        go_wp2_with (first
          | (at_lookup; go_loud (refine wpList_look (by rfl) _ _ rfl bm k M rfl HGB.out.mp 50 (by omega) rfl ?_; rw [HMs.out]))
          | (at_builtin; go_loud (refine wpList_append_rw _ rfl _ _ 44 rfl 2 i2 (.int .i64 0) 1 8 Try.underlying44 hi2 hz0 hz1 hz2 rfl (by omega) _ _ _ rfl HRWS.out _ 1 1 [.int .i64 k] rfl rfl (cell_first wb _ 2) (fun h => by cases h) (by intro u hu; simp at hu; subst hu; rfl) (by unfold maxLen; omega) (by omega) ?_; intro v' w3 hr3 hg3 ho3 hb3))
          | (at_mapUpdate; go_loud (refine wpList_put (by rfl) _ _ _ rfl bm k M rfl (HMV.out.kept (hg3.block bm (by obtain ⟨es, clock, hb⟩ := HBT.out; exact (Array.getElem?_eq_some_iff.1 hb).1) (by rw [← HMs.out]; exact fun e => HNUB.out e.symm))) (by unfold maxLen; omega) 50 (by omega) rfl _ rfl ?_; intro w4 hm4 hg4)))
        go_roundw
        case rel => exact ⟨k + 1, addQ Q 50 k, updI M 50 v', by omega, by go_num, Lib.hid (fi_next (.inr (.inr rfl)) (fun h => absurd h.1 (by omega)) HA3.out HLEN.out ⟨_, HREPB.out⟩ HINV2.out HGB.out HBB.out (by rw [HNN.out]; exact hr3) (by rw [HMs.out]; exact hg3) (by rw [HMs.out]; exact ho3) hm4 hg4)⟩
        case measure => simp [intOf]; omega
    · obtain rfl : k = l.length := by omega
      have hge : ¬ ((l.length : Int) < (l.length : Int)) := by omega
      obtain ⟨⟨L, hrep⟩, hinv, hall, hlen, hgm, hbel⟩ := HI.out
      rw [hMM] at hrep hinv
      have HREP := Lib.hid hrep
      have HINV := Lib.hid (hinv.mono (show l.length ≤ 1000 by omega))
      have HALL := Lib.hid hall
      have HRM := Lib.hid hgm.rm
      have HBEL := Lib.hid hbel
      have HNX := Lib.hid (next_masked Q hall)
      clear hrep hinv hall hlen hgm hbel HI
      go_wp2_with fail
      refine (next_calls 0 _ HREP.out HINV.out).mono ?_
      rw [HNX.out]
      simp only [dv]
      rintro e wf ⟨rfl, ⟨⟨LF, hr⟩, hf⟩⟩
      have hb35 : Below wf.heap.size wf (wf.alloc (.cells #[.int .i64 0, .int .i64 0, .int .i64 0] 35)) := (Below.refl _ _).alloc (Nat.le_refl _) _
      have HRF := Lib.hid (hr.below hb35)
      have HRMF := Lib.hid ((HRM.out.fr hf).below hb35)
      have HBF := Lib.hid ((HBEL.out.trans hf.bel).alloc (HBEL.out.trans hf.bel).size (.cells #[.int .i64 0, .int .i64 0, .int .i64 0] 35))
      clear hr hf hb35
      go_wp2_with fail
      refine (mask_calls 0 2 0 _ HRF.out HINV.out (by omega)).mono ?_
      rw [mask_sq, newMask_z]
      rintro e wg ⟨rfl, ⟨⟨LG, hr⟩, hf⟩⟩
      have HING := Lib.hid (Inv.maskS HINV.out 0 2 0)
      rw [mask_sq, newMask_z] at HING
      have HL10 := Lib.hid (lq_start (w := w) (wg := wg) (bm := bm) (n := l.length) (M := M) ⟨LG, hr⟩ HING.out HALL.out (HRMF.out.fr hf) (HBF.out.trans hf.bel))
      clear hr hf HING
      go_wp2_with fail
      generalize wg.alloc (.cells #[.int .i64 10, .int .i64 41, .int .i64 50] 3) = wq10 at *
      generalize wg.heap.size = gb at *
      refine wp_loop_rounds 4 ?_
      rw [rounds_succ]
      have cb10 : wq10.cell? ⟨gb, 0, none⟩ = some (.int .i64 10) := by rw [cell_of_row _ _ _ _ _ _ HL10.out.row]; rfl
      obtain ⟨A10, c10, hM10, k10, kk10, _⟩ := rm_at HL10.out.rm (s := 10) (.inl rfl)
      have HM10 := Lib.hid hM10
      have HMF10 := Lib.hid hM10
      obtain ⟨n10, hn10⟩ : ∃ n, (want (Q) 10).length = n := ⟨_, rfl⟩
      rw [hn10] at HM10 k10
      have HN10 := Lib.hid hn10
      have hmx10 : (n10 : Int) ≤ 9223372036854775807 := by unfold maxLen at kk10; omega
      clear hM10 hn10 k10 kk10
      go_wp2_with (first
        | (at_lookup; go_loud (refine wpList_look (by rfl) _ _ rfl bm (l.length) (M) rfl HL10.out.rm.mp 10 (by omega) rfl ?_; rw [HM10.out])))
      go_loopw [124] (fun i wi => ∃ j : Nat, ∃ Qc : List Pd, j ≤ n10 ∧ i = .int .i64 j ∧ Hid (Lq w bm (l.length) gb 10 j (Q) (M) Qc wi)) (fun i _ => n10 - (intOf i).toNat)
      case atStart => exact ⟨0, (Q), Nat.zero_le _, rfl, HL10⟩
      case round =>
        obtain ⟨j, Q10, hj, rfl, HJ⟩ := hrel
        by_cases hjl : j < n10
        · obtain ⟨ad, hA, hsp, hcell⟩ := rm_cell HJ.out.rm (s := 10) (.inl rfl) HMF10.out (i := j) (by rw [HN10.out]; exact hjl)
          obtain ⟨d, Qd, hnx, hafter⟩ := lq_round HJ.out (.inl rfl) (by rw [HN10.out]; exact hjl)
          generalize (want (Q) 10).getD j 0 = x at *
          subst hA
          have hxx : (x != x) = false := by simp
          obtain ⟨⟨LJ, hrj⟩, hij, _⟩ := HJ.out
          have HNX := Lib.hid hnx
          have HAF := Lib.hid hafter
          have HRJ := Lib.hid hrj
          have HIJ := Lib.hid hij
          have hjl' : (j : Int) < (n10 : Int) := by omega
          clear hnx hafter hrj hij
          go_wp2_with fail
          refine (next_calls 0 _ HRJ.out HIJ.out).mono ?_
          rw [HNX.out]
          simp only [dv]
          rintro e wn ⟨rfl, ha⟩
          have HA := Lib.hid (HAF.out wn (.cells #[.int .i64 10, .int .i64 x, .int .i64 d] 35) ha)
          clear ha
          go_wp2
          go_roundw
          case rel => exact ⟨j + 1, Qd, by omega, by go_num, HA⟩
          case measure => simp [intOf]; omega
        · obtain rfl : j = n10 := by omega
          have hge10 : ¬ ((j : Int) < (j : Int)) := by omega
          have HX10 := Lib.hid HJ.out
          rw [← HN10.out] at HX10
          have HL41 := Lib.hid (lq_next HX10.out (.inr (.inl rfl)) (by omega) (by intro r hr hrl; unfold Ok3 at hr; omega))
          obtain ⟨wx10, hwx10⟩ : ∃ wx, wx = wr := ⟨_, rfl⟩
          rw [← hwx10] at HL41 ⊢
          clear HX10 HJ hwx10
          go_wp2_with fail
          rw [rounds_succ]
          have cb41 : wx10.cell? ⟨gb, 1, none⟩ = some (.int .i64 41) := by rw [cell_of_row _ _ _ _ _ _ HL41.out.row]; rfl
          obtain ⟨A41, c41, hM41, k41, kk41, _⟩ := rm_at HL41.out.rm (s := 41) (.inr (.inl rfl))
          have HM41 := Lib.hid hM41
          have HMF41 := Lib.hid hM41
          obtain ⟨n41, hn41⟩ : ∃ n, (want (Q) 41).length = n := ⟨_, rfl⟩
          rw [hn41] at HM41 k41
          have HN41 := Lib.hid hn41
          have hmx41 : (n41 : Int) ≤ 9223372036854775807 := by unfold maxLen at kk41; omega
          clear hM41 hn41 k41 kk41
          go_wp2_with (first
            | (at_lookup; go_loud (refine wpList_look (by rfl) _ _ rfl bm (l.length) (M) rfl HL41.out.rm.mp 41 (by omega) rfl ?_; rw [HM41.out])))
          go_loopw [124] (fun i wi => ∃ j : Nat, ∃ Qc : List Pd, j ≤ n41 ∧ i = .int .i64 j ∧ Hid (Lq w bm (l.length) gb 41 j (Q) (M) Qc wi)) (fun i _ => n41 - (intOf i).toNat)
          case atStart => exact ⟨0, (Q10), Nat.zero_le _, rfl, HL41⟩
          case round =>
            obtain ⟨j, Q41, hj, rfl, HJ⟩ := hrel
            by_cases hjl : j < n41
            · obtain ⟨ad, hA, hsp, hcell⟩ := rm_cell HJ.out.rm (s := 41) (.inr (.inl rfl)) HMF41.out (i := j) (by rw [HN41.out]; exact hjl)
              obtain ⟨d, Qd, hnx, hafter⟩ := lq_round HJ.out (.inr (.inl rfl)) (by rw [HN41.out]; exact hjl)
              generalize (want (Q) 41).getD j 0 = x at *
              subst hA
              have hxx : (x != x) = false := by simp
              obtain ⟨⟨LJ, hrj⟩, hij, _⟩ := HJ.out
              have HNX := Lib.hid hnx
              have HAF := Lib.hid hafter
              have HRJ := Lib.hid hrj
              have HIJ := Lib.hid hij
              have hjl' : (j : Int) < (n41 : Int) := by omega
              clear hnx hafter hrj hij
              go_wp2_with fail
              refine (next_calls 0 _ HRJ.out HIJ.out).mono ?_
              rw [HNX.out]
              simp only [dv]
              rintro e wn ⟨rfl, ha⟩
              have HA := Lib.hid (HAF.out wn (.cells #[.int .i64 41, .int .i64 x, .int .i64 d] 35) ha)
              clear ha
              go_wp2
              go_roundw
              case rel => exact ⟨j + 1, Qd, by omega, by go_num, HA⟩
              case measure => simp [intOf]; omega
            · obtain rfl : j = n41 := by omega
              have hge41 : ¬ ((j : Int) < (j : Int)) := by omega
              have HX41 := Lib.hid HJ.out
              rw [← HN41.out] at HX41
              have HL50 := Lib.hid (lq_next HX41.out (.inr (.inr rfl)) (by omega) (by intro r hr hrl; unfold Ok3 at hr; omega))
              obtain ⟨wx41, hwx41⟩ : ∃ wx, wx = wr := ⟨_, rfl⟩
              rw [← hwx41] at HL50 ⊢
              clear HX41 HJ hwx41
              go_wp2_with fail
              rw [rounds_succ]
              have cb50 : wx41.cell? ⟨gb, 2, none⟩ = some (.int .i64 50) := by rw [cell_of_row _ _ _ _ _ _ HL50.out.row]; rfl
              obtain ⟨A50, c50, hM50, k50, kk50, _⟩ := rm_at HL50.out.rm (s := 50) (.inr (.inr rfl))
              have HM50 := Lib.hid hM50
              have HMF50 := Lib.hid hM50
              obtain ⟨n50, hn50⟩ : ∃ n, (want (Q) 50).length = n := ⟨_, rfl⟩
              rw [hn50] at HM50 k50
              have HN50 := Lib.hid hn50
              have hmx50 : (n50 : Int) ≤ 9223372036854775807 := by unfold maxLen at kk50; omega
              clear hM50 hn50 k50 kk50
              go_wp2_with (first
                | (at_lookup; go_loud (refine wpList_look (by rfl) _ _ rfl bm (l.length) (M) rfl HL50.out.rm.mp 50 (by omega) rfl ?_; rw [HM50.out])))
              go_loopw [124] (fun i wi => ∃ j : Nat, ∃ Qc : List Pd, j ≤ n50 ∧ i = .int .i64 j ∧ Hid (Lq w bm (l.length) gb 50 j (Q) (M) Qc wi)) (fun i _ => n50 - (intOf i).toNat)
              case atStart => exact ⟨0, (Q41), Nat.zero_le _, rfl, HL50⟩
              case round =>
                obtain ⟨j, Q50, hj, rfl, HJ⟩ := hrel
                by_cases hjl : j < n50
                · obtain ⟨ad, hA, hsp, hcell⟩ := rm_cell HJ.out.rm (s := 50) (.inr (.inr rfl)) HMF50.out (i := j) (by rw [HN50.out]; exact hjl)
                  obtain ⟨d, Qd, hnx, hafter⟩ := lq_round HJ.out (.inr (.inr rfl)) (by rw [HN50.out]; exact hjl)
                  generalize (want (Q) 50).getD j 0 = x at *
                  subst hA
                  have hxx : (x != x) = false := by simp
                  obtain ⟨⟨LJ, hrj⟩, hij, _⟩ := HJ.out
                  have HNX := Lib.hid hnx
                  have HAF := Lib.hid hafter
                  have HRJ := Lib.hid hrj
                  have HIJ := Lib.hid hij
                  have hjl' : (j : Int) < (n50 : Int) := by omega
                  clear hnx hafter hrj hij
                  go_wp2_with fail
                  refine (next_calls 0 _ HRJ.out HIJ.out).mono ?_
                  rw [HNX.out]
                  simp only [dv]
                  rintro e wn ⟨rfl, ha⟩
                  have HA := Lib.hid (HAF.out wn (.cells #[.int .i64 50, .int .i64 x, .int .i64 d] 35) ha)
                  clear ha
                  go_wp2
                  go_roundw
                  case rel => exact ⟨j + 1, Qd, by omega, by go_num, HA⟩
                  case measure => simp [intOf]; omega
                · obtain rfl : j = n50 := by omega
                  have hge50 : ¬ ((j : Int) < (j : Int)) := by omega
                  have HX50 := Lib.hid HJ.out
                  rw [← HN50.out] at HX50
                  have hq0 := lq_end HX50.out
                  obtain ⟨⟨LZ, hrz⟩, hiz, _, _, hbz, _, _, _, _⟩ := HX50.out
                  subst hq0
                  have HRZ := Lib.hid hrz
                  have HIZ := Lib.hid hiz
                  have HBZ := Lib.hid hbz
                  clear hrz hiz hbz HX50 HJ
                  go_wp2_with fail
                  rw [rounds_succ]
                  go_wp2_with fail
                  refine (next_calls 0 _ HRZ.out HIZ.out).mono ?_
                  rw [next_nosq]
                  simp only [dv]
                  rintro e wy ⟨rfl, ⟨_, hf⟩⟩
                  have HBY := Lib.hid (HBZ.out.trans hf.bel)
                  clear hf
                  go_wp2_with fail
                  refine (awake_calls _).mono ?_
                  rintro e wz ⟨rfl, hb⟩
                  have HZ := Lib.hid (below_then' (HBY.out.alloc HBY.out.size _) hb)
                  clear hb
                  go_wp2
                  go_ret
                  exact ⟨rfl, HZ.out⟩
end Go.Proofs.Ytbpihfphoniclaa
