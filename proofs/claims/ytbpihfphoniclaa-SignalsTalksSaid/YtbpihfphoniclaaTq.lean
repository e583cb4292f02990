/- The reference's Kill where no thread is woken. -/
import Derived.Test.YtbpihfphoniclaaqTc
import Derived.Deep.AppendLies
namespace Go.Proofs.Ytbpihfphoniclaa
open Go.RowKit
set_option linter.unusedVariables false
set_option maxHeartbeats 4000000 in
set_option maxRecDepth 100000 in
theorem rkill_proc_ign {t : Nat} {L : RLay} {S : St} (p s v : Int) (w : World) (h : RRepL w t L S) (hin : Inv S 1000) (hp : isPr p = true) (hs : ¬ s < 1) (hs2 : ¬ 56 < s) (hl : threads S p ≠ []) (hch : choose S (threads S p) s = -1)
    (hig : ignored S p.toNat s = true) :
    Calls Try.prog 49 #[.pointer (some ⟨t, 0, none⟩), .int .i64 (-1), .int .i64 p, .int .i64 s, .int .i64 v] w fun e w' =>
      RKillPost t (([], 0), opposite S p.toNat s) w e w' := by
  obtain ⟨p0, p1⟩ := isPr_iff.1 hp
  have HP := Lib.hid hp
  have HSG := Lib.hid (sg_true hs hs2)
  have H := Lib.hid (And.intro h hin)
  have htl := h.lt
  have HLN := Lib.hid hin.len
  have HBIT : Hid (∀ W : World, Calls Try.prog 69 #[.int .i64 s] W fun e w' => e = .returned (.int .u64 ((2 ^ (s - 1).toNat : Nat) : Int)) ∧ w' = W) := Lib.hid fun W => rbit_same s W (by omega) (by omega)
  have HIG : Hid (∀ (W : World) (L' : RLay) (S' : St), RRepL W t L' S' → S'.ac = S.ac → Calls Try.prog 67 #[.pointer (some ⟨t, 0, none⟩), .int .i64 p, .int .i64 s] W fun e w' => e = .returned (.bool (ignored S p.toNat s)) ∧ W = w') := Lib.hid fun W L' S' h' ha => by
    rw [← ignored_ac ha]
    exact rignored_calls p s W h' hp (by omega) (by omega)
  have HAS := rhas_calls p w h
  rw [has_true hl] at HAS
  have HAS := Lib.hid HAS
  have HRC := rreceiver_calls p s w h hin (by omega) (by omega)
  rw [hch] at HRC
  have HRC := Lib.hid HRC
  rw [hig] at HIG
  have HPUT : Hid (∀ (W W2 : World) (L' : RLay) (S' : St) (v' : Value) (l' : List Pd), RRepL W t L' S' → w.grownBy W (some t) → Fresh W v' l' W2 → RAfter t { S' with ls := upd S'.ls (256 + p.toNat) l' } w (W2.setCell ⟨t, 1792 + p.toNat * 58, none⟩ v')) := Lib.hid fun W W2 L' S' v' l' hr hg hf => by
    have := (hr.below hf.2.1).put_list (i := (256 + p.toNat)) (by omega) hf.1
    rw [show slotCell (256 + p.toNat) = 1792 + p.toNat * 58 by unfold slotCell; rw [if_neg (by omega)]; omega] at this
    exact ⟨⟨_, this⟩, hg.trans ((grown_below hf.2.1).trans (grown_set _ _ _ _))⟩
  clear h hin hp hl hig hch
  have HOP : Hid ((s = 18 → opposite S p.toNat s = forget S p.toNat 19) ∧ (s = 19 → opposite S p.toNat s = forget S p.toNat 18) ∧ (¬ s = 18 → ¬ s = 19 → opposite S p.toNat s = S)) := Lib.hid ⟨fun e => by unfold opposite; rw [if_pos e], fun e => by unfold opposite; rw [if_neg (by omega), if_pos e], fun e1 e2 => by unfold opposite; rw [if_neg e1, if_neg e2]⟩
  have HOA : Hid ((opposite S p.toNat s).ac = S.ac) := Lib.hid (opposite_ac _ _ _)
  have HOL : Hid (((opposite S p.toNat s).ls (256 + p.toNat)).length ≤ 1000) := Lib.hid (by
    have hlen : ∀ q, ((forget S p.toNat q).ls (256 + p.toNat)).length ≤ 1000 := fun q => Nat.le_trans (forget_len _ _ _ _) (HLN.out _ (by omega))
    unfold opposite
    split
    · exact hlen _
    · split
      · exact hlen _
      · exact HLN.out _ (by omega))
  generalize opposite S p.toNat s = S1 at *
  go_enter Try.func49, Try.ntmps49
  go_wp2_with (first
    | (go_at_call 64; refine (rprocess_calls p _).mono ?_; rw [HP.out]; rintro e w' ⟨rfl, rfl⟩)
    | (go_at_call 66; refine (rsignal_calls s _).mono ?_; rw [HSG.out]; rintro e w' ⟨rfl, rfl⟩)
    | (go_at_call 65; refine HAS.out.mono ?_; rintro e w' ⟨rfl, rfl⟩)
    | (go_at_call 70; refine HRC.out.mono ?_; rintro e w1 ⟨rfl, hb1⟩; have HB1 := Lib.hid hb1; clear hb1))
  (with_reducible refine wp_region_quiet_lit (by kernel_rfl) (by kernel_rfl) ?_)
  repeat (first
    | ((with_reducible refine wpQuiet_step (fun K hK => ?_)); have HK := Lib.hid hK; clear hK; go_simp; first
        | ((with_reducible refine HK.out _ ?_); clear HK K)
        | (apply Exists.intro; refine ⟨fun _ => ?_, HK.out _ ?_⟩; (go_at_call 69; exact Calls.quiet_of_same (HBIT.out _)); clear HK K)))
  refine wpQuiet_nil ?_
  intro _ hw'
  obtain ⟨nq, hw''⟩ := hw'
  subst hw''
  have HB2 := Lib.hid (below_drewN HB1.out nq)
  have hr2 := H.out.1.below HB2.out
  generalize w1.drewN nq = w2 at *
  have HR := Lib.hid hr2
  have HG := Lib.hid (grown_below (t := t) HB2.out)
  clear hr2
  have hs3 : s = 18 ∨ s = 19 ∨ (¬ s = 18 ∧ ¬ s = 19) := by omega
  obtain ⟨A2, c2, k3, f3, hls⟩ := slotP HR.out (show p.toNat < 64 by omega)
  have HLS := Lib.hid hls
  have ht3 := HR.out.lt
  clear hls
  rcases hs3 with e18 | e19 | ⟨n18, n19⟩
  all_goals
    first
      | (have HO := Lib.hid (HOP.out.1 e18); have b18 : (s == 18) = true := by simpa using e18
         have b19 : (s == 19) = false := by simp; omega
         clear e18)
      | (have HO := Lib.hid (HOP.out.2.1 e19); have b19 : (s == 19) = true := by simpa using e19
         have b18 : (s == 18) = false := by simp; omega
         clear e19)
      | (have HO := Lib.hid (HOP.out.2.2 n18 n19); have b18 : (s == 18) = false := by simpa using n18
         have b19 : (s == 19) = false := by simpa using n19
         clear n18 n19)
    try (have HX : S1 = S := HO.out; subst HX)
    go_wp2_with (first
      | (first | (go_at_call 67; refine (HIG.out _ _ _ HR.out rfl).mono ?_; rintro e w' ⟨rfl, rfl⟩) | (go_at_call 67; refine (HIG.out _ _ _ HR.out HOA.out).mono ?_; rintro e w' ⟨rfl, rfl⟩))
      | (go_at_call 68; refine (rdiscard_calls p _ _ HR.out HLN.out p0 p1).mono ?_; rw [← HO.out]; rintro e w3 ⟨rfl, ⟨L3, h3⟩, hg3⟩; replace HG := Lib.hid (HG.out.trans hg3); replace HR := Lib.hid h3; clear h3 hg3 k3 f3 HLS ht3; obtain ⟨A2, c2, k3, f3, hls⟩ := slotP HR.out (show p.toNat < 64 by omega); have HLS := Lib.hid hls; have ht3 := HR.out.lt; clear hls))
    go_ret2
    exact ⟨_, rfl, wk_emptyg _ _ (by simp [World.setCell]), RAfter.alloc ⟨⟨_, HR.out⟩, HG.out⟩ _⟩
set_option maxHeartbeats 4000000 in
set_option maxRecDepth 100000 in
theorem rkill_proc_again {t : Nat} {L : RLay} {S : St} (p s v : Int) (w : World) (h : RRepL w t L S) (hin : Inv S 1000) (hp : isPr p = true) (hs : ¬ s < 1) (hs2 : ¬ 56 < s) (hl : threads S p ≠ []) (hch : choose S (threads S p) s = -1)
    (hig : ignored S p.toNat s = false) (h41 : 41 ≤ s) (hfull : 64 ≤ queued (S.ls (256 + p.toNat))) :
    Calls Try.prog 49 #[.pointer (some ⟨t, 0, none⟩), .int .i64 (-1), .int .i64 p, .int .i64 s, .int .i64 v] w fun e w' =>
      RKillPost t (([], 2), S) w e w' := by
  obtain ⟨p0, p1⟩ := isPr_iff.1 hp
  have HP := Lib.hid hp
  have HSG := Lib.hid (sg_true hs hs2)
  have H := Lib.hid (And.intro h hin)
  have htl := h.lt
  have HLN := Lib.hid hin.len
  have HBIT : Hid (∀ W : World, Calls Try.prog 69 #[.int .i64 s] W fun e w' => e = .returned (.int .u64 ((2 ^ (s - 1).toNat : Nat) : Int)) ∧ w' = W) := Lib.hid fun W => rbit_same s W (by omega) (by omega)
  have HIG : Hid (∀ (W : World) (L' : RLay) (S' : St), RRepL W t L' S' → S'.ac = S.ac → Calls Try.prog 67 #[.pointer (some ⟨t, 0, none⟩), .int .i64 p, .int .i64 s] W fun e w' => e = .returned (.bool (ignored S p.toNat s)) ∧ W = w') := Lib.hid fun W L' S' h' ha => by
    rw [← ignored_ac ha]
    exact rignored_calls p s W h' hp (by omega) (by omega)
  have HAS := rhas_calls p w h
  rw [has_true hl] at HAS
  have HAS := Lib.hid HAS
  have HRC := rreceiver_calls p s w h hin (by omega) (by omega)
  rw [hch] at HRC
  have HRC := Lib.hid HRC
  rw [hig] at HIG
  have HQ : Hid (decide ((64 : Int) ≤ (queued (S.ls (256 + p.toNat)) : Int)) = true) := Lib.hid (decide_eq_true (by omega))
  clear hfull
  have HPUT : Hid (∀ (W W2 : World) (L' : RLay) (S' : St) (v' : Value) (l' : List Pd), RRepL W t L' S' → w.grownBy W (some t) → Fresh W v' l' W2 → RAfter t { S' with ls := upd S'.ls (256 + p.toNat) l' } w (W2.setCell ⟨t, 1792 + p.toNat * 58, none⟩ v')) := Lib.hid fun W W2 L' S' v' l' hr hg hf => by
    have := (hr.below hf.2.1).put_list (i := (256 + p.toNat)) (by omega) hf.1
    rw [show slotCell (256 + p.toNat) = 1792 + p.toNat * 58 by unfold slotCell; rw [if_neg (by omega)]; omega] at this
    exact ⟨⟨_, this⟩, hg.trans ((grown_below hf.2.1).trans (grown_set _ _ _ _))⟩
  clear h hin hp hl hig hch
  have b18 : (s == 18) = false := by simp; omega
  have b19 : (s == 19) = false := by simp; omega
  go_enter Try.func49, Try.ntmps49
  go_wp2_with (first
    | (go_at_call 64; refine (rprocess_calls p _).mono ?_; rw [HP.out]; rintro e w' ⟨rfl, rfl⟩)
    | (go_at_call 66; refine (rsignal_calls s _).mono ?_; rw [HSG.out]; rintro e w' ⟨rfl, rfl⟩)
    | (go_at_call 65; refine HAS.out.mono ?_; rintro e w' ⟨rfl, rfl⟩)
    | (go_at_call 70; refine HRC.out.mono ?_; rintro e w1 ⟨rfl, hb1⟩; have HB1 := Lib.hid hb1; clear hb1))
  (with_reducible refine wp_region_quiet_lit (by kernel_rfl) (by kernel_rfl) ?_)
  repeat (first
    | ((with_reducible refine wpQuiet_step (fun K hK => ?_)); have HK := Lib.hid hK; clear hK; go_simp; first
        | ((with_reducible refine HK.out _ ?_); clear HK K)
        | (apply Exists.intro; refine ⟨fun _ => ?_, HK.out _ ?_⟩; (go_at_call 69; exact Calls.quiet_of_same (HBIT.out _)); clear HK K)))
  refine wpQuiet_nil ?_
  intro _ hw'
  obtain ⟨nq, hw''⟩ := hw'
  subst hw''
  have HB2 := Lib.hid (below_drewN HB1.out nq)
  have hr2 := H.out.1.below HB2.out
  generalize w1.drewN nq = w2 at *
  have HR := Lib.hid hr2
  have HG := Lib.hid (grown_below (t := t) HB2.out)
  clear hr2
  obtain ⟨A2, c2, k3, f3, hls⟩ := slotP HR.out (show p.toNat < 64 by omega)
  have HLS := Lib.hid hls
  have ht3 := HR.out.lt
  clear hls
  go_wp2_with (first
    | (go_at_call 67; refine (HIG.out _ _ _ HR.out rfl).mono ?_; rintro e w' ⟨rfl, rfl⟩)
    | (go_at_call 71; refine (rqueued_calls _ (S.ls (256 + p.toNat)) _ HLS.out (HLN.out _ (by omega))).mono ?_; rintro e w3 ⟨rfl, hb3⟩; have hq := HQ.out; replace HG := Lib.hid (HG.out.trans (grown_below hb3)); replace HR := Lib.hid (HR.out.below hb3); clear hb3 k3 f3 HLS ht3; obtain ⟨A2, c2, k3, f3, hls⟩ := slotP HR.out (show p.toNat < 64 by omega); have HLS := Lib.hid hls; have ht3 := HR.out.lt; clear hls))
  go_ret2
  exact ⟨_, rfl, wk_nil _, ⟨_, HR.out⟩, HG.out⟩
set_option maxHeartbeats 4000000 in
set_option maxRecDepth 100000 in
theorem rkill_proc_room {t : Nat} {L : RLay} {S : St} (p s v : Int) (w : World) (h : RRepL w t L S) (hin : Inv S 1000) (hp : isPr p = true) (hs : ¬ s < 1) (hs2 : ¬ 56 < s) (hl : threads S p ≠ []) (hch : choose S (threads S p) s = -1)
    (hig : ignored S p.toNat s = false) (h41 : 41 ≤ s) (hfull : ¬ 64 ≤ queued (S.ls (256 + p.toNat))) :
    Calls Try.prog 49 #[.pointer (some ⟨t, 0, none⟩), .int .i64 (-1), .int .i64 p, .int .i64 s, .int .i64 v] w fun e w' =>
      RKillPost t (([], 0), { opposite S p.toNat s with ls := upd (opposite S p.toNat s).ls (256 + p.toNat) ((opposite S p.toNat s).ls (256 + p.toNat) ++ [(s, v)]) }) w e w' := by
  obtain ⟨p0, p1⟩ := isPr_iff.1 hp
  have HP := Lib.hid hp
  have HSG := Lib.hid (sg_true hs hs2)
  have H := Lib.hid (And.intro h hin)
  have htl := h.lt
  have HLN := Lib.hid hin.len
  have HBIT : Hid (∀ W : World, Calls Try.prog 69 #[.int .i64 s] W fun e w' => e = .returned (.int .u64 ((2 ^ (s - 1).toNat : Nat) : Int)) ∧ w' = W) := Lib.hid fun W => rbit_same s W (by omega) (by omega)
  have HIG : Hid (∀ (W : World) (L' : RLay) (S' : St), RRepL W t L' S' → S'.ac = S.ac → Calls Try.prog 67 #[.pointer (some ⟨t, 0, none⟩), .int .i64 p, .int .i64 s] W fun e w' => e = .returned (.bool (ignored S p.toNat s)) ∧ W = w') := Lib.hid fun W L' S' h' ha => by
    rw [← ignored_ac ha]
    exact rignored_calls p s W h' hp (by omega) (by omega)
  have HAS := rhas_calls p w h
  rw [has_true hl] at HAS
  have HAS := Lib.hid HAS
  have HRC := rreceiver_calls p s w h hin (by omega) (by omega)
  rw [hch] at HRC
  have HRC := Lib.hid HRC
  rw [hig] at HIG
  have HQ : Hid (decide ((64 : Int) ≤ (queued (S.ls (256 + p.toNat)) : Int)) = false) := Lib.hid (decide_eq_false (by omega))
  clear hfull
  have HPUT : Hid (∀ (W W2 : World) (L' : RLay) (S' : St) (v' : Value) (l' : List Pd), RRepL W t L' S' → w.grownBy W (some t) → Fresh W v' l' W2 → RAfter t { S' with ls := upd S'.ls (256 + p.toNat) l' } w (W2.setCell ⟨t, 1792 + p.toNat * 58, none⟩ v')) := Lib.hid fun W W2 L' S' v' l' hr hg hf => by
    have := (hr.below hf.2.1).put_list (i := (256 + p.toNat)) (by omega) hf.1
    rw [show slotCell (256 + p.toNat) = 1792 + p.toNat * 58 by unfold slotCell; rw [if_neg (by omega)]; omega] at this
    exact ⟨⟨_, this⟩, hg.trans ((grown_below hf.2.1).trans (grown_set _ _ _ _))⟩
  clear h hin hp hl hig hch
  rw [show opposite S p.toNat s = S by unfold opposite; rw [if_neg (by omega), if_neg (by omega)]]
  have b18 : (s == 18) = false := by simp; omega
  have b19 : (s == 19) = false := by simp; omega
  go_enter Try.func49, Try.ntmps49
  go_wp2_with (first
    | (go_at_call 64; refine (rprocess_calls p _).mono ?_; rw [HP.out]; rintro e w' ⟨rfl, rfl⟩)
    | (go_at_call 66; refine (rsignal_calls s _).mono ?_; rw [HSG.out]; rintro e w' ⟨rfl, rfl⟩)
    | (go_at_call 65; refine HAS.out.mono ?_; rintro e w' ⟨rfl, rfl⟩)
    | (go_at_call 70; refine HRC.out.mono ?_; rintro e w1 ⟨rfl, hb1⟩; have HB1 := Lib.hid hb1; clear hb1))
  (with_reducible refine wp_region_quiet_lit (by kernel_rfl) (by kernel_rfl) ?_)
  repeat (first
    | ((with_reducible refine wpQuiet_step (fun K hK => ?_)); have HK := Lib.hid hK; clear hK; go_simp; first
        | ((with_reducible refine HK.out _ ?_); clear HK K)
        | (apply Exists.intro; refine ⟨fun _ => ?_, HK.out _ ?_⟩; (go_at_call 69; exact Calls.quiet_of_same (HBIT.out _)); clear HK K)))
  refine wpQuiet_nil ?_
  intro _ hw'
  obtain ⟨nq, hw''⟩ := hw'
  subst hw''
  have HB2 := Lib.hid (below_drewN HB1.out nq)
  have hr2 := H.out.1.below HB2.out
  generalize w1.drewN nq = w2 at *
  have HR := Lib.hid hr2
  have HG := Lib.hid (grown_below (t := t) HB2.out)
  clear hr2
  obtain ⟨A2, c2, k3, f3, hls⟩ := slotP HR.out (show p.toNat < 64 by omega)
  have HLS := Lib.hid hls
  have ht3 := HR.out.lt
  clear hls
  obtain ⟨i2, hi2, hz0, hz1, hz2⟩ := info_parts (P := Try.prog) (e := 127) (z := .agg #[.int .i64 0, .int .i64 0]) (size := 2) (bytes := 16) (by kernel_rfl)
  have hl1000 : (S.ls (256 + p.toNat)).length ≤ 1000 := (HLN.out _ (by omega))
  go_wp2_with (first
    | (go_at_call 67; refine (HIG.out _ _ _ HR.out rfl).mono ?_; rintro e w' ⟨rfl, rfl⟩)
    | (go_at_call 71; refine (rqueued_calls _ (S.ls (256 + p.toNat)) _ HLS.out (HLN.out _ (by omega))).mono ?_; rintro e w3 ⟨rfl, hb3⟩; have hq := HQ.out; replace HG := Lib.hid (HG.out.trans (grown_below hb3)); replace HR := Lib.hid (HR.out.below hb3); clear hb3 k3 f3 HLS ht3; obtain ⟨A2, c2, k3, f3, hls⟩ := slotP HR.out (show p.toNat < 64 by omega); have HLS := Lib.hid hls; have ht3 := HR.out.lt; clear hls)
    | (at_builtin; go_loud (refine wpList_append_rw _ rfl (.tmp 178) (.tmp 181) 103 rfl 127 i2 (.agg #[.int .i64 0, .int .i64 0]) 2 16 Try.underlying103 hi2 hz0 hz1 hz2 rfl (by omega) _ 0 [] rfl (empty_rw _) _ _ _ (pcells (S.ls (256 + p.toNat))) rfl (pcells_len _) (src_cells (HLS.out.below ((Below.refl _ _).alloc (Nat.le_refl _) _))) (src_none HLS.out) (pcells_one _) (by unfold maxLen; omega) (by omega) ?_; intro v5 w5 hr5 hg5 ho5 _; have hF5 := first_append hr5 hg5 ho5; clear hr5 hg5 ho5; obtain ⟨A5, c5, rfl, _⟩ := hF5.1.at; have HF5 := Lib.hid hF5; have HLS5 := Lib.hid (Rw.below hF5.1 ((Below.refl _ _).alloc (Nat.le_refl _) (.cells #[.int .i64 s, .int .i64 v] 127))); clear hF5))
    | (at_builtin; go_loud (refine wpList_append_rw _ rfl (.tmp 182) (.tmp 186) 103 rfl 127 i2 (.agg #[.int .i64 0, .int .i64 0]) 2 16 Try.underlying103 hi2 hz0 hz1 hz2 rfl (by omega) _ _ _ rfl HLS5.out _ 1 1 [.int .i64 s, .int .i64 v] rfl rfl (two_first w5 _ _ 127) (fun h => by cases h) (by intro u hu; simp at hu; rcases hu with rfl | rfl <;> rfl) (by unfold maxLen; omega) (by omega) ?_; intro v6 w6 hr6 hg6 ho6 _; have hF6 := second_append HF5.out hr6 hg6 ho6; clear hr6 hg6 ho6; obtain ⟨A6, n6, c6, rfl⟩ := hF6.slice; have k6 := (hF6.2.1.cell (p := ⟨t, 1792 + p.toNat * 58, none⟩) ht3).trans k3; have f6 := (hF6.2.1.frozen (p := ⟨t, 1792 + p.toNat * 58, none⟩) ht3).trans f3; have HF6 := Lib.hid hF6; clear hF6)))
  go_ret2
  exact ⟨_, rfl, wk_emptyg _ _ (by simp [World.setCell]), RAfter.alloc (HPUT.out _ _ _ _ _ _ HR.out HG.out HF6.out) _⟩
set_option maxHeartbeats 4000000 in
set_option maxRecDepth 100000 in
theorem rkill_proc_had {t : Nat} {L : RLay} {S : St} (p s v : Int) (w : World) (h : RRepL w t L S) (hin : Inv S 1000) (hp : isPr p = true) (hs : ¬ s < 1) (hs2 : ¬ 56 < s) (hl : threads S p ≠ []) (hch : choose S (threads S p) s = -1)
    (hig : ignored S p.toNat s = false) (h41 : ¬ 41 ≤ s) (hpd : pends ((opposite S p.toNat s).ls (256 + p.toNat)) s = true) :
    Calls Try.prog 49 #[.pointer (some ⟨t, 0, none⟩), .int .i64 (-1), .int .i64 p, .int .i64 s, .int .i64 v] w fun e w' =>
      RKillPost t (([], 0), opposite S p.toNat s) w e w' := by
  obtain ⟨p0, p1⟩ := isPr_iff.1 hp
  have HP := Lib.hid hp
  have HSG := Lib.hid (sg_true hs hs2)
  have H := Lib.hid (And.intro h hin)
  have htl := h.lt
  have HLN := Lib.hid hin.len
  have HBIT : Hid (∀ W : World, Calls Try.prog 69 #[.int .i64 s] W fun e w' => e = .returned (.int .u64 ((2 ^ (s - 1).toNat : Nat) : Int)) ∧ w' = W) := Lib.hid fun W => rbit_same s W (by omega) (by omega)
  have HIG : Hid (∀ (W : World) (L' : RLay) (S' : St), RRepL W t L' S' → S'.ac = S.ac → Calls Try.prog 67 #[.pointer (some ⟨t, 0, none⟩), .int .i64 p, .int .i64 s] W fun e w' => e = .returned (.bool (ignored S p.toNat s)) ∧ W = w') := Lib.hid fun W L' S' h' ha => by
    rw [← ignored_ac ha]
    exact rignored_calls p s W h' hp (by omega) (by omega)
  have HAS := rhas_calls p w h
  rw [has_true hl] at HAS
  have HAS := Lib.hid HAS
  have HRC := rreceiver_calls p s w h hin (by omega) (by omega)
  rw [hch] at HRC
  have HRC := Lib.hid HRC
  rw [hig] at HIG
  have HPD := Lib.hid hpd
  clear hpd
  have HPUT : Hid (∀ (W W2 : World) (L' : RLay) (S' : St) (v' : Value) (l' : List Pd), RRepL W t L' S' → w.grownBy W (some t) → Fresh W v' l' W2 → RAfter t { S' with ls := upd S'.ls (256 + p.toNat) l' } w (W2.setCell ⟨t, 1792 + p.toNat * 58, none⟩ v')) := Lib.hid fun W W2 L' S' v' l' hr hg hf => by
    have := (hr.below hf.2.1).put_list (i := (256 + p.toNat)) (by omega) hf.1
    rw [show slotCell (256 + p.toNat) = 1792 + p.toNat * 58 by unfold slotCell; rw [if_neg (by omega)]; omega] at this
    exact ⟨⟨_, this⟩, hg.trans ((grown_below hf.2.1).trans (grown_set _ _ _ _))⟩
  clear h hin hp hl hig hch
  have HOP : Hid ((s = 18 → opposite S p.toNat s = forget S p.toNat 19) ∧ (s = 19 → opposite S p.toNat s = forget S p.toNat 18) ∧ (¬ s = 18 → ¬ s = 19 → opposite S p.toNat s = S)) := Lib.hid ⟨fun e => by unfold opposite; rw [if_pos e], fun e => by unfold opposite; rw [if_neg (by omega), if_pos e], fun e1 e2 => by unfold opposite; rw [if_neg e1, if_neg e2]⟩
  have HOA : Hid ((opposite S p.toNat s).ac = S.ac) := Lib.hid (opposite_ac _ _ _)
  have HOL : Hid (((opposite S p.toNat s).ls (256 + p.toNat)).length ≤ 1000) := Lib.hid (by
    have hlen : ∀ q, ((forget S p.toNat q).ls (256 + p.toNat)).length ≤ 1000 := fun q => Nat.le_trans (forget_len _ _ _ _) (HLN.out _ (by omega))
    unfold opposite
    split
    · exact hlen _
    · split
      · exact hlen _
      · exact HLN.out _ (by omega))
  generalize opposite S p.toNat s = S1 at *
  go_enter Try.func49, Try.ntmps49
  go_wp2_with (first
    | (go_at_call 64; refine (rprocess_calls p _).mono ?_; rw [HP.out]; rintro e w' ⟨rfl, rfl⟩)
    | (go_at_call 66; refine (rsignal_calls s _).mono ?_; rw [HSG.out]; rintro e w' ⟨rfl, rfl⟩)
    | (go_at_call 65; refine HAS.out.mono ?_; rintro e w' ⟨rfl, rfl⟩)
    | (go_at_call 70; refine HRC.out.mono ?_; rintro e w1 ⟨rfl, hb1⟩; have HB1 := Lib.hid hb1; clear hb1))
  (with_reducible refine wp_region_quiet_lit (by kernel_rfl) (by kernel_rfl) ?_)
  repeat (first
    | ((with_reducible refine wpQuiet_step (fun K hK => ?_)); have HK := Lib.hid hK; clear hK; go_simp; first
        | ((with_reducible refine HK.out _ ?_); clear HK K)
        | (apply Exists.intro; refine ⟨fun _ => ?_, HK.out _ ?_⟩; (go_at_call 69; exact Calls.quiet_of_same (HBIT.out _)); clear HK K)))
  refine wpQuiet_nil ?_
  intro _ hw'
  obtain ⟨nq, hw''⟩ := hw'
  subst hw''
  have HB2 := Lib.hid (below_drewN HB1.out nq)
  have hr2 := H.out.1.below HB2.out
  generalize w1.drewN nq = w2 at *
  have HR := Lib.hid hr2
  have HG := Lib.hid (grown_below (t := t) HB2.out)
  clear hr2
  have hs3 : s = 18 ∨ s = 19 ∨ (¬ s = 18 ∧ ¬ s = 19) := by omega
  obtain ⟨A2, c2, k3, f3, hls⟩ := slotP HR.out (show p.toNat < 64 by omega)
  have HLS := Lib.hid hls
  have ht3 := HR.out.lt
  clear hls
  rcases hs3 with e18 | e19 | ⟨n18, n19⟩
  all_goals
    first
      | (have HO := Lib.hid (HOP.out.1 e18); have b18 : (s == 18) = true := by simpa using e18
         have b19 : (s == 19) = false := by simp; omega
         clear e18)
      | (have HO := Lib.hid (HOP.out.2.1 e19); have b19 : (s == 19) = true := by simpa using e19
         have b18 : (s == 18) = false := by simp; omega
         clear e19)
      | (have HO := Lib.hid (HOP.out.2.2 n18 n19); have b18 : (s == 18) = false := by simpa using n18
         have b19 : (s == 19) = false := by simpa using n19
         clear n18 n19)
    try (have HX : S1 = S := HO.out; subst HX)
    go_wp2_with (first
      | (first | (go_at_call 67; refine (HIG.out _ _ _ HR.out rfl).mono ?_; rintro e w' ⟨rfl, rfl⟩) | (go_at_call 67; refine (HIG.out _ _ _ HR.out HOA.out).mono ?_; rintro e w' ⟨rfl, rfl⟩))
      | (go_at_call 68; refine (rdiscard_calls p _ _ HR.out HLN.out p0 p1).mono ?_; rw [← HO.out]; rintro e w3 ⟨rfl, ⟨L3, h3⟩, hg3⟩; replace HG := Lib.hid (HG.out.trans hg3); replace HR := Lib.hid h3; clear h3 hg3 k3 f3 HLS ht3; obtain ⟨A2, c2, k3, f3, hls⟩ := slotP HR.out (show p.toNat < 64 by omega); have HLS := Lib.hid hls; have ht3 := HR.out.lt; clear hls)
      | (go_at_call 72; refine (rpends_calls _ _ _ _ HLS.out HOL.out).mono ?_; rw [HPD.out]; rintro e w4 ⟨rfl, hb4⟩; replace HG := Lib.hid (HG.out.trans (grown_below hb4)); replace HR := Lib.hid (HR.out.below hb4); clear hb4 k3 f3 HLS ht3; obtain ⟨A2, c2, k3, f3, hls⟩ := slotP HR.out (show p.toNat < 64 by omega); have HLS := Lib.hid hls; have ht3 := HR.out.lt; clear hls))
    go_ret2
    exact ⟨_, rfl, wk_emptyg _ _ (by simp [World.setCell]), RAfter.alloc ⟨⟨_, HR.out⟩, HG.out⟩ _⟩
set_option maxHeartbeats 4000000 in
set_option maxRecDepth 100000 in
theorem rkill_proc_new {t : Nat} {L : RLay} {S : St} (p s v : Int) (w : World) (h : RRepL w t L S) (hin : Inv S 1000) (hp : isPr p = true) (hs : ¬ s < 1) (hs2 : ¬ 56 < s) (hl : threads S p ≠ []) (hch : choose S (threads S p) s = -1)
    (hig : ignored S p.toNat s = false) (h41 : ¬ 41 ≤ s) (hpd : pends ((opposite S p.toNat s).ls (256 + p.toNat)) s = false) :
    Calls Try.prog 49 #[.pointer (some ⟨t, 0, none⟩), .int .i64 (-1), .int .i64 p, .int .i64 s, .int .i64 v] w fun e w' =>
      RKillPost t (([], 0), { opposite S p.toNat s with ls := upd (opposite S p.toNat s).ls (256 + p.toNat) ((opposite S p.toNat s).ls (256 + p.toNat) ++ [(s, v)]) }) w e w' := by
  obtain ⟨p0, p1⟩ := isPr_iff.1 hp
  have HP := Lib.hid hp
  have HSG := Lib.hid (sg_true hs hs2)
  have H := Lib.hid (And.intro h hin)
  have htl := h.lt
  have HLN := Lib.hid hin.len
  have HBIT : Hid (∀ W : World, Calls Try.prog 69 #[.int .i64 s] W fun e w' => e = .returned (.int .u64 ((2 ^ (s - 1).toNat : Nat) : Int)) ∧ w' = W) := Lib.hid fun W => rbit_same s W (by omega) (by omega)
  have HIG : Hid (∀ (W : World) (L' : RLay) (S' : St), RRepL W t L' S' → S'.ac = S.ac → Calls Try.prog 67 #[.pointer (some ⟨t, 0, none⟩), .int .i64 p, .int .i64 s] W fun e w' => e = .returned (.bool (ignored S p.toNat s)) ∧ W = w') := Lib.hid fun W L' S' h' ha => by
    rw [← ignored_ac ha]
    exact rignored_calls p s W h' hp (by omega) (by omega)
  have HAS := rhas_calls p w h
  rw [has_true hl] at HAS
  have HAS := Lib.hid HAS
  have HRC := rreceiver_calls p s w h hin (by omega) (by omega)
  rw [hch] at HRC
  have HRC := Lib.hid HRC
  rw [hig] at HIG
  have HPD := Lib.hid hpd
  clear hpd
  have HPUT : Hid (∀ (W W2 : World) (L' : RLay) (S' : St) (v' : Value) (l' : List Pd), RRepL W t L' S' → w.grownBy W (some t) → Fresh W v' l' W2 → RAfter t { S' with ls := upd S'.ls (256 + p.toNat) l' } w (W2.setCell ⟨t, 1792 + p.toNat * 58, none⟩ v')) := Lib.hid fun W W2 L' S' v' l' hr hg hf => by
    have := (hr.below hf.2.1).put_list (i := (256 + p.toNat)) (by omega) hf.1
    rw [show slotCell (256 + p.toNat) = 1792 + p.toNat * 58 by unfold slotCell; rw [if_neg (by omega)]; omega] at this
    exact ⟨⟨_, this⟩, hg.trans ((grown_below hf.2.1).trans (grown_set _ _ _ _))⟩
  clear h hin hp hl hig hch
  have HOP : Hid ((s = 18 → opposite S p.toNat s = forget S p.toNat 19) ∧ (s = 19 → opposite S p.toNat s = forget S p.toNat 18) ∧ (¬ s = 18 → ¬ s = 19 → opposite S p.toNat s = S)) := Lib.hid ⟨fun e => by unfold opposite; rw [if_pos e], fun e => by unfold opposite; rw [if_neg (by omega), if_pos e], fun e1 e2 => by unfold opposite; rw [if_neg e1, if_neg e2]⟩
  have HOA : Hid ((opposite S p.toNat s).ac = S.ac) := Lib.hid (opposite_ac _ _ _)
  have HOL : Hid (((opposite S p.toNat s).ls (256 + p.toNat)).length ≤ 1000) := Lib.hid (by
    have hlen : ∀ q, ((forget S p.toNat q).ls (256 + p.toNat)).length ≤ 1000 := fun q => Nat.le_trans (forget_len _ _ _ _) (HLN.out _ (by omega))
    unfold opposite
    split
    · exact hlen _
    · split
      · exact hlen _
      · exact HLN.out _ (by omega))
  generalize opposite S p.toNat s = S1 at *
  go_enter Try.func49, Try.ntmps49
  go_wp2_with (first
    | (go_at_call 64; refine (rprocess_calls p _).mono ?_; rw [HP.out]; rintro e w' ⟨rfl, rfl⟩)
    | (go_at_call 66; refine (rsignal_calls s _).mono ?_; rw [HSG.out]; rintro e w' ⟨rfl, rfl⟩)
    | (go_at_call 65; refine HAS.out.mono ?_; rintro e w' ⟨rfl, rfl⟩)
    | (go_at_call 70; refine HRC.out.mono ?_; rintro e w1 ⟨rfl, hb1⟩; have HB1 := Lib.hid hb1; clear hb1))
  (with_reducible refine wp_region_quiet_lit (by kernel_rfl) (by kernel_rfl) ?_)
  repeat (first
    | ((with_reducible refine wpQuiet_step (fun K hK => ?_)); have HK := Lib.hid hK; clear hK; go_simp; first
        | ((with_reducible refine HK.out _ ?_); clear HK K)
        | (apply Exists.intro; refine ⟨fun _ => ?_, HK.out _ ?_⟩; (go_at_call 69; exact Calls.quiet_of_same (HBIT.out _)); clear HK K)))
  refine wpQuiet_nil ?_
  intro _ hw'
  obtain ⟨nq, hw''⟩ := hw'
  subst hw''
  have HB2 := Lib.hid (below_drewN HB1.out nq)
  have hr2 := H.out.1.below HB2.out
  generalize w1.drewN nq = w2 at *
  have HR := Lib.hid hr2
  have HG := Lib.hid (grown_below (t := t) HB2.out)
  clear hr2
  have hs3 : s = 18 ∨ s = 19 ∨ (¬ s = 18 ∧ ¬ s = 19) := by omega
  obtain ⟨A2, c2, k3, f3, hls⟩ := slotP HR.out (show p.toNat < 64 by omega)
  have HLS := Lib.hid hls
  have ht3 := HR.out.lt
  clear hls
  rcases hs3 with e18 | e19 | ⟨n18, n19⟩
  all_goals
    first
      | (have HO := Lib.hid (HOP.out.1 e18); have b18 : (s == 18) = true := by simpa using e18
         have b19 : (s == 19) = false := by simp; omega
         clear e18)
      | (have HO := Lib.hid (HOP.out.2.1 e19); have b19 : (s == 19) = true := by simpa using e19
         have b18 : (s == 18) = false := by simp; omega
         clear e19)
      | (have HO := Lib.hid (HOP.out.2.2 n18 n19); have b18 : (s == 18) = false := by simpa using n18
         have b19 : (s == 19) = false := by simpa using n19
         clear n18 n19)
    try (have HX : S1 = S := HO.out; subst HX)
    obtain ⟨i2, hi2, hz0, hz1, hz2⟩ := info_parts (P := Try.prog) (e := 127) (z := .agg #[.int .i64 0, .int .i64 0]) (size := 2) (bytes := 16) (by kernel_rfl)
    have hl1000 : (S1.ls (256 + p.toNat)).length ≤ 1000 := HOL.out
    go_wp2_with (first
      | (first | (go_at_call 67; refine (HIG.out _ _ _ HR.out rfl).mono ?_; rintro e w' ⟨rfl, rfl⟩) | (go_at_call 67; refine (HIG.out _ _ _ HR.out HOA.out).mono ?_; rintro e w' ⟨rfl, rfl⟩))
      | (go_at_call 68; refine (rdiscard_calls p _ _ HR.out HLN.out p0 p1).mono ?_; rw [← HO.out]; rintro e w3 ⟨rfl, ⟨L3, h3⟩, hg3⟩; replace HG := Lib.hid (HG.out.trans hg3); replace HR := Lib.hid h3; clear h3 hg3 k3 f3 HLS ht3; obtain ⟨A2, c2, k3, f3, hls⟩ := slotP HR.out (show p.toNat < 64 by omega); have HLS := Lib.hid hls; have ht3 := HR.out.lt; clear hls)
      | (go_at_call 72; refine (rpends_calls _ _ _ _ HLS.out HOL.out).mono ?_; rw [HPD.out]; rintro e w4 ⟨rfl, hb4⟩; replace HG := Lib.hid (HG.out.trans (grown_below hb4)); replace HR := Lib.hid (HR.out.below hb4); clear hb4 k3 f3 HLS ht3; obtain ⟨A2, c2, k3, f3, hls⟩ := slotP HR.out (show p.toNat < 64 by omega); have HLS := Lib.hid hls; have ht3 := HR.out.lt; clear hls)
      | (at_builtin; go_loud (refine wpList_append_rw _ rfl (.tmp 178) (.tmp 181) 103 rfl 127 i2 (.agg #[.int .i64 0, .int .i64 0]) 2 16 Try.underlying103 hi2 hz0 hz1 hz2 rfl (by omega) _ 0 [] rfl (empty_rw _) _ _ _ (pcells (S1.ls (256 + p.toNat))) rfl (pcells_len _) (src_cells (HLS.out.below ((Below.refl _ _).alloc (Nat.le_refl _) _))) (src_none HLS.out) (pcells_one _) (by unfold maxLen; omega) (by omega) ?_; intro v5 w5 hr5 hg5 ho5 _; have hF5 := first_append hr5 hg5 ho5; clear hr5 hg5 ho5; obtain ⟨A5, c5, rfl, _⟩ := hF5.1.at; have HF5 := Lib.hid hF5; have HLS5 := Lib.hid (Rw.below hF5.1 ((Below.refl _ _).alloc (Nat.le_refl _) (.cells #[.int .i64 s, .int .i64 v] 127))); clear hF5))
      | (at_builtin; go_loud (refine wpList_append_rw _ rfl (.tmp 182) (.tmp 186) 103 rfl 127 i2 (.agg #[.int .i64 0, .int .i64 0]) 2 16 Try.underlying103 hi2 hz0 hz1 hz2 rfl (by omega) _ _ _ rfl HLS5.out _ 1 1 [.int .i64 s, .int .i64 v] rfl rfl (two_first w5 _ _ 127) (fun h => by cases h) (by intro u hu; simp at hu; rcases hu with rfl | rfl <;> rfl) (by unfold maxLen; omega) (by omega) ?_; intro v6 w6 hr6 hg6 ho6 _; have hF6 := second_append HF5.out hr6 hg6 ho6; clear hr6 hg6 ho6; obtain ⟨A6, n6, c6, rfl⟩ := hF6.slice; have k6 := (hF6.2.1.cell (p := ⟨t, 1792 + p.toNat * 58, none⟩) ht3).trans k3; have f6 := (hF6.2.1.frozen (p := ⟨t, 1792 + p.toNat * 58, none⟩) ht3).trans f3; have HF6 := Lib.hid hF6; clear hF6)))
    go_ret2
    exact ⟨_, rfl, wk_emptyg _ _ (by simp [World.setCell]), RAfter.alloc (HPUT.out _ _ _ _ _ _ HR.out HG.out HF6.out) _⟩
end Go.Proofs.Ytbpihfphoniclaa
