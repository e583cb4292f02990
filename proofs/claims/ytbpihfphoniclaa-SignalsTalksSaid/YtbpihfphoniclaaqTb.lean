/- The reference's discard. -/
import Derived.Test.YtbpihfphoniclaaqTa
import Derived.Test.YtbpihfphoniclaaB6
import Derived.Lib.QuietBelow
import Derived.Test.YtbpihfphoniclaaC2
import Derived.Test.YtbpihfphoniclaaC1
namespace Go.Proofs.Ytbpihfphoniclaa
open Go.RowKit
set_option linter.unusedVariables false
def slotCell (i : Nat) : Nat := if i < 256 then i * 7 + 3 else 1792 + (i - 256) * 58
theorem rcell_slot (L : RLay) (S : St) {i : Nat} (hi : i < 320) (v : Value) (l : List Pd) (j : Nat) (hj : j < 5504) :
    rcell { L with lv := upd L.lv i v } { S with ls := upd S.ls i l } j = if j = slotCell i then v else rcell L S j := by
  unfold slotCell rcell
  by_cases h1 : j < 1792
  · rw [if_pos h1, if_pos h1]
    by_cases h2 : j / 7 = i
    · by_cases h3 : j % 7 = 3
      · rw [if_pos (by rw [if_pos (by omega)]; omega), h2, h3]
        unfold rtask
        dsimp only
        rw [upd_same]
        rfl
      · rw [if_neg (by rw [if_pos (by omega)]; omega)]
        have hk : j % 7 = 0 ∨ j % 7 = 1 ∨ j % 7 = 2 ∨ j % 7 = 4 ∨ j % 7 = 5 ∨ j % 7 = 6 := by omega
        unfold rtask
        dsimp only
        rcases hk with e | e | e | e | e | e <;> rw [e] <;> rfl
    · rw [if_neg (by split <;> omega)]
      unfold rtask
      dsimp only
      rw [upd_other _ _ h2]
  · rw [if_neg h1, if_neg h1]
    dsimp only
    by_cases h2 : (j - 1792) % 58 = 0
    · rw [if_pos h2, if_pos h2]
      by_cases h3 : 256 + (j - 1792) / 58 = i
      · rw [h3, upd_same, if_pos (by rw [if_neg (by omega)]; omega)]
      · rw [upd_other _ _ h3, if_neg (by split <;> omega)]
    · rw [if_neg h2, if_neg h2, if_neg (by split <;> omega)]
theorem RRepL.put_list {w : World} {t : Nat} {L : RLay} {S : St} (h : RRepL w t L S) {i : Nat} (hi : i < 320) {v : Value} {l : List Pd} (hv : Ls w 127 v l) :
    RRepL (w.setCell ⟨t, slotCell i, none⟩ v) t { L with lv := upd L.lv i v } { S with ls := upd S.ls i l } := by
  refine h.put (slotCell i) v (fun j hj => rcell_slot L S hi v l j hj) (fun j hj => ?_) h.sets
  by_cases e : j = i
  · subst e
    dsimp only
    rw [upd_same, upd_same]
    exact h.rows_set _ _ hv
  · dsimp only
    rw [upd_other _ _ e, upd_other _ _ e]
    exact h.rows_set _ _ (h.row j hj)
def forgotR (S : St) (p : Nat) (s : Int) (k : Nat) : St := forgotL S p s ((List.range k).filter (inP S p))
theorem forgotR_in {S : St} {p : Nat} {s : Int} {k : Nat} (hk : k < 256) (h : inP S p k = true) : forgotR S p s (k + 1) = { forgotR S p s k with ls := upd (forgotR S p s k).ls k (without ((forgotR S p s k).ls k) s) } := by
  unfold forgotR
  rw [List.range_succ, List.filter_append, List.filter_cons_of_pos h, List.filter_nil]
  exact forgot_snoc S p s _ k (by simp) hk
theorem forgotR_out {S : St} {p : Nat} {s : Int} {k : Nat} (h : inP S p k = false) : forgotR S p s (k + 1) = forgotR S p s k := by
  unfold forgotR
  rw [List.range_succ, List.filter_append, List.filter_cons_of_neg (by rw [h]; exact Bool.false_ne_true), List.filter_nil, List.append_nil]
theorem grown_below {w w' : World} {t : Nat} (h : Below w.heap.size w w') : w.grownBy w' (some t) := ⟨h.os, h.tape, h.output, h.size, fun k hk _ => h.block k hk⟩
set_option maxHeartbeats 1000000 in
set_option maxRecDepth 100000 in
theorem rdiscard_calls {t : Nat} {L : RLay} {S : St} (p s : Int) (w : World) (h : RRepL w t L S) (hlen : ∀ i, i < 320 → (S.ls i).length ≤ 1000) (hp0 : 0 ≤ p) (hp : p < 64) :
    Calls Try.prog 68 #[.pointer (some ⟨t, 0, none⟩), .int .i64 p, .int .i64 s] w fun e w' => e = .returned (.tuple #[]) ∧ RAfter t (forget S p.toNat s) w w' := by
  have cp := h.cell_list p.toNat (by omega)
  have fp := h.frozenR (1792 + p.toNat * 58)
  have HR1 := Lib.hid (h.row (256 + p.toNat) (by omega))
  have HL1 := Lib.hid (hlen (256 + p.toNat) (by omega))
  obtain ⟨A1, cap1, e1, _, _, _, _⟩ := (h.row (256 + p.toNat) (by omega)).at
  have H := Lib.hid (And.intro h hlen)
  have htl := h.lt
  rw [e1] at cp HR1
  clear h hlen e1
  go_enter Try.func68, Try.ntmps68
  go_wp2_with fail
  go_region_law (first
    | (go_simp; go_at_call 76; refine (rwithout_calls _ s (S.ls (256 + p.toNat)) _ (Ls.drew HR1.out) HL1.out).mono ?_; rintro e w1 ⟨v', rfl, hf⟩; have hbm := hf.2.1; obtain ⟨A', c', rfl, _⟩ := hf.1.at; have hc1 := (hbm.cell (p := ⟨t, 1792 + p.toNat * 58, none⟩) htl).trans cp; have hf1 := (hbm.frozen (p := ⟨t, 1792 + p.toNat * 58, none⟩) htl).trans fp; have HX1 := Lib.hid hf; clear hf hbm))
  have hA := (H.out.1.drew.below HX1.out.2.1).put_list (i := 256 + p.toNat) (by omega) HX1.out.1
  have hG := ((grown_drew w t).trans (grown_below HX1.out.2.1)).trans (grown_set w1 t (1792 + p.toNat * 58) (.slice A' (without (S.ls (256 + p.toNat)) s).length c'))
  rw [← forgot_nil, show slotCell (256 + p.toNat) = 1792 + p.toNat * 58 by unfold slotCell; rw [if_neg (by omega)]; omega] at hA
  generalize w1.setCell ⟨t, 1792 + p.toNat * 58, none⟩ (.slice A' (without (S.ls (256 + p.toNat)) s).length c') = W1 at *
  have HPP : Hid ((p.toNat : Int) = p) := Lib.hid (Int.toNat_of_nonneg hp0)
  have HA : Hid (RAfter t (forgotR S p.toNat s 0) w W1) := Lib.hid ⟨⟨_, hA⟩, hG⟩
  have HLEN := Lib.hid H.out.2
  clear hA hG hc1 hf1 cp fp HX1 H HR1
  go_wp2
  go_loopw [6] (fun i wr => ∃ k : Nat, k ≤ 256 ∧ i = .int .i64 k ∧ Hid (RAfter t (forgotR S p.toNat s k) w wr)) (fun i _ => 256 - (intOf i).toNat)
  case atStart => exact ⟨0, by omega, rfl, HA⟩
  case round =>
    obtain ⟨k, hk, rfl, HI⟩ := hrel
    by_cases hlt : k < 256
    · have hlt' : (k : Int) < 256 := by omega
      obtain ⟨⟨L2, h2⟩, hg2⟩ := HI.out
      have c0 : wr.cell? ⟨t, k * 7, none⟩ = some (.bool (S.tk k).isSome) := h2.cell_task k 0 (by omega) (by omega)
      cases hx : S.tk k with
      | none =>
        rw [hx] at c0
        have c0' : wr.cell? ⟨t, k * 7, none⟩ = some (.bool false) := c0
        have HB : Hid (RAfter t (forgotR S p.toNat s (k + 1)) w wr) := Lib.hid (by rw [forgotR_out (by unfold inP; rw [hx])]; exact HI.out)
        clear c0 hx h2 hg2
        go_wp2
        go_roundw
        case rel => exact ⟨k + 1, by omega, by go_num, HB⟩
        case measure => simp [intOf]; omega
      | some x =>
        rw [hx] at c0
        have c0' : wr.cell? ⟨t, k * 7, none⟩ = some (.bool true) := c0
        have c1 : wr.cell? ⟨t, k * 7 + 1, none⟩ = some (.int .i64 (match S.tk k with | some x => x.proc | none => 0)) := h2.cell_task k 1 (by omega) (by omega)
        rw [hx] at c1
        have c1' : wr.cell? ⟨t, k * 7 + 1, none⟩ = some (.int .i64 x.proc) := c1
        clear c0 c1
        by_cases hxp : x.proc = p
        · have hpb : (x.proc == p) = true := by simpa using hxp
          have hin : inP S p.toNat k = true := by rw [HPP.out]; unfold inP; rw [hx]; exact hpb
          have HB := Lib.hid (forgotR_in (s := s) hlt hin)
          have c3 : wr.cell? ⟨t, k * 7 + 3, none⟩ = some (L2.lv k) := h2.cell_task k 3 (by omega) (by omega)
          have f3 := h2.frozenR (k * 7 + 3)
          have HR2 := Lib.hid (h2.row k (by omega))
          have HL2 := Lib.hid (forgot_inv HLEN.out p.toNat s ((List.range k).filter (inP S p.toNat)) k (by omega))
          obtain ⟨A2, cap2, e2, _, _, _, _⟩ := (h2.row k (by omega)).at
          have ht2 := h2.lt
          rw [e2] at c3 HR2
          change Hid (((forgotR S p.toNat s k).ls k).length ≤ 1000) at HL2
          have H2 := Lib.hid (And.intro h2 hg2)
          generalize forgotR S p.toNat s k = S2 at *
          clear h2 hg2 hx hxp hin e2
          go_wp2_with fail
          go_region_law (first
            | (go_simp; go_at_call 76; refine (rwithout_calls _ s (S2.ls k) _ (Ls.drew HR2.out) HL2.out).mono ?_; rintro e w1 ⟨v', rfl, hf⟩; have hbm := hf.2.1; obtain ⟨A', c', rfl, _⟩ := hf.1.at; have hc1 := (hbm.cell (p := ⟨t, k * 7 + 3, none⟩) ht2).trans c3; have hf1 := (hbm.frozen (p := ⟨t, k * 7 + 3, none⟩) ht2).trans f3; have HX1 := Lib.hid hf; clear hf hbm))
          have hA := (H2.out.1.drew.below HX1.out.2.1).put_list (i := k) (by omega) HX1.out.1
          have hG := H2.out.2.trans (((grown_drew wr t).trans (grown_below HX1.out.2.1)).trans (grown_set w1 t (k * 7 + 3) (.slice A' (without (S2.ls k) s).length c')))
          rw [show slotCell k = k * 7 + 3 by unfold slotCell; rw [if_pos hlt], ← HB.out] at hA
          have HA2 : Hid (RAfter t (forgotR S p.toNat s (k + 1)) w (w1.setCell ⟨t, k * 7 + 3, none⟩ (.slice A' (without (S2.ls k) s).length c'))) := Lib.hid ⟨⟨_, hA⟩, hG⟩
          clear hA hG hc1 hf1 c3 f3 HX1
          go_wp2
          go_roundw
          case rel => exact ⟨k + 1, by omega, by go_num, HA2⟩
          case measure => simp [intOf]; omega
        · have hpb : (x.proc == p) = false := by simpa using hxp
          have HB : Hid (RAfter t (forgotR S p.toNat s (k + 1)) w wr) := Lib.hid (by rw [forgotR_out (by rw [HPP.out]; unfold inP; rw [hx]; exact hpb)]; exact HI.out)
          clear hx h2 hg2 hxp
          go_wp2
          go_roundw
          case rel => exact ⟨k + 1, by omega, by go_num, HB⟩
          case measure => simp [intOf]; omega
    · obtain rfl : k = 256 := by omega
      have HR : Hid (RAfter t (forget S p.toNat s) w wr) := Lib.hid (by rw [← forgot_all]; exact HI.out)
      go_wp2
      go_end0
      exact ⟨rfl, HR.out⟩
end Go.Proofs.Ytbpihfphoniclaa
namespace Go.Proofs.Ytbpihfphoniclaa
open Go.RowKit
set_option linter.unusedVariables false
def orK (l : List Pd) : Nat → Nat
  | 0 => 0
  | k + 1 => if pends l ((k : Int) + 1) = true then orK l k ||| 2 ^ k else orK l k
theorem orK_bit (l : List Pd) (k j : Nat) : (orK l k).testBit j = (decide (j < k) && pends l ((j : Int) + 1)) := by
  induction k with
  | zero => simp [orK]
  | succ k ih =>
    unfold orK
    by_cases h : pends l ((k : Int) + 1) = true
    · rw [if_pos h, Nat.testBit_or, ih, Nat.testBit_two_pow]
      by_cases e : k = j
      · subst e; simp [h]
      · have : (decide (j < k + 1)) = decide (j < k) := by
          rw [decide_eq_decide]; omega
        rw [this]; simp [e]
    · rw [if_neg h, ih]
      by_cases e : k = j
      · subst e; simp at h; simp [h]
      · have : (decide (j < k + 1)) = decide (j < k) := by
          rw [decide_eq_decide]; omega
        rw [this]
theorem orK_all {l : List Pd} (h : ∀ x ∈ l, 1 ≤ x.1 ∧ x.1 ≤ 56) : orK l 56 = orOf l := by
  apply Nat.eq_of_testBit_eq
  intro j
  rw [orK_bit, orOf_bit, Bool.eq_iff_iff]
  unfold pends
  simp only [Bool.and_eq_true, decide_eq_true_eq, List.any_eq_true, beq_iff_eq]
  constructor
  · rintro ⟨_, x, hx, he⟩
    exact ⟨x, hx, by omega⟩
  · rintro ⟨x, hx, he⟩
    obtain ⟨h1, h2⟩ := h x hx
    exact ⟨by omega, x, hx, by omega⟩
theorem orK_lt (l : List Pd) : ∀ k, k ≤ 56 → orK l k < 72057594037927936
  | 0, _ => by show (0 : Nat) < _; decide
  | k + 1, h => by
    unfold orK
    split
    · exact or_lt56 (orK_lt l k (by omega)) (Nat.lt_of_lt_of_le (Nat.pow_lt_pow_right (by omega) (show k < 56 by omega)) (by decide))
    · exact orK_lt l k (by omega)
theorem pends_append (a b : List Pd) (s : Int) : pends (a ++ b) s = (pends a s || pends b s) := List.any_append
set_option maxHeartbeats 2000000 in
set_option maxRecDepth 100000 in
theorem rpending_calls {t : Nat} {L : RLay} {S : St} (th : Int) (w : World) (h : RRepL w t L S) (hin : Inv S 1000) (hth : isTh th = true) (x : Tk) (hx : S.tk th.toNat = some x) :
    Calls Try.prog 74 #[.pointer (some ⟨t, 0, none⟩), .int .i64 th] w fun e w' => e = .returned (.int .u64 ((orOf (both S th.toNat x.proc.toNat) : Nat) : Int)) ∧ Below w.heap.size w w' := by
  obtain ⟨t0, t1⟩ := isTh_iff.1 hth
  obtain ⟨p0, p1, _⟩ := hin.task th.toNat (by omega) x hx
  have hall : ∀ y ∈ both S th.toNat x.proc.toNat, 1 ≤ y.1 ∧ y.1 ≤ 56 := by
    intro y hy
    rcases List.mem_append.1 hy with h | h
    · exact hin.sig _ (by omega) y h
    · exact hin.sig _ (by omega) y h
  rw [← orK_all hall]
  have HPE : Hid (∀ s, pends (both S th.toNat x.proc.toNat) s = (pends (S.ls th.toNat) s || pends (S.ls (256 + x.proc.toNat)) s)) := Lib.hid fun s => pends_append _ _ s
  generalize both S th.toNat x.proc.toNat = l at *
  have c3 : w.cell? ⟨t, th.toNat * 7 + 3, none⟩ = some (L.lv th.toNat) := h.cell_task th.toNat 3 (by omega) (by omega)
  have c1 : w.cell? ⟨t, th.toNat * 7 + 1, none⟩ = some (.int .i64 (match S.tk th.toNat with | some x => x.proc | none => 0)) := h.cell_task th.toNat 1 (by omega) (by omega)
  rw [hx] at c1
  have c1' : w.cell? ⟨t, th.toNat * 7 + 1, none⟩ = some (.int .i64 x.proc) := c1
  have cp := h.cell_list x.proc.toNat (by omega)
  obtain ⟨A1, q1, e1, _⟩ := (h.row th.toNat (by omega)).at
  obtain ⟨A2, q2, e2, _⟩ := (h.row (256 + x.proc.toNat) (by omega)).at
  have HR1 := Lib.hid (h.row th.toNat (by omega))
  have HR2 := Lib.hid (h.row (256 + x.proc.toNat) (by omega))
  have HL := Lib.hid (And.intro (hin.len th.toNat (by omega)) (hin.len (256 + x.proc.toNat) (by omega)))
  rw [e1] at c3 HR1
  rw [e2] at cp HR2
  have HC := Lib.hid (And.intro c3 (And.intro c1' cp))
  have htl := h.lt
  generalize S.ls th.toNat = l1 at *
  generalize S.ls (256 + x.proc.toNat) = l2 at *
  clear h hin hth hx hall c3 c1 c1' cp e1 e2
  have HLT := Lib.hid (orK_lt l)
  go_enter Try.func74, Try.ntmps74
  go_wp2
  go_loopw [5, 6] (fun u i wr => ∃ k : Nat, k ≤ 56 ∧ i = .int .i64 ((k : Int) + 1) ∧ u = .int .u64 ((orK l k : Nat) : Int) ∧ Hid (Below w.heap.size w wr)) (fun _ i _ => 57 - (intOf i).toNat)
  case atStart => exact ⟨0, by omega, rfl, rfl, Lib.hid (Below.refl _ _)⟩
  case round =>
    obtain ⟨k, hk, rfl, rfl, HB⟩ := hrel
    by_cases hlt : k < 56
    · have hlt' : (k : Int) + 1 ≤ 56 := by omega
      have hce3 := fun d os => cell_regrown ((HB.out.cell (p := ⟨t, th.toNat * 7 + 3, none⟩) htl).trans HC.out.1) d os
      have hce1 := fun d os => cell_regrown ((HB.out.cell (p := ⟨t, th.toNat * 7 + 1, none⟩) htl).trans HC.out.2.1) d os
      have hcep := fun d os => cell_regrown ((HB.out.cell (p := ⟨t, 1792 + x.proc.toNat * 58, none⟩) htl).trans HC.out.2.2) d os
      have C1 := Lib.hid (fun d os => rpends_calls _ ((k : Int) + 1) l1 (Sort.grow (redrawn wr d) os) ((HR1.out.below HB.out).below (below_regrown wr d os)) HL.out.1)
      have C2 := Lib.hid (fun d os => rpends_calls _ ((k : Int) + 1) l2 (Sort.grow (redrawn wr d) os) ((HR2.out.below HB.out).below (below_regrown wr d os)) HL.out.2)
      have HE : Hid (orK l (k + 1) = if (pends l1 ((k : Int) + 1) || pends l2 ((k : Int) + 1)) = true then orK l k ||| 2 ^ k else orK l k) := Lib.hid (by rw [← HPE.out]; rfl)
      have hor : bits .or .u64 ((orK l k : Nat) : Int) ((2 ^ k : Nat) : Int) = ((orK l k ||| 2 ^ k : Nat) : Int) := u64_or_nat _ _ (by have := HLT.out k (by omega); omega) (Nat.lt_of_lt_of_le (Nat.pow_lt_pow_right (by omega) (show k < 64 by omega)) (by decide))
      have e1 : ((k : Int) + 1 - 1).toNat = k := by omega
      have HBT := Lib.hid (And.intro e1 hor)
      generalize orK l k = o at *
      obtain ⟨o2, ho2⟩ : ∃ o2, orK l (k + 1) = o2 := ⟨_, rfl⟩
      rw [ho2] at HE
      have HO2 := Lib.hid ho2
      clear ho2
      clear e1 hor
      have HBT2 := HBT
      cases hp1 : pends l1 ((k : Int) + 1)
      · cases hp2 : pends l2 ((k : Int) + 1)
        all_goals
          rw [hp1] at C1 HE
          rw [hp2] at C2 HE
          clear hp1 hp2
          go_wp2
          refine wp_region_quiet_below (by kernel_rfl) (by kernel_rfl) ?_
          repeat (first
            | quiet_step ((go_at_call 72; first | (with_reducible exact (C1.out _ _).regrown_of) | (with_reducible exact (C2.out _ _).regrown_of))))
          refine wpQuiet_nil ?_
          intro w5 hw5
          have HB5 := Lib.hid (below_then' HB.out (below_of_regrown hw5))
          clear hw5 hce3 hce1 hcep C1 C2 HB
        · have HE2 : Hid (o2 = o) := Lib.hid (by rw [HE.out]; rfl)
          go_wp2
          go_roundw
          case rel => exact ⟨k + 1, by omega, by go_num, by rw [HO2.out, HE2.out], HB5⟩
          case measure => simp [intOf]; omega
        · have HE2 : Hid (o2 = o ||| 2 ^ k) := Lib.hid (by rw [HE.out]; rfl)
          go_wp2_with (go_at_call 69; refine (rbit_calls _ _ (by omega) (by omega)).mono ?_; rw [HBT.out.1]; rintro e w' ⟨rfl, rfl⟩; have hor := HBT2.out.2; generalize (2 ^ k : Nat) = bt at *)
          go_roundw
          case rel => exact ⟨k + 1, by omega, by go_num, by rw [HO2.out, HE2.out], HB5⟩
          case measure => simp [intOf]; omega
      · rw [hp1] at C1 HE
        clear hp1
        go_wp2
        refine wp_region_quiet_below (by kernel_rfl) (by kernel_rfl) ?_
        repeat (first
          | ((with_reducible refine wpQuiet_step (fun K hK => ?_)); have HK := Lib.hid hK; clear hK; go_simp; first
              | ((with_reducible refine HK.out _ ?_); clear HK K)
              | (apply Exists.intro; refine ⟨fun _ => ?_, HK.out _ ?_⟩; (go_at_call 72; with_reducible exact (C1.out _ _).regrown_of); clear HK K)))
        refine wpQuiet_nil ?_
        intro w5 hw5
        have HB5 := Lib.hid (below_then' HB.out (below_of_regrown hw5))
        clear hw5 hce3 hce1 hcep C1 C2 HB
        have HE2 : Hid (o2 = o ||| 2 ^ k) := Lib.hid (by rw [HE.out]; rfl)
        go_wp2_with (go_at_call 69; refine (rbit_calls _ _ (by omega) (by omega)).mono ?_; rw [HBT.out.1]; rintro e w' ⟨rfl, rfl⟩; have hor := HBT2.out.2; generalize (2 ^ k : Nat) = bt at *)
        go_roundw
        case rel => exact ⟨k + 1, by omega, by go_num, by rw [HO2.out, HE2.out], HB5⟩
        case measure => simp [intOf]; omega
    · obtain rfl : k = 56 := by omega
      go_wp2
      go_ret
      exact ⟨rfl, HB.out⟩
end Go.Proofs.Ytbpihfphoniclaa
namespace Go.Proofs.Ytbpihfphoniclaa
open Go.RowKit
set_option linter.unusedVariables false
set_option maxRecDepth 100000 in
theorem rpendingP_calls {t : Nat} {L : RLay} {S : St} (th : Int) (w : World) (h : RRepL w t L S) (hin : Inv S 1000) :
    Calls Try.prog 53 #[.pointer (some ⟨t, 0, none⟩), .int .i64 th] w fun e w' => e = .returned (.tuple #[.int .u64 ((pendingS S th).1 : Int), .int .i64 (pendingS S th).2]) ∧ Below w.heap.size w w' := by
  unfold pendingS
  cases hth : isTh th with
  | false =>
    have H1 := Lib.hid hth
    clear hth h
    go_enter Try.func53, Try.ntmps53
    go_wp2_with (go_at_call 63; refine (rthread_calls th _).mono ?_; rw [H1.out]; rintro e w' ⟨rfl, rfl⟩)
    go_ret2
    exact ⟨rfl, Below.refl _ _⟩
  | true =>
    obtain ⟨t0, t1⟩ := isTh_iff.1 hth
    have H1 := Lib.hid hth
    have c0 : w.cell? ⟨t, th.toNat * 7, none⟩ = some (.bool (S.tk th.toNat).isSome) := h.cell_task th.toNat 0 (by omega) (by omega)
    cases hx : S.tk th.toNat with
    | none =>
      rw [hx] at c0
      have c0' : w.cell? ⟨t, th.toNat * 7, none⟩ = some (.bool false) := c0
      clear hth h hx c0
      go_enter Try.func53, Try.ntmps53
      go_wp2_with (go_at_call 63; refine (rthread_calls th _).mono ?_; rw [H1.out]; rintro e w' ⟨rfl, rfl⟩)
      go_ret2
      exact ⟨rfl, Below.refl _ _⟩
    | some x =>
      rw [hx] at c0
      have c0' : w.cell? ⟨t, th.toNat * 7, none⟩ = some (.bool true) := c0
      have HC := Lib.hid (rpending_calls th w h hin hth x hx)
      clear hth h hx c0
      go_enter Try.func53, Try.ntmps53
      go_wp2_with (first
        | (go_at_call 63; refine (rthread_calls th _).mono ?_; rw [H1.out]; rintro e w' ⟨rfl, rfl⟩)
        | (go_at_call 74; refine HC.out.mono ?_; rintro e w' ⟨rfl, hb⟩; have HB := Lib.hid hb; clear hb))
      go_ret2
      exact ⟨rfl, HB.out⟩
/-- What the loop of take has gathered. -/
def tk3 (l : List Pd) (s : Int) : List Pd × Int × Bool := l.foldl (fun a x => if x.1 = s ∧ a.2.2 = false then (a.1, x.2, true) else (a.1 ++ [x], a.2.1, a.2.2)) ([], 0, false)
theorem tk3_snoc (l : List Pd) (s : Int) (k : Nat) (hk : k < l.length) : tk3 (l.take (k + 1)) s = if (l.getD k (0, 0)).1 = s ∧ (tk3 (l.take k) s).2.2 = false then ((tk3 (l.take k) s).1, (l.getD k (0, 0)).2, true) else ((tk3 (l.take k) s).1 ++ [l.getD k (0, 0)], (tk3 (l.take k) s).2.1, (tk3 (l.take k) s).2.2) := by
  unfold tk3
  rw [List.take_succ_eq_append_getElem hk, List.foldl_append, List.getD_eq_getElem?_getD, List.getElem?_eq_getElem hk]
  rfl
theorem tk3_spec (l : List Pd) (s : Int) : tk3 l s = (cut l s, valOf l s, pends l s) := by
  have key : ∀ (l : List Pd) (o : List Pd) (v : Int), (l.foldl (fun (a : List Pd × Int × Bool) x => if x.1 = s ∧ a.2.2 = false then (a.1, x.2, true) else (a.1 ++ [x], a.2.1, a.2.2)) (o, v, true)) = (o ++ l, v, true) := by
    intro l
    induction l with
    | nil => intro o v; simp
    | cons x l ih =>
      intro o v
      rw [List.foldl_cons]
      simp only [Bool.true_eq_false, and_false, if_false]
      rw [ih]
      simp
  have key2 : ∀ (l : List Pd) (o : List Pd), (l.foldl (fun (a : List Pd × Int × Bool) x => if x.1 = s ∧ a.2.2 = false then (a.1, x.2, true) else (a.1 ++ [x], a.2.1, a.2.2)) (o, 0, false)) = (o ++ cut l s, valOf l s, pends l s) := by
    intro l
    induction l with
    | nil => intro o; simp [cut, valOf, pends]
    | cons x l ih =>
      intro o
      rw [List.foldl_cons]
      by_cases h : x.1 = s
      · simp only [h, true_and, if_true]
        rw [key]
        simp [cut, valOf, pends, h]
      · simp only [h, false_and, if_false]
        rw [ih]
        simp [cut, valOf, pends, h]
  unfold tk3
  rw [key2]
  simp
theorem tk3_len (l : List Pd) (s : Int) : (tk3 l s).1.length ≤ l.length := by
  rw [tk3_spec]
  exact List.length_eraseP_le
end Go.Proofs.Ytbpihfphoniclaa
namespace Go.Proofs.Ytbpihfphoniclaa
open Go.RowKit
set_option linter.unusedVariables false
theorem RAfter.put_list {w w1 w2 : World} {t : Nat} {L : RLay} {S : St} (h : RRepL w t L S) (hb : w.grownBy w1 (some t)) (h1 : RRepL w1 t L S) {i : Nat} (hi : i < 320) {v : Value} {l : List Pd} (hf : Fresh w1 v l w2) :
    RAfter t { S with ls := upd S.ls i l } w (w2.setCell ⟨t, slotCell i, none⟩ v) :=
  ⟨⟨_, (h1.below hf.2.1).put_list hi hf.1⟩, hb.trans ((grown_below hf.2.1).trans (grown_set _ _ _ _))⟩
set_option maxHeartbeats 2000000 in
set_option maxRecDepth 100000 in
theorem rtake_calls {t : Nat} {L : RLay} {S : St} (th s : Int) (w : World) (h : RRepL w t L S) (hin : Inv S 1000) (hth : isTh th = true) (x : Tk) (hx : S.tk th.toNat = some x) :
    Calls Try.prog 75 #[.pointer (some ⟨t, 0, none⟩), .int .i64 th, .int .i64 s] w fun e w' => e = .returned (.int .i64 (takeS S th.toNat x.proc.toNat s).1) ∧ RAfter t (takeS S th.toNat x.proc.toNat s).2 w w' := by
  obtain ⟨t0, t1⟩ := isTh_iff.1 hth
  obtain ⟨p0, p1, _⟩ := hin.task th.toNat (by omega) x hx
  obtain ⟨i2, hi2, hz0, hz1, hz2⟩ := info_parts (P := Try.prog) (e := 127) (z := .agg #[.int .i64 0, .int .i64 0]) (size := 2) (bytes := 16) (by kernel_rfl)
  have c3 : w.cell? ⟨t, th.toNat * 7 + 3, none⟩ = some (L.lv th.toNat) := h.cell_task th.toNat 3 (by omega) (by omega)
  have c1 : w.cell? ⟨t, th.toNat * 7 + 1, none⟩ = some (.int .i64 (match S.tk th.toNat with | some x => x.proc | none => 0)) := h.cell_task th.toNat 1 (by omega) (by omega)
  rw [hx] at c1
  have c1' : w.cell? ⟨t, th.toNat * 7 + 1, none⟩ = some (.int .i64 x.proc) := c1
  have cp := h.cell_list x.proc.toNat (by omega)
  obtain ⟨A1, q1, e1, _⟩ := (h.row th.toNat (by omega)).at
  obtain ⟨A2, q2, e2, _⟩ := (h.row (256 + x.proc.toNat) (by omega)).at
  have HR1 := Lib.hid (h.row th.toNat (by omega))
  have HR2 := Lib.hid (h.row (256 + x.proc.toNat) (by omega))
  have HL := Lib.hid (And.intro (hin.len th.toNat (by omega)) (hin.len (256 + x.proc.toNat) (by omega)))
  rw [e1] at c3 HR1
  rw [e2] at cp HR2
  have htl := h.lt
  have f3 := h.frozenR (th.toNat * 7 + 3)
  have fp := h.frozenR (1792 + x.proc.toNat * 58)
  have HP := Lib.hid (rpends_calls _ s _ w HR1.out HL.out.1)
  have H := Lib.hid h
  clear h hin hth hx c1 e1 e2
  cases hp : pends (S.ls th.toNat) s
  · rw [hp] at HP
    have HST : Hid (takeS S th.toNat x.proc.toNat s = (valOf (S.ls (256 + x.proc.toNat)) s, { S with ls := upd S.ls (256 + x.proc.toNat) (cut (S.ls (256 + x.proc.toNat)) s) })) := Lib.hid (by unfold takeS srcOf; rw [hp]; rfl)
    rw [HST.out]
    have HPUT : Hid (∀ W v' w2, w.grownBy W (some t) → RRepL W t L S → Fresh W v' (cut (S.ls (256 + x.proc.toNat)) s) w2 → RAfter t { S with ls := upd S.ls (256 + x.proc.toNat) (cut (S.ls (256 + x.proc.toNat)) s) } w (w2.setCell ⟨t, 1792 + x.proc.toNat * 58, none⟩ v')) := Lib.hid fun W v' w2 hg hr hf => by
      have := RAfter.put_list H.out hg hr (i := (256 + x.proc.toNat)) (by omega) hf
      rwa [show slotCell (256 + x.proc.toNat) = 1792 + x.proc.toNat * 58 by unfold slotCell; rw [if_neg (by omega)]; omega] at this
    have HK := Lib.hid (tk3_spec (S.ls (256 + x.proc.toNat)) s)
    have HLN : Hid ((S.ls (256 + x.proc.toNat)).length ≤ 1000) := Lib.hid HL.out.2
    have HR := HR2
    obtain ⟨S9, hS9⟩ : ∃ S9 : St, ({ S with ls := upd S.ls (256 + x.proc.toNat) (cut (S.ls (256 + x.proc.toNat)) s) } : St) = S9 := ⟨_, rfl⟩
    rw [hS9] at HPUT ⊢
    clear hS9 HST hp HL HR1 HR2
    dsimp only
    generalize S.ls (256 + x.proc.toNat) = l at *
    go_enter Try.func75, Try.ntmps75
    go_wp2_with (go_at_call 72; refine HP.out.mono ?_; rintro e w1 ⟨rfl, hb⟩; have k1 := (hb.cell (p := ⟨t, th.toNat * 7 + 1, none⟩) htl).trans c1'; have k2 := (hb.cell (p := ⟨t, 1792 + x.proc.toNat * 58, none⟩) htl).trans cp; have kf := (hb.frozen (p := ⟨t, 1792 + x.proc.toNat * 58, none⟩) htl).trans fp; have HB := Lib.hid hb; clear hb)
    go_region
    have hlt2 : t < w1.drew.heap.size := Nat.lt_of_lt_of_le htl HB.out.size
    have HPUT2 := Lib.hid fun v' w2 => HPUT.out w1.drew v' w2 ((grown_below HB.out).trans (grown_drew w1 t)) ((H.out.below HB.out).drew)
    replace HR := Lib.hid (Ls.drew (HR.out.below HB.out))
    replace kf : w1.drew.frozen? ⟨t, 1792 + x.proc.toNat * 58, none⟩ = false := kf
    replace k2 : w1.drew.cell? ⟨t, 1792 + x.proc.toNat * 58, none⟩ = some (.slice A2 l.length q2) := k2
    clear HP H k1 c3 c1' cp HPUT HB f3 fp
    generalize w1.drew = w1 at *
    generalize 1792 + x.proc.toNat * 58 = off at *
    obtain ⟨A, cap, e0, _, _, _, hat⟩ := HR.out.at
    cases e0
    have HAT := Lib.hid hat
    clear hat
    go_wp2
    have HST : Hid (Fresh w1 (.slice (some ⟨w1.heap.size, 0, none⟩) 0 0) [] (w1.alloc (.cells #[] 127))) := Lib.hid ⟨⟨rfl, .inr ⟨w1.heap.size, 0, #[], rfl, heap_alloc_new w1 _, Nat.le_refl _, Nat.zero_le _, Nat.zero_le _, rfl⟩⟩, (Below.refl _ _).alloc (Nat.le_refl _) _, fun g hg => by cases hg; exact Nat.le_refl _⟩
    go_loopw [8, 9, 10, 11] (fun u v b i wr => ∃ k : Nat, k ≤ l.length ∧ i = .int .i64 k ∧ v = .int .i64 (tk3 (l.take k) s).2.1 ∧ b = .bool (tk3 (l.take k) s).2.2 ∧ Hid (Fresh w1 u (tk3 (l.take k) s).1 wr)) (fun _ _ _ i _ => l.length - (intOf i).toNat)
    case atStart => exact ⟨0, Nat.zero_le _, rfl, rfl, rfl, HST⟩
    case round =>
      obtain ⟨k, hk, rfl, rfl, rfl, HI⟩ := hrel
      have hcl := (HI.out.2.1.cell (p := ⟨t, off, none⟩) hlt2).trans k2
      have hl1000 := HLN.out
      by_cases hlt : k < l.length
      · obtain ⟨g, hgg, hg, hc0, hc1⟩ := HAT.out k hlt
        cases hgg
        have HQ := Lib.hid (tk3_snoc l s k hlt)
        have hwl : (tk3 (l.take k) s).1.length ≤ k := Nat.le_trans (tk3_len _ _) (List.length_take_le _ _)
        obtain ⟨T3, hT3⟩ : ∃ T3, tk3 (l.take (k + 1)) s = T3 := ⟨_, rfl⟩
        rw [hT3] at HQ
        have HT3 := Lib.hid hT3
        clear hT3
        generalize tk3 (l.take k) s = q at *
        obtain ⟨q, qv, qb⟩ := q
        dsimp only at HQ HI hwl
        generalize l.getD k (0, 0) = y at *
        obtain ⟨y1, y2⟩ := y
        obtain ⟨hls, hbel, hown⟩ := HI.out
        have hd0 := (hbel.cell (p := ⟨g, k * 2, none⟩) hg).trans hc0
        have hd1 := (hbel.cell (p := ⟨g, k * 2 + 1, none⟩) hg).trans hc1
        have HCE := Lib.hid (pair_cells hd0 hd1)
        have hlt' : (k : Int) < (l.length : Int) := by omega
        obtain ⟨A5, c5, rfl, _⟩ := hls.at
        have HLS := Lib.hid (hls.below ((Below.refl _ _).alloc (Nat.le_refl _) (.cells #[.int .i64 y1, .int .i64 y2] 127)))
        have HBEL := Lib.hid (hbel.alloc hbel.size (.cells #[.int .i64 y1, .int .i64 y2] 127))
        have HOWN := Lib.hid hown
        clear hc0 hc1 hls hbel hown
        by_cases hy : y1 = s ∧ qb = false
        · obtain ⟨hy, rfl⟩ := hy
          have hyb : (y1 == s) = true := by simpa using hy
          have HT : Hid (T3 = (q, y2, true)) := Lib.hid (by rw [HQ.out, if_pos ⟨hy, rfl⟩])
          clear hy HLS
          generalize q.length = n8 at *
          go_wp2
          go_roundw
          case rel => exact ⟨k + 1, by omega, by go_num, by rw [HT3.out, HT.out], by rw [HT3.out, HT.out], by rw [HT3.out, HT.out]; exact HI⟩
          case measure => simp [intOf]; omega
        · have HT : Hid (T3 = (q ++ [(y1, y2)], qv, qb)) := Lib.hid (by rw [HQ.out, if_neg hy])
          have hy2 : (y1 == s) = false ∨ ((y1 == s) = true ∧ qb = true) := by
            by_cases e : y1 = s
            · exact .inr ⟨by simpa using e, by cases qb; exact absurd ⟨e, rfl⟩ hy; rfl⟩
            · exact .inl (by simpa using e)
          clear hy
          obtain ⟨n8, hn8⟩ : ∃ n, q.length = n := ⟨_, rfl⟩
          rw [hn8] at hwl ⊢
          unfold Ls at HLS
          rw [hn8] at HLS HOWN
          have HN8 := Lib.hid hn8
          clear hn8
          rcases hy2 with hyb | ⟨hyb, rfl⟩
          all_goals
            go_wp2_with (first
              | ((with_reducible change wpList _ _ _ (⟨_, .load 127 (.tmp 70), _, _, _, _⟩ :: _) _ _); go_loud (refine wpList_load_cells (by rfl) 127 (.tmp 70) rfl ⟨g, k * 2, none⟩ rfl #[.int .i64 y1, .int .i64 y2] _ HCE.out Try.underlying127 rfl (n := 2) (by kernel_rfl) rfl ?_))
              | (at_builtin; go_loud (refine wpList_append_rw _ rfl _ _ 103 rfl 127 i2 (.agg #[.int .i64 0, .int .i64 0]) 2 16 Try.underlying103 hi2 hz0 hz1 hz2 rfl (by omega) _ _ _ rfl HLS.out _ 1 1 [.int .i64 y1, .int .i64 y2] rfl rfl (two_first wr _ _ 127) (fun h => by cases h) (by intro u hu; simp at hu; rcases hu with rfl | rfl <;> rfl) (by unfold maxLen; omega) (by omega) ?_; intro v' w3 hr3 hg3 ho3 hb3)))
            go_roundw
            case rel =>
              refine ⟨k + 1, by omega, by go_num, by rw [HT3.out, HT.out], by rw [HT3.out, HT.out], Lib.hid ⟨?_, ?_, ?_⟩⟩
              · rw [HT3.out, HT.out]
                unfold Ls
                dsimp only
                rw [List.length_append, HN8.out, pcells_append]
                exact hr3
              · exact HBEL.out.grown hg3 HBEL.out.size (fun g hg => HOWN.out g hg)
              · intro g hg
                rcases ho3 with e | e
                · rw [e] at hg; exact HOWN.out g hg
                · rw [e] at hg
                  cases hg
                  exact HBEL.out.size
            case measure => simp [intOf]; omega
      · obtain rfl : k = l.length := by omega
        have hge : ¬ ((l.length : Int) < (l.length : Int)) := by omega
        rw [List.take_length, HK.out] at HI ⊢
        have hfz := (HI.out.2.1.frozen (p := ⟨t, off, none⟩) hlt2).trans kf
        obtain ⟨A8, c8, rfl, _⟩ := HI.out.1.at
        go_wp2
        go_ret
        exact ⟨rfl, HPUT2.out _ _ HI.out⟩
  · rw [hp] at HP
    have HST : Hid (takeS S th.toNat x.proc.toNat s = (valOf (S.ls th.toNat) s, { S with ls := upd S.ls th.toNat (cut (S.ls th.toNat) s) })) := Lib.hid (by unfold takeS srcOf; rw [hp]; rfl)
    rw [HST.out]
    have HPUT : Hid (∀ W v' w2, w.grownBy W (some t) → RRepL W t L S → Fresh W v' (cut (S.ls th.toNat) s) w2 → RAfter t { S with ls := upd S.ls th.toNat (cut (S.ls th.toNat) s) } w (w2.setCell ⟨t, th.toNat * 7 + 3, none⟩ v')) := Lib.hid fun W v' w2 hg hr hf => by
      have := RAfter.put_list H.out hg hr (i := th.toNat) (by omega) hf
      rwa [show slotCell th.toNat = th.toNat * 7 + 3 by unfold slotCell; rw [if_pos (by omega)]] at this
    have HK := Lib.hid (tk3_spec (S.ls th.toNat) s)
    have HLN : Hid ((S.ls th.toNat).length ≤ 1000) := Lib.hid HL.out.1
    have HR := HR1
    obtain ⟨S9, hS9⟩ : ∃ S9 : St, ({ S with ls := upd S.ls th.toNat (cut (S.ls th.toNat) s) } : St) = S9 := ⟨_, rfl⟩
    rw [hS9] at HPUT ⊢
    clear hS9 HST hp HL HR1 HR2
    dsimp only
    generalize S.ls th.toNat = l at *
    go_enter Try.func75, Try.ntmps75
    go_wp2_with (go_at_call 72; refine HP.out.mono ?_; rintro e w1 ⟨rfl, hb⟩; have k1 := (hb.cell (p := ⟨t, th.toNat * 7 + 1, none⟩) htl).trans c1'; have k2 := (hb.cell (p := ⟨t, th.toNat * 7 + 3, none⟩) htl).trans c3; have kf := (hb.frozen (p := ⟨t, th.toNat * 7 + 3, none⟩) htl).trans f3; have HB := Lib.hid hb; clear hb)
    have hlt2 : t < w1.heap.size := Nat.lt_of_lt_of_le htl HB.out.size
    have HPUT2 := Lib.hid fun v' w2 => HPUT.out w1 v' w2 (grown_below HB.out) (H.out.below HB.out)
    replace HR : Hid (Ls w1 127 _ l) := Lib.hid (HR.out.below HB.out)
    clear HP H k1 c3 c1' cp HPUT HB f3 fp
    generalize th.toNat * 7 + 3 = off at *
    obtain ⟨A, cap, e0, _, _, _, hat⟩ := HR.out.at
    cases e0
    have HAT := Lib.hid hat
    clear hat
    go_wp2
    have HST : Hid (Fresh w1 (.slice (some ⟨w1.heap.size, 0, none⟩) 0 0) [] (w1.alloc (.cells #[] 127))) := Lib.hid ⟨⟨rfl, .inr ⟨w1.heap.size, 0, #[], rfl, heap_alloc_new w1 _, Nat.le_refl _, Nat.zero_le _, Nat.zero_le _, rfl⟩⟩, (Below.refl _ _).alloc (Nat.le_refl _) _, fun g hg => by cases hg; exact Nat.le_refl _⟩
    go_loopw [8, 9, 10, 11] (fun u v b i wr => ∃ k : Nat, k ≤ l.length ∧ i = .int .i64 k ∧ v = .int .i64 (tk3 (l.take k) s).2.1 ∧ b = .bool (tk3 (l.take k) s).2.2 ∧ Hid (Fresh w1 u (tk3 (l.take k) s).1 wr)) (fun _ _ _ i _ => l.length - (intOf i).toNat)
    case atStart => exact ⟨0, Nat.zero_le _, rfl, rfl, rfl, HST⟩
    case round =>
      obtain ⟨k, hk, rfl, rfl, rfl, HI⟩ := hrel
      have hcl := (HI.out.2.1.cell (p := ⟨t, off, none⟩) hlt2).trans k2
      have hl1000 := HLN.out
      by_cases hlt : k < l.length
      · obtain ⟨g, hgg, hg, hc0, hc1⟩ := HAT.out k hlt
        cases hgg
        have HQ := Lib.hid (tk3_snoc l s k hlt)
        have hwl : (tk3 (l.take k) s).1.length ≤ k := Nat.le_trans (tk3_len _ _) (List.length_take_le _ _)
        obtain ⟨T3, hT3⟩ : ∃ T3, tk3 (l.take (k + 1)) s = T3 := ⟨_, rfl⟩
        rw [hT3] at HQ
        have HT3 := Lib.hid hT3
        clear hT3
        generalize tk3 (l.take k) s = q at *
        obtain ⟨q, qv, qb⟩ := q
        dsimp only at HQ HI hwl
        generalize l.getD k (0, 0) = y at *
        obtain ⟨y1, y2⟩ := y
        obtain ⟨hls, hbel, hown⟩ := HI.out
        have hd0 := (hbel.cell (p := ⟨g, k * 2, none⟩) hg).trans hc0
        have hd1 := (hbel.cell (p := ⟨g, k * 2 + 1, none⟩) hg).trans hc1
        have HCE := Lib.hid (pair_cells hd0 hd1)
        have hlt' : (k : Int) < (l.length : Int) := by omega
        obtain ⟨A5, c5, rfl, _⟩ := hls.at
        have HLS := Lib.hid (hls.below ((Below.refl _ _).alloc (Nat.le_refl _) (.cells #[.int .i64 y1, .int .i64 y2] 127)))
        have HBEL := Lib.hid (hbel.alloc hbel.size (.cells #[.int .i64 y1, .int .i64 y2] 127))
        have HOWN := Lib.hid hown
        clear hc0 hc1 hls hbel hown
        by_cases hy : y1 = s ∧ qb = false
        · obtain ⟨hy, rfl⟩ := hy
          have hyb : (y1 == s) = true := by simpa using hy
          have HT : Hid (T3 = (q, y2, true)) := Lib.hid (by rw [HQ.out, if_pos ⟨hy, rfl⟩])
          clear hy HLS
          generalize q.length = n8 at *
          go_wp2
          go_roundw
          case rel => exact ⟨k + 1, by omega, by go_num, by rw [HT3.out, HT.out], by rw [HT3.out, HT.out], by rw [HT3.out, HT.out]; exact HI⟩
          case measure => simp [intOf]; omega
        · have HT : Hid (T3 = (q ++ [(y1, y2)], qv, qb)) := Lib.hid (by rw [HQ.out, if_neg hy])
          have hy2 : (y1 == s) = false ∨ ((y1 == s) = true ∧ qb = true) := by
            by_cases e : y1 = s
            · exact .inr ⟨by simpa using e, by cases qb; exact absurd ⟨e, rfl⟩ hy; rfl⟩
            · exact .inl (by simpa using e)
          clear hy
          obtain ⟨n8, hn8⟩ : ∃ n, q.length = n := ⟨_, rfl⟩
          rw [hn8] at hwl ⊢
          unfold Ls at HLS
          rw [hn8] at HLS HOWN
          have HN8 := Lib.hid hn8
          clear hn8
          rcases hy2 with hyb | ⟨hyb, rfl⟩
          all_goals
            go_wp2_with (first
              | ((with_reducible change wpList _ _ _ (⟨_, .load 127 (.tmp 70), _, _, _, _⟩ :: _) _ _); go_loud (refine wpList_load_cells (by rfl) 127 (.tmp 70) rfl ⟨g, k * 2, none⟩ rfl #[.int .i64 y1, .int .i64 y2] _ HCE.out Try.underlying127 rfl (n := 2) (by kernel_rfl) rfl ?_))
              | (at_builtin; go_loud (refine wpList_append_rw _ rfl _ _ 103 rfl 127 i2 (.agg #[.int .i64 0, .int .i64 0]) 2 16 Try.underlying103 hi2 hz0 hz1 hz2 rfl (by omega) _ _ _ rfl HLS.out _ 1 1 [.int .i64 y1, .int .i64 y2] rfl rfl (two_first wr _ _ 127) (fun h => by cases h) (by intro u hu; simp at hu; rcases hu with rfl | rfl <;> rfl) (by unfold maxLen; omega) (by omega) ?_; intro v' w3 hr3 hg3 ho3 hb3)))
            go_roundw
            case rel =>
              refine ⟨k + 1, by omega, by go_num, by rw [HT3.out, HT.out], by rw [HT3.out, HT.out], Lib.hid ⟨?_, ?_, ?_⟩⟩
              · rw [HT3.out, HT.out]
                unfold Ls
                dsimp only
                rw [List.length_append, HN8.out, pcells_append]
                exact hr3
              · exact HBEL.out.grown hg3 HBEL.out.size (fun g hg => HOWN.out g hg)
              · intro g hg
                rcases ho3 with e | e
                · rw [e] at hg; exact HOWN.out g hg
                · rw [e] at hg
                  cases hg
                  exact HBEL.out.size
            case measure => simp [intOf]; omega
      · obtain rfl : k = l.length := by omega
        have hge : ¬ ((l.length : Int) < (l.length : Int)) := by omega
        rw [List.take_length, HK.out] at HI ⊢
        have hfz := (HI.out.2.1.frozen (p := ⟨t, off, none⟩) hlt2).trans kf
        obtain ⟨A8, c8, rfl, _⟩ := HI.out.1.at
        go_wp2
        go_ret
        exact ⟨rfl, HPUT2.out _ _ HI.out⟩
end Go.Proofs.Ytbpihfphoniclaa
namespace Go.Proofs.Ytbpihfphoniclaa
open Go.RowKit
set_option linter.unusedVariables false
theorem orOf_and {l : List Pd} (h : ∀ x ∈ l, 1 ≤ x.1 ∧ x.1 ≤ 56) (b : Nat) : orOf l &&& (b &&& allM) = orOf l &&& b := by
  rw [Nat.and_comm b, ← Nat.and_assoc]
  congr 1
  exact Nat.and_two_pow_sub_one_of_lt_two_pow (n := 56) (orOf_lt _ h)
theorem both_sig {S : St} {n : Nat} (hin : Inv S n) {i : Nat} (hi : i < 256) {x : Tk} (hx : S.tk i = some x) : ∀ y ∈ both S i x.proc.toNat, 1 ≤ y.1 ∧ y.1 ≤ 56 := by
  obtain ⟨p0, p1, _⟩ := hin.task i hi x hx
  intro y hy
  rcases List.mem_append.1 hy with h | h
  · exact hin.sig _ (by omega) y h
  · exact hin.sig _ (by omega) y h
theorem Inv.setGot {S : St} {n : Nat} (h : Inv S n) (g : Nat → Int) : Inv { S with got := g } n := ⟨h.sig, h.len, h.task, h.dead, h.ignT, h.ignP⟩
theorem lowest_in56 {l : List Pd} (h : ∀ x ∈ l, 1 ≤ x.1 ∧ x.1 ≤ 56) (m : Nat) : 0 ≤ lowest l m ∧ lowest l m ≤ 56 := by
  rcases lowest_spec l m (fun x hx => (h x hx).1) with ⟨h1, _⟩ | ⟨x, hx, h1, _⟩
  · omega
  · have := h x hx
    omega
set_option maxRecDepth 100000 in
theorem rwait_some {t : Nat} {L : RLay} {S : St} (th : Int) (b : Nat) (w : World) (h : RRepL w t L S) (hin : Inv S 1000) (hb : b < 18446744073709551616) (hth : isTh th = true) (x : Tk) (hx : S.tk th.toNat = some x) (hxw : x.waits = false) (sg : Int) (hsg : lowest (both S th.toNat x.proc.toNat) (b &&& allM) = sg) :
    Calls Try.prog 50 #[.pointer (some ⟨t, 0, none⟩), .int .i64 th, .int .u64 b] w fun e w' =>
      (sg = 0 → e = .returned (.tuple #[.int .i64 0, .int .i64 0, .bool true, .int .i64 0]) ∧ RAfter t { S with tk := upd S.tk th.toNat (some { x with waits := true, wants := b &&& allM }), got := upd S.got th.toNat 0 } w w') ∧
      (sg ≠ 0 → e = .returned (.tuple #[.int .i64 sg, .int .i64 (takeS S th.toNat x.proc.toNat sg).1, .bool false, .int .i64 0]) ∧ RAfter t { (takeS S th.toNat x.proc.toNat sg).2 with got := upd S.got th.toNat sg } w w') := by
  obtain ⟨t0, t1⟩ := isTh_iff.1 hth
  have H1 := Lib.hid hth
  have hsig := both_sig hin (show th.toNat < 256 by omega) hx
  obtain ⟨g0, g1⟩ := lowest_in56 hsig (b &&& allM)
  rw [hsg] at g0 g1
  have hol := orOf_lt _ hsig
  have hle : least (orOf (both S th.toNat x.proc.toNat) &&& b) = sg := by rw [← orOf_and hsig b, ← lowest_least _ _ hsig, hsg]
  have hand : bits .and .u64 ((orOf (both S th.toNat x.proc.toNat) : Nat) : Int) (b : Int) = ((orOf (both S th.toNat x.proc.toNat) &&& b : Nat) : Int) := u64_and_nat _ _ (by omega) hb
  have hml : orOf (both S th.toNat x.proc.toNat) &&& b < 18446744073709551616 := Nat.lt_of_le_of_lt Nat.and_le_left (by omega)
  have HC := Lib.hid (rpending_calls th w h hin hth x hx)
  have c0 : w.cell? ⟨t, th.toNat * 7, none⟩ = some (.bool (S.tk th.toNat).isSome) := h.cell_task th.toNat 0 (by omega) (by omega)
  have c4 := h.cell_task th.toNat 4 (by omega) (by omega)
  unfold rtask at c4
  rw [hx] at c4 c0
  have c4' : w.cell? ⟨t, th.toNat * 7 + 4, none⟩ = some (.bool x.waits) := c4
  rw [hxw] at c4'
  have c0' : w.cell? ⟨t, th.toNat * 7, none⟩ = some (.bool true) := c0
  have HW : Hid (∀ W, Below w.heap.size w W → W.frozen? ⟨t, th.toNat * 7 + 4, none⟩ = false ∧ W.frozen? ⟨t, th.toNat * 7 + 5, none⟩ = false ∧ W.frozen? ⟨t, th.toNat * 7 + 6, none⟩ = false ∧ W.cell? ⟨t, th.toNat * 7 + 4, none⟩ = some (rtask L S th.toNat 4) ∧ W.cell? ⟨t, th.toNat * 7 + 5, none⟩ = some (rtask L S th.toNat 5) ∧ W.cell? ⟨t, th.toNat * 7 + 6, none⟩ = some (rtask L S th.toNat 6) ∧
      (RAfter t { S with tk := upd S.tk th.toNat (some { x with waits := true, wants := b &&& allM }), got := upd S.got th.toNat 0 } w (((W.setCell ⟨t, th.toNat * 7 + 4, none⟩ (.bool true)).setCell ⟨t, th.toNat * 7 + 5, none⟩ (.int .u64 b)).setCell ⟨t, th.toNat * 7 + 6, none⟩ (.int .i64 0))) ∧
      (∀ s, Calls Try.prog 75 #[.pointer (some ⟨t, 0, none⟩), .int .i64 th, .int .i64 s] (W.setCell ⟨t, th.toNat * 7 + 6, none⟩ (.int .i64 s)) fun e w' => e = .returned (.int .i64 (takeS S th.toNat x.proc.toNat s).1) ∧ RAfter t { (takeS S th.toNat x.proc.toNat s).2 with got := upd S.got th.toNat s } w w')) := Lib.hid fun W hB => by
    have hW := h.below hB
    refine ⟨hW.frozenR _, hW.frozenR _, hW.frozenR _, hW.cell_task _ 4 (by omega) (by omega), hW.cell_task _ 5 (by omega) (by omega), hW.cell_task _ 6 (by omega) (by omega), ⟨⟨_, (hW.put_wait2 (by omega) hx true b (b &&& allM) hb (fun _ => rfl)).put_got (show th.toNat < 256 by omega) 0⟩, (grown_below hB).trans (((grown_set _ _ _ _).trans (grown_set _ _ _ _)).trans (grown_set _ _ _ _))⟩, fun s => ?_⟩
    have hG := hW.put_got (show th.toNat < 256 by omega) s
    refine (rtake_calls th s _ hG (hin.setGot _) hth x hx).mono ?_
    rintro e w' ⟨rfl, hr, hg⟩
    exact ⟨rfl, hr, ((grown_below hB).trans (grown_set _ _ _ _)).trans hg⟩
  generalize orOf (both S th.toNat x.proc.toNat) = o at *
  generalize o &&& b = ob at *
  have HML := Lib.hid (And.intro hml hle)
  clear h hin hth hx c4 c0 hsig hsg hol hml hle hxw
  by_cases hz : sg = 0
  · subst hz
    go_enter Try.func50, Try.ntmps50
    go_wp2_with (first
      | (go_at_call 63; refine (rthread_calls th _).mono ?_; rw [H1.out]; rintro e w' ⟨rfl, rfl⟩)
      | (go_at_call 74; refine HC.out.mono ?_; rintro e w1 ⟨rfl, hb1⟩; have HB1 := Lib.hid hb1; clear hb1)
      | (go_at_call 73; refine (rleast_calls ob _ HML.out.1).mono ?_; rw [HML.out.2]; rintro e w2 ⟨rfl, hb2⟩; have HB2 := Lib.hid (below_then' HB1.out hb2); clear hb2; obtain ⟨f4, f5, f6, k4, k5, k6, hput, -⟩ := HW.out _ HB2.out; have HPUT := Lib.hid hput; clear hput))
    exact bodyPost_ret (results_tmp4 rfl _ _ _) rfl ⟨fun _ => ⟨rfl, HPUT.out⟩, fun h => absurd rfl h⟩
  · have hz1 : (0 : Int) < sg := by omega
    go_enter Try.func50, Try.ntmps50
    go_wp2_with (first
      | (go_at_call 63; refine (rthread_calls th _).mono ?_; rw [H1.out]; rintro e w' ⟨rfl, rfl⟩)
      | (go_at_call 74; refine HC.out.mono ?_; rintro e w1 ⟨rfl, hb1⟩; have HB1 := Lib.hid hb1; clear hb1)
      | (go_at_call 73; refine (rleast_calls ob _ HML.out.1).mono ?_; rw [HML.out.2]; rintro e w2 ⟨rfl, hb2⟩; have HB2 := Lib.hid (below_then' HB1.out hb2); clear hb2; obtain ⟨f4, f5, f6, k4, k5, k6, -, hput⟩ := HW.out _ HB2.out; have HPUT := Lib.hid hput; clear hput)
      | (go_at_call 75; refine (HPUT.out sg).mono ?_; rintro e w3 ⟨rfl, ha⟩; have HA := Lib.hid ha; clear ha))
    exact bodyPost_ret (results_tmp4 rfl _ _ _) rfl ⟨fun h => absurd h hz, fun _ => ⟨rfl, HA.out⟩⟩
set_option maxRecDepth 100000 in
theorem rwait_calls {t : Nat} {L : RLay} {S : St} (th : Int) (b : Nat) (w : World) (h : RRepL w t L S) (hin : Inv S 1000) (hb : b < 18446744073709551616) :
    Calls Try.prog 50 #[.pointer (some ⟨t, 0, none⟩), .int .i64 th, .int .u64 b] w fun e w' => e = .returned (.tuple #[.int .i64 (waitS S th b).1.1, .int .i64 (waitS S th b).1.2.1, .bool (waitS S th b).1.2.2.1, .int .i64 (waitS S th b).1.2.2.2]) ∧ RAfter t (waitS S th b).2 w w' := by
  have HA := Lib.hid (RAfter.refl h)
  cases hth : isTh th with
  | false =>
    rw [show waitS S th b = ((0, 0, false, 34), S) by simp [waitS, hth]]
    have H1 := Lib.hid hth
    clear hth h
    go_enter Try.func50, Try.ntmps50
    go_wp2_with (go_at_call 63; refine (rthread_calls th _).mono ?_; rw [H1.out]; rintro e w' ⟨rfl, rfl⟩)
    exact bodyPost_ret (results_tmp4 rfl _ _ _) rfl ⟨rfl, HA.out⟩
  | true =>
    obtain ⟨t0, t1⟩ := isTh_iff.1 hth
    have H1 := Lib.hid hth
    have c0 : w.cell? ⟨t, th.toNat * 7, none⟩ = some (.bool (S.tk th.toNat).isSome) := h.cell_task th.toNat 0 (by omega) (by omega)
    have c4 := h.cell_task th.toNat 4 (by omega) (by omega)
    unfold rtask at c4
    cases hx : S.tk th.toNat with
    | none =>
      rw [show waitS S th b = ((0, 0, false, 24), S) by simp [waitS, hth, hx]]
      rw [hx] at c0
      have c0' : w.cell? ⟨t, th.toNat * 7, none⟩ = some (.bool false) := c0
      clear hth h hx c0 c4
      go_enter Try.func50, Try.ntmps50
      go_wp2_with (go_at_call 63; refine (rthread_calls th _).mono ?_; rw [H1.out]; rintro e w' ⟨rfl, rfl⟩)
      exact bodyPost_ret (results_tmp4 rfl _ _ _) rfl ⟨rfl, HA.out⟩
    | some x =>
      rw [hx] at c0 c4
      have c0' : w.cell? ⟨t, th.toNat * 7, none⟩ = some (.bool true) := c0
      have c4' : w.cell? ⟨t, th.toNat * 7 + 4, none⟩ = some (.bool x.waits) := c4
      cases hxw : x.waits with
      | true =>
        rw [show waitS S th b = ((0, 0, false, 35), S) by simp [waitS, hth, hx, hxw]]
        rw [hxw] at c4'
        clear hth h hx c0 c4 hxw
        go_enter Try.func50, Try.ntmps50
        go_wp2_with (go_at_call 63; refine (rthread_calls th _).mono ?_; rw [H1.out]; rintro e w' ⟨rfl, rfl⟩)
        exact bodyPost_ret (results_tmp4 rfl _ _ _) rfl ⟨rfl, HA.out⟩
      | false =>
        refine (rwait_some th b w h hin hb hth x hx hxw _ rfl).mono ?_
        rintro e w' ⟨h1, h2⟩
        by_cases hz : lowest (both S th.toNat x.proc.toNat) (b &&& allM) = 0
        · obtain ⟨rfl, ha⟩ := h1 hz
          rw [show waitS S th b = ((0, 0, true, 0), { S with tk := upd S.tk th.toNat (some { x with waits := true, wants := b &&& allM }), got := upd S.got th.toNat 0 }) by simp [waitS, hth, hx, hxw, hz]]
          exact ⟨rfl, ha⟩
        · obtain ⟨rfl, ha⟩ := h2 hz
          rw [show waitS S th b = ((lowest (both S th.toNat x.proc.toNat) (b &&& allM), (takeS S th.toNat x.proc.toNat (lowest (both S th.toNat x.proc.toNat) (b &&& allM))).1, false, 0), { (takeS S th.toNat x.proc.toNat (lowest (both S th.toNat x.proc.toNat) (b &&& allM))).2 with got := upd S.got th.toNat (lowest (both S th.toNat x.proc.toNat) (b &&& allM)) }) by simp [waitS, hth, hx, hxw, hz]]
          exact ⟨rfl, ha⟩
end Go.Proofs.Ytbpihfphoniclaa
namespace Go.Proofs.Ytbpihfphoniclaa
open Go.RowKit
set_option linter.unusedVariables false
def zp58 : Array Value := (Value.slice none 0 0 :: List.replicate 57 (Value.int .i64 0)).toArray
theorem built108 : Try.prog.built 108 [] = some zp58 := by kernel_rfl
theorem size108 : (Try.prog.info? 108).map (·.size) = some 58 := by kernel_rfl
theorem zp58_size : zp58.size = 58 := by decide
theorem zp58_one : zp58.all (·.oneCell') = true := by kernel_rfl
theorem zp58_get (j : Nat) (h : j < 58) : zp58.toList[j]? = some (if j = 0 then .slice none 0 0 else .int .i64 0) := by
  have e : zp58.toList = Value.slice none 0 0 :: List.replicate 57 (Value.int .i64 0) := rfl
  rw [e]
  match j with
  | 0 => rfl
  | j + 1 => rw [List.getElem?_cons_succ, List.getElem?_replicate, if_pos (by omega), if_neg (by omega)]
theorem rthere_tab {w : World} {t : Nat} {L : RLay} {S : St} (h : RRepL w t L S) (o n : Nat) (hn : o + n ≤ 5504) : w.there t o n := fun j hj => ⟨by rw [h.cellR (o + j) (by omega)]; rfl, h.frozenR (o + j)⟩
theorem rcell_wipe (L : RLay) (S : St) {p : Nat} (hp : p < 64) (j : Nat) (c1 : ¬ (1792 + p * 58 ≤ j ∧ j < 1792 + p * 58 + 58)) :
    rcell { L with lv := upd L.lv (256 + p) (.slice none 0 0) } { S with ac := upd S.ac p (fun _ => 0), ls := upd S.ls (256 + p) [] } j = rcell L S j := by
  unfold rcell
  by_cases h8 : j < 1792
  · rw [if_pos h8, if_pos h8]
    unfold rtask
    dsimp only
    rw [upd_other _ _ (show j / 7 ≠ 256 + p by omega)]
  · have hne : (j - 1792) / 58 ≠ p := by omega
    rw [if_neg h8, if_neg h8]
    dsimp only
    rw [upd_other _ _ hne, upd_other _ _ (show 256 + (j - 1792) / 58 ≠ 256 + p by omega)]
set_option maxRecDepth 100000 in
theorem rwipe_after {w : World} {t : Nat} {L : RLay} {S : St} (h : RRepL w t L S) {p : Nat} (hp : p < 64) : RAfter t { S with ac := upd S.ac p (fun _ => 0), ls := upd S.ls (256 + p) [] } w (w.setCells t (1792 + p * 58) zp58.toList) := by
  obtain ⟨cs, h1, h2, h3⟩ := h.tab
  obtain ⟨cs', h4, h5⟩ := setCells_row zp58.toList (1792 + p * 58) w cs h1
  have hth := rthere_tab h (1792 + p * 58) 58 (by omega)
  have hlen : zp58.toList.length = 58 := by decide
  have hc : ∀ j, cs'[j]? = (w.setCells t (1792 + p * 58) zp58.toList).cell? ⟨t, j, none⟩ := fun j => by rw [cell_of_row _ _ _ _ _ _ h4]
  have hin := World.rangeAt_setCells_same w t (1792 + p * 58) zp58.toList (by rw [hlen]; exact hth)
  obtain ⟨o1, o2, o3, o4⟩ := setCells_os t zp58.toList (1792 + p * 58) w
  have keep : ∀ {u : Value} {l : List Pd}, Ls w 127 u l → Ls (w.setCells t (1792 + p * 58) zp58.toList) 127 u l := by
    intro u' l' hu'
    refine hu'.kept fun k hk => setCells_else _ _ _ _ ?_
    rintro e
    cases e
    obtain ⟨cur, hc⟩ := hu'.ty _ hk
    rw [h1] at hc
    cases hc
  refine ⟨⟨{ L with lv := upd L.lv (256 + p) (.slice none 0 0) }, ⟨cs', h4, by omega, fun j hj => ?_⟩, fun k hk => ?_, h.sets⟩, ⟨o1, o2, o3, by omega, fun k hk hne => setCells_else _ _ _ _ (fun e => hne (by rw [e]))⟩⟩
  · rw [hc]
    by_cases c1 : 1792 + p * 58 ≤ j ∧ j < 1792 + p * 58 + 58
    · have := hin (j - (1792 + p * 58)) _ (zp58_get (j - (1792 + p * 58)) (by omega))
      rw [show 1792 + p * 58 + (j - (1792 + p * 58)) = j by omega] at this
      rw [this]
      unfold rcell
      rw [if_neg (show ¬ j < 1792 by omega)]
      have e1 : (j - 1792) / 58 = p := by omega
      by_cases c2 : j - (1792 + p * 58) = 0
      · rw [if_pos c2, if_pos (by omega), e1]
        dsimp only
        rw [upd_same]
      · rw [if_neg c2, if_neg (by omega), e1]
        dsimp only
        rw [upd_same]
    · have hold : w.rangeAt t j [rcell L S j] := by
        intro q v hq
        match q, hq with
        | 0, hq => cases hq; exact h.cellR j hj
        | q + 1, hq => simp at hq
      have := World.rangeAt_setCells_apart hold t (1792 + p * 58) zp58.toList (by rw [hlen]; simp; omega) 0 _ rfl
      rw [Nat.add_zero] at this
      rw [this]
      rw [rcell_wipe L S hp j c1]
  · by_cases e : k = 256 + p
    · subst e
      dsimp only
      rw [upd_same, upd_same]
      exact ls_nil _ _
    · dsimp only
      rw [upd_other _ _ e, upd_other _ _ e]
      exact keep (h.row k hk)
set_option maxHeartbeats 1000000 in
set_option maxRecDepth 100000 in
theorem rend_calls {t : Nat} {L : RLay} {S : St} (th : Int) (w : World) (h : RRepL w t L S) (hin : Inv S 1000) :
    Calls Try.prog 46 #[.pointer (some ⟨t, 0, none⟩), .int .i64 th] w fun e w' => e = .returned (.int .i64 (endS S th).1) ∧ RAfter t (endS S th).2 w w' := by
  have HA := Lib.hid (RAfter.refl h)
  cases hth : isTh th with
  | false =>
    rw [show endS S th = (34, S) by simp [endS, hth]]
    have H1 := Lib.hid hth
    clear hth h
    go_enter Try.func46, Try.ntmps46
    go_wp2_with (go_at_call 63; refine (rthread_calls th _).mono ?_; rw [H1.out]; rintro e w' ⟨rfl, rfl⟩)
    go_ret
    exact ⟨rfl, HA.out⟩
  | true =>
    obtain ⟨t0, t1⟩ := isTh_iff.1 hth
    have H1 := Lib.hid hth
    have c0 : w.cell? ⟨t, th.toNat * 7, none⟩ = some (.bool (S.tk th.toNat).isSome) := h.cell_task th.toNat 0 (by omega) (by omega)
    cases hx : S.tk th.toNat with
    | none =>
      rw [show endS S th = (24, S) by simp [endS, hth, hx]]
      rw [hx] at c0
      have c0' : w.cell? ⟨t, th.toNat * 7, none⟩ = some (.bool false) := c0
      clear hth h hx c0
      go_enter Try.func46, Try.ntmps46
      go_wp2_with (go_at_call 63; refine (rthread_calls th _).mono ?_; rw [H1.out]; rintro e w' ⟨rfl, rfl⟩)
      go_ret
      exact ⟨rfl, HA.out⟩
    | some x =>
      obtain ⟨p0, p1, _⟩ := hin.task th.toNat (by omega) x hx
      have c1 := h.cell_task th.toNat 1 (by omega) (by omega)
      have c2 := h.cell_task th.toNat 2 (by omega) (by omega)
      have c3 := h.cell_task th.toNat 3 (by omega) (by omega)
      have c4 := h.cell_task th.toNat 4 (by omega) (by omega)
      have c5 := h.cell_task th.toNat 5 (by omega) (by omega)
      have c6 := h.cell_task th.toNat 6 (by omega) (by omega)
      have y0 := h.frozenR (th.toNat * 7)
      have y1 := h.frozenR (th.toNat * 7 + 1)
      have y2 := h.frozenR (th.toNat * 7 + 2)
      have y3 := h.frozenR (th.toNat * 7 + 3)
      have y4 := h.frozenR (th.toNat * 7 + 4)
      have y5 := h.frozenR (th.toNat * 7 + 5)
      have y6 := h.frozenR (th.toNat * 7 + 6)
      rw [hx] at c0
      have c0' : w.cell? ⟨t, th.toNat * 7, none⟩ = some (.bool true) := c0
      have c1' : w.cell? ⟨t, th.toNat * 7 + 1, none⟩ = some (.int .i64 x.proc) := by unfold rtask at c1; rw [hx] at c1; exact c1
      have hst := h.task_store (i := th.toNat) (by omega) none 0 0 (ls_nil w 127) (by omega) (fun y hy hyw => by cases hy)
      have hgr := grown_set7 w t (th.toNat * 7) (.bool false) (.int .i64 0) (.int .u64 0) (.slice none 0 0) (.bool false) (.int .u64 0) (.int .i64 0)
      rw [show endS S th = if (threads { S with tk := upd S.tk th.toNat none, ls := upd S.ls th.toNat [], got := upd S.got th.toNat 0 } x.proc).isEmpty then (0, { S with tk := upd S.tk th.toNat none, ls := upd (upd S.ls th.toNat []) (256 + x.proc.toNat) [], got := upd S.got th.toNat 0, ac := upd S.ac x.proc.toNat (fun _ => 0) }) else (0, { S with tk := upd S.tk th.toNat none, ls := upd S.ls th.toNat [], got := upd S.got th.toNat 0 }) by simp [endS, hth, hx]]
      change RRepL (set7 w t (th.toNat * 7) (.bool false) (.int .i64 0) (.int .u64 0) (.slice none 0 0) (.bool false) (.int .u64 0) (.int .i64 0)) t _ _ at hst
      obtain ⟨S1, hS1⟩ : ∃ S1 : St, ({ S with tk := upd S.tk th.toNat none, ls := upd S.ls th.toNat [], got := upd S.got th.toNat 0 } : St) = S1 := ⟨_, rfl⟩
      rw [show ({ S with tk := upd S.tk th.toNat none, ls := upd (upd S.ls th.toNat []) (256 + x.proc.toNat) [], got := upd S.got th.toNat 0, ac := upd S.ac x.proc.toNat (fun _ => 0) } : St) = { S1 with ac := upd S1.ac x.proc.toNat (fun _ => 0), ls := upd S1.ls (256 + x.proc.toNat) [] } by rw [← hS1]]
      rw [hS1] at hst ⊢
      obtain ⟨L1, hst⟩ : ∃ L1, RRepL (set7 w t (th.toNat * 7) (.bool false) (.int .i64 0) (.int .u64 0) (.slice none 0 0) (.bool false) (.int .u64 0) (.int .i64 0)) t L1 S1 := ⟨_, hst⟩
      have HST := Lib.hid (And.intro hst hgr)
      have HH := Lib.hid (rhas_calls x.proc _ hst)
      have hpn : (x.proc : Int) < 64 := p1
      clear hth h hin hx c0 hst hgr hS1 c1
      cases hem : (threads S1 x.proc).isEmpty
      all_goals
        rw [apply_ite Prod.fst, apply_ite Prod.snd]
        first
          | rw [if_pos rfl, if_pos rfl]
          | rw [if_neg Bool.false_ne_true, if_neg Bool.false_ne_true]
        rw [hem] at HH
        clear hem
      · go_enter Try.func46, Try.ntmps46
        go_wp2_with (first
          | (go_at_call 63; refine (rthread_calls th _).mono ?_; rw [H1.out]; rintro e w' ⟨rfl, rfl⟩)
          | (go_at_call 65; refine HH.out.mono ?_; rintro e w' ⟨rfl, rfl⟩))
        go_ret
        exact ⟨rfl, ⟨_, HST.out.1⟩, HST.out.2⟩
      · have hb := built108
        go_enter Try.func46, Try.ntmps46
        go_wp2_with (first
          | (go_at_call 63; refine (rthread_calls th _).mono ?_; rw [H1.out]; rintro e w' ⟨rfl, rfl⟩)
          | (go_at_call 65; refine HH.out.mono ?_; rintro e w' ⟨rfl, rfl⟩)
          | ((with_reducible change wpList _ _ _ (⟨_, .store 108 (.tmp 39) (.tmp 36), _, _, _, _⟩ :: _) _ _); refine wpList_store_mid rfl 108 (.tmp 39) (.tmp 36) rfl t (1792 + x.proc.toNat * 58) zp58 rfl rfl (by rw [zp58_size]; exact rthere_tab HST.out.1 _ _ (by omega)) (by rw [zp58_size]; exact size108) zp58_one ?_))
        go_ret
        have hA := rwipe_after HST.out.1 (show x.proc.toNat < 64 by omega)
        exact ⟨rfl, hA.1, HST.out.2.trans hA.2⟩
end Go.Proofs.Ytbpihfphoniclaa
namespace Go.Proofs.Ytbpihfphoniclaa
open Go.RowKit
set_option linter.unusedVariables false
theorem rcell_setac (L : RLay) (S : St) {p s : Nat} (hp : p < 64) (hs : s < 57) (a : Int) (j : Nat) :
    rcell L { S with ac := upd S.ac p (upd (S.ac p) s a) } j = if j = 1792 + p * 58 + 1 + s then .int .i64 a else rcell L S j := by
  unfold rcell
  by_cases h1 : j < 1792
  · rw [if_pos h1, if_pos h1, if_neg (by omega)]
    rfl
  · rw [if_neg h1, if_neg h1]
    by_cases h2 : (j - 1792) % 58 = 0
    · rw [if_pos h2, if_pos h2, if_neg (by omega)]
    · rw [if_neg h2, if_neg h2]
      dsimp only
      by_cases h3 : (j - 1792) / 58 = p
      · rw [h3, upd_same]
        by_cases h4 : (j - 1792) % 58 - 1 = s
        · rw [h4, upd_same, if_pos (by omega)]
        · rw [upd_other _ _ h4, if_neg (by omega)]
      · rw [upd_other _ _ h3, if_neg (by omega)]
theorem RRepL.put_ac {w : World} {t : Nat} {L : RLay} {S : St} (h : RRepL w t L S) {p s : Nat} (hp : p < 64) (hs : s < 57) (a : Int) :
    RRepL (w.setCell ⟨t, 1792 + p * 58 + 1 + s, none⟩ (.int .i64 a)) t L { S with ac := upd S.ac p (upd (S.ac p) s a) } :=
  h.put _ _ (fun j hj => rcell_setac L S hp hs a j) (fun j hj => h.rows_set _ _ (h.row j hj)) h.sets
set_option maxRecDepth 100000 in
theorem raction_ok {t : Nat} {L : RLay} {S : St} {n : Nat} (p s a : Int) (w : World) (h : RRepL w t L S) (hin : Inv S 1000) (hp : isPr p = true) (h1 : 1 ≤ s) (h56 : s ≤ 56) (ha0 : 0 ≤ a) (ha2 : a ≤ 2) (h9 : s ≠ 9) (h19 : s ≠ 19) :
    Calls Try.prog 47 #[.pointer (some ⟨t, 0, none⟩), .int .i64 p, .int .i64 s, .int .i64 a] w fun e w' => e = .returned (.tuple #[.int .i64 (S.ac p.toNat s.toNat), .int .i64 0]) ∧
      RAfter t (if ignored { S with ac := upd S.ac p.toNat (upd (S.ac p.toNat) s.toNat a) } p.toNat s = true then forget { S with ac := upd S.ac p.toNat (upd (S.ac p.toNat) s.toNat a) } p.toNat s else { S with ac := upd S.ac p.toNat (upd (S.ac p.toNat) s.toNat a) }) w w' := by
  obtain ⟨p0, p1⟩ := isPr_iff.1 hp
  have c := h.cell_ac p.toNat s.toNat (by omega) (by omega)
  have y := h.frozenR (1792 + p.toNat * 58 + 1 + s.toNat)
  have hP := h.put_ac (show p.toNat < 64 by omega) (show s.toNat < 57 by omega) a
  have hG := grown_set w t (1792 + p.toNat * 58 + 1 + s.toNat) (.int .i64 a)
  have hlen : ∀ i, i < 320 → (S.ls i).length ≤ 1000 := hin.len
  obtain ⟨S1, hS1⟩ : ∃ S1 : St, ({ S with ac := upd S.ac p.toNat (upd (S.ac p.toNat) s.toNat a) } : St) = S1 := ⟨_, rfl⟩
  have hlen1 : ∀ i, i < 320 → (S1.ls i).length ≤ 1000 := by rw [← hS1]; exact hlen
  rw [hS1] at hP ⊢
  have HI := Lib.hid (rignored_calls p s _ hP hp h1 h56)
  have HD := Lib.hid (rdiscard_calls p s _ hP hlen1 p0 p1)
  have HP := Lib.hid (And.intro hp (And.intro (⟨⟨L, hP⟩, hG⟩ : RAfter t S1 w _) hG))
  have HSG : Hid (isSg s = true) := Lib.hid (by unfold isSg; simp [h1, h56])
  have b9 : (s == 9) = false := by simpa using h9
  have b19 : (s == 19) = false := by simpa using h19
  generalize S.ac p.toNat s.toNat = old at *
  clear h hin hp hP hG hlen hlen1 hS1 h9 h19
  cases hig : ignored S1 p.toNat s
  all_goals
    rw [hig] at HI
    clear hig
  · rw [if_neg Bool.false_ne_true]
    go_enter Try.func47, Try.ntmps47
    go_wp2_with (first
      | (go_at_call 64; refine (rprocess_calls p _).mono ?_; rw [HP.out.1]; rintro e w' ⟨rfl, rfl⟩)
      | (go_at_call 66; refine (rsignal_calls s _).mono ?_; rw [HSG.out]; rintro e w' ⟨rfl, rfl⟩)
      | (go_at_call 67; refine HI.out.mono ?_; rintro e w' ⟨rfl, rfl⟩))
    go_ret2
    exact ⟨rfl, HP.out.2.1⟩
  · rw [if_pos rfl]
    go_enter Try.func47, Try.ntmps47
    go_wp2_with (first
      | (go_at_call 64; refine (rprocess_calls p _).mono ?_; rw [HP.out.1]; rintro e w' ⟨rfl, rfl⟩)
      | (go_at_call 66; refine (rsignal_calls s _).mono ?_; rw [HSG.out]; rintro e w' ⟨rfl, rfl⟩)
      | (go_at_call 67; refine HI.out.mono ?_; rintro e w' ⟨rfl, rfl⟩)
      | (go_at_call 68; refine HD.out.mono ?_; rintro e w' ⟨rfl, hd⟩; have HDD := Lib.hid hd; clear hd))
    go_ret2
    exact ⟨rfl, HDD.out.1, HP.out.2.2.trans HDD.out.2⟩
set_option maxRecDepth 100000 in
theorem raction_calls {t : Nat} {L : RLay} {S : St} (p s a : Int) (w : World) (h : RRepL w t L S) (hin : Inv S 1000) :
    Calls Try.prog 47 #[.pointer (some ⟨t, 0, none⟩), .int .i64 p, .int .i64 s, .int .i64 a] w fun e w' => e = .returned (.tuple #[.int .i64 (actionS S p s a).1.1, .int .i64 (actionS S p s a).1.2]) ∧ RAfter t (actionS S p s a).2 w w' := by
  have HA := Lib.hid (RAfter.refl h)
  cases hp : isPr p with
  | false =>
    rw [show actionS S p s a = ((0, 34), S) by simp [actionS, hp]]
    have H1 := Lib.hid hp
    clear hp h
    go_enter Try.func47, Try.ntmps47
    go_wp2_with (go_at_call 64; refine (rprocess_calls p _).mono ?_; rw [H1.out]; rintro e w' ⟨rfl, rfl⟩)
    go_ret2
    exact ⟨rfl, HA.out⟩
  | true =>
    have H1 := Lib.hid hp
    by_cases hb : s < 1 ∨ 56 < s ∨ a < 0 ∨ 2 < a
    · rw [show actionS S p s a = ((0, 14), S) by simp [actionS, hp, hb]]
      clear hp h
      by_cases hs : s < 1 ∨ 56 < s
      · have HSG : Hid (isSg s = false) := Lib.hid (by unfold isSg; simp; omega)
        clear hb hs
        go_enter Try.func47, Try.ntmps47
        go_wp2_with (first
          | (go_at_call 64; refine (rprocess_calls p _).mono ?_; rw [H1.out]; rintro e w' ⟨rfl, rfl⟩)
          | (go_at_call 66; refine (rsignal_calls s _).mono ?_; rw [HSG.out]; rintro e w' ⟨rfl, rfl⟩))
        go_ret2
        exact ⟨rfl, HA.out⟩
      · have HSG : Hid (isSg s = true) := Lib.hid (by unfold isSg; simp; omega)
        have hb' : a < 0 ∨ (¬ a < 0 ∧ 2 < a) := by omega
        clear hb hs
        rcases hb' with hb | ⟨hb, hb2⟩
        all_goals
          go_enter Try.func47, Try.ntmps47
          go_wp2_with (first
            | (go_at_call 64; refine (rprocess_calls p _).mono ?_; rw [H1.out]; rintro e w' ⟨rfl, rfl⟩)
            | (go_at_call 66; refine (rsignal_calls s _).mono ?_; rw [HSG.out]; rintro e w' ⟨rfl, rfl⟩))
          go_ret2
          exact ⟨rfl, HA.out⟩
    · by_cases hq : s = 9 ∨ s = 19
      · rw [show actionS S p s a = ((0, 32), S) by simp [actionS, hp, hb, hq]]
        have HSG : Hid (isSg s = true) := Lib.hid (by unfold isSg; simp; omega)
        have ha0 : 0 ≤ a := by omega
        have ha2 : a ≤ 2 := by omega
        clear hp h hb
        rcases hq with rfl | rfl
        all_goals
          go_enter Try.func47, Try.ntmps47
          go_wp2_with (first
            | (go_at_call 64; refine (rprocess_calls p _).mono ?_; rw [H1.out]; rintro e w' ⟨rfl, rfl⟩)
            | (go_at_call 66; refine (rsignal_calls _ _).mono ?_; rw [HSG.out]; rintro e w' ⟨rfl, rfl⟩))
          go_ret2
          exact ⟨rfl, HA.out⟩
      · refine (raction_ok (n := 0) p s a w h hin hp (by omega) (by omega) (by omega) (by omega) (by omega) (by omega)).mono ?_
        rintro e w' ⟨rfl, hr⟩
        rw [show actionS S p s a = ((S.ac p.toNat s.toNat, 0), if ignored { S with ac := upd S.ac p.toNat (upd (S.ac p.toNat) s.toNat a) } p.toNat s = true then forget { S with ac := upd S.ac p.toNat (upd (S.ac p.toNat) s.toNat a) } p.toNat s else { S with ac := upd S.ac p.toNat (upd (S.ac p.toNat) s.toNat a) }) by simp [actionS, hp, hb, hq]]
        exact ⟨rfl, hr⟩
end Go.Proofs.Ytbpihfphoniclaa
namespace Go.Proofs.Ytbpihfphoniclaa
open Go.RowKit
set_option linter.unusedVariables false
theorem grown_new {w W : World} {t g : Nat} (h : w.grownBy W (some t)) (hg : w.heap.size ≤ g) (k : Nat) (v : Value) : w.grownBy (W.setCell ⟨g, k, none⟩ v) (some t) :=
  ⟨h.os, h.tape, h.output, by have := h.size; simpa [World.setCell] using this, fun j hj hne => (Below.heap_setCell _ _ _ _ (by simp; omega)).trans (h.block j hj hne)⟩
theorem RRepL.other {w : World} {t : Nat} {L : RLay} {S : St} (h : RRepL w t L S) {g : Nat} {e : TypeId} (hty : Ty w g e) (he : e ≠ 111 ∧ e ≠ 127) (k : Nat) (u : Value) : RRepL (w.setCell ⟨g, k, none⟩ u) t L S := by
  obtain ⟨cs, fr, hg⟩ := hty
  refine h.kept fun b cs2 e2 fr2 hb h2 => Below.heap_setCell _ _ _ _ ?_
  intro hbg
  rw [show b = g from hbg, hg] at hb
  cases hb
  rcases h2 with h2 | h2
  · exact he.1 h2
  · exact he.2 h2
theorem RAfter.below {w W : World} {t : Nat} {L : RLay} {S : St} (h : RRepL w t L S) (hb : Below w.heap.size w W) : RAfter t S w W := ⟨⟨L, h.below hb⟩, grown_below hb⟩
set_option maxRecDepth 100000 in
theorem rnext_bad {t : Nat} {L : RLay} {S : St} (th : Int) (w : World) (h : RRepL w t L S) (hbad : isTh th = false ∨ (isTh th = true ∧ S.tk th.toNat = none) ∨ (isTh th = true ∧ ∃ x, S.tk th.toNat = some x ∧ x.waits = true)) :
    Calls Try.prog 51 #[.pointer (some ⟨t, 0, none⟩), .int .i64 th] w fun e w' => e = .returned (.tuple #[.agg (dv (0, 0, 0)), .bool false]) ∧ RAfter t S w w' := by
  obtain ⟨W1, hW1⟩ : ∃ W1, w.alloc (.cells #[.int .i64 0, .int .i64 0, .int .i64 0] 50) = W1 := ⟨_, rfl⟩
  have hb1 : Below w.heap.size w W1 := by rw [← hW1]; exact (Below.refl _ _).alloc (Nat.le_refl _) _
  have hn1 : W1.heap[w.heap.size]? = some (.cells #[.int .i64 0, .int .i64 0, .int .i64 0] 50 (0, 0)) := by rw [← hW1]; exact heap_alloc_new w _
  have h1 := h.below hb1
  have z0 := frozen_of_cells hn1 0
  have z1 := frozen_of_cells hn1 1
  have z2 := frozen_of_cells hn1 2
  obtain ⟨q0, q1, q2⟩ : W1.cell? ⟨w.heap.size, 0, none⟩ = some (.int .i64 0) ∧ W1.cell? ⟨w.heap.size, 1, none⟩ = some (.int .i64 0) ∧ W1.cell? ⟨w.heap.size, 2, none⟩ = some (.int .i64 0) := by
    refine ⟨?_, ?_, ?_⟩ <;> (rw [cell_of_row _ _ _ _ _ _ hn1]; rfl)
  have HE : Hid (((((W1.setCell ⟨w.heap.size, 0, none⟩ (.int .i64 0)).setCell ⟨w.heap.size, 1, none⟩ (.int .i64 0)).setCell ⟨w.heap.size, 2, none⟩ (.int .i64 0)).heap[w.heap.size]? = some (.cells #[.int .i64 0, .int .i64 0, .int .i64 0] 50 (0, 0))) ∧ RAfter t S w (((W1.setCell ⟨w.heap.size, 0, none⟩ (.int .i64 0)).setCell ⟨w.heap.size, 1, none⟩ (.int .i64 0)).setCell ⟨w.heap.size, 2, none⟩ (.int .i64 0))) :=
    Lib.hid ⟨three_set hn1 _ _ _, RAfter.below h (((hb1.setCell (Nat.le_refl _) _).setCell (Nat.le_refl _) _).setCell (Nat.le_refl _) _)⟩
  rcases hbad with hth | ⟨hth, hx⟩ | ⟨hth, x, hx, hxw⟩
  · have H1 := Lib.hid hth
    clear hth h h1 hb1 hn1
    go_enter Try.func51, Try.ntmps51
    go_wp2_with (go_at_call 63; refine (rthread_calls th _).mono ?_; rw [H1.out]; rintro e w' ⟨rfl, rfl⟩)
    exact bodyPost_ret (results_agg rfl _ _ ⟨w.heap.size, 0, none⟩ #[.int .i64 0, .int .i64 0, .int .i64 0] _ rfl (cells_of_heap HE.out.1) Try.underlying50 rfl (n := 3) (by kernel_rfl) rfl) rfl ⟨rfl, HE.out.2⟩
  · obtain ⟨t0, t1⟩ := isTh_iff.1 hth
    have H1 := Lib.hid hth
    have c0 : W1.cell? ⟨t, th.toNat * 7, none⟩ = some (.bool (S.tk th.toNat).isSome) := h1.cell_task th.toNat 0 (by omega) (by omega)
    rw [hx] at c0
    have c0' : W1.cell? ⟨t, th.toNat * 7, none⟩ = some (.bool false) := c0
    clear hth h h1 hb1 hn1 c0 hx
    go_enter Try.func51, Try.ntmps51
    go_wp2_with (go_at_call 63; refine (rthread_calls th _).mono ?_; rw [H1.out]; rintro e w' ⟨rfl, rfl⟩)
    exact bodyPost_ret (results_agg rfl _ _ ⟨w.heap.size, 0, none⟩ #[.int .i64 0, .int .i64 0, .int .i64 0] _ rfl (cells_of_heap HE.out.1) Try.underlying50 rfl (n := 3) (by kernel_rfl) rfl) rfl ⟨rfl, HE.out.2⟩
  · obtain ⟨t0, t1⟩ := isTh_iff.1 hth
    have H1 := Lib.hid hth
    have c0 : W1.cell? ⟨t, th.toNat * 7, none⟩ = some (.bool (S.tk th.toNat).isSome) := h1.cell_task th.toNat 0 (by omega) (by omega)
    rw [hx] at c0
    have c0' : W1.cell? ⟨t, th.toNat * 7, none⟩ = some (.bool true) := c0
    have c4 := h1.cell_task th.toNat 4 (by omega) (by omega)
    unfold rtask at c4
    rw [hx] at c4
    have c4' : W1.cell? ⟨t, th.toNat * 7 + 4, none⟩ = some (.bool x.waits) := c4
    rw [hxw] at c4'
    clear hth h h1 hb1 hn1 c0 hx c4 hxw
    go_enter Try.func51, Try.ntmps51
    go_wp2_with (go_at_call 63; refine (rthread_calls th _).mono ?_; rw [H1.out]; rintro e w' ⟨rfl, rfl⟩)
    exact bodyPost_ret (results_agg rfl _ _ ⟨w.heap.size, 0, none⟩ #[.int .i64 0, .int .i64 0, .int .i64 0] _ rfl (cells_of_heap HE.out.1) Try.underlying50 rfl (n := 3) (by kernel_rfl) rfl) rfl ⟨rfl, HE.out.2⟩
set_option maxHeartbeats 1000000 in
set_option maxRecDepth 100000 in
theorem rnext_some {t : Nat} {L : RLay} {S : St} (th : Int) (w : World) (h : RRepL w t L S) (hin : Inv S 1000) (hth : isTh th = true) (x : Tk) (hx : S.tk th.toNat = some x) (hxw : x.waits = false) :
    Calls Try.prog 51 #[.pointer (some ⟨t, 0, none⟩), .int .i64 th] w fun e w' => e = .returned (.tuple #[.agg (dv (nextS S th).1.1), .bool (nextS S th).1.2]) ∧ RAfter t (nextS S th).2 w w' := by
  obtain ⟨t0, t1⟩ := isTh_iff.1 hth
  obtain ⟨W1, hW1⟩ : ∃ W1, w.alloc (.cells #[.int .i64 0, .int .i64 0, .int .i64 0] 50) = W1 := ⟨_, rfl⟩
  have hb1 : Below w.heap.size w W1 := by rw [← hW1]; exact (Below.refl _ _).alloc (Nat.le_refl _) _
  have hn1 : W1.heap[w.heap.size]? = some (.cells #[.int .i64 0, .int .i64 0, .int .i64 0] 50 (0, 0)) := by rw [← hW1]; exact heap_alloc_new w _
  have h1 := h.below hb1
  have H1 := Lib.hid hth
  obtain ⟨p0, p1, hm, _⟩ := hin.task th.toNat (by omega) x hx
  have hsig := both_sig hin (show th.toNat < 256 by omega) hx
  obtain ⟨g0, g1⟩ := lowest_in56 hsig (allM &&& (18446744073709551615 - x.mask))
  have hol := orOf_lt _ hsig
  have hle : least (orOf (both S th.toNat x.proc.toNat) &&& (18446744073709551615 - x.mask)) = lowest (both S th.toNat x.proc.toNat) (allM &&& (18446744073709551615 - x.mask)) := by rw [← orOf_and hsig, lowest_least _ _ hsig, Nat.and_comm allM]
  have hand : bits .andNot .u64 ((orOf (both S th.toNat x.proc.toNat) : Nat) : Int) (x.mask : Int) = ((orOf (both S th.toNat x.proc.toNat) &&& (18446744073709551615 - x.mask) : Nat) : Int) := u64_andNot_nat _ _ (by omega) (by omega)
  have hml : orOf (both S th.toNat x.proc.toNat) &&& (18446744073709551615 - x.mask) < 18446744073709551616 := Nat.lt_of_le_of_lt Nat.and_le_left (by omega)
  have HC := Lib.hid (fun d os => rpending_calls th (Sort.grow (redrawn W1 d) os) (h1.below (below_regrown W1 d os)) hin hth x hx)
  have HNX : Hid (nextS S th = if lowest (both S th.toNat x.proc.toNat) (allM &&& (18446744073709551615 - x.mask)) = 0 then (((0, 0, 0), false), S) else (((lowest (both S th.toNat x.proc.toNat) (allM &&& (18446744073709551615 - x.mask)), (takeS S th.toNat x.proc.toNat (lowest (both S th.toNat x.proc.toNat) (allM &&& (18446744073709551615 - x.mask)))).1, does S x.proc.toNat (lowest (both S th.toNat x.proc.toNat) (allM &&& (18446744073709551615 - x.mask)))), true), (takeS S th.toNat x.proc.toNat (lowest (both S th.toNat x.proc.toNat) (allM &&& (18446744073709551615 - x.mask)))).2)) := Lib.hid (by simp [nextS, hth, hx, hxw])
  have hnot : lowest (both S th.toNat x.proc.toNat) (allM &&& (18446744073709551615 - x.mask)) ≠ 0 → S.ac x.proc.toNat (lowest (both S th.toNat x.proc.toNat) (allM &&& (18446744073709551615 - x.mask))).toNat ≠ 1 := by
    intro hne
    rcases lowest_spec (both S th.toNat x.proc.toNat) (allM &&& (18446744073709551615 - x.mask)) (fun y hy => (hsig y hy).1) with ⟨h1, _⟩ | ⟨y, hy, h1, _⟩
    · exact absurd h1 hne
    · rw [h1]
      have hig : ignored S x.proc.toNat y.1 = false := by
        rcases List.mem_append.1 hy with h | h
        · exact hin.ignT _ (by omega) x hx y h
        · exact hin.ignP _ (by omega) y h
      intro h1
      unfold ignored at hig
      rw [h1] at hig
      simp at hig
  obtain ⟨sg, hsg⟩ : ∃ sg, lowest (both S th.toNat x.proc.toNat) (allM &&& (18446744073709551615 - x.mask)) = sg := ⟨_, rfl⟩
  rw [hsg] at g0 g1 hle HNX hnot
  have HL : Hid (∀ d os, Calls Try.prog 73 #[.int .u64 ((orOf (both S th.toNat x.proc.toNat) &&& (18446744073709551615 - x.mask) : Nat) : Int)] (Sort.grow (redrawn W1 d) os) fun e w' => e = .returned (.int .i64 sg) ∧ Below (Sort.grow (redrawn W1 d) os).heap.size (Sort.grow (redrawn W1 d) os) w') := Lib.hid fun d os => by
    have := rleast_calls (orOf (both S th.toNat x.proc.toNat) &&& (18446744073709551615 - x.mask)) (Sort.grow (redrawn W1 d) os) hml
    rwa [hle] at this
  have c0 : W1.cell? ⟨t, th.toNat * 7, none⟩ = some (.bool (S.tk th.toNat).isSome) := h1.cell_task th.toNat 0 (by omega) (by omega)
  have c4 := h1.cell_task th.toNat 4 (by omega) (by omega)
  have c2 := h1.cell_task th.toNat 2 (by omega) (by omega)
  unfold rtask at c4 c2
  rw [hx] at c4 c0 c2
  have c4' : W1.cell? ⟨t, th.toNat * 7 + 4, none⟩ = some (.bool x.waits) := c4
  rw [hxw] at c4'
  have c0' : W1.cell? ⟨t, th.toNat * 7, none⟩ = some (.bool true) := c0
  have c2' : W1.cell? ⟨t, th.toNat * 7 + 2, none⟩ = some (.int .u64 (x.mask : Int)) := c2
  have hce2 := fun d os => cell_regrown c2' d os
  generalize orOf (both S th.toNat x.proc.toNat) = o at *
  generalize o &&& (18446744073709551615 - x.mask) = ob at *
  have HN1 := Lib.hid (And.intro hn1 hb1)
  have H := Lib.hid (And.intro h (And.intro h1 (And.intro hin (And.intro hth hx))))
  rw [HNX.out]
  have htl := h.lt
  clear h h1 hin hth hx c4 c0 c2 hsig hsg hol hml hle hxw hb1 hn1 HNX hm
  by_cases hz : sg = 0
  · rw [if_pos hz]
    subst hz
    have HA := Lib.hid (RAfter.refl H.out.1)
    go_enter Try.func51, Try.ntmps51
    go_wp2_with (go_at_call 63; refine (rthread_calls th _).mono ?_; rw [H1.out]; rintro e w' ⟨rfl, rfl⟩)
    refine wp_region_quiet_below (by kernel_rfl) (by kernel_rfl) ?_
    repeat (first
      | quiet_step (first | (go_at_call 74; exact (HC.out _ _).regrown_of) | (go_at_call 73; exact (HL.out _ _).regrown_of)))
    refine wpQuiet_nil ?_
    intro w2 hw2
    have hb2 := below_of_regrown hw2
    have hn2 := (hb2.block w.heap.size (Array.getElem?_eq_some_iff.1 HN1.out.1).1).trans HN1.out.1
    obtain ⟨z0, z1, z2⟩ : w2.cell? ⟨w.heap.size, 0, none⟩ = some (.int .i64 0) ∧ w2.cell? ⟨w.heap.size, 1, none⟩ = some (.int .i64 0) ∧ w2.cell? ⟨w.heap.size, 2, none⟩ = some (.int .i64 0) := by
      refine ⟨?_, ?_, ?_⟩ <;> (rw [cell_of_row _ _ _ _ _ _ hn2]; rfl)
    have y0 := frozen_of_cells hn2 0
    have y1 := frozen_of_cells hn2 1
    have y2 := frozen_of_cells hn2 2
    have HN2 := Lib.hid (And.intro hn2 (below_then' HN1.out.2 hb2))
    clear hn2 hb2 hw2 hW1
    go_wp2
    refine bodyPost_ret (results_agg rfl _ _ ⟨w.heap.size, 0, none⟩ #[.int .i64 0, .int .i64 0, .int .i64 0] _ rfl (cells_of_heap (three_set HN2.out.1 _ _ _)) Try.underlying50 rfl (n := 3) (by kernel_rfl) rfl) rfl ⟨rfl, ?_⟩
    exact RAfter.below H.out.1 (((HN2.out.2.setCell (Nat.le_refl _) _).setCell (Nat.le_refl _) _).setCell (Nat.le_refl _) _)
  · rw [if_neg hz]
    have hz0 : (sg == 0) = false := by simpa using hz
    replace hnot := hnot hz
    go_enter Try.func51, Try.ntmps51
    go_wp2_with (go_at_call 63; refine (rthread_calls th _).mono ?_; rw [H1.out]; rintro e w' ⟨rfl, rfl⟩)
    refine wp_region_quiet_below (by kernel_rfl) (by kernel_rfl) ?_
    repeat (first
      | quiet_step (first | (go_at_call 74; exact (HC.out _ _).regrown_of) | (go_at_call 73; exact (HL.out _ _).regrown_of)))
    refine wpQuiet_nil ?_
    intro w2 hw2
    have hb2 := below_of_regrown hw2
    have hn2 := (hb2.block w.heap.size (Array.getElem?_eq_some_iff.1 HN1.out.1).1).trans HN1.out.1
    have HN2 := Lib.hid (And.intro hn2 (below_then' HN1.out.2 hb2))
    have HT := Lib.hid (rtake_calls th sg w2 (H.out.2.1.below hb2) H.out.2.2.1 H.out.2.2.2.1 x H.out.2.2.2.2)
    clear hn2 hb2 hw2 hW1
    go_wp2_with (go_at_call 75; refine HT.out.mono ?_; rintro e w3 ⟨rfl, ha⟩; have HA := Lib.hid ha; clear ha)
    obtain ⟨⟨L3, h3⟩, hg3⟩ := HA.out
    obtain ⟨vl, hvl⟩ : ∃ vl, (takeS S th.toNat x.proc.toNat sg).1 = vl := ⟨_, rfl⟩
    obtain ⟨S2, hS2⟩ : ∃ S2, (takeS S th.toNat x.proc.toNat sg).2 = S2 := ⟨_, rfl⟩
    have hac := takeS_ac S th.toNat x.proc.toNat sg
    have htk := takeS_tk S th.toNat x.proc.toNat sg
    rw [hS2] at h3 hac htk
    have hlt2 := (Array.getElem?_eq_some_iff.1 HN2.out.1).1
    have hs2 := hg3.size
    have hn3 : w3.heap[w.heap.size]? = some (.cells #[.int .i64 0, .int .i64 0, .int .i64 0] 50 (0, 0)) := (hg3.block w.heap.size hlt2 (by intro e; cases e; omega)).trans HN2.out.1
    have hbq : Below w3.heap.size w3 (w3.alloc (.cells #[.int .i64 sg, .int .i64 vl, .int .i64 2] 50)) := (Below.refl _ _).alloc (Nat.le_refl _) _
    have hnq : (w3.alloc (.cells #[.int .i64 sg, .int .i64 vl, .int .i64 2] 50)).heap[w3.heap.size]? = some (.cells #[.int .i64 sg, .int .i64 vl, .int .i64 2] 50 (0, 0)) := heap_alloc_new w3 _
    rw [hvl]
    generalize w3.alloc (.cells #[.int .i64 sg, .int .i64 vl, .int .i64 2] 50) = W4 at *
    have h4 := h3.below hbq
    have hn4 := (hbq.block w.heap.size (by omega)).trans hn3
    have hg4 : w.grownBy W4 (some t) := ((grown_below HN2.out.2).trans hg3).trans (grown_below hbq)
    have k1 := h4.cell_task th.toNat 1 (by omega) (by omega)
    have k2 := h4.cell_ac x.proc.toNat sg.toNat (by omega) (by omega)
    unfold rtask at k1
    rw [htk, H.out.2.2.2.2] at k1
    rw [hac] at k2
    have k1' : W4.cell? ⟨t, th.toNat * 7 + 1, none⟩ = some (.int .i64 x.proc) := k1
    obtain ⟨z0, z1, z2⟩ : W4.cell? ⟨w.heap.size, 0, none⟩ = some (.int .i64 0) ∧ W4.cell? ⟨w.heap.size, 1, none⟩ = some (.int .i64 0) ∧ W4.cell? ⟨w.heap.size, 2, none⟩ = some (.int .i64 0) := by
      refine ⟨?_, ?_, ?_⟩ <;> (rw [cell_of_row _ _ _ _ _ _ hn4]; rfl)
    obtain ⟨d0, d1, d2⟩ : W4.cell? ⟨w3.heap.size, 0, none⟩ = some (.int .i64 sg) ∧ W4.cell? ⟨w3.heap.size, 1, none⟩ = some (.int .i64 vl) ∧ W4.cell? ⟨w3.heap.size, 2, none⟩ = some (.int .i64 2) := by
      refine ⟨?_, ?_, ?_⟩ <;> (rw [cell_of_row _ _ _ _ _ _ hnq]; rfl)
    have y0 := frozen_of_cells hn4 0
    have y1 := frozen_of_cells hn4 1
    have y2 := frozen_of_cells hn4 2
    have yd := frozen_of_cells hnq 2
    have ne3 : w.heap.size ≠ w3.heap.size := by omega
    have HEND : Hid (∀ (n : Nat) (u v z : Value), RAfter t S2 w ((((W4.drewN n).setCell ⟨w.heap.size, 0, none⟩ u).setCell ⟨w.heap.size, 1, none⟩ v).setCell ⟨w.heap.size, 2, none⟩ z) ∧ ((((W4.drewN n).setCell ⟨w.heap.size, 0, none⟩ u).setCell ⟨w.heap.size, 1, none⟩ v).setCell ⟨w.heap.size, 2, none⟩ z).heap[w.heap.size]? = some (.cells #[u, v, z] 50 (0, 0)) ∧
        ∀ dd, RAfter t S2 w (((((W4.drewN n).setCell ⟨w3.heap.size, 2, none⟩ dd).setCell ⟨w.heap.size, 0, none⟩ u).setCell ⟨w.heap.size, 1, none⟩ v).setCell ⟨w.heap.size, 2, none⟩ z) ∧ (((((W4.drewN n).setCell ⟨w3.heap.size, 2, none⟩ dd).setCell ⟨w.heap.size, 0, none⟩ u).setCell ⟨w.heap.size, 1, none⟩ v).setCell ⟨w.heap.size, 2, none⟩ z).heap[w.heap.size]? = some (.cells #[u, v, z] 50 (0, 0))) := Lib.hid fun n u v z => by
      have hD : RRepL (W4.drewN n) t L3 S2 := h4.kept fun _ _ _ _ _ _ => rfl
      have gD : w.grownBy (W4.drewN n) (some t) := hg4.trans ⟨rfl, rfl, rfl, Nat.le_refl _, fun _ _ _ => rfl⟩
      have T2 : Ty (W4.drewN n) w.heap.size 50 := ⟨_, _, hn4⟩
      have T1 : Ty (W4.drewN n) w3.heap.size 50 := ⟨_, _, hnq⟩
      refine ⟨⟨⟨_, ((hD.other T2 (by decide) 0 u).other (T2.set _ _) (by decide) 1 v).other ((T2.set _ _).set _ _) (by decide) 2 z⟩, grown_new (grown_new (grown_new gD (Nat.le_refl _) _ _) (Nat.le_refl _) _ _) (Nat.le_refl _) _ _⟩, three_set (w := W4.drewN n) hn4 _ _ _, fun dd => ⟨⟨⟨_, (((hD.other T1 (by decide) 2 dd).other (T2.set _ _) (by decide) 0 u).other ((T2.set _ _).set _ _) (by decide) 1 v).other (((T2.set _ _).set _ _).set _ _) (by decide) 2 z⟩, grown_new (grown_new (grown_new (grown_new gD (by omega) _ _) (Nat.le_refl _) _ _) (Nat.le_refl _) _ _) (Nat.le_refl _) _ _⟩, three_set ((Below.heap_setCell (W4.drewN n) ⟨w3.heap.size, 2, none⟩ dd w.heap.size ne3).trans hn4) _ _ _⟩⟩
    obtain ⟨ac, hacv⟩ : ∃ ac, S.ac x.proc.toNat sg.toNat = ac := ⟨_, rfl⟩
    rw [hacv] at k2 hnot
    have HDO : Hid (does S x.proc.toNat sg = if ac = 2 then 1 else if sg = 19 then 3 else if sg = 18 then 4 else if sg = 17 then 5 else 2) := Lib.hid (by unfold does; rw [hacv, if_neg hnot])
    have HV := Lib.hid (And.intro hvl hS2)
    clear hvl hS2 hac htk h3 h4 hg3 hg4 hn3 hn4 hbq hnq HA HN2 HT k1 hacv HC HL HN1 hce2 H c2' c0' c4' hnot
    go_quiet (fail)
    have HV2 := HV
    by_cases ha2 : ac = 2
    · have hb : (ac == 2) = true := by simpa using ha2
      rw [if_pos ha2] at HDO
      clear ha2
      go_wp2
      refine bodyPost_ret (results_agg rfl _ _ ⟨w.heap.size, 0, none⟩ #[.int .i64 sg, .int .i64 vl, .int .i64 1] _ rfl (cells_of_heap ((HEND.out nq _ _ _).2.2 _).2) Try.underlying50 rfl (n := 3) (by kernel_rfl) rfl) rfl ⟨by rw [HV.out.1, HDO.out]; rfl, by rw [HV.out.2]; exact ((HEND.out nq _ _ _).2.2 _).1⟩
    · have hb : (ac == 2) = false := by simpa using ha2
      rw [if_neg ha2] at HDO
      clear ha2
      by_cases h19 : sg = 19
      · subst h19
        rw [if_pos rfl] at HDO
        go_wp2
        refine bodyPost_ret (results_agg rfl _ _ ⟨w.heap.size, 0, none⟩ #[.int .i64 19, .int .i64 vl, .int .i64 3] _ rfl (cells_of_heap ((HEND.out nq _ _ _).2.2 _).2) Try.underlying50 rfl (n := 3) (by kernel_rfl) rfl) rfl ⟨by rw [HV.out.1, HDO.out]; rfl, by rw [HV.out.2]; exact ((HEND.out nq _ _ _).2.2 _).1⟩
      · have hb19 : (sg == 19) = false := by simpa using h19
        rw [if_neg h19] at HDO
        by_cases h18 : sg = 18
        · subst h18
          rw [if_pos rfl] at HDO
          clear h19
          go_wp2
          refine bodyPost_ret (results_agg rfl _ _ ⟨w.heap.size, 0, none⟩ #[.int .i64 18, .int .i64 vl, .int .i64 4] _ rfl (cells_of_heap ((HEND.out nq _ _ _).2.2 _).2) Try.underlying50 rfl (n := 3) (by kernel_rfl) rfl) rfl ⟨by rw [HV.out.1, HDO.out]; rfl, by rw [HV.out.2]; exact ((HEND.out nq _ _ _).2.2 _).1⟩
        · have hb18 : (sg == 18) = false := by simpa using h18
          rw [if_neg h18] at HDO
          by_cases h17 : sg = 17
          · subst h17
            rw [if_pos rfl] at HDO
            clear h19 h18
            go_wp2
            refine bodyPost_ret (results_agg rfl _ _ ⟨w.heap.size, 0, none⟩ #[.int .i64 17, .int .i64 vl, .int .i64 5] _ rfl (cells_of_heap ((HEND.out nq _ _ _).2.2 _).2) Try.underlying50 rfl (n := 3) (by kernel_rfl) rfl) rfl ⟨by rw [HV.out.1, HDO.out]; rfl, by rw [HV.out.2]; exact ((HEND.out nq _ _ _).2.2 _).1⟩
          · have hb17 : (sg == 17) = false := by simpa using h17
            rw [if_neg h17] at HDO
            clear h19 h18 h17
            go_wp2
            refine bodyPost_ret (results_agg rfl _ _ ⟨w.heap.size, 0, none⟩ #[.int .i64 sg, .int .i64 vl, .int .i64 2] _ rfl (cells_of_heap (HEND.out nq _ _ _).2.1) Try.underlying50 rfl (n := 3) (by kernel_rfl) rfl) rfl ⟨by rw [HV.out.1, HDO.out]; rfl, by rw [HV.out.2]; exact (HEND.out nq _ _ _).1⟩
set_option maxRecDepth 100000 in
theorem rnext_calls {t : Nat} {L : RLay} {S : St} (th : Int) (w : World) (h : RRepL w t L S) (hin : Inv S 1000) :
    Calls Try.prog 51 #[.pointer (some ⟨t, 0, none⟩), .int .i64 th] w fun e w' => e = .returned (.tuple #[.agg (dv (nextS S th).1.1), .bool (nextS S th).1.2]) ∧ RAfter t (nextS S th).2 w w' := by
  cases hth : isTh th with
  | false =>
    rw [show nextS S th = (((0, 0, 0), false), S) by simp [nextS, hth]]
    exact rnext_bad th w h (.inl hth)
  | true =>
    cases hx : S.tk th.toNat with
    | none =>
      rw [show nextS S th = (((0, 0, 0), false), S) by simp [nextS, hth, hx]]
      exact rnext_bad th w h (.inr (.inl ⟨hth, hx⟩))
    | some x =>
      cases hxw : x.waits with
      | true =>
        rw [show nextS S th = (((0, 0, 0), false), S) by simp [nextS, hth, hx, hxw]]
        exact rnext_bad th w h (.inr (.inr ⟨hth, x, hx, hxw⟩))
      | false => exact rnext_some th w h hin hth x hx hxw
end Go.Proofs.Ytbpihfphoniclaa
namespace Go.Proofs.Ytbpihfphoniclaa
open Go.RowKit
set_option linter.unusedVariables false
def hit1 (S : St) (p s : Int) (i : Nat) : Bool := inP S p i && waitsFor S s i
def hit2 (S : St) (p s : Int) (i : Nat) : Bool := inP S p i && unmasked S s i
theorem find_hit {S : St} {p : Int} {Q : Nat → Bool} {k : Nat} (hk : k < 256) (h : (inP S p k && Q k) = true) (hl : ∀ j, j < k → (inP S p j && Q j) = false) : (threads S p).find? Q = some k := by
  unfold threads
  rw [List.find?_filter, List.find?_range_eq_some]
  refine ⟨by simpa using h, List.mem_range.2 hk, fun j hj => ?_⟩
  have := hl j hj
  cases h1 : inP S p j <;> simp_all
theorem find_no {S : St} {p : Int} {Q : Nat → Bool} (hl : ∀ j, j < 256 → (inP S p j && Q j) = false) : (threads S p).find? Q = none := by
  unfold threads
  rw [List.find?_filter, List.find?_eq_none]
  intro j hj
  have := hl j (List.mem_range.1 hj)
  cases h1 : inP S p j <;> simp_all
theorem choose1 {S : St} {p s : Int} {k : Nat} (hk : k < 256) (h : hit1 S p s k = true) (hl : ∀ j, j < k → hit1 S p s j = false) : choose S (threads S p) s = (k : Int) := by
  unfold choose
  rw [find_hit hk h hl]
theorem choose2 {S : St} {p s : Int} {k : Nat} (h1 : ∀ j, j < 256 → hit1 S p s j = false) (hk : k < 256) (h : hit2 S p s k = true) (hl : ∀ j, j < k → hit2 S p s j = false) : choose S (threads S p) s = (k : Int) := by
  unfold choose
  rw [find_no h1, find_hit hk h hl]
theorem choose3 {S : St} {p s : Int} (h1 : ∀ j, j < 256 → hit1 S p s j = false) (h2 : ∀ j, j < 256 → hit2 S p s j = false) : choose S (threads S p) s = -1 := by
  unfold choose
  rw [find_no h1, find_no h2]
theorem and_pow (m k : Nat) : (((m &&& 2 ^ k : Nat) : Int) != 0) = m.testBit k := by
  cases hb : m.testBit k with
  | false =>
    have : m &&& 2 ^ k = 0 := by
      apply Nat.eq_of_testBit_eq
      intro j
      rw [Nat.testBit_and, Nat.testBit_two_pow, Nat.zero_testBit]
      by_cases e : k = j
      · subst e; rw [hb]; rfl
      · simp [e]
    rw [this]; rfl
  | true =>
    have : m &&& 2 ^ k ≠ 0 := by
      intro h0
      have := congrArg (fun x => x.testBit k) h0
      simp [Nat.testBit_and, Nat.testBit_two_pow, hb] at this
    simp only [bne_iff_ne, ne_eq]
    omega
theorem rbit_same (s : Int) (w : World) (h1 : 1 ≤ s) (h2 : s ≤ 64) : Calls Try.prog 69 #[.int .i64 s] w fun e w' => e = .returned (.int .u64 ((2 ^ (s - 1).toNat : Nat) : Int)) ∧ w' = w :=
  (rbit_calls s w h1 h2).mono fun _ _ h => ⟨h.1, h.2.symm⟩
theorem allM_bit {j : Nat} (h : j < 56) : allM.testBit j = true := by
  unfold allM
  rw [show (72057594037927935 : Nat) = 2 ^ 56 - 1 by decide, Nat.testBit_two_pow_sub_one]
  simpa using h
theorem has_and (m : Nat) {s : Int} (h1 : 1 ≤ s) (h2 : s ≤ 56) : hasB (m &&& allM) s = m.testBit (s - 1).toNat := by
  unfold hasB
  rw [Nat.testBit_and, allM_bit (by omega), Bool.and_true]
/-- The cells of thread k, as a value. -/
def tk7 (L : RLay) (S : St) (k : Nat) : Array Value := #[rtask L S k 0, rtask L S k 1, rtask L S k 2, rtask L S k 3, rtask L S k 4, rtask L S k 5, rtask L S k 6]
theorem tk7_cells {w : World} {t : Nat} {L : RLay} {S : St} (h : RRepL w t L S) {k : Nat} (hk : k < 256) : ∀ j v, (tk7 L S k)[j]? = some v → w.cell? ((⟨t, k * 7, none⟩ : Addr).add j) = some v := by
  intro j v hv
  rw [add_at]
  match j, hv with
  | 0, hv => cases hv; exact h.cell_task k 0 hk (by omega)
  | 1, hv => cases hv; exact h.cell_task k 1 hk (by omega)
  | 2, hv => cases hv; exact h.cell_task k 2 hk (by omega)
  | 3, hv => cases hv; exact h.cell_task k 3 hk (by omega)
  | 4, hv => cases hv; exact h.cell_task k 4 hk (by omega)
  | 5, hv => cases hv; exact h.cell_task k 5 hk (by omega)
  | 6, hv => cases hv; exact h.cell_task k 6 hk (by omega)
  | j + 7, hv => simp [tk7] at hv
theorem tk7_vals {w : World} {t : Nat} {L : RLay} {S : St} (h : RRepL w t L S) (hin : Inv S 1000) {p s : Int} (h1 : 1 ≤ s) (h2 : s ≤ 56) {k : Nat} (hk : k < 256) :
    ∃ (fin : Bool) (fproc : Int) (fmask : Nat) (A : Option Addr) (n c : Nat) (fwaits : Bool) (fset : Nat) (fgot : Int), tk7 L S k = #[.bool fin, .int .i64 fproc, .int .u64 (fmask : Int), .slice A n c, .bool fwaits, .int .u64 (fset : Int), .int .i64 fgot] ∧
      hit1 S p s k = (fin && (fproc == p) && fwaits && fset.testBit (s - 1).toNat) ∧ hit2 S p s k = (fin && (fproc == p) && !fmask.testBit (s - 1).toNat) ∧ fmask < 18446744073709551616 ∧ fset < 18446744073709551616 := by
  obtain ⟨A, c, hlv, _⟩ := (h.row k (by omega)).at
  obtain ⟨hset, hw⟩ := h.sets k hk
  cases hx : S.tk k with
  | none =>
    refine ⟨false, 0, 0, A, (S.ls k).length, c, false, L.set k, S.got k, ?_, ?_, ?_, by omega, hset⟩
    · unfold tk7 rtask; rw [hx, hlv]; rfl
    · unfold hit1 inP; rw [hx]; rfl
    · unfold hit2 inP; rw [hx]; rfl
  | some x =>
    obtain ⟨_, _, hm, _⟩ := hin.task k hk x hx
    refine ⟨true, x.proc, x.mask, A, (S.ls k).length, c, x.waits, L.set k, S.got k, ?_, ?_, ?_, by omega, hset⟩
    · unfold tk7 rtask; rw [hx, hlv]; rfl
    · unfold hit1 inP waitsFor
      rw [hx]
      dsimp only
      cases hxw : x.waits with
      | false => simp
      | true =>
        rw [← hw x hx hxw, has_and _ h1 h2]
        simp
    · unfold hit2 inP unmasked hasB
      rw [hx]
      simp
set_option maxHeartbeats 4000000 in
set_option maxRecDepth 100000 in
theorem rreceiver_calls {t : Nat} {L : RLay} {S : St} (p s : Int) (w : World) (h : RRepL w t L S) (hin : Inv S 1000) (h1 : 1 ≤ s) (h2 : s ≤ 56) :
    Calls Try.prog 70 #[.pointer (some ⟨t, 0, none⟩), .int .i64 p, .int .i64 s] w fun e w' => e = .returned (.int .i64 (choose S (threads S p) s)) ∧ Below w.heap.size w w' := by
  have H := Lib.hid (And.intro h hin)
  have HS := Lib.hid (And.intro h1 h2)
  have HBIT : Hid (∀ W : World, Calls Try.prog 69 #[.int .i64 s] W fun e w' => e = .returned (.int .u64 ((2 ^ (s - 1).toNat : Nat) : Int)) ∧ w' = W) := Lib.hid fun W => rbit_same s W h1 (by omega)
  have hlt2 : 2 ^ (s - 1).toNat < 18446744073709551616 := Nat.lt_of_lt_of_le (Nat.pow_lt_pow_right (by omega) (show (s - 1).toNat < 64 by omega)) (by decide)
  have HAND : Hid (∀ m : Nat, m < 18446744073709551616 → ∃ z : Nat, bits .and .u64 (m : Int) ((2 ^ (s - 1).toNat : Nat) : Int) = (z : Int) ∧ ((z : Int) != 0) = m.testBit (s - 1).toNat) := Lib.hid fun m hm => ⟨m &&& 2 ^ (s - 1).toNat, u64_and_nat m _ hm hlt2, and_pow m _⟩
  generalize ((2 ^ (s - 1).toNat : Nat) : Int) = bt at *
  clear h hin h1 h2 hlt2
  go_enter Try.func70, Try.ntmps70
  go_wp2
  go_loopw [7] (fun i wr => ∃ k : Nat, k ≤ 256 ∧ i = .int .i64 k ∧ Hid ((∀ j, j < k → hit1 S p s j = false) ∧ Below w.heap.size w wr)) (fun i _ => 256 - (intOf i).toNat)
  case atStart => exact ⟨0, by omega, rfl, Lib.hid ⟨fun j hj => by omega, Below.refl _ _⟩⟩
  case round =>
    obtain ⟨k, hk, rfl, HI⟩ := hrel
    by_cases hlt : k < 256
    · have hlt' : (k : Int) < 256 := by omega
      have HR := Lib.hid (H.out.1.below HI.out.2)
      have HCE := Lib.hid (tk7_cells HR.out hlt)
      have HNEXT : Hid (hit1 S p s k = false → ∀ j, j < k + 1 → hit1 S p s j = false) := Lib.hid fun hb j hj => by
        rcases Nat.lt_succ_iff_lt_or_eq.1 hj with h | rfl
        · exact HI.out.1 j h
        · exact hb
      have HHIT : Hid (hit1 S p s k = true → choose S (threads S p) s = (k : Int)) := Lib.hid fun hb => choose1 hlt hb HI.out.1
      obtain ⟨fin, fproc, fmask, A, n, c, fwaits, fset, fgot, e7, q1, q2, m1, m2⟩ := tk7_vals (p := p) HR.out H.out.2 HS.out.1 HS.out.2 hlt
      rw [e7] at HCE
      rw [q1] at HNEXT HHIT
      obtain ⟨z, hz, hzb⟩ := HAND.out fset m2
      clear e7 q1 q2 m1 m2
      rw [← hzb] at HNEXT HHIT
      clear hzb
      have HBW : Hid (∀ nq, Below w.heap.size w ((wr.alloc (.cells #[.bool fin, .int .i64 fproc, .int .u64 (fmask : Int), .slice A n c, .bool fwaits, .int .u64 (fset : Int), .int .i64 fgot] 105)).drewN nq)) := Lib.hid fun nq => below_drewN (HI.out.2.alloc HI.out.2.size _) nq
      cases fin
      · have HB := Lib.hid (HNEXT.out rfl)
        clear HNEXT HHIT
        go_wp2_with ((with_reducible change wpList _ _ _ (⟨_, .load 105 (.tmp 19), _, _, _, _⟩ :: _) _ _); refine wpList_load_cells (by rfl) 105 (.tmp 19) rfl ⟨t, k * 7, none⟩ rfl _ _ HCE.out Try.underlying105 rfl (n := 7) (by kernel_rfl) rfl ?_)
        have hn7 := heap_alloc_new wr (.cells #[.bool false, .int .i64 fproc, .int .u64 (fmask : Int), .slice A n c, .bool fwaits, .int .u64 (fset : Int), .int .i64 fgot] 105)
        generalize wr.alloc (.cells #[.bool false, .int .i64 fproc, .int .u64 (fmask : Int), .slice A n c, .bool fwaits, .int .u64 (fset : Int), .int .i64 fgot] 105) = W1 at *
        obtain ⟨d0, d1, d2, d4, d5⟩ : W1.cell? ⟨wr.heap.size, 0, none⟩ = some (.bool false) ∧ W1.cell? ⟨wr.heap.size, 1, none⟩ = some (.int .i64 fproc) ∧ W1.cell? ⟨wr.heap.size, 2, none⟩ = some (.int .u64 (fmask : Int)) ∧ W1.cell? ⟨wr.heap.size, 4, none⟩ = some (.bool fwaits) ∧ W1.cell? ⟨wr.heap.size, 5, none⟩ = some (.int .u64 (fset : Int)) := by
          refine ⟨?_, ?_, ?_, ?_, ?_⟩ <;> (rw [cell_of_row _ _ _ _ _ _ hn7]; rfl)
        clear hn7
        refine wp_region_quiet_lit (by kernel_rfl) (by kernel_rfl) ?_
        repeat (first
          | ((with_reducible refine wpQuiet_step (fun K hK => ?_)); have HK := Lib.hid hK; clear hK; go_simp; first
              | ((with_reducible refine HK.out _ ?_); clear HK K)
              | (apply Exists.intro; refine ⟨fun _ => ?_, HK.out _ ?_⟩; (go_at_call 69; exact Calls.quiet_of_same (HBIT.out _)); clear HK K)))
        refine wpQuiet_nil ?_
        intro _ hw'
        obtain ⟨nq, hw''⟩ := hw'
        subst hw''
        go_wp2
        go_roundw
        case rel => exact ⟨k + 1, by omega, by go_num, Lib.hid ⟨HB.out, HBW.out _⟩⟩
        case measure => simp [intOf]; omega
      · by_cases hp : fproc = p
        · subst hp
          rw [beq_self_eq_true] at HNEXT HHIT
          cases fwaits
          · have HB := Lib.hid (HNEXT.out rfl)
            clear HNEXT HHIT
            go_wp2_with ((with_reducible change wpList _ _ _ (⟨_, .load 105 (.tmp 19), _, _, _, _⟩ :: _) _ _); refine wpList_load_cells (by rfl) 105 (.tmp 19) rfl ⟨t, k * 7, none⟩ rfl _ _ HCE.out Try.underlying105 rfl (n := 7) (by kernel_rfl) rfl ?_)
            have hn7 := heap_alloc_new wr (.cells #[.bool true, .int .i64 fproc, .int .u64 (fmask : Int), .slice A n c, .bool false, .int .u64 (fset : Int), .int .i64 fgot] 105)
            generalize wr.alloc (.cells #[.bool true, .int .i64 fproc, .int .u64 (fmask : Int), .slice A n c, .bool false, .int .u64 (fset : Int), .int .i64 fgot] 105) = W1 at *
            obtain ⟨d0, d1, d2, d4, d5⟩ : W1.cell? ⟨wr.heap.size, 0, none⟩ = some (.bool true) ∧ W1.cell? ⟨wr.heap.size, 1, none⟩ = some (.int .i64 fproc) ∧ W1.cell? ⟨wr.heap.size, 2, none⟩ = some (.int .u64 (fmask : Int)) ∧ W1.cell? ⟨wr.heap.size, 4, none⟩ = some (.bool false) ∧ W1.cell? ⟨wr.heap.size, 5, none⟩ = some (.int .u64 (fset : Int)) := by
              refine ⟨?_, ?_, ?_, ?_, ?_⟩ <;> (rw [cell_of_row _ _ _ _ _ _ hn7]; rfl)
            clear hn7
            refine wp_region_quiet_lit (by kernel_rfl) (by kernel_rfl) ?_
            repeat (first
              | ((with_reducible refine wpQuiet_step (fun K hK => ?_)); have HK := Lib.hid hK; clear hK; go_simp; first
                  | ((with_reducible refine HK.out _ ?_); clear HK K)
                  | (apply Exists.intro; refine ⟨fun _ => ?_, HK.out _ ?_⟩; (go_at_call 69; exact Calls.quiet_of_same (HBIT.out _)); clear HK K)))
            refine wpQuiet_nil ?_
            intro _ hw'
            obtain ⟨nq, hw''⟩ := hw'
            subst hw''
            go_wp2
            go_roundw
            case rel => exact ⟨k + 1, by omega, by go_num, Lib.hid ⟨HB.out, HBW.out _⟩⟩
            case measure => simp [intOf]; omega
          · cases hzq : ((z : Int) != 0)
            · rw [hzq] at HNEXT
              have HB := Lib.hid (HNEXT.out rfl)
              clear HNEXT HHIT
              go_wp2_with ((with_reducible change wpList _ _ _ (⟨_, .load 105 (.tmp 19), _, _, _, _⟩ :: _) _ _); refine wpList_load_cells (by rfl) 105 (.tmp 19) rfl ⟨t, k * 7, none⟩ rfl _ _ HCE.out Try.underlying105 rfl (n := 7) (by kernel_rfl) rfl ?_)
              have hn7 := heap_alloc_new wr (.cells #[.bool true, .int .i64 fproc, .int .u64 (fmask : Int), .slice A n c, .bool true, .int .u64 (fset : Int), .int .i64 fgot] 105)
              generalize wr.alloc (.cells #[.bool true, .int .i64 fproc, .int .u64 (fmask : Int), .slice A n c, .bool true, .int .u64 (fset : Int), .int .i64 fgot] 105) = W1 at *
              obtain ⟨d0, d1, d2, d4, d5⟩ : W1.cell? ⟨wr.heap.size, 0, none⟩ = some (.bool true) ∧ W1.cell? ⟨wr.heap.size, 1, none⟩ = some (.int .i64 fproc) ∧ W1.cell? ⟨wr.heap.size, 2, none⟩ = some (.int .u64 (fmask : Int)) ∧ W1.cell? ⟨wr.heap.size, 4, none⟩ = some (.bool true) ∧ W1.cell? ⟨wr.heap.size, 5, none⟩ = some (.int .u64 (fset : Int)) := by
                refine ⟨?_, ?_, ?_, ?_, ?_⟩ <;> (rw [cell_of_row _ _ _ _ _ _ hn7]; rfl)
              clear hn7
              refine wp_region_quiet_lit (by kernel_rfl) (by kernel_rfl) ?_
              repeat (first
                | ((with_reducible refine wpQuiet_step (fun K hK => ?_)); have HK := Lib.hid hK; clear hK; go_simp; first
                    | ((with_reducible refine HK.out _ ?_); clear HK K)
                    | (apply Exists.intro; refine ⟨fun _ => ?_, HK.out _ ?_⟩; (go_at_call 69; exact Calls.quiet_of_same (HBIT.out _)); clear HK K)))
              refine wpQuiet_nil ?_
              intro _ hw'
              obtain ⟨nq, hw''⟩ := hw'
              subst hw''
              go_wp2
              go_roundw
              case rel => exact ⟨k + 1, by omega, by go_num, Lib.hid ⟨HB.out, HBW.out _⟩⟩
              case measure => simp [intOf]; omega
            · rw [hzq] at HHIT
              have HB := Lib.hid (HHIT.out rfl)
              clear HNEXT HHIT
              go_wp2_with ((with_reducible change wpList _ _ _ (⟨_, .load 105 (.tmp 19), _, _, _, _⟩ :: _) _ _); refine wpList_load_cells (by rfl) 105 (.tmp 19) rfl ⟨t, k * 7, none⟩ rfl _ _ HCE.out Try.underlying105 rfl (n := 7) (by kernel_rfl) rfl ?_)
              have hn7 := heap_alloc_new wr (.cells #[.bool true, .int .i64 fproc, .int .u64 (fmask : Int), .slice A n c, .bool true, .int .u64 (fset : Int), .int .i64 fgot] 105)
              generalize wr.alloc (.cells #[.bool true, .int .i64 fproc, .int .u64 (fmask : Int), .slice A n c, .bool true, .int .u64 (fset : Int), .int .i64 fgot] 105) = W1 at *
              obtain ⟨d0, d1, d2, d4, d5⟩ : W1.cell? ⟨wr.heap.size, 0, none⟩ = some (.bool true) ∧ W1.cell? ⟨wr.heap.size, 1, none⟩ = some (.int .i64 fproc) ∧ W1.cell? ⟨wr.heap.size, 2, none⟩ = some (.int .u64 (fmask : Int)) ∧ W1.cell? ⟨wr.heap.size, 4, none⟩ = some (.bool true) ∧ W1.cell? ⟨wr.heap.size, 5, none⟩ = some (.int .u64 (fset : Int)) := by
                refine ⟨?_, ?_, ?_, ?_, ?_⟩ <;> (rw [cell_of_row _ _ _ _ _ _ hn7]; rfl)
              clear hn7
              refine wp_region_quiet_lit (by kernel_rfl) (by kernel_rfl) ?_
              repeat (first
                | ((with_reducible refine wpQuiet_step (fun K hK => ?_)); have HK := Lib.hid hK; clear hK; go_simp; first
                    | ((with_reducible refine HK.out _ ?_); clear HK K)
                    | (apply Exists.intro; refine ⟨fun _ => ?_, HK.out _ ?_⟩; (go_at_call 69; exact Calls.quiet_of_same (HBIT.out _)); clear HK K)))
              refine wpQuiet_nil ?_
              intro _ hw'
              obtain ⟨nq, hw''⟩ := hw'
              subst hw''
              go_wp2
              go_ret
              exact ⟨by rw [HB.out]; rfl, HBW.out _⟩
        · have hpb : (fproc == p) = false := by simpa using hp
          rw [hpb] at HNEXT HHIT
          have HB := Lib.hid (HNEXT.out rfl)
          clear HNEXT HHIT hp
          go_wp2_with ((with_reducible change wpList _ _ _ (⟨_, .load 105 (.tmp 19), _, _, _, _⟩ :: _) _ _); refine wpList_load_cells (by rfl) 105 (.tmp 19) rfl ⟨t, k * 7, none⟩ rfl _ _ HCE.out Try.underlying105 rfl (n := 7) (by kernel_rfl) rfl ?_)
          have hn7 := heap_alloc_new wr (.cells #[.bool true, .int .i64 fproc, .int .u64 (fmask : Int), .slice A n c, .bool fwaits, .int .u64 (fset : Int), .int .i64 fgot] 105)
          generalize wr.alloc (.cells #[.bool true, .int .i64 fproc, .int .u64 (fmask : Int), .slice A n c, .bool fwaits, .int .u64 (fset : Int), .int .i64 fgot] 105) = W1 at *
          obtain ⟨d0, d1, d2, d4, d5⟩ : W1.cell? ⟨wr.heap.size, 0, none⟩ = some (.bool true) ∧ W1.cell? ⟨wr.heap.size, 1, none⟩ = some (.int .i64 fproc) ∧ W1.cell? ⟨wr.heap.size, 2, none⟩ = some (.int .u64 (fmask : Int)) ∧ W1.cell? ⟨wr.heap.size, 4, none⟩ = some (.bool fwaits) ∧ W1.cell? ⟨wr.heap.size, 5, none⟩ = some (.int .u64 (fset : Int)) := by
            refine ⟨?_, ?_, ?_, ?_, ?_⟩ <;> (rw [cell_of_row _ _ _ _ _ _ hn7]; rfl)
          clear hn7
          refine wp_region_quiet_lit (by kernel_rfl) (by kernel_rfl) ?_
          repeat (first
            | ((with_reducible refine wpQuiet_step (fun K hK => ?_)); have HK := Lib.hid hK; clear hK; go_simp; first
                | ((with_reducible refine HK.out _ ?_); clear HK K)
                | (apply Exists.intro; refine ⟨fun _ => ?_, HK.out _ ?_⟩; (go_at_call 69; exact Calls.quiet_of_same (HBIT.out _)); clear HK K)))
          refine wpQuiet_nil ?_
          intro _ hw'
          obtain ⟨nq, hw''⟩ := hw'
          subst hw''
          go_wp2
          go_roundw
          case rel => exact ⟨k + 1, by omega, by go_num, Lib.hid ⟨HB.out, HBW.out _⟩⟩
          case measure => simp [intOf]; omega
    · have hge : ¬ (k : Int) < 256 := by omega
      have HNO : Hid (∀ j, j < 256 → hit1 S p s j = false) := Lib.hid fun j hj => HI.out.1 j (by omega)
      have HB0 := Lib.hid HI.out.2
      clear HI
      go_wp2
      go_loopw [9] (fun i wr => ∃ k : Nat, k ≤ 256 ∧ i = .int .i64 k ∧ Hid ((∀ j, j < k → hit2 S p s j = false) ∧ Below w.heap.size w wr)) (fun i _ => 256 - (intOf i).toNat)
      case atStart => exact ⟨0, by omega, rfl, Lib.hid ⟨fun j hj => by omega, HB0.out⟩⟩
      case round =>
        obtain ⟨k, hk, rfl, HI⟩ := hrel
        by_cases hlt : k < 256
        · have hlt' : (k : Int) < 256 := by omega
          have HR := Lib.hid (H.out.1.below HI.out.2)
          have HCE := Lib.hid (tk7_cells HR.out hlt)
          have HNEXT : Hid (hit2 S p s k = false → ∀ j, j < k + 1 → hit2 S p s j = false) := Lib.hid fun hb j hj => by
            rcases Nat.lt_succ_iff_lt_or_eq.1 hj with h | rfl
            · exact HI.out.1 j h
            · exact hb
          have HHIT : Hid (hit2 S p s k = true → choose S (threads S p) s = (k : Int)) := Lib.hid fun hb => choose2 HNO.out hlt hb HI.out.1
          obtain ⟨fin, fproc, fmask, A, n, c, fwaits, fset, fgot, e7, q1, q2, m1, m2⟩ := tk7_vals (p := p) HR.out H.out.2 HS.out.1 HS.out.2 hlt
          rw [e7] at HCE
          rw [q2] at HNEXT HHIT
          obtain ⟨z, hz, hzb⟩ := HAND.out fmask m1
          clear e7 q1 q2 m1 m2
          have hzb2 : ((z : Int) == 0) = !fmask.testBit (s - 1).toNat := by rw [← hzb, bne, Bool.not_not]
          rw [← hzb2] at HNEXT HHIT
          clear hzb2
          clear hzb
          have HBW : Hid (∀ nq, Below w.heap.size w ((wr.alloc (.cells #[.bool fin, .int .i64 fproc, .int .u64 (fmask : Int), .slice A n c, .bool fwaits, .int .u64 (fset : Int), .int .i64 fgot] 105)).drewN nq)) := Lib.hid fun nq => below_drewN (HI.out.2.alloc HI.out.2.size _) nq
          cases fin
          · have HB := Lib.hid (HNEXT.out rfl)
            clear HNEXT HHIT
            go_wp2_with ((with_reducible change wpList _ _ _ (⟨_, .load 105 (.tmp 50), _, _, _, _⟩ :: _) _ _); refine wpList_load_cells (by rfl) 105 (.tmp 50) rfl ⟨t, k * 7, none⟩ rfl _ _ HCE.out Try.underlying105 rfl (n := 7) (by kernel_rfl) rfl ?_)
            have hn7 := heap_alloc_new wr (.cells #[.bool false, .int .i64 fproc, .int .u64 (fmask : Int), .slice A n c, .bool fwaits, .int .u64 (fset : Int), .int .i64 fgot] 105)
            generalize wr.alloc (.cells #[.bool false, .int .i64 fproc, .int .u64 (fmask : Int), .slice A n c, .bool fwaits, .int .u64 (fset : Int), .int .i64 fgot] 105) = W1 at *
            obtain ⟨d0, d1, d2, d4, d5⟩ : W1.cell? ⟨wr.heap.size, 0, none⟩ = some (.bool false) ∧ W1.cell? ⟨wr.heap.size, 1, none⟩ = some (.int .i64 fproc) ∧ W1.cell? ⟨wr.heap.size, 2, none⟩ = some (.int .u64 (fmask : Int)) ∧ W1.cell? ⟨wr.heap.size, 4, none⟩ = some (.bool fwaits) ∧ W1.cell? ⟨wr.heap.size, 5, none⟩ = some (.int .u64 (fset : Int)) := by
              refine ⟨?_, ?_, ?_, ?_, ?_⟩ <;> (rw [cell_of_row _ _ _ _ _ _ hn7]; rfl)
            clear hn7
            refine wp_region_quiet_lit (by kernel_rfl) (by kernel_rfl) ?_
            repeat (first
              | ((with_reducible refine wpQuiet_step (fun K hK => ?_)); have HK := Lib.hid hK; clear hK; go_simp; first
                  | ((with_reducible refine HK.out _ ?_); clear HK K)
                  | (apply Exists.intro; refine ⟨fun _ => ?_, HK.out _ ?_⟩; (go_at_call 69; exact Calls.quiet_of_same (HBIT.out _)); clear HK K)))
            refine wpQuiet_nil ?_
            intro _ hw'
            obtain ⟨nq, hw''⟩ := hw'
            subst hw''
            go_wp2
            go_roundw
            case rel => exact ⟨k + 1, by omega, by go_num, Lib.hid ⟨HB.out, HBW.out _⟩⟩
            case measure => simp [intOf]; omega
          · by_cases hp : fproc = p
            · subst hp
              rw [beq_self_eq_true] at HNEXT HHIT
              cases hzq : ((z : Int) == 0)
              · rw [hzq] at HNEXT
                have HB := Lib.hid (HNEXT.out rfl)
                clear HNEXT HHIT
                go_wp2_with ((with_reducible change wpList _ _ _ (⟨_, .load 105 (.tmp 50), _, _, _, _⟩ :: _) _ _); refine wpList_load_cells (by rfl) 105 (.tmp 50) rfl ⟨t, k * 7, none⟩ rfl _ _ HCE.out Try.underlying105 rfl (n := 7) (by kernel_rfl) rfl ?_)
                have hn7 := heap_alloc_new wr (.cells #[.bool true, .int .i64 fproc, .int .u64 (fmask : Int), .slice A n c, .bool fwaits, .int .u64 (fset : Int), .int .i64 fgot] 105)
                generalize wr.alloc (.cells #[.bool true, .int .i64 fproc, .int .u64 (fmask : Int), .slice A n c, .bool fwaits, .int .u64 (fset : Int), .int .i64 fgot] 105) = W1 at *
                obtain ⟨d0, d1, d2, d4, d5⟩ : W1.cell? ⟨wr.heap.size, 0, none⟩ = some (.bool true) ∧ W1.cell? ⟨wr.heap.size, 1, none⟩ = some (.int .i64 fproc) ∧ W1.cell? ⟨wr.heap.size, 2, none⟩ = some (.int .u64 (fmask : Int)) ∧ W1.cell? ⟨wr.heap.size, 4, none⟩ = some (.bool fwaits) ∧ W1.cell? ⟨wr.heap.size, 5, none⟩ = some (.int .u64 (fset : Int)) := by
                  refine ⟨?_, ?_, ?_, ?_, ?_⟩ <;> (rw [cell_of_row _ _ _ _ _ _ hn7]; rfl)
                clear hn7
                refine wp_region_quiet_lit (by kernel_rfl) (by kernel_rfl) ?_
                repeat (first
                  | ((with_reducible refine wpQuiet_step (fun K hK => ?_)); have HK := Lib.hid hK; clear hK; go_simp; first
                      | ((with_reducible refine HK.out _ ?_); clear HK K)
                      | (apply Exists.intro; refine ⟨fun _ => ?_, HK.out _ ?_⟩; (go_at_call 69; exact Calls.quiet_of_same (HBIT.out _)); clear HK K)))
                refine wpQuiet_nil ?_
                intro _ hw'
                obtain ⟨nq, hw''⟩ := hw'
                subst hw''
                go_wp2
                go_roundw
                case rel => exact ⟨k + 1, by omega, by go_num, Lib.hid ⟨HB.out, HBW.out _⟩⟩
                case measure => simp [intOf]; omega
              · rw [hzq] at HHIT
                have HB := Lib.hid (HHIT.out rfl)
                clear HNEXT HHIT
                go_wp2_with ((with_reducible change wpList _ _ _ (⟨_, .load 105 (.tmp 50), _, _, _, _⟩ :: _) _ _); refine wpList_load_cells (by rfl) 105 (.tmp 50) rfl ⟨t, k * 7, none⟩ rfl _ _ HCE.out Try.underlying105 rfl (n := 7) (by kernel_rfl) rfl ?_)
                have hn7 := heap_alloc_new wr (.cells #[.bool true, .int .i64 fproc, .int .u64 (fmask : Int), .slice A n c, .bool fwaits, .int .u64 (fset : Int), .int .i64 fgot] 105)
                generalize wr.alloc (.cells #[.bool true, .int .i64 fproc, .int .u64 (fmask : Int), .slice A n c, .bool fwaits, .int .u64 (fset : Int), .int .i64 fgot] 105) = W1 at *
                obtain ⟨d0, d1, d2, d4, d5⟩ : W1.cell? ⟨wr.heap.size, 0, none⟩ = some (.bool true) ∧ W1.cell? ⟨wr.heap.size, 1, none⟩ = some (.int .i64 fproc) ∧ W1.cell? ⟨wr.heap.size, 2, none⟩ = some (.int .u64 (fmask : Int)) ∧ W1.cell? ⟨wr.heap.size, 4, none⟩ = some (.bool fwaits) ∧ W1.cell? ⟨wr.heap.size, 5, none⟩ = some (.int .u64 (fset : Int)) := by
                  refine ⟨?_, ?_, ?_, ?_, ?_⟩ <;> (rw [cell_of_row _ _ _ _ _ _ hn7]; rfl)
                clear hn7
                refine wp_region_quiet_lit (by kernel_rfl) (by kernel_rfl) ?_
                repeat (first
                  | ((with_reducible refine wpQuiet_step (fun K hK => ?_)); have HK := Lib.hid hK; clear hK; go_simp; first
                      | ((with_reducible refine HK.out _ ?_); clear HK K)
                      | (apply Exists.intro; refine ⟨fun _ => ?_, HK.out _ ?_⟩; (go_at_call 69; exact Calls.quiet_of_same (HBIT.out _)); clear HK K)))
                refine wpQuiet_nil ?_
                intro _ hw'
                obtain ⟨nq, hw''⟩ := hw'
                subst hw''
                go_wp2
                go_ret
                exact ⟨by rw [HB.out]; rfl, HBW.out _⟩
            · have hpb : (fproc == p) = false := by simpa using hp
              rw [hpb] at HNEXT HHIT
              have HB := Lib.hid (HNEXT.out rfl)
              clear HNEXT HHIT hp
              go_wp2_with ((with_reducible change wpList _ _ _ (⟨_, .load 105 (.tmp 50), _, _, _, _⟩ :: _) _ _); refine wpList_load_cells (by rfl) 105 (.tmp 50) rfl ⟨t, k * 7, none⟩ rfl _ _ HCE.out Try.underlying105 rfl (n := 7) (by kernel_rfl) rfl ?_)
              have hn7 := heap_alloc_new wr (.cells #[.bool true, .int .i64 fproc, .int .u64 (fmask : Int), .slice A n c, .bool fwaits, .int .u64 (fset : Int), .int .i64 fgot] 105)
              generalize wr.alloc (.cells #[.bool true, .int .i64 fproc, .int .u64 (fmask : Int), .slice A n c, .bool fwaits, .int .u64 (fset : Int), .int .i64 fgot] 105) = W1 at *
              obtain ⟨d0, d1, d2, d4, d5⟩ : W1.cell? ⟨wr.heap.size, 0, none⟩ = some (.bool true) ∧ W1.cell? ⟨wr.heap.size, 1, none⟩ = some (.int .i64 fproc) ∧ W1.cell? ⟨wr.heap.size, 2, none⟩ = some (.int .u64 (fmask : Int)) ∧ W1.cell? ⟨wr.heap.size, 4, none⟩ = some (.bool fwaits) ∧ W1.cell? ⟨wr.heap.size, 5, none⟩ = some (.int .u64 (fset : Int)) := by
                refine ⟨?_, ?_, ?_, ?_, ?_⟩ <;> (rw [cell_of_row _ _ _ _ _ _ hn7]; rfl)
              clear hn7
              refine wp_region_quiet_lit (by kernel_rfl) (by kernel_rfl) ?_
              repeat (first
                | ((with_reducible refine wpQuiet_step (fun K hK => ?_)); have HK := Lib.hid hK; clear hK; go_simp; first
                    | ((with_reducible refine HK.out _ ?_); clear HK K)
                    | (apply Exists.intro; refine ⟨fun _ => ?_, HK.out _ ?_⟩; (go_at_call 69; exact Calls.quiet_of_same (HBIT.out _)); clear HK K)))
              refine wpQuiet_nil ?_
              intro _ hw'
              obtain ⟨nq, hw''⟩ := hw'
              subst hw''
              go_wp2
              go_roundw
              case rel => exact ⟨k + 1, by omega, by go_num, Lib.hid ⟨HB.out, HBW.out _⟩⟩
              case measure => simp [intOf]; omega
        · obtain rfl : k = 256 := by omega
          have HB := Lib.hid (choose3 HNO.out HI.out.1)
          go_wp2
          go_ret
          exact ⟨by rw [HB.out]; rfl, HI.out.2⟩
end Go.Proofs.Ytbpihfphoniclaa
