import Derived.Test.YtbojagkalbfenaaG2
import Derived.Test.YtbojagkalbfenaasL3
namespace Go.Proofs.Ytbojagkalbfenaa
open Go.RowKit PIovSlices Go.Proofs.YtbojagkalbfenaaW.PrintWords
attribute [local go_sem] ints_get ints_size ints_getElem

theorem pairs_of_C {w : World} {A : Option Addr} {l : List S44} (h : Kd.C k44 w A l.length l) : Pairs w A (prs l) := by
  intro i hi
  rw [prs_length] at hi
  obtain ⟨ad, e, h1, h2⟩ := at_T44 h (i : Int) (by omega) (by omega)
  have hg : (prs l).getD i (0, 0) = ((rd_T44 l i).f0, (rd_T44 l i).f1) := by simp [prs, rd_T44, List.getD_eq_getElem?_getD, List.getElem?_eq_getElem hi]
  rw [hg]
  exact ⟨ad, e, by simpa using h1, by simpa using h2⟩
/-- Gather's code. -/
def gcode (nm : Nat) (l : List (Int × Int)) (off n : Int) : Int := if wth l off n = 0 then (if insideB nm (slicedL l off n) = true then 0 else 11) else wth l off n
def gres (ds : List Value) (l : List (Int × Int)) (off n : Int) : List Value := if gcode ds.length l off n = 0 then gatherL ds (slicedL l off n) else []
theorem wth_zero {l : List (Int × Int)} {off n : Int} (h : wth l off n = 0) : okP l ∧ l.length ≤ 16 ∧ 0 ≤ sumL l ∧ sumL l ≤ 4096 ∧ 0 ≤ off ∧ 0 ≤ n ∧ off + n ≤ sumL l := by
  have hc : chk l = 0 := by
    unfold wth at h
    split at h
    · assumption
    · assumption
  obtain ⟨h1, h2, h3, h4⟩ := chk_zero hc
  unfold wth at h
  rw [if_pos hc] at h
  split at h
  · cases h
  · exact ⟨h1, h2, h3, h4, by omega, by omega, by omega⟩

theorem inside_l (M : Option Addr) (mlen mcap : Nat) (A : Option Addr) (cap : Nat) (l : List S44) (off n : Int) (w : World) (hp : Pairs w A (prs l)) (hA : ∀ ad, A = some ad → ad.block < w.heap.size) (hw : wth (prs l) off n = 0) (hml : mlen ≤ 9223372036854775807) :
    Calls Try.prog 34 #[.slice M mlen mcap, .slice A l.length cap, .int .i64 off, .int .i64 n] w fun e w' => e = .returned (.bool (insideB mlen (slicedL (prs l) off n))) ∧ Below w.heap.size w w' := by
  obtain ⟨h1, h2, h3, h4, h5, h6, h7⟩ := wth_zero hw
  have := callsIn_wide.1 (inside_in M mlen mcap A cap (prs l) off n w hp hA h1 (by omega) (by omega) h2 hml)
  rwa [prs_length] at this
theorem gather_l (M : Option Addr) (ds : List Value) (mcap : Nat) (A : Option Addr) (cap : Nat) (l : List S44) (off n : Int) (w : World) (hmem : Mem w M ds) (hp : Pairs w A (prs l)) (hA : ∀ ad, A = some ad → ad.block < w.heap.size) (hw : wth (prs l) off n = 0) (hml : ds.length ≤ mcap) (hmc : mcap ≤ 9223372036854775807)
    (hin : insideB ds.length (slicedL (prs l) off n) = true) :
    Calls Try.prog 35 #[.slice M ds.length mcap, .slice A l.length cap, .int .i64 off, .int .i64 n] w fun e w' => ∃ v, e = .returned v ∧ w'.ownsRow w.heap.size 5 1 v (gatherL ds (slicedL (prs l) off n)).length (gatherL ds (slicedL (prs l) off n)) ∧ Below w.heap.size w w' := by
  obtain ⟨h1, h2, h3, h4, h5, h6, h7⟩ := wth_zero hw
  have := callsIn_wide.1 (gather_in M ds mcap A cap (prs l) off n w hmem hp hA h1 (by omega) (by omega) h2 hml hmc hin)
  rwa [prs_length] at this

set_option maxHeartbeats 1000000 in
set_option maxRecDepth 100000 in
theorem gatherF (M : Option Addr) (ds : List Value) (mcap : Nat) (A : Option Addr) (cap : Nat) (l : List S44) (off n : Int) (P0 : Nat → Prop) (w : World) (hmem : Mem w M ds) (hV : Kd.V k44 44 w w.heap.size P0 (.slice A l.length cap) l)
    (hA : ∀ ad, A = some ad → ad.block < w.heap.size) (hml : ds.length ≤ mcap) (hmc : mcap ≤ 9223372036854775807) :
    Calls Try.prog 12 #[.slice M ds.length mcap, .slice A l.length cap, .int .i64 off, .int .i64 n] w fun e w' => ∃ v, e = .returned (.tuple #[v, .int .i64 (gcode ds.length (prs l) off n)]) ∧ w'.ownsRow w.heap.size 5 1 v (gres ds (prs l) off n).length (gres ds (prs l) off n) ∧ Below w.heap.size w w' := by
  have HM := Lib.hid hmem
  have HV := Lib.hid hV
  have HP := Lib.hid (pairs_of_C (Kd.V_reads' hV).2.2)
  have HA := Lib.hid hA
  clear hmem hV hA
  go_enter Try.func12, Try.ntmps12
  by_cases hw : wth (prs l) off n = 0
  · obtain ⟨h1, h2, h3, h4, h5, h6, h7⟩ := wth_zero hw
    have HOK := Lib.hid h1
    clear h1
    rw [prs_length] at h2
    by_cases hin : insideB ds.length (slicedL (prs l) off n) = true
    · have HIN := Lib.hid hin
      have hg : gcode ds.length (prs l) off n = 0 := by unfold gcode; rw [if_pos hw, if_pos hin]
      have hr : gres ds (prs l) off n = gatherL ds (slicedL (prs l) off n) := by unfold gres; rw [if_pos hg]
      go_wp2_with (first
        | (go_at_call 33; refine (iov_within.calls 60 P0 A cap l off n 0 w HV.out (by rw [within_f l off n (by omega), hw])).mono ?_; rintro e w1 ⟨rfl, hb1⟩)
        | (go_at_call 34; refine (inside_l M ds.length mcap A cap l off n _ (HP.out.below hb1) (fun ad e => Nat.lt_of_lt_of_le (HA.out ad e) hb1.size) hw (by omega)).mono ?_; rw [HIN.out]; rintro e w2 ⟨rfl, hb2⟩)
        | (go_at_call 35; refine (gather_l M ds mcap A cap l off n _ ((HM.out.below hb1).below hb2) ((HP.out.below hb1).below hb2) (fun ad e => Nat.lt_of_lt_of_le (Nat.lt_of_lt_of_le (HA.out ad e) hb1.size) hb2.size) hw hml hmc HIN.out).mono ?_; rintro e w3 ⟨v, rfl, ho, hb3⟩))
      go_ret2
      rw [hg, hr]
      refine ⟨v, rfl, owns_mono ho (Nat.le_trans hb1.size hb2.size), below_then' hb1 (below_then' hb2 hb3)⟩
    · have hin' : insideB ds.length (slicedL (prs l) off n) = false := by simpa using hin
      have HIN := Lib.hid hin'
      have hg : gcode ds.length (prs l) off n = 11 := by unfold gcode; rw [if_pos hw, if_neg hin]
      have hr : gres ds (prs l) off n = [] := by unfold gres; rw [if_neg (by rw [hg]; decide)]
      rw [hg, hr]
      go_wp2_with (first
        | (go_at_call 33; refine (iov_within.calls 60 P0 A cap l off n 0 w HV.out (by rw [within_f l off n (by omega), hw])).mono ?_; rintro e w1 ⟨rfl, hb1⟩)
        | (go_at_call 34; refine (inside_l M ds.length mcap A cap l off n _ (HP.out.below hb1) (fun ad e => Nat.lt_of_lt_of_le (HA.out ad e) hb1.size) hw (by omega)).mono ?_; rw [HIN.out]; rintro e w2 ⟨rfl, hb2⟩))
      go_ret2
      refine ⟨_, rfl, ⟨by simp, .inl ⟨rfl, rfl⟩⟩, ?_⟩
      exact below_then' hb1 hb2
  · have hg : gcode ds.length (prs l) off n = wth (prs l) off n := by unfold gcode; rw [if_neg hw]
    have hr : gres ds (prs l) off n = [] := by unfold gres; rw [if_neg (by rw [hg]; exact hw)]
    rw [hg, hr]
    go_wp2_with (first
      | (go_at_call 33; refine (iov_within.calls 60 P0 A cap l off n _ w HV.out (within_f l off n (by omega))).mono ?_; rintro e w1 ⟨rfl, hb1⟩))
    go_ret2
    refine ⟨_, rfl, ⟨by simp, .inl ⟨rfl, rfl⟩⟩, hb1⟩
end Go.Proofs.Ytbojagkalbfenaa
