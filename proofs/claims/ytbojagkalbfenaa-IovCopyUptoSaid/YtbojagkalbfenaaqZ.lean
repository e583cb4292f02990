import Derived.Test.YtbojagkalbfenaaqG
import Derived.Test.YtbojagkalbfenaaqR
import Derived.LoopN
import Derived.Deep.DeepCutAuto
import Derived.Test.YtbojagkalbfenaaRows
import Derived.Deep.RegionHeld3
import Derived.Deep.Strs
import Derived.OpenShut
import Derived.WideShapes
import Derived.SizedLaws
import Derived.Deep.Slices
import Derived.WalkKit
import Derived.ProofKit
import Derived.ShutString
import Derived.ChangeOld
import Derived.Below
namespace Go.Proofs.Ytbojagkalbfenaa
set_option linter.unusedVariables false
set_option linter.unusedSimpArgs false
open Go.RowKit PIovGather Go.Proofs.YtbojagkalbfenaaW.PrintWords Go.Proofs.YtbojagkalbfenaaW.PrintMore
attribute [local go_sem] ints_get ints_size ints_getElem min2_int min_two

/-- What the reference's Copied answers. -/
def CPost (ms ss : List Int) (l r : List S44) (w : World) (e : Ending) (w' : World) : Prop :=
  ∃ v, e = .returned (.tuple #[v, .int .i64 (cnum ms.length ss.length (prs l) (prs r)), .int .i64 (ccode ms.length ss.length (prs l) (prs r))]) ∧
      (ccode ms.length ss.length (prs l) (prs r) = 0 → w'.ownsRow w.heap.size 5 1 v ms.length (cmem (byts ms) (byts ss) (prs l) (prs r))) ∧ Below w.heap.size w w'
theorem CPost.bad {ms ss : List Int} {l r : List S44} {w w' : World} {e : Ending} {c : Int} (v : Value) (hc : ccode ms.length ss.length (prs l) (prs r) = c) (h0 : c ≠ 0) (he : e = .returned (.tuple #[v, .int .i64 0, .int .i64 c])) (hb : Below w.heap.size w w') : CPost ms ss l r w e w' := by
  have hs : cnum ms.length ss.length (prs l) (prs r) = 0 := by unfold cnum; rw [if_neg (by rw [hc]; exact h0)]
  exact ⟨v, by rw [hs, hc]; exact he, fun h => absurd (hc ▸ h) h0, hb⟩

set_option maxHeartbeats 2000000 in
set_option maxRecDepth 100000 in
theorem copied_long (M : Option Addr) (mc : Nat) (ms : List Int) (A : Option Addr) (ca : Nat) (l : List S44) (D : Option Addr) (dc : Nat) (ss : List Int) (B : Option Addr) (cb : Nat) (r : List S44) (w : World)
    (hlong : 16 < l.length ∨ 16 < r.length) :
    Calls Try.prog 30 #[.slice M ms.length mc, .slice A l.length ca, .slice D ss.length dc, .slice B r.length cb] w fun e w' => CPost ms ss l r w e w' := by
  have hc : ccode ms.length ss.length (prs l) (prs r) = 18 := by
    have h2 : chk2 (prs l) (prs r) = 18 := by unfold chk2; rw [if_pos (by simpa [prs_length] using hlong)]
    unfold ccode
    rw [h2, if_neg (by decide)]
  have HC := Lib.hid hc
  have HB := Lib.hid (((Below.refl w.heap.size w).alloc (Nat.le_refl _) (.cells #[.slice A l.length ca, .slice B r.length cb] 23)))
  clear hc
  go_enter Try.func30, Try.ntmps30
  by_cases hl : 16 < l.length
  · have hl' : (16 : Int) < (l.length : Int) := by omega
    go_wp2
    refine wp_loop_rounds 3 ?_
    rw [rounds_succ]; go_wp2
    exact bodyPost_ret (results_tmp3 rfl _ _ _) rfl (CPost.bad _ HC.out (by decide) rfl HB.out)
  · have hl' : ¬ (16 : Int) < (l.length : Int) := by omega
    have hr' : (16 : Int) < (r.length : Int) := by omega
    go_wp2
    refine wp_loop_rounds 3 ?_
    rw [rounds_succ]; go_wp2
    rw [rounds_succ]; go_wp2
    exact bodyPost_ret (results_tmp3 rfl _ _ _) rfl (CPost.bad _ HC.out (by decide) rfl HB.out)
end Go.Proofs.Ytbojagkalbfenaa
namespace Go.Proofs.Ytbojagkalbfenaa
set_option linter.unusedVariables false
set_option linter.unusedSimpArgs false
open Go.RowKit PIovGather Go.Proofs.YtbojagkalbfenaaW.PrintWords Go.Proofs.YtbojagkalbfenaaW.PrintMore
attribute [local go_sem] ints_get ints_size ints_getElem min2_int min_two

theorem row_move {w w' : World} {g : Nat} {x} (h : w.heap[g]? = some x) (hd : Below w.heap.size w w') : w'.heap[g]? = some x := (hd.block g (Array.getElem?_eq_some_iff.1 h).1).trans h
theorem row_two {w : World} {g : Nat} {x y : Value} {t : TypeId} {fr : Nat × Nat} (h : w.heap[g]? = some (.cells #[x, y] t fr)) : w.cell? ⟨g, 0, none⟩ = some x ∧ w.cell? ⟨g, 1, none⟩ = some y := by
  refine ⟨?_, ?_⟩
  · rw [cell_of_row _ _ _ _ _ _ h]; rfl
  · rw [cell_of_row _ _ _ _ _ _ h]; rfl
theorem chk_34 {l : List (Int × Int)} (h : l.length ≤ 16) : chk l = 34 ↔ okB l = false := by
  unfold chk
  rw [if_neg (by omega)]
  split
  · rename_i h1
    rw [h1]
    split <;> simp
  · rename_i h1; simpa using h1

set_option maxHeartbeats 2000000 in
set_option maxRecDepth 100000 in
theorem copied_range (M : Option Addr) (mc : Nat) (ms : List Int) (A : Option Addr) (ca : Nat) (l : List S44) (D : Option Addr) (dc : Nat) (ss : List Int) (B : Option Addr) (cb : Nat) (r : List S44) (w : World)
    (hL : Kd.C k44 w A l.length l) (hca : l.length ≤ ca) (hR : Kd.C k44 w B r.length r) (hcb : r.length ≤ cb) (hl : l.length ≤ 16) (hr : r.length ≤ 16) (hbad : ¬ (okB (prs l) = true ∧ okB (prs r) = true)) :
    Calls Try.prog 30 #[.slice M ms.length mc, .slice A l.length ca, .slice D ss.length dc, .slice B r.length cb] w fun e w' => CPost ms ss l r w e w' := by
  have hc : ccode ms.length ss.length (prs l) (prs r) = 34 := by
    have h2 : chk2 (prs l) (prs r) = 34 := by unfold chk2; rw [if_neg (by simp only [prs_length]; omega), if_neg hbad]
    unfold ccode
    rw [h2, if_neg (by decide)]
  have HC := Lib.hid hc
  have HL := Lib.hid hL
  have HR := Lib.hid hR
  have HB := Lib.hid (((Below.refl w.heap.size w).alloc (Nat.le_refl _) (.cells #[.slice A l.length ca, .slice B r.length cb] 23)))
  have HH := Lib.hid (heap_alloc_new w (.cells #[.slice A l.length ca, .slice B r.length cb] 23))
  have h1 := rlen_f l (k := 60) (by omega)
  have h2 := rlen_f r (k := 60) (by omega)
  have k1 := chk_34 (l := prs l) (by rw [prs_length]; omega)
  have k2 := chk_34 (l := prs r) (by rw [prs_length]; omega)
  have hl' : ¬ (16 : Int) < (l.length : Int) := by omega
  have hr' : ¬ (16 : Int) < (r.length : Int) := by omega
  clear hc hL hR
  go_enter Try.func30, Try.ntmps30
  by_cases ho : okB (prs l) = true
  · have e1 : (chk (prs l) == 34) = false := beq_eq_false_iff_ne.2 (fun h => by rw [k1.1 h] at ho; cases ho)
    have e2 : chk (prs r) = 34 := by rw [k2]; have := hbad; simp only [ho, true_and] at this; simpa using this
    generalize (if chk (prs l) = 0 then sumL (prs l) else 0) = q1 at h1
    rw [e2] at h2
    generalize (if (34 : Int) = 0 then sumL (prs r) else 0) = q2 at h2
    have H1 := Lib.hid h1
    have H2 := Lib.hid h2
    clear h1 h2 hbad k1 k2 ho e2
    go_wp2
    refine wp_loop_rounds 3 ?_
    rw [rounds_succ]; go_wp2
    rw [rounds_succ]; go_wp2
    rw [rounds_succ]; go_wp2
    refine wp_loop_rounds 3 ?_
    rw [rounds_succ]
    go_wp2_with (first
      | (go_at_call 19; (with_reducible show Calls Try.prog 19 #[.slice A _ _] _ _); refine (orpimentref09_Length.calls 60 A ca l _ _ _ (Kd.C_below HL.out HB.out) hca H1.out).mono ?_; rintro e w1 ⟨rfl, hd⟩; replace HB := Lib.hid (below_then' HB.out hd); replace HH := Lib.hid (row_move HH.out hd); have hc0 := (row_two HH.out).1; have hc1 := (row_two HH.out).2; clear hd))
    rw [rounds_succ]
    go_wp2_with (first
      | (go_at_call 19; (with_reducible show Calls Try.prog 19 #[.slice B _ _] _ _); refine (orpimentref09_Length.calls 60 B cb r _ _ _ (Kd.C_below HR.out HB.out) hcb H2.out).mono ?_; rintro e w2 ⟨rfl, hd⟩; replace HB := Lib.hid (below_then' HB.out hd); clear hd))
    exact bodyPost_ret (results_tmp3 rfl _ _ _) rfl (CPost.bad _ HC.out (by decide) rfl HB.out)
  · have e1 : chk (prs l) = 34 := by rw [k1]; simpa using ho
    rw [e1] at h1
    generalize (if (34 : Int) = 0 then sumL (prs l) else 0) = q1 at h1
    have H1 := Lib.hid h1
    clear h1 h2 hbad k1 k2 ho e1
    go_wp2
    refine wp_loop_rounds 3 ?_
    rw [rounds_succ]; go_wp2
    rw [rounds_succ]; go_wp2
    rw [rounds_succ]; go_wp2
    refine wp_loop_rounds 3 ?_
    rw [rounds_succ]
    go_wp2_with (first
      | (go_at_call 19; (with_reducible show Calls Try.prog 19 #[.slice A _ _] _ _); refine (orpimentref09_Length.calls 60 A ca l _ _ _ (Kd.C_below HL.out HB.out) hca H1.out).mono ?_; rintro e w1 ⟨rfl, hd⟩; replace HB := Lib.hid (below_then' HB.out hd); replace HH := Lib.hid (row_move HH.out hd); clear hd))
    exact bodyPost_ret (results_tmp3 rfl _ _ _) rfl (CPost.bad _ HC.out (by decide) rfl HB.out)
end Go.Proofs.Ytbojagkalbfenaa
namespace Go.Proofs.Ytbojagkalbfenaa
set_option linter.unusedVariables false
set_option linter.unusedSimpArgs false
open Go.RowKit PIovGather Go.Proofs.YtbojagkalbfenaaW.PrintWords Go.Proofs.YtbojagkalbfenaaW.PrintMore
attribute [local go_sem] ints_get ints_size ints_getElem min2_int min_two

theorem chk_ok {l : List (Int × Int)} (hl : l.length ≤ 16) (ho : okB l = true) : chk l = if 4096 < sumL l then 20 else 0 := by
  unfold chk
  rw [if_neg (by omega), if_pos ho]

set_option maxHeartbeats 2000000 in
set_option maxRecDepth 100000 in
theorem copied_size (M : Option Addr) (mc : Nat) (ms : List Int) (A : Option Addr) (ca : Nat) (l : List S44) (D : Option Addr) (dc : Nat) (ss : List Int) (B : Option Addr) (cb : Nat) (r : List S44) (w : World)
    (hL : Kd.C k44 w A l.length l) (hca : l.length ≤ ca) (hR : Kd.C k44 w B r.length r) (hcb : r.length ≤ cb) (hl : l.length ≤ 16) (hr : r.length ≤ 16) (hol : okB (prs l) = true) (hor : okB (prs r) = true) (hbad : 4096 < sumL (prs l) ∨ 4096 < sumL (prs r)) :
    Calls Try.prog 30 #[.slice M ms.length mc, .slice A l.length ca, .slice D ss.length dc, .slice B r.length cb] w fun e w' => CPost ms ss l r w e w' := by
  have hc : ccode ms.length ss.length (prs l) (prs r) = 20 := by
    have h2 : chk2 (prs l) (prs r) = 20 := by unfold chk2; rw [if_neg (by simp only [prs_length]; omega), if_pos ⟨hol, hor⟩, if_pos hbad]
    unfold ccode
    rw [h2, if_neg (by decide)]
  have HC := Lib.hid hc
  have HL := Lib.hid hL
  have HR := Lib.hid hR
  have HB := Lib.hid (((Below.refl w.heap.size w).alloc (Nat.le_refl _) (.cells #[.slice A l.length ca, .slice B r.length cb] 23)))
  have HH := Lib.hid (heap_alloc_new w (.cells #[.slice A l.length ca, .slice B r.length cb] 23))
  have h1 := rlen_f l (k := 60) (by omega)
  have h2 := rlen_f r (k := 60) (by omega)
  have k1 := chk_ok (l := prs l) (by rw [prs_length]; omega) hol
  have k2 := chk_ok (l := prs r) (by rw [prs_length]; omega) hor
  have hl' : ¬ (16 : Int) < (l.length : Int) := by omega
  have hr' : ¬ (16 : Int) < (r.length : Int) := by omega
  clear hc hL hR
  go_enter Try.func30, Try.ntmps30
  by_cases ho : 4096 < sumL (prs l)
  · rw [if_pos ho] at k1
    have e2 : (chk (prs r) == 34) = false := beq_eq_false_iff_ne.2 (fun h => by rw [k2] at h; split at h <;> cases h)
    rw [k1] at h1
    generalize chk (prs r) = c2 at h2 e2
    generalize (if (20 : Int) = 0 then sumL (prs l) else 0) = q1 at h1
    generalize (if c2 = 0 then sumL (prs r) else 0) = q2 at h2
    have H1 := Lib.hid h1
    have H2 := Lib.hid h2
    clear h1 h2 hbad k1 k2 ho
    go_wp2
    refine wp_loop_rounds 3 ?_
    rw [rounds_succ]; go_wp2
    rw [rounds_succ]; go_wp2
    rw [rounds_succ]; go_wp2
    refine wp_loop_rounds 3 ?_
    rw [rounds_succ]
    go_wp2_with (first
      | (go_at_call 19; (with_reducible show Calls Try.prog 19 #[.slice A _ _] _ _); refine (orpimentref09_Length.calls 60 A ca l _ _ _ (Kd.C_below HL.out HB.out) hca H1.out).mono ?_; rintro e w1 ⟨rfl, hd⟩; replace HB := Lib.hid (below_then' HB.out hd); replace HH := Lib.hid (row_move HH.out hd); have hc0 := (row_two HH.out).1; have hc1 := (row_two HH.out).2; clear hd))
    rw [rounds_succ]
    go_wp2_with (first
      | (go_at_call 19; (with_reducible show Calls Try.prog 19 #[.slice B _ _] _ _); refine (orpimentref09_Length.calls 60 B cb r _ _ _ (Kd.C_below HR.out HB.out) hcb H2.out).mono ?_; rintro e w2 ⟨rfl, hd⟩; replace HB := Lib.hid (below_then' HB.out hd); clear hd))
    rw [rounds_succ]
    go_wp2_with (first
      | (go_at_call 19; (with_reducible show Calls Try.prog 19 #[.slice A _ _] _ _); refine (orpimentref09_Length.calls 60 A ca l _ _ _ (Kd.C_below HL.out HB.out) hca H1.out).mono ?_; rintro e w3 ⟨rfl, hd⟩; replace HB := Lib.hid (below_then' HB.out hd); clear hd)
      | (go_at_call 19; (with_reducible show Calls Try.prog 19 #[.slice B _ _] _ _); refine (orpimentref09_Length.calls 60 B cb r _ _ _ (Kd.C_below HR.out HB.out) hcb H2.out).mono ?_; rintro e w4 ⟨rfl, hd⟩; replace HB := Lib.hid (below_then' HB.out hd); clear hd))
    all_goals exact bodyPost_ret (results_tmp3 rfl _ _ _) rfl (CPost.bad _ HC.out (by decide) rfl HB.out)
  · rw [if_neg ho] at k1
    rw [if_pos (by omega)] at k2
    rw [k1] at h1
    rw [k2] at h2
    generalize (if (0 : Int) = 0 then sumL (prs l) else 0) = q1 at h1
    generalize (if (20 : Int) = 0 then sumL (prs r) else 0) = q2 at h2
    have H1 := Lib.hid h1
    have H2 := Lib.hid h2
    clear h1 h2 hbad k1 k2 ho
    go_wp2
    refine wp_loop_rounds 3 ?_
    rw [rounds_succ]; go_wp2
    rw [rounds_succ]; go_wp2
    rw [rounds_succ]; go_wp2
    refine wp_loop_rounds 3 ?_
    rw [rounds_succ]
    go_wp2_with (first
      | (go_at_call 19; (with_reducible show Calls Try.prog 19 #[.slice A _ _] _ _); refine (orpimentref09_Length.calls 60 A ca l _ _ _ (Kd.C_below HL.out HB.out) hca H1.out).mono ?_; rintro e w1 ⟨rfl, hd⟩; replace HB := Lib.hid (below_then' HB.out hd); replace HH := Lib.hid (row_move HH.out hd); have hc0 := (row_two HH.out).1; have hc1 := (row_two HH.out).2; clear hd))
    rw [rounds_succ]
    go_wp2_with (first
      | (go_at_call 19; (with_reducible show Calls Try.prog 19 #[.slice B _ _] _ _); refine (orpimentref09_Length.calls 60 B cb r _ _ _ (Kd.C_below HR.out HB.out) hcb H2.out).mono ?_; rintro e w2 ⟨rfl, hd⟩; replace HB := Lib.hid (below_then' HB.out hd); clear hd))
    rw [rounds_succ]
    go_wp2_with (first
      | (go_at_call 19; (with_reducible show Calls Try.prog 19 #[.slice A _ _] _ _); refine (orpimentref09_Length.calls 60 A ca l _ _ _ (Kd.C_below HL.out HB.out) hca H1.out).mono ?_; rintro e w3 ⟨rfl, hd⟩; replace HB := Lib.hid (below_then' HB.out hd); clear hd)
      | (go_at_call 19; (with_reducible show Calls Try.prog 19 #[.slice B _ _] _ _); refine (orpimentref09_Length.calls 60 B cb r _ _ _ (Kd.C_below HR.out HB.out) hcb H2.out).mono ?_; rintro e w4 ⟨rfl, hd⟩; replace HB := Lib.hid (below_then' HB.out hd); clear hd))
    all_goals exact bodyPost_ret (results_tmp3 rfl _ _ _) rfl (CPost.bad _ HC.out (by decide) rfl HB.out)
end Go.Proofs.Ytbojagkalbfenaa
namespace Go.Proofs.Ytbojagkalbfenaa
set_option linter.unusedVariables false
set_option linter.unusedSimpArgs false
open Go.RowKit PIovGather Go.Proofs.YtbojagkalbfenaaW.PrintWords Go.Proofs.YtbojagkalbfenaaW.PrintMore
attribute [local go_sem] ints_get ints_size ints_getElem min2_int min_two

/-- Plain law: the reference scatters what it gathered. -/
theorem smem_cmem (ms ss : List Int) (l r : List S44) (h : ccode ms.length ss.length (prs l) (prs r) = 0) :
    (gout ss (prs r) 0 (cN (prs l) (prs r))).length = (cN (prs l) (prs r)).toNat ∧ gcode ss.length (prs r) 0 (cN (prs l) (prs r)) = 0 ∧
    scode ms.length (gout ss (prs r) 0 (cN (prs l) (prs r))).length l 0 = 0 ∧ snum ms.length (gout ss (prs r) 0 (cN (prs l) (prs r))).length l 0 = cN (prs l) (prs r) ∧
    smem (byts ms) (byts (gout ss (prs r) 0 (cN (prs l) (prs r)))) l 0 = cmem (byts ms) (byts ss) (prs l) (prs r) := by
  have h0 := h
  unfold ccode at h
  by_cases hk : chk2 (prs l) (prs r) = 0
  · rw [if_pos hk] at h
    by_cases hin : insideB ms.length (slicedL (prs l) 0 (cN (prs l) (prs r))) = true ∧ insideB ss.length (slicedL (prs r) 0 (cN (prs l) (prs r))) = true
    · obtain ⟨hk1, hk2⟩ := chk2_zero hk
      obtain ⟨a1, a2, a3, a4⟩ := chk_zero hk1
      obtain ⟨b1, b2, b3, b4⟩ := chk_zero hk2
      have hN0 : 0 ≤ cN (prs l) (prs r) := by unfold cN; split <;> omega
      have hN1 : cN (prs l) (prs r) ≤ sumL (prs l) := by unfold cN; split <;> omega
      have hN2 : cN (prs l) (prs r) ≤ sumL (prs r) := by unfold cN; split <;> omega
      have hms : (byts ms).length = ms.length := by simp [byts]
      have hss : (byts ss).length = ss.length := by simp [byts]
      have hcm : cmem (byts ms) (byts ss) (prs l) (prs r) = (scat (byts ms, gatherL (byts ss) (slicedL (prs r) 0 (cN (prs l) (prs r)))) (slicedL (prs l) 0 (cN (prs l) (prs r)))).1 := by
        unfold cmem; rw [hms, hss, if_pos h0]
      rw [hcm]
      clear hcm h0 h
      generalize cN (prs l) (prs r) = NN at *
      have hw0 : wth (prs l) 0 0 = 0 := by unfold wth; rw [if_pos hk1, if_neg (by omega)]
      have hw2 : wth (prs r) 0 NN = 0 := by unfold wth; rw [if_pos hk2, if_neg (by omega)]
      have hgc : gcode ss.length (prs r) 0 NN = 0 := by unfold gcode; rw [if_pos hw2, if_pos hin.2]
      have hgo : gout ss (prs r) 0 NN = gatherI ss (slicedL (prs r) 0 NN) := by unfold gout; rw [if_pos hgc]
      have hgb : byts (gout ss (prs r) 0 NN) = gatherL (byts ss) (slicedL (prs r) 0 NN) := by
        rw [hgo]; exact (gatherL_map ss _ _).symm
      have hlen : (gout ss (prs r) 0 NN).length = NN.toNat := by
        have h1 := gatherL_len (ss := byts ss) (xs := slicedL (prs r) 0 NN) (fun x hx => by have := slicedL_mem b1 (by omega) x hx; omega) (by rw [hss]; exact hin.2)
        rw [sum_sliced' _ 0 NN (fun p hp => (b1 p hp).2.1) (by omega) hN0 (by omega), ← hgb] at h1
        simp [byts] at h1
        omega
      have hsN : sN l 0 NN.toNat = NN := by unfold sN; split <;> omega
      have hsc : scode ms.length (gout ss (prs r) 0 NN).length l 0 = 0 := by unfold scode; rw [if_pos hw0, hlen, hsN, if_pos hin.1]
      refine ⟨hlen, hgc, hsc, ?_, ?_⟩
      · unfold snum; rw [if_pos hsc, hlen, hsN]
      · unfold smem
        rw [hms, show (byts (gout ss (prs r) 0 NN)).length = NN.toNat by simp [byts, hlen], ← hlen, if_pos hsc, hlen, hsN, hgb, List.take_of_length_le (by rw [← hgb]; simp [byts, hlen])]
    · rw [if_neg hin] at h; cases h
  · rw [if_neg hk] at h; exact absurd h hk
end Go.Proofs.Ytbojagkalbfenaa
namespace Go.Proofs.Ytbojagkalbfenaa
set_option linter.unusedVariables false
set_option linter.unusedSimpArgs false
open Go.RowKit PIovGather Go.Proofs.YtbojagkalbfenaaW.PrintWords Go.Proofs.YtbojagkalbfenaaW.PrintMore
attribute [local go_sem] ints_get ints_size ints_getElem min2_int min_two

theorem CPost.good {ms ss : List Int} {l r : List S44} {w w' w1 : World} {e : Ending} (hc : ccode ms.length ss.length (prs l) (prs r) = 0) (hb : Below w.heap.size w w1)
    (hs : SPost ms (gout ss (prs r) 0 (cN (prs l) (prs r))) l 0 w1 e w') : CPost ms ss l r w e w' := by
  obtain ⟨g1, g2, g3, g4, g5⟩ := smem_cmem ms ss l r hc
  obtain ⟨v, he, ho, hd⟩ := hs
  rw [g3, g4] at he
  refine ⟨v, ?_, fun _ => ?_, below_then' hb hd⟩
  · rw [he]; unfold cnum; rw [if_pos hc, hc]
  · have := ho g3; rw [g5] at this; exact owns_mono this hb.size

set_option maxHeartbeats 2000000 in
set_option maxRecDepth 100000 in
theorem copied_fine (M : Option Addr) (mc : Nat) (ms : List Int) (A : Option Addr) (ca : Nat) (l : List S44) (D : Option Addr) (dc : Nat) (ss : List Int) (B : Option Addr) (cb : Nat) (r : List S44) (w : World)
    (hM : Kd.C (Kd.int .u8) w M ms.length ms) (hmc : ms.length ≤ mc) (hm6 : ms.length ≤ 1000000) (hD : Kd.C (Kd.int .u8) w D ss.length ss) (hdc : ss.length ≤ dc) (hd6 : ss.length ≤ 1000000)
    (hL : Kd.C k44 w A l.length l) (hca : l.length ≤ ca) (hR : Kd.C k44 w B r.length r) (hcb : r.length ≤ cb) (hl : l.length ≤ 16) (hr : r.length ≤ 16) (hgood : chk2 (prs l) (prs r) = 0) :
    Calls Try.prog 30 #[.slice M ms.length mc, .slice A l.length ca, .slice D ss.length dc, .slice B r.length cb] w fun e w' => CPost ms ss l r w e w' := by
  obtain ⟨hk1, hk2⟩ := chk2_zero hgood
  obtain ⟨a1, a2, a3, a4⟩ := chk_zero hk1
  obtain ⟨b1, b2, b3, b4⟩ := chk_zero hk2
  have hN : (if sumL (prs r) < sumL (prs l) then sumL (prs r) else sumL (prs l)) = cN (prs l) (prs r) := rfl
  have hN0 : 0 ≤ cN (prs l) (prs r) := by unfold cN; split <;> omega
  have hN1 : cN (prs l) (prs r) ≤ sumL (prs l) := by unfold cN; split <;> omega
  have hN2 : cN (prs l) (prs r) ≤ sumL (prs r) := by unfold cN; split <;> omega
  have hgood2 : ∀ (w1 : World) (e : Ending) (w' : World), ccode ms.length ss.length (prs l) (prs r) = 0 → Below w.heap.size w w1 → SPost ms (gout ss (prs r) 0 (cN (prs l) (prs r))) l 0 w1 e w' → CPost ms ss l r w e w' := fun w1 e w' h1 h2 h3 => CPost.good h1 h2 h3
  have hc11 : ¬ (insideB ms.length (slicedL (prs l) 0 (cN (prs l) (prs r))) = true ∧ insideB ss.length (slicedL (prs r) 0 (cN (prs l) (prs r))) = true) → ccode ms.length ss.length (prs l) (prs r) = 11 := fun h => by unfold ccode; rw [if_pos hgood, if_neg h]
  have hc0 : (insideB ms.length (slicedL (prs l) 0 (cN (prs l) (prs r))) = true ∧ insideB ss.length (slicedL (prs r) 0 (cN (prs l) (prs r))) = true) → ccode ms.length ss.length (prs l) (prs r) = 0 := fun h => by unfold ccode; rw [if_pos hgood, if_pos h]
  have HN := Lib.hid hN
  have HG2 := Lib.hid hgood2
  clear hN hgood2
  generalize cN (prs l) (prs r) = NN at *
  have hw1 : wth (prs l) 0 NN = 0 := by unfold wth; rw [if_pos hk1, if_neg (by omega)]
  have hw2 : wth (prs r) 0 NN = 0 := by unfold wth; rw [if_pos hk2, if_neg (by omega)]
  obtain ⟨rr, hrr, hpr⟩ := rslice_f l 0 NN (k := 60) (by omega)
  rw [hw1] at hrr
  rw [if_pos hw1] at hpr
  have hfi : fine (prs rr) := by rw [hpr]; exact fine_sliced a1 a2 (by omega)
  have had := addrs_f hfi (k := 70000) (by omega)
  have hin := rinside_f hfi ms (k := 70000) (by omega)
  rw [hpr] at had hin
  have hrg := rg_f ss r 0 NN
  have hgl := gout_len (ms := ss) (l := prs r) (a := 0) (b := NN)
  have hgcode : gcode ss.length (prs r) 0 NN = if insideB ss.length (slicedL (prs r) 0 NN) = true then 0 else 11 := by unfold gcode; rw [if_pos hw2]
  have h1 := rlen_f l (k := 60) (by omega)
  have h2 := rlen_f r (k := 60) (by omega)
  rw [hk1, if_pos rfl] at h1
  rw [hk2, if_pos rfl] at h2
  have HL := Lib.hid hL
  have HR := Lib.hid hR
  have HM := Lib.hid hM
  have HD := Lib.hid hD
  have H1 := Lib.hid h1
  have H2 := Lib.hid h2
  have HRR := Lib.hid hrr
  have HAD := Lib.hid had
  have HRG := Lib.hid hrg
  have HC11 := Lib.hid hc11
  have HC0 := Lib.hid hc0
  have HB := Lib.hid (((Below.refl w.heap.size w).alloc (Nat.le_refl _) (.cells #[.slice A l.length ca, .slice B r.length cb] 23)))
  have HH := Lib.hid (heap_alloc_new w (.cells #[.slice A l.length ca, .slice B r.length cb] 23))
  have hl' : ¬ (16 : Int) < (l.length : Int) := by omega
  have hr' : ¬ (16 : Int) < (r.length : Int) := by omega
  clear hL hR hM hD h1 h2 hrr had hrg hk1 hk2 hw1 hw2 hgood hpr hfi hc11 hc0 a1 b1
  generalize addrs (slicedL (prs l) 0 NN) = aa at *
  generalize hi1 : insideB ms.length (slicedL (prs l) 0 NN) = i1 at *
  generalize hi2 : insideB ss.length (slicedL (prs r) 0 NN) = i2 at *
  generalize gcode ss.length (prs r) 0 NN = gc at *
  have HIN := Lib.hid hin
  clear hin hi1 hi2
  go_enter Try.func30, Try.ntmps30
  cases i1 with
  | false =>
    have HC := Lib.hid (HC11.out (by simp))
    clear hgcode
    go_wp2
    refine wp_loop_rounds 3 ?_
    rw [rounds_succ]; go_wp2
    rw [rounds_succ]; go_wp2
    rw [rounds_succ]; go_wp2
    refine wp_loop_rounds 3 ?_
    rw [rounds_succ]
    go_wp2_with (first
      | (go_at_call 19; (with_reducible show Calls Try.prog 19 #[.slice A _ _] _ _); refine (orpimentref09_Length.calls 60 A ca l _ _ _ (Kd.C_below HL.out HB.out) hca H1.out).mono ?_; rintro e w1 ⟨rfl, hd⟩; replace HB := Lib.hid (below_then' HB.out hd); replace HH := Lib.hid (row_move HH.out hd); have hc0 := (row_two HH.out).1; have hc1 := (row_two HH.out).2; clear hd))
    rw [rounds_succ]
    go_wp2_with (first
      | (go_at_call 19; (with_reducible show Calls Try.prog 19 #[.slice B _ _] _ _); refine (orpimentref09_Length.calls 60 B cb r _ _ _ (Kd.C_below HR.out HB.out) hcb H2.out).mono ?_; rintro e w2 ⟨rfl, hd⟩; replace HB := Lib.hid (below_then' HB.out hd); clear hd))
    rw [rounds_succ]
    go_wp2_with (first
      | (go_at_call 19; (with_reducible show Calls Try.prog 19 #[.slice A _ _] _ _); refine (orpimentref09_Length.calls 60 A ca l _ _ _ (Kd.C_below HL.out HB.out) hca H1.out).mono ?_; rintro e w3 ⟨rfl, hd⟩; replace HB := Lib.hid (below_then' HB.out hd); clear hd)
      | (go_at_call 19; (with_reducible show Calls Try.prog 19 #[.slice B _ _] _ _); refine (orpimentref09_Length.calls 60 B cb r _ _ _ (Kd.C_below HR.out HB.out) hcb H2.out).mono ?_; rintro e w4 ⟨rfl, hd⟩; replace HB := Lib.hid (below_then' HB.out hd); have hN := HN.out; clear hd)
      | (go_at_call 21; refine (orpimentref09_Slice.calls 60 A ca l 0 NN _ _ _ (Kd.C_below HL.out HB.out) hca HRR.out).mono ?_; rintro e w5 ⟨v5, rfl, hR5, hd⟩; obtain ⟨A5, c5, rfl⟩ := Kd.R_slice hR5; obtain ⟨_, hc5, h5⟩ := Kd.R_reads' hR5; have H5 := Lib.hid h5; replace HB := Lib.hid (below_then' HB.out hd); clear hd hR5 h5 hN)
      | (go_at_call 36; refine (orpimentref09_addresses.calls 70000 A5 c5 rr _ _ H5.out hc5 HAD.out).mono ?_; rintro e w6 ⟨v6, rfl, hR6, hd⟩; obtain ⟨A6, c6, rfl⟩ := Kd.R_slice hR6; obtain ⟨_, hc6, h6⟩ := Kd.R_reads' hR6; have H6 := Lib.hid h6; replace HB := Lib.hid (below_then' HB.out hd); clear hd hR6 h6)
      | (go_at_call 37; refine (inside_at (Kd.C_below HM.out HB.out) hmc H6.out hc6 HIN.out).mono ?_; rintro e w7 ⟨rfl, hd⟩; replace HB := Lib.hid (below_then' HB.out hd); clear hd))
    all_goals exact bodyPost_ret (results_tmp3 rfl _ _ _) rfl (CPost.bad _ HC.out (by decide) rfl HB.out)
  | true =>
    cases i2 with
    | false =>
      have HC := Lib.hid (HC11.out (by simp))
      obtain rfl : gc = 11 := by simpa using hgcode
      clear hgcode
      go_wp2
      refine wp_loop_rounds 3 ?_
      rw [rounds_succ]; go_wp2
      rw [rounds_succ]; go_wp2
      rw [rounds_succ]; go_wp2
      refine wp_loop_rounds 3 ?_
      rw [rounds_succ]
      go_wp2_with (first
        | (go_at_call 19; (with_reducible show Calls Try.prog 19 #[.slice A _ _] _ _); refine (orpimentref09_Length.calls 60 A ca l _ _ _ (Kd.C_below HL.out HB.out) hca H1.out).mono ?_; rintro e w1 ⟨rfl, hd⟩; replace HB := Lib.hid (below_then' HB.out hd); replace HH := Lib.hid (row_move HH.out hd); have hc0 := (row_two HH.out).1; have hc1 := (row_two HH.out).2; clear hd))
      rw [rounds_succ]
      go_wp2_with (first
        | (go_at_call 19; (with_reducible show Calls Try.prog 19 #[.slice B _ _] _ _); refine (orpimentref09_Length.calls 60 B cb r _ _ _ (Kd.C_below HR.out HB.out) hcb H2.out).mono ?_; rintro e w2 ⟨rfl, hd⟩; replace HB := Lib.hid (below_then' HB.out hd); clear hd))
      rw [rounds_succ]
      go_wp2_with (first
        | (go_at_call 19; (with_reducible show Calls Try.prog 19 #[.slice A _ _] _ _); refine (orpimentref09_Length.calls 60 A ca l _ _ _ (Kd.C_below HL.out HB.out) hca H1.out).mono ?_; rintro e w3 ⟨rfl, hd⟩; replace HB := Lib.hid (below_then' HB.out hd); clear hd)
        | (go_at_call 19; (with_reducible show Calls Try.prog 19 #[.slice B _ _] _ _); refine (orpimentref09_Length.calls 60 B cb r _ _ _ (Kd.C_below HR.out HB.out) hcb H2.out).mono ?_; rintro e w4 ⟨rfl, hd⟩; replace HB := Lib.hid (below_then' HB.out hd); have hN := HN.out; clear hd)
        | (go_at_call 21; refine (orpimentref09_Slice.calls 60 A ca l 0 NN _ _ _ (Kd.C_below HL.out HB.out) hca HRR.out).mono ?_; rintro e w5 ⟨v5, rfl, hR5, hd⟩; obtain ⟨A5, c5, rfl⟩ := Kd.R_slice hR5; obtain ⟨_, hc5, h5⟩ := Kd.R_reads' hR5; have H5 := Lib.hid h5; replace HB := Lib.hid (below_then' HB.out hd); clear hd hR5 h5 hN)
        | (go_at_call 36; refine (orpimentref09_addresses.calls 70000 A5 c5 rr _ _ H5.out hc5 HAD.out).mono ?_; rintro e w6 ⟨v6, rfl, hR6, hd⟩; obtain ⟨A6, c6, rfl⟩ := Kd.R_slice hR6; obtain ⟨_, hc6, h6⟩ := Kd.R_reads' hR6; have H6 := Lib.hid h6; replace HB := Lib.hid (below_then' HB.out hd); clear hd hR6 h6)
        | (go_at_call 37; refine (inside_at (Kd.C_below HM.out HB.out) hmc H6.out hc6 HIN.out).mono ?_; rintro e w7 ⟨rfl, hd⟩; replace HB := Lib.hid (below_then' HB.out hd); clear hd)
        | (go_at_call 13; refine (orpimentref09_Gather.calls 70000 D dc ss B cb r 0 NN _ _ _ (Kd.C_below HD.out HB.out) hdc (Kd.C_below HR.out HB.out) hcb HRG.out).mono ?_; rintro e w8 ⟨v8, rfl, hR8, hd⟩; replace HB := Lib.hid (below_then' HB.out hd); clear hd hR8))
      all_goals exact bodyPost_ret (results_tmp3 rfl _ _ _) rfl (CPost.bad _ HC.out (by decide) rfl HB.out)
    | true =>
      have HC := Lib.hid (HC0.out (by simp))
      obtain rfl : gc = 0 := by simpa using hgcode
      clear hgcode
      go_wp2
      refine wp_loop_rounds 3 ?_
      rw [rounds_succ]; go_wp2
      rw [rounds_succ]; go_wp2
      rw [rounds_succ]; go_wp2
      refine wp_loop_rounds 3 ?_
      rw [rounds_succ]
      go_wp2_with (first
        | (go_at_call 19; (with_reducible show Calls Try.prog 19 #[.slice A _ _] _ _); refine (orpimentref09_Length.calls 60 A ca l _ _ _ (Kd.C_below HL.out HB.out) hca H1.out).mono ?_; rintro e w1 ⟨rfl, hd⟩; replace HB := Lib.hid (below_then' HB.out hd); replace HH := Lib.hid (row_move HH.out hd); have hc0 := (row_two HH.out).1; have hc1 := (row_two HH.out).2; clear hd))
      rw [rounds_succ]
      go_wp2_with (first
        | (go_at_call 19; (with_reducible show Calls Try.prog 19 #[.slice B _ _] _ _); refine (orpimentref09_Length.calls 60 B cb r _ _ _ (Kd.C_below HR.out HB.out) hcb H2.out).mono ?_; rintro e w2 ⟨rfl, hd⟩; replace HB := Lib.hid (below_then' HB.out hd); clear hd))
      rw [rounds_succ]
      go_wp2_with (first
        | (go_at_call 19; (with_reducible show Calls Try.prog 19 #[.slice A _ _] _ _); refine (orpimentref09_Length.calls 60 A ca l _ _ _ (Kd.C_below HL.out HB.out) hca H1.out).mono ?_; rintro e w3 ⟨rfl, hd⟩; replace HB := Lib.hid (below_then' HB.out hd); clear hd)
        | (go_at_call 19; (with_reducible show Calls Try.prog 19 #[.slice B _ _] _ _); refine (orpimentref09_Length.calls 60 B cb r _ _ _ (Kd.C_below HR.out HB.out) hcb H2.out).mono ?_; rintro e w4 ⟨rfl, hd⟩; replace HB := Lib.hid (below_then' HB.out hd); have hN := HN.out; clear hd)
        | (go_at_call 21; refine (orpimentref09_Slice.calls 60 A ca l 0 NN _ _ _ (Kd.C_below HL.out HB.out) hca HRR.out).mono ?_; rintro e w5 ⟨v5, rfl, hR5, hd⟩; obtain ⟨A5, c5, rfl⟩ := Kd.R_slice hR5; obtain ⟨_, hc5, h5⟩ := Kd.R_reads' hR5; have H5 := Lib.hid h5; replace HB := Lib.hid (below_then' HB.out hd); clear hd hR5 h5 hN)
        | (go_at_call 36; refine (orpimentref09_addresses.calls 70000 A5 c5 rr _ _ H5.out hc5 HAD.out).mono ?_; rintro e w6 ⟨v6, rfl, hR6, hd⟩; obtain ⟨A6, c6, rfl⟩ := Kd.R_slice hR6; obtain ⟨_, hc6, h6⟩ := Kd.R_reads' hR6; have H6 := Lib.hid h6; replace HB := Lib.hid (below_then' HB.out hd); clear hd hR6 h6)
        | (go_at_call 37; refine (inside_at (Kd.C_below HM.out HB.out) hmc H6.out hc6 HIN.out).mono ?_; rintro e w7 ⟨rfl, hd⟩; replace HB := Lib.hid (below_then' HB.out hd); clear hd)
        | (go_at_call 13; refine (orpimentref09_Gather.calls 70000 D dc ss B cb r 0 NN _ _ _ (Kd.C_below HD.out HB.out) hdc (Kd.C_below HR.out HB.out) hcb HRG.out).mono ?_; rintro e w8 ⟨v8, rfl, hR8, hd⟩; obtain ⟨A8, c8, rfl⟩ := Kd.R_slice hR8; obtain ⟨_, hc8, h8⟩ := Kd.R_reads' hR8; have H8 := Lib.hid h8; replace HB := Lib.hid (below_then' HB.out hd); clear hd hR8 h8)
        | (go_at_call 27; refine (scattered_calls M mc ms A ca l 0 A8 c8 _ _ (Kd.C_below HM.out HB.out) hmc hm6 (Kd.C_below HL.out HB.out) hca H8.out hc8 (by omega)).mono ?_; intro e w9 hsp; have hfin := HG2.out _ _ _ HC.out HB.out hsp; obtain ⟨v9, he9, _, _⟩ := hsp; subst he9; have HF := Lib.hid hfin; clear hfin))
      all_goals (refine bodyPost_ret (results_tmp3 rfl _ _ _) rfl ?_; exact HF.out)
/-- The reference's Copied: whatever the lists and memories are. -/
theorem copied_calls (M : Option Addr) (mc : Nat) (ms : List Int) (A : Option Addr) (ca : Nat) (l : List S44) (D : Option Addr) (dc : Nat) (ss : List Int) (B : Option Addr) (cb : Nat) (r : List S44) (w : World)
    (hM : Kd.C (Kd.int .u8) w M ms.length ms) (hmc : ms.length ≤ mc) (hm6 : ms.length ≤ 1000000) (hD : Kd.C (Kd.int .u8) w D ss.length ss) (hdc : ss.length ≤ dc) (hd6 : ss.length ≤ 1000000)
    (hL : Kd.C k44 w A l.length l) (hca : l.length ≤ ca) (hR : Kd.C k44 w B r.length r) (hcb : r.length ≤ cb) :
    Calls Try.prog 30 #[.slice M ms.length mc, .slice A l.length ca, .slice D ss.length dc, .slice B r.length cb] w fun e w' => CPost ms ss l r w e w' := by
  by_cases h16 : 16 < l.length ∨ 16 < r.length
  · exact copied_long M mc ms A ca l D dc ss B cb r w h16
  · by_cases ho : okB (prs l) = true ∧ okB (prs r) = true
    · by_cases hs : 4096 < sumL (prs l) ∨ 4096 < sumL (prs r)
      · exact copied_size M mc ms A ca l D dc ss B cb r w hL hca hR hcb (by omega) (by omega) ho.1 ho.2 hs
      · exact copied_fine M mc ms A ca l D dc ss B cb r w hM hmc hm6 hD hdc hd6 hL hca hR hcb (by omega) (by omega) (by unfold chk2; rw [if_neg (by simp only [prs_length]; omega), if_pos ho, if_neg hs])
    · exact copied_range M mc ms A ca l D dc ss B cb r w hL hca hR hcb (by omega) (by omega) ho
end Go.Proofs.Ytbojagkalbfenaa
namespace Go.Proofs.Ytbojagkalbfenaa
set_option linter.unusedVariables false
set_option linter.unusedSimpArgs false
open Go.RowKit PIovGather Go.Proofs.YtbojagkalbfenaaW.PrintWords Go.Proofs.YtbojagkalbfenaaW.PrintMore
attribute [local go_sem] ints_get ints_size ints_getElem

theorem news44 {w : World} {ad : Addr} {l : List S44} (h : Kd.C k44 w (some ad) l.length l) : ∃ news : List Value, news.length = l.length * 2 ∧ (∀ j u, news[j]? = some u → w.cell? (ad.add j) = some u) ∧ ∀ u ∈ news, u.oneCell' = true := by
  obtain ⟨news, hnr, hnc⟩ := ReadsRow.inner_ h
  refine ⟨news, hnr.1, hnc, ?_⟩
  intro u hu
  obtain ⟨q, hq, rfl⟩ := List.mem_iff_getElem.1 hu
  have hsz : k44.sz = 2 := rfl
  have hl := hnr.1
  rw [hsz] at hl
  have hql : q / 2 < l.length := by omega
  have hc := hnr.2 (q / 2) _ (List.getElem?_eq_getElem hql)
  refine k44.K_one hc _ ?_
  rw [List.mem_iff_getElem?]
  refine ⟨q % 2, ?_⟩
  rw [hsz, List.getElem?_take_of_lt (by omega), List.getElem?_drop, show q / 2 * 2 + q % 2 = q by omega]
  exact List.getElem?_eq_getElem hq

theorem own_shape44 {W : World} {base n : Nat} {v : Value} {xs : List Value} (h : W.ownsRow base 44 2 v n xs) : ∃ A c, v = .slice A n c ∧ n ≤ c := by
  rcases h.2 with ⟨rfl, rfl⟩ | ⟨g, c, cur, rfl, hb, hh, hc, hm, _⟩
  · exact ⟨none, 0, rfl, Nat.le_refl _⟩
  · exact ⟨_, c, rfl, hc⟩

/-- What slices.Clone of parts answers. -/
def Cl44 (n : Nat) (w : World) (e : Ending) (w' : World) : Prop := ∃ V c xs, e = .returned (.slice V n c) ∧ w'.ownsRow w.heap.size 44 2 (.slice V n c) n xs ∧ Below w.heap.size w w'
set_option maxHeartbeats 1000000 in
set_option maxRecDepth 100000 in
/-- slices.Clone of parts. -/
theorem clone44 (A : Option Addr) (cap : Nat) (l : List S44) (w : World) (hC : Kd.C k44 w A l.length l) (h0 : A = none → l.length = 0 ∧ cap = 0) (hb : l.length ≤ 1048576) :
    Calls Try.prog 28 #[.slice A l.length cap] w fun e w' => Cl44 l.length w e w' := by
  cases A with
  | none =>
    obtain ⟨hl, rfl⟩ := h0 rfl
    rw [hl]
    have heq : ∀ W, (binOp .eql 23 (.slice none 0 0) (.slice none 0 0)).run Try.prog W = .ok (.bool true) W := fun W => run_eql_nil_slice W 23 44 none 0 0 0 0 Try.underlying23
    clear hC
    go_enter Try.func28, Try.ntmps28
    go_wp2
    go_ret
    exact ⟨_, _, [], rfl, ⟨rfl, .inl ⟨rfl, rfl⟩⟩, Below.refl _ _⟩
  | some ad =>
    have heq : ∀ W, (binOp .eql 23 (.slice (some ad) l.length cap) (.slice none 0 0)).run Try.prog W = .ok (.bool false) W := fun W => Lib.run_eql_slice_nil W 23 44 (some ad) l.length cap 0 0 Try.underlying23
    obtain ⟨news, hn1, hn2, hn3⟩ := news44 hC
    have HN := Lib.hid (And.intro hn1 (And.intro hn2 hn3))
    clear hC h0 hn1 hn2 hn3
    go_enter Try.func28, Try.ntmps28
    obtain ⟨i0, hi0, hz0, hz1, hz2⟩ := info_parts (P := Try.prog) (e := 44) (z := .agg #[.int .i64 0, .int .i64 0]) (size := 2) (bytes := 16) (by kernel_rfl)
    have HI0 := Lib.hid hi0
    have HZZ := Lib.hid (And.intro hz0 (And.intro hz1 hz2))
    clear hi0 hz0 hz1 hz2
    have hrow : (w.alloc (.cells #[] 44)).ownsRow w.heap.size 44 2 (.slice (some ⟨w.heap.size, 0, none⟩) 0 0) 0 [] :=
      ⟨rfl, .inr ⟨w.heap.size, 0, #[], rfl, Nat.le_refl _, heap_alloc_new w _, Nat.le_refl _, by simp [maxLen], rfl, rfl⟩⟩
    go_wp2_with (at_builtin; go_loud (refine wpList_append_own _ rfl (.tmp 5) (.tmp 6) 23 rfl w.heap.size 44 i0 (.agg #[.int .i64 0, .int .i64 0]) 2 16 Try.underlying23 HI0.out HZZ.out.1 HZZ.out.2.1 HZZ.out.2.2 rfl (by omega) _ 0 [] rfl hrow ad l.length cap news rfl HN.out.1 (fun j u hj => by have hc := HN.out.2.1 j u hj; rw [World.cell?_alloc_lt _ _ _ (World.block_lt_of_cell? _ _ hc)]; exact hc) HN.out.2.2 (by simp only [maxLen]; omega) (by omega) (by simp) ?_; intro v' w2 hown hgrow _))
    go_ret
    rw [Nat.zero_add] at hown
    obtain ⟨V, c, rfl, hc⟩ := own_shape44 hown
    exact ⟨V, c, _, rfl, hown, ((Below.refl _ _).alloc (Nat.le_refl _) _).grown hgrow (by simp) (fun k hk => by cases hk; exact Nat.le_refl _)⟩

/-- append of parts to an own slice, in a region that draws its order. -/
theorem step_append44 {ops : Array Oper} {o : Oper} {a : Act} {K : Act → World → Prop} {Q : Exit → Act → World → Prop} {E : Prop} {W : World} (hgd : o.guard = none) (s x : Operand)
    (ho : o.op = .call { callee := .builtin .append, args := #[s, x], argTypes := #[23, 23] }) (base : Nat) (V : Option Addr) (n c : Nat) (xs : List Value) (hs : a.eval s = .slice V n c) (hown : W.ownsRow base 44 2 (.slice V n c) n xs)
    (B : Option Addr) (cb : Nat) (r : List S44) (hx : a.eval x = .slice B r.length cb) (hC : Kd.C k44 W B r.length r) (hlen : n + r.length ≤ 2097152) (hbase : base ≤ W.heap.size)
    (h : ∀ V' c' w', n + r.length ≤ c' → W.grownBy w' (Value.slice V n c).ownBlock → K (a.put o.dst (.slice V' (n + r.length) c')) w') :
    if Region.wanted o (yielded ops a.tmps) = true then Oper.wp Try.prog o a W K Q else E := by
  have hw : Region.wanted o (yielded ops a.tmps) = true := by simp [Region.wanted, hgd]
  rw [if_pos hw]
  obtain ⟨i0, hi0, hz0, hz1, hz2⟩ := info_parts (P := Try.prog) (e := 44) (z := .agg #[.int .i64 0, .int .i64 0]) (size := 2) (bytes := 16) (by kernel_rfl)
  cases B with
  | none =>
    have hr0 : r.length = 0 := by
      rcases Nat.eq_zero_or_pos r.length with h0 | h0
      · exact h0
      · obtain ⟨ad, e, _⟩ := hC.2.2 h0; cases e
    obtain ⟨V', c', e, hc'⟩ := own_shape44 hown
    injection e with _ _ e3
    subst e3
    have := h V c W (by omega) (World.grownBy.refl W _)
    rw [hr0] at this hx
    have hrun : (Builtin.append_ #[23, 23] o.type #[.slice V n c, .slice none 0 cb]).run Try.prog W = .ok (.slice V n c) W := by
      rcases hown.2 with ⟨e, hn⟩ | ⟨g, cap, cur, e, _, _, hnc, _⟩
      · injection e with e1 e2 e3; subst e1; subst e2; subst e3
        simp [Builtin.append_, run_underlying Try.underlying23, sizeOf, typeInfo, hi0, Builtin.lenOf, Builtin.firstCells]
      · injection e with e1 e2 e3; subst e1; subst e3
        simp [Builtin.append_, run_underlying Try.underlying23, sizeOf, typeInfo, hi0, Builtin.lenOf, Builtin.firstCells, hnc, storeCells]
    unfold Oper.wp
    simp [execOp, ho, resolve, invoke, builtin, hs, hx, hrun, Oper.upon, Result.andThen]
    exact this
  | some ad =>
    obtain ⟨news, hn1, hn2, hn3⟩ := news44 hC
    refine wp_append_own W s x 23 ho base 44 i0 (.agg #[.int .i64 0, .int .i64 0]) 2 16 Try.underlying23 hi0 hz0 hz1 hz2 rfl (by omega) _ n xs hs hown ad r.length cb news hx hn1 hn2 hn3 (by simp only [maxLen]; omega) (by omega) hbase ?_
    intro v' w' hown' hgrow _
    obtain ⟨V', c', rfl, hc'⟩ := own_shape44 hown'
    exact h V' c' w' hc' hgrow

/-- small, of a list that nobody reads. -/
def smallI (n nm nd : Nat) : Bool := decide ((n : Int) + (nm : Int) / 100 + (nd : Int) / 100 ≤ 60)
theorem smallN (A : Option Addr) (n c g : Nat) (M D : Option Addr) (nm mc nd dc : Nat) (w : World) (hrow : w.cell? ⟨g, 0, none⟩ = some (.slice M nm mc) ∧ w.cell? ⟨g, 1, none⟩ = some (.slice D nd dc)) (hn : n ≤ 2097152) (hnm : nm ≤ 1048576) (hnd : nd ≤ 1048576) :
    Calls Try.prog 10 #[.slice A n c, .slice (some ⟨g, 0, none⟩) 2 2] w fun e w' => e = .returned (.bool (smallI n nm nd)) ∧ Below w.heap.size w w' := by
  obtain ⟨h0, h1⟩ := hrow
  have hb1 : (n : Int) ≤ 2097152 := by omega
  have hb2 : (nm : Int) ≤ 1048576 := by omega
  have hb3 : (nd : Int) ≤ 1048576 := by omega
  have HS : Hid (smallI n nm nd = decide ((n : Int) + (nm : Int) / 100 + (nd : Int) / 100 ≤ 60)) := Lib.hid rfl
  go_enter Try.func10, Try.ntmps10
  go_wp2
  refine wp_loop_rounds 3 ?_
  rw [rounds_succ]; go_wp2
  rw [rounds_succ]; go_wp2
  rw [rounds_succ]; go_wp2
  go_ret
  exact ⟨by rw [HS.out]; rfl, Below.refl _ _⟩
end Go.Proofs.Ytbojagkalbfenaa
namespace Go.Proofs.Ytbojagkalbfenaa
set_option linter.unusedVariables false
set_option linter.unusedSimpArgs false
open Go.RowKit PIovGather Go.Proofs.YtbojagkalbfenaaW.PrintWords Go.Proofs.YtbojagkalbfenaaW.PrintMore
attribute [local go_sem] ints_get ints_size ints_getElem

theorem copy_b (A : Option Addr) (ca : Nat) (l : List S44) (B : Option Addr) (cb : Nat) (r : List S44) (V : Option Addr) (vc base : Nat) (ms : List Int) (D : Option Addr) (dcap : Nat) (ss : List Int) (P0 P1 : Nat → Prop) (w : World)
    (hrow : w.ownsRow base 5 1 (.slice V ms.length vc) ms.length (byts ms)) (hmem : Kd.C (Kd.int .u8) w D ss.length ss) (hdc : ss.length ≤ dcap) (hdm : dcap ≤ 9223372036854775807)
    (hVl : Kd.V k44 44 w w.heap.size P0 (.slice A l.length ca) l) (hVr : Kd.V k44 44 w w.heap.size P1 (.slice B r.length cb) r) (hA : ∀ ad, A = some ad → ad.block < w.heap.size ∧ some ad.block ≠ (Value.slice V ms.length vc).ownBlock) (hB : ∀ ad, B = some ad → ad.block < w.heap.size ∧ some ad.block ≠ (Value.slice V ms.length vc).ownBlock) (hn : ms.length ≤ 6100) :
    Calls Try.prog 29 #[.slice V ms.length vc, .slice A l.length ca, .slice D ss.length dcap, .slice B r.length cb] w fun e w' => e = .returned (.tuple #[.int .i64 (cnum ms.length ss.length (prs l) (prs r)), .int .i64 (ccode ms.length ss.length (prs l) (prs r))]) ∧ MRow w' base (Value.slice V ms.length vc).ownBlock (.slice V ms.length vc) ms.length (cmem (byts ms) (byts ss) (prs l) (prs r)) ∧ w.grownBy w' (Value.slice V ms.length vc).ownBlock := by
  have hb : (byts ss).length = ss.length := by simp [byts]
  have := copyF A ca l B cb r V vc base ms.length (Value.slice V ms.length vc).ownBlock (byts ms) D dcap (byts ss) P0 P1 w (.inr ⟨rfl, hrow⟩) (mem_of_C hmem) (by rw [hb]; exact hdc) hdm hVl hVr hA hB (by omega)
  rw [hb] at this
  exact this
theorem cmem_byts (ms ss : List Int) (l r : List (Int × Int)) : ∃ x : List Int, cmem (byts ms) (byts ss) l r = byts x := by
  refine Bs_list ?_
  unfold cmem
  split
  · refine Bs_scat _ _ _ (Bs_byts ms) ?_
    rw [show byts ss = ss.map (Value.int .u8) from rfl, gatherL_map]
    exact Bs_byts _
  · exact Bs_byts ms
theorem smallI_true {n nm nd : Nat} (h : smallI n nm nd = true) : n ≤ 60 ∧ nm ≤ 6100 ∧ nd ≤ 6100 := by
  simp only [smallI, decide_eq_true_eq] at h
  omega

set_option maxHeartbeats 2000000 in
set_option maxRecDepth 100000 in
theorem copy_law (M : Option Addr) (mc : Nat) (ms : List Int) (D : Option Addr) (dc : Nat) (ss : List Int) (A : Option Addr) (ca : Nat) (l : List S44) (B : Option Addr) (cb : Nat) (r : List S44) (P0 P1 : Nat → Prop) (w : World)
    (hC : Kd.C (Kd.int .u8) w M ms.length ms) (hmc : ms.length ≤ mc) (hmx : mc ≤ 9223372036854775807) (hM0 : M = none → ms.length = 0 ∧ mc = 0)
    (hD : Kd.C (Kd.int .u8) w D ss.length ss) (hdc : ss.length ≤ dc) (hdx : dc ≤ 9223372036854775807) (hD0 : D = none → ss.length = 0 ∧ dc = 0)
    (hVl : Kd.V k44 44 w w.heap.size P0 (.slice A l.length ca) l) (hVr : Kd.V k44 44 w w.heap.size P1 (.slice B r.length cb) r) (hA : ∀ ad, A = some ad → ad.block < w.heap.size) (hB : ∀ ad, B = some ad → ad.block < w.heap.size)
    (hA0 : A = none → l.length = 0 ∧ ca = 0) (h1 : ms.length ≤ 1048576) (h2 : ss.length ≤ 1048576) (h3 : l.length ≤ 1048576) (h4 : r.length ≤ 1048576) :
    Calls Try.prog 7 #[.slice M ms.length mc, .slice D ss.length dc, .agg #[.slice A l.length ca, .slice B r.length cb]] w fun e w' => e = .returned (.bool true) ∧ Below w.heap.size w w' := by
  have hca := (Kd.V_reads' hVl).2.1
  have hcb := (Kd.V_reads' hVr).2.1
  have HC := Lib.hid hC
  have HVL := Lib.hid hVl
  have HVR := Lib.hid hVr
  have HL := Lib.hid (Kd.V_reads' hVl).2.2
  have HR := Lib.hid (Kd.V_reads' hVr).2.2
  have HA := Lib.hid hA
  have HBB := Lib.hid hB
  have HD := Lib.hid hD
  have HM0 := Lib.hid hM0
  have HD0 := Lib.hid hD0
  have HA0 := Lib.hid hA0
  clear hC hVl hVr hA hB hD hM0 hD0 hA0
  go_enter Try.func7, Try.ntmps7
  have hb0 := (Below.refl w.heap.size w).alloc (Nat.le_refl _) (.cells #[.slice A l.length ca, .slice B r.length cb] 54)
  have HX := Lib.hid (heap_alloc_new w (.cells #[.slice A l.length ca, .slice B r.length cb] 54))
  have hlt0 : w.heap.size < (w.alloc (.cells #[.slice A l.length ca, .slice B r.length cb] 54)).heap.size := by simp
  go_upto_region 1 with fail
  generalize w.alloc (.cells #[.slice A l.length ca, .slice B r.length cb] 54) = W1 at *
  have HB0 := Lib.hid hb0
  clear hb0
  go_cut [24] (fun s24 wx => s24 = .bool (!smallI (l.length + r.length) ms.length ss.length) ∧ Hid (Below W1.heap.size W1 wx))
  case first =>
    obtain ⟨hx0, hx1⟩ := arr2' HX.out
    have HB := Lib.hid (Below.refl W1.heap.size W1)
    replace HL := Lib.hid (Kd.C_below HL.out HB0.out)
    replace HR := Lib.hid (Kd.C_below HR.out HB0.out)
    go_region_held3 (fun w' => w'.cell? ⟨w.heap.size, 0, none⟩ = some (.slice A l.length ca) ∧ w'.cell? ⟨w.heap.size, 1, none⟩ = some (.slice B r.length cb)) (first | go_keep | exact arr2' (heap_kept HX.out (by first | exact HB.out | exact HB.out.drew | exact HB.out.alloc HB.out.size _ | exact (HB.out.alloc HB.out.size _).drew)))
      (first
        | (go_at_call 28; go_loud (refine (clone44 A ca l _ (Kd.C_below HL.out (by first | exact HB.out | exact HB.out.drew | exact HB.out.alloc HB.out.size _ | exact (HB.out.alloc HB.out.size _).drew)) HA0.out h3).mono ?_; intro e w4 hcl; obtain ⟨V4, c4, xs4, rfl, ho4, hd4⟩ := hcl; replace HB := Lib.hid (below_then' (show Below W1.heap.size W1 _ from (by first | exact HB.out | exact HB.out.drew | exact HB.out.alloc HB.out.size _ | exact (HB.out.alloc HB.out.size _).drew)) hd4); have HO4 := Lib.hid (And.intro ho4 hd4); clear ho4 hd4))
        | (go_at_call 10; go_loud (refine (smallN V5 (l.length + r.length) c5 _ M D ms.length mc ss.length dc _ (arr2' (t := 22) (fr := (0, 0)) (by first | exact heap_alloc_new w5 _ | exact (HG5.out.block w4.heap.size (by simp) (fun e' => by have := own_lt' HO4.out.1 _ e'.symm; omega)).trans (heap_alloc_new w4 _) | exact (HG5.out.block W1.heap.size (by have := HO4.out.2.size; simp at this; omega) (fun e' => by have := own_base' HO4.out.1 _ e'.symm; simp at this; omega)).trans (heap_kept (show ((W1.alloc _).drew).heap[W1.heap.size]? = _ from heap_alloc_new W1 _) HO4.out.2))) (by omega) h1 h2).mono ?_; rintro e w6 ⟨rfl, hd⟩; replace HB := Lib.hid (below_then' (show Below W1.heap.size W1 _ from (by first | exact HB.out | exact HB.out.drew | exact HB.out.alloc HB.out.size _ | exact (HB.out.alloc HB.out.size _).drew)) hd); clear hd))
        | (refine step_append44 rfl (.tmp 16) (.tmp 18) rfl _ V4 l.length c4 xs4 rfl (by first | exact HO4.out.1 | exact HO4.out.1.alloc _) B cb r rfl (Kd.C_below HR.out (by first | exact HB.out | exact HB.out.drew | exact HB.out.alloc HB.out.size _ | exact (HB.out.alloc HB.out.size _).drew)) (by omega) (by have := HO4.out.2.size; simp at this ⊢; omega) ?_; intro V5 c5 w5 hc5 hg5; replace HB := Lib.hid ((show Below W1.heap.size W1 _ from (by first | exact HB.out | exact HB.out.drew | exact HB.out.alloc HB.out.size _ | exact (HB.out.alloc HB.out.size _).drew)).grown hg5 (show Below W1.heap.size W1 _ from (by first | exact HB.out | exact HB.out.drew | exact HB.out.alloc HB.out.size _ | exact (HB.out.alloc HB.out.size _).drew)).size (fun k hk => by have h1 := own_base' HO4.out.1 k hk; simp at h1; omega)); have HG5 := Lib.hid hg5; clear hg5))
    all_goals (go_wp2_with fail; go_meet; exact ⟨rfl, HB⟩)
  case rest =>
    obtain ⟨rfl, HB⟩ := hcut
    have HBC := HB
    cases hsm : smallI (l.length + r.length) ms.length ss.length with
    | false =>
      clear hsm
      go_wp2_with (first
        | (go_at_call 11; refine (awake_calls _).mono ?_; rintro e w9 ⟨rfl, hb⟩; replace HB := Lib.hid (below_then' HB.out hb); clear hb))
      go_ret
      exact ⟨rfl, below_then' HB0.out HB.out⟩
    | true =>
      obtain ⟨hn60, hm61, hd61⟩ := smallI_true hsm
      clear hsm
      go_wp2_with (first
        | (go_at_call 25; go_loud (refine (clone_b M mc ms _ (Kd.C_below HC.out (below_then' HB0.out HB.out)) HM0.out hm61).mono ?_; rintro e w2 ⟨V, vc, rfl, hvc, hvx, ho, hd⟩; replace HB := Lib.hid (below_then' HB.out hd); have HO := Lib.hid (And.intro ho hd); clear hd ho)))
      obtain ⟨hx0, hx1⟩ := arr2' (heap_kept HX.out HB.out)
      have hsz1 := (show Below W1.heap.size W1 wc from by first | exact HBC.out).size
      obtain ⟨sn, hsn⟩ : ∃ sn, cnum ms.length ss.length (prs l) (prs r) = sn := ⟨_, rfl⟩
      obtain ⟨sc, hsc⟩ : ∃ sc, ccode ms.length ss.length (prs l) (prs r) = sc := ⟨_, rfl⟩
      have HSN := Lib.hid (And.intro hsn hsc)
      clear hsn hsc
      go_region_held3 (fun w' => w'.cell? ⟨w.heap.size, 0, none⟩ = some (.slice A l.length ca) ∧ w'.cell? ⟨w.heap.size, 1, none⟩ = some (.slice B r.length cb))
        (first | go_keep | exact ⟨hy0, hy1⟩ | exact ⟨hz0, hz1⟩)
        (first
          | (go_at_call 25; go_loud (refine (clone_b D dc ss _ (Kd.C_below HD.out (below_then' HB0.out HB.out.drew)) HD0.out hd61).mono ?_; rintro e w4 ⟨V2, vc2, rfl, hvc2, hvx2, ho2, hd2⟩; have hd4 := (show Below w2.heap.size w2 w2.drew from (Below.refl _ _).drew).trans hd2; obtain ⟨hy0, hy1⟩ := arr2' (heap_kept (heap_kept HX.out HB.out) hd4); have HO2 := Lib.hid ho2; have HD4 := Lib.hid hd4; have HB4 := Lib.hid (below_then' HB.out hd4); clear ho2 hd2 hd4))
          | (go_at_call 29; go_loud (refine (copy_b A ca l B cb r V vc wc.heap.size ms V2 vc2 ss P0 P1 _ (own_move HO.out.1 (fun k hk => HD4.out.block k (own_lt' HO.out.1 k hk))) (C_of_mrow (.inr ⟨rfl, HO2.out⟩) hvc2) hvc2 hvx2 (Kd.V_map (Kd.V_below HVL.out (below_then' HB0.out HB4.out)) (fun _ h => h)) (Kd.V_map (Kd.V_below HVR.out (below_then' HB0.out HB4.out)) (fun _ h => h)) (fun ad e => ⟨Nat.lt_of_lt_of_le (HA.out ad e) (below_then' HB0.out HB4.out).size, fun e' => by have q1 := own_base' HO.out.1 ad.block e'.symm; have q2 := HA.out ad e; omega⟩) (fun ad e => ⟨Nat.lt_of_lt_of_le (HBB.out ad e) (below_then' HB0.out HB4.out).size, fun e' => by have q1 := own_base' HO.out.1 ad.block e'.symm; have q2 := HBB.out ad e; omega⟩) hm61).mono ?_; rw [HSN.out.1, HSN.out.2]; rintro e w5 ⟨rfl, hr5, hg5⟩; have hB5 := HB4.out.grown hg5 HB4.out.size (fun k hk => by have q1 := own_base' HO.out.1 k hk; omega); obtain ⟨hz0, hz1⟩ := arr2' (heap_kept HX.out hB5); replace HB := Lib.hid hB5; have HR5 := Lib.hid hr5; clear hr5 hg5 hB5)))
      clear hx0 hx1
      by_cases hcode : sc = 0
      · subst hcode
        obtain ⟨x, hx⟩ := cmem_byts ms ss (prs l) (prs r)
        have hr5 := HR5.out
        rw [hx] at hr5
        have hxl : x.length ≤ 1000000 := by have := hr5.length; simp [byts] at this; omega
        have HV5 := Lib.hid (C_of_mrow hr5 hvc)
        have HXX := Lib.hid hx
        clear hr5 hx
        go_wp2_with (first
          | (go_at_call 30; go_loud (refine (copied_calls M mc ms A ca l D dc ss B cb r _ (Kd.C_below HC.out (below_then' HB0.out HB.out)) hmc (by omega) (Kd.C_below HD.out (below_then' HB0.out HB.out)) hdc (by omega) (Kd.C_below HL.out (below_then' HB0.out HB.out)) hca (Kd.C_below HR.out (below_then' HB0.out HB.out)) hcb).mono ?_; intro e w6 hsp; obtain ⟨v6, he, hg6, hd6⟩ := hsp; rw [HSN.out.1, HSN.out.2] at he; subst he; replace HB := Lib.hid (below_then' HB.out hd6); have hg7 := hg6 HSN.out.2; rw [HXX.out, show ms.length = x.length from HV5.out.1.symm] at hg7; obtain ⟨A6, c6, rfl, hc6, h6⟩ := C_of_own hg7; have H6 := Lib.hid h6; replace HV5 := Lib.hid (Kd.C_below HV5.out hd6); clear hg6 hg7 hd6 h6))
          | (go_at_call 14; go_loud (refine (equal_same HV5.out H6.out hvc hc6 hxl).mono ?_; rintro e w8 ⟨rfl, hd⟩; replace HB := Lib.hid (below_then' HB.out hd); clear hd))
          | (go_at_call 25; go_loud (refine (clone_b M mc ms _ (Kd.C_below HC.out (below_then' HB0.out HB.out)) HM0.out hm61).mono ?_; rintro e w9 ⟨V3, vc3, rfl, hvc3, hvx3, ho, hd⟩; have HS8 := HB.out.size; replace HB := Lib.hid (below_then' HB.out hd); obtain ⟨hu0, hu1⟩ := arr2' (heap_kept HX.out HB.out); have HO3 := Lib.hid (And.intro ho hd); clear hd ho)))
        obtain ⟨sn2, hsn2⟩ : ∃ sn2, cnum ms.length ms.length (prs l) (prs r) = sn2 := ⟨_, rfl⟩
        obtain ⟨sc2, hsc2⟩ : ∃ sc2, ccode ms.length ms.length (prs l) (prs r) = sc2 := ⟨_, rfl⟩
        have HSN2 := Lib.hid (And.intro hsn2 hsc2)
        clear hsn2 hsc2
        go_wp2_with (first
          | (go_at_call 29; go_loud (refine (copy_b A ca l B cb r V3 vc3 _ ms V3 vc3 ms P0 P1 _ HO3.out.1 (C_of_mrow (.inr ⟨rfl, HO3.out.1⟩) hvc3) hvc3 hvx3 (Kd.V_map (Kd.V_below HVL.out (below_then' HB0.out HB.out)) (fun _ h => h)) (Kd.V_map (Kd.V_below HVR.out (below_then' HB0.out HB.out)) (fun _ h => h)) (fun ad e => ⟨Nat.lt_of_lt_of_le (HA.out ad e) (below_then' HB0.out HB.out).size, fun e' => by have q1 := own_base' HO3.out.1 ad.block e'.symm; have q2 := HA.out ad e; omega⟩) (fun ad e => ⟨Nat.lt_of_lt_of_le (HBB.out ad e) (below_then' HB0.out HB.out).size, fun e' => by have q1 := own_base' HO3.out.1 ad.block e'.symm; have q2 := HBB.out ad e; omega⟩) hm61).mono ?_; rw [HSN2.out.1, HSN2.out.2]; rintro e w10 ⟨rfl, hr10, hg10⟩; replace HB := Lib.hid (HB.out.grown hg10 HB.out.size (fun k hk => by have q1 := own_base' HO3.out.1 k hk; omega)); obtain ⟨hk0, hk1⟩ := arr2' (heap_kept HX.out HB.out); have HR10 := Lib.hid hr10; clear hr10 hg10)))
        by_cases hcode2 : sc2 = 0
        · subst hcode2
          obtain ⟨x2, hx2⟩ := cmem_byts ms ms (prs l) (prs r)
          have hr10 := HR10.out
          rw [hx2] at hr10
          have hxl2 : x2.length ≤ 1000000 := by have := hr10.length; simp [byts] at this; omega
          have HV10 := Lib.hid (C_of_mrow hr10 hvc3)
          have HXX2 := Lib.hid hx2
          clear hr10 hx2
          go_wp2_with (first
            | (go_at_call 30; go_loud (refine (copied_calls M mc ms A ca l M mc ms B cb r _ (Kd.C_below HC.out (below_then' HB0.out HB.out)) hmc (by omega) (Kd.C_below HC.out (below_then' HB0.out HB.out)) hmc (by omega) (Kd.C_below HL.out (below_then' HB0.out HB.out)) hca (Kd.C_below HR.out (below_then' HB0.out HB.out)) hcb).mono ?_; intro e w6 hsp; obtain ⟨v6, he, hg6, hd6⟩ := hsp; rw [HSN2.out.1, HSN2.out.2] at he; subst he; replace HB := Lib.hid (below_then' HB.out hd6); have hg7 := hg6 HSN2.out.2; rw [HXX2.out, show ms.length = x2.length from HV10.out.1.symm] at hg7; obtain ⟨A6, c6, rfl, hc6, h6⟩ := C_of_own hg7; have H6 := Lib.hid h6; replace HV10 := Lib.hid (Kd.C_below HV10.out hd6); clear hg6 hg7 hd6 h6))
            | (go_at_call 14; go_loud (refine (equal_same HV10.out H6.out hvc3 hc6 hxl2).mono ?_; rintro e w8 ⟨rfl, hd⟩; replace HB := Lib.hid (below_then' HB.out hd); clear hd))
            | (go_at_call 11; go_loud (refine (awake_calls _).mono ?_; rintro e w20 ⟨rfl, hb⟩; replace HB := Lib.hid (below_then' HB.out hb); clear hb)))
          go_ret
          exact ⟨rfl, below_then' HB0.out HB.out⟩
        · have hsn0' : sn2 = 0 := by rw [← HSN2.out.1]; unfold cnum; rw [if_neg (by rw [HSN2.out.2]; exact hcode2)]
          subst hsn0'
          have hr10 := HR10.out
          rw [show cmem (byts ms) (byts ms) (prs l) (prs r) = byts ms by unfold cmem; rw [show (byts ms).length = ms.length by simp [byts], if_neg (by rw [HSN2.out.2]; exact hcode2)]] at hr10
          have HV10 := Lib.hid (C_of_mrow hr10 hvc3)
          clear hr10
          have hscb2 : (sc2 == 0) = false := by simpa using hcode2
          go_wp2_with (first
            | (go_at_call 30; go_loud (refine (copied_calls M mc ms A ca l M mc ms B cb r _ (Kd.C_below HC.out (below_then' HB0.out HB.out)) hmc (by omega) (Kd.C_below HC.out (below_then' HB0.out HB.out)) hmc (by omega) (Kd.C_below HL.out (below_then' HB0.out HB.out)) hca (Kd.C_below HR.out (below_then' HB0.out HB.out)) hcb).mono ?_; intro e w6 hsp; obtain ⟨v6, he, hg6, hd6⟩ := hsp; rw [HSN2.out.1, HSN2.out.2] at he; subst he; replace HB := Lib.hid (below_then' HB.out hd6); replace HV10 := Lib.hid (Kd.C_below HV10.out hd6); clear hg6 hd6))
            | (go_at_call 14; go_loud (refine (equal_same HV10.out (Kd.C_below HC.out (below_then' HB0.out HB.out)) hvc3 hmc (by omega)).mono ?_; rintro e w8 ⟨rfl, hd⟩; replace HB := Lib.hid (below_then' HB.out hd); clear hd))
            | (go_at_call 11; go_loud (refine (awake_calls _).mono ?_; rintro e w20 ⟨rfl, hb⟩; replace HB := Lib.hid (below_then' HB.out hb); clear hb)))
          go_ret
          exact ⟨rfl, below_then' HB0.out HB.out⟩
      · have hsn0 : sn = 0 := by rw [← HSN.out.1]; unfold cnum; rw [if_neg (by rw [HSN.out.2]; exact hcode)]
        subst hsn0
        have hr5 := HR5.out
        rw [show cmem (byts ms) (byts ss) (prs l) (prs r) = byts ms by unfold cmem; rw [show (byts ms).length = ms.length by simp [byts], show (byts ss).length = ss.length by simp [byts], if_neg (by rw [HSN.out.2]; exact hcode)]] at hr5
        have HV5 := Lib.hid (C_of_mrow hr5 hvc)
        clear hr5
        have hscb : (sc == 0) = false := by simpa using hcode
        go_wp2_with (first
          | (go_at_call 30; go_loud (refine (copied_calls M mc ms A ca l D dc ss B cb r _ (Kd.C_below HC.out (below_then' HB0.out HB.out)) hmc (by omega) (Kd.C_below HD.out (below_then' HB0.out HB.out)) hdc (by omega) (Kd.C_below HL.out (below_then' HB0.out HB.out)) hca (Kd.C_below HR.out (below_then' HB0.out HB.out)) hcb).mono ?_; intro e w6 hsp; obtain ⟨v6, he, hg6, hd6⟩ := hsp; rw [HSN.out.1, HSN.out.2] at he; subst he; replace HB := Lib.hid (below_then' HB.out hd6); replace HV5 := Lib.hid (Kd.C_below HV5.out hd6); clear hg6 hd6))
          | (go_at_call 14; go_loud (refine (equal_same HV5.out (Kd.C_below HC.out (below_then' HB0.out HB.out)) hvc hmc (by omega)).mono ?_; rintro e w8 ⟨rfl, hd⟩; replace HB := Lib.hid (below_then' HB.out hd); clear hd))
          | (go_at_call 25; go_loud (refine (clone_b M mc ms _ (Kd.C_below HC.out (below_then' HB0.out HB.out)) HM0.out hm61).mono ?_; rintro e w9 ⟨V3, vc3, rfl, hvc3, hvx3, ho, hd⟩; have HS8 := HB.out.size; replace HB := Lib.hid (below_then' HB.out hd); obtain ⟨hu0, hu1⟩ := arr2' (heap_kept HX.out HB.out); have HO3 := Lib.hid (And.intro ho hd); clear hd ho)))
        obtain ⟨sn2, hsn2⟩ : ∃ sn2, cnum ms.length ms.length (prs l) (prs r) = sn2 := ⟨_, rfl⟩
        obtain ⟨sc2, hsc2⟩ : ∃ sc2, ccode ms.length ms.length (prs l) (prs r) = sc2 := ⟨_, rfl⟩
        have HSN2 := Lib.hid (And.intro hsn2 hsc2)
        clear hsn2 hsc2
        go_wp2_with (first
          | (go_at_call 29; go_loud (refine (copy_b A ca l B cb r V3 vc3 _ ms V3 vc3 ms P0 P1 _ HO3.out.1 (C_of_mrow (.inr ⟨rfl, HO3.out.1⟩) hvc3) hvc3 hvx3 (Kd.V_map (Kd.V_below HVL.out (below_then' HB0.out HB.out)) (fun _ h => h)) (Kd.V_map (Kd.V_below HVR.out (below_then' HB0.out HB.out)) (fun _ h => h)) (fun ad e => ⟨Nat.lt_of_lt_of_le (HA.out ad e) (below_then' HB0.out HB.out).size, fun e' => by have q1 := own_base' HO3.out.1 ad.block e'.symm; have q2 := HA.out ad e; omega⟩) (fun ad e => ⟨Nat.lt_of_lt_of_le (HBB.out ad e) (below_then' HB0.out HB.out).size, fun e' => by have q1 := own_base' HO3.out.1 ad.block e'.symm; have q2 := HBB.out ad e; omega⟩) hm61).mono ?_; rw [HSN2.out.1, HSN2.out.2]; rintro e w10 ⟨rfl, hr10, hg10⟩; replace HB := Lib.hid (HB.out.grown hg10 HB.out.size (fun k hk => by have q1 := own_base' HO3.out.1 k hk; omega)); obtain ⟨hk0, hk1⟩ := arr2' (heap_kept HX.out HB.out); have HR10 := Lib.hid hr10; clear hr10 hg10)))
        by_cases hcode2 : sc2 = 0
        · subst hcode2
          obtain ⟨x2, hx2⟩ := cmem_byts ms ms (prs l) (prs r)
          have hr10 := HR10.out
          rw [hx2] at hr10
          have hxl2 : x2.length ≤ 1000000 := by have := hr10.length; simp [byts] at this; omega
          have HV10 := Lib.hid (C_of_mrow hr10 hvc3)
          have HXX2 := Lib.hid hx2
          clear hr10 hx2
          go_wp2_with (first
            | (go_at_call 30; go_loud (refine (copied_calls M mc ms A ca l M mc ms B cb r _ (Kd.C_below HC.out (below_then' HB0.out HB.out)) hmc (by omega) (Kd.C_below HC.out (below_then' HB0.out HB.out)) hmc (by omega) (Kd.C_below HL.out (below_then' HB0.out HB.out)) hca (Kd.C_below HR.out (below_then' HB0.out HB.out)) hcb).mono ?_; intro e w6 hsp; obtain ⟨v6, he, hg6, hd6⟩ := hsp; rw [HSN2.out.1, HSN2.out.2] at he; subst he; replace HB := Lib.hid (below_then' HB.out hd6); have hg7 := hg6 HSN2.out.2; rw [HXX2.out, show ms.length = x2.length from HV10.out.1.symm] at hg7; obtain ⟨A6, c6, rfl, hc6, h6⟩ := C_of_own hg7; have H6 := Lib.hid h6; replace HV10 := Lib.hid (Kd.C_below HV10.out hd6); clear hg6 hg7 hd6 h6))
            | (go_at_call 14; go_loud (refine (equal_same HV10.out H6.out hvc3 hc6 hxl2).mono ?_; rintro e w8 ⟨rfl, hd⟩; replace HB := Lib.hid (below_then' HB.out hd); clear hd))
            | (go_at_call 11; go_loud (refine (awake_calls _).mono ?_; rintro e w20 ⟨rfl, hb⟩; replace HB := Lib.hid (below_then' HB.out hb); clear hb)))
          go_ret
          exact ⟨rfl, below_then' HB0.out HB.out⟩
        · have hsn0' : sn2 = 0 := by rw [← HSN2.out.1]; unfold cnum; rw [if_neg (by rw [HSN2.out.2]; exact hcode2)]
          subst hsn0'
          have hr10 := HR10.out
          rw [show cmem (byts ms) (byts ms) (prs l) (prs r) = byts ms by unfold cmem; rw [show (byts ms).length = ms.length by simp [byts], if_neg (by rw [HSN2.out.2]; exact hcode2)]] at hr10
          have HV10 := Lib.hid (C_of_mrow hr10 hvc3)
          clear hr10
          have hscb2 : (sc2 == 0) = false := by simpa using hcode2
          go_wp2_with (first
            | (go_at_call 30; go_loud (refine (copied_calls M mc ms A ca l M mc ms B cb r _ (Kd.C_below HC.out (below_then' HB0.out HB.out)) hmc (by omega) (Kd.C_below HC.out (below_then' HB0.out HB.out)) hmc (by omega) (Kd.C_below HL.out (below_then' HB0.out HB.out)) hca (Kd.C_below HR.out (below_then' HB0.out HB.out)) hcb).mono ?_; intro e w6 hsp; obtain ⟨v6, he, hg6, hd6⟩ := hsp; rw [HSN2.out.1, HSN2.out.2] at he; subst he; replace HB := Lib.hid (below_then' HB.out hd6); replace HV10 := Lib.hid (Kd.C_below HV10.out hd6); clear hg6 hd6))
            | (go_at_call 14; go_loud (refine (equal_same HV10.out (Kd.C_below HC.out (below_then' HB0.out HB.out)) hvc3 hmc (by omega)).mono ?_; rintro e w8 ⟨rfl, hd⟩; replace HB := Lib.hid (below_then' HB.out hd); clear hd))
            | (go_at_call 11; go_loud (refine (awake_calls _).mono ?_; rintro e w20 ⟨rfl, hb⟩; replace HB := Lib.hid (below_then' HB.out hb); clear hb)))
          go_ret
          exact ⟨rfl, below_then' HB0.out HB.out⟩
end Go.Proofs.Ytbojagkalbfenaa
namespace Go.Proofs.Ytbojagkalbfenaa
open Go.RowKit Go.WideShapes Go.ChangeShapes Go.Deep PIovGather Go.Proofs.YtbojagkalbfenaaW.PrintWords
section
variable {H : Type} {enc : TypeId × Value → H} {P : Program} {w : World} {base : Nat} {spare : Nat → Bool} {held : Bool}
theorem cells_of {a : Addr} {n : Nat} {cs : List Value} (h : w.cells? base a n = some cs) : cs.length = n ∧ ∀ q, q < n → w.cell? (a.add q) = cs[q]? := by
  unfold World.cells? at h
  split at h
  · have hl := mapM_some_length h
    rw [List.length_range] at hl
    exact ⟨hl, fun q hq => mapM_some_get h q q (by simp [hq])⟩
  · simp at h

/-- A slice that came in, whatever its elements: its shape, its reach, and each element's cells with their reading. -/
theorem open_rows {r : Reach} {b0 : Nat} {ts : List TypeId} {ds : List (DataW H)} {j : Nat} {t e : TypeId} {m B : Nat} {v : Value} {d : DataW H} {p : List MemPlace} (hu : P.underlying t = some (.slice e)) (hm : P.cellsOf e = m) (hB : P.bytesOf e = B)
    (ht : ts[j]? = some t) (hd : ds[j]? = some d) (hsz : (DataW.weightsEach P ts ds).all (· ≤ reachBytes) = true)
    (hv : Value.okWide P w r b0 t v) (h : DataW.Trod enc P w base spare held t v d p) :
    ∃ A len cap, v = .slice A len cap ∧ len ≤ cap ∧ cap ≤ maxLen ∧ len * B ≤ 140737488351232 ∧ (A = none → len = 0 ∧ cap = 0) ∧ ∀ i, i < len → ∃ ad cs fuel y, A = some ad ∧ cs.length = m ∧ (∀ q, q < m → w.cell? (ad.add (i * m + q)) = cs[q]?) ∧ DataW.trod enc P w base spare held fuel e cs = some y := by
  obtain ⟨A, len, cap, rfl⟩ := okWide_slice hu hv
  obtain ⟨fuel, hf⟩ := h
  refine ⟨A, len, cap, rfl, ?_⟩
  rcases open_slice hu hf with ⟨hcs, _⟩ | ⟨a, len', cap', m', n, D, Pl, hcs, _, hl, hml, hm', hx, hi⟩
  · simp [Value.cells] at hcs
    obtain ⟨rfl, rfl, rfl⟩ := hcs
    exact ⟨Nat.le_refl _, by simp [maxLen], by simp, fun _ => ⟨rfl, rfl⟩, fun i hi => by omega⟩
  · simp [Value.cells] at hcs
    obtain ⟨rfl, rfl, rfl⟩ := hcs
    obtain ⟨hx, _⟩ := Prod.mk.inj hx
    subst hx
    have z := sized_slice hsz ht hd hu
    rw [hB] at z
    simp only [List.length_map, List.length_range] at z
    have hlm : len ≤ m' := by rw [hm']; split <;> omega
    refine ⟨hl, hml, Nat.le_trans (Nat.mul_le_mul_right _ (by omega)) z, fun h => (by cases h), fun i hil => ?_⟩
    obtain ⟨cs', hc', ht'⟩ := hi i (by omega)
    rw [hm] at hc'
    obtain ⟨h1, h2⟩ := cells_of hc'
    exact ⟨a, cs', n, _, rfl, h1, fun q hq => by rw [← Deep.add_add]; exact h2 q hq, ht'⟩
theorem slice_block {r : Reach} {b0 : Nat} {t e : TypeId} {a : Addr} {n c : Nat} (hu : P.underlying t = some (.slice e)) (hv : Value.okWide P w r b0 t (.slice (some a) n c)) : a.block < w.heap.size := by
  simp only [Value.okWide, hu, Cell.okWide, Cell.ok] at hv
  obtain ⟨_, _, _, _, row, cells, hs, _⟩ := hv
  unfold World.shape? at hs
  by_cases h : a.block < w.heap.size
  · exact h
  · rw [Array.getElem?_eq_none (by omega)] at hs
    cases hs
end
theorem open22 {H : Type} {enc : TypeId × Value → H} {w : World} {base : Nat} {spare : Nat → Bool} {held : Bool} {r : Reach} {b0 : Nat} {ts : List TypeId} {ds : List (DataW H)} {j t : Nat} {v : Value} {d : DataW H} {p : List MemPlace}
    (htt : t = 22) (ht : ts[j]? = some t) (hd : ds[j]? = some d) (hsz : (DataW.weightsEach Try.prog ts ds).all (· ≤ reachBytes) = true)
    (hv : Value.okWide Try.prog w r b0 22 v) (h : DataW.Trod enc Try.prog w base spare held 22 v d p) :
    ∃ (A : Option Addr) (cap : Nat) (ms : List Int), v = .slice A ms.length cap ∧ Kd.C (Kd.int .u8) w A ms.length ms ∧ ms.length ≤ cap ∧ cap ≤ 9223372036854775807 ∧ (A = none → ms.length = 0 ∧ cap = 0) := by
  subst htt
  obtain ⟨A, len, cap, rfl, hl, hm, hz, hnil, hi⟩ := open_rows (m := 1) (B := 1) Try.underlying22 (by kernel_rfl) (by kernel_rfl) ht hd hsz hv h
  have hc : ∀ i, i < len → ∃ q : Int, ∃ ad, A = some ad ∧ w.cell? (ad.add i) = some (.int .u8 q) := by
    intro i hil
    obtain ⟨ad, cs, fuel, y, rfl, hl, hcell, hy⟩ := hi i hil
    obtain ⟨a, rfl, _⟩ := DataW.trod_int Try.underlying5 hy
    exact ⟨a, ad, rfl, by simpa using hcell 0 (by omega)⟩
  obtain ⟨f, hf⟩ := Deep.choose_lt hc
  refine ⟨A, cap, (List.range len).map f, by simp, ⟨rfl, by simp; simp only [maxLen] at hm; omega, fun hp => ?_⟩, by simpa using hl, by simp only [maxLen] at hm; omega, fun e => by simpa using hnil e⟩
  simp only [List.length_map, List.length_range] at hp
  obtain ⟨ad, rfl, _⟩ := hf 0 hp
  refine ⟨ad, rfl, fun j p hj => ⟨[.int .u8 p], rfl, rfl, fun i u hu => ?_⟩⟩
  match i, hu with
  | 0, hu =>
    cases hu
    have hjl : j < len := by
      have := (List.getElem?_eq_some_iff.1 hj).1
      simpa using this
    obtain ⟨ad2, e, h2⟩ := hf j hjl
    cases e
    obtain rfl : f j = p := by simpa [hjl] using hj
    simpa [Kd.int, Kd.scalar] using h2
  | i + 1, hu => simp at hu
theorem pairs_kept {w w1 : World} {A : Option Addr} {l : List (Int × Int)} (h : Pairs w A l) (hb : ∀ k, k < w.heap.size → w1.heap[k]? = w.heap[k]?) : Pairs w1 A l := by
  intro i hi
  obtain ⟨ad, e, h1, h2⟩ := h i hi
  exact ⟨ad, e, (World.cell?_of_block (w := w) (hb _ (World.block_lt_of_cell? _ _ h1))).trans h1, (World.cell?_of_block (w := w) (hb _ (World.block_lt_of_cell? _ _ h2))).trans h2⟩
theorem C_of_pairs {w : World} {A : Option Addr} {l : List S44} (hl : l.length ≤ 9223372036854775807) (h : Pairs w A (prs l)) : Kd.C k44 w A l.length l := by
  refine ⟨rfl, hl, fun hp => ?_⟩
  obtain ⟨ad, e, _⟩ := h 0 (by rw [prs_length]; exact hp)
  refine ⟨ad, e, fun j p hj => ⟨[.int .i64 p.f0, .int .i64 p.f1], rfl, k44_mk w p, fun i u hu => ?_⟩⟩
  have hjl := (List.getElem?_eq_some_iff.1 hj).1
  obtain ⟨ad2, e2, h1, h2⟩ := h j (by rw [prs_length]; exact hjl)
  rw [e] at e2
  cases e2
  have hg : (prs l).getD j (0, 0) = (p.f0, p.f1) := by simp [prs, List.getD_eq_getElem?_getD, hj]
  rw [hg] at h1 h2
  show w.cell? (ad.add (j * 2 + i)) = some u
  match i, hu with
  | 0, hu => cases hu; exact h1
  | 1, hu =>
    cases hu
    rw [show ad.add (j * 2 + 1) = ⟨(ad.add (j * 2)).block, (ad.add (j * 2)).off + 1, none⟩ by rw [← Deep.add_add]; unfold Addr.add; simp]
    exact h2
  | i + 2, hu => simp at hu
theorem V_of_pairs {w : World} {b : Nat} {A : Option Addr} {l : List S44} {c : Nat} (hc : l.length ≤ c) (hl : l.length ≤ 9223372036854775807) (h : Pairs w A (prs l)) : Kd.V k44 44 w b (fun k => k < w.heap.size) (.slice A l.length c) l := by
  refine Kd.V_mk hc (fun W' hW' => C_of_pairs hl (pairs_kept h ?_))
  intro i hi
  exact hW' i hi hi
theorem open23 {H : Type} {enc : TypeId × Value → H} {w : World} {base : Nat} {spare : Nat → Bool} {held : Bool} {r : Reach} {b0 : Nat} {ts : List TypeId} {ds : List (DataW H)} {j t : Nat} {v : Value} {d : DataW H} {p : List MemPlace}
    (htt : t = 23) (ht : ts[j]? = some t) (hd : ds[j]? = some d) (hsz : (DataW.weightsEach Try.prog ts ds).all (· ≤ reachBytes) = true)
    (hv : Value.okWide Try.prog w r b0 23 v) (h : DataW.Trod enc Try.prog w base spare held 23 v d p) :
    ∃ (A : Option Addr) (cap : Nat) (l : List S44), v = .slice A l.length cap ∧ Kd.V k44 44 w w.heap.size (fun k => k < w.heap.size) (.slice A l.length cap) l ∧ (∀ ad, A = some ad → ad.block < w.heap.size) ∧ l.length * 16 ≤ 140737488351232 := by
  subst htt
  obtain ⟨A, len, cap, rfl, hl, _, hz, _, hi⟩ := open_rows (m := 2) (B := 16) Try.underlying23 (by kernel_rfl) (by kernel_rfl) ht hd hsz hv h
  have hc : ∀ i, i < len → ∃ q : S44, ∃ ad, A = some ad ∧ w.cell? (ad.add (i * 2)) = some (.int .i64 q.f0) ∧ w.cell? ⟨(ad.add (i * 2)).block, (ad.add (i * 2)).off + 1, none⟩ = some (.int .i64 q.f1) := by
    intro i hil
    obtain ⟨ad, cs, fuel, y, rfl, hl, hcell, hy⟩ := hi i hil
    obtain ⟨y0, y1, m, _, _, g0, g1⟩ := trod_struct2 Try.underlying44 hy
    obtain ⟨a, ea, _⟩ := DataW.trod_int Try.underlying2 g0
    obtain ⟨b, eb, _⟩ := DataW.trod_int Try.underlying2 g1
    rw [show Try.prog.cellsOf 2 = 1 by kernel_rfl] at ea eb
    match cs, hl with
    | [c0, c1], _ =>
      simp at ea eb
      subst ea eb
      have h0 := hcell 0 (by omega)
      have h1 := hcell 1 (by omega)
      refine ⟨⟨a, b⟩, ad, rfl, by simpa using h0, ?_⟩
      rw [← Deep.add_add] at h1
      have e2 : (ad.add (i * 2)).add 1 = ⟨(ad.add (i * 2)).block, (ad.add (i * 2)).off + 1, none⟩ := by unfold Addr.add; simp
      rw [e2] at h1
      simpa using h1
  haveI : Inhabited S44 := ⟨z44⟩
  obtain ⟨f, hf⟩ := Deep.choose_lt hc
  have hp : Pairs w A (prs ((List.range len).map f)) := by
    intro i hil
    rw [prs_length] at hil
    simp only [List.length_map, List.length_range] at hil
    have := hf i hil
    simpa [prs, List.getD_eq_getElem?_getD, hil] using this
  refine ⟨A, cap, (List.range len).map f, by simp, V_of_pairs (by simpa using hl) (by simp; omega) hp, ?_, by simpa using hz⟩
  rintro ad rfl
  exact slice_block Try.underlying23 hv
theorem bulk_one {H : Type} (d : DataW H) : 1 ≤ Rows.uptoBulk d := by
  cases d with
  | lit l => cases l <;> simp [Rows.uptoBulk]
  | nil => simp [Rows.uptoBulk]
  | ptr d => simp [Rows.uptoBulk]
  | slice elems spare => simp [Rows.uptoBulk]
  | agg parts => simp [Rows.uptoBulk]
  | iface t d => simp [Rows.uptoBulk]
  | map entries => simp [Rows.uptoBulk]
  | held h => simp [Rows.uptoBulk]
theorem bulk_len {H : Type} (l : List (DataW H)) : l.length ≤ Rows.uptoBulkAll l := by
  induction l with
  | nil => simp [Rows.uptoBulkAll]
  | cons x r ih => have := bulk_one x; simp only [Rows.uptoBulkAll, List.length_cons]; omega
/-- A list of parts inside a struct that came in. -/
theorem parts_of_trod {H : Type} {enc : TypeId × Value → H} {w : World} {base : Nat} {spare : Nat → Bool} {held : Bool} {fuel : Nat} {cs : List Value} {x : DataW H × List MemPlace} (hf : DataW.trod enc Try.prog w base spare held fuel 23 cs = some x) :
    ∃ (A : Option Addr) (cap : Nat) (l : List S44), cs = [.slice A l.length cap] ∧ Kd.V k44 44 w w.heap.size (fun k => k < w.heap.size) (.slice A l.length cap) l ∧ (A = none → l.length = 0 ∧ cap = 0) ∧ l.length ≤ Rows.uptoBulk x.1 := by
  rcases open_slice Try.underlying23 hf with ⟨hcs, hx⟩ | ⟨a, len, cap, m', n, D, Pl, hcs, _, hl, hml, hm', hx, hi⟩
  · exact ⟨none, 0, [], hcs, V_of_pairs (Nat.le_refl _) (by simp) (fun i hi => by simp [prs] at hi), (fun _ => ⟨rfl, rfl⟩), by simp⟩
  · have hlm : len ≤ m' := by rw [hm']; split <;> omega
    have hc : ∀ i, i < len → ∃ q : S44, w.cell? (a.add (i * 2)) = some (.int .i64 q.f0) ∧ w.cell? ⟨(a.add (i * 2)).block, (a.add (i * 2)).off + 1, none⟩ = some (.int .i64 q.f1) := by
      intro i hil
      obtain ⟨cs', hc', ht'⟩ := hi i (by omega)
      rw [show Try.prog.cellsOf 44 = 2 by kernel_rfl] at hc'
      obtain ⟨hl', hcell⟩ := cells_of hc'
      obtain ⟨y0, y1, m, _, _, g0, g1⟩ := trod_struct2 Try.underlying44 ht'
      obtain ⟨p, ea, _⟩ := DataW.trod_int Try.underlying2 g0
      obtain ⟨b, eb, _⟩ := DataW.trod_int Try.underlying2 g1
      rw [show Try.prog.cellsOf 2 = 1 by kernel_rfl] at ea eb
      match cs', hl' with
      | [c0, c1], _ =>
        simp at ea eb
        subst ea eb
        have h0 := hcell 0 (by omega)
        have h1 := hcell 1 (by omega)
        rw [add_plus] at h0 h1
        refine ⟨⟨p, b⟩, by simpa using h0, ?_⟩
        have e2 : a.add (i * 2 + 1) = ⟨(a.add (i * 2)).block, (a.add (i * 2)).off + 1, none⟩ := by rw [← Deep.add_add]; unfold Addr.add; simp
        rw [e2] at h1
        simpa using h1
    haveI : Inhabited S44 := ⟨z44⟩
    obtain ⟨f, hf'⟩ := Deep.choose_lt hc
    simp only [maxLen] at hml
    have hp : Pairs w (some a) (prs ((List.range len).map f)) := by
      intro i hil
      rw [prs_length] at hil
      simp only [List.length_map, List.length_range] at hil
      have := hf' i hil
      exact ⟨a, rfl, by simpa [prs, List.getD_eq_getElem?_getD, hil] using this.1, by simpa [prs, List.getD_eq_getElem?_getD, hil] using this.2⟩
    refine ⟨some a, cap, (List.range len).map f, by simpa using hcs, V_of_pairs (by simpa using hl) (by simp; omega) hp, (fun h => by cases h), ?_⟩
    · rw [hx]
      simp only [Rows.uptoBulk, List.length_map, List.length_range]
      have := bulk_len ((List.range len).map D)
      simp at this
      omega
theorem okWide54 {w : World} {r : Reach} {b0 : Nat} {x y : Value} (hv : Value.okWide Try.prog w r b0 54 (.agg #[x, y])) : Value.okWide Try.prog w r b0 23 x ∧ Value.okWide Try.prog w r b0 23 y := by
  simp only [Value.okWide, Try.underlying54] at hv
  obtain ⟨cs, e, _, ts, hts, _, h⟩ := hv
  injection e with e
  subst e
  rw [show Try.prog.cellTypes Try.prog.depth 54 = some [23, 23] by kernel_rfl] at hts
  cases hts
  obtain ⟨u, hu, h0⟩ := h 0 x rfl
  obtain ⟨u', hu', h1⟩ := h 1 y rfl
  cases hu
  cases hu'
  simp only [Value.okWide, Try.underlying23]
  exact ⟨h0, h1⟩
theorem open54 {H : Type} {enc : TypeId × Value → H} {w : World} {base : Nat} {spare : Nat → Bool} {held : Bool} {r : Reach} {b0 : Nat} {v : Value} {d : DataW H} {p : List MemPlace}
    (hv : Value.okWide Try.prog w r b0 54 v) (h : DataW.Trod enc Try.prog w base spare held 54 v d p) : ∃ (A : Option Addr) (ca : Nat) (l : List S44) (B : Option Addr) (cb : Nat) (r : List S44), v = .agg #[.slice A l.length ca, .slice B r.length cb] ∧
      Kd.V k44 44 w w.heap.size (fun k => k < w.heap.size) (.slice A l.length ca) l ∧ (∀ ad, A = some ad → ad.block < w.heap.size) ∧ (A = none → l.length = 0 ∧ ca = 0) ∧
      Kd.V k44 44 w w.heap.size (fun k => k < w.heap.size) (.slice B r.length cb) r ∧ (∀ ad, B = some ad → ad.block < w.heap.size) ∧ l.length ≤ Rows.uptoBulk d ∧ r.length ≤ Rows.uptoBulk d := by
  have hv0 := hv
  obtain ⟨cs, rfl, hsz⟩ := okWide_struct Try.underlying54 hv
  obtain ⟨fuel, hf⟩ := h
  obtain ⟨y0, y1, m, hy, hl, g0, g1⟩ := trod_struct2 Try.underlying54 hf
  obtain ⟨A, ca, l, ea, h1, h3, h4⟩ := parts_of_trod g0
  obtain ⟨B, cb, r, eb, k1, k3, k4⟩ := parts_of_trod g1
  rw [show Try.prog.cellsOf 23 = 1 by kernel_rfl] at ea eb
  have hcl : cs.toList.length = 2 := by rw [show (2 : Nat) = Try.prog.cellsOf 54 by kernel_rfl]; exact hl
  have hd := (Prod.mk.inj hy).1
  have e3 : cs = #[.slice A l.length ca, .slice B r.length cb] := by
    simp only [Value.cells] at ea eb
    have e3 : cs.toList = [.slice A l.length ca, .slice B r.length cb] := by
      generalize cs.toList = L at *
      match L, hcl with
      | [x, y], _ =>
        simp at ea eb
        rw [ea, eb]
    rw [← Array.toArray_toList (xs := cs), e3]
  subst e3
  obtain ⟨o1, o2⟩ := okWide54 hv0
  refine ⟨A, ca, l, B, cb, r, rfl, h1, ?_, h3, k1, ?_, ?_, ?_⟩
  · rintro ad rfl; exact slice_block Try.underlying23 o1
  · rintro ad rfl; exact slice_block Try.underlying23 o2
  · rw [hd]; simp only [Rows.uptoBulk, Rows.uptoBulkAll]; omega
  · rw [hd]; simp only [Rows.uptoBulk, Rows.uptoBulkAll]; omega
/-- The bulk of bytes. -/
theorem bulk22 {H : Type} {enc : TypeId × Value → H} {w : World} {base : Nat} {spare : Nat → Bool} {held : Bool} {A : Option Addr} {n c : Nat} {d : DataW H} {p : List MemPlace} (h : DataW.Trod enc Try.prog w base spare held 22 (.slice A n c) d p) : n ≤ Rows.uptoBulk d := by
  obtain ⟨fuel, hf⟩ := h
  rcases open_slice Try.underlying22 hf with ⟨hcs, hx⟩ | ⟨a, len, cap, m', n', D, Pl, hcs, _, hl, hml, hm', hx, hi⟩
  · simp [Value.cells] at hcs; omega
  · simp [Value.cells] at hcs
    obtain ⟨_, rfl, _⟩ := hcs
    have hd := (Prod.mk.inj hx).1
    rw [hd]
    simp only [Rows.uptoBulk]
    have := bulk_len ((List.range n).map D)
    simp at this
    omega
end Go.Proofs.Ytbojagkalbfenaa
