import Derived.Test.YtmmhflpeapojgaaA4
import Derived.StillTailTactics
import Derived.Deep.LoopGhost
import Derived.Laws.CopyOwn
import Derived.Laws.Tables
import Derived.Laws.Rows
namespace Go.Proofs.Ytmmhflpeapojgaa
set_option linter.unusedVariables false
set_option linter.unusedSimpArgs false
open Go.RowKit Ieee
attribute [local go_sem] ints_get ints_size ints_getElem

/-- Complex words in a row. -/
def cx (l : List (Nat × Nat)) : Array Value := (l.map fun p => Value.complex .f32 p.1 p.2).toArray
@[simp] theorem cx_size (l : List (Nat × Nat)) : (cx l).size = l.length := by simp [cx]
theorem cx_get (l : List (Nat × Nat)) (i : Nat) : (cx l)[i]? = (l[i]?).map fun p => Value.complex .f32 p.1 p.2 := by simp [cx]
theorem cx_set (l : List (Nat × Nat)) (i : Nat) (p : Nat × Nat) : (cx l).setIfInBounds i (.complex .f32 p.1 p.2) = cx (l.set i p) := by
  apply Array.ext'
  simp [cx, List.map_set]
def termT (p : Int × Int) (k j : Nat) : Int × Int := rot (turns4 (-((k * j : Nat) : Int))) p
/-- The partial sums of the transform. -/
def pre (ps : List (Int × Int)) (k : Nat) : Nat → Int × Int
  | 0 => (0, 0)
  | j + 1 => ((pre ps k j).1 + (termT (ps.getD j (0, 0)) k j).1, (pre ps k j).2 + (termT (ps.getD j (0, 0)) k j).2)
def Bd (B : Int) (p : Int × Int) : Prop := (-B ≤ p.1 ∧ p.1 ≤ B) ∧ (-B ≤ p.2 ∧ p.2 ≤ B)
theorem pre_bound {ps : List (Int × Int)} {B : Int} (h : ∀ p ∈ ps, Bd B p) (hB : 0 ≤ B) (k : Nat) : ∀ j : Nat, Bd (B * j) (pre ps k j)
  | 0 => by simp [pre, Bd]
  | j + 1 => by
    have ih := pre_bound h hB k j
    have hp : Bd B (ps.getD j (0, 0)) := by
      rw [List.getD_eq_getElem?_getD]
      cases hj : ps[j]? with
      | none => simp [Bd]; omega
      | some p => exact h p (List.mem_of_getElem? hj)
    have hr := rot_bound (turns4 (-((k * j : Nat) : Int))) (ps.getD j (0, 0)) hp.1 hp.2
    unfold Bd at *
    simp only [pre, termT]
    rw [show B * ((j + 1 : Nat) : Int) = B * j + B by rw [Int.natCast_add, Int.mul_add]; simp]
    omega
/-- Words that stand for pairs of whole numbers. -/
def GP (w : Nat × Nat) (p : Int × Int) : Prop := G fmt w.1 p.1 ∧ G fmt w.2 p.2
def FP (p : Int × Int) : Nat × Nat := (F fmt p.1, F fmt p.2)
theorem fp_mk {a b : Nat} {p : Int × Int} (h : a = F fmt p.1) (g : b = F fmt p.2) : (a, b) = FP p := by rw [h, g]; rfl
theorem cadd (a b c d re im : Nat) (h1 : fmt.add a c = some re) (h2 : fmt.add b d = some im) (W : World) : (binOp .add 53 (.complex .f32 a b) (.complex .f32 c d)).run Try.prog W = .ok (.complex .f32 re im) W :=
  run_complex_sum W .add (.inl rfl) 53 .f32 a b c d re im (by unfold cSumBits floatBits; rw [h1, h2]; rfl)
theorem gp_zero : GP (0, 0) (0, 0) := by have := G_F fmt_fine (n := 0) (small_of (by omega)); rw [F_zero] at this; exact ⟨this, this⟩
theorem gp_add {u v : Nat × Nat} {p q : Int × Int} (h : GP u p) (g : GP v q) (hp : Bd 1000000 p) (hq : Bd 1000000 q) : ∃ r : Nat × Nat, fmt.add u.1 v.1 = some r.1 ∧ fmt.add u.2 v.2 = some r.2 ∧ GP r (p.1 + q.1, p.2 + q.2) := by
  unfold Bd at hp hq
  obtain ⟨r1, e1, g1⟩ := add_V fmt_fine (h.1.V fmt_fine (small_of (by omega))) (g.1.V fmt_fine (small_of (by omega))) (small_of (n := p.1 + q.1) (by omega))
  obtain ⟨r2, e2, g2⟩ := add_V fmt_fine (h.2.V fmt_fine (small_of (by omega))) (g.2.V fmt_fine (small_of (by omega))) (small_of (n := p.2 + q.2) (by omega))
  exact ⟨(r1, r2), e1, e2, g1, g2⟩

/-- The four sums. -/
def outT (ps : List (Int × Int)) : List (Nat × Nat) := (List.range 4).map fun k => FP (pre ps k 4)
/-- The state of the sums: those before k are done. -/
def Outs (ps : List (Int × Int)) (os : List (Nat × Nat)) (k : Nat) : Prop := os.length = 4 ∧ (∀ i, i < k → os[i]? = some (FP (pre ps i 4))) ∧ ∀ i, k ≤ i → i < 4 → os[i]? = some (0, 0)
theorem Outs.zero (ps : List (Int × Int)) : Outs ps [(0, 0), (0, 0), (0, 0), (0, 0)] 0 := ⟨rfl, fun i h => absurd h (by omega), fun i _ h => by
  match i, h with
  | 0, _ => rfl
  | 1, _ => rfl
  | 2, _ => rfl
  | 3, _ => rfl⟩

theorem Outs.get {ps : List (Int × Int)} {os : List (Nat × Nat)} {k : Nat} (h : Outs ps os k) (hk : k < 4) : os[k]? = some (0, 0) := h.2.2 k (Nat.le_refl _) hk
theorem Outs.done {ps : List (Int × Int)} {os : List (Nat × Nat)} {k : Nat} (h : Outs ps os k) (hk : k < 4) : Outs ps (os.set k (FP (pre ps k 4))) (k + 1) := by
  refine ⟨by rw [List.length_set]; exact h.1, fun i hi => ?_, fun i hi h4 => ?_⟩
  · rcases Nat.lt_or_ge i k with q | q
    · rw [List.getElem?_set_ne (by omega)]; exact h.2.1 i q
    · obtain rfl : i = k := by omega
      rw [List.getElem?_set_self (by rw [h.1]; omega)]
  · rw [List.getElem?_set_ne (by omega)]; exact h.2.2 i (by omega) h4
/-- The world within the loops. -/
def TS (w0 : World) (xs os : List (Nat × Nat)) (wr : World) : Prop :=
  Below w0.heap.size w0 wr ∧ wr.heap[w0.heap.size]? = some (.cells (cx xs) 54 (0, 0)) ∧ (∃ z : Array Value, wr.heap[w0.heap.size + 1]? = some (.cells z 54 (0, 0)) ∧ z.size = 4) ∧ wr.heap[w0.heap.size + 1 + 1]? = some (.cells (cx os) 54 (0, 0))
theorem TS.set {w0 wr : World} {xs os : List (Nat × Nat)} (h : TS w0 xs os wr) (k : Nat) (p : Nat × Nat) : TS w0 xs (os.set k p) (wr.setCell ⟨w0.heap.size + 1 + 1, k, none⟩ (.complex .f32 p.1 p.2)) := by
  obtain ⟨h1, h2, ⟨z, h3, h4⟩, h5⟩ := h
  refine ⟨h1.setCell (by simp; omega) _, ?_, ⟨z, ?_, h4⟩, ?_⟩
  · rw [Below.heap_setCell _ _ _ _ (by simp; omega)]; exact h2
  · rw [Below.heap_setCell _ _ _ _ (by simp)]; exact h3
  · rw [← cx_set]
    simp [World.setCell, Array.getElem?_modify, h5]
theorem TS.drew {w0 wr : World} {xs os : List (Nat × Nat)} (h : TS w0 xs os wr) : TS w0 xs os wr.drew := ⟨h.1.drew, h.2.1, h.2.2.1, h.2.2.2⟩
theorem TS.cell {w0 wr : World} {xs os : List (Nat × Nat)} (h : TS w0 xs os wr) {k : Nat} {p : Nat × Nat} (hk : os[k]? = some p) : wr.cell? ⟨w0.heap.size + 1 + 1, k, none⟩ = some (.complex .f32 p.1 p.2) := by
  rw [cell_of_row _ _ _ _ _ _ h.2.2.2, cx_get, hk]; rfl
theorem TS.input {w0 wr : World} {xs os : List (Nat × Nat)} (h : TS w0 xs os wr) {k : Nat} (hk : k < xs.length) : wr.cell? ⟨w0.heap.size, k, none⟩ = some (.complex .f32 (xs.getD k (0, 0)).1 (xs.getD k (0, 0)).2) := by
  rw [cell_of_row _ _ _ _ _ _ h.2.1, cx_get, List.getD_eq_getElem?_getD, List.getElem?_eq_getElem hk]; rfl
theorem TS.frozen {w0 wr : World} {xs os : List (Nat × Nat)} (h : TS w0 xs os wr) (k : Nat) : wr.frozen? ⟨w0.heap.size + 1 + 1, k, none⟩ = false := by
  simp [World.frozen?, h.2.2.2]

theorem heap_three (w : World) (a : Obj) (z u : Array Value) (hz : z.size = 4) (xs os : List (Nat × Nat)) (ha : a = .cells (cx xs) 54) (hu : u = cx os) : TS w xs os (((w.alloc a).alloc (.cells z 54)).alloc (.cells u 54)) := by
  subst ha hu
  have e1 : (w.alloc (.cells (cx xs) 54)).heap.size = w.heap.size + 1 := by simp
  have e2 : ((w.alloc (.cells (cx xs) 54)).alloc (.cells z 54)).heap.size = w.heap.size + 1 + 1 := by simp
  refine ⟨(((Below.refl _ _).alloc (Nat.le_refl _) _).alloc (by omega) _).alloc (by omega) _, ?_, ⟨z, ?_, hz⟩, ?_⟩
  · rw [Below.heap_alloc _ _ _ (by omega), Below.heap_alloc _ _ _ (by omega)]; exact heap_alloc_new w _
  · rw [Below.heap_alloc _ _ _ (by omega), ← e1]; exact heap_alloc_new _ _
  · rw [← e2]; exact heap_alloc_new _ _
set_option maxHeartbeats 2000000 in
theorem turns_calls (xs : List (Nat × Nat)) (ps : List (Int × Int)) (hx : xs.length = 4) (hp : ps.length = 4) (hg : ∀ i, i < 4 → GP (xs.getD i (0, 0)) (ps.getD i (0, 0))) (hb : ∀ p ∈ ps, Bd 10000 p) (w : World) :
    Calls Try.prog 29 #[.agg (cx xs), .int .i64 (-1)] w fun e w' => e = .returned (.agg (cx (outT ps))) ∧ Below w.heap.size w w' := by
  have HG := Lib.hid hg
  have HPB := Lib.hid (fun k => pre_bound hb (by omega) k)
  have HBB := Lib.hid hb
  have HX := Lib.hid (And.intro hx hp)
  have hcs : (cx xs).size = 4 := by rw [cx_size, hx]
  have HCS := Lib.hid hcs
  clear hg hb hx hp hcs
  go_enter Try.func29, Try.ntmps29
  go_wp2
  have HT : Hid (TS w xs [(0, 0), (0, 0), (0, 0), (0, 0)] (((w.alloc (.cells (cx xs) 54)).alloc (.cells #[.complex .f32 0 0, .complex .f32 0 0, .complex .f32 0 0, .complex .f32 0 0] 54)).alloc (.cells #[.complex .f32 0 0, .complex .f32 0 0, .complex .f32 0 0, .complex .f32 0 0] 54))) :=
    Lib.hid (heap_three w _ _ _ rfl xs _ rfl rfl)
  go_loopw [8] (fun i wr => ∃ (k : Nat) (os : List (Nat × Nat)), k ≤ 4 ∧ i = .int .i64 k ∧ Hid (Outs ps os k ∧ TS w xs os wr)) (fun i _ => 4 - (intOf i).toNat)
  case atStart => exact ⟨0, _, Nat.zero_le _, rfl, Lib.hid ⟨Outs.zero ps, HT.out⟩⟩
  case round =>
    obtain ⟨k, os, hk, rfl, HI⟩ := hrel
    by_cases hlt : k < 4
    · have hlt' : (k : Int) < 4 := by omega
      have hk0 : (0 : Int) ≤ (k : Int) := by omega
      obtain ⟨wo, rfl⟩ : ∃ wo : World, wo = wr := ⟨_, rfl⟩
      go_wp2
      go_loopw [11] (fun i wr => ∃ (j : Nat) (u : Nat × Nat), j ≤ 4 ∧ i = .int .i64 j ∧ Hid (GP u (pre ps k j) ∧ TS w xs (os.set k u) wr)) (fun i _ => 4 - (intOf i).toNat)
      case atStart => exact ⟨0, (0, 0), Nat.zero_le _, rfl, Lib.hid ⟨gp_zero, by
        have h0 := HI.out.1.get hlt
        have : os.set k (0, 0) = os := by
          obtain ⟨h1, h2⟩ := List.getElem?_eq_some_iff.1 h0
          rw [← h2, List.set_getElem_self]
        rw [this]; exact HI.out.2⟩⟩
      case round =>
        obtain ⟨j, u, hj, rfl, HJ⟩ := hrel
        by_cases hjl : j < 4
        · have hjl' : (j : Int) < 4 := by omega
          have hj0 : (0 : Int) ≤ (j : Int) := by omega
          have hc1 := HJ.out.2.cell (k := k) (p := u) (by rw [List.getElem?_set_self (by rw [HI.out.1.1]; exact hlt)])
          have hc2 := HJ.out.2.input (k := j) (by rw [HX.out.1]; exact hjl)
          have hfo := HJ.out.2.frozen k
          have hgj := HG.out j hjl
          have hpj : Bd 10000 (ps.getD j (0, 0)) := by rw [List.getD_eq_getElem?_getD, List.getElem?_eq_getElem (show j < ps.length by rw [HX.out.2]; exact hjl)]; exact HBB.out _ (List.getElem_mem _)
          have hkj : k * j ≤ 9 := by
            have := Nat.mul_le_mul (show k ≤ 3 by omega) (show j ≤ 3 by omega)
            omega
          have hc3 : IntKind.i64.wrap (-(k : Int)) = -(k : Int) := by rw [IntKind.wrap_i64]; omega
          have hc4 : IntKind.i64.wrap (-(k : Int) * (j : Int)) = -((k * j : Nat) : Int) := by rw [Int.neg_mul, ← Int.natCast_mul, IntKind.wrap_i64]; omega
          have hrb := rot_bound (B := 10000) (turns4 (-((k * j : Nat) : Int))) (ps.getD j (0, 0)) hpj.1 hpj.2
          have hpre := HPB.out k j
          obtain ⟨r, ha1, ha2, hgr⟩ := gp_add (q := termT (ps.getD j (0, 0)) k j) (v := FP (termT (ps.getD j (0, 0)) k j)) HJ.out.1 ⟨G_F fmt_fine (small_of (by unfold termT; omega)), G_F fmt_fine (small_of (by unfold termT; omega))⟩ (by unfold Bd at hpre ⊢; omega) (by unfold termT Bd; omega)
          have hadd := cadd u.1 u.2 (FP (termT (ps.getD j (0, 0)) k j)).1 (FP (termT (ps.getD j (0, 0)) k j)).2 r.1 r.2 ha1 ha2
          have hcall := fun W => turned_calls (xs.getD j (0, 0)).1 (xs.getD j (0, 0)).2 (ps.getD j (0, 0)).1 (ps.getD j (0, 0)).2 (-((k * j : Nat) : Int)) W hgj.1 hgj.2 (by unfold Bd at hpj; omega) (by unfold Bd at hpj; omega) (by omega)
          rw [show F fmt (rot (turns4 (-((k * j : Nat) : Int))) ((ps.getD j (0, 0)).1, (ps.getD j (0, 0)).2)).1 = (FP (termT (ps.getD j (0, 0)) k j)).1 from rfl, show F fmt (rot (turns4 (-((k * j : Nat) : Int))) ((ps.getD j (0, 0)).1, (ps.getD j (0, 0)).2)).2 = (FP (termT (ps.getD j (0, 0)) k j)).2 from rfl] at hcall
          have HCALL := Lib.hid hcall
          have HNEW : Hid (GP r (pre ps k (j + 1)) ∧ TS w xs (os.set k r) (wr.setCell ⟨w.heap.size + 1 + 1, k, none⟩ (.complex .f32 r.1 r.2)).drew) := Lib.hid ⟨hgr, by have := (HJ.out.2.set k r).drew; rwa [List.set_set] at this⟩
          clear hgj hpj hrb hpre ha1 ha2 hgr hcall
          generalize (FP (termT (ps.getD j (0, 0)) k j)).1 = v1 at *
          generalize (FP (termT (ps.getD j (0, 0)) k j)).2 = v2 at *
          generalize (xs.getD j (0, 0)).1 = x1 at *
          generalize (xs.getD j (0, 0)).2 = x2 at *
          generalize -((k * j : Nat) : Int) = q at *
          clear hkj
          go_wp2
          refine wp_region_still_tail 14 (by kernel_rfl) (by kernel_rfl) ?_
          simp only [List.take_succ_cons, List.take_zero, List.drop_succ_cons, List.drop_zero]
          iterate 11 ((with_reducible refine wpStill_step (fun K hK => ?_)); have HK := Lib.hid hK; clear hK; go_simp; (with_reducible refine HK.out _ ?_); clear HK K)
          ((with_reducible refine wpStill_step (fun K hK => ?_)); have HK := Lib.hid hK; clear hK; go_simp; refine ⟨_, (HCALL.out _).mono (fun e w' h => ⟨h.1, h.2.symm⟩), ?_⟩; (with_reducible refine HK.out _ ?_); clear HK K)
          iterate 2 ((with_reducible refine wpStill_step (fun K hK => ?_)); have HK := Lib.hid hK; clear hK; go_simp; (with_reducible refine HK.out _ ?_); clear HK K)
          (with_reducible refine wpStill_nil ?_)
          go_wp2
          go_roundw
          case rel => exact ⟨j + 1, r, by omega, by go_num, HNEW⟩
          case measure => simp [intOf]; omega
        · obtain rfl : j = 4 := by omega
          have hjl' : ¬ ((4 : Nat) : Int) < 4 := by omega
          have hc1 := HJ.out.2.cell (k := k) (p := u) (by rw [List.getElem?_set_self (by rw [HI.out.1.1]; exact hlt)])
          have hfo := HJ.out.2.frozen k
          have hpre := HPB.out k 4
          have hp1 := plusW_G HJ.out.1.1 (small_of (by unfold Bd at hpre; omega))
          have hp2 := plusW_G HJ.out.1.2 (small_of (by unfold Bd at hpre; omega))
          have hfp : (plusW u.1, plusW u.2) = FP (pre ps k 4) := fp_mk hp1 hp2
          have HNEW : Hid (Outs ps (os.set k (plusW u.1, plusW u.2)) (k + 1) ∧ TS w xs (os.set k (plusW u.1, plusW u.2)) (wr.setCell ⟨w.heap.size + 1 + 1, k, none⟩ (.complex .f32 (plusW u.1) (plusW u.2)))) := Lib.hid ⟨by rw [hfp]; exact HI.out.1.done hlt, by have := HJ.out.2.set k (plusW u.1, plusW u.2); rwa [List.set_set] at this⟩
          clear hpre hp1 hp2 hfp
          go_wp2_with (go_at_call 40; refine (clean_calls u.1 u.2 _).mono ?_; rintro e w' ⟨rfl, rfl⟩)
          go_roundw
          case rel => exact ⟨k + 1, _, by omega, by go_num, HNEW⟩
          case measure => simp [intOf]; omega
    · obtain rfl : k = 4 := by omega
      have hlt' : ¬ ((4 : Nat) : Int) < 4 := by omega
      obtain ⟨hb, _, ⟨z, hz1, hz2⟩, ho⟩ := HI.out.2
      have hos : (cx os).size = 4 := by rw [cx_size, HI.out.1.1]
      have h1c : (cx os).all (·.oneCell') = true := by simp [cx, Array.all_eq_true_iff_forall_mem, Value.oneCell']
      have hfin : os = outT ps := by
        unfold outT
        apply List.ext_getElem?
        intro i
        rcases Nat.lt_or_ge i 4 with q | q
        · rw [HI.out.1.2.1 i q]; simp [q]
        · rw [List.getElem?_eq_none (by rw [HI.out.1.1]; omega)]; simp [q]
      have HF := Lib.hid hfin
      have HZ := Lib.hid (And.intro hb (And.intro hz1 (And.intro hz2 (And.intro ho (And.intro hos h1c)))))
      clear hb hz1 hz2 ho hos h1c hfin
      go_wp2_with (first
        | ((with_reducible change wpList _ _ _ (⟨_, .load 54 (.tmp 5), _, _, _, _⟩ :: _) _ _); go_loud (refine wpList_load_row rfl 54 (.tmp 5) rfl (w.heap.size + 1 + 1) rfl 54 (cx os) (0, 0) _ HZ.out.2.2.2.1 Try.underlying54 rfl (by rw [HZ.out.2.2.2.2.1]; kernel_rfl) ?_))
        | ((with_reducible change wpList _ _ _ (⟨_, .store 54 (.tmp 4) (.tmp 36), _, _, _, _⟩ :: _) _ _); go_loud (refine wpList_store_row rfl 54 (.tmp 4) (.tmp 36) rfl (w.heap.size + 1) (cx os) rfl rfl 54 z HZ.out.2.1 (by rw [HZ.out.2.2.2.2.1]; kernel_rfl) (by rw [HZ.out.2.2.1, HZ.out.2.2.2.2.1]) HZ.out.2.2.2.2.2 ?_)))
      exact bodyPost_ret (results_cell_row rfl _ _ (w.heap.size + 1) 54 (cx os) (0, 0) _ rfl (setRow_heap _ _ _ _ _ _ HZ.out.2.1) Try.underlying54 rfl (by rw [HZ.out.2.2.2.2.1]; kernel_rfl)) rfl ⟨by rw [← HF.out], below_setRow HZ.out.1 (by omega) _⟩
end Go.Proofs.Ytmmhflpeapojgaa
