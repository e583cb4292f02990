import Derived.Test.YtmmhflpeapojgaaQt
import Derived.Deep.MidRow
namespace Go.Proofs.Ytmmhflpeapojgaa
set_option linter.unusedVariables false
set_option linter.unusedSimpArgs false
open Go.RowKit Ieee
attribute [local go_sem] ints_get ints_size ints_getElem

/-- Pairs of whole numbers in a row. -/
def px (l : List (Int × Int)) : Array Value := (l.flatMap fun p => [Value.int .i64 p.1, Value.int .i64 p.2]).toArray
theorem px_size (l : List (Int × Int)) : (px l).size = 2 * l.length := by
  induction l with
  | nil => rfl
  | cons p l ih => simp [px] at ih ⊢; omega
theorem px_get (l : List (Int × Int)) (i : Nat) (hi : i < l.length) : (px l)[i * 2]? = some (.int .i64 (l.getD i (0, 0)).1) ∧ (px l)[i * 2 + 1]? = some (.int .i64 (l.getD i (0, 0)).2) := by
  induction l generalizing i with
  | nil => simp at hi
  | cons p l ih =>
    cases i with
    | zero => simp [px]
    | succ i =>
      have := ih i (by simpa using hi)
      simp only [px, List.getElem?_toArray, List.flatMap_cons, List.cons_append, List.nil_append, List.getD_cons_succ] at this ⊢
      rw [show (i + 1) * 2 = i * 2 + 1 + 1 by omega, show i * 2 + 1 + 1 + 1 = (i * 2 + 1) + 1 + 1 by omega]
      simpa using this
theorem px_one (l : List (Int × Int)) : (px l).all (·.oneCell') = true := by
  rw [Array.all_eq_true_iff_forall_mem]
  intro v hv
  simp only [px, List.mem_toArray, List.mem_flatMap] at hv
  obtain ⟨p, -, hp⟩ := hv
  simp at hp
  rcases hp with rfl | rfl <;> rfl
def RS (w : World) (ps os : List (Int × Int)) (wr : World) : Prop :=
  Below w.heap.size w wr ∧ wr.heap[w.heap.size]? = some (.cells (px ps) 73 (0, 0)) ∧ (∃ z : Array Value, wr.heap[w.heap.size + 1]? = some (.cells z 73 (0, 0)) ∧ z.size = 8) ∧ wr.heap[w.heap.size + 1 + 1]? = some (.cells (px os) 73 (0, 0))
theorem RS.acc {w wr : World} {ps os : List (Int × Int)} (h : RS w ps os wr) {k : Nat} {u : Int × Int} (hk : k < os.length) (hu : os.getD k (0, 0) = u) : ∀ i v, (pcI u)[i]? = some v → wr.cell? ((⟨w.heap.size + 1 + 1, k * 2, none⟩ : Addr).add i) = some v := by
  intro i v hv
  obtain ⟨g1, g2⟩ := px_get os k hk
  rw [add_at, cell_of_row _ _ _ _ _ _ h.2.2.2]
  subst hu
  match i, hv with
  | 0, hv => rw [Nat.add_zero, g1]; exact hv
  | 1, hv => rw [g2]; exact hv
  | i + 2, hv => simp [pcI] at hv
theorem RS.inp {w wr : World} {ps os : List (Int × Int)} (h : RS w ps os wr) {j : Nat} (hj : j < ps.length) : ∀ i v, (pcI (ps.getD j (0, 0)))[i]? = some v → wr.cell? ((⟨w.heap.size, j * 2, none⟩ : Addr).add i) = some v := by
  intro i v hv
  obtain ⟨g1, g2⟩ := px_get ps j hj
  rw [add_at, cell_of_row _ _ _ _ _ _ h.2.1]
  match i, hv with
  | 0, hv => rw [Nat.add_zero, g1]; exact hv
  | 1, hv => rw [g2]; exact hv
  | i + 2, hv => simp [pcI] at hv
theorem RS.below {w wr w1 : World} {ps os : List (Int × Int)} (h : RS w ps os wr) (hb : Below wr.heap.size wr w1) : RS w ps os w1 := by
  obtain ⟨h1, h2, ⟨z, h3, h4⟩, h5⟩ := h
  have l1 := (Array.getElem?_eq_some_iff.1 h2).1
  have l2 := (Array.getElem?_eq_some_iff.1 h3).1
  have l3 := (Array.getElem?_eq_some_iff.1 h5).1
  exact ⟨below_then' h1 hb, (hb.block _ l1).trans h2, ⟨z, (hb.block _ l2).trans h3, h4⟩, (hb.block _ l3).trans h5⟩
theorem px_set (l : List (Int × Int)) (p : Int × Int) (k : Nat) (hk : k < l.length) : ((px l).setIfInBounds (k * 2) (.int .i64 p.1)).setIfInBounds (k * 2 + 1) (.int .i64 p.2) = px (l.set k p) := by
  apply Array.ext'
  simp only [px, List.setIfInBounds_toArray]
  induction l generalizing k with
  | nil => simp at hk
  | cons q l ih =>
    cases k with
    | zero => simp
    | succ k =>
      have := ih k (by simpa using hk)
      rw [show (k + 1) * 2 = k * 2 + 1 + 1 by omega, show k * 2 + 1 + 1 + 1 = (k * 2 + 1) + 1 + 1 by omega]
      simpa using this
theorem RS.put {w wr : World} {ps os : List (Int × Int)} (h : RS w ps os wr) {k : Nat} (hk : k < os.length) (p : Int × Int) : RS w ps (os.set k p) (wr.setCells (w.heap.size + 1 + 1) (k * 2) (pcI p).toList) := by
  obtain ⟨h1, h2, ⟨z, h3, h4⟩, h5⟩ := h
  simp only [pcI, World.setCells]
  refine ⟨(h1.setCell (by simp; omega) _).setCell (by simp; omega) _, ?_, ⟨z, ?_, h4⟩, ?_⟩
  · rw [Below.heap_setCell _ _ _ _ (by simp; omega), Below.heap_setCell _ _ _ _ (by simp; omega)]; exact h2
  · rw [Below.heap_setCell _ _ _ _ (by simp), Below.heap_setCell _ _ _ _ (by simp)]; exact h3
  · rw [← px_set _ _ _ hk]
    simp [World.setCell, Array.getElem?_modify, h5]
theorem RS.there {w wr : World} {ps os : List (Int × Int)} (h : RS w ps os wr) {k : Nat} (hk : k < os.length) : wr.there (w.heap.size + 1 + 1) (k * 2) 2 := by
  intro j hj
  have hs := px_size os
  refine ⟨?_, by simp [World.frozen?, h.2.2.2]⟩
  rw [cell_of_row _ _ _ _ _ _ h.2.2.2, Array.getElem?_eq_getElem (by omega)]
  rfl
theorem wpQuiet_end {P : Program} {ops : Array Oper} {C : World → Prop} {Q : Exit → Act → World → Prop} {l : List Oper} {w : World} {a : Act} (h : ∀ w', Below w.heap.size w w' → wpList P ops Q l a w') : wpQuiet P ops C (fun a' => ∀ w', Below w.heap.size w w' → wpList P ops Q l a' w') [] a := h
/-- The state of the sums: those before k are done. -/
def OutI (ps os : List (Int × Int)) (k : Nat) : Prop := os.length = 4 ∧ (∀ i, i < k → os[i]? = some (pre ps i 4)) ∧ ∀ i, k ≤ i → i < 4 → os[i]? = some (0, 0)
theorem OutI.zero (ps : List (Int × Int)) : OutI ps [(0, 0), (0, 0), (0, 0), (0, 0)] 0 := ⟨rfl, fun i h => absurd h (by omega), fun i _ h => by
  match i, h with
  | 0, _ => rfl
  | 1, _ => rfl
  | 2, _ => rfl
  | 3, _ => rfl⟩
theorem OutI.start {ps os : List (Int × Int)} {k : Nat} (h : OutI ps os k) (hk : k < 4) : os.set k (0, 0) = os := by
  obtain ⟨h1, h2⟩ := List.getElem?_eq_some_iff.1 (h.2.2 k (Nat.le_refl _) hk)
  rw [← h2, List.set_getElem_self]
theorem OutI.done {ps os : List (Int × Int)} {k : Nat} (h : OutI ps os k) (hk : k < 4) : OutI ps (os.set k (pre ps k 4)) (k + 1) := by
  refine ⟨by rw [List.length_set]; exact h.1, fun i hi => ?_, fun i hi h4 => ?_⟩
  · rcases Nat.lt_or_ge i k with q | q
    · rw [List.getElem?_set_ne (by omega)]; exact h.2.1 i q
    · obtain rfl : i = k := by omega
      rw [List.getElem?_set_self (by rw [h.1]; omega)]
  · rw [List.getElem?_set_ne (by omega)]; exact h.2.2 i (by omega) h4
theorem OutI.fin {ps os : List (Int × Int)} (h : OutI ps os 4) : os = (List.range 4).map fun k => pre ps k 4 := by
  apply List.ext_getElem?
  intro i
  rcases Nat.lt_or_ge i 4 with q | q
  · rw [h.2.1 i q]; simp [q]
  · rw [List.getElem?_eq_none (by rw [h.1]; omega)]; simp [q]
theorem RS.start (w : World) (ps : List (Int × Int)) (z : Array Value) (hz : z = px [(0, 0), (0, 0), (0, 0), (0, 0)]) : RS w ps [(0, 0), (0, 0), (0, 0), (0, 0)] (((w.alloc (.cells (px ps) 73)).alloc (.cells z 73)).alloc (.cells z 73)) := by
  subst hz
  obtain ⟨h1, h2, h3⟩ := heap3 w (.cells (px ps) 73) (.cells (px [(0, 0), (0, 0), (0, 0), (0, 0)]) 73) (.cells (px [(0, 0), (0, 0), (0, 0), (0, 0)]) 73)
  exact ⟨(((Below.refl _ _).alloc (Nat.le_refl _) _).alloc (by simp) _).alloc (by simp; omega) _, h3, ⟨_, h1, by rw [px_size]; rfl⟩, h2⟩
set_option maxHeartbeats 2000000 in
theorem rsums_calls (ps : List (Int × Int)) (hp : ps.length = 4) (hb : ∀ p ∈ ps, Bd 10000 p) (w : World) :
    Calls Try.prog 30 #[.agg (px ps), .int .i64 (-1)] w fun e w' => e = .returned (.agg (px ((List.range 4).map fun k => pre ps k 4))) ∧ Below w.heap.size w w' := by
  have HX := Lib.hid hp
  have HBB := Lib.hid hb
  have hps : (px ps).size = 8 := by rw [px_size, hp]
  have HPS := Lib.hid hps
  have HPB := Lib.hid (fun k => pre_bound hb (by omega) k)
  clear hp hb hps
  have HRS := Lib.hid (RS.start w ps #[.int .i64 0, .int .i64 0, .int .i64 0, .int .i64 0, .int .i64 0, .int .i64 0, .int .i64 0, .int .i64 0] rfl)
  go_enter Try.func30, Try.ntmps30
  go_wp2
  go_loopw [6] (fun i wr => ∃ (k : Nat) (os : List (Int × Int)), k ≤ 4 ∧ i = .int .i64 k ∧ Hid (OutI ps os k ∧ RS w ps os wr)) (fun i _ => 4 - (intOf i).toNat)
  case atStart => exact ⟨0, _, Nat.zero_le _, rfl, Lib.hid ⟨OutI.zero ps, HRS.out⟩⟩
  case round =>
    obtain ⟨k, os, hk, rfl, HI⟩ := hrel
    by_cases hlt : k < 4
    · have hlt' : (k : Int) < 4 := by omega
      have hk0 : (0 : Int) ≤ (k : Int) := by omega
      obtain ⟨wo, rfl⟩ : ∃ wo : World, wo = wr := ⟨_, rfl⟩
      go_wp2
      go_loopw [7] (fun i wr => ∃ (j : Nat) (u : Int × Int), j ≤ 4 ∧ i = .int .i64 j ∧ Hid (u = pre ps k j ∧ RS w ps (os.set k u) wr)) (fun i _ => 4 - (intOf i).toNat)
      case atStart => exact ⟨0, (0, 0), Nat.zero_le _, rfl, Lib.hid ⟨rfl, by rw [HI.out.1.start hlt]; exact HI.out.2⟩⟩
      case round =>
        obtain ⟨j, u, hj, rfl, HJ⟩ := hrel
        by_cases hjl : j < 4
        · have hjl' : (j : Int) < 4 := by omega
          have hj0 : (0 : Int) ≤ (j : Int) := by omega
          have hpj : Bd 10000 (ps.getD j (0, 0)) := by rw [List.getD_eq_getElem?_getD, List.getElem?_eq_getElem (show j < ps.length by rw [HX.out]; exact hjl)]; exact HBB.out _ (List.getElem_mem _)
          have hkj : k * j ≤ 9 := by
            have := Nat.mul_le_mul (show k ≤ 3 by omega) (show j ≤ 3 by omega)
            omega
          have hpre := HPB.out k j
          rw [← HJ.out.1] at hpre
          have HC1 := Lib.hid (HJ.out.2.acc (k := k) (u := u) (by rw [List.length_set, HI.out.1.1]; exact hlt) (by rw [List.getD_eq_getElem?_getD, List.getElem?_set_self (by rw [HI.out.1.1]; exact hlt)]; rfl))
          have HC2 := Lib.hid (HJ.out.2.inp (j := j) (by rw [HX.out]; exact hjl))
          have hrb := rot_bound (B := 10000) (turns4 (-((k * j : Nat) : Int))) (ps.getD j (0, 0)) hpj.1 hpj.2
          have hc3 : IntKind.i64.wrap (-1 * (k : Int)) = -(k : Int) := by rw [IntKind.wrap_i64]; omega
          have hc3' : IntKind.i64.wrap (-(k : Int)) = -(k : Int) := by rw [IntKind.wrap_i64]; omega
          have hc4 : IntKind.i64.wrap (-(k : Int) * (j : Int)) = -((k * j : Nat) : Int) := by rw [Int.neg_mul, ← Int.natCast_mul, IntKind.wrap_i64]; omega
          have HT : Hid (∀ W, Calls Try.prog 42 #[.agg (pcI (ps.getD j (0, 0))), .int .i64 (-((k * j : Nat) : Int))] W fun e w' => e = .returned (.agg (pcI (termT (ps.getD j (0, 0)) k j))) ∧ Below W.heap.size W w') := Lib.hid (fun W => by
            unfold Bd at hpj
            exact rturned_calls (ps.getD j (0, 0)).1 (ps.getD j (0, 0)).2 _ W (by omega) (by omega) (by omega))
          have HP : Hid (∀ W, Calls Try.prog 41 #[.agg (pcI u), .agg (pcI (termT (ps.getD j (0, 0)) k j))] W fun e w' => e = .returned (.agg (pcI (pre ps k (j + 1)))) ∧ Below W.heap.size W w') := Lib.hid (fun W => by
            have := rplus_calls u.1 u.2 (termT (ps.getD j (0, 0)) k j).1 (termT (ps.getD j (0, 0)) k j).2 W (by unfold Bd at hpre; omega) (by unfold Bd at hpre; omega) (by unfold termT; omega) (by unfold termT; omega)
            rw [HJ.out.1] at this ⊢
            exact this)
          clear hpj hpre hrb
          generalize termT (ps.getD j (0, 0)) k j = t at *
          generalize ps.getD j (0, 0) = x at *
          generalize -((k * j : Nat) : Int) = q at *
          clear hkj
          go_wp2
          refine wp_region_quiet_tail 14 (by kernel_rfl) (by kernel_rfl) ?_
          simp only [List.take_succ_cons, List.take_zero, List.drop_succ_cons, List.drop_zero]
          repeat (first
            | ((with_reducible change wpQuiet _ _ _ _ (⟨_, .load 72 (.tmp 18), _, _, _, _⟩ :: _) _); refine wpQuiet_load_cells rfl 72 (.tmp 18) rfl ⟨w.heap.size + 1 + 1, k * 2, none⟩ rfl (pcI u) _ HC1.out Try.underlying72 rfl (by kernel_rfl) rfl ?_)
            | ((with_reducible change wpQuiet _ _ _ _ (⟨_, .load 72 (.tmp 21), _, _, _, _⟩ :: _) _); refine wpQuiet_load_cells rfl 72 (.tmp 21) rfl ⟨w.heap.size, j * 2, none⟩ rfl (pcI x) _ HC2.out Try.underlying72 rfl (by kernel_rfl) rfl ?_)
            | quiet_step (first
              | (go_at_call 42; with_reducible exact (HT.out _).regrown_of)
              | (go_at_call 41; with_reducible exact (HP.out _).regrown_of)))
          with_reducible apply wpQuiet_end
          intro w1 hb1
          have HN := Lib.hid ((HJ.out.2.below hb1).put (k := k) (by rw [List.length_set, HI.out.1.1]; exact hlt) (pre ps k (j + 1)))
          rw [List.set_set] at HN
          have HTH := Lib.hid ((HJ.out.2.below hb1).there (k := k) (by rw [List.length_set, HI.out.1.1]; exact hlt))
          go_wp2_with ((with_reducible change wpList _ _ _ (⟨_, .store 72 (.tmp 30) (.tmp 29), _, _, _, _⟩ :: _) _ _); refine wpList_store_mid rfl 72 (.tmp 30) (.tmp 29) rfl (w.heap.size + 1 + 1) (k * 2) (pcI (pre ps k (j + 1))) rfl rfl HTH.out (by kernel_rfl) (pcI_one _) ?_)
          go_roundw
          case rel => exact ⟨j + 1, _, by omega, by go_num, Lib.hid ⟨rfl, HN.out⟩⟩
          case measure => simp [intOf]; omega
        · obtain rfl : j = 4 := by omega
          have hjl' : ¬ ((4 : Nat) : Int) < 4 := by omega
          have HN : Hid (OutI ps (os.set k u) (k + 1) ∧ RS w ps (os.set k u) wr) := Lib.hid ⟨by rw [HJ.out.1]; exact HI.out.1.done hlt, HJ.out.2⟩
          go_wp2
          go_roundw
          case rel => exact ⟨k + 1, _, by omega, by go_num, HN⟩
          case measure => simp [intOf]; omega
    · obtain rfl : k = 4 := by omega
      have hlt' : ¬ ((4 : Nat) : Int) < 4 := by omega
      obtain ⟨hb, _, ⟨z, hz1, hz2⟩, ho⟩ := HI.out.2
      have hos : (px os).size = 8 := by rw [px_size, HI.out.1.1]
      have HF := Lib.hid HI.out.1.fin
      have HZ := Lib.hid (And.intro hb (And.intro hz1 (And.intro hz2 (And.intro ho (And.intro hos (px_one os))))))
      clear hb hz1 hz2 ho hos
      go_wp2_with (first
        | ((with_reducible change wpList _ _ _ (⟨_, .load 73 (.tmp 5), _, _, _, _⟩ :: _) _ _); go_loud (refine wpList_load_row rfl 73 (.tmp 5) rfl (w.heap.size + 1 + 1) rfl 73 (px os) (0, 0) _ HZ.out.2.2.2.1 Try.underlying73 rfl (by rw [HZ.out.2.2.2.2.1]; kernel_rfl) ?_))
        | ((with_reducible change wpList _ _ _ (⟨_, .store 73 (.tmp 4) (.tmp 31), _, _, _, _⟩ :: _) _ _); go_loud (refine wpList_store_row rfl 73 (.tmp 4) (.tmp 31) rfl (w.heap.size + 1) (px os) rfl rfl 73 z HZ.out.2.1 (by rw [HZ.out.2.2.2.2.1]; kernel_rfl) (by rw [HZ.out.2.2.1, HZ.out.2.2.2.2.1]) HZ.out.2.2.2.2.2 ?_)))
      exact bodyPost_ret (results_cell_row rfl _ _ (w.heap.size + 1) 73 (px os) (0, 0) _ rfl (setRow_heap _ _ _ _ _ _ HZ.out.2.1) Try.underlying73 rfl (by rw [HZ.out.2.2.2.2.1]; kernel_rfl)) rfl ⟨by rw [HF.out]; rfl, below_setRow HZ.out.1 (by omega) _⟩
end Go.Proofs.Ytmmhflpeapojgaa
