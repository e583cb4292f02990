import Derived.Test.YtmmhflpeapojgaaB2
import Derived.Deep.DeepCutAuto
namespace Go.Proofs.Ytmmhflpeapojgaa
set_option linter.unusedVariables false
set_option linter.unusedSimpArgs false
open Go.RowKit Ieee
attribute [local go_sem] ints_get ints_size ints_getElem

/-- A value of an array of one-cell elements is indexed. -/
theorem run_index_one {P : Program} (w : World) (T E : TypeId) (n : Nat) (cs : Array Value) (d : TypeDesc) (v : Value) (i : Nat) (hl : cs.size = n) (h1 : i < n) (hv : cs[i]? = some v) (hT : P.underlying T = some (.array n E)) (hE : P.underlying E = some d)
    (hd : (match d with | .struct _ | .array _ _ => true | _ => false) = false) (hs : (P.info? E).map (·.size) = some 1) :
    (Instr.index T (.agg cs) (.int .i64 (i : Int))).run P w = .ok v w := by
  cases hq : P.info? E with
  | none => simp [hq] at hs
  | some u =>
    have hu : u.size = 1 := by simpa [hq] using hs
    have hagg : (isAgg E).run P w = .ok false w := by
      unfold isAgg
      rw [Sem.run_bind, run_underlying hE w]
      cases d <;> simp_all
    have h1' : (i : Int) < (n : Int) := by omega
    have h1'' : ¬ n ≤ i := by omega
    simp [Instr.index, asIntOf, run_underlying hT, h1, h1', h1'', part, sizeOf, typeInfo, hq, hu, hagg, hv]

set_option maxHeartbeats 2000000 in
theorem transform_good (xs : List (Nat × Nat)) (ps : List (Int × Int)) (hx : xs.length = 4) (hp : ps.length = 4) (hg : ∀ i, i < 4 → GP (xs.getD i (0, 0)) (ps.getD i (0, 0))) (hb : ∀ p ∈ ps, Bd 2047 p) (w : World) :
    Calls Try.prog 20 #[.agg (cx xs)] w fun e w' => e = .returned (.tuple #[.agg (cx (outT ps)), .int .i64 0]) ∧ Below w.heap.size w w' := by
  have hcs : (cx xs).size = 4 := by rw [cx_size, hx]
  have hcs54 : (Try.prog.info? 54).map (·.size) = some (cx xs).size := by rw [hcs]; kernel_rfl
  have hone : (cx (outT ps)).all (·.oneCell') = true := by simp [cx, Array.all_eq_true_iff_forall_mem, Value.oneCell']
  have hos : (cx (outT ps)).size = 4 := by rw [cx_size]; rfl
  have hos54 : (Try.prog.info? 54).map (·.size) = some (cx (outT ps)).size := by rw [hos]; kernel_rfl
  have HB10 := Lib.hid (fun p hp' => (show Bd 10000 p from by have := hb p hp'; unfold Bd at *; omega))
  have HG := Lib.hid hg
  have HBB := Lib.hid hb
  have HX := Lib.hid (And.intro hx hp)
  have HS := Lib.hid (And.intro hcs (And.intro hcs54 (And.intro hone (And.intro hos hos54))))
  have HH0 := Lib.hid (heap_alloc_new w (.cells (cx xs) 54))
  clear hg hb hx hp hcs hcs54 hone hos hos54
  have HH1 : Hid (((w.alloc (.cells (cx xs) 54)).alloc (.cells #[.complex .f32 0 0, .complex .f32 0 0, .complex .f32 0 0, .complex .f32 0 0] 54)).heap[w.heap.size]? = some (.cells (cx xs) 54 (0, 0)) ∧ ((w.alloc (.cells (cx xs) 54)).alloc (.cells #[.complex .f32 0 0, .complex .f32 0 0, .complex .f32 0 0, .complex .f32 0 0] 54)).heap[w.heap.size + 1]? = some (.cells #[.complex .f32 0 0, .complex .f32 0 0, .complex .f32 0 0, .complex .f32 0 0] 54 (0, 0))) :=
    Lib.hid ⟨heap_alloc2_old _ _ _, heap_alloc2_new _ _ _⟩
  have HB : Hid (Below w.heap.size w ((w.alloc (.cells (cx xs) 54)).alloc (.cells #[.complex .f32 0 0, .complex .f32 0 0, .complex .f32 0 0, .complex .f32 0 0] 54))) := Lib.hid (((Below.refl _ _).alloc (Nat.le_refl _) _).alloc (by simp) _)
  go_enter Try.func20, Try.ntmps20
  go_wp2_with (first
    | ((with_reducible change wpList _ _ _ (⟨_, .load 54 (.tmp 1), _, _, _, _⟩ :: _) _ _); go_loud (refine wpList_load_row rfl 54 (.tmp 1) rfl w.heap.size rfl 54 (cx xs) (0, 0) _ HH1.out.1 Try.underlying54 rfl HS.out.2.1 ?_)))
  generalize ((w.alloc (.cells (cx xs) 54)).alloc (.cells #[.complex .f32 0 0, .complex .f32 0 0, .complex .f32 0 0, .complex .f32 0 0] 54)) = W0 at *
  go_loop [7] (fun i => ∃ k : Nat, k ≤ 4 ∧ i = .int .i64 k) (fun i => 4 - (intOf i).toNat)
  case atStart => exact ⟨0, Nat.zero_le _, rfl⟩
  case round =>
    obtain ⟨k, hk, rfl⟩ := hrel
    by_cases hlt : k < 4
    · have hlt' : (k : Int) < 4 := by omega
      have hgk := HG.out k hlt
      have hpk : Bd 2047 (ps.getD k (0, 0)) := by rw [List.getD_eq_getElem?_getD, List.getElem?_eq_getElem (show k < ps.length by rw [HX.out.2]; exact hlt)]; exact HBB.out _ (List.getElem_mem _)
      have hidx := fun W => run_index_one (P := Try.prog) W 54 53 4 (cx xs) _ (.complex .f32 (xs.getD k (0, 0)).1 (xs.getD k (0, 0)).2) k HS.out.1 hlt (by rw [cx_get, List.getD_eq_getElem?_getD, List.getElem?_eq_getElem (show k < xs.length by rw [HX.out.1]; exact hlt)]; rfl) Try.underlying54 Try.underlying53 rfl (by kernel_rfl)
      have HC := Lib.hid (fun W => isComplex_true (xs.getD k (0, 0)) (ps.getD k (0, 0)) W hgk hpk)
      clear hgk hpk
      generalize (xs.getD k (0, 0)).1 = x1 at *
      generalize (xs.getD k (0, 0)).2 = x2 at *
      go_wp2_with (go_at_call 35; go_loud (refine (HC.out _).mono ?_; rintro e w' ⟨rfl, rfl⟩))
      go_round
      case rel => exact ⟨k + 1, by omega, by go_num⟩
      case measure => simp [intOf]; omega
    · obtain rfl : k = 4 := by omega
      have hge : ¬ ((4 : Nat) : Int) < 4 := by omega
      go_wp2_with (first
        | ((with_reducible change wpList _ _ _ (⟨_, .load 54 (.tmp 1), _, _, _, _⟩ :: _) _ _); go_loud (refine wpList_load_row rfl 54 (.tmp 1) rfl w.heap.size rfl 54 (cx xs) (0, 0) _ HH1.out.1 Try.underlying54 rfl HS.out.2.1 ?_))
        | (go_at_call 29; go_loud (refine (turns_calls xs ps HX.out.1 HX.out.2 HG.out HB10.out _).mono ?_; rintro e w5 ⟨rfl, hd⟩; have HB5 := Lib.hid (below_then' HB.out hd); have HH5 := Lib.hid (heap_kept HH1.out.2 hd); clear hd))
        | ((with_reducible change wpList _ _ _ (⟨_, .store 54 (.tmp 2) (.tmp 16), _, _, _, _⟩ :: _) _ _); go_loud (refine wpList_store_row rfl 54 (.tmp 2) (.tmp 16) rfl (w.heap.size + 1) (cx (outT ps)) rfl rfl 54 _ HH5.out HS.out.2.2.2.2 (by rw [HS.out.2.2.2.1]; rfl) HS.out.2.2.1 ?_)))
      refine bodyPost_ret (results_cell_tmp_row rfl _ _ (w.heap.size + 1) 54 _ (0, 0) _ rfl (setRow_heap _ _ _ _ _ _ HH5.out) Try.underlying54 rfl HS.out.2.2.2.2) rfl ?_
      exact ⟨rfl, below_setRow HB5.out (by omega) _⟩
end Go.Proofs.Ytmmhflpeapojgaa
