import Derived.Test.YtbojagkalbfenaaH1
namespace Go.Proofs.Ytbojagkalbfenaa
set_option linter.unusedVariables false
set_option linter.unusedSimpArgs false
open Go.RowKit PIovGather Go.Proofs.YtbojagkalbfenaaW.PrintWords
attribute [local go_sem] ints_get ints_size ints_getElem

/-- The zeros. -/
theorem header_small (A : Option Addr) (cap : Nat) (ds : List Int) (w : World) (h16 : ds.length < 16) :
    Calls Try.prog 17 #[.slice A ds.length cap] w fun e w' => e = .returned (.tuple #[.agg z16.toArray, .slice none 0 0, .bool false]) ∧ Below w.heap.size w w' := by
  go_enter Try.func17, Try.ntmps17
  go_wp2
  refine bodyPost_ret (results_cell_two rfl _ _ w.heap.size z16 _ rfl ?_ Try.underlying33 rfl (by kernel_rfl)) rfl ⟨rfl, (Below.refl _ _).alloc (Nat.le_refl _) _⟩
  exact rangeAt_new w _ _

set_option maxHeartbeats 1000000 in
set_option maxRecDepth 100000 in
theorem header_eq (b o cap : Nat) (ds : List Int) (w : World) (hC : Kd.C (Kd.int .u8) w (some ⟨b, o, none⟩) ds.length ds) (hc : ds.length ≤ cap) (hm : cap ≤ 9223372036854775807) (h16 : ds.length = 16) :
    Calls Try.prog 17 #[.slice (some ⟨b, o, none⟩) 16 cap] w fun e w' => e = .returned (.tuple #[.agg (byts (ds.take 16)).toArray, .slice none 0 0, .bool true]) ∧ Below w.heap.size w w' := by
  have hr : w.rangeAt b o (byts (ds.take 16)) := by
    have := rangeAt_byts (k := 0) (m := 16) hC
    simpa [byts, List.map_take] using this
  have HR := Lib.hid hr
  have H16 := Lib.hid h16
  have hcc : 16 ≤ cap := by omega
  clear hr h16 hC hc
  go_enter Try.func17, Try.ntmps17
  go_wp2
  have hu := Try.underlying33
  have hi : (Try.prog.info? 33).map (·.size) = some (byts (ds.take 16)).length := by
    rw [show (byts (ds.take 16)).length = 16 by simp [byts, H16.out]]; kernel_rfl
  have harr : ∀ W, (Instr.arrayAt 33 (.slice (some ⟨b, o, none⟩) 16 cap)).run Try.prog W = .ok (.pointer (some ⟨b, o, none⟩)) W := fun W => run_arrayAt W 33 5 16 _ 16 cap Try.underlying33 (by omega)
  have hlen : (byts (ds.take 16)).length = 16 := by simp [byts, H16.out]
  have hbw : b < w.heap.size := by
    have := World.block_lt_of_cell? _ _ (HR.out 0 _ (List.getElem?_eq_getElem (by simp [byts, H16.out])))
    exact this
  have hr1 : (w.alloc (.cells z16.toArray 33)).rangeAt b o (byts (ds.take 16)) := fun j v hj => by
    have := HR.out j v hj
    rw [World.cell?_alloc_lt _ _ _ (World.block_lt_of_cell? _ _ this)]; exact this
  obtain ⟨A', hA'⟩ : ∃ A', (if cap = 16 then some (⟨b, o, none⟩ : Addr) else some ⟨b, o + 16, none⟩) = A' := ⟨_, rfl⟩
  refine wp_region_heads 6 (fun w' => w'.rangeAt b o (byts (ds.take 16))) [.slice (some ⟨b, o, none⟩) 16 cap, .pointer (some ⟨b, o, none⟩), .agg (byts (ds.take 16)).toArray, .slice (some ⟨b, o, none⟩) 16 cap, .slice A' 0 (cap - 16), .slice none 0 0] (by kernel_rfl) (by kernel_rfl) (fun c d v a w h => by cases d <;> exact h) ((World.rangeAt_drew _ _ _ _).2 hr1) ?heads ?_
  case heads =>
    simp only [List.take_succ_cons, List.take_zero]
    refine ⟨.inl ⟨rfl, fun w _ => ?_⟩, .inl ⟨rfl, fun w _ => ?_⟩, yieldsIf_load_mid (by rfl) _ _ rfl b o rfl _ _ (fun w hw => hw) hu rfl hi, .inl ⟨rfl, fun w _ => ?_⟩, .inl ⟨rfl, fun w _ => ?_⟩, .inl ⟨rfl, fun w _ => ?_⟩, trivial⟩
    · show (execOp _ _).run Try.prog w = _; go_simp
    · show (execOp _ _).run Try.prog w = _; go_simp
    · show (execOp _ _).run Try.prog w = _; go_simp
    · show (execOp _ _).run Try.prog w = _
      go_simp
    · show (execOp _ _).run Try.prog w = _
      cases A' <;> go_simp
  simp only [List.take_succ_cons, List.take_zero, List.drop_succ_cons, List.drop_zero, putAll, Act.put, List.setIfInBounds_toArray, List.set_cons_zero, List.set_cons_succ]
  have hz2 := heap_alloc_new w (.cells z16.toArray 33)
  refine wpListS_cons fun K hK => ?_
  refine step_store_mid (by rfl) _ _ _ (by rfl) w.heap.size 0 (byts (ds.take 16)).toArray (by rfl) (by rfl) (there_row hz2 (by simp [hlen, z16])) (by rw [List.size_toArray]; exact hi) (byts_one _) ?_
  have hr3 : ((w.alloc (.cells z16.toArray 33)).drew.setCells w.heap.size 0 (byts (ds.take 16))).rangeAt b o (byts (ds.take 16)) := rangeAt_far ((World.rangeAt_drew _ _ _ _).2 hr1) (by omega)
  refine hK _ _ hr3 ?_
  simp only [Act.put, List.setIfInBounds_toArray, List.set_cons_zero, List.set_cons_succ]
  refine wpListS_yields _ [.slice none 0 0, .bool true] _ _ hr3 ⟨.inl ⟨rfl, fun w _ => ?_⟩, .inl ⟨rfl, fun w _ => ?_⟩, trivial⟩ ?_
  · show (execOp _ _).run Try.prog w = _; go_simp
  · show (execOp _ _).run Try.prog w = _; go_simp
  simp only [putAll, Act.put, List.setIfInBounds_toArray, List.set_cons_zero, List.set_cons_succ]
  clear hK K
  go_wp2
  refine bodyPost_ret (results_cell_two rfl _ _ w.heap.size (byts (ds.take 16)) _ rfl (World.rangeAt_setCells_same _ _ _ _ (there_row hz2 (by simp [hlen, z16]))) hu rfl hi) rfl ⟨rfl, below_setCells ?_ (Nat.le_refl _)⟩
  exact ((Below.refl _ _).alloc (Nat.le_refl _) _).drew
end Go.Proofs.Ytbojagkalbfenaa
