import Derived.Test.YtbojagkalbfenaasG4
import Derived.Lib.SlBytesConst
namespace Go.Proofs.Ytbojagkalbfenaa
open Go.RowKit PIovSlices Go.Proofs.YtbojagkalbfenaaW.PrintWords
attribute [local go_sem] ints_get ints_size ints_getElem
theorem heap_kept {w w1 : World} {g : Nat} {o : Obj} (h : w.heap[g]? = some o) (hb : Below w.heap.size w w1) : w1.heap[g]? = some o :=
  (hb.block g (Array.getElem?_eq_some_iff.1 h).1).trans h

theorem str5 : strOfNums [101, 102, 98, 99, 100] = ⟨#[101, 102, 98, 99, 100]⟩ := by rfl
theorem conv_row {W : World} {base g cap : Nat} (h : W.ownsRow base 5 1 (.slice (some ⟨g, 0, none⟩) 5 cap) 5 [.int .u8 101, .int .u8 102, .int .u8 98, .int .u8 99, .int .u8 100]) :
    (convert 22 9 (.slice (some ⟨g, 0, none⟩) 5 cap)).run Try.prog W = .ok (.string ⟨#[101, 102, 98, 99, 100]⟩) W := by
  rw [← str5]
  refine run_convert_bytes_arg (P := Try.prog) W 22 5 Try.underlying22 Try.underlying5 g 0 5 cap [101, 102, 98, 99, 100] rfl (fun i hi => ?_) 9 Try.underlying9
  have := h.cells (g := g) rfl i (.int .u8 (([101, 102, 98, 99, 100] : List Int).getD i 0)) (by match i, hi with | 0, _ => rfl | 1, _ => rfl | 2, _ => rfl | 3, _ => rfl | 4, _ => rfl)
  rwa [add_at] at this
set_option maxRecDepth 100000 in
theorem awake_calls (w : World) : Calls Try.prog 11 #[] w fun e w' => e = .returned (.bool true) ∧ Below w.heap.size w w' := by
  go_enter Try.func11, Try.ntmps11
  have h0 := heap_alloc_new w (.cells #[.int .i64 4, .int .i64 2, .int .i64 0, .int .i64 0, .int .i64 1, .int .i64 3] 44)
  have hs : w.heap.size < (w.alloc (.cells #[.int .i64 4, .int .i64 2, .int .i64 0, .int .i64 0, .int .i64 1, .int .i64 3] 44)).heap.size := by simp
  have HB := Lib.hid ((Below.refl w.heap.size w).alloc (Nat.le_refl _) (.cells #[.int .i64 4, .int .i64 2, .int .i64 0, .int .i64 0, .int .i64 1, .int .i64 3] 44))
  have HF := Lib.hid h0
  clear h0
  go_wp2_with (first
    | (go_at_call 18; refine (length3 _ _ (V3 HF.out)).mono ?_; rintro e w1 ⟨rfl, hb1⟩; have HF1 := Lib.hid (heap_kept HF.out hb1); replace HB := Lib.hid (below_then' HB.out hb1); have hs1 := Nat.lt_of_lt_of_le hs hb1.size; have hcv := Lib.run_convert_bytes_const (P := Try.prog) w1 22 5 #[.int .u8 97, .int .u8 98, .int .u8 99, .int .u8 100, .int .u8 101, .int .u8 102, .int .u8 103, .int .u8 104] 8 8 Try.underlying22 Try.underlying5; clear hb1)
    | (go_at_call 12; refine (gather3 _ _ _ (mem_abc (heap_alloc_new _ _)) (V3 (by rw [Below.heap_alloc _ _ _ (by omega)]; exact HF1.out)) (by simp; omega)).mono ?_; rintro e w2 ⟨v, rfl, ho, hb2⟩; obtain ⟨g', cap', rfl⟩ := ownsRow_pos ho (by omega); have hcs := conv_row ho; replace HB := Lib.hid (below_then' (HB.out.alloc HB.out.size _) hb2); clear hb2))
  go_ret
  exact ⟨rfl, HB.out⟩
end Go.Proofs.Ytbojagkalbfenaa
