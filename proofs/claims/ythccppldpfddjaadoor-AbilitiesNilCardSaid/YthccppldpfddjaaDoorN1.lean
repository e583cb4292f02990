/- What the methods answer on nil. -/
import Derived.Test.YthccppldpfddjaaDoorD6
namespace Go.Proofs.YthccppldpfddjaaDoor
open Go.RowKit
set_option linter.unusedVariables false
theorem nil59 (k : Int) (w : World) : Calls Tryd.prog 59 #[.pointer none, .int .i64 k] w fun e w' => e = .returned (.tuple #[.pointer none, .int .i64 35]) ∧ Below w.heap.size w w' := by
  go_enter Tryd.func59, Tryd.ntmps59
  go_wp2
  go_ret2
  exact ⟨rfl, Below.refl _ _⟩
theorem nil60 (k n : Int) (w : World) : Calls Tryd.prog 60 #[.pointer none, .int .i64 k, .int .i64 n] w fun e w' => e = .returned (.tuple #[.pointer none, .int .i64 35]) ∧ Below w.heap.size w w' := by
  go_enter Tryd.func60, Tryd.ntmps60
  go_wp2_with (go_at_call 59; refine (nil59 k w).mono ?_; rintro e w1 ⟨rfl, h1⟩; have H1 := Lib.hid h1; clear h1)
  go_ret2
  exact ⟨rfl, H1.out⟩
theorem nil27 (k n : Int) (w : World) : Calls Tryd.prog 27 #[.pointer none, .bool true, .int .i64 k, .int .i64 n, .int .i64 n] w fun e w' => e = .returned (.int .i64 35) ∧ Below w.heap.size w w' := by
  go_enter Tryd.func27, Tryd.ntmps27
  go_wp2_with (go_at_call 59; refine (nil59 k w).mono ?_; rintro e w1 ⟨rfl, h1⟩; have H1 := Lib.hid h1; clear h1)
  go_ret
  exact ⟨rfl, H1.out⟩
theorem nil29 (k n : Int) (w : World) : Calls Tryd.prog 29 #[.pointer none, .int .i64 k, .int .i64 n] w fun e w' => e = .returned (.int .i64 35) ∧ Below w.heap.size w w' := by
  go_enter Tryd.func29, Tryd.ntmps29
  go_wp2_with (go_at_call 60; refine (nil60 k n w).mono ?_; rintro e w1 ⟨rfl, h1⟩; have H1 := Lib.hid h1; clear h1)
  go_ret
  exact ⟨rfl, H1.out⟩
theorem nil31 (k n : Int) (w : World) : Calls Tryd.prog 31 #[.pointer none, .int .i64 k, .int .i64 n] w fun e w' => e = .returned (.int .i64 35) ∧ Below w.heap.size w w' := by
  go_enter Tryd.func31, Tryd.ntmps31
  go_wp2_with (go_at_call 60; refine (nil60 k n w).mono ?_; rintro e w1 ⟨rfl, h1⟩; have H1 := Lib.hid h1; clear h1)
  go_ret
  exact ⟨rfl, H1.out⟩
theorem nil33 (w : World) : Calls Tryd.prog 33 #[.pointer none] w fun e w' => e = .returned (.pointer none) ∧ Below w.heap.size w w' := by
  go_enter Tryd.func33, Tryd.ntmps33
  go_wp2
  go_ret
  exact ⟨rfl, Below.refl _ _⟩
theorem nil35 (k : Int) (w : World) : Calls Tryd.prog 35 #[.pointer none, .int .i64 k] w fun e w' => e = .returned (.tuple #[.int .i64 0, .int .i64 0, .int .i64 0, .int .i64 35]) ∧ Below w.heap.size w w' := by
  go_enter Tryd.func35, Tryd.ntmps35
  go_wp2_with (go_at_call 59; refine (nil59 k w).mono ?_; rintro e w1 ⟨rfl, h1⟩; have H1 := Lib.hid h1; clear h1)
  refine bodyPost_ret (v := .tuple #[.int .i64 0, .int .i64 0, .int .i64 0, .int .i64 35]) ?_ rfl ⟨rfl, H1.out⟩
  have hr : Tryd.f35.results = #[.tmp 4, .tmp 5, .tmp 6, .tmp 7] := rfl
  simp [results, hr]
theorem nil11 (v : Value) (w : World) : Calls Tryd.prog 11 #[.pointer none, v] w fun e w' => e = .returned (.int .i64 35) ∧ Below w.heap.size w w' := by
  go_enter Tryd.func11, Tryd.ntmps11
  go_wp2
  go_ret
  exact ⟨rfl, Below.refl _ _⟩
theorem nil13 (w : World) : Calls Tryd.prog 13 #[.pointer none] w fun e w' => e = .returned (.string ⟨#[]⟩) ∧ Below w.heap.size w w' := by
  go_enter Tryd.func13, Tryd.ntmps13
  go_wp2
  go_ret
  exact ⟨rfl, Below.refl _ _⟩
theorem nil48 (v : Value) (hv : ∃ f, v = .func (.func f) #[] #[]) (w : World) : Calls Tryd.prog 48 #[.pointer none, v] w fun e w' => e = .returned (.pointer none) ∧ Below w.heap.size w w' := by
  obtain ⟨f, rfl⟩ := hv
  go_enter Tryd.func48, Tryd.ntmps48
  go_wp2
  go_ret
  exact ⟨rfl, (Below.refl _ _).alloc (Nat.le_refl _) _⟩
theorem nil15 (w : World) : Calls Tryd.prog 15 #[.pointer none] w fun e w' => e = .returned (.pointer none) ∧ Below w.heap.size w w' := by
  go_enter Tryd.func15, Tryd.ntmps15
  go_wp2_with (go_at_call 48; refine (nil48 _ ⟨49, rfl⟩ w).mono ?_; rintro e w1 ⟨rfl, h1⟩; have H1 := Lib.hid h1; clear h1)
  go_ret
  exact ⟨rfl, H1.out⟩
theorem nil22 (w : World) : Calls Tryd.prog 22 #[.pointer none] w fun e w' => e = .returned (.pointer none) ∧ Below w.heap.size w w' := by
  go_enter Tryd.func22, Tryd.ntmps22
  go_wp2_with (go_at_call 48; refine (nil48 _ ⟨58, rfl⟩ w).mono ?_; rintro e w1 ⟨rfl, h1⟩; have H1 := Lib.hid h1; clear h1)
  go_ret
  exact ⟨rfl, H1.out⟩
theorem nil20 (d a n : Int) (w : World) : Calls Tryd.prog 20 #[.pointer none, .int .i64 d, .int .i64 a, .int .i64 n] w fun e w' => e = .returned (.bool false) ∧ Below w.heap.size w w' := by
  go_enter Tryd.func20, Tryd.ntmps20
  go_wp2
  go_ret
  exact ⟨rfl, (Below.refl _ _).alloc (Nat.le_refl _) _⟩
theorem nil18 (w : World) : Calls Tryd.prog 18 #[.pointer none, .pointer none] w fun e w' => e = .returned (.bool false) ∧ Below w.heap.size w w' := by
  have h1 : ((w.alloc (.cells #[.pointer none] 24)).alloc (.cells #[.bool false] 4)).heap[w.heap.size + 1]? = some (.cells #[.bool false] 4 (0, 0)) := by
    have := heap_alloc_new (w.alloc (.cells #[.pointer none] 24)) (.cells #[.bool false] 4)
    simpa using this
  have HB := Lib.hid (And.intro h1 (((Below.refl w.heap.size w).alloc (Nat.le_refl _) (.cells #[.pointer none] 24)).alloc (by simp) (.cells #[.bool false] 4)))
  clear h1
  go_enter Tryd.func18, Tryd.ntmps18
  go_wp2
  refine bodyPost_ret (results_cell1 rfl _ _ _ ⟨w.heap.size + 1, 0, none⟩ (.bool false) _ rfl (by rw [cell_of_row _ _ _ _ _ _ HB.out.1]; rfl) Tryd.underlying4 rfl) rfl ?_
  exact ⟨rfl, HB.out.2⟩
theorem nil14 (d a : Int) (w : World) : Calls Tryd.prog 14 #[.pointer none, .int .i64 d, .int .i64 a] w fun e w' => e = .returned (.tuple #[.agg #[.slice none 0 0, .bool false, .bool false], .int .i64 35]) ∧ Below w.heap.size w w' := by
  have h1 := heap_alloc_new w (.cells #[.slice none 0 0, .bool false, .bool false] 38)
  have HB := Lib.hid (And.intro h1 ((Below.refl w.heap.size w).alloc (Nat.le_refl _) (.cells #[.slice none 0 0, .bool false, .bool false] 38)))
  clear h1
  go_enter Tryd.func14, Tryd.ntmps14
  go_wp2
  refine bodyPost_ret (v := .tuple #[.agg #[.slice none 0 0, .bool false, .bool false], .int .i64 35]) ?_ rfl ⟨rfl, HB.out.2⟩
  rw [results_cell_tmp rfl]
  have hl := run_loadVar_row (P := Tryd.prog) _ w.heap.size 38 38 _ (0, 0) _ HB.out.1 Tryd.underlying38 rfl size38
  simp [asAddr, hl, Result.andThen]
end Go.Proofs.YthccppldpfddjaaDoor
