import Derived.Test.YtbojagkalbfenaaG8
namespace Go.Proofs.Ytbojagkalbfenaa
open Go.RowKit PIovGather Go.Proofs.YtbojagkalbfenaaW.PrintWords
attribute [local go_sem] ints_get ints_size ints_getElem

set_option maxHeartbeats 1000000 in
set_option maxRecDepth 100000 in
theorem law_big (M A : Option Addr) (ms : List Int) (l : List S44) (mc ac : Nat) (a b : Int) (w : World) (hC : Kd.C (Kd.int .u8) w M ms.length ms) (hmc : ms.length ≤ mc) (hl : Kd.C k44 w A l.length l) (hac : l.length ≤ ac) (hsm : smallB l.length ms.length = false) :
    Calls Try.prog 3 #[.slice M ms.length mc, .slice A l.length ac, .agg #[.int .i64 a, .int .i64 b]] w fun e w' => e = .returned (.bool true) ∧ Below w.heap.size w w' := by
  have HC := Lib.hid hC
  have HL := Lib.hid hl
  clear hC hl
  go_enter Try.func3, Try.ntmps3
  have hb0 : Below w.heap.size w ((w.alloc (.cells #[.int .i64 a, .int .i64 b] 24)).alloc (.cells #[.slice M ms.length mc] 22)) := ((Below.refl _ _).alloc (Nat.le_refl _) _).alloc (by simp) _
  have hh := heap_alloc_new (w.alloc (.cells #[.int .i64 a, .int .i64 b] 24)) (.cells #[.slice M ms.length mc] 22)
  have hz : (w.alloc (.cells #[.int .i64 a, .int .i64 b] 24)).heap.size = w.heap.size + 1 := by simp
  rw [hz] at hh
  have HH := Lib.hid hh
  have HB := Lib.hid hb0
  clear hh hb0
  go_wp2_with (first
    | (go_at_call 10; refine (orpimentlaw09_small.calls 3 A ac l (some ⟨w.heap.size + 1, 0, none⟩) 1 [ms] false _ (Kd.C_below HL.out HB.out) hac (C_one HH.out hmc (Kd.C_below HC.out HB.out)) (by simp) (by rw [small_f l ms (by omega), hsm])).mono ?_; rintro e w1 ⟨rfl, hd⟩; replace HB := Lib.hid (below_then' HB.out hd.below); clear hd)
    | (go_at_call 11; refine (awake_calls _).mono ?_; rintro e w2 ⟨rfl, hb⟩; replace HB := Lib.hid (below_then' HB.out hb); clear hb))
  go_ret
  exact ⟨rfl, HB.out⟩
end Go.Proofs.Ytbojagkalbfenaa
