import Derived.Test.YtbojagkalbfenaaGa
namespace Go.Proofs.Ytbojagkalbfenaa
open Go.RowKit PIovGather Go.Proofs.YtbojagkalbfenaaW.PrintWords
attribute [local go_sem] ints_get ints_size ints_getElem

theorem arr2 {w : World} {g : Nat} {x y : Value} {t : TypeId} {fr : Nat × Nat} (h : w.heap[g]? = some (.cells #[x, y] t fr)) : w.cell? ⟨g, 0, none⟩ = some x ∧ w.cell? ⟨g, 1, none⟩ = some y := by
  constructor <;> (rw [cell_of_row _ _ _ _ _ _ h]; rfl)

set_option maxHeartbeats 1000000 in
set_option maxRecDepth 100000 in
theorem law_small (M A : Option Addr) (ms : List Int) (l : List S44) (mc ac : Nat) (a b : Int) (P0 : Nat → Prop) (w : World) (hC : Kd.C (Kd.int .u8) w M ms.length ms) (hmc : ms.length ≤ mc) (hmx : mc ≤ 9223372036854775807) (hV : Kd.V k44 44 w w.heap.size P0 (.slice A l.length ac) l)
    (hA : ∀ ad, A = some ad → ad.block < w.heap.size) (hsm : smallB l.length ms.length = true) :
    Calls Try.prog 3 #[.slice M ms.length mc, .slice A l.length ac, .agg #[.int .i64 a, .int .i64 b]] w fun e w' => e = .returned (.bool true) ∧ Below w.heap.size w w' := by
  have hac := (Kd.V_reads' hV).2.1
  have HC := Lib.hid hC
  have HV := Lib.hid hV
  have HL := Lib.hid (Kd.V_reads' hV).2.2
  clear hC hV
  go_enter Try.func3, Try.ntmps3
  have hb0 : Below w.heap.size w ((w.alloc (.cells #[.int .i64 a, .int .i64 b] 24)).alloc (.cells #[.slice M ms.length mc] 22)) := ((Below.refl _ _).alloc (Nat.le_refl _) _).alloc (by simp) _
  have hh := heap_alloc_new (w.alloc (.cells #[.int .i64 a, .int .i64 b] 24)) (.cells #[.slice M ms.length mc] 22)
  have hz : (w.alloc (.cells #[.int .i64 a, .int .i64 b] 24)).heap.size = w.heap.size + 1 := by simp
  rw [hz] at hh
  have HH := Lib.hid hh
  have HB := Lib.hid hb0
  clear hh hb0
  have HX : Hid (((w.alloc (.cells #[.int .i64 a, .int .i64 b] 24)).alloc (.cells #[.slice M ms.length mc] 22)).heap[w.heap.size]? = some (.cells #[.int .i64 a, .int .i64 b] 24 (0, 0))) := Lib.hid (by rw [Below.heap_alloc _ _ _ (by simp)]; exact heap_alloc_new w _)
  go_wp2_with (first
    | (go_at_call 10; refine (orpimentlaw09_small.calls 3 A ac l (some ⟨w.heap.size + 1, 0, none⟩) 1 [ms] true _ (Kd.C_below HL.out HB.out) hac (C_one HH.out hmc (Kd.C_below HC.out HB.out)) (by simp) (by rw [small_f l ms (by omega), hsm])).mono ?_; rintro e w1 ⟨rfl, hd⟩; replace HB := Lib.hid (below_then' HB.out hd.below); replace HX := Lib.hid (heap_kept HX.out hd.below); clear hd; obtain ⟨hx0, hx1⟩ := arr2 HX.out)
    | (go_at_call 12; refine (gather_byts M ms mc A ac l a b P0 _ (Kd.C_below HC.out HB.out) (Kd.V_map (Kd.V_below HV.out HB.out) (fun _ h => h)) (fun ad e => Nat.lt_of_lt_of_le (hA ad e) HB.out.size) hmc hmx).mono ?_; rintro e w2 ⟨A2, c2, rfl, hc2, h2, hb⟩; have H2 := Lib.hid h2; replace HB := Lib.hid (below_then' HB.out hb); replace HX := Lib.hid (heap_kept HX.out hb); clear hb h2 hx0 hx1; obtain ⟨hx0, hx1⟩ := arr2 HX.out)
    | (go_at_call 13; refine (orpimentref09_Gather.calls 70000 M mc ms A ac l a b _ _ _ (Kd.C_below HC.out HB.out) hmc (Kd.C_below HL.out HB.out) hac (rg_f ms l a b)).mono ?_; rintro e w3 ⟨v3, rfl, hR, hb⟩; obtain ⟨A3, c3, rfl⟩ := Kd.R_slice hR; obtain ⟨_, hc3, h3⟩ := Kd.R_reads' hR; have H3 := Lib.hid h3; replace H2 := Lib.hid (Kd.C_below H2.out hb); replace HB := Lib.hid (below_then' HB.out hb); clear hb hR h3 hx0 hx1)
    | (go_at_call 14; refine (slices_Equal_byte_byte.calls 1000002 A2 c2 _ A3 c3 _ true _ H2.out hc2 H3.out hc3 (by rw [equal_f _ _ (Nat.le_trans gout_len (by omega)) (by omega)]; simp)).mono ?_; rintro e w4 ⟨rfl, hd⟩; replace HB := Lib.hid (below_then' HB.out hd.below); clear hd)
    | (go_at_call 11; refine (awake_calls _).mono ?_; rintro e w5 ⟨rfl, hb⟩; replace HB := Lib.hid (below_then' HB.out hb); clear hb))
  go_ret
  exact ⟨rfl, HB.out⟩

theorem law_calls (M A : Option Addr) (ms : List Int) (l : List S44) (mc ac : Nat) (a b : Int) (P0 : Nat → Prop) (w : World) (hC : Kd.C (Kd.int .u8) w M ms.length ms) (hmc : ms.length ≤ mc) (hmx : mc ≤ 9223372036854775807) (hV : Kd.V k44 44 w w.heap.size P0 (.slice A l.length ac) l)
    (hA : ∀ ad, A = some ad → ad.block < w.heap.size) :
    Calls Try.prog 3 #[.slice M ms.length mc, .slice A l.length ac, .agg #[.int .i64 a, .int .i64 b]] w fun e w' => e = .returned (.bool true) ∧ Below w.heap.size w w' := by
  cases hsm : smallB l.length ms.length with
  | false => exact law_big M A ms l mc ac a b w hC hmc (Kd.V_reads' hV).2.2 (Kd.V_reads' hV).2.1 hsm
  | true => exact law_small M A ms l mc ac a b P0 w hC hmc hmx hV hA hsm
end Go.Proofs.Ytbojagkalbfenaa
