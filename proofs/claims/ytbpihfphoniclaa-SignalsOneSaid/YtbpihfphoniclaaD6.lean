/- SignalsOne: the whole law. -/
import Derived.Test.YtbpihfphoniclaaS3
import Derived.Test.YtbpihfphoniclaaD3
import Derived.LoopN
namespace Go.Proofs.Ytbpihfphoniclaa
open Go.RowKit
set_option linter.unusedVariables false
/-- A value of an array of one-cell elements is indexed. -/
theorem run_index_one {P : Program} (w : World) (T E : TypeId) (n : Nat) (cs : Array Value) (d : TypeDesc) (v : Value) (i : Nat) (hl : cs.size = n) (h1 : i < n) (hv : cs[i]? = some v) (hT : P.underlying T = some (.array n E)) (hE : P.underlying E = some d)
    (hd : (match d with | .struct _ | .array _ _ => true | _ => false) = false) (hs : (P.info? E).map (·.size) = some 1) :
    (Instr.index T (.agg cs) (.int .i64 (i : Int))).run P w = .ok v w := by
  cases hq : P.info? E with
  | none => simp [hq] at hs
  | some u =>
    have hu : u.size = 1 := by simpa [hq] using hs
    have hagg : (isAgg E).run P w = .ok false w := by
      unfold isAgg
      rw [Sem.run_bind, run_underlying hE w]
      cases d <;> simp_all
    have h1' : (i : Int) < (n : Int) := by omega
    have h1'' : ¬ n ≤ i := by omega
    simp [Instr.index, asIntOf, run_underlying hT, h1, h1', h1'', part, sizeOf, typeInfo, hq, hu, hagg, hv]
@[local go_sem] theorem ix23_0 (a b c : Int) (W : World) : (Instr.index 23 (.agg #[.int .u64 a, .int .u64 b, .int .u64 c]) (.int .i64 0)).run Try.prog W = .ok (.int .u64 a) W := run_index_one W 23 22 3 _ _ _ 0 rfl (by omega) rfl Try.underlying23 Try.underlying22 rfl (by kernel_rfl)
@[local go_sem] theorem ix23_1 (a b c : Int) (W : World) : (Instr.index 23 (.agg #[.int .u64 a, .int .u64 b, .int .u64 c]) (.int .i64 1)).run Try.prog W = .ok (.int .u64 b) W := run_index_one W 23 22 3 _ _ _ 1 rfl (by omega) rfl Try.underlying23 Try.underlying22 rfl (by kernel_rfl)
@[local go_sem] theorem ix23_2 (a b c : Int) (W : World) : (Instr.index 23 (.agg #[.int .u64 a, .int .u64 b, .int .u64 c]) (.int .i64 2)).run Try.prog W = .ok (.int .u64 c) W := run_index_one W 23 22 3 _ _ _ 2 rfl (by omega) rfl Try.underlying23 Try.underlying22 rfl (by kernel_rfl)
/-- The masks behind the first loop. -/
def mA (m0 m1 m2 : Nat) : Nat → Nat := upd (upd (upd (upd (upd (upd (fun _ => 0) 0 0) 0 (newMask 0 2 m0)) 1 0) 1 (newMask 0 2 m1)) 2 0) 2 (newMask 0 2 m2)
def mB (m0 m1 m2 : Nat) : Nat → Nat := upd (upd (upd (mA m0 m1 m2) 0 (newMask (mA m0 m1 m2 0) 2 0)) 1 (newMask (mA m0 m1 m2 1) 2 0)) 2 (newMask (mA m0 m1 m2 2) 2 0)
theorem newMask_zero (x : Nat) : newMask x 2 0 = 0 := by unfold newMask; simp
theorem mB_zero (m0 m1 m2 i : Nat) (hi : i < 3) : mB m0 m1 m2 i = 0 := by
  unfold mB
  rw [newMask_zero, newMask_zero, newMask_zero]
  obtain rfl | rfl | rfl : i = 0 ∨ i = 1 ∨ i = 2 := by omega
  · rw [upd_other _ _ (by omega), upd_other _ _ (by omega), upd_same]
  · rw [upd_other _ _ (by omega), upd_same]
  · rw [upd_same]
structure Steps (m0 m1 m2 : Nat) (s v : Int) (slot : Nat) (A1 A2 A3 A4 A5 A6 B C1 C2 C3 Z : St) (q0 q1 q2 : Nat) : Prop where
  e1 : startS S0 0 0 = (0, A1)
  e2 : maskS A1 0 2 m0 = ((q0, 0), A2)
  e3 : startS A2 1 0 = (0, A3)
  e4 : maskS A3 1 2 m1 = ((q1, 0), A4)
  e5 : startS A4 2 0 = (0, A5)
  e6 : maskS A5 2 2 m2 = ((q2, 0), A6)
  e7 : killS A6 (-1) 0 s v = (([], 0), B)
  c1 : ∃ x, maskS B 0 2 0 = ((x, 0), C1)
  c2 : ∃ x, maskS C1 1 2 0 = ((x, 0), C2)
  c3 : ∃ x, maskS C2 2 2 0 = ((x, 0), C3)
  sl : slot = 0 ∨ slot = 1 ∨ slot = 2 ∨ slot = 256
  no : ∀ i : Nat, i < 3 → slot ≠ i → slot ≠ 256 → nextS C3 i = (((0, 0, 0), false), C3)
  ye : ∀ i : Nat, i < 3 → slot = i ∨ slot = 256 → ∃ d, nextS C3 i = (((s, v, d), true), Z)
  z : ∀ i : Nat, i < 3 → nextS Z i = (((0, 0, 0), false), Z)
  i1 : Inv A1 1000
  i3 : Inv A3 1000
  i5 : Inv A5 1000
  i6 : Inv A6 1000
  ib : Inv B 1000
  j1 : Inv C1 1000
  j2 : Inv C2 1000
  j3 : Inv C3 1000
  iz : Inv Z 1000
theorem steps (m0 m1 m2 : Nat) (s v : Int) (h1 : 1 ≤ s) (h2 : s ≤ 56) (h17 : s ≠ 17) : ∃ slot A1 A2 A3 A4 A5 A6 B C1 C2 C3 Z q0 q1 q2, Steps m0 m1 m2 s v slot A1 A2 A3 A4 A5 A6 B C1 C2 C3 Z q0 q1 q2 := by
  obtain ⟨slot, hsl, hk⟩ := kill_tn (mA m0 m1 m2) s v h1 h2 h17
  have e1 : startS S0 0 0 = (0, Tn 1 (upd (fun _ => 0) 0 0) Nl) := by rw [tn0 (fun _ => 0)]; exact start_tn 0 (by omega) _
  have e2 := mask_tn 1 0 (by omega) (by omega) (upd (fun _ => 0) 0 0) Nl m0
  have e3 := start_tn 1 (by omega) (upd (upd (fun _ => 0) 0 0) 0 (newMask 0 2 m0))
  have e4 := mask_tn 2 1 (by omega) (by omega) (upd (upd (upd (fun _ => 0) 0 0) 0 (newMask 0 2 m0)) 1 0) Nl m1
  have e5 := start_tn 2 (by omega) (upd (upd (upd (upd (fun _ => 0) 0 0) 0 (newMask 0 2 m0)) 1 0) 1 (newMask 0 2 m1))
  have e6 := mask_tn 3 2 (by omega) (by omega) (upd (upd (upd (upd (upd (fun _ => 0) 0 0) 0 (newMask 0 2 m0)) 1 0) 1 (newMask 0 2 m1)) 2 0) Nl m2
  rw [upd_same] at e2 e4 e6
  have i1 : Inv (Tn 1 (upd (fun _ => 0) 0 0) Nl) 0 := by have := inv0.startS 0 0; rw [e1] at this; exact this
  have i2 := i1.maskS (0 : Nat) 2 m0
  rw [e2] at i2
  have i3 := Inv.startS (S := Tn _ _ _) i2 (1 : Nat) 0
  rw [e3] at i3
  have i4 := Inv.maskS (S := Tn _ _ _) i3 (1 : Nat) 2 m1
  rw [e4] at i4
  have i5 := Inv.startS (S := Tn _ _ _) i4 (2 : Nat) 0
  rw [e5] at i5
  have i6 := Inv.maskS (S := Tn _ _ _) i5 (2 : Nat) 2 m2
  rw [e6] at i6
  have ib := Inv.killS (S := Tn 3 (mA m0 m1 m2) Nl) i6 (-1) 0 s v
  rw [hk] at ib
  have c1 := mask_tn 3 0 (by omega) (by omega) (mA m0 m1 m2) (upd Nl slot [(s, v)]) 0
  have c2 := mask_tn 3 1 (by omega) (by omega) (upd (mA m0 m1 m2) 0 (newMask (mA m0 m1 m2 0) 2 0)) (upd Nl slot [(s, v)]) 0
  rw [upd_other _ _ (show (1 : Nat) ≠ 0 by omega)] at c2
  have c3 := mask_tn 3 2 (by omega) (by omega) (upd (upd (mA m0 m1 m2) 0 (newMask (mA m0 m1 m2 0) 2 0)) 1 (newMask (mA m0 m1 m2 1) 2 0)) (upd Nl slot [(s, v)]) 0
  rw [upd_other _ _ (show (2 : Nat) ≠ 1 by omega), upd_other _ _ (show (2 : Nat) ≠ 0 by omega)] at c3
  have j1 := Inv.maskS (S := Tn 3 (mA m0 m1 m2) (upd Nl slot [(s, v)])) ib (0 : Nat) 2 0
  rw [c1] at j1
  have j2 := Inv.maskS (S := Tn _ _ _) j1 (1 : Nat) 2 0
  rw [c2] at j2
  have j3 := Inv.maskS (S := Tn _ _ _) j2 (2 : Nat) 2 0
  rw [c3] at j3
  have hz : ∀ i : Nat, i < 3 → nextS (Tn 3 (mB m0 m1 m2) Nl) i = (((0, 0, 0), false), Tn 3 (mB m0 m1 m2) Nl) := fun i hi => next_none _ _ i hi rfl rfl
  have hye : ∀ i : Nat, i < 3 → slot = i ∨ slot = 256 → ∃ d, nextS (Tn 3 (mB m0 m1 m2) (upd Nl slot [(s, v)])) i = (((s, v, d), true), Tn 3 (mB m0 m1 m2) Nl) :=
    fun i hi hs => next_one _ i slot hi hs s v h1 h2 (mB_zero _ _ _ i hi)
  have iz : Inv (Tn 3 (mB m0 m1 m2) Nl) 1000 := by
    rcases hsl with h | h | h | h
    · obtain ⟨d, hd⟩ := hye 0 (by omega) (.inl h); have := Inv.nextS (S := Tn 3 (mB m0 m1 m2) (upd Nl slot [(s, v)])) j3 (0 : Nat); rw [hd] at this; exact Inv.mono this (by omega)
    · obtain ⟨d, hd⟩ := hye 1 (by omega) (.inl h); have := Inv.nextS (S := Tn 3 (mB m0 m1 m2) (upd Nl slot [(s, v)])) j3 (1 : Nat); rw [hd] at this; exact Inv.mono this (by omega)
    · obtain ⟨d, hd⟩ := hye 2 (by omega) (.inl h); have := Inv.nextS (S := Tn 3 (mB m0 m1 m2) (upd Nl slot [(s, v)])) j3 (2 : Nat); rw [hd] at this; exact Inv.mono this (by omega)
    · obtain ⟨d, hd⟩ := hye 0 (by omega) (.inr h); have := Inv.nextS (S := Tn 3 (mB m0 m1 m2) (upd Nl slot [(s, v)])) j3 (0 : Nat); rw [hd] at this; exact Inv.mono this (by omega)
  exact ⟨slot, _, _, _, _, _, _, _, _, _, Tn 3 (mB m0 m1 m2) (upd Nl slot [(s, v)]), Tn 3 (mB m0 m1 m2) Nl, _, _, _, e1, e2, e3, e4, e5, e6, hk, ⟨_, c1⟩, ⟨_, c2⟩, ⟨_, c3⟩, hsl,
    fun (i : Nat) hi n1 n2 => next_none _ _ i hi (upd_other _ _ (Ne.symm n1)) (upd_other _ _ (Ne.symm n2)), hye, hz,
    Inv.mono i1 (by omega), Inv.mono i3 (by omega), Inv.mono i5 (by omega), Inv.mono i6 (by omega), Inv.mono ib (by omega), Inv.mono j1 (by omega), Inv.mono j2 (by omega), Inv.mono j3 (by omega), iz⟩
set_option maxRecDepth 100000 in
set_option maxHeartbeats 4000000 in
theorem one_a (m0 m1 m2 : Nat) (g v : Int) (b0 : m0 < 18446744073709551616) (b1 : m1 < 18446744073709551616) (b2 : m2 < 18446744073709551616) (g0 : 0 ≤ g) (g1 : g ≤ 255) (w : World) (h17 : g.tmod 56 ≠ 16)
    {slot : Nat} {A1 A2 A3 A4 A5 A6 B C1 C2 C3 Z : St} {q0 q1 q2 : Nat} (hs : Steps m0 m1 m2 (1 + g.tmod 56) v slot A1 A2 A3 A4 A5 A6 B C1 C2 C3 Z q0 q1 q2) (hsl : slot = 0 ∨ slot = 256) :
    Calls Try.prog 3 #[.agg #[.int .u64 m0, .int .u64 m1, .int .u64 m2], .int .u8 g, .int .i64 v] w fun e w' => e = .returned (.bool true) ∧ Below w.heap.size w w' := by
  have t0 : 0 ≤ g.tmod 56 := Int.tmod_nonneg 56 g0
  have t1 : g.tmod 56 < 56 := Int.tmod_lt_of_pos g (by omega)
  have HS := Lib.hid hs
  have HB := Lib.hid (And.intro b0 (And.intro b1 b2))
  have HSL := Lib.hid hsl
  obtain ⟨q, hq⟩ : ∃ q, g.tmod 56 = q := ⟨_, rfl⟩
  rw [hq] at h17 t0 t1
  obtain ⟨s, hse⟩ : ∃ s, 1 + q = s := ⟨_, rfl⟩
  have s0 : 1 ≤ s := by omega
  have s1 : s ≤ 56 := by omega
  have n17 : (s == 17) = false := by simp; omega
  have nvv : (v != v) = false := by simp
  have nss : (s != s) = false := by simp
  have hS := HS.out
  rw [hq, hse] at hS
  obtain ⟨x1, hc1⟩ := hS.c1
  obtain ⟨x2, hc2⟩ := hS.c2
  obtain ⟨x3, hc3⟩ := hS.c3
  obtain ⟨d, hd⟩ : ∃ d, nextS C3 (0 : Int) = (((s, v, d), true), Z) := hS.ye 0 (by omega) (by omega)
  have n0 : nextS Z (0 : Int) = (((0, 0, 0), false), Z) := hS.z 0 (by omega)
  have n1 : nextS Z (1 : Int) = (((0, 0, 0), false), Z) := hS.z 1 (by omega)
  have n2 : nextS Z (2 : Int) = (((0, 0, 0), false), Z) := hS.z 2 (by omega)
  have HE1 := Lib.hid hS.e1
  have HE2 := Lib.hid hS.e2
  have HE3 := Lib.hid hS.e3
  have HE4 := Lib.hid hS.e4
  have HE5 := Lib.hid hS.e5
  have HE6 := Lib.hid hS.e6
  have HE7 := Lib.hid hS.e7
  have HC1 := Lib.hid hc1
  have HC2 := Lib.hid hc2
  have HC3 := Lib.hid hc3
  have HD := Lib.hid hd
  have HN0 := Lib.hid n0
  have HN1 := Lib.hid n1
  have HN2 := Lib.hid n2
  have HS2 := Lib.hid hS
  clear hs hsl hS hc1 hc2 hc3 hd n0 n1 n2 HS b0 b1 b2
  go_enter Try.func3, Try.ntmps3
  go_wp2_with fail
  refine (new_calls _).mono ?_
  rintro e w1 ⟨rfl, hr, hb⟩
  have e0 : (w.alloc (.cells #[.int .u64 m0, .int .u64 m1, .int .u64 m2] 23)).heap.size = w.heap.size + 1 := by simp
  have HF1 := Lib.hid (below_then' ((Below.refl w.heap.size w).alloc (Nat.le_refl _) _) hb)
  have hn1 := (hb.block w.heap.size (by simp)).trans (heap_alloc_new w (.cells #[.int .u64 m0, .int .u64 m1, .int .u64 m2] 23))
  have c0 : w1.cell? ⟨w.heap.size, 0, none⟩ = some (.int .u64 m0) := by rw [cell_of_row _ _ _ _ _ _ hn1]; rfl
  have c1 : w1.cell? ⟨w.heap.size, 1, none⟩ = some (.int .u64 m1) := by rw [cell_of_row _ _ _ _ _ _ hn1]; rfl
  have c2 : w1.cell? ⟨w.heap.size, 2, none⟩ = some (.int .u64 m2) := by rw [cell_of_row _ _ _ _ _ _ hn1]; rfl
  clear hn1
  rw [e0] at hr ⊢
  have HR1 := Lib.hid hr
  clear hr hb e0
  go_wp2_with fail
  refine wp_loop_rounds 4 ?_
  rw [rounds_succ]
  go_wp2_with fail
  refine (start_calls 0 0 _ HR1.out).mono ?_
  rw [HE1.out]
  rintro e w2 ⟨rfl, ⟨⟨L2, hr⟩, hf⟩⟩
  have HR2 := Lib.hid hr
  have HF2 := Lib.hid (HF1.out.trans (hf.bel.mono (Nat.le_succ _)))
  clear hr hf
  go_wp2_with fail
  refine (mask_calls 0 2 m0 _ HR2.out HS2.out.i1 HB.out.1).mono ?_
  rw [HE2.out]
  rintro e w3 ⟨rfl, ⟨⟨L3, hr⟩, hf⟩⟩
  have HR3 := Lib.hid hr
  have HF3 := Lib.hid (HF2.out.trans (hf.bel.mono (Nat.le_succ _)))
  clear hr hf
  go_wp2_with fail
  rw [rounds_succ]
  go_wp2_with fail
  refine (start_calls 1 0 _ HR3.out).mono ?_
  rw [HE3.out]
  rintro e w4 ⟨rfl, ⟨⟨L4, hr⟩, hf⟩⟩
  have HR4 := Lib.hid hr
  have HF4 := Lib.hid (HF3.out.trans (hf.bel.mono (Nat.le_succ _)))
  clear hr hf
  go_wp2_with fail
  refine (mask_calls 1 2 m1 _ HR4.out HS2.out.i3 HB.out.2.1).mono ?_
  rw [HE4.out]
  rintro e w5 ⟨rfl, ⟨⟨L5, hr⟩, hf⟩⟩
  have HR5 := Lib.hid hr
  have HF5 := Lib.hid (HF4.out.trans (hf.bel.mono (Nat.le_succ _)))
  clear hr hf
  go_wp2_with fail
  rw [rounds_succ]
  go_wp2_with fail
  refine (start_calls 2 0 _ HR5.out).mono ?_
  rw [HE5.out]
  rintro e w6 ⟨rfl, ⟨⟨L6, hr⟩, hf⟩⟩
  have HR6 := Lib.hid hr
  have HF6 := Lib.hid (HF5.out.trans (hf.bel.mono (Nat.le_succ _)))
  clear hr hf
  go_wp2_with fail
  refine (mask_calls 2 2 m2 _ HR6.out HS2.out.i5 HB.out.2.2).mono ?_
  rw [HE6.out]
  rintro e w7 ⟨rfl, ⟨⟨L7, hr⟩, hf⟩⟩
  have HR7 := Lib.hid hr
  have HF7 := Lib.hid (HF6.out.trans (hf.bel.mono (Nat.le_succ _)))
  clear hr hf
  go_wp2_with fail
  rw [rounds_succ]
  go_wp2_with fail
  refine (kill_calls (-1) 0 s v _ HR7.out HS2.out.i6).mono ?_
  rw [HE7.out]
  rintro e w8 ⟨wk, rfl, _, ⟨⟨L8, hr⟩, hf⟩⟩
  have HR8 := Lib.hid hr
  have HF8 := Lib.hid (HF7.out.trans (hf.bel.mono (Nat.le_succ _)))
  clear hr hf
  go_wp2_with fail
  refine wp_loop_rounds 4 ?_
  rw [rounds_succ]
  go_wp2_with fail
  refine (mask_calls 0 2 0 _ HR8.out HS2.out.ib (by omega)).mono ?_
  rw [HC1.out]
  rintro e w9 ⟨rfl, ⟨⟨L9, hr⟩, hf⟩⟩
  have HR9 := Lib.hid hr
  have HF9 := Lib.hid (HF8.out.trans (hf.bel.mono (Nat.le_succ _)))
  clear hr hf
  go_wp2_with fail
  rw [rounds_succ]
  go_wp2_with fail
  refine (mask_calls 1 2 0 _ HR9.out HS2.out.j1 (by omega)).mono ?_
  rw [HC2.out]
  rintro e w10 ⟨rfl, ⟨⟨L10, hr⟩, hf⟩⟩
  have HR10 := Lib.hid hr
  have HF10 := Lib.hid (HF9.out.trans (hf.bel.mono (Nat.le_succ _)))
  clear hr hf
  go_wp2_with fail
  rw [rounds_succ]
  go_wp2_with fail
  refine (mask_calls 2 2 0 _ HR10.out HS2.out.j2 (by omega)).mono ?_
  rw [HC3.out]
  rintro e w11 ⟨rfl, ⟨⟨L11, hr⟩, hf⟩⟩
  have HR11 := Lib.hid hr
  have HF11 := Lib.hid (HF10.out.trans (hf.bel.mono (Nat.le_succ _)))
  clear hr hf
  go_wp2_with fail
  rw [rounds_succ]
  go_wp2_with fail
  refine wp_loop_rounds 4 ?_
  rw [rounds_succ]
  go_wp2_with fail
  refine wp_loop_rounds 3 ?_
  rw [rounds_succ]
  go_wp2_with fail
  refine (next_calls 0 _ HR11.out HS2.out.j3).mono ?_
  rw [HD.out]
  simp only [dv]
  rintro e w12 ⟨rfl, ⟨⟨L12, hr⟩, hf⟩⟩
  have HR12 := Lib.hid hr
  have HF12 := Lib.hid (HF11.out.trans (hf.bel.mono (Nat.le_succ _)))
  clear hr hf
  go_wp2_with fail
  rw [rounds_succ]
  go_wp2_with fail
  refine (next_calls 0 _ (HR12.out.below ((Below.refl _ _).alloc (Nat.le_refl _) _)) HS2.out.iz).mono ?_
  rw [HN0.out]
  simp only [dv]
  rintro e w13 ⟨rfl, ⟨⟨L13, hr⟩, hf⟩⟩
  have HR13 := Lib.hid hr
  have HF13 := Lib.hid ((HF12.out.alloc HF12.out.size _).trans (hf.bel.mono (Nat.le_succ _)))
  clear hr hf
  go_wp2_with fail
  rw [rounds_succ]
  go_wp2_with fail
  refine wp_loop_rounds 3 ?_
  rw [rounds_succ]
  go_wp2_with fail
  refine (next_calls 1 _ (HR13.out.below ((Below.refl _ _).alloc (Nat.le_refl _) _)) HS2.out.iz).mono ?_
  rw [HN1.out]
  simp only [dv]
  rintro e w14 ⟨rfl, ⟨⟨L14, hr⟩, hf⟩⟩
  have HR14 := Lib.hid hr
  have HF14 := Lib.hid ((HF13.out.alloc HF13.out.size _).trans (hf.bel.mono (Nat.le_succ _)))
  clear hr hf
  go_wp2_with fail
  rw [rounds_succ]
  go_wp2_with fail
  refine wp_loop_rounds 3 ?_
  rw [rounds_succ]
  go_wp2_with fail
  refine (next_calls 2 _ (HR14.out.below ((Below.refl _ _).alloc (Nat.le_refl _) _)) HS2.out.iz).mono ?_
  rw [HN2.out]
  simp only [dv]
  rintro e w15 ⟨rfl, ⟨⟨L15, hr⟩, hf⟩⟩
  have HR15 := Lib.hid hr
  have HF15 := Lib.hid ((HF14.out.alloc HF14.out.size _).trans (hf.bel.mono (Nat.le_succ _)))
  clear hr hf
  go_wp2_with fail
  rw [rounds_succ]
  go_wp2_with fail
  refine (awake_calls _).mono ?_
  rintro e wz ⟨rfl, hb⟩
  have HZ := Lib.hid (below_then' (HF15.out.alloc HF15.out.size _) hb)
  clear hb
  go_wp2
  go_ret
  exact ⟨rfl, HZ.out⟩
set_option maxRecDepth 100000 in
set_option maxHeartbeats 4000000 in
theorem one_b (m0 m1 m2 : Nat) (g v : Int) (b0 : m0 < 18446744073709551616) (b1 : m1 < 18446744073709551616) (b2 : m2 < 18446744073709551616) (g0 : 0 ≤ g) (g1 : g ≤ 255) (w : World) (h17 : g.tmod 56 ≠ 16)
    {slot : Nat} {A1 A2 A3 A4 A5 A6 B C1 C2 C3 Z : St} {q0 q1 q2 : Nat} (hs : Steps m0 m1 m2 (1 + g.tmod 56) v slot A1 A2 A3 A4 A5 A6 B C1 C2 C3 Z q0 q1 q2) (hsl : slot = 1) :
    Calls Try.prog 3 #[.agg #[.int .u64 m0, .int .u64 m1, .int .u64 m2], .int .u8 g, .int .i64 v] w fun e w' => e = .returned (.bool true) ∧ Below w.heap.size w w' := by
  have t0 : 0 ≤ g.tmod 56 := Int.tmod_nonneg 56 g0
  have t1 : g.tmod 56 < 56 := Int.tmod_lt_of_pos g (by omega)
  have HS := Lib.hid hs
  have HB := Lib.hid (And.intro b0 (And.intro b1 b2))
  have HSL := Lib.hid hsl
  obtain ⟨q, hq⟩ : ∃ q, g.tmod 56 = q := ⟨_, rfl⟩
  rw [hq] at h17 t0 t1
  obtain ⟨s, hse⟩ : ∃ s, 1 + q = s := ⟨_, rfl⟩
  have s0 : 1 ≤ s := by omega
  have s1 : s ≤ 56 := by omega
  have n17 : (s == 17) = false := by simp; omega
  have nvv : (v != v) = false := by simp
  have nss : (s != s) = false := by simp
  have hS := HS.out
  rw [hq, hse] at hS
  obtain ⟨x1, hc1⟩ := hS.c1
  obtain ⟨x2, hc2⟩ := hS.c2
  obtain ⟨x3, hc3⟩ := hS.c3
  obtain ⟨d, hd⟩ : ∃ d, nextS C3 (1 : Int) = (((s, v, d), true), Z) := hS.ye 1 (by omega) (by omega)
  have n0 : nextS C3 (0 : Int) = (((0, 0, 0), false), C3) := hS.no 0 (by omega) (by omega) (by omega)
  have n1 : nextS Z (1 : Int) = (((0, 0, 0), false), Z) := hS.z 1 (by omega)
  have n2 : nextS Z (2 : Int) = (((0, 0, 0), false), Z) := hS.z 2 (by omega)
  have HE1 := Lib.hid hS.e1
  have HE2 := Lib.hid hS.e2
  have HE3 := Lib.hid hS.e3
  have HE4 := Lib.hid hS.e4
  have HE5 := Lib.hid hS.e5
  have HE6 := Lib.hid hS.e6
  have HE7 := Lib.hid hS.e7
  have HC1 := Lib.hid hc1
  have HC2 := Lib.hid hc2
  have HC3 := Lib.hid hc3
  have HD := Lib.hid hd
  have HN0 := Lib.hid n0
  have HN1 := Lib.hid n1
  have HN2 := Lib.hid n2
  have HS2 := Lib.hid hS
  clear hs hsl hS hc1 hc2 hc3 hd n0 n1 n2 HS b0 b1 b2
  go_enter Try.func3, Try.ntmps3
  go_wp2_with fail
  refine (new_calls _).mono ?_
  rintro e w1 ⟨rfl, hr, hb⟩
  have e0 : (w.alloc (.cells #[.int .u64 m0, .int .u64 m1, .int .u64 m2] 23)).heap.size = w.heap.size + 1 := by simp
  have HF1 := Lib.hid (below_then' ((Below.refl w.heap.size w).alloc (Nat.le_refl _) _) hb)
  have hn1 := (hb.block w.heap.size (by simp)).trans (heap_alloc_new w (.cells #[.int .u64 m0, .int .u64 m1, .int .u64 m2] 23))
  have c0 : w1.cell? ⟨w.heap.size, 0, none⟩ = some (.int .u64 m0) := by rw [cell_of_row _ _ _ _ _ _ hn1]; rfl
  have c1 : w1.cell? ⟨w.heap.size, 1, none⟩ = some (.int .u64 m1) := by rw [cell_of_row _ _ _ _ _ _ hn1]; rfl
  have c2 : w1.cell? ⟨w.heap.size, 2, none⟩ = some (.int .u64 m2) := by rw [cell_of_row _ _ _ _ _ _ hn1]; rfl
  clear hn1
  rw [e0] at hr ⊢
  have HR1 := Lib.hid hr
  clear hr hb e0
  go_wp2_with fail
  refine wp_loop_rounds 4 ?_
  rw [rounds_succ]
  go_wp2_with fail
  refine (start_calls 0 0 _ HR1.out).mono ?_
  rw [HE1.out]
  rintro e w2 ⟨rfl, ⟨⟨L2, hr⟩, hf⟩⟩
  have HR2 := Lib.hid hr
  have HF2 := Lib.hid (HF1.out.trans (hf.bel.mono (Nat.le_succ _)))
  clear hr hf
  go_wp2_with fail
  refine (mask_calls 0 2 m0 _ HR2.out HS2.out.i1 HB.out.1).mono ?_
  rw [HE2.out]
  rintro e w3 ⟨rfl, ⟨⟨L3, hr⟩, hf⟩⟩
  have HR3 := Lib.hid hr
  have HF3 := Lib.hid (HF2.out.trans (hf.bel.mono (Nat.le_succ _)))
  clear hr hf
  go_wp2_with fail
  rw [rounds_succ]
  go_wp2_with fail
  refine (start_calls 1 0 _ HR3.out).mono ?_
  rw [HE3.out]
  rintro e w4 ⟨rfl, ⟨⟨L4, hr⟩, hf⟩⟩
  have HR4 := Lib.hid hr
  have HF4 := Lib.hid (HF3.out.trans (hf.bel.mono (Nat.le_succ _)))
  clear hr hf
  go_wp2_with fail
  refine (mask_calls 1 2 m1 _ HR4.out HS2.out.i3 HB.out.2.1).mono ?_
  rw [HE4.out]
  rintro e w5 ⟨rfl, ⟨⟨L5, hr⟩, hf⟩⟩
  have HR5 := Lib.hid hr
  have HF5 := Lib.hid (HF4.out.trans (hf.bel.mono (Nat.le_succ _)))
  clear hr hf
  go_wp2_with fail
  rw [rounds_succ]
  go_wp2_with fail
  refine (start_calls 2 0 _ HR5.out).mono ?_
  rw [HE5.out]
  rintro e w6 ⟨rfl, ⟨⟨L6, hr⟩, hf⟩⟩
  have HR6 := Lib.hid hr
  have HF6 := Lib.hid (HF5.out.trans (hf.bel.mono (Nat.le_succ _)))
  clear hr hf
  go_wp2_with fail
  refine (mask_calls 2 2 m2 _ HR6.out HS2.out.i5 HB.out.2.2).mono ?_
  rw [HE6.out]
  rintro e w7 ⟨rfl, ⟨⟨L7, hr⟩, hf⟩⟩
  have HR7 := Lib.hid hr
  have HF7 := Lib.hid (HF6.out.trans (hf.bel.mono (Nat.le_succ _)))
  clear hr hf
  go_wp2_with fail
  rw [rounds_succ]
  go_wp2_with fail
  refine (kill_calls (-1) 0 s v _ HR7.out HS2.out.i6).mono ?_
  rw [HE7.out]
  rintro e w8 ⟨wk, rfl, _, ⟨⟨L8, hr⟩, hf⟩⟩
  have HR8 := Lib.hid hr
  have HF8 := Lib.hid (HF7.out.trans (hf.bel.mono (Nat.le_succ _)))
  clear hr hf
  go_wp2_with fail
  refine wp_loop_rounds 4 ?_
  rw [rounds_succ]
  go_wp2_with fail
  refine (mask_calls 0 2 0 _ HR8.out HS2.out.ib (by omega)).mono ?_
  rw [HC1.out]
  rintro e w9 ⟨rfl, ⟨⟨L9, hr⟩, hf⟩⟩
  have HR9 := Lib.hid hr
  have HF9 := Lib.hid (HF8.out.trans (hf.bel.mono (Nat.le_succ _)))
  clear hr hf
  go_wp2_with fail
  rw [rounds_succ]
  go_wp2_with fail
  refine (mask_calls 1 2 0 _ HR9.out HS2.out.j1 (by omega)).mono ?_
  rw [HC2.out]
  rintro e w10 ⟨rfl, ⟨⟨L10, hr⟩, hf⟩⟩
  have HR10 := Lib.hid hr
  have HF10 := Lib.hid (HF9.out.trans (hf.bel.mono (Nat.le_succ _)))
  clear hr hf
  go_wp2_with fail
  rw [rounds_succ]
  go_wp2_with fail
  refine (mask_calls 2 2 0 _ HR10.out HS2.out.j2 (by omega)).mono ?_
  rw [HC3.out]
  rintro e w11 ⟨rfl, ⟨⟨L11, hr⟩, hf⟩⟩
  have HR11 := Lib.hid hr
  have HF11 := Lib.hid (HF10.out.trans (hf.bel.mono (Nat.le_succ _)))
  clear hr hf
  go_wp2_with fail
  rw [rounds_succ]
  go_wp2_with fail
  refine wp_loop_rounds 4 ?_
  rw [rounds_succ]
  go_wp2_with fail
  refine wp_loop_rounds 3 ?_
  rw [rounds_succ]
  go_wp2_with fail
  refine (next_calls 0 _ HR11.out HS2.out.j3).mono ?_
  rw [HN0.out]
  simp only [dv]
  rintro e w12 ⟨rfl, ⟨⟨L12, hr⟩, hf⟩⟩
  have HR12 := Lib.hid hr
  have HF12 := Lib.hid (HF11.out.trans (hf.bel.mono (Nat.le_succ _)))
  clear hr hf
  go_wp2_with fail
  rw [rounds_succ]
  go_wp2_with fail
  refine wp_loop_rounds 3 ?_
  rw [rounds_succ]
  go_wp2_with fail
  refine (next_calls 1 _ (HR12.out.below ((Below.refl _ _).alloc (Nat.le_refl _) _)) HS2.out.j3).mono ?_
  rw [HD.out]
  simp only [dv]
  rintro e w13 ⟨rfl, ⟨⟨L13, hr⟩, hf⟩⟩
  have HR13 := Lib.hid hr
  have HF13 := Lib.hid ((HF12.out.alloc HF12.out.size _).trans (hf.bel.mono (Nat.le_succ _)))
  clear hr hf
  go_wp2_with fail
  rw [rounds_succ]
  go_wp2_with fail
  refine (next_calls 1 _ (HR13.out.below ((Below.refl _ _).alloc (Nat.le_refl _) _)) HS2.out.iz).mono ?_
  rw [HN1.out]
  simp only [dv]
  rintro e w14 ⟨rfl, ⟨⟨L14, hr⟩, hf⟩⟩
  have HR14 := Lib.hid hr
  have HF14 := Lib.hid ((HF13.out.alloc HF13.out.size _).trans (hf.bel.mono (Nat.le_succ _)))
  clear hr hf
  go_wp2_with fail
  rw [rounds_succ]
  go_wp2_with fail
  refine wp_loop_rounds 3 ?_
  rw [rounds_succ]
  go_wp2_with fail
  refine (next_calls 2 _ (HR14.out.below ((Below.refl _ _).alloc (Nat.le_refl _) _)) HS2.out.iz).mono ?_
  rw [HN2.out]
  simp only [dv]
  rintro e w15 ⟨rfl, ⟨⟨L15, hr⟩, hf⟩⟩
  have HR15 := Lib.hid hr
  have HF15 := Lib.hid ((HF14.out.alloc HF14.out.size _).trans (hf.bel.mono (Nat.le_succ _)))
  clear hr hf
  go_wp2_with fail
  rw [rounds_succ]
  go_wp2_with fail
  refine (awake_calls _).mono ?_
  rintro e wz ⟨rfl, hb⟩
  have HZ := Lib.hid (below_then' (HF15.out.alloc HF15.out.size _) hb)
  clear hb
  go_wp2
  go_ret
  exact ⟨rfl, HZ.out⟩
set_option maxRecDepth 100000 in
set_option maxHeartbeats 4000000 in
theorem one_c (m0 m1 m2 : Nat) (g v : Int) (b0 : m0 < 18446744073709551616) (b1 : m1 < 18446744073709551616) (b2 : m2 < 18446744073709551616) (g0 : 0 ≤ g) (g1 : g ≤ 255) (w : World) (h17 : g.tmod 56 ≠ 16)
    {slot : Nat} {A1 A2 A3 A4 A5 A6 B C1 C2 C3 Z : St} {q0 q1 q2 : Nat} (hs : Steps m0 m1 m2 (1 + g.tmod 56) v slot A1 A2 A3 A4 A5 A6 B C1 C2 C3 Z q0 q1 q2) (hsl : slot = 2) :
    Calls Try.prog 3 #[.agg #[.int .u64 m0, .int .u64 m1, .int .u64 m2], .int .u8 g, .int .i64 v] w fun e w' => e = .returned (.bool true) ∧ Below w.heap.size w w' := by
  have t0 : 0 ≤ g.tmod 56 := Int.tmod_nonneg 56 g0
  have t1 : g.tmod 56 < 56 := Int.tmod_lt_of_pos g (by omega)
  have HS := Lib.hid hs
  have HB := Lib.hid (And.intro b0 (And.intro b1 b2))
  have HSL := Lib.hid hsl
  obtain ⟨q, hq⟩ : ∃ q, g.tmod 56 = q := ⟨_, rfl⟩
  rw [hq] at h17 t0 t1
  obtain ⟨s, hse⟩ : ∃ s, 1 + q = s := ⟨_, rfl⟩
  have s0 : 1 ≤ s := by omega
  have s1 : s ≤ 56 := by omega
  have n17 : (s == 17) = false := by simp; omega
  have nvv : (v != v) = false := by simp
  have nss : (s != s) = false := by simp
  have hS := HS.out
  rw [hq, hse] at hS
  obtain ⟨x1, hc1⟩ := hS.c1
  obtain ⟨x2, hc2⟩ := hS.c2
  obtain ⟨x3, hc3⟩ := hS.c3
  obtain ⟨d, hd⟩ : ∃ d, nextS C3 (2 : Int) = (((s, v, d), true), Z) := hS.ye 2 (by omega) (by omega)
  have n0 : nextS C3 (0 : Int) = (((0, 0, 0), false), C3) := hS.no 0 (by omega) (by omega) (by omega)
  have n1 : nextS C3 (1 : Int) = (((0, 0, 0), false), C3) := hS.no 1 (by omega) (by omega) (by omega)
  have n2 : nextS Z (2 : Int) = (((0, 0, 0), false), Z) := hS.z 2 (by omega)
  have HE1 := Lib.hid hS.e1
  have HE2 := Lib.hid hS.e2
  have HE3 := Lib.hid hS.e3
  have HE4 := Lib.hid hS.e4
  have HE5 := Lib.hid hS.e5
  have HE6 := Lib.hid hS.e6
  have HE7 := Lib.hid hS.e7
  have HC1 := Lib.hid hc1
  have HC2 := Lib.hid hc2
  have HC3 := Lib.hid hc3
  have HD := Lib.hid hd
  have HN0 := Lib.hid n0
  have HN1 := Lib.hid n1
  have HN2 := Lib.hid n2
  have HS2 := Lib.hid hS
  clear hs hsl hS hc1 hc2 hc3 hd n0 n1 n2 HS b0 b1 b2
  go_enter Try.func3, Try.ntmps3
  go_wp2_with fail
  refine (new_calls _).mono ?_
  rintro e w1 ⟨rfl, hr, hb⟩
  have e0 : (w.alloc (.cells #[.int .u64 m0, .int .u64 m1, .int .u64 m2] 23)).heap.size = w.heap.size + 1 := by simp
  have HF1 := Lib.hid (below_then' ((Below.refl w.heap.size w).alloc (Nat.le_refl _) _) hb)
  have hn1 := (hb.block w.heap.size (by simp)).trans (heap_alloc_new w (.cells #[.int .u64 m0, .int .u64 m1, .int .u64 m2] 23))
  have c0 : w1.cell? ⟨w.heap.size, 0, none⟩ = some (.int .u64 m0) := by rw [cell_of_row _ _ _ _ _ _ hn1]; rfl
  have c1 : w1.cell? ⟨w.heap.size, 1, none⟩ = some (.int .u64 m1) := by rw [cell_of_row _ _ _ _ _ _ hn1]; rfl
  have c2 : w1.cell? ⟨w.heap.size, 2, none⟩ = some (.int .u64 m2) := by rw [cell_of_row _ _ _ _ _ _ hn1]; rfl
  clear hn1
  rw [e0] at hr ⊢
  have HR1 := Lib.hid hr
  clear hr hb e0
  go_wp2_with fail
  refine wp_loop_rounds 4 ?_
  rw [rounds_succ]
  go_wp2_with fail
  refine (start_calls 0 0 _ HR1.out).mono ?_
  rw [HE1.out]
  rintro e w2 ⟨rfl, ⟨⟨L2, hr⟩, hf⟩⟩
  have HR2 := Lib.hid hr
  have HF2 := Lib.hid (HF1.out.trans (hf.bel.mono (Nat.le_succ _)))
  clear hr hf
  go_wp2_with fail
  refine (mask_calls 0 2 m0 _ HR2.out HS2.out.i1 HB.out.1).mono ?_
  rw [HE2.out]
  rintro e w3 ⟨rfl, ⟨⟨L3, hr⟩, hf⟩⟩
  have HR3 := Lib.hid hr
  have HF3 := Lib.hid (HF2.out.trans (hf.bel.mono (Nat.le_succ _)))
  clear hr hf
  go_wp2_with fail
  rw [rounds_succ]
  go_wp2_with fail
  refine (start_calls 1 0 _ HR3.out).mono ?_
  rw [HE3.out]
  rintro e w4 ⟨rfl, ⟨⟨L4, hr⟩, hf⟩⟩
  have HR4 := Lib.hid hr
  have HF4 := Lib.hid (HF3.out.trans (hf.bel.mono (Nat.le_succ _)))
  clear hr hf
  go_wp2_with fail
  refine (mask_calls 1 2 m1 _ HR4.out HS2.out.i3 HB.out.2.1).mono ?_
  rw [HE4.out]
  rintro e w5 ⟨rfl, ⟨⟨L5, hr⟩, hf⟩⟩
  have HR5 := Lib.hid hr
  have HF5 := Lib.hid (HF4.out.trans (hf.bel.mono (Nat.le_succ _)))
  clear hr hf
  go_wp2_with fail
  rw [rounds_succ]
  go_wp2_with fail
  refine (start_calls 2 0 _ HR5.out).mono ?_
  rw [HE5.out]
  rintro e w6 ⟨rfl, ⟨⟨L6, hr⟩, hf⟩⟩
  have HR6 := Lib.hid hr
  have HF6 := Lib.hid (HF5.out.trans (hf.bel.mono (Nat.le_succ _)))
  clear hr hf
  go_wp2_with fail
  refine (mask_calls 2 2 m2 _ HR6.out HS2.out.i5 HB.out.2.2).mono ?_
  rw [HE6.out]
  rintro e w7 ⟨rfl, ⟨⟨L7, hr⟩, hf⟩⟩
  have HR7 := Lib.hid hr
  have HF7 := Lib.hid (HF6.out.trans (hf.bel.mono (Nat.le_succ _)))
  clear hr hf
  go_wp2_with fail
  rw [rounds_succ]
  go_wp2_with fail
  refine (kill_calls (-1) 0 s v _ HR7.out HS2.out.i6).mono ?_
  rw [HE7.out]
  rintro e w8 ⟨wk, rfl, _, ⟨⟨L8, hr⟩, hf⟩⟩
  have HR8 := Lib.hid hr
  have HF8 := Lib.hid (HF7.out.trans (hf.bel.mono (Nat.le_succ _)))
  clear hr hf
  go_wp2_with fail
  refine wp_loop_rounds 4 ?_
  rw [rounds_succ]
  go_wp2_with fail
  refine (mask_calls 0 2 0 _ HR8.out HS2.out.ib (by omega)).mono ?_
  rw [HC1.out]
  rintro e w9 ⟨rfl, ⟨⟨L9, hr⟩, hf⟩⟩
  have HR9 := Lib.hid hr
  have HF9 := Lib.hid (HF8.out.trans (hf.bel.mono (Nat.le_succ _)))
  clear hr hf
  go_wp2_with fail
  rw [rounds_succ]
  go_wp2_with fail
  refine (mask_calls 1 2 0 _ HR9.out HS2.out.j1 (by omega)).mono ?_
  rw [HC2.out]
  rintro e w10 ⟨rfl, ⟨⟨L10, hr⟩, hf⟩⟩
  have HR10 := Lib.hid hr
  have HF10 := Lib.hid (HF9.out.trans (hf.bel.mono (Nat.le_succ _)))
  clear hr hf
  go_wp2_with fail
  rw [rounds_succ]
  go_wp2_with fail
  refine (mask_calls 2 2 0 _ HR10.out HS2.out.j2 (by omega)).mono ?_
  rw [HC3.out]
  rintro e w11 ⟨rfl, ⟨⟨L11, hr⟩, hf⟩⟩
  have HR11 := Lib.hid hr
  have HF11 := Lib.hid (HF10.out.trans (hf.bel.mono (Nat.le_succ _)))
  clear hr hf
  go_wp2_with fail
  rw [rounds_succ]
  go_wp2_with fail
  refine wp_loop_rounds 4 ?_
  rw [rounds_succ]
  go_wp2_with fail
  refine wp_loop_rounds 3 ?_
  rw [rounds_succ]
  go_wp2_with fail
  refine (next_calls 0 _ HR11.out HS2.out.j3).mono ?_
  rw [HN0.out]
  simp only [dv]
  rintro e w12 ⟨rfl, ⟨⟨L12, hr⟩, hf⟩⟩
  have HR12 := Lib.hid hr
  have HF12 := Lib.hid (HF11.out.trans (hf.bel.mono (Nat.le_succ _)))
  clear hr hf
  go_wp2_with fail
  rw [rounds_succ]
  go_wp2_with fail
  refine wp_loop_rounds 3 ?_
  rw [rounds_succ]
  go_wp2_with fail
  refine (next_calls 1 _ (HR12.out.below ((Below.refl _ _).alloc (Nat.le_refl _) _)) HS2.out.j3).mono ?_
  rw [HN1.out]
  simp only [dv]
  rintro e w13 ⟨rfl, ⟨⟨L13, hr⟩, hf⟩⟩
  have HR13 := Lib.hid hr
  have HF13 := Lib.hid ((HF12.out.alloc HF12.out.size _).trans (hf.bel.mono (Nat.le_succ _)))
  clear hr hf
  go_wp2_with fail
  rw [rounds_succ]
  go_wp2_with fail
  refine wp_loop_rounds 3 ?_
  rw [rounds_succ]
  go_wp2_with fail
  refine (next_calls 2 _ (HR13.out.below ((Below.refl _ _).alloc (Nat.le_refl _) _)) HS2.out.j3).mono ?_
  rw [HD.out]
  simp only [dv]
  rintro e w14 ⟨rfl, ⟨⟨L14, hr⟩, hf⟩⟩
  have HR14 := Lib.hid hr
  have HF14 := Lib.hid ((HF13.out.alloc HF13.out.size _).trans (hf.bel.mono (Nat.le_succ _)))
  clear hr hf
  go_wp2_with fail
  rw [rounds_succ]
  go_wp2_with fail
  refine (next_calls 2 _ (HR14.out.below ((Below.refl _ _).alloc (Nat.le_refl _) _)) HS2.out.iz).mono ?_
  rw [HN2.out]
  simp only [dv]
  rintro e w15 ⟨rfl, ⟨⟨L15, hr⟩, hf⟩⟩
  have HR15 := Lib.hid hr
  have HF15 := Lib.hid ((HF14.out.alloc HF14.out.size _).trans (hf.bel.mono (Nat.le_succ _)))
  clear hr hf
  go_wp2_with fail
  rw [rounds_succ]
  go_wp2_with fail
  refine (awake_calls _).mono ?_
  rintro e wz ⟨rfl, hb⟩
  have HZ := Lib.hid (below_then' (HF15.out.alloc HF15.out.size _) hb)
  clear hb
  go_wp2
  go_ret
  exact ⟨rfl, HZ.out⟩
set_option maxRecDepth 100000 in
theorem one_17 (m0 m1 m2 : Nat) (g v : Int) (w : World) (h17 : g.tmod 56 = 16) (g0 : 0 ≤ g) (g1 : g ≤ 255) :
    Calls Try.prog 3 #[.agg #[.int .u64 m0, .int .u64 m1, .int .u64 m2], .int .u8 g, .int .i64 v] w fun e w' => e = .returned (.bool true) ∧ Below w.heap.size w w' := by
  have HB := Lib.hid ((Below.refl w.heap.size w).alloc (Nat.le_refl _) (.cells #[.int .u64 m0, .int .u64 m1, .int .u64 m2] 23))
  go_enter Try.func3, Try.ntmps3
  go_wp2_with fail
  refine (awake_calls _).mono ?_
  rintro e wz ⟨rfl, hb⟩
  have HZ := Lib.hid (below_then' HB.out hb)
  clear hb
  go_wp2
  go_ret
  exact ⟨rfl, HZ.out⟩
theorem one_law (m0 m1 m2 : Nat) (g v : Int) (b0 : m0 < 18446744073709551616) (b1 : m1 < 18446744073709551616) (b2 : m2 < 18446744073709551616) (g0 : 0 ≤ g) (g1 : g ≤ 255) (w : World) :
    Calls Try.prog 3 #[.agg #[.int .u64 m0, .int .u64 m1, .int .u64 m2], .int .u8 g, .int .i64 v] w fun e w' => e = .returned (.bool true) ∧ Below w.heap.size w w' := by
  by_cases h : g.tmod 56 = 16
  · exact one_17 m0 m1 m2 g v w h g0 g1
  · have t0 : 0 ≤ g.tmod 56 := Int.tmod_nonneg 56 g0
    have t1 : g.tmod 56 < 56 := Int.tmod_lt_of_pos g (by omega)
    obtain ⟨slot, A1, A2, A3, A4, A5, A6, B, C1, C2, C3, Z, q0, q1, q2, hs⟩ := steps m0 m1 m2 (1 + g.tmod 56) v (by omega) (by omega) (by omega)
    rcases hs.sl with e | e | e | e
    · exact one_a m0 m1 m2 g v b0 b1 b2 g0 g1 w h hs (.inl e)
    · exact one_b m0 m1 m2 g v b0 b1 b2 g0 g1 w h hs e
    · exact one_c m0 m1 m2 g v b0 b1 b2 g0 g1 w h hs e
    · exact one_a m0 m1 m2 g v b0 b1 b2 g0 g1 w h hs (.inr e)
end Go.Proofs.Ytbpihfphoniclaa
