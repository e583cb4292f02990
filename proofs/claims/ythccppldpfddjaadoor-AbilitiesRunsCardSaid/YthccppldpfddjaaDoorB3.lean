/- What each kind of operation does with a right in an array. -/
import Derived.Test.YthccppldpfddjaaDoorB2
import Derived.Test.YthccppldpfddjaaDoorMid
namespace Go.Proofs.YthccppldpfddjaaDoor
open Go.RowKit
set_option linter.unusedVariables false
theorem Ends.splitV {P : Program} {c : Code} {a : Act} {w : World} {Q : Exit → Act → World → Prop} (T : Value → Act) (F : Value → World → Prop)
    (walk : c.wp P (Ends fun a' w' => ∃ v, a' = T v ∧ F v w') a w) (imp : ∀ v w', F v w' → Q .normal (T v) w') : c.wp P Q a w :=
  Code.wp_mono (Ends.imp fun a' w' h => by obtain ⟨v, rfl, hf⟩ := h; exact imp v w' hf) walk
theorem EndsIn.splitV {F : Fence} {n : Nat} {P : Program} {c : Code} {a : Act} {w : World} {Q : Exit → Act → World → Prop} (T : Value → Act) (G : Value → World → Prop)
    (walk : c.wpIn F n P (Ends fun a' w' => ∃ v, a' = T v ∧ G v w') a w) (imp : ∀ v w', G v w' → Q .normal (T v) w') : c.wpIn F n P Q a w :=
  wpIn_mono walk (Ends.imp fun a' w' h => by obtain ⟨v, rfl, hf⟩ := h; exact imp v w' hf)
theorem Ends.stays {S : Act → World → Prop} : ¬ LetsOut (Ends S) := fun ⟨_, _, h⟩ => h
/-- The cells of an operation. -/
def opA (o : OpA) : Array Value := #[.int .i64 o.kind, .int .i64 o.ab, .int .i64 o.dom, .int .i64 o.lo, .int .i64 o.hi]
theorem five_cells {w : World} {g : Nat} {a b c d e : Value} {t : TypeId} (h : w.heap[g]? = some (.cells #[a, b, c, d, e] t (0, 0))) : w.cell? ⟨g, 0, none⟩ = some a ∧ w.cell? ⟨g, 1, none⟩ = some b ∧ w.cell? ⟨g, 2, none⟩ = some c ∧ w.cell? ⟨g, 3, none⟩ = some d ∧ w.cell? ⟨g, 4, none⟩ = some e := by
  refine ⟨?_, ?_, ?_, ?_, ?_⟩ <;> rw [cell_of_row _ _ _ _ _ _ h] <;> rfl
/-- What an effect leaves: right number i of the array is what it should be; nothing else has turned. -/
def Eff (w : World) (tb i : Nat) (C : Nat → Rt) (r : Rt) (e : Ending) (w' : World) : Prop :=
  e = .returned (.tuple #[]) ∧ ∃ lv', RArr 2 39 43 w' tb lv' (upd C i r) ∧ w.grownBy w' (some tb)
theorem grown_then {w w1 : World} {tb : Nat} (h : Below w.heap.size w w1) (hlt : tb < w.heap.size) (j : Nat) (v : Value) : w.grownBy (w1.setCell ⟨tb, j, none⟩ v) (some tb) :=
  ⟨h.os, h.tape, h.output, by have := h.size; simpa [World.setCell] using this, fun k hk hne => by
    rw [Below.heap_setCell _ _ _ _ (by rintro rfl; exact hne rfl)]
    exact h.block k hk⟩
set_option maxHeartbeats 2000000 in
set_option maxRecDepth 100000 in
theorem eff_allow (o : OpA) (tb i : Nat) (lv : Nat → Value) (C : Nat → Rt) (w : World) (hi : i < 2) (h : RArr 2 39 43 w tb lv C) (hG : Good (C i).rs) (hlen : (C i).rs.length ≤ 51) (hb : okR (o.lo, o.hi)) :
    Calls Tryd.prog 101 #[.pointer (some ⟨tb, i * 3, none⟩), .agg (opA o)] w (Eff w tb i C { C i with rs := withR (C i).rs o.lo o.hi }) := by
  obtain ⟨W0, hW0⟩ : ∃ W0, W0 = w.alloc (.cells (opA o) 35) := ⟨_, rfl⟩
  have hb0 : Below w.heap.size w W0 := by rw [hW0]; exact (Below.refl _ w).alloc (Nat.le_refl _) _
  have hbx : W0.heap[w.heap.size]? = some (.cells (opA o) 35 (0, 0)) := by rw [hW0]; exact heap_alloc_new w (.cells (opA o) 35)
  obtain ⟨A, cap, hv, -, -, -, -⟩ := Rw.form (h.row i hi)
  have HWC := Lib.hid (fun W (hW : Below w.heap.size w W) => with_calls (lv i) (C i).rs o.lo o.hi W ((h.row i hi).below hW) hG hlen hb)
  have HH := Lib.hid (And.intro hi (And.intro h hb0))
  have HF := Lib.hid (show ∀ w', Below W0.heap.size W0 w' → w'.cell? ⟨tb, i * 3, none⟩ = some (lv i) ∧ w'.cell? ⟨w.heap.size, 3, none⟩ = some (.int .i64 o.lo) ∧ w'.cell? ⟨w.heap.size, 4, none⟩ = some (.int .i64 o.hi) from fun w' hk => by
    have h1 := ((h.below hb0).below hk).three hi
    have h2 := five_cells ((hk.block _ (by rw [hW0]; simp)).trans hbx)
    exact ⟨h1.1, h2.2.2.2.1, h2.2.2.2.2⟩)
  have HQ := Lib.hid (Eq.trans hW0 rfl)
  clear hi h hG hlen hb hb0 hbx
  unfold opA at hW0 ⊢
  rw [hv] at HWC HF
  go_enter Tryd.func101, Tryd.ntmps101
  go_wp2_with fail
  rw [← hW0]
  clear hW0
  apply Ends.splitV (F := fun v w2 => ∃ w1, w2 = w1.setCell ⟨tb, i * 3, none⟩ v ∧ Ls w1 43 v (withR (C i).rs o.lo o.hi) ∧ Below w.heap.size w w1)
  case walk =>
    refine wp_region_tails 9 3 (fun w' => Below W0.heap.size W0 w')
      [.pointer (some ⟨tb, i * 3, none⟩), .pointer (some ⟨tb, i * 3, none⟩), .pointer (some ⟨tb, i * 3, none⟩), .pointer (some ⟨tb, i * 3, none⟩), .slice A (C i).rs.length cap, .pointer (some ⟨w.heap.size, 3, none⟩), .int .i64 o.lo, .pointer (some ⟨w.heap.size, 4, none⟩), .int .i64 o.hi]
      (by rfl) (by kernel_rfl) (fun _ _ _ _ _ h => h) (Below.drew (Below.refl _ _)) ?heads ?_
    case heads =>
      simp only [List.take_succ_cons, List.take_zero]
      refine ⟨.inl ⟨rfl, fun w' hw => ?_⟩, .inl ⟨rfl, fun w' hw => ?_⟩, .inl ⟨rfl, fun w' hw => ?_⟩, .inl ⟨rfl, fun w' hw => ?_⟩, .inl ⟨rfl, fun w' hw => ?_⟩, .inl ⟨rfl, fun w' hw => ?_⟩, .inl ⟨rfl, fun w' hw => ?_⟩, .inl ⟨rfl, fun w' hw => ?_⟩, .inl ⟨rfl, fun w' hw => ?_⟩, trivial⟩ <;>
        (obtain ⟨f1, f2, f3⟩ := HF.out w' hw; show (execOp _ _).run Tryd.prog w' = _; go_simp)
    simp only [List.take_succ_cons, List.take_zero, List.drop_succ_cons, List.drop_zero, putAll, Act.put, List.setIfInBounds_toArray, List.set_cons_zero, List.set_cons_succ]
    refine wpListR_cons fun K hK => ?_
    refine if_wanted rfl (step_call 102 _ _ rfl (fun _ _ => rfl) [.slice A (C i).rs.length cap, .int .i64 o.lo, .int .i64 o.hi] rfl (HWC.out _ (HH.out.2.2.trans ((Below.drew (Below.refl _ _)).mono HH.out.2.2.size))) ?_)
    rintro e w1 ⟨v', rfl, h1, h2⟩
    obtain ⟨A', cap', rfl, -, -, -, -⟩ := Rw.form h1
    refine ⟨_, rfl, hK _ _ ((Below.drew (Below.refl _ _)).trans h2) ?_⟩
    have HB1 := Lib.hid (show Below w.heap.size w w1 from HH.out.2.2.trans (((Below.drew (Below.refl _ _)).trans h2).mono HH.out.2.2.size))
    have HB2 := Lib.hid (show Below W0.heap.size W0 w1 from (Below.drew (Below.refl _ _)).trans h2)
    have hc0 := ((HH.out.2.1.below HB1.out).three HH.out.1).1
    have hf0 := (HH.out.2.1.below HB1.out).frozen (i * 3)
    have HX := Lib.hid h1
    clear h1 h2 hK K
    try simp only [Act.put, List.setIfInBounds_toArray, List.set_cons_zero, List.set_cons_succ]
    refine wpListR_cons fun K hK => ?_
    go_simp
    refine hK _ _ HB2.out ?_
    clear hK K
    try simp only [Act.put, List.setIfInBounds_toArray, List.set_cons_zero, List.set_cons_succ]
    refine wpListR_cons fun K hK => ?_
    go_simp
    refine hK _ _ HB2.out ?_
    clear hK K
    try simp only [Act.put, List.setIfInBounds_toArray, List.set_cons_zero, List.set_cons_succ]
    refine wpListR_nil ?_
    go_wp2
    generalize hV : Value.slice A' (withR (C i).rs o.lo o.hi).length cap' = V
    apply Ends.mk
    exact ⟨V, rfl, _, rfl, hV ▸ HX.out, HB1.out⟩
  case imp =>
    rintro v' w2 ⟨w1, rfl, h1, h2⟩
    go_end0
    exact ⟨rfl, _, (HH.out.2.1.below h2).set_rs (by decide) HH.out.1 h1, grown_then h2 HH.out.2.1.lt _ _⟩
set_option maxHeartbeats 2000000 in
set_option maxRecDepth 100000 in
theorem eff_forbid (o : OpA) (tb i : Nat) (lv : Nat → Value) (C : Nat → Rt) (w : World) (hi : i < 2) (h0 : RArr 2 39 43 w tb lv C) (hG : Good (C i).rs) (hlen : (C i).rs.length ≤ 51) (hb : okR (o.lo, o.hi)) :
    Calls Tryd.prog 103 #[.pointer (some ⟨tb, i * 3, none⟩), .agg (opA o)] w (Eff w tb i C { C i with rs := outS (C i).rs o.lo o.hi }) := by
  obtain ⟨W0, hW0⟩ : ∃ W0, W0 = w.alloc (.cells (opA o) 35) := ⟨_, rfl⟩
  have hb0 : Below w.heap.size w W0 := by rw [hW0]; exact (Below.refl _ w).alloc (Nat.le_refl _) _
  have hbx : W0.heap[w.heap.size]? = some (.cells (opA o) 35 (0, 0)) := by rw [hW0]; exact heap_alloc_new w (.cells (opA o) 35)
  have h := h0
  obtain ⟨A, cap, hv, -, -, -, -⟩ := Rw.form (h.row i hi)
  have HWC := Lib.hid (fun W (hW : Below w.heap.size w W) (W' : World) (h : W' = ((W.alloc (.cells #[lv i] 36)).alloc (.cells #[.int .i64 o.lo] 2)).alloc (.cells #[.int .i64 o.hi] 2)) => collect_outside (lv i) (C i).rs o.lo o.hi W ((h0.row i hi).below hW) (by omega) (by have := hb.1; simp at this; omega) (by have := hb.2.2; simp [MX] at this; omega) (by have := hb.2.1; simpa using this) W' h)
  have HH := Lib.hid (And.intro hi (And.intro h hb0))
  have HF := Lib.hid (show ∀ w', Below W0.heap.size W0 w' → w'.cell? ⟨tb, i * 3, none⟩ = some (lv i) ∧ w'.cell? ⟨w.heap.size, 3, none⟩ = some (.int .i64 o.lo) ∧ w'.cell? ⟨w.heap.size, 4, none⟩ = some (.int .i64 o.hi) from fun w' hk => by
    have h1 := ((h.below hb0).below hk).three hi
    have h2 := five_cells ((hk.block _ (by rw [hW0]; simp)).trans hbx)
    exact ⟨h1.1, h2.2.2.2.1, h2.2.2.2.2⟩)
  have HQ := Lib.hid (Eq.trans hW0 rfl)
  clear hi h h0 hG hlen hb hb0 hbx
  unfold opA at hW0 ⊢
  rw [hv] at HWC HF
  go_enter Tryd.func103, Tryd.ntmps103
  go_wp2_with fail
  rw [← hW0]
  clear hW0
  apply Ends.splitV (F := fun v w2 => ∃ w1, w2 = w1.setCell ⟨tb, i * 3, none⟩ v ∧ Ls w1 43 v (outS (C i).rs o.lo o.hi) ∧ Below w.heap.size w w1)
  case walk =>
    refine wp_region_tails 9 4 (fun w' => Below W0.heap.size W0 w')
      [.pointer (some ⟨tb, i * 3, none⟩), .pointer (some ⟨tb, i * 3, none⟩), .pointer (some ⟨tb, i * 3, none⟩), .pointer (some ⟨tb, i * 3, none⟩), .slice A (C i).rs.length cap, .pointer (some ⟨w.heap.size, 3, none⟩), .int .i64 o.lo, .pointer (some ⟨w.heap.size, 4, none⟩), .int .i64 o.hi]
      (by rfl) (by kernel_rfl) (fun _ _ _ _ _ h => h) (Below.drew (Below.refl _ _)) ?heads ?_
    case heads =>
      simp only [List.take_succ_cons, List.take_zero]
      refine ⟨.inl ⟨rfl, fun w' hw => ?_⟩, .inl ⟨rfl, fun w' hw => ?_⟩, .inl ⟨rfl, fun w' hw => ?_⟩, .inl ⟨rfl, fun w' hw => ?_⟩, .inl ⟨rfl, fun w' hw => ?_⟩, .inl ⟨rfl, fun w' hw => ?_⟩, .inl ⟨rfl, fun w' hw => ?_⟩, .inl ⟨rfl, fun w' hw => ?_⟩, .inl ⟨rfl, fun w' hw => ?_⟩, trivial⟩ <;>
        (obtain ⟨f1, f2, f3⟩ := HF.out w' hw; show (execOp _ _).run Tryd.prog w' = _; go_simp)
    simp only [List.take_succ_cons, List.take_zero, List.drop_succ_cons, List.drop_zero, putAll, Act.put, List.setIfInBounds_toArray, List.set_cons_zero, List.set_cons_succ]
    refine wpListR_cons fun K hK => ?_
    refine if_wanted rfl (step_call 105 _ _ rfl (fun _ _ => rfl) [.slice A (C i).rs.length cap, .int .i64 o.lo, .int .i64 o.hi] rfl (outside_calls A (C i).rs.length cap o.lo o.hi _) ?_)
    rintro e wa ⟨rfl, hw1⟩
    have HW1 := Lib.hid hw1
    have hs1 : Below W0.drew.heap.size W0.drew wa := by rw [hw1]; exact (((Below.refl _ W0.drew).alloc (Nat.le_refl _) _).alloc (by simp) _).alloc (by simp; omega) _
    have HS1 := Lib.hid hs1
    clear hw1 hs1
    refine ⟨_, rfl, hK _ _ ((Below.drew (Below.refl _ _)).trans HS1.out) ?_⟩
    clear hK K
    try simp only [Act.put, List.setIfInBounds_toArray, List.set_cons_zero, List.set_cons_succ]
    refine wpListR_cons fun K hK => ?_
    refine if_wanted rfl (step_call 104 _ _ rfl (fun _ _ => rfl) [.func (.func 113) #[] #[.pointer (some ⟨W0.drew.heap.size, 0, none⟩), .pointer (some ⟨W0.drew.heap.size + 1, 0, none⟩), .pointer (some ⟨W0.drew.heap.size + 2, 0, none⟩)]] rfl (HWC.out W0.drew (HH.out.2.2.trans ((Below.drew (Below.refl _ _)).mono HH.out.2.2.size)) _ HW1.out) ?_)
    rintro e w1 ⟨v', rfl, h1, -, h2⟩
    obtain ⟨A', cap', rfl, -, -, -, -⟩ := Rw.form h1
    refine ⟨_, rfl, hK _ _ ((Below.drew (Below.refl _ _)).trans h2) ?_⟩
    clear HW1 HS1
    have HB1 := Lib.hid (show Below w.heap.size w w1 from HH.out.2.2.trans (((Below.drew (Below.refl _ _)).trans h2).mono HH.out.2.2.size))
    have HB2 := Lib.hid (show Below W0.heap.size W0 w1 from (Below.drew (Below.refl _ _)).trans h2)
    have hc0 := ((HH.out.2.1.below HB1.out).three HH.out.1).1
    have hf0 := (HH.out.2.1.below HB1.out).frozen (i * 3)
    have HX := Lib.hid h1
    clear h1 h2 hK K
    try simp only [Act.put, List.setIfInBounds_toArray, List.set_cons_zero, List.set_cons_succ]
    refine wpListR_cons fun K hK => ?_
    go_simp
    refine hK _ _ HB2.out ?_
    clear hK K
    try simp only [Act.put, List.setIfInBounds_toArray, List.set_cons_zero, List.set_cons_succ]
    refine wpListR_cons fun K hK => ?_
    go_simp
    refine hK _ _ HB2.out ?_
    clear hK K
    try simp only [Act.put, List.setIfInBounds_toArray, List.set_cons_zero, List.set_cons_succ]
    refine wpListR_nil ?_
    go_wp2
    generalize hV : Value.slice A' (outS (C i).rs o.lo o.hi).length cap' = V
    apply Ends.mk
    exact ⟨V, rfl, _, rfl, hV ▸ HX.out, HB1.out⟩
  case imp =>
    rintro v' w2 ⟨w1, rfl, h1, h2⟩
    go_end0
    exact ⟨rfl, _, (HH.out.2.1.below h2).set_rs (by decide) HH.out.1 h1, grown_then h2 HH.out.2.1.lt _ _⟩

set_option maxRecDepth 100000 in
theorem eff_lock (o : OpA) (tb i : Nat) (lv : Nat → Value) (C : Nat → Rt) (w : World) (hi : i < 2) (h : RArr 2 39 43 w tb lv C) :
    Calls Tryd.prog 106 #[.pointer (some ⟨tb, i * 3, none⟩), .agg (opA o)] w (Eff w tb i C { C i with lk := true }) := by
  have hb0 : Below w.heap.size w (w.alloc (.cells (opA o) 35)) := (Below.refl _ w).alloc (Nat.le_refl _) _
  have HH := Lib.hid (And.intro hi (And.intro h hb0))
  have c0 := ((h.below hb0).three hi).2.1
  have f0 := (h.below hb0).frozen (i * 3 + 1)
  clear hi h hb0
  unfold opA at c0 f0 ⊢
  go_enter Tryd.func106, Tryd.ntmps106
  go_wp2
  go_end0
  exact ⟨rfl, _, (HH.out.2.1.below HH.out.2.2).set_lk (by decide) HH.out.1 true, grown_then HH.out.2.2 HH.out.2.1.lt _ _⟩
set_option maxRecDepth 100000 in
theorem eff_inherit (o : OpA) (tb i : Nat) (lv : Nat → Value) (C : Nat → Rt) (w : World) (hi : i < 2) (h : RArr 2 39 43 w tb lv C) :
    Calls Tryd.prog 107 #[.pointer (some ⟨tb, i * 3, none⟩), .agg (opA o)] w (Eff w tb i C { C i with inh := true }) := by
  have hb0 : Below w.heap.size w (w.alloc (.cells (opA o) 35)) := (Below.refl _ w).alloc (Nat.le_refl _) _
  have HH := Lib.hid (And.intro hi (And.intro h hb0))
  have c0 := ((h.below hb0).three hi).2.2
  have f0 := (h.below hb0).frozen (i * 3 + 2)
  clear hi h hb0
  unfold opA at c0 f0 ⊢
  go_enter Tryd.func107, Tryd.ntmps107
  go_wp2
  go_end0
  exact ⟨rfl, _, (HH.out.2.1.below HH.out.2.2).set_inh (by decide) HH.out.1 true, grown_then HH.out.2.2 HH.out.2.1.lt _ _⟩
set_option maxRecDepth 100000 in
theorem eff_alone (o : OpA) (tb i : Nat) (lv : Nat → Value) (C : Nat → Rt) (w : World) (hi : i < 2) (h : RArr 2 39 43 w tb lv C) :
    Calls Tryd.prog 108 #[.pointer (some ⟨tb, i * 3, none⟩), .agg (opA o)] w (Eff w tb i C { C i with inh := false }) := by
  have hb0 : Below w.heap.size w (w.alloc (.cells (opA o) 35)) := (Below.refl _ w).alloc (Nat.le_refl _) _
  have HH := Lib.hid (And.intro hi (And.intro h hb0))
  have c0 := ((h.below hb0).three hi).2.2
  have f0 := (h.below hb0).frozen (i * 3 + 2)
  clear hi h hb0
  unfold opA at c0 f0 ⊢
  go_enter Tryd.func108, Tryd.ntmps108
  go_wp2
  go_end0
  exact ⟨rfl, _, (HH.out.2.1.below HH.out.2.2).set_inh (by decide) HH.out.1 false, grown_then HH.out.2.2 HH.out.2.1.lt _ _⟩
/-- Whatever the kind, the effect is what effS says. -/
theorem eff_any (o : OpA) (tb i : Nat) (lv : Nat → Value) (C : Nat → Rt) (w : World) (hi : i < 2) (h : RArr 2 39 43 w tb lv C) (hG : Good (C i).rs) (hlen : (C i).rs.length ≤ 51) (hb : okR (o.lo, o.hi)) (f : Nat) (hf : (o.kind = 0 ∧ f = 101) ∨ (o.kind = 1 ∧ f = 103) ∨ (o.kind = 2 ∧ f = 106) ∨ (o.kind = 3 ∧ f = 107) ∨ (o.kind = 4 ∧ f = 108)) :
    Calls Tryd.prog f #[.pointer (some ⟨tb, i * 3, none⟩), .agg (opA o)] w (Eff w tb i C (effS o.kind o.lo o.hi (C i))) := by
  rcases hf with ⟨h1, rfl⟩ | ⟨h1, rfl⟩ | ⟨h1, rfl⟩ | ⟨h1, rfl⟩ | ⟨h1, rfl⟩ <;> rw [h1]
  · exact eff_allow o tb i lv C w hi h hG hlen hb
  · exact eff_forbid o tb i lv C w hi h hG hlen hb
  · exact eff_lock o tb i lv C w hi h
  · exact eff_inherit o tb i lv C w hi h
  · exact eff_alone o tb i lv C w hi h
end Go.Proofs.YthccppldpfddjaaDoor
