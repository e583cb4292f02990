/- Parse of the program. -/
import Derived.Test.YtofibebphfeglaaDoorX6
import Derived.RangeFuncLeaves
namespace Go.Proofs.YtofibebphfeglaaDoor
open Go.RowKit
set_option linter.unusedVariables false
attribute [local go_sem] Oper.semAt_some
theorem results_rows {fn : Func} {p q : Tmp} {ty ty2 : TypeId} (h : fn.results = #[.cell p ty, .cell q ty2]) (tmps : Array Value) (P : Program) (w : World) (g g2 : Nat) (t t2 : TypeId) (cs cs2 : Array Value) (fr fr2 : Nat × Nat) (d d2 : TypeDesc)
    (hp : tmps.getD p undef = .pointer (some ⟨g, 0, none⟩)) (hg : w.heap[g]? = some (.cells cs t fr)) (hd : (match d with | .struct _ | .array _ _ => true | _ => false) = true) (hu : P.underlying ty = some d) (hi : (P.info? ty).map (·.size) = some cs.size)
    (hq : tmps.getD q undef = .pointer (some ⟨g2, 0, none⟩)) (hg2 : w.heap[g2]? = some (.cells cs2 t2 fr2)) (hd2 : (match d2 with | .struct _ | .array _ _ => true | _ => false) = true) (hu2 : P.underlying ty2 = some d2) (hi2 : (P.info? ty2).map (·.size) = some cs2.size) :
    (results fn tmps).run P w = .ok (.tuple #[.agg cs, .agg cs2]) w := by
  have hp' : tmps[p]?.getD undef = .pointer (some ⟨g, 0, none⟩) := by simpa using hp
  have hq' : tmps[q]?.getD undef = .pointer (some ⟨g2, 0, none⟩) := by simpa using hq
  have g1 := run_loadVar_row (P := P) w g t ty cs fr d hg hu (by cases d <;> simp_all) hi
  have g2' := run_loadVar_row (P := P) w g2 t2 ty2 cs2 fr2 d2 hg2 hu2 (by cases d2 <;> simp_all) hi2
  simp [results, h, hp', hq', asAddr, Sem.run_bind, g1, g2']
def retP (r : List Int × Int × Int) : Value := .tuple #[.agg (ints r.1), .agg (flt r.2.1 r.2.2)]
set_option maxRecDepth 100000 in
theorem parse_long (s : Bs) (w : World) (hl : 65536 < s.length) : Calls Tryd.prog 14 #[bstr s] w fun e w' => e = .returned (retP (parsed s)) ∧ Below w.heap.size w w' := by
  have hp : parsed s = (z26, 0, 18) := by unfold parsed; rw [if_pos hl]
  rw [hp]
  unfold retP bstr
  have hl' : (65536 : Int) < (s.length : Int) := by omega
  have h28 := heap_alloc_new w (.cells (ints z26) 28)
  have h36 := heap_alloc_new (w.alloc (.cells (ints z26) 28)) (.cells (flt 0 0) 36)
  rw [World.size_alloc] at h36
  have HH := Lib.hid (And.intro ((Below.heap_alloc (w.alloc (.cells (ints z26) 28)) (.cells (flt 0 0) 36) w.heap.size (by simp)).trans h28) h36)
  clear h28 h36 hp
  go_enter Tryd.func14, Tryd.ntmps14
  go_wp2_with (first
    | ((with_reducible change wpList _ _ _ (⟨_, .alloc 28, _, _, _, _⟩ :: _) _ _); refine wpList_alloc_to rfl 28 rfl (ints z26) zero28 ?_)
    | ((with_reducible change wpList _ _ _ (⟨_, .build 28 _, _, _, _, _⟩ :: _) _ _); refine wpList_build_to rfl 28 #[] rfl [] (by simp) _ built28z ?_)
    | ((with_reducible change wpList _ _ _ (⟨_, .store 28 _ _, _, _, _, _⟩ :: _) _ _); refine wpList_store_row rfl 28 (.tmp 2) (.tmp 16) rfl w.heap.size (ints z26) rfl rfl 28 _ HH.out.1 size28 rfl (ints_one _) ?_)
    | ((with_reducible change wpList _ _ _ (⟨_, .store 36 _ _, _, _, _, _⟩ :: _) _ _); refine wpList_store_row rfl 36 (.tmp 3) (.tmp 17) rfl (w.heap.size + 1) (flt 0 18) rfl rfl 36 _ ((setRow_other _ _ _ _ (by omega)).trans HH.out.2) size36 rfl (by simp [flt, Value.oneCell']) ?_))
  have h1 := (setRow_heap _ _ _ (flt 0 18) _ _ ((setRow_other ((w.alloc (.cells (ints z26) 28)).alloc (.cells (flt 0 0) 36)) w.heap.size (w.heap.size + 1) (ints z26) (by omega)).trans HH.out.2))
  have h2 := (setRow_other (((w.alloc (.cells (ints z26) 28)).alloc (.cells (flt 0 0) 36)).setRow w.heap.size (ints z26)) (w.heap.size + 1) w.heap.size (flt 0 18) (by omega)).trans (setRow_heap _ _ _ (ints z26) _ _ HH.out.1)
  refine bodyPost_ret (results_rows rfl _ _ _ w.heap.size (w.heap.size + 1) 28 36 (ints z26) (flt 0 18) (0, 0) (0, 0) _ _ rfl h2 rfl Tryd.underlying28 size28 rfl h1 rfl Tryd.underlying36 size36) rfl ⟨rfl, ?_⟩
  exact below_setRow' (below_setRow' (((Below.refl _ w).alloc (Nat.le_refl _) _).alloc (by simp) _) (Nat.le_refl _) _) (by omega) _
end Go.Proofs.YtofibebphfeglaaDoor
