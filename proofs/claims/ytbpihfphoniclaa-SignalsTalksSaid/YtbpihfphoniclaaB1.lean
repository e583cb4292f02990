import Derived.Test.YtbpihfphoniclaaA8
namespace Go.Proofs.Ytbpihfphoniclaa
open Go.RowKit
set_option linter.unusedVariables false
def L0 : Lay := { ptr := fun _ => none, lv := fun _ => .slice none 0 0 }
def zeroTab : Array Value := ((List.range 4224).map (tcell L0 S0)).toArray
set_option maxRecDepth 100000 in
theorem built77 : Try.prog.built 77 [] = some zeroTab := by kernel_rfl
theorem rep_zero (w : World) : RepL (w.alloc (.cells zeroTab 77)) w.heap.size w.heap.size L0 S0 := by
  refine ⟨⟨zeroTab, heap_alloc_new _ _, by simp [zeroTab], fun i hi => by simp [zeroTab, hi]⟩, Nat.le_refl _, fun i _ _ => ⟨rfl, rfl⟩, ?_, ?_, fun i _ => ls_nil _ _, ?_, ?_⟩
  · intro i hi x hx; cases hx
  · intro i j b hi hj h1; cases h1
  · intro i hi g h1; cases h1
  · intro i j g hi hj h1; cases h1
set_option maxRecDepth 100000 in
theorem new_calls (w : World) : Calls Try.prog 11 #[] w fun e w' => e = .returned (.pointer (some ⟨w.heap.size, 0, none⟩)) ∧ RepL w' w.heap.size w.heap.size L0 S0 ∧ Below w.heap.size w w' := by
  have HR := Lib.hid (rep_zero w)
  go_enter Try.func11, Try.ntmps11
  go_wp2_with ((with_reducible change wpList _ _ _ (⟨_, .build 77 _, _, _, _, _⟩ :: _) _ _); refine wpList_build_to rfl 77 #[] rfl [] (by rfl) _ built77 ?_)
  go_ret
  exact ⟨rfl, HR.out, (Below.refl _ _).alloc (Nat.le_refl _) _⟩
def TS : List TypeId := [77, 80, 94]
theorem RepL.tab_ty {w : World} {base t : Nat} {L : Lay} {S : St} (h : RepL w base t L S) : ∀ o, w.heap[t]? = some o → ∃ e, oty o = some e ∧ e ∈ TS := by
  intro o ho
  obtain ⟨cs, h1, _⟩ := h.tab
  rw [h1] at ho
  cases ho
  exact ⟨77, rfl, by decide⟩
theorem RepL.frT {w : World} {base t : Nat} {L : Lay} {S : St} (h : RepL w base t L S) (i : Nat) (v : Value) : Fr base TS w (w.setCell ⟨t, i, none⟩ v) := Fr.setCell h.bt h.tab_ty
theorem RepL.rep {w : World} {base t : Nat} {L : Lay} {S : St} (h : RepL w base t L S) : Rep w base t S := ⟨L, h⟩
/-- What a call leaves. -/
def After (base t : Nat) (S' : St) (w w' : World) : Prop := Rep w' base t S' ∧ Fr base TS w w'
theorem After.refl {w : World} {base t : Nat} {L : Lay} {S : St} (h : RepL w base t L S) : After base t S w w := ⟨⟨L, h⟩, Fr.refl _ _ _⟩
theorem After.below {w w' : World} {base t : Nat} {L : Lay} {S : St} (h : RepL w base t L S) (hb : Below w.heap.size w w') : After base t S w w' := ⟨⟨L, h.below hb⟩, Fr.of_below hb h.base_lt⟩
theorem start_nil (th p : Int) (w : World) : Calls Try.prog 12 #[.pointer none, .int .i64 th, .int .i64 p] w fun e w' => e = .returned (.int .i64 35) ∧ w = w' := by
  go_enter Try.func12, Try.ntmps12
  go_wp2
  go_ret
  exact ⟨rfl, rfl⟩
set_option maxRecDepth 100000 in
theorem start_calls {base t : Nat} {L : Lay} {S : St} (th p : Int) (w : World) (h : RepL w base t L S) :
    Calls Try.prog 12 #[.pointer (some ⟨t, 0, none⟩), .int .i64 th, .int .i64 p] w fun e w' => e = .returned (.int .i64 (startS S th p).1) ∧ After base t (startS S th p).2 w w' := by
  unfold startS
  have HA := Lib.hid (After.refl h)
  cases hth : isTh th with
  | false =>
    have H1 := Lib.hid hth
    clear hth h
    go_enter Try.func12, Try.ntmps12
    go_wp2_with (first
      | (go_at_call 27; refine (thread_calls th _).mono ?_; rw [H1.out]; rintro e w' ⟨rfl, rfl⟩))
    go_ret
    exact ⟨rfl, HA.out⟩
  | true =>
    cases hp : isPr p with
    | false =>
      have H1 := Lib.hid (And.intro hth hp)
      clear hth h hp
      go_enter Try.func12, Try.ntmps12
      go_wp2_with (first
        | (go_at_call 27; refine (thread_calls th _).mono ?_; rw [H1.out.1]; rintro e w' ⟨rfl, rfl⟩)
        | (go_at_call 28; refine (process_calls p _).mono ?_; rw [H1.out.2]; rintro e w' ⟨rfl, rfl⟩))
      go_ret
      exact ⟨rfl, HA.out⟩
    | true =>
      have H1 := Lib.hid (And.intro hth hp)
      obtain ⟨t0, t1⟩ := isTh_iff.1 hth
      have H := Lib.hid h
      cases hx : S.tk th.toNat with
      | some x =>
        obtain ⟨b, hb, _, _, _, hc⟩ := h.task_cell (by omega) hx
        clear hth h hp hx hb
        go_enter Try.func12, Try.ntmps12
        go_wp2_with (first
          | (go_at_call 27; refine (thread_calls th _).mono ?_; rw [H1.out.1]; rintro e w' ⟨rfl, rfl⟩)
          | (go_at_call 28; refine (process_calls p _).mono ?_; rw [H1.out.2]; rintro e w' ⟨rfl, rfl⟩))
        go_ret
        exact ⟨rfl, HA.out⟩
      | none =>
        have hc := h.none_cell (by omega) hx
        have hf := h.frozenT th.toNat
        have hf2 := h.frozenT (3968 + th.toNat)
        have hc2 := h.cellT (3968 + th.toNat) (by omega)
        rw [tcell_got L S th.toNat _ rfl] at hc2
        have hlt := h.lt
        have HX := Lib.hid hx
        clear hth h hp hx
        go_enter Try.func12, Try.ntmps12
        go_wp2_with (first
          | (go_at_call 27; refine (thread_calls th _).mono ?_; rw [H1.out.1]; rintro e w' ⟨rfl, rfl⟩)
          | (go_at_call 28; refine (process_calls p _).mono ?_; rw [H1.out.2]; rintro e w' ⟨rfl, rfl⟩))
        go_ret
        refine ⟨rfl, ?_⟩
        rw [← World.setCell_alloc_past _ _ _ _ (by simpa using hlt), ← World.setCell_alloc_past _ _ _ _ hlt]
        obtain ⟨W, hW⟩ : ∃ W, w.alloc (.cells #[.int .i64 p, .int .u64 0, .slice none 0 0, .bool false, .int .u64 0] 80) = W := ⟨_, rfl⟩
        have hb1 : Below w.heap.size w W := by rw [← hW]; exact (Below.refl _ _).alloc (Nat.le_refl _) _
        have hnew : W.heap[w.heap.size]? = some (.cells (kcells ⟨p, 0, false, 0⟩ (.slice none 0 0)) 80 (0, 0)) := by rw [← hW]; exact heap_alloc_new _ _
        rw [hW]
        have hr := (H.out.start (by omega) HX.out ⟨p, 0, false, 0⟩ hb1 (Nat.le_refl _) hnew)
        have hr2 := hr.setGot th.toNat _ (by omega) rfl 0
        exact ⟨⟨_, hr2⟩, ((Fr.of_below hb1 H.out.base_lt).trans ((H.out.below hb1).frT _ _)).trans (hr.frT _ _)⟩
end Go.Proofs.Ytbpihfphoniclaa
