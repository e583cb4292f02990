/- A map from numbers to slices of numbers of the call's own, as a function from keys to values. -/
import Derived.Test.YtbpihfphoniclaaC1
import Derived.Maps.OwnOps
namespace Go.Proofs.Ytbpihfphoniclaa
open Go.RowKit Go.ChangeMaps Go.MapKept Go.ChangeShapes
open Go.WideElems (Fit rd rg pl rd_val)
set_option linter.unusedVariables false
def RV (v : Value) : Option (DataW Value × List MemPlace) := some (.held v, [])
def updI (M : Int → Value) (s : Int) (v : Value) : Int → Value := fun r => if r = s then v else M r
theorem updI_same (M : Int → Value) (s : Int) (v : Value) : updI M s v s = v := by simp [updI]
theorem updI_other (M : Int → Value) {s r : Int} (v : Value) (h : r ≠ s) : updI M s v r = M r := by simp [updI, h]
/-- Block b is a map of at most n entries that holds M s at each key s. -/
def MapV (w : World) (b n : Nat) (M : Int → Value) : Prop :=
  ∃ es clock, w.heap[b]? = some (.map es clock) ∧ Fit Try.prog 3 RV es clock ∧ es.size ≤ n ∧ ∀ s : Int, (DataW.map ((es.toList.map (rg Try.prog 3 RV)).foldr DataW.insert [])).atKey (.int .i64 s) (.held (.slice none 0 0)) = .held (M s)
theorem keyed3 : Maps.Keyed Try.prog 3 := Maps.int_keyed Try.underlying3
theorem key3 (s : Int) (h : -9223372036854775808 ≤ s ∧ s ≤ 9223372036854775807) : keyOf Try.prog 3 (.int .i64 s) = some (.int .i64 s) := by
  simp only [keyOf, mapKey, Try.underlying3]
  rw [if_pos ⟨True.intro, WalkArith.wf_i64 h⟩]
theorem zero44 (w : World) : (zeroValue 44).run Try.prog w = .ok (.slice none 0 0) w := by kernel_rfl
theorem mapV_made (w : World) : MapV (w.alloc (.map #[] 0)) w.heap.size 0 fun _ => .slice none 0 0 :=
  ⟨#[], 0, (MapKept.heap_alloc w _).1, ⟨by simp, stamped_empty 0, by simp⟩, Nat.le_refl _, fun s => rfl⟩
theorem MapV.kept {w w' : World} {b n : Nat} {M : Int → Value} (h : MapV w b n M) (hb : w'.heap[b]? = w.heap[b]?) : MapV w' b n M := by
  obtain ⟨es, clock, h1, r⟩ := h
  exact ⟨es, clock, by rw [hb]; exact h1, r⟩
theorem MapV.look {w : World} {b n : Nat} {M : Int → Value} (h : MapV w b n M) (s : Int) (hs : -9223372036854775808 ≤ s ∧ s ≤ 9223372036854775807) : (Instr.lookup 42 (.map (some b)) (.int .i64 s) false).run Try.prog w = .ok (M s) w := by
  obtain ⟨es, clock, h1, F, _, hM⟩ := h
  have hs' := hM s
  rcases Maps.fit_look false keyed3 Try.underlying42 (zero44 w) h1 F (key3 s hs) with ⟨hrun, _, hat⟩ | ⟨e0, y, _, _, hrun, hR, hat, _⟩
  · rw [hat] at hs'
    have e : M s = .slice none 0 0 := (DataW.held.inj hs').symm
    rw [e]
    exact hrun
  · rw [hat] at hs'
    obtain rfl : y = (.held e0.val, []) := (Option.some.inj hR).symm
    have e : M s = e0.val := (DataW.held.inj hs').symm
    rw [e]
    exact hrun
theorem MapV.put {w : World} {b n : Nat} {M : Int → Value} (h : MapV w b n M) (hn : n < maxLen) (s : Int) (hs : -9223372036854775808 ≤ s ∧ s ≤ 9223372036854775807) (v : Value) :
    ∃ w2, (Instr.mapUpdate 42 (.map (some b)) (.int .i64 s) v).run Try.prog w = .ok () w2 ∧ MapV w2 b (n + 1) (updI M s v) ∧ w.grownBy w2 (some b) := by
  obtain ⟨es, clock, h1, F, hsz, hM⟩ := h
  obtain ⟨es', clock', hrun, F', hput, _, _, _⟩ := Maps.fit_store (R' := RV) keyed3 Try.underlying42 h1 F (Nat.lt_of_le_of_lt hsz hn) (fun _ _ _ z hz => hz) (key3 s hs) (yv := (.held v, [])) rfl
  refine ⟨_, hrun, ⟨es', clock', heap_setBlock_same h1 _, F', ?_, fun r => ?_⟩, ⟨rfl, rfl, rfl, by simp [setBlock], fun i _ hi => heap_setBlock_other h1 _ (fun e1 => hi (by rw [e1]))⟩⟩
  · have e1 : es'.size = ((es'.toList.map (rg Try.prog 3 RV)).foldr DataW.insert []).length := by rw [length_sorted]; simp
    rw [e1, hput]
    unfold putKey
    rw [length_insert]
    have e2 := List.length_filter_le (notKey (.int .i64 s)) ((es.toList.map (rg Try.prog 3 RV)).foldr DataW.insert [])
    rw [length_sorted] at e2
    simp at e2
    omega
  · rw [hput, ← DataW.put_eq]
    by_cases e : r = s
    · subst e
      rw [updI_same]
      exact Maps.atKey_put_same (k := .int .i64 r) ⟨_, rfl⟩ trivial _ _
    · rw [updI_other _ _ e, ← hM r]
      exact Maps.atKey_put_other (fun h => e (by injection h)) _ _
/-- A look-up in a region. -/
theorem wpList_look {ops : Array Oper} {rest : List Oper} {o : Oper} {a : Act} {w : World} {Q : Exit → Act → World → Prop} (hgd : Region.wanted o (yielded ops a.tmps) = true) (m x : Operand) (hop : o.op = Op.lookup 42 m x false)
    (b n : Nat) (M : Int → Value) (hm : a.eval m = .map (some b)) (h : MapV w b n M) (s : Int) (hs : -9223372036854775808 ≤ s ∧ s ≤ 9223372036854775807) (hx : a.eval x = .int .i64 s)
    (hK : wpList Try.prog ops Q rest (a.put o.dst (M s)) w) : wpList Try.prog ops Q (o :: rest) a w :=
  wpList_step fun _ hK' => by
    rw [if_pos hgd]
    unfold Oper.wp execOp
    simp only [hop, hm, hx, Sem.run_bind, h.look s hs, Result.andThen_ok, Sem.run_pure]
    exact hK' _ _ hK
/-- A store into the map. -/
theorem wpList_put {ops : Array Oper} {rest : List Oper} {o : Oper} {a : Act} {w : World} {Q : Exit → Act → World → Prop} (hgd : Region.wanted o (yielded ops a.tmps) = true) (m x u : Operand) (hop : o.op = Op.mapUpdate 42 m x u)
    (b n : Nat) (M : Int → Value) (hm : a.eval m = .map (some b)) (h : MapV w b n M) (hn : n < maxLen) (s : Int) (hs : -9223372036854775808 ≤ s ∧ s ≤ 9223372036854775807) (hx : a.eval x = .int .i64 s) (v : Value) (hu : a.eval u = v)
    (hK : ∀ w2, MapV w2 b (n + 1) (updI M s v) → w.grownBy w2 (some b) → wpList Try.prog ops Q rest (a.put o.dst undef) w2) : wpList Try.prog ops Q (o :: rest) a w :=
  wpList_step fun _ hK' => by
    rw [if_pos hgd]
    obtain ⟨w2, hrun, h2, h3⟩ := h.put hn s hs v
    unfold Oper.wp execOp
    simp only [hop, hm, hx, hu, Sem.run_bind, hrun, Result.andThen_ok, Sem.run_pure]
    exact hK' _ _ (hK w2 h2 h3)
end Go.Proofs.Ytbpihfphoniclaa
