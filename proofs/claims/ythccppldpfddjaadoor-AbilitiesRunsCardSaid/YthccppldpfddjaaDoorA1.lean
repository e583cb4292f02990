/- Rights as values; slices.Clone; copied; standard. -/
import Derived.Test.YthccppldpfddjaaDoorProg
import Derived.Test.YthccppldpfddjaaDoorGen
import Derived.Test.YthccppldpfddjaaDoorR1
import Derived.Lib.SliceRun
namespace Go.Proofs.YthccppldpfddjaaDoor
open Go.RowKit
set_option linter.unusedVariables false
/-- The cells of a right whose ranges lie behind the slice v. -/
def rv (v : Value) (r : Rt) : Array Value := #[v, .bool r.lk, .bool r.inh]
theorem ls_one (l : List Rg) : ∀ u ∈ pcells l, u.oneCell' = true := pcells_one l
theorem info43 : (Tryd.prog.info? 43).map (fun i => (i.zero, i.size, i.bytes)) = some (some (.agg #[.int .i64 0, .int .i64 0]), 2, 16) := by kernel_rfl
theorem size38 : (Tryd.prog.info? 38).map (·.size) = some 3 := by kernel_rfl
theorem size43 : (Tryd.prog.info? 43).map (·.size) = some 2 := by kernel_rfl
theorem Ls.below {w w' : World} {e : TypeId} {v : Value} {l : List Rg} (h : Ls w e v l) (hb : Below w.heap.size w w') : Ls w' e v l := Rw.below h hb
set_option maxHeartbeats 1000000 in
theorem clone_calls (l : List Rg) (v : Value) (w : World) (h : Ls w 43 v l) (hl : l.length ≤ 1000000) :
    Calls Tryd.prog 67 #[v] w fun e w' => ∃ v', e = .returned v' ∧ Ls w' 43 v' l ∧ Below w.heap.size w w' := by
  obtain ⟨A, cap, rfl, h1, h2, h3, h4⟩ := Rw.form h
  have q36 : ∀ (w : World) (a : Option Addr) (n c n' c' : Nat), (binOp .eql 36 (.slice a n c) (.slice none n' c')).run Tryd.prog w = .ok (.bool a.isNone) w := fun w a n c n' c' => Lib.run_eql_slice_nil w _ _ a n c n' c' Tryd.underlying36
  have HS := Lib.hid (And.intro h hl)
  cases A with
  | none =>
    obtain ⟨h5, h6⟩ := h3 rfl
    clear h h1 h2 h3 h4 hl
    go_enter Tryd.func67, Tryd.ntmps67
    go_wp2
    go_ret
    refine ⟨_, rfl, ?_, Below.refl _ _⟩
    have : l = [] := List.eq_nil_of_length_eq_zero h5
    subst this
    exact ls_nil _ _
  | some ad =>
    obtain ⟨g, rfl, hg, hc⟩ := h4 ad rfl
    have HC := Lib.hid hc
    have HG := Lib.hid hg
    obtain ⟨i0, hi0, hz0, hz1, hz2⟩ := info_parts info43
    clear h h1 h2 h3 h4 hl hc hg
    go_enter Tryd.func67, Tryd.ntmps67
    go_wp2_with (at_builtin; refine wpList_append_own _ rfl _ _ 36 rfl w.heap.size 43 i0 (.agg #[.int .i64 0, .int .i64 0]) 2 16 Tryd.underlying36 hi0 hz0 hz1 hz2 rfl (by decide) _ _ _ rfl (World.ownsRow_made w #[] 0 (Nat.le_refl _) (Nat.zero_le _) (by simp)) ⟨g, 0, none⟩ l.length cap (pcells l) rfl ?qc1 ?qc2 ?qc3 ?qc4 ?qc5 ?qc6 ?_)
    case qc1 => exact pcells_len l
    case qc2 =>
      intro j u hj
      rw [add_at, Nat.zero_add]
      rw [Below.cell ((Below.refl w.heap.size w).alloc (Nat.le_refl _) _) (show g < w.heap.size from HG.out)]
      exact HC.out j u hj
    case qc3 => exact pcells_one l
    case qc4 => have := HS.out.2; unfold maxLen; omega
    case qc5 => have := HS.out.2; omega
    case qc6 => simp
    intro v' w' h5 h6 _
    go_wp2
    go_ret
    refine ⟨_, rfl, ?_, ?_⟩
    · have := Rw.of_own h5
      simpa [Ls] using this
    · exact ((Below.refl w.heap.size w).alloc (Nat.le_refl _) _).grown h6 (by simp) (fun k hk => by cases hk; exact Nat.le_refl _)
end Go.Proofs.YthccppldpfddjaaDoor
