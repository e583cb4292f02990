/- Ops (12): the reference's operations as the program's. -/
import Derived.Test.YthccppldpfddjaaDoorD6
namespace Go.Proofs.YthccppldpfddjaaDoor
open Go.RowKit
set_option linter.unusedVariables false
/-- A slice of the reference's operations, wherever it lies. -/
def Ops (w : World) (v : Value) (l : List OpA) : Prop := ∃ A cap, v = .slice A l.length cap ∧ ∀ j u, (ocells l)[j]? = some u → ∃ b off, A = some ⟨b, off, none⟩ ∧ w.cell? ⟨b, off + j, none⟩ = some u
theorem Ops.below {w w' : World} {v : Value} {l : List OpA} (h : Ops w v l) (hb : Below w.heap.size w w') : Ops w' v l := by
  obtain ⟨A, cap, rfl, hc⟩ := h
  refine ⟨A, cap, rfl, fun j u hj => ?_⟩
  obtain ⟨b, off, rfl, h1⟩ := hc j u hj
  have hlt : b < w.heap.size := World.block_lt_of_cell? w _ h1
  exact ⟨b, off, rfl, (Below.cell hb (p := ⟨b, off + j, none⟩) hlt).trans h1⟩
theorem Ops.at {w : World} {v : Value} {l : List OpA} (h : Ops w v l) {A : Option Addr} {n c : Nat} (hv : v = .slice A n c) {k : Nat} (hk : k < l.length) :
    ∃ g off, A = some ⟨g, off, none⟩ ∧ w.cell? ⟨g, off + k * 5, none⟩ = some (.int .i64 l[k].kind) ∧ w.cell? ⟨g, off + k * 5 + 1, none⟩ = some (.int .i64 l[k].ab) ∧ w.cell? ⟨g, off + k * 5 + 2, none⟩ = some (.int .i64 l[k].dom) ∧ w.cell? ⟨g, off + k * 5 + 3, none⟩ = some (.int .i64 l[k].lo) ∧ w.cell? ⟨g, off + k * 5 + 4, none⟩ = some (.int .i64 l[k].hi) := by
  subst hv
  obtain ⟨A', cap, hv, hc⟩ := h
  cases hv
  obtain ⟨p1, p2, p3, p4, p5⟩ := ocells_get l k hk
  obtain ⟨g, off, rfl, h1⟩ := hc _ _ p1
  obtain ⟨g2, off2, e2, h2⟩ := hc _ _ p2
  obtain ⟨g3, off3, e3, h3⟩ := hc _ _ p3
  obtain ⟨g4, off4, e4, h4⟩ := hc _ _ p4
  obtain ⟨g5, off5, e5, h5⟩ := hc _ _ p5
  cases e2; cases e3; cases e4; cases e5
  exact ⟨g, off, rfl, h1, h2, h3, h4, h5⟩
theorem info35 : (Tryd.prog.info? 35).map (fun i => (i.zero, i.size, i.bytes)) = some (some (.agg #[.int .i64 0, .int .i64 0, .int .i64 0, .int .i64 0, .int .i64 0]), 5, 40) := by kernel_rfl
set_option maxHeartbeats 4000000 in
set_option maxRecDepth 100000 in
theorem ops_calls (v : Value) (l : List OpA) (w : World) (hv : Ops w v l) (hl : l.length ≤ 1000000) :
    Calls Tryd.prog 12 #[v] w fun e w' => ∃ v', e = .returned v' ∧ Os w' v' l ∧ Below w.heap.size w w' := by
  obtain ⟨A, cap, rfl, -⟩ := id hv
  have HA := Lib.hid (And.intro hv hl)
  clear hv hl
  go_enter Tryd.func12, Tryd.ntmps12
  go_wp2
  go_loopw [8, 3] (fun i x wr => ∃ k : Nat, k ≤ l.length ∧ i = .int .i64 k ∧ Hid (Os wr x (l.take k)) ∧ Hid (∀ g, x.ownBlock = some g → w.heap.size ≤ g) ∧ Hid (Below w.heap.size w wr)) (fun i _ _ => l.length - (intOf i).toNat)
  case atStart => exact ⟨0, by omega, rfl, Lib.hid (rw_nil _ _ _), Lib.hid (by simp [Value.ownBlock]), Lib.hid (Below.refl _ _)⟩
  case round =>
    obtain ⟨k, hk, rfl, HR, HG, HB⟩ := hrel
    obtain ⟨A2, c2, rfl, -, -, -, -⟩ := Rw.form HR.out
    by_cases hlt : k < l.length
    · have hlt' : (k : Int) < (l.length : Int) := by omega
      have hk6 : (k : Int) ≤ 1000000 := by have := HA.out.2; omega
      obtain ⟨g, go, rfl, q0, q1, q2, q3, q4⟩ := Ops.at (HA.out.1.below HB.out) rfl hlt
      have HT := Lib.hid (show ocells (l.take (k + 1)) = ocells (l.take k) ++ ocells [l[k]] from by rw [List.take_succ_eq_append_getElem hlt, ocells_append])
      have HLn := Lib.hid (And.intro (show (l.take k).length = k from by rw [List.length_take]; omega) (show (l.take (k + 1)).length = k + 1 from by rw [List.length_take]; omega))
      generalize l[k] = o at *
      obtain ⟨ok, oa, od, ol, oh⟩ := o
      simp only at q0 q1 q2 q3 q4
      have hob : ∀ a b, Below wr.heap.size wr ((wr.alloc (.cells a b)).alloc (.cells #[.int .i64 ok, .int .i64 oa, .int .i64 od, .int .i64 ol, .int .i64 oh] 35)) := fun a b => ((Below.refl wr.heap.size wr).alloc (Nat.le_refl _) _).alloc (by simp) _
      have HOB := Lib.hid hob
      clear hob
      obtain ⟨i0, hi0, hz0, hz1, hz2⟩ := info_parts info35
      have HN := Lib.hid (show ∀ ad, some (⟨wr.heap.size + 1, 0, none⟩ : Addr) = some ad → ∀ j u, (ocells [⟨ok, oa, od, ol, oh⟩])[j]? = some u → ((wr.alloc (.cells #[.int .i64 ok, .int .i64 oa, .int .i64 od, .int .i64 ol, .int .i64 oh] 31)).alloc (.cells #[.int .i64 ok, .int .i64 oa, .int .i64 od, .int .i64 ol, .int .i64 oh] 35)).cell? (ad.add j) = some u from by
        rintro ad h j u hj
        cases h
        have h9 := heap_alloc_new (wr.alloc (.cells #[.int .i64 ok, .int .i64 oa, .int .i64 od, .int .i64 ol, .int .i64 oh] 31)) (.cells #[.int .i64 ok, .int .i64 oa, .int .i64 od, .int .i64 ol, .int .i64 oh] 35)
        rw [World.size_alloc] at h9
        rw [add_at, cell_of_row _ _ _ _ _ _ h9, Nat.zero_add]
        simpa [ocells] using hj)
      go_wp2_with (at_builtin; refine wpList_append_rw _ rfl (.tmp 12) (.tmp 14) 28 rfl 35 i0 (.agg #[.int .i64 0, .int .i64 0, .int .i64 0, .int .i64 0, .int .i64 0]) 5 40 Tryd.underlying28 hi0 hz0 hz1 hz2 rfl (by decide) _ _ _ rfl (Rw.below HR.out (HOB.out _ _)) (some ⟨wr.heap.size + 1, 0, none⟩) 1 1 (ocells [⟨ok, oa, od, ol, oh⟩]) rfl rfl HN.out (by simp) (ocells_one _) (by have := HA.out.2; have := HLn.out.1; unfold maxLen; omega) (by have := HA.out.2; have := HLn.out.1; omega) ?_; intro v' w5 h1 h2 h3 h4; have H5 := Lib.hid (And.intro h1 (And.intro h2 h3)); obtain ⟨A5, c5, rfl, -, -, -, -⟩ := Rw.form h1; clear h1 h2 h3 h4)
      go_roundw
      case rel =>
        have h0 := H5.out
        have hg := HG.out
        rw [HLn.out.1] at h0 hg
        obtain ⟨h1, h2, h3⟩ := h0
        have hbw := HB.out.trans ((HOB.out #[.int .i64 ok, .int .i64 oa, .int .i64 od, .int .i64 ol, .int .i64 oh] 31).mono HB.out.size)
        refine ⟨k + 1, by omega, by go_num, Lib.hid ?_, Lib.hid ?_, Lib.hid ?_⟩
        · show Rw _ 35 5 _ (l.take (k + 1)).length (ocells (l.take (k + 1)))
          rw [HLn.out.2, HT.out]
          exact h1
        · intro g' hg'
          rcases h3 with h3 | h3
          · exact hg g' (h3.symm.trans hg')
          · rw [h3] at hg'
            cases hg'
            have := HB.out.size
            simp
            omega
        · exact hbw.grown h2 (Nat.le_trans HB.out.size (HOB.out #[.int .i64 ok, .int .i64 oa, .int .i64 od, .int .i64 ol, .int .i64 oh] 31).size) (fun j hj => hg j hj)
      case measure => simp [intOf]; omega
    · obtain rfl : k = l.length := by omega
      rw [List.take_length] at HR
      go_wp2
      go_ret
      refine ⟨.slice A2 (l.take l.length).length c2, rfl, ?_, HB.out⟩
      rw [List.take_length]
      exact HR.out
end Go.Proofs.YthccppldpfddjaaDoor
