import Derived.Test.YtbpihfphoniclaaA4
import Derived.StillTailTactics
import Derived.IntWalk
namespace Go.Proofs.Ytbpihfphoniclaa
open Go.RowKit
set_option linter.unusedVariables false
def wk (l : List Pd) (s : Int) (k : Nat) : List Pd := l.take k ++ without (l.drop k) s
theorem wk_len (l : List Pd) (s : Int) : wk l s l.length = l := by simp [wk, without]
theorem wk_zero (l : List Pd) (s : Int) : wk l s 0 = without l s := by simp [wk]
theorem drop_cons {l : List Pd} {j : Nat} (h : j < l.length) : l.drop j = l.getD j (0, 0) :: l.drop (j + 1) := by
  rw [List.drop_eq_getElem_cons h, List.getD_eq_getElem?_getD, List.getElem?_eq_getElem h]
  rfl
theorem wk_step_ne {l : List Pd} {s : Int} {j : Nat} (h : j < l.length) (hs : (l.getD j (0, 0)).1 ≠ s) : wk l s j = wk l s (j + 1) := by
  have e : without (l.drop j) s = l.getD j (0, 0) :: without (l.drop (j + 1)) s := by
    rw [drop_cons h]
    unfold without
    rw [List.filter_cons, if_pos (by simpa using hs)]
  unfold wk
  rw [e, List.take_succ_eq_append_getElem h, List.append_assoc, List.getD_eq_getElem?_getD, List.getElem?_eq_getElem h]
  rfl
theorem wk_step_eq {l : List Pd} {s : Int} {j : Nat} (h : j < l.length) (hs : (l.getD j (0, 0)).1 = s) : wk l s j = (wk l s (j + 1)).take j ++ (wk l s (j + 1)).drop (j + 1) := by
  have e : (l.take (j + 1)).length = j + 1 := by rw [List.length_take]; omega
  unfold wk
  rw [List.drop_left' e, List.take_append_of_le_length (by omega), List.take_take, Nat.min_eq_left (by omega), drop_cons h]
  simp only [without, List.filter_cons, hs]
  simp
theorem wk_get {l : List Pd} {s : Int} {j : Nat} (h : j < l.length) : (wk l s (j + 1)).getD j (0, 0) = l.getD j (0, 0) := by
  unfold wk
  rw [List.getD_eq_getElem?_getD, List.getD_eq_getElem?_getD, List.getElem?_append_left (by rw [List.length_take]; omega), List.getElem?_take, if_pos (by omega)]
theorem wk_bound {l : List Pd} {s : Int} {j : Nat} (h : j ≤ l.length) : j ≤ (wk l s j).length ∧ (wk l s j).length ≤ l.length := by
  unfold wk
  rw [List.length_append, List.length_take, Nat.min_eq_left h]
  have := without_len (l.drop j) s
  rw [List.length_drop] at this
  omega
/-- What `without` and its kin leave: nothing that was there has turned, and the new slice lies in the old one's block or in a new one. -/
def Moved (w w' : World) (v v' : Value) : Prop := Below w.heap.size w w' ∧ ∀ g, v'.ownBlock = some g → v.ownBlock = some g ∨ w.heap.size ≤ g
theorem Moved.refl (w : World) (v : Value) : Moved w w v v := ⟨Below.refl _ _, fun g h => .inl h⟩
theorem Moved.step {w w1 w2 : World} {v v1 v2 : Value} (h : Moved w w1 v v1) (hg : Below w1.heap.size w1 w2) (ho : v2.ownBlock = v1.ownBlock ∨ v2.ownBlock = some w1.heap.size) : Moved w w2 v v2 := by
  refine ⟨below_then' h.1 hg, fun g hg' => ?_⟩
  rcases ho with ho | ho
  · exact h.2 g (ho ▸ hg')
  · rw [ho] at hg'
    cases hg'
    exact .inr h.1.size
theorem Moved.drew {w w1 : World} {v v1 : Value} (h : Moved w w1 v v1) : Moved w w1.drew v v1 := ⟨h.1.drew, h.2⟩
theorem Ls.drew {w : World} {e : TypeId} {v : Value} {l : List Pd} (h : Ls w e v l) : Ls w.drew e v l := Rw.kept h fun g _ => rfl
theorem info94 : (Try.prog.info? 94).map (fun i => (i.zero, i.size, i.bytes)) = some (some (.agg #[.int .i64 0, .int .i64 0]), 2, 16) := by kernel_rfl
set_option maxHeartbeats 1000000 in
set_option maxRecDepth 100000 in
theorem without_calls (v : Value) (l : List Pd) (s : Int) (w : World) (h : Ls w 94 v l) (hl : l.length ≤ 1000) :
    Calls Try.prog 62 #[v, .int .i64 s] w fun e w' => ∃ v', e = .returned v' ∧ Ls w' 94 v' (without l s) ∧ Moved w w' v v' := by
  obtain ⟨A0, cap0, hv0, _⟩ := h.at
  subst hv0
  have H := Lib.hid h
  have HM := Lib.hid (Moved.refl w (.slice A0 l.length cap0))
  clear h
  go_enter Try.func62, Try.ntmps62
  go_wp2
  go_loopw [0, 5] (fun v i wr => ∃ k : Nat, k ≤ l.length ∧ i = .int .i64 ((k : Int) - 1) ∧ Hid (Ls wr 94 v (wk l s k) ∧ Moved w wr (.slice A0 l.length cap0) v)) (fun _ i _ => (intOf i + 1).toNat)
  case atStart => exact ⟨l.length, Nat.le_refl _, rfl, by rw [wk_len]; exact Lib.hid ⟨H.out, HM.out⟩⟩
  case round =>
    obtain ⟨k, hk, rfl, HI⟩ := hrel
    rcases k with _ | j
    · rw [wk_zero] at HI
      obtain ⟨A, cap, rfl, _⟩ := HI.out.1.at
      go_wp2
      go_ret
      exact ⟨_, rfl, HI.out⟩
    · have e : ((j + 1 : Nat) : Int) - 1 = (j : Int) := by omega
      rw [e]
      obtain ⟨A, cap, rfl, hc1, hc2, _, hat⟩ := HI.out.1.at
      have hjl : j < l.length := by omega
      obtain ⟨hb1, hb2⟩ := wk_bound (s := s) (show j + 1 ≤ l.length from hk)
      obtain ⟨g, rfl, hg, hx, hy⟩ := hat j (by omega)
      rw [wk_get hjl] at hx
      replace hc2 : cap ≤ 9223372036854775807 := by unfold maxLen at hc2; omega
      have hj0 : (0 : Int) ≤ (j : Int) := by omega
      have hjn : (j : Int) < ((wk l s (j + 1)).length : Int) := by omega
      have HG := Lib.hid hat
      clear hat e
      by_cases hs : (l.getD j (0, 0)).1 = s
      · have HN := Lib.hid (wk_step_eq hjl hs)
        have hs' : ((l.getD j (0, 0)).1 == s) = true := beq_iff_eq.2 hs
        clear hs hy
        generalize (l.getD j (0, 0)).1 = y at *
        generalize wk l s (j + 1) = l1 at *
        have hjc : (j : Int) ≤ (cap : Int) := by omega
        have hj1 : (0 : Int) ≤ (j : Int) + 1 := by omega
        have hj2 : (j : Int) + 1 ≤ (l1.length : Int) := by omega
        have hw : IntKind.i64.wrap ((j : Int) + 1) = (j : Int) + 1 := IntWalk.i64_in _ (by omega)
        have htn : ((j : Int) + 1).toNat = j + 1 := by omega
        go_wp2_with fail
        go_still_tail 8, (by kernel_rfl)
        change wpList _ _ _ _ _ wr.drew
        obtain ⟨i0, hi0, hz0, hz1, hz2⟩ := info_parts info94
        have hcut := Rw.cut (Ls.drew HI.out.1) j j (by omega) (Nat.le_refl _) (by omega) (by simp)
        rw [← pcells_take] at hcut
        refine wpList_append_rw wr.drew rfl (.tmp 23) (.tmp 27) 71 rfl 94 i0 (.agg #[.int .i64 0, .int .i64 0]) 2 16 Try.underlying71 hi0 hz0 hz1 hz2 rfl (by decide) (.slice (some ⟨g, 0, none⟩) j j) j (pcells (l1.take j)) rfl hcut
          (if cap = j + 1 then some ⟨g, 0, none⟩ else some ⟨g, (j + 1) * 2, none⟩) (l1.length - (j + 1)) (cap - (j + 1)) (pcells (l1.drop (j + 1))) rfl (by rw [pcells_len, List.length_drop]) ?B ?B0 (pcells_one _) (by unfold maxLen; omega) (by omega) ?_
        case B =>
          intro ad had q u hu
          by_cases hcap : cap = j + 1
          · rw [List.drop_of_length_le (by omega)] at hu
            simp [pcells] at hu
          · rw [if_neg hcap] at had
            cases had
            rw [pcells_drop, List.getElem?_drop] at hu
            rw [add_at]
            obtain ⟨A, c, e1, _, _, _, hf⟩ := Rw.form HI.out.1
            cases e1
            obtain ⟨g', e2, _, hf⟩ := hf _ rfl
            cases e2
            exact hf _ _ hu
        case B0 => intro hn; split at hn <;> cases hn
        intro v' w2 hr2 _ ho2 hg2
        replace hg2 := hg2 _ rfl
        have e2 : j + (l1.length - (j + 1)) = (wk l s j).length := by rw [HN.out, List.length_append, List.length_take, List.length_drop]; omega
        rw [← pcells_append, ← HN.out, e2] at hr2
        have HX : Hid (Ls w2 94 v' (wk l s j) ∧ Moved w w2 (.slice A0 l.length cap0) v') := Lib.hid ⟨hr2, (HI.out.2.drew).step hg2 ho2⟩
        clear hr2 hg2 ho2 e2 hcut hi0 hz0 hz1 hz2 hw htn hjc hj1 hj2 hx
        go_wp2
        go_roundw
        case rel => exact ⟨j, by omega, rfl, HX⟩
        case measure => simp [intOf]
      · have HN := Lib.hid (wk_step_ne hjl hs)
        have hs' : ((l.getD j (0, 0)).1 == s) = false := beq_eq_false_iff_ne.2 hs
        clear hs hy
        generalize (l.getD j (0, 0)).1 = y at *
        go_wp2
        go_roundw
        case rel => exact ⟨j, by omega, rfl, by rw [HN.out]; exact HI⟩
        case measure => simp [intOf]
end Go.Proofs.Ytbpihfphoniclaa
