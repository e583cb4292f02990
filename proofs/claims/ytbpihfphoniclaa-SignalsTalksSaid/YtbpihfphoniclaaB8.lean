import Derived.Test.YtbpihfphoniclaaB7
namespace Go.Proofs.Ytbpihfphoniclaa
open Go.RowKit
set_option linter.unusedVariables false
/-- A block that holds no list of the table is written. -/
theorem RepL.skip {w : World} {base t : Nat} {L : Lay} {S : St} (h : RepL w base t L S) {g : Nat} {cs : Array Value} {fr : Nat × Nat} (hty : w.heap[g]? = some (.cells cs 94 fr)) (hne : ∀ j, j < 320 → (L.lv j).ownBlock ≠ some g) (k : Nat) (u : Value) : RepL (w.setCell ⟨g, k, none⟩ u) base t L S := by
  obtain ⟨⟨cs', h1, h2, h3⟩, hbt, hn, ht, hi, hr, hrb, ho⟩ := h
  have other : ∀ (b : Nat) (cs2 : Array Value) (e : TypeId) (fr2 : Nat × Nat), w.heap[b]? = some (.cells cs2 e fr2) → e ≠ 94 → (w.setCell ⟨g, k, none⟩ u).heap[b]? = w.heap[b]? := by
    intro b cs2 e fr2 hb he
    refine Below.heap_setCell _ _ _ _ ?_
    intro hbg
    rw [show b = g from hbg, hty] at hb
    cases hb
    exact he rfl
  refine ⟨⟨cs', (other t cs' 77 _ h1 (by decide)).trans h1, h2, h3⟩, hbt, hn, ?_, hi, ?_, hrb, ho⟩
  · intro i hi' x hx
    obtain ⟨b, h4, h5, h6⟩ := ht i hi' x hx
    exact ⟨b, h4, h5, (other b _ 80 _ h6 (by decide)).trans h6⟩
  · intro i hi'
    refine (hr i hi').kept fun g' hg => ?_
    refine Below.heap_setCell _ _ _ _ ?_
    rintro rfl
    exact hne i hi' hg
theorem Fr.setNew {base : Nat} {T : List TypeId} {w X : World} (h : Fr base T w X) {R : Nat} (hR : w.heap.size ≤ R) (hb : base ≤ R) (k : Nat) (u : Value) : Fr base T w (X.setCell ⟨R, k, none⟩ u) := by
  refine ⟨h.bel.setCell hb u, fun j o hj ho => ?_⟩
  rw [Below.heap_setCell _ _ _ _ (by have := (Array.getElem?_eq_some_iff.1 hj).1; simp; omega)]
  exact h.oth j o hj ho
/-- What `take` leaves. -/
theorem take_end {w W w1 : World} {base t : Nat} {L : Lay} {S : St} (h : RepL w base t L S) {slot : Nat} (hs : slot < 320) (hb : Below w.heap.size w W) {R : Nat} (hR : w.heap.size ≤ R) (hRW : R < W.heap.size) {cs : Array Value} {fr : Nat × Nat} (hty : W.heap[R]? = some (.cells cs 94 fr)) {v' : Value} {l' : List Pd} (hr : Ls w1 94 v' l') (hm : Below W.heap.size W w1)
    (ho : ∀ g, v'.ownBlock = some g → (L.lv slot).ownBlock = some g ∨ W.heap.size ≤ g) (u1 u2 : Value) :
    ((hlt : slot < 256) → ∀ b x, L.ptr slot = some b → S.tk slot = some x → AfterL base t L { S with ls := upd S.ls slot l' } w (((w1.setCell ⟨b, 2, none⟩ v').setCell ⟨R, 0, none⟩ u1).setCell ⟨R, 1, none⟩ u2)) ∧
    (∀ p j, slot = 256 + p → j = 256 + p * 58 + 57 → AfterL base t L { S with ls := upd S.ls slot l' } w (((w1.setCell ⟨t, j, none⟩ v').setCell ⟨R, 0, none⟩ u1).setCell ⟨R, 1, none⟩ u2)) := by
  have hW := h.below hb
  have hbl := h.base_lt
  have hset := hW.setLs hs (grown_of_below' hm _) hr ho
  have hne : ∀ j, j < 320 → ((upd L.lv slot v') j).ownBlock ≠ some R := by
    intro j hj hc
    by_cases e : j = slot
    · subst e
      rw [upd_same] at hc
      rcases ho R hc with h1 | h1
      · have := (h.row j hj).lt R h1; omega
      · omega
    · rw [upd_other _ _ e] at hc
      have := (h.row j hj).lt R hc
      omega
  have hty1 : w1.heap[R]? = some (.cells cs 94 fr) := (hm.block R hRW).trans hty
  have fin : ∀ (a : Nat) (k : Nat) (L' : Lay) (S' : St), L' = { L with lv := upd L.lv slot v' } → RepL (w1.setCell ⟨a, k, none⟩ v') base t L' S' → base ≤ a → (∀ o, W.heap[a]? = some o → ∃ e, oty o = some e ∧ e ∈ TS) → a ≠ R → a < W.heap.size →
      AfterL base t L S' w (((w1.setCell ⟨a, k, none⟩ v').setCell ⟨R, 0, none⟩ u1).setCell ⟨R, 1, none⟩ u2) := by
    intro a k L' S' hL hrep hba hta haR haW
    subst hL
    have hty2 : (w1.setCell ⟨a, k, none⟩ v').heap[R]? = some (.cells cs 94 fr) := (Below.heap_setCell _ _ _ _ (Ne.symm haR)).trans hty1
    have h3 := hrep.skip hty2 hne 0 u1
    have hty3 : ((w1.setCell ⟨a, k, none⟩ v').setCell ⟨R, 0, none⟩ u1).heap[R]? = some (.cells (cs.setIfInBounds 0 u1) 94 fr) := by
      simp only [World.setCell, Array.getElem?_modify, if_true] at hty2 ⊢
      rw [hty2]
      rfl
    have h4 := h3.skip hty3 hne 1 u2
    refine ⟨⟨_, h4, rfl⟩, ?_⟩
    have f1 : Fr base TS w w1 := (Fr.of_below hb hbl).trans (Fr.of_below hm (by have := hb.size; omega))
    have f2 : Fr base TS w1 (w1.setCell ⟨a, k, none⟩ v') := Fr.setCell hba fun o hoo => hta o (by rw [← hm.block a haW]; exact hoo)
    exact ((f1.trans f2).setNew hR (by omega) _ _).setNew hR (by omega) _ _
  refine ⟨fun hlt b x hpb hx => ?_, fun p j hp hj => ?_⟩
  · obtain ⟨b', h1, h2, h3⟩ := hW.task slot hlt x hx
    rw [hpb] at h1
    cases h1
    obtain ⟨b', h1', h2', h3'⟩ := h.task slot hlt x hx
    rw [hpb] at h1'
    cases h1'
    have hbw := (Array.getElem?_eq_some_iff.1 h3').1
    exact fin b 2 _ _ rfl (hset.1 hlt b x hpb hx) h2 (fun o ho' => by rw [h3] at ho'; cases ho'; exact ⟨80, rfl, by decide⟩) (by omega) (by have := hb.size; omega)
  · have := h.lt
    exact fin t j _ _ rfl (hset.2 p j hp hj) h.bt hW.tab_ty (by omega) (by have := hb.size; omega)
end Go.Proofs.Ytbpihfphoniclaa
