/- What holds of the world in SignalsQueued: the table, the map, its slices. -/
import Derived.Test.YtbpihfphoniclaaM1
import Derived.Test.YtbpihfphoniclaaS8
import Derived.Test.YtbpihfphoniclaaB1
namespace Go.Proofs.Ytbpihfphoniclaa
open Go.RowKit
set_option linter.unusedVariables false
def n64 (l : List Int) : List Value := l.map fun x => .int .i64 x
/-- The slices of the map, each in a row of its own. -/
structure Gm (w : World) (base bm n : Nat) (M : Int → Value) (Q : List Pd) : Prop where
  mp : MapV w bm n M
  row : ∀ s, Ok3 s → Rw w 2 1 (M s) (want Q s).length (n64 (want Q s))
  own : ∀ s r, Ok3 s → Ok3 r → s ≠ r → ∀ g, (M s).ownBlock = some g → (M r).ownBlock ≠ some g
  rb : ∀ s, Ok3 s → ∀ g, (M s).ownBlock = some g → base ≤ g
  bb : base ≤ bm
  bt : ∃ es clock, w.heap[bm]? = some (.map es clock)
theorem Gm.made (w : World) {base : Nat} (hb : base ≤ w.heap.size) : Gm (w.alloc (.map #[] 0)) base w.heap.size 0 (fun _ => .slice none 0 0) [] := by
  refine ⟨mapV_made w, fun s _ => rw_nil _ 2 1, ?_, ?_, hb, ⟨#[], 0, heap_alloc_new w _⟩⟩
  · intro s r _ _ _ g hg; cases hg
  · intro s _ g hg; cases hg
/-- Nothing of it lies in what a call writes. -/
theorem Gm.fr {w w' : World} {base bm n : Nat} {M : Int → Value} {Q : List Pd} (h : Gm w base bm n M Q) {b : Nat} (hf : Fr b TS w w') : Gm w' base bm n M Q := by
  obtain ⟨es, clock, hbt⟩ := h.bt
  have hbm : w'.heap[bm]? = w.heap[bm]? := by rw [hbt]; exact hf.oth bm _ hbt (by intro e he; cases he)
  refine ⟨h.mp.kept hbm, fun s hs => (h.row s hs).kept fun g hg => ?_, h.own, h.rb, h.bb, ⟨es, clock, by rw [hbm]; exact hbt⟩⟩
  obtain ⟨cur, hc⟩ := (h.row s hs).ty g hg
  rw [hc]
  exact hf.oth g _ hc (by intro e he; cases he; decide)
theorem Gm.below {w w' : World} {base bm n : Nat} {M : Int → Value} {Q : List Pd} (h : Gm w base bm n M Q) (hb : Below w.heap.size w w') : Gm w' base bm n M Q := h.fr (Fr.of_below hb (Nat.le_refl _))
theorem RepL.grown2 {w w' : World} {base t : Nat} {L : Lay} {S : St} (h : RepL w base t L S) {row : Option Nat} (hg : w.grownBy w' row) (hr : ∀ g, row = some g → (∃ cur, w.heap[g]? = some (.cells cur 2 (0, 0))) ∨ (∃ es clock, w.heap[g]? = some (.map es clock))) : RepL w' base t L S := by
  refine h.kept fun k cs e fr hk he => hg.block k (Array.getElem?_eq_some_iff.1 hk).1 ?_
  rintro rfl
  rcases hr k rfl with ⟨cur, hc⟩ | ⟨es, clock, hc⟩
  · rw [hk] at hc
    cases hc
    rcases he with h | h | h <;> cases h
  · rw [hk] at hc
    cases hc
/-- A number has been put behind the slice at a key. -/
theorem gm_step {w w3 w4 : World} {base bm n : Nat} {M : Int → Value} {Q : List Pd} (h : Gm w base bm n M Q) (hbw : base ≤ w.heap.size) {s i : Int} (hs : Ok3 s) (hno : ¬ (s = 10 ∧ want Q 10 ≠ [])) {v' : Value}
    (hr : Rw w3 2 1 v' ((want Q s).length + 1) (n64 (want Q s) ++ [.int .i64 i])) (hg : w.grownBy w3 (M s).ownBlock) (ho : v'.ownBlock = (M s).ownBlock ∨ v'.ownBlock = some w.heap.size)
    (hm : MapV w4 bm (n + 1) (updI M s v')) (hg2 : w3.grownBy w4 (some bm)) (hbt : ∃ es clock, w4.heap[bm]? = some (.map es clock)) : Gm w4 base bm (n + 1) (updI M s v') (addQ Q s i) := by
  obtain ⟨es, clock, hb0⟩ := h.bt
  have hadd : addQ Q s i = Q ++ [(s, i)] := by unfold addQ; rw [if_neg hno]
  have hbl : bm < w.heap.size := (Array.getElem?_eq_some_iff.1 hb0).1
  have hnb : ∀ r, Ok3 r → (M r).ownBlock ≠ some bm := by
    intro r hr e
    obtain ⟨cur, hc⟩ := (h.row r hr).ty bm e
    rw [hb0] at hc
    cases hc
  have hvb : v'.ownBlock ≠ some bm := by
    rcases ho with e | e
    · rw [e]; exact hnb s hs
    · rw [e]; intro e2; cases e2; omega
  have howns : ∀ r, Ok3 r → r ≠ s → ∀ g, (M r).ownBlock = some g → v'.ownBlock ≠ some g := by
    intro r hr hne g hg' e
    rcases ho with e2 | e2
    · rw [e2] at e
      exact h.own s r hs hr (fun e => hne e.symm) g e hg'
    · rw [e2] at e
      cases e
      have := (h.row r hr).lt _ hg'
      omega
  rw [hadd]
  refine ⟨hm, fun r hr' => ?_, fun r q hr' hq hne g hgr => ?_, fun r hr' g hgr => ?_, h.bb, hbt⟩
  · by_cases e : r = s
    · subst e
      rw [updI_same, want_append, if_pos rfl]
      have : Rw w4 2 1 v' ((want Q r).length + 1) (n64 (want Q r) ++ [.int .i64 i]) := hr.kept fun g hgv => hg2.block g (hr.lt g hgv) (fun e => hvb (by rw [hgv, e]))
      simpa [n64] using this
    · rw [updI_other _ _ e, want_append, if_neg (fun e2 => e e2.symm)]
      refine (h.row r hr').kept fun g hgr => ?_
      have hlt := (h.row r hr').lt g hgr
      have e1 : w3.heap[g]? = w.heap[g]? := hg.block g hlt (fun e2 => h.own r s hr' hs e g hgr e2.symm)
      have e2 : w4.heap[g]? = w3.heap[g]? := hg2.block g (Nat.lt_of_lt_of_le hlt hg.size) (fun e3 => hnb r hr' (by rw [hgr, e3]))
      rw [e2, e1]
  · by_cases e : r = s
    · subst e
      rw [updI_same] at hgr
      rw [updI_other _ _ (fun e => hne e.symm)]
      intro e2
      exact howns q hq (fun e => hne e.symm) g e2 hgr
    · rw [updI_other _ _ e] at hgr
      by_cases e2 : q = s
      · subst e2
        rw [updI_same]
        exact howns r hr' e g hgr
      · rw [updI_other _ _ e2]
        exact h.own r q hr' hq hne g hgr
  · by_cases e : r = s
    · subst e
      rw [updI_same] at hgr
      rcases ho with e2 | e2
      · rw [e2] at hgr; exact h.rb r hr' g hgr
      · rw [e2] at hgr
        cases hgr
        exact hbw
    · rw [updI_other _ _ e] at hgr
      exact h.rb r hr' g hgr
/-- The slices of the map, wherever they lie. -/
def RdV (w : World) (v : Value) (xs : List Int) : Prop :=
  ∃ A cap, v = .slice A xs.length cap ∧ xs.length ≤ cap ∧ cap ≤ maxLen ∧ (A = none → xs = []) ∧ ∀ ad, A = some ad → ad.spot = none ∧ (∃ cur, w.heap[ad.block]? = some (.cells cur 2 (0, 0))) ∧ ∀ i, i < xs.length → w.cell? (ad.add i) = some (.int .i64 (xs.getD i 0))
structure Rm (w : World) (bm n : Nat) (M : Int → Value) (Q : List Pd) : Prop where
  mp : MapV w bm n M
  row : ∀ s, Ok3 s → RdV w (M s) (want Q s)
  bt : ∃ es clock, w.heap[bm]? = some (.map es clock)
theorem Gm.rm {w : World} {base bm n : Nat} {M : Int → Value} {Q : List Pd} (h : Gm w base bm n M Q) : Rm w bm n M Q := by
  refine ⟨h.mp, fun s hs => ?_, h.bt⟩
  obtain ⟨A, cap, hv, h1, h2, h3, h4⟩ := Rw.form (h.row s hs)
  refine ⟨A, cap, hv, h1, h2, fun e => List.eq_nil_of_length_eq_zero (h3 e).1, fun ad hA => ?_⟩
  obtain ⟨g, rfl, _, hc⟩ := h4 ad hA
  subst hA
  refine ⟨rfl, (h.row s hs).ty g (by rw [hv]; rfl), fun i hi => ?_⟩
  rw [add_at, Nat.zero_add]
  exact hc i _ (by simp [n64, List.getD_eq_getElem?_getD, hi])
theorem RdV.fr {w w' : World} {v : Value} {xs : List Int} (h : RdV w v xs) {b : Nat} (hf : Fr b TS w w') : RdV w' v xs := by
  obtain ⟨A, cap, hv, h1, h2, h3, h4⟩ := h
  refine ⟨A, cap, hv, h1, h2, h3, fun ad hA => ?_⟩
  obtain ⟨hs, ⟨cur, hc⟩, h5⟩ := h4 ad hA
  have hk : w'.heap[ad.block]? = w.heap[ad.block]? := by rw [hc]; exact hf.oth _ _ hc (by intro e he; cases he; decide)
  refine ⟨hs, ⟨cur, by rw [hk]; exact hc⟩, fun i hi => ?_⟩
  rw [World.cell?_of_block (w := w) (a := ad.add i) (by rw [show (ad.add i).block = ad.block by unfold Addr.add; split <;> rfl]; exact hk)]
  exact h5 i hi
theorem Rm.fr {w w' : World} {bm n : Nat} {M : Int → Value} {Q : List Pd} (h : Rm w bm n M Q) {b : Nat} (hf : Fr b TS w w') : Rm w' bm n M Q := by
  obtain ⟨es, clock, hbt⟩ := h.bt
  have hbm : w'.heap[bm]? = w.heap[bm]? := by rw [hbt]; exact hf.oth bm _ hbt (by intro e he; cases he)
  exact ⟨h.mp.kept hbm, fun s hs => (h.row s hs).fr hf, ⟨es, clock, by rw [hbm]; exact hbt⟩⟩
theorem Rm.below {w w' : World} {bm n : Nat} {M : Int → Value} {Q : List Pd} (h : Rm w bm n M Q) (hb : Below w.heap.size w w') : Rm w' bm n M Q := h.fr (Fr.of_below hb (Nat.le_refl _))
theorem add_two (a : Addr) (i j : Nat) : (a.add i).add j = a.add (i + j) := by
  unfold Addr.add
  repeat' split
  all_goals simp_all
  all_goals omega
/-- A slice of the map loses its first number. -/
theorem rm_cut {w w' : World} {bm n : Nat} {M : Int → Value} {Q : List Pd} (h : Rm w bm n M Q) {s : Int} (hs : Ok3 s) {A : Addr} {len cap : Nat} (hv : M s = .slice (some A) len cap) (h1 : 1 ≤ len)
    (hm : MapV w' bm (n + 1) (updI M s (.slice (some (A.add 1)) (len - 1) (cap - 1)))) (hg : w.grownBy w' (some bm)) (hbt : ∃ es clock, w'.heap[bm]? = some (.map es clock)) {Q' : List Pd} (hq : want Q' s = (want Q s).tail) (hq2 : ∀ r, r ≠ s → want Q' r = want Q r) : Rm w' bm (n + 1) (updI M s (.slice (some (A.add 1)) (len - 1) (cap - 1))) Q' := by
  obtain ⟨es, clock, hb0⟩ := h.bt
  have keep : ∀ (g : Nat) (cur : Array Value), w.heap[g]? = some (Obj.cells cur 2 (0, 0)) → w'.heap[g]? = w.heap[g]? := by
    intro g cur hc
    refine hg.block g (Array.getElem?_eq_some_iff.1 hc).1 ?_
    rintro e
    cases e
    rw [hb0] at hc
    cases hc
  have kept : ∀ v xs, RdV w v xs → RdV w' v xs := by
    rintro v xs ⟨B, c, hv, k1, k2, k3, k4⟩
    refine ⟨B, c, hv, k1, k2, k3, fun ad hA => ?_⟩
    obtain ⟨hsp, ⟨cur, hc⟩, h5⟩ := k4 ad hA
    have hk := keep _ _ hc
    refine ⟨hsp, ⟨cur, by rw [hk]; exact hc⟩, fun i hi => ?_⟩
    rw [World.cell?_of_block (w := w) (a := ad.add i) (by rw [show (ad.add i).block = ad.block by unfold Addr.add; split <;> rfl]; exact hk)]
    exact h5 i hi
  refine ⟨hm, fun r hr => ?_, hbt⟩
  by_cases e : r = s
  · subst e
    rw [updI_same, hq]
    obtain ⟨B, c, hvv, k1, k2, k3, k4⟩ := kept _ _ (h.row r hs)
    rw [hv] at hvv
    simp only [Value.slice.injEq] at hvv
    obtain ⟨rfl, hlen, rfl⟩ := hvv
    obtain ⟨hsp, ⟨cur, hc⟩, h5⟩ := k4 A rfl
    refine ⟨some (A.add 1), cap - 1, by rw [List.length_tail, ← hlen], by rw [List.length_tail]; omega, by omega, (fun h => by cases h), fun ad hA => ?_⟩
    cases hA
    have hbk : (A.add 1).block = A.block := by unfold Addr.add; split <;> rfl
    refine ⟨by obtain ⟨x, y, z⟩ := A; simp only at hsp; subst hsp; rfl, ⟨cur, by rw [hbk]; exact hc⟩, fun i hi => ?_⟩
    rw [List.length_tail] at hi
    rw [add_two, h5 (1 + i) (by omega)]
    congr 2
    cases hw : want Q r with
    | nil => simp [hw] at hi
    | cons x l => simp [List.getD_eq_getElem?_getD, Nat.add_comm 1 i]
  · rw [updI_other _ _ e, hq2 r e]
    exact kept _ _ (h.row r hr)
end Go.Proofs.Ytbpihfphoniclaa
