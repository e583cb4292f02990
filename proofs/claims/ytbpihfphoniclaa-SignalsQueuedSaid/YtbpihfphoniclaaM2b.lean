/- What holds of the world where SignalsQueued takes the signals. -/
import Derived.Test.YtbpihfphoniclaaM2
namespace Go.Proofs.Ytbpihfphoniclaa
open Go.RowKit
set_option linter.unusedVariables false
theorem newMask_z (x : Nat) : newMask x 2 0 = 0 := by unfold newMask; simp
structure Lq (w : World) (bm n gb : Nat) (s : Int) (j : Nat) (Q0 : List Pd) (M : Int → Value) (Qc : List Pd) (wi : World) : Prop where
  rep : ∃ L, RepL wi w.heap.size w.heap.size L (Sq 0 Qc)
  inv : Inv (Sq 0 Qc) 1000
  all : All3 Qc
  rm : Rm wi bm n M Q0
  bel : Below w.heap.size w wi
  row : wi.heap[gb]? = some (.cells #[.int .i64 10, .int .i64 41, .int .i64 50] 3 (0, 0))
  now : want Qc s = (want Q0 s).drop j
  lo : ∀ r, Ok3 r → r < s → want Qc r = []
  hi : ∀ r, Ok3 r → s < r → want Qc r = want Q0 r
theorem lq_round {w : World} {bm n gb : Nat} {s : Int} {j : Nat} {Q0 : List Pd} {M : Int → Value} {Qc : List Pd} {wi : World} (h : Lq w bm n gb s j Q0 M Qc wi) (hs : Ok3 s) (hj : j < (want Q0 s).length) :
    ∃ d Qd, nextS (Sq 0 Qc) 0 = (((s, (want Q0 s).getD j 0, d), true), Sq 0 Qd) ∧ ∀ wn o, After w.heap.size w.heap.size (Sq 0 Qd) wi wn → Lq w bm n gb s (j + 1) Q0 M Qd (wn.alloc o) := by
  have hd : want Qc s = (want Q0 s).getD j 0 :: (want Q0 s).drop (j + 1) := by
    rw [h.now, List.drop_eq_getElem_cons hj, List.getD_eq_getElem?_getD, List.getElem?_eq_getElem hj]
    rfl
  obtain ⟨d, hn, h1, h2, h3, _⟩ := next_want h.all hs hd h.lo
  refine ⟨d, cut Qc s, hn, fun wn o ha => ?_⟩
  have hi := Inv.nextS h.inv 0
  rw [hn] at hi
  obtain ⟨⟨L, hr⟩, hf⟩ := ha
  have hb : Below wn.heap.size wn (wn.alloc o) := (Below.refl _ _).alloc (Nat.le_refl _) o
  refine ⟨⟨L, hr.below hb⟩, hi, h3, (h.rm.fr hf).below hb, (h.bel.trans hf.bel).alloc (h.bel.trans hf.bel).size o, keep_alloc (hf.oth _ _ h.row (by intro e he; cases he; decide)) o, h1, fun r hr hlt => ?_, fun r hr hlt => ?_⟩
  · rw [h2 r (by omega)]; exact h.lo r hr hlt
  · rw [h2 r (by omega)]; exact h.hi r hr hlt
theorem lq_next {w : World} {bm n gb : Nat} {s s' : Int} {Q0 : List Pd} {M : Int → Value} {Qc : List Pd} {wi : World} (h : Lq w bm n gb s (want Q0 s).length Q0 M Qc wi) (hs' : Ok3 s') (hlt : s < s') (hb : ∀ r, Ok3 r → r < s' → r ≤ s) : Lq w bm n gb s' 0 Q0 M Qc wi := by
  refine ⟨h.rep, h.inv, h.all, h.rm, h.bel, h.row, by rw [h.hi s' hs' hlt]; rfl, fun r hr hrl => ?_, fun r hr hrl => h.hi r hr (by omega)⟩
  rcases Int.lt_or_eq_of_le (hb r hr hrl) with h1 | rfl
  · exact h.lo r hr h1
  · rw [h.now, List.drop_length]
theorem lq_end {w : World} {bm n gb : Nat} {Q0 : List Pd} {M : Int → Value} {Qc : List Pd} {wi : World} (h : Lq w bm n gb 50 (want Q0 50).length Q0 M Qc wi) : Qc = [] :=
  all_nil h.all (h.lo 10 (.inl rfl) (by omega)) (h.lo 41 (.inr (.inl rfl)) (by omega)) (by rw [h.now, List.drop_length])
theorem lq_start {w wg : World} {bm n : Nat} {Q0 : List Pd} {M : Int → Value} (hrep : ∃ L, RepL wg w.heap.size w.heap.size L (Sq 0 Q0)) (hinv : Inv (Sq 0 Q0) 1000) (hall : All3 Q0) (hrm : Rm wg bm n M Q0) (hbel : Below w.heap.size w wg) :
    Lq w bm n wg.heap.size 10 0 Q0 M Q0 (wg.alloc (.cells #[.int .i64 10, .int .i64 41, .int .i64 50] 3)) := by
  have hb : Below wg.heap.size wg (wg.alloc (.cells #[.int .i64 10, .int .i64 41, .int .i64 50] 3)) := (Below.refl _ _).alloc (Nat.le_refl _) _
  obtain ⟨L, hr⟩ := hrep
  refine ⟨⟨L, hr.below hb⟩, hinv, hall, hrm.below hb, hbel.alloc hbel.size _, heap_alloc_new wg _, rfl, fun r hr hlt => ?_, fun r _ _ => rfl⟩
  unfold Ok3 at hr
  omega
/-- The slice at a key: its form, and its cells. -/
theorem rm_at {w : World} {bm n : Nat} {M : Int → Value} {Q : List Pd} (h : Rm w bm n M Q) {s : Int} (hs : Ok3 s) : ∃ A cap, M s = .slice A (want Q s).length cap ∧ (want Q s).length ≤ cap ∧ cap ≤ maxLen ∧ (A = none → want Q s = []) := by
  obtain ⟨A, cap, h1, h2, h3, h4, _⟩ := h.row s hs
  exact ⟨A, cap, h1, h2, h3, h4⟩
theorem rm_cell {w : World} {bm n : Nat} {M : Int → Value} {Q : List Pd} (h : Rm w bm n M Q) {s : Int} (hs : Ok3 s) {A : Option Addr} {len cap : Nat} (hv : M s = .slice A len cap) {i : Nat} (hi : i < (want Q s).length) : ∃ ad, A = some ad ∧ ad.spot = none ∧ w.cell? (ad.add i) = some (.int .i64 ((want Q s).getD i 0)) := by
  obtain ⟨B, c, h1, _, _, h4, h5⟩ := h.row s hs
  rw [hv] at h1
  simp only [Value.slice.injEq] at h1
  obtain ⟨rfl, _, _⟩ := h1
  cases A with
  | none => rw [h4 rfl] at hi; simp at hi
  | some ad =>
    obtain ⟨hsp, _, hc⟩ := h5 ad rfl
    exact ⟨ad, rfl, hsp, hc i hi⟩
/-- The slice at a key is replaced by what reads as its tail. -/
theorem rm_cut2 {w w' : World} {bm n : Nat} {M : Int → Value} {Q Q' : List Pd} (h : Rm w bm n M Q) {s : Int} (hs : Ok3 s) {v' : Value} (hr : RdV w v' (want Q s).tail) (hm : MapV w' bm (n + 1) (updI M s v')) (hg : w.grownBy w' (some bm)) (hq : want Q' s = (want Q s).tail) (hq2 : ∀ r, r ≠ s → want Q' r = want Q r) :
    ∃ M2, Rm w' bm (n + 1) M2 Q' := by
  obtain ⟨es, clock, hb0⟩ := h.bt
  have kept : ∀ v xs, RdV w v xs → RdV w' v xs := by
    rintro v xs ⟨B, c, hv, k1, k2, k3, k4⟩
    refine ⟨B, c, hv, k1, k2, k3, fun ad hA => ?_⟩
    obtain ⟨hsp, ⟨cur, hc⟩, h5⟩ := k4 ad hA
    have hk : w'.heap[ad.block]? = w.heap[ad.block]? := by
      refine hg.block ad.block (Array.getElem?_eq_some_iff.1 hc).1 ?_
      intro e
      cases e
      rw [hb0] at hc
      cases hc
    refine ⟨hsp, ⟨cur, by rw [hk]; exact hc⟩, fun i hi => ?_⟩
    rw [World.cell?_of_block (w := w) (a := ad.add i) (by rw [show (ad.add i).block = ad.block by unfold Addr.add; split <;> rfl]; exact hk)]
    exact h5 i hi
  have hbt : ∃ es clock, w'.heap[bm]? = some (.map es clock) := by
    obtain ⟨es, clock, h1, _⟩ := hm
    exact ⟨es, clock, h1⟩
  refine ⟨_, hm, fun r hr' => ?_, hbt⟩
  by_cases e : r = s
  · subst e
    rw [updI_same, hq]
    exact kept _ _ hr
  · rw [updI_other _ _ e, hq2 r e]
    exact kept _ _ (h.row r hr')
theorem rdv_add {w : World} {bm n : Nat} {M : Int → Value} {Q : List Pd} (h : Rm w bm n M Q) {s : Int} (hs : Ok3 s) {ad : Addr} {ns cs : Nat} (hv : M s = .slice (some ad) ns cs) (h1 : 1 ≤ ns) :
    RdV w (.slice (some { block := ad.block, off := ad.off + 1 }) (ns - 1) (cs - 1)) (want Q s).tail := by
  obtain ⟨B, c, hvv, k1, k2, _, k4⟩ := h.row s hs
  rw [hv] at hvv
  simp only [Value.slice.injEq] at hvv
  obtain ⟨rfl, hlen, rfl⟩ := hvv
  obtain ⟨hsp, ⟨cur, hc⟩, h5⟩ := k4 ad rfl
  refine ⟨some { block := ad.block, off := ad.off + 1 }, cs - 1, by rw [List.length_tail, ← hlen], by rw [List.length_tail]; omega, by omega, (fun h => by cases h), fun ad' hA => ?_⟩
  cases hA
  refine ⟨rfl, ⟨cur, hc⟩, fun i hi => ?_⟩
  rw [List.length_tail] at hi
  have h6 := h5 (1 + i) (by omega)
  obtain ⟨x, y, z⟩ := ad
  simp only at hsp
  subst hsp
  rw [add_at] at h6
  rw [add_at, show y + 1 + i = y + (1 + i) by omega, h6]
  congr 2
  cases hw : want Q s with
  | nil => simp [hw] at hi
  | cons x l => simp [List.getD_eq_getElem?_getD, Nat.add_comm 1 i]
theorem rdv_one {w : World} {bm n : Nat} {M : Int → Value} {Q : List Pd} (h : Rm w bm n M Q) {s : Int} (hs : Ok3 s) {ad : Addr} {cs : Nat} (hv : M s = .slice (some ad) 1 cs) :
    RdV w (.slice (some ad) 0 0) (want Q s).tail := by
  obtain ⟨B, c, hvv, k1, k2, _, k4⟩ := h.row s hs
  rw [hv] at hvv
  simp only [Value.slice.injEq] at hvv
  obtain ⟨rfl, hlen, rfl⟩ := hvv
  obtain ⟨hsp, hcur, _⟩ := k4 ad rfl
  refine ⟨some ad, 0, by rw [List.length_tail, ← hlen], by rw [List.length_tail]; omega, Nat.zero_le _, (fun h => by cases h), fun ad' hA => ?_⟩
  cases hA
  exact ⟨hsp, hcur, fun i hi => by rw [List.length_tail] at hi; omega⟩
end Go.Proofs.Ytbpihfphoniclaa
