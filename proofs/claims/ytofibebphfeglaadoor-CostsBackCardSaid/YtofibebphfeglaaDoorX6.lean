/- Parse of the program: one round of its range. -/
import Derived.Test.YtofibebphfeglaaDoorY2
import Derived.Test.YtofibebphfeglaaDoorVia
namespace Go.Proofs.YtofibebphfeglaaDoor
open Go.RowKit
set_option linter.unusedVariables false
attribute [local go_sem] Oper.semAt_some
def seq1 : Code → Code | .seq a _ => a | c => c
def seq2 : Code → Code | .seq _ b => b | c => c
def blkB : Code → Code | .block _ b => b | c => c
def rngB : Code → Code | .rangeFunc _ _ _ b => b | c => c
def flt (k c : Int) : Array Value := #[.int .i64 k, .int .i64 c]
/-- What the range in Parse keeps. -/
structure PI (w : World) (s : Bs) (pre : List (Nat × Bs)) (W : World) : Prop where
  tb : ∃ T rest, W.heap[w.heap.size + 2]? = some (.cells (ints T) 28 (0, 0)) ∧ linesL s = pre ++ rest ∧ runP (linesL s) 0 z26 = runP rest pre.length T ∧ T.length = 26 ∧ pre.length ≤ 26
  ln : Boxed W (w.heap.size + 3) 3 (.int .i64 pre.length)
  r2 : W.heap[w.heap.size]? = some (.cells (ints z26) 28 (0, 0))
  r3 : W.heap[w.heap.size + 1]? = some (.cells (flt 0 0) 36 (0, 0))
  bel : Below w.heap.size w W
  sz : w.heap.size + 5 ≤ W.heap.size
/-- .. and what it leaves where it ends at a fault. -/
structure PX (w : World) (s : Bs) (c : Code) (W : World) : Prop where
  ret : c = .ret
  out : ∃ k : Nat, runP (linesL s) 0 z26 = .error k ∧ W.heap[w.heap.size + 1]? = some (.cells (flt k 36) 36 (0, 0))
  r2 : W.heap[w.heap.size]? = some (.cells (ints z26) 28 (0, 0))
  bel : Below w.heap.size w W
  sz : w.heap.size + 5 ≤ W.heap.size
theorem PI.same {w A B : World} {s : Bs} {pre : List (Nat × Bs)} (h : PI w s pre A) (hb : Below (w.heap.size + 5) A B) : PI w s pre B := by
  obtain ⟨T, rest, h1, h2⟩ := h.tb
  exact ⟨⟨T, rest, (hb.block _ (by omega)).trans h1, h2⟩, (hb.block _ (by omega)).trans h.ln, (hb.block _ (by omega)).trans h.r2, (hb.block _ (by omega)).trans h.r3, h.bel.trans (hb.mono (by omega)), Nat.le_trans h.sz hb.size⟩
theorem PX.same {w A B : World} {s : Bs} {c : Code} (h : PX w s c A) (hb : Below (w.heap.size + 5) A B) : PX w s c B := by
  obtain ⟨k, h1, h2⟩ := h.out
  exact ⟨h.ret, ⟨k, h1, (hb.block _ (by omega)).trans h2⟩, (hb.block _ (by omega)).trans h.r2, h.bel.trans (hb.mono (by omega)), Nat.le_trans h.sz hb.size⟩
theorem built28z : Tryd.prog.built 28 [] = some (ints z26) := by kernel_rfl
theorem size36 : (Tryd.prog.info? 36).map (·.size) = some 2 := by kernel_rfl
theorem keepsOthers_setRow (W : World) (g : Nat) (cs old : Array Value) (T : TypeId) (fr : Nat × Nat) (h : W.heap[g]? = some (.cells old T fr)) : KeepsOthers W (W.setRow g cs) :=
  ⟨by simp, fun k o hk ho => by
    by_cases e : k = g
    · subst e
      rw [hk] at h
      cases h
      cases ho
    · exact (setRow_other _ _ _ _ e).trans hk⟩
theorem keepsO_below {W W' : World} (h : Below W.heap.size W W') : KeepsOthers W W' := ⟨h.size, fun k o hk _ => (h.block k (Array.getElem?_eq_some_iff.1 hk).1).trans hk⟩
theorem fail_end {w W W2 : World} {s : Bs} {pre : List (Nat × Bs)} {k : Nat} (h : PI w s pre W2) (hb : Below W.heap.size W W2) (he : runP (linesL s) 0 z26 = .error k) :
    KeepsOthers W ((W2.setRow w.heap.size (ints z26)).setRow (w.heap.size + 1) (flt k 36)) ∧ PX w s .ret ((W2.setRow w.heap.size (ints z26)).setRow (w.heap.size + 1) (flt k 36)) := by
  have h1 : (W2.setRow w.heap.size (ints z26)).heap[w.heap.size + 1]? = some (.cells (flt 0 0) 36 (0, 0)) := (setRow_other _ _ _ _ (by omega)).trans h.r3
  refine ⟨((keepsO_below hb).trans (keepsOthers_setRow _ _ _ _ _ _ h.r2)).trans (keepsOthers_setRow _ _ _ _ _ _ h1), rfl, ⟨k, he, setRow_heap _ _ _ _ _ _ h1⟩, (setRow_other _ _ _ _ (by omega)).trans (setRow_heap _ _ _ _ _ _ h.r2), ?_, by simpa using h.sz⟩
  exact below_setRow' (below_setRow' h.bel (Nat.le_refl _) _) (by omega) _
theorem PI.next {w W W2 : World} {s : Bs} {pre : List (Nat × Bs)} {x : Nat × Bs} {rest : List (Nat × Bs)} {T : List Int} {v : Int} (h : PI w s pre W2) (hb : Below W.heap.size W W2) (hT : W2.heap[w.heap.size + 2]? = some (.cells (ints T) 28 (0, 0)))
    (hL : linesL s = pre ++ x :: rest) (hrun : runP (linesL s) 0 z26 = runP (x :: rest) pre.length T) (hTl : T.length = 26) (hi : pre.length < 26) (hv : stepP pre.length x.2 = some v) (hz : w.heap.size + 5 ≤ W.heap.size) :
    KeepsOthers W ((W2.setCell ⟨w.heap.size + 2, pre.length, none⟩ (.int .i64 v)).setCell ⟨w.heap.size + 3, 0, none⟩ (.int .i64 ((pre.length : Int) + 1))) ∧ KeepS (fun k => k = w.heap.size + 4) W ((W2.setCell ⟨w.heap.size + 2, pre.length, none⟩ (.int .i64 v)).setCell ⟨w.heap.size + 3, 0, none⟩ (.int .i64 ((pre.length : Int) + 1))) ∧
      PI w s (pre ++ [x]) ((W2.setCell ⟨w.heap.size + 2, pre.length, none⟩ (.int .i64 v)).setCell ⟨w.heap.size + 3, 0, none⟩ (.int .i64 ((pre.length : Int) + 1))) := by
  have hk : ∀ k, k ≠ w.heap.size + 2 → k ≠ w.heap.size + 3 → ((W2.setCell ⟨w.heap.size + 2, pre.length, none⟩ (.int .i64 v)).setCell ⟨w.heap.size + 3, 0, none⟩ (.int .i64 ((pre.length : Int) + 1))).heap[k]? = W2.heap[k]? := fun k h1 h2 =>
    (Below.heap_setCell _ _ _ _ h2).trans (Below.heap_setCell _ _ _ _ h1)
  refine ⟨((keepsO_below hb).trans (KeepsOthers.setCell _ _ _)).trans (KeepsOthers.setCell _ _ _), ⟨by have := hb.size; simpa [World.setCell] using this, fun k e => ?_⟩, ?_⟩
  · subst e
    exact (hk _ (by omega) (by omega)).trans (hb.block _ (by omega))
  · refine ⟨⟨T.set pre.length v, rest, ?_, by rw [hL]; simp, ?_, by simp [hTl], by simp; omega⟩, ?_, (hk _ (by omega) (by omega)).trans h.r2, (hk _ (by omega) (by omega)).trans h.r3, ?_, by have := h.sz; simpa [World.setCell] using this⟩
    · exact (Below.heap_setCell _ _ _ _ (by show w.heap.size + 2 ≠ w.heap.size + 3; omega)).trans (ints_setCell hT _ _)
    · rw [hrun]
      simp only [runP]
      rw [if_neg (by omega), hv, List.length_append]
      rfl
    · have h3 : Boxed (W2.setCell ⟨w.heap.size + 2, pre.length, none⟩ (.int .i64 v)) (w.heap.size + 3) 3 (.int .i64 pre.length) := (Below.heap_setCell _ _ _ _ (by show w.heap.size + 3 ≠ w.heap.size + 2; omega)).trans h.ln
      have h4 := h3.set (.int .i64 ((pre.length : Int) + 1))
      rw [List.length_append]
      exact h4
    · exact (h.bel.setCell (p := ⟨w.heap.size + 2, pre.length, none⟩) (by show w.heap.size ≤ w.heap.size + 2; omega) _).setCell (p := ⟨w.heap.size + 3, 0, none⟩) (by show w.heap.size ≤ w.heap.size + 3; omega) _
set_option maxHeartbeats 4000000 in
set_option maxRecDepth 100000 in
theorem parse_round (s : Bs) (w W : World) (pre : List (Nat × Bs)) (x : Nat × Bs) (l : Nat) (hN : NamesAt w) (h : PI w s pre W) (hx : pre ++ [x] <+: linesL s) (hl : x.2.length ≤ 1000000) :
    (rngB (blkB (seq2 (seq1 (seq2 (seq2 (seq2 (seq2 (Tryd.f14.body.getD .skip))))))))).wpIn (Fence.wide.inRound l) 3 Tryd.prog (ownPostK (KeepS (fun k => k = w.heap.size + 4)) (PI w s) (fun c _ W => PX w s c W) (pre ++ [x]) W) { tmps := #[.string ⟨s.toArray⟩, undef, .pointer (some ⟨w.heap.size, 0, none⟩), .pointer (some ⟨w.heap.size + 1, 0, none⟩), .pointer (some ⟨w.heap.size + 2, 0, none⟩), .pointer (some ⟨w.heap.size + 3, 0, none⟩), .int .i64 x.1, .string ⟨x.2.toArray⟩, undef, undef, undef, undef, undef, .string ⟨s.toArray⟩, .int .i64 s.length, .bool false, undef, undef, .string ⟨s.toArray⟩, .func (.func 36) #[] #[.pointer (some ⟨w.heap.size + 4, 0, none⟩)], .int .i64 x.1, .string ⟨x.2.toArray⟩, undef, undef, undef, undef, undef, undef, undef, undef, undef, undef, undef, undef, undef, undef, undef, undef, undef, undef, undef, undef, undef, undef, undef, undef, undef, undef, undef, undef, undef, undef, undef, undef, undef, undef, undef, undef, undef, undef, undef, undef, undef, undef, undef, undef, undef, undef, undef, undef, undef], defers := [] } W := by
  obtain ⟨T, rest, hT, hL, hrun, hTl, h26⟩ := h.tb
  obtain ⟨rest', rfl⟩ : ∃ rest', rest = x :: rest' := by
    obtain ⟨t, ht⟩ := hx
    rw [hL, List.append_assoc] at ht
    exact ⟨t, (List.append_cancel_left ht).symm⟩
  have HP := Lib.hid (And.intro h (And.intro hL (And.intro hrun hTl)))
  have hNW : NamesAt W := hN.below h.bel
  have c5 := h.ln.cell
  simp only [Tryd.f14, Option.getD_some, seq1, seq2, blkB, rngB]
  rcases Nat.lt_or_ge pre.length 26 with hi | hi
  · have hne : ¬ (pre.length : Int) = 26 := by omega
    have hlt : (pre.length : Int) < 26 := by omega
    have hcn := hNW pre.length hi
    have hlb : (lbl pre.length).length ≤ 1000000 := by
      have : ∀ i, i < 26 → (lbl i).length ≤ 1000000 := by decide
      exact this _ hi
    have hnl : (lab.getD pre.length []).length ≤ 20 := by
      have : ∀ i, i < 26 → (lab.getD i []).length ≤ 20 := by decide
      exact this _ hi
    have HCU := Lib.hid (fun W => cut_calls x.2 (lbl pre.length) W hl hlb)
    have hcl : (cutS x.2 (lbl pre.length)).1.length ≤ 1000000 := by
      unfold cutS
      split
      · simp; omega
      · exact hl
    have HNU := Lib.hid (fun W => num30_calls (cutS x.2 (lbl pre.length)).1 W hcl)
    have hst : stepP pre.length x.2 = if (cutS x.2 (lbl pre.length)).2 = true ∧ numOK (cutS x.2 (lbl pre.length)).1 = true then some (numV (cutS x.2 (lbl pre.length)).1) else none := by
      unfold stepP numV
      split
      · rename_i hc
        rw [if_pos hc.2]
      · rfl
    have HST := Lib.hid hst
    have elb : bstr (lbl pre.length) = .string ((⟨(lab.getD pre.length []).toArray⟩ : ByteArray) ++ ⟨#[32]⟩) := by
      unfold bstr lbl
      rw [show (⟨#[32]⟩ : ByteArray) = ⟨[32].toArray⟩ from rfl, bs_app]
    rw [elb] at HCU
    clear elb hst
    unfold bs at hcn
    generalize lab.getD pre.length [] = nm0 at *
    generalize cutS x.2 (lbl pre.length) = cu at *
    obtain ⟨ab, okb⟩ := cu
    simp only at HNU HCU HST
    unfold bstr at HNU HCU
    have HTB := Lib.hid hT
    clear hT hL hrun hx hTl hNW hlb hcl
    have HI := Lib.hid (And.intro hi h)
    clear hi h
    rcases (by cases okb <;> cases numOK ab <;> simp : (okb = false) ∨ (okb = true ∧ numOK ab = false) ∨ (okb = true ∧ numOK ab = true)) with rfl | ⟨rfl, hno⟩ | ⟨rfl, hno⟩
    · have HS : Hid (stepP pre.length x.2 = none) := Lib.hid (by rw [HST.out]; simp)
      clear HST
      gi_wp2_with (first
        | (refine ⟨trivial, ?_⟩; gi_at_call 29; refine (callsIn_wide.2 (HCU.out _)).mono ?_; rintro e w1 ⟨rfl, rfl⟩)
        | (refine ⟨trivial, ?_⟩; gi_at_call 30; refine (callsIn_wide.2 (HNU.out _)).mono ?_; rintro e w2 ⟨rfl, hb⟩; have HB := Lib.hid (And.intro hb (HI.out.2.same (hb.mono HI.out.2.sz))); clear hb)
        | ((with_reducible change wpListIn _ _ _ _ _ (⟨_, .build 28 _, _, _, _, _⟩ :: _) _ _); refine wpListIn_via rfl (fun Q' hQ' => ?_); refine wpList_build_to rfl 28 #[] rfl [] (by simp) _ built28z ?_; refine hQ' _ _ ?_; clear hQ' Q')
        | ((with_reducible change wpListIn _ _ _ _ _ (⟨_, .store 28 _ _, _, _, _, _⟩ :: _) _ _); refine wpListIn_via rfl (fun Q' hQ' => ?_); refine wpList_store_row rfl 28 (.tmp 2) (.tmp 47) rfl w.heap.size (ints z26) rfl rfl 28 _ HB.out.2.r2 size28 rfl (ints_one _) ?_; refine hQ' _ _ ?_; clear hQ' Q')
        | ((with_reducible change wpListIn _ _ _ _ _ (⟨_, .store 36 _ _, _, _, _, _⟩ :: _) _ _); refine wpListIn_via rfl (fun Q' hQ' => ?_); refine wpList_store_row rfl 36 (.tmp 3) (.tmp 49) rfl (w.heap.size + 1) (flt x.1 36) rfl rfl 36 _ ((setRow_other _ _ _ _ (by omega)).trans HB.out.2.r3) size36 rfl (by simp [flt, Value.oneCell']) ?_; refine hQ' _ _ ?_; clear hQ' Q'))
      exact fail_end HB.out.2 HB.out.1 (by rw [HP.out.2.2.1]; simp only [runP]; rw [if_neg (by have := HI.out.1; omega), HS.out])
    · have HS : Hid (stepP pre.length x.2 = none) := Lib.hid (by rw [HST.out, hno]; simp)
      rw [hno] at HNU
      clear HST hno
      gi_wp2_with (first
        | (refine ⟨trivial, ?_⟩; gi_at_call 29; refine (callsIn_wide.2 (HCU.out _)).mono ?_; rintro e w1 ⟨rfl, rfl⟩)
        | (refine ⟨trivial, ?_⟩; gi_at_call 30; refine (callsIn_wide.2 (HNU.out _)).mono ?_; rintro e w2 ⟨rfl, hb⟩; have HB := Lib.hid (And.intro hb (HI.out.2.same (hb.mono HI.out.2.sz))); clear hb)
        | ((with_reducible change wpListIn _ _ _ _ _ (⟨_, .build 28 _, _, _, _, _⟩ :: _) _ _); refine wpListIn_via rfl (fun Q' hQ' => ?_); refine wpList_build_to rfl 28 #[] rfl [] (by simp) _ built28z ?_; refine hQ' _ _ ?_; clear hQ' Q')
        | ((with_reducible change wpListIn _ _ _ _ _ (⟨_, .store 28 _ _, _, _, _, _⟩ :: _) _ _); refine wpListIn_via rfl (fun Q' hQ' => ?_); refine wpList_store_row rfl 28 (.tmp 2) (.tmp 47) rfl w.heap.size (ints z26) rfl rfl 28 _ HB.out.2.r2 size28 rfl (ints_one _) ?_; refine hQ' _ _ ?_; clear hQ' Q')
        | ((with_reducible change wpListIn _ _ _ _ _ (⟨_, .store 36 _ _, _, _, _, _⟩ :: _) _ _); refine wpListIn_via rfl (fun Q' hQ' => ?_); refine wpList_store_row rfl 36 (.tmp 3) (.tmp 49) rfl (w.heap.size + 1) (flt x.1 36) rfl rfl 36 _ ((setRow_other _ _ _ _ (by omega)).trans HB.out.2.r3) size36 rfl (by simp [flt, Value.oneCell']) ?_; refine hQ' _ _ ?_; clear hQ' Q'))
      exact fail_end HB.out.2 HB.out.1 (by rw [HP.out.2.2.1]; simp only [runP]; rw [if_neg (by have := HI.out.1; omega), HS.out])
    · have HS : Hid (stepP pre.length x.2 = some (numV ab)) := Lib.hid (by rw [HST.out, hno]; simp)
      rw [hno] at HNU
      clear HST hno
      gi_wp2_with (first
        | (refine ⟨trivial, ?_⟩; gi_at_call 29; refine (callsIn_wide.2 (HCU.out _)).mono ?_; rintro e w1 ⟨rfl, rfl⟩)
        | (refine ⟨trivial, ?_⟩; gi_at_call 30; refine (callsIn_wide.2 (HNU.out _)).mono ?_; rintro e w2 ⟨rfl, hb⟩; have HB := Lib.hid (And.intro hb (HI.out.2.same (hb.mono HI.out.2.sz))); have HT2 := Lib.hid ((hb.block _ (by have := HI.out.2.sz; omega)).trans HTB.out); have c52 := HB.out.2.ln.cell; have f52 := HB.out.2.ln.frozen; have c42 := ints_cell HT2.out pre.length (by have := HP.out.2.2.2; have := HI.out.1; omega); have f42 := frozen_of_row _ _ pre.length _ _ HT2.out; clear hb)
        | (refine ⟨trivial, ?_⟩; gi_at_call 24; refine (callsIn_wide.2 (value_calls (w.heap.size + 2) pre.length HI.out.1 _)).mono ?_; rintro e w3 ⟨rfl, rfl⟩))
      exact PI.next HB.out.2 HB.out.1 HT2.out HP.out.2.1 HP.out.2.2.1 HP.out.2.2.2 HI.out.1 HS.out HI.out.2.sz
  · obtain hp : pre.length = 26 := by omega
    have hle : (pre.length : Int) = 26 := by omega
    clear hT hL hrun hx h hTl
    rw [hle] at c5
    gi_wp2_with (first
      | ((with_reducible change wpListIn _ _ _ _ _ (⟨_, .build 28 _, _, _, _, _⟩ :: _) _ _); refine wpListIn_via rfl (fun Q' hQ' => ?_); refine wpList_build_to rfl 28 #[] rfl [] (by simp) _ built28z ?_; refine hQ' _ _ ?_; clear hQ' Q')
      | ((with_reducible change wpListIn _ _ _ _ _ (⟨_, .store 28 _ _, _, _, _, _⟩ :: _) _ _); refine wpListIn_via rfl (fun Q' hQ' => ?_); refine wpList_store_row rfl 28 (.tmp 2) (.tmp 24) rfl w.heap.size (ints z26) rfl rfl 28 _ HP.out.1.r2 size28 rfl (ints_one _) ?_; refine hQ' _ _ ?_; clear hQ' Q')
      | ((with_reducible change wpListIn _ _ _ _ _ (⟨_, .store 36 _ _, _, _, _, _⟩ :: _) _ _); refine wpListIn_via rfl (fun Q' hQ' => ?_); refine wpList_store_row rfl 36 (.tmp 3) (.tmp 26) rfl (w.heap.size + 1) (flt x.1 36) rfl rfl 36 _ ((setRow_other _ _ _ _ (by omega)).trans HP.out.1.r3) size36 rfl (by simp [flt, Value.oneCell']) ?_; refine hQ' _ _ ?_; clear hQ' Q'))
    exact fail_end HP.out.1 (Below.refl _ _) (by rw [HP.out.2.2.1]; simp [runP, hp])
end Go.Proofs.YtofibebphfeglaaDoor
