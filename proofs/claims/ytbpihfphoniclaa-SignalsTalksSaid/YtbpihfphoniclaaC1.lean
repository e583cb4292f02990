import Derived.Test.YtbpihfphoniclaaC0
namespace Go.Proofs.Ytbpihfphoniclaa
open Go.RowKit
set_option linter.unusedVariables false
def dv (d : Int × Int × Int) : Array Value := #[.int .i64 d.1, .int .i64 d.2.1, .int .i64 d.2.2]
theorem three_set {w : World} {g : Nat} {a b c : Value} {e : TypeId} (h : w.heap[g]? = some (.cells #[a, b, c] e (0, 0))) (u v z : Value) : (((w.setCell ⟨g, 0, none⟩ u).setCell ⟨g, 1, none⟩ v).setCell ⟨g, 2, none⟩ z).heap[g]? = some (.cells #[u, v, z] e (0, 0)) := by
  rw [heap_setCell_same _ _ _ _ _ _ (heap_setCell_same _ _ _ _ _ _ (heap_setCell_same w g 0 _ e u h))]
  simp
theorem keep_alloc {X : World} {k : Nat} {o : Obj} (h : X.heap[k]? = some o) (a : Obj) : (X.alloc a).heap[k]? = some o := (Below.heap_alloc X a k (Array.getElem?_eq_some_iff.1 h).1).trans h
theorem heap2 (w : World) (a b : Obj) : ((w.alloc a).alloc b).heap[w.heap.size]? = some a ∧ ((w.alloc a).alloc b).heap[w.heap.size + 1]? = some b ∧ Below w.heap.size w ((w.alloc a).alloc b) := by
  have e1 : (w.alloc a).heap.size = w.heap.size + 1 := by simp
  refine ⟨?_, ?_, ((Below.refl _ _).alloc (Nat.le_refl _) _).alloc (by omega) _⟩
  · rw [Below.heap_alloc _ _ _ (by omega)]; exact heap_alloc_new _ _
  · rw [← e1]; exact heap_alloc_new _ _
def Ty (w : World) (g : Nat) (e : TypeId) : Prop := ∃ cs fr, w.heap[g]? = some (.cells cs e fr)
theorem Ty.set {w : World} {g : Nat} {e : TypeId} (h : Ty w g e) (a : Addr) (u : Value) : Ty (w.setCell a u) g e := by
  obtain ⟨cs, fr, h⟩ := h
  by_cases hg : g = a.block
  · subst hg
    simp only [Ty, World.setCell, Array.getElem?_modify, if_true, h]
    exact ⟨_, _, rfl⟩
  · exact ⟨cs, fr, (Below.heap_setCell w a u g hg).trans h⟩
theorem RepL.other {w : World} {base t : Nat} {L : Lay} {S : St} (h : RepL w base t L S) {g : Nat} {e : TypeId} (hty : Ty w g e) (he : e ≠ 77 ∧ e ≠ 80 ∧ e ≠ 94) (k : Nat) (u : Value) : RepL (w.setCell ⟨g, k, none⟩ u) base t L S := by
  obtain ⟨cs, fr, hg⟩ := hty
  refine h.kept fun b cs2 e2 fr2 hb h2 => Below.heap_setCell _ _ _ _ ?_
  intro hbg
  rw [show b = g from hbg, hg] at hb
  cases hb
  rcases h2 with h2 | h2 | h2
  · exact he.1 h2
  · exact he.2.1 h2
  · exact he.2.2 h2
theorem next_nil (th : Int) (w : World) : Calls Try.prog 15 #[.pointer none, .int .i64 th] w fun e w' => e = .returned (.tuple #[.agg #[.int .i64 0, .int .i64 0, .int .i64 0], .bool false]) ∧ Below w.heap.size w w' := by
  go_enter Try.func15, Try.ntmps15
  go_wp2_with (go_at_call 29; refine (started_nil th _).mono ?_; rintro e w' ⟨rfl, rfl⟩)
  refine bodyPost_ret (results_agg rfl _ _ ⟨w.heap.size, 0, none⟩ #[.int .i64 0, .int .i64 0, .int .i64 0] _ rfl (cells_of_heap (heap_alloc_new w _)) Try.underlying35 rfl (n := 3) (by kernel_rfl) rfl) rfl ⟨rfl, ?_⟩
  exact (Below.refl _ _).alloc (Nat.le_refl _) _
theorem next_bad {base t : Nat} {L : Lay} {S : St} (th : Int) (w : World) (h : RepL w base t L S) (hbad : (isTh th = false ∨ S.tk th.toNat = none)) :
    Calls Try.prog 15 #[.pointer (some ⟨t, 0, none⟩), .int .i64 th] w fun e w' => e = .returned (.tuple #[.agg #[.int .i64 0, .int .i64 0, .int .i64 0], .bool false]) ∧ Below w.heap.size w w' := by
  have hb1 := h.below ((Below.refl w.heap.size w).alloc (Nat.le_refl _) (.cells #[.int .i64 0, .int .i64 0, .int .i64 0] 35))
  cases hth : isTh th with
  | false =>
    have HST := Lib.hid (started_bad (base := base) (t := t) (L := L) (S := S) th (w.alloc (.cells #[.int .i64 0, .int .i64 0, .int .i64 0] 35)) hth)
    clear hth hbad hb1
    go_enter Try.func15, Try.ntmps15
    go_wp2_with (go_at_call 29; refine HST.out.mono ?_; rintro e w' ⟨rfl, rfl⟩)
    refine bodyPost_ret (results_agg rfl _ _ ⟨w.heap.size, 0, none⟩ #[.int .i64 0, .int .i64 0, .int .i64 0] _ rfl (cells_of_heap (heap_alloc_new w _)) Try.underlying35 rfl (n := 3) (by kernel_rfl) rfl) rfl ⟨rfl, ?_⟩
    exact (Below.refl _ _).alloc (Nat.le_refl _) _
  | true =>
    have hx : S.tk th.toNat = none := by
      rcases hbad with hb | hb
      · rw [hth] at hb; cases hb
      · exact hb
    obtain ⟨t0, t1⟩ := isTh_iff.1 hth
    have HST := Lib.hid (started_calls th _ hb1 hth)
    have HP := Lib.hid (h.idle th.toNat (by omega) hx).1
    have HX := Lib.hid hx
    clear hth hx hbad hb1 h
    go_enter Try.func15, Try.ntmps15
    go_wp2_with (go_at_call 29; refine HST.out.mono ?_; rw [HP.out, HX.out]; rintro e w' ⟨rfl, rfl⟩)
    refine bodyPost_ret (results_agg rfl _ _ ⟨w.heap.size, 0, none⟩ #[.int .i64 0, .int .i64 0, .int .i64 0] _ rfl (cells_of_heap (heap_alloc_new w _)) Try.underlying35 rfl (n := 3) (by kernel_rfl) rfl) rfl ⟨rfl, ?_⟩
    exact (Below.refl _ _).alloc (Nat.le_refl _) _
set_option maxHeartbeats 1000000 in
set_option maxRecDepth 100000 in
theorem next_some {base t : Nat} {L : Lay} {S : St} (th : Int) (w : World) (h : RepL w base t L S) (hin : Inv S 1000) (hth : isTh th = true) (x : Tk) (hx : S.tk th.toNat = some x) :
    Calls Try.prog 15 #[.pointer (some ⟨t, 0, none⟩), .int .i64 th] w fun e w' => e = .returned (.tuple #[.agg (dv (nextS S th).1.1), .bool (nextS S th).1.2]) ∧ After base t (nextS S th).2 w w' := by
  obtain ⟨t0, t1⟩ := isTh_iff.1 hth
  obtain ⟨W1, hW1⟩ : ∃ W1, w.alloc (.cells #[.int .i64 0, .int .i64 0, .int .i64 0] 35) = W1 := ⟨_, rfl⟩
  have hb1 : Below w.heap.size w W1 := by rw [← hW1]; exact (Below.refl _ _).alloc (Nat.le_refl _) _
  have hn1 : W1.heap[w.heap.size]? = some (.cells #[.int .i64 0, .int .i64 0, .int .i64 0] 35 (0, 0)) := by rw [← hW1]; exact heap_alloc_new w _
  have h1 := h.below hb1
  have HST := Lib.hid (started_calls th W1 h1 hth)
  obtain ⟨bb, hpb, _, hbl, hbc, hc⟩ := h1.task_cell (show th.toNat < 256 by omega) hx
  obtain ⟨hp0, hp1, hm, _, _, _⟩ := hin.task th.toNat (by omega) x hx
  have c3 : W1.cell? ⟨bb, 3, none⟩ = some (.bool x.waits) := by rw [cell_of_row _ _ _ _ _ _ hbc]; rfl
  have c1 : W1.cell? ⟨bb, 1, none⟩ = some (.int .u64 x.mask) := by rw [cell_of_row _ _ _ _ _ _ hbc]; rfl
  have HX := Lib.hid hx
  have HPB := Lib.hid hpb
  have HN1 := Lib.hid (And.intro hn1 hb1)
  have H1 := Lib.hid (And.intro h1 (And.intro hin h.base_lt))
  have H0 := Lib.hid h
  cases hw : x.waits with
  | true =>
    rw [show nextS S th = (((0, 0, 0), false), S) by simp [nextS, hth, hx, hw]]
    rw [hw] at c3
    obtain ⟨z0, z1, z2⟩ : W1.cell? ⟨w.heap.size, 0, none⟩ = some (.int .i64 0) ∧ W1.cell? ⟨w.heap.size, 1, none⟩ = some (.int .i64 0) ∧ W1.cell? ⟨w.heap.size, 2, none⟩ = some (.int .i64 0) := by
      refine ⟨?_, ?_, ?_⟩ <;> (rw [cell_of_row _ _ _ _ _ _ hn1]; rfl)
    have y0 := frozen_of_cells hn1 0
    have y1 := frozen_of_cells hn1 1
    have y2 := frozen_of_cells hn1 2
    clear hth hx hpb hbc hn1 hb1 h h1 hin hw
    go_enter Try.func15, Try.ntmps15
    go_wp2_with fail
    clear hW1
    refine HST.out.mono ?_
    rw [HPB.out, HX.out]
    simp only [pv, Option.map_some, Option.isSome_some, if_true]
    rintro e w' ⟨rfl, rfl⟩
    go_wp2
    refine bodyPost_ret (results_agg rfl _ _ ⟨w.heap.size, 0, none⟩ #[.int .i64 0, .int .i64 0, .int .i64 0] _ rfl (cells_of_heap (three_set HN1.out.1 _ _ _)) Try.underlying35 rfl (n := 3) (by kernel_rfl) rfl) rfl ⟨rfl, ?_⟩
    exact After.below H0.out (((HN1.out.2.setCell (Nat.le_refl _) _).setCell (Nat.le_refl _) _).setCell (Nat.le_refl _) _)
  | false =>
    have hsig := lowest_range hin (th := th.toNat) (p := x.proc.toNat) (by omega) (by omega) (allM &&& (18446744073709551615 - x.mask))
    have e1 : bits .andNot .u64 72057594037927935 (x.mask : Int) = ((allM &&& (18446744073709551615 - x.mask) : Nat) : Int) := u64_andNot_nat allM x.mask (by decide) (by omega)
    have hml := allM_lt (18446744073709551615 - x.mask)
    rw [hw] at c3
    have HTN := Lib.hid (take_none th.toNat bb (allM &&& (18446744073709551615 - x.mask)) x W1 h1 hin (by omega) hx hpb hml)
    have HTS := Lib.hid (take_some th.toNat bb (allM &&& (18446744073709551615 - x.mask)) x W1 h1 hin (by omega) hx hpb hml)
    have HNX : Hid (nextS S th = if lowest (both S th.toNat x.proc.toNat) (allM &&& (18446744073709551615 - x.mask)) = 0 then (((0, 0, 0), false), S) else (((lowest (both S th.toNat x.proc.toNat) (allM &&& (18446744073709551615 - x.mask)), (takeS S th.toNat x.proc.toNat (lowest (both S th.toNat x.proc.toNat) (allM &&& (18446744073709551615 - x.mask)))).1, does S x.proc.toNat (lowest (both S th.toNat x.proc.toNat) (allM &&& (18446744073709551615 - x.mask)))), true), (takeS S th.toNat x.proc.toNat (lowest (both S th.toNat x.proc.toNat) (allM &&& (18446744073709551615 - x.mask)))).2)) := Lib.hid (by simp [nextS, hth, hx, hw])
    generalize allM &&& (18446744073709551615 - x.mask) = mm at *
    obtain ⟨sg, hsg⟩ : ∃ sg, lowest (both S th.toNat x.proc.toNat) mm = sg := ⟨_, rfl⟩
    rw [hsg] at HTN HTS HNX hsig
    have hac := takeS_ac S th.toNat x.proc.toNat sg
    have htk := takeS_tk S th.toNat x.proc.toNat sg
    generalize takeS S th.toNat x.proc.toNat sg = rr at *
    obtain ⟨vl, S2⟩ := rr
    simp only at hac htk HTS HNX
    have hdo := does_ac hac x.proc.toNat sg
    rw [HNX.out]
    have H2 := Lib.hid (And.intro hdo htk)
    clear hth hx hpb hbc hn1 hb1 h h1 hin hw hsg hac htk hdo HNX hm
    by_cases hlow : sg = 0
    · rw [if_pos hlow]
      have HT := Lib.hid (HTN.out hlow)
      clear HTN HTS hlow
      go_enter Try.func15, Try.ntmps15
      go_wp2_with fail
      clear hW1
      refine HST.out.mono ?_
      rw [HPB.out, HX.out]
      simp only [pv, Option.map_some, Option.isSome_some, if_true]
      rintro e w' ⟨rfl, rfl⟩
      go_wp2_with fail
      refine HT.out.mono ?_
      rintro e w2 ⟨rfl, hd⟩
      have hn2 := (hd.block w.heap.size (Array.getElem?_eq_some_iff.1 HN1.out.1).1).trans HN1.out.1
      obtain ⟨z0, z1, z2⟩ : w2.cell? ⟨w.heap.size, 0, none⟩ = some (.int .i64 0) ∧ w2.cell? ⟨w.heap.size, 1, none⟩ = some (.int .i64 0) ∧ w2.cell? ⟨w.heap.size, 2, none⟩ = some (.int .i64 0) := by
        refine ⟨?_, ?_, ?_⟩ <;> (rw [cell_of_row _ _ _ _ _ _ hn2]; rfl)
      have y0 := frozen_of_cells hn2 0
      have y1 := frozen_of_cells hn2 1
      have y2 := frozen_of_cells hn2 2
      have hlt2 := (Array.getElem?_eq_some_iff.1 hn2).1
      have HN2 := Lib.hid (And.intro hn2 (below_then' HN1.out.2 hd))
      clear hn2 hd
      go_wp2
      refine bodyPost_ret (results_agg rfl _ _ ⟨w.heap.size, 0, none⟩ #[.int .i64 0, .int .i64 0, .int .i64 0] _ rfl (cells_of_heap (keep_alloc (keep_alloc (three_set HN2.out.1 _ _ _) _) _)) Try.underlying35 rfl (n := 3) (by kernel_rfl) rfl) rfl ⟨rfl, ?_⟩
      exact After.below H0.out (((((HN2.out.2.setCell (Nat.le_refl _) _).setCell (Nat.le_refl _) _).setCell (Nat.le_refl _) _).alloc (by have := HN2.out.2.size; simpa [World.setCell] using this) _).alloc (by have := HN2.out.2.size; simp [World.setCell]; omega) _)
    · rw [if_neg hlow]
      have HT := Lib.hid (HTS.out hlow)
      have hs0 : (sg == 0) = false := by simpa using hlow
      clear HTN HTS hlow
      go_enter Try.func15, Try.ntmps15
      go_wp2_with fail
      clear hW1
      refine HST.out.mono ?_
      rw [HPB.out, HX.out]
      simp only [pv, Option.map_some, Option.isSome_some, if_true]
      rintro e w' ⟨rfl, rfl⟩
      go_wp2_with fail
      refine HT.out.mono ?_
      rintro e w2 ⟨rfl, ⟨L2, hR2, hP2⟩, hF2⟩
      have hn2 := hF2.oth w.heap.size _ HN1.out.1 (fun e he => by simp [oty] at he; subst he; decide)
      obtain ⟨z0, z1, z2⟩ : w2.cell? ⟨w.heap.size, 0, none⟩ = some (.int .i64 0) ∧ w2.cell? ⟨w.heap.size, 1, none⟩ = some (.int .i64 0) ∧ w2.cell? ⟨w.heap.size, 2, none⟩ = some (.int .i64 0) := by
        refine ⟨?_, ?_, ?_⟩ <;> (rw [cell_of_row _ _ _ _ _ _ hn2]; rfl)
      have y0 := frozen_of_cells hn2 0
      have y1 := frozen_of_cells hn2 1
      have y2 := frozen_of_cells hn2 2
      have hlt2 := (Array.getElem?_eq_some_iff.1 hn2).1
      obtain ⟨b2, hb2, _, hbl2, hbc2, _⟩ := hR2.task_cell (show th.toNat < 256 by omega) (x := x) (by rw [H2.out.2]; exact HX.out)
      rw [hP2, HPB.out] at hb2
      cases hb2
      have c02 : w2.cell? ⟨bb, 0, none⟩ = some (.int .i64 x.proc) := by rw [cell_of_row _ _ _ _ _ _ hbc2]; rfl
      have HN2 := Lib.hid (And.intro hn2 (And.intro hR2 hF2))
      clear hn2 hR2 hF2 hP2 hbc2
      go_wp2
      obtain ⟨q1, q2, q3⟩ := heap2 w2 (.cells #[.int .i64 sg, .int .i64 vl] 94) (.cells #[.int .i64 sg, .int .i64 vl, .int .i64 0] 35)
      obtain ⟨W3, hW3⟩ : ∃ W3, (w2.alloc (.cells #[.int .i64 sg, .int .i64 vl] 94)).alloc (.cells #[.int .i64 sg, .int .i64 vl, .int .i64 0] 35) = W3 := ⟨_, rfl⟩
      rw [hW3] at q1 q2 q3 ⊢
      clear hW3
      have c03 := (q3.cell (p := ⟨bb, 0, none⟩) hbl2).trans c02
      have cs3 : W3.cell? ⟨w2.heap.size, 0, none⟩ = some (.int .i64 sg) := by rw [cell_of_row _ _ _ _ _ _ q1]; rfl
      have cd3 : W3.cell? ⟨w2.heap.size + 1, 2, none⟩ = some (.int .i64 0) := by rw [cell_of_row _ _ _ _ _ _ q2]; rfl
      have cd0 : W3.cell? ⟨w2.heap.size + 1, 0, none⟩ = some (.int .i64 sg) := by rw [cell_of_row _ _ _ _ _ _ q2]; rfl
      have cd1 : W3.cell? ⟨w2.heap.size + 1, 1, none⟩ = some (.int .i64 vl) := by rw [cell_of_row _ _ _ _ _ _ q2]; rfl
      have fd3 := frozen_of_cells q2 2
      have y03 := (q3.frozen (p := ⟨w.heap.size, 0, none⟩) hlt2).trans y0
      have y13 := (q3.frozen (p := ⟨w.heap.size, 1, none⟩) hlt2).trans y1
      have y23 := (q3.frozen (p := ⟨w.heap.size, 2, none⟩) hlt2).trans y2
      have z03 := (q3.cell (p := ⟨w.heap.size, 0, none⟩) hlt2).trans z0
      have z13 := (q3.cell (p := ⟨w.heap.size, 1, none⟩) hlt2).trans z1
      have z23 := (q3.cell (p := ⟨w.heap.size, 2, none⟩) hlt2).trans z2
      have ne1 : bb ≠ w2.heap.size + 1 := by omega
      have ne1' : ¬ w2.heap.size + 1 = bb := fun h => ne1 h.symm
      have ne2 : w2.heap.size ≠ w2.heap.size + 1 := by omega
      have ne3 : w.heap.size ≠ w2.heap.size + 1 := by omega
      have HW3 := Lib.hid (And.intro q1 (And.intro q2 q3))
      have HR3 := Lib.hid (HN2.out.2.1.below q3)
      clear q1 q2 q3 c02 y0 y1 y2 z0 z1 z2
      go_region_held3 (fun w' => w'.cell? ⟨bb, 0, none⟩ = some (.int .i64 x.proc) ∧ w'.cell? ⟨w2.heap.size, 0, none⟩ = some (.int .i64 sg)) (first | go_keep)
        ((first | (go_at_call 40; refine (does_calls x.proc sg _ (HR3.out.heap (w' := W3.drew) rfl) hp0 hp1 hsig.1 (by omega)).mono ?_; rw [H2.out.1]; rintro e w' ⟨rfl, rfl⟩)))
      go_wp2
      have T1 : Ty W3 (w2.heap.size + 1) 35 := ⟨_, _, HW3.out.2.1⟩
      have hn3 := (HW3.out.2.2.block w.heap.size hlt2).trans HN2.out.1
      have T2 : Ty W3 w.heap.size 35 := ⟨_, _, hn3⟩
      have r1 := HR3.out.other T1 (by decide) 2 (.int .i64 (does S x.proc.toNat sg))
      have r2 := r1.other (T2.set _ _) (by decide) 0 (.int .i64 sg)
      have r3 := r2.other ((T2.set _ _).set _ _) (by decide) 1 (.int .i64 vl)
      have r4 := r3.other (((T2.set _ _).set _ _).set _ _) (by decide) 2 (.int .i64 (does S x.proc.toNat sg))
      have hs12 := HN1.out.2.size
      have hs2 := HN2.out.2.2.size
      have f1 : Fr base TS w W3 := ((Fr.of_below HN1.out.2 H1.out.2.2).trans HN2.out.2.2).trans (Fr.of_below HW3.out.2.2 (by have := H1.out.2.2; omega))
      have hbw := H1.out.2.2
      have f2 := ((((f1.setNew (R := w2.heap.size + 1) (by omega) (by omega) 2 (.int .i64 (does S x.proc.toNat sg))).setNew (R := w.heap.size) (Nat.le_refl _) hbw 0 (.int .i64 sg)).setNew (R := w.heap.size) (Nat.le_refl _) hbw 1 (.int .i64 vl)).setNew (R := w.heap.size) (Nat.le_refl _) hbw 2 (.int .i64 (does S x.proc.toNat sg)))
      have hn4 := three_set ((Below.heap_setCell W3 ⟨w2.heap.size + 1, 2, none⟩ (.int .i64 (does S x.proc.toNat sg)) w.heap.size ne3).trans hn3) (.int .i64 sg) (.int .i64 vl) (.int .i64 (does S x.proc.toNat sg))
      refine bodyPost_ret (results_agg rfl _ _ ⟨w.heap.size, 0, none⟩ #[.int .i64 sg, .int .i64 vl, .int .i64 (does S x.proc.toNat sg)] _ rfl (cells_of_heap (w := World.drew _) hn4) Try.underlying35 rfl (n := 3) (by kernel_rfl) rfl) rfl ⟨rfl, ⟨L2, r4.heap rfl⟩, f2.trans (Fr.of_heap rfl rfl rfl rfl)⟩
theorem next_calls {base t : Nat} {L : Lay} {S : St} (th : Int) (w : World) (h : RepL w base t L S) (hin : Inv S 1000) :
    Calls Try.prog 15 #[.pointer (some ⟨t, 0, none⟩), .int .i64 th] w fun e w' => e = .returned (.tuple #[.agg (dv (nextS S th).1.1), .bool (nextS S th).1.2]) ∧ After base t (nextS S th).2 w w' := by
  have bad : (isTh th = false ∨ S.tk th.toNat = none) → nextS S th = (((0, 0, 0), false), S) := by
    intro hb
    unfold nextS
    rcases hb with hb | hb
    · rw [hb]; rfl
    · cases hth : isTh th
      · rfl
      · simp [hb]
  cases hth : isTh th with
  | false =>
    rw [bad (.inl hth)]
    exact (next_bad th w h (.inl hth)).mono fun e w' ⟨h1, h2⟩ => ⟨h1, After.below h h2⟩
  | true =>
    cases hx : S.tk th.toNat with
    | none =>
      rw [bad (.inr hx)]
      exact (next_bad th w h (.inr hx)).mono fun e w' ⟨h1, h2⟩ => ⟨h1, After.below h h2⟩
    | some x => exact next_some th w h hin hth x hx
end Go.Proofs.Ytbpihfphoniclaa
