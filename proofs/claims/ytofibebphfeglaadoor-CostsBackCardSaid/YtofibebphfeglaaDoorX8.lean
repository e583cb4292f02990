/- Parse of the program, whole. -/
import Derived.Test.YtofibebphfeglaaDoorX7
namespace Go.Proofs.YtofibebphfeglaaDoor
open Go.RowKit
set_option linter.unusedVariables false
attribute [local go_sem] Oper.semAt_some
theorem linesF_len : ∀ (f k : Nat) (r : Bs), ∀ x ∈ linesF f k r, x.2.length ≤ r.length
  | 0, _, _, x, hx => by cases hx
  | f + 1, k, r, x, hx => by
    unfold linesF at hx
    split at hx
    · cases hx
    · cases hn : nl r with
      | none =>
        rw [hn] at hx
        simp only [List.mem_singleton] at hx
        rw [hx]
        simp
      | some n =>
        rw [hn] at hx
        rcases List.mem_cons.1 hx with rfl | hx
        · simp; omega
        · have := linesF_len f _ _ x hx
          rw [List.length_drop] at this
          omega
theorem below_own {m : Nat} {A B : World} {row : Option Nat} (hg : A.grownBy B row) (hr : ∀ r, row = some r → m ≤ r) (hm : m ≤ A.heap.size) : Below m A B :=
  ⟨hg.os, hg.tape, hg.output, hg.size, fun k hk => hg.block k (by omega) (fun e => by have := hr k e.symm; omega)⟩
theorem below_but {m : Nat} {A B : World} (hb : But (fun _ => False) A B) (hm : m ≤ A.heap.size) : Below m A B :=
  ⟨hb.os, hb.tape, hb.output, hb.size, fun k hk => hb.block k (by omega) (fun h => h)⟩
theorem below_putObj {m : Nat} {w W : World} {D : Nat} {o : Obj} (h : Below m w W) (hD : m ≤ D) : Below m w (W.putObj D o) :=
  h.trans ⟨rfl, rfl, rfl, by simp [World.putObj], fun k hk => World.putObj_heap_other (by omega)⟩
theorem end_put {w W : World} {D : Nat} {cs : List Int} {x y : Int} {o : Obj} {tmps : Array Value} (h2 : W.heap[w.heap.size]? = some (.cells (ints cs) 28 (0, 0))) (h3 : W.heap[w.heap.size + 1]? = some (.cells (flt x y) 36 (0, 0))) (hb : Below w.heap.size w W) (hD : w.heap.size + 5 ≤ D)
    (t2 : tmps.getD 2 undef = .pointer (some ⟨w.heap.size, 0, none⟩)) (t3 : tmps.getD 3 undef = .pointer (some ⟨w.heap.size + 1, 0, none⟩)) (hl : cs.length = 26 := by rfl) :
    ∃ v, (results Tryd.f14 tmps).run Tryd.prog (W.putObj D o) = .ok v (W.putObj D o) ∧ Ending.returned v = .returned (retP (cs, x, y)) ∧ Below w.heap.size w (W.putObj D o) :=
  ⟨_, results_rows rfl _ _ _ w.heap.size (w.heap.size + 1) 28 36 (ints cs) (flt x y) (0, 0) (0, 0) _ _ t2 ((World.putObj_heap_other (by omega)).trans h2) rfl Tryd.underlying28 (by rw [ints_size, hl]; exact size28) t3 ((World.putObj_heap_other (by omega)).trans h3) rfl Tryd.underlying36 size36,
    rfl, below_putObj hb (by omega)⟩
theorem put_rows {w W : World} {D : Nat} (h : W.heap[D]? = some (.deferred (some []))) (hD : w.heap.size + 5 ≤ D) (cs fl : Array Value) : ((W.setRow w.heap.size cs).setRow (w.heap.size + 1) fl).heap[D]? = some (.deferred (some [])) :=
  (setRow_other _ _ _ _ (by omega)).trans ((setRow_other _ _ _ _ (by omega)).trans h)
theorem end_rows {w W : World} {D : Nat} {cs old : List Int} {x y : Int} {old2 : Array Value} {o : Obj} {tmps : Array Value} (h2 : W.heap[w.heap.size]? = some (.cells (ints old) 28 (0, 0))) (h3 : W.heap[w.heap.size + 1]? = some (.cells old2 36 (0, 0))) (hb : Below w.heap.size w W) (hD : w.heap.size + 5 ≤ D)
    (t2 : tmps.getD 2 undef = .pointer (some ⟨w.heap.size, 0, none⟩)) (t3 : tmps.getD 3 undef = .pointer (some ⟨w.heap.size + 1, 0, none⟩)) (hl : cs.length = 26) :
    ∃ v, (results Tryd.f14 tmps).run Tryd.prog (((W.setRow w.heap.size (ints cs)).setRow (w.heap.size + 1) (flt x y)).putObj D o) = .ok v (((W.setRow w.heap.size (ints cs)).setRow (w.heap.size + 1) (flt x y)).putObj D o) ∧ Ending.returned v = .returned (retP (cs, x, y)) ∧ Below w.heap.size w (((W.setRow w.heap.size (ints cs)).setRow (w.heap.size + 1) (flt x y)).putObj D o) :=
  end_put ((setRow_other _ _ _ _ (by omega)).trans (setRow_heap _ _ _ _ _ _ h2)) (setRow_heap _ _ _ _ _ _ ((setRow_other _ _ _ _ (by omega)).trans h3)) (below_setRow' (below_setRow' hb (Nat.le_refl _) _) (by omega) _) hD t2 t3 hl
set_option maxHeartbeats 4000000 in
set_option maxRecDepth 100000 in
theorem parse_in (s : Bs) (w : World) (hN : NamesAt w) (hl : s.length ≤ 65536) :
    CallsIn Fence.wide 5 Tryd.prog 14 #[bstr s] w fun e w' => e = .returned (retP (parsed s)) ∧ Below w.heap.size w w' := by
  have hp : parsed s = finP s.length (runP (linesL s) 0 z26) := by unfold parsed; rw [if_neg (by omega)]
  rw [hp]
  have HL := Lib.hid (And.intro hN hl)
  have hl' : ¬ (65536 : Int) < (s.length : Int) := by omega
  clear hp hN hl
  refine callsIn_of_wp_marks Tryd.func14 rfl trivial ?_ rfl
  simp only [Tryd.ntmps14, List.size_toArray, List.length_cons, List.length_nil, Nat.reduceAdd, Nat.reduceSub, Array.replicate_succ, Array.replicate_zero, List.push_toArray, List.append_toArray, List.nil_append, List.cons_append]
  unfold bstr
  gi_wp2_with (first
    | ((with_reducible change wpListIn _ _ _ _ _ (⟨_, .alloc 28, _, _, _, _⟩ :: _) _ _); refine wpListIn_viaW rfl (fun Q' hQ' => ?_); refine wpList_alloc_to rfl 28 rfl (ints z26) zero28 ?_; refine hQ' _ _ ?_; clear hQ' Q')
    | (refine ⟨trivial, ?_⟩; gi_at_call 28; refine (callsIn_wide.2 (lines_calls s _)).mono ?_; rintro e w' ⟨rfl, rfl⟩))
  have e2 : w.heap.size + 1 + 1 = w.heap.size + 2 := rfl
  have e3 : w.heap.size + 2 + 1 = w.heap.size + 3 := rfl
  have e4 : w.heap.size + 3 + 1 = w.heap.size + 4 := rfl
  rw [e2, e3, e4]
  obtain ⟨W0, hW0⟩ : ∃ W0, (((((w.alloc (.cells (ints z26) 28)).alloc (.cells #[.int .i64 0, .int .i64 0] 36)).alloc (.cells (ints z26) 28)).alloc (.cells #[.int .i64 0] 3)).alloc (.cells #[bstr s] 9)) = W0 := ⟨_, rfl⟩
  have hs0 : W0.heap.size = w.heap.size + 5 := by rw [← hW0]; simp
  have hP0 : PI w s [] W0 ∧ Boxed W0 (w.heap.size + 4) 9 (bstr s) := by
    have b0 := heap_alloc_new w (.cells (ints z26) 28)
    have b1 := heap_alloc_new (w.alloc (.cells (ints z26) 28)) (.cells #[.int .i64 0, .int .i64 0] 36)
    have b2 := heap_alloc_new ((w.alloc (.cells (ints z26) 28)).alloc (.cells #[.int .i64 0, .int .i64 0] 36)) (.cells (ints z26) 28)
    have b3 := heap_alloc_new (((w.alloc (.cells (ints z26) 28)).alloc (.cells #[.int .i64 0, .int .i64 0] 36)).alloc (.cells (ints z26) 28)) (.cells #[.int .i64 0] 3)
    have b4 := heap_alloc_new ((((w.alloc (.cells (ints z26) 28)).alloc (.cells #[.int .i64 0, .int .i64 0] 36)).alloc (.cells (ints z26) 28)).alloc (.cells #[.int .i64 0] 3)) (.cells #[bstr s] 9)
    simp only [World.size_alloc, e2, e3, e4] at b1 b2 b3 b4
    rw [← hW0]
    refine ⟨⟨⟨z26, linesL s, ?_, rfl, rfl, z26_len, by simp⟩, ?_, ?_, ?_, ?_, by simp⟩, b4⟩
    · exact (Below.heap_alloc _ _ _ (by simp <;> omega)).trans ((Below.heap_alloc _ _ _ (by simp <;> omega)).trans b2)
    · exact (Below.heap_alloc _ _ _ (by simp <;> omega)).trans b3
    · exact (Below.heap_alloc _ _ _ (by simp <;> omega)).trans ((Below.heap_alloc _ _ _ (by simp <;> omega)).trans ((Below.heap_alloc _ _ _ (by simp <;> omega)).trans ((Below.heap_alloc _ _ _ (by simp <;> omega)).trans b0)))
    · exact (Below.heap_alloc _ _ _ (by simp <;> omega)).trans ((Below.heap_alloc _ _ _ (by simp <;> omega)).trans ((Below.heap_alloc _ _ _ (by simp <;> omega)).trans b1))
    · exact (((((Below.refl _ w).alloc (Nat.le_refl _) _).alloc (by simp <;> omega) _).alloc (by simp <;> omega) _).alloc (by simp <;> omega) _).alloc (by simp <;> omega) _
  rw [hW0]
  clear hW0 e2 e3 e4
  have HP0 := Lib.hid (And.intro hP0 hs0)
  clear hP0 hs0
  refine wpIn_rangeFunc_B (α := Nat × Bs) (encs := encP) rfl (by omega) (gf := 36) rfl trivial (enters_of Tryd.func36 (by kernel_rfl) rfl)
    (lines_seq (w.heap.size + 4) s W0 (by have := HL.out.2; omega) HP0.out.1.2)
    (fun h k => h.trans k) (fun W l o o' h _ _ _ => keepS_put (by have := HP0.out.2; intro k hk; omega)) (Below.refl _ _) (by intro k hk; exact hk.elim) (fun _ => rfl)
    (fun pre W => PI w s pre W)
    (fun c _ W => PX w s c W)
    (fun pre A B row hs hg hr => hs.same (below_own hg (fun r e => by have := (hr r e).1; have := HP0.out.2; omega) hs.sz))
    (fun pre A B hs hb => hs.same (below_but hb hs.sz))
    (fun c pre A B row hs hg hr => hs.same (below_own hg (fun r e => by have := (hr r e).1; have := HP0.out.2; omega) hs.sz))
    HP0.out.1.1
    (fun pre x a₁ W => PI w s pre W ∧ a₁ = { tmps := #[.string ⟨s.toArray⟩, undef, .pointer (some ⟨w.heap.size, 0, none⟩), .pointer (some ⟨w.heap.size + 1, 0, none⟩), .pointer (some ⟨w.heap.size + 2, 0, none⟩), .pointer (some ⟨w.heap.size + 3, 0, none⟩), .int .i64 x.1, .string ⟨x.2.toArray⟩, undef, undef, undef, undef, undef, .string ⟨s.toArray⟩, .int .i64 s.length, .bool false, undef, undef, .string ⟨s.toArray⟩, .func (.func 36) #[] #[.pointer (some ⟨w.heap.size + 4, 0, none⟩)], .int .i64 x.1, .string ⟨x.2.toArray⟩, undef, undef, undef, undef, undef, undef, undef, undef, undef, undef, undef, undef, undef, undef, undef, undef, undef, undef, undef, undef, undef, undef, undef, undef, undef, undef, undef, undef, undef, undef, undef, undef, undef, undef, undef, undef, undef, undef, undef, undef, undef, undef, undef, undef, undef, undef, undef, undef, undef], defers := [] })
    (fun pre x a₁ u A B row hs hg hr => ⟨hs.1.same (below_own hg (fun r e => by have := (hr r e).1; have := HP0.out.2; omega) hs.1.sz), hs.2⟩)
    ?assign ?body ?done ?stop
  case assign =>
    intro l pre x W K hI hal hK
    unfold encP
    gi_wp2
    exact hK _ _ (KeepsOthers.refl _) (KeepS.refl _ _) ⟨hI, rfl⟩
  case body =>
    rintro l pre x a₁ W hal ⟨hI, rfl⟩
    exact parse_round s w W pre x l HL.out.1 hI hal (by have := linesF_len _ _ _ x (hal.subset (by simp)); have := HL.out.2; omega)
  case done =>
    rintro D xs W hD rfl hI hK
    obtain ⟨T, rest, hT, hLr, hrun, hTl, h26⟩ := hI.tb
    have hre : rest = [] := by
      have := congrArg List.length hLr
      rw [List.length_append] at this
      exact List.length_eq_zero_iff.1 (by omega)
    subst hre
    have hfin : runP (linesL s) 0 z26 = .ok ((linesL s).length, T) := by rw [hrun]; rfl
    have hD2 : w.heap.size + 5 ≤ D := by have := HP0.out.2; omega
    have HX := Lib.hid (And.intro hI (And.intro hK (And.intro hfin (And.intro hTl (And.intro hD2 hT)))))
    have c5 := hI.ln.cell
    clear hT hLr hrun hTl hI hK hfin hD2 hD
    rcases Nat.lt_or_ge (linesL s).length 26 with hlt | hge
    · have hli : ((linesL s).length : Int) < 26 := by omega
      have HF : Hid (finP s.length (runP (linesL s) 0 z26) = (z26, (s.length : Int), 36)) := Lib.hid (by rw [HX.out.2.2.1]; simp only [finP]; rw [if_pos hlt])
      clear hlt h26
      generalize hN2 : (linesL s).length = N at *
      clear hN2
      gi_wp2_with (first
        | ((with_reducible change wpListIn _ _ _ _ _ (⟨_, .build 28 _, _, _, _, _⟩ :: _) _ _); refine wpListIn_viaW rfl (fun Q' hQ' => ?_); refine wpList_build_to rfl 28 #[] rfl [] (by simp) _ built28z ?_; refine hQ' _ _ ?_; clear hQ' Q')
        | ((with_reducible change wpListIn _ _ _ _ _ (⟨_, .store 28 _ _, _, _, _, _⟩ :: _) _ _); refine wpListIn_viaW rfl (fun Q' hQ' => ?_); refine wpList_store_row rfl 28 (.tmp 2) (.tmp 58) rfl w.heap.size (ints z26) rfl rfl 28 _ HX.out.1.r2 size28 rfl (ints_one _) ?_; refine hQ' _ _ ?_; clear hQ' Q')
        | ((with_reducible change wpListIn _ _ _ _ _ (⟨_, .store 36 _ _, _, _, _, _⟩ :: _) _ _); refine wpListIn_viaW rfl (fun Q' hQ' => ?_); refine wpList_store_row rfl 36 (.tmp 3) (.tmp 61) rfl (w.heap.size + 1) (flt s.length 36) rfl rfl 36 _ ((setRow_other _ _ _ _ (by omega)).trans HX.out.1.r3) size36 rfl (by simp [flt, Value.oneCell']) ?_; refine hQ' _ _ ?_; clear hQ' Q'))
      rw [HF.out]
      refine ⟨by simp, .inl ⟨_, _, rfl, run_takeDeferred (put_rows HX.out.2.1 HX.out.2.2.2.2.1 (ints z26) (flt s.length 36)), ?_⟩⟩
      exact end_rows HX.out.1.r2 HX.out.1.r3 HX.out.1.bel HX.out.2.2.2.2.1 rfl rfl z26_len
    · obtain hN2 : (linesL s).length = 26 := by omega
      have hN3 : ((linesL s).length : Int) = 26 := by omega
      rw [hN3] at c5
      obtain ⟨a, b, r, rfl⟩ : ∃ a b r, T = a :: b :: r := by
        have h1 := HX.out.2.2.2.1
        match T, h1 with
        | a :: b :: r, _ => exact ⟨a, b, r, rfl⟩
      have hr : r.length = 24 := by have := HX.out.2.2.2.1; simpa using this
      have HR := Lib.hid hr
      have hfp : finP s.length (runP (linesL s) 0 z26) = finT (a :: b :: r) := by rw [HX.out.2.2.1]; simp only [finP]; rw [if_neg (by omega)]
      have hck : chkT (a :: b :: r) = chk a b r := rfl
      have HF := Lib.hid (And.intro hfp hck)
      clear hfp hck hr hN2 hN3 hge h26
      cases hok : okT a b r with
      | false =>
        have HE := Lib.hid (chk_f hok)
        clear hok
        gi_wp2_with (first
          | ((with_reducible change wpListIn _ _ _ _ _ (⟨_, .load 28 _, _, _, _, _⟩ :: _) _ _); refine wpListIn_viaW rfl (fun Q' hQ' => ?_); refine wpList_load_cells rfl 28 (.tmp 4) rfl ⟨w.heap.size + 2, 0, none⟩ rfl (ints (a :: b :: r)) _ (cells_of_heap HX.out.2.2.2.2.2) Tryd.underlying28 rfl size28 (by rw [ints_size]; simp only [List.length_cons, HR.out]) ?_; refine hQ' _ _ ?_; clear hQ' Q')
          | (refine ⟨trivial, ?_⟩; gi_at_call 21; refine (callsIn_wide.2 (check_calls a b r HR.out _)).mono ?_; rw [HE.out]; rintro e w1 ⟨rfl, hb⟩; have HB := Lib.hid (And.intro hb (HX.out.1.same (hb.mono HX.out.1.sz))); clear hb)
          | ((with_reducible change wpListIn _ _ _ _ _ (⟨_, .build 28 _, _, _, _, _⟩ :: _) _ _); refine wpListIn_viaW rfl (fun Q' hQ' => ?_); refine wpList_build_to rfl 28 #[] rfl [] (by simp) _ built28z ?_; refine hQ' _ _ ?_; clear hQ' Q')
          | ((with_reducible change wpListIn _ _ _ _ _ (⟨_, .store 28 _ _, _, _, _, _⟩ :: _) _ _); refine wpListIn_viaW rfl (fun Q' hQ' => ?_); refine wpList_store_row rfl 28 (.tmp 2) (.tmp 66) rfl w.heap.size (ints z26) rfl rfl 28 _ HB.out.2.r2 size28 rfl (ints_one _) ?_; refine hQ' _ _ ?_; clear hQ' Q')
          | ((with_reducible change wpListIn _ _ _ _ _ (⟨_, .store 36 _ _, _, _, _, _⟩ :: _) _ _); refine wpListIn_viaW rfl (fun Q' hQ' => ?_); refine wpList_store_row rfl 36 (.tmp 3) (.tmp 68) rfl (w.heap.size + 1) (flt 0 34) rfl rfl 36 _ ((setRow_other _ _ _ _ (by omega)).trans HB.out.2.r3) size36 rfl (by simp [flt, Value.oneCell']) ?_; refine hQ' _ _ ?_; clear hQ' Q'))
        have hft : finT (a :: b :: r) = (z26, 0, 34) := by unfold finT; rw [HF.out.2, HE.out, if_neg (by decide)]
        rw [HF.out.1, hft]
        have hdW : w1.heap[D]? = some (.deferred (some [])) := (HB.out.1.block D (Array.getElem?_eq_some_iff.1 HX.out.2.1).1).trans HX.out.2.1
        refine ⟨by simp, .inl ⟨_, _, rfl, run_takeDeferred (put_rows hdW HX.out.2.2.2.2.1 (ints z26) (flt 0 34)), ?_⟩⟩
        exact end_rows HB.out.2.r2 HB.out.2.r3 HB.out.2.bel HX.out.2.2.2.2.1 rfl rfl z26_len
      | true =>
        have HE := Lib.hid (chk_t hok)
        clear hok
        gi_wp2_with (first
          | ((with_reducible change wpListIn _ _ _ _ _ (⟨_, .load 28 (.tmp 4), _, _, _, _⟩ :: ⟨_, .call _, _, _, _, _⟩ :: _) _ _); refine wpListIn_viaW rfl (fun Q' hQ' => ?_); refine wpList_load_cells rfl 28 (.tmp 4) rfl ⟨w.heap.size + 2, 0, none⟩ rfl (ints (a :: b :: r)) _ (cells_of_heap HX.out.2.2.2.2.2) Tryd.underlying28 rfl size28 (by rw [ints_size]; simp only [List.length_cons, HR.out]) ?_; refine hQ' _ _ ?_; clear hQ' Q')
          | (refine ⟨trivial, ?_⟩; gi_at_call 21; refine (callsIn_wide.2 (check_calls a b r HR.out _)).mono ?_; rw [HE.out]; rintro e w1 ⟨rfl, hb⟩; have HB := Lib.hid (And.intro hb (And.intro (HX.out.1.same (hb.mono HX.out.1.sz)) ((hb.block _ (by have := HX.out.1.sz; omega)).trans HX.out.2.2.2.2.2))); clear hb)
          | ((with_reducible change wpListIn _ _ _ _ _ (⟨_, .load 28 (.tmp 4), _, _, _, _⟩ :: _) _ _); refine wpListIn_viaW rfl (fun Q' hQ' => ?_); refine wpList_load_cells rfl 28 (.tmp 4) rfl ⟨w.heap.size + 2, 0, none⟩ rfl (ints (a :: b :: r)) _ (cells_of_heap HB.out.2.2) Tryd.underlying28 rfl size28 (by rw [ints_size]; simp only [List.length_cons, HR.out]) ?_; refine hQ' _ _ ?_; clear hQ' Q')
          | ((with_reducible change wpListIn _ _ _ _ _ (⟨_, .build 28 _, _, _, _, _⟩ :: _) _ _); refine wpListIn_viaW rfl (fun Q' hQ' => ?_); refine wpList_build_to rfl 28 #[] rfl [] (by simp) _ built28z ?_; refine hQ' _ _ ?_; clear hQ' Q')
          | ((with_reducible change wpListIn _ _ _ _ _ (⟨_, .store 28 _ _, _, _, _, _⟩ :: _) _ _); refine wpListIn_viaW rfl (fun Q' hQ' => ?_); refine wpList_store_row rfl 28 (.tmp 2) (.tmp 69) rfl w.heap.size (ints (a :: b :: r)) rfl rfl 28 _ HB.out.2.1.r2 (by rw [ints_size]; simp only [List.length_cons, HR.out]; exact size28) (by rw [ints_size, ints_size]; simp only [List.length_cons, HR.out]; rfl) (ints_one _) ?_; refine hQ' _ _ ?_; clear hQ' Q')
          | ((with_reducible change wpListIn _ _ _ _ _ (⟨_, .store 36 _ _, _, _, _, _⟩ :: _) _ _); refine wpListIn_viaW rfl (fun Q' hQ' => ?_); refine wpList_store_row rfl 36 (.tmp 3) (.tmp 70) rfl (w.heap.size + 1) (flt 0 0) rfl rfl 36 _ ((setRow_other _ _ _ _ (by omega)).trans HB.out.2.1.r3) size36 rfl (by simp [flt, Value.oneCell']) ?_; refine hQ' _ _ ?_; clear hQ' Q'))
        have hft : finT (a :: b :: r) = (a :: b :: r, 0, 0) := by unfold finT; rw [HF.out.2, HE.out, if_pos rfl]
        rw [HF.out.1, hft]
        have hdW : w1.heap[D]? = some (.deferred (some [])) := (HB.out.1.block D (Array.getElem?_eq_some_iff.1 HX.out.2.1).1).trans HX.out.2.1
        refine ⟨by simp, .inl ⟨_, _, rfl, run_takeDeferred (put_rows hdW HX.out.2.2.2.2.1 (ints (a :: b :: r)) (flt 0 0)), ?_⟩⟩
        exact end_rows HB.out.2.1.r2 HB.out.2.1.r3 HB.out.2.1.bel HX.out.2.2.2.2.1 rfl rfl HX.out.2.2.2.1
  case stop =>
    rintro D c pre W hD hpre ⟨rfl, ⟨k, hk, hf⟩, h2, hb, hz⟩ hK
    have hD2 : w.heap.size + 5 ≤ D := by have := HP0.out.2; omega
    have HX := Lib.hid (And.intro hK (And.intro hk (And.intro hf (And.intro h2 hb))))
    clear hK hk hf h2 hb hz hD hpre
    gi_wp2
    refine ⟨by simp, .inl ⟨_, _, rfl, run_takeDeferred HX.out.1, ?_⟩⟩
    rw [HX.out.2.1]
    exact end_put HX.out.2.2.2.1 HX.out.2.2.1 HX.out.2.2.2.2 hD2 rfl rfl
theorem parse_calls (s : Bs) (w : World) (hN : NamesAt w) : Calls Tryd.prog 14 #[bstr s] w fun e w' => e = .returned (retP (parsed s)) ∧ Below w.heap.size w w' := by
  by_cases hl : 65536 < s.length
  · exact parse_long s w hl
  · exact (callsIn_wide (n := 5)).1 (parse_in s w hN (by omega))
end Go.Proofs.YtofibebphfeglaaDoor
