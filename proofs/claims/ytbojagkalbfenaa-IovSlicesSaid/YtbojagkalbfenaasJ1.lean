import Derived.Test.YtbojagkalbfenaasJ0
namespace Go.Proofs.Ytbojagkalbfenaa
set_option linter.unusedVariables false
set_option linter.unusedSimpArgs false
open Go.RowKit PIovSlices Go.Proofs.YtbojagkalbfenaaW.PrintWords
attribute [local go_sem] Oper.semAt_some ints_get ints_size ints_getElem

/-- A row of one list of parts. -/
theorem C_one44 {w : World} {g : Nat} {M : Option Addr} {l : List S44} {mc : Nat} {t : TypeId} {fr : Nat × Nat} (h : w.heap[g]? = some (.cells #[.slice M l.length mc] t fr)) (hmc : l.length ≤ mc) (hC : Kd.C k44 w M l.length l) :
    Kd.C (Kd.slice 44 k44) w (some ⟨g, 0, none⟩) ([l] : List (List S44)).length [l] := by
  refine ⟨rfl, by simp, fun _ => ⟨_, rfl, fun j p hj => ?_⟩⟩
  match j, hj with
  | 0, hj =>
    cases hj
    refine ⟨[.slice M l.length mc], rfl, ⟨M, mc, rfl, hmc, hC⟩, fun i u hi => ?_⟩
    match i, hi with
    | 0, hi =>
      cases hi
      rw [add_at, cell_of_row _ _ _ _ _ _ h]
      rfl
    | i + 1, hi => simp at hi
  | j + 1, hj => simp at hj

/-- check of one list. -/
theorem check_one (A : Option Addr) (cap : Nat) (l : List S44) (w : World) (g : Nat) (t : TypeId) (h : w.heap[g]? = some (.cells #[.slice A l.length cap] t (0, 0))) (hc : l.length ≤ cap) (hC : Kd.C k44 w A l.length l) :
    Calls Try.prog 38 #[.slice (some ⟨g, 0, none⟩) 1 1] w fun e w' => e = .returned (.int .i64 (chk (prs l))) ∧ Below w.heap.size w w' := by
  exact iov_check.calls 60 _ 1 [l] _ w (C_one44 h hc hC) (by simp) (check_f l (by omega))

theorem own_frozen {w : World} {base : Nat} {e : TypeId} {size n g cap : Nat} {xs : List Value} (h : w.ownsRow base e size (.slice (some ⟨g, 0, none⟩) n cap) n xs) (j : Nat) : w.frozen? ⟨g, j, none⟩ = false := by
  rcases h.2 with ⟨h2, _⟩ | ⟨g', cap', cur, he, _, hh, _⟩
  · cases h2
  · injection he with ha _ _
    injection ha with ha
    injection ha with hg
    subst hg
    simp [World.frozen?, hh]
set_option maxHeartbeats 2000000 in
set_option maxRecDepth 100000 in
theorem join_in (A : Option Addr) (cap : Nat) (l : List S44) (w : World) (hC : Kd.C k44 w A l.length l) (hcap : l.length ≤ cap)
    (hA : ∀ ad, A = some ad → ad.block < w.heap.size) (hw : chk (prs l) = 0) :
    CallsIn Fence.wide 5 Try.prog 22 #[.slice A l.length cap] w fun e w' => ∃ v, e = .returned (.tuple #[v, .int .i64 0]) ∧ w'.ownsRow w.heap.size 44 2 v (joinL (slicedL (prs l) 0 (sumL (prs l)))).length (pcs (joinL (slicedL (prs l) 0 (sumL (prs l))))) ∧ Below w.heap.size w w' := by
  obtain ⟨h1, h2, h3, h4⟩ := chk_zero hw
  have hch : ∀ (w1 : World) (g : Nat) (t : TypeId), w1.heap[g]? = some (.cells #[.slice A l.length cap] t (0, 0)) → Below w.heap.size w w1 → Calls Try.prog 38 #[.slice (some ⟨g, 0, none⟩) 1 1] w1 fun e w' => e = .returned (.int .i64 0) ∧ Below w1.heap.size w1 w' := fun w1 g t hh hb => by
    have := check_one A cap l w1 g t hh hcap (Kd.C_below hC hb)
    rwa [hw] at this
  have hto : ∀ (w1 : World), Below w.heap.size w w1 → Calls Try.prog 39 #[.slice A l.length cap] w1 fun e w' => e = .returned (.int .i64 (sumL (prs l))) ∧ Below w1.heap.size w1 w' := fun w1 hb =>
    iov_total.calls 60 A cap l _ w1 (Kd.C_below hC hb) hcap (total_f h1 (by rwa [prs_length] at h2) (by omega))
  have HP := Lib.hid (pairs_of_C hC)
  have HA := Lib.hid hA
  have HOK := Lib.hid h1
  rw [← prs_length l] at *
  generalize prs l = cs at *
  clear hC hA h1 hw
  have HCH := Lib.hid hch
  have HTO := Lib.hid hto
  clear hch hto
  refine callsIn_of_wp_marks Try.func22 rfl trivial ?_ rfl
  simp only [Try.ntmps22, List.size_toArray, List.length_cons, List.length_nil, Nat.reduceAdd, Nat.reduceSub, Array.replicate_succ, Array.replicate_zero, List.push_toArray, List.append_toArray, List.nil_append, List.cons_append]
  gi_wp2_with (first
    | (refine ⟨trivial, ?_⟩; gi_at_call 38; refine (callsIn_wide.2 (HCH.out _ _ _ (heap_alloc_new w _) ((Below.refl _ _).alloc (Nat.le_refl _) _))).mono ?_; rintro e w1 ⟨rfl, hb1⟩; replace hb1 := below_then' ((Below.refl w.heap.size w).alloc (Nat.le_refl _) _) hb1)
    | (refine ⟨trivial, ?_⟩; gi_at_call 39; refine (callsIn_wide.2 (HTO.out _ (hb1.alloc hb1.size _))).mono ?_; rintro e w2 ⟨rfl, hb2⟩)
    | (refine ⟨trivial, ?_⟩; gi_at_call 40; refine (callsIn_wide.2 (sliced_calls _ _ _ _ _ _)).mono ?_; rintro e w' ⟨rfl, rfl⟩))
  have hb0 : Below w.heap.size w w2 := below_then' (hb1.alloc hb1.size _) hb2
  have hr0 : Boxed w2 w1.heap.size 23 (.slice none 0 0) := by
    have := Boxed.new w1 23 (.slice none 0 0)
    exact (hb2.block _ this.lt).trans this
  have hs0 : w1.heap.size + 1 ≤ w2.heap.size := by have := hb2.size; simpa using this
  have hwB := hb1.size
  generalize w1.heap.size = B at hs0 hr0 hwB ⊢
  clear hb1 hb2
  generalize w2 = W0 at *
  have hbs := slW_below W0 A cs.length cap 0 (sumL cs)
  refine range_sliced A cap cs 0 (sumL cs) W0 (HP.out.below hb0) (fun ad e => by have := HA.out ad e; omega) HOK.out (by omega) (by omega) h2 rfl rfl
    (fun pre W => Below w.heap.size w W ∧ ∃ v, Boxed W B 23 v ∧ W.ownsRow (W0.heap.size + 3) 44 2 v (joinL pre).length (pcs (joinL pre)))
    (fun c pre W => False)
    (fun pre x a₁ W => (Below w.heap.size w W ∧ ∃ v, Boxed W B 23 v ∧ W.ownsRow (W0.heap.size + 3) 44 2 v (joinL pre).length (pcs (joinL pre))) ∧ ∃ b, W0.heap.size + 3 ≤ b ∧ W.heap[b]? = some (.cells #[.int .i64 x.1, .int .i64 x.2] 44 (0, 0)) ∧
      a₁ = { tmps := #[.slice A cs.length cap, undef, .slice none 0 0, .int .i64 0, .int .i64 0, .pointer (some ⟨B, 0, none⟩), .pointer (some ⟨b, 0, none⟩), undef, .slice A cs.length cap, .slice (some ⟨w.heap.size, 0, none⟩) 1 1, .int .i64 0, .int .i64 0, .bool false, undef, .slice A cs.length cap, .slice A cs.length cap, .int .i64 (sumL cs), .func (.func 43) #[] #[.pointer (some ⟨W0.heap.size, 0, none⟩), .pointer (some ⟨W0.heap.size + 2, 0, none⟩), .pointer (some ⟨W0.heap.size + 1, 0, none⟩)], .agg #[.int .i64 x.1, .int .i64 x.2], undef, undef, undef, undef, undef, undef, undef, undef, undef, undef, undef, undef, undef, undef, undef, undef, undef, undef, undef, undef, undef, undef, undef, undef, undef, undef, undef, undef, undef, undef, undef, undef, undef, undef, undef, undef], defers := [] })
    (fun pre W W' ⟨h2, v, h3, h4⟩ t => ⟨t.below h2 (Nat.le_refl _) (by omega) (by omega) (by omega), v, t.boxed h3 (by omega) (by omega), t.owns h4 (by omega) (by omega)⟩) (fun c pre W W' h t => h) ?tA ?start ?assign ?body ?done ?stop
  case tA =>
    rintro pre x a₁ W W' ⟨⟨h2, v, h3, h4⟩, b, h5, h6, h7⟩ t
    exact ⟨⟨t.below h2 (Nat.le_refl _) (by omega) (by omega) (by omega), v, t.boxed h3 (by omega) (by omega), t.owns h4 (by omega) (by omega)⟩, b, h5, t.cells h6 (by omega) (by omega), h7⟩
  case start => exact ⟨below_then' hb0 hbs, _, (hbs.block _ hr0.lt).trans hr0, by simp [pcs, joinL], .inl ⟨rfl, by simp [joinL]⟩⟩
  case assign =>
    intro l pre x W K hI hsz hK
    gi_wp2
    refine hK _ _ (KeepsOthers.alloc _ _) ((Below.refl _ _).alloc (Nat.le_refl _) _) ⟨?_, _, hsz, heap_alloc_new _ _, rfl⟩
    obtain ⟨h2, v, h3, h4⟩ := hI
    exact ⟨h2.alloc h2.size _, v, h3.alloc _, h4.alloc _⟩
  case body =>
    rintro l pre ⟨x1, x2⟩ a₁ W hal ⟨hx0, hx1⟩ ⟨hy0, hy1⟩ hsz ⟨⟨hI2, v, hv, hrow⟩, b, hb, hcell, rfl⟩
    have hc0 : W.cell? ⟨b, 0, none⟩ = some (.int .i64 x1) := by rw [cell_of_row _ _ _ _ _ _ hcell]; rfl
    have hc1 : W.cell? ⟨b, 1, none⟩ = some (.int .i64 x2) := by rw [cell_of_row _ _ _ _ _ _ hcell]; rfl
    have hcr := hv.cell
    have hfr := hv.frozen
    have hpl : (joinL pre).length ≤ 16 := by
      have h1 := hal.length_le
      have h2' := slicedL_length cs 0 (sumL cs)
      have h3' := joinL_length pre
      simp only [List.length_append, List.length_cons, List.length_nil] at h1
      omega
    obtain ⟨i0, hi0, hz0, hz1, hz2⟩ := info_parts (P := Try.prog) (e := 44) (z := .agg #[.int .i64 0, .int .i64 0]) (size := 2) (bytes := 16) (by kernel_rfl)
    have HI := Lib.hid (And.intro hI2 (And.intro hv hrow))
    have HI0 := Lib.hid hi0
    have HZZ := Lib.hid (And.intro hz0 (And.intro hz1 hz2))
    clear hI2 hv hrow hi0 hz0 hz1 hz2
    rcases snoc_cases (joinL pre) with hj | ⟨o, q, hj⟩
    · have hrow := HI.out.2.2
      rw [hj] at hrow
      obtain ⟨A', c', rfl⟩ : ∃ A' c', v = .slice A' 0 c' := by
        rcases hrow.2 with ⟨rfl, _⟩ | ⟨g, c, _, rfl, _⟩
        · exact ⟨_, _, rfl⟩
        · exact ⟨_, _, rfl⟩
      clear hrow
      have hjs : joinL (pre ++ [(x1, x2)]) = joinL pre ++ [(x1, x2)] := by rw [joinL_snoc, hj]; rfl
      clear hj
      gi_wp2
      refine wpIn_round_still_tail 17 (by rintro ⟨a, w, h⟩; exact h) (by kernel_rfl) (by kernel_rfl) (by kernel_rfl) ?_
      simp only [List.take_succ_cons, List.take_zero, List.drop_succ_cons, List.drop_zero]
      iterate 17 ((with_reducible refine wpStill_step (fun K hK => ?_)); have HK := Lib.hid hK; clear hK; go_simp; (with_reducible refine HK.out _ ?_); clear HK K)
      (with_reducible refine wpStill_nil ?_)
      go_wp2
      refine wpIn_cond_false (by rfl) ?_
      generalize hW1 : W.drew = W1
      have HI1 : Hid (Below w.heap.size w W1 ∧ Boxed W1 B 23 (.slice A' 0 c') ∧ W1.ownsRow (W0.heap.size + 3) 44 2 (.slice A' 0 c') (joinL pre).length (pcs (joinL pre))) := by rw [← hW1]; exact Lib.hid ⟨HI.out.1.drew, HI.out.2.1, HI.out.2.2⟩
      have hk1 : KeepsOthers W W1 := by rw [← hW1]; exact KeepsOthers.drew W
      have hh1 : W1.heap = W.heap := by rw [← hW1]; rfl
      replace hc0 : W1.cell? ⟨b, 0, none⟩ = some (.int .i64 x1) := by rw [← hW1]; exact hc0
      replace hc1 : W1.cell? ⟨b, 1, none⟩ = some (.int .i64 x2) := by rw [← hW1]; exact hc1
      replace hcr := HI1.out.2.1.cell
      replace hfr := HI1.out.2.1.frozen
      have hsz1 : W0.heap.size + 3 ≤ W1.heap.size := by rw [hh1]; exact hsz
      have HH1 := Lib.hid hh1
      clear hh1 hW1
      refine wpIn_round_plain (by rintro ⟨a, w, h⟩; exact h) (by kernel_rfl) ?_
      go_wp2_with (at_builtin; refine wpList_append_own _ rfl (.tmp 50) (.tmp 52) 23 rfl (W0.heap.size + 3) 44 i0 (.agg #[.int .i64 0, .int .i64 0]) 2 16 Try.underlying23 HI0.out HZZ.out.1 HZZ.out.2.1 HZZ.out.2.2 rfl (by omega) (.slice A' 0 c') _ (pcs (joinL pre)) rfl (HI1.out.2.2.alloc _) ⟨W1.heap.size, 0, none⟩ 1 1 [.int .i64 x1, .int .i64 x2] rfl rfl (World.news_of_block (cs := #[.int .i64 x1, .int .i64 x2]) (t := 44) (fr := (0, 0)) (heap_alloc_new W1 _)) (by simp [Value.oneCell']) (by simp only [maxLen]; omega) (by omega) (by simp; omega) ?_; intro v' w2 hown' hgrow _; obtain ⟨g', cap', rfl⟩ := ownsRow_pos hown' (by omega); obtain ⟨a1, a2, a3, a4, a5, a6⟩ := out_appended (W := W1.alloc (.cells #[.int .i64 x1, .int .i64 x2] 44)) (HI1.out.2.1.alloc _) (by decide) (HI1.out.2.2.alloc _) (by omega) (by simp; omega) hown' hgrow; have hcr' := a1.cell; have hfr' := a1.frozen; have HA5 := Lib.hid a5; clear a5)
      have hA5 : ∀ j, j < W0.heap.size + 3 → j ≠ B → (w2.setCell ⟨B, 0, none⟩ (.slice (some ⟨g', 0, none⟩) ((joinL pre).length + 1) cap')).heap[j]? = W.heap[j]? := fun j hj hne => by rw [← HH1.out]; exact (HA5.out j hj hne).trans (Below.heap_alloc W1 _ _ (by omega))
      have HA6 := Lib.hid hA5
      clear hA5
      have hz : W.heap.size = W1.heap.size := by rw [HH1.out]
      refine ⟨(hk1.trans (KeepsOthers.alloc W1 _)).trans a6, ⟨?_, HA6.out _ (by omega) (by omega), HA6.out _ (by omega) (by omega), HA6.out _ (by omega) (by omega), fun ad e => HA6.out _ (by have := HA.out ad e; have := hb0.size; omega) (by have := HA.out ad e; omega)⟩, ?_, _, a2, ?_⟩
      · have := a4.size; simp at this ⊢; omega
      · exact HI1.out.1.trans ⟨a4.os, a4.tape, a4.output, (by have := a4.size; simp at this ⊢; omega), fun k hk => by rw [HH1.out]; exact HA6.out k (by omega) (by omega)⟩
      · rw [hjs, List.length_append, pcs_snoc]; exact a3
    · have hrow := HI.out.2.2
      rw [hj] at hrow
      simp only [List.length_append, List.length_cons, List.length_nil, Nat.zero_add] at hrow
      obtain ⟨g, c, rfl⟩ := ownsRow_pos hrow (by omega)
      have hq0 : W.cell? ⟨g, o.length * 2, none⟩ = some (.int .i64 q.1) := by have := hrow.cells (g := g) rfl _ _ (pcs_last o q).1; rwa [add_at, Nat.zero_add] at this
      have hq1 : W.cell? ⟨g, o.length * 2 + 1, none⟩ = some (.int .i64 q.2) := by have := hrow.cells (g := g) rfl _ _ (pcs_last o q).2; rwa [add_at, Nat.zero_add] at this
      have hqb := joinL_bound (M := 1099511631872) (xs := pre) (fun y hy => by have := slicedL_mem HOK.out (by omega) y (hal.subset (List.mem_append_left _ hy)); omega) q (by rw [hj]; simp)
      have hprl : pre.length ≤ 16 := by
        have h1 := hal.length_le
        have h2' := slicedL_length cs 0 (sumL cs)
        simp only [List.length_append, List.length_cons, List.length_nil] at h1
        omega
      obtain ⟨q1, q2⟩ := q
      simp only at hq0 hq1 hqb
      have HJ := Lib.hid hj
      have hol : o.length ≤ 16 := by rw [hj] at hpl; simp at hpl; omega
      clear hj
      have hwr : IntKind.i64.wrap (q1 + q2) = q1 + q2 := by rw [IntKind.wrap_i64]; omega
      have hkl : (o.length : Int) < (o.length : Int) + 1 := by omega
      have HR := Lib.hid hrow
      clear hrow
      by_cases hadj : q1 + q2 = x1
      · have hbq : (q1 + q2 == x1) = true := by simpa using hadj
        have hwr2 : IntKind.i64.wrap (q2 + x2) = q2 + x2 := by rw [IntKind.wrap_i64]; omega
        have hjs : joinL (pre ++ [(x1, x2)]) = o ++ [(q1, q2 + x2)] := by rw [joinL_snoc, HJ.out, joinStep_snoc, if_pos hadj]
        clear hadj
        gi_wp2
        refine wpIn_round_still_tail 17 (by rintro ⟨a, w, h⟩; exact h) (by kernel_rfl) (by kernel_rfl) (by kernel_rfl) ?_
        simp only [List.take_succ_cons, List.take_zero, List.drop_succ_cons, List.drop_zero]
        iterate 17 ((with_reducible refine wpStill_step (fun K hK => ?_)); have HK := Lib.hid hK; clear hK; go_simp; (with_reducible refine HK.out _ ?_); clear HK K)
        (with_reducible refine wpStill_nil ?_)
        go_wp2
        refine wpIn_cond_true (by rfl) ?_
        generalize hW1 : W.drew = W1
        have HI1 : Hid (Below w.heap.size w W1 ∧ Boxed W1 B 23 (.slice (some ⟨g, 0, none⟩) (o.length + 1) c) ∧ W1.ownsRow (W0.heap.size + 3) 44 2 (.slice (some ⟨g, 0, none⟩) (o.length + 1) c) (joinL pre).length (pcs (joinL pre))) := by rw [← hW1]; exact Lib.hid ⟨HI.out.1.drew, HI.out.2.1, HI.out.2.2⟩
        have HR1 : Hid (W1.ownsRow (W0.heap.size + 3) 44 2 (.slice (some ⟨g, 0, none⟩) (o.length + 1) c) (o.length + 1) (pcs (o ++ [(q1, q2)]))) := by rw [← hW1]; exact Lib.hid HR.out
        have hk1 : KeepsOthers W W1 := by rw [← hW1]; exact KeepsOthers.drew W
        have hh1 : W1.heap = W.heap := by rw [← hW1]; rfl
        replace hc0 : W1.cell? ⟨b, 0, none⟩ = some (.int .i64 x1) := by rw [← hW1]; exact hc0
        replace hc1 : W1.cell? ⟨b, 1, none⟩ = some (.int .i64 x2) := by rw [← hW1]; exact hc1
        replace hq0 : W1.cell? ⟨g, o.length * 2, none⟩ = some (.int .i64 q1) := by rw [← hW1]; exact hq0
        replace hq1 : W1.cell? ⟨g, o.length * 2 + 1, none⟩ = some (.int .i64 q2) := by rw [← hW1]; exact hq1
        replace hcr := HI1.out.2.1.cell
        replace hfr := HI1.out.2.1.frozen
        have hsz1 : W0.heap.size + 3 ≤ W1.heap.size := by rw [hh1]; exact hsz
        have hfq : W1.frozen? ⟨g, o.length * 2 + 1, none⟩ = false := own_frozen HR1.out _
        have HH1 := Lib.hid hh1
        clear hh1 hW1
        refine wpIn_round_still_tail 10 (by rintro ⟨a, w, h⟩; exact h) (by kernel_rfl) (by kernel_rfl) (by kernel_rfl) ?_
        simp only [List.take_succ_cons, List.take_zero, List.drop_succ_cons, List.drop_zero]
        iterate 10 ((with_reducible refine wpStill_step (fun K hK => ?_)); have HK := Lib.hid hK; clear hK; go_simp; (with_reducible refine HK.out _ ?_); clear HK K)
        (with_reducible refine wpStill_nil ?_)
        go_wp2
        have hgs : W0.heap.size + 3 ≤ g := own_base' HR1.out g rfl
        have hA6 : ∀ j, j < W0.heap.size + 3 → (W1.setCell ⟨g, o.length * 2 + 1, none⟩ (.int .i64 (q2 + x2))).drew.heap[j]? = W.heap[j]? := fun j hj => by
          rw [← HH1.out]
          exact Below.heap_setCell W1 ⟨g, o.length * 2 + 1, none⟩ _ j (by show j ≠ g; omega)
        have HA6 := Lib.hid hA6
        clear hA6
        have hz : W.heap.size = W1.heap.size := by rw [HH1.out]
        refine ⟨(hk1.trans (KeepsOthers.setCell W1 _ _)).trans (KeepsOthers.drew _), ⟨?_, HA6.out _ (by omega), HA6.out _ (by omega), HA6.out _ (by omega), fun ad e => HA6.out _ (by have := HA.out ad e; have := hb0.size; omega)⟩, ?_, (.slice (some ⟨g, 0, none⟩) (o.length + 1) c), ?_, ?_⟩
        · simp [World.setCell]; omega
        · exact (HI1.out.1.setCell (p := ⟨g, o.length * 2 + 1, none⟩) (by show w.heap.size ≤ g; have := hb0.size; omega) _).drew
        · exact (HA6.out B (by omega)).trans HI.out.2.1
        · rw [hjs, ← pcs_set o (q1, q2) (q2 + x2), List.length_append, List.length_singleton]
          exact own_set HR1.out _ (by omega) _
      · have hbq : (q1 + q2 == x1) = false := by simpa using hadj
        have hjs : joinL (pre ++ [(x1, x2)]) = joinL pre ++ [(x1, x2)] := by rw [joinL_snoc, HJ.out, joinStep_snoc, if_neg hadj]
        clear hadj
        gi_wp2
        refine wpIn_round_still_tail 17 (by rintro ⟨a, w, h⟩; exact h) (by kernel_rfl) (by kernel_rfl) (by kernel_rfl) ?_
        simp only [List.take_succ_cons, List.take_zero, List.drop_succ_cons, List.drop_zero]
        iterate 17 ((with_reducible refine wpStill_step (fun K hK => ?_)); have HK := Lib.hid hK; clear hK; go_simp; (with_reducible refine HK.out _ ?_); clear HK K)
        (with_reducible refine wpStill_nil ?_)
        go_wp2
        refine wpIn_cond_false (by rfl) ?_
        generalize hW1 : W.drew = W1
        have HI1 : Hid (Below w.heap.size w W1 ∧ Boxed W1 B 23 (.slice (some ⟨g, 0, none⟩) (o.length + 1) c) ∧ W1.ownsRow (W0.heap.size + 3) 44 2 (.slice (some ⟨g, 0, none⟩) (o.length + 1) c) (joinL pre).length (pcs (joinL pre))) := by rw [← hW1]; exact Lib.hid ⟨HI.out.1.drew, HI.out.2.1, HI.out.2.2⟩
        have HR1 : Hid (W1.ownsRow (W0.heap.size + 3) 44 2 (.slice (some ⟨g, 0, none⟩) (o.length + 1) c) (o.length + 1) (pcs (o ++ [(q1, q2)]))) := by rw [← hW1]; exact Lib.hid HR.out
        have hk1 : KeepsOthers W W1 := by rw [← hW1]; exact KeepsOthers.drew W
        have hh1 : W1.heap = W.heap := by rw [← hW1]; rfl
        replace hc0 : W1.cell? ⟨b, 0, none⟩ = some (.int .i64 x1) := by rw [← hW1]; exact hc0
        replace hc1 : W1.cell? ⟨b, 1, none⟩ = some (.int .i64 x2) := by rw [← hW1]; exact hc1
        replace hq0 : W1.cell? ⟨g, o.length * 2, none⟩ = some (.int .i64 q1) := by rw [← hW1]; exact hq0
        replace hq1 : W1.cell? ⟨g, o.length * 2 + 1, none⟩ = some (.int .i64 q2) := by rw [← hW1]; exact hq1
        replace hcr := HI1.out.2.1.cell
        replace hfr := HI1.out.2.1.frozen
        have hsz1 : W0.heap.size + 3 ≤ W1.heap.size := by rw [hh1]; exact hsz
        have hfq : W1.frozen? ⟨g, o.length * 2 + 1, none⟩ = false := own_frozen HR1.out _
        have HH1 := Lib.hid hh1
        clear hh1 hW1
        refine wpIn_round_plain (by rintro ⟨a, w, h⟩; exact h) (by kernel_rfl) ?_
        go_wp2_with (at_builtin; refine wpList_append_own _ rfl (.tmp 50) (.tmp 52) 23 rfl (W0.heap.size + 3) 44 i0 (.agg #[.int .i64 0, .int .i64 0]) 2 16 Try.underlying23 HI0.out HZZ.out.1 HZZ.out.2.1 HZZ.out.2.2 rfl (by omega) (.slice (some ⟨g, 0, none⟩) (o.length + 1) c) _ (pcs (joinL pre)) rfl (HI1.out.2.2.alloc _) ⟨W1.heap.size, 0, none⟩ 1 1 [.int .i64 x1, .int .i64 x2] rfl rfl (World.news_of_block (cs := #[.int .i64 x1, .int .i64 x2]) (t := 44) (fr := (0, 0)) (heap_alloc_new W1 _)) (by simp [Value.oneCell']) (by simp only [maxLen]; omega) (by omega) (by simp; omega) ?_; intro v' w2 hown' hgrow _; obtain ⟨g', cap', rfl⟩ := ownsRow_pos hown' (by omega); obtain ⟨a1, a2, a3, a4, a5, a6⟩ := out_appended (W := W1.alloc (.cells #[.int .i64 x1, .int .i64 x2] 44)) (HI1.out.2.1.alloc _) (by decide) (HI1.out.2.2.alloc _) (by omega) (by simp; omega) hown' hgrow; have hcr' := a1.cell; have hfr' := a1.frozen; have HA5 := Lib.hid a5; clear a5)
        have hA5 : ∀ j, j < W0.heap.size + 3 → j ≠ B → (w2.setCell ⟨B, 0, none⟩ (.slice (some ⟨g', 0, none⟩) ((joinL pre).length + 1) cap')).heap[j]? = W.heap[j]? := fun j hj hne => by rw [← HH1.out]; exact (HA5.out j hj hne).trans (Below.heap_alloc W1 _ _ (by omega))
        have HA6 := Lib.hid hA5
        clear hA5
        have hz : W.heap.size = W1.heap.size := by rw [HH1.out]
        refine ⟨(hk1.trans (KeepsOthers.alloc W1 _)).trans a6, ⟨?_, HA6.out _ (by omega) (by omega), HA6.out _ (by omega) (by omega), HA6.out _ (by omega) (by omega), fun ad e => HA6.out _ (by have := HA.out ad e; have := hb0.size; omega) (by have := HA.out ad e; omega)⟩, ?_, _, a2, ?_⟩
        · have := a4.size; simp at this ⊢; omega
        · exact HI1.out.1.trans ⟨a4.os, a4.tape, a4.output, (by have := a4.size; simp at this ⊢; omega), fun k hk => by rw [HH1.out]; exact HA6.out k (by omega) (by omega)⟩
        · rw [hjs, List.length_append, pcs_snoc]; exact a3
  case done =>
    rintro D W hD ⟨h2, v, h3, h4⟩ hK
    have hcr := h3.cell
    have hfr := h3.frozen
    gi_wp2
    refine ⟨by simp, .inl ⟨_, _, rfl, run_takeDeferred hK, ?_⟩⟩
    exact ⟨_, results_tmp2 rfl _ _ _, v, rfl, ownsRow_putObj (owns_mono h4 (by omega)) _ hK rfl, h2.trans (belowK_b (w := w) (Nat.le_refl _) _ D _ _ (by omega) hK rfl rfl)⟩
  case stop =>
    intro D c pre W hD hpre h
    exact h.elim
def jres (l : List S44) : List (Int × Int) := if chk (prs l) = 0 then joinL (slicedL (prs l) 0 (sumL (prs l))) else []
/-- Join, whatever it is given. -/
theorem joinF (A : Option Addr) (cap : Nat) (l : List S44) (w : World) (hC : Kd.C k44 w A l.length l) (hcap : l.length ≤ cap) (hA : ∀ ad, A = some ad → ad.block < w.heap.size) :
    Calls Try.prog 22 #[.slice A l.length cap] w fun e w' => ∃ v, e = .returned (.tuple #[v, .int .i64 (chk (prs l))]) ∧ w'.ownsRow w.heap.size 44 2 v (jres l).length (pcs (jres l)) ∧ Below w.heap.size w w' := by
  by_cases hw : chk (prs l) = 0
  · rw [hw, show jres l = joinL (slicedL (prs l) 0 (sumL (prs l))) from if_pos hw]
    exact callsIn_wide.1 (join_in A cap l w hC hcap hA hw)
  · rw [show jres l = [] from if_neg hw]
    have HC := Lib.hid hC
    clear hC
    go_enter Try.func22, Try.ntmps22
    go_wp2_with (first
      | (go_at_call 38; refine (check_one A cap l _ _ _ (heap_alloc_new w _) hcap (Kd.C_below HC.out ((Below.refl _ _).alloc (Nat.le_refl _) _))).mono ?_; rintro e w1 ⟨rfl, hb1⟩; replace hb1 := below_then' ((Below.refl w.heap.size w).alloc (Nat.le_refl _) _) hb1))
    go_ret2
    exact ⟨_, rfl, ⟨by simp [pcs], .inl ⟨rfl, rfl⟩⟩, hb1⟩
end Go.Proofs.Ytbojagkalbfenaa
