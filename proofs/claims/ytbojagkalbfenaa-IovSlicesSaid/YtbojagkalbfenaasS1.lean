import Derived.Test.YtbojagkalbfenaasG3
namespace Go.Proofs.Ytbojagkalbfenaa
set_option linter.unusedVariables false
set_option linter.unusedSimpArgs false
open Go.RowKit PIovSlices Go.Proofs.YtbojagkalbfenaaW.PrintWords
attribute [local go_sem] Oper.semAt_some ints_get ints_size ints_getElem

theorem wpIn_round_plain {l n id : Nat} {P : Program} {ops : List Oper} {Q : Exit → Act → World → Prop} {a : Act} {w : World} (hQ : ¬ LetsOut Q) (hd : noDeferB ops.toArray = true)
    (h : wpList P ops.toArray Q ops a w) : (Code.region id ops.toArray false).wpIn (Fence.wide.inRound l) n P Q a w := by
  refine wpIn_region (wpOpsIn_of_wpOps hQ hd _ _ _ ?_)
  rw [List.range_eq_range', List.size_toArray, wpOps_eq_wpList ops 0 (fun j => by simp)]
  exact h

/-- The cells of a list of parts. -/
def pcs (l : List (Int × Int)) : List Value := l.flatMap fun p => [.int .i64 p.1, .int .i64 p.2]
theorem pcs_snoc (pre : List (Int × Int)) (x : Int × Int) : pcs (pre ++ [x]) = pcs pre ++ [.int .i64 x.1, .int .i64 x.2] := by simp [pcs]
theorem results_tmp2 {fn : Func} {p q : Tmp} (h : fn.results = #[.tmp p, .tmp q]) (tmps : Array Value) (P : Program) (w : World) : (results fn tmps).run P w = .ok (.tuple #[tmps.getD p undef, tmps.getD q undef]) w := by
  simp [results, h]

set_option maxHeartbeats 2000000 in
set_option maxRecDepth 100000 in
theorem slice_in (A : Option Addr) (cap : Nat) (l : List S44) (off n : Int) (P0 : Nat → Prop) (w : World) (hV : Kd.V k44 44 w w.heap.size P0 (.slice A l.length cap) l)
    (hA : ∀ ad, A = some ad → ad.block < w.heap.size) (hw : wth (prs l) off n = 0) :
    CallsIn Fence.wide 5 Try.prog 20 #[.slice A l.length cap, .int .i64 off, .int .i64 n] w fun e w' => ∃ v, e = .returned (.tuple #[v, .int .i64 0]) ∧ w'.ownsRow w.heap.size 44 2 v (slicedL (prs l) off n).length (pcs (slicedL (prs l) off n)) ∧ Below w.heap.size w w' := by
  obtain ⟨h1, h2, h3, h4, h5, h6, h7⟩ := wth_zero hw
  have hwi := iov_within.calls 60 P0 A cap l off n 0 w hV (by rw [within_f l off n (by omega), hw])
  have HP := Lib.hid (pairs_of_C (Kd.V_reads' hV).2.2)
  have HA := Lib.hid hA
  have HOK := Lib.hid h1
  rw [← prs_length l] at *
  generalize prs l = cs at *
  clear hV hA h1 hw
  have HWI := Lib.hid hwi
  clear hwi
  refine callsIn_of_wp_marks Try.func20 rfl trivial ?_ rfl
  simp only [Try.ntmps20, List.size_toArray, List.length_cons, List.length_nil, Nat.reduceAdd, Nat.reduceSub, Array.replicate_succ, Array.replicate_zero, List.push_toArray, List.append_toArray, List.nil_append, List.cons_append]
  gi_wp2_with (first
    | (refine ⟨trivial, ?_⟩; gi_at_call 33; refine (callsIn_wide.2 HWI.out).mono ?_; rintro e w1 ⟨rfl, hb1⟩)
    | (refine ⟨trivial, ?_⟩; gi_at_call 40; refine (callsIn_wide.2 (sliced_calls _ _ _ _ _ _)).mono ?_; rintro e w' ⟨rfl, rfl⟩))
  obtain ⟨W0, hW0⟩ : ∃ W0, w1.alloc (.cells #[.slice none 0 0] 23) = W0 := ⟨_, rfl⟩
  have hs0 : w1.heap.size + 1 = W0.heap.size := by rw [← hW0]; simp
  have hb0 : Below w.heap.size w W0 := by rw [← hW0]; exact hb1.alloc hb1.size _
  have hr0 : Boxed W0 w1.heap.size 23 (.slice none 0 0) := by rw [← hW0]; exact Boxed.new w1 23 _
  have hwB := hb1.size
  rw [hW0, hs0]
  generalize w1.heap.size = B at hs0 hr0 hwB ⊢
  have hbs := slW_below W0 A cs.length cap off n
  refine range_sliced A cap cs off n W0 (HP.out.below hb0) (fun ad e => by have := HA.out ad e; omega) HOK.out (by omega) (by omega) h2 rfl rfl
    (fun pre W => Below w.heap.size w W ∧ ∃ v, Boxed W B 23 v ∧ W.ownsRow (W0.heap.size + 3) 44 2 v pre.length (pcs pre))
    (fun c pre W => False)
    (fun pre x a₁ W => (Below w.heap.size w W ∧ ∃ v, Boxed W B 23 v ∧ W.ownsRow (W0.heap.size + 3) 44 2 v pre.length (pcs pre)) ∧ ∃ b, W0.heap.size + 3 ≤ b ∧ W.heap[b]? = some (.cells #[.int .i64 x.1, .int .i64 x.2] 44 (0, 0)) ∧
      a₁ = { tmps := #[.slice A cs.length cap, .int .i64 off, .int .i64 n, undef, undef, undef, .slice none 0 0, .int .i64 0, .int .i64 0, .pointer (some ⟨B, 0, none⟩), .pointer (some ⟨b, 0, none⟩), .slice A cs.length cap, .int .i64 off, .int .i64 n, .int .i64 0, .int .i64 0, .bool false, undef, .slice A cs.length cap, .int .i64 off, .int .i64 n,
        .func (.func 43) #[] #[.pointer (some ⟨W0.heap.size, 0, none⟩), .pointer (some ⟨W0.heap.size + 2, 0, none⟩), .pointer (some ⟨W0.heap.size + 1, 0, none⟩)], .agg #[.int .i64 x.1, .int .i64 x.2], undef, undef, undef, undef, undef], defers := [] })
    (fun pre W W' ⟨h2, v, h3, h4⟩ t => ⟨t.below h2 (Nat.le_refl _) (by omega) (by omega) (by omega), v, t.boxed h3 (by omega) (by omega), t.owns h4 (by omega) (by omega)⟩) (fun c pre W W' h t => h) ?tA ?start ?assign ?body ?done ?stop
  case tA =>
    rintro pre x a₁ W W' ⟨⟨h2, v, h3, h4⟩, b, h5, h6, h7⟩ t
    exact ⟨⟨t.below h2 (Nat.le_refl _) (by omega) (by omega) (by omega), v, t.boxed h3 (by omega) (by omega), t.owns h4 (by omega) (by omega)⟩, b, h5, t.cells h6 (by omega) (by omega), h7⟩
  case start => exact ⟨below_then' hb0 hbs, _, (hbs.block _ hr0.lt).trans hr0, by simp [pcs], .inl ⟨rfl, by simp [pcs]⟩⟩
  case assign =>
    intro l pre x W K hI hsz hK
    gi_wp2
    refine hK _ _ (KeepsOthers.alloc _ _) ((Below.refl _ _).alloc (Nat.le_refl _) _) ⟨?_, _, hsz, heap_alloc_new _ _, rfl⟩
    obtain ⟨h2, v, h3, h4⟩ := hI
    exact ⟨h2.alloc h2.size _, v, h3.alloc _, h4.alloc _⟩
  case body =>
    rintro l pre ⟨x1, x2⟩ a₁ W hal ⟨hx0, hx1⟩ ⟨hy0, hy1⟩ hsz ⟨⟨hI2, v, hv, hrow⟩, b, hb, hcell, rfl⟩
    have hc0 : W.cell? ⟨b, 0, none⟩ = some (.int .i64 x1) := by rw [cell_of_row _ _ _ _ _ _ hcell]; rfl
    have hc1 : W.cell? ⟨b, 1, none⟩ = some (.int .i64 x2) := by rw [cell_of_row _ _ _ _ _ _ hcell]; rfl
    have hcr := hv.cell
    have hfr := hv.frozen
    have hpl : pre.length ≤ 16 := by
      have h1 := hal.length_le
      have h2' := slicedL_length cs off n
      simp only [List.length_append, List.length_cons, List.length_nil] at h1
      omega
    obtain ⟨i0, hi0, hz0, hz1, hz2⟩ := info_parts (P := Try.prog) (e := 44) (z := .agg #[.int .i64 0, .int .i64 0]) (size := 2) (bytes := 16) (by kernel_rfl)
    have HI := Lib.hid (And.intro hI2 (And.intro hv hrow))
    have HI0 := Lib.hid hi0
    have HZZ := Lib.hid (And.intro hz0 (And.intro hz1 hz2))
    clear hI2 hv hrow hi0 hz0 hz1 hz2
    refine wpIn_block ?_
    refine wpIn_round_plain (by rintro ⟨a, w, h⟩; exact h) (by kernel_rfl) ?_
    go_wp2_with (at_builtin; go_loud (refine wpList_append_own _ rfl (.tmp 23) (.tmp 25) 23 rfl (W0.heap.size + 3) 44 i0 (.agg #[.int .i64 0, .int .i64 0]) 2 16 Try.underlying23 HI0.out HZZ.out.1 HZZ.out.2.1 HZZ.out.2.2 rfl (by omega) v _ (pcs pre) rfl (HI.out.2.2.alloc _) ⟨W.heap.size, 0, none⟩ 1 1 [.int .i64 x1, .int .i64 x2] rfl rfl (World.news_of_block (cs := #[.int .i64 x1, .int .i64 x2]) (t := 44) (fr := (0, 0)) (heap_alloc_new W _)) (by simp [Value.oneCell']) (by simp only [maxLen]; omega) (by omega) (by simp; omega) ?_; intro v' w2 hown' hgrow _; obtain ⟨g', cap', rfl⟩ := ownsRow_pos hown' (by omega); obtain ⟨a1, a2, a3, a4, a5, a6⟩ := out_appended (W := W.alloc (.cells #[.int .i64 x1, .int .i64 x2] 44)) (HI.out.2.1.alloc _) (by decide) (HI.out.2.2.alloc _) (by omega) (by simp; omega) hown' hgrow; have hcr' := a1.cell; have hfr' := a1.frozen; have HA5 := Lib.hid a5; clear a5))
    have hA5 : ∀ j, j < W0.heap.size + 3 → j ≠ B → (w2.setCell ⟨B, 0, none⟩ (.slice (some ⟨g', 0, none⟩) (pre.length + 1) cap')).heap[j]? = W.heap[j]? := fun j hj hne => (HA5.out j hj hne).trans (Below.heap_alloc _ _ _ (by omega))
    have HA6 := Lib.hid hA5
    clear hA5
    refine ⟨(KeepsOthers.alloc W _).trans a6, ⟨?ks, HA6.out _ (by omega) (by omega), HA6.out _ (by omega) (by omega), HA6.out _ (by omega) (by omega), fun ad e => HA6.out _ (by have := HA.out ad e; omega) (by have := HA.out ad e; omega)⟩, ?kw, _, a2, ?ko⟩
    case ks => have := a4.size; simp at this ⊢; omega
    case kw => exact HI.out.1.trans ⟨a4.os, a4.tape, a4.output, (by have := a4.size; simp at this ⊢; omega), fun k hk => HA6.out k (by omega) (by omega)⟩
    case ko => rw [pcs_snoc, List.length_append]; exact a3
  case done =>
    rintro D W hD ⟨h2, v, h3, h4⟩ hK
    have hcr := h3.cell
    have hfr := h3.frozen
    gi_wp2
    refine ⟨by simp, .inl ⟨_, _, rfl, run_takeDeferred hK, ?_⟩⟩
    exact ⟨_, results_tmp2 rfl _ _ _, v, rfl, ownsRow_putObj (owns_mono h4 (by omega)) _ hK rfl, h2.trans (belowK_b (w := w) (Nat.le_refl _) _ D _ _ (by omega) hK rfl rfl)⟩
  case stop =>
    intro D c pre W hD hpre h
    exact h.elim
def sres (l : List S44) (off n : Int) : List (Int × Int) := if wth (prs l) off n = 0 then slicedL (prs l) off n else []
/-- Slice, whatever it is given. -/
theorem sliceF (A : Option Addr) (cap : Nat) (l : List S44) (off n : Int) (P0 : Nat → Prop) (w : World) (hV : Kd.V k44 44 w w.heap.size P0 (.slice A l.length cap) l)
    (hA : ∀ ad, A = some ad → ad.block < w.heap.size) :
    Calls Try.prog 20 #[.slice A l.length cap, .int .i64 off, .int .i64 n] w fun e w' => ∃ v, e = .returned (.tuple #[v, .int .i64 (wth (prs l) off n)]) ∧ w'.ownsRow w.heap.size 44 2 v (sres l off n).length (pcs (sres l off n)) ∧ Below w.heap.size w w' := by
  by_cases hw : wth (prs l) off n = 0
  · rw [hw, show sres l off n = slicedL (prs l) off n from if_pos hw]
    exact callsIn_wide.1 (slice_in A cap l off n P0 w hV hA hw)
  · rw [show sres l off n = [] from if_neg hw]
    go_enter Try.func20, Try.ntmps20
    go_wp2_with (first
      | (go_at_call 33; refine (iov_within.calls 60 P0 A cap l off n _ w hV (within_f l off n (by omega))).mono ?_; rintro e w1 ⟨rfl, hb1⟩))
    go_ret2
    exact ⟨_, rfl, ⟨by simp [pcs], .inl ⟨rfl, rfl⟩⟩, hb1⟩
end Go.Proofs.Ytbojagkalbfenaa
