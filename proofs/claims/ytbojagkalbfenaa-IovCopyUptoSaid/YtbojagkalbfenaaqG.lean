import Derived.Test.YtbojagkalbfenaaqA
import Derived.Test.YtbojagkalbfenaaqL
import Derived.Laws.CopyOwn
namespace Go.Proofs.Ytbojagkalbfenaa
open Go.RowKit PIovGather Go.Proofs.YtbojagkalbfenaaW.PrintWords
attribute [local go_sem] ints_get ints_size ints_getElem

theorem pairs_of_C {w : World} {A : Option Addr} {l : List S44} (h : Kd.C k44 w A l.length l) : Pairs w A (prs l) := by
  intro i hi
  rw [prs_length] at hi
  obtain ⟨ad, e, h1, h2⟩ := at_T44 h (i : Int) (by omega) (by omega)
  have hg : (prs l).getD i (0, 0) = ((rd_T44 l i).f0, (rd_T44 l i).f1) := by simp [prs, rd_T44, List.getD_eq_getElem?_getD, List.getElem?_eq_getElem hi]
  rw [hg]
  exact ⟨ad, e, by simpa using h1, by simpa using h2⟩
/-- Gather's code. -/
def gcode (nm : Nat) (l : List (Int × Int)) (off n : Int) : Int := if wth l off n = 0 then (if insideB nm (slicedL l off n) = true then 0 else 11) else wth l off n
def gres (ds : List Value) (l : List (Int × Int)) (off n : Int) : List Value := if gcode ds.length l off n = 0 then gatherL ds (slicedL l off n) else []
theorem wth_zero {l : List (Int × Int)} {off n : Int} (h : wth l off n = 0) : okP l ∧ l.length ≤ 16 ∧ 0 ≤ sumL l ∧ sumL l ≤ 4096 ∧ 0 ≤ off ∧ 0 ≤ n ∧ off + n ≤ sumL l := by
  have hc : chk l = 0 := by
    unfold wth at h
    split at h
    · assumption
    · assumption
  obtain ⟨h1, h2, h3, h4⟩ := chk_zero hc
  unfold wth at h
  rw [if_pos hc] at h
  split at h
  · cases h
  · exact ⟨h1, h2, h3, h4, by omega, by omega, by omega⟩

theorem inside_l (M : Option Addr) (mlen mcap : Nat) (A : Option Addr) (cap : Nat) (l : List S44) (off n : Int) (w : World) (hp : Pairs w A (prs l)) (hA : ∀ ad, A = some ad → ad.block < w.heap.size) (hw : wth (prs l) off n = 0) (hml : mlen ≤ 9223372036854775807) :
    Calls Try.prog 34 #[.slice M mlen mcap, .slice A l.length cap, .int .i64 off, .int .i64 n] w fun e w' => e = .returned (.bool (insideB mlen (slicedL (prs l) off n))) ∧ Below w.heap.size w w' := by
  obtain ⟨h1, h2, h3, h4, h5, h6, h7⟩ := wth_zero hw
  have := callsIn_wide.1 (inside_in M mlen mcap A cap (prs l) off n w hp hA h1 (by omega) (by omega) h2 hml)
  rwa [prs_length] at this
theorem gather_l (M : Option Addr) (ds : List Value) (mcap : Nat) (A : Option Addr) (cap : Nat) (l : List S44) (off n : Int) (w : World) (hmem : Mem w M ds) (hp : Pairs w A (prs l)) (hA : ∀ ad, A = some ad → ad.block < w.heap.size) (hw : wth (prs l) off n = 0) (hml : ds.length ≤ mcap) (hmc : mcap ≤ 9223372036854775807)
    (hin : insideB ds.length (slicedL (prs l) off n) = true) :
    Calls Try.prog 35 #[.slice M ds.length mcap, .slice A l.length cap, .int .i64 off, .int .i64 n] w fun e w' => ∃ v, e = .returned v ∧ w'.ownsRow w.heap.size 5 1 v (gatherL ds (slicedL (prs l) off n)).length (gatherL ds (slicedL (prs l) off n)) ∧ Below w.heap.size w w' := by
  obtain ⟨h1, h2, h3, h4, h5, h6, h7⟩ := wth_zero hw
  have := callsIn_wide.1 (gather_in M ds mcap A cap (prs l) off n w hmem hp hA h1 (by omega) (by omega) h2 hml hmc hin)
  rwa [prs_length] at this

set_option maxHeartbeats 1000000 in
set_option maxRecDepth 100000 in
theorem gatherF (M : Option Addr) (ds : List Value) (mcap : Nat) (A : Option Addr) (cap : Nat) (l : List S44) (off n : Int) (P0 : Nat → Prop) (w : World) (hmem : Mem w M ds) (hV : Kd.V k44 44 w w.heap.size P0 (.slice A l.length cap) l)
    (hA : ∀ ad, A = some ad → ad.block < w.heap.size) (hml : ds.length ≤ mcap) (hmc : mcap ≤ 9223372036854775807) :
    Calls Try.prog 12 #[.slice M ds.length mcap, .slice A l.length cap, .int .i64 off, .int .i64 n] w fun e w' => ∃ v, e = .returned (.tuple #[v, .int .i64 (gcode ds.length (prs l) off n)]) ∧ w'.ownsRow w.heap.size 5 1 v (gres ds (prs l) off n).length (gres ds (prs l) off n) ∧ Below w.heap.size w w' := by
  have HM := Lib.hid hmem
  have HV := Lib.hid hV
  have HP := Lib.hid (pairs_of_C (Kd.V_reads' hV).2.2)
  have HA := Lib.hid hA
  clear hmem hV hA
  go_enter Try.func12, Try.ntmps12
  by_cases hw : wth (prs l) off n = 0
  · obtain ⟨h1, h2, h3, h4, h5, h6, h7⟩ := wth_zero hw
    have HOK := Lib.hid h1
    clear h1
    rw [prs_length] at h2
    by_cases hin : insideB ds.length (slicedL (prs l) off n) = true
    · have HIN := Lib.hid hin
      have hg : gcode ds.length (prs l) off n = 0 := by unfold gcode; rw [if_pos hw, if_pos hin]
      have hr : gres ds (prs l) off n = gatherL ds (slicedL (prs l) off n) := by unfold gres; rw [if_pos hg]
      go_wp2_with (first
        | (go_at_call 33; refine (iov_within.calls 60 P0 A cap l off n 0 w HV.out (by rw [within_f l off n (by omega), hw])).mono ?_; rintro e w1 ⟨rfl, hb1⟩)
        | (go_at_call 34; refine (inside_l M ds.length mcap A cap l off n _ (HP.out.below hb1) (fun ad e => Nat.lt_of_lt_of_le (HA.out ad e) hb1.size) hw (by omega)).mono ?_; rw [HIN.out]; rintro e w2 ⟨rfl, hb2⟩)
        | (go_at_call 35; refine (gather_l M ds mcap A cap l off n _ ((HM.out.below hb1).below hb2) ((HP.out.below hb1).below hb2) (fun ad e => Nat.lt_of_lt_of_le (Nat.lt_of_lt_of_le (HA.out ad e) hb1.size) hb2.size) hw hml hmc HIN.out).mono ?_; rintro e w3 ⟨v, rfl, ho, hb3⟩))
      go_ret2
      rw [hg, hr]
      refine ⟨v, rfl, owns_mono ho (Nat.le_trans hb1.size hb2.size), below_then' hb1 (below_then' hb2 hb3)⟩
    · have hin' : insideB ds.length (slicedL (prs l) off n) = false := by simpa using hin
      have HIN := Lib.hid hin'
      have hg : gcode ds.length (prs l) off n = 11 := by unfold gcode; rw [if_pos hw, if_neg hin]
      have hr : gres ds (prs l) off n = [] := by unfold gres; rw [if_neg (by rw [hg]; decide)]
      rw [hg, hr]
      go_wp2_with (first
        | (go_at_call 33; refine (iov_within.calls 60 P0 A cap l off n 0 w HV.out (by rw [within_f l off n (by omega), hw])).mono ?_; rintro e w1 ⟨rfl, hb1⟩)
        | (go_at_call 34; refine (inside_l M ds.length mcap A cap l off n _ (HP.out.below hb1) (fun ad e => Nat.lt_of_lt_of_le (HA.out ad e) hb1.size) hw (by omega)).mono ?_; rw [HIN.out]; rintro e w2 ⟨rfl, hb2⟩))
      go_ret2
      refine ⟨_, rfl, ⟨by simp, .inl ⟨rfl, rfl⟩⟩, ?_⟩
      exact below_then' hb1 hb2
  · have hg : gcode ds.length (prs l) off n = wth (prs l) off n := by unfold gcode; rw [if_neg hw]
    have hr : gres ds (prs l) off n = [] := by unfold gres; rw [if_neg (by rw [hg]; exact hw)]
    rw [hg, hr]
    go_wp2_with (first
      | (go_at_call 33; refine (iov_within.calls 60 P0 A cap l off n _ w HV.out (within_f l off n (by omega))).mono ?_; rintro e w1 ⟨rfl, hb1⟩))
    go_ret2
    refine ⟨_, rfl, ⟨by simp, .inl ⟨rfl, rfl⟩⟩, hb1⟩
end Go.Proofs.Ytbojagkalbfenaa
namespace Go.Proofs.Ytbojagkalbfenaa
set_option linter.unusedVariables false
set_option linter.unusedSimpArgs false
open Go.RowKit PIovGather Go.Proofs.YtbojagkalbfenaaW.PrintWords
attribute [local go_sem] Oper.semAt_some ints_get ints_size ints_getElem

theorem wpIn_round_plain {l n id : Nat} {P : Program} {ops : List Oper} {Q : Exit → Act → World → Prop} {a : Act} {w : World} (hQ : ¬ LetsOut Q) (hd : noDeferB ops.toArray = true)
    (h : wpList P ops.toArray Q ops a w) : (Code.region id ops.toArray false).wpIn (Fence.wide.inRound l) n P Q a w := by
  refine wpIn_region (wpOpsIn_of_wpOps hQ hd _ _ _ ?_)
  rw [List.range_eq_range', List.size_toArray, wpOps_eq_wpList ops 0 (fun j => by simp)]
  exact h

/-- The cells of a list of parts. -/
def pcs (l : List (Int × Int)) : List Value := l.flatMap fun p => [.int .i64 p.1, .int .i64 p.2]
theorem pcs_snoc (pre : List (Int × Int)) (x : Int × Int) : pcs (pre ++ [x]) = pcs pre ++ [.int .i64 x.1, .int .i64 x.2] := by simp [pcs]
theorem results_tmp2 {fn : Func} {p q : Tmp} (h : fn.results = #[.tmp p, .tmp q]) (tmps : Array Value) (P : Program) (w : World) : (results fn tmps).run P w = .ok (.tuple #[tmps.getD p undef, tmps.getD q undef]) w := by
  simp [results, h]

set_option maxHeartbeats 2000000 in
set_option maxRecDepth 100000 in
theorem slice_in (A : Option Addr) (cap : Nat) (l : List S44) (off n : Int) (P0 : Nat → Prop) (w : World) (hV : Kd.V k44 44 w w.heap.size P0 (.slice A l.length cap) l)
    (hA : ∀ ad, A = some ad → ad.block < w.heap.size) (hw : wth (prs l) off n = 0) :
    CallsIn Fence.wide 5 Try.prog 20 #[.slice A l.length cap, .int .i64 off, .int .i64 n] w fun e w' => ∃ v, e = .returned (.tuple #[v, .int .i64 0]) ∧ w'.ownsRow w.heap.size 44 2 v (slicedL (prs l) off n).length (pcs (slicedL (prs l) off n)) ∧ Below w.heap.size w w' := by
  obtain ⟨h1, h2, h3, h4, h5, h6, h7⟩ := wth_zero hw
  have hwi := iov_within.calls 60 P0 A cap l off n 0 w hV (by rw [within_f l off n (by omega), hw])
  have HP := Lib.hid (pairs_of_C (Kd.V_reads' hV).2.2)
  have HA := Lib.hid hA
  have HOK := Lib.hid h1
  rw [← prs_length l] at *
  generalize prs l = cs at *
  clear hV hA h1 hw
  have HWI := Lib.hid hwi
  clear hwi
  refine callsIn_of_wp_marks Try.func20 rfl trivial ?_ rfl
  simp only [Try.ntmps20, List.size_toArray, List.length_cons, List.length_nil, Nat.reduceAdd, Nat.reduceSub, Array.replicate_succ, Array.replicate_zero, List.push_toArray, List.append_toArray, List.nil_append, List.cons_append]
  gi_wp2_with (first
    | (refine ⟨trivial, ?_⟩; gi_at_call 33; refine (callsIn_wide.2 HWI.out).mono ?_; rintro e w1 ⟨rfl, hb1⟩)
    | (refine ⟨trivial, ?_⟩; gi_at_call 40; refine (callsIn_wide.2 (sliced_calls _ _ _ _ _ _)).mono ?_; rintro e w' ⟨rfl, rfl⟩))
  obtain ⟨W0, hW0⟩ : ∃ W0, w1.alloc (.cells #[.slice none 0 0] 23) = W0 := ⟨_, rfl⟩
  have hs0 : w1.heap.size + 1 = W0.heap.size := by rw [← hW0]; simp
  have hb0 : Below w.heap.size w W0 := by rw [← hW0]; exact hb1.alloc hb1.size _
  have hr0 : Boxed W0 w1.heap.size 23 (.slice none 0 0) := by rw [← hW0]; exact Boxed.new w1 23 _
  have hwB := hb1.size
  rw [hW0, hs0]
  generalize w1.heap.size = B at hs0 hr0 hwB ⊢
  have hbs := slW_below W0 A cs.length cap off n
  refine range_sliced A cap cs off n W0 (HP.out.below hb0) (fun ad e => by have := HA.out ad e; omega) HOK.out (by omega) (by omega) h2 rfl rfl
    (fun pre W => Below w.heap.size w W ∧ ∃ v, Boxed W B 23 v ∧ W.ownsRow (W0.heap.size + 3) 44 2 v pre.length (pcs pre))
    (fun c pre W => False)
    (fun pre x a₁ W => (Below w.heap.size w W ∧ ∃ v, Boxed W B 23 v ∧ W.ownsRow (W0.heap.size + 3) 44 2 v pre.length (pcs pre)) ∧ ∃ b, W0.heap.size + 3 ≤ b ∧ W.heap[b]? = some (.cells #[.int .i64 x.1, .int .i64 x.2] 44 (0, 0)) ∧
      a₁ = { tmps := #[.slice A cs.length cap, .int .i64 off, .int .i64 n, undef, undef, undef, .slice none 0 0, .int .i64 0, .int .i64 0, .pointer (some ⟨B, 0, none⟩), .pointer (some ⟨b, 0, none⟩), .slice A cs.length cap, .int .i64 off, .int .i64 n, .int .i64 0, .int .i64 0, .bool false, undef, .slice A cs.length cap, .int .i64 off, .int .i64 n,
        .func (.func 43) #[] #[.pointer (some ⟨W0.heap.size, 0, none⟩), .pointer (some ⟨W0.heap.size + 2, 0, none⟩), .pointer (some ⟨W0.heap.size + 1, 0, none⟩)], .agg #[.int .i64 x.1, .int .i64 x.2], undef, undef, undef, undef, undef], defers := [] })
    (fun pre W W' ⟨h2, v, h3, h4⟩ t => ⟨t.below h2 (Nat.le_refl _) (by omega) (by omega) (by omega), v, t.boxed h3 (by omega) (by omega), t.owns h4 (by omega) (by omega)⟩) (fun c pre W W' h t => h) ?tA ?start ?assign ?body ?done ?stop
  case tA =>
    rintro pre x a₁ W W' ⟨⟨h2, v, h3, h4⟩, b, h5, h6, h7⟩ t
    exact ⟨⟨t.below h2 (Nat.le_refl _) (by omega) (by omega) (by omega), v, t.boxed h3 (by omega) (by omega), t.owns h4 (by omega) (by omega)⟩, b, h5, t.cells h6 (by omega) (by omega), h7⟩
  case start => exact ⟨below_then' hb0 hbs, _, (hbs.block _ hr0.lt).trans hr0, by simp [pcs], .inl ⟨rfl, by simp [pcs]⟩⟩
  case assign =>
    intro l pre x W K hI hsz hK
    gi_wp2
    refine hK _ _ (KeepsOthers.alloc _ _) ((Below.refl _ _).alloc (Nat.le_refl _) _) ⟨?_, _, hsz, heap_alloc_new _ _, rfl⟩
    obtain ⟨h2, v, h3, h4⟩ := hI
    exact ⟨h2.alloc h2.size _, v, h3.alloc _, h4.alloc _⟩
  case body =>
    rintro l pre ⟨x1, x2⟩ a₁ W hal ⟨hx0, hx1⟩ ⟨hy0, hy1⟩ hsz ⟨⟨hI2, v, hv, hrow⟩, b, hb, hcell, rfl⟩
    have hc0 : W.cell? ⟨b, 0, none⟩ = some (.int .i64 x1) := by rw [cell_of_row _ _ _ _ _ _ hcell]; rfl
    have hc1 : W.cell? ⟨b, 1, none⟩ = some (.int .i64 x2) := by rw [cell_of_row _ _ _ _ _ _ hcell]; rfl
    have hcr := hv.cell
    have hfr := hv.frozen
    have hpl : pre.length ≤ 16 := by
      have h1 := hal.length_le
      have h2' := slicedL_length cs off n
      simp only [List.length_append, List.length_cons, List.length_nil] at h1
      omega
    obtain ⟨i0, hi0, hz0, hz1, hz2⟩ := info_parts (P := Try.prog) (e := 44) (z := .agg #[.int .i64 0, .int .i64 0]) (size := 2) (bytes := 16) (by kernel_rfl)
    have HI := Lib.hid (And.intro hI2 (And.intro hv hrow))
    have HI0 := Lib.hid hi0
    have HZZ := Lib.hid (And.intro hz0 (And.intro hz1 hz2))
    clear hI2 hv hrow hi0 hz0 hz1 hz2
    refine wpIn_block ?_
    refine wpIn_round_plain (by rintro ⟨a, w, h⟩; exact h) (by kernel_rfl) ?_
    go_wp2_with (at_builtin; go_loud (refine wpList_append_own _ rfl (.tmp 23) (.tmp 25) 23 rfl (W0.heap.size + 3) 44 i0 (.agg #[.int .i64 0, .int .i64 0]) 2 16 Try.underlying23 HI0.out HZZ.out.1 HZZ.out.2.1 HZZ.out.2.2 rfl (by omega) v _ (pcs pre) rfl (HI.out.2.2.alloc _) ⟨W.heap.size, 0, none⟩ 1 1 [.int .i64 x1, .int .i64 x2] rfl rfl (World.news_of_block (cs := #[.int .i64 x1, .int .i64 x2]) (t := 44) (fr := (0, 0)) (heap_alloc_new W _)) (by simp [Value.oneCell']) (by simp only [maxLen]; omega) (by omega) (by simp; omega) ?_; intro v' w2 hown' hgrow _; obtain ⟨g', cap', rfl⟩ := ownsRow_pos hown' (by omega); obtain ⟨a1, a2, a3, a4, a5, a6⟩ := out_appended (W := W.alloc (.cells #[.int .i64 x1, .int .i64 x2] 44)) (HI.out.2.1.alloc _) (by decide) (HI.out.2.2.alloc _) (by omega) (by simp; omega) hown' hgrow; have hcr' := a1.cell; have hfr' := a1.frozen; have HA5 := Lib.hid a5; clear a5))
    have hA5 : ∀ j, j < W0.heap.size + 3 → j ≠ B → (w2.setCell ⟨B, 0, none⟩ (.slice (some ⟨g', 0, none⟩) (pre.length + 1) cap')).heap[j]? = W.heap[j]? := fun j hj hne => (HA5.out j hj hne).trans (Below.heap_alloc _ _ _ (by omega))
    have HA6 := Lib.hid hA5
    clear hA5
    refine ⟨(KeepsOthers.alloc W _).trans a6, ⟨?ks, HA6.out _ (by omega) (by omega), HA6.out _ (by omega) (by omega), HA6.out _ (by omega) (by omega), fun ad e => HA6.out _ (by have := HA.out ad e; omega) (by have := HA.out ad e; omega)⟩, ?kw, _, a2, ?ko⟩
    case ks => have := a4.size; simp at this ⊢; omega
    case kw => exact HI.out.1.trans ⟨a4.os, a4.tape, a4.output, (by have := a4.size; simp at this ⊢; omega), fun k hk => HA6.out k (by omega) (by omega)⟩
    case ko => rw [pcs_snoc, List.length_append]; exact a3
  case done =>
    rintro D W hD ⟨h2, v, h3, h4⟩ hK
    have hcr := h3.cell
    have hfr := h3.frozen
    gi_wp2
    refine ⟨by simp, .inl ⟨_, _, rfl, run_takeDeferred hK, ?_⟩⟩
    exact ⟨_, results_tmp2 rfl _ _ _, v, rfl, ownsRow_putObj (owns_mono h4 (by omega)) _ hK rfl, h2.trans (belowK_b (w := w) (Nat.le_refl _) _ D _ _ (by omega) hK rfl rfl)⟩
  case stop =>
    intro D c pre W hD hpre h
    exact h.elim
def sres (l : List S44) (off n : Int) : List (Int × Int) := if wth (prs l) off n = 0 then slicedL (prs l) off n else []
/-- Slice, whatever it is given. -/
theorem sliceF (A : Option Addr) (cap : Nat) (l : List S44) (off n : Int) (P0 : Nat → Prop) (w : World) (hV : Kd.V k44 44 w w.heap.size P0 (.slice A l.length cap) l)
    (hA : ∀ ad, A = some ad → ad.block < w.heap.size) :
    Calls Try.prog 20 #[.slice A l.length cap, .int .i64 off, .int .i64 n] w fun e w' => ∃ v, e = .returned (.tuple #[v, .int .i64 (wth (prs l) off n)]) ∧ w'.ownsRow w.heap.size 44 2 v (sres l off n).length (pcs (sres l off n)) ∧ Below w.heap.size w w' := by
  by_cases hw : wth (prs l) off n = 0
  · rw [hw, show sres l off n = slicedL (prs l) off n from if_pos hw]
    exact callsIn_wide.1 (slice_in A cap l off n P0 w hV hA hw)
  · rw [show sres l off n = [] from if_neg hw]
    go_enter Try.func20, Try.ntmps20
    go_wp2_with (first
      | (go_at_call 33; refine (iov_within.calls 60 P0 A cap l off n _ w hV (within_f l off n (by omega))).mono ?_; rintro e w1 ⟨rfl, hb1⟩))
    go_ret2
    exact ⟨_, rfl, ⟨by simp [pcs], .inl ⟨rfl, rfl⟩⟩, hb1⟩
end Go.Proofs.Ytbojagkalbfenaa
namespace Go.Proofs.Ytbojagkalbfenaa
set_option linter.unusedVariables false
set_option linter.unusedSimpArgs false
open Go.RowKit PIovGather Go.Proofs.YtbojagkalbfenaaW.PrintWords
attribute [local go_sem] Oper.semAt_some ints_get ints_size ints_getElem

theorem wpList_copy_cells {P : Program} {w : World} {ops : Array Oper} {rest : List Oper} {o : Oper} {a : Act} {Q : Exit → Act → World → Prop} (hgd : o.guard = none) (d s : Operand) (dT sT : TypeId)
    (ho : o.op = .call { callee := .builtin .copy, args := #[d, s], argTypes := #[dT, sT] }) (elem : TypeId) (hu : P.underlying dT = some (.slice elem)) (hsz : (P.info? elem).map (·.size) = some 1)
    (b p dLen dCap : Nat) (ad : Addr) (sLen sCap : Nat) (hd : a.eval d = .slice (some ⟨b, p, none⟩) dLen dCap) (hs : a.eval s = .slice (some ad) sLen sCap)
    (cs : List Value) (hn : cs.length = Nat.min sLen dLen) (hsrc : ∀ j v, cs[j]? = some v → w.cell? (ad.add j) = some v) (hc : ∀ j, j < cs.length → (w.cell? ⟨b, p + j, none⟩).isSome = true) (hf : ∀ j, j < cs.length → w.frozen? ⟨b, p + j, none⟩ = false) (h1 : ∀ v ∈ cs, v.oneCell' = true)
    (h : wpList P ops Q rest (a.put o.dst (goInt cs.length)) (w.setCells b p cs)) : wpList P ops Q (o :: rest) a w := by
  refine wpList_plain hgd fun K hK => ?_
  have hrun := run_copy_cells (P := P) w dT sT o.type elem b p dLen dCap ad sLen sCap cs hu hsz hn hsrc hc hf h1
  unfold Oper.wp
  simp [execOp, ho, resolve, invoke, builtin, hd, hs, hrun, Result.andThen]
  exact hK _ _ h

/-- Data laid over a memory from a place on. -/
def wr (ms : List Value) (p : Nat) (vs : List Value) : List Value := ms.take p ++ vs ++ ms.drop (p + vs.length)
theorem wr_length {ms vs : List Value} {p : Nat} (h : p + vs.length ≤ ms.length) : (wr ms p vs).length = ms.length := by simp [wr]; omega
def scatS (s : List Value × List Value) (x : Int × Int) : List Value × List Value := (wr s.1 x.1.toNat (s.2.take x.2.toNat), s.2.drop x.2.toNat)
def scat (s : List Value × List Value) (xs : List (Int × Int)) : List Value × List Value := xs.foldl scatS s
theorem scat_snoc (s : List Value × List Value) (pre : List (Int × Int)) (x : Int × Int) : scat s (pre ++ [x]) = scatS (scat s pre) x := by simp [scat]
theorem sumL_slicedL : ∀ (l : List (Int × Int)) (off m : Int), 0 ≤ m → sumL (slicedL l off m) ≤ m
  | [], off, m, h => by simpa [slicedL, sumL] using h
  | p :: r, off, m, h => by
    simp only [slicedL]
    split
    · simpa [sumL] using h
    · split
      · exact sumL_slicedL r _ m h
      · have := sumL_slicedL r 0 (m - min (p.2 - off) m) (by omega)
        simp only [sumL]
        omega
theorem sumL_nonneg {l : List (Int × Int)} (h : ∀ x ∈ l, 1 ≤ x.2) : 0 ≤ sumL l := by
  induction l with
  | nil => simp [sumL]
  | cons x r ih =>
    have := ih (fun y hy => h y (List.mem_cons_of_mem _ hy))
    have := h x List.mem_cons_self
    simp only [sumL]; omega
theorem sumL_prefix {a b : List (Int × Int)} (h : a <+: b) (hb : ∀ x ∈ b, 1 ≤ x.2) : sumL a ≤ sumL b := by
  obtain ⟨t, rfl⟩ := h
  rw [sumL_append]
  have := sumL_nonneg (l := t) (fun x hx => hb x (List.mem_append_right _ hx))
  omega
/-- What is left of the data, and the memory's length, behind some parts. -/
theorem scat_rest (ms ds : List Value) : ∀ (xs : List (Int × Int)), (∀ x ∈ xs, 0 ≤ x.2) → (scat (ms, ds) xs).2 = ds.drop (sumL xs).toNat := by
  have key : ∀ (xs : List (Int × Int)) (ms ds : List Value), (∀ x ∈ xs, 0 ≤ x.2) → (xs.foldl scatS (ms, ds)).2 = ds.drop (sumL xs).toNat := by
    intro xs
    induction xs with
    | nil => intro ms ds _; simp [sumL]
    | cons x r ih =>
      intro ms ds h
      have h0 := h x List.mem_cons_self
      have hr : ∀ y ∈ r, 0 ≤ y.2 := fun y hy => h y (List.mem_cons_of_mem _ hy)
      have hs : 0 ≤ sumL r := by
        clear ih h
        induction r with
        | nil => simp [sumL]
        | cons y t iht => have := iht (fun z hz => hr z (List.mem_cons_of_mem _ hz)); have := hr y List.mem_cons_self; simp only [sumL]; omega
      simp only [List.foldl_cons, scatS]
      rw [ih _ _ hr, List.drop_drop]
      congr 1
      simp only [sumL]; omega
  exact fun xs h => key xs ms ds h

theorem Turn.row {s bn bo : Nat} {W W' : World} {base : Nat} {e : TypeId} {size : Nat} {v : Value} {k : Nat} {xs : List Value} (t : Turn s bn bo W W') (h : W.ownsRow base e size v k xs) (h1 : ∀ j, v.ownBlock = some j → j ≠ bn ∧ j ≠ bo) : W'.ownsRow base e size v k xs := by
  refine ⟨h.1, ?_⟩
  rcases h.2 with h0 | ⟨g, cap, cur, rfl, hb, hc, hr⟩
  · exact .inl h0
  · have := h1 g rfl
    exact .inr ⟨g, cap, cur, rfl, hb, t.cells hc this.1 this.2, hr⟩
theorem Turn.grown {s bn bo : Nat} {w W W' : World} {row : Option Nat} (t : Turn s bn bo W W') (h : w.grownBy W row) (h1 : w.heap.size ≤ bn) (h2 : w.heap.size ≤ bo) (h3 : w.heap.size ≤ s) : w.grownBy W' row := by
  refine ⟨t.os.trans h.os, t.tape.trans h.tape, t.output.trans h.output, Nat.le_trans h.size t.size, fun k hk hne => ?_⟩
  have hlt : k < W.heap.size := Nat.lt_of_lt_of_le hk h.size
  rw [← h.block k hk hne, Array.getElem?_eq_getElem hlt]
  exact t.block k _ (Array.getElem?_eq_getElem hlt) (by omega) (by omega) (.inl (by omega))
theorem Turn.mem {s bn bo : Nat} {W W' : World} {M : Option Addr} {ds : List Value} (t : Turn s bn bo W W') (h : Mem W M ds) (h1 : ∀ ad, M = some ad → ad.block < s ∧ ad.block ≠ bn ∧ ad.block ≠ bo) : Mem W' M ds :=
  ⟨fun j u hj => by
    obtain ⟨ad, e, hlt, hc⟩ := h.cell j u hj
    obtain ⟨a1, a2, a3⟩ := h1 ad e
    refine ⟨ad, e, Nat.lt_of_lt_of_le hlt t.size, ?_⟩
    have hk := t.block ad.block _ (Array.getElem?_eq_getElem hlt) a2 a3 (.inl a1)
    rw [World.cell?_of_block (w := W) (show W'.heap[(ad.add j).block]? = _ by rw [add_block, hk, Array.getElem?_eq_getElem hlt])]
    exact hc, h.one⟩
theorem own_frozen' {w : World} {base : Nat} {e : TypeId} {size n g cap : Nat} {xs : List Value} (h : w.ownsRow base e size (.slice (some ⟨g, 0, none⟩) n cap) n xs) (j : Nat) : w.frozen? ⟨g, j, none⟩ = false := by
  rcases h.2 with ⟨h2, _⟩ | ⟨g', cap', cur, he, _, hh, _⟩
  · cases h2
  · injection he with ha _ _
    injection ha with ha
    injection ha with hg
    subst hg
    simp [World.frozen?, hh]
theorem keeps_setCells (g : Nat) : ∀ (vs : List Value) (o : Nat) (W : World), KeepsOthers W (W.setCells g o vs)
  | [], _, W => KeepsOthers.refl W
  | v :: r, o, W => (KeepsOthers.setCell W ⟨g, o, none⟩ v).trans (keeps_setCells g r (o + 1) _)
/-- A piece of an own row is written. -/
theorem own_setCells {w : World} {base : Nat} {e : TypeId} {n g cap p : Nat} {xs vs : List Value} (h : w.ownsRow base e 1 (.slice (some ⟨g, 0, none⟩) n cap) n xs) (hp : p + vs.length ≤ n) :
    (w.setCells g p vs).ownsRow base e 1 (.slice (some ⟨g, 0, none⟩) n cap) n (wr xs p vs) := by
  obtain ⟨h1, h2⟩ := h
  rw [Nat.mul_one] at h1
  refine ⟨by rw [wr_length (by omega), Nat.mul_one]; exact h1, ?_⟩
  rcases h2 with ⟨h2, _⟩ | ⟨g', cap', cur, he, hb, hh, hn, hm, hs, ht⟩
  · cases h2
  · injection he with ha _ hc
    injection ha with ha
    injection ha with hg
    subst hg; subst hc
    rw [Nat.mul_one] at hs ht
    obtain ⟨cur', k1, k2, k3⟩ := setCells_row vs p w cur hh (by omega)
    refine .inr ⟨g, cap, cur', rfl, hb, k1, hn, hm, by rw [k2]; omega, ?_⟩
    rw [k3, Nat.mul_one, wr, ← ht, List.take_take, Nat.min_eq_left (by omega), List.append_assoc, List.append_assoc]
    have hl : cur.toList.length = cap := by simpa using hs
    rw [List.take_append, List.take_of_length_le (by simp; omega)]
    congr 1
    rw [List.length_take, hl, Nat.min_eq_left (by omega), List.take_append, List.take_of_length_le (by omega)]
    congr 1
    rw [List.drop_take]
    congr 1
    omega
end Go.Proofs.Ytbojagkalbfenaa
namespace Go.Proofs.Ytbojagkalbfenaa
set_option linter.unusedVariables false
set_option linter.unusedSimpArgs false
open Go.RowKit PIovGather Go.Proofs.YtbojagkalbfenaaW.PrintWords
attribute [local go_sem] Oper.semAt_some ints_get ints_size ints_getElem

theorem results_none {fn : Func} (h : fn.results = #[]) (tmps : Array Value) (P : Program) (w : World) : (results fn tmps).run P w = .ok (.tuple #[]) w := by
  simp [results, h]
/-- A memory that may be written: an own row (its block: row), or an empty slice, wherever it lies (row: none). -/
def MRow (W : World) (base : Nat) (row : Option Nat) (v : Value) (n : Nat) (ms : List Value) : Prop := (n = 0 ∧ row = none ∧ ms = []) ∨ (row = v.ownBlock ∧ W.ownsRow base 5 1 v n ms)
theorem MRow.length {W : World} {base : Nat} {row : Option Nat} {v : Value} {n : Nat} {ms : List Value} (h : MRow W base row v n ms) : ms.length = n := by
  rcases h with ⟨h1, _, rfl⟩ | ⟨_, h2⟩
  · simp [h1]
  · have := h2.1; omega
theorem MRow.move {W W' : World} {base : Nat} {row : Option Nat} {v : Value} {n : Nat} {ms : List Value} (h : MRow W base row v n ms) (hm : ∀ k, row = some k → W'.heap[k]? = W.heap[k]?) : MRow W' base row v n ms := by
  rcases h with h | ⟨h1, h2⟩
  · exact .inl h
  · exact .inr ⟨h1, own_move h2 (fun k hk => hm k (h1.trans hk))⟩
theorem MRow.lt {W : World} {base : Nat} {row : Option Nat} {v : Value} {n : Nat} {ms : List Value} (h : MRow W base row v n ms) : ∀ k, row = some k → k < W.heap.size := by
  intro k hk
  rcases h with ⟨_, h, _⟩ | ⟨h1, h2⟩
  · rw [h] at hk; cases hk
  · exact own_lt' h2 k (h1 ▸ hk)
/-- What holds between the parts of scatter: the memory's row, what is left of the data. -/
structure Scat (w : World) (B base n : Nat) (row : Option Nat) (v : Value) (ms ds : List Value) (W : World) : Prop where
  grown : w.grownBy W row
  box : Boxed W B 22 v
  mem : MRow W base row v n ms
  data : ∃ D c, Boxed W (B + 1) 22 (.slice D ds.length c) ∧ Mem W D ds ∧ ds.length ≤ c ∧ c ≤ 9223372036854775807 ∧ ∀ ad, D = some ad → ad.block < w.heap.size ∧ some ad.block ≠ row
theorem Scat.turn {w : World} {B base n : Nat} {row : Option Nat} {v : Value} {ms ds : List Value} {s bn bo : Nat} {W W' : World} (h : Scat w B base n row v ms ds W) (t : Turn s bn bo W W') (h1 : w.heap.size ≤ B) (h2 : B + 1 < bn) (h3 : B + 1 < bo) (h4 : B + 1 < s) (hv : ∀ j, row = some j → j < w.heap.size) : Scat w B base n row v ms ds W' := by
  obtain ⟨a1, a2, a3, D, c, a4, a5, a6, a7, a8⟩ := h
  refine ⟨t.grown a1 (by omega) (by omega) (by omega), t.boxed a2 (by omega) (by omega), a3.move (fun k hk => ?_), D, c, t.boxed a4 (by omega) (by omega), t.mem a5 (fun ad e => by have := (a8 ad e).1; omega), a6, a7, a8⟩
  have hlt := a3.lt k hk
  have := hv k hk
  rw [Array.getElem?_eq_getElem hlt]
  exact t.block k _ (Array.getElem?_eq_getElem hlt) (by omega) (by omega) (.inl (by omega))
theorem Scat.below {w : World} {B base n : Nat} {row : Option Nat} {v : Value} {ms ds : List Value} {W W' : World} (h : Scat w B base n row v ms ds W) (hb : Below W.heap.size W W') : Scat w B base n row v ms ds W' := by
  obtain ⟨a1, a2, a3, D, c, a4, a5, a6, a7, a8⟩ := h
  refine ⟨⟨hb.os.trans a1.os, hb.tape.trans a1.tape, hb.output.trans a1.output, Nat.le_trans a1.size hb.size, fun k hk hne => (hb.block k (Nat.lt_of_lt_of_le hk a1.size)).trans (a1.block k hk hne)⟩, (hb.block _ a2.lt).trans a2, a3.move (fun k hk => hb.block k (a3.lt k hk)), D, c, (hb.block _ a4.lt).trans a4, a5.below hb, a6, a7, a8⟩
theorem Scat.alloc {w : World} {B base n : Nat} {row : Option Nat} {v : Value} {ms ds : List Value} {W : World} (h : Scat w B base n row v ms ds W) (o : Obj) : Scat w B base n row v ms ds (W.alloc o) := h.below ((Below.refl _ _).alloc (Nat.le_refl _) _)
theorem grownBy_trans_keep {w W W' : World} {row : Option Nat} (h : w.grownBy W row) (h1 : W'.os = W.os) (h2 : W'.tape = W.tape) (h3 : W'.output = W.output) (h4 : W.heap.size ≤ W'.heap.size) (h5 : ∀ k, k < w.heap.size → some k ≠ row → W'.heap[k]? = W.heap[k]?) : w.grownBy W' row :=
  ⟨h1.trans h.os, h2.trans h.tape, h3.trans h.output, Nat.le_trans h.size h4, fun k hk hne => (h5 k hk hne).trans (h.block k hk hne)⟩
theorem mem_drop {W : World} {M : Addr} {ds : List Value} (h : Mem W (some M) ds) (k : Nat) : Mem W (some (M.add k)) (ds.drop k) :=
  ⟨fun j u hj => by
    rw [List.getElem?_drop] at hj
    obtain ⟨ad, e, hlt, hc⟩ := h.cell _ _ hj
    cases e
    exact ⟨_, rfl, by rw [add_block]; exact hlt, by rw [add_plus]; exact hc⟩, fun u hu => h.one u (List.mem_of_mem_drop hu)⟩
theorem mem_nil {W : World} {M : Option Addr} {ds : List Value} (h : ds = []) : Mem W M ds := by
  subst h
  exact ⟨fun j u hj => by simp at hj, fun u hu => by simp at hu⟩

set_option maxHeartbeats 2000000 in
set_option maxRecDepth 100000 in
theorem scatter_in (A : Option Addr) (cap : Nat) (cs : List (Int × Int)) (off : Int) (V : Option Addr) (vc base n : Nat) (row : Option Nat) (ms : List Value) (D : Option Addr) (dcap : Nat) (ds : List Value) (w : World)
    (hown : MRow w base row (.slice V n vc) n ms) (hmem : Mem w D ds) (hdc : ds.length ≤ dcap) (hdm : dcap ≤ 9223372036854775807) (hD : ∀ ad, D = some ad → ad.block < w.heap.size ∧ some ad.block ≠ row)
    (hp : Pairs w A cs) (hA : ∀ ad, A = some ad → ad.block < w.heap.size ∧ some ad.block ≠ row) (hok : okP cs) (hoff : 0 ≤ off ∧ off ≤ 1099511627776) (hdl : ds.length ≤ 1099511627776) (hlen : cs.length ≤ 16) (hin : insideB n (slicedL cs off ds.length) = true) :
    CallsIn Fence.wide 5 Try.prog 41 #[.slice V n vc, .slice A cs.length cap, .int .i64 off, .slice D ds.length dcap] w fun e w' => e = .returned (.tuple #[]) ∧ MRow w' base row (.slice V n vc) n (scat (ms, ds) (slicedL cs off ds.length)).1 ∧ w.grownBy w' row := by
  have HP := Lib.hid hp
  have HA := Lib.hid hA
  have HD := Lib.hid hD
  have HOK := Lib.hid hok
  have HIN := Lib.hid hin
  have HM := Lib.hid hmem
  have HO := Lib.hid hown
  have HV : Hid (∀ j, row = some j → j < w.heap.size) := Lib.hid hown.lt
  clear hp hA hD hok hin hmem hown
  refine callsIn_of_wp_marks Try.func41 rfl trivial ?_ rfl
  simp only [Try.ntmps41, List.size_toArray, List.length_cons, List.length_nil, Nat.reduceAdd, Nat.reduceSub, Array.replicate_succ, Array.replicate_zero, List.push_toArray, List.append_toArray, List.nil_append, List.cons_append]
  gi_wp2_with (refine ⟨trivial, ?_⟩; gi_at_call 40; refine (callsIn_wide.2 (sliced_calls _ _ _ _ _ _)).mono ?_; rintro e w' ⟨rfl, rfl⟩)
  obtain ⟨W0, hW0⟩ : ∃ W0, (w.alloc (.cells #[.slice V n vc] 22)).alloc (.cells #[.slice D ds.length dcap] 22) = W0 := ⟨_, rfl⟩
  have hs0 : w.heap.size + 1 + 1 = W0.heap.size := by rw [← hW0]; simp
  have hb0 : Below w.heap.size w W0 := by rw [← hW0]; exact ((Below.refl _ _).alloc (Nat.le_refl _) _).alloc (by simp) _
  have hst : Scat w w.heap.size base n row (.slice V n vc) ms ds W0 := by
    rw [← hW0]
    refine ⟨by rw [hW0]; exact grown_of_below' hb0 _, (Boxed.new w 22 _).alloc _, by rw [hW0]; exact HO.out.move (fun k hk => hb0.block k (HV.out k hk)), D, dcap, ?_, by rw [hW0]; exact HM.out.below hb0, hdc, hdm, HD.out⟩
    have := Boxed.new (w.alloc (.cells #[.slice V n vc] 22)) 22 (.slice D ds.length dcap)
    simpa using this
  rw [hW0, hs0]
  have hbs := slW_below W0 A cs.length cap off ds.length
  have hsum : ∀ pre x, pre ++ [x] <+: slicedL cs off ds.length → sumL pre + x.2 ≤ ds.length ∧ (∀ y ∈ pre, 0 ≤ y.2) := fun pre x hal => by
    have hall : ∀ y ∈ slicedL cs off ds.length, 1 ≤ y.2 := fun y hy => (slicedL_mem HOK.out hoff.1 y hy).2.1
    have h1 := sumL_prefix hal hall
    have h2 := sumL_slicedL cs off ds.length (by omega)
    rw [sumL_append] at h1
    simp only [sumL] at h1
    exact ⟨by omega, fun y hy => by have := hall y (hal.subset (List.mem_append_left _ hy)); omega⟩
  have HSUM := Lib.hid hsum
  clear hsum
  refine range_sliced A cap cs off ds.length W0 (HP.out.below hb0) (fun ad e => by have := (HA.out ad e).1; omega) HOK.out hoff (by omega) hlen rfl rfl
    (fun pre W => Scat w w.heap.size base n row (.slice V n vc) (scat (ms, ds) pre).1 (scat (ms, ds) pre).2 W)
    (fun c pre W => False)
    (fun pre x a₁ W => Scat w w.heap.size base n row (.slice V n vc) (scat (ms, ds) pre).1 (scat (ms, ds) pre).2 W ∧ ∃ b, W0.heap.size + 3 ≤ b ∧ W.heap[b]? = some (.cells #[.int .i64 x.1, .int .i64 x.2] 44 (0, 0)) ∧
      a₁ = { tmps := #[.slice V n vc, .slice A cs.length cap, .int .i64 off, .slice D ds.length dcap, .pointer (some ⟨w.heap.size, 0, none⟩), undef, undef, .pointer (some ⟨w.heap.size + 1, 0, none⟩), .pointer (some ⟨b, 0, none⟩), .slice A cs.length cap, .int .i64 off, .slice D ds.length dcap, .int .i64 ds.length, .func (.func 43) #[] #[.pointer (some ⟨W0.heap.size, 0, none⟩), .pointer (some ⟨W0.heap.size + 2, 0, none⟩), .pointer (some ⟨W0.heap.size + 1, 0, none⟩)], .agg #[.int .i64 x.1, .int .i64 x.2], undef, undef, undef, undef, undef, undef, undef, undef, undef, undef, undef, undef, undef, undef, undef], defers := [] })
    (fun pre W W' h t => h.turn t (Nat.le_refl _) (by omega) (by omega) (by omega) HV.out) (fun c pre W W' h t => h) ?tA ?start ?assign ?body ?done ?stop
  case tA =>
    rintro pre x a₁ W W' ⟨h, b, h5, h6, h7⟩ t
    exact ⟨h.turn t (Nat.le_refl _) (by omega) (by omega) (by omega) HV.out, b, h5, t.cells h6 (by omega) (by omega), h7⟩
  case start => exact hst.below hbs
  case assign =>
    intro l pre x W K hI hsz hK
    gi_wp2
    refine hK _ _ (KeepsOthers.alloc _ _) ((Below.refl _ _).alloc (Nat.le_refl _) _) ⟨hI.alloc _, _, hsz, heap_alloc_new _ _, rfl⟩
  case body =>
    rintro l pre ⟨x1, x2⟩ a₁ W hal ⟨hx0, hx1⟩ ⟨hy0, hy1⟩ hsz ⟨hI, b, hb, hcell, rfl⟩
    have hc0 : W.cell? ⟨b, 0, none⟩ = some (.int .i64 x1) := by rw [cell_of_row _ _ _ _ _ _ hcell]; rfl
    have hc1 : W.cell? ⟨b, 1, none⟩ = some (.int .i64 x2) := by rw [cell_of_row _ _ _ _ _ _ hcell]; rfl
    simp only at hx0 hx1 hy0 hy1
    have hsn := HSUM.out pre _ hal
    have hrl : (scat (ms, ds) pre).2.length = ds.length - (sumL pre).toNat := by rw [scat_rest ms ds pre hsn.2, List.length_drop]
    have hs0' : 0 ≤ sumL pre := sumL_nonneg (fun y hy => (slicedL_mem HOK.out hoff.1 y (hal.subset (List.mem_append_left _ hy))).2.1)
    have hsn1 := hsn.1
    simp only at hsn1
    have hle : x1 + x2 ≤ n := by
      have : insideB n (pre ++ [(x1, x2)]) = true := by
        obtain ⟨q, hq⟩ := hal
        have h := HIN.out
        rw [← hq] at h
        simp only [insideB, List.all_append, Bool.and_eq_true] at h
        simp only [insideB, List.all_append, Bool.and_eq_true]
        exact h.1
      rw [insideB_snoc, Bool.and_eq_true] at this
      simpa using this.2
    have hsc : scat (ms, ds) (pre ++ [(x1, x2)]) = scatS (scat (ms, ds) pre) (x1, x2) := scat_snoc _ _ _
    generalize scat (ms, ds) pre = sc at hI hrl hsc
    obtain ⟨m1, r1⟩ := sc
    simp only [scatS] at hI hrl hsc
    obtain ⟨a1, a2, a3o, D', c', a4, a5, a6, a7, a8⟩ := hI
    obtain ⟨ad, rfl⟩ : ∃ ad, D' = some ad := by
      obtain ⟨ad, h, _⟩ := a5.cell 0 r1[0] (List.getElem?_eq_getElem (by omega))
      exact ⟨ad, h⟩
    obtain ⟨hrw, a3⟩ : row = (Value.slice V n vc).ownBlock ∧ W.ownsRow base 5 1 (.slice V n vc) n m1 := by
      rcases a3o with ⟨h, _⟩ | h
      · omega
      · exact h
    clear a3o
    obtain ⟨g, vc', hv⟩ := ownsRow_pos a3 (by omega)
    injection hv with hV _ hvc
    subst hV; subst hvc
    obtain rfl : row = some g := hrw
    have hvn : n ≤ vc ∧ vc ≤ 9223372036854775807 := by
      rcases a3.2 with ⟨h, _⟩ | ⟨_, _, _, h, _, _, h1, h2, _⟩
      · cases h
      · injection h with _ _ h3
        subst h3
        simp only [maxLen] at h2
        exact ⟨h1, h2⟩
    have hcv := a2.cell
    have hcd := a4.cell
    have hfd := a4.frozen
    have hwr : IntKind.i64.wrap (x1 + x2) = x1 + x2 := by rw [IntKind.wrap_i64]; omega
    have hne : ¬ vc = x1.toNat := by omega
    have h0s : 0 ≤ x1 + x2 := by omega
    have h1s : x1 ≤ max (x1 + x2) 0 := by omega
    have hcap : x1 + x2 ≤ vc := by omega
    have hgl : g < w.heap.size := HV.out g rfl
    have HI := Lib.hid (And.intro a1 (And.intro a2 (And.intro a3 (And.intro a4 (And.intro a5 a8)))))
    have HSC := Lib.hid hsc
    have hx2r : x2 ≤ (r1.length : Int) := by omega
    have hx2n : x2.toNat ≤ r1.length := by omega
    clear a1 a2 a3 a4 a5 a8 hsc hrl hsn hsn1
    gi_wp2
    refine wpIn_round_still_tail 10 (by rintro ⟨a, w, h⟩; exact h) (by kernel_rfl) (by kernel_rfl) (by kernel_rfl) ?_
    simp only [List.take_succ_cons, List.take_zero, List.drop_succ_cons, List.drop_zero]
    iterate 10 ((with_reducible refine wpStill_step (fun K hK => ?_)); have HK := Lib.hid hK; clear hK; go_simp; (with_reducible refine HK.out _ ?_); clear HK K)
    (with_reducible refine wpStill_nil ?_)
    refine wpList_copy_cells rfl (.tmp 23) (.tmp 24) 22 22 rfl 5 Try.underlying22 (by kernel_rfl) g x1.toNat _ _ ad _ _ rfl rfl (r1.take x2.toNat) ?hn ?src ?hc ?hf ?one ?_
    case hn => rw [List.length_take, Nat.min_comm]; show min _ _ = min _ _; omega
    case src =>
      intro j u hj
      have hj' : r1[j]? = some u := by
        rw [List.getElem?_take] at hj
        split at hj
        · exact hj
        · cases hj
      obtain ⟨ad', e, _, h⟩ := HI.out.2.2.2.2.1.cell _ _ hj'
      cases e
      exact h
    case hc =>
      intro j hj
      have hm1 : m1.length = n := by have := HI.out.2.2.1.1; omega
      have hj2 : x1.toNat + j < m1.length := by simp only [List.length_take] at hj; omega
      have := HI.out.2.2.1.cells (g := g) rfl _ _ (List.getElem?_eq_getElem hj2)
      rw [add_at, Nat.zero_add] at this
      exact Option.isSome_iff_exists.2 ⟨_, this⟩
    case hf => exact fun j _ => own_frozen' HI.out.2.2.1 _
    case one => exact fun u hu => HI.out.2.2.2.2.1.one u (List.mem_of_mem_take hu)
    have hsame := setCells_same g (r1.take x2.toNat) x1.toNat W.drew
    have hfar0 : ∀ j, j ≠ g → (W.drew.setCells g x1.toNat (r1.take x2.toNat)).heap[j]? = W.heap[j]? := fun j hj => setCells_far (r1.take x2.toNat) x1.toNat (w := W.drew) j hj
    have hkp : KeepsOthers W (W.drew.setCells g x1.toNat (r1.take x2.toNat)) := (KeepsOthers.drew W).trans (keeps_setCells g _ _ W.drew)
    have hrow1 : (W.drew.setCells g x1.toNat (r1.take x2.toNat)).ownsRow base 5 1 (.slice (some ⟨g, 0, none⟩) n vc) n (wr m1 x1.toNat (r1.take x2.toNat)) := own_setCells (w := W.drew) HI.out.2.2.1 (by simp only [List.length_take]; omega)
    show wpList _ _ _ _ _ (W.drew.setCells g x1.toNat (r1.take x2.toNat))
    generalize W.drew.setCells g x1.toNat (r1.take x2.toNat) = W1 at hsame hfar0 hkp hrow1 ⊢
    have hbx : Boxed W1 (w.heap.size + 1) 22 (.slice (some ad) r1.length c') := (hfar0 _ (by omega)).trans HI.out.2.2.2.1
    have hcd1 := hbx.cell
    have hfd1 := hbx.frozen
    have hcell1 : W1.heap[b]? = some (.cells #[.int .i64 x1, .int .i64 x2] 44 (0, 0)) := (hfar0 _ (by omega)).trans hcell
    have hc01 : W1.cell? ⟨b, 0, none⟩ = some (.int .i64 x1) := by rw [cell_of_row _ _ _ _ _ _ hcell1]; rfl
    have hc11 : W1.cell? ⟨b, 1, none⟩ = some (.int .i64 x2) := by rw [cell_of_row _ _ _ _ _ _ hcell1]; rfl
    have HFAR := Lib.hid (And.intro hfar0 (And.intro hsame (And.intro hkp (And.intro hrow1 hbx))))
    clear hfar0 hsame hkp hrow1 hbx hc0 hc1 hcell hcv hcd hfd hcell1
    go_wp2
    refine wpIn_round_plain (by rintro ⟨a, w, h⟩; exact h) (by kernel_rfl) ?_
    have hmem1 : Mem W1 (some ad) r1 := by
      have hne : ad.block ≠ g := fun e => (HI.out.2.2.2.2.2 ad rfl).2 (by rw [e])
      refine ⟨fun j u hj => ?_, HI.out.2.2.2.2.1.one⟩
      obtain ⟨ad', e, hlt, hc⟩ := HI.out.2.2.2.2.1.cell j u hj
      cases e
      refine ⟨ad, rfl, by rw [HFAR.out.2.1.2.2.2]; exact hlt, ?_⟩
      rw [World.cell?_of_block (w := W) (show W1.heap[(ad.add j).block]? = _ by rw [add_block]; exact HFAR.out.1 _ hne)]
      exact hc
    have fin : ∀ (D2 : Option Addr) (c2 : Nat), Mem W1 D2 (r1.drop x2.toNat) → r1.length - x2.toNat ≤ c2 → c2 ≤ 9223372036854775807 → (∀ ad', D2 = some ad' → ad'.block < w.heap.size ∧ some ad'.block ≠ some g) →
        KeepsOthers W (W1.setCell ⟨w.heap.size + 1, 0, none⟩ (.slice D2 (r1.length - x2.toNat) c2)) ∧ KeepS W0.heap.size (W0.heap.size + 2) (W0.heap.size + 1) A W (W1.setCell ⟨w.heap.size + 1, 0, none⟩ (.slice D2 (r1.length - x2.toNat) c2)) ∧
        Scat w w.heap.size base n (some g) (.slice (some ⟨g, 0, none⟩) n vc) (wr m1 x1.toNat (r1.take x2.toNat)) (r1.drop x2.toNat) (W1.setCell ⟨w.heap.size + 1, 0, none⟩ (.slice D2 (r1.length - x2.toNat) c2)) := by
      intro D2 c2 hm hc2 hcm hD2
      obtain ⟨far, ⟨so, st, su, sz⟩, kp, row, bx⟩ := HFAR.out
      have hset : ∀ k, k ≠ w.heap.size + 1 → (W1.setCell ⟨w.heap.size + 1, 0, none⟩ (.slice D2 (r1.length - x2.toNat) c2)).heap[k]? = W1.heap[k]? := fun k hk => Below.heap_setCell W1 ⟨w.heap.size + 1, 0, none⟩ _ k hk
      have hall : ∀ k, k ≠ w.heap.size + 1 → k ≠ g → (W1.setCell ⟨w.heap.size + 1, 0, none⟩ (.slice D2 (r1.length - x2.toNat) c2)).heap[k]? = W.heap[k]? := fun k h1 h2 => (hset k h1).trans (far k h2)
      refine ⟨kp.trans (KeepsOthers.setCell _ _ _), ⟨?_, hall _ (by omega) (by omega), hall _ (by omega) (by omega), hall _ (by omega) (by omega), fun ad' e => hall _ (by have := (HA.out ad' e).1; omega) (fun e' => (HA.out ad' e).2 (by rw [e']))⟩, ?_, ?_, ?_, D2, c2, ?_, ?_, ?_, hcm, hD2⟩
      · show _ ≤ (W1.setCell _ _).heap.size; rw [World.size_setCell, sz]; exact Nat.le_refl _
      · exact grownBy_trans_keep HI.out.1 so st su (by rw [World.size_setCell, sz]; exact Nat.le_refl _) (fun k hk hne => hall k (by omega) (fun e => hne (by rw [e])))
      · exact (hall _ (by omega) (by omega)).trans HI.out.2.1
      · exact .inr ⟨rfl, own_move row (fun k hk => hset k (by simp [Value.ownBlock] at hk; omega))⟩
      · rw [List.length_drop]; exact bx.set _
      · refine ⟨fun j u hj => ?_, hm.one⟩
        obtain ⟨ad', e, hlt, hc⟩ := hm.cell j u hj
        refine ⟨ad', e, by simpa [World.setCell] using hlt, ?_⟩
        rw [World.cell?_of_block (w := W1) (show _ = W1.heap[(ad'.add j).block]? by rw [add_block]; exact hset _ (by have := (hD2 ad' e).1; omega))]
        exact hc
      · rw [List.length_drop]; exact hc2
    have FIN := Lib.hid fin
    clear fin
    by_cases hcc : c' = x2.toNat
    · go_wp2
      obtain ⟨f1, f2, f3⟩ := FIN.out (some ad) 0 (mem_nil (List.drop_eq_nil_of_le (by omega))) (by omega) (by omega) (fun ad' e => by cases e; exact HI.out.2.2.2.2.2 ad rfl)
      exact ⟨f1, f2, by show Scat _ _ _ _ _ _ (scat (ms, ds) (pre ++ [(x1, x2)])).1 (scat (ms, ds) (pre ++ [(x1, x2)])).2 _; rw [HSC.out]; exact f3⟩
    · go_wp2
      obtain ⟨f1, f2, f3⟩ := FIN.out (some (ad.add x2.toNat)) (c' - x2.toNat) (mem_drop hmem1 x2.toNat) (by omega) (by omega) (fun ad' e => by cases e; rw [add_block]; exact HI.out.2.2.2.2.2 ad rfl)
      exact ⟨f1, f2, by show Scat _ _ _ _ _ _ (scat (ms, ds) (pre ++ [(x1, x2)])).1 (scat (ms, ds) (pre ++ [(x1, x2)])).2 _; rw [HSC.out]; exact f3⟩
  case done =>
    rintro D1 W hD1 h hK
    gi_wp2
    refine ⟨by simp, .inl ⟨_, _, rfl, run_takeDeferred hK, ?_⟩⟩
    refine ⟨_, results_none rfl _ _ _, rfl, h.mem.move (fun k hk => World.putObj_heap_other (by have := HV.out k hk; omega)), grownBy_trans_keep h.grown rfl rfl rfl (by simp [World.putObj]) (fun k hk _ => World.putObj_heap_other (by omega))⟩
  case stop =>
    intro D c pre W hD hpre h
    exact h.elim
end Go.Proofs.Ytbojagkalbfenaa
namespace Go.Proofs.Ytbojagkalbfenaa
set_option linter.unusedVariables false
set_option linter.unusedSimpArgs false
open Go.RowKit PIovGather Go.Proofs.YtbojagkalbfenaaW.PrintWords Go.Proofs.YtbojagkalbfenaaW.PrintMore
attribute [local go_sem] ints_get ints_size ints_getElem min2_int min_two

/-- The number of bytes that Scatter writes; its error; the memory behind it. -/
def sN (l : List S44) (off : Int) (dl : Nat) : Int := if sumL (prs l) - off < (dl : Int) then sumL (prs l) - off else (dl : Int)
def scode (nm dl : Nat) (l : List S44) (off : Int) : Int := if wth (prs l) off 0 = 0 then (if insideB nm (slicedL (prs l) off (sN l off dl)) = true then 0 else 11) else wth (prs l) off 0
def snum (nm dl : Nat) (l : List S44) (off : Int) : Int := if scode nm dl l off = 0 then sN l off dl else 0
def smem (ms ds : List Value) (l : List S44) (off : Int) : List Value := if scode ms.length ds.length l off = 0 then (scat (ms, ds.take (sN l off ds.length).toNat) (slicedL (prs l) off (sN l off ds.length))).1 else ms
theorem mem_take {W : World} {M : Option Addr} {ds : List Value} (h : Mem W M ds) (k : Nat) : Mem W M (ds.take k) :=
  ⟨fun j u hj => h.cell j u (by
    rw [List.getElem?_take] at hj
    split at hj
    · exact hj
    · cases hj), fun u hu => h.one u (List.mem_of_mem_take hu)⟩
theorem grownBy_below {w w1 w2 : World} {row : Option Nat} (hb : Below w.heap.size w w1) (hg : w1.grownBy w2 row) : w.grownBy w2 row :=
  ⟨hg.os.trans hb.os, hg.tape.trans hb.tape, hg.output.trans hb.output, Nat.le_trans hb.size hg.size, fun k hk hne => (hg.block k (Nat.lt_of_lt_of_le hk hb.size) hne).trans (hb.block k hk)⟩
theorem grownBy_of_below {w w1 : World} (row : Option Nat) (hb : Below w.heap.size w w1) : w.grownBy w1 row := grown_of_below' hb row

set_option maxHeartbeats 1000000 in
set_option maxRecDepth 100000 in
theorem scatterF (A : Option Addr) (cap : Nat) (l : List S44) (off : Int) (V : Option Addr) (vc base n : Nat) (row : Option Nat) (ms : List Value) (D : Option Addr) (dcap : Nat) (ds : List Value) (P0 : Nat → Prop) (w : World)
    (hrow : MRow w base row (.slice V n vc) n ms) (hmem : Mem w D ds) (hdc : ds.length ≤ dcap) (hdm : dcap ≤ 9223372036854775807) (hD : ∀ ad, D = some ad → ad.block < w.heap.size ∧ some ad.block ≠ row)
    (hV : Kd.V k44 44 w w.heap.size P0 (.slice A l.length cap) l) (hA : ∀ ad, A = some ad → ad.block < w.heap.size ∧ some ad.block ≠ row) (hdl : ds.length ≤ 1099511627776) (hn : n ≤ 9223372036854775807) :
    Calls Try.prog 26 #[.slice V n vc, .slice A l.length cap, .int .i64 off, .slice D ds.length dcap] w fun e w' => e = .returned (.tuple #[.int .i64 (snum n ds.length l off), .int .i64 (scode n ds.length l off)]) ∧ MRow w' base row (.slice V n vc) n (smem ms ds l off) ∧ w.grownBy w' row := by
  have hml := hrow.length
  have hcap := (Kd.V_reads' hV).2.1
  have HV := Lib.hid hV
  have HL := Lib.hid (Kd.V_reads' hV).2.2
  have HP := Lib.hid (pairs_of_C (Kd.V_reads' hV).2.2)
  have HA := Lib.hid hA
  have HD := Lib.hid hD
  have HM := Lib.hid hmem
  have HR := Lib.hid hrow
  clear hV hA hD hmem hrow
  go_enter Try.func26, Try.ntmps26
  by_cases hw : wth (prs l) off 0 = 0
  · obtain ⟨h1, h2, h3, h4, h5, h6, h7⟩ := wth_zero hw
    have h2' : l.length ≤ 16 := by rwa [prs_length] at h2
    have hwr : IntKind.i64.wrap (sumL (prs l) - off) = sumL (prs l) - off := by rw [IntKind.wrap_i64]; omega
    have hN0 : 0 ≤ sN l off ds.length := by unfold sN; split <;> omega
    have hN1 : sN l off ds.length ≤ ds.length := by unfold sN; split <;> omega
    have hN : (if sumL (prs l) - off < (ds.length : Int) then sumL (prs l) - off else (ds.length : Int)) = sN l off ds.length := rfl
    have HN := Lib.hid hN
    have hN2 : sN l off ds.length ≤ sumL (prs l) - off := by unfold sN; split <;> omega
    clear hN
    by_cases hin : insideB n (slicedL (prs l) off (sN l off ds.length)) = true
    · have hc : scode n ds.length l off = 0 := by unfold scode; rw [if_pos hw, if_pos hin]
      have hs : snum n ds.length l off = sN l off ds.length := if_pos hc
      have hm : smem ms ds l off = (scat (ms, ds.take (sN l off ds.length).toNat) (slicedL (prs l) off (sN l off ds.length))).1 := by unfold smem; rw [hml, if_pos hc]
      rw [hc, hs, hm]
      generalize sN l off ds.length = NN at *
      have hlt : (ds.take NN.toNat).length = NN.toNat := by rw [List.length_take]; omega
      have hw3 : wth (prs l) off NN = 0 := by
        unfold wth at hw ⊢
        split at hw
        · rename_i hck
          rw [if_pos hck, if_neg (by omega)]
        · rename_i hck
          exact absurd hw hck
      have h41 : ∀ W, Below w.heap.size w W → Calls Try.prog 41 #[.slice V n vc, .slice A l.length cap, .int .i64 off, .slice D NN.toNat dcap] W fun e w' => e = .returned (.tuple #[]) ∧ MRow w' base row (.slice V n vc) n (scat (ms, ds.take NN.toNat) (slicedL (prs l) off NN)).1 ∧ W.grownBy w' row := fun W hb => by
        have := callsIn_wide.1 (scatter_in A cap (prs l) off V vc base n row ms D dcap (ds.take NN.toNat) W (HR.out.move (fun k hk => hb.block k (HR.out.lt k hk))) (mem_take (HM.out.below hb) _) (by omega) hdm (fun ad e => ⟨Nat.lt_of_lt_of_le (HD.out ad e).1 hb.size, (HD.out ad e).2⟩) (HP.out.below hb) (fun ad e => ⟨Nat.lt_of_lt_of_le (HA.out ad e).1 hb.size, (HA.out ad e).2⟩) h1 (by omega) (by omega) h2 (by rw [hlt, show ((NN.toNat : Nat) : Int) = NN by omega]; exact hin))
        rw [prs_length, hlt, show ((NN.toNat : Nat) : Int) = NN by omega] at this
        exact this
      have H41 := Lib.hid h41
      have HIN := Lib.hid hin
      have HOK := Lib.hid h1
      have hNc : NN ≤ (dcap : Int) := by omega
      clear h41 hin h1
      have HB := Lib.hid (Below.refl w.heap.size w)
      go_wp2_with (first
        | (go_at_call 33; refine (iov_within.calls 60 P0 A cap l off 0 0 _ (Kd.V_map (Kd.V_below HV.out HB.out) (fun _ h => h)) (by rw [within_f l off 0 (by omega), hw])).mono ?_; rintro e w1 ⟨rfl, hb1⟩; replace HB := Lib.hid (below_then' HB.out hb1); clear hb1)
        | (go_at_call 39; refine (iov_total.calls 60 A cap l _ _ (Kd.C_below HL.out HB.out) hcap (total_f HOK.out h2' (by omega))).mono ?_; rintro e w2 ⟨rfl, hb2⟩; replace HB := Lib.hid (below_then' HB.out hb2); clear hb2; have hN := HN.out)
        | (go_at_call 34; refine (inside_l V n vc A cap l off NN _ (HP.out.below HB.out) (fun ad e => Nat.lt_of_lt_of_le (HA.out ad e).1 HB.out.size) hw3 hn).mono ?_; rw [HIN.out]; rintro e w3 ⟨rfl, hb3⟩; replace HB := Lib.hid (below_then' HB.out hb3); clear hb3)
        | (go_at_call 41; refine (H41.out _ HB.out).mono ?_; rintro e w4 ⟨rfl, hr4, hg4⟩; have HG := Lib.hid (And.intro hr4 (grownBy_below HB.out hg4)); clear hr4 hg4))
      go_ret2
      exact ⟨rfl, HG.out.1, HG.out.2⟩
    · have hin' : insideB n (slicedL (prs l) off (sN l off ds.length)) = false := by simpa using hin
      have hc : scode n ds.length l off = 11 := by unfold scode; rw [if_pos hw, if_neg hin]
      have hs : snum n ds.length l off = 0 := by unfold snum; rw [hc]; rfl
      have hm : smem ms ds l off = ms := by unfold smem; rw [hml, hc]; rfl
      rw [hc, hs, hm]
      generalize sN l off ds.length = NN at *
      have hw3 : wth (prs l) off NN = 0 := by
        unfold wth at hw ⊢
        split at hw
        · rename_i hck
          rw [if_pos hck, if_neg (by omega)]
        · rename_i hck
          exact absurd hw hck
      have HIN := Lib.hid hin'
      have HOK := Lib.hid h1
      clear hin hin' h1
      have HB := Lib.hid (Below.refl w.heap.size w)
      go_wp2_with (first
        | (go_at_call 33; refine (iov_within.calls 60 P0 A cap l off 0 0 _ (Kd.V_map (Kd.V_below HV.out HB.out) (fun _ h => h)) (by rw [within_f l off 0 (by omega), hw])).mono ?_; rintro e w1 ⟨rfl, hb1⟩; replace HB := Lib.hid (below_then' HB.out hb1); clear hb1)
        | (go_at_call 39; refine (iov_total.calls 60 A cap l _ _ (Kd.C_below HL.out HB.out) hcap (total_f HOK.out h2' (by omega))).mono ?_; rintro e w2 ⟨rfl, hb2⟩; replace HB := Lib.hid (below_then' HB.out hb2); clear hb2; have hN := HN.out)
        | (go_at_call 34; refine (inside_l V n vc A cap l off NN _ (HP.out.below HB.out) (fun ad e => Nat.lt_of_lt_of_le (HA.out ad e).1 HB.out.size) hw3 hn).mono ?_; rw [HIN.out]; rintro e w3 ⟨rfl, hb3⟩; replace HB := Lib.hid (below_then' HB.out hb3); clear hb3))
      go_ret2
      exact ⟨rfl, HR.out.move (fun k hk => HB.out.block k (HR.out.lt k hk)), grownBy_of_below row HB.out⟩
  · have hc : scode n ds.length l off = wth (prs l) off 0 := by unfold scode; rw [if_neg hw]
    have hs : snum n ds.length l off = 0 := by unfold snum; rw [if_neg (by rw [hc]; exact hw)]
    have hm : smem ms ds l off = ms := by unfold smem; rw [hml, if_neg (by rw [hc]; exact hw)]
    rw [hc, hs, hm]
    go_wp2_with (first
      | (go_at_call 33; refine (iov_within.calls 60 P0 A cap l off 0 _ _ HV.out (within_f l off 0 (by omega))).mono ?_; rintro e w1 ⟨rfl, hb1⟩))
    go_ret2
    exact ⟨rfl, HR.out.move (fun k hk => hb1.block k (HR.out.lt k hk)), grownBy_of_below row hb1⟩
end Go.Proofs.Ytbojagkalbfenaa
namespace Go.Proofs.Ytbojagkalbfenaa
set_option linter.unusedVariables false
set_option linter.unusedSimpArgs false
open Go.RowKit PIovGather Go.Proofs.YtbojagkalbfenaaW.PrintWords Go.Proofs.YtbojagkalbfenaaW.PrintMore
attribute [local go_sem] ints_get ints_size ints_getElem min2_int min_two

/-- A row of two lists of parts. -/
theorem C_two44 {w : World} {g : Nat} {M D : Option Addr} {l r : List S44} {mc dc : Nat} {t : TypeId} {fr : Nat × Nat} (h : w.heap[g]? = some (.cells #[.slice M l.length mc, .slice D r.length dc] t fr)) (hmc : l.length ≤ mc) (hdc : r.length ≤ dc) (hC : Kd.C k44 w M l.length l) (hD : Kd.C k44 w D r.length r) :
    Kd.C (Kd.slice 44 k44) w (some ⟨g, 0, none⟩) ([l, r] : List (List S44)).length [l, r] := by
  refine ⟨rfl, by simp, fun _ => ⟨_, rfl, fun j p hj => ?_⟩⟩
  match j, hj with
  | 0, hj =>
    cases hj
    refine ⟨[.slice M l.length mc], rfl, ⟨M, mc, rfl, hmc, hC⟩, fun i u hi => ?_⟩
    match i, hi with
    | 0, hi =>
      cases hi
      rw [add_at, cell_of_row _ _ _ _ _ _ h]
      rfl
    | i + 1, hi => simp at hi
  | 1, hj =>
    cases hj
    refine ⟨[.slice D r.length dc], rfl, ⟨D, dc, rfl, hdc, hD⟩, fun i u hi => ?_⟩
    match i, hi with
    | 0, hi =>
      cases hi
      rw [add_at, cell_of_row _ _ _ _ _ _ h]
      rfl
    | i + 1, hi => simp at hi
  | j + 2, hj => simp at hj
theorem check_two (A B : Option Addr) (ca cb : Nat) (l r : List S44) (w : World) (g : Nat) (t : TypeId) (h : w.heap[g]? = some (.cells #[.slice A l.length ca, .slice B r.length cb] t (0, 0))) (hc : l.length ≤ ca) (hd : r.length ≤ cb) (hC : Kd.C k44 w A l.length l) (hD : Kd.C k44 w B r.length r) :
    Calls Try.prog 38 #[.slice (some ⟨g, 0, none⟩) 2 2] w fun e w' => e = .returned (.int .i64 (chk2 (prs l) (prs r))) ∧ Below w.heap.size w w' :=
  iov_check.calls 120 _ 2 [l, r] _ w (C_two44 h hc hd hC hD) (by simp) (check2_f l r (by omega))
end Go.Proofs.Ytbojagkalbfenaa
namespace Go.Proofs.Ytbojagkalbfenaa
set_option linter.unusedVariables false
set_option linter.unusedSimpArgs false
open Go.RowKit PIovGather Go.Proofs.YtbojagkalbfenaaW.PrintWords Go.Proofs.YtbojagkalbfenaaW.PrintMore
attribute [local go_sem] ints_get ints_size ints_getElem min2_int min_two

/-- The number of bytes that Copy copies; its error; the memory behind it. -/
def cN (l r : List (Int × Int)) : Int := if sumL r < sumL l then sumL r else sumL l
def ccode (nd ns : Nat) (l r : List (Int × Int)) : Int := if chk2 l r = 0 then (if insideB nd (slicedL l 0 (cN l r)) = true ∧ insideB ns (slicedL r 0 (cN l r)) = true then 0 else 11) else chk2 l r
def cnum (nd ns : Nat) (l r : List (Int × Int)) : Int := if ccode nd ns l r = 0 then cN l r else 0
def cmem (ds ss : List Value) (l r : List (Int × Int)) : List Value := if ccode ds.length ss.length l r = 0 then (scat (ds, gatherL ss (slicedL r 0 (cN l r))) (slicedL l 0 (cN l r))).1 else ds

set_option maxHeartbeats 1000000 in
set_option maxRecDepth 100000 in
theorem copy_bad (A : Option Addr) (ca : Nat) (l : List S44) (B : Option Addr) (cb : Nat) (r : List S44) (V : Option Addr) (vc base n : Nat) (row : Option Nat) (ds : List Value) (M : Option Addr) (mc : Nat) (ss : List Value) (P0 P1 : Nat → Prop) (w : World)
    (hrow : MRow w base row (.slice V n vc) n ds) (hmem : Mem w M ss) (hmc : ss.length ≤ mc) (hmx : mc ≤ 9223372036854775807) (hVl : Kd.V k44 44 w w.heap.size P0 (.slice A l.length ca) l) (hVr : Kd.V k44 44 w w.heap.size P1 (.slice B r.length cb) r)
    (hA : ∀ ad, A = some ad → ad.block < w.heap.size ∧ some ad.block ≠ row) (hB : ∀ ad, B = some ad → ad.block < w.heap.size ∧ some ad.block ≠ row) (hn : n ≤ 9223372036854775807) (hbad : chk2 (prs l) (prs r) ≠ 0) :
    Calls Try.prog 29 #[.slice V n vc, .slice A l.length ca, .slice M ss.length mc, .slice B r.length cb] w fun e w' => e = .returned (.tuple #[.int .i64 (cnum n ss.length (prs l) (prs r)), .int .i64 (ccode n ss.length (prs l) (prs r))]) ∧ MRow w' base row (.slice V n vc) n (cmem ds ss (prs l) (prs r)) ∧ w.grownBy w' row := by
  have hml := hrow.length
  have hc : ccode n ss.length (prs l) (prs r) = chk2 (prs l) (prs r) := by unfold ccode; rw [if_neg hbad]
  have hs : cnum n ss.length (prs l) (prs r) = 0 := by unfold cnum; rw [if_neg (by rw [hc]; exact hbad)]
  have hm : cmem ds ss (prs l) (prs r) = ds := by unfold cmem; rw [hml, if_neg (by rw [hc]; exact hbad)]
  rw [hc, hs, hm]
  have HL := Lib.hid (Kd.V_reads' hVl).2.2
  have HR := Lib.hid (Kd.V_reads' hVr).2.2
  have hca := (Kd.V_reads' hVl).2.1
  have hcb := (Kd.V_reads' hVr).2.1
  have HB0 := Lib.hid ((Below.refl w.heap.size w).alloc (Nat.le_refl _) (.cells #[.slice A l.length ca, .slice B r.length cb] 23))
  go_enter Try.func29, Try.ntmps29
  go_wp2_with (first
    | (go_at_call 38; refine (check_two A B ca cb l r _ _ _ (heap_alloc_new w _) hca hcb (Kd.C_below HL.out HB0.out) (Kd.C_below HR.out HB0.out)).mono ?_; rintro e w1 ⟨rfl, hd⟩; have HB := Lib.hid (below_then' HB0.out hd); clear hd))
  go_ret2
  exact ⟨rfl, hrow.move (fun k hk => HB.out.block k (hrow.lt k hk)), grownBy_of_below row HB.out⟩
end Go.Proofs.Ytbojagkalbfenaa
namespace Go.Proofs.Ytbojagkalbfenaa
set_option linter.unusedVariables false
set_option linter.unusedSimpArgs false
open Go.RowKit PIovGather Go.Proofs.YtbojagkalbfenaaW.PrintWords Go.Proofs.YtbojagkalbfenaaW.PrintMore
attribute [local go_sem] ints_get ints_size ints_getElem min2_int min_two

theorem sumL_nn' : ∀ {l : List (Int × Int)}, (∀ p ∈ l, 0 ≤ p.2) → 0 ≤ sumL l
  | [], _ => by simp [sumL]
  | p :: r, h => by
    have := sumL_nn' (l := r) (fun q hq => h q (List.mem_cons_of_mem _ hq))
    have := h p List.mem_cons_self
    simp only [sumL]; omega
theorem sum_sliced' : ∀ (l : List (Int × Int)) (a b : Int), (∀ p ∈ l, 0 ≤ p.2) → 0 ≤ a → 0 ≤ b → a + b ≤ sumL l → sumL (slicedL l a b) = b
  | [], a, b, _, h0, h1, h2 => by simp [slicedL, sumL] at h2 ⊢; omega
  | p :: r, a, b, h, h0, h1, h2 => by
    have hp := h p List.mem_cons_self
    have hr : ∀ q ∈ r, 0 ≤ q.2 := fun q hq => h q (List.mem_cons_of_mem _ hq)
    have hs := sumL_nn' hr
    simp only [sumL] at h2
    simp only [slicedL]
    split
    · simp only [sumL]; omega
    · split
      · exact sum_sliced' r _ b hr (by omega) h1 (by omega)
      · simp only [sumL]
        rw [sum_sliced' r 0 _ hr (by omega) (by omega) (by omega)]
        omega

theorem gatherL_len {ss : List Value} : ∀ {xs : List (Int × Int)}, (∀ x ∈ xs, 0 ≤ x.1 ∧ 0 ≤ x.2) → insideB ss.length xs = true → ((gatherL ss xs).length : Int) = sumL xs
  | [], _, _ => by simp [gatherL, sumL]
  | x :: r, h, hin => by
    have h0 := h x List.mem_cons_self
    simp only [insideB, List.all_cons, Bool.and_eq_true, decide_eq_true_eq] at hin
    have ih := gatherL_len (ss := ss) (xs := r) (fun y hy => h y (List.mem_cons_of_mem _ hy)) hin.2
    have hp := piece_length (ds := ss) (x := x) h0.1 h0.2 hin.1
    simp only [gatherL, List.flatMap_cons, List.length_append, sumL] at ih ⊢
    rw [hp]
    omega
theorem own_shape {W : World} {base n : Nat} {v : Value} {xs : List Value} (h : W.ownsRow base 5 1 v n xs) : ∃ A c, v = .slice A n c ∧ n ≤ c ∧ c ≤ 9223372036854775807 ∧ (∀ ad, A = some ad → base ≤ ad.block ∧ ad.block < W.heap.size) := by
  rcases h.2 with ⟨rfl, rfl⟩ | ⟨g, c, cur, rfl, hb, hh, hc, hm, _⟩
  · exact ⟨none, 0, rfl, Nat.le_refl _, by omega, fun ad e => by cases e⟩
  · simp only [maxLen] at hm
    exact ⟨_, c, rfl, hc, by omega, fun ad e => by cases e; exact ⟨hb, (Array.getElem?_eq_some_iff.1 hh).1⟩⟩
theorem mem_of_own {W : World} {base n c : Nat} {A : Option Addr} {xs : List Value} (h : W.ownsRow base 5 1 (.slice A n c) n xs) (h1 : ∀ u ∈ xs, u.oneCell' = true) : Mem W A xs := by
  refine ⟨fun j u hj => ?_, h1⟩
  have hlt := (List.getElem?_eq_some_iff.1 hj).1
  have hl := h.1
  obtain ⟨g, c', hv⟩ := ownsRow_pos h (by omega)
  injection hv with hv1 _ _
  subst hv1
  exact ⟨_, rfl, own_lt' h g rfl, h.cells (g := g) rfl j u hj⟩
set_option maxHeartbeats 1000000 in
set_option maxRecDepth 100000 in
theorem copy_good (A : Option Addr) (ca : Nat) (l : List S44) (B : Option Addr) (cb : Nat) (r : List S44) (V : Option Addr) (vc base n : Nat) (row : Option Nat) (ds : List Value) (M : Option Addr) (mc : Nat) (ss : List Value) (P0 P1 : Nat → Prop) (w : World)
    (hrow : MRow w base row (.slice V n vc) n ds) (hmem : Mem w M ss) (hmc : ss.length ≤ mc) (hmx : mc ≤ 9223372036854775807) (hVl : Kd.V k44 44 w w.heap.size P0 (.slice A l.length ca) l) (hVr : Kd.V k44 44 w w.heap.size P1 (.slice B r.length cb) r)
    (hA : ∀ ad, A = some ad → ad.block < w.heap.size ∧ some ad.block ≠ row) (hB : ∀ ad, B = some ad → ad.block < w.heap.size ∧ some ad.block ≠ row) (hn : n ≤ 9223372036854775807) (hgood : chk2 (prs l) (prs r) = 0)
    (hi1 : insideB n (slicedL (prs l) 0 (cN (prs l) (prs r))) = true) (hi2 : insideB ss.length (slicedL (prs r) 0 (cN (prs l) (prs r))) = true) :
    Calls Try.prog 29 #[.slice V n vc, .slice A l.length ca, .slice M ss.length mc, .slice B r.length cb] w fun e w' => e = .returned (.tuple #[.int .i64 (cN (prs l) (prs r)), .int .i64 0]) ∧ MRow w' base row (.slice V n vc) n (scat (ds, gatherL ss (slicedL (prs r) 0 (cN (prs l) (prs r)))) (slicedL (prs l) 0 (cN (prs l) (prs r)))).1 ∧ w.grownBy w' row := by
  obtain ⟨hk1, hk2⟩ := chk2_zero hgood
  obtain ⟨a1, a2, a3, a4⟩ := chk_zero hk1
  obtain ⟨b1, b2, b3, b4⟩ := chk_zero hk2
  have hN : (if sumL (prs r) < sumL (prs l) then sumL (prs r) else sumL (prs l)) = cN (prs l) (prs r) := rfl
  have hN0 : 0 ≤ cN (prs l) (prs r) := by unfold cN; split <;> omega
  have hN1 : cN (prs l) (prs r) ≤ sumL (prs l) := by unfold cN; split <;> omega
  have hN2 : cN (prs l) (prs r) ≤ sumL (prs r) := by unfold cN; split <;> omega
  have HN := Lib.hid hN
  clear hN
  generalize cN (prs l) (prs r) = NN at *
  have hw1 : wth (prs l) 0 NN = 0 := by unfold wth; rw [if_pos hk1, if_neg (by omega)]
  have hw2 : wth (prs r) 0 NN = 0 := by unfold wth; rw [if_pos hk2, if_neg (by omega)]
  have hgl : (gatherL ss (slicedL (prs r) 0 NN)).length = NN.toNat := by
    have h1 := gatherL_len (ss := ss) (xs := slicedL (prs r) 0 NN) (fun x hx => by have := slicedL_mem b1 (by omega) x hx; omega) hi2
    rw [sum_sliced' _ 0 NN (fun p hp => (b1 p hp).2.1) (by omega) hN0 (by omega)] at h1
    omega
  have HL := Lib.hid (Kd.V_reads' hVl).2.2
  have HR := Lib.hid (Kd.V_reads' hVr).2.2
  have hca := (Kd.V_reads' hVl).2.1
  have hcb := (Kd.V_reads' hVr).2.1
  have HPL := Lib.hid (pairs_of_C HL.out)
  have HPR := Lib.hid (pairs_of_C HR.out)
  have HA := Lib.hid hA
  have HBB := Lib.hid hB
  have HM := Lib.hid hmem
  have HROW := Lib.hid hrow
  have HOK := Lib.hid (And.intro a1 b1)
  have HI := Lib.hid (And.intro hi1 hi2)
  have h2l : l.length ≤ 16 := by rwa [prs_length] at a2
  have h2r : r.length ≤ 16 := by rwa [prs_length] at b2
  have HGL := Lib.hid hgl
  clear hA hB hmem hrow a1 b1 hi1 hi2 hVl hVr hgl
  have HB := Lib.hid ((Below.refl w.heap.size w).alloc (Nat.le_refl _) (.cells #[.slice A l.length ca, .slice B r.length cb] 23))
  go_enter Try.func29, Try.ntmps29
  go_wp2_with (first
    | (go_at_call 38; refine (check_two A B ca cb l r _ _ _ (heap_alloc_new w _) hca hcb (Kd.C_below HL.out HB.out) (Kd.C_below HR.out HB.out)).mono ?_; rw [hgood]; rintro e w1 ⟨rfl, hd⟩; replace HB := Lib.hid (below_then' HB.out hd); clear hd)
    | (go_at_call 39; (with_reducible show Calls Try.prog 39 #[.slice A _ _] _ _); refine (iov_total.calls 60 A ca l _ _ (Kd.C_below HL.out HB.out) hca (total_f HOK.out.1 h2l (by omega))).mono ?_; rintro e w2 ⟨rfl, hd⟩; replace HB := Lib.hid (below_then' HB.out hd); clear hd)
    | (go_at_call 39; (with_reducible show Calls Try.prog 39 #[.slice B _ _] _ _); refine (iov_total.calls 60 B cb r _ _ (Kd.C_below HR.out HB.out) hcb (total_f HOK.out.2 h2r (by omega))).mono ?_; rintro e w3 ⟨rfl, hd⟩; replace HB := Lib.hid (below_then' HB.out hd); have hN := HN.out; clear hd)
    | (go_at_call 34; (with_reducible show Calls Try.prog 34 #[.slice V _ _, .slice A _ _, _, _] _ _); refine (inside_l V n vc A ca l 0 NN _ (HPL.out.below HB.out) (fun ad e => Nat.lt_of_lt_of_le (HA.out ad e).1 HB.out.size) hw1 hn).mono ?_; rw [HI.out.1]; rintro e w4 ⟨rfl, hd⟩; replace HB := Lib.hid (below_then' HB.out hd); clear hd)
    | (go_at_call 34; (with_reducible show Calls Try.prog 34 #[.slice M _ _, .slice B _ _, _, _] _ _); refine (inside_l M ss.length mc B cb r 0 NN _ (HPR.out.below HB.out) (fun ad e => Nat.lt_of_lt_of_le (HBB.out ad e).1 HB.out.size) hw2 (by omega)).mono ?_; rw [HI.out.2]; rintro e w5 ⟨rfl, hd⟩; replace HB := Lib.hid (below_then' HB.out hd); clear hd)
    | (go_at_call 35; refine (gather_l M ss mc B cb r 0 NN _ (HM.out.below HB.out) (HPR.out.below HB.out) (fun ad e => Nat.lt_of_lt_of_le (HBB.out ad e).1 HB.out.size) hw2 hmc hmx HI.out.2).mono ?_; rintro e w6 ⟨v6, rfl, ho, hd⟩; obtain ⟨V6, c6, rfl, hc6, hx6, hb6⟩ := own_shape ho; have hsz5 := HB.out.size; have HO6 := Lib.hid (And.intro ho hb6); replace HB := Lib.hid (below_then' HB.out hd); clear hd ho hb6)
    | (go_at_call 41; go_loud (have h41 := callsIn_wide.1 (scatter_in A ca (prs l) 0 V vc base n row ds V6 c6 (gatherL ss (slicedL (prs r) 0 NN)) w6 (HROW.out.move (fun k hk => HB.out.block k (HROW.out.lt k hk))) (mem_of_own HO6.out.1 (fun u hu => by obtain ⟨x, _, hy⟩ := List.mem_flatMap.1 hu; exact HM.out.one u (List.mem_of_mem_drop (List.mem_of_mem_take hy)))) hc6 hx6 (fun ad e => ⟨(HO6.out.2 ad e).2, fun e' => by have q1 := (HO6.out.2 ad e).1; have q2 := HROW.out.lt ad.block e'.symm; omega⟩) (HPL.out.below HB.out) (fun ad e => ⟨Nat.lt_of_lt_of_le (HA.out ad e).1 HB.out.size, (HA.out ad e).2⟩) HOK.out.1 (by omega) (by rw [HGL.out]; omega) a2 (by rw [HGL.out, show ((NN.toNat : Nat) : Int) = NN by omega]; exact HI.out.1)); rw [prs_length] at h41; rw [show ((gatherL ss (slicedL (prs r) 0 NN)).length : Int) = NN by rw [HGL.out]; omega] at h41; refine h41.mono ?_; rintro e w7 ⟨rfl, hr7, hg7⟩; have H7 := Lib.hid (And.intro hr7 (grownBy_below HB.out hg7)); clear hr7 hg7 h41)))
  all_goals (go_ret2; exact ⟨rfl, H7.out.1, H7.out.2⟩)
end Go.Proofs.Ytbojagkalbfenaa
namespace Go.Proofs.Ytbojagkalbfenaa
set_option linter.unusedVariables false
set_option linter.unusedSimpArgs false
open Go.RowKit PIovGather Go.Proofs.YtbojagkalbfenaaW.PrintWords Go.Proofs.YtbojagkalbfenaaW.PrintMore
attribute [local go_sem] ints_get ints_size ints_getElem min2_int min_two

set_option maxHeartbeats 1000000 in
set_option maxRecDepth 100000 in
theorem copy_out (A : Option Addr) (ca : Nat) (l : List S44) (B : Option Addr) (cb : Nat) (r : List S44) (V : Option Addr) (vc base n : Nat) (row : Option Nat) (ds : List Value) (M : Option Addr) (mc : Nat) (ss : List Value) (P0 P1 : Nat → Prop) (w : World)
    (hrow : MRow w base row (.slice V n vc) n ds) (hmem : Mem w M ss) (hmc : ss.length ≤ mc) (hmx : mc ≤ 9223372036854775807) (hVl : Kd.V k44 44 w w.heap.size P0 (.slice A l.length ca) l) (hVr : Kd.V k44 44 w w.heap.size P1 (.slice B r.length cb) r)
    (hA : ∀ ad, A = some ad → ad.block < w.heap.size ∧ some ad.block ≠ row) (hB : ∀ ad, B = some ad → ad.block < w.heap.size ∧ some ad.block ≠ row) (hn : n ≤ 9223372036854775807) (hgood : chk2 (prs l) (prs r) = 0)
    (q : Bool) (hi1 : insideB n (slicedL (prs l) 0 (cN (prs l) (prs r))) = q) (hi2 : q = true → insideB ss.length (slicedL (prs r) 0 (cN (prs l) (prs r))) = false) :
    Calls Try.prog 29 #[.slice V n vc, .slice A l.length ca, .slice M ss.length mc, .slice B r.length cb] w fun e w' => e = .returned (.tuple #[.int .i64 0, .int .i64 11]) ∧ MRow w' base row (.slice V n vc) n ds ∧ w.grownBy w' row := by
  obtain ⟨hk1, hk2⟩ := chk2_zero hgood
  obtain ⟨a1, a2, a3, a4⟩ := chk_zero hk1
  obtain ⟨b1, b2, b3, b4⟩ := chk_zero hk2
  have hN : (if sumL (prs r) < sumL (prs l) then sumL (prs r) else sumL (prs l)) = cN (prs l) (prs r) := rfl
  have hN0 : 0 ≤ cN (prs l) (prs r) := by unfold cN; split <;> omega
  have hN1 : cN (prs l) (prs r) ≤ sumL (prs l) := by unfold cN; split <;> omega
  have hN2 : cN (prs l) (prs r) ≤ sumL (prs r) := by unfold cN; split <;> omega
  have HN := Lib.hid hN
  clear hN
  generalize cN (prs l) (prs r) = NN at *
  have hw1 : wth (prs l) 0 NN = 0 := by unfold wth; rw [if_pos hk1, if_neg (by omega)]
  have hw2 : wth (prs r) 0 NN = 0 := by unfold wth; rw [if_pos hk2, if_neg (by omega)]
  have HL := Lib.hid (Kd.V_reads' hVl).2.2
  have HR := Lib.hid (Kd.V_reads' hVr).2.2
  have hca := (Kd.V_reads' hVl).2.1
  have hcb := (Kd.V_reads' hVr).2.1
  have HPL := Lib.hid (pairs_of_C HL.out)
  have HPR := Lib.hid (pairs_of_C HR.out)
  have HA := Lib.hid hA
  have HBB := Lib.hid hB
  have HM := Lib.hid hmem
  have HROW := Lib.hid hrow
  have HOK := Lib.hid (And.intro a1 b1)
  have HI := Lib.hid (And.intro hi1 hi2)
  have h2l : l.length ≤ 16 := by rwa [prs_length] at a2
  have h2r : r.length ≤ 16 := by rwa [prs_length] at b2
  clear hA hB hmem hrow a1 b1 hi1 hi2 hVl hVr
  have HB := Lib.hid ((Below.refl w.heap.size w).alloc (Nat.le_refl _) (.cells #[.slice A l.length ca, .slice B r.length cb] 23))
  cases q with
  | false =>
    go_enter Try.func29, Try.ntmps29
    go_wp2_with (first
      | (go_at_call 38; refine (check_two A B ca cb l r _ _ _ (heap_alloc_new w _) hca hcb (Kd.C_below HL.out HB.out) (Kd.C_below HR.out HB.out)).mono ?_; rw [hgood]; rintro e w1 ⟨rfl, hd⟩; replace HB := Lib.hid (below_then' HB.out hd); clear hd)
      | (go_at_call 39; (with_reducible show Calls Try.prog 39 #[.slice A _ _] _ _); refine (iov_total.calls 60 A ca l _ _ (Kd.C_below HL.out HB.out) hca (total_f HOK.out.1 h2l (by omega))).mono ?_; rintro e w2 ⟨rfl, hd⟩; replace HB := Lib.hid (below_then' HB.out hd); clear hd)
      | (go_at_call 39; (with_reducible show Calls Try.prog 39 #[.slice B _ _] _ _); refine (iov_total.calls 60 B cb r _ _ (Kd.C_below HR.out HB.out) hcb (total_f HOK.out.2 h2r (by omega))).mono ?_; rintro e w3 ⟨rfl, hd⟩; replace HB := Lib.hid (below_then' HB.out hd); have hN := HN.out; clear hd)
      | (go_at_call 34; (with_reducible show Calls Try.prog 34 #[.slice V _ _, .slice A _ _, _, _] _ _); refine (inside_l V n vc A ca l 0 NN _ (HPL.out.below HB.out) (fun ad e => Nat.lt_of_lt_of_le (HA.out ad e).1 HB.out.size) hw1 hn).mono ?_; rw [HI.out.1]; rintro e w4 ⟨rfl, hd⟩; replace HB := Lib.hid (below_then' HB.out hd); clear hd))
    all_goals (go_ret2; exact ⟨rfl, HROW.out.move (fun k hk => HB.out.block k (HROW.out.lt k hk)), grownBy_of_below row HB.out⟩)
  | true =>
    have HI2 := Lib.hid (HI.out.2 rfl)
    go_enter Try.func29, Try.ntmps29
    go_wp2_with (first
      | (go_at_call 38; refine (check_two A B ca cb l r _ _ _ (heap_alloc_new w _) hca hcb (Kd.C_below HL.out HB.out) (Kd.C_below HR.out HB.out)).mono ?_; rw [hgood]; rintro e w1 ⟨rfl, hd⟩; replace HB := Lib.hid (below_then' HB.out hd); clear hd)
      | (go_at_call 39; (with_reducible show Calls Try.prog 39 #[.slice A _ _] _ _); refine (iov_total.calls 60 A ca l _ _ (Kd.C_below HL.out HB.out) hca (total_f HOK.out.1 h2l (by omega))).mono ?_; rintro e w2 ⟨rfl, hd⟩; replace HB := Lib.hid (below_then' HB.out hd); clear hd)
      | (go_at_call 39; (with_reducible show Calls Try.prog 39 #[.slice B _ _] _ _); refine (iov_total.calls 60 B cb r _ _ (Kd.C_below HR.out HB.out) hcb (total_f HOK.out.2 h2r (by omega))).mono ?_; rintro e w3 ⟨rfl, hd⟩; replace HB := Lib.hid (below_then' HB.out hd); have hN := HN.out; clear hd)
      | (go_at_call 34; (with_reducible show Calls Try.prog 34 #[.slice V _ _, .slice A _ _, _, _] _ _); refine (inside_l V n vc A ca l 0 NN _ (HPL.out.below HB.out) (fun ad e => Nat.lt_of_lt_of_le (HA.out ad e).1 HB.out.size) hw1 hn).mono ?_; rw [HI.out.1]; rintro e w4 ⟨rfl, hd⟩; replace HB := Lib.hid (below_then' HB.out hd); clear hd)
      | (go_at_call 34; (with_reducible show Calls Try.prog 34 #[.slice M _ _, .slice B _ _, _, _] _ _); refine (inside_l M ss.length mc B cb r 0 NN _ (HPR.out.below HB.out) (fun ad e => Nat.lt_of_lt_of_le (HBB.out ad e).1 HB.out.size) hw2 (by omega)).mono ?_; rw [HI2.out]; rintro e w5 ⟨rfl, hd⟩; replace HB := Lib.hid (below_then' HB.out hd); clear hd))
    all_goals (go_ret2; exact ⟨rfl, HROW.out.move (fun k hk => HB.out.block k (HROW.out.lt k hk)), grownBy_of_below row HB.out⟩)
end Go.Proofs.Ytbojagkalbfenaa
namespace Go.Proofs.Ytbojagkalbfenaa
set_option linter.unusedVariables false
set_option linter.unusedSimpArgs false
open Go.RowKit PIovGather Go.Proofs.YtbojagkalbfenaaW.PrintWords Go.Proofs.YtbojagkalbfenaaW.PrintMore
attribute [local go_sem] ints_get ints_size ints_getElem min2_int min_two

/-- Copy: whatever the lists and memories are. -/
theorem copyF (A : Option Addr) (ca : Nat) (l : List S44) (B : Option Addr) (cb : Nat) (r : List S44) (V : Option Addr) (vc base n : Nat) (row : Option Nat) (ds : List Value) (M : Option Addr) (mc : Nat) (ss : List Value) (P0 P1 : Nat → Prop) (w : World)
    (hrow : MRow w base row (.slice V n vc) n ds) (hmem : Mem w M ss) (hmc : ss.length ≤ mc) (hmx : mc ≤ 9223372036854775807) (hVl : Kd.V k44 44 w w.heap.size P0 (.slice A l.length ca) l) (hVr : Kd.V k44 44 w w.heap.size P1 (.slice B r.length cb) r)
    (hA : ∀ ad, A = some ad → ad.block < w.heap.size ∧ some ad.block ≠ row) (hB : ∀ ad, B = some ad → ad.block < w.heap.size ∧ some ad.block ≠ row) (hn : n ≤ 9223372036854775807) :
    Calls Try.prog 29 #[.slice V n vc, .slice A l.length ca, .slice M ss.length mc, .slice B r.length cb] w fun e w' => e = .returned (.tuple #[.int .i64 (cnum n ss.length (prs l) (prs r)), .int .i64 (ccode n ss.length (prs l) (prs r))]) ∧ MRow w' base row (.slice V n vc) n (cmem ds ss (prs l) (prs r)) ∧ w.grownBy w' row := by
  by_cases hck : chk2 (prs l) (prs r) = 0
  · have hml := hrow.length
    by_cases h1 : insideB n (slicedL (prs l) 0 (cN (prs l) (prs r))) = true
    · by_cases h2 : insideB ss.length (slicedL (prs r) 0 (cN (prs l) (prs r))) = true
      · have hc : ccode n ss.length (prs l) (prs r) = 0 := by unfold ccode; rw [if_pos hck, if_pos ⟨h1, h2⟩]
        have hs : cnum n ss.length (prs l) (prs r) = cN (prs l) (prs r) := by unfold cnum; rw [if_pos hc]
        have hm : cmem ds ss (prs l) (prs r) = (scat (ds, gatherL ss (slicedL (prs r) 0 (cN (prs l) (prs r)))) (slicedL (prs l) 0 (cN (prs l) (prs r)))).1 := by unfold cmem; rw [hml, if_pos hc]
        rw [hc, hs, hm]
        exact copy_good A ca l B cb r V vc base n row ds M mc ss P0 P1 w hrow hmem hmc hmx hVl hVr hA hB hn hck h1 h2
      · have hc : ccode n ss.length (prs l) (prs r) = 11 := by unfold ccode; rw [if_pos hck, if_neg (fun h => h2 h.2)]
        have hs : cnum n ss.length (prs l) (prs r) = 0 := by unfold cnum; rw [if_neg (by rw [hc]; decide)]
        have hm : cmem ds ss (prs l) (prs r) = ds := by unfold cmem; rw [hml, if_neg (by rw [hc]; decide)]
        rw [hc, hs, hm]
        exact copy_out A ca l B cb r V vc base n row ds M mc ss P0 P1 w hrow hmem hmc hmx hVl hVr hA hB hn hck true h1 (fun _ => Bool.not_eq_true _ ▸ (by simpa using h2))
    · have hc : ccode n ss.length (prs l) (prs r) = 11 := by unfold ccode; rw [if_pos hck, if_neg (fun h => h1 h.1)]
      have hs : cnum n ss.length (prs l) (prs r) = 0 := by unfold cnum; rw [if_neg (by rw [hc]; decide)]
      have hm : cmem ds ss (prs l) (prs r) = ds := by unfold cmem; rw [hml, if_neg (by rw [hc]; decide)]
      rw [hc, hs, hm]
      exact copy_out A ca l B cb r V vc base n row ds M mc ss P0 P1 w hrow hmem hmc hmx hVl hVr hA hB hn hck false (by simpa using h1) (fun h => by cases h)
  · exact copy_bad A ca l B cb r V vc base n row ds M mc ss P0 P1 w hrow hmem hmc hmx hVl hVr hA hB hn hck
end Go.Proofs.Ytbojagkalbfenaa
