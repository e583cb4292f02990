import Derived.Test.YtbpihfphoniclaaB8
namespace Go.Proofs.Ytbpihfphoniclaa
open Go.RowKit
set_option linter.unusedVariables false
theorem ls_cells {w : World} {g n c : Nat} {l : List Pd} (h : Ls w 94 (.slice (some ⟨g, 0, none⟩) n c) l) (q : Nat) (u : Value) (hu : (pcells l)[q]? = some u) : w.cell? ⟨g, q, none⟩ = some u := by
  obtain ⟨A, c', e1, _, _, _, hf⟩ := Rw.form h
  cases e1
  obtain ⟨g', e2, _, hf⟩ := hf _ rfl
  cases e2
  exact hf _ _ hu
theorem tail_cells {w : World} {g n c : Nat} {l : List Pd} (h : Ls w 94 (.slice (some ⟨g, 0, none⟩) n c) l) (i : Nat) (hc : l.length ≤ c) :
    ∀ ad, (if c = i + 1 then some (⟨g, 0, none⟩ : Addr) else some ⟨g, (i + 1) * 2, none⟩) = some ad → ∀ j u, (pcells (l.drop (i + 1)))[j]? = some u → w.cell? (ad.add j) = some u := by
  intro ad had q u hu
  by_cases hcap : c = i + 1
  · rw [List.drop_of_length_le (by omega)] at hu
    simp [pcells] at hu
  · rw [if_neg hcap] at had
    cases had
    rw [pcells_drop, List.getElem?_drop] at hu
    rw [add_at]
    exact ls_cells h _ _ hu
theorem ite_some_ne {c : Prop} [Decidable c] {a b : Addr} {P : Prop} : (if c then some a else some b) = none → P := fun h => by split at h <;> cases h
set_option maxHeartbeats 4000000 in
set_option maxRecDepth 100000 in
theorem take_own {base t : Nat} {L : Lay} {S : St} (th bb m : Nat) (x : Tk) (w : World) (h : RepL w base t L S) (hin : Inv S 1000) (hi : th < 256) (hx : S.tk th = some x) (hb : L.ptr th = some bb) (hm : m < 18446744073709551616)
    (i : Nat) (hi1 : i < (S.ls th).length) (k1 : firstK (S.ls th) m (S.ls th).length = (i : Int)) (k2 : firstK (S.ls (256 + x.proc.toNat)) m (S.ls (256 + x.proc.toNat)).length = -1) :
    Calls Try.prog 39 #[.pointer (some ⟨t, 0, none⟩), .pointer (some ⟨bb, 0, none⟩), .int .u64 m] w fun e w' => e = .returned (.tuple #[.agg #[.int .i64 ((S.ls th).getD i (0, 0)).1, .int .i64 ((S.ls th).getD i (0, 0)).2], .bool true]) ∧ AfterL base t L { S with ls := upd S.ls th ((S.ls th).take i ++ (S.ls th).drop (i + 1)) } w w' := by
    obtain ⟨b', hb', _, hbl, hbc, hc⟩ := h.task_cell hi hx
    rw [hb] at hb'
    cases hb'
    obtain ⟨hp0, hp1, _⟩ := hin.task th hi x hx
    have c0 : w.cell? ⟨bb, 0, none⟩ = some (.int .i64 x.proc) := by rw [cell_of_row _ _ _ _ _ _ hbc]; rfl
    have c2 : w.cell? ⟨bb, 2, none⟩ = some (L.lv th) := by rw [cell_of_row _ _ _ _ _ _ hbc]; rfl
    have f2 : w.frozen? ⟨bb, 2, none⟩ = false := frozen_of_cells hbc 2
    have cp : w.cell? ⟨t, 256 + x.proc.toNat * 58 + 57, none⟩ = some (L.lv (256 + x.proc.toNat)) := by
      rw [h.cellT _ (by omega), tcell_lv L S x.proc.toNat _ (by omega) rfl]
    have fp := h.frozenT (256 + x.proc.toNat * 58 + 57)
    have hr1 := h.row th (by omega)
    have hr2 := h.row (256 + x.proc.toNat) (by omega)
    have hs1 := hin.sig th (by omega)
    have hs2 := hin.sig (256 + x.proc.toNat) (by omega)
    have hl1 := hin.len th (by omega)
    have hl2 := hin.len (256 + x.proc.toNat) (by omega)
    have htl := h.lt
    have HPB := Lib.hid hb
    have HX := Lib.hid hx
    have H := Lib.hid (And.intro h hin)
    obtain ⟨A1, cap1, e1, hcap1, hm1, _, hat1⟩ := hr1.at
    obtain ⟨A2, cap2, e2, hcap2, hm2, _, hat2⟩ := hr2.at
    have HE1 := Lib.hid e1
    have HE2 := Lib.hid e2
    rw [e1] at c2 hr1
    rw [e2] at cp hr2
    replace hm1 : cap1 ≤ 9223372036854775807 := by unfold maxLen at hm1; omega
    replace hm2 : cap2 ≤ 9223372036854775807 := by unfold maxLen at hm2; omega
    have hpn : x.proc < 64 := hp1
    clear h hin hx hb hbc hc e1 e2
    generalize S.ls th = l1 at *
    generalize S.ls (256 + x.proc.toNat) = l2 at *
    obtain ⟨g1, rfl, hg1, ha1, hb1⟩ := hat1 i hi1
    have hi0 : (0 : Int) ≤ (i : Int) := by omega
    have hil : (i : Int) < (l1.length : Int) := by omega
    have hin0 : decide ((i : Int) < 0) = false := by simp
    have HG1 := Lib.hid hg1
    have HS1 := Lib.hid ha1
    have HYB := Lib.hid hb1
    have HGL := Lib.hid hg1
    have HIL := Lib.hid hi1
    have HCAP := Lib.hid hcap1
    have H1 := Lib.hid (And.intro hr1 (And.intro hl1 (And.intro hs1 k1)))
    have H2 := Lib.hid (And.intro hr2 (And.intro hl2 (And.intro hs2 k2)))
    have HYA := HS1
    clear hat1 hat2 hr1 hr2 hl1 hl2 hs1 hs2 k1 k2 ha1 hb1 hg1
    generalize (l1.getD i (0, 0)).1 = ya at *
    generalize (l1.getD i (0, 0)).2 = yb at *
    have HB1 : Hid (∀ n, Below w.heap.size w ((w.alloc (.cells #[.int .i64 0, .int .i64 0] 94)).drewN n) ∧ ((w.alloc (.cells #[.int .i64 0, .int .i64 0] 94)).drewN n).heap[w.heap.size]? = some (.cells #[.int .i64 0, .int .i64 0] 94 (0, 0))) := Lib.hid fun n => ⟨below_drewN ((Below.refl _ _).alloc (Nat.le_refl _) _) n, heap_alloc_new w _⟩
    go_enter Try.func39, Try.ntmps39
    go_wp2
    go_quiet (fail)
    go_wp2_with fail
    refine (first_calls _ l1 m _ (Rw.below H1.out.1 (HB1.out _).1) H1.out.2.1 H1.out.2.2.1 hm).mono ?_
    rw [H1.out.2.2.2]
    rintro e w2 ⟨rfl, hd⟩
    have HB2 := Lib.hid (below_then' (HB1.out _).1 hd)
    have HC2 : Hid (w2.heap[w.heap.size]? = some (.cells #[.int .i64 0, .int .i64 0] 94 (0, 0))) := Lib.hid ((hd.block w.heap.size (Array.getElem?_eq_some_iff.1 (HB1.out _).2).1).trans (HB1.out _).2)
    have cp2 := (HB2.out.cell (p := ⟨t, 256 + x.proc.toNat * 58 + 57, none⟩) htl).trans cp
    clear hd
    go_wp2_with fail
    refine (first_calls _ l2 m _ (Rw.below H2.out.1 HB2.out) H2.out.2.1 H2.out.2.2.1 hm).mono ?_
    rw [H2.out.2.2.2]
    rintro e w3 ⟨rfl, hd⟩
    have HB3 := Lib.hid (below_then' HB2.out hd)
    have HC3 : Hid (w3.heap[w.heap.size]? = some (.cells #[.int .i64 0, .int .i64 0] 94 (0, 0))) := Lib.hid ((hd.block w.heap.size (Array.getElem?_eq_some_iff.1 HC2.out).1).trans HC2.out)
    have c23 := (HB3.out.cell (p := ⟨bb, 2, none⟩) hbl).trans c2
    have cp3 := (HB3.out.cell (p := ⟨t, 256 + x.proc.toNat * 58 + 57, none⟩) htl).trans cp
    skip
    clear hd cp2
    go_wp2
    go_quiet (fail)
    have HB3d := Lib.hid (below_drewN HB3.out nq)
    have HC3d : Hid ((w3.drewN nq).heap[w.heap.size]? = some (.cells #[.int .i64 0, .int .i64 0] 94 (0, 0))) := Lib.hid HC3.out
    clear c23 cp3
    generalize w3.drewN nq = w3d at *
    clear HB3 HC3
    have HB3 := HB3d
    have HC3 := HC3d
    have c23 := (HB3.out.cell (p := ⟨bb, 2, none⟩) hbl).trans c2
    have cp3 := (HB3.out.cell (p := ⟨t, 256 + x.proc.toNat * 58 + 57, none⟩) htl).trans cp
    have HPC : Hid (∀ j v, (#[.int .i64 ya, .int .i64 yb] : Array Value)[j]? = some v → w3d.cell? ((⟨g1, i * 2, none⟩ : Addr).add j) = some v) := Lib.hid (pair_cells ((HB3.out.cell (p := ⟨g1, i * 2, none⟩) HGL.out).trans HYA.out) ((HB3.out.cell (p := ⟨g1, i * 2 + 1, none⟩) HGL.out).trans HYB.out))
    clear HB3d HC3d
    go_wp2_with ((with_reducible change wpList _ _ _ (⟨_, .load 94 (.tmp 69), _, _, _, _⟩ :: _) _ _); refine wpList_load_cells (by rfl) 94 (.tmp 69) rfl ⟨g1, i * 2, none⟩ rfl #[.int .i64 ya, .int .i64 yb] _ HPC.out Try.underlying94 rfl (n := 2) (by kernel_rfl) rfl ?_)
    obtain ⟨W4, hW4⟩ : ∃ W4, (w3d.alloc (.cells #[.int .i64 ya, .int .i64 yb] 94)) = W4 := ⟨_, rfl⟩
    have hb4 : Below w.heap.size w W4 := by rw [← hW4]; exact HB3.out.alloc HB3.out.size _
    have hr4 : W4.heap[w.heap.size]? = some (.cells #[.int .i64 0, .int .i64 0] 94 (0, 0)) := by
      rw [← hW4]
      exact (Below.heap_alloc w3d _ w.heap.size (Array.getElem?_eq_some_iff.1 HC3.out).1).trans HC3.out
    have hsz4 : W4.heap.size = w3d.heap.size + 1 := by rw [← hW4]; simp
    have hn4 : W4.heap[w3d.heap.size]? = some (.cells #[.int .i64 ya, .int .i64 yb] 94 (0, 0)) := by rw [← hW4]; exact heap_alloc_new w3d _
    rw [hW4]
    clear hW4
    have cf4 := (hb4.cell (p := ⟨bb, 2, none⟩) hbl).trans c2
    have ff4 := (hb4.frozen (p := ⟨bb, 2, none⟩) hbl).trans f2
    have flt4 : bb < W4.heap.size := Nat.lt_of_lt_of_le hbl hb4.size
    have HW4 := Lib.hid (And.intro hb4 (And.intro hr4 hn4))
    have hlt4 := (Array.getElem?_eq_some_iff.1 hr4).1
    have hlt4b := (Array.getElem?_eq_some_iff.1 hn4).1
    have hLx := Rw.below H1.out.1 hb4
    have hcut := Rw.cut (Ls.drew hLx) i i (Nat.le_of_lt HIL.out) (Nat.le_refl _) (Nat.le_of_lt (Nat.lt_of_lt_of_le HIL.out HCAP.out)) (by simp)
    rw [← pcells_take] at hcut
    have HCUT := Lib.hid (And.intro hcut hLx)
    obtain ⟨i0, hi0, hz0, hz1, hz2⟩ := info_parts info94
    have HINF := Lib.hid (And.intro hi0 (And.intro hz0 (And.intro hz1 hz2)))
    have hjc : (i : Int) ≤ (cap1 : Int) := by have := HIL.out; have := HCAP.out; omega
    have hj1 : (0 : Int) ≤ (i : Int) + 1 := by omega
    have hj2 : (i : Int) + 1 ≤ (l1.length : Int) := by have := HIL.out; omega
    have hw : IntKind.i64.wrap ((i : Int) + 1) = (i : Int) + 1 := IntWalk.i64_in _ (by have := H1.out.2.1; omega)
    have htn : ((i : Int) + 1).toNat = i + 1 := by omega
    clear hb4 hr4 hn4 hi0 hz0 hz1 hz2 hLx hcut
    go_region_law (first
      | (refine step_append_rw _ (by rfl) (.tmp 77) (.tmp 83) 71 (by rfl) 94 i0 (.agg #[.int .i64 0, .int .i64 0]) 2 16 Try.underlying71 HINF.out.1 HINF.out.2.1 HINF.out.2.2.1 HINF.out.2.2.2 rfl (by decide) (.slice (some ⟨g1, 0, none⟩) i i) i (pcells (l1.take i)) (by rfl) HCUT.out.1
          (if cap1 = i + 1 then some ⟨g1, 0, none⟩ else some ⟨g1, (i + 1) * 2, none⟩) (l1.length - (i + 1)) (cap1 - (i + 1)) (pcells (l1.drop (i + 1))) (by rfl) (by rw [pcells_len, List.length_drop]) (tail_cells (Ls.drew HCUT.out.2) i HCAP.out) ite_some_ne (pcells_one _) (by have := H1.out.2.1; have := HIL.out; unfold maxLen; omega) (by have := H1.out.2.1; have := HIL.out; omega) ?_
         intro v' w5 hr5 _ ho5 hb5
         replace hb5 := hb5 _ rfl
         have hlen5 : i + (l1.length - (i + 1)) = (l1.take i ++ l1.drop (i + 1)).length := (by have := HIL.out; rw [List.length_append, List.length_take, List.length_drop]; omega)
         rw [← pcells_append, hlen5] at hr5
         have hL5 : Ls w5 94 v' (l1.take i ++ l1.drop (i + 1)) := hr5
         obtain ⟨A5, c5, hv5, _⟩ := hL5.at
         obtain ⟨n5, hn5⟩ : ∃ n5, (l1.take i ++ l1.drop (i + 1)).length = n5 := ⟨_, rfl⟩
         rw [hn5] at hv5
         subst hv5
         have hc5 := (hb5.cell (p := ⟨bb, 2, none⟩) flt4).trans cf4
         have hf5 := (hb5.frozen (p := ⟨bb, 2, none⟩) flt4).trans ff4
         have H5 := Lib.hid (And.intro hL5 (And.intro hb5 ho5))
         clear hr5 ho5 hb5 hlen5 hL5 hn5))
    all_goals
      have hb5' : Below W4.heap.size W4 w5 := ⟨H5.out.2.1.os, H5.out.2.1.tape, H5.out.2.1.output, H5.out.2.1.size, H5.out.2.1.block⟩
      have hn5 : (w5.setCell ⟨bb, 2, none⟩ (.slice A5 n5 c5)).heap[w3d.heap.size]? = some (.cells #[.int .i64 ya, .int .i64 yb] 94 (0, 0)) := (Below.heap_setCell w5 ⟨bb, 2, none⟩ _ w3d.heap.size (Nat.ne_of_gt (Nat.lt_of_lt_of_le hbl HB3.out.size))).trans ((hb5'.block _ hlt4b).trans HW4.out.2.2)
      have hr5 : (w5.setCell ⟨bb, 2, none⟩ (.slice A5 n5 c5)).heap[w.heap.size]? = some (.cells #[.int .i64 0, .int .i64 0] 94 (0, 0)) := (Below.heap_setCell w5 ⟨bb, 2, none⟩ _ w.heap.size (Nat.ne_of_gt hbl)).trans ((hb5'.block _ hlt4).trans HW4.out.2.1)
      have hend := (take_end H.out.1 (slot := th) (by omega) HW4.out.1 (Nat.le_refl _) hlt4 HW4.out.2.1 H5.out.1 hb5' (fun g hg => H5.out.2.2.elim (fun h => .inl (by rw [HE1.out]; exact h.symm.trans hg)) (fun h => .inr (by rw [hg] at h; cases h; exact Nat.le_refl _))) (.int .i64 ya) (.int .i64 yb)).1 hi bb x HPB.out HX.out
      have HEND := Lib.hid hend
      have HCE : Hid (∀ j v, (#[.int .i64 ya, .int .i64 yb] : Array Value)[j]? = some v → (w5.setCell ⟨bb, 2, none⟩ (.slice A5 n5 c5)).cell? ((⟨w3d.heap.size, 0, none⟩ : Addr).add j) = some v) := Lib.hid (cells_of_heap hn5)
      obtain ⟨z0, z1⟩ := two_cells hr5
      have y0 := frozen_of_cells hr5 0
      have y1 := frozen_of_cells hr5 1
      have HR5 := Lib.hid (two_set hr5 (.int .i64 ya) (.int .i64 yb))
      generalize w5.setCell ⟨bb, 2, none⟩ (.slice A5 n5 c5) = W6 at *
      clear hb5' hn5 hr5 hend hc5 hf5 hw htn
      go_wp2_with ((with_reducible change wpList _ _ _ (⟨_, .load 94 (.tmp 13), _, _, _, _⟩ :: _) _ _); refine wpList_load_cells (by rfl) 94 (.tmp 13) rfl ⟨w3d.heap.size, 0, none⟩ rfl #[.int .i64 ya, .int .i64 yb] _ HCE.out Try.underlying94 rfl (n := 2) (by kernel_rfl) rfl ?_)
      all_goals exact bodyPost_ret (results_agg rfl _ _ ⟨w.heap.size, 0, none⟩ #[.int .i64 ya, .int .i64 yb] _ rfl (cells_of_heap HR5.out) Try.underlying94 rfl (n := 2) (by kernel_rfl) rfl) rfl ⟨rfl, HEND.out⟩
set_option maxHeartbeats 4000000 in
set_option maxRecDepth 100000 in
theorem take_own2 {base t : Nat} {L : Lay} {S : St} (th bb m : Nat) (x : Tk) (w : World) (h : RepL w base t L S) (hin : Inv S 1000) (hi : th < 256) (hx : S.tk th = some x) (hb : L.ptr th = some bb) (hm : m < 18446744073709551616)
    (i k : Nat) (hi1 : i < (S.ls th).length) (hk1 : k < (S.ls (256 + x.proc.toNat)).length) (k1 : firstK (S.ls th) m (S.ls th).length = (i : Int)) (k2 : firstK (S.ls (256 + x.proc.toNat)) m (S.ls (256 + x.proc.toNat)).length = (k : Int)) (hless : ¬ ((S.ls (256 + x.proc.toNat)).getD k (0, 0)).1 < ((S.ls th).getD i (0, 0)).1) :
    Calls Try.prog 39 #[.pointer (some ⟨t, 0, none⟩), .pointer (some ⟨bb, 0, none⟩), .int .u64 m] w fun e w' => e = .returned (.tuple #[.agg #[.int .i64 ((S.ls th).getD i (0, 0)).1, .int .i64 ((S.ls th).getD i (0, 0)).2], .bool true]) ∧ AfterL base t L { S with ls := upd S.ls th ((S.ls th).take i ++ (S.ls th).drop (i + 1)) } w w' := by
    obtain ⟨b', hb', _, hbl, hbc, hc⟩ := h.task_cell hi hx
    rw [hb] at hb'
    cases hb'
    obtain ⟨hp0, hp1, _⟩ := hin.task th hi x hx
    have c0 : w.cell? ⟨bb, 0, none⟩ = some (.int .i64 x.proc) := by rw [cell_of_row _ _ _ _ _ _ hbc]; rfl
    have c2 : w.cell? ⟨bb, 2, none⟩ = some (L.lv th) := by rw [cell_of_row _ _ _ _ _ _ hbc]; rfl
    have f2 : w.frozen? ⟨bb, 2, none⟩ = false := frozen_of_cells hbc 2
    have cp : w.cell? ⟨t, 256 + x.proc.toNat * 58 + 57, none⟩ = some (L.lv (256 + x.proc.toNat)) := by
      rw [h.cellT _ (by omega), tcell_lv L S x.proc.toNat _ (by omega) rfl]
    have fp := h.frozenT (256 + x.proc.toNat * 58 + 57)
    have hr1 := h.row th (by omega)
    have hr2 := h.row (256 + x.proc.toNat) (by omega)
    have hs1 := hin.sig th (by omega)
    have hs2 := hin.sig (256 + x.proc.toNat) (by omega)
    have hl1 := hin.len th (by omega)
    have hl2 := hin.len (256 + x.proc.toNat) (by omega)
    have htl := h.lt
    have HPB := Lib.hid hb
    have HX := Lib.hid hx
    have H := Lib.hid (And.intro h hin)
    obtain ⟨A1, cap1, e1, hcap1, hm1, _, hat1⟩ := hr1.at
    obtain ⟨A2, cap2, e2, hcap2, hm2, _, hat2⟩ := hr2.at
    have HE1 := Lib.hid e1
    have HE2 := Lib.hid e2
    rw [e1] at c2 hr1
    rw [e2] at cp hr2
    replace hm1 : cap1 ≤ 9223372036854775807 := by unfold maxLen at hm1; omega
    replace hm2 : cap2 ≤ 9223372036854775807 := by unfold maxLen at hm2; omega
    have hpn : x.proc < 64 := hp1
    clear h hin hx hb hbc hc e1 e2
    generalize S.ls th = l1 at *
    generalize S.ls (256 + x.proc.toNat) = l2 at *
    obtain ⟨g1, rfl, hg1, ha1, hb1⟩ := hat1 i hi1
    have hi0 : (0 : Int) ≤ (i : Int) := by omega
    have hil : (i : Int) < (l1.length : Int) := by omega
    have hin0 : decide ((i : Int) < 0) = false := by simp
    have HG1 := Lib.hid hg1
    have HS1 := Lib.hid ha1
    obtain ⟨g2, rfl, hg2, ha2, hb2⟩ := hat2 k hk1
    have hk0 : (0 : Int) ≤ (k : Int) := by omega
    have hkl : (k : Int) < (l2.length : Int) := by omega
    have HG2 := Lib.hid hg2
    have HS2 := Lib.hid ha2
    have HYB := Lib.hid hb1
    have HGL := Lib.hid hg1
    have HIL := Lib.hid hi1
    have HCAP := Lib.hid hcap1
    have H1 := Lib.hid (And.intro hr1 (And.intro hl1 (And.intro hs1 k1)))
    have H2 := Lib.hid (And.intro hr2 (And.intro hl2 (And.intro hs2 k2)))
    have HYA := HS1
    have hld : decide ((l2.getD k (0, 0)).1 < (l1.getD i (0, 0)).1) = false := decide_eq_false hless
    clear hless
    clear hat1 hat2 hr1 hr2 hl1 hl2 hs1 hs2 k1 k2 ha1 hb1 hg1 ha2 hb2 hg2
    generalize (l1.getD i (0, 0)).1 = s1 at *
    generalize (l2.getD k (0, 0)).1 = s2 at *
    obtain ⟨ya, rfl⟩ : ∃ ya, ya = s1 := ⟨_, rfl⟩
    generalize (l1.getD i (0, 0)).2 = yb at *
    have HB1 : Hid (∀ n, Below w.heap.size w ((w.alloc (.cells #[.int .i64 0, .int .i64 0] 94)).drewN n) ∧ ((w.alloc (.cells #[.int .i64 0, .int .i64 0] 94)).drewN n).heap[w.heap.size]? = some (.cells #[.int .i64 0, .int .i64 0] 94 (0, 0))) := Lib.hid fun n => ⟨below_drewN ((Below.refl _ _).alloc (Nat.le_refl _) _) n, heap_alloc_new w _⟩
    go_enter Try.func39, Try.ntmps39
    go_wp2
    go_quiet (fail)
    go_wp2_with fail
    refine (first_calls _ l1 m _ (Rw.below H1.out.1 (HB1.out _).1) H1.out.2.1 H1.out.2.2.1 hm).mono ?_
    rw [H1.out.2.2.2]
    rintro e w2 ⟨rfl, hd⟩
    have HB2 := Lib.hid (below_then' (HB1.out _).1 hd)
    have HC2 : Hid (w2.heap[w.heap.size]? = some (.cells #[.int .i64 0, .int .i64 0] 94 (0, 0))) := Lib.hid ((hd.block w.heap.size (Array.getElem?_eq_some_iff.1 (HB1.out _).2).1).trans (HB1.out _).2)
    have cp2 := (HB2.out.cell (p := ⟨t, 256 + x.proc.toNat * 58 + 57, none⟩) htl).trans cp
    clear hd
    go_wp2_with fail
    refine (first_calls _ l2 m _ (Rw.below H2.out.1 HB2.out) H2.out.2.1 H2.out.2.2.1 hm).mono ?_
    rw [H2.out.2.2.2]
    rintro e w3 ⟨rfl, hd⟩
    have HB3 := Lib.hid (below_then' HB2.out hd)
    have HC3 : Hid (w3.heap[w.heap.size]? = some (.cells #[.int .i64 0, .int .i64 0] 94 (0, 0))) := Lib.hid ((hd.block w.heap.size (Array.getElem?_eq_some_iff.1 HC2.out).1).trans HC2.out)
    have c23 := (HB3.out.cell (p := ⟨bb, 2, none⟩) hbl).trans c2
    have cp3 := (HB3.out.cell (p := ⟨t, 256 + x.proc.toNat * 58 + 57, none⟩) htl).trans cp
    have d1 := (HB3.out.cell (p := ⟨g1, i * 2, none⟩) HG1.out).trans HS1.out
    have d2 := (HB3.out.cell (p := ⟨g2, k * 2, none⟩) HG2.out).trans HS2.out
    clear hd cp2
    go_wp2
    go_quiet (fail)
    have HB3d := Lib.hid (below_drewN HB3.out nq)
    have HC3d : Hid ((w3.drewN nq).heap[w.heap.size]? = some (.cells #[.int .i64 0, .int .i64 0] 94 (0, 0))) := Lib.hid HC3.out
    clear c23 cp3
    generalize w3.drewN nq = w3d at *
    clear HB3 HC3
    have HB3 := HB3d
    have HC3 := HC3d
    have c23 := (HB3.out.cell (p := ⟨bb, 2, none⟩) hbl).trans c2
    have cp3 := (HB3.out.cell (p := ⟨t, 256 + x.proc.toNat * 58 + 57, none⟩) htl).trans cp
    have HPC : Hid (∀ j v, (#[.int .i64 ya, .int .i64 yb] : Array Value)[j]? = some v → w3d.cell? ((⟨g1, i * 2, none⟩ : Addr).add j) = some v) := Lib.hid (pair_cells ((HB3.out.cell (p := ⟨g1, i * 2, none⟩) HGL.out).trans HYA.out) ((HB3.out.cell (p := ⟨g1, i * 2 + 1, none⟩) HGL.out).trans HYB.out))
    clear HB3d HC3d
    go_wp2_with ((with_reducible change wpList _ _ _ (⟨_, .load 94 (.tmp 69), _, _, _, _⟩ :: _) _ _); refine wpList_load_cells (by rfl) 94 (.tmp 69) rfl ⟨g1, i * 2, none⟩ rfl #[.int .i64 ya, .int .i64 yb] _ HPC.out Try.underlying94 rfl (n := 2) (by kernel_rfl) rfl ?_)
    obtain ⟨W4, hW4⟩ : ∃ W4, (w3d.alloc (.cells #[.int .i64 ya, .int .i64 yb] 94)) = W4 := ⟨_, rfl⟩
    have hb4 : Below w.heap.size w W4 := by rw [← hW4]; exact HB3.out.alloc HB3.out.size _
    have hr4 : W4.heap[w.heap.size]? = some (.cells #[.int .i64 0, .int .i64 0] 94 (0, 0)) := by
      rw [← hW4]
      exact (Below.heap_alloc w3d _ w.heap.size (Array.getElem?_eq_some_iff.1 HC3.out).1).trans HC3.out
    have hsz4 : W4.heap.size = w3d.heap.size + 1 := by rw [← hW4]; simp
    have hn4 : W4.heap[w3d.heap.size]? = some (.cells #[.int .i64 ya, .int .i64 yb] 94 (0, 0)) := by rw [← hW4]; exact heap_alloc_new w3d _
    rw [hW4]
    clear hW4
    have cf4 := (hb4.cell (p := ⟨bb, 2, none⟩) hbl).trans c2
    have ff4 := (hb4.frozen (p := ⟨bb, 2, none⟩) hbl).trans f2
    have flt4 : bb < W4.heap.size := Nat.lt_of_lt_of_le hbl hb4.size
    have HW4 := Lib.hid (And.intro hb4 (And.intro hr4 hn4))
    have hlt4 := (Array.getElem?_eq_some_iff.1 hr4).1
    have hlt4b := (Array.getElem?_eq_some_iff.1 hn4).1
    have hLx := Rw.below H1.out.1 hb4
    have hcut := Rw.cut (Ls.drew hLx) i i (Nat.le_of_lt HIL.out) (Nat.le_refl _) (Nat.le_of_lt (Nat.lt_of_lt_of_le HIL.out HCAP.out)) (by simp)
    rw [← pcells_take] at hcut
    have HCUT := Lib.hid (And.intro hcut hLx)
    obtain ⟨i0, hi0, hz0, hz1, hz2⟩ := info_parts info94
    have HINF := Lib.hid (And.intro hi0 (And.intro hz0 (And.intro hz1 hz2)))
    have hjc : (i : Int) ≤ (cap1 : Int) := by have := HIL.out; have := HCAP.out; omega
    have hj1 : (0 : Int) ≤ (i : Int) + 1 := by omega
    have hj2 : (i : Int) + 1 ≤ (l1.length : Int) := by have := HIL.out; omega
    have hw : IntKind.i64.wrap ((i : Int) + 1) = (i : Int) + 1 := IntWalk.i64_in _ (by have := H1.out.2.1; omega)
    have htn : ((i : Int) + 1).toNat = i + 1 := by omega
    clear hb4 hr4 hn4 hi0 hz0 hz1 hz2 hLx hcut
    go_region_law (first
      | (refine step_append_rw _ (by rfl) (.tmp 77) (.tmp 83) 71 (by rfl) 94 i0 (.agg #[.int .i64 0, .int .i64 0]) 2 16 Try.underlying71 HINF.out.1 HINF.out.2.1 HINF.out.2.2.1 HINF.out.2.2.2 rfl (by decide) (.slice (some ⟨g1, 0, none⟩) i i) i (pcells (l1.take i)) (by rfl) HCUT.out.1
          (if cap1 = i + 1 then some ⟨g1, 0, none⟩ else some ⟨g1, (i + 1) * 2, none⟩) (l1.length - (i + 1)) (cap1 - (i + 1)) (pcells (l1.drop (i + 1))) (by rfl) (by rw [pcells_len, List.length_drop]) (tail_cells (Ls.drew HCUT.out.2) i HCAP.out) ite_some_ne (pcells_one _) (by have := H1.out.2.1; have := HIL.out; unfold maxLen; omega) (by have := H1.out.2.1; have := HIL.out; omega) ?_
         intro v' w5 hr5 _ ho5 hb5
         replace hb5 := hb5 _ rfl
         have hlen5 : i + (l1.length - (i + 1)) = (l1.take i ++ l1.drop (i + 1)).length := (by have := HIL.out; rw [List.length_append, List.length_take, List.length_drop]; omega)
         rw [← pcells_append, hlen5] at hr5
         have hL5 : Ls w5 94 v' (l1.take i ++ l1.drop (i + 1)) := hr5
         obtain ⟨A5, c5, hv5, _⟩ := hL5.at
         obtain ⟨n5, hn5⟩ : ∃ n5, (l1.take i ++ l1.drop (i + 1)).length = n5 := ⟨_, rfl⟩
         rw [hn5] at hv5
         subst hv5
         have hc5 := (hb5.cell (p := ⟨bb, 2, none⟩) flt4).trans cf4
         have hf5 := (hb5.frozen (p := ⟨bb, 2, none⟩) flt4).trans ff4
         have H5 := Lib.hid (And.intro hL5 (And.intro hb5 ho5))
         clear hr5 ho5 hb5 hlen5 hL5 hn5))
    all_goals
      have hb5' : Below W4.heap.size W4 w5 := ⟨H5.out.2.1.os, H5.out.2.1.tape, H5.out.2.1.output, H5.out.2.1.size, H5.out.2.1.block⟩
      have hn5 : (w5.setCell ⟨bb, 2, none⟩ (.slice A5 n5 c5)).heap[w3d.heap.size]? = some (.cells #[.int .i64 ya, .int .i64 yb] 94 (0, 0)) := (Below.heap_setCell w5 ⟨bb, 2, none⟩ _ w3d.heap.size (Nat.ne_of_gt (Nat.lt_of_lt_of_le hbl HB3.out.size))).trans ((hb5'.block _ hlt4b).trans HW4.out.2.2)
      have hr5 : (w5.setCell ⟨bb, 2, none⟩ (.slice A5 n5 c5)).heap[w.heap.size]? = some (.cells #[.int .i64 0, .int .i64 0] 94 (0, 0)) := (Below.heap_setCell w5 ⟨bb, 2, none⟩ _ w.heap.size (Nat.ne_of_gt hbl)).trans ((hb5'.block _ hlt4).trans HW4.out.2.1)
      have hend := (take_end H.out.1 (slot := th) (by omega) HW4.out.1 (Nat.le_refl _) hlt4 HW4.out.2.1 H5.out.1 hb5' (fun g hg => H5.out.2.2.elim (fun h => .inl (by rw [HE1.out]; exact h.symm.trans hg)) (fun h => .inr (by rw [hg] at h; cases h; exact Nat.le_refl _))) (.int .i64 ya) (.int .i64 yb)).1 hi bb x HPB.out HX.out
      have HEND := Lib.hid hend
      have HCE : Hid (∀ j v, (#[.int .i64 ya, .int .i64 yb] : Array Value)[j]? = some v → (w5.setCell ⟨bb, 2, none⟩ (.slice A5 n5 c5)).cell? ((⟨w3d.heap.size, 0, none⟩ : Addr).add j) = some v) := Lib.hid (cells_of_heap hn5)
      obtain ⟨z0, z1⟩ := two_cells hr5
      have y0 := frozen_of_cells hr5 0
      have y1 := frozen_of_cells hr5 1
      have HR5 := Lib.hid (two_set hr5 (.int .i64 ya) (.int .i64 yb))
      generalize w5.setCell ⟨bb, 2, none⟩ (.slice A5 n5 c5) = W6 at *
      clear hb5' hn5 hr5 hend hc5 hf5 hw htn
      go_wp2_with ((with_reducible change wpList _ _ _ (⟨_, .load 94 (.tmp 13), _, _, _, _⟩ :: _) _ _); refine wpList_load_cells (by rfl) 94 (.tmp 13) rfl ⟨w3d.heap.size, 0, none⟩ rfl #[.int .i64 ya, .int .i64 yb] _ HCE.out Try.underlying94 rfl (n := 2) (by kernel_rfl) rfl ?_)
      all_goals exact bodyPost_ret (results_agg rfl _ _ ⟨w.heap.size, 0, none⟩ #[.int .i64 ya, .int .i64 yb] _ rfl (cells_of_heap HR5.out) Try.underlying94 rfl (n := 2) (by kernel_rfl) rfl) rfl ⟨rfl, HEND.out⟩
set_option maxHeartbeats 4000000 in
set_option maxRecDepth 100000 in
theorem take_other {base t : Nat} {L : Lay} {S : St} (th bb m : Nat) (x : Tk) (w : World) (h : RepL w base t L S) (hin : Inv S 1000) (hi : th < 256) (hx : S.tk th = some x) (hb : L.ptr th = some bb) (hm : m < 18446744073709551616)
    (k : Nat) (hk1 : k < (S.ls (256 + x.proc.toNat)).length) (k1 : firstK (S.ls th) m (S.ls th).length = -1) (k2 : firstK (S.ls (256 + x.proc.toNat)) m (S.ls (256 + x.proc.toNat)).length = (k : Int)) :
    Calls Try.prog 39 #[.pointer (some ⟨t, 0, none⟩), .pointer (some ⟨bb, 0, none⟩), .int .u64 m] w fun e w' => e = .returned (.tuple #[.agg #[.int .i64 ((S.ls (256 + x.proc.toNat)).getD k (0, 0)).1, .int .i64 ((S.ls (256 + x.proc.toNat)).getD k (0, 0)).2], .bool true]) ∧ AfterL base t L { S with ls := upd S.ls (256 + x.proc.toNat) ((S.ls (256 + x.proc.toNat)).take k ++ (S.ls (256 + x.proc.toNat)).drop (k + 1)) } w w' := by
    obtain ⟨b', hb', _, hbl, hbc, hc⟩ := h.task_cell hi hx
    rw [hb] at hb'
    cases hb'
    obtain ⟨hp0, hp1, _⟩ := hin.task th hi x hx
    have c0 : w.cell? ⟨bb, 0, none⟩ = some (.int .i64 x.proc) := by rw [cell_of_row _ _ _ _ _ _ hbc]; rfl
    have c2 : w.cell? ⟨bb, 2, none⟩ = some (L.lv th) := by rw [cell_of_row _ _ _ _ _ _ hbc]; rfl
    have f2 : w.frozen? ⟨bb, 2, none⟩ = false := frozen_of_cells hbc 2
    have cp : w.cell? ⟨t, 256 + x.proc.toNat * 58 + 57, none⟩ = some (L.lv (256 + x.proc.toNat)) := by
      rw [h.cellT _ (by omega), tcell_lv L S x.proc.toNat _ (by omega) rfl]
    have fp := h.frozenT (256 + x.proc.toNat * 58 + 57)
    have hr1 := h.row th (by omega)
    have hr2 := h.row (256 + x.proc.toNat) (by omega)
    have hs1 := hin.sig th (by omega)
    have hs2 := hin.sig (256 + x.proc.toNat) (by omega)
    have hl1 := hin.len th (by omega)
    have hl2 := hin.len (256 + x.proc.toNat) (by omega)
    have htl := h.lt
    have HPB := Lib.hid hb
    have HX := Lib.hid hx
    have H := Lib.hid (And.intro h hin)
    obtain ⟨A1, cap1, e1, hcap1, hm1, _, hat1⟩ := hr1.at
    obtain ⟨A2, cap2, e2, hcap2, hm2, _, hat2⟩ := hr2.at
    have HE1 := Lib.hid e1
    have HE2 := Lib.hid e2
    rw [e1] at c2 hr1
    rw [e2] at cp hr2
    replace hm1 : cap1 ≤ 9223372036854775807 := by unfold maxLen at hm1; omega
    replace hm2 : cap2 ≤ 9223372036854775807 := by unfold maxLen at hm2; omega
    have hpn : x.proc < 64 := hp1
    clear h hin hx hb hbc hc e1 e2
    generalize S.ls th = l1 at *
    generalize S.ls (256 + x.proc.toNat) = l2 at *
    obtain ⟨g2, rfl, hg2, ha2, hb2⟩ := hat2 k hk1
    have hk0 : (0 : Int) ≤ (k : Int) := by omega
    have hkl : (k : Int) < (l2.length : Int) := by omega
    have HG2 := Lib.hid hg2
    have HS2 := Lib.hid ha2
    have HYB := Lib.hid hb2
    have HGL := Lib.hid hg2
    have HIL := Lib.hid hk1
    have HCAP := Lib.hid hcap2
    have H1 := Lib.hid (And.intro hr1 (And.intro hl1 (And.intro hs1 k1)))
    have H2 := Lib.hid (And.intro hr2 (And.intro hl2 (And.intro hs2 k2)))
    have HYA := HS2
    clear hat1 hat2 hr1 hr2 hl1 hl2 hs1 hs2 k1 k2 ha2 hb2 hg2
    generalize (l2.getD k (0, 0)).1 = ya at *
    generalize (l2.getD k (0, 0)).2 = yb at *
    have HB1 : Hid (∀ n, Below w.heap.size w ((w.alloc (.cells #[.int .i64 0, .int .i64 0] 94)).drewN n) ∧ ((w.alloc (.cells #[.int .i64 0, .int .i64 0] 94)).drewN n).heap[w.heap.size]? = some (.cells #[.int .i64 0, .int .i64 0] 94 (0, 0))) := Lib.hid fun n => ⟨below_drewN ((Below.refl _ _).alloc (Nat.le_refl _) _) n, heap_alloc_new w _⟩
    go_enter Try.func39, Try.ntmps39
    go_wp2
    go_quiet (fail)
    go_wp2_with fail
    refine (first_calls _ l1 m _ (Rw.below H1.out.1 (HB1.out _).1) H1.out.2.1 H1.out.2.2.1 hm).mono ?_
    rw [H1.out.2.2.2]
    rintro e w2 ⟨rfl, hd⟩
    have HB2 := Lib.hid (below_then' (HB1.out _).1 hd)
    have HC2 : Hid (w2.heap[w.heap.size]? = some (.cells #[.int .i64 0, .int .i64 0] 94 (0, 0))) := Lib.hid ((hd.block w.heap.size (Array.getElem?_eq_some_iff.1 (HB1.out _).2).1).trans (HB1.out _).2)
    have cp2 := (HB2.out.cell (p := ⟨t, 256 + x.proc.toNat * 58 + 57, none⟩) htl).trans cp
    clear hd
    go_wp2_with fail
    refine (first_calls _ l2 m _ (Rw.below H2.out.1 HB2.out) H2.out.2.1 H2.out.2.2.1 hm).mono ?_
    rw [H2.out.2.2.2]
    rintro e w3 ⟨rfl, hd⟩
    have HB3 := Lib.hid (below_then' HB2.out hd)
    have HC3 : Hid (w3.heap[w.heap.size]? = some (.cells #[.int .i64 0, .int .i64 0] 94 (0, 0))) := Lib.hid ((hd.block w.heap.size (Array.getElem?_eq_some_iff.1 HC2.out).1).trans HC2.out)
    have c23 := (HB3.out.cell (p := ⟨bb, 2, none⟩) hbl).trans c2
    have cp3 := (HB3.out.cell (p := ⟨t, 256 + x.proc.toNat * 58 + 57, none⟩) htl).trans cp
    skip
    clear hd cp2
    go_wp2
    go_quiet (fail)
    have HB3d := Lib.hid (below_drewN HB3.out nq)
    have HC3d : Hid ((w3.drewN nq).heap[w.heap.size]? = some (.cells #[.int .i64 0, .int .i64 0] 94 (0, 0))) := Lib.hid HC3.out
    clear c23 cp3
    generalize w3.drewN nq = w3d at *
    clear HB3 HC3
    have HB3 := HB3d
    have HC3 := HC3d
    have c23 := (HB3.out.cell (p := ⟨bb, 2, none⟩) hbl).trans c2
    have cp3 := (HB3.out.cell (p := ⟨t, 256 + x.proc.toNat * 58 + 57, none⟩) htl).trans cp
    have HPC : Hid (∀ j v, (#[.int .i64 ya, .int .i64 yb] : Array Value)[j]? = some v → w3d.cell? ((⟨g2, k * 2, none⟩ : Addr).add j) = some v) := Lib.hid (pair_cells ((HB3.out.cell (p := ⟨g2, k * 2, none⟩) HGL.out).trans HYA.out) ((HB3.out.cell (p := ⟨g2, k * 2 + 1, none⟩) HGL.out).trans HYB.out))
    clear HB3d HC3d
    go_wp2_with ((with_reducible change wpList _ _ _ (⟨_, .load 94 (.tmp 69), _, _, _, _⟩ :: _) _ _); refine wpList_load_cells (by rfl) 94 (.tmp 69) rfl ⟨g2, k * 2, none⟩ rfl #[.int .i64 ya, .int .i64 yb] _ HPC.out Try.underlying94 rfl (n := 2) (by kernel_rfl) rfl ?_)
    obtain ⟨W4, hW4⟩ : ∃ W4, (w3d.alloc (.cells #[.int .i64 ya, .int .i64 yb] 94)) = W4 := ⟨_, rfl⟩
    have hb4 : Below w.heap.size w W4 := by rw [← hW4]; exact HB3.out.alloc HB3.out.size _
    have hr4 : W4.heap[w.heap.size]? = some (.cells #[.int .i64 0, .int .i64 0] 94 (0, 0)) := by
      rw [← hW4]
      exact (Below.heap_alloc w3d _ w.heap.size (Array.getElem?_eq_some_iff.1 HC3.out).1).trans HC3.out
    have hsz4 : W4.heap.size = w3d.heap.size + 1 := by rw [← hW4]; simp
    have hn4 : W4.heap[w3d.heap.size]? = some (.cells #[.int .i64 ya, .int .i64 yb] 94 (0, 0)) := by rw [← hW4]; exact heap_alloc_new w3d _
    rw [hW4]
    clear hW4
    have cf4 := (hb4.cell (p := ⟨t, 256 + x.proc.toNat * 58 + 57, none⟩) htl).trans cp
    have ff4 := (hb4.frozen (p := ⟨t, 256 + x.proc.toNat * 58 + 57, none⟩) htl).trans fp
    have flt4 : t < W4.heap.size := Nat.lt_of_lt_of_le htl hb4.size
    have HW4 := Lib.hid (And.intro hb4 (And.intro hr4 hn4))
    have hlt4 := (Array.getElem?_eq_some_iff.1 hr4).1
    have hlt4b := (Array.getElem?_eq_some_iff.1 hn4).1
    have hLx := Rw.below H2.out.1 hb4
    have hcut := Rw.cut (Ls.drew hLx) k k (Nat.le_of_lt HIL.out) (Nat.le_refl _) (Nat.le_of_lt (Nat.lt_of_lt_of_le HIL.out HCAP.out)) (by simp)
    rw [← pcells_take] at hcut
    have HCUT := Lib.hid (And.intro hcut hLx)
    obtain ⟨i0, hi0, hz0, hz1, hz2⟩ := info_parts info94
    have HINF := Lib.hid (And.intro hi0 (And.intro hz0 (And.intro hz1 hz2)))
    have hjc : (k : Int) ≤ (cap2 : Int) := by have := HIL.out; have := HCAP.out; omega
    have hj1 : (0 : Int) ≤ (k : Int) + 1 := by omega
    have hj2 : (k : Int) + 1 ≤ (l2.length : Int) := by have := HIL.out; omega
    have hw : IntKind.i64.wrap ((k : Int) + 1) = (k : Int) + 1 := IntWalk.i64_in _ (by have := H2.out.2.1; omega)
    have htn : ((k : Int) + 1).toNat = k + 1 := by omega
    clear hb4 hr4 hn4 hi0 hz0 hz1 hz2 hLx hcut
    go_region_law (first
      | (refine step_append_rw _ (by rfl) (.tmp 77) (.tmp 83) 71 (by rfl) 94 i0 (.agg #[.int .i64 0, .int .i64 0]) 2 16 Try.underlying71 HINF.out.1 HINF.out.2.1 HINF.out.2.2.1 HINF.out.2.2.2 rfl (by decide) (.slice (some ⟨g2, 0, none⟩) k k) k (pcells (l2.take k)) (by rfl) HCUT.out.1
          (if cap2 = k + 1 then some ⟨g2, 0, none⟩ else some ⟨g2, (k + 1) * 2, none⟩) (l2.length - (k + 1)) (cap2 - (k + 1)) (pcells (l2.drop (k + 1))) (by rfl) (by rw [pcells_len, List.length_drop]) (tail_cells (Ls.drew HCUT.out.2) k HCAP.out) ite_some_ne (pcells_one _) (by have := H2.out.2.1; have := HIL.out; unfold maxLen; omega) (by have := H2.out.2.1; have := HIL.out; omega) ?_
         intro v' w5 hr5 _ ho5 hb5
         replace hb5 := hb5 _ rfl
         have hlen5 : k + (l2.length - (k + 1)) = (l2.take k ++ l2.drop (k + 1)).length := (by have := HIL.out; rw [List.length_append, List.length_take, List.length_drop]; omega)
         rw [← pcells_append, hlen5] at hr5
         have hL5 : Ls w5 94 v' (l2.take k ++ l2.drop (k + 1)) := hr5
         obtain ⟨A5, c5, hv5, _⟩ := hL5.at
         obtain ⟨n5, hn5⟩ : ∃ n5, (l2.take k ++ l2.drop (k + 1)).length = n5 := ⟨_, rfl⟩
         rw [hn5] at hv5
         subst hv5
         have hc5 := (hb5.cell (p := ⟨t, 256 + x.proc.toNat * 58 + 57, none⟩) flt4).trans cf4
         have hf5 := (hb5.frozen (p := ⟨t, 256 + x.proc.toNat * 58 + 57, none⟩) flt4).trans ff4
         have H5 := Lib.hid (And.intro hL5 (And.intro hb5 ho5))
         clear hr5 ho5 hb5 hlen5 hL5 hn5))
    all_goals
      have hb5' : Below W4.heap.size W4 w5 := ⟨H5.out.2.1.os, H5.out.2.1.tape, H5.out.2.1.output, H5.out.2.1.size, H5.out.2.1.block⟩
      have hn5 : (w5.setCell ⟨t, 256 + x.proc.toNat * 58 + 57, none⟩ (.slice A5 n5 c5)).heap[w3d.heap.size]? = some (.cells #[.int .i64 ya, .int .i64 yb] 94 (0, 0)) := (Below.heap_setCell w5 ⟨t, 256 + x.proc.toNat * 58 + 57, none⟩ _ w3d.heap.size (Nat.ne_of_gt (Nat.lt_of_lt_of_le htl HB3.out.size))).trans ((hb5'.block _ hlt4b).trans HW4.out.2.2)
      have hr5 : (w5.setCell ⟨t, 256 + x.proc.toNat * 58 + 57, none⟩ (.slice A5 n5 c5)).heap[w.heap.size]? = some (.cells #[.int .i64 0, .int .i64 0] 94 (0, 0)) := (Below.heap_setCell w5 ⟨t, 256 + x.proc.toNat * 58 + 57, none⟩ _ w.heap.size (Nat.ne_of_gt htl)).trans ((hb5'.block _ hlt4).trans HW4.out.2.1)
      have hend := (take_end H.out.1 (slot := 256 + x.proc.toNat) (by omega) HW4.out.1 (Nat.le_refl _) hlt4 HW4.out.2.1 H5.out.1 hb5' (fun g hg => H5.out.2.2.elim (fun h => .inl (by rw [HE2.out]; exact h.symm.trans hg)) (fun h => .inr (by rw [hg] at h; cases h; exact Nat.le_refl _))) (.int .i64 ya) (.int .i64 yb)).2 x.proc.toNat (256 + x.proc.toNat * 58 + 57) rfl rfl
      have HEND := Lib.hid hend
      have HCE : Hid (∀ j v, (#[.int .i64 ya, .int .i64 yb] : Array Value)[j]? = some v → (w5.setCell ⟨t, 256 + x.proc.toNat * 58 + 57, none⟩ (.slice A5 n5 c5)).cell? ((⟨w3d.heap.size, 0, none⟩ : Addr).add j) = some v) := Lib.hid (cells_of_heap hn5)
      obtain ⟨z0, z1⟩ := two_cells hr5
      have y0 := frozen_of_cells hr5 0
      have y1 := frozen_of_cells hr5 1
      have HR5 := Lib.hid (two_set hr5 (.int .i64 ya) (.int .i64 yb))
      generalize w5.setCell ⟨t, 256 + x.proc.toNat * 58 + 57, none⟩ (.slice A5 n5 c5) = W6 at *
      clear hb5' hn5 hr5 hend hc5 hf5 hw htn
      go_wp2_with ((with_reducible change wpList _ _ _ (⟨_, .load 94 (.tmp 13), _, _, _, _⟩ :: _) _ _); refine wpList_load_cells (by rfl) 94 (.tmp 13) rfl ⟨w3d.heap.size, 0, none⟩ rfl #[.int .i64 ya, .int .i64 yb] _ HCE.out Try.underlying94 rfl (n := 2) (by kernel_rfl) rfl ?_)
      all_goals exact bodyPost_ret (results_agg rfl _ _ ⟨w.heap.size, 0, none⟩ #[.int .i64 ya, .int .i64 yb] _ rfl (cells_of_heap HR5.out) Try.underlying94 rfl (n := 2) (by kernel_rfl) rfl) rfl ⟨rfl, HEND.out⟩
set_option maxHeartbeats 4000000 in
set_option maxRecDepth 100000 in
theorem take_other2 {base t : Nat} {L : Lay} {S : St} (th bb m : Nat) (x : Tk) (w : World) (h : RepL w base t L S) (hin : Inv S 1000) (hi : th < 256) (hx : S.tk th = some x) (hb : L.ptr th = some bb) (hm : m < 18446744073709551616)
    (i k : Nat) (hi1 : i < (S.ls th).length) (hk1 : k < (S.ls (256 + x.proc.toNat)).length) (k1 : firstK (S.ls th) m (S.ls th).length = (i : Int)) (k2 : firstK (S.ls (256 + x.proc.toNat)) m (S.ls (256 + x.proc.toNat)).length = (k : Int)) (hless : ((S.ls (256 + x.proc.toNat)).getD k (0, 0)).1 < ((S.ls th).getD i (0, 0)).1) :
    Calls Try.prog 39 #[.pointer (some ⟨t, 0, none⟩), .pointer (some ⟨bb, 0, none⟩), .int .u64 m] w fun e w' => e = .returned (.tuple #[.agg #[.int .i64 ((S.ls (256 + x.proc.toNat)).getD k (0, 0)).1, .int .i64 ((S.ls (256 + x.proc.toNat)).getD k (0, 0)).2], .bool true]) ∧ AfterL base t L { S with ls := upd S.ls (256 + x.proc.toNat) ((S.ls (256 + x.proc.toNat)).take k ++ (S.ls (256 + x.proc.toNat)).drop (k + 1)) } w w' := by
    obtain ⟨b', hb', _, hbl, hbc, hc⟩ := h.task_cell hi hx
    rw [hb] at hb'
    cases hb'
    obtain ⟨hp0, hp1, _⟩ := hin.task th hi x hx
    have c0 : w.cell? ⟨bb, 0, none⟩ = some (.int .i64 x.proc) := by rw [cell_of_row _ _ _ _ _ _ hbc]; rfl
    have c2 : w.cell? ⟨bb, 2, none⟩ = some (L.lv th) := by rw [cell_of_row _ _ _ _ _ _ hbc]; rfl
    have f2 : w.frozen? ⟨bb, 2, none⟩ = false := frozen_of_cells hbc 2
    have cp : w.cell? ⟨t, 256 + x.proc.toNat * 58 + 57, none⟩ = some (L.lv (256 + x.proc.toNat)) := by
      rw [h.cellT _ (by omega), tcell_lv L S x.proc.toNat _ (by omega) rfl]
    have fp := h.frozenT (256 + x.proc.toNat * 58 + 57)
    have hr1 := h.row th (by omega)
    have hr2 := h.row (256 + x.proc.toNat) (by omega)
    have hs1 := hin.sig th (by omega)
    have hs2 := hin.sig (256 + x.proc.toNat) (by omega)
    have hl1 := hin.len th (by omega)
    have hl2 := hin.len (256 + x.proc.toNat) (by omega)
    have htl := h.lt
    have HPB := Lib.hid hb
    have HX := Lib.hid hx
    have H := Lib.hid (And.intro h hin)
    obtain ⟨A1, cap1, e1, hcap1, hm1, _, hat1⟩ := hr1.at
    obtain ⟨A2, cap2, e2, hcap2, hm2, _, hat2⟩ := hr2.at
    have HE1 := Lib.hid e1
    have HE2 := Lib.hid e2
    rw [e1] at c2 hr1
    rw [e2] at cp hr2
    replace hm1 : cap1 ≤ 9223372036854775807 := by unfold maxLen at hm1; omega
    replace hm2 : cap2 ≤ 9223372036854775807 := by unfold maxLen at hm2; omega
    have hpn : x.proc < 64 := hp1
    clear h hin hx hb hbc hc e1 e2
    generalize S.ls th = l1 at *
    generalize S.ls (256 + x.proc.toNat) = l2 at *
    obtain ⟨g1, rfl, hg1, ha1, hb1⟩ := hat1 i hi1
    have hi0 : (0 : Int) ≤ (i : Int) := by omega
    have hil : (i : Int) < (l1.length : Int) := by omega
    have hin0 : decide ((i : Int) < 0) = false := by simp
    have HG1 := Lib.hid hg1
    have HS1 := Lib.hid ha1
    obtain ⟨g2, rfl, hg2, ha2, hb2⟩ := hat2 k hk1
    have hk0 : (0 : Int) ≤ (k : Int) := by omega
    have hkl : (k : Int) < (l2.length : Int) := by omega
    have HG2 := Lib.hid hg2
    have HS2 := Lib.hid ha2
    have HYB := Lib.hid hb2
    have HGL := Lib.hid hg2
    have HIL := Lib.hid hk1
    have HCAP := Lib.hid hcap2
    have H1 := Lib.hid (And.intro hr1 (And.intro hl1 (And.intro hs1 k1)))
    have H2 := Lib.hid (And.intro hr2 (And.intro hl2 (And.intro hs2 k2)))
    have HYA := HS2
    have hld : decide ((l2.getD k (0, 0)).1 < (l1.getD i (0, 0)).1) = true := decide_eq_true hless
    clear hless
    clear hat1 hat2 hr1 hr2 hl1 hl2 hs1 hs2 k1 k2 ha1 hb1 hg1 ha2 hb2 hg2
    generalize (l1.getD i (0, 0)).1 = s1 at *
    generalize (l2.getD k (0, 0)).1 = s2 at *
    obtain ⟨ya, rfl⟩ : ∃ ya, ya = s2 := ⟨_, rfl⟩
    generalize (l2.getD k (0, 0)).2 = yb at *
    have HB1 : Hid (∀ n, Below w.heap.size w ((w.alloc (.cells #[.int .i64 0, .int .i64 0] 94)).drewN n) ∧ ((w.alloc (.cells #[.int .i64 0, .int .i64 0] 94)).drewN n).heap[w.heap.size]? = some (.cells #[.int .i64 0, .int .i64 0] 94 (0, 0))) := Lib.hid fun n => ⟨below_drewN ((Below.refl _ _).alloc (Nat.le_refl _) _) n, heap_alloc_new w _⟩
    go_enter Try.func39, Try.ntmps39
    go_wp2
    go_quiet (fail)
    go_wp2_with fail
    refine (first_calls _ l1 m _ (Rw.below H1.out.1 (HB1.out _).1) H1.out.2.1 H1.out.2.2.1 hm).mono ?_
    rw [H1.out.2.2.2]
    rintro e w2 ⟨rfl, hd⟩
    have HB2 := Lib.hid (below_then' (HB1.out _).1 hd)
    have HC2 : Hid (w2.heap[w.heap.size]? = some (.cells #[.int .i64 0, .int .i64 0] 94 (0, 0))) := Lib.hid ((hd.block w.heap.size (Array.getElem?_eq_some_iff.1 (HB1.out _).2).1).trans (HB1.out _).2)
    have cp2 := (HB2.out.cell (p := ⟨t, 256 + x.proc.toNat * 58 + 57, none⟩) htl).trans cp
    clear hd
    go_wp2_with fail
    refine (first_calls _ l2 m _ (Rw.below H2.out.1 HB2.out) H2.out.2.1 H2.out.2.2.1 hm).mono ?_
    rw [H2.out.2.2.2]
    rintro e w3 ⟨rfl, hd⟩
    have HB3 := Lib.hid (below_then' HB2.out hd)
    have HC3 : Hid (w3.heap[w.heap.size]? = some (.cells #[.int .i64 0, .int .i64 0] 94 (0, 0))) := Lib.hid ((hd.block w.heap.size (Array.getElem?_eq_some_iff.1 HC2.out).1).trans HC2.out)
    have c23 := (HB3.out.cell (p := ⟨bb, 2, none⟩) hbl).trans c2
    have cp3 := (HB3.out.cell (p := ⟨t, 256 + x.proc.toNat * 58 + 57, none⟩) htl).trans cp
    have d1 := (HB3.out.cell (p := ⟨g1, i * 2, none⟩) HG1.out).trans HS1.out
    have d2 := (HB3.out.cell (p := ⟨g2, k * 2, none⟩) HG2.out).trans HS2.out
    clear hd cp2
    go_wp2
    go_quiet (fail)
    have HB3d := Lib.hid (below_drewN HB3.out nq)
    have HC3d : Hid ((w3.drewN nq).heap[w.heap.size]? = some (.cells #[.int .i64 0, .int .i64 0] 94 (0, 0))) := Lib.hid HC3.out
    clear c23 cp3
    generalize w3.drewN nq = w3d at *
    clear HB3 HC3
    have HB3 := HB3d
    have HC3 := HC3d
    have c23 := (HB3.out.cell (p := ⟨bb, 2, none⟩) hbl).trans c2
    have cp3 := (HB3.out.cell (p := ⟨t, 256 + x.proc.toNat * 58 + 57, none⟩) htl).trans cp
    have HPC : Hid (∀ j v, (#[.int .i64 ya, .int .i64 yb] : Array Value)[j]? = some v → w3d.cell? ((⟨g2, k * 2, none⟩ : Addr).add j) = some v) := Lib.hid (pair_cells ((HB3.out.cell (p := ⟨g2, k * 2, none⟩) HGL.out).trans HYA.out) ((HB3.out.cell (p := ⟨g2, k * 2 + 1, none⟩) HGL.out).trans HYB.out))
    clear HB3d HC3d
    go_wp2_with ((with_reducible change wpList _ _ _ (⟨_, .load 94 (.tmp 69), _, _, _, _⟩ :: _) _ _); refine wpList_load_cells (by rfl) 94 (.tmp 69) rfl ⟨g2, k * 2, none⟩ rfl #[.int .i64 ya, .int .i64 yb] _ HPC.out Try.underlying94 rfl (n := 2) (by kernel_rfl) rfl ?_)
    obtain ⟨W4, hW4⟩ : ∃ W4, (w3d.alloc (.cells #[.int .i64 ya, .int .i64 yb] 94)) = W4 := ⟨_, rfl⟩
    have hb4 : Below w.heap.size w W4 := by rw [← hW4]; exact HB3.out.alloc HB3.out.size _
    have hr4 : W4.heap[w.heap.size]? = some (.cells #[.int .i64 0, .int .i64 0] 94 (0, 0)) := by
      rw [← hW4]
      exact (Below.heap_alloc w3d _ w.heap.size (Array.getElem?_eq_some_iff.1 HC3.out).1).trans HC3.out
    have hsz4 : W4.heap.size = w3d.heap.size + 1 := by rw [← hW4]; simp
    have hn4 : W4.heap[w3d.heap.size]? = some (.cells #[.int .i64 ya, .int .i64 yb] 94 (0, 0)) := by rw [← hW4]; exact heap_alloc_new w3d _
    rw [hW4]
    clear hW4
    have cf4 := (hb4.cell (p := ⟨t, 256 + x.proc.toNat * 58 + 57, none⟩) htl).trans cp
    have ff4 := (hb4.frozen (p := ⟨t, 256 + x.proc.toNat * 58 + 57, none⟩) htl).trans fp
    have flt4 : t < W4.heap.size := Nat.lt_of_lt_of_le htl hb4.size
    have HW4 := Lib.hid (And.intro hb4 (And.intro hr4 hn4))
    have hlt4 := (Array.getElem?_eq_some_iff.1 hr4).1
    have hlt4b := (Array.getElem?_eq_some_iff.1 hn4).1
    have hLx := Rw.below H2.out.1 hb4
    have hcut := Rw.cut (Ls.drew hLx) k k (Nat.le_of_lt HIL.out) (Nat.le_refl _) (Nat.le_of_lt (Nat.lt_of_lt_of_le HIL.out HCAP.out)) (by simp)
    rw [← pcells_take] at hcut
    have HCUT := Lib.hid (And.intro hcut hLx)
    obtain ⟨i0, hi0, hz0, hz1, hz2⟩ := info_parts info94
    have HINF := Lib.hid (And.intro hi0 (And.intro hz0 (And.intro hz1 hz2)))
    have hjc : (k : Int) ≤ (cap2 : Int) := by have := HIL.out; have := HCAP.out; omega
    have hj1 : (0 : Int) ≤ (k : Int) + 1 := by omega
    have hj2 : (k : Int) + 1 ≤ (l2.length : Int) := by have := HIL.out; omega
    have hw : IntKind.i64.wrap ((k : Int) + 1) = (k : Int) + 1 := IntWalk.i64_in _ (by have := H2.out.2.1; omega)
    have htn : ((k : Int) + 1).toNat = k + 1 := by omega
    clear hb4 hr4 hn4 hi0 hz0 hz1 hz2 hLx hcut
    go_region_law (first
      | (refine step_append_rw _ (by rfl) (.tmp 77) (.tmp 83) 71 (by rfl) 94 i0 (.agg #[.int .i64 0, .int .i64 0]) 2 16 Try.underlying71 HINF.out.1 HINF.out.2.1 HINF.out.2.2.1 HINF.out.2.2.2 rfl (by decide) (.slice (some ⟨g2, 0, none⟩) k k) k (pcells (l2.take k)) (by rfl) HCUT.out.1
          (if cap2 = k + 1 then some ⟨g2, 0, none⟩ else some ⟨g2, (k + 1) * 2, none⟩) (l2.length - (k + 1)) (cap2 - (k + 1)) (pcells (l2.drop (k + 1))) (by rfl) (by rw [pcells_len, List.length_drop]) (tail_cells (Ls.drew HCUT.out.2) k HCAP.out) ite_some_ne (pcells_one _) (by have := H2.out.2.1; have := HIL.out; unfold maxLen; omega) (by have := H2.out.2.1; have := HIL.out; omega) ?_
         intro v' w5 hr5 _ ho5 hb5
         replace hb5 := hb5 _ rfl
         have hlen5 : k + (l2.length - (k + 1)) = (l2.take k ++ l2.drop (k + 1)).length := (by have := HIL.out; rw [List.length_append, List.length_take, List.length_drop]; omega)
         rw [← pcells_append, hlen5] at hr5
         have hL5 : Ls w5 94 v' (l2.take k ++ l2.drop (k + 1)) := hr5
         obtain ⟨A5, c5, hv5, _⟩ := hL5.at
         obtain ⟨n5, hn5⟩ : ∃ n5, (l2.take k ++ l2.drop (k + 1)).length = n5 := ⟨_, rfl⟩
         rw [hn5] at hv5
         subst hv5
         have hc5 := (hb5.cell (p := ⟨t, 256 + x.proc.toNat * 58 + 57, none⟩) flt4).trans cf4
         have hf5 := (hb5.frozen (p := ⟨t, 256 + x.proc.toNat * 58 + 57, none⟩) flt4).trans ff4
         have H5 := Lib.hid (And.intro hL5 (And.intro hb5 ho5))
         clear hr5 ho5 hb5 hlen5 hL5 hn5))
    all_goals
      have hb5' : Below W4.heap.size W4 w5 := ⟨H5.out.2.1.os, H5.out.2.1.tape, H5.out.2.1.output, H5.out.2.1.size, H5.out.2.1.block⟩
      have hn5 : (w5.setCell ⟨t, 256 + x.proc.toNat * 58 + 57, none⟩ (.slice A5 n5 c5)).heap[w3d.heap.size]? = some (.cells #[.int .i64 ya, .int .i64 yb] 94 (0, 0)) := (Below.heap_setCell w5 ⟨t, 256 + x.proc.toNat * 58 + 57, none⟩ _ w3d.heap.size (Nat.ne_of_gt (Nat.lt_of_lt_of_le htl HB3.out.size))).trans ((hb5'.block _ hlt4b).trans HW4.out.2.2)
      have hr5 : (w5.setCell ⟨t, 256 + x.proc.toNat * 58 + 57, none⟩ (.slice A5 n5 c5)).heap[w.heap.size]? = some (.cells #[.int .i64 0, .int .i64 0] 94 (0, 0)) := (Below.heap_setCell w5 ⟨t, 256 + x.proc.toNat * 58 + 57, none⟩ _ w.heap.size (Nat.ne_of_gt htl)).trans ((hb5'.block _ hlt4).trans HW4.out.2.1)
      have hend := (take_end H.out.1 (slot := 256 + x.proc.toNat) (by omega) HW4.out.1 (Nat.le_refl _) hlt4 HW4.out.2.1 H5.out.1 hb5' (fun g hg => H5.out.2.2.elim (fun h => .inl (by rw [HE2.out]; exact h.symm.trans hg)) (fun h => .inr (by rw [hg] at h; cases h; exact Nat.le_refl _))) (.int .i64 ya) (.int .i64 yb)).2 x.proc.toNat (256 + x.proc.toNat * 58 + 57) rfl rfl
      have HEND := Lib.hid hend
      have HCE : Hid (∀ j v, (#[.int .i64 ya, .int .i64 yb] : Array Value)[j]? = some v → (w5.setCell ⟨t, 256 + x.proc.toNat * 58 + 57, none⟩ (.slice A5 n5 c5)).cell? ((⟨w3d.heap.size, 0, none⟩ : Addr).add j) = some v) := Lib.hid (cells_of_heap hn5)
      obtain ⟨z0, z1⟩ := two_cells hr5
      have y0 := frozen_of_cells hr5 0
      have y1 := frozen_of_cells hr5 1
      have HR5 := Lib.hid (two_set hr5 (.int .i64 ya) (.int .i64 yb))
      generalize w5.setCell ⟨t, 256 + x.proc.toNat * 58 + 57, none⟩ (.slice A5 n5 c5) = W6 at *
      clear hb5' hn5 hr5 hend hc5 hf5 hw htn
      go_wp2_with ((with_reducible change wpList _ _ _ (⟨_, .load 94 (.tmp 13), _, _, _, _⟩ :: _) _ _); refine wpList_load_cells (by rfl) 94 (.tmp 13) rfl ⟨w3d.heap.size, 0, none⟩ rfl #[.int .i64 ya, .int .i64 yb] _ HCE.out Try.underlying94 rfl (n := 2) (by kernel_rfl) rfl ?_)
      all_goals exact bodyPost_ret (results_agg rfl _ _ ⟨w.heap.size, 0, none⟩ #[.int .i64 ya, .int .i64 yb] _ rfl (cells_of_heap HR5.out) Try.underlying94 rfl (n := 2) (by kernel_rfl) rfl) rfl ⟨rfl, HEND.out⟩
end Go.Proofs.Ytbpihfphoniclaa
