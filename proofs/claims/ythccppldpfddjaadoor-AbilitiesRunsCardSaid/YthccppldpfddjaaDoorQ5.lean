/- The reference's rights: with (68). -/
import Derived.Test.YthccppldpfddjaaDoorqQ
import Derived.Deep.AppendLies
import Derived.Deep.RegionLaw
namespace Go.Proofs.YthccppldpfddjaaDoor
open Go.RowKit
set_option linter.unusedVariables false
theorem putAt_at {out : List Rg} {x : Rg} {j : Nat} (hj : j < out.length) (h : ∀ i, i < j → ∀ hi : i < out.length, out[i].1 ≤ x.2) (hg : x.2 < out[j].1) : putAt out x = j := by
  induction out generalizing j with
  | nil => simp at hj
  | cons r l ih =>
    unfold putAt
    cases j with
    | zero =>
      rw [List.takeWhile_cons, if_neg (by simpa using hg)]
      rfl
    | succ j =>
      have h0 := h 0 (by omega) (by simp)
      rw [List.takeWhile_cons, if_pos (by simpa using h0), List.length_cons]
      have := ih (j := j) (by simpa using hj) (fun i hi hl => by have := h (i + 1) (by omega) (by simpa using hl); simpa using this) (by simpa using hg)
      unfold putAt at this
      rw [this]
theorem putAt_all {out : List Rg} {x : Rg} (h : ∀ i, ∀ hi : i < out.length, out[i].1 ≤ x.2) : putAt out x = out.length := by
  induction out with
  | nil => rfl
  | cons r l ih =>
    have h0 := h 0 (by simp)
    unfold putAt
    rw [List.takeWhile_cons, if_pos (by simpa using h0), List.length_cons, List.length_cons]
    have := ih (fun i hl => by have := h (i + 1) (by simpa using hl); simpa using this)
    unfold putAt at this
    rw [this]
theorem putIn_at {out : List Rg} {x : Rg} {j : Nat} (hj : j < out.length) (h : ∀ i, i < j → ∀ hi : i < out.length, out[i].1 ≤ x.2) (hg : x.2 < out[j].1) : putIn out x = out.take j ++ x :: out.drop j := by
  unfold putIn
  rw [putAt_at hj h hg]
theorem putIn_all {out : List Rg} {x : Rg} (h : ∀ i, ∀ hi : i < out.length, out[i].1 ≤ x.2) : putIn out x = out ++ [x] := by
  unfold putIn
  rw [putAt_all h, List.take_length, List.drop_length]
theorem rw_empty {W : World} {b : Nat} (h : W.heap[b]? = some (.cells #[] 116 (0, 0))) : Rw W 116 2 (.slice (some ⟨b, 0, none⟩) 0 0) 0 [] := ⟨rfl, .inr ⟨b, 0, #[], rfl, h, Nat.le_refl _, by simp, by simp, rfl⟩⟩
theorem WI.apps {w : World} {l m : List Rg} {v v' : Value} {W W' : World} {n k : Nat} (hn : n = l.length) (hk : k = m.length) (h : WI w l v W) (h1 : Rw W' 116 2 v' (n + k) (pcells l ++ pcells m)) (h2 : W.grownBy W' v.ownBlock) (h3 : v'.ownBlock = v.ownBlock ∨ v'.ownBlock = some W.heap.size) : WI w (l ++ m) v' W' := by
  subst hn hk
  refine ⟨?_, fun g hg => ?_, h.bel.grown h2 h.bel.size (fun j hj => h.own j hj)⟩
  · show Rw W' 116 2 v' (l ++ m).length (pcells (l ++ m))
    rw [pcells_append, List.length_append]
    exact h1
  · rcases h3 with e | e
    · exact h.own g (by rw [← e]; exact hg)
    · rw [e] at hg; cases hg; exact h.bel.size
theorem WI.row' {w : World} {l : List Rg} {v : Value} {W : World} (h : WI w l v W) {n : Nat} (hn : n = l.length) : Rw W 116 2 v n (pcells l) := by
  subst hn
  exact h.row
theorem ls_take_cells {W : World} {g n c : Nat} {l : List Rg} (h : Ls W 116 (.slice (some ⟨g, 0, none⟩) n c) l) (k : Nat) : ∀ ad, some (⟨g, 0, none⟩ : Addr) = some ad → ∀ i u, (pcells (l.take k))[i]? = some u → W.cell? (ad.add i) = some u := by
  rintro ad e i u hi
  cases e
  refine h.cells rfl i u ?_
  rw [pcells_take, List.getElem?_take] at hi
  split at hi
  · exact hi
  · cases hi
theorem ls_drop_cells {W : World} {g n c : Nat} {l : List Rg} (h : Ls W 116 (.slice (some ⟨g, 0, none⟩) n c) l) (k : Nat) : ∀ ad, some (⟨g, k * 2, none⟩ : Addr) = some ad → ∀ i u, (pcells (l.drop k))[i]? = some u → W.cell? (ad.add i) = some u := by
  rintro ad e i u hi
  cases e
  rw [pcells_drop, List.getElem?_drop] at hi
  have := h.cells rfl (k * 2 + i) u hi
  rw [add_at, Nat.zero_add] at this
  rw [add_at]
  exact this
theorem empty_WI {X W : World} {b : Nat} (hW : W.heap[b]? = some (.cells #[] 116 (0, 0))) (hb : X.heap.size ≤ b) (hB : Below X.heap.size X W) : WI X [] (.slice (some ⟨b, 0, none⟩) 0 0) W :=
  ⟨rw_empty hW, fun g hg => by cases hg; exact hb, hB⟩
theorem alloc_two_first (X : World) (A B : Obj) : ((X.alloc A).alloc B).drew.heap[X.heap.size]? = some A := (Below.heap_alloc (X.alloc A) B _ (by simp)).trans (heap_alloc_new X A)
theorem alloc_two_second (X : World) (A B : Obj) : ((X.alloc A).alloc B).drew.heap[X.heap.size + 1]? = some B := by
  have := heap_alloc_new (X.alloc A) B
  rw [World.size_alloc] at this
  exact this
set_option maxHeartbeats 8000000 in
set_option maxRecDepth 100000 in
theorem rwith_calls (v : Value) (l : List Rg) (lo hi : Int) (w : World) (hl : Ls w 116 v l) (hG : ∀ r ∈ l, okR r) (hlen : l.length ≤ 1000) (hb : okR (lo, hi)) :
    Calls Tryd.prog 68 #[v, .int .i64 lo, .int .i64 hi] w fun e w' => ∃ v', e = .returned v' ∧ Ls w' 116 v' (putIn (wfold l lo hi).1 (wfold l lo hi).2) ∧ Below w.heap.size w w' := by
  obtain ⟨A, c, rfl, -, -, -, -⟩ := Rw.form hl
  have HS := Lib.hid (And.intro hl (And.intro hlen (And.intro hG hb)))
  clear hl hlen hG hb
  go_enter Tryd.func68, Tryd.ntmps68
  go_wp2
  go_loopw [14, 7, 1, 2] (fun i x y z wr => ∃ k : Nat, k ≤ l.length ∧ i = .int .i64 k ∧ y = .int .i64 (wfold (l.take k) lo hi).2.1 ∧ z = .int .i64 (wfold (l.take k) lo hi).2.2 ∧ Hid (WI w (wfold (l.take k) lo hi).1 x wr)) (fun i _ _ _ _ => l.length - (intOf i).toNat)
  case atStart => exact ⟨0, by omega, rfl, rfl, rfl, Lib.hid (WI.nil w (Below.refl _ w))⟩
  case round =>
    obtain ⟨k, hk, rfl, rfl, rfl, HI⟩ := hrel
    obtain ⟨A8, c8, rfl, hcap8, -, -, -⟩ := Rw.form HI.out.row
    by_cases hlt : k < l.length
    · have hlt' : (k : Int) < (l.length : Int) := by omega
      have hk6 : (k : Int) ≤ 1000 := by have := HS.out.2.1; omega
      obtain ⟨g, rfl, hg, q1, q2⟩ := Ls.at (HS.out.1.below HI.out.bel) rfl hlt
      have HT := Lib.hid (wfold_snoc l lo hi hlt)
      have HN := Lib.hid (show (wfold (l.take k) lo hi).1.length ≤ 1000 from by have := wfold_len (l.take k) lo hi; have := HS.out.2.1; rw [List.length_take] at *; omega)
      have HO := Lib.hid (Rw.lt HI.out.row)
      obtain ⟨-, p0, p1, p2⟩ := wfold_ok (l := l.take k) (fun r hr => HS.out.2.2.1 r (List.mem_of_mem_take hr)) HS.out.2.2.2
      obtain ⟨r0, r1, r2⟩ := HS.out.2.2.1 l[k] (List.getElem_mem hlt)
      generalize wfold (l.take k) lo hi = s at *
      generalize l[k] = r at *
      obtain ⟨a, b⟩ := r
      obtain ⟨out, p, q⟩ := s
      unfold MX at p2 r2
      simp only at q1 q2 p0 p1 p2 r0 r1 r2 HI HN HO hcap8 ⊢
      obtain ⟨i0, hi0, hz0, hz1, hz2⟩ := info_parts info116
      by_cases hc : p ≤ b + 1 ∧ a ≤ q + 1
      · have HW := Lib.hid (HI.out.one (.cells #[.int .i64 a, .int .i64 b] 116))
        have HX := Lib.hid (wst_in (o := out) (x := (p, q)) (r := (a, b)) hc)
        obtain ⟨hc1, hc2⟩ := hc
        by_cases hm1 : p ≤ a
        · have hn1 : min p a = p := by omega
          by_cases hm2 : b ≤ q
          · have hn2 : max q b = q := by omega
            go_wp2
            go_quiet (fail)
            go_wp2
            go_roundw
            case rel => exact ⟨k + 1, by omega, by go_num, by rw [HT.out, HX.out]; simp only [hn1], by rw [HT.out, HX.out]; simp only [hn2], Lib.hid (by rw [HT.out, HX.out]; exact HW.out.below (below_dQ (Below.refl _ _) nq))⟩
            case measure => simp [intOf]; omega
          · have hn2 : max q b = b := by omega
            have hm3 : q < b := by omega
            have hm4 : q ≤ b := by omega
            go_wp2
            go_quiet (fail)
            go_wp2
            go_roundw
            case rel => exact ⟨k + 1, by omega, by go_num, by rw [HT.out, HX.out]; simp only [hn1], by rw [HT.out, HX.out]; simp only [hn2], Lib.hid (by rw [HT.out, HX.out]; exact HW.out.below (below_dQ (Below.refl _ _) nq))⟩
            case measure => simp [intOf]; omega
        · have hn1 : min p a = a := by omega
          have hm5 : a < p := by omega
          have hm6 : a ≤ p := by omega
          by_cases hm2 : b ≤ q
          · have hn2 : max q b = q := by omega
            go_wp2
            go_quiet (fail)
            go_wp2
            go_roundw
            case rel => exact ⟨k + 1, by omega, by go_num, by rw [HT.out, HX.out]; simp only [hn1], by rw [HT.out, HX.out]; simp only [hn2], Lib.hid (by rw [HT.out, HX.out]; exact HW.out.below (below_dQ (Below.refl _ _) nq))⟩
            case measure => simp [intOf]; omega
          · have hn2 : max q b = b := by omega
            have hm3 : q < b := by omega
            have hm4 : q ≤ b := by omega
            go_wp2
            go_quiet (fail)
            go_wp2
            go_roundw
            case rel => exact ⟨k + 1, by omega, by go_num, by rw [HT.out, HX.out]; simp only [hn1], by rw [HT.out, HX.out]; simp only [hn2], Lib.hid (by rw [HT.out, HX.out]; exact HW.out.below (below_dQ (Below.refl _ _) nq))⟩
            case measure => simp [intOf]; omega
      · have HW := Lib.hid (HI.out.two (.cells #[.int .i64 a, .int .i64 b] 116) (.cells #[.int .i64 a, .int .i64 b] 116))
        have HNW := Lib.hid (rnews (rnews2 wr (.cells #[.int .i64 a, .int .i64 b] 116) a b))
        have HX := Lib.hid (wst_out (o := out) (x := (p, q)) (r := (a, b)) hc)
        by_cases hc1 : p ≤ b + 1
        · have hc2 : ¬ a ≤ q + 1 := fun h => hc ⟨hc1, h⟩
          clear hc
          go_wp2_with (at_builtin; refine wpList_append_rw _ rfl (.tmp 38) (.tmp 40) 103 rfl 116 i0 (.agg #[.int .i64 0, .int .i64 0]) 2 16 Tryd.underlying103 hi0 hz0 hz1 hz2 rfl (by decide) _ _ _ rfl HW.out.row (some ⟨wr.heap.size + 1, 0, none⟩) 1 1 (pcells [(a, b)]) rfl rfl HNW.out (by simp) (pcells_one _) (by have := HN.out; unfold maxLen; omega) (by have := HN.out; omega) ?_; intro v5 w5 h1 h2 h3 h4; have H5 := Lib.hid (HW.out.app h1 h2 h3); clear h1 h2 h3 h4)
          go_roundw
          case rel => exact ⟨k + 1, by omega, by go_num, by rw [HT.out, HX.out], by rw [HT.out, HX.out], Lib.hid (by rw [HT.out, HX.out]; exact H5.out)⟩
          case measure => simp [intOf]; omega
        · clear hc
          have hc3 : ¬ p ≤ b + 1 := hc1
          go_wp2_with (at_builtin; refine wpList_append_rw _ rfl (.tmp 38) (.tmp 40) 103 rfl 116 i0 (.agg #[.int .i64 0, .int .i64 0]) 2 16 Tryd.underlying103 hi0 hz0 hz1 hz2 rfl (by decide) _ _ _ rfl HW.out.row (some ⟨wr.heap.size + 1, 0, none⟩) 1 1 (pcells [(a, b)]) rfl rfl HNW.out (by simp) (pcells_one _) (by have := HN.out; unfold maxLen; omega) (by have := HN.out; omega) ?_; intro v5 w5 h1 h2 h3 h4; have H5 := Lib.hid (HW.out.app h1 h2 h3); clear h1 h2 h3 h4)
          go_roundw
          case rel => exact ⟨k + 1, by omega, by go_num, by rw [HT.out, HX.out], by rw [HT.out, HX.out], Lib.hid (by rw [HT.out, HX.out]; exact H5.out)⟩
          case measure => simp [intOf]; omega
    · obtain rfl : k = l.length := by omega
      rw [List.take_length] at HI hcap8 ⊢
      have HN := Lib.hid (show (wfold l lo hi).1.length ≤ 1000 from by have := wfold_len l lo hi; have := HS.out.2.1; omega)
      obtain ⟨-, p0, p1, p2⟩ := wfold_ok (l := l) HS.out.2.2.1 HS.out.2.2.2
      generalize hs : wfold l lo hi = s at *
      obtain ⟨out, p, q⟩ := s
      have HSS := Lib.hid hs
      clear hs
      simp only at HI HN hcap8 p0 p1 p2 ⊢
      obtain ⟨i0, hi0, hz0, hz1, hz2⟩ := info_parts info116
      go_wp2
      go_loopw [45] (fun i wr => ∃ j : Nat, j ≤ out.length ∧ i = .int .i64 j ∧ Hid (WI w out (.slice A8 out.length c8) wr) ∧ Hid (∀ i, i < j → ∀ hi : i < out.length, out[i].1 ≤ q)) (fun i _ => out.length - (intOf i).toNat)
      case atStart => exact ⟨0, by omega, rfl, HI, Lib.hid (fun i hi => by omega)⟩
      case round =>
        clear HI
        obtain ⟨j, hj, rfl, HI, HQ⟩ := hrel
        by_cases hlt2 : j < out.length
        · have hlt2' : (j : Int) < (out.length : Int) := by omega
          have hc8' : (j : Int) < (c8 : Int) := by omega
          have hj6 : (j : Int) ≤ 1000 := by have := HN.out; omega
          obtain ⟨g, rfl, hg, q1, q2⟩ := Ls.at HI.out.row rfl hlt2
          by_cases ha : out[j].1 ≤ q
          · have HQ1 := Lib.hid (show ∀ i, i < j + 1 → ∀ hi : i < out.length, out[i].1 ≤ q from fun i hi hl => by
              rcases Nat.lt_succ_iff_lt_or_eq.1 hi with h | h
              · exact HQ.out i h hl
              · subst h; exact ha)
            generalize out[j] = r at *
            obtain ⟨a, b⟩ := r
            simp only at q1 q2 ha
            have ha9 : ¬ q < a := by omega
            go_wp2
            go_roundw
            case rel => exact ⟨j + 1, by omega, by go_num, Lib.hid (HI.out.one _), HQ1⟩
            case measure => simp [intOf]; omega
          · have HPI := Lib.hid (putIn_at (x := (p, q)) hlt2 HQ.out (by simp only; omega))
            generalize out[j] = r at *
            obtain ⟨a, b⟩ := r
            simp only at q1 q2 ha
            have ha9 : q < a := by omega
            go_wp2
            have HX := Lib.hid (HI.out.one (.cells #[.int .i64 a, .int .i64 b] 116))
            have HJ := Lib.hid hlt2
            clear q1 q2 HI
            generalize wr.alloc (.cells #[.int .i64 a, .int .i64 b] 116) = X at *
            have HEA := Lib.hid (empty_WI (X := X) (alloc_two_first X (.cells #[] 116) (.cells #[.int .i64 p, .int .i64 q] 116)) (Nat.le_refl _) (((Below.refl X.heap.size X).alloc (Nat.le_refl _) _).alloc (by simp) _).drew)
            have HEB := Lib.hid (empty_WI (X := X) (alloc_two_second X (.cells #[.int .i64 p, .int .i64 q] 116) (.cells #[] 116)) (by omega) (((Below.refl X.heap.size X).alloc (Nat.le_refl _) _).alloc (by simp) _).drew)
            have HEC := Lib.hid (empty_WI (X := X) (W := (X.alloc (.cells #[] 116)).drew) (heap_alloc_new X _) (Nat.le_refl _) ((Below.refl X.heap.size X).alloc (Nat.le_refl _) _).drew)
            have HLJ := Lib.hid (And.intro (show j = (out.take j).length from by rw [List.length_take]; omega) (show j = ([] ++ out.take j).length from by rw [List.nil_append, List.length_take]; omega))
            have HLT := Lib.hid (show (pcells (out.take j)).length = j * 2 from by rw [pcells_len, List.length_take]; omega)
            have HLD := Lib.hid (show (pcells (out.drop j)).length = (out.length - j) * 2 from by rw [pcells_len, List.length_drop])
            have HLJ2 := Lib.hid (And.intro (show j + 1 = (([] ++ out.take j) ++ [(p, q)]).length from by simp; omega) (show out.length - j = (out.drop j).length from by rw [List.length_drop]))
            have hjc : j ≤ c8 := by omega
            have hjd : ¬ c8 = j := by omega
            go_region_law (first
              | ((with_reducible change @ite _ (Region.wanted ⟨some 58, _, _, _, _, _⟩ _ = true) _ _ _); refine step_append_rw _ (by rfl) (.tmp 54) (.tmp 57) 103 (by rfl) 116 i0 (.agg #[.int .i64 0, .int .i64 0]) 2 16 Tryd.underlying103 hi0 hz0 hz1 hz2 rfl (by decide) (.slice (some ⟨X.heap.size, 0, none⟩) 0 0) 0 [] (by rfl) HEA.out.row (some ⟨g, 0, none⟩) j c8 (pcells (out.take j)) (by rfl) HLT.out (ls_take_cells (HX.out.row.below HEA.out.bel) j) (fun h => by cases h) (pcells_one _) (by have := HN.out; have := HJ.out; unfold maxLen; omega) (by have := HN.out; have := HJ.out; omega) ?_; intro v1 w1 h1 h2 h3 h4; have HP1 := Lib.hid ((h2.block (X.heap.size + 1) (by simp) (by simp [Value.ownBlock])).trans (alloc_two_second X (.cells #[] 116) (.cells #[.int .i64 p, .int .i64 q] 116))); have H1 := Lib.hid (WI.apps (n := 0) (k := j) rfl HLJ.out.1 HEA.out h1 h2 h3); rw [Nat.zero_add] at h1; obtain ⟨A1, c1, rfl, -, -, -, -⟩ := Rw.form h1; have HO1 := Lib.hid (Rw.lt h1); clear h1 h2 h3 h4)
              | ((with_reducible change @ite _ (Region.wanted ⟨some 58, _, _, _, _, _⟩ _ = true) _ _ _); refine step_append_rw _ (by rfl) (.tmp 54) (.tmp 57) 103 (by rfl) 116 i0 (.agg #[.int .i64 0, .int .i64 0]) 2 16 Tryd.underlying103 hi0 hz0 hz1 hz2 rfl (by decide) (.slice (some ⟨X.heap.size + 1, 0, none⟩) 0 0) 0 [] (by rfl) HEB.out.row (some ⟨g, 0, none⟩) j c8 (pcells (out.take j)) (by rfl) HLT.out (ls_take_cells (HX.out.row.below HEB.out.bel) j) (fun h => by cases h) (pcells_one _) (by have := HN.out; have := HJ.out; unfold maxLen; omega) (by have := HN.out; have := HJ.out; omega) ?_; intro v1 w1 h1 h2 h3 h4; have HP1 := Lib.hid ((h2.block X.heap.size (by simp; omega) (by simp [Value.ownBlock])).trans (alloc_two_first X (.cells #[.int .i64 p, .int .i64 q] 116) (.cells #[] 116))); have H1 := Lib.hid (WI.apps (n := 0) (k := j) rfl HLJ.out.1 HEB.out h1 h2 h3); rw [Nat.zero_add] at h1; obtain ⟨A1, c1, rfl, -, -, -, -⟩ := Rw.form h1; have HO1 := Lib.hid (Rw.lt h1); clear h1 h2 h3 h4)
              | ((with_reducible change @ite _ (Region.wanted ⟨some 58, _, _, _, _, _⟩ _ = true) _ _ _); refine step_append_rw _ (by rfl) (.tmp 54) (.tmp 57) 103 (by rfl) 116 i0 (.agg #[.int .i64 0, .int .i64 0]) 2 16 Tryd.underlying103 hi0 hz0 hz1 hz2 rfl (by decide) (.slice (some ⟨X.heap.size, 0, none⟩) 0 0) 0 [] (by rfl) HEC.out.row (some ⟨g, 0, none⟩) j c8 (pcells (out.take j)) (by rfl) HLT.out (ls_take_cells (HX.out.row.below HEC.out.bel) j) (fun h => by cases h) (pcells_one _) (by have := HN.out; have := HJ.out; unfold maxLen; omega) (by have := HN.out; have := HJ.out; omega) ?_; intro v1 w1 h1 h2 h3 h4; skip; have H1 := Lib.hid (WI.apps (n := 0) (k := j) rfl HLJ.out.1 HEC.out h1 h2 h3); rw [Nat.zero_add] at h1; obtain ⟨A1, c1, rfl, -, -, -, -⟩ := Rw.form h1; have HO1 := Lib.hid (Rw.lt h1); clear h1 h2 h3 h4)
              | ((with_reducible change @ite _ (Region.wanted ⟨some 63, _, _, _, _, _⟩ _ = true) _ _ _); refine step_append_rw _ (by rfl) (.tmp 58) (.tmp 62) 103 (by rfl) 116 i0 (.agg #[.int .i64 0, .int .i64 0]) 2 16 Tryd.underlying103 hi0 hz0 hz1 hz2 rfl (by decide) (.slice A1 j c1) j (pcells ([] ++ out.take j)) (by rfl) (H1.out.row' HLJ.out.2) (some ⟨X.heap.size + 1, 0, none⟩) 1 1 (pcells [(p, q)]) (by rfl) rfl (rnews HP1.out) (fun h => by cases h) (pcells_one _) (by have := HN.out; have := HJ.out; unfold maxLen; omega) (by have := HN.out; have := HJ.out; omega) ?_; intro v2 w2 h1 h2 h3 h4; have H2 := Lib.hid (WI.apps (n := j) (k := 1) HLJ.out.2 rfl H1.out h1 h2 h3); obtain ⟨A2, c2, rfl, -, -, -, -⟩ := Rw.form h1; clear h1 h2 h3 h4 H1)
              | ((with_reducible change @ite _ (Region.wanted ⟨some 63, _, _, _, _, _⟩ _ = true) _ _ _); refine step_append_rw _ (by rfl) (.tmp 58) (.tmp 62) 103 (by rfl) 116 i0 (.agg #[.int .i64 0, .int .i64 0]) 2 16 Tryd.underlying103 hi0 hz0 hz1 hz2 rfl (by decide) (.slice A1 j c1) j (pcells ([] ++ out.take j)) (by rfl) (H1.out.row' HLJ.out.2) (some ⟨X.heap.size, 0, none⟩) 1 1 (pcells [(p, q)]) (by rfl) rfl (rnews HP1.out) (fun h => by cases h) (pcells_one _) (by have := HN.out; have := HJ.out; unfold maxLen; omega) (by have := HN.out; have := HJ.out; omega) ?_; intro v2 w2 h1 h2 h3 h4; have H2 := Lib.hid (WI.apps (n := j) (k := 1) HLJ.out.2 rfl H1.out h1 h2 h3); obtain ⟨A2, c2, rfl, -, -, -, -⟩ := Rw.form h1; clear h1 h2 h3 h4 H1)
              | ((with_reducible change @ite _ (Region.wanted ⟨some 63, _, _, _, _, _⟩ _ = true) _ _ _); refine step_append_rw _ (by rfl) (.tmp 58) (.tmp 62) 103 (by rfl) 116 i0 (.agg #[.int .i64 0, .int .i64 0]) 2 16 Tryd.underlying103 hi0 hz0 hz1 hz2 rfl (by decide) (.slice A1 j c1) j (pcells ([] ++ out.take j)) (by rfl) ((H1.out.one (.cells #[.int .i64 p, .int .i64 q] 116)).row' HLJ.out.2) (some ⟨w1.heap.size, 0, none⟩) 1 1 (pcells [(p, q)]) (by rfl) rfl (rnews (heap_alloc_new w1 (.cells #[.int .i64 p, .int .i64 q] 116))) (fun h => by cases h) (pcells_one _) (by have := HN.out; have := HJ.out; unfold maxLen; omega) (by have := HN.out; have := HJ.out; omega) ?_; intro v2 w2 h1 h2 h3 h4; have H2 := Lib.hid (WI.apps (n := j) (k := 1) HLJ.out.2 rfl (H1.out.one (.cells #[.int .i64 p, .int .i64 q] 116)) h1 h2 h3); obtain ⟨A2, c2, rfl, -, -, -, -⟩ := Rw.form h1; clear h1 h2 h3 h4 H1)
              | ((with_reducible change @ite _ (Region.wanted ⟨some 67, _, _, _, _, _⟩ _ = true) _ _ _); refine step_append_rw _ (by rfl) (.tmp 63) (.tmp 66) 103 (by rfl) 116 i0 (.agg #[.int .i64 0, .int .i64 0]) 2 16 Tryd.underlying103 hi0 hz0 hz1 hz2 rfl (by decide) (.slice A2 (j + 1) c2) (j + 1) (pcells (([] ++ out.take j) ++ [(p, q)])) (by rfl) (H2.out.row' HLJ2.out.1) (some ⟨g, j * 2, none⟩) (out.length - j) (c8 - j) (pcells (out.drop j)) (by rfl) HLD.out (ls_drop_cells (HX.out.row.below H2.out.bel) j) (fun h => by cases h) (pcells_one _) (by have := HN.out; have := HJ.out; unfold maxLen; omega) (by have := HN.out; have := HJ.out; omega) ?_; intro v3 w3 h1 h2 h3 h4; have H3 := Lib.hid (WI.apps (n := j + 1) (k := out.length - j) HLJ2.out.1 HLJ2.out.2 H2.out h1 h2 h3); clear h1 h2 h3 h4))
            all_goals
              go_wp2
              go_ret
              refine ⟨_, rfl, ?_, ?_⟩
              · show Ls w3 116 v3 (putIn (wfold l lo hi).1 (wfold l lo hi).2)
                rw [HSS.out, HPI.out]
                have := H3.out.row
                simpa using this
              · exact HX.out.bel.trans (H3.out.bel.mono HX.out.bel.size)
        · obtain rfl : j = out.length := by omega
          have HPI := Lib.hid (putIn_all (x := (p, q)) (fun i hi => HQ.out i hi hi))
          have HW := Lib.hid (HI.out.one (.cells #[.int .i64 p, .int .i64 q] 116))
          have HNW := Lib.hid (rnews (heap_alloc_new wr (.cells #[.int .i64 p, .int .i64 q] 116)))
          go_wp2_with (at_builtin; refine wpList_append_rw _ rfl (.tmp 69) (.tmp 73) 103 rfl 116 i0 (.agg #[.int .i64 0, .int .i64 0]) 2 16 Tryd.underlying103 hi0 hz0 hz1 hz2 rfl (by decide) _ _ _ rfl HW.out.row (some ⟨wr.heap.size, 0, none⟩) 1 1 (pcells [(p, q)]) rfl rfl HNW.out (by simp) (pcells_one _) (by have := HN.out; unfold maxLen; omega) (by have := HN.out; omega) ?_; intro v5 w5 h1 h2 h3 h4; have H5 := Lib.hid (HW.out.app h1 h2 h3); clear h1 h2 h3 h4)
          go_ret
          refine ⟨_, rfl, ?_, H5.out.bel⟩
          show Ls w5 116 v5 (putIn (wfold l lo hi).1 (wfold l lo hi).2)
          rw [HSS.out, HPI.out]
          exact H5.out.row
end Go.Proofs.YthccppldpfddjaaDoor
