/- Parse of the reference. -/
import Derived.Test.YtofibebphfeglaaDoorX10
namespace Go.Proofs.YtofibebphfeglaaDoor
open Go.RowKit
set_option linter.unusedVariables false
attribute [local go_sem] Oper.semAt_some
theorem zero33 : (Tryd.prog.info? 33).map (·.zero) = some (some (.agg (ints z26))) := by kernel_rfl
theorem built33z : Tryd.prog.built 33 [] = some (ints z26) := by kernel_rfl
theorem size33' : (Tryd.prog.info? 33).map (·.size) = some (ints z26).size := size33
theorem refF_step {i k : Nat} {r : Bs} {T : List Int} (hi : i < 26) : refF (26 - i) i k r T = if Lib.hasPrefix r (lbl i) = true then match rnum (r.drop (lbl i).length) with
      | none => .error k
      | some (v, n) => refF (26 - (i + 1)) (i + 1) (k + ((lbl i).length + n + 1)) (r.drop ((lbl i).length + n + 1)) (T.set i v)
    else .error k := by
  rw [show 26 - i = (26 - (i + 1)) + 1 by omega]
  rfl
/-- What the loop of the reference's Parse keeps. -/
structure RI (w : World) (s : Bs) (i k : Nat) (T : List Int) (wr : World) : Prop where
  r2 : wr.heap[w.heap.size]? = some (.cells (ints z26) 33 (0, 0))
  r3 : wr.heap[w.heap.size + 1]? = some (.cells (flt 0 0) 36 (0, 0))
  rt : wr.heap[w.heap.size + 2]? = some (.cells (ints T) 33 (0, 0))
  bel : Below w.heap.size w wr
  sz : w.heap.size + 3 ≤ wr.heap.size
  st : parsed s = finR s.length (refF (26 - i) i k (s.drop k) T)
  hk : k ≤ s.length
  hT : T.length = 26
theorem RI.same {w A B : World} {s : Bs} {i k : Nat} {T : List Int} (h : RI w s i k T A) (hb : Below A.heap.size A B) : RI w s i k T B := by
  have hs := h.sz
  exact ⟨(hb.block _ (by omega)).trans h.r2, (hb.block _ (by omega)).trans h.r3, (hb.block _ (by omega)).trans h.rt, h.bel.trans (hb.mono (by omega)), Nat.le_trans hs hb.size, h.st, h.hk, h.hT⟩
theorem RI.fin {w A : World} {s : Bs} {k : Nat} {T : List Int} (h : RI w s 26 k T A) : parsed s = finR s.length (.ok (k, T)) := h.st
theorem RI.next {w A : World} {s : Bs} {i k k2 : Nat} {T : List Int} {v : Int} (h : RI w s i k T A) (hn : parsed s = finR s.length (refF (26 - (i + 1)) (i + 1) k2 (s.drop k2) (T.set i v)) ∧ k2 ≤ s.length) : RI w s (i + 1) k2 (T.set i v) (A.setCell ⟨w.heap.size + 2, i, none⟩ (.int .i64 v)) := by
  have hs := h.sz
  refine ⟨?_, ?_, ints_setCell h.rt i v, h.bel.setCell (p := ⟨w.heap.size + 2, i, none⟩) (by show w.heap.size ≤ w.heap.size + 2; omega) _, by simpa [World.setCell] using hs, hn.1, hn.2, by rw [List.length_set]; exact h.hT⟩
  · rw [heap_setCell_other _ _ _ _ (by simp)]; exact h.r2
  · rw [heap_setCell_other _ _ _ _ (by simp)]; exact h.r3
theorem rend {w W : World} {old cs : List Int} {old2 : Array Value} {x y : Int} {tmps : Array Value} (h2 : W.heap[w.heap.size]? = some (.cells (ints old) 33 (0, 0))) (h3 : W.heap[w.heap.size + 1]? = some (.cells old2 36 (0, 0))) (hl : cs.length = 26)
    (t2 : tmps.getD 2 undef = .pointer (some ⟨w.heap.size, 0, none⟩)) (t3 : tmps.getD 3 undef = .pointer (some ⟨w.heap.size + 1, 0, none⟩)) :
    (results Tryd.f15 tmps).run Tryd.prog ((W.setRow w.heap.size (ints cs)).setRow (w.heap.size + 1) (flt x y)) = .ok (retP (cs, x, y)) ((W.setRow w.heap.size (ints cs)).setRow (w.heap.size + 1) (flt x y)) := by
  have g1 := setRow_heap _ _ _ (flt x y) _ _ ((setRow_other W w.heap.size (w.heap.size + 1) (ints cs) (by omega)).trans h3)
  have g2 := (setRow_other (W.setRow w.heap.size (ints cs)) (w.heap.size + 1) w.heap.size (flt x y) (by omega)).trans (setRow_heap _ _ _ (ints cs) _ _ h2)
  exact results_rows rfl _ _ _ w.heap.size (w.heap.size + 1) 33 36 (ints cs) (flt x y) (0, 0) (0, 0) _ _ t2 g2 rfl Tryd.underlying33 (by rw [ints_size, hl]; exact size33) t3 g1 rfl Tryd.underlying36 size36
theorem rendb {w W : World} {cs fl : Array Value} (hb : Below w.heap.size w W) : Below w.heap.size w ((W.setRow w.heap.size cs).setRow (w.heap.size + 1) fl) :=
  below_setRow' (below_setRow' hb (Nat.le_refl _) _) (by omega) _
theorem rnum_at (s : Bs) (k : Nat) (lb : Bs) (W : World) (h : k + lb.length ≤ s.length) (hs : s.length ≤ 1000000) : Calls Tryd.prog 32 #[.string ⟨s.toArray⟩, .int .i64 ((k : Int) + lb.length)] W fun e w' => e = .returned (rnumV (k + lb.length) (rnum ((s.drop k).drop lb.length))) ∧ w' = W := by
  have := rnum_calls s (k + lb.length) W h hs
  rw [List.drop_drop]
  rw [show ((k + lb.length : Nat) : Int) = (k : Int) + lb.length by omega] at this
  exact this
theorem hasP (s lb : Bs) (k : Nat) : (((s.drop k).take lb.length) == lb) = Lib.hasPrefix (s.drop k) lb := by
  unfold Lib.hasPrefix
  cases h : lb.isPrefixOf (s.drop k) with
  | true =>
    obtain ⟨t, ht⟩ := List.isPrefixOf_iff_prefix.1 h
    rw [← ht, List.take_left]
    simp
  | false =>
    cases h2 : ((s.drop k).take lb.length) == lb with
    | false => rfl
    | true =>
      exfalso
      have h3 : (s.drop k).take lb.length = lb := by simpa using h2
      have h4 : lb <+: s.drop k := by rw [← h3]; exact List.take_prefix _ _
      rw [List.isPrefixOf_iff_prefix.2 h4] at h
      cases h
theorem finR_err (len k : Nat) : finR len (.error k) = (z26, (k : Int), 36) := rfl
set_option maxHeartbeats 8000000 in
set_option maxRecDepth 100000 in
theorem rparse_short (s : Bs) (w : World) (hl : s.length ≤ 65536) : Calls Tryd.prog 15 #[bstr s] w fun e w' => e = .returned (retP (parsed s)) ∧ Below w.heap.size w w' := by
  have hp0 : parsed s = finR s.length (refF (26 - 0) 0 0 (s.drop 0) z26) := by rw [parsed_ref, if_neg (by omega)]; rfl
  have HR0 : Hid (RI w s 0 0 z26 (((w.alloc (.cells (ints z26) 33)).alloc (.cells (flt 0 0) 36)).alloc (.cells (ints z26) 33))) := by
    have b0 := heap_alloc_new w (.cells (ints z26) 33)
    have b1 := heap_alloc_new (w.alloc (.cells (ints z26) 33)) (.cells (flt 0 0) 36)
    have b2 := heap_alloc_new ((w.alloc (.cells (ints z26) 33)).alloc (.cells (flt 0 0) 36)) (.cells (ints z26) 33)
    simp only [World.size_alloc, Nat.add_assoc, Nat.reduceAdd] at b1 b2
    refine Lib.hid ⟨(Below.heap_alloc _ _ _ (by simp <;> omega)).trans ((Below.heap_alloc _ _ _ (by simp)).trans b0), (Below.heap_alloc _ _ _ (by simp)).trans b1, b2, (((Below.refl _ w).alloc (Nat.le_refl _) _).alloc (by simp) _).alloc (by simp <;> omega) _, by simp, hp0, Nat.zero_le _, z26_len⟩
  have hl' : ¬ (65536 : Int) < (s.length : Int) := by omega
  have hs : s.length ≤ 1000000 := by omega
  unfold flt at HR0
  clear hp0
  unfold bstr
  go_enter Tryd.func15, Tryd.ntmps15
  go_wp2_with (first
    | ((with_reducible change wpList _ _ _ (⟨_, .alloc 33, _, _, _, _⟩ :: _) _ _); refine wpList_alloc_to rfl 33 rfl (ints z26) zero33 ?_))
  go_loopw [5, 6] (fun a i wr => ∃ (i' k : Nat) (T : List Int), i' ≤ 26 ∧ i = .int .i64 i' ∧ a = .int .i64 k ∧ Hid (RI w s i' k T wr)) (fun _ i _ => 26 - (intOf i).toNat)
  case atStart => exact ⟨0, 0, z26, by omega, rfl, rfl, HR0⟩
  case round =>
    clear HR0
    obtain ⟨i, k, T, hi26, rfl, rfl, HR⟩ := hrel
    rw [show w.heap.size + 1 + 1 = w.heap.size + 2 from rfl]
    by_cases hi : i < 26
    · have hi' : (i : Int) < 26 := by omega
      have HL := Lib.hid (fun W => label_calls i hi W)
      have hkl := HR.out.hk
      have hkl' : (k : Int) ≤ s.length := by omega
      have helb : (⟨(lab.getD i []).toArray⟩ : ByteArray) ++ ⟨#[32]⟩ = ⟨(lbl i).toArray⟩ := by
        rw [show (⟨#[32]⟩ : ByteArray) = ⟨[32].toArray⟩ from rfl, bs_app]
        rfl
      have ELB := Lib.hid helb
      have hst := HR.out.st
      rw [refF_step hi] at hst
      have hfe : ¬ (Lib.hasPrefix (s.drop k) (lbl i) = true) ∨ rnum ((s.drop k).drop (lbl i).length) = none → parsed s = (z26, (k : Int), 36) := by
        rintro (h | h)
        · rw [hst, if_neg h]; rfl
        · rw [hst, h]; split <;> rfl
      have h1 : Lib.hasPrefix (s.drop k) (lbl i) = true → ∀ v n, rnum ((s.drop k).drop (lbl i).length) = some (v, n) → parsed s = finR s.length (refF (26 - (i + 1)) (i + 1) (k + (lbl i).length + n + 1) (s.drop (k + (lbl i).length + n + 1)) (T.set i v)) ∧ k + (lbl i).length + n + 1 ≤ s.length := by
        intro hp v n hr
        refine ⟨?_, ?_⟩
        · rw [hst, if_pos hp, hr]
          simp only
          rw [List.drop_drop]
          rw [show k + ((lbl i).length + n + 1) = k + (lbl i).length + n + 1 by omega]
        · obtain ⟨d, t, he, -, -, hn⟩ := rnum_some hr
          have := congrArg List.length he
          rw [List.length_drop, List.length_drop, List.length_append, List.length_cons] at this
          omega
      have HFE := Lib.hid hfe
      have hpf := hasP s (lbl i) k
      have hlb : (lbl i).length ≤ 1000 := by
        have : ∀ i, i < 26 → (lbl i).length ≤ 1000 := by decide
        exact this _ hi
      have hnl : (lab.getD i []).length ≤ 20 := by
        have : ∀ i, i < 26 → (lab.getD i []).length ≤ 20 := by decide
        exact this _ hi
      clear hfe hst helb
      generalize lab.getD i [] = nm0 at *
      generalize lbl i = lb at *

      rcases (by omega : ((s.length : Int) - k < lb.length) ∨ ((lb.length : Int) ≤ s.length - k)) with hA | hA
      · have HF : Hid (parsed s = (z26, (k : Int), 36)) := Lib.hid (HFE.out (Or.inl (fun hp => by have := (prefix_of hp).length_le; rw [List.length_drop] at this; omega)))
        clear hpf h1
        go_wp2_with (first
        | (rw [ELB.out])
        | (go_at_call 31; refine (HL.out _).mono ?_; rintro e w1 ⟨rfl, hb⟩; have HB := Lib.hid (RI.same HR.out hb); have hb1 := Lib.hid hb; clear hb)
        | ((with_reducible change wpList _ _ _ (⟨_, .build 33 _, _, _, _, _⟩ :: _) _ _); refine wpList_build_to rfl 33 #[] rfl [] (by simp) _ built33z ?_)
        | ((with_reducible change wpList _ _ _ (⟨_, .store 33 _ _, _, _, _, _⟩ :: _) _ _); refine wpList_store_row rfl 33 (.tmp 2) (.tmp 40) rfl w.heap.size (ints z26) rfl rfl 33 _ HB.out.r2 size33' rfl (ints_one _) ?_)
        | ((with_reducible change wpList _ _ _ (⟨_, .store 36 _ _, _, _, _, _⟩ :: _) _ _); refine wpList_store_row rfl 36 (.tmp 3) (.tmp 42) rfl (w.heap.size + 1) (flt k 36) rfl rfl 36 _ ((setRow_other _ _ _ _ (by omega)).trans HB.out.r3) size36 rfl (by simp [flt, Value.oneCell']) ?_))
        refine bodyPost_ret (rend HB.out.r2 HB.out.r3 z26_len rfl rfl) rfl ⟨by rw [HF.out], rendb HB.out.bel⟩
      · have hA2 : ¬ ((s.length : Int) - k < lb.length) := by omega
        have hA3 : (k : Int) + lb.length ≤ s.length := by omega
        have hA4 : (k : Int) ≤ (k : Int) + lb.length := by omega
        have hex := ext_bs s k (k + lb.length)
        cases hpb : Lib.hasPrefix (s.drop k) lb with
        | false =>
          have HF : Hid (parsed s = (z26, (k : Int), 36)) := Lib.hid (HFE.out (Or.inl (by rw [hpb]; decide)))
          rw [hpb] at hpf
          clear hpb h1
          go_wp2_with (first
        | (rw [ELB.out])
        | (go_at_call 31; refine (HL.out _).mono ?_; rintro e w1 ⟨rfl, hb⟩; have HB := Lib.hid (RI.same HR.out hb); have hb1 := Lib.hid hb; clear hb)
        | ((with_reducible change wpList _ _ _ (⟨_, .build 33 _, _, _, _, _⟩ :: _) _ _); refine wpList_build_to rfl 33 #[] rfl [] (by simp) _ built33z ?_)
        | ((with_reducible change wpList _ _ _ (⟨_, .store 33 _ _, _, _, _, _⟩ :: _) _ _); refine wpList_store_row rfl 33 (.tmp 2) (.tmp 40) rfl w.heap.size (ints z26) rfl rfl 33 _ HB.out.r2 size33' rfl (ints_one _) ?_)
        | ((with_reducible change wpList _ _ _ (⟨_, .store 36 _ _, _, _, _, _⟩ :: _) _ _); refine wpList_store_row rfl 36 (.tmp 3) (.tmp 42) rfl (w.heap.size + 1) (flt k 36) rfl rfl 36 _ ((setRow_other _ _ _ _ (by omega)).trans HB.out.r3) size36 rfl (by simp [flt, Value.oneCell']) ?_))
          refine bodyPost_ret (rend HB.out.r2 HB.out.r3 z26_len rfl rfl) rfl ⟨by rw [HF.out], rendb HB.out.bel⟩
        | true =>
          rw [hpb] at hpf
          have HRN := Lib.hid (fun W => rnum_at s k lb W (by omega) hs)
          cases hrn : rnum ((s.drop k).drop lb.length) with
          | none =>
            have HF : Hid (parsed s = (z26, (k : Int), 36)) := Lib.hid (HFE.out (Or.inr hrn))
            rw [hrn] at HRN
            simp only [rnumV] at HRN
            clear hpb hrn h1
            go_wp2_with (first
        | (rw [ELB.out])
        | (go_at_call 31; refine (HL.out _).mono ?_; rintro e w1 ⟨rfl, hb⟩; have HB := Lib.hid (RI.same HR.out hb); have hb1 := Lib.hid hb; clear hb)
        | (go_at_call 32; refine (HRN.out _).mono ?_; rintro e w2 ⟨rfl, rfl⟩)
        | ((with_reducible change wpList _ _ _ (⟨_, .build 33 _, _, _, _, _⟩ :: _) _ _); refine wpList_build_to rfl 33 #[] rfl [] (by simp) _ built33z ?_)
        | ((with_reducible change wpList _ _ _ (⟨_, .store 33 _ _, _, _, _, _⟩ :: _) _ _); refine wpList_store_row rfl 33 (.tmp 2) (.tmp 54) rfl w.heap.size (ints z26) rfl rfl 33 _ HB.out.r2 size33' rfl (ints_one _) ?_)
        | ((with_reducible change wpList _ _ _ (⟨_, .store 36 _ _, _, _, _, _⟩ :: _) _ _); refine wpList_store_row rfl 36 (.tmp 3) (.tmp 56) rfl (w.heap.size + 1) (flt k 36) rfl rfl 36 _ ((setRow_other _ _ _ _ (by omega)).trans HB.out.r3) size36 rfl (by simp [flt, Value.oneCell']) ?_))
            refine bodyPost_ret (rend HB.out.r2 HB.out.r3 z26_len rfl rfl) rfl ⟨by rw [HF.out], rendb HB.out.bel⟩
          | some x =>
            obtain ⟨v, n⟩ := x
            rw [hrn] at HRN
            simp only [rnumV] at HRN
            have HNX := Lib.hid (h1 hpb v n hrn)
            have hnb : (k : Int) + lb.length + n + 1 ≤ s.length := by have := HNX.out.2; omega
            clear hpb hrn h1 HFE
            rcases (by omega : i = 0 ∨ i = 1 ∨ 2 ≤ i) with rfl | rfl | hi2
            · clear hi
              go_wp2_with (first
        | (rw [ELB.out])
        | (go_at_call 31; refine (HL.out _).mono ?_; rintro e w1 ⟨rfl, hb⟩; have HB := Lib.hid (RI.same HR.out hb); have hb1 := Lib.hid hb; clear hb); have c4 := ints_cell HB.out.rt (0) (by rw [HB.out.hT]; omega); have f4 := frozen_of_row _ _ (0) _ _ HB.out.rt
        | (go_at_call 32; refine (HRN.out _).mono ?_; rintro e w2 ⟨rfl, rfl⟩))
              go_roundw
              case rel => exact ⟨0 + 1, k + lb.length + n + 1, T.set (0) v, by omega, by go_num, by go_num, Lib.hid (RI.next HB.out HNX.out)⟩
              case measure => simp [intOf] <;> omega
            · clear hi
              go_wp2_with (first
        | (rw [ELB.out])
        | (go_at_call 31; refine (HL.out _).mono ?_; rintro e w1 ⟨rfl, hb⟩; have HB := Lib.hid (RI.same HR.out hb); have hb1 := Lib.hid hb; clear hb); have c4 := ints_cell HB.out.rt (1) (by rw [HB.out.hT]; omega); have f4 := frozen_of_row _ _ (1) _ _ HB.out.rt
        | (go_at_call 32; refine (HRN.out _).mono ?_; rintro e w2 ⟨rfl, rfl⟩))
              go_roundw
              case rel => exact ⟨1 + 1, k + lb.length + n + 1, T.set (1) v, by omega, by go_num, by go_num, Lib.hid (RI.next HB.out HNX.out)⟩
              case measure => simp [intOf] <;> omega
            · obtain ⟨j, rfl⟩ : ∃ j, i = j + 2 := ⟨i - 2, by omega⟩
              rw [show ((j + 2 : Nat) : Int) = (j : Int) + 2 by omega]
              rw [show ((j + 2 : Nat) : Int) = (j : Int) + 2 by omega] at HL
              have hj0 : ¬ (j : Int) + 2 = 0 := by omega
              have hj1 : ¬ (j : Int) + 2 = 1 := by omega
              have hj2 : (j : Int) < 24 := by omega
              have hj3 : (j : Int) + 2 < 26 := by omega
              clear hi
              go_wp2_with (first
        | (rw [ELB.out])
        | (go_at_call 31; refine (HL.out _).mono ?_; rintro e w1 ⟨rfl, hb⟩; have HB := Lib.hid (RI.same HR.out hb); have hb1 := Lib.hid hb; clear hb); have c4 := ints_cell HB.out.rt (2 + j) (by rw [HB.out.hT]; omega); have f4 := frozen_of_row _ _ (2 + j) _ _ HB.out.rt
        | (go_at_call 32; refine (HRN.out _).mono ?_; rintro e w2 ⟨rfl, rfl⟩))
              go_roundw
              case rel => exact ⟨j + 2 + 1, k + lb.length + n + 1, T.set (j + 2) v, by omega, by go_num, by go_num, Lib.hid (by have h5 := RI.next HB.out HNX.out; rw [show (⟨w.heap.size + 2, j + 2, none⟩ : Addr) = ⟨w.heap.size + 2, 2 + j, none⟩ by rw [Nat.add_comm j 2]] at h5; exact h5)⟩
              case measure => simp [intOf] <;> omega
    · obtain rfl : i = 26 := by omega
      have h26 : ¬ ((26 : Nat) : Int) < 26 := by omega
      have HEND := Lib.hid HR.out.fin
      rcases Nat.lt_or_ge k s.length with hk | hk
      · have hk' : (k : Int) < s.length := by omega
        have HF : Hid (parsed s = (z26, (k : Int), 36)) := Lib.hid (by rw [HEND.out]; simp only [finR]; rw [if_pos hk])
        clear hk h26
        go_wp2_with (first
        | ((with_reducible change wpList _ _ _ (⟨_, .build 33 _, _, _, _, _⟩ :: _) _ _); refine wpList_build_to rfl 33 #[] rfl [] (by simp) _ built33z ?_)
        | ((with_reducible change wpList _ _ _ (⟨_, .store 33 _ _, _, _, _, _⟩ :: _) _ _); refine wpList_store_row rfl 33 (.tmp 2) (.tmp 77) rfl w.heap.size (ints z26) rfl rfl 33 _ HR.out.r2 size33' rfl (ints_one _) ?_)
        | ((with_reducible change wpList _ _ _ (⟨_, .store 36 _ _, _, _, _, _⟩ :: _) _ _); refine wpList_store_row rfl 36 (.tmp 3) (.tmp 79) rfl (w.heap.size + 1) (flt k 36) rfl rfl 36 _ ((setRow_other _ _ _ _ (by omega)).trans HR.out.r3) size36 rfl (by simp [flt, Value.oneCell']) ?_))
        refine bodyPost_ret (rend HR.out.r2 HR.out.r3 z26_len rfl rfl) rfl ⟨by rw [HF.out], rendb HR.out.bel⟩
      · have hk' : (s.length : Int) ≤ k := by omega
        have hft : parsed s = finT T := by rw [HEND.out]; simp only [finR]; rw [if_neg (by omega)]
        have hT := HR.out.hT
        obtain ⟨a, b, r, rfl⟩ : ∃ a b r, T = a :: b :: r := by
          match T, hT with
          | a :: b :: r, _ => exact ⟨a, b, r, rfl⟩
        have HRL : Hid (r.length = 24) := Lib.hid (by simpa using hT)
        have hck : chkT (a :: b :: r) = chk a b r := rfl
        clear hk hT h26
        cases hok : okT a b r with
        | false =>
          have HE := Lib.hid (chk_f hok)
          have HF : Hid (parsed s = (z26, 0, 34)) := Lib.hid (by rw [hft]; unfold finT; rw [hck, HE.out, if_neg (by decide)])
          clear hok hft hck
          go_wp2_with (first
        | ((with_reducible change wpList _ _ _ (⟨_, .load 33 _, _, _, _, _⟩ :: ⟨_, .call _, _, _, _, _⟩ :: _) _ _); refine wpList_load_cells rfl 33 (.tmp 4) rfl ⟨w.heap.size + 2, 0, none⟩ rfl (ints (a :: b :: r)) _ (cells_of_heap HR.out.rt) Tryd.underlying33 rfl size33 (by rw [ints_size]; simp only [List.length_cons, HRL.out]) ?_)
        | (go_at_call 26; refine (rcheck_calls a b r HRL.out _).mono ?_; rw [HE.out]; rintro e w1 ⟨rfl, hb⟩; have HB := Lib.hid (RI.same HR.out hb); clear hb)
        | ((with_reducible change wpList _ _ _ (⟨_, .build 33 _, _, _, _, _⟩ :: _) _ _); refine wpList_build_to rfl 33 #[] rfl [] (by simp) _ built33z ?_)
        | ((with_reducible change wpList _ _ _ (⟨_, .store 33 _ _, _, _, _, _⟩ :: _) _ _); refine wpList_store_row rfl 33 (.tmp 2) (.tmp 83) rfl w.heap.size (ints z26) rfl rfl 33 _ HB.out.r2 size33' rfl (ints_one _) ?_)
        | ((with_reducible change wpList _ _ _ (⟨_, .store 36 _ _, _, _, _, _⟩ :: _) _ _); refine wpList_store_row rfl 36 (.tmp 3) (.tmp 84) rfl (w.heap.size + 1) (flt 0 34) rfl rfl 36 _ ((setRow_other _ _ _ _ (by omega)).trans HB.out.r3) size36 rfl (by simp [flt, Value.oneCell']) ?_))
          refine bodyPost_ret (rend HB.out.r2 HB.out.r3 z26_len rfl rfl) rfl ⟨by rw [HF.out], rendb HB.out.bel⟩
        | true =>
          have HE := Lib.hid (chk_t hok)
          have HF : Hid (parsed s = (a :: b :: r, 0, 0)) := Lib.hid (by rw [hft]; unfold finT; rw [hck, HE.out, if_pos rfl])
          clear hok hft hck
          go_wp2_with (first
        | ((with_reducible change wpList _ _ _ (⟨_, .load 33 _, _, _, _, _⟩ :: ⟨_, .call _, _, _, _, _⟩ :: _) _ _); refine wpList_load_cells rfl 33 (.tmp 4) rfl ⟨w.heap.size + 2, 0, none⟩ rfl (ints (a :: b :: r)) _ (cells_of_heap HR.out.rt) Tryd.underlying33 rfl size33 (by rw [ints_size]; simp only [List.length_cons, HRL.out]) ?_)
        | (go_at_call 26; refine (rcheck_calls a b r HRL.out _).mono ?_; rw [HE.out]; rintro e w1 ⟨rfl, hb⟩; have HB := Lib.hid (RI.same HR.out hb); clear hb)
        | ((with_reducible change wpList _ _ _ (⟨_, .load 33 _, _, _, _, _⟩ :: ⟨_, .build _ _, _, _, _, _⟩ :: _) _ _); refine wpList_load_cells rfl 33 (.tmp 4) rfl ⟨w.heap.size + 2, 0, none⟩ rfl (ints (a :: b :: r)) _ (cells_of_heap HB.out.rt) Tryd.underlying33 rfl size33 (by rw [ints_size]; simp only [List.length_cons, HRL.out]) ?_)
        | ((with_reducible change wpList _ _ _ (⟨_, .build 33 _, _, _, _, _⟩ :: _) _ _); refine wpList_build_to rfl 33 #[] rfl [] (by simp) _ built33z ?_)
        | ((with_reducible change wpList _ _ _ (⟨_, .store 33 _ _, _, _, _, _⟩ :: _) _ _); refine wpList_store_row rfl 33 (.tmp 2) (.tmp 85) rfl w.heap.size (ints (a :: b :: r)) rfl rfl 33 _ HB.out.r2 (by rw [ints_size]; simp only [List.length_cons, HRL.out]; exact size33) (by rw [ints_size, ints_size]; simp only [List.length_cons, HRL.out]; rfl) (ints_one _) ?_)
        | ((with_reducible change wpList _ _ _ (⟨_, .store 36 _ _, _, _, _, _⟩ :: _) _ _); refine wpList_store_row rfl 36 (.tmp 3) (.tmp 86) rfl (w.heap.size + 1) (flt 0 0) rfl rfl 36 _ ((setRow_other _ _ _ _ (by omega)).trans HB.out.r3) size36 rfl (by simp [flt, Value.oneCell']) ?_))
          refine bodyPost_ret (rend HB.out.r2 HB.out.r3 HB.out.hT rfl rfl) rfl ⟨by rw [HF.out], rendb HB.out.bel⟩
set_option maxRecDepth 100000 in
theorem rparse_long (s : Bs) (w : World) (hl : 65536 < s.length) : Calls Tryd.prog 15 #[bstr s] w fun e w' => e = .returned (retP (parsed s)) ∧ Below w.heap.size w w' := by
  have hp : parsed s = (z26, 0, 18) := by unfold parsed; rw [if_pos hl]
  have HP := Lib.hid hp
  unfold bstr
  have hl' : (65536 : Int) < (s.length : Int) := by omega
  have h33 := heap_alloc_new w (.cells (ints z26) 33)
  have h36 := heap_alloc_new (w.alloc (.cells (ints z26) 33)) (.cells (flt 0 0) 36)
  rw [World.size_alloc] at h36
  have HH := Lib.hid (And.intro ((Below.heap_alloc (w.alloc (.cells (ints z26) 33)) (.cells (flt 0 0) 36) w.heap.size (by simp)).trans h33) h36)
  have HB := Lib.hid ((((Below.refl _ w).alloc (Nat.le_refl w.heap.size) (.cells (ints z26) 33))).alloc (by simp) (.cells (flt 0 0) 36))
  clear h33 h36 hp hl
  go_enter Tryd.func15, Tryd.ntmps15
  go_wp2_with (first
    | ((with_reducible change wpList _ _ _ (⟨_, .alloc 33, _, _, _, _⟩ :: _) _ _); refine wpList_alloc_to rfl 33 rfl (ints z26) zero33 ?_)
    | ((with_reducible change wpList _ _ _ (⟨_, .build 33 _, _, _, _, _⟩ :: _) _ _); refine wpList_build_to rfl 33 #[] rfl [] (by simp) _ built33z ?_)
    | ((with_reducible change wpList _ _ _ (⟨_, .store 33 _ _, _, _, _, _⟩ :: _) _ _); refine wpList_store_row rfl 33 (.tmp 2) (.tmp 13) rfl w.heap.size (ints z26) rfl rfl 33 _ HH.out.1 size33' rfl (ints_one _) ?_)
    | ((with_reducible change wpList _ _ _ (⟨_, .store 36 _ _, _, _, _, _⟩ :: _) _ _); refine wpList_store_row rfl 36 (.tmp 3) (.tmp 14) rfl (w.heap.size + 1) (flt 0 18) rfl rfl 36 _ ((setRow_other _ _ _ _ (by omega)).trans HH.out.2) size36 rfl (by simp [flt, Value.oneCell']) ?_))
  exact bodyPost_ret (rend HH.out.1 HH.out.2 z26_len rfl rfl) rfl ⟨by rw [HP.out], rendb HB.out⟩
theorem rparse_calls (s : Bs) (w : World) : Calls Tryd.prog 15 #[bstr s] w fun e w' => e = .returned (retP (parsed s)) ∧ Below w.heap.size w w' := by
  by_cases hl : 65536 < s.length
  · exact rparse_long s w hl
  · exact rparse_short s w (by omega)
end Go.Proofs.YtofibebphfeglaaDoor
