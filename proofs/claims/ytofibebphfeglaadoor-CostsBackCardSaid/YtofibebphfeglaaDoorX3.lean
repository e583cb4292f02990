/- Text of the reference. -/
import Derived.Test.YtofibebphfeglaaDoorX2
namespace Go.Proofs.YtofibebphfeglaaDoor
open Go.RowKit
set_option linter.unusedVariables false
attribute [local go_sem] ints_get ints_size ints_getElem
/-- A post that the walk leaves alone: the region ends as S says. -/
def Ends (S : Act → World → Prop) : Exit → Act → World → Prop
  | .normal, a, w => S a w
  | _, _, _ => False
theorem Ends.mk {S : Act → World → Prop} {a : Act} {w : World} (h : S a w) : Ends S .normal a w := h
theorem Ends.imp {S : Act → World → Prop} {Q : Exit → Act → World → Prop} (h : ∀ a w, S a w → Q .normal a w) : ∀ e a w, Ends S e a w → Q e a w := by
  intro e a w he
  cases e <;> first | exact h a w he | exact he.elim
theorem Ends.const {P : Program} {c : Code} {a : Act} {w : World} {Q : Exit → Act → World → Prop} (T : Act) (F : World → Prop)
    (walk : c.wp P (Ends fun a' w' => a' = T ∧ F w') a w) (imp : ∀ w', F w' → Q .normal T w') : c.wp P Q a w :=
  Code.wp_mono (Ends.imp fun a' w' h => by obtain ⟨rfl, hf⟩ := h; exact imp w' hf) walk
theorem digits_at (n : Int) (h0 : 0 ≤ n) (h1 : n ≤ 1000000) (w : World) : Calls Tryd.prog 27 #[.int .i64 n] w fun e w' => e = .returned (.string ⟨(dec n).toArray⟩) ∧ w' = w := digits_calls _ n rfl h0 h1 w
theorem digits_b (n : Int) (h0 : 0 ≤ n) (h1 : n ≤ 1000000) (w : World) : Calls Tryd.prog 27 #[.int .i64 n] w fun e w' => e = .returned (.string ⟨(dec n).toArray⟩) ∧ Below w.heap.size w w' := (digits_at n h0 h1 w).mono fun e w' h => ⟨h.1, by rw [h.2]; exact Below.refl _ _⟩
theorem txt2 (s c : Int) (l : List Int) : txtK (s :: c :: l) 2 = [115, 101, 99, 116, 105, 111, 110, 32] ++ dec s ++ [10, 99, 111, 112, 121, 32] ++ dec c ++ [10] := by
  simp [txtK, List.range_succ, lineS, lab]
theorem cat5 (a b c d e : List UInt8) : ((((⟨a.toArray⟩ : ByteArray) ++ ⟨b.toArray⟩) ++ ⟨c.toArray⟩) ++ ⟨d.toArray⟩) ++ ⟨e.toArray⟩ = ⟨(a ++ b ++ c ++ d ++ e).toArray⟩ := by
  rw [bs_app, bs_app, bs_app, bs_app]
set_option maxHeartbeats 2000000 in
set_option maxRecDepth 100000 in
theorem rtext_calls (s c : Int) (l : List Int) (hl : l.length = 24) (w : World) :
    Calls Tryd.prog 12 #[.agg (ints (s :: c :: l))] w fun e w' => e = .returned (.tuple #[if okT s c l = true then bstr (textS s c l) else bstr [], .int .i64 (chk s c l)]) ∧ Below w.heap.size w w' := by
  have H := Lib.hid hl
  have HB0 := Lib.hid ((Below.refl w.heap.size w).alloc (Nat.le_refl _) (.cells (ints (s :: c :: l)) 33))
  clear hl
  cases hok : okT s c l with
  | false =>
    have HE := Lib.hid (chk_f hok)
    rw [HE.out]
    simp only [Bool.false_eq_true, if_false]
    clear hok
    go_enter Tryd.func12, Tryd.ntmps12
    go_wp2_with (first
      | (refine wpList_load_cells rfl 33 (.tmp 1) rfl ⟨w.heap.size, 0, none⟩ rfl (ints (s :: c :: l)) _ (cells_new w _ _ 33 0 rfl) Tryd.underlying33 rfl size33 (by rw [ints_size]; simp only [List.length_cons, H.out]) ?_)
      | (go_at_call 26; refine (rcheck_calls s c l H.out _).mono ?_; rw [HE.out]; rintro e w1 ⟨rfl, hb⟩; have HB := Lib.hid hb; clear hb))
    go_ret2
    exact ⟨rfl, HB0.out.trans (HB.out.mono (by simp))⟩
  | true =>
    have HE := Lib.hid (chk_t hok)
    have HT := Lib.hid (And.intro (getT H.out hok) (txtK_len H.out hok))
    rw [HE.out]
    simp only [if_true]
    clear hok
    obtain ⟨s0, s1⟩ := HT.out.1 0 (by omega)
    obtain ⟨c0, c1⟩ := HT.out.1 1 (by omega)
    simp only [List.getD_cons_zero, List.getD_cons_succ] at s0 s1 c0 c1
    have ls := dec_len s0 (by omega)
    have lc := dec_len c0 (by omega)
    go_enter Tryd.func12, Tryd.ntmps12
    go_wp2_with (first
      | (refine wpList_load_cells rfl 33 (.tmp 1) rfl ⟨w.heap.size, 0, none⟩ rfl (ints (s :: c :: l)) _ (cells_new w _ _ 33 0 rfl) Tryd.underlying33 rfl size33 (by rw [ints_size]; simp only [List.length_cons, H.out]) ?_)
      | (go_at_call 26; refine (rcheck_calls s c l H.out _).mono ?_; rw [HE.out]; rintro e w1 ⟨rfl, hb⟩; have HB := Lib.hid (And.intro (HB0.out.trans (hb.mono (by simp))) (heap_kept (heap_alloc_new w _) hb)); clear hb))
    have k0 : w1.cell? ⟨w.heap.size, 0, none⟩ = some (.int .i64 s) := ints_cell HB.out.2 0 (by simp)
    have k1 : w1.cell? ⟨w.heap.size, 1, none⟩ = some (.int .i64 c) := ints_cell HB.out.2 1 (by simp)
    have k0' : ∀ d os, (Sort.grow (redrawn w1 d) os).cell? ⟨w.heap.size, 0, none⟩ = some (.int .i64 s) := fun d os => cell_regrown k0 d os
    have k1' : ∀ d os, (Sort.grow (redrawn w1 d) os).cell? ⟨w.heap.size, 1, none⟩ = some (.int .i64 c) := fun d os => cell_regrown k1 d os
    clear k0 k1
    apply Ends.const (F := fun w' => Below w1.heap.size w1 w')
    case walk =>
      refine wp_region_quiet_below (by kernel_rfl) (by kernel_rfl) ?_
      have g1 : ¬ (9223372036854775807 < 8 + (dec s).length) := by omega
      have g2 : ¬ (9223372036854775807 < 8 + (dec s).length + 6) := by omega
      have g3 : ¬ (9223372036854775807 < 8 + (dec s).length + 6 + (dec c).length) := by omega
      have g4 : ¬ (9223372036854775807 < 8 + (dec s).length + 6 + (dec c).length + 1) := by omega
      repeat (first
        | quiet_step ((go_at_call 27; first | (with_reducible exact (digits_b s s0 (by omega) _).regrown_of) | (with_reducible exact (digits_b c c0 (by omega) _).regrown_of))))
      refine wpQuiet_nil ?_
      intro w2 hw2
      exact Ends.mk ⟨rfl, below_of_regrown hw2⟩
    case imp =>
      intro w2 hb2
      have HB2 := Lib.hid hb2
      clear hb2
      have e0 : ((((⟨#[115, 101, 99, 116, 105, 111, 110, 32]⟩ : ByteArray) ++ ⟨(dec s).toArray⟩) ++ ⟨#[10, 99, 111, 112, 121, 32]⟩) ++ ⟨(dec c).toArray⟩) ++ ⟨#[10]⟩ = ⟨(txtK (s :: c :: l) 2).toArray⟩ := by
        rw [txt2]
        exact cat5 [115, 101, 99, 116, 105, 111, 110, 32] (dec s) [10, 99, 111, 112, 121, 32] (dec c) [10]
      rw [e0]
      clear e0 ls lc
      go_wp2
      go_loopw [4, 5] (fun x i wr => ∃ k : Nat, k ≤ 24 ∧ i = .int .i64 k ∧ x = .string ⟨(txtK (s :: c :: l) (2 + k)).toArray⟩ ∧ Hid (Below w1.heap.size w1 wr)) (fun _ i _ => 24 - (intOf i).toNat)
      case atStart => exact ⟨0, by omega, rfl, rfl, HB2⟩
      case round =>
        obtain ⟨k, hk, rfl, rfl, HI⟩ := hrel
        by_cases hlt : k < 24
        · have hlt' : (k : Int) < 24 := by omega
          have hT := HT.out.2 (2 + k) (by omega)
          have hnl : (lab.getD (2 + k) []).length ≤ 20 := by
            have : ∀ i, i < 26 → (lab.getD i []).length ≤ 20 := by decide
            exact this (2 + k) (by omega)
          obtain ⟨n0, n1⟩ := HT.out.1 (2 + k) (by omega)
          have hrow : wr.heap[w.heap.size]? = some (.cells (ints (s :: c :: l)) 33) := (HI.out.block _ (Array.getElem?_eq_some_iff.1 HB.out.2).1).trans HB.out.2
          have c1 : wr.cell? ⟨w.heap.size, 2 + k, none⟩ = some (.int .i64 ((s :: c :: l).getD (2 + k) 0)) := ints_cell hrow (2 + k) (by simp [H.out]; omega)
          have c2 : (wr.alloc (.cells (strs nm) 9)).cell? ⟨w.heap.size, 2 + k, none⟩ = some (.int .i64 ((s :: c :: l).getD (2 + k) 0)) := ints_cell ((Below.heap_alloc _ _ _ (Array.getElem?_eq_some_iff.1 hrow).1).trans hrow) (2 + k) (by simp [H.out]; omega)
          have c3 : (wr.alloc (.cells (strs nm) 9)).cell? ⟨wr.heap.size, k, none⟩ = some (.string ⟨(lab.getD (2 + k) []).toArray⟩) := by
            rw [strs_cell wr k hlt]
            unfold bs
            rw [Nat.add_comm 2 k]
            rfl
          have HTS := Lib.hid (txtK_succ (s :: c :: l) (2 + k))
          have hls : lineS (s :: c :: l) (2 + k) = lab.getD (2 + k) [] ++ 32 :: (dec ((s :: c :: l).getD (2 + k) 0) ++ [10]) := rfl
          have HLS := Lib.hid hls
          clear hls hrow
          generalize (s :: c :: l).getD (2 + k) 0 = n at *
          generalize lab.getD (2 + k) [] = nm0 at *
          have ln := dec_len n0 (by omega)
          go_wp2_with fail
          apply Ends.const (F := fun w' => Below w1.heap.size w1 w')
          case walk =>
            go_region_with (first
              | (go_at_call 20; refine (names_calls _).mono ?_; rintro e w' ⟨rfl, rfl⟩)
              | (go_at_call 27; refine (digits_at n n0 (by omega) _).mono ?_; rintro e w' ⟨rfl, rfl⟩))
            all_goals exact Ends.mk ⟨rfl, (HI.out.alloc HI.out.size _).drew⟩
          case imp =>
            intro w3 hb3
            have HB3 := Lib.hid hb3
            clear hb3 c2 c3
            have e1 : (⟨(txtK (s :: c :: l) (2 + k)).toArray⟩ : ByteArray) ++ ((((⟨nm0.toArray⟩ : ByteArray) ++ ⟨#[32]⟩) ++ ⟨(dec n).toArray⟩) ++ ⟨#[10]⟩) = ⟨(txtK (s :: c :: l) (2 + (k + 1))).toArray⟩ := by
              rw [show 2 + (k + 1) = 2 + k + 1 by omega, HTS.out, HLS.out, ← bs_app]
              congr 1
              rw [show (⟨#[32]⟩ : ByteArray) = ⟨[32].toArray⟩ from rfl, show (⟨#[10]⟩ : ByteArray) = ⟨[10].toArray⟩ from rfl, bs_app, bs_app, bs_app]
              simp
            rw [e1]
            clear e1
            go_wp2
            go_roundw
            case rel => exact ⟨k + 1, by omega, by go_num, rfl, HB3⟩
            case measure => simp [intOf]; omega
        · obtain rfl : k = 24 := by omega
          go_wp2
          go_ret2
          exact ⟨rfl, HB.out.1.trans (HI.out.mono HB.out.1.size)⟩
end Go.Proofs.YtofibebphfeglaaDoor
