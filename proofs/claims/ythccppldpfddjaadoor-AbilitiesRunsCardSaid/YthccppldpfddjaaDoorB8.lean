/- rights.apply (37). -/
import Derived.Test.YthccppldpfddjaaDoorB7
namespace Go.Proofs.YthccppldpfddjaaDoor
open Go.RowKit
set_option linter.unusedVariables false
def atD (o : OpA) (d : Nat) : Nat := if d = 0 then at0 o else at1 o
def nextC (o : OpA) (S : St) (d : Nat) : Nat → Rt := fun i => if i < d then oneS o i (S (atD o i)) else ⟨[], false, false⟩
def errC (o : OpA) (S : St) (d : Nat) : Int := if (0 < d ∧ bigS o 0 (S (at0 o)) = true) ∨ (1 < d ∧ bigS o 1 (S (at1 o)) = true) then 18 else 0
theorem zero2 (w : World) (S : Nat → Rt) (h : ∀ i, S i = ⟨[], false, false⟩) : RArr 2 39 43 (w.alloc (.cells #[.slice none 0 0, .bool false, .bool false, .slice none 0 0, .bool false, .bool false] 39)) w.heap.size (fun _ => .slice none 0 0) S := by
  refine ⟨⟨_, heap_alloc_new w _, rfl, fun j hj => ?_⟩, fun i hi => ?_⟩
  · rcases (by omega : j = 0 ∨ j = 1 ∨ j = 2 ∨ j = 3 ∨ j = 4 ∨ j = 5) with rfl | rfl | rfl | rfl | rfl | rfl <;> simp [rcell, h]
  · rw [h i]; exact ls_nil _ _
/-- What the loop keeps: the box of the operation, the next rights. -/
structure AJ (w : World) (o : OpA) (tb : Nat) (C : Nat → Rt) (wr : World) : Prop where
  bel : Below w.heap.size w wr
  box : wr.heap[w.heap.size]? = some (.cells (opA o) 35 (0, 0))
  lt : w.heap.size < tb
  arr : ∃ lv', RArr 2 39 43 wr tb lv' C
theorem AJ.below {w : World} {o : OpA} {tb : Nat} {C : Nat → Rt} {wr w2 : World} (h : AJ w o tb C wr) (hb : Below wr.heap.size wr w2) : AJ w o tb C w2 :=
  ⟨h.bel.trans (hb.mono h.bel.size), (hb.block _ (Array.getElem?_eq_some_iff.1 h.box).1).trans h.box, h.lt, h.arr.imp fun _ h => h.below hb⟩
theorem set3_below {w : World} {B t : Nat} (o : Nat) (a b c : Value) (h : B ≤ t) : Below B w (set3 w t o a b c) :=
  (((Below.refl B w).setCell h _).setCell h _).setCell h _
theorem AJ.store {w : World} {o : OpA} {tb : Nat} {C : Nat → Rt} {wr : World} (h : AJ w o tb C wr) {i : Nat} (hi : i < 2) {v : Value} {r : Rt} (hv : Ls wr 43 v r.rs) : AJ w o tb (upd C i r) (set3 wr tb (i * 3) v (.bool r.lk) (.bool r.inh)) := by
  obtain ⟨lv', h1⟩ := h.arr
  exact ⟨h.bel.trans (set3_below _ _ _ _ (Nat.le_of_lt h.lt)), (set3_other _ _ _ _ _ _ _ (Nat.ne_of_lt h.lt)).trans h.box, h.lt, _, h1.store (by decide) hi hv⟩
theorem AJ.eff {w : World} {o : OpA} {tb : Nat} {C : Nat → Rt} {wr w2 : World} {e : Ending} {i : Nat} {r : Rt} (h : AJ w o tb C wr) (he : Eff wr tb i C r e w2) : AJ w o tb (upd C i r) w2 := by
  obtain ⟨-, lv', h1, h2⟩ := he
  refine ⟨h.bel.trans ((Below.refl _ _).grown h2 h.bel.size fun k hk => by cases hk; exact Nat.le_of_lt h.lt), ?_, h.lt, lv', h1⟩
  exact (h2.block _ (Array.getElem?_eq_some_iff.1 h.box).1 (by simpa using Nat.ne_of_lt h.lt)).trans h.box
theorem nextC_not {o : OpA} {S : St} {d ii : Nat} (hd : hasD o.dom d = false) (hat : atD o d = ii) : upd (nextC o S d) d (S ii) = nextC o S (d + 1) := by
  funext i
  unfold upd nextC
  by_cases h : i = d
  · subst h; simp [oneS, hd, hat]
  · by_cases h1 : i < d
    · simp [h, h1, show i < d + 1 by omega]
    · simp [h, h1, show ¬ i < d + 1 by omega]
theorem nextC_has {o : OpA} {S : St} {d ii : Nat} {K lo hi : Int} (hd : hasD o.dom d = true) (hat : atD o d = ii) (hk : o.kind = K) (hl : o.lo = lo) (hh : o.hi = hi) :
    upd (upd (nextC o S d) d (S ii)) d (effS K lo hi (upd (nextC o S d) d (S ii) d)) = nextC o S (d + 1) := by
  funext i
  unfold upd nextC
  by_cases h : i = d
  · subst h; simp [oneS, hd, hat, hk, hl, hh]
  · by_cases h1 : i < d
    · simp [h, h1, show i < d + 1 by omega]
    · simp [h, h1, show ¬ i < d + 1 by omega]
theorem nextC_at (o : OpA) (S : St) (d : Nat) : nextC o S (d + 1) d = oneS o d (S (atD o d)) := by simp [nextC]
theorem code_bad {o : OpA} {S : St} {d : Nat} (hc : checkS o = 0) (hd : d < 2) (h : badS o d (S (atD o d)) = true) : codeS S o = 32 := by
  unfold codeS
  rw [if_neg (by simp [hc]), if_pos]
  rcases (by omega : d = 0 ∨ d = 1) with rfl | rfl
  · exact .inl h
  · exact .inr h
theorem code_end {o : OpA} {S : St} (hc : checkS o = 0) (h : ∀ j, j < 2 → badS o j (S (atD o j)) = false) : codeS S o = errC o S 2 := by
  have h0 : badS o 0 (S (at0 o)) = false := h 0 (by omega)
  have h1 : badS o 1 (S (at1 o)) = false := h 1 (by omega)
  unfold codeS errC
  rw [if_neg (by simp [hc]), if_neg (by simp [h0, h1])]
  simp
theorem errC_succ {o : OpA} {S : St} {d : Nat} (hd : d < 2) : errC o S (d + 1) = if bigS o d (S (atD o d)) = true then 18 else errC o S d := by
  rcases (by omega : d = 0 ∨ d = 1) with rfl | rfl
  · simp [errC, atD]
  · by_cases h : bigS o 1 (S (at1 o)) = true
    · simp [errC, atD, h]
    · simp [errC, atD, h]
theorem noBad_succ {o : OpA} {S : St} {d : Nat} (h : ∀ j, j < d → badS o j (S (atD o j)) = false) (hb : badS o d (S (atD o d)) = false) : ∀ j, j < d + 1 → badS o j (S (atD o j)) = false := fun j hj => by
  by_cases e : j = d
  · subst e; exact hb
  · exact h j (by omega)
def SD (o : OpA) (S : St) (d : Nat) : St := if d = 0 then S else if d = 1 then upd S (at0 o) (nextC o S 2 0) else upd (upd S (at0 o) (nextC o S 2 0)) (at1 o) (nextC o S 2 1)
theorem SD_two (o : OpA) (S : St) : SD o S 2 = nextS S o := by simp [SD, nextS, nextC, atD]
theorem SD_succ (o : OpA) (S : St) {d : Nat} (hd : d < 2) : SD o S (d + 1) = upd (SD o S d) (atD o d) (nextC o S 2 d) := by
  rcases (by omega : d = 0 ∨ d = 1) with rfl | rfl <;> simp [SD, atD]
/-- What the second loop keeps. -/
structure BJ (w : World) (o : OpA) (S : St) (b tb d : Nat) (wr : World) : Prop where
  gr : w.grownBy wr (some b)
  box : wr.heap[w.heap.size]? = some (.cells (opA o) 35 (0, 0))
  arr : ∃ lv', RArr 2 39 43 wr tb lv' (nextC o S 2)
  tab : ∃ lv', RArr 64 77 43 wr b lv' (SD o S d)
theorem grown_set3 {w W : World} {b : Nat} (h : w.grownBy W (some b)) (o : Nat) (x y z : Value) : w.grownBy (set3 W b o x y z) (some b) :=
  ⟨h.os, h.tape, h.output, by have := h.size; simpa [set3, World.setCell] using this, fun k hk hne => by
    rw [set3_other _ _ _ _ _ _ _ (by rintro rfl; exact hne rfl)]; exact h.block k hk hne⟩
theorem BJ.drew {w : World} {o : OpA} {S : St} {b tb d : Nat} {wr : World} (h : BJ w o S b tb d wr) : BJ w o S b tb d wr.drew :=
  ⟨⟨h.gr.os, h.gr.tape, h.gr.output, h.gr.size, h.gr.block⟩, h.box, h.arr.imp fun _ h => h.below (Below.drew (Below.refl _ _)), h.tab.imp fun _ h => h.below (Below.drew (Below.refl _ _))⟩
theorem BJ.store {w : World} {o : OpA} {S : St} {b tb d : Nat} {wr : World} (h : BJ w o S b tb d wr) (hd : d < 2) (hb : b < w.heap.size) {ii : Nat} (hat : atD o d = ii) (hii : ii < 64) {v : Value} (hv : Ls wr 43 v (nextC o S 2 d).rs) :
    BJ w o S b tb (d + 1) (set3 wr b (ii * 3) v (.bool (nextC o S 2 d).lk) (.bool (nextC o S 2 d).inh)) := by
  obtain ⟨lv1, h1⟩ := h.arr
  obtain ⟨lv2, h2⟩ := h.tab
  obtain ⟨cs, h3, -, -⟩ := h2.tab
  obtain ⟨ds, h4, -, -⟩ := h1.tab
  refine ⟨grown_set3 h.gr _ _ _ _, (set3_other wr b (ii * 3) _ _ _ w.heap.size (Nat.ne_of_gt hb)).trans h.box, ⟨lv1, ?_⟩, upd lv2 ii v, ?_⟩
  · exact h1.other h3 (by rintro rfl; rw [h3] at h4; cases h4) (by decide) (fun k _ hk => set3_other _ _ _ _ _ _ _ hk)
  rw [SD_succ o S hd, hat]
  exact h2.store (by decide) hii hv
set_option maxHeartbeats 4000000 in
set_option maxRecDepth 100000 in
theorem apply_calls0 (k a : Nat) (dom lo hi : Int) (o : OpA) (hoe : o = ⟨k, a, dom, lo, hi⟩) (b : Nat) (lv : Nat → Value) (S : St) (w : World) (hE : EffAt w) (h : RArr 64 77 43 w b lv S) (hS : StOk S) (ho : checkS o = 0) :
    Calls Tryd.prog 37 #[.pointer (some ⟨b, 0, none⟩), .agg #[.int .i64 k, .int .i64 a, .int .i64 dom, .int .i64 lo, .int .i64 hi]] w fun e w' => e = .returned (.int .i64 (codeS S o)) ∧ ∃ lv', RArr 64 77 43 w' b lv' (stepS S o) ∧ w.grownBy w' (some b) := by
  obtain ⟨hk, ha, hr, hd, hz⟩ := checkS_ok ho
  have HCk := Lib.hid (check_calls o (w.alloc (.cells (opA o) 35)))
  have HO := Lib.hid hoe
  have hbx0 : Below w.heap.size w (w.alloc (.cells (opA o) 35)) := (Below.refl _ w).alloc (Nat.le_refl _) _
  have hbx : (w.alloc (.cells (opA o) 35)).heap[w.heap.size]? = some (.cells (opA o) 35 (0, 0)) := heap_alloc_new w _
  rw [ho] at HCk
  have HA := Lib.hid (And.intro hE (And.intro h (And.intro hS (And.intro ho (show okR (lo, hi) ∧ ((0 : Int) ≤ k ∧ (k : Int) < 5) ∧ ((0 : Int) ≤ a ∧ (a : Int) < 32) ∧ 1 ≤ dom ∧ dom ≤ 3 from by rw [hoe] at hk ha hr hd; exact ⟨hr, hk, ha, hd⟩)))))
  have HB := Lib.hid (And.intro hbx0 hbx)
  rw [hoe] at HCk HB
  unfold opA at HCk HB
  simp only at HCk HB
  clear hE h hS ho hr hk ha hd hz hbx0 hbx hoe
  go_enter Tryd.func37, Tryd.ntmps37
  go_wp2_with (go_at_call 61; refine HCk.out.mono ?_; rintro e w1 ⟨rfl, h1⟩; have HB1 := Lib.hid h1; clear h1)
  have HT := Lib.hid (show w.heap.size < w1.heap.size from by have := HB1.out.size; simp at this; omega)
  have HBW := Lib.hid (show Below w.heap.size w w1 from HB.out.1.trans (HB1.out.mono HB.out.1.size))
  have HX := Lib.hid (show w1.heap[w.heap.size]? = _ from (HB1.out.block _ (by simp)).trans HB.out.2)
  have HJ0 := Lib.hid (AJ.mk (o := o) (tb := w1.heap.size) (C := nextC o S 0) (HBW.out.trans ((Below.refl _ _).alloc HBW.out.size _)) ((Below.heap_alloc _ _ _ HT.out).trans (by rw [HO.out]; exact HX.out)) HT.out ⟨_, zero2 w1 _ (fun i => by simp [nextC])⟩)
  clear HCk HB HX
  go_loopw [17, 7] (fun i er wr => ∃ d : Nat, d ≤ 2 ∧ i = .int .i64 d ∧ er = .int .i64 (errC o S d) ∧ Hid (AJ w o w1.heap.size (nextC o S d) wr) ∧ Hid (∀ j, j < d → badS o j (S (atD o j)) = false)) (fun i _ _ => 2 - (intOf i).toNat)
  case atStart => exact ⟨0, by omega, rfl, rfl, HJ0, Lib.hid (fun j hj => by omega)⟩
  case round =>
    obtain ⟨d, hd, rfl, rfl, HJ, HNB⟩ := hrel
    rcases (by omega : d = 0 ∨ d = 1 ∨ d = 2) with rfl | rfl | rfl
    · have ha : a < 32 := by have := HA.out.2.2.2.2.2.2.1.2; omega
      have hbx := HJ.out.box
      rw [HO.out] at hbx
      obtain ⟨e0, e1, e2, e3, e4⟩ := five_cells hbx
      have HR := Lib.hid (HA.out.2.1.below HJ.out.bel)
      obtain ⟨q0, q1, q2⟩ := HR.out.three (i := a) (by omega)
      have hai : (a : Int) < 32 := by omega
      have hk5 : (k : Int) < 5 := HA.out.2.2.2.2.2.1.2
      clear hbx
      rcases (by have := HA.out.2.2.2.2.2.2.2; omega : dom = 1 ∨ dom = 2 ∨ dom = 3) with rfl | rfl | rfl
      · obtain ⟨A1, c1, hv1, -, -, -, -⟩ := Rw.form (HR.out.row a (by have := ha; omega))
        have HCP := Lib.hid (fun W (hW : Below wr.heap.size wr W) => copied_calls (S a) (lv a) W ((HR.out.row a (by have := ha; omega)).below hW) (by have := (HA.out.2.2.1 a (by have := ha; omega)).2; omega))
        unfold rv at HCP
        rw [hv1] at HCP q0
        have HV1 := Lib.hid hv1
        clear hv1
        have HD := Lib.hid (fun nq => below_dN (Below.refl wr.heap.size wr) nq)
        go_wp2
        go_quiet (fail)
        go_wp2_with (go_at_call 47; refine (HCP.out _ (HD.out nq)).mono ?_; rintro e w2 ⟨v2, rfl, h1, h2⟩; obtain ⟨A2, c2, rfl, -, -, -, -⟩ := Rw.form h1; have HJ2 := Lib.hid (HJ.out.below ((HD.out nq).trans (h2.mono (HD.out nq).size))); have f0 := RArr.frozen HJ2.out.arr.choose_spec 0; have f1 := RArr.frozen HJ2.out.arr.choose_spec 1; have f2 := RArr.frozen HJ2.out.arr.choose_spec 2; have g0 := RArr.three HJ2.out.arr.choose_spec (i := 0) (by decide); have HJ3 := Lib.hid (HJ2.out.store (i := 0) (by decide) h1); have hbx3 := HJ3.out.box; rw [HO.out] at hbx3; have HF3 := five_cells hbx3; unfold set3 at HF3; simp only [Nat.zero_mul, Nat.one_mul, Nat.zero_add, Nat.reduceMul, Nat.reduceAdd] at HF3 g0; have g00 := g0.1; have g01 := g0.2.1; have g02 := g0.2.2; have e0 := HF3.1; have e1 := HF3.2.1; have e2 := HF3.2.2.1; have e3 := HF3.2.2.2.1; have e4 := HF3.2.2.2.2; clear HF3 hbx3 h1 h2 g0)
        go_wp2
        obtain ⟨W3, hW3⟩ : ∃ W3, W3 = set3 w2 w1.heap.size (0 * 3) (.slice A2 (S a).rs.length c2) (.bool (S a).lk) (.bool (S a).inh) := ⟨_, rfl⟩
        rw [← hW3] at HJ3
        unfold set3 at hW3
        simp only [Nat.zero_mul, Nat.one_mul, Nat.zero_add, Nat.reduceMul, Nat.reduceAdd] at hW3
        rw [← hW3] at e0 e1 e2 e3 e4 ⊢
        clear hW3
        have hE3 : W3.cell? ⟨1, k, none⟩ = some (.func (.func (effF k)) #[] #[]) := (HA.out.1.below HJ3.out.bel) k (by omega)
        go_still_tail 7, (by kernel_rfl)
        change wpList _ _ _ _ _ W3.drew
        have HAt := Lib.hid (show atD o 0 = a from by rw [HO.out]; simp [atD, at0, at1])
        have HHd := Lib.hid (show hasD o.dom 0 = true from by rw [HO.out]; rfl)
        have HJd := Lib.hid (HJ3.out.below (Below.drew (Below.refl _ W3)))
        clear hE3 e0 e1 e2 e3 e4 g00 g01 g02 f0 f1 f2 q0 q1 q2
        obtain ⟨lv3, hr3⟩ := HJd.out.arr
        have hnx := nextC_has (S := S) (K := k) (lo := lo) (hi := hi) HHd.out HAt.out (by rw [HO.out]) (by rw [HO.out]) (by rw [HO.out])
        refine wpList_callv rfl (.tmp 42) _ _ rfl (effF k) rfl (effF_enters k) [.pointer (some ⟨w1.heap.size, 0 * 3, none⟩), .agg #[.int .i64 k, .int .i64 a, .int .i64 1, .int .i64 lo, .int .i64 hi]] rfl (eff_calls k (by omega) a 1 lo hi w1.heap.size 0 lv3 _ W3.drew (by decide) hr3 (by rw [upd_same]; exact (HA.out.2.2.1 a (by omega)).1) (by rw [upd_same]; have := (HA.out.2.2.1 a (by omega)).2; omega) HA.out.2.2.2.2.1) ?_
        intro e w4 he
        have hj4 := HJd.out.eff he
        obtain rfl := he.1
        rw [hnx] at hj4
        clear he hr3 hnx HJd
        refine ⟨_, rfl, ?_⟩
        have HJ4 := Lib.hid hj4
        obtain ⟨lv4, hr4⟩ := hj4.arr
        obtain ⟨A4, c4, hv4, -, -, -, -⟩ := Rw.form (hr4.row 0 (by decide))
        have HL4 := Lib.hid (hr4.row 0 (by decide))
        have p := hr4.three (i := 0) (by decide)
        have hone := nextC_at o S 0
        rw [HAt.out] at hone
        rw [hone] at hv4 p HL4
        rw [hv4] at p HL4
        simp only [Nat.zero_mul, Nat.one_mul, Nat.zero_add, Nat.reduceMul, Nat.reduceAdd] at p
        obtain ⟨p0, p1, p2⟩ := p
        have HR4 := Lib.hid (HA.out.2.1.below hj4.bel)
        obtain ⟨q0, q1, q2⟩ := HR4.out.three (i := a) (by omega)
        rw [HV1.out] at q0
        have hbx := hj4.box
        rw [HO.out] at hbx
        obtain ⟨e0, e1, e2, e3, e4⟩ := five_cells hbx
        clear hbx hr4 hv4 hone hj4
        have HBg := Lib.hid (show bigS o 0 (S (atD o 0)) = decide (50 < (oneS o 0 (S a)).rs.length) from by rw [HAt.out]; simp [bigS, HHd.out])
        have HBd := Lib.hid (show badS o 0 (S (atD o 0)) = ((S a).lk && !((S a).eqb (oneS o 0 (S a)))) from by rw [HAt.out]; simp [badS, HHd.out])
        have HGl := Lib.hid (show (S a).rs.length ≤ 50 from (HA.out.2.2.1 a (by omega)).2)
        have HLS := Lib.hid (show Ls w4 43 (.slice A1 (S a).rs.length c1) (S a).rs from by have := HR4.out.row a (by omega); rw [HV1.out] at this; exact this)
        generalize oneS o 0 (S a) = r4 at *
        generalize S a = r0 at *
        obtain ⟨rs0, lk0, in0⟩ := r0
        obtain ⟨rs4, lk4, in4⟩ := r4
        simp only at p0 p1 p2 q0 q1 q2 HBg HBd HGl HL4 HLS
        simp only [Act.put, List.setIfInBounds_toArray, List.set_cons_zero, List.set_cons_succ]
        cases lk0
        · have HNB1 := Lib.hid (noBad_succ HNB.out (by rw [HBd.out]; rfl))
          by_cases hbig : 50 < rs4.length
          · have hbi : (50 : Int) < (rs4.length : Int) := by omega
            have HE18 := Lib.hid (show errC o S 1 = 18 from (errC_succ (by omega)).trans (by rw [HBg.out]; simp [hbig]))
            clear hbig
            go_wp2
            go_quiet (fail)
            go_wp2
            go_roundw
            case rel => exact ⟨1, by omega, by go_num, by rw [HE18.out], Lib.hid (HJ4.out.below (below_dN (Below.refl _ _) nq)), HNB1⟩
            case measure => simp [intOf]
          · have hbi : (rs4.length : Int) ≤ 50 := by omega
            have HE18 := Lib.hid (show errC o S 1 = errC o S 0 from (errC_succ (by omega)).trans (by rw [HBg.out]; simp [hbig]))
            clear hbig
            go_wp2
            go_quiet (fail)
            go_wp2
            go_roundw
            case rel => exact ⟨1, by omega, by go_num, by rw [HE18.out], Lib.hid (HJ4.out.below (below_dN (Below.refl _ _) nq)), HNB1⟩
            case measure => simp [intOf]
        · have HEq := Lib.hid (equal_calls (.slice A1 rs0.length c1) (.slice A4 rs4.length c4) ⟨rs0, true, in0⟩ ⟨rs4, lk4, in4⟩ w4.drew (HLS.out.below (Below.drew (Below.refl _ _))) (HL4.out.below (Below.drew (Below.refl _ _))) (by have := HGl.out; simp; omega))
          unfold rv at HEq
          simp only at HEq
          cases hq : Rt.eqb ⟨rs0, true, in0⟩ ⟨rs4, lk4, in4⟩
          · have HBD := Lib.hid (show badS o 0 (S (atD o 0)) = true from by rw [HBd.out, hq]; rfl)
            rw [hq] at HEq
            clear hq
            go_wp2
            go_still_tail 11, (by kernel_rfl)
            change wpList _ _ _ _ _ w4.drew
            go_wp2_with (go_at_call 39; refine HEq.out.mono ?_; rintro e w5 ⟨rfl, h5⟩; have HB5 := Lib.hid ((Below.drew (Below.refl _ w4)).trans h5); clear h5)
            go_ret
            refine ⟨by rw [code_bad HA.out.2.2.2.1 (by omega) HBD.out]; rfl, lv, ?_, grown_of_below' (HJ4.out.below HB5.out).bel _⟩
            rw [show stepS S o = S from by unfold stepS; rw [code_bad HA.out.2.2.2.1 (by omega) HBD.out, if_neg (by decide)]]
            exact HA.out.2.1.below (HJ4.out.below HB5.out).bel
          · have HNB1 := Lib.hid (noBad_succ HNB.out (by rw [HBd.out, hq]; rfl))
            rw [hq] at HEq
            clear hq
            have HC5 := Lib.hid (show ∀ w5, Below w4.heap.size w4 w5 → w5.cell? ⟨w1.heap.size, 0, none⟩ = some (.slice A4 rs4.length c4) from fun w5 h5 => (World.cell?_of_block (h5.block _ (by have := HJ4.out.arr.choose_spec.lt; exact this))).trans p0)
            by_cases hbig : 50 < rs4.length
            · have hbi : (50 : Int) < (rs4.length : Int) := by omega
              have HE18 := Lib.hid (show errC o S 1 = 18 from (errC_succ (by omega)).trans (by rw [HBg.out]; simp [hbig]))
              clear hbig
              go_wp2
              go_still_tail 11, (by kernel_rfl)
              change wpList _ _ _ _ _ w4.drew
              go_wp2_with (go_at_call 39; refine HEq.out.mono ?_; rintro e w5 ⟨rfl, h5⟩; have HB5 := Lib.hid ((Below.drew (Below.refl _ w4)).trans h5); have p50 := HC5.out w5 HB5.out; clear h5)
              go_roundw
              case rel => exact ⟨1, by omega, by go_num, by rw [HE18.out], Lib.hid (HJ4.out.below HB5.out), HNB1⟩
              case measure => simp [intOf]
            · have hbi : (rs4.length : Int) ≤ 50 := by omega
              have HE18 := Lib.hid (show errC o S 1 = errC o S 0 from (errC_succ (by omega)).trans (by rw [HBg.out]; simp [hbig]))
              clear hbig
              go_wp2
              go_still_tail 11, (by kernel_rfl)
              change wpList _ _ _ _ _ w4.drew
              go_wp2_with (go_at_call 39; refine HEq.out.mono ?_; rintro e w5 ⟨rfl, h5⟩; have HB5 := Lib.hid ((Below.drew (Below.refl _ w4)).trans h5); have p50 := HC5.out w5 HB5.out; clear h5)
              go_roundw
              case rel => exact ⟨1, by omega, by go_num, by rw [HE18.out], Lib.hid (HJ4.out.below HB5.out), HNB1⟩
              case measure => simp [intOf]
      · obtain ⟨A1, c1, hv1, -, -, -, -⟩ := Rw.form (HR.out.row a (by have := ha; omega))
        have HCP := Lib.hid (fun W (hW : Below wr.heap.size wr W) => copied_calls (S a) (lv a) W ((HR.out.row a (by have := ha; omega)).below hW) (by have := (HA.out.2.2.1 a (by have := ha; omega)).2; omega))
        unfold rv at HCP
        rw [hv1] at HCP q0
        have HV1 := Lib.hid hv1
        clear hv1
        have HD := Lib.hid (fun nq => below_dN (Below.refl wr.heap.size wr) nq)
        go_wp2
        go_quiet (fail)
        go_wp2_with (go_at_call 47; refine (HCP.out _ (HD.out nq)).mono ?_; rintro e w2 ⟨v2, rfl, h1, h2⟩; obtain ⟨A2, c2, rfl, -, -, -, -⟩ := Rw.form h1; have HJ2 := Lib.hid (HJ.out.below ((HD.out nq).trans (h2.mono (HD.out nq).size))); have f0 := RArr.frozen HJ2.out.arr.choose_spec 0; have f1 := RArr.frozen HJ2.out.arr.choose_spec 1; have f2 := RArr.frozen HJ2.out.arr.choose_spec 2; have g0 := RArr.three HJ2.out.arr.choose_spec (i := 0) (by decide); have HJ3 := Lib.hid (HJ2.out.store (i := 0) (by decide) h1); have hbx3 := HJ3.out.box; rw [HO.out] at hbx3; have HF3 := five_cells hbx3; unfold set3 at HF3; simp only [Nat.zero_mul, Nat.one_mul, Nat.zero_add, Nat.reduceMul, Nat.reduceAdd] at HF3 g0; have g00 := g0.1; have g01 := g0.2.1; have g02 := g0.2.2; have e0 := HF3.1; have e1 := HF3.2.1; have e2 := HF3.2.2.1; have e3 := HF3.2.2.2.1; have e4 := HF3.2.2.2.2; clear HF3 hbx3 h1 h2 g0)
        have HAt := Lib.hid (show atD o 0 = a from by rw [HO.out]; simp [atD, at0, at1])
        have HHd := Lib.hid (show hasD o.dom 0 = false from by rw [HO.out]; rfl)
        have hnx := nextC_not (S := S) HHd.out HAt.out
        rw [hnx] at HJ3
        clear hnx
        go_wp2
        go_roundw
        case rel => exact ⟨1, by omega, by go_num, by rw [show errC o S 1 = errC o S 0 from (errC_succ (by omega)).trans (by simp [bigS, HHd.out])], HJ3, Lib.hid (noBad_succ HNB.out (by simp [badS, HHd.out]))⟩
        case measure => simp [intOf]
      · obtain ⟨A1, c1, hv1, -, -, -, -⟩ := Rw.form (HR.out.row a (by have := ha; omega))
        have HCP := Lib.hid (fun W (hW : Below wr.heap.size wr W) => copied_calls (S a) (lv a) W ((HR.out.row a (by have := ha; omega)).below hW) (by have := (HA.out.2.2.1 a (by have := ha; omega)).2; omega))
        unfold rv at HCP
        rw [hv1] at HCP q0
        have HV1 := Lib.hid hv1
        clear hv1
        have HD := Lib.hid (fun nq => below_dN (Below.refl wr.heap.size wr) nq)
        go_wp2
        go_quiet (fail)
        go_wp2_with (go_at_call 47; refine (HCP.out _ (HD.out nq)).mono ?_; rintro e w2 ⟨v2, rfl, h1, h2⟩; obtain ⟨A2, c2, rfl, -, -, -, -⟩ := Rw.form h1; have HJ2 := Lib.hid (HJ.out.below ((HD.out nq).trans (h2.mono (HD.out nq).size))); have f0 := RArr.frozen HJ2.out.arr.choose_spec 0; have f1 := RArr.frozen HJ2.out.arr.choose_spec 1; have f2 := RArr.frozen HJ2.out.arr.choose_spec 2; have g0 := RArr.three HJ2.out.arr.choose_spec (i := 0) (by decide); have HJ3 := Lib.hid (HJ2.out.store (i := 0) (by decide) h1); have hbx3 := HJ3.out.box; rw [HO.out] at hbx3; have HF3 := five_cells hbx3; unfold set3 at HF3; simp only [Nat.zero_mul, Nat.one_mul, Nat.zero_add, Nat.reduceMul, Nat.reduceAdd] at HF3 g0; have g00 := g0.1; have g01 := g0.2.1; have g02 := g0.2.2; have e0 := HF3.1; have e1 := HF3.2.1; have e2 := HF3.2.2.1; have e3 := HF3.2.2.2.1; have e4 := HF3.2.2.2.2; clear HF3 hbx3 h1 h2 g0)
        go_wp2
        obtain ⟨W3, hW3⟩ : ∃ W3, W3 = set3 w2 w1.heap.size (0 * 3) (.slice A2 (S a).rs.length c2) (.bool (S a).lk) (.bool (S a).inh) := ⟨_, rfl⟩
        rw [← hW3] at HJ3
        unfold set3 at hW3
        simp only [Nat.zero_mul, Nat.one_mul, Nat.zero_add, Nat.reduceMul, Nat.reduceAdd] at hW3
        rw [← hW3] at e0 e1 e2 e3 e4 ⊢
        clear hW3
        have hE3 : W3.cell? ⟨1, k, none⟩ = some (.func (.func (effF k)) #[] #[]) := (HA.out.1.below HJ3.out.bel) k (by omega)
        go_still_tail 7, (by kernel_rfl)
        change wpList _ _ _ _ _ W3.drew
        have HAt := Lib.hid (show atD o 0 = a from by rw [HO.out]; simp [atD, at0, at1])
        have HHd := Lib.hid (show hasD o.dom 0 = true from by rw [HO.out]; rfl)
        have HJd := Lib.hid (HJ3.out.below (Below.drew (Below.refl _ W3)))
        clear hE3 e0 e1 e2 e3 e4 g00 g01 g02 f0 f1 f2 q0 q1 q2
        obtain ⟨lv3, hr3⟩ := HJd.out.arr
        have hnx := nextC_has (S := S) (K := k) (lo := lo) (hi := hi) HHd.out HAt.out (by rw [HO.out]) (by rw [HO.out]) (by rw [HO.out])
        refine wpList_callv rfl (.tmp 42) _ _ rfl (effF k) rfl (effF_enters k) [.pointer (some ⟨w1.heap.size, 0 * 3, none⟩), .agg #[.int .i64 k, .int .i64 a, .int .i64 3, .int .i64 lo, .int .i64 hi]] rfl (eff_calls k (by omega) a 3 lo hi w1.heap.size 0 lv3 _ W3.drew (by decide) hr3 (by rw [upd_same]; exact (HA.out.2.2.1 a (by omega)).1) (by rw [upd_same]; have := (HA.out.2.2.1 a (by omega)).2; omega) HA.out.2.2.2.2.1) ?_
        intro e w4 he
        have hj4 := HJd.out.eff he
        obtain rfl := he.1
        rw [hnx] at hj4
        clear he hr3 hnx HJd
        refine ⟨_, rfl, ?_⟩
        have HJ4 := Lib.hid hj4
        obtain ⟨lv4, hr4⟩ := hj4.arr
        obtain ⟨A4, c4, hv4, -, -, -, -⟩ := Rw.form (hr4.row 0 (by decide))
        have HL4 := Lib.hid (hr4.row 0 (by decide))
        have p := hr4.three (i := 0) (by decide)
        have hone := nextC_at o S 0
        rw [HAt.out] at hone
        rw [hone] at hv4 p HL4
        rw [hv4] at p HL4
        simp only [Nat.zero_mul, Nat.one_mul, Nat.zero_add, Nat.reduceMul, Nat.reduceAdd] at p
        obtain ⟨p0, p1, p2⟩ := p
        have HR4 := Lib.hid (HA.out.2.1.below hj4.bel)
        obtain ⟨q0, q1, q2⟩ := HR4.out.three (i := a) (by omega)
        rw [HV1.out] at q0
        have hbx := hj4.box
        rw [HO.out] at hbx
        obtain ⟨e0, e1, e2, e3, e4⟩ := five_cells hbx
        clear hbx hr4 hv4 hone hj4
        have HBg := Lib.hid (show bigS o 0 (S (atD o 0)) = decide (50 < (oneS o 0 (S a)).rs.length) from by rw [HAt.out]; simp [bigS, HHd.out])
        have HBd := Lib.hid (show badS o 0 (S (atD o 0)) = ((S a).lk && !((S a).eqb (oneS o 0 (S a)))) from by rw [HAt.out]; simp [badS, HHd.out])
        have HGl := Lib.hid (show (S a).rs.length ≤ 50 from (HA.out.2.2.1 a (by omega)).2)
        have HLS := Lib.hid (show Ls w4 43 (.slice A1 (S a).rs.length c1) (S a).rs from by have := HR4.out.row a (by omega); rw [HV1.out] at this; exact this)
        generalize oneS o 0 (S a) = r4 at *
        generalize S a = r0 at *
        obtain ⟨rs0, lk0, in0⟩ := r0
        obtain ⟨rs4, lk4, in4⟩ := r4
        simp only at p0 p1 p2 q0 q1 q2 HBg HBd HGl HL4 HLS
        simp only [Act.put, List.setIfInBounds_toArray, List.set_cons_zero, List.set_cons_succ]
        cases lk0
        · have HNB1 := Lib.hid (noBad_succ HNB.out (by rw [HBd.out]; rfl))
          by_cases hbig : 50 < rs4.length
          · have hbi : (50 : Int) < (rs4.length : Int) := by omega
            have HE18 := Lib.hid (show errC o S 1 = 18 from (errC_succ (by omega)).trans (by rw [HBg.out]; simp [hbig]))
            clear hbig
            go_wp2
            go_quiet (fail)
            go_wp2
            go_roundw
            case rel => exact ⟨1, by omega, by go_num, by rw [HE18.out], Lib.hid (HJ4.out.below (below_dN (Below.refl _ _) nq)), HNB1⟩
            case measure => simp [intOf]
          · have hbi : (rs4.length : Int) ≤ 50 := by omega
            have HE18 := Lib.hid (show errC o S 1 = errC o S 0 from (errC_succ (by omega)).trans (by rw [HBg.out]; simp [hbig]))
            clear hbig
            go_wp2
            go_quiet (fail)
            go_wp2
            go_roundw
            case rel => exact ⟨1, by omega, by go_num, by rw [HE18.out], Lib.hid (HJ4.out.below (below_dN (Below.refl _ _) nq)), HNB1⟩
            case measure => simp [intOf]
        · have HEq := Lib.hid (equal_calls (.slice A1 rs0.length c1) (.slice A4 rs4.length c4) ⟨rs0, true, in0⟩ ⟨rs4, lk4, in4⟩ w4.drew (HLS.out.below (Below.drew (Below.refl _ _))) (HL4.out.below (Below.drew (Below.refl _ _))) (by have := HGl.out; simp; omega))
          unfold rv at HEq
          simp only at HEq
          cases hq : Rt.eqb ⟨rs0, true, in0⟩ ⟨rs4, lk4, in4⟩
          · have HBD := Lib.hid (show badS o 0 (S (atD o 0)) = true from by rw [HBd.out, hq]; rfl)
            rw [hq] at HEq
            clear hq
            go_wp2
            go_still_tail 11, (by kernel_rfl)
            change wpList _ _ _ _ _ w4.drew
            go_wp2_with (go_at_call 39; refine HEq.out.mono ?_; rintro e w5 ⟨rfl, h5⟩; have HB5 := Lib.hid ((Below.drew (Below.refl _ w4)).trans h5); clear h5)
            go_ret
            refine ⟨by rw [code_bad HA.out.2.2.2.1 (by omega) HBD.out]; rfl, lv, ?_, grown_of_below' (HJ4.out.below HB5.out).bel _⟩
            rw [show stepS S o = S from by unfold stepS; rw [code_bad HA.out.2.2.2.1 (by omega) HBD.out, if_neg (by decide)]]
            exact HA.out.2.1.below (HJ4.out.below HB5.out).bel
          · have HNB1 := Lib.hid (noBad_succ HNB.out (by rw [HBd.out, hq]; rfl))
            rw [hq] at HEq
            clear hq
            have HC5 := Lib.hid (show ∀ w5, Below w4.heap.size w4 w5 → w5.cell? ⟨w1.heap.size, 0, none⟩ = some (.slice A4 rs4.length c4) from fun w5 h5 => (World.cell?_of_block (h5.block _ (by have := HJ4.out.arr.choose_spec.lt; exact this))).trans p0)
            by_cases hbig : 50 < rs4.length
            · have hbi : (50 : Int) < (rs4.length : Int) := by omega
              have HE18 := Lib.hid (show errC o S 1 = 18 from (errC_succ (by omega)).trans (by rw [HBg.out]; simp [hbig]))
              clear hbig
              go_wp2
              go_still_tail 11, (by kernel_rfl)
              change wpList _ _ _ _ _ w4.drew
              go_wp2_with (go_at_call 39; refine HEq.out.mono ?_; rintro e w5 ⟨rfl, h5⟩; have HB5 := Lib.hid ((Below.drew (Below.refl _ w4)).trans h5); have p50 := HC5.out w5 HB5.out; clear h5)
              go_roundw
              case rel => exact ⟨1, by omega, by go_num, by rw [HE18.out], Lib.hid (HJ4.out.below HB5.out), HNB1⟩
              case measure => simp [intOf]
            · have hbi : (rs4.length : Int) ≤ 50 := by omega
              have HE18 := Lib.hid (show errC o S 1 = errC o S 0 from (errC_succ (by omega)).trans (by rw [HBg.out]; simp [hbig]))
              clear hbig
              go_wp2
              go_still_tail 11, (by kernel_rfl)
              change wpList _ _ _ _ _ w4.drew
              go_wp2_with (go_at_call 39; refine HEq.out.mono ?_; rintro e w5 ⟨rfl, h5⟩; have HB5 := Lib.hid ((Below.drew (Below.refl _ w4)).trans h5); have p50 := HC5.out w5 HB5.out; clear h5)
              go_roundw
              case rel => exact ⟨1, by omega, by go_num, by rw [HE18.out], Lib.hid (HJ4.out.below HB5.out), HNB1⟩
              case measure => simp [intOf]
    · have ha : a < 32 := by have := HA.out.2.2.2.2.2.2.1.2; omega
      have hbx := HJ.out.box
      rw [HO.out] at hbx
      obtain ⟨e0, e1, e2, e3, e4⟩ := five_cells hbx
      have HR := Lib.hid (HA.out.2.1.below HJ.out.bel)
      obtain ⟨q0, q1, q2⟩ := HR.out.three (i := 32 + a) (by omega)
      have hai : (a : Int) < 32 := by omega
      have hk5 : (k : Int) < 5 := HA.out.2.2.2.2.2.1.2
      clear hbx
      rw [show (32 + a) * 3 = 96 + a * 3 by omega] at q0 q1 q2
      rcases (by have := HA.out.2.2.2.2.2.2.2; omega : dom = 1 ∨ dom = 2 ∨ dom = 3) with rfl | rfl | rfl
      · obtain ⟨A1, c1, hv1, -, -, -, -⟩ := Rw.form (HR.out.row (32 + a) (by have := ha; omega))
        have HCP := Lib.hid (fun W (hW : Below wr.heap.size wr W) => copied_calls (S (32 + a)) (lv (32 + a)) W ((HR.out.row (32 + a) (by have := ha; omega)).below hW) (by have := (HA.out.2.2.1 (32 + a) (by have := ha; omega)).2; omega))
        unfold rv at HCP
        rw [hv1] at HCP q0
        have HV1 := Lib.hid hv1
        clear hv1
        have HD := Lib.hid (fun nq => below_dN (Below.refl wr.heap.size wr) nq)
        go_wp2
        go_quiet (fail)
        go_wp2_with (go_at_call 47; refine (HCP.out _ (HD.out nq)).mono ?_; rintro e w2 ⟨v2, rfl, h1, h2⟩; obtain ⟨A2, c2, rfl, -, -, -, -⟩ := Rw.form h1; have HJ2 := Lib.hid (HJ.out.below ((HD.out nq).trans (h2.mono (HD.out nq).size))); have f0 := RArr.frozen HJ2.out.arr.choose_spec 3; have f1 := RArr.frozen HJ2.out.arr.choose_spec 4; have f2 := RArr.frozen HJ2.out.arr.choose_spec 5; have g0 := RArr.three HJ2.out.arr.choose_spec (i := 1) (by decide); have HJ3 := Lib.hid (HJ2.out.store (i := 1) (by decide) h1); have hbx3 := HJ3.out.box; rw [HO.out] at hbx3; have HF3 := five_cells hbx3; unfold set3 at HF3; simp only [Nat.zero_mul, Nat.one_mul, Nat.zero_add, Nat.reduceMul, Nat.reduceAdd] at HF3 g0; have g00 := g0.1; have g01 := g0.2.1; have g02 := g0.2.2; have e0 := HF3.1; have e1 := HF3.2.1; have e2 := HF3.2.2.1; have e3 := HF3.2.2.2.1; have e4 := HF3.2.2.2.2; clear HF3 hbx3 h1 h2 g0)
        have HAt := Lib.hid (show atD o 1 = (32 + a) from by rw [HO.out]; simp [atD, at0, at1])
        have HHd := Lib.hid (show hasD o.dom 1 = false from by rw [HO.out]; rfl)
        have hnx := nextC_not (S := S) HHd.out HAt.out
        rw [hnx] at HJ3
        clear hnx
        go_wp2
        go_roundw
        case rel => exact ⟨2, by omega, by go_num, by rw [show errC o S 2 = errC o S 1 from (errC_succ (by omega)).trans (by simp [bigS, HHd.out])], HJ3, Lib.hid (noBad_succ HNB.out (by simp [badS, HHd.out]))⟩
        case measure => simp [intOf]
      · obtain ⟨A1, c1, hv1, -, -, -, -⟩ := Rw.form (HR.out.row (32 + a) (by have := ha; omega))
        have HCP := Lib.hid (fun W (hW : Below wr.heap.size wr W) => copied_calls (S (32 + a)) (lv (32 + a)) W ((HR.out.row (32 + a) (by have := ha; omega)).below hW) (by have := (HA.out.2.2.1 (32 + a) (by have := ha; omega)).2; omega))
        unfold rv at HCP
        rw [hv1] at HCP q0
        have HV1 := Lib.hid hv1
        clear hv1
        have HD := Lib.hid (fun nq => below_dN (Below.refl wr.heap.size wr) nq)
        go_wp2
        go_quiet (fail)
        go_wp2_with (go_at_call 47; refine (HCP.out _ (HD.out nq)).mono ?_; rintro e w2 ⟨v2, rfl, h1, h2⟩; obtain ⟨A2, c2, rfl, -, -, -, -⟩ := Rw.form h1; have HJ2 := Lib.hid (HJ.out.below ((HD.out nq).trans (h2.mono (HD.out nq).size))); have f0 := RArr.frozen HJ2.out.arr.choose_spec 3; have f1 := RArr.frozen HJ2.out.arr.choose_spec 4; have f2 := RArr.frozen HJ2.out.arr.choose_spec 5; have g0 := RArr.three HJ2.out.arr.choose_spec (i := 1) (by decide); have HJ3 := Lib.hid (HJ2.out.store (i := 1) (by decide) h1); have hbx3 := HJ3.out.box; rw [HO.out] at hbx3; have HF3 := five_cells hbx3; unfold set3 at HF3; simp only [Nat.zero_mul, Nat.one_mul, Nat.zero_add, Nat.reduceMul, Nat.reduceAdd] at HF3 g0; have g00 := g0.1; have g01 := g0.2.1; have g02 := g0.2.2; have e0 := HF3.1; have e1 := HF3.2.1; have e2 := HF3.2.2.1; have e3 := HF3.2.2.2.1; have e4 := HF3.2.2.2.2; clear HF3 hbx3 h1 h2 g0)
        go_wp2
        obtain ⟨W3, hW3⟩ : ∃ W3, W3 = set3 w2 w1.heap.size (1 * 3) (.slice A2 (S (32 + a)).rs.length c2) (.bool (S (32 + a)).lk) (.bool (S (32 + a)).inh) := ⟨_, rfl⟩
        rw [← hW3] at HJ3
        unfold set3 at hW3
        simp only [Nat.zero_mul, Nat.one_mul, Nat.zero_add, Nat.reduceMul, Nat.reduceAdd] at hW3
        rw [← hW3] at e0 e1 e2 e3 e4 ⊢
        clear hW3
        have hE3 : W3.cell? ⟨1, k, none⟩ = some (.func (.func (effF k)) #[] #[]) := (HA.out.1.below HJ3.out.bel) k (by omega)
        go_still_tail 7, (by kernel_rfl)
        change wpList _ _ _ _ _ W3.drew
        have HAt := Lib.hid (show atD o 1 = (32 + a) from by rw [HO.out]; simp [atD, at0, at1])
        have HHd := Lib.hid (show hasD o.dom 1 = true from by rw [HO.out]; rfl)
        have HJd := Lib.hid (HJ3.out.below (Below.drew (Below.refl _ W3)))
        clear hE3 e0 e1 e2 e3 e4 g00 g01 g02 f0 f1 f2 q0 q1 q2
        obtain ⟨lv3, hr3⟩ := HJd.out.arr
        have hnx := nextC_has (S := S) (K := k) (lo := lo) (hi := hi) HHd.out HAt.out (by rw [HO.out]) (by rw [HO.out]) (by rw [HO.out])
        refine wpList_callv rfl (.tmp 42) _ _ rfl (effF k) rfl (effF_enters k) [.pointer (some ⟨w1.heap.size, 1 * 3, none⟩), .agg #[.int .i64 k, .int .i64 a, .int .i64 2, .int .i64 lo, .int .i64 hi]] rfl (eff_calls k (by omega) a 2 lo hi w1.heap.size 1 lv3 _ W3.drew (by decide) hr3 (by rw [upd_same]; exact (HA.out.2.2.1 (32 + a) (by omega)).1) (by rw [upd_same]; have := (HA.out.2.2.1 (32 + a) (by omega)).2; omega) HA.out.2.2.2.2.1) ?_
        intro e w4 he
        have hj4 := HJd.out.eff he
        obtain rfl := he.1
        rw [hnx] at hj4
        clear he hr3 hnx HJd
        refine ⟨_, rfl, ?_⟩
        have HJ4 := Lib.hid hj4
        obtain ⟨lv4, hr4⟩ := hj4.arr
        obtain ⟨A4, c4, hv4, -, -, -, -⟩ := Rw.form (hr4.row 1 (by decide))
        have HL4 := Lib.hid (hr4.row 1 (by decide))
        have p := hr4.three (i := 1) (by decide)
        have hone := nextC_at o S 1
        rw [HAt.out] at hone
        rw [hone] at hv4 p HL4
        rw [hv4] at p HL4
        simp only [Nat.zero_mul, Nat.one_mul, Nat.zero_add, Nat.reduceMul, Nat.reduceAdd] at p
        obtain ⟨p0, p1, p2⟩ := p
        have HR4 := Lib.hid (HA.out.2.1.below hj4.bel)
        obtain ⟨q0, q1, q2⟩ := HR4.out.three (i := (32 + a)) (by omega)
        rw [show (32 + a) * 3 = 96 + a * 3 by omega] at q0 q1 q2
        rw [HV1.out] at q0
        have hbx := hj4.box
        rw [HO.out] at hbx
        obtain ⟨e0, e1, e2, e3, e4⟩ := five_cells hbx
        clear hbx hr4 hv4 hone hj4
        have HBg := Lib.hid (show bigS o 1 (S (atD o 1)) = decide (50 < (oneS o 1 (S (32 + a))).rs.length) from by rw [HAt.out]; simp [bigS, HHd.out])
        have HBd := Lib.hid (show badS o 1 (S (atD o 1)) = ((S (32 + a)).lk && !((S (32 + a)).eqb (oneS o 1 (S (32 + a))))) from by rw [HAt.out]; simp [badS, HHd.out])
        have HGl := Lib.hid (show (S (32 + a)).rs.length ≤ 50 from (HA.out.2.2.1 (32 + a) (by omega)).2)
        have HLS := Lib.hid (show Ls w4 43 (.slice A1 (S (32 + a)).rs.length c1) (S (32 + a)).rs from by have := HR4.out.row (32 + a) (by omega); rw [HV1.out] at this; exact this)
        generalize oneS o 1 (S (32 + a)) = r4 at *
        generalize S (32 + a) = r0 at *
        obtain ⟨rs0, lk0, in0⟩ := r0
        obtain ⟨rs4, lk4, in4⟩ := r4
        simp only at p0 p1 p2 q0 q1 q2 HBg HBd HGl HL4 HLS
        simp only [Act.put, List.setIfInBounds_toArray, List.set_cons_zero, List.set_cons_succ]
        cases lk0
        · have HNB1 := Lib.hid (noBad_succ HNB.out (by rw [HBd.out]; rfl))
          by_cases hbig : 50 < rs4.length
          · have hbi : (50 : Int) < (rs4.length : Int) := by omega
            have HE18 := Lib.hid (show errC o S 2 = 18 from (errC_succ (by omega)).trans (by rw [HBg.out]; simp [hbig]))
            clear hbig
            go_wp2
            go_quiet (fail)
            go_wp2
            go_roundw
            case rel => exact ⟨2, by omega, by go_num, by rw [HE18.out], Lib.hid (HJ4.out.below (below_dN (Below.refl _ _) nq)), HNB1⟩
            case measure => simp [intOf]
          · have hbi : (rs4.length : Int) ≤ 50 := by omega
            have HE18 := Lib.hid (show errC o S 2 = errC o S 1 from (errC_succ (by omega)).trans (by rw [HBg.out]; simp [hbig]))
            clear hbig
            go_wp2
            go_quiet (fail)
            go_wp2
            go_roundw
            case rel => exact ⟨2, by omega, by go_num, by rw [HE18.out], Lib.hid (HJ4.out.below (below_dN (Below.refl _ _) nq)), HNB1⟩
            case measure => simp [intOf]
        · have HEq := Lib.hid (equal_calls (.slice A1 rs0.length c1) (.slice A4 rs4.length c4) ⟨rs0, true, in0⟩ ⟨rs4, lk4, in4⟩ w4.drew (HLS.out.below (Below.drew (Below.refl _ _))) (HL4.out.below (Below.drew (Below.refl _ _))) (by have := HGl.out; simp; omega))
          unfold rv at HEq
          simp only at HEq
          cases hq : Rt.eqb ⟨rs0, true, in0⟩ ⟨rs4, lk4, in4⟩
          · have HBD := Lib.hid (show badS o 1 (S (atD o 1)) = true from by rw [HBd.out, hq]; rfl)
            rw [hq] at HEq
            clear hq
            go_wp2
            go_still_tail 11, (by kernel_rfl)
            change wpList _ _ _ _ _ w4.drew
            go_wp2_with (go_at_call 39; refine HEq.out.mono ?_; rintro e w5 ⟨rfl, h5⟩; have HB5 := Lib.hid ((Below.drew (Below.refl _ w4)).trans h5); clear h5)
            go_ret
            refine ⟨by rw [code_bad HA.out.2.2.2.1 (by omega) HBD.out]; rfl, lv, ?_, grown_of_below' (HJ4.out.below HB5.out).bel _⟩
            rw [show stepS S o = S from by unfold stepS; rw [code_bad HA.out.2.2.2.1 (by omega) HBD.out, if_neg (by decide)]]
            exact HA.out.2.1.below (HJ4.out.below HB5.out).bel
          · have HNB1 := Lib.hid (noBad_succ HNB.out (by rw [HBd.out, hq]; rfl))
            rw [hq] at HEq
            clear hq
            have HC5 := Lib.hid (show ∀ w5, Below w4.heap.size w4 w5 → w5.cell? ⟨w1.heap.size, 3, none⟩ = some (.slice A4 rs4.length c4) from fun w5 h5 => (World.cell?_of_block (h5.block _ (by have := HJ4.out.arr.choose_spec.lt; exact this))).trans p0)
            by_cases hbig : 50 < rs4.length
            · have hbi : (50 : Int) < (rs4.length : Int) := by omega
              have HE18 := Lib.hid (show errC o S 2 = 18 from (errC_succ (by omega)).trans (by rw [HBg.out]; simp [hbig]))
              clear hbig
              go_wp2
              go_still_tail 11, (by kernel_rfl)
              change wpList _ _ _ _ _ w4.drew
              go_wp2_with (go_at_call 39; refine HEq.out.mono ?_; rintro e w5 ⟨rfl, h5⟩; have HB5 := Lib.hid ((Below.drew (Below.refl _ w4)).trans h5); have p50 := HC5.out w5 HB5.out; clear h5)
              go_roundw
              case rel => exact ⟨2, by omega, by go_num, by rw [HE18.out], Lib.hid (HJ4.out.below HB5.out), HNB1⟩
              case measure => simp [intOf]
            · have hbi : (rs4.length : Int) ≤ 50 := by omega
              have HE18 := Lib.hid (show errC o S 2 = errC o S 1 from (errC_succ (by omega)).trans (by rw [HBg.out]; simp [hbig]))
              clear hbig
              go_wp2
              go_still_tail 11, (by kernel_rfl)
              change wpList _ _ _ _ _ w4.drew
              go_wp2_with (go_at_call 39; refine HEq.out.mono ?_; rintro e w5 ⟨rfl, h5⟩; have HB5 := Lib.hid ((Below.drew (Below.refl _ w4)).trans h5); have p50 := HC5.out w5 HB5.out; clear h5)
              go_roundw
              case rel => exact ⟨2, by omega, by go_num, by rw [HE18.out], Lib.hid (HJ4.out.below HB5.out), HNB1⟩
              case measure => simp [intOf]
      · obtain ⟨A1, c1, hv1, -, -, -, -⟩ := Rw.form (HR.out.row (32 + a) (by have := ha; omega))
        have HCP := Lib.hid (fun W (hW : Below wr.heap.size wr W) => copied_calls (S (32 + a)) (lv (32 + a)) W ((HR.out.row (32 + a) (by have := ha; omega)).below hW) (by have := (HA.out.2.2.1 (32 + a) (by have := ha; omega)).2; omega))
        unfold rv at HCP
        rw [hv1] at HCP q0
        have HV1 := Lib.hid hv1
        clear hv1
        have HD := Lib.hid (fun nq => below_dN (Below.refl wr.heap.size wr) nq)
        go_wp2
        go_quiet (fail)
        go_wp2_with (go_at_call 47; refine (HCP.out _ (HD.out nq)).mono ?_; rintro e w2 ⟨v2, rfl, h1, h2⟩; obtain ⟨A2, c2, rfl, -, -, -, -⟩ := Rw.form h1; have HJ2 := Lib.hid (HJ.out.below ((HD.out nq).trans (h2.mono (HD.out nq).size))); have f0 := RArr.frozen HJ2.out.arr.choose_spec 3; have f1 := RArr.frozen HJ2.out.arr.choose_spec 4; have f2 := RArr.frozen HJ2.out.arr.choose_spec 5; have g0 := RArr.three HJ2.out.arr.choose_spec (i := 1) (by decide); have HJ3 := Lib.hid (HJ2.out.store (i := 1) (by decide) h1); have hbx3 := HJ3.out.box; rw [HO.out] at hbx3; have HF3 := five_cells hbx3; unfold set3 at HF3; simp only [Nat.zero_mul, Nat.one_mul, Nat.zero_add, Nat.reduceMul, Nat.reduceAdd] at HF3 g0; have g00 := g0.1; have g01 := g0.2.1; have g02 := g0.2.2; have e0 := HF3.1; have e1 := HF3.2.1; have e2 := HF3.2.2.1; have e3 := HF3.2.2.2.1; have e4 := HF3.2.2.2.2; clear HF3 hbx3 h1 h2 g0)
        go_wp2
        obtain ⟨W3, hW3⟩ : ∃ W3, W3 = set3 w2 w1.heap.size (1 * 3) (.slice A2 (S (32 + a)).rs.length c2) (.bool (S (32 + a)).lk) (.bool (S (32 + a)).inh) := ⟨_, rfl⟩
        rw [← hW3] at HJ3
        unfold set3 at hW3
        simp only [Nat.zero_mul, Nat.one_mul, Nat.zero_add, Nat.reduceMul, Nat.reduceAdd] at hW3
        rw [← hW3] at e0 e1 e2 e3 e4 ⊢
        clear hW3
        have hE3 : W3.cell? ⟨1, k, none⟩ = some (.func (.func (effF k)) #[] #[]) := (HA.out.1.below HJ3.out.bel) k (by omega)
        go_still_tail 7, (by kernel_rfl)
        change wpList _ _ _ _ _ W3.drew
        have HAt := Lib.hid (show atD o 1 = (32 + a) from by rw [HO.out]; simp [atD, at0, at1])
        have HHd := Lib.hid (show hasD o.dom 1 = true from by rw [HO.out]; rfl)
        have HJd := Lib.hid (HJ3.out.below (Below.drew (Below.refl _ W3)))
        clear hE3 e0 e1 e2 e3 e4 g00 g01 g02 f0 f1 f2 q0 q1 q2
        obtain ⟨lv3, hr3⟩ := HJd.out.arr
        have hnx := nextC_has (S := S) (K := k) (lo := lo) (hi := hi) HHd.out HAt.out (by rw [HO.out]) (by rw [HO.out]) (by rw [HO.out])
        refine wpList_callv rfl (.tmp 42) _ _ rfl (effF k) rfl (effF_enters k) [.pointer (some ⟨w1.heap.size, 1 * 3, none⟩), .agg #[.int .i64 k, .int .i64 a, .int .i64 3, .int .i64 lo, .int .i64 hi]] rfl (eff_calls k (by omega) a 3 lo hi w1.heap.size 1 lv3 _ W3.drew (by decide) hr3 (by rw [upd_same]; exact (HA.out.2.2.1 (32 + a) (by omega)).1) (by rw [upd_same]; have := (HA.out.2.2.1 (32 + a) (by omega)).2; omega) HA.out.2.2.2.2.1) ?_
        intro e w4 he
        have hj4 := HJd.out.eff he
        obtain rfl := he.1
        rw [hnx] at hj4
        clear he hr3 hnx HJd
        refine ⟨_, rfl, ?_⟩
        have HJ4 := Lib.hid hj4
        obtain ⟨lv4, hr4⟩ := hj4.arr
        obtain ⟨A4, c4, hv4, -, -, -, -⟩ := Rw.form (hr4.row 1 (by decide))
        have HL4 := Lib.hid (hr4.row 1 (by decide))
        have p := hr4.three (i := 1) (by decide)
        have hone := nextC_at o S 1
        rw [HAt.out] at hone
        rw [hone] at hv4 p HL4
        rw [hv4] at p HL4
        simp only [Nat.zero_mul, Nat.one_mul, Nat.zero_add, Nat.reduceMul, Nat.reduceAdd] at p
        obtain ⟨p0, p1, p2⟩ := p
        have HR4 := Lib.hid (HA.out.2.1.below hj4.bel)
        obtain ⟨q0, q1, q2⟩ := HR4.out.three (i := (32 + a)) (by omega)
        rw [show (32 + a) * 3 = 96 + a * 3 by omega] at q0 q1 q2
        rw [HV1.out] at q0
        have hbx := hj4.box
        rw [HO.out] at hbx
        obtain ⟨e0, e1, e2, e3, e4⟩ := five_cells hbx
        clear hbx hr4 hv4 hone hj4
        have HBg := Lib.hid (show bigS o 1 (S (atD o 1)) = decide (50 < (oneS o 1 (S (32 + a))).rs.length) from by rw [HAt.out]; simp [bigS, HHd.out])
        have HBd := Lib.hid (show badS o 1 (S (atD o 1)) = ((S (32 + a)).lk && !((S (32 + a)).eqb (oneS o 1 (S (32 + a))))) from by rw [HAt.out]; simp [badS, HHd.out])
        have HGl := Lib.hid (show (S (32 + a)).rs.length ≤ 50 from (HA.out.2.2.1 (32 + a) (by omega)).2)
        have HLS := Lib.hid (show Ls w4 43 (.slice A1 (S (32 + a)).rs.length c1) (S (32 + a)).rs from by have := HR4.out.row (32 + a) (by omega); rw [HV1.out] at this; exact this)
        generalize oneS o 1 (S (32 + a)) = r4 at *
        generalize S (32 + a) = r0 at *
        obtain ⟨rs0, lk0, in0⟩ := r0
        obtain ⟨rs4, lk4, in4⟩ := r4
        simp only at p0 p1 p2 q0 q1 q2 HBg HBd HGl HL4 HLS
        simp only [Act.put, List.setIfInBounds_toArray, List.set_cons_zero, List.set_cons_succ]
        cases lk0
        · have HNB1 := Lib.hid (noBad_succ HNB.out (by rw [HBd.out]; rfl))
          by_cases hbig : 50 < rs4.length
          · have hbi : (50 : Int) < (rs4.length : Int) := by omega
            have HE18 := Lib.hid (show errC o S 2 = 18 from (errC_succ (by omega)).trans (by rw [HBg.out]; simp [hbig]))
            clear hbig
            go_wp2
            go_quiet (fail)
            go_wp2
            go_roundw
            case rel => exact ⟨2, by omega, by go_num, by rw [HE18.out], Lib.hid (HJ4.out.below (below_dN (Below.refl _ _) nq)), HNB1⟩
            case measure => simp [intOf]
          · have hbi : (rs4.length : Int) ≤ 50 := by omega
            have HE18 := Lib.hid (show errC o S 2 = errC o S 1 from (errC_succ (by omega)).trans (by rw [HBg.out]; simp [hbig]))
            clear hbig
            go_wp2
            go_quiet (fail)
            go_wp2
            go_roundw
            case rel => exact ⟨2, by omega, by go_num, by rw [HE18.out], Lib.hid (HJ4.out.below (below_dN (Below.refl _ _) nq)), HNB1⟩
            case measure => simp [intOf]
        · have HEq := Lib.hid (equal_calls (.slice A1 rs0.length c1) (.slice A4 rs4.length c4) ⟨rs0, true, in0⟩ ⟨rs4, lk4, in4⟩ w4.drew (HLS.out.below (Below.drew (Below.refl _ _))) (HL4.out.below (Below.drew (Below.refl _ _))) (by have := HGl.out; simp; omega))
          unfold rv at HEq
          simp only at HEq
          cases hq : Rt.eqb ⟨rs0, true, in0⟩ ⟨rs4, lk4, in4⟩
          · have HBD := Lib.hid (show badS o 1 (S (atD o 1)) = true from by rw [HBd.out, hq]; rfl)
            rw [hq] at HEq
            clear hq
            go_wp2
            go_still_tail 11, (by kernel_rfl)
            change wpList _ _ _ _ _ w4.drew
            go_wp2_with (go_at_call 39; refine HEq.out.mono ?_; rintro e w5 ⟨rfl, h5⟩; have HB5 := Lib.hid ((Below.drew (Below.refl _ w4)).trans h5); clear h5)
            go_ret
            refine ⟨by rw [code_bad HA.out.2.2.2.1 (by omega) HBD.out]; rfl, lv, ?_, grown_of_below' (HJ4.out.below HB5.out).bel _⟩
            rw [show stepS S o = S from by unfold stepS; rw [code_bad HA.out.2.2.2.1 (by omega) HBD.out, if_neg (by decide)]]
            exact HA.out.2.1.below (HJ4.out.below HB5.out).bel
          · have HNB1 := Lib.hid (noBad_succ HNB.out (by rw [HBd.out, hq]; rfl))
            rw [hq] at HEq
            clear hq
            have HC5 := Lib.hid (show ∀ w5, Below w4.heap.size w4 w5 → w5.cell? ⟨w1.heap.size, 3, none⟩ = some (.slice A4 rs4.length c4) from fun w5 h5 => (World.cell?_of_block (h5.block _ (by have := HJ4.out.arr.choose_spec.lt; exact this))).trans p0)
            by_cases hbig : 50 < rs4.length
            · have hbi : (50 : Int) < (rs4.length : Int) := by omega
              have HE18 := Lib.hid (show errC o S 2 = 18 from (errC_succ (by omega)).trans (by rw [HBg.out]; simp [hbig]))
              clear hbig
              go_wp2
              go_still_tail 11, (by kernel_rfl)
              change wpList _ _ _ _ _ w4.drew
              go_wp2_with (go_at_call 39; refine HEq.out.mono ?_; rintro e w5 ⟨rfl, h5⟩; have HB5 := Lib.hid ((Below.drew (Below.refl _ w4)).trans h5); have p50 := HC5.out w5 HB5.out; clear h5)
              go_roundw
              case rel => exact ⟨2, by omega, by go_num, by rw [HE18.out], Lib.hid (HJ4.out.below HB5.out), HNB1⟩
              case measure => simp [intOf]
            · have hbi : (rs4.length : Int) ≤ 50 := by omega
              have HE18 := Lib.hid (show errC o S 2 = errC o S 1 from (errC_succ (by omega)).trans (by rw [HBg.out]; simp [hbig]))
              clear hbig
              go_wp2
              go_still_tail 11, (by kernel_rfl)
              change wpList _ _ _ _ _ w4.drew
              go_wp2_with (go_at_call 39; refine HEq.out.mono ?_; rintro e w5 ⟨rfl, h5⟩; have HB5 := Lib.hid ((Below.drew (Below.refl _ w4)).trans h5); have p50 := HC5.out w5 HB5.out; clear h5)
              go_roundw
              case rel => exact ⟨2, by omega, by go_num, by rw [HE18.out], Lib.hid (HJ4.out.below HB5.out), HNB1⟩
              case measure => simp [intOf]
    · have HCE := Lib.hid (code_end HA.out.2.2.2.1 HNB.out)
      by_cases he : errC o S 2 = 0
      · have ha : a < 32 := by have := HA.out.2.2.2.2.2.2.1.2; omega
        have hai : (a : Int) < 32 := by omega
        have HZ := Lib.hid he
        have HJ2 := Lib.hid (show BJ w o S b w1.heap.size 0 wr from ⟨grown_of_below' HJ.out.bel _, HJ.out.box, HJ.out.arr, lv, HA.out.2.1.below HJ.out.bel⟩)
        go_wp2
        clear he
        go_loopw [70] (fun i wx => ∃ d : Nat, d ≤ 2 ∧ i = .int .i64 d ∧ Hid (BJ w o S b w1.heap.size d wx)) (fun i _ => 2 - (intOf i).toNat)
        case atStart => exact ⟨0, by omega, rfl, HJ2⟩
        case round =>
          clear HJ2
          obtain ⟨d, hd, rfl, HJ2⟩ := hrel
          rcases (by omega : d = 0 ∨ d = 1 ∨ d = 2) with rfl | rfl | rfl
          · have HAt := Lib.hid (show atD o 0 = a from by rw [HO.out]; simp [atD, at0, at1])
            obtain ⟨lvt, hrt⟩ := HJ2.out.arr
            obtain ⟨At, ct, hvt, -, -, -, -⟩ := Rw.form (hrt.row 0 (by decide))
            have HLt := Lib.hid (hrt.row 0 (by decide))
            have p := hrt.three (i := 0) (by decide)
            rw [hvt] at p HLt
            simp only [Nat.zero_mul, Nat.one_mul, Nat.zero_add, Nat.reduceMul, Nat.reduceAdd] at p
            obtain ⟨p0, p1, p2⟩ := p
            obtain ⟨lvb, hrb⟩ := HJ2.out.tab
            have q := hrb.three (i := a) (by omega)
            obtain ⟨q0, q1, q2⟩ := q
            have f0 := hrb.frozen (a * 3)
            have f1 := hrb.frozen (a * 3 + 1)
            have f2 := hrb.frozen (a * 3 + 2)
            have hbx := HJ2.out.box
            rw [HO.out] at hbx
            obtain ⟨e0, e1, e2, e3, e4⟩ := five_cells hbx
            clear hbx hrt hvt hrb
            have HST := Lib.hid ((BJ.store (d := 0) HJ2.out (by omega) HA.out.2.1.lt HAt.out (by omega) HLt.out).drew)
            unfold set3 at HST
            clear HLt
            generalize nextC o S 2 0 = rt at *
            obtain ⟨rst, lkt, int⟩ := rt
            simp only at p0 p1 p2 HST
            go_wp2
            go_still_tail 10, (by kernel_rfl)
            change wpList _ _ _ _ _ wr.drew
            go_wp2
            go_roundw
            case rel => exact ⟨_, _, _, _, _, _, _, _, _, _, _, _, _, _, _, ⟨1, by omega, rfl, HST⟩, rfl⟩
            case measure => simp [intOf]
          · have HAt := Lib.hid (show atD o 1 = 32 + a from by rw [HO.out]; simp [atD, at0, at1])
            obtain ⟨lvt, hrt⟩ := HJ2.out.arr
            obtain ⟨At, ct, hvt, -, -, -, -⟩ := Rw.form (hrt.row 1 (by decide))
            have HLt := Lib.hid (hrt.row 1 (by decide))
            have p := hrt.three (i := 1) (by decide)
            rw [hvt] at p HLt
            simp only [Nat.zero_mul, Nat.one_mul, Nat.zero_add, Nat.reduceMul, Nat.reduceAdd] at p
            obtain ⟨p0, p1, p2⟩ := p
            obtain ⟨lvb, hrb⟩ := HJ2.out.tab
            have q := hrb.three (i := 32 + a) (by omega)
            rw [show (32 + a) * 3 = 96 + a * 3 by omega] at q
            obtain ⟨q0, q1, q2⟩ := q
            have f0 := hrb.frozen (96 + a * 3)
            have f1 := hrb.frozen (96 + a * 3 + 1)
            have f2 := hrb.frozen (96 + a * 3 + 2)
            have hbx := HJ2.out.box
            rw [HO.out] at hbx
            obtain ⟨e0, e1, e2, e3, e4⟩ := five_cells hbx
            clear hbx hrt hvt hrb
            have HST := Lib.hid ((BJ.store (d := 1) HJ2.out (by omega) HA.out.2.1.lt HAt.out (by omega) HLt.out).drew)
            rw [show (32 + a) * 3 = 96 + a * 3 by omega] at HST
            unfold set3 at HST
            clear HLt
            generalize nextC o S 2 1 = rt at *
            obtain ⟨rst, lkt, int⟩ := rt
            simp only at p0 p1 p2 HST
            go_wp2
            go_still_tail 10, (by kernel_rfl)
            change wpList _ _ _ _ _ wr.drew
            go_wp2
            go_roundw
            case rel => exact ⟨_, _, _, _, _, _, _, _, _, _, _, _, _, _, _, ⟨2, by omega, rfl, HST⟩, rfl⟩
            case measure => simp [intOf]
          · go_wp2
            go_ret
            refine ⟨by rw [HCE.out, HZ.out]; rfl, HJ2.out.tab.imp fun lv' h => ⟨?_, HJ2.out.gr⟩⟩
            rw [SD_two] at h
            rw [show stepS S o = nextS S o from by unfold stepS; rw [HCE.out, HZ.out, if_pos rfl]]
            exact h
      · have he8 : errC o S 2 = 18 := by unfold errC at he ⊢; split at he <;> simp_all
        have HZ := Lib.hid he8
        clear he
        go_wp2
        go_ret
        refine ⟨by rw [HCE.out, HZ.out]; rfl, lv, ?_, grown_of_below' HJ.out.bel _⟩
        rw [show stepS S o = S from by unfold stepS; rw [HCE.out, HZ.out, if_neg (by decide)]]
        exact HA.out.2.1.below HJ.out.bel
end Go.Proofs.YthccppldpfddjaaDoor
