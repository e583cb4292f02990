/- Attach of the first mount. -/
import Derived.Test.YtedoonfegcgmeaaC3
import Derived.Deep.RegionHeld3
import Derived.Deep.AppendLies
import Derived.Deep.RegionLaw
namespace Go.Proofs.Ytedoonfegcgmeaa
open Go.RowKit
set_option linter.unusedVariables false
theorem TabAt.set3 {w : World} {tb : Nat} {a b c d : Value} (h : TabAt w tb a b c d) (v : Value) : TabAt (w.setCell ⟨tb, 3, none⟩ v) tb a b c v := heap_setCell_same w tb 3 _ _ v h
theorem TabAt.set0 {w : World} {tb : Nat} {a b c d : Value} (h : TabAt w tb a b c d) (v : Value) : TabAt (w.setCell ⟨tb, 0, none⟩ v) tb v b c d := heap_setCell_same w tb 0 _ _ v h
/-- A mount in its block. -/
def MtAt (w : World) (b : Nat) (p : Bs) (o m : Int) : Prop := w.heap[b]? = some (.cells #[str p, .int .i64 o, .int .i64 m] 34 (0, 0))
theorem MtAt.cells {w : World} {b : Nat} {p : Bs} {o m : Int} (h : MtAt w b p o m) : w.cell? ⟨b, 0, none⟩ = some (.string ⟨p.toArray⟩) ∧ w.cell? ⟨b, 1, none⟩ = some (.int .i64 o) ∧ w.cell? ⟨b, 2, none⟩ = some (.int .i64 m) :=
  ⟨cell_of_row _ _ _ _ _ _ h, cell_of_row _ _ _ _ _ _ h, cell_of_row _ _ _ _ _ _ h⟩
theorem TabAt.frozen {w : World} {tb : Nat} {a b c d : Value} (h : TabAt w tb a b c d) (j : Nat) : w.frozen? ⟨tb, j, none⟩ = false := frozen_of_row _ _ _ _ _ h
theorem MtAt.frozen {w : World} {b : Nat} {p : Bs} {o m : Int} (h : MtAt w b p o m) (j : Nat) : w.frozen? ⟨b, j, none⟩ = false := frozen_of_row _ _ _ _ _ h
/-- A post that the walk leaves alone: the region ends as S says. -/
def Ends (S : Act → World → Prop) : Exit → Act → World → Prop
  | .normal, a, w => S a w
  | _, _, _ => False
theorem Ends.mk {S : Act → World → Prop} {a : Act} {w : World} (h : S a w) : Ends S .normal a w := h
theorem Ends.imp {S : Act → World → Prop} {Q : Exit → Act → World → Prop} (h : ∀ a w, S a w → Q .normal a w) : ∀ e a w, Ends S e a w → Q e a w := by
  intro e a w he
  cases e <;> first | exact h a w he | exact he.elim
theorem Ends.split {P : Program} {c : Code} {a : Act} {w : World} {Q : Exit → Act → World → Prop} (T : Nat → Nat → Act) (F : Nat → Nat → World → World → Prop)
    (walk : c.wp P (Ends fun a' w' => ∃ gg cap w2, a' = T gg cap ∧ F gg cap w2 w') a w) (imp : ∀ gg cap w2 w', F gg cap w2 w' → Q .normal (T gg cap) w') : c.wp P Q a w :=
  Code.wp_mono (Ends.imp fun a' w' h => by obtain ⟨gg, cap, w2, rfl, hf⟩ := h; exact imp gg cap w2 w' hf) walk
theorem grow_keep {X Y w2 : World} {o : Obj} (hg : Y.grownBy w2 none) (hY : Y.heap = X.heap.push o) (k : Nat) (hk : k < X.heap.size) : w2.heap[k]? = X.heap[k]? := by
  rw [hg.block k (by rw [hY]; simp; omega) (by simp), hY, Array.getElem?_push_lt hk, Array.getElem?_eq_getElem hk]
theorem but_grown {B : Nat → Prop} {w X w2 : World} {o : Obj} (h : But B w X) (hg : (X.alloc o).drew.grownBy w2 none) : But B w w2 :=
  (h.alloc o).drew.trans ⟨hg.os, hg.tape, hg.output, hg.size, fun k hk _ => hg.block k hk (by simp)⟩
theorem mapV_empty {W : World} {k : TypeId} {b : Nat} (h : W.heap[b]? = some (.map #[] 0)) : MapV W k b 0 (.map []) := by
  have h2 := World.ownsMap_made W Try.prog k RV
  obtain ⟨es, clock, hb, F, hs, hD⟩ := h2
  rw [World.alloc_heap_new] at hb
  cases hb
  exact ⟨#[], 0, h, F, hs, hD⟩
theorem zero70 (W : World) : (zeroValue 70).run Try.prog W = .ok (.slice none 0 0) W := by simp [go_sem]
theorem lookup_empty {W : World} {b : Nat} (p : Bs) (hp : p.length ≤ 1000000) (h : W.heap[b]? = some (.map #[] 0)) : (Instr.lookup 64 (.map (some b)) (.string ⟨p.toArray⟩) false).run Try.prog W = .ok (.slice none 0 0) W := by
  obtain ⟨v, ps, hr, hv⟩ := World.ownsMap.lookup (mapV_empty (k := 9) h) (Maps.string_keyed Try.underlying9) Try.underlying64 (zero70 W) (zd := .held (.slice none 0 0)) (zp := []) rfl (keyS p hp)
  cases hv
  exact hr
theorem row_ne_map {w : World} {base e size n g cap gb : Nat} {xs : List Value} {es : Array MapEntry} {cl : Nat} (h : w.ownsRow base e size (.slice (some ⟨g, 0, none⟩) n cap) n xs) (hm : w.heap[gb]? = some (.map es cl)) : g ≠ gb := by
  rcases h.2 with ⟨h0, _⟩ | ⟨g', cap', cur, hv, _, hh, _⟩
  · cases h0
  · cases hv
    rintro rfl
    rw [hm] at hh
    cases hh
theorem att_fin {tb gb B : Nat} {a b c d : Value} {w Y w3 w4 : World} {o : Obj} {gg cap ib cap2 : Nat} {xs ys : List Value} (hT3 : TabAt w3 tb a b c d) (hR : Y.ownsRow B 69 4 (.slice (some ⟨gg, 0, none⟩) 1 cap) 1 xs)
    (hg : (Y.alloc o).drew.grownBy w3 none) (hI : w3.ownsRow B 3 1 (.slice (some ⟨ib, 0, none⟩) 1 cap2) 1 ys) (hgb : w3.heap[gb]? = some (.map #[] 0)) (h4 : w3.grownBy w4 (some gb)) (hne : gb ≠ tb) (hB : But (fun k => k = tb ∨ k = gb) w Y) :
    TabAt w4 tb a b c d ∧ w4.ownsRow B 69 4 (.slice (some ⟨gg, 0, none⟩) 1 cap) 1 xs ∧ w4.ownsRow B 3 1 (.slice (some ⟨ib, 0, none⟩) 1 cap2) 1 ys ∧ But (fun k => k = tb ∨ k = gb) w w4 := by
  have hR3 : w3.ownsRow B 69 4 (.slice (some ⟨gg, 0, none⟩) 1 cap) 1 xs := World.ownsRow.kept (w := (Y.alloc o).drew) (hR.alloc o) hg (.inr (by simp [Value.ownBlock]))
  have h1 := row_ne_map hR3 hgb
  have h2 := row_ne_map hI hgb
  have hB3 := but_grown hB hg
  exact ⟨hT3.heap (h4.block tb hT3.lt (by intro h; exact hne (Option.some.inj h).symm)), hR3.kept h4 (.inr (by simpa [Value.ownBlock] using h1)), hI.kept h4 (.inr (by simpa [Value.ownBlock] using h2)),
    hB3.trans ⟨h4.os, h4.tape, h4.output, h4.size, fun k hk hb => h4.block k hk (by intro h; exact hb (.inr (Option.some.inj h)))⟩⟩
theorem held_tm {W : World} {tb sb : Nat} {a b c : Value} {l : Int} {p : Bs} {o m : Int} (ht : TabAt W tb a b c (.int .i64 l)) (hm : MtAt W sb p o m) :
    W.cell? ⟨tb, 0, none⟩ = some a ∧ W.cell? ⟨tb, 3, none⟩ = some (.int .i64 l) ∧ W.cell? ⟨sb, 0, none⟩ = some (.string ⟨p.toArray⟩) ∧ W.cell? ⟨sb, 1, none⟩ = some (.int .i64 o) ∧ W.cell? ⟨sb, 2, none⟩ = some (.int .i64 m) :=
  ⟨ht.cells.1, ht.cells.2.2.2, hm.cells.1, hm.cells.2.1, hm.cells.2.2⟩
set_option maxHeartbeats 2000000 in
set_option maxRecDepth 100000 in
theorem attach_first (tb gb lb : Nat) (a p : Bs) (o m : Int) (w : World) (ho0 : 0 ≤ o) (ho2 : o ≤ 2) (hm0 : 0 ≤ m) (hc : cleanS a = (p, 0)) (hp : p.length ≤ 900000)
    (ht : TabAt w tb (.slice none 0 0) (.map (some gb)) (.map (some lb)) (.int .i64 0)) (hg : w.heap[gb]? = some (.map #[] 0)) :
    Calls Try.prog 13 #[.pointer (some ⟨tb, 0, none⟩), .agg #[str a, .int .i64 o, .int .i64 m]] w fun e w' => e = .returned (.tuple #[.int .i64 1, .int .i64 0]) ∧ ∃ gg cap ib cap2,
      TabAt w' tb (.slice (some ⟨gg, 0, none⟩) 1 cap) (.map (some gb)) (.map (some lb)) (.int .i64 1) ∧ w'.ownsRow w.heap.size 69 4 (.slice (some ⟨gg, 0, none⟩) 1 cap) 1 [str p, .int .i64 o, .int .i64 m, .int .i64 1] ∧
      w'.ownsRow w.heap.size 3 1 (.slice (some ⟨ib, 0, none⟩) 1 cap2) 1 [.int .i64 1] ∧ MapV w' 9 gb 1 ((DataW.map []).put (.string p) (.held (.slice (some ⟨ib, 0, none⟩) 1 cap2))) ∧ But (fun k => k = tb ∨ k = gb) w w' := by
  have HC := Lib.hid (fun W => cleanP_calls a W)
  rw [hc] at HC
  simp only at HC
  have HT := Lib.hid (And.intro ht hg)
  have HM0 : Hid (MtAt (w.alloc (.cells #[str a, .int .i64 o, .int .i64 m] 34)) w.heap.size a o m) := Lib.hid (heap_alloc_new w (.cells #[str a, .int .i64 o, .int .i64 m] 34))
  have HW0 : Hid (Below w.heap.size w (w.alloc (.cells #[str a, .int .i64 o, .int .i64 m] 34))) := Lib.hid ((Below.refl _ w).alloc (Nat.le_refl _) _)
  have HTL := Lib.hid ht.lt
  clear hc ht hg
  unfold str at HC ⊢
  have o1 : ¬ o < 0 := by omega
  have o2 : ¬ (2 : Int) < o := by omega
  have m1 : ¬ m < 0 := by omega
  go_enter Try.func13, Try.ntmps13
  go_wp2_with (go_at_call 7; refine (HC.out _).mono ?_; rintro e w1 ⟨rfl, hb⟩; have HB := Lib.hid hb; have HM := Lib.hid (show MtAt w1 w.heap.size a o m from (hb.block _ (by simp)).trans HM0.out); have HT1 := Lib.hid (HT.out.1.heap ((hb.block tb (by have := HTL.out; simp; omega)).trans (HW0.out.block tb HTL.out))); obtain ⟨x0, x1, x2⟩ := HM.out.cells; have xf := HM.out.frozen 0; obtain ⟨t0, t1, t2, t3⟩ := HT1.out.cells; have tf := HT1.out.frozen 3; clear hb)
  have hne : tb ≠ w.heap.size := by have := HTL.out; omega
  obtain ⟨X, hX⟩ : ∃ X, (w1.setCell ⟨w.heap.size, 0, none⟩ (.string ⟨p.toArray⟩)).setCell ⟨tb, 3, none⟩ (.int .i64 1) = X := ⟨_, rfl⟩
  have hTX : TabAt X tb (.slice none 0 0) (.map (some gb)) (.map (some lb)) (.int .i64 1) := by
    rw [← hX]
    exact TabAt.set3 (HT1.out.heap (Below.heap_setCell _ _ _ _ hne)) _
  have hMX : MtAt X w.heap.size p o m := by
    rw [← hX]
    exact (Below.heap_setCell _ _ _ _ (Ne.symm hne)).trans (heap_setCell_same w1 w.heap.size 0 _ _ _ HM.out)
  have hBX : But (fun k => k = tb ∨ k = gb) w X := by
    rw [← hX]
    have h1 : But (fun k => k = tb ∨ k = gb) w w1 := But.of_below (HW0.out.trans (HB.out.mono (by simp)))
    have h2 : But (fun k => k = tb ∨ k = gb) w (w1.setCell ⟨w.heap.size, 0, none⟩ (.string ⟨p.toArray⟩)) :=
      ⟨h1.os, h1.tape, h1.output, by simpa [World.setCell] using h1.size, fun k hk hb => (Below.heap_setCell w1 ⟨w.heap.size, 0, none⟩ _ k (Nat.ne_of_lt hk)).trans (h1.block k hk hb)⟩
    exact h2.setCell (p := ⟨tb, 3, none⟩) (Or.inl rfl) _
  have hgl : gb < w.heap.size := (Array.getElem?_eq_some_iff.1 HT.out.2).1
  have hgt : gb ≠ tb := by
    intro h
    have h1 := HT.out.2
    rw [h, HT.out.1] at h1
    cases h1
  have hGX : X.heap[gb]? = some (.map #[] 0) := by
    rw [← hX]
    refine (Below.heap_setCell _ _ _ _ hgt).trans ((Below.heap_setCell _ _ _ _ (Nat.ne_of_lt hgl)).trans ?_)
    exact (HB.out.block gb (by simp; omega)).trans ((HW0.out.block gb hgl).trans HT.out.2)
  rw [hX]
  have HG := Lib.hid (And.intro hGX (And.intro hgl hgt))
  clear hGX hgl hgt
  have HX := Lib.hid (And.intro hTX (And.intro hMX hBX))
  obtain ⟨i0, hi0, hz0, hz1, hz2⟩ := info_parts (P := Try.prog) (e := 69) (z := .agg #[.string ⟨#[]⟩, .int .i64 0, .int .i64 0, .int .i64 0]) (size := 4) (bytes := 40) (by kernel_rfl)
  clear x0 x1 x2 xf t0 t1 t2 t3 tf hX HM HT1 HB HC HM0
  obtain ⟨t0, t1, t2, t3⟩ := hTX.cells
  obtain ⟨x0, x1, x2⟩ := hMX.cells
  clear hTX hMX hBX
  have hTY : TabAt (X.alloc (.cells #[.string ⟨p.toArray⟩, .int .i64 o, .int .i64 m, .int .i64 1] 69)).drew tb (.slice none 0 0) (.map (some gb)) (.map (some lb)) (.int .i64 1) := HX.out.1.heap (Below.heap_alloc X _ _ HX.out.1.lt)
  obtain ⟨u0, u1, u2, u3⟩ := hTY.cells
  clear hTY
  apply Ends.split (F := fun gg cap w2 w' => w' = w2.setCell ⟨tb, 0, none⟩ (.slice (some ⟨gg, 0, none⟩) 1 cap) ∧ TabAt w2 tb (.slice none 0 0) (.map (some gb)) (.map (some lb)) (.int .i64 1) ∧ w2.ownsRow w.heap.size 69 4 (.slice (some ⟨gg, 0, none⟩) 1 cap) 1 [.string ⟨p.toArray⟩, .int .i64 o, .int .i64 m, .int .i64 1] ∧ But (fun k => k = tb ∨ k = gb) w w2 ∧ ∀ k, k < X.heap.size → w2.heap[k]? = X.heap[k]?)
  case walk =>
    go_region_law (refine step_append_lies _ (by rfl) _ _ _ (by rfl) w.heap.size 69 i0 _ 4 40 Try.underlying63 hi0 hz0 hz1 hz2 rfl (by omega) _ 0 [] (by rfl) (World.ownsRow_nil _ _ _ _) ⟨X.heap.size, 0, none⟩ 1 1 [.string ⟨p.toArray⟩, .int .i64 o, .int .i64 m, .int .i64 1] (by rfl) (by rfl) (World.news_of_block (cs := #[.string ⟨p.toArray⟩, .int .i64 o, .int .i64 m, .int .i64 1]) (t := 69) (fr := (0, 0)) (heap_alloc_new X _)) (by simp [Value.oneCell']) (by omega) (by unfold maxLen; omega) (by omega) (by have := HX.out.2.2.size; simp; omega) (X.heap.size + 1) (by simp) ?_; intro gg cap w2 hown1 hgrow hat hlt'; have HT2 := Lib.hid (HX.out.1.heap (grow_keep (X := X) hgrow rfl tb HX.out.1.lt)); have tf2 := HT2.out.frozen 0; have tc2 := HT2.out.cells.1; have HR2 := Lib.hid (And.intro hown1 hgrow))
    all_goals exact Ends.mk ⟨gg, cap, w2, rfl, rfl, HT2.out, HR2.out.1, but_grown HX.out.2.2 HR2.out.2, fun k hk => grow_keep (X := X) HR2.out.2 rfl k hk⟩
  case imp =>
    rintro gg cap w2 w' ⟨rfl, hT, hR, hB, hK⟩
    have hsX := HX.out.2.2.size
    obtain ⟨Y, hY⟩ : ∃ Y, w2.setCell ⟨tb, 0, none⟩ (.slice (some ⟨gg, 0, none⟩) 1 cap) = Y := ⟨_, rfl⟩
    have hTY : TabAt Y tb (.slice (some ⟨gg, 0, none⟩) 1 cap) (.map (some gb)) (.map (some lb)) (.int .i64 1) := by rw [← hY]; exact hT.set0 _
    have hGY : Y.heap[gb]? = some (.map #[] 0) := by
      rw [← hY]
      exact (Below.heap_setCell _ _ _ _ HG.out.2.2).trans ((hK gb (by have := HG.out.2.1; omega)).trans HG.out.1)
    have hBY : But (fun k => k = tb ∨ k = gb) w Y := by rw [← hY]; exact hB.setCell (p := ⟨tb, 0, none⟩) (Or.inl rfl) _
    have hRY : Y.ownsRow w.heap.size 69 4 (.slice (some ⟨gg, 0, none⟩) 1 cap) 1 [.string ⟨p.toArray⟩, .int .i64 o, .int .i64 m, .int .i64 1] := by
      rw [← hY]
      exact hR.kept (grownBy_setCell' w2 tb _) (.inr (by intro h; have := own_base' hR tb h; have := HTL.out; omega))
    rw [hY]
    have HY := Lib.hid (And.intro hTY (And.intro hGY (And.intro hBY hRY)))
    obtain ⟨y0, y1, y2, y3⟩ := hTY.cells
    have hTZ : TabAt (Y.alloc (.cells #[.int .i64 1] 3)).drew tb (.slice (some ⟨gg, 0, none⟩) 1 cap) (.map (some gb)) (.map (some lb)) (.int .i64 1) := hTY.heap (Below.heap_alloc Y _ _ hTY.lt)
    obtain ⟨z0, z1, z2, z3⟩ := hTZ.cells
    have hp2 : p.length ≤ 1000000 := by omega
    have l0 : (Instr.lookup 64 (.map (some gb)) (.string ⟨p.toArray⟩) false).run Try.prog Y.drew = .ok (.slice none 0 0) Y.drew := lookup_empty p hp2 hGY
    have l1 : (Instr.lookup 64 (.map (some gb)) (.string ⟨p.toArray⟩) false).run Try.prog (Y.alloc (.cells #[.int .i64 1] 3)).drew = .ok (.slice none 0 0) (Y.alloc (.cells #[.int .i64 1] 3)).drew := lookup_empty p hp2 ((Below.heap_alloc Y _ _ (Array.getElem?_eq_some_iff.1 hGY).1).trans hGY)
    obtain ⟨j0, hj0, hjz0, hjz1, hjz2⟩ := info_parts (P := Try.prog) (e := 3) (z := .int .i64 0) (size := 1) (bytes := 8) (by kernel_rfl)
    have HK := Lib.hid (keyS p hp2)
    clear hT hR hB hK hY hTY hGY hBY hRY hTZ hsX u0 u1 u2 u3 t0 t1 t2 t3 x0 x1 x2
    go_wp2_with fail
    apply Ends.split (F := fun ib cap2 w4 w' => w' = w4 ∧ TabAt w4 tb (.slice (some ⟨gg, 0, none⟩) 1 cap) (.map (some gb)) (.map (some lb)) (.int .i64 1) ∧ w4.ownsRow w.heap.size 69 4 (.slice (some ⟨gg, 0, none⟩) 1 cap) 1 [.string ⟨p.toArray⟩, .int .i64 o, .int .i64 m, .int .i64 1] ∧ w4.ownsRow w.heap.size 3 1 (.slice (some ⟨ib, 0, none⟩) 1 cap2) 1 [.int .i64 1] ∧ MapV w4 9 gb 1 ((DataW.map []).put (.string p) (.held (.slice (some ⟨ib, 0, none⟩) 1 cap2))) ∧ But (fun k => k = tb ∨ k = gb) w w4)
    case walk =>
      go_region_law (refine step_append_lies _ (by rfl) _ _ _ (by rfl) w.heap.size 3 j0 _ 1 8 Try.underlying70 hj0 hjz0 hjz1 hjz2 rfl (by omega) _ 0 [] (by rfl) (World.ownsRow_nil _ _ _ _) ⟨Y.heap.size, 0, none⟩ 1 1 [.int .i64 1] (by rfl) (by rfl) (World.news_of_block (cs := #[.int .i64 1]) (t := 3) (fr := (0, 0)) (heap_alloc_new Y _)) (by simp [Value.oneCell']) (by omega) (by unfold maxLen; omega) (by omega) (by have := HY.out.2.2.1.size; simp; omega) (Y.heap.size + 1) (by simp) ?_; intro ib cap2 w3 hown3 hgrow3 hat3 hlt3; have HT3 := Lib.hid (HY.out.1.heap (grow_keep (X := Y) hgrow3 rfl tb HY.out.1.lt)); obtain ⟨q0, q1, q2, q3⟩ := HT3.out.cells; have hg3 := (grow_keep (X := Y) hgrow3 rfl gb (Array.getElem?_eq_some_iff.1 HY.out.2.1).1).trans HY.out.2.1; obtain ⟨w4, hrun4, hm4, hg4⟩ := World.ownsMap.update (mapV_empty (k := 9) hg3) (Maps.string_keyed Try.underlying9) Try.underlying64 (by unfold maxLen; omega) HK.out (val := .slice (some ⟨ib, 0, none⟩) 1 cap2) (d := .held (.slice (some ⟨ib, 0, none⟩) 1 cap2)) (ps := []) rfl; unfold str at hrun4; have HM4 := Lib.hid hm4; have HF4 := Lib.hid (att_fin HT3.out HY.out.2.2.2 hgrow3 hown3 hg3 hg4 HG.out.2.2 HY.out.2.2.1); clear hown3 hgrow3 hm4 hg4 hat3 hlt3 hg3)
      all_goals exact Ends.mk ⟨ib, cap2, w4, rfl, rfl, HF4.out.1, HF4.out.2.1, HF4.out.2.2.1, HM4.out, HF4.out.2.2.2⟩
    case imp =>
      rintro ib cap2 w4 w' ⟨rfl, hT4, hR4, hI4, hM4, hB4⟩
      obtain ⟨y0, y1, y2, y3⟩ := hT4.cells
      go_wp2
      go_ret2
      exact ⟨rfl, gg, cap, ib, cap2, hT4, hR4, hI4, hM4, hB4⟩
end Go.Proofs.Ytedoonfegcgmeaa
