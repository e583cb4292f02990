/- The reference's Apply in plain words: domain by domain. -/
import Derived.Test.YthccppldpfddjaaDoorqS
import Derived.Test.YthccppldpfddjaaDoorE1
import Derived.Test.YthccppldpfddjaaDoorStp
import Derived.Test.YthccppldpfddjaaDoorqP
import Derived.Test.YthccppldpfddjaaDoorSl
namespace Go.Proofs.YthccppldpfddjaaDoor
open Go.RowKit
set_option linter.unusedVariables false
/-- The place of a right in domain d. -/
def atR (o : OpA) (d : Nat) : Nat := d * 32 + o.ab.toNat
theorem atR0 (o : OpA) : atR o 0 = at0 o := by unfold atR at0; omega
theorem atR1 (o : OpA) : atR o 1 = at1 o := by unfold atR at1; omega
theorem at_ne (o : OpA) (h : 0 ≤ o.ab ∧ o.ab < 32) : at0 o ≠ at1 o := by unfold at0 at1; omega
/-- The rights while an operation has been done in the first d domains. -/
def stD (T : St) (o : OpA) (d : Nat) : St := fun i => if i = at0 o ∧ 0 < d then oneS o 0 (T i) else if i = at1 o ∧ 1 < d then oneS o 1 (T i) else T i
theorem stD_zero (T : St) (o : OpA) : stD T o 0 = T := by funext i; simp [stD]
theorem stD_two (T : St) {o : OpA} (h : 0 ≤ o.ab ∧ o.ab < 32) : stD T o 2 = nextS T o := by
  have hne := at_ne o h
  funext i
  unfold stD nextS
  by_cases e1 : i = at1 o
  · subst e1; rw [upd_same, if_neg (fun h => hne h.1.symm), if_pos ⟨rfl, by omega⟩]
  · rw [upd_other _ _ e1]
    by_cases e0 : i = at0 o
    · subst e0; rw [upd_same, if_pos ⟨rfl, by omega⟩]
    · rw [upd_other _ _ e0, if_neg (fun h => e0 h.1), if_neg (fun h => e1 h.1)]
theorem stD_at (T : St) {o : OpA} (h : 0 ≤ o.ab ∧ o.ab < 32) {d : Nat} (hd : d < 2) : stD T o d (atR o d) = T (atR o d) := by
  have hne := at_ne o h
  unfold stD
  rcases (by omega : d = 0 ∨ d = 1) with rfl | rfl
  · rw [if_neg (fun h => by omega), if_neg (fun h => by omega)]
  · rw [if_neg (fun h => hne (by rw [← h.1, atR1])), if_neg (fun h => by omega)]
theorem stD_next (T : St) {o : OpA} (h : 0 ≤ o.ab ∧ o.ab < 32) {d : Nat} (hd : d < 2) : upd (stD T o d) (atR o d) (oneS o d (T (atR o d))) = stD T o (d + 1) := by
  have hne := at_ne o h
  rcases (by omega : d = 0 ∨ d = 1) with rfl | rfl
  · rw [stD_zero, atR0]
    funext i
    unfold stD
    by_cases e0 : i = at0 o
    · subst e0; rw [upd_same, if_pos ⟨rfl, by omega⟩]
    · rw [upd_other _ _ e0, if_neg (fun h => e0 h.1), if_neg (fun h => by omega)]
  · rw [atR1]
    funext i
    by_cases e1 : i = at1 o
    · subst e1; rw [upd_same]; unfold stD; rw [if_neg (fun h => hne h.1.symm), if_pos ⟨rfl, by omega⟩]
    · rw [upd_other _ _ e1]
      unfold stD
      by_cases e0 : i = at0 o
      · subst e0; rw [if_pos ⟨rfl, by omega⟩, if_pos ⟨rfl, by omega⟩]
      · rw [if_neg (fun h => e0 h.1), if_neg (fun h => e1 h.1), if_neg (fun h => e0 h.1), if_neg (fun h => e1 h.1)]
theorem stD_skip (T : St) {o : OpA} (h : 0 ≤ o.ab ∧ o.ab < 32) {d : Nat} (hd : d < 2) (hh : hasD o.dom d = false) : stD T o (d + 1) = stD T o d := by
  rw [← stD_next T h hd]
  have e : oneS o d (T (atR o d)) = stD T o d (atR o d) := by
    rw [stD_at T h hd]
    unfold oneS
    rw [hh]
    simp
  rw [e]
  funext i
  unfold upd
  split
  · rename_i h; rw [h]
  · rfl
/-- Whether a right became too long in the first d domains. -/
def stL (T : St) (o : OpA) (d : Nat) : Bool := (decide (0 < d) && bigS o 0 (T (at0 o))) || (decide (1 < d) && bigS o 1 (T (at1 o)))
theorem stL_zero (T : St) (o : OpA) : stL T o 0 = false := by simp [stL]
theorem stL_next (T : St) (o : OpA) {d : Nat} (hd : d < 2) : stL T o (d + 1) = (stL T o d || bigS o d (T (atR o d))) := by
  rcases (by omega : d = 0 ∨ d = 1) with rfl | rfl
  · rw [atR0]; simp [stL]
  · rw [atR1]; simp [stL]
theorem stL_two (T : St) (o : OpA) : stL T o 2 = (bigS o 0 (T (at0 o)) || bigS o 1 (T (at1 o))) := by simp [stL]
/-- No locked right was changed in the first d domains. -/
def stB (T : St) (o : OpA) (d : Nat) : Prop := ∀ e, e < d → e < 2 → badS o e (T (atR o e)) = false
theorem stB_next {T : St} {o : OpA} {d : Nat} (h : stB T o d) (hb : badS o d (T (atR o d)) = false) : stB T o (d + 1) := fun e he he2 => by
  rcases Nat.lt_succ_iff_lt_or_eq.1 he with h1 | h1
  · exact h e h1 he2
  · subst h1; exact hb
theorem rcode_bad {T : St} {o : OpA} {d : Nat} (hc : checkS o = 0) (hd : d < 2) (hb : badS o d (T (atR o d)) = true) : codeS T o = 32 := by
  unfold codeS
  rw [if_neg (by simp [hc]), if_pos]
  rcases (by omega : d = 0 ∨ d = 1) with rfl | rfl
  · left; rw [← atR0]; exact hb
  · right; rw [← atR1]; exact hb
theorem rcode_good {T : St} {o : OpA} (hc : checkS o = 0) (hb : stB T o 2) : codeS T o = if stL T o 2 = true then 18 else 0 := by
  have h0 := hb 0 (by omega) (by omega)
  have h1 := hb 1 (by omega) (by omega)
  rw [atR0] at h0
  rw [atR1] at h1
  unfold codeS
  rw [if_neg (by simp [hc]), h0, h1, if_neg (by simp), stL_two]
  simp only [Bool.or_eq_true]
theorem rcode_check {T : St} {o : OpA} (hc : checkS o ≠ 0) : codeS T o = checkS o := by
  unfold codeS
  rw [if_pos hc]
theorem hand {dom : Int} (h : 1 ≤ dom ∧ dom ≤ 3) {d : Nat} (hd : d < 2) : (bits BinOp.and IntKind.i64 dom ((d : Int) + 1) == 0) = !(hasD dom d) := by
  obtain ⟨h1, h2⟩ := h
  rcases (by omega : d = 0 ∨ d = 1) with rfl | rfl <;> rcases (by omega : dom = 1 ∨ dom = 2 ∨ dom = 3) with rfl | rfl | rfl <;> decide
/-- What the walk of the reference's Apply keeps within an operation. -/
structure RAJ (w : World) (cb x7 : Nat) (o : OpA) (T : St) (V : World) : Prop where
  bel : Below w.heap.size w V
  set : ∃ lv, RArr 64 109 116 V cb lv T
  op : V.heap[x7]? = some (.cells (opA o) 31 (0, 0))
  ge : w.heap.size ≤ cb
theorem RAJ.below {w : World} {cb x7 : Nat} {o : OpA} {T : St} {V V' : World} (h : RAJ w cb x7 o T V) (hb : Below V.heap.size V V') : RAJ w cb x7 o T V' :=
  ⟨h.bel.trans (hb.mono h.bel.size), h.set.imp fun _ h => h.below hb, (hb.block _ (Array.getElem?_eq_some_iff.1 h.op).1).trans h.op, h.ge⟩
theorem RAJ.store {w : World} {cb x7 : Nat} {o : OpA} {T : St} {V : World} (h : RAJ w cb x7 o T V) {i : Nat} (hi : i < 64) {v : Value} {r : Rt} (hv : Ls V 116 v r.rs) :
    RAJ w cb x7 o (upd T i r) (set3 V cb (i * 3) v (.bool r.lk) (.bool r.inh)) := by
  obtain ⟨lv, h1⟩ := h.set
  obtain ⟨cs, hc, -, -⟩ := h1.tab
  have hne : x7 ≠ cb := by
    rintro rfl
    have := h.op
    rw [hc] at this
    cases this
  exact ⟨h.bel.trans (set3_below _ _ _ _ h.ge), ⟨_, h1.store (by decide) hi hv⟩, (set3_other _ _ _ _ _ _ _ hne).trans h.op, h.ge⟩
end Go.Proofs.YthccppldpfddjaaDoor
namespace Go.Proofs.YthccppldpfddjaaDoor
open Go.RowKit
set_option linter.unusedVariables false
theorem size109 : (Tryd.prog.info? 109).map (·.size) = some 192 := by kernel_rfl
theorem rzero109 : (Tryd.prog.info? 109).map (·.zero) = some (some (.agg z192.toArray)) := by kernel_rfl
set_option maxHeartbeats 32000000 in
set_option maxRecDepth 100000 in
theorem rapply_calls (b : Nat) (lv : Nat → Value) (S : St) (v : Value) (l : List OpA) (w : World) (h : RArr 64 109 116 w b lv S) (hS : StOk S) (hv : Ops w v l) :
    Calls Tryd.prog 17 #[.pointer (some ⟨b, 0, none⟩), v] w fun e w' => e = .returned (.int .i64 (applyC S l)) ∧ ∃ lv', RArr 64 109 116 w' b lv' (applyS S l) ∧ w.grownBy w' (some b) := by
  obtain ⟨A, cap, rfl, -⟩ := id hv
  by_cases hlen : 200 < l.length
  · have hl : (200 : Int) < (l.length : Int) := by omega
    have HC := Lib.hid (show applyC S l = 18 from by unfold applyC; rw [if_pos hlen])
    have HA := Lib.hid h
    clear h hS hv hlen
    go_enter Tryd.func17, Tryd.ntmps17
    go_wp2
    go_ret
    refine ⟨by rw [HC.out]; rfl, lv, ?_, grown_of_below' (Below.refl _ _) _⟩
    rw [show applyS S l = S from by unfold applyS; rw [HC.out, if_neg (by decide)]]
    exact HA.out
  have hl : (l.length : Int) ≤ 200 := by omega
  have HC := Lib.hid (show applyC S l = runC S l from by unfold applyC; rw [if_neg hlen])
  have HBad := Lib.hid (show applyC S l ≠ 0 → applyS S l = S from fun h => by unfold applyS; rw [if_neg h])
  obtain ⟨cs, hcs, -, -⟩ := h.tab
  obtain ⟨hz, h1c⟩ := h.one hcs
  have HLD := Lib.hid (show ∀ j v, cs[j]? = some v → w.cell? ((⟨b, 0, none⟩ : Addr).add j) = some v from fun j v hj => by rw [add_at, cell_of_row _ _ _ _ _ _ hcs, Nat.zero_add]; exact hj)
  have HZ := Lib.hid (And.intro hz h1c)
  have HA := Lib.hid (And.intro h (And.intro hS hv))
  have HAL := Lib.hid (And.intro ((h.below ((Below.refl w.heap.size w).alloc (Nat.le_refl _) (.cells z192.toArray 109))).copy (by decide) (u := w.heap.size) (Nat.ne_of_lt h.lt) ((Below.heap_alloc _ _ _ h.lt).trans hcs) (heap_alloc_new w (.cells z192.toArray 109))) (heap_alloc_new w (.cells z192.toArray 109)))
  clear h hS hv hlen hcs hz h1c
  go_enter Tryd.func17, Tryd.ntmps17
  go_wp2_with (first
    | ((with_reducible change wpList _ _ _ (⟨_, .load 109 _, _, _, _, _⟩ :: _) _ _); refine wpList_load_cells rfl 109 (.tmp 17) rfl ⟨b, 0, none⟩ rfl cs _ HLD.out Tryd.underlying109 rfl size109 (by rw [HZ.out.1]) ?_)
    | ((with_reducible change wpList _ _ _ (⟨_, .alloc 109, _, _, _, _⟩ :: _) _ _); refine wpList_alloc_to rfl 109 rfl _ rzero109 ?_)
    | ((with_reducible change wpList _ _ _ (⟨_, .store 109 (.tmp 5) _, _, _, _, _⟩ :: _) _ _); refine wpList_store_row rfl 109 (.tmp 5) (.tmp 18) rfl w.heap.size cs rfl rfl 109 z192.toArray HAL.out.2 (by rw [HZ.out.1]; exact size109) (by rw [HZ.out.1]; unfold z192; rw [List.size_toArray, flat3_len]) HZ.out.2 ?_))
  obtain ⟨W0, hW0⟩ : ∃ W0, W0 = (w.alloc (.cells z192.toArray 109)).setRow w.heap.size cs := ⟨_, rfl⟩
  have HB0 := Lib.hid (show Below w.heap.size w W0 from by
    rw [hW0]
    exact ⟨rfl, rfl, rfl, by simp, fun k hk => (setRow_other _ _ _ _ (by omega)).trans (Below.heap_alloc _ _ _ hk)⟩)
  rw [← hW0] at HAL ⊢
  have HR0 := Lib.hid HAL.out.1
  clear hW0 HAL HLD HZ
  go_loopw [21] (fun i wr => ∃ k : Nat, k ≤ l.length ∧ i = .int .i64 k ∧ Hid (runC S (l.take k) = 0) ∧ Hid (∃ lv', RArr 64 109 116 wr w.heap.size lv' (runS S (l.take k))) ∧ Hid (Below w.heap.size w wr)) (fun i _ => l.length - (intOf i).toNat)
  case atStart => exact ⟨0, by omega, rfl, Lib.hid rfl, Lib.hid ⟨lv, HR0.out⟩, HB0⟩
  case round =>
    clear HR0 HB0
    obtain ⟨k, hk, rfl, H0, HR, HB⟩ := hrel
    by_cases hlt : k < l.length
    · have hlt' : (k : Int) < (l.length : Int) := by omega
      obtain ⟨g, go, rfl, q0, q1, q2, q3, q4⟩ := Ops.at (HA.out.2.2.below HB.out) rfl hlt
      have HN := Lib.hid (run_next (S := S) hlt H0.out)
      have HSo := Lib.hid (runS_ok (l.take k) HA.out.2.1)
      have HST := Lib.hid (show codeS (runS S (l.take k)) l[k] ≠ 0 → applyC S l = codeS (runS S (l.take k)) l[k] from fun hz => HC.out.trans ((run_stop (by rw [HN.out.1]; exact hz)).trans HN.out.1))
      have HCk := Lib.hid (rcheck_calls l[k] (wr.alloc (.cells (opA l[k]) 31)))
      have HJ4 := Lib.hid (show RAJ w w.heap.size wr.heap.size l[k] (runS S (l.take k)) (wr.alloc (.cells (opA l[k]) 31)) from ⟨HB.out.alloc HB.out.size _, HR.out.imp fun _ h => h.below ((Below.refl wr.heap.size wr).alloc (Nat.le_refl _) _), heap_alloc_new wr _, Nat.le_refl _⟩)
      clear HR HB
      generalize l[k] = o at *
      generalize runS S (l.take k) = T at *
      unfold opA at HCk HJ4
      by_cases hck : checkS o = 0
      · rw [hck] at HCk
        have HK := Lib.hid hck
        obtain ⟨-, ⟨ha0, ha1⟩, hok, hdom, -⟩ := checkS_ok hck
        have HD := Lib.hid hdom
        have HAB := Lib.hid (And.intro ha0 ha1)
        clear hck
        obtain ⟨kb, hkb⟩ : ∃ kb : Nat, o.ab = (kb : Int) := ⟨o.ab.toNat, by omega⟩
        have hkb32 : (kb : Int) < 32 := by omega
        have HKB := Lib.hid (And.intro hkb (show kb < 32 by omega))
        clear ha0 ha1 hok hdom hkb
        go_wp2_with (go_at_call 51; refine HCk.out.mono ?_; rintro e w4 ⟨rfl, h1⟩; have HJ := Lib.hid (RAJ.below HJ4.out h1); clear h1)
        generalize wr.heap.size = x7 at *
        clear HCk HJ4 q0 q1 q2 q3 q4
        go_loopw [10, 9] (fun i y wr => ∃ d : Nat, d ≤ 2 ∧ i = .int .i64 d ∧ y = .bool (stL T o d) ∧ Hid (stB T o d) ∧ Hid (RAJ w w.heap.size x7 o (stD T o d) wr)) (fun i _ _ => 2 - (intOf i).toNat)
        case atStart => exact ⟨0, by omega, rfl, by rw [stL_zero], Lib.hid (fun e he _ => by omega), Lib.hid (by rw [stD_zero]; exact HJ.out)⟩
        case round =>
          clear HJ
          obtain ⟨d, hd, rfl, rfl, HSB, HJ⟩ := hrel
          by_cases hlt2 : d < 2
          · have hlt2' : (d : Int) < 2 := by omega
            obtain ⟨e0, e1, e2, e3, e4⟩ := five_cells HJ.out.op
            have hhand := hand HD.out hlt2
            by_cases hh : hasD o.dom d = true
            · rw [hh, Bool.not_true] at hhand
              have HOne := Lib.hid (show ∀ r, oneS o d r = effS o.kind o.lo o.hi r from fun r => by unfold oneS; rw [if_pos hh])
              have HBadd := Lib.hid (show ∀ r, badS o d r = (r.lk && !(r.eqb (oneS o d r))) from fun r => by unfold badS; rw [hh]; rfl)
              have HBigg := Lib.hid (show ∀ r, bigS o d r = decide (50 < (oneS o d r).rs.length) from fun r => by unfold bigS; rw [hh]; rfl)
              have HH := Lib.hid hh
              clear hh
              have HAt := Lib.hid (show atR o d = d * 32 + kb from by unfold atR; rw [HKB.out.1]; simp)
              have hi64 : d * 32 + kb < 64 := by have := HKB.out.2; omega
              obtain ⟨lvr, hr⟩ := HJ.out.set
              have hrr := hr.row _ hi64
              have hr3 := fun w' (hw : Below wr.heap.size wr w') => (hr.below hw).three hi64
              have hst : stD T o d (d * 32 + kb) = T (d * 32 + kb) := by rw [← HAt.out]; exact stD_at T HAB.out hlt2
              rw [hst] at hrr hr3
              obtain ⟨A9, c9, hv9, -, -, -, -⟩ := Rw.form hrr
              rw [hv9] at hrr hr3
              have HF := Lib.hid (show ∀ w', Below wr.heap.size wr w' → w'.cell? ⟨x7, 1, none⟩ = some (.int .i64 kb) ∧ w'.cell? ⟨w.heap.size, d * 96 + kb * 3, none⟩ = some (.slice A9 (T (d * 32 + kb)).rs.length c9) ∧ w'.cell? ⟨w.heap.size, d * 96 + kb * 3 + 1, none⟩ = some (.bool (T (d * 32 + kb)).lk) ∧ w'.cell? ⟨w.heap.size, d * 96 + kb * 3 + 2, none⟩ = some (.bool (T (d * 32 + kb)).inh) from fun w' hw => by
                obtain ⟨-, y1, -, -, -⟩ := five_cells (HJ.out.below hw).op
                obtain ⟨z0, z1, z2⟩ := hr3 w' hw
                rw [show (d * 32 + kb) * 3 = d * 96 + kb * 3 by omega] at z0 z1 z2
                rw [HKB.out.1] at y1
                exact ⟨y1, z0, z1, z2⟩)
              have HRok := Lib.hid (HSo.out (d * 32 + kb) hi64)
              have HLr := Lib.hid hrr
              have HAf := Lib.hid (fun W (hW : Below wr.heap.size wr W) => by
                have := rafter_calls (T (d * 32 + kb)) (.slice A9 (T (d * 32 + kb)).rs.length c9) o W (Ls.below HLr.out hW) HRok.out.1 (by have := HRok.out.2; omega) HK.out
                rw [← HOne.out] at this
                exact this)
              have HSm := Lib.hid (fun v2 r2 W (hW : Below wr.heap.size wr W) (h2 : Ls W 116 v2 r2.rs) => rsame_calls (.slice A9 (T (d * 32 + kb)).rs.length c9) v2 (T (d * 32 + kb)) r2 W (Ls.below HLr.out hW) h2 (by have := HRok.out.2; omega))
              have HStep := Lib.hid (And.intro (stD_next T HAB.out hlt2) (stL_next T o hlt2))
              have HCb := Lib.hid (fun hb => rcode_bad (T := T) HK.out hlt2 hb)
              have HSBn := Lib.hid (fun hb => stB_next (d := d) HSB.out hb)
              rw [HAt.out] at HStep HCb HSBn
              clear hr hrr hr3 hst hv9
              generalize T (d * 32 + kb) = r at *
              generalize hr2 : oneS o d r = r2 at HAf HStep
              have HR2 := Lib.hid hr2
              clear hr2
              unfold rv opA at HAf
              unfold rv at HSm
              obtain ⟨rs, lk, inh⟩ := r
              cases lk
              · cases hlim : stL T o d
                · skip
                  go_wp2
                  apply Ends.const (F := fun w' => w' = (wr.alloc (.cells #[.slice A9 rs.length c9, .bool false, .bool inh] 105)).drew)
                  case walk =>
                    refine wp_region_mid 8 [0, 1, 2, 3, 4, 5, 6] [7] (fun w' => Below wr.heap.size wr w')
                      [.int .i64 d, .pointer (some ⟨x7, 1, none⟩), .int .i64 kb, .pointer (some ⟨w.heap.size, 0, none⟩), .pointer (some ⟨w.heap.size, d * 96, none⟩), .pointer (some ⟨w.heap.size, d * 96 + kb * 3, none⟩), .agg #[.slice A9 rs.length c9, .bool false, .bool inh]]
                      (by rfl) (by kernel_rfl) (fun _ _ _ _ _ h => h) (Below.drew (Below.refl _ _)) ?heads ?_
                    case heads =>
                      refine ⟨.inl ⟨rfl, fun w' hw => ?_⟩, .inl ⟨rfl, fun w' hw => ?_⟩, .inl ⟨rfl, fun w' hw => ?_⟩, .inl ⟨rfl, fun w' hw => ?_⟩, .inl ⟨rfl, fun w' hw => ?_⟩, .inl ⟨rfl, fun w' hw => ?_⟩, .inl ⟨rfl, fun w' hw => ?_⟩, trivial⟩ <;>
                        (obtain ⟨y1, y2, y3, y4⟩ := HF.out w' hw; show (execOp _ _).run Tryd.prog w' = _; go_simp)
                    simp only [List.drop_succ_cons, List.drop_zero, putIdx, Act.put, List.getElem?_cons_zero, List.getElem?_cons_succ, List.setIfInBounds_toArray, List.set_cons_zero, List.set_cons_succ]
                    refine wpMids_cons rfl fun K hK => ?_
                    go_simp
                    refine hK _ _ ((Below.drew (Below.refl _ _)).alloc (Nat.le_refl _) _) ?_
                    clear hK K
                    try simp only [Act.put, List.setIfInBounds_toArray, List.set_cons_zero, List.set_cons_succ]
                    refine wpMids_nil ?_
                    go_wp2
                    exact Ends.mk ⟨rfl, rfl⟩
                  case imp =>
                    intro W5 h5
                    have HB5 := Lib.hid (show Below wr.heap.size wr W5 from by rw [h5]; exact ((Below.refl _ _).alloc (Nat.le_refl _) _).drew)
                    have HX5 := Lib.hid (show W5.heap[wr.heap.size]? = some (.cells #[.slice A9 rs.length c9, .bool false, .bool inh] 105 (0, 0)) from by rw [h5]; exact heap_alloc_new wr _)
                    have HJ5 := Lib.hid (HJ.out.below HB5.out)
                    obtain ⟨t0, t1, t2⟩ := cells_three HX5.out
                    obtain ⟨e0, e1, e2, e3, e4⟩ := five_cells HJ5.out.op
                    clear h5
                    go_wp2_with (go_at_call 52; refine (HAf.out W5 HB5.out).mono ?_; rintro e w6 ⟨v6, rfl, h1, h2⟩; obtain ⟨A6, c6, rfl, -, -, -, -⟩ := Rw.form h1; have hb7 := h2.alloc h2.size (.cells #[.slice A6 r2.rs.length c6, .bool r2.lk, .bool r2.inh] 105); have H6 := Lib.hid (And.intro (Ls.below h1 ((Below.refl w6.heap.size w6).alloc (Nat.le_refl _) (.cells #[.slice A6 r2.rs.length c6, .bool r2.lk, .bool r2.inh] 105))) (And.intro (HJ5.out.below hb7) (And.intro (HB5.out.trans (hb7.mono HB5.out.size)) (heap_alloc_new w6 (.cells #[.slice A6 r2.rs.length c6, .bool r2.lk, .bool r2.inh] 105))))); obtain ⟨s0, s1, s2⟩ := cells_three ((hb7.block _ (Array.getElem?_eq_some_iff.1 HX5.out).1).trans HX5.out); clear h1 h2 hb7; obtain ⟨k0, k1, k2, k3, k4⟩ := five_cells H6.out.2.1.op; rw [HKB.out.1] at k1; obtain ⟨lv7, hr7⟩ := H6.out.2.1.set; obtain ⟨j0, j1, j2⟩ := hr7.three hi64; have f0 := hr7.frozen (d * 96 + kb * 3); have f1 := hr7.frozen (d * 96 + kb * 3 + 1); have f2 := hr7.frozen (d * 96 + kb * 3 + 2); rw [show (d * 32 + kb) * 3 = d * 96 + kb * 3 from by omega] at j0 j1 j2; clear hr7)
                    obtain ⟨W7, hW7⟩ : ∃ W7, W7 = w6.alloc (.cells #[.slice A6 r2.rs.length c6, .bool r2.lk, .bool r2.inh] 105) := ⟨_, rfl⟩
                    rw [← hW7] at H6 k0 k1 k2 k3 k4 j0 j1 j2 f0 f1 f2 s0 s1 s2 ⊢
                    clear hW7
                    have H8 := Lib.hid (And.intro H6.out.1 H6.out.2.1)
                    obtain ⟨n0, n1, n2⟩ := cells_three H6.out.2.2.2
                    go_still_tail 7, (by kernel_rfl)
                    change wpList _ _ _ _ _ W7.drew
                    have HN9 := Lib.hid (show RAJ w w.heap.size x7 o (stD T o (d + 1)) (set3 W7.drew w.heap.size (d * 96 + kb * 3) (.slice A6 r2.rs.length c6) (.bool r2.lk) (.bool r2.inh)) from by
                      have h9 := RAJ.store (H8.out.2.below (Below.drew (Below.refl _ _))) hi64 (Ls.below H8.out.1 (Below.drew (Below.refl _ _)))
                      rw [HStep.out.1, show (d * 32 + kb) * 3 = d * 96 + kb * 3 from by omega] at h9
                      exact h9)
                    go_wp2
                    go_roundw
                    case rel => exact ⟨d + 1, by omega, by go_num, by rw [HStep.out.2, hlim, HBigg.out, HR2.out, Bool.false_or]; congr 1; exact decide_eq_decide.2 (by omega), Lib.hid (HSBn.out (by rw [HBadd.out]; rfl)), HN9⟩
                    case measure => simp [intOf]; omega
                · skip
                  go_wp2
                  apply Ends.const (F := fun w' => w' = (wr.alloc (.cells #[.slice A9 rs.length c9, .bool false, .bool inh] 105)).drew)
                  case walk =>
                    refine wp_region_mid 8 [0, 1, 2, 3, 4, 5, 6] [7] (fun w' => Below wr.heap.size wr w')
                      [.int .i64 d, .pointer (some ⟨x7, 1, none⟩), .int .i64 kb, .pointer (some ⟨w.heap.size, 0, none⟩), .pointer (some ⟨w.heap.size, d * 96, none⟩), .pointer (some ⟨w.heap.size, d * 96 + kb * 3, none⟩), .agg #[.slice A9 rs.length c9, .bool false, .bool inh]]
                      (by rfl) (by kernel_rfl) (fun _ _ _ _ _ h => h) (Below.drew (Below.refl _ _)) ?heads ?_
                    case heads =>
                      refine ⟨.inl ⟨rfl, fun w' hw => ?_⟩, .inl ⟨rfl, fun w' hw => ?_⟩, .inl ⟨rfl, fun w' hw => ?_⟩, .inl ⟨rfl, fun w' hw => ?_⟩, .inl ⟨rfl, fun w' hw => ?_⟩, .inl ⟨rfl, fun w' hw => ?_⟩, .inl ⟨rfl, fun w' hw => ?_⟩, trivial⟩ <;>
                        (obtain ⟨y1, y2, y3, y4⟩ := HF.out w' hw; show (execOp _ _).run Tryd.prog w' = _; go_simp)
                    simp only [List.drop_succ_cons, List.drop_zero, putIdx, Act.put, List.getElem?_cons_zero, List.getElem?_cons_succ, List.setIfInBounds_toArray, List.set_cons_zero, List.set_cons_succ]
                    refine wpMids_cons rfl fun K hK => ?_
                    go_simp
                    refine hK _ _ ((Below.drew (Below.refl _ _)).alloc (Nat.le_refl _) _) ?_
                    clear hK K
                    try simp only [Act.put, List.setIfInBounds_toArray, List.set_cons_zero, List.set_cons_succ]
                    refine wpMids_nil ?_
                    go_wp2
                    exact Ends.mk ⟨rfl, rfl⟩
                  case imp =>
                    intro W5 h5
                    have HB5 := Lib.hid (show Below wr.heap.size wr W5 from by rw [h5]; exact ((Below.refl _ _).alloc (Nat.le_refl _) _).drew)
                    have HX5 := Lib.hid (show W5.heap[wr.heap.size]? = some (.cells #[.slice A9 rs.length c9, .bool false, .bool inh] 105 (0, 0)) from by rw [h5]; exact heap_alloc_new wr _)
                    have HJ5 := Lib.hid (HJ.out.below HB5.out)
                    obtain ⟨t0, t1, t2⟩ := cells_three HX5.out
                    obtain ⟨e0, e1, e2, e3, e4⟩ := five_cells HJ5.out.op
                    clear h5
                    go_wp2_with (go_at_call 52; refine (HAf.out W5 HB5.out).mono ?_; rintro e w6 ⟨v6, rfl, h1, h2⟩; obtain ⟨A6, c6, rfl, -, -, -, -⟩ := Rw.form h1; have hb7 := h2.alloc h2.size (.cells #[.slice A6 r2.rs.length c6, .bool r2.lk, .bool r2.inh] 105); have H6 := Lib.hid (And.intro (Ls.below h1 ((Below.refl w6.heap.size w6).alloc (Nat.le_refl _) (.cells #[.slice A6 r2.rs.length c6, .bool r2.lk, .bool r2.inh] 105))) (And.intro (HJ5.out.below hb7) (And.intro (HB5.out.trans (hb7.mono HB5.out.size)) (heap_alloc_new w6 (.cells #[.slice A6 r2.rs.length c6, .bool r2.lk, .bool r2.inh] 105))))); obtain ⟨s0, s1, s2⟩ := cells_three ((hb7.block _ (Array.getElem?_eq_some_iff.1 HX5.out).1).trans HX5.out); clear h1 h2 hb7; obtain ⟨k0, k1, k2, k3, k4⟩ := five_cells H6.out.2.1.op; rw [HKB.out.1] at k1; obtain ⟨lv7, hr7⟩ := H6.out.2.1.set; obtain ⟨j0, j1, j2⟩ := hr7.three hi64; have f0 := hr7.frozen (d * 96 + kb * 3); have f1 := hr7.frozen (d * 96 + kb * 3 + 1); have f2 := hr7.frozen (d * 96 + kb * 3 + 2); rw [show (d * 32 + kb) * 3 = d * 96 + kb * 3 from by omega] at j0 j1 j2; clear hr7)
                    obtain ⟨W7, hW7⟩ : ∃ W7, W7 = w6.alloc (.cells #[.slice A6 r2.rs.length c6, .bool r2.lk, .bool r2.inh] 105) := ⟨_, rfl⟩
                    rw [← hW7] at H6 k0 k1 k2 k3 k4 j0 j1 j2 f0 f1 f2 s0 s1 s2 ⊢
                    clear hW7
                    have H8 := Lib.hid (And.intro H6.out.1 H6.out.2.1)
                    obtain ⟨n0, n1, n2⟩ := cells_three H6.out.2.2.2
                    go_still_tail 7, (by kernel_rfl)
                    change wpList _ _ _ _ _ W7.drew
                    have HN9 := Lib.hid (show RAJ w w.heap.size x7 o (stD T o (d + 1)) (set3 W7.drew w.heap.size (d * 96 + kb * 3) (.slice A6 r2.rs.length c6) (.bool r2.lk) (.bool r2.inh)) from by
                      have h9 := RAJ.store (H8.out.2.below (Below.drew (Below.refl _ _))) hi64 (Ls.below H8.out.1 (Below.drew (Below.refl _ _)))
                      rw [HStep.out.1, show (d * 32 + kb) * 3 = d * 96 + kb * 3 from by omega] at h9
                      exact h9)
                    go_wp2
                    go_roundw
                    case rel => exact ⟨d + 1, by omega, by go_num, by rw [HStep.out.2, hlim]; rfl, Lib.hid (HSBn.out (by rw [HBadd.out]; rfl)), HN9⟩
                    case measure => simp [intOf]; omega
              · cases heq : (⟨rs, true, inh⟩ : Rt).eqb r2
                · skip
                  go_wp2
                  apply Ends.const (F := fun w' => w' = (wr.alloc (.cells #[.slice A9 rs.length c9, .bool true, .bool inh] 105)).drew)
                  case walk =>
                    refine wp_region_mid 8 [0, 1, 2, 3, 4, 5, 6] [7] (fun w' => Below wr.heap.size wr w')
                      [.int .i64 d, .pointer (some ⟨x7, 1, none⟩), .int .i64 kb, .pointer (some ⟨w.heap.size, 0, none⟩), .pointer (some ⟨w.heap.size, d * 96, none⟩), .pointer (some ⟨w.heap.size, d * 96 + kb * 3, none⟩), .agg #[.slice A9 rs.length c9, .bool true, .bool inh]]
                      (by rfl) (by kernel_rfl) (fun _ _ _ _ _ h => h) (Below.drew (Below.refl _ _)) ?heads ?_
                    case heads =>
                      refine ⟨.inl ⟨rfl, fun w' hw => ?_⟩, .inl ⟨rfl, fun w' hw => ?_⟩, .inl ⟨rfl, fun w' hw => ?_⟩, .inl ⟨rfl, fun w' hw => ?_⟩, .inl ⟨rfl, fun w' hw => ?_⟩, .inl ⟨rfl, fun w' hw => ?_⟩, .inl ⟨rfl, fun w' hw => ?_⟩, trivial⟩ <;>
                        (obtain ⟨y1, y2, y3, y4⟩ := HF.out w' hw; show (execOp _ _).run Tryd.prog w' = _; go_simp)
                    simp only [List.drop_succ_cons, List.drop_zero, putIdx, Act.put, List.getElem?_cons_zero, List.getElem?_cons_succ, List.setIfInBounds_toArray, List.set_cons_zero, List.set_cons_succ]
                    refine wpMids_cons rfl fun K hK => ?_
                    go_simp
                    refine hK _ _ ((Below.drew (Below.refl _ _)).alloc (Nat.le_refl _) _) ?_
                    clear hK K
                    try simp only [Act.put, List.setIfInBounds_toArray, List.set_cons_zero, List.set_cons_succ]
                    refine wpMids_nil ?_
                    go_wp2
                    exact Ends.mk ⟨rfl, rfl⟩
                  case imp =>
                    intro W5 h5
                    have HB5 := Lib.hid (show Below wr.heap.size wr W5 from by rw [h5]; exact ((Below.refl _ _).alloc (Nat.le_refl _) _).drew)
                    have HX5 := Lib.hid (show W5.heap[wr.heap.size]? = some (.cells #[.slice A9 rs.length c9, .bool true, .bool inh] 105 (0, 0)) from by rw [h5]; exact heap_alloc_new wr _)
                    have HJ5 := Lib.hid (HJ.out.below HB5.out)
                    obtain ⟨t0, t1, t2⟩ := cells_three HX5.out
                    obtain ⟨e0, e1, e2, e3, e4⟩ := five_cells HJ5.out.op
                    clear h5
                    go_wp2_with (first
                      | (go_at_call 52; refine (HAf.out W5 HB5.out).mono ?_; rintro e w6 ⟨v6, rfl, h1, h2⟩; obtain ⟨A6, c6, rfl, -, -, -, -⟩ := Rw.form h1; have hb7 := h2.alloc h2.size (.cells #[.slice A6 r2.rs.length c6, .bool r2.lk, .bool r2.inh] 105); have H6 := Lib.hid (And.intro (Ls.below h1 ((Below.refl w6.heap.size w6).alloc (Nat.le_refl _) (.cells #[.slice A6 r2.rs.length c6, .bool r2.lk, .bool r2.inh] 105))) (And.intro (HJ5.out.below hb7) (And.intro (HB5.out.trans (hb7.mono HB5.out.size)) (heap_alloc_new w6 (.cells #[.slice A6 r2.rs.length c6, .bool r2.lk, .bool r2.inh] 105))))); obtain ⟨s0, s1, s2⟩ := cells_three ((hb7.block _ (Array.getElem?_eq_some_iff.1 HX5.out).1).trans HX5.out); clear h1 h2 hb7; skip)
                      | (go_at_call 53; have h9 := HSm.out (.slice A6 r2.rs.length c6) r2 _ H6.out.2.2.1 H6.out.1; rw [heq] at h9; refine h9.mono ?_; rintro e W7 ⟨rfl, h1⟩; have H8 := Lib.hid (And.intro (Ls.below H6.out.1 h1) (H6.out.2.1.below h1)); obtain ⟨n0, n1, n2⟩ := cells_three ((h1.block _ (Array.getElem?_eq_some_iff.1 H6.out.2.2.2).1).trans H6.out.2.2.2); clear h1 h9; obtain ⟨k0, k1, k2, k3, k4⟩ := five_cells H8.out.2.op; rw [HKB.out.1] at k1; obtain ⟨lv7, hr7⟩ := H8.out.2.set; obtain ⟨j0, j1, j2⟩ := hr7.three hi64; have f0 := hr7.frozen (d * 96 + kb * 3); have f1 := hr7.frozen (d * 96 + kb * 3 + 1); have f2 := hr7.frozen (d * 96 + kb * 3 + 2); rw [show (d * 32 + kb) * 3 = d * 96 + kb * 3 from by omega] at j0 j1 j2; clear hr7))
                    go_ret
                    have hcl : codeS T o = 32 := HCb.out (by rw [HBadd.out, HR2.out, heq]; rfl)
                    have hap : applyC S l = 32 := (HST.out (by rw [hcl]; decide)).trans hcl
                    refine ⟨by rw [hap]; rfl, lv, ?_, grown_of_below' H8.out.2.bel _⟩
                    rw [HBad.out (by rw [hap]; decide)]
                    exact HA.out.1.below H8.out.2.bel
                · cases hlim : stL T o d
                  · skip
                    go_wp2
                    apply Ends.const (F := fun w' => w' = (wr.alloc (.cells #[.slice A9 rs.length c9, .bool true, .bool inh] 105)).drew)
                    case walk =>
                      refine wp_region_mid 8 [0, 1, 2, 3, 4, 5, 6] [7] (fun w' => Below wr.heap.size wr w')
                        [.int .i64 d, .pointer (some ⟨x7, 1, none⟩), .int .i64 kb, .pointer (some ⟨w.heap.size, 0, none⟩), .pointer (some ⟨w.heap.size, d * 96, none⟩), .pointer (some ⟨w.heap.size, d * 96 + kb * 3, none⟩), .agg #[.slice A9 rs.length c9, .bool true, .bool inh]]
                        (by rfl) (by kernel_rfl) (fun _ _ _ _ _ h => h) (Below.drew (Below.refl _ _)) ?heads ?_
                      case heads =>
                        refine ⟨.inl ⟨rfl, fun w' hw => ?_⟩, .inl ⟨rfl, fun w' hw => ?_⟩, .inl ⟨rfl, fun w' hw => ?_⟩, .inl ⟨rfl, fun w' hw => ?_⟩, .inl ⟨rfl, fun w' hw => ?_⟩, .inl ⟨rfl, fun w' hw => ?_⟩, .inl ⟨rfl, fun w' hw => ?_⟩, trivial⟩ <;>
                          (obtain ⟨y1, y2, y3, y4⟩ := HF.out w' hw; show (execOp _ _).run Tryd.prog w' = _; go_simp)
                      simp only [List.drop_succ_cons, List.drop_zero, putIdx, Act.put, List.getElem?_cons_zero, List.getElem?_cons_succ, List.setIfInBounds_toArray, List.set_cons_zero, List.set_cons_succ]
                      refine wpMids_cons rfl fun K hK => ?_
                      go_simp
                      refine hK _ _ ((Below.drew (Below.refl _ _)).alloc (Nat.le_refl _) _) ?_
                      clear hK K
                      try simp only [Act.put, List.setIfInBounds_toArray, List.set_cons_zero, List.set_cons_succ]
                      refine wpMids_nil ?_
                      go_wp2
                      exact Ends.mk ⟨rfl, rfl⟩
                    case imp =>
                      intro W5 h5
                      have HB5 := Lib.hid (show Below wr.heap.size wr W5 from by rw [h5]; exact ((Below.refl _ _).alloc (Nat.le_refl _) _).drew)
                      have HX5 := Lib.hid (show W5.heap[wr.heap.size]? = some (.cells #[.slice A9 rs.length c9, .bool true, .bool inh] 105 (0, 0)) from by rw [h5]; exact heap_alloc_new wr _)
                      have HJ5 := Lib.hid (HJ.out.below HB5.out)
                      obtain ⟨t0, t1, t2⟩ := cells_three HX5.out
                      obtain ⟨e0, e1, e2, e3, e4⟩ := five_cells HJ5.out.op
                      clear h5
                      go_wp2_with (first
                        | (go_at_call 52; refine (HAf.out W5 HB5.out).mono ?_; rintro e w6 ⟨v6, rfl, h1, h2⟩; obtain ⟨A6, c6, rfl, -, -, -, -⟩ := Rw.form h1; have hb7 := h2.alloc h2.size (.cells #[.slice A6 r2.rs.length c6, .bool r2.lk, .bool r2.inh] 105); have H6 := Lib.hid (And.intro (Ls.below h1 ((Below.refl w6.heap.size w6).alloc (Nat.le_refl _) (.cells #[.slice A6 r2.rs.length c6, .bool r2.lk, .bool r2.inh] 105))) (And.intro (HJ5.out.below hb7) (And.intro (HB5.out.trans (hb7.mono HB5.out.size)) (heap_alloc_new w6 (.cells #[.slice A6 r2.rs.length c6, .bool r2.lk, .bool r2.inh] 105))))); obtain ⟨s0, s1, s2⟩ := cells_three ((hb7.block _ (Array.getElem?_eq_some_iff.1 HX5.out).1).trans HX5.out); clear h1 h2 hb7; skip)
                        | (go_at_call 53; have h9 := HSm.out (.slice A6 r2.rs.length c6) r2 _ H6.out.2.2.1 H6.out.1; rw [heq] at h9; refine h9.mono ?_; rintro e W7 ⟨rfl, h1⟩; have H8 := Lib.hid (And.intro (Ls.below H6.out.1 h1) (H6.out.2.1.below h1)); obtain ⟨n0, n1, n2⟩ := cells_three ((h1.block _ (Array.getElem?_eq_some_iff.1 H6.out.2.2.2).1).trans H6.out.2.2.2); clear h1 h9; obtain ⟨k0, k1, k2, k3, k4⟩ := five_cells H8.out.2.op; rw [HKB.out.1] at k1; obtain ⟨lv7, hr7⟩ := H8.out.2.set; obtain ⟨j0, j1, j2⟩ := hr7.three hi64; have f0 := hr7.frozen (d * 96 + kb * 3); have f1 := hr7.frozen (d * 96 + kb * 3 + 1); have f2 := hr7.frozen (d * 96 + kb * 3 + 2); rw [show (d * 32 + kb) * 3 = d * 96 + kb * 3 from by omega] at j0 j1 j2; clear hr7))
                      go_still_tail 7, (by kernel_rfl)
                      change wpList _ _ _ _ _ W7.drew
                      have HN9 := Lib.hid (show RAJ w w.heap.size x7 o (stD T o (d + 1)) (set3 W7.drew w.heap.size (d * 96 + kb * 3) (.slice A6 r2.rs.length c6) (.bool r2.lk) (.bool r2.inh)) from by
                        have h9 := RAJ.store (H8.out.2.below (Below.drew (Below.refl _ _))) hi64 (Ls.below H8.out.1 (Below.drew (Below.refl _ _)))
                        rw [HStep.out.1, show (d * 32 + kb) * 3 = d * 96 + kb * 3 from by omega] at h9
                        exact h9)
                      go_wp2
                      go_roundw
                      case rel => exact ⟨d + 1, by omega, by go_num, by rw [HStep.out.2, hlim, HBigg.out, HR2.out, Bool.false_or]; congr 1; exact decide_eq_decide.2 (by omega), Lib.hid (HSBn.out (by rw [HBadd.out, HR2.out, heq]; rfl)), HN9⟩
                      case measure => simp [intOf]; omega
                  · skip
                    go_wp2
                    apply Ends.const (F := fun w' => w' = (wr.alloc (.cells #[.slice A9 rs.length c9, .bool true, .bool inh] 105)).drew)
                    case walk =>
                      refine wp_region_mid 8 [0, 1, 2, 3, 4, 5, 6] [7] (fun w' => Below wr.heap.size wr w')
                        [.int .i64 d, .pointer (some ⟨x7, 1, none⟩), .int .i64 kb, .pointer (some ⟨w.heap.size, 0, none⟩), .pointer (some ⟨w.heap.size, d * 96, none⟩), .pointer (some ⟨w.heap.size, d * 96 + kb * 3, none⟩), .agg #[.slice A9 rs.length c9, .bool true, .bool inh]]
                        (by rfl) (by kernel_rfl) (fun _ _ _ _ _ h => h) (Below.drew (Below.refl _ _)) ?heads ?_
                      case heads =>
                        refine ⟨.inl ⟨rfl, fun w' hw => ?_⟩, .inl ⟨rfl, fun w' hw => ?_⟩, .inl ⟨rfl, fun w' hw => ?_⟩, .inl ⟨rfl, fun w' hw => ?_⟩, .inl ⟨rfl, fun w' hw => ?_⟩, .inl ⟨rfl, fun w' hw => ?_⟩, .inl ⟨rfl, fun w' hw => ?_⟩, trivial⟩ <;>
                          (obtain ⟨y1, y2, y3, y4⟩ := HF.out w' hw; show (execOp _ _).run Tryd.prog w' = _; go_simp)
                      simp only [List.drop_succ_cons, List.drop_zero, putIdx, Act.put, List.getElem?_cons_zero, List.getElem?_cons_succ, List.setIfInBounds_toArray, List.set_cons_zero, List.set_cons_succ]
                      refine wpMids_cons rfl fun K hK => ?_
                      go_simp
                      refine hK _ _ ((Below.drew (Below.refl _ _)).alloc (Nat.le_refl _) _) ?_
                      clear hK K
                      try simp only [Act.put, List.setIfInBounds_toArray, List.set_cons_zero, List.set_cons_succ]
                      refine wpMids_nil ?_
                      go_wp2
                      exact Ends.mk ⟨rfl, rfl⟩
                    case imp =>
                      intro W5 h5
                      have HB5 := Lib.hid (show Below wr.heap.size wr W5 from by rw [h5]; exact ((Below.refl _ _).alloc (Nat.le_refl _) _).drew)
                      have HX5 := Lib.hid (show W5.heap[wr.heap.size]? = some (.cells #[.slice A9 rs.length c9, .bool true, .bool inh] 105 (0, 0)) from by rw [h5]; exact heap_alloc_new wr _)
                      have HJ5 := Lib.hid (HJ.out.below HB5.out)
                      obtain ⟨t0, t1, t2⟩ := cells_three HX5.out
                      obtain ⟨e0, e1, e2, e3, e4⟩ := five_cells HJ5.out.op
                      clear h5
                      go_wp2_with (first
                        | (go_at_call 52; refine (HAf.out W5 HB5.out).mono ?_; rintro e w6 ⟨v6, rfl, h1, h2⟩; obtain ⟨A6, c6, rfl, -, -, -, -⟩ := Rw.form h1; have hb7 := h2.alloc h2.size (.cells #[.slice A6 r2.rs.length c6, .bool r2.lk, .bool r2.inh] 105); have H6 := Lib.hid (And.intro (Ls.below h1 ((Below.refl w6.heap.size w6).alloc (Nat.le_refl _) (.cells #[.slice A6 r2.rs.length c6, .bool r2.lk, .bool r2.inh] 105))) (And.intro (HJ5.out.below hb7) (And.intro (HB5.out.trans (hb7.mono HB5.out.size)) (heap_alloc_new w6 (.cells #[.slice A6 r2.rs.length c6, .bool r2.lk, .bool r2.inh] 105))))); obtain ⟨s0, s1, s2⟩ := cells_three ((hb7.block _ (Array.getElem?_eq_some_iff.1 HX5.out).1).trans HX5.out); clear h1 h2 hb7; skip)
                        | (go_at_call 53; have h9 := HSm.out (.slice A6 r2.rs.length c6) r2 _ H6.out.2.2.1 H6.out.1; rw [heq] at h9; refine h9.mono ?_; rintro e W7 ⟨rfl, h1⟩; have H8 := Lib.hid (And.intro (Ls.below H6.out.1 h1) (H6.out.2.1.below h1)); obtain ⟨n0, n1, n2⟩ := cells_three ((h1.block _ (Array.getElem?_eq_some_iff.1 H6.out.2.2.2).1).trans H6.out.2.2.2); clear h1 h9; obtain ⟨k0, k1, k2, k3, k4⟩ := five_cells H8.out.2.op; rw [HKB.out.1] at k1; obtain ⟨lv7, hr7⟩ := H8.out.2.set; obtain ⟨j0, j1, j2⟩ := hr7.three hi64; have f0 := hr7.frozen (d * 96 + kb * 3); have f1 := hr7.frozen (d * 96 + kb * 3 + 1); have f2 := hr7.frozen (d * 96 + kb * 3 + 2); rw [show (d * 32 + kb) * 3 = d * 96 + kb * 3 from by omega] at j0 j1 j2; clear hr7))
                      go_still_tail 7, (by kernel_rfl)
                      change wpList _ _ _ _ _ W7.drew
                      have HN9 := Lib.hid (show RAJ w w.heap.size x7 o (stD T o (d + 1)) (set3 W7.drew w.heap.size (d * 96 + kb * 3) (.slice A6 r2.rs.length c6) (.bool r2.lk) (.bool r2.inh)) from by
                        have h9 := RAJ.store (H8.out.2.below (Below.drew (Below.refl _ _))) hi64 (Ls.below H8.out.1 (Below.drew (Below.refl _ _)))
                        rw [HStep.out.1, show (d * 32 + kb) * 3 = d * 96 + kb * 3 from by omega] at h9
                        exact h9)
                      go_wp2
                      go_roundw
                      case rel => exact ⟨d + 1, by omega, by go_num, by rw [HStep.out.2, hlim]; rfl, Lib.hid (HSBn.out (by rw [HBadd.out, HR2.out, heq]; rfl)), HN9⟩
                      case measure => simp [intOf]; omega
            · have hhf : hasD o.dom d = false := by simpa using hh
              rw [hhf, Bool.not_false] at hhand
              have HSk := Lib.hid (And.intro (stD_skip T HAB.out hlt2 hhf) (And.intro (stL_next T o hlt2) (stB_next (d := d) HSB.out (by unfold badS; rw [hhf]; rfl))))
              have HBg := Lib.hid (show bigS o d (T (atR o d)) = false from by unfold bigS; rw [hhf]; rfl)
              clear hh hhf
              go_wp2
              go_roundw
              case rel => exact ⟨d + 1, by omega, by go_num, by rw [HSk.out.2.1, HBg.out, Bool.or_false], Lib.hid HSk.out.2.2, Lib.hid (by rw [HSk.out.1]; exact HJ.out)⟩
              case measure => simp [intOf]; omega
          · have hd2 : d = 2 := by omega
            have hge2 : ¬ (d : Int) < 2 := by omega
            have HG := Lib.hid (show codeS T o = if stL T o d = true then 18 else 0 from by
              have h := HSB.out
              rw [hd2] at h ⊢
              exact rcode_good HK.out h)
            have HNx := Lib.hid (show stD T o d = nextS T o from by rw [hd2]; exact stD_two T HAB.out)
            rw [HNx.out] at HJ
            clear hd2 hd hlt2 HSB
            cases hlim : stL T o d
            · have HG0 := Lib.hid (show codeS T o = 0 from by rw [HG.out, hlim]; rfl)
              clear HG
              go_wp2
              go_roundw
              case rel => exact ⟨k + 1, by omega, by go_num, Lib.hid (by rw [HN.out.1]; exact HG0.out), Lib.hid (by rw [HN.out.2]; unfold stepS; rw [if_pos HG0.out]; exact HJ.out.set), Lib.hid HJ.out.bel⟩
              case measure => simp [intOf]; omega
            · have HG1 := Lib.hid (show codeS T o = 18 from by rw [HG.out, hlim]; rfl)
              clear HG
              go_wp2
              go_ret
              have hap : applyC S l = 18 := (HST.out (by rw [HG1.out]; decide)).trans HG1.out
              refine ⟨by rw [hap]; rfl, ⟨lv, ?_⟩, grown_of_below' HJ.out.bel _⟩
              rw [HBad.out (by rw [hap]; decide)]
              exact HA.out.1.below HJ.out.bel
      · have hcn : (checkS o != 0) = true := by simpa using hck
        have HK := Lib.hid (rcode_check (T := T) hck)
        have HCN := Lib.hid hck
        clear hck
        go_wp2_with (go_at_call 51; refine HCk.out.mono ?_; rintro e w4 ⟨rfl, h1⟩; have HJ := Lib.hid (RAJ.below HJ4.out h1); clear h1)
        go_ret
        have hap : applyC S l = checkS o := (HST.out (by rw [HK.out]; exact HCN.out)).trans HK.out
        refine ⟨by rw [hap]; rfl, lv, ?_, grown_of_below' HJ.out.bel _⟩
        rw [HBad.out (by rw [hap]; exact HCN.out)]
        exact HA.out.1.below HJ.out.bel
    · obtain rfl : k = l.length := by omega
      rw [List.take_length] at H0 HR
      obtain ⟨lv2, hr2⟩ := HR.out
      obtain ⟨ds, hds, -, -⟩ := hr2.tab
      have h6 := HA.out.1.below HB.out
      obtain ⟨old, hold, hos, -⟩ := h6.tab
      obtain ⟨hz, h1c⟩ := hr2.one hds
      have HLD := Lib.hid (show ∀ j v, ds[j]? = some v → wr.cell? ((⟨w.heap.size, 0, none⟩ : Addr).add j) = some v from fun j v hj => by rw [add_at, cell_of_row _ _ _ _ _ _ hds, Nat.zero_add]; exact hj)
      have HFR := Lib.hid (hr2.copy (by decide) (u := b) (by have := HA.out.1.lt; omega) hds hold)
      have HCS := Lib.hid (And.intro hds (And.intro hold (And.intro hos (And.intro hz h1c))))
      clear hr2 hds h6 hold hos hz h1c
      go_wp2_with (first
        | ((with_reducible change wpList _ _ _ (⟨_, .load 109 _, _, _, _, _⟩ :: _) _ _); refine wpList_load_cells rfl 109 (.tmp 5) rfl ⟨w.heap.size, 0, none⟩ rfl ds _ HLD.out Tryd.underlying109 rfl size109 (by rw [HCS.out.2.2.2.1]) ?_)
        | ((with_reducible change wpList _ _ _ (⟨_, .store 109 _ _, _, _, _, _⟩ :: _) _ _); refine wpList_store_row rfl 109 (.tmp 76) (.tmp 75) rfl b ds rfl rfl 109 old HCS.out.2.1 (by rw [HCS.out.2.2.2.1]; exact size109) (by rw [HCS.out.2.2.1, HCS.out.2.2.2.1]) HCS.out.2.2.2.2 ?_))
      go_ret
      refine ⟨by rw [HC.out, H0.out]; rfl, lv2, ?_, ?_⟩
      · rw [show applyS S l = runS S l from by unfold applyS; rw [HC.out, H0.out, if_pos rfl]]
        exact HFR.out
      · exact ⟨HB.out.os, HB.out.tape, HB.out.output, Nat.le_trans HB.out.size (by simp), fun k hk hne => (setRow_other _ _ _ _ (by rintro rfl; exact hne rfl)).trans (HB.out.block k hk)⟩
end Go.Proofs.YthccppldpfddjaaDoor
namespace Go.Proofs.YthccppldpfddjaaDoor
open Go.RowKit
set_option linter.unusedVariables false
def encL (x : Rg) : List Value := [.int .i64 x.1, .int .i64 x.2]
set_option maxHeartbeats 1000000 in
set_option maxRecDepth 100000 in
theorem index_none (f : Value) (w : World) : Calls Tryd.prog 69 #[.slice none 0 0, f] w fun e w' => e = .returned (.int .i64 (-1)) ∧ w' = w := by
  go_enter Tryd.func69, Tryd.ntmps69
  go_wp2
  go_loopw [8] (fun i wr => i = .int .i64 0 ∧ wr = w) (fun i _ => 0)
  case atStart => exact ⟨rfl, rfl⟩
  case round =>
    obtain ⟨rfl, rfl⟩ := hrel
    go_wp2
    go_ret
    exact ⟨rfl, rfl⟩
set_option maxHeartbeats 1000000 in
set_option maxRecDepth 100000 in
theorem contains_calls (v : Value) (l : List Rg) (p : Rg → Bool) (g : Nat) (lb : Array Value) (eg : ∀ args w, (callFunc g args).run Tryd.prog w = .ok (.enter g args) w) (w : World) (hl : Ls w 43 v l) (hlen : l.length ≤ 1000000)
    (hp : PredBelow Tryd.prog g lb (fun x : Rg => .agg (encL x).toArray) p w) :
    Calls Tryd.prog 54 #[v, .func (.func g) #[] lb] w fun e w' => e = .returned (.bool (l.any p)) ∧ Below w.heap.size w w' := by
  obtain ⟨A, c, rfl, -, -, hn, hs⟩ := Rw.form hl
  cases A with
  | none =>
    obtain ⟨h1, h2⟩ := hn rfl
    subst h2
    have hl0 : l = [] := List.eq_nil_of_length_eq_zero h1
    subst hl0
    have HI := Lib.hid (index_none (.func (.func g) #[] lb))
    clear hp hl hs hn h1 hlen
    go_enter Tryd.func54, Tryd.ntmps54
    go_wp2_with (go_at_call 69; refine (HI.out _).mono ?_; rintro e w1 ⟨rfl, rfl⟩)
    go_ret
    exact ⟨rfl, Below.refl _ _⟩
  | some ad =>
    obtain ⟨g', rfl, hg, hcell⟩ := hs ad rfl
    have h9 : ∀ j, j < l.length → ∀ i u, (encL l[j]!)[i]? = some u → w.cell? ⟨g', 0 + j * 2 + i, none⟩ = some u := fun j hj i u hi => by
      obtain ⟨h1, h2⟩ := pcells_get l j hj
      have e : l[j]! = l.getD j (0, 0) := by simp [List.getD, hj]
      rw [e] at hi
      rw [Nat.zero_add]
      unfold encL at hi
      match i, hi with
      | 0, hi => cases hi; exact hcell _ _ h1
      | 1, hi => cases hi; exact hcell _ _ h2
      | i + 2, hi => simp at hi
    have h10 := AnyQ.slices_ContainsFunc (α := Rg) Tryd.lcontains 2 Tryd.isAgg43 Tryd.sizeOf43 encL (fun _ => rfl) p g lb eg g' 0 l.length c l w hp (Nat.le_refl _) (by omega) hg h9
    rw [List.take_length] at h10
    exact h10
/-- What a range must meet to hold a value; and to hold another range. -/
def hasV (v : Int) (r : Rg) : Bool := decide (r.1 ≤ v) && decide (v ≤ r.2)
def hasR (x : Rg) (y : Rg) : Bool := decide (y.1 ≤ x.1) && decide (x.2 ≤ y.2)
set_option maxHeartbeats 1000000 in
set_option maxRecDepth 100000 in
theorem pred57 (b : Nat) (v : Int) (w : World) (h : w.heap[b]? = some (.cells #[.int .i64 v] 2 (0, 0))) : PredBelow Tryd.prog 57 #[.pointer (some ⟨b, 0, none⟩)] (fun x : Rg => .agg (encL x).toArray) (hasV v) w := by
  rintro W ⟨x1, x2⟩ hW
  have h1 : ∀ W', Below w.heap.size w W' → W'.cell? ⟨b, 0, none⟩ = some (.int .i64 v) := fun W' hb => by rw [cell_of_row _ _ _ _ _ _ ((hb.block _ (Array.getElem?_eq_some_iff.1 h).1).trans h)]; rfl
  have hb := hW.alloc hW.size (.cells #[.int .i64 x1, .int .i64 x2] 43)
  have hc := h1 _ hb
  have HB := Lib.hid hb
  unfold hasV encL
  show Calls Tryd.prog 57 #[.agg #[.int .i64 x1, .int .i64 x2], .pointer (some ⟨b, 0, none⟩)] W _
  simp only
  clear h h1 hW hb
  by_cases a1 : x1 ≤ v
  · by_cases a2 : v ≤ x2
    · have d1 : decide (x1 ≤ v) = true := by simpa using a1
      have d2 : decide (v ≤ x2) = true := by simpa using a2
      go_enter Tryd.func57, Tryd.ntmps57
      go_wp2
      go_ret
      exact ⟨by first | rfl | (rw [d1, d2]; rfl), HB.out⟩
    · have d1 : decide (x1 ≤ v) = true := by simpa using a1
      have d2 : decide (v ≤ x2) = false := by simpa using a2
      go_enter Tryd.func57, Tryd.ntmps57
      go_wp2
      go_ret
      exact ⟨by first | rfl | (rw [d1, d2]; rfl), HB.out⟩
  · have d1 : decide (x1 ≤ v) = false := by simpa using a1
    go_enter Tryd.func57, Tryd.ntmps57
    go_wp2
    go_ret
    exact ⟨by first | rfl | (rw [d1]; rfl), HB.out⟩
set_option maxHeartbeats 1000000 in
set_option maxRecDepth 100000 in
theorem pred55 (b : Nat) (y1 y2 : Int) (w : World) (h : w.heap[b]? = some (.cells #[.int .i64 y1, .int .i64 y2] 43 (0, 0))) : PredBelow Tryd.prog 55 #[.pointer (some ⟨b, 0, none⟩)] (fun x : Rg => .agg (encL x).toArray) (hasR (y1, y2)) w := by
  rintro W ⟨x1, x2⟩ hW
  have h1 : ∀ W', Below w.heap.size w W' → W'.cell? ⟨b, 0, none⟩ = some (.int .i64 y1) ∧ W'.cell? ⟨b, 1, none⟩ = some (.int .i64 y2) := fun W' hb => rtwo_cells ((hb.block _ (Array.getElem?_eq_some_iff.1 h).1).trans h)
  have hb := hW.alloc hW.size (.cells #[.int .i64 x1, .int .i64 x2] 43)
  obtain ⟨hc0, hc1⟩ := h1 _ hb
  have HB := Lib.hid hb
  unfold hasR encL
  show Calls Tryd.prog 55 #[.agg #[.int .i64 x1, .int .i64 x2], .pointer (some ⟨b, 0, none⟩)] W _
  simp only
  clear h h1 hW hb
  by_cases a1 : x1 ≤ y1
  · by_cases a2 : y2 ≤ x2
    · have d1 : decide (x1 ≤ y1) = true := by simpa using a1
      have d2 : decide (y2 ≤ x2) = true := by simpa using a2
      go_enter Tryd.func55, Tryd.ntmps55
      go_wp2
      go_ret
      exact ⟨by first | rfl | (rw [d1, d2]; rfl), HB.out⟩
    · have d1 : decide (x1 ≤ y1) = true := by simpa using a1
      have d2 : decide (y2 ≤ x2) = false := by simpa using a2
      go_enter Tryd.func55, Tryd.ntmps55
      go_wp2
      go_ret
      exact ⟨by first | rfl | (rw [d1, d2]; rfl), HB.out⟩
  · have d1 : decide (x1 ≤ y1) = false := by simpa using a1
    go_enter Tryd.func55, Tryd.ntmps55
    go_wp2
    go_ret
    exact ⟨by first | rfl | (rw [d1]; rfl), HB.out⟩
def allowB (S : St) (d a v : Int) : Bool := decide (0 ≤ d ∧ d ≤ 1 ∧ 0 ≤ a ∧ a < 32) && (S (d.toNat * 32 + a.toNat)).rs.any (hasV v)
set_option maxHeartbeats 2000000 in
set_option maxRecDepth 100000 in
theorem allowed_calls (b : Nat) (lv : Nat → Value) (S : St) (d a v : Int) (w : World) (h : RArr 64 77 43 w b lv S) (hS : StOk S) :
    Calls Tryd.prog 20 #[.pointer (some ⟨b, 0, none⟩), .int .i64 d, .int .i64 a, .int .i64 v] w fun e w' => e = .returned (.bool (allowB S d a v)) ∧ Below w.heap.size w w' := by
  have HV := Lib.hid (valid_calls d a)
  unfold allowB
  have HB0 := Lib.hid ((Below.refl w.heap.size w).alloc (Nat.le_refl _) (.cells #[.int .i64 v] 2))
  have HX0 := Lib.hid (heap_alloc_new w (.cells #[.int .i64 v] 2))
  by_cases hv : 0 ≤ d ∧ d ≤ 1 ∧ 0 ≤ a ∧ a < 32
  · rw [decide_eq_true hv] at HV ⊢
    obtain ⟨h1, h2, h3, h4⟩ := hv
    obtain ⟨d, rfl⟩ := Int.eq_ofNat_of_zero_le h1
    obtain ⟨a, rfl⟩ := Int.eq_ofNat_of_zero_le h3
    have hd2 : (d : Int) < 2 := by omega
    have ha32 : (a : Int) < 32 := by omega
    have hi : d * 32 + a < 64 := by omega
    rw [show ((d : Int)).toNat * 32 + ((a : Int)).toNat = d * 32 + a by simp]
    obtain ⟨A1, c1, hv1, -, -, -, -⟩ := Rw.form (h.row _ hi)
    have HF := Lib.hid (show ∀ w', Below w.heap.size w w' → w'.cell? ⟨b, d * 96 + a * 3, none⟩ = some (.slice A1 (S (d * 32 + a)).rs.length c1) ∧ Ls w' 43 (.slice A1 (S (d * 32 + a)).rs.length c1) (S (d * 32 + a)).rs from fun w' hw => by
      obtain ⟨q0, -, -⟩ := (h.below hw).three hi
      have q1 := (h.below hw).row _ hi
      rw [hv1] at q0 q1
      rw [show (d * 32 + a) * 3 = d * 96 + a * 3 by omega] at q0
      exact ⟨q0, q1⟩)
    have HL := Lib.hid (show (S (d * 32 + a)).rs.length ≤ 50 from (hS _ hi).2)
    clear h hS hv1 h1 h2 h3 h4
    generalize (S (d * 32 + a)).rs = rs at *
    go_enter Tryd.func20, Tryd.ntmps20
    go_wp2_with (first
      | (go_at_call 46; refine (HV.out _).mono ?_; rintro e w1 ⟨rfl, h1⟩; have HB1 := Lib.hid (And.intro (HB0.out.trans (h1.mono HB0.out.size)) ((h1.block _ (by simp)).trans HX0.out)); obtain ⟨q0, -⟩ := HF.out w1 HB1.out.1; clear h1)
      | (go_at_call 54; refine (contains_calls _ rs (hasV v) 57 _ (enters_of Tryd.func57 (by kernel_rfl) rfl) w1 (HF.out w1 HB1.out.1).2 (by have := HL.out; omega) (pred57 w.heap.size v w1 HB1.out.2)).mono ?_; rintro e w2 ⟨rfl, h2⟩; have HB2 := Lib.hid (HB1.out.1.trans (h2.mono HB1.out.1.size)); clear h2))
    go_ret
    exact ⟨by simp, HB2.out⟩
  · rw [decide_eq_false hv] at HV ⊢
    clear hv
    go_enter Tryd.func20, Tryd.ntmps20
    go_wp2_with (go_at_call 46; refine (HV.out _).mono ?_; rintro e w1 ⟨rfl, h1⟩; have HB1 := Lib.hid (HB0.out.trans (h1.mono HB0.out.size)); clear h1)
    go_ret
    exact ⟨rfl, HB1.out⟩
end Go.Proofs.YthccppldpfddjaaDoor
namespace Go.Proofs.YthccppldpfddjaaDoor
open Go.RowKit
set_option linter.unusedVariables false
theorem any_take (l : List Rg) (p : Rg → Bool) {k : Nat} (hk : k < l.length) : (l.take (k + 1)).any p = ((l.take k).any p || p l[k]) := by
  rw [List.take_succ_eq_append_getElem hk, List.any_append]
  simp
theorem any_hit (l : List Rg) (p : Rg → Bool) {k : Nat} (hk : k < l.length) (h : p l[k] = true) : l.any p = true := List.any_eq_true.2 ⟨_, List.getElem_mem hk, h⟩
set_option maxHeartbeats 2000000 in
set_option maxRecDepth 100000 in
theorem rallowed_calls (b : Nat) (lv : Nat → Value) (S : St) (d a v : Int) (w : World) (h : RArr 64 109 116 w b lv S) (hS : StOk S) :
    Calls Tryd.prog 21 #[.pointer (some ⟨b, 0, none⟩), .int .i64 d, .int .i64 a, .int .i64 v] w fun e w' => e = .returned (.bool (allowB S d a v)) ∧ Below w.heap.size w w' := by
  unfold allowB
  by_cases hv : 0 ≤ d ∧ d ≤ 1 ∧ 0 ≤ a ∧ a < 32
  · rw [decide_eq_true hv, Bool.true_and]
    obtain ⟨h1, h2, h3, h4⟩ := hv
    obtain ⟨d, rfl⟩ := Int.eq_ofNat_of_zero_le h1
    obtain ⟨a, rfl⟩ := Int.eq_ofNat_of_zero_le h3
    have hd2 : (d : Int) < 2 := by omega
    have ha32 : (a : Int) < 32 := by omega
    have hi : d * 32 + a < 64 := by omega
    rw [show ((d : Int)).toNat * 32 + ((a : Int)).toNat = d * 32 + a by simp]
    obtain ⟨A1, c1, hv1, -, -, -, -⟩ := Rw.form (h.row _ hi)
    obtain ⟨q0, -, -⟩ := h.three hi
    have q1 := h.row _ hi
    rw [hv1] at q0 q1
    rw [show (d * 32 + a) * 3 = d * 96 + a * 3 by omega] at q0
    have HF := Lib.hid q1
    have HL := Lib.hid (show (S (d * 32 + a)).rs.length ≤ 50 from (hS _ hi).2)
    clear h hS hv1 h1 h3 h4 q1
    generalize (S (d * 32 + a)).rs = rs at *
    go_enter Tryd.func21, Tryd.ntmps21
    go_wp2
    go_loopw [35] (fun i wr => ∃ k : Nat, k ≤ rs.length ∧ i = .int .i64 k ∧ Hid (Below w.heap.size w wr) ∧ Hid ((rs.take k).any (hasV v) = false)) (fun i _ => rs.length - (intOf i).toNat)
    case atStart => exact ⟨0, by omega, rfl, Lib.hid (Below.refl _ _), Lib.hid rfl⟩
    case round =>
      obtain ⟨k, hk, rfl, HB, HT⟩ := hrel
      by_cases hlt : k < rs.length
      · have hlt' : (k : Int) < (rs.length : Int) := by omega
        have hk6 : (k : Int) ≤ 50 := by have := HL.out; omega
        clear q0
        obtain ⟨g, rfl, hg, q1, q2⟩ := Ls.at (HF.out.below HB.out) rfl hlt
        have HA := Lib.hid (any_take rs (hasV v) hlt)
        have HH := Lib.hid (any_hit rs (hasV v) hlt)
        generalize rs[k] = r at *
        obtain ⟨x1, x2⟩ := r
        simp only at q1 q2
        by_cases a1 : x1 ≤ v
        · by_cases a2 : v ≤ x2
          · have HV := Lib.hid (HH.out (by unfold hasV; simp [a1, a2]))
            go_wp2
            go_ret
            exact ⟨by rw [HV.out]; rfl, HB.out.alloc HB.out.size _⟩
          · have HV := Lib.hid (show hasV v (x1, x2) = false from by unfold hasV; simp; omega)
            go_wp2
            go_roundw
            case rel => exact ⟨k + 1, by omega, by go_num, Lib.hid (HB.out.alloc HB.out.size _), Lib.hid (by rw [HA.out, HT.out, HV.out]; rfl)⟩
            case measure => simp [intOf]; omega
        · have HV := Lib.hid (show hasV v (x1, x2) = false from by unfold hasV; simp; omega)
          go_wp2
          go_roundw
          case rel => exact ⟨k + 1, by omega, by go_num, Lib.hid (HB.out.alloc HB.out.size _), Lib.hid (by rw [HA.out, HT.out, HV.out]; rfl)⟩
          case measure => simp [intOf]; omega
      · obtain rfl : k = rs.length := by omega
        rw [List.take_length] at HT
        go_wp2
        go_ret
        exact ⟨by rw [HT.out]; rfl, HB.out⟩
  · rw [decide_eq_false hv, Bool.false_and]
    by_cases h1 : d < 0
    · clear hv
      go_enter Tryd.func21, Tryd.ntmps21
      go_wp2
      go_ret
      exact ⟨rfl, Below.refl _ _⟩
    · by_cases h2 : 1 < d
      · clear hv
        go_enter Tryd.func21, Tryd.ntmps21
        go_wp2
        go_ret
        exact ⟨rfl, Below.refl _ _⟩
      · by_cases h3 : a < 0
        · clear hv
          go_enter Tryd.func21, Tryd.ntmps21
          go_wp2
          go_ret
          exact ⟨rfl, Below.refl _ _⟩
        · have h4 : 32 ≤ a := by omega
          clear hv
          go_enter Tryd.func21, Tryd.ntmps21
          go_wp2
          go_ret
          exact ⟨rfl, Below.refl _ _⟩
/-- The first so many rights are found within. -/
def wthR' (S T : St) (k : Nat) : Bool := (List.range k).all fun i => (outAll (S i).rs (T i).rs).isEmpty
theorem wthR'_next {S T : St} {k : Nat} (h : wthR' S T k = true) (he : outAll (S k).rs (T k).rs = []) : wthR' S T (k + 1) = true := by
  unfold wthR' at *
  rw [List.range_succ, List.all_append, h, Bool.true_and]
  simp [he]
theorem wthR'_stop {S T : St} {k : Nat} (hk : k < 64) (he : outAll (S k).rs (T k).rs ≠ []) : wthR S T = false := by
  unfold wthR
  rw [Bool.eq_false_iff]
  intro h
  have := List.all_eq_true.1 h k (by simpa using hk)
  exact he (by simpa using this)
set_option maxHeartbeats 4000000 in
set_option maxRecDepth 100000 in
theorem rwithin_calls (b c : Nat) (lv lu : Nat → Value) (S T : St) (w : World) (h : RArr 64 109 116 w b lv S) (hS : StOk S) (hu : RArr 64 109 116 w c lu T) (hT : StOk T) :
    Calls Tryd.prog 19 #[.pointer (some ⟨b, 0, none⟩), .pointer (some ⟨c, 0, none⟩)] w fun e w' => e = .returned (.bool (wthR S T)) ∧ Below w.heap.size w w' := by
  have HA := Lib.hid (And.intro h (And.intro hS (And.intro hu hT)))
  clear h hS hu hT
  go_enter Tryd.func19, Tryd.ntmps19
  go_wp2
  go_loopw [5] (fun i wr => ∃ d : Nat, d ≤ 2 ∧ i = .int .i64 d ∧ Hid (Below w.heap.size w wr) ∧ Hid (wthR' S T (d * 32) = true)) (fun i _ => 2 - (intOf i).toNat)
  case atStart => exact ⟨0, by omega, rfl, Lib.hid (Below.refl _ _), Lib.hid rfl⟩
  case round =>
    obtain ⟨d, hd, rfl, HB, HW⟩ := hrel
    by_cases hlt : d < 2
    · have hlt' : (d : Int) < 2 := by omega
      go_wp2
      go_loopw [6] (fun i wr => ∃ j : Nat, j ≤ 32 ∧ i = .int .i64 j ∧ Hid (Below w.heap.size w wr) ∧ Hid (wthR' S T (d * 32 + j) = true)) (fun i _ => 32 - (intOf i).toNat)
      case atStart => exact ⟨0, by omega, rfl, HB, HW⟩
      case round =>
        clear HB HW
        obtain ⟨j, hj, rfl, HB, HW⟩ := hrel
        by_cases hjl : j < 32
        · have hjl' : (j : Int) < 32 := by omega
          have hi : d * 32 + j < 64 := by omega
          have hr := HA.out.1.below HB.out
          have hs := HA.out.2.2.1.below HB.out
          obtain ⟨A1, c1, hv1, -, -, -, -⟩ := Rw.form (hr.row _ hi)
          obtain ⟨B1, e1, hu1, -, -, -, -⟩ := Rw.form (hs.row _ hi)
          obtain ⟨q0, -, -⟩ := hr.three hi
          obtain ⟨p0, -, -⟩ := hs.three hi
          have q1 := hr.row _ hi
          have p1 := hs.row _ hi
          rw [hv1] at q0 q1
          rw [hu1] at p0 p1
          rw [show (d * 32 + j) * 3 = d * 96 + j * 3 by omega] at q0 p0
          have HL := Lib.hid (And.intro q1 p1)
          have HG := Lib.hid (And.intro (HA.out.2.1 _ hi) (HA.out.2.2.2 _ hi))
          have HN := Lib.hid (And.intro (wthR'_next (S := S) (T := T) HW.out) (wthR'_stop (S := S) (T := T) hi))
          clear hr hs hv1 hu1 q1 p1 HW
          unfold RtOk at HG
          generalize (S (d * 32 + j)).rs = l at *
          generalize (T (d * 32 + j)).rs = m at *
          go_wp2
          have HBw := Lib.hid HB.out
          obtain ⟨W1, hW1⟩ : ∃ W1, W1 = wr := ⟨_, rfl⟩
          have HL1 := Lib.hid (show Ls W1 116 (.slice A1 l.length c1) l ∧ Ls W1 116 (.slice B1 m.length e1) m ∧ Below w.heap.size w W1 from by rw [hW1]; exact ⟨HL.out.1, HL.out.2, HB.out⟩)
          rw [← hW1]
          clear hW1 HL HB HBw q0 p0
          go_loopw [37, 7] (fun i x wr => ∃ k : Nat, k ≤ m.length ∧ i = .int .i64 k ∧ Hid (Ls wr 116 x (outAll l (m.take k))) ∧ Hid (Below W1.heap.size W1 wr)) (fun i _ _ => m.length - (intOf i).toNat)
          case atStart => exact ⟨0, by omega, rfl, Lib.hid HL1.out.1, Lib.hid (Below.refl _ _)⟩
          case round =>
            obtain ⟨k, hk, rfl, HX, HB⟩ := hrel
            obtain ⟨A2, c2, rfl, -, -, -, -⟩ := Rw.form HX.out
            by_cases hkl : k < m.length
            · have hkl' : (k : Int) < (m.length : Int) := by omega
              have hk6 : (k : Int) ≤ 50 := by have := HG.out.2.2; omega
              obtain ⟨g, rfl, hg, q1, q2⟩ := Ls.at (HL1.out.2.1.below HB.out) rfl hkl
              have HO := Lib.hid (outAll_snoc l m hkl)
              have HK := Lib.hid (outAll_good HG.out.1.1 (HG.out.2.1.take k))
              have HR := Lib.hid (HG.out.2.1.1 m[k] (List.getElem_mem hkl))
              have HKl := Lib.hid (show (outAll l (m.take k)).length ≤ 1000 from by have := HK.out.2; have := HG.out.1.2; rw [List.length_take] at *; omega)
              generalize outAll l (m.take k) = cur at *
              generalize m[k] = r at *
              obtain ⟨x1, x2⟩ := r
              simp only at q1 q2 HO
              have HC := Lib.hid (fun W (hW : Below wr.heap.size wr W) => rwithout_calls (.slice A2 cur.length c2) cur x1 x2 W (Ls.below HX.out hW) HKl.out (by have := HR.out; unfold okR MX at this; simp only at this; omega) (by have := HR.out; unfold okR MX at this; simp only at this; omega) (by have := HR.out; unfold okR MX at this; simp only at this; omega))
              have HB9 := Lib.hid ((Below.refl wr.heap.size wr).alloc (Nat.le_refl _) (.cells #[.int .i64 x1, .int .i64 x2] 116))
              go_wp2_with (go_at_call 56; refine (HC.out _ HB9.out).mono ?_; rintro e w5 ⟨v5, rfl, h1, h2⟩; have H5 := Lib.hid (And.intro h1 (HB.out.trans ((HB9.out.trans (h2.mono HB9.out.size)).mono HB.out.size))); clear h1 h2)
              go_roundw
              case rel => exact ⟨k + 1, by omega, by go_num, Lib.hid (by rw [HO.out]; exact H5.out.1), Lib.hid H5.out.2⟩
              case measure => simp [intOf]; omega
            · obtain rfl : k = m.length := by omega
              rw [List.take_length] at HX ⊢
              have HBt := Lib.hid (HL1.out.2.2.trans (HB.out.mono HL1.out.2.2.size))
              by_cases he : outAll l m = []
              · have HN1 := Lib.hid (HN.out.1 he)
                have hz : ¬ (0 : Int) < ((outAll l m).length : Int) := by rw [he]; simp
                clear HN he
                go_wp2
                go_roundw
                case rel => exact ⟨j + 1, by omega, by go_num, HBt, HN1⟩
                case measure => simp [intOf]; omega
              · have HN1 := Lib.hid (HN.out.2 he)
                have hz : (0 : Int) < ((outAll l m).length : Int) := by have := List.length_pos_iff.2 he; omega
                clear HN he
                go_wp2
                go_ret
                exact ⟨by rw [HN1.out]; rfl, HBt.out⟩
        · obtain rfl : j = 32 := by omega
          go_wp2
          go_roundw
          case rel => exact ⟨d + 1, by omega, by go_num, HB, Lib.hid (by rw [show (d + 1) * 32 = d * 32 + 32 by omega]; exact HW.out)⟩
          case measure => simp [intOf]; omega
    · obtain rfl : d = 2 := by omega
      go_wp2
      go_ret
      exact ⟨by rw [show wthR S T = wthR' S T 64 from rfl, HW.out]; rfl, HB.out⟩
end Go.Proofs.YthccppldpfddjaaDoor
