/- SignalsTalks: the whole law. -/
import Derived.Test.YtbpihfphoniclaaqTd
import Derived.Test.YtbpihfphoniclaaD8
namespace Go.Proofs.Ytbpihfphoniclaa
open Go.RowKit
set_option linter.unusedVariables false
theorem started_at {X : World} {g : Nat} (h : X.heap[g]? = some (.cells cells5 49 (0, 0))) (i : Nat) (hi : i < 5) : ∀ j v, (op5 i)[j]? = some v → X.cell? ((⟨g, i * 7, none⟩ : Addr).add j) = some v := by
  intro j v hv
  rw [add_at, cell_of_row _ _ _ _ _ _ h]
  have hj : j < 7 := by
    have := (Array.getElem?_eq_some_iff.1 hv).1
    simpa [op5, opc] using this
  rw [← hv]
  obtain rfl | rfl | rfl | rfl | rfl : i = 0 ∨ i = 1 ∨ i = 2 ∨ i = 3 ∨ i = 4 := by omega
  all_goals
    obtain rfl | rfl | rfl | rfl | rfl | rfl | rfl : j = 0 ∨ j = 1 ∨ j = 2 ∨ j = 3 ∨ j = 4 ∨ j = 5 ∨ j = 6 := by omega
    all_goals rfl
theorem Both.box {base t tr : Nat} {S : St} {w X : World} (h : Both base t tr S w X) {g : Nat} {cs : Array Value} (hr : X.heap[g]? = some (.cells cs 49 (0, 0))) (hg : w.heap.size ≤ g) (i : Nat) (u : Value) :
    Both base t tr S w (X.setCell ⟨g, i, none⟩ u) ∧ (X.setCell ⟨g, i, none⟩ u).heap[g]? = some (.cells (cs.setIfInBounds i u) 49 (0, 0)) := by
  obtain ⟨⟨L, h1⟩, ⟨LR, h2⟩, h3⟩ := h
  exact ⟨⟨⟨L, h1.other ⟨_, _, hr⟩ (by decide) i u⟩, ⟨LR, h2.other ⟨_, _, hr⟩ (by decide) i u⟩, h3.setCell hg u⟩, heap_setCell_same _ _ _ _ _ _ hr⟩
theorem Both.box7 {base t tr : Nat} {S : St} {w X : World} (h : Both base t tr S w X) {g : Nat} {a0 a1 a2 a3 a4 a5 a6 : Value} (hr : X.heap[g]? = some (.cells #[a0, a1, a2, a3, a4, a5, a6] 49 (0, 0))) (hg : w.heap.size ≤ g) (b0 b1 b2 b3 b4 b5 b6 : Value) :
    Both base t tr S w (((((((X.setCell ⟨g, 0, none⟩ b0).setCell ⟨g, 1, none⟩ b1).setCell ⟨g, 2, none⟩ b2).setCell ⟨g, 3, none⟩ b3).setCell ⟨g, 4, none⟩ b4).setCell ⟨g, 5, none⟩ b5).setCell ⟨g, 6, none⟩ b6) ∧
      (((((((X.setCell ⟨g, 0, none⟩ b0).setCell ⟨g, 1, none⟩ b1).setCell ⟨g, 2, none⟩ b2).setCell ⟨g, 3, none⟩ b3).setCell ⟨g, 4, none⟩ b4).setCell ⟨g, 5, none⟩ b5).setCell ⟨g, 6, none⟩ b6).heap[g]? = some (.cells #[b0, b1, b2, b3, b4, b5, b6] 49 (0, 0)) := by
  have h0 := h.box hr hg 0 b0
  have h1 := h0.1.box h0.2 hg 1 b1
  have h2 := h1.1.box h1.2 hg 2 b2
  have h3 := h2.1.box h2.2 hg 3 b3
  have h4 := h3.1.box h3.2 hg 4 b4
  have h5 := h4.1.box h4.2 hg 5 b5
  have h6 := h5.1.box h5.2 hg 6 b6
  exact ⟨h6.1, by simpa using h6.2⟩
set_option maxRecDepth 100000 in
set_option maxHeartbeats 8000000 in
theorem talks_law (A : Option Addr) (cap : Nat) (l : List OpT) (w : World) (hl : OC w A l) (h80 : l.length ≤ 80) :
    Calls Try.prog 8 #[.slice A l.length cap] w fun e w' => e = .returned (.bool true) ∧ Below w.heap.size w w' := by
  have HO := Lib.hid hl
  clear hl
  have hng : ¬ ((80 : Int) < (l.length : Int)) := by omega
  go_enter Try.func8, Try.ntmps8
  go_wp2_with fail
  refine (new_calls w).mono ?_
  rintro e w1 ⟨rfl, hr, hb⟩
  have HR1 := Lib.hid hr
  have HB1 := Lib.hid hb
  clear hr hb
  go_wp2_with fail
  refine (rnew_calls w1).mono ?_
  rintro e w2 ⟨rfl, hr, hb⟩
  have HBOTH : Hid (Both w.heap.size w.heap.size w1.heap.size S0 w w2) := Lib.hid ⟨⟨_, HR1.out.below hb⟩, ⟨_, hr⟩, below_then' HB1.out hb⟩
  have htr : w.heap.size ≤ w1.heap.size := HB1.out.size
  have HTR := Lib.hid htr
  clear hr hb HR1 HB1 htr
  obtain ⟨tp, htp⟩ : ∃ tp, w.heap.size = tp := ⟨_, rfl⟩
  have HTP := Lib.hid htp.symm
  obtain ⟨tr, htr⟩ : ∃ tr, w1.heap.size = tr := ⟨_, rfl⟩
  rw [htr] at HBOTH HTR ⊢
  clear htr
  have HBOTH : Hid (Both tp tp tr S0 w w2) := by rw [htp] at HBOTH; exact HBOTH
  rw [htp]
  clear htp
  go_wp2_with fail
  refine (started17 w2).mono ?_
  rintro e w3 ⟨rfl, hw3⟩
  have HB3 : Hid (Both tp tp tr S0 w w3) := Lib.hid (by rw [hw3]; exact HBOTH.out.below ((Below.refl _ _).alloc (Nat.le_refl _) _))
  have HG3 : Hid (w3.heap[w2.heap.size]? = some (.cells cells5 49 (0, 0))) := Lib.hid (by rw [hw3]; exact heap_alloc_new w2 _)
  clear hw3
  obtain ⟨g5, hg5⟩ : ∃ g, w2.heap.size = g := ⟨_, rfl⟩
  rw [hg5] at HG3 ⊢
  clear hg5
  go_wp2_with fail
  go_loopw [17] (fun i wr => ∃ k : Nat, ∃ S : St, k ≤ 5 ∧ i = .int .i64 k ∧ Hid (Both tp tp tr S w wr ∧ Inv S k ∧ wr.heap[g5]? = some (.cells cells5 49 (0, 0)))) (fun i _ => 5 - (intOf i).toNat)
  case atStart => exact ⟨0, S0, Nat.zero_le _, rfl, Lib.hid ⟨HB3.out, inv0, HG3.out⟩⟩
  case round =>
    obtain ⟨k, S, hk, rfl, HI⟩ := hrel
    by_cases hlt : k < 5
    · have hlt' : (k : Int) < 5 := by omega
      have HCELL := Lib.hid (started_at HI.out.2.2 k hlt)
      unfold op5 opc at HCELL
      obtain ⟨q, hq⟩ : ∃ q : Int, (if 3 ≤ k then 1 else 0) = q := ⟨_, rfl⟩
      rw [hq] at HCELL
      clear hq
      go_wp2_with ((with_reducible change wpList _ _ _ (⟨_, .load 49 (.tmp 19), _, _, _, _⟩ :: _) _ _); go_loud (refine wpList_load_cells (by rfl) 49 (.tmp 19) rfl ⟨g5, k * 7, none⟩ rfl _ _ HCELL.out Try.underlying49 rfl (n := 7) (by kernel_rfl) rfl ?_))
      have HX := Lib.hid (HI.out.1.below ((Below.refl wr.heap.size wr).alloc (Nat.le_refl _) (.cells (opc 0 (k : Int) q 0 0 0 0) 49)))
      have HROW := Lib.hid (heap_alloc_new wr (.cells (opc 0 (k : Int) q 0 0 0 0) 49))
      have HKX := Lib.hid (keep_alloc HI.out.2.2 (.cells (opc 0 (k : Int) q 0 0 0 0) 49))
      have HIN := Lib.hid (HI.out.2.1.mono (show k ≤ 1000 by omega))
      have HIK := Lib.hid (HI.out.2.1.callS 0 (k : Int) q 0 0 0 0)
      have HOB : Hid ((0 : Nat) < 18446744073709551616) := Lib.hid (by omega)
      unfold opc at HX HROW HKX
      obtain ⟨g6, hg6⟩ : ∃ g, wr.heap.size = g := ⟨_, rfl⟩
      rw [hg6] at HROW ⊢
      obtain ⟨X, hX⟩ : ∃ X, wr.alloc (.cells #[.int .i64 0, .int .i64 (k : Int), .int .i64 q, .int .i64 0, .int .i64 0, .int .u64 ((0 : Nat) : Int), .int .i64 0] 49) = X := ⟨_, rfl⟩
      rw [hX] at HX HROW HKX
      have HK : Hid (X.drew.heap[g5]? = some (.cells cells5 49 (0, 0))) := Lib.hid HKX.out
      first
        | rw [hX]
        | (have hX2 : wr.alloc (.cells #[.int .i64 0, .int .i64 (k : Int), .int .i64 q, .int .i64 0, .int .i64 0, .int .u64 0, .int .i64 0] 49) = X := hX
           rw [hX2]
           clear hX2)
      clear hX hg6 HI HKX
      have HXD : Hid (Both tp tp tr S w X.drew) := Lib.hid ⟨HX.out.p.imp fun _ h => h.heap rfl, HX.out.r.imp fun _ h => h.drew, ⟨HX.out.b.os, HX.out.b.tape, HX.out.b.output, HX.out.b.size, HX.out.b.block⟩⟩
      have hrowd : X.drew.heap[g6]? = some (.cells (opc 0 (k : Int) q 0 0 0 0) 49 (0, 0)) := HROW.out
      have HROWD := Lib.hid hrowd
      obtain ⟨b0, b1, b2, b3, b4, b5, b6⟩ := box7 hrowd
      have C18 : Hid (Calls Try.prog 18 #[.pointer (some ⟨tp, 0, none⟩), .agg (opc 0 (k : Int) q 0 0 0 0)] X.drew fun e w' => CallPost tp tp (resS S 0 (k : Int) q 0 0 0 0).1 (resS S 0 (k : Int) q 0 0 0 0).2.1 (resS S 0 (k : Int) q 0 0 0 0).2.2.1 (resS S 0 (k : Int) q 0 0 0 0).2.2.2.1 (resS S 0 (k : Int) q 0 0 0 0).2.2.2.2.1 (resS S 0 (k : Int) q 0 0 0 0).2.2.2.2.2.1 (resS S 0 (k : Int) q 0 0 0 0).2.2.2.2.2.2 (callS S 0 (k : Int) q 0 0 0 0) X.drew e w') := Lib.hid (by
        obtain ⟨L, hp⟩ := HXD.out.p
        exact call_res 0 (k : Int) q 0 0 0 0 _ hp HIN.out HOB.out)
      have C24 : Hid (∀ (Y : World) (LR : RLay), RRepL Y tr LR S → Calls Try.prog 24 #[.pointer (some ⟨tr, 0, none⟩), .agg (opc 0 (k : Int) q 0 0 0 0)] Y fun e w' => RCallPost tr (resS S 0 (k : Int) q 0 0 0 0).1 (resS S 0 (k : Int) q 0 0 0 0).2.1 (resS S 0 (k : Int) q 0 0 0 0).2.2.1 (resS S 0 (k : Int) q 0 0 0 0).2.2.2.1 (resS S 0 (k : Int) q 0 0 0 0).2.2.2.2.1 (resS S 0 (k : Int) q 0 0 0 0).2.2.2.2.2.1 (resS S 0 (k : Int) q 0 0 0 0).2.2.2.2.2.2 (callS S 0 (k : Int) q 0 0 0 0) Y e w') := Lib.hid fun Y LR hr => rcall_res 0 (k : Int) q 0 0 0 0 Y hr HIN.out HOB.out
      generalize callS S 0 (k : Int) q 0 0 0 0 = S1 at *
      obtain ⟨rs, hrs⟩ : ∃ rs, resS S 0 (k : Int) q 0 0 0 0 = rs := ⟨_, rfl⟩
      rw [hrs] at C18 C24
      clear hrs hrowd HX HROW
      obtain ⟨r0, r1, r2, r3, ⟨r40, r41, r42⟩, r5, r6⟩ := rs
      simp only at C18 C24
      unfold opc at C18 C24
      go_region_held3 (fun w' => w'.cell? ⟨g6, 0, none⟩ = some (.int .i64 0) ∧ w'.cell? ⟨g6, 1, none⟩ = some (.int .i64 (k : Int)) ∧ w'.cell? ⟨g6, 2, none⟩ = some (.int .i64 q) ∧ w'.cell? ⟨g6, 3, none⟩ = some (.int .i64 0) ∧ w'.cell? ⟨g6, 4, none⟩ = some (.int .i64 0) ∧ w'.cell? ⟨g6, 5, none⟩ = some (.int .u64 (0 : Nat)) ∧ w'.cell? ⟨g6, 6, none⟩ = some (.int .i64 0))
        (first | exact box7 HB3.out | exact box7 HB2.out | exact box7 HB1.out | exact box7 HROWD.out | go_keep)
        ((first
          | (go_at_call 18; refine C18.out.mono ?_; rintro e y1 ⟨wk1, rfl, hk1, ha1⟩; have HY1 := Lib.hid (And.intro (both_call HXD.out HTP.out ha1) hk1); have HB1 : Hid (y1.heap[g6]? = some (.cells (opc 0 (k : Int) q 0 0 0 0) 49 (0, 0))) := Lib.hid (ha1.2.oth _ _ HROWD.out (by intro e he; cases he; decide)); have HK1 : Hid (y1.heap[g5]? = some (.cells cells5 49 (0, 0))) := Lib.hid (ha1.2.oth _ _ HK.out (by intro e he; cases he; decide)); clear ha1 hk1)
          | (go_at_call 24; obtain ⟨⟨LR, hrr, hpp, hbb⟩, hk1⟩ := HY1.out; refine (C24.out _ LR hrr).mono ?_; rintro e y2 ⟨wk2, rfl, hk2, ha2⟩; have HY2 := Lib.hid (And.intro (both_rcall hrr hpp hbb HTR.out ha2) (And.intro (hk1.rgrown hrr ha2.2) hk2)); have HB2 : Hid (y2.heap[g6]? = some (.cells (opc 0 (k : Int) q 0 0 0 0) 49 (0, 0))) := Lib.hid ((ha2.2.block _ (Array.getElem?_eq_some_iff.1 HB1.out).1 (box_ne hrr HB1.out)).trans HB1.out); have HK2 : Hid (y2.heap[g5]? = some (.cells cells5 49 (0, 0))) := Lib.hid ((ha2.2.block _ (Array.getElem?_eq_some_iff.1 HK1.out).1 (box_ne hrr HK1.out)).trans HK1.out); clear ha2 hk2 hk1 hrr hpp hbb)
          | (go_at_call 23; refine (equal_calls _ _ _ _ _ _ _ _ _ _ _ _ HY2.out.2.1 HY2.out.2.2).mono ?_; rintro e y3 ⟨rfl, hb3⟩; have HY3 := Lib.hid (HY2.out.1.below hb3); have HB3 : Hid (y3.heap[g6]? = some (.cells (opc 0 (k : Int) q 0 0 0 0) 49 (0, 0))) := Lib.hid ((hb3.block _ (Array.getElem?_eq_some_iff.1 HB2.out).1).trans HB2.out); have HK3 : Hid (y3.heap[g5]? = some (.cells cells5 49 (0, 0))) := Lib.hid ((hb3.block _ (Array.getElem?_eq_some_iff.1 HK2.out).1).trans HK2.out); clear hb3)))
      go_wp2
      go_roundw
      case rel => exact ⟨k + 1, S1, by omega, by go_num, Lib.hid ⟨HY3.out, HIK.out, HK3.out⟩⟩
      case measure => simp [intOf]; omega
    · have hke : k = 5 := by omega
      have hge : ¬ ((k : Int) < 5) := by omega
      have HB5 := Lib.hid HI.out.1
      have HI5 : Hid (Inv S 5) := Lib.hid (HI.out.2.1.mono (by omega))
      clear HI
      go_wp2_with fail
      go_loopw [32] (fun i wr => ∃ k : Nat, ∃ S : St, k ≤ l.length ∧ i = .int .i64 k ∧ Hid (Both tp tp tr S w wr ∧ Inv S (5 + k))) (fun i _ => l.length - (intOf i).toNat)
      case atStart => exact ⟨0, S, Nat.zero_le _, rfl, Lib.hid ⟨HB5.out, HI5.out⟩⟩
      case round =>
        obtain ⟨k, S, hk, rfl, HI⟩ := hrel
        by_cases hlt : k < l.length
        · obtain ⟨ad, rfl, hadl, hbo, hcell⟩ := (OC.below HO.out HI.out.1.b) k hlt
          unfold okO at hbo
          unfold opT at hcell
          generalize l.getD k o0 = oo at *
          obtain ⟨ok, ot, op, os, on, ob, ov⟩ := oo
          simp only at hbo hcell
          unfold opc at hcell
          have HCELL := Lib.hid hcell
          have hlt' : (k : Int) < (l.length : Int) := by omega
          clear hcell hadl
          have HX := Lib.hid (HI.out.1.below ((Below.refl wr.heap.size wr).alloc (Nat.le_refl _) (.cells (opc ok ot op os on ob ov) 49)))
          have HROW := Lib.hid (heap_alloc_new wr (.cells (opc ok ot op os on ob ov) 49))
          have HGE : Hid (w.heap.size ≤ wr.heap.size) := Lib.hid HI.out.1.b.size
          have HIN := Lib.hid (HI.out.2.mono (show 5 + k ≤ 1000 by omega))
          have HSM := Lib.hid (fun W => small_calls ok ot op os on ob ov W)
          have HIO := Lib.hid HI.out.2
          unfold opc at HX HROW
          obtain ⟨g6, hg6⟩ : ∃ g, wr.heap.size = g := ⟨_, rfl⟩
          obtain ⟨X0, hX⟩ : ∃ X, wr.alloc (.cells #[.int .i64 ok, .int .i64 ot, .int .i64 op, .int .i64 os, .int .i64 on, .int .u64 ob, .int .i64 ov] 49) = X := ⟨_, rfl⟩
          have HOB := Lib.hid hbo
          rw [hX] at HX HROW
          rw [hg6] at HROW HGE
          obtain ⟨x0, x1, x2, x3, x4, x5, x6⟩ := box7 (k := ok) (th := ot) (p := op) (s := os) (n := on) (b := ob) (v := ov) HROW.out
          clear HI hbo
          go_wp2_with (first
            | ((with_reducible change wpList _ _ _ (⟨_, .load 49 (.tmp 34), _, _, _, _⟩ :: _) _ _); go_loud (refine wpList_load_cells (by rfl) 49 (.tmp 34) rfl (ad.add (k * 7)) rfl #[.int .i64 ok, .int .i64 ot, .int .i64 op, .int .i64 os, .int .i64 on, .int .u64 ob, .int .i64 ov] _ HCELL.out Try.underlying49 rfl (n := 7) (by kernel_rfl) rfl ?_)))
          refine (HSM.out X0).mono ?_
          rintro e y0 ⟨⟨K, T, Q, G, N, V, rfl, -, -⟩, hb0⟩
          have HX0 := Lib.hid (HX.out.below hb0)
          have hrow0 := (hb0.block _ (Array.getElem?_eq_some_iff.1 HROW.out).1).trans HROW.out
          obtain ⟨b0, b1, b2, b3, b4, b5, b6⟩ := box7 (k := ok) (th := ot) (p := op) (s := os) (n := on) (b := ob) (v := ov) hrow0
          have z0 := frozen_of_cells hrow0 0
          have z1 := frozen_of_cells hrow0 1
          have z2 := frozen_of_cells hrow0 2
          have z3 := frozen_of_cells hrow0 3
          have z4 := frozen_of_cells hrow0 4
          have z5 := frozen_of_cells hrow0 5
          have z6 := frozen_of_cells hrow0 6
          have HN := Lib.hid (HX0.out.box7 hrow0 HGE.out (.int .i64 K) (.int .i64 T) (.int .i64 Q) (.int .i64 G) (.int .i64 N) (.int .u64 (ob : Int)) (.int .i64 V))
          clear hb0 hrow0 HX HROW HX0 x0 x1 x2 x3 x4 x5 x6
          unfold opc
          go_wp2_with fail
          have HX := Lib.hid HN.out.1
          have HROW := Lib.hid HN.out.2
          have HIN2 := Lib.hid ((HIO.out.callS K T Q G N ob V).mono (show 5 + k + 1 ≤ 1000 by omega))
          have HIK := Lib.hid (HIO.out.callS K T Q G N ob V)
          clear HN b0 b1 b2 b3 b4 b5 b6 z0 z1 z2 z3 z4 z5 z6
          generalize ((((((y0.setCell ⟨g6, 0, none⟩ (.int .i64 K)).setCell ⟨g6, 1, none⟩ (.int .i64 T)).setCell ⟨g6, 2, none⟩ (.int .i64 Q)).setCell ⟨g6, 3, none⟩ (.int .i64 G)).setCell ⟨g6, 4, none⟩ (.int .i64 N)).setCell ⟨g6, 5, none⟩ (.int .u64 (ob : Int))).setCell ⟨g6, 6, none⟩ (.int .i64 V) = X at *
          clear hX hg6
          have HXD : Hid (Both tp tp tr S w X.drew) := Lib.hid ⟨HX.out.p.imp fun _ h => h.heap rfl, HX.out.r.imp fun _ h => h.drew, ⟨HX.out.b.os, HX.out.b.tape, HX.out.b.output, HX.out.b.size, HX.out.b.block⟩⟩
          have hrowd : X.drew.heap[g6]? = some (.cells (opc K T Q G N ob V) 49 (0, 0)) := HROW.out
          have HROWD := Lib.hid hrowd
          obtain ⟨b0, b1, b2, b3, b4, b5, b6⟩ := box7 hrowd
          have C18 : Hid (Calls Try.prog 18 #[.pointer (some ⟨tp, 0, none⟩), .agg (opc K T Q G N ob V)] X.drew fun e w' => CallPost tp tp (resS S K T Q G N ob V).1 (resS S K T Q G N ob V).2.1 (resS S K T Q G N ob V).2.2.1 (resS S K T Q G N ob V).2.2.2.1 (resS S K T Q G N ob V).2.2.2.2.1 (resS S K T Q G N ob V).2.2.2.2.2.1 (resS S K T Q G N ob V).2.2.2.2.2.2 (callS S K T Q G N ob V) X.drew e w') := Lib.hid (by
            obtain ⟨L, hp⟩ := HXD.out.p
            exact call_res K T Q G N ob V _ hp HIN.out HOB.out)
          have C24 : Hid (∀ (Y : World) (LR : RLay), RRepL Y tr LR S → Calls Try.prog 24 #[.pointer (some ⟨tr, 0, none⟩), .agg (opc K T Q G N ob V)] Y fun e w' => RCallPost tr (resS S K T Q G N ob V).1 (resS S K T Q G N ob V).2.1 (resS S K T Q G N ob V).2.2.1 (resS S K T Q G N ob V).2.2.2.1 (resS S K T Q G N ob V).2.2.2.2.1 (resS S K T Q G N ob V).2.2.2.2.2.1 (resS S K T Q G N ob V).2.2.2.2.2.2 (callS S K T Q G N ob V) Y e w') := Lib.hid fun Y LR hr => rcall_res K T Q G N ob V Y hr HIN.out HOB.out
          generalize callS S K T Q G N ob V = S1 at *
          obtain ⟨rs, hrs⟩ : ∃ rs, resS S K T Q G N ob V = rs := ⟨_, rfl⟩
          rw [hrs] at C18 C24
          clear hrs hrowd HX HROW
          obtain ⟨r0, r1, r2, r3, ⟨r40, r41, r42⟩, r5, r6⟩ := rs
          simp only at C18 C24
          unfold opc at C18 C24
          go_region_held3 (fun w' => w'.cell? ⟨g6, 0, none⟩ = some (.int .i64 K) ∧ w'.cell? ⟨g6, 1, none⟩ = some (.int .i64 T) ∧ w'.cell? ⟨g6, 2, none⟩ = some (.int .i64 Q) ∧ w'.cell? ⟨g6, 3, none⟩ = some (.int .i64 G) ∧ w'.cell? ⟨g6, 4, none⟩ = some (.int .i64 N) ∧ w'.cell? ⟨g6, 5, none⟩ = some (.int .u64 (ob : Nat)) ∧ w'.cell? ⟨g6, 6, none⟩ = some (.int .i64 V))
            (first | exact box7 HB4.out | exact box7 HB3.out | exact box7 HB2.out | exact box7 HB1.out | exact box7 HROWD.out | go_keep)
            ((first
              | (go_at_call 18; refine C18.out.mono ?_; rintro e y1 ⟨wk1, rfl, hk1, ha1⟩; have HY1 := Lib.hid (And.intro (both_call HXD.out HTP.out ha1) hk1); have HB1 : Hid (y1.heap[g6]? = some (.cells (opc K T Q G N ob V) 49 (0, 0))) := Lib.hid (ha1.2.oth _ _ HROWD.out (by intro e he; cases he; decide)); clear ha1 hk1)
              | (go_at_call 24; obtain ⟨⟨LR, hrr, hpp, hbb⟩, hk1⟩ := HY1.out; refine (C24.out _ LR hrr).mono ?_; rintro e y2 ⟨wk2, rfl, hk2, ha2⟩; have HY2 := Lib.hid (And.intro (both_rcall hrr hpp hbb HTR.out ha2) (And.intro (hk1.rgrown hrr ha2.2) hk2)); have HB2 : Hid (y2.heap[g6]? = some (.cells (opc K T Q G N ob V) 49 (0, 0))) := Lib.hid ((ha2.2.block _ (Array.getElem?_eq_some_iff.1 HB1.out).1 (box_ne hrr HB1.out)).trans HB1.out); clear ha2 hk2 hk1 hrr hpp hbb)
              | (go_at_call 23; refine (equal_calls _ _ _ _ _ _ _ _ _ _ _ _ HY2.out.2.1 HY2.out.2.2).mono ?_; rintro e y3 ⟨rfl, hb3⟩; have HY3 := Lib.hid (HY2.out.1.below hb3); have HB3 : Hid (y3.heap[g6]? = some (.cells (opc K T Q G N ob V) 49 (0, 0))) := Lib.hid ((hb3.block _ (Array.getElem?_eq_some_iff.1 HB2.out).1).trans HB2.out); clear hb3)
              | (go_at_call 25; refine (seen_both HY3.out HIN2.out).mono ?_; rintro e y4 ⟨rfl, hb4⟩; have HY4 := Lib.hid (HY3.out.below hb4); have HB4 : Hid (y4.heap[g6]? = some (.cells (opc K T Q G N ob V) 49 (0, 0))) := Lib.hid ((hb4.block _ (Array.getElem?_eq_some_iff.1 HB3.out).1).trans HB3.out); clear hb4)))
          go_wp2
          go_roundw
          case rel => exact ⟨k + 1, S1, by omega, by go_num, Lib.hid ⟨HY4.out, HIK.out⟩⟩
          case measure => simp [intOf]; omega
        · obtain rfl : k = l.length := by omega
          have hge : ¬ ((l.length : Int) < (l.length : Int)) := by omega
          have HBL := Lib.hid HI.out.1.b
          go_wp2_with fail
          refine (awake_calls _).mono ?_
          rintro e wz ⟨rfl, hb⟩
          have HZ := Lib.hid (below_then' HBL.out hb)
          clear hb
          go_wp2
          go_ret
          exact ⟨rfl, HZ.out⟩
theorem talks_big (A : Option Addr) (cap : Nat) (l : List OpT) (w : World) (h80 : ¬ l.length ≤ 80) :
    Calls Try.prog 8 #[.slice A l.length cap] w fun e w' => e = .returned (.bool true) ∧ Below w.heap.size w w' := by
  have hng : (80 : Int) < (l.length : Int) := by omega
  go_enter Try.func8, Try.ntmps8
  go_wp2_with fail
  refine (awake_calls _).mono ?_
  rintro e wz ⟨rfl, hb⟩
  have HZ := Lib.hid hb
  clear hb
  go_wp2
  go_ret
  exact ⟨rfl, HZ.out⟩
theorem talks_row (A : Option Addr) (cap : Nat) (l : List OpT) (w : World) (hl : OC w A l) (_ : l.length ≤ 140737488351232) :
    Calls Try.prog 8 #[.slice A l.length cap] w fun e w' => e = .returned (.bool true) ∧ Below w.heap.size w w' := by
  by_cases h : l.length ≤ 80
  · exact talks_law A cap l w hl h
  · exact talks_big A cap l w h
end Go.Proofs.Ytbpihfphoniclaa
