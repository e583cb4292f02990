/- AbilitiesRuns (6): the whole law, for any list of acts. -/
import Derived.Test.YthccppldpfddjaaDoorqW
import Derived.Test.YthccppldpfddjaaDoorStp
namespace Go.Proofs.YthccppldpfddjaaDoor
open Go.RowKit
set_option linter.unusedVariables false
def denyOp : OpA := ⟨1, 1, 3, 0, 5⟩
theorem VR.copied {w : World} {b c cb : Nat} {S S0 : St} {W W' : World} {lv : Nat → Value} (h : VR w b c S W) (hc : RArr 64 77 43 W cb lv S0) (hne : b ≠ cb) (hge : w.heap.size ≤ cb) (hg : W.grownBy W' (some cb)) : VR w b c S W' := by
  obtain ⟨l1, h1⟩ := h.s
  obtain ⟨l2, h2⟩ := h.r
  obtain ⟨cs, hc', -, -⟩ := hc.tab
  obtain ⟨ds, hd, -, -⟩ := h2.tab
  exact ⟨h.bel.grown hg h.bel.size (fun k hk => by cases hk; exact hge), ⟨_, h1.other hc' (Ne.symm hne) (by decide) fun k hk hne => hg.block k hk (by simpa using hne)⟩, ⟨_, h2.other hc' (rheap_ne hc' hd (by decide)) (by decide) fun k hk hne => hg.block k hk (by simpa using hne)⟩, h.ok, h.ge⟩
set_option maxHeartbeats 64000000 in
set_option maxRecDepth 100000 in
theorem runs_law (l : List ActR) (v : Value) (w : World) (hv : ActsR w v l) (hr : ∀ o ∈ l, 0 ≤ o.dk ∧ o.dk < 256) (hA : AwAt w) : Calls Tryd.prog 6 #[v] w fun e w' => e = .returned (.bool true) ∧ Below w.heap.size w w' := by
  obtain ⟨A, cap, rfl, -⟩ := id hv
  by_cases hlen : 20 < l.length
  · have hl : (20 : Int) < (l.length : Int) := by omega
    have HA := Lib.hid hA
    clear hv hlen hA hr
    go_enter Tryd.func6, Tryd.ntmps6
    go_wp2_with (go_at_call 9; refine (awake_calls _ HA.out).mono ?_; rintro e w1 ⟨rfl, h1⟩; have H1 := Lib.hid h1; clear h1)
    go_ret
    exact ⟨rfl, H1.out⟩
  have hl : (l.length : Int) ≤ 20 := by omega
  have HA := Lib.hid (And.intro hv (And.intro hA hr))
  clear hv hA hlen hr
  go_enter Tryd.func6, Tryd.ntmps6
  go_wp2_with (first
    | (go_at_call 10; refine (new_calls w).mono ?_; rintro e w1 ⟨rfl, h1, h2⟩; have H1 := Lib.hid (And.intro h1 h2); clear h1 h2)
    | (go_at_call 16; refine (rnew_calls w1).mono ?_; rintro e w2 ⟨rfl, h1, h2⟩; have H2 := Lib.hid (And.intro h1 h2); clear h1 h2))
  have HJ0 := Lib.hid (show VR w w.heap.size w1.heap.size St0 w2 from ⟨H1.out.2.trans (H2.out.2.mono H1.out.2.size), H1.out.1.imp fun _ h => h.below H2.out.2, H2.out.1, St0_ok, Nat.le_refl _, H1.out.2.size⟩)
  clear H1 H2
  go_loopw [20, 3, 4] (fun i x y wr => ∃ (k b c : Nat) (S : St), k ≤ l.length ∧ i = .int .i64 k ∧ x = .pointer (some ⟨b, 0, none⟩) ∧ y = .pointer (some ⟨c, 0, none⟩) ∧ Hid (VR w b c S wr)) (fun i _ _ _ => l.length - (intOf i).toNat)
  case atStart => exact ⟨0, _, _, _, by omega, rfl, rfl, rfl, HJ0⟩
  case round =>
    clear HJ0
    obtain ⟨k, b, c, S, hk, rfl, rfl, rfl, HJ⟩ := hrel
    by_cases hlt : k < l.length
    · have hlt' : (k : Int) < (l.length : Int) := by omega
      obtain ⟨g, go, A2, c2, rfl, hops, q0, q1, q2, q3, q4⟩ := ActsR.at HA.out.1 HJ.out.bel rfl hlt
      have hkr := HA.out.2.2 _ (List.getElem_mem hlt)
      have HO := Lib.hid hops
      clear hops
      generalize l[k] = o at *
      obtain ⟨dk, ops, dom, ab, val⟩ := o
      simp only at q0 q1 q2 q3 q4 hkr HO
      by_cases h210 : 210 < ops.length
      · have h210' : (210 : Int) < (ops.length : Int) := by omega
        go_wp2_with (go_at_call 9; refine (awake_calls _ (HA.out.2.1.below (HJ.out.bel.alloc HJ.out.bel.size _))).mono ?_; rintro e w9 ⟨rfl, h1⟩; have H9 := Lib.hid ((HJ.out.bel.alloc HJ.out.bel.size (.cells #[.int .u8 dk, .slice A2 ops.length c2, .int .i64 dom, .int .i64 ab, .int .i64 val] 53)).trans (h1.mono (HJ.out.bel.alloc HJ.out.bel.size (.cells #[.int .u8 dk, .slice A2 ops.length c2, .int .i64 dom, .int .i64 ab, .int .i64 val] 53)).size)); clear h1)
        go_ret
        exact ⟨rfl, H9.out⟩
      have h210' : (ops.length : Int) ≤ 210 := by omega
      have HLO := Lib.hid (show ops.length ≤ 210 by omega)
      have HJ1 := Lib.hid (HJ.out.below ((Below.refl wr.heap.size wr).alloc (Nat.le_refl _) (.cells #[.int .u8 dk, .slice A2 ops.length c2, .int .i64 dom, .int .i64 ab, .int .i64 val] 53)))
      have HX1 := Lib.hid (heap_alloc_new wr (.cells #[.int .u8 dk, .slice A2 ops.length c2, .int .i64 dom, .int .i64 ab, .int .i64 val] 53))
      clear h210
      by_cases h0 : dk % 4 = 0
      · skip
        have hk0 : (dk % 4 == 0) = true := by simp; omega
        have hk1 : (dk % 4 == 1) = false := by simp; omega
        have hk2 : (dk % 4 == 2) = false := by simp; omega
        clear h0
        have ecc : (applyC S ops == applyC S ops) = true := by simp
        go_wp2
        generalize hW3 : wr.alloc (.cells #[.int .u8 dk, .slice A2 ops.length c2, .int .i64 dom, .int .i64 ab, .int .i64 val] 53) = W3 at *
        have hx6 := HX1.out
        have HF := Lib.hid (show ∀ w' : World, w'.heap[wr.heap.size]? = W3.heap[wr.heap.size]? → _ from fun w' hw => five_cells (hw.trans hx6))
        clear hx6 hW3 q0 q1 q2 q3 q4
        apply Ends.splitV (F := fun v w' => VR w b c (applyS S ops) w')
        case walk =>
          refine wp_region_steps 9 [(true, 0), (true, 1), (true, 2), (true, 5), (true, 6), (true, 7), (false, 3), (false, 4), (false, 8)] (fun w' => w'.heap[wr.heap.size]? = W3.heap[wr.heap.size]?) (by rfl) (by kernel_rfl) (fun _ _ _ _ _ h => h) rfl ?_
          refine steps_head rfl (.pointer (some ⟨b, 0, none⟩)) (.inl ⟨rfl, fun w' hw => ?_⟩) ?_
          focus
            obtain ⟨z0, z1, z2, z3, z4⟩ := HF.out w' hw
            show (execOp _ _).run Tryd.prog w' = _
            go_simp
          try simp only [Act.put, List.setIfInBounds_toArray, List.set_cons_zero, List.set_cons_succ]
          refine steps_head rfl (.pointer (some ⟨wr.heap.size, 1, none⟩)) (.inl ⟨rfl, fun w' hw => ?_⟩) ?_
          focus
            obtain ⟨z0, z1, z2, z3, z4⟩ := HF.out w' hw
            show (execOp _ _).run Tryd.prog w' = _
            go_simp
          try simp only [Act.put, List.setIfInBounds_toArray, List.set_cons_zero, List.set_cons_succ]
          refine steps_head rfl (.slice A2 ops.length c2) (.inl ⟨rfl, fun w' hw => ?_⟩) ?_
          focus
            obtain ⟨z0, z1, z2, z3, z4⟩ := HF.out w' hw
            show (execOp _ _).run Tryd.prog w' = _
            go_simp
          try simp only [Act.put, List.setIfInBounds_toArray, List.set_cons_zero, List.set_cons_succ]
          refine steps_head rfl (.pointer (some ⟨c, 0, none⟩)) (.inl ⟨rfl, fun w' hw => ?_⟩) ?_
          focus
            obtain ⟨z0, z1, z2, z3, z4⟩ := HF.out w' hw
            show (execOp _ _).run Tryd.prog w' = _
            go_simp
          try simp only [Act.put, List.setIfInBounds_toArray, List.set_cons_zero, List.set_cons_succ]
          refine steps_head rfl (.pointer (some ⟨wr.heap.size, 1, none⟩)) (.inl ⟨rfl, fun w' hw => ?_⟩) ?_
          focus
            obtain ⟨z0, z1, z2, z3, z4⟩ := HF.out w' hw
            show (execOp _ _).run Tryd.prog w' = _
            go_simp
          try simp only [Act.put, List.setIfInBounds_toArray, List.set_cons_zero, List.set_cons_succ]
          refine steps_head rfl (.slice A2 ops.length c2) (.inl ⟨rfl, fun w' hw => ?_⟩) ?_
          focus
            obtain ⟨z0, z1, z2, z3, z4⟩ := HF.out w' hw
            show (execOp _ _).run Tryd.prog w' = _
            go_simp
          try simp only [Act.put, List.setIfInBounds_toArray, List.set_cons_zero, List.set_cons_succ]
          refine steps_mid rfl fun K hK => ?_
          refine if_wanted rfl (step_call 12 _ _ rfl (fun _ _ => rfl) [.slice A2 ops.length c2] rfl (ops_calls _ ops W3.drew (HO.out.below (HJ1.out.bel.drew)) (by have := HLO.out; omega)) ?_)
          rintro e w5 ⟨v5, rfl, h1, h2⟩
          obtain ⟨A5, c5, rfl, -, -, -, -⟩ := Rw.form h1
          have hk5 : w5.heap[wr.heap.size]? = W3.heap[wr.heap.size]? := h2.block _ (Array.getElem?_eq_some_iff.1 HX1.out).1
          refine ⟨_, rfl, hK _ _ hk5 ?_⟩
          clear hK K
          have H5 := Lib.hid (And.intro h1 (And.intro (HJ1.out.below ((Below.drew (Below.refl _ _)).trans h2)) hk5))
          clear h1 h2 hk5
          try simp only [Act.put, List.setIfInBounds_toArray, List.set_cons_zero, List.set_cons_succ]
          refine steps_mid rfl fun K hK => ?_
          obtain ⟨lva, hra⟩ := H5.out.2.1.s
          refine if_wanted rfl (step_call 11 _ _ rfl (fun _ _ => rfl) [.pointer (some ⟨b, 0, none⟩), .slice A5 ops.length c5] rfl (set_apply_calls b lva S _ ops w5 (HA.out.2.1.below H5.out.2.1.bel).eff hra HJ1.out.ok H5.out.1) ?_)
          rintro e w6 ⟨rfl, lv6, h1, h2⟩
          obtain ⟨cs6, hc6, -, -⟩ := hra.tab
          have hk6 : w6.heap[wr.heap.size]? = W3.heap[wr.heap.size]? := (keep_other hc6 (H5.out.2.2.trans HX1.out) (by decide) h2).trans H5.out.2.2
          refine ⟨_, rfl, hK _ _ hk6 ?_⟩
          clear hK K
          have H6 := Lib.hid (And.intro (VR.half H5.out.2.1 h1 h2) hk6)
          clear h1 h2 hk6 hc6 hra
          try simp only [Act.put, List.setIfInBounds_toArray, List.set_cons_zero, List.set_cons_succ]
          refine steps_mid rfl fun K hK => ?_
          obtain ⟨lva, hra⟩ := H6.out.1.r
          refine if_wanted rfl (step_call 17 _ _ rfl (fun _ _ => rfl) [.pointer (some ⟨c, 0, none⟩), .slice A2 ops.length c2] rfl (rapply_calls c lva S _ ops w6 hra HJ1.out.ok (HO.out.below H6.out.1.bel)) ?_)
          rintro e w7 ⟨rfl, lv7, h1, h2⟩
          obtain ⟨cs7, hc7, -, -⟩ := hra.tab
          have hk7 : w7.heap[wr.heap.size]? = W3.heap[wr.heap.size]? := (keep_other hc7 (H6.out.2.trans HX1.out) (by decide) h2).trans H6.out.2
          refine ⟨_, rfl, hK _ _ hk7 ?_⟩
          clear hK K
          have H7 := Lib.hid (VH.whole H6.out.1 (applyS_ok ops HJ1.out.ok) h1 h2)
          clear h1 h2 hk7 hc7 hra
          try simp only [Act.put, List.setIfInBounds_toArray, List.set_cons_zero, List.set_cons_succ]
          refine steps_nil ?_
          go_wp2
          generalize Value.slice A5 ops.length c5 = V5
          apply Ends.mk
          exact ⟨V5, rfl, H7.out⟩
        case imp =>
          intro V5 w7 h7
          have HJ7 := Lib.hid h7
          clear h7 HF HX1 HJ1
          obtain ⟨lva, hra⟩ := HJ7.out.s
          obtain ⟨lvb, hrb⟩ := HJ7.out.r
          have HAl := Lib.hid (alike_calls b c lva lvb (applyS S ops) w7 hra hrb HJ7.out.ok)
          clear hra hrb
          go_wp2_with (go_at_call 24; refine HAl.out.mono ?_; rintro e w8 ⟨rfl, h1⟩; have H8 := Lib.hid (HJ7.out.below h1); clear h1)
          go_roundw
          case rel => exact ⟨k + 1, b, c, _, by omega, by go_num, rfl, rfl, H8⟩
          case measure => simp [intOf]; omega
      by_cases h1 : dk % 4 = 1
      · skip
        have hk0 : (dk % 4 == 0) = false := by simp; omega
        have hk1 : (dk % 4 == 1) = true := by simp; omega
        have hk2 : (dk % 4 == 2) = false := by simp; omega
        clear h0 h1
        have ecc : (applyC S ops == applyC S ops) = true := by simp
        go_wp2
        generalize hW3 : wr.alloc (.cells #[.int .u8 dk, .slice A2 ops.length c2, .int .i64 dom, .int .i64 ab, .int .i64 val] 53) = W3 at *
        have hx6 := HX1.out
        have HF := Lib.hid (show ∀ w' : World, w'.heap[wr.heap.size]? = W3.heap[wr.heap.size]? → _ from fun w' hw => five_cells (hw.trans hx6))
        clear hx6 hW3 q0 q1 q2 q3 q4
        apply Ends.splitV (F := fun v w' => VR w b c (applyS S ops) w')
        case walk =>
          refine wp_region_steps 9 [(true, 0), (true, 1), (true, 2), (true, 5), (true, 6), (true, 7), (false, 3), (false, 4), (false, 8)] (fun w' => w'.heap[wr.heap.size]? = W3.heap[wr.heap.size]?) (by rfl) (by kernel_rfl) (fun _ _ _ _ _ h => h) rfl ?_
          refine steps_head rfl (.pointer (some ⟨b, 0, none⟩)) (.inl ⟨rfl, fun w' hw => ?_⟩) ?_
          focus
            obtain ⟨z0, z1, z2, z3, z4⟩ := HF.out w' hw
            show (execOp _ _).run Tryd.prog w' = _
            go_simp
          try simp only [Act.put, List.setIfInBounds_toArray, List.set_cons_zero, List.set_cons_succ]
          refine steps_head rfl (.pointer (some ⟨wr.heap.size, 1, none⟩)) (.inl ⟨rfl, fun w' hw => ?_⟩) ?_
          focus
            obtain ⟨z0, z1, z2, z3, z4⟩ := HF.out w' hw
            show (execOp _ _).run Tryd.prog w' = _
            go_simp
          try simp only [Act.put, List.setIfInBounds_toArray, List.set_cons_zero, List.set_cons_succ]
          refine steps_head rfl (.slice A2 ops.length c2) (.inl ⟨rfl, fun w' hw => ?_⟩) ?_
          focus
            obtain ⟨z0, z1, z2, z3, z4⟩ := HF.out w' hw
            show (execOp _ _).run Tryd.prog w' = _
            go_simp
          try simp only [Act.put, List.setIfInBounds_toArray, List.set_cons_zero, List.set_cons_succ]
          refine steps_head rfl (.pointer (some ⟨c, 0, none⟩)) (.inl ⟨rfl, fun w' hw => ?_⟩) ?_
          focus
            obtain ⟨z0, z1, z2, z3, z4⟩ := HF.out w' hw
            show (execOp _ _).run Tryd.prog w' = _
            go_simp
          try simp only [Act.put, List.setIfInBounds_toArray, List.set_cons_zero, List.set_cons_succ]
          refine steps_head rfl (.pointer (some ⟨wr.heap.size, 1, none⟩)) (.inl ⟨rfl, fun w' hw => ?_⟩) ?_
          focus
            obtain ⟨z0, z1, z2, z3, z4⟩ := HF.out w' hw
            show (execOp _ _).run Tryd.prog w' = _
            go_simp
          try simp only [Act.put, List.setIfInBounds_toArray, List.set_cons_zero, List.set_cons_succ]
          refine steps_head rfl (.slice A2 ops.length c2) (.inl ⟨rfl, fun w' hw => ?_⟩) ?_
          focus
            obtain ⟨z0, z1, z2, z3, z4⟩ := HF.out w' hw
            show (execOp _ _).run Tryd.prog w' = _
            go_simp
          try simp only [Act.put, List.setIfInBounds_toArray, List.set_cons_zero, List.set_cons_succ]
          refine steps_mid rfl fun K hK => ?_
          refine if_wanted rfl (step_call 12 _ _ rfl (fun _ _ => rfl) [.slice A2 ops.length c2] rfl (ops_calls _ ops W3.drew (HO.out.below (HJ1.out.bel.drew)) (by have := HLO.out; omega)) ?_)
          rintro e w5 ⟨v5, rfl, h1, h2⟩
          obtain ⟨A5, c5, rfl, -, -, -, -⟩ := Rw.form h1
          have hk5 : w5.heap[wr.heap.size]? = W3.heap[wr.heap.size]? := h2.block _ (Array.getElem?_eq_some_iff.1 HX1.out).1
          refine ⟨_, rfl, hK _ _ hk5 ?_⟩
          clear hK K
          have H5 := Lib.hid (And.intro h1 (And.intro (HJ1.out.below ((Below.drew (Below.refl _ _)).trans h2)) hk5))
          clear h1 h2 hk5
          try simp only [Act.put, List.setIfInBounds_toArray, List.set_cons_zero, List.set_cons_succ]
          refine steps_mid rfl fun K hK => ?_
          obtain ⟨lva, hra⟩ := H5.out.2.1.s
          refine if_wanted rfl (step_call 11 _ _ rfl (fun _ _ => rfl) [.pointer (some ⟨b, 0, none⟩), .slice A5 ops.length c5] rfl (set_apply_calls b lva S _ ops w5 (HA.out.2.1.below H5.out.2.1.bel).eff hra HJ1.out.ok H5.out.1) ?_)
          rintro e w6 ⟨rfl, lv6, h1, h2⟩
          obtain ⟨cs6, hc6, -, -⟩ := hra.tab
          have hk6 : w6.heap[wr.heap.size]? = W3.heap[wr.heap.size]? := (keep_other hc6 (H5.out.2.2.trans HX1.out) (by decide) h2).trans H5.out.2.2
          refine ⟨_, rfl, hK _ _ hk6 ?_⟩
          clear hK K
          have H6 := Lib.hid (And.intro (VR.half H5.out.2.1 h1 h2) hk6)
          clear h1 h2 hk6 hc6 hra
          try simp only [Act.put, List.setIfInBounds_toArray, List.set_cons_zero, List.set_cons_succ]
          refine steps_mid rfl fun K hK => ?_
          obtain ⟨lva, hra⟩ := H6.out.1.r
          refine if_wanted rfl (step_call 17 _ _ rfl (fun _ _ => rfl) [.pointer (some ⟨c, 0, none⟩), .slice A2 ops.length c2] rfl (rapply_calls c lva S _ ops w6 hra HJ1.out.ok (HO.out.below H6.out.1.bel)) ?_)
          rintro e w7 ⟨rfl, lv7, h1, h2⟩
          obtain ⟨cs7, hc7, -, -⟩ := hra.tab
          have hk7 : w7.heap[wr.heap.size]? = W3.heap[wr.heap.size]? := (keep_other hc7 (H6.out.2.trans HX1.out) (by decide) h2).trans H6.out.2
          refine ⟨_, rfl, hK _ _ hk7 ?_⟩
          clear hK K
          have H7 := Lib.hid (VH.whole H6.out.1 (applyS_ok ops HJ1.out.ok) h1 h2)
          clear h1 h2 hk7 hc7 hra
          try simp only [Act.put, List.setIfInBounds_toArray, List.set_cons_zero, List.set_cons_succ]
          refine steps_nil ?_
          go_wp2
          generalize Value.slice A5 ops.length c5 = V5
          apply Ends.mk
          exact ⟨V5, rfl, H7.out⟩
        case imp =>
          intro V5 w7 h7
          have HJ7 := Lib.hid h7
          clear h7 HF HX1 HJ1
          obtain ⟨lva, hra⟩ := HJ7.out.s
          obtain ⟨lvb, hrb⟩ := HJ7.out.r
          have HAl := Lib.hid (alike_calls b c lva lvb (applyS S ops) w7 hra hrb HJ7.out.ok)
          clear hra hrb
          go_wp2_with (go_at_call 24; refine HAl.out.mono ?_; rintro e w8 ⟨rfl, h1⟩; have H8 := Lib.hid (HJ7.out.below h1); clear h1)
          go_roundw
          case rel => exact ⟨k + 1, b, c, _, by omega, by go_num, rfl, rfl, H8⟩
          case measure => simp [intOf]; omega
      by_cases h2 : dk % 4 = 2
      · skip
        have hk0 : (dk % 4 == 0) = false := by simp; omega
        have hk1 : (dk % 4 == 1) = false := by simp; omega
        have hk2 : (dk % 4 == 2) = true := by simp; omega
        clear h0 h1 h2
        have HRA := Lib.hid (fun W (hW : VR w b c S W) => right_any b dom ab hW.s.choose S W hW.s.choose_spec hW.ok)
        by_cases hd0 : dom < 0
        · skip
          have hvv : ¬ (0 ≤ dom ∧ dom ≤ 1 ∧ 0 ≤ ab ∧ ab < 32) := by omega
          have HVV := Lib.hid hvv
          have HRB := Lib.hid (fun W (hW : VR w b c S W) => by have h9 := HRA.out W hW; rw [if_neg HVV.out] at h9; exact h9)
          clear hvv HRA
          have eaa : (allowB S dom ab val == allowB S dom ab val) = true := by simp
          go_wp2_with (go_at_call 14; refine (HRB.out _ HJ1.out).mono ?_; rintro e w4 ⟨A4, n4, c4, lk4, inh4, rfl, h1⟩; have hb4 := h1.alloc h1.size (.cells #[.slice A4 n4 c4, .bool lk4, .bool inh4] 38); have HJ4 := Lib.hid (And.intro (HJ1.out.below hb4) ((hb4.block _ (Array.getElem?_eq_some_iff.1 HX1.out).1).trans HX1.out)); obtain ⟨z0, z1, z2, z3, z4⟩ := five_cells HJ4.out.2; clear h1 hb4)
          generalize w4.alloc (.cells #[.slice A4 n4 c4, .bool lk4, .bool inh4] 38) = W5 at *
          have hx6 := HJ4.out.2
          have HF := Lib.hid (show ∀ w' : World, w'.heap[wr.heap.size]? = W5.heap[wr.heap.size]? → _ from fun w' hw => five_cells (hw.trans hx6))
          clear hx6 z0 z1 z2 z3 z4 q0 q1 q2 q3 q4
          apply Ends.const (F := fun w' => VR w b c S w')
          case walk =>
            refine wp_region_steps 30 [(true, 0), (true, 1), (true, 2), (true, 3), (true, 4), (true, 5), (true, 6), (true, 8), (true, 9), (true, 10), (true, 11), (true, 12), (true, 13), (true, 14), (false, 7), (false, 15), (true, 16), (true, 17), (true, 18), (true, 20), (true, 19), (true, 21), (true, 22), (true, 23), (true, 24), (true, 25), (true, 26), (true, 27), (true, 28), (true, 29)] (fun w' => w'.heap[wr.heap.size]? = W5.heap[wr.heap.size]?) (by rfl) (by kernel_rfl) (fun _ _ _ _ _ h => h) rfl ?_
            refine steps_head rfl (.pointer (some ⟨b, 0, none⟩)) (.inl ⟨rfl, fun w' hw => ?_⟩) ?_
            focus
              obtain ⟨z0, z1, z2, z3, z4⟩ := HF.out w' hw
              show (execOp _ _).run Tryd.prog w' = _
              go_simp
            try simp only [Act.put, List.setIfInBounds_toArray, List.set_cons_zero, List.set_cons_succ]
            refine steps_head rfl (.pointer (some ⟨wr.heap.size, 2, none⟩)) (.inl ⟨rfl, fun w' hw => ?_⟩) ?_
            focus
              obtain ⟨z0, z1, z2, z3, z4⟩ := HF.out w' hw
              show (execOp _ _).run Tryd.prog w' = _
              go_simp
            try simp only [Act.put, List.setIfInBounds_toArray, List.set_cons_zero, List.set_cons_succ]
            refine steps_head rfl (.int .i64 dom) (.inl ⟨rfl, fun w' hw => ?_⟩) ?_
            focus
              obtain ⟨z0, z1, z2, z3, z4⟩ := HF.out w' hw
              show (execOp _ _).run Tryd.prog w' = _
              go_simp
            try simp only [Act.put, List.setIfInBounds_toArray, List.set_cons_zero, List.set_cons_succ]
            refine steps_head rfl (.pointer (some ⟨wr.heap.size, 3, none⟩)) (.inl ⟨rfl, fun w' hw => ?_⟩) ?_
            focus
              obtain ⟨z0, z1, z2, z3, z4⟩ := HF.out w' hw
              show (execOp _ _).run Tryd.prog w' = _
              go_simp
            try simp only [Act.put, List.setIfInBounds_toArray, List.set_cons_zero, List.set_cons_succ]
            refine steps_head rfl (.int .i64 ab) (.inl ⟨rfl, fun w' hw => ?_⟩) ?_
            focus
              obtain ⟨z0, z1, z2, z3, z4⟩ := HF.out w' hw
              show (execOp _ _).run Tryd.prog w' = _
              go_simp
            try simp only [Act.put, List.setIfInBounds_toArray, List.set_cons_zero, List.set_cons_succ]
            refine steps_head rfl (.pointer (some ⟨wr.heap.size, 4, none⟩)) (.inl ⟨rfl, fun w' hw => ?_⟩) ?_
            focus
              obtain ⟨z0, z1, z2, z3, z4⟩ := HF.out w' hw
              show (execOp _ _).run Tryd.prog w' = _
              go_simp
            try simp only [Act.put, List.setIfInBounds_toArray, List.set_cons_zero, List.set_cons_succ]
            refine steps_head rfl (.int .i64 val) (.inl ⟨rfl, fun w' hw => ?_⟩) ?_
            focus
              obtain ⟨z0, z1, z2, z3, z4⟩ := HF.out w' hw
              show (execOp _ _).run Tryd.prog w' = _
              go_simp
            try simp only [Act.put, List.setIfInBounds_toArray, List.set_cons_zero, List.set_cons_succ]
            refine steps_head rfl (.pointer (some ⟨c, 0, none⟩)) (.inl ⟨rfl, fun w' hw => ?_⟩) ?_
            focus
              obtain ⟨z0, z1, z2, z3, z4⟩ := HF.out w' hw
              show (execOp _ _).run Tryd.prog w' = _
              go_simp
            try simp only [Act.put, List.setIfInBounds_toArray, List.set_cons_zero, List.set_cons_succ]
            refine steps_head rfl (.pointer (some ⟨wr.heap.size, 2, none⟩)) (.inl ⟨rfl, fun w' hw => ?_⟩) ?_
            focus
              obtain ⟨z0, z1, z2, z3, z4⟩ := HF.out w' hw
              show (execOp _ _).run Tryd.prog w' = _
              go_simp
            try simp only [Act.put, List.setIfInBounds_toArray, List.set_cons_zero, List.set_cons_succ]
            refine steps_head rfl (.int .i64 dom) (.inl ⟨rfl, fun w' hw => ?_⟩) ?_
            focus
              obtain ⟨z0, z1, z2, z3, z4⟩ := HF.out w' hw
              show (execOp _ _).run Tryd.prog w' = _
              go_simp
            try simp only [Act.put, List.setIfInBounds_toArray, List.set_cons_zero, List.set_cons_succ]
            refine steps_head rfl (.pointer (some ⟨wr.heap.size, 3, none⟩)) (.inl ⟨rfl, fun w' hw => ?_⟩) ?_
            focus
              obtain ⟨z0, z1, z2, z3, z4⟩ := HF.out w' hw
              show (execOp _ _).run Tryd.prog w' = _
              go_simp
            try simp only [Act.put, List.setIfInBounds_toArray, List.set_cons_zero, List.set_cons_succ]
            refine steps_head rfl (.int .i64 ab) (.inl ⟨rfl, fun w' hw => ?_⟩) ?_
            focus
              obtain ⟨z0, z1, z2, z3, z4⟩ := HF.out w' hw
              show (execOp _ _).run Tryd.prog w' = _
              go_simp
            try simp only [Act.put, List.setIfInBounds_toArray, List.set_cons_zero, List.set_cons_succ]
            refine steps_head rfl (.pointer (some ⟨wr.heap.size, 4, none⟩)) (.inl ⟨rfl, fun w' hw => ?_⟩) ?_
            focus
              obtain ⟨z0, z1, z2, z3, z4⟩ := HF.out w' hw
              show (execOp _ _).run Tryd.prog w' = _
              go_simp
            try simp only [Act.put, List.setIfInBounds_toArray, List.set_cons_zero, List.set_cons_succ]
            refine steps_head rfl (.int .i64 val) (.inl ⟨rfl, fun w' hw => ?_⟩) ?_
            focus
              obtain ⟨z0, z1, z2, z3, z4⟩ := HF.out w' hw
              show (execOp _ _).run Tryd.prog w' = _
              go_simp
            try simp only [Act.put, List.setIfInBounds_toArray, List.set_cons_zero, List.set_cons_succ]
            refine steps_mid rfl fun K hK => ?_
            obtain ⟨lva, hra⟩ := (HJ4.out.1.below (Below.drew (Below.refl _ _))).s
            refine if_wanted rfl (step_call 20 _ _ rfl (fun _ _ => rfl) [.pointer (some ⟨b, 0, none⟩), .int .i64 dom, .int .i64 ab, .int .i64 val] rfl (allowed_calls b lva S dom ab val W5.drew hra HJ4.out.1.ok) ?_)
            rintro e w6 ⟨rfl, h2⟩
            have hk6 : w6.heap[wr.heap.size]? = W5.heap[wr.heap.size]? := h2.block _ (Array.getElem?_eq_some_iff.1 HJ4.out.2).1
            refine ⟨_, rfl, hK _ _ hk6 ?_⟩
            clear hK K
            have H6 := Lib.hid (And.intro (VR.below (HJ4.out.1.below (Below.drew (Below.refl _ _))) h2) hk6)
            clear h2 hk6 hra
            try simp only [Act.put, List.setIfInBounds_toArray, List.set_cons_zero, List.set_cons_succ]
            refine steps_mid rfl fun K hK => ?_
            obtain ⟨lva, hra⟩ := H6.out.1.r
            refine if_wanted rfl (step_call 21 _ _ rfl (fun _ _ => rfl) [.pointer (some ⟨c, 0, none⟩), .int .i64 dom, .int .i64 ab, .int .i64 val] rfl (rallowed_calls c lva S dom ab val w6 hra HJ4.out.1.ok) ?_)
            rintro e w7 ⟨rfl, h2⟩
            have hk7 : w7.heap[wr.heap.size]? = W5.heap[wr.heap.size]? := (h2.block _ (Array.getElem?_eq_some_iff.1 (H6.out.2.trans HJ4.out.2)).1).trans H6.out.2
            refine ⟨_, rfl, hK _ _ hk7 ?_⟩
            clear hK K
            have H7 := Lib.hid (H6.out.1.below h2)
            clear h2 hk7 hra
            try simp only [Act.put, List.setIfInBounds_toArray, List.set_cons_zero, List.set_cons_succ]
            refine steps_head rfl (.bool true) (.inl ⟨rfl, fun w' hw => ?_⟩) ?_
            focus
              obtain ⟨z0, z1, z2, z3, z4⟩ := HF.out w' hw
              show (execOp _ _).run Tryd.prog w' = _
              go_simp
            try simp only [Act.put, List.setIfInBounds_toArray, List.set_cons_zero, List.set_cons_succ]
            refine steps_head rfl (.bool true) (.inl ⟨rfl, fun w' hw => ?_⟩) ?_
            focus
              obtain ⟨z0, z1, z2, z3, z4⟩ := HF.out w' hw
              show (execOp _ _).run Tryd.prog w' = _
              go_simp
            try simp only [Act.put, List.setIfInBounds_toArray, List.set_cons_zero, List.set_cons_succ]
            refine steps_head rfl (.int .i64 34) (.inl ⟨rfl, fun w' hw => ?_⟩) ?_
            focus
              obtain ⟨z0, z1, z2, z3, z4⟩ := HF.out w' hw
              show (execOp _ _).run Tryd.prog w' = _
              go_simp
            try simp only [Act.put, List.setIfInBounds_toArray, List.set_cons_zero, List.set_cons_succ]
            refine steps_head rfl (.bool false) (.inl ⟨rfl, fun w' hw => ?_⟩) ?_
            focus
              obtain ⟨z0, z1, z2, z3, z4⟩ := HF.out w' hw
              show (execOp _ _).run Tryd.prog w' = _
              go_simp
            try simp only [Act.put, List.setIfInBounds_toArray, List.set_cons_zero, List.set_cons_succ]
            refine steps_head rfl (.bool false) (.inl ⟨rfl, fun w' hw => ?_⟩) ?_
            focus
              obtain ⟨z0, z1, z2, z3, z4⟩ := HF.out w' hw
              show (execOp _ _).run Tryd.prog w' = _
              go_simp
            try simp only [Act.put, List.setIfInBounds_toArray, List.set_cons_zero, List.set_cons_succ]
            refine steps_head rfl (.bool true) (.inl ⟨rfl, fun w' hw => ?_⟩) ?_
            focus
              obtain ⟨z0, z1, z2, z3, z4⟩ := HF.out w' hw
              show (execOp _ _).run Tryd.prog w' = _
              go_simp
            try simp only [Act.put, List.setIfInBounds_toArray, List.set_cons_zero, List.set_cons_succ]
            refine steps_head rfl (.bool true) (.inl ⟨rfl, fun w' hw => ?_⟩) ?_
            focus
              obtain ⟨z0, z1, z2, z3, z4⟩ := HF.out w' hw
              show (execOp _ _).run Tryd.prog w' = _
              go_simp
            try simp only [Act.put, List.setIfInBounds_toArray, List.set_cons_zero, List.set_cons_succ]
            refine steps_head rfl (.bool true) (.inl ⟨rfl, fun w' hw => ?_⟩) ?_
            focus
              obtain ⟨z0, z1, z2, z3, z4⟩ := HF.out w' hw
              show (execOp _ _).run Tryd.prog w' = _
              go_simp
            try simp only [Act.put, List.setIfInBounds_toArray, List.set_cons_zero, List.set_cons_succ]
            refine steps_head rfl (.bool false) (.inl ⟨rfl, fun w' hw => ?_⟩) ?_
            focus
              obtain ⟨z0, z1, z2, z3, z4⟩ := HF.out w' hw
              show (execOp _ _).run Tryd.prog w' = _
              go_simp
            try simp only [Act.put, List.setIfInBounds_toArray, List.set_cons_zero, List.set_cons_succ]
            refine steps_head rfl (.bool false) (.inl ⟨rfl, fun w' hw => ?_⟩) ?_
            focus
              obtain ⟨z0, z1, z2, z3, z4⟩ := HF.out w' hw
              show (execOp _ _).run Tryd.prog w' = _
              go_simp
            try simp only [Act.put, List.setIfInBounds_toArray, List.set_cons_zero, List.set_cons_succ]
            refine steps_head rfl (.int .i64 34) (.inl ⟨rfl, fun w' hw => ?_⟩) ?_
            focus
              obtain ⟨z0, z1, z2, z3, z4⟩ := HF.out w' hw
              show (execOp _ _).run Tryd.prog w' = _
              go_simp
            try simp only [Act.put, List.setIfInBounds_toArray, List.set_cons_zero, List.set_cons_succ]
            refine steps_head rfl (.bool true) (.inl ⟨rfl, fun w' hw => ?_⟩) ?_
            focus
              obtain ⟨z0, z1, z2, z3, z4⟩ := HF.out w' hw
              show (execOp _ _).run Tryd.prog w' = _
              go_simp
            try simp only [Act.put, List.setIfInBounds_toArray, List.set_cons_zero, List.set_cons_succ]
            refine steps_head rfl (.bool true) (.inl ⟨rfl, fun w' hw => ?_⟩) ?_
            focus
              obtain ⟨z0, z1, z2, z3, z4⟩ := HF.out w' hw
              show (execOp _ _).run Tryd.prog w' = _
              go_simp
            try simp only [Act.put, List.setIfInBounds_toArray, List.set_cons_zero, List.set_cons_succ]
            refine steps_head rfl (.bool true) (.inl ⟨rfl, fun w' hw => ?_⟩) ?_
            focus
              obtain ⟨z0, z1, z2, z3, z4⟩ := HF.out w' hw
              show (execOp _ _).run Tryd.prog w' = _
              go_simp
            try simp only [Act.put, List.setIfInBounds_toArray, List.set_cons_zero, List.set_cons_succ]
            refine steps_nil ?_
            go_wp2
            exact Ends.mk ⟨rfl, H7.out⟩
          case imp =>
            intro w7 h7
            have HJ7 := Lib.hid h7
            clear h7 HF HX1 HJ1 HJ4
            obtain ⟨lva, hra⟩ := HJ7.out.s
            obtain ⟨lvb, hrb⟩ := HJ7.out.r
            have HAl := Lib.hid (alike_calls b c lva lvb S w7 hra hrb HJ7.out.ok)
            clear hra hrb
            go_wp2_with (go_at_call 24; refine HAl.out.mono ?_; rintro e w8 ⟨rfl, h1⟩; have H8 := Lib.hid (HJ7.out.below h1); clear h1)
            go_roundw
            case rel => exact ⟨k + 1, b, c, _, by omega, by go_num, rfl, rfl, H8⟩
            case measure => simp [intOf]; omega
        by_cases hd1 : 2 ≤ dom
        · skip
          have hvv : ¬ (0 ≤ dom ∧ dom ≤ 1 ∧ 0 ≤ ab ∧ ab < 32) := by omega
          have HVV := Lib.hid hvv
          have HRB := Lib.hid (fun W (hW : VR w b c S W) => by have h9 := HRA.out W hW; rw [if_neg HVV.out] at h9; exact h9)
          clear hvv HRA
          have eaa : (allowB S dom ab val == allowB S dom ab val) = true := by simp
          go_wp2_with (go_at_call 14; refine (HRB.out _ HJ1.out).mono ?_; rintro e w4 ⟨A4, n4, c4, lk4, inh4, rfl, h1⟩; have hb4 := h1.alloc h1.size (.cells #[.slice A4 n4 c4, .bool lk4, .bool inh4] 38); have HJ4 := Lib.hid (And.intro (HJ1.out.below hb4) ((hb4.block _ (Array.getElem?_eq_some_iff.1 HX1.out).1).trans HX1.out)); obtain ⟨z0, z1, z2, z3, z4⟩ := five_cells HJ4.out.2; clear h1 hb4)
          generalize w4.alloc (.cells #[.slice A4 n4 c4, .bool lk4, .bool inh4] 38) = W5 at *
          have hx6 := HJ4.out.2
          have HF := Lib.hid (show ∀ w' : World, w'.heap[wr.heap.size]? = W5.heap[wr.heap.size]? → _ from fun w' hw => five_cells (hw.trans hx6))
          clear hx6 z0 z1 z2 z3 z4 q0 q1 q2 q3 q4
          apply Ends.const (F := fun w' => VR w b c S w')
          case walk =>
            refine wp_region_steps 30 [(true, 0), (true, 1), (true, 2), (true, 3), (true, 4), (true, 5), (true, 6), (true, 8), (true, 9), (true, 10), (true, 11), (true, 12), (true, 13), (true, 14), (false, 7), (false, 15), (true, 16), (true, 17), (true, 18), (true, 20), (true, 19), (true, 21), (true, 22), (true, 23), (true, 24), (true, 25), (true, 26), (true, 27), (true, 28), (true, 29)] (fun w' => w'.heap[wr.heap.size]? = W5.heap[wr.heap.size]?) (by rfl) (by kernel_rfl) (fun _ _ _ _ _ h => h) rfl ?_
            refine steps_head rfl (.pointer (some ⟨b, 0, none⟩)) (.inl ⟨rfl, fun w' hw => ?_⟩) ?_
            focus
              obtain ⟨z0, z1, z2, z3, z4⟩ := HF.out w' hw
              show (execOp _ _).run Tryd.prog w' = _
              go_simp
            try simp only [Act.put, List.setIfInBounds_toArray, List.set_cons_zero, List.set_cons_succ]
            refine steps_head rfl (.pointer (some ⟨wr.heap.size, 2, none⟩)) (.inl ⟨rfl, fun w' hw => ?_⟩) ?_
            focus
              obtain ⟨z0, z1, z2, z3, z4⟩ := HF.out w' hw
              show (execOp _ _).run Tryd.prog w' = _
              go_simp
            try simp only [Act.put, List.setIfInBounds_toArray, List.set_cons_zero, List.set_cons_succ]
            refine steps_head rfl (.int .i64 dom) (.inl ⟨rfl, fun w' hw => ?_⟩) ?_
            focus
              obtain ⟨z0, z1, z2, z3, z4⟩ := HF.out w' hw
              show (execOp _ _).run Tryd.prog w' = _
              go_simp
            try simp only [Act.put, List.setIfInBounds_toArray, List.set_cons_zero, List.set_cons_succ]
            refine steps_head rfl (.pointer (some ⟨wr.heap.size, 3, none⟩)) (.inl ⟨rfl, fun w' hw => ?_⟩) ?_
            focus
              obtain ⟨z0, z1, z2, z3, z4⟩ := HF.out w' hw
              show (execOp _ _).run Tryd.prog w' = _
              go_simp
            try simp only [Act.put, List.setIfInBounds_toArray, List.set_cons_zero, List.set_cons_succ]
            refine steps_head rfl (.int .i64 ab) (.inl ⟨rfl, fun w' hw => ?_⟩) ?_
            focus
              obtain ⟨z0, z1, z2, z3, z4⟩ := HF.out w' hw
              show (execOp _ _).run Tryd.prog w' = _
              go_simp
            try simp only [Act.put, List.setIfInBounds_toArray, List.set_cons_zero, List.set_cons_succ]
            refine steps_head rfl (.pointer (some ⟨wr.heap.size, 4, none⟩)) (.inl ⟨rfl, fun w' hw => ?_⟩) ?_
            focus
              obtain ⟨z0, z1, z2, z3, z4⟩ := HF.out w' hw
              show (execOp _ _).run Tryd.prog w' = _
              go_simp
            try simp only [Act.put, List.setIfInBounds_toArray, List.set_cons_zero, List.set_cons_succ]
            refine steps_head rfl (.int .i64 val) (.inl ⟨rfl, fun w' hw => ?_⟩) ?_
            focus
              obtain ⟨z0, z1, z2, z3, z4⟩ := HF.out w' hw
              show (execOp _ _).run Tryd.prog w' = _
              go_simp
            try simp only [Act.put, List.setIfInBounds_toArray, List.set_cons_zero, List.set_cons_succ]
            refine steps_head rfl (.pointer (some ⟨c, 0, none⟩)) (.inl ⟨rfl, fun w' hw => ?_⟩) ?_
            focus
              obtain ⟨z0, z1, z2, z3, z4⟩ := HF.out w' hw
              show (execOp _ _).run Tryd.prog w' = _
              go_simp
            try simp only [Act.put, List.setIfInBounds_toArray, List.set_cons_zero, List.set_cons_succ]
            refine steps_head rfl (.pointer (some ⟨wr.heap.size, 2, none⟩)) (.inl ⟨rfl, fun w' hw => ?_⟩) ?_
            focus
              obtain ⟨z0, z1, z2, z3, z4⟩ := HF.out w' hw
              show (execOp _ _).run Tryd.prog w' = _
              go_simp
            try simp only [Act.put, List.setIfInBounds_toArray, List.set_cons_zero, List.set_cons_succ]
            refine steps_head rfl (.int .i64 dom) (.inl ⟨rfl, fun w' hw => ?_⟩) ?_
            focus
              obtain ⟨z0, z1, z2, z3, z4⟩ := HF.out w' hw
              show (execOp _ _).run Tryd.prog w' = _
              go_simp
            try simp only [Act.put, List.setIfInBounds_toArray, List.set_cons_zero, List.set_cons_succ]
            refine steps_head rfl (.pointer (some ⟨wr.heap.size, 3, none⟩)) (.inl ⟨rfl, fun w' hw => ?_⟩) ?_
            focus
              obtain ⟨z0, z1, z2, z3, z4⟩ := HF.out w' hw
              show (execOp _ _).run Tryd.prog w' = _
              go_simp
            try simp only [Act.put, List.setIfInBounds_toArray, List.set_cons_zero, List.set_cons_succ]
            refine steps_head rfl (.int .i64 ab) (.inl ⟨rfl, fun w' hw => ?_⟩) ?_
            focus
              obtain ⟨z0, z1, z2, z3, z4⟩ := HF.out w' hw
              show (execOp _ _).run Tryd.prog w' = _
              go_simp
            try simp only [Act.put, List.setIfInBounds_toArray, List.set_cons_zero, List.set_cons_succ]
            refine steps_head rfl (.pointer (some ⟨wr.heap.size, 4, none⟩)) (.inl ⟨rfl, fun w' hw => ?_⟩) ?_
            focus
              obtain ⟨z0, z1, z2, z3, z4⟩ := HF.out w' hw
              show (execOp _ _).run Tryd.prog w' = _
              go_simp
            try simp only [Act.put, List.setIfInBounds_toArray, List.set_cons_zero, List.set_cons_succ]
            refine steps_head rfl (.int .i64 val) (.inl ⟨rfl, fun w' hw => ?_⟩) ?_
            focus
              obtain ⟨z0, z1, z2, z3, z4⟩ := HF.out w' hw
              show (execOp _ _).run Tryd.prog w' = _
              go_simp
            try simp only [Act.put, List.setIfInBounds_toArray, List.set_cons_zero, List.set_cons_succ]
            refine steps_mid rfl fun K hK => ?_
            obtain ⟨lva, hra⟩ := (HJ4.out.1.below (Below.drew (Below.refl _ _))).s
            refine if_wanted rfl (step_call 20 _ _ rfl (fun _ _ => rfl) [.pointer (some ⟨b, 0, none⟩), .int .i64 dom, .int .i64 ab, .int .i64 val] rfl (allowed_calls b lva S dom ab val W5.drew hra HJ4.out.1.ok) ?_)
            rintro e w6 ⟨rfl, h2⟩
            have hk6 : w6.heap[wr.heap.size]? = W5.heap[wr.heap.size]? := h2.block _ (Array.getElem?_eq_some_iff.1 HJ4.out.2).1
            refine ⟨_, rfl, hK _ _ hk6 ?_⟩
            clear hK K
            have H6 := Lib.hid (And.intro (VR.below (HJ4.out.1.below (Below.drew (Below.refl _ _))) h2) hk6)
            clear h2 hk6 hra
            try simp only [Act.put, List.setIfInBounds_toArray, List.set_cons_zero, List.set_cons_succ]
            refine steps_mid rfl fun K hK => ?_
            obtain ⟨lva, hra⟩ := H6.out.1.r
            refine if_wanted rfl (step_call 21 _ _ rfl (fun _ _ => rfl) [.pointer (some ⟨c, 0, none⟩), .int .i64 dom, .int .i64 ab, .int .i64 val] rfl (rallowed_calls c lva S dom ab val w6 hra HJ4.out.1.ok) ?_)
            rintro e w7 ⟨rfl, h2⟩
            have hk7 : w7.heap[wr.heap.size]? = W5.heap[wr.heap.size]? := (h2.block _ (Array.getElem?_eq_some_iff.1 (H6.out.2.trans HJ4.out.2)).1).trans H6.out.2
            refine ⟨_, rfl, hK _ _ hk7 ?_⟩
            clear hK K
            have H7 := Lib.hid (H6.out.1.below h2)
            clear h2 hk7 hra
            try simp only [Act.put, List.setIfInBounds_toArray, List.set_cons_zero, List.set_cons_succ]
            refine steps_head rfl (.bool true) (.inl ⟨rfl, fun w' hw => ?_⟩) ?_
            focus
              obtain ⟨z0, z1, z2, z3, z4⟩ := HF.out w' hw
              show (execOp _ _).run Tryd.prog w' = _
              go_simp
            try simp only [Act.put, List.setIfInBounds_toArray, List.set_cons_zero, List.set_cons_succ]
            refine steps_head rfl (.bool true) (.inl ⟨rfl, fun w' hw => ?_⟩) ?_
            focus
              obtain ⟨z0, z1, z2, z3, z4⟩ := HF.out w' hw
              show (execOp _ _).run Tryd.prog w' = _
              go_simp
            try simp only [Act.put, List.setIfInBounds_toArray, List.set_cons_zero, List.set_cons_succ]
            refine steps_head rfl (.int .i64 34) (.inl ⟨rfl, fun w' hw => ?_⟩) ?_
            focus
              obtain ⟨z0, z1, z2, z3, z4⟩ := HF.out w' hw
              show (execOp _ _).run Tryd.prog w' = _
              go_simp
            try simp only [Act.put, List.setIfInBounds_toArray, List.set_cons_zero, List.set_cons_succ]
            refine steps_head rfl (.bool false) (.inl ⟨rfl, fun w' hw => ?_⟩) ?_
            focus
              obtain ⟨z0, z1, z2, z3, z4⟩ := HF.out w' hw
              show (execOp _ _).run Tryd.prog w' = _
              go_simp
            try simp only [Act.put, List.setIfInBounds_toArray, List.set_cons_zero, List.set_cons_succ]
            refine steps_head rfl (.bool false) (.inl ⟨rfl, fun w' hw => ?_⟩) ?_
            focus
              obtain ⟨z0, z1, z2, z3, z4⟩ := HF.out w' hw
              show (execOp _ _).run Tryd.prog w' = _
              go_simp
            try simp only [Act.put, List.setIfInBounds_toArray, List.set_cons_zero, List.set_cons_succ]
            refine steps_head rfl (.bool true) (.inl ⟨rfl, fun w' hw => ?_⟩) ?_
            focus
              obtain ⟨z0, z1, z2, z3, z4⟩ := HF.out w' hw
              show (execOp _ _).run Tryd.prog w' = _
              go_simp
            try simp only [Act.put, List.setIfInBounds_toArray, List.set_cons_zero, List.set_cons_succ]
            refine steps_head rfl (.bool true) (.inl ⟨rfl, fun w' hw => ?_⟩) ?_
            focus
              obtain ⟨z0, z1, z2, z3, z4⟩ := HF.out w' hw
              show (execOp _ _).run Tryd.prog w' = _
              go_simp
            try simp only [Act.put, List.setIfInBounds_toArray, List.set_cons_zero, List.set_cons_succ]
            refine steps_head rfl (.bool true) (.inl ⟨rfl, fun w' hw => ?_⟩) ?_
            focus
              obtain ⟨z0, z1, z2, z3, z4⟩ := HF.out w' hw
              show (execOp _ _).run Tryd.prog w' = _
              go_simp
            try simp only [Act.put, List.setIfInBounds_toArray, List.set_cons_zero, List.set_cons_succ]
            refine steps_head rfl (.bool false) (.inl ⟨rfl, fun w' hw => ?_⟩) ?_
            focus
              obtain ⟨z0, z1, z2, z3, z4⟩ := HF.out w' hw
              show (execOp _ _).run Tryd.prog w' = _
              go_simp
            try simp only [Act.put, List.setIfInBounds_toArray, List.set_cons_zero, List.set_cons_succ]
            refine steps_head rfl (.bool false) (.inl ⟨rfl, fun w' hw => ?_⟩) ?_
            focus
              obtain ⟨z0, z1, z2, z3, z4⟩ := HF.out w' hw
              show (execOp _ _).run Tryd.prog w' = _
              go_simp
            try simp only [Act.put, List.setIfInBounds_toArray, List.set_cons_zero, List.set_cons_succ]
            refine steps_head rfl (.int .i64 34) (.inl ⟨rfl, fun w' hw => ?_⟩) ?_
            focus
              obtain ⟨z0, z1, z2, z3, z4⟩ := HF.out w' hw
              show (execOp _ _).run Tryd.prog w' = _
              go_simp
            try simp only [Act.put, List.setIfInBounds_toArray, List.set_cons_zero, List.set_cons_succ]
            refine steps_head rfl (.bool true) (.inl ⟨rfl, fun w' hw => ?_⟩) ?_
            focus
              obtain ⟨z0, z1, z2, z3, z4⟩ := HF.out w' hw
              show (execOp _ _).run Tryd.prog w' = _
              go_simp
            try simp only [Act.put, List.setIfInBounds_toArray, List.set_cons_zero, List.set_cons_succ]
            refine steps_head rfl (.bool true) (.inl ⟨rfl, fun w' hw => ?_⟩) ?_
            focus
              obtain ⟨z0, z1, z2, z3, z4⟩ := HF.out w' hw
              show (execOp _ _).run Tryd.prog w' = _
              go_simp
            try simp only [Act.put, List.setIfInBounds_toArray, List.set_cons_zero, List.set_cons_succ]
            refine steps_head rfl (.bool true) (.inl ⟨rfl, fun w' hw => ?_⟩) ?_
            focus
              obtain ⟨z0, z1, z2, z3, z4⟩ := HF.out w' hw
              show (execOp _ _).run Tryd.prog w' = _
              go_simp
            try simp only [Act.put, List.setIfInBounds_toArray, List.set_cons_zero, List.set_cons_succ]
            refine steps_nil ?_
            go_wp2
            exact Ends.mk ⟨rfl, H7.out⟩
          case imp =>
            intro w7 h7
            have HJ7 := Lib.hid h7
            clear h7 HF HX1 HJ1 HJ4
            obtain ⟨lva, hra⟩ := HJ7.out.s
            obtain ⟨lvb, hrb⟩ := HJ7.out.r
            have HAl := Lib.hid (alike_calls b c lva lvb S w7 hra hrb HJ7.out.ok)
            clear hra hrb
            go_wp2_with (go_at_call 24; refine HAl.out.mono ?_; rintro e w8 ⟨rfl, h1⟩; have H8 := Lib.hid (HJ7.out.below h1); clear h1)
            go_roundw
            case rel => exact ⟨k + 1, b, c, _, by omega, by go_num, rfl, rfl, H8⟩
            case measure => simp [intOf]; omega
        by_cases ha0 : ab < 0
        · skip
          have hvv : ¬ (0 ≤ dom ∧ dom ≤ 1 ∧ 0 ≤ ab ∧ ab < 32) := by omega
          have HVV := Lib.hid hvv
          have HRB := Lib.hid (fun W (hW : VR w b c S W) => by have h9 := HRA.out W hW; rw [if_neg HVV.out] at h9; exact h9)
          clear hvv HRA
          have eaa : (allowB S dom ab val == allowB S dom ab val) = true := by simp
          go_wp2_with (go_at_call 14; refine (HRB.out _ HJ1.out).mono ?_; rintro e w4 ⟨A4, n4, c4, lk4, inh4, rfl, h1⟩; have hb4 := h1.alloc h1.size (.cells #[.slice A4 n4 c4, .bool lk4, .bool inh4] 38); have HJ4 := Lib.hid (And.intro (HJ1.out.below hb4) ((hb4.block _ (Array.getElem?_eq_some_iff.1 HX1.out).1).trans HX1.out)); obtain ⟨z0, z1, z2, z3, z4⟩ := five_cells HJ4.out.2; clear h1 hb4)
          generalize w4.alloc (.cells #[.slice A4 n4 c4, .bool lk4, .bool inh4] 38) = W5 at *
          have hx6 := HJ4.out.2
          have HF := Lib.hid (show ∀ w' : World, w'.heap[wr.heap.size]? = W5.heap[wr.heap.size]? → _ from fun w' hw => five_cells (hw.trans hx6))
          clear hx6 z0 z1 z2 z3 z4 q0 q1 q2 q3 q4
          apply Ends.const (F := fun w' => VR w b c S w')
          case walk =>
            refine wp_region_steps 30 [(true, 0), (true, 1), (true, 2), (true, 3), (true, 4), (true, 5), (true, 6), (true, 8), (true, 9), (true, 10), (true, 11), (true, 12), (true, 13), (true, 14), (false, 7), (false, 15), (true, 16), (true, 17), (true, 18), (true, 20), (true, 19), (true, 21), (true, 22), (true, 23), (true, 24), (true, 25), (true, 26), (true, 27), (true, 28), (true, 29)] (fun w' => w'.heap[wr.heap.size]? = W5.heap[wr.heap.size]?) (by rfl) (by kernel_rfl) (fun _ _ _ _ _ h => h) rfl ?_
            refine steps_head rfl (.pointer (some ⟨b, 0, none⟩)) (.inl ⟨rfl, fun w' hw => ?_⟩) ?_
            focus
              obtain ⟨z0, z1, z2, z3, z4⟩ := HF.out w' hw
              show (execOp _ _).run Tryd.prog w' = _
              go_simp
            try simp only [Act.put, List.setIfInBounds_toArray, List.set_cons_zero, List.set_cons_succ]
            refine steps_head rfl (.pointer (some ⟨wr.heap.size, 2, none⟩)) (.inl ⟨rfl, fun w' hw => ?_⟩) ?_
            focus
              obtain ⟨z0, z1, z2, z3, z4⟩ := HF.out w' hw
              show (execOp _ _).run Tryd.prog w' = _
              go_simp
            try simp only [Act.put, List.setIfInBounds_toArray, List.set_cons_zero, List.set_cons_succ]
            refine steps_head rfl (.int .i64 dom) (.inl ⟨rfl, fun w' hw => ?_⟩) ?_
            focus
              obtain ⟨z0, z1, z2, z3, z4⟩ := HF.out w' hw
              show (execOp _ _).run Tryd.prog w' = _
              go_simp
            try simp only [Act.put, List.setIfInBounds_toArray, List.set_cons_zero, List.set_cons_succ]
            refine steps_head rfl (.pointer (some ⟨wr.heap.size, 3, none⟩)) (.inl ⟨rfl, fun w' hw => ?_⟩) ?_
            focus
              obtain ⟨z0, z1, z2, z3, z4⟩ := HF.out w' hw
              show (execOp _ _).run Tryd.prog w' = _
              go_simp
            try simp only [Act.put, List.setIfInBounds_toArray, List.set_cons_zero, List.set_cons_succ]
            refine steps_head rfl (.int .i64 ab) (.inl ⟨rfl, fun w' hw => ?_⟩) ?_
            focus
              obtain ⟨z0, z1, z2, z3, z4⟩ := HF.out w' hw
              show (execOp _ _).run Tryd.prog w' = _
              go_simp
            try simp only [Act.put, List.setIfInBounds_toArray, List.set_cons_zero, List.set_cons_succ]
            refine steps_head rfl (.pointer (some ⟨wr.heap.size, 4, none⟩)) (.inl ⟨rfl, fun w' hw => ?_⟩) ?_
            focus
              obtain ⟨z0, z1, z2, z3, z4⟩ := HF.out w' hw
              show (execOp _ _).run Tryd.prog w' = _
              go_simp
            try simp only [Act.put, List.setIfInBounds_toArray, List.set_cons_zero, List.set_cons_succ]
            refine steps_head rfl (.int .i64 val) (.inl ⟨rfl, fun w' hw => ?_⟩) ?_
            focus
              obtain ⟨z0, z1, z2, z3, z4⟩ := HF.out w' hw
              show (execOp _ _).run Tryd.prog w' = _
              go_simp
            try simp only [Act.put, List.setIfInBounds_toArray, List.set_cons_zero, List.set_cons_succ]
            refine steps_head rfl (.pointer (some ⟨c, 0, none⟩)) (.inl ⟨rfl, fun w' hw => ?_⟩) ?_
            focus
              obtain ⟨z0, z1, z2, z3, z4⟩ := HF.out w' hw
              show (execOp _ _).run Tryd.prog w' = _
              go_simp
            try simp only [Act.put, List.setIfInBounds_toArray, List.set_cons_zero, List.set_cons_succ]
            refine steps_head rfl (.pointer (some ⟨wr.heap.size, 2, none⟩)) (.inl ⟨rfl, fun w' hw => ?_⟩) ?_
            focus
              obtain ⟨z0, z1, z2, z3, z4⟩ := HF.out w' hw
              show (execOp _ _).run Tryd.prog w' = _
              go_simp
            try simp only [Act.put, List.setIfInBounds_toArray, List.set_cons_zero, List.set_cons_succ]
            refine steps_head rfl (.int .i64 dom) (.inl ⟨rfl, fun w' hw => ?_⟩) ?_
            focus
              obtain ⟨z0, z1, z2, z3, z4⟩ := HF.out w' hw
              show (execOp _ _).run Tryd.prog w' = _
              go_simp
            try simp only [Act.put, List.setIfInBounds_toArray, List.set_cons_zero, List.set_cons_succ]
            refine steps_head rfl (.pointer (some ⟨wr.heap.size, 3, none⟩)) (.inl ⟨rfl, fun w' hw => ?_⟩) ?_
            focus
              obtain ⟨z0, z1, z2, z3, z4⟩ := HF.out w' hw
              show (execOp _ _).run Tryd.prog w' = _
              go_simp
            try simp only [Act.put, List.setIfInBounds_toArray, List.set_cons_zero, List.set_cons_succ]
            refine steps_head rfl (.int .i64 ab) (.inl ⟨rfl, fun w' hw => ?_⟩) ?_
            focus
              obtain ⟨z0, z1, z2, z3, z4⟩ := HF.out w' hw
              show (execOp _ _).run Tryd.prog w' = _
              go_simp
            try simp only [Act.put, List.setIfInBounds_toArray, List.set_cons_zero, List.set_cons_succ]
            refine steps_head rfl (.pointer (some ⟨wr.heap.size, 4, none⟩)) (.inl ⟨rfl, fun w' hw => ?_⟩) ?_
            focus
              obtain ⟨z0, z1, z2, z3, z4⟩ := HF.out w' hw
              show (execOp _ _).run Tryd.prog w' = _
              go_simp
            try simp only [Act.put, List.setIfInBounds_toArray, List.set_cons_zero, List.set_cons_succ]
            refine steps_head rfl (.int .i64 val) (.inl ⟨rfl, fun w' hw => ?_⟩) ?_
            focus
              obtain ⟨z0, z1, z2, z3, z4⟩ := HF.out w' hw
              show (execOp _ _).run Tryd.prog w' = _
              go_simp
            try simp only [Act.put, List.setIfInBounds_toArray, List.set_cons_zero, List.set_cons_succ]
            refine steps_mid rfl fun K hK => ?_
            obtain ⟨lva, hra⟩ := (HJ4.out.1.below (Below.drew (Below.refl _ _))).s
            refine if_wanted rfl (step_call 20 _ _ rfl (fun _ _ => rfl) [.pointer (some ⟨b, 0, none⟩), .int .i64 dom, .int .i64 ab, .int .i64 val] rfl (allowed_calls b lva S dom ab val W5.drew hra HJ4.out.1.ok) ?_)
            rintro e w6 ⟨rfl, h2⟩
            have hk6 : w6.heap[wr.heap.size]? = W5.heap[wr.heap.size]? := h2.block _ (Array.getElem?_eq_some_iff.1 HJ4.out.2).1
            refine ⟨_, rfl, hK _ _ hk6 ?_⟩
            clear hK K
            have H6 := Lib.hid (And.intro (VR.below (HJ4.out.1.below (Below.drew (Below.refl _ _))) h2) hk6)
            clear h2 hk6 hra
            try simp only [Act.put, List.setIfInBounds_toArray, List.set_cons_zero, List.set_cons_succ]
            refine steps_mid rfl fun K hK => ?_
            obtain ⟨lva, hra⟩ := H6.out.1.r
            refine if_wanted rfl (step_call 21 _ _ rfl (fun _ _ => rfl) [.pointer (some ⟨c, 0, none⟩), .int .i64 dom, .int .i64 ab, .int .i64 val] rfl (rallowed_calls c lva S dom ab val w6 hra HJ4.out.1.ok) ?_)
            rintro e w7 ⟨rfl, h2⟩
            have hk7 : w7.heap[wr.heap.size]? = W5.heap[wr.heap.size]? := (h2.block _ (Array.getElem?_eq_some_iff.1 (H6.out.2.trans HJ4.out.2)).1).trans H6.out.2
            refine ⟨_, rfl, hK _ _ hk7 ?_⟩
            clear hK K
            have H7 := Lib.hid (H6.out.1.below h2)
            clear h2 hk7 hra
            try simp only [Act.put, List.setIfInBounds_toArray, List.set_cons_zero, List.set_cons_succ]
            refine steps_head rfl (.bool true) (.inl ⟨rfl, fun w' hw => ?_⟩) ?_
            focus
              obtain ⟨z0, z1, z2, z3, z4⟩ := HF.out w' hw
              show (execOp _ _).run Tryd.prog w' = _
              go_simp
            try simp only [Act.put, List.setIfInBounds_toArray, List.set_cons_zero, List.set_cons_succ]
            refine steps_head rfl (.bool true) (.inl ⟨rfl, fun w' hw => ?_⟩) ?_
            focus
              obtain ⟨z0, z1, z2, z3, z4⟩ := HF.out w' hw
              show (execOp _ _).run Tryd.prog w' = _
              go_simp
            try simp only [Act.put, List.setIfInBounds_toArray, List.set_cons_zero, List.set_cons_succ]
            refine steps_head rfl (.int .i64 34) (.inl ⟨rfl, fun w' hw => ?_⟩) ?_
            focus
              obtain ⟨z0, z1, z2, z3, z4⟩ := HF.out w' hw
              show (execOp _ _).run Tryd.prog w' = _
              go_simp
            try simp only [Act.put, List.setIfInBounds_toArray, List.set_cons_zero, List.set_cons_succ]
            refine steps_head rfl (.bool false) (.inl ⟨rfl, fun w' hw => ?_⟩) ?_
            focus
              obtain ⟨z0, z1, z2, z3, z4⟩ := HF.out w' hw
              show (execOp _ _).run Tryd.prog w' = _
              go_simp
            try simp only [Act.put, List.setIfInBounds_toArray, List.set_cons_zero, List.set_cons_succ]
            refine steps_head rfl (.bool false) (.inl ⟨rfl, fun w' hw => ?_⟩) ?_
            focus
              obtain ⟨z0, z1, z2, z3, z4⟩ := HF.out w' hw
              show (execOp _ _).run Tryd.prog w' = _
              go_simp
            try simp only [Act.put, List.setIfInBounds_toArray, List.set_cons_zero, List.set_cons_succ]
            refine steps_head rfl (.bool true) (.inl ⟨rfl, fun w' hw => ?_⟩) ?_
            focus
              obtain ⟨z0, z1, z2, z3, z4⟩ := HF.out w' hw
              show (execOp _ _).run Tryd.prog w' = _
              go_simp
            try simp only [Act.put, List.setIfInBounds_toArray, List.set_cons_zero, List.set_cons_succ]
            refine steps_head rfl (.bool true) (.inl ⟨rfl, fun w' hw => ?_⟩) ?_
            focus
              obtain ⟨z0, z1, z2, z3, z4⟩ := HF.out w' hw
              show (execOp _ _).run Tryd.prog w' = _
              go_simp
            try simp only [Act.put, List.setIfInBounds_toArray, List.set_cons_zero, List.set_cons_succ]
            refine steps_head rfl (.bool true) (.inl ⟨rfl, fun w' hw => ?_⟩) ?_
            focus
              obtain ⟨z0, z1, z2, z3, z4⟩ := HF.out w' hw
              show (execOp _ _).run Tryd.prog w' = _
              go_simp
            try simp only [Act.put, List.setIfInBounds_toArray, List.set_cons_zero, List.set_cons_succ]
            refine steps_head rfl (.bool false) (.inl ⟨rfl, fun w' hw => ?_⟩) ?_
            focus
              obtain ⟨z0, z1, z2, z3, z4⟩ := HF.out w' hw
              show (execOp _ _).run Tryd.prog w' = _
              go_simp
            try simp only [Act.put, List.setIfInBounds_toArray, List.set_cons_zero, List.set_cons_succ]
            refine steps_head rfl (.bool false) (.inl ⟨rfl, fun w' hw => ?_⟩) ?_
            focus
              obtain ⟨z0, z1, z2, z3, z4⟩ := HF.out w' hw
              show (execOp _ _).run Tryd.prog w' = _
              go_simp
            try simp only [Act.put, List.setIfInBounds_toArray, List.set_cons_zero, List.set_cons_succ]
            refine steps_head rfl (.int .i64 34) (.inl ⟨rfl, fun w' hw => ?_⟩) ?_
            focus
              obtain ⟨z0, z1, z2, z3, z4⟩ := HF.out w' hw
              show (execOp _ _).run Tryd.prog w' = _
              go_simp
            try simp only [Act.put, List.setIfInBounds_toArray, List.set_cons_zero, List.set_cons_succ]
            refine steps_head rfl (.bool true) (.inl ⟨rfl, fun w' hw => ?_⟩) ?_
            focus
              obtain ⟨z0, z1, z2, z3, z4⟩ := HF.out w' hw
              show (execOp _ _).run Tryd.prog w' = _
              go_simp
            try simp only [Act.put, List.setIfInBounds_toArray, List.set_cons_zero, List.set_cons_succ]
            refine steps_head rfl (.bool true) (.inl ⟨rfl, fun w' hw => ?_⟩) ?_
            focus
              obtain ⟨z0, z1, z2, z3, z4⟩ := HF.out w' hw
              show (execOp _ _).run Tryd.prog w' = _
              go_simp
            try simp only [Act.put, List.setIfInBounds_toArray, List.set_cons_zero, List.set_cons_succ]
            refine steps_head rfl (.bool true) (.inl ⟨rfl, fun w' hw => ?_⟩) ?_
            focus
              obtain ⟨z0, z1, z2, z3, z4⟩ := HF.out w' hw
              show (execOp _ _).run Tryd.prog w' = _
              go_simp
            try simp only [Act.put, List.setIfInBounds_toArray, List.set_cons_zero, List.set_cons_succ]
            refine steps_nil ?_
            go_wp2
            exact Ends.mk ⟨rfl, H7.out⟩
          case imp =>
            intro w7 h7
            have HJ7 := Lib.hid h7
            clear h7 HF HX1 HJ1 HJ4
            obtain ⟨lva, hra⟩ := HJ7.out.s
            obtain ⟨lvb, hrb⟩ := HJ7.out.r
            have HAl := Lib.hid (alike_calls b c lva lvb S w7 hra hrb HJ7.out.ok)
            clear hra hrb
            go_wp2_with (go_at_call 24; refine HAl.out.mono ?_; rintro e w8 ⟨rfl, h1⟩; have H8 := Lib.hid (HJ7.out.below h1); clear h1)
            go_roundw
            case rel => exact ⟨k + 1, b, c, _, by omega, by go_num, rfl, rfl, H8⟩
            case measure => simp [intOf]; omega
        by_cases ha1 : 32 ≤ ab
        · skip
          have hvv : ¬ (0 ≤ dom ∧ dom ≤ 1 ∧ 0 ≤ ab ∧ ab < 32) := by omega
          have HVV := Lib.hid hvv
          have HRB := Lib.hid (fun W (hW : VR w b c S W) => by have h9 := HRA.out W hW; rw [if_neg HVV.out] at h9; exact h9)
          clear hvv HRA
          have eaa : (allowB S dom ab val == allowB S dom ab val) = true := by simp
          go_wp2_with (go_at_call 14; refine (HRB.out _ HJ1.out).mono ?_; rintro e w4 ⟨A4, n4, c4, lk4, inh4, rfl, h1⟩; have hb4 := h1.alloc h1.size (.cells #[.slice A4 n4 c4, .bool lk4, .bool inh4] 38); have HJ4 := Lib.hid (And.intro (HJ1.out.below hb4) ((hb4.block _ (Array.getElem?_eq_some_iff.1 HX1.out).1).trans HX1.out)); obtain ⟨z0, z1, z2, z3, z4⟩ := five_cells HJ4.out.2; clear h1 hb4)
          generalize w4.alloc (.cells #[.slice A4 n4 c4, .bool lk4, .bool inh4] 38) = W5 at *
          have hx6 := HJ4.out.2
          have HF := Lib.hid (show ∀ w' : World, w'.heap[wr.heap.size]? = W5.heap[wr.heap.size]? → _ from fun w' hw => five_cells (hw.trans hx6))
          clear hx6 z0 z1 z2 z3 z4 q0 q1 q2 q3 q4
          apply Ends.const (F := fun w' => VR w b c S w')
          case walk =>
            refine wp_region_steps 30 [(true, 0), (true, 1), (true, 2), (true, 3), (true, 4), (true, 5), (true, 6), (true, 8), (true, 9), (true, 10), (true, 11), (true, 12), (true, 13), (true, 14), (false, 7), (false, 15), (true, 16), (true, 17), (true, 18), (true, 20), (true, 19), (true, 21), (true, 22), (true, 23), (true, 24), (true, 25), (true, 26), (true, 27), (true, 28), (true, 29)] (fun w' => w'.heap[wr.heap.size]? = W5.heap[wr.heap.size]?) (by rfl) (by kernel_rfl) (fun _ _ _ _ _ h => h) rfl ?_
            refine steps_head rfl (.pointer (some ⟨b, 0, none⟩)) (.inl ⟨rfl, fun w' hw => ?_⟩) ?_
            focus
              obtain ⟨z0, z1, z2, z3, z4⟩ := HF.out w' hw
              show (execOp _ _).run Tryd.prog w' = _
              go_simp
            try simp only [Act.put, List.setIfInBounds_toArray, List.set_cons_zero, List.set_cons_succ]
            refine steps_head rfl (.pointer (some ⟨wr.heap.size, 2, none⟩)) (.inl ⟨rfl, fun w' hw => ?_⟩) ?_
            focus
              obtain ⟨z0, z1, z2, z3, z4⟩ := HF.out w' hw
              show (execOp _ _).run Tryd.prog w' = _
              go_simp
            try simp only [Act.put, List.setIfInBounds_toArray, List.set_cons_zero, List.set_cons_succ]
            refine steps_head rfl (.int .i64 dom) (.inl ⟨rfl, fun w' hw => ?_⟩) ?_
            focus
              obtain ⟨z0, z1, z2, z3, z4⟩ := HF.out w' hw
              show (execOp _ _).run Tryd.prog w' = _
              go_simp
            try simp only [Act.put, List.setIfInBounds_toArray, List.set_cons_zero, List.set_cons_succ]
            refine steps_head rfl (.pointer (some ⟨wr.heap.size, 3, none⟩)) (.inl ⟨rfl, fun w' hw => ?_⟩) ?_
            focus
              obtain ⟨z0, z1, z2, z3, z4⟩ := HF.out w' hw
              show (execOp _ _).run Tryd.prog w' = _
              go_simp
            try simp only [Act.put, List.setIfInBounds_toArray, List.set_cons_zero, List.set_cons_succ]
            refine steps_head rfl (.int .i64 ab) (.inl ⟨rfl, fun w' hw => ?_⟩) ?_
            focus
              obtain ⟨z0, z1, z2, z3, z4⟩ := HF.out w' hw
              show (execOp _ _).run Tryd.prog w' = _
              go_simp
            try simp only [Act.put, List.setIfInBounds_toArray, List.set_cons_zero, List.set_cons_succ]
            refine steps_head rfl (.pointer (some ⟨wr.heap.size, 4, none⟩)) (.inl ⟨rfl, fun w' hw => ?_⟩) ?_
            focus
              obtain ⟨z0, z1, z2, z3, z4⟩ := HF.out w' hw
              show (execOp _ _).run Tryd.prog w' = _
              go_simp
            try simp only [Act.put, List.setIfInBounds_toArray, List.set_cons_zero, List.set_cons_succ]
            refine steps_head rfl (.int .i64 val) (.inl ⟨rfl, fun w' hw => ?_⟩) ?_
            focus
              obtain ⟨z0, z1, z2, z3, z4⟩ := HF.out w' hw
              show (execOp _ _).run Tryd.prog w' = _
              go_simp
            try simp only [Act.put, List.setIfInBounds_toArray, List.set_cons_zero, List.set_cons_succ]
            refine steps_head rfl (.pointer (some ⟨c, 0, none⟩)) (.inl ⟨rfl, fun w' hw => ?_⟩) ?_
            focus
              obtain ⟨z0, z1, z2, z3, z4⟩ := HF.out w' hw
              show (execOp _ _).run Tryd.prog w' = _
              go_simp
            try simp only [Act.put, List.setIfInBounds_toArray, List.set_cons_zero, List.set_cons_succ]
            refine steps_head rfl (.pointer (some ⟨wr.heap.size, 2, none⟩)) (.inl ⟨rfl, fun w' hw => ?_⟩) ?_
            focus
              obtain ⟨z0, z1, z2, z3, z4⟩ := HF.out w' hw
              show (execOp _ _).run Tryd.prog w' = _
              go_simp
            try simp only [Act.put, List.setIfInBounds_toArray, List.set_cons_zero, List.set_cons_succ]
            refine steps_head rfl (.int .i64 dom) (.inl ⟨rfl, fun w' hw => ?_⟩) ?_
            focus
              obtain ⟨z0, z1, z2, z3, z4⟩ := HF.out w' hw
              show (execOp _ _).run Tryd.prog w' = _
              go_simp
            try simp only [Act.put, List.setIfInBounds_toArray, List.set_cons_zero, List.set_cons_succ]
            refine steps_head rfl (.pointer (some ⟨wr.heap.size, 3, none⟩)) (.inl ⟨rfl, fun w' hw => ?_⟩) ?_
            focus
              obtain ⟨z0, z1, z2, z3, z4⟩ := HF.out w' hw
              show (execOp _ _).run Tryd.prog w' = _
              go_simp
            try simp only [Act.put, List.setIfInBounds_toArray, List.set_cons_zero, List.set_cons_succ]
            refine steps_head rfl (.int .i64 ab) (.inl ⟨rfl, fun w' hw => ?_⟩) ?_
            focus
              obtain ⟨z0, z1, z2, z3, z4⟩ := HF.out w' hw
              show (execOp _ _).run Tryd.prog w' = _
              go_simp
            try simp only [Act.put, List.setIfInBounds_toArray, List.set_cons_zero, List.set_cons_succ]
            refine steps_head rfl (.pointer (some ⟨wr.heap.size, 4, none⟩)) (.inl ⟨rfl, fun w' hw => ?_⟩) ?_
            focus
              obtain ⟨z0, z1, z2, z3, z4⟩ := HF.out w' hw
              show (execOp _ _).run Tryd.prog w' = _
              go_simp
            try simp only [Act.put, List.setIfInBounds_toArray, List.set_cons_zero, List.set_cons_succ]
            refine steps_head rfl (.int .i64 val) (.inl ⟨rfl, fun w' hw => ?_⟩) ?_
            focus
              obtain ⟨z0, z1, z2, z3, z4⟩ := HF.out w' hw
              show (execOp _ _).run Tryd.prog w' = _
              go_simp
            try simp only [Act.put, List.setIfInBounds_toArray, List.set_cons_zero, List.set_cons_succ]
            refine steps_mid rfl fun K hK => ?_
            obtain ⟨lva, hra⟩ := (HJ4.out.1.below (Below.drew (Below.refl _ _))).s
            refine if_wanted rfl (step_call 20 _ _ rfl (fun _ _ => rfl) [.pointer (some ⟨b, 0, none⟩), .int .i64 dom, .int .i64 ab, .int .i64 val] rfl (allowed_calls b lva S dom ab val W5.drew hra HJ4.out.1.ok) ?_)
            rintro e w6 ⟨rfl, h2⟩
            have hk6 : w6.heap[wr.heap.size]? = W5.heap[wr.heap.size]? := h2.block _ (Array.getElem?_eq_some_iff.1 HJ4.out.2).1
            refine ⟨_, rfl, hK _ _ hk6 ?_⟩
            clear hK K
            have H6 := Lib.hid (And.intro (VR.below (HJ4.out.1.below (Below.drew (Below.refl _ _))) h2) hk6)
            clear h2 hk6 hra
            try simp only [Act.put, List.setIfInBounds_toArray, List.set_cons_zero, List.set_cons_succ]
            refine steps_mid rfl fun K hK => ?_
            obtain ⟨lva, hra⟩ := H6.out.1.r
            refine if_wanted rfl (step_call 21 _ _ rfl (fun _ _ => rfl) [.pointer (some ⟨c, 0, none⟩), .int .i64 dom, .int .i64 ab, .int .i64 val] rfl (rallowed_calls c lva S dom ab val w6 hra HJ4.out.1.ok) ?_)
            rintro e w7 ⟨rfl, h2⟩
            have hk7 : w7.heap[wr.heap.size]? = W5.heap[wr.heap.size]? := (h2.block _ (Array.getElem?_eq_some_iff.1 (H6.out.2.trans HJ4.out.2)).1).trans H6.out.2
            refine ⟨_, rfl, hK _ _ hk7 ?_⟩
            clear hK K
            have H7 := Lib.hid (H6.out.1.below h2)
            clear h2 hk7 hra
            try simp only [Act.put, List.setIfInBounds_toArray, List.set_cons_zero, List.set_cons_succ]
            refine steps_head rfl (.bool true) (.inl ⟨rfl, fun w' hw => ?_⟩) ?_
            focus
              obtain ⟨z0, z1, z2, z3, z4⟩ := HF.out w' hw
              show (execOp _ _).run Tryd.prog w' = _
              go_simp
            try simp only [Act.put, List.setIfInBounds_toArray, List.set_cons_zero, List.set_cons_succ]
            refine steps_head rfl (.bool true) (.inl ⟨rfl, fun w' hw => ?_⟩) ?_
            focus
              obtain ⟨z0, z1, z2, z3, z4⟩ := HF.out w' hw
              show (execOp _ _).run Tryd.prog w' = _
              go_simp
            try simp only [Act.put, List.setIfInBounds_toArray, List.set_cons_zero, List.set_cons_succ]
            refine steps_head rfl (.int .i64 34) (.inl ⟨rfl, fun w' hw => ?_⟩) ?_
            focus
              obtain ⟨z0, z1, z2, z3, z4⟩ := HF.out w' hw
              show (execOp _ _).run Tryd.prog w' = _
              go_simp
            try simp only [Act.put, List.setIfInBounds_toArray, List.set_cons_zero, List.set_cons_succ]
            refine steps_head rfl (.bool false) (.inl ⟨rfl, fun w' hw => ?_⟩) ?_
            focus
              obtain ⟨z0, z1, z2, z3, z4⟩ := HF.out w' hw
              show (execOp _ _).run Tryd.prog w' = _
              go_simp
            try simp only [Act.put, List.setIfInBounds_toArray, List.set_cons_zero, List.set_cons_succ]
            refine steps_head rfl (.bool false) (.inl ⟨rfl, fun w' hw => ?_⟩) ?_
            focus
              obtain ⟨z0, z1, z2, z3, z4⟩ := HF.out w' hw
              show (execOp _ _).run Tryd.prog w' = _
              go_simp
            try simp only [Act.put, List.setIfInBounds_toArray, List.set_cons_zero, List.set_cons_succ]
            refine steps_head rfl (.bool true) (.inl ⟨rfl, fun w' hw => ?_⟩) ?_
            focus
              obtain ⟨z0, z1, z2, z3, z4⟩ := HF.out w' hw
              show (execOp _ _).run Tryd.prog w' = _
              go_simp
            try simp only [Act.put, List.setIfInBounds_toArray, List.set_cons_zero, List.set_cons_succ]
            refine steps_head rfl (.bool true) (.inl ⟨rfl, fun w' hw => ?_⟩) ?_
            focus
              obtain ⟨z0, z1, z2, z3, z4⟩ := HF.out w' hw
              show (execOp _ _).run Tryd.prog w' = _
              go_simp
            try simp only [Act.put, List.setIfInBounds_toArray, List.set_cons_zero, List.set_cons_succ]
            refine steps_head rfl (.bool true) (.inl ⟨rfl, fun w' hw => ?_⟩) ?_
            focus
              obtain ⟨z0, z1, z2, z3, z4⟩ := HF.out w' hw
              show (execOp _ _).run Tryd.prog w' = _
              go_simp
            try simp only [Act.put, List.setIfInBounds_toArray, List.set_cons_zero, List.set_cons_succ]
            refine steps_head rfl (.bool false) (.inl ⟨rfl, fun w' hw => ?_⟩) ?_
            focus
              obtain ⟨z0, z1, z2, z3, z4⟩ := HF.out w' hw
              show (execOp _ _).run Tryd.prog w' = _
              go_simp
            try simp only [Act.put, List.setIfInBounds_toArray, List.set_cons_zero, List.set_cons_succ]
            refine steps_head rfl (.bool false) (.inl ⟨rfl, fun w' hw => ?_⟩) ?_
            focus
              obtain ⟨z0, z1, z2, z3, z4⟩ := HF.out w' hw
              show (execOp _ _).run Tryd.prog w' = _
              go_simp
            try simp only [Act.put, List.setIfInBounds_toArray, List.set_cons_zero, List.set_cons_succ]
            refine steps_head rfl (.int .i64 34) (.inl ⟨rfl, fun w' hw => ?_⟩) ?_
            focus
              obtain ⟨z0, z1, z2, z3, z4⟩ := HF.out w' hw
              show (execOp _ _).run Tryd.prog w' = _
              go_simp
            try simp only [Act.put, List.setIfInBounds_toArray, List.set_cons_zero, List.set_cons_succ]
            refine steps_head rfl (.bool true) (.inl ⟨rfl, fun w' hw => ?_⟩) ?_
            focus
              obtain ⟨z0, z1, z2, z3, z4⟩ := HF.out w' hw
              show (execOp _ _).run Tryd.prog w' = _
              go_simp
            try simp only [Act.put, List.setIfInBounds_toArray, List.set_cons_zero, List.set_cons_succ]
            refine steps_head rfl (.bool true) (.inl ⟨rfl, fun w' hw => ?_⟩) ?_
            focus
              obtain ⟨z0, z1, z2, z3, z4⟩ := HF.out w' hw
              show (execOp _ _).run Tryd.prog w' = _
              go_simp
            try simp only [Act.put, List.setIfInBounds_toArray, List.set_cons_zero, List.set_cons_succ]
            refine steps_head rfl (.bool true) (.inl ⟨rfl, fun w' hw => ?_⟩) ?_
            focus
              obtain ⟨z0, z1, z2, z3, z4⟩ := HF.out w' hw
              show (execOp _ _).run Tryd.prog w' = _
              go_simp
            try simp only [Act.put, List.setIfInBounds_toArray, List.set_cons_zero, List.set_cons_succ]
            refine steps_nil ?_
            go_wp2
            exact Ends.mk ⟨rfl, H7.out⟩
          case imp =>
            intro w7 h7
            have HJ7 := Lib.hid h7
            clear h7 HF HX1 HJ1 HJ4
            obtain ⟨lva, hra⟩ := HJ7.out.s
            obtain ⟨lvb, hrb⟩ := HJ7.out.r
            have HAl := Lib.hid (alike_calls b c lva lvb S w7 hra hrb HJ7.out.ok)
            clear hra hrb
            go_wp2_with (go_at_call 24; refine HAl.out.mono ?_; rintro e w8 ⟨rfl, h1⟩; have H8 := Lib.hid (HJ7.out.below h1); clear h1)
            go_roundw
            case rel => exact ⟨k + 1, b, c, _, by omega, by go_num, rfl, rfl, H8⟩
            case measure => simp [intOf]; omega
        · skip
          have hvv : 0 ≤ dom ∧ dom ≤ 1 ∧ 0 ≤ ab ∧ ab < 32 := by omega
          have HVV := Lib.hid hvv
          have HRB := Lib.hid (fun W (hW : VR w b c S W) => by have h9 := HRA.out W hW; rw [if_pos HVV.out] at h9; exact h9)
          clear hvv HRA
          have eaa : (allowB S dom ab val == allowB S dom ab val) = true := by simp
          go_wp2_with (go_at_call 14; refine (HRB.out _ HJ1.out).mono ?_; rintro e w4 ⟨A4, n4, c4, lk4, inh4, rfl, h1⟩; have hb4 := h1.alloc h1.size (.cells #[.slice A4 n4 c4, .bool lk4, .bool inh4] 38); have HJ4 := Lib.hid (And.intro (HJ1.out.below hb4) ((hb4.block _ (Array.getElem?_eq_some_iff.1 HX1.out).1).trans HX1.out)); obtain ⟨z0, z1, z2, z3, z4⟩ := five_cells HJ4.out.2; clear h1 hb4)
          generalize w4.alloc (.cells #[.slice A4 n4 c4, .bool lk4, .bool inh4] 38) = W5 at *
          have hx6 := HJ4.out.2
          have HF := Lib.hid (show ∀ w' : World, w'.heap[wr.heap.size]? = W5.heap[wr.heap.size]? → _ from fun w' hw => five_cells (hw.trans hx6))
          clear hx6 z0 z1 z2 z3 z4 q0 q1 q2 q3 q4
          apply Ends.const (F := fun w' => VR w b c S w')
          case walk =>
            refine wp_region_steps 30 [(true, 0), (true, 1), (true, 2), (true, 3), (true, 4), (true, 5), (true, 6), (true, 8), (true, 9), (true, 10), (true, 11), (true, 12), (true, 13), (true, 14), (false, 7), (false, 15), (true, 16), (true, 17), (true, 18), (true, 20), (true, 19), (true, 21), (true, 22), (true, 23), (true, 24), (true, 25), (true, 26), (true, 27), (true, 28), (true, 29)] (fun w' => w'.heap[wr.heap.size]? = W5.heap[wr.heap.size]?) (by rfl) (by kernel_rfl) (fun _ _ _ _ _ h => h) rfl ?_
            refine steps_head rfl (.pointer (some ⟨b, 0, none⟩)) (.inl ⟨rfl, fun w' hw => ?_⟩) ?_
            focus
              obtain ⟨z0, z1, z2, z3, z4⟩ := HF.out w' hw
              show (execOp _ _).run Tryd.prog w' = _
              go_simp
            try simp only [Act.put, List.setIfInBounds_toArray, List.set_cons_zero, List.set_cons_succ]
            refine steps_head rfl (.pointer (some ⟨wr.heap.size, 2, none⟩)) (.inl ⟨rfl, fun w' hw => ?_⟩) ?_
            focus
              obtain ⟨z0, z1, z2, z3, z4⟩ := HF.out w' hw
              show (execOp _ _).run Tryd.prog w' = _
              go_simp
            try simp only [Act.put, List.setIfInBounds_toArray, List.set_cons_zero, List.set_cons_succ]
            refine steps_head rfl (.int .i64 dom) (.inl ⟨rfl, fun w' hw => ?_⟩) ?_
            focus
              obtain ⟨z0, z1, z2, z3, z4⟩ := HF.out w' hw
              show (execOp _ _).run Tryd.prog w' = _
              go_simp
            try simp only [Act.put, List.setIfInBounds_toArray, List.set_cons_zero, List.set_cons_succ]
            refine steps_head rfl (.pointer (some ⟨wr.heap.size, 3, none⟩)) (.inl ⟨rfl, fun w' hw => ?_⟩) ?_
            focus
              obtain ⟨z0, z1, z2, z3, z4⟩ := HF.out w' hw
              show (execOp _ _).run Tryd.prog w' = _
              go_simp
            try simp only [Act.put, List.setIfInBounds_toArray, List.set_cons_zero, List.set_cons_succ]
            refine steps_head rfl (.int .i64 ab) (.inl ⟨rfl, fun w' hw => ?_⟩) ?_
            focus
              obtain ⟨z0, z1, z2, z3, z4⟩ := HF.out w' hw
              show (execOp _ _).run Tryd.prog w' = _
              go_simp
            try simp only [Act.put, List.setIfInBounds_toArray, List.set_cons_zero, List.set_cons_succ]
            refine steps_head rfl (.pointer (some ⟨wr.heap.size, 4, none⟩)) (.inl ⟨rfl, fun w' hw => ?_⟩) ?_
            focus
              obtain ⟨z0, z1, z2, z3, z4⟩ := HF.out w' hw
              show (execOp _ _).run Tryd.prog w' = _
              go_simp
            try simp only [Act.put, List.setIfInBounds_toArray, List.set_cons_zero, List.set_cons_succ]
            refine steps_head rfl (.int .i64 val) (.inl ⟨rfl, fun w' hw => ?_⟩) ?_
            focus
              obtain ⟨z0, z1, z2, z3, z4⟩ := HF.out w' hw
              show (execOp _ _).run Tryd.prog w' = _
              go_simp
            try simp only [Act.put, List.setIfInBounds_toArray, List.set_cons_zero, List.set_cons_succ]
            refine steps_head rfl (.pointer (some ⟨c, 0, none⟩)) (.inl ⟨rfl, fun w' hw => ?_⟩) ?_
            focus
              obtain ⟨z0, z1, z2, z3, z4⟩ := HF.out w' hw
              show (execOp _ _).run Tryd.prog w' = _
              go_simp
            try simp only [Act.put, List.setIfInBounds_toArray, List.set_cons_zero, List.set_cons_succ]
            refine steps_head rfl (.pointer (some ⟨wr.heap.size, 2, none⟩)) (.inl ⟨rfl, fun w' hw => ?_⟩) ?_
            focus
              obtain ⟨z0, z1, z2, z3, z4⟩ := HF.out w' hw
              show (execOp _ _).run Tryd.prog w' = _
              go_simp
            try simp only [Act.put, List.setIfInBounds_toArray, List.set_cons_zero, List.set_cons_succ]
            refine steps_head rfl (.int .i64 dom) (.inl ⟨rfl, fun w' hw => ?_⟩) ?_
            focus
              obtain ⟨z0, z1, z2, z3, z4⟩ := HF.out w' hw
              show (execOp _ _).run Tryd.prog w' = _
              go_simp
            try simp only [Act.put, List.setIfInBounds_toArray, List.set_cons_zero, List.set_cons_succ]
            refine steps_head rfl (.pointer (some ⟨wr.heap.size, 3, none⟩)) (.inl ⟨rfl, fun w' hw => ?_⟩) ?_
            focus
              obtain ⟨z0, z1, z2, z3, z4⟩ := HF.out w' hw
              show (execOp _ _).run Tryd.prog w' = _
              go_simp
            try simp only [Act.put, List.setIfInBounds_toArray, List.set_cons_zero, List.set_cons_succ]
            refine steps_head rfl (.int .i64 ab) (.inl ⟨rfl, fun w' hw => ?_⟩) ?_
            focus
              obtain ⟨z0, z1, z2, z3, z4⟩ := HF.out w' hw
              show (execOp _ _).run Tryd.prog w' = _
              go_simp
            try simp only [Act.put, List.setIfInBounds_toArray, List.set_cons_zero, List.set_cons_succ]
            refine steps_head rfl (.pointer (some ⟨wr.heap.size, 4, none⟩)) (.inl ⟨rfl, fun w' hw => ?_⟩) ?_
            focus
              obtain ⟨z0, z1, z2, z3, z4⟩ := HF.out w' hw
              show (execOp _ _).run Tryd.prog w' = _
              go_simp
            try simp only [Act.put, List.setIfInBounds_toArray, List.set_cons_zero, List.set_cons_succ]
            refine steps_head rfl (.int .i64 val) (.inl ⟨rfl, fun w' hw => ?_⟩) ?_
            focus
              obtain ⟨z0, z1, z2, z3, z4⟩ := HF.out w' hw
              show (execOp _ _).run Tryd.prog w' = _
              go_simp
            try simp only [Act.put, List.setIfInBounds_toArray, List.set_cons_zero, List.set_cons_succ]
            refine steps_mid rfl fun K hK => ?_
            obtain ⟨lva, hra⟩ := (HJ4.out.1.below (Below.drew (Below.refl _ _))).s
            refine if_wanted rfl (step_call 20 _ _ rfl (fun _ _ => rfl) [.pointer (some ⟨b, 0, none⟩), .int .i64 dom, .int .i64 ab, .int .i64 val] rfl (allowed_calls b lva S dom ab val W5.drew hra HJ4.out.1.ok) ?_)
            rintro e w6 ⟨rfl, h2⟩
            have hk6 : w6.heap[wr.heap.size]? = W5.heap[wr.heap.size]? := h2.block _ (Array.getElem?_eq_some_iff.1 HJ4.out.2).1
            refine ⟨_, rfl, hK _ _ hk6 ?_⟩
            clear hK K
            have H6 := Lib.hid (And.intro (VR.below (HJ4.out.1.below (Below.drew (Below.refl _ _))) h2) hk6)
            clear h2 hk6 hra
            try simp only [Act.put, List.setIfInBounds_toArray, List.set_cons_zero, List.set_cons_succ]
            refine steps_mid rfl fun K hK => ?_
            obtain ⟨lva, hra⟩ := H6.out.1.r
            refine if_wanted rfl (step_call 21 _ _ rfl (fun _ _ => rfl) [.pointer (some ⟨c, 0, none⟩), .int .i64 dom, .int .i64 ab, .int .i64 val] rfl (rallowed_calls c lva S dom ab val w6 hra HJ4.out.1.ok) ?_)
            rintro e w7 ⟨rfl, h2⟩
            have hk7 : w7.heap[wr.heap.size]? = W5.heap[wr.heap.size]? := (h2.block _ (Array.getElem?_eq_some_iff.1 (H6.out.2.trans HJ4.out.2)).1).trans H6.out.2
            refine ⟨_, rfl, hK _ _ hk7 ?_⟩
            clear hK K
            have H7 := Lib.hid (H6.out.1.below h2)
            clear h2 hk7 hra
            try simp only [Act.put, List.setIfInBounds_toArray, List.set_cons_zero, List.set_cons_succ]
            refine steps_head rfl (.bool true) (.inl ⟨rfl, fun w' hw => ?_⟩) ?_
            focus
              obtain ⟨z0, z1, z2, z3, z4⟩ := HF.out w' hw
              show (execOp _ _).run Tryd.prog w' = _
              go_simp
            try simp only [Act.put, List.setIfInBounds_toArray, List.set_cons_zero, List.set_cons_succ]
            refine steps_head rfl (.bool true) (.inl ⟨rfl, fun w' hw => ?_⟩) ?_
            focus
              obtain ⟨z0, z1, z2, z3, z4⟩ := HF.out w' hw
              show (execOp _ _).run Tryd.prog w' = _
              go_simp
            try simp only [Act.put, List.setIfInBounds_toArray, List.set_cons_zero, List.set_cons_succ]
            refine steps_head rfl (.int .i64 0) (.inl ⟨rfl, fun w' hw => ?_⟩) ?_
            focus
              obtain ⟨z0, z1, z2, z3, z4⟩ := HF.out w' hw
              show (execOp _ _).run Tryd.prog w' = _
              go_simp
            try simp only [Act.put, List.setIfInBounds_toArray, List.set_cons_zero, List.set_cons_succ]
            refine steps_head rfl (.bool true) (.inl ⟨rfl, fun w' hw => ?_⟩) ?_
            focus
              obtain ⟨z0, z1, z2, z3, z4⟩ := HF.out w' hw
              show (execOp _ _).run Tryd.prog w' = _
              go_simp
            try simp only [Act.put, List.setIfInBounds_toArray, List.set_cons_zero, List.set_cons_succ]
            refine steps_head rfl (.bool true) (.inl ⟨rfl, fun w' hw => ?_⟩) ?_
            focus
              obtain ⟨z0, z1, z2, z3, z4⟩ := HF.out w' hw
              show (execOp _ _).run Tryd.prog w' = _
              go_simp
            try simp only [Act.put, List.setIfInBounds_toArray, List.set_cons_zero, List.set_cons_succ]
            refine steps_head rfl (.bool true) (.inl ⟨rfl, fun w' hw => ?_⟩) ?_
            focus
              obtain ⟨z0, z1, z2, z3, z4⟩ := HF.out w' hw
              show (execOp _ _).run Tryd.prog w' = _
              go_simp
            try simp only [Act.put, List.setIfInBounds_toArray, List.set_cons_zero, List.set_cons_succ]
            refine steps_head rfl (.bool true) (.inl ⟨rfl, fun w' hw => ?_⟩) ?_
            focus
              obtain ⟨z0, z1, z2, z3, z4⟩ := HF.out w' hw
              show (execOp _ _).run Tryd.prog w' = _
              go_simp
            try simp only [Act.put, List.setIfInBounds_toArray, List.set_cons_zero, List.set_cons_succ]
            refine steps_head rfl (.bool true) (.inl ⟨rfl, fun w' hw => ?_⟩) ?_
            focus
              obtain ⟨z0, z1, z2, z3, z4⟩ := HF.out w' hw
              show (execOp _ _).run Tryd.prog w' = _
              go_simp
            try simp only [Act.put, List.setIfInBounds_toArray, List.set_cons_zero, List.set_cons_succ]
            refine steps_head rfl (.bool true) (.inl ⟨rfl, fun w' hw => ?_⟩) ?_
            focus
              obtain ⟨z0, z1, z2, z3, z4⟩ := HF.out w' hw
              show (execOp _ _).run Tryd.prog w' = _
              go_simp
            try simp only [Act.put, List.setIfInBounds_toArray, List.set_cons_zero, List.set_cons_succ]
            refine steps_head rfl (.bool true) (.inl ⟨rfl, fun w' hw => ?_⟩) ?_
            focus
              obtain ⟨z0, z1, z2, z3, z4⟩ := HF.out w' hw
              show (execOp _ _).run Tryd.prog w' = _
              go_simp
            try simp only [Act.put, List.setIfInBounds_toArray, List.set_cons_zero, List.set_cons_succ]
            refine steps_head rfl undef (.inr ⟨rfl, rfl⟩) ?_
            try simp only [Act.put, List.setIfInBounds_toArray, List.set_cons_zero, List.set_cons_succ]
            refine steps_head rfl undef (.inr ⟨rfl, rfl⟩) ?_
            try simp only [Act.put, List.setIfInBounds_toArray, List.set_cons_zero, List.set_cons_succ]
            refine steps_head rfl (.bool true) (.inl ⟨rfl, fun w' hw => ?_⟩) ?_
            focus
              obtain ⟨z0, z1, z2, z3, z4⟩ := HF.out w' hw
              show (execOp _ _).run Tryd.prog w' = _
              go_simp
            try simp only [Act.put, List.setIfInBounds_toArray, List.set_cons_zero, List.set_cons_succ]
            refine steps_head rfl (.bool true) (.inl ⟨rfl, fun w' hw => ?_⟩) ?_
            focus
              obtain ⟨z0, z1, z2, z3, z4⟩ := HF.out w' hw
              show (execOp _ _).run Tryd.prog w' = _
              go_simp
            try simp only [Act.put, List.setIfInBounds_toArray, List.set_cons_zero, List.set_cons_succ]
            refine steps_nil ?_
            go_wp2
            exact Ends.mk ⟨rfl, H7.out⟩
          case imp =>
            intro w7 h7
            have HJ7 := Lib.hid h7
            clear h7 HF HX1 HJ1 HJ4
            obtain ⟨lva, hra⟩ := HJ7.out.s
            obtain ⟨lvb, hrb⟩ := HJ7.out.r
            have HAl := Lib.hid (alike_calls b c lva lvb S w7 hra hrb HJ7.out.ok)
            clear hra hrb
            go_wp2_with (go_at_call 24; refine HAl.out.mono ?_; rintro e w8 ⟨rfl, h1⟩; have H8 := Lib.hid (HJ7.out.below h1); clear h1)
            go_roundw
            case rel => exact ⟨k + 1, b, c, _, by omega, by go_num, rfl, rfl, H8⟩
            case measure => simp [intOf]; omega
      · skip
        have hk0 : (dk % 4 == 0) = false := by simp; omega
        have hk1 : (dk % 4 == 1) = false := by simp; omega
        have hk2 : (dk % 4 == 2) = false := by simp; omega
        clear h0 h1 h2
        have hst := applyC_state2 S denyOp
        have HDp := Lib.hid (fun W cb lv v' (hr : RArr 64 77 43 W cb lv S) (hE : EffAt W) (ho : Os W v' [denyOp]) => set_apply_calls cb lv S v' [denyOp] W hE hr HJ1.out.ok ho)
        generalize applyC S [denyOp] = CC at *
        go_wp2_with (first
          | (go_at_call 22; obtain ⟨lva, hra⟩ := HJ1.out.s; refine (set_copy_calls b lva S _ hra HJ1.out.ok).mono ?_; rintro e w4 ⟨cb, rfl, h1, ⟨lvc, h2⟩, h3⟩; have H4 := Lib.hid (And.intro (HJ1.out.below h3) (And.intro h2 h1)); clear h1 h2 h3 hra)
          | (go_at_call 15; obtain ⟨lva, hra⟩ := H4.out.1.s; refine (set_child_calls b lva S w4 hra HJ1.out.ok).mono ?_; rintro e w5 ⟨b5, rfl, h1, ⟨lv5, h2⟩, h3⟩; have H5 := Lib.hid (And.intro (H4.out.1.below h3) (And.intro h2 (And.intro h1 (And.intro h3 (H4.out.2.1.below h3))))); clear h1 h2 h3 hra)
          | (go_at_call 23; obtain ⟨lva, hra⟩ := H5.out.1.r; refine (rchild_calls c lva S w5 hra).mono ?_; rintro e w6 ⟨c6, rfl, h1, ⟨lv6, h2⟩, h3⟩; have H6 := Lib.hid (And.intro (VR.child H4.out.1 H5.out.2.1 (Nat.le_of_lt H5.out.2.2.1) H5.out.2.2.2.1 h2 h1 h3) (And.intro (H5.out.2.2.2.2.below h3) (os_new w6 [denyOp] (by simp [maxLen])))); have hcb := H4.out.2.2; have hcb2 := H4.out.2.1.lt; have hb5 := H5.out.2.2.1; have hcn : b5 ≠ cb := (by omega); have h8 := HJ1.out.bel.size; have hge9 : w.heap.size < cb := Nat.lt_of_le_of_lt h8 hcb; have HCN := Lib.hid (And.intro hcn hge9); clear h1 h2 h3 hra hcb hcb2 hb5 hcn)
          | (go_at_call 11; refine (HDp.out _ cb _ _ (H6.out.2.1.below ((Below.refl w6.heap.size w6).alloc (Nat.le_refl _) _)) (HA.out.2.1.below (H6.out.1.bel.alloc H6.out.1.bel.size _)).eff H6.out.2.2).mono ?_; rintro e w7 ⟨rfl, lv7, h1, h2⟩; have HJ7 := Lib.hid (VR.copied (H6.out.1.below ((Below.refl w6.heap.size w6).alloc (Nat.le_refl _) (.cells (ocells [denyOp]).toArray 35))) (H6.out.2.1.below ((Below.refl w6.heap.size w6).alloc (Nat.le_refl _) (.cells (ocells [denyOp]).toArray 35))) HCN.out.1 (Nat.le_of_lt HCN.out.2) h2); clear h1 h2))
        clear H4 H5 H6
        obtain ⟨lva, hra⟩ := HJ7.out.s
        obtain ⟨lvb, hrb⟩ := HJ7.out.r
        have HAl := Lib.hid (alike_calls b5 c6 lva lvb (childS S) w7 hra hrb HJ7.out.ok)
        clear hra hrb
        go_wp2_with (go_at_call 24; refine HAl.out.mono ?_; rintro e w8 ⟨rfl, h1⟩; have H8 := Lib.hid (HJ7.out.below h1); clear h1)
        go_roundw
        case rel => exact ⟨k + 1, b5, c6, _, by omega, by go_num, rfl, rfl, H8⟩
        case measure => simp [intOf]; omega
    · obtain rfl : k = l.length := by omega
      go_wp2_with (go_at_call 9; refine (awake_calls _ (HA.out.2.1.below HJ.out.bel)).mono ?_; rintro e w9 ⟨rfl, h1⟩; have H9 := Lib.hid (HJ.out.bel.trans (h1.mono HJ.out.bel.size)); clear h1)
      go_ret
      exact ⟨rfl, H9.out⟩
end Go.Proofs.YthccppldpfddjaaDoor

