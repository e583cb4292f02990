/- AbilitiesLimits (7): the whole law, for every list of acts on limits. -/
import Derived.Test.YthccppldpfddjaaDoorL13
import Derived.Test.YthccppldpfddjaaDoorStp
namespace Go.Proofs.YthccppldpfddjaaDoor
open Go.RowKit
set_option linter.unusedVariables false
structure LJ (w : World) (b1 b2 : Nat) (L : Lims) (W : World) : Prop where
  bel : Below w.heap.size w W
  p : PL W b1 L
  r : RL W b2 L
  ok : LimOk L
  ge : w.heap.size ≤ b1 ∧ w.heap.size ≤ b2
theorem LJ.below {w : World} {b1 b2 : Nat} {L : Lims} {W W' : World} (h : LJ w b1 b2 L W) (hb : Below W.heap.size W W') : LJ w b1 b2 L W' :=
  ⟨h.bel.trans (hb.mono h.bel.size), h.p.keep (hb.block _ h.p.lt), h.r.keep (hb.block _ h.r.lt), h.ok, h.ge⟩
theorem LJ.ne {w : World} {b1 b2 : Nat} {L : Lims} {W : World} (h : LJ w b1 b2 L W) : b1 ≠ b2 := by
  rintro rfl
  obtain ⟨cs, h1, -⟩ := h.p
  obtain ⟨ds, h2, -⟩ := h.r
  rw [h1] at h2
  cases h2
theorem LJ.refs {w : World} {b1 b2 : Nat} {L L' : Lims} {W W1 : World} {c : Int} {e : Ending} (h : LJ w b1 b2 L W) (h1 : LPost W b1 c L' e W1) : RL W1 b2 L :=
  h.r.keep (h1.2.2.block _ h.r.lt (by have := h.ne; simp; omega))
theorem LJ.two {w : World} {b1 b2 : Nat} {L L' : Lims} {W W1 W2 : World} {c c2 : Int} {e e2 : Ending} (h : LJ w b1 b2 L W) (h1 : LPost W b1 c L' e W1) (h2 : RPost W1 b2 c2 L' e2 W2) (ho : LimOk L') : LJ w b1 b2 L' W2 := by
  have hn := h.ne
  obtain ⟨g1, g2⟩ := h.ge
  have hb1 := h.bel.grown h1.2.2 h.bel.size (fun k hk => by cases hk; exact g1)
  exact ⟨hb1.grown h2.2.2 hb1.size (fun k hk => by cases hk; exact g2), h1.2.1.keep (h2.2.2.block _ h1.2.1.lt (by simp; omega)), h2.2.1, ho, g1, g2⟩
theorem LJ.child {w : World} {b1 b2 : Nat} {L : Lims} {W W1 W2 : World} (h : LJ w b1 b2 L W) {c1 c2 : Nat} (h1 : W.heap.size ≤ c1) (p1 : PL W1 c1 (childL L)) (k1 : Below W.heap.size W W1) (h2 : W1.heap.size ≤ c2) (p2 : RL W2 c2 (childL L)) (k2 : Below W1.heap.size W1 W2) : LJ w c1 c2 (childL L) W2 := by
  have hs := h.bel.size
  have hs1 := k1.size
  exact ⟨h.bel.trans ((k1.trans (k2.mono hs1)).mono hs), p1.keep (k2.block _ p1.lt), p2, childL_ok h.ok, by omega, by omega⟩
set_option maxHeartbeats 32000000 in
set_option maxRecDepth 100000 in
theorem limits_law (l : List ActL) (v : Value) (w : World) (hv : Acts w v l) (hr : ∀ o ∈ l, 0 ≤ o.kind ∧ o.kind < 256) (hA : AwAt w) : Calls Tryd.prog 7 #[v] w fun e w' => e = .returned (.bool true) ∧ Below w.heap.size w w' := by
  obtain ⟨A, cap, rfl, -⟩ := id hv
  by_cases hlen : 100 < l.length
  · have hl : (100 : Int) < (l.length : Int) := by omega
    have HA := Lib.hid hA
    clear hv hlen hA hr
    go_enter Tryd.func7, Tryd.ntmps7
    go_wp2_with (go_at_call 9; refine (awake_calls _ HA.out).mono ?_; rintro e w1 ⟨rfl, h1⟩; have H1 := Lib.hid h1; clear h1)
    go_ret
    exact ⟨rfl, H1.out⟩
  · have hl : (l.length : Int) ≤ 100 := by omega
    have HA := Lib.hid (And.intro hv (And.intro hA hr))
    clear hv hA hlen hr
    go_enter Tryd.func7, Tryd.ntmps7
    go_wp2_with (first
      | (go_at_call 25; refine (newlimits_calls w).mono ?_; rintro e w1 ⟨rfl, h1, h2⟩; have H1 := Lib.hid (And.intro h1 h2); clear h1 h2)
      | (go_at_call 26; refine (rnewlimits_calls w1).mono ?_; rintro e w2 ⟨rfl, h1, h2⟩; have H2 := Lib.hid (And.intro h1 h2); clear h1 h2))
    have HJ0 := Lib.hid (show LJ w w.heap.size w1.heap.size Lims0 w2 from ⟨H1.out.2.trans (H2.out.2.mono H1.out.2.size), H1.out.1.keep (H2.out.2.block _ H1.out.1.lt), H2.out.1, Lims0_ok, Nat.le_refl _, H1.out.2.size⟩)
    go_loopw [21, 3, 4] (fun i x y wr => ∃ (k b1 b2 : Nat) (L : Lims), k ≤ l.length ∧ i = .int .i64 k ∧ x = .pointer (some ⟨b1, 0, none⟩) ∧ y = .pointer (some ⟨b2, 0, none⟩) ∧ Hid (LJ w b1 b2 L wr)) (fun i _ _ _ => l.length - (intOf i).toNat)
    case atStart => exact ⟨0, _, _, _, by omega, rfl, rfl, rfl, HJ0⟩
    case round =>
      clear HJ0
      obtain ⟨k, b1, b2, L, hk, rfl, rfl, rfl, HJ⟩ := hrel
      by_cases hlt : k < l.length
      · have hlt' : (k : Int) < (l.length : Int) := by omega
        obtain ⟨g, go, rfl, q0, q1, q2, q3, q4⟩ := Acts.at (HA.out.1.below HJ.out.bel) rfl hlt
        have hkr := HA.out.2.2 _ (List.getElem_mem hlt)
        generalize l[k] = o at *
        obtain ⟨ok, op, oroot, oa, ob⟩ := o
        simp only at q0 q1 q2 q3 q4 hkr
        by_cases h1 : ok % 4 = 1
        · skip
          have hk0 : (ok % 4 == 0) = false := by simp; omega
          have hk1 : (ok % 4 == 1) = true := by simpa using h1
          clear h1
          go_wp2
          have HJ1 := Lib.hid (LJ.below HJ.out ((Below.refl wr.heap.size wr).alloc (Nat.le_refl _) (.cells #[.int .u8 ok, .bool op, .int .i64 oroot, .int .i64 oa, .int .i64 ob] 63)))
          have hbx := heap_alloc_new wr (.cells #[.int .u8 ok, .bool op, .int .i64 oroot, .int .i64 oa, .int .i64 ob] 63)
          have hb12 : wr.heap.size ≠ b1 ∧ wr.heap.size ≠ b2 := ⟨by have := HJ.out.p.lt; omega, by have := HJ.out.r.lt; omega⟩
          generalize wr.alloc (.cells #[.int .u8 ok, .bool op, .int .i64 oroot, .int .i64 oa, .int .i64 ob] 63) = W3 at *
          have HF := Lib.hid (show ∀ w' : World, w'.heap[wr.heap.size]? = W3.heap[wr.heap.size]? → _ from fun w' hw => five_cells (hw.trans hbx))
          have HB := Lib.hid (And.intro hbx hb12)
          clear hbx hb12 q0 q1 q2 q3 q4
          apply Ends.const (F := fun w' => LJ w b1 b2 (useL L oroot oa) w')
          case walk =>
            refine wp_region_steps 12 [(true, 0), (true, 1), (true, 2), (true, 3), (true, 4), (true, 6), (true, 7), (true, 8), (true, 9), (true, 10), (false, 5), (false, 11)] (fun w' => w'.heap[wr.heap.size]? = W3.heap[wr.heap.size]?) (by rfl) (by kernel_rfl) (fun _ _ _ _ _ h => h) rfl ?_
            refine steps_head rfl (.pointer (some ⟨b1, 0, none⟩)) (.inl ⟨rfl, fun w' hw => ?_⟩) ?_
            focus
              obtain ⟨z0, z1, z2, z3, z4⟩ := HF.out w' hw
              show (execOp _ _).run Tryd.prog w' = _
              go_simp
            try simp only [Act.put, List.setIfInBounds_toArray, List.set_cons_zero, List.set_cons_succ]
            refine steps_head rfl (.pointer (some ⟨wr.heap.size, 2, none⟩)) (.inl ⟨rfl, fun w' hw => ?_⟩) ?_
            focus
              obtain ⟨z0, z1, z2, z3, z4⟩ := HF.out w' hw
              show (execOp _ _).run Tryd.prog w' = _
              go_simp
            try simp only [Act.put, List.setIfInBounds_toArray, List.set_cons_zero, List.set_cons_succ]
            refine steps_head rfl (.int .i64 oroot) (.inl ⟨rfl, fun w' hw => ?_⟩) ?_
            focus
              obtain ⟨z0, z1, z2, z3, z4⟩ := HF.out w' hw
              show (execOp _ _).run Tryd.prog w' = _
              go_simp
            try simp only [Act.put, List.setIfInBounds_toArray, List.set_cons_zero, List.set_cons_succ]
            refine steps_head rfl (.pointer (some ⟨wr.heap.size, 3, none⟩)) (.inl ⟨rfl, fun w' hw => ?_⟩) ?_
            focus
              obtain ⟨z0, z1, z2, z3, z4⟩ := HF.out w' hw
              show (execOp _ _).run Tryd.prog w' = _
              go_simp
            try simp only [Act.put, List.setIfInBounds_toArray, List.set_cons_zero, List.set_cons_succ]
            refine steps_head rfl (.int .i64 oa) (.inl ⟨rfl, fun w' hw => ?_⟩) ?_
            focus
              obtain ⟨z0, z1, z2, z3, z4⟩ := HF.out w' hw
              show (execOp _ _).run Tryd.prog w' = _
              go_simp
            try simp only [Act.put, List.setIfInBounds_toArray, List.set_cons_zero, List.set_cons_succ]
            refine steps_head rfl (.pointer (some ⟨b2, 0, none⟩)) (.inl ⟨rfl, fun w' hw => ?_⟩) ?_
            focus
              obtain ⟨z0, z1, z2, z3, z4⟩ := HF.out w' hw
              show (execOp _ _).run Tryd.prog w' = _
              go_simp
            try simp only [Act.put, List.setIfInBounds_toArray, List.set_cons_zero, List.set_cons_succ]
            refine steps_head rfl (.pointer (some ⟨wr.heap.size, 2, none⟩)) (.inl ⟨rfl, fun w' hw => ?_⟩) ?_
            focus
              obtain ⟨z0, z1, z2, z3, z4⟩ := HF.out w' hw
              show (execOp _ _).run Tryd.prog w' = _
              go_simp
            try simp only [Act.put, List.setIfInBounds_toArray, List.set_cons_zero, List.set_cons_succ]
            refine steps_head rfl (.int .i64 oroot) (.inl ⟨rfl, fun w' hw => ?_⟩) ?_
            focus
              obtain ⟨z0, z1, z2, z3, z4⟩ := HF.out w' hw
              show (execOp _ _).run Tryd.prog w' = _
              go_simp
            try simp only [Act.put, List.setIfInBounds_toArray, List.set_cons_zero, List.set_cons_succ]
            refine steps_head rfl (.pointer (some ⟨wr.heap.size, 3, none⟩)) (.inl ⟨rfl, fun w' hw => ?_⟩) ?_
            focus
              obtain ⟨z0, z1, z2, z3, z4⟩ := HF.out w' hw
              show (execOp _ _).run Tryd.prog w' = _
              go_simp
            try simp only [Act.put, List.setIfInBounds_toArray, List.set_cons_zero, List.set_cons_succ]
            refine steps_head rfl (.int .i64 oa) (.inl ⟨rfl, fun w' hw => ?_⟩) ?_
            focus
              obtain ⟨z0, z1, z2, z3, z4⟩ := HF.out w' hw
              show (execOp _ _).run Tryd.prog w' = _
              go_simp
            try simp only [Act.put, List.setIfInBounds_toArray, List.set_cons_zero, List.set_cons_succ]
            refine steps_mid rfl fun K hK => ?_
            refine if_wanted rfl (step_call 29 _ _ rfl (fun _ _ => rfl) [.pointer (some ⟨b1, 0, none⟩), .int .i64 oroot, .int .i64 oa] rfl (use_calls b1 L oroot oa W3.drew (HJ1.out.p.keep rfl) HJ1.out.ok) ?_)
            rintro e w5 h5
            obtain rfl := h5.1
            refine ⟨_, rfl, hK _ _ (h5.2.2.block _ (by have := (Array.getElem?_eq_some_iff.1 HB.out.1).1; exact this) (by have := HB.out.2.1; simp; omega)) ?_⟩
            clear hK K
            have H5 := Lib.hid h5
            clear h5
            try simp only [Act.put, List.setIfInBounds_toArray, List.set_cons_zero, List.set_cons_succ]
            refine steps_mid rfl fun K hK => ?_
            refine if_wanted rfl (step_call 30 _ _ rfl (fun _ _ => rfl) [.pointer (some ⟨b2, 0, none⟩), .int .i64 oroot, .int .i64 oa] rfl (ruse_calls b2 L oroot oa w5 ((HJ1.out.below (Below.drew (Below.refl _ _))).refs H5.out) HJ1.out.ok) ?_)
            rintro e w6 h6
            obtain rfl := h6.1
            refine ⟨_, rfl, hK _ _ ((h6.2.2.block _ (by have h7 := H5.out.2.2.size; have := (Array.getElem?_eq_some_iff.1 HB.out.1).1; exact Nat.lt_of_lt_of_le this h7) (by have := HB.out.2.2; simp; omega)).trans (H5.out.2.2.block _ (by have := (Array.getElem?_eq_some_iff.1 HB.out.1).1; exact this) (by have := HB.out.2.1; simp; omega))) ?_⟩
            clear hK K
            have H6 := Lib.hid (LJ.two (HJ1.out.below (Below.drew (Below.refl _ _))) H5.out h6 (useL_ok HJ1.out.ok _ _))
            clear h6
            try simp only [Act.put, List.setIfInBounds_toArray, List.set_cons_zero, List.set_cons_succ]
            refine steps_nil ?_
            go_wp2
            exact Ends.mk ⟨rfl, H6.out⟩
          case imp =>
            intro w6 h6
            have HJ6 := Lib.hid h6
            clear h6 HJ1 HB HF
            go_wp2
            go_loopw [8, 7] (fun i x wr => ∃ j : Nat, j ≤ 10 ∧ i = .int .i64 ((j : Int) - 1) ∧ x = .bool true ∧ Hid (LJ w b1 b2 (useL L oroot oa) wr)) (fun i _ _ => 10 - (intOf i + 1).toNat)
            case atStart => exact ⟨0, by omega, rfl, rfl, HJ6⟩
            case round =>
              clear HJ6
              obtain ⟨j, hj, rfl, rfl, HK⟩ := hrel
              by_cases hj0 : j = 0
              · subst hj0
                have HG := Lib.hid (get_bad b1 (-1) (by omega))
                go_wp2_with (go_at_call 35; refine (HG.out _).mono ?_; rintro e w7 ⟨rfl, rfl⟩)
                go_roundw
                case rel => exact ⟨1, by omega, by go_num, rfl, HK⟩
                case measure => simp [intOf]
              by_cases hj9 : j = 9
              · subst hj9
                have HG := Lib.hid (get_bad b1 8 (by omega))
                go_wp2_with (go_at_call 35; refine (HG.out _).mono ?_; rintro e w7 ⟨rfl, rfl⟩)
                go_roundw
                case rel => exact ⟨10, by omega, by go_num, rfl, HK⟩
                case measure => simp [intOf]
              by_cases hj10 : j = 10
              · subst hj10
                go_wp2
                go_roundw
                case rel => exact ⟨k + 1, b1, b2, _, by omega, by go_num, rfl, rfl, HK⟩
                case measure => simp [intOf]; omega
              obtain ⟨c, rfl⟩ : ∃ c, j = c + 1 := ⟨j - 1, by omega⟩
              have hc8 : c < 8 := by omega
              have hci : (c : Int) < 8 := by omega
              have hce : ((c + 1 : Nat) : Int) - 1 = (c : Int) := by omega
              have hcn : ((c : Int) == 8) = false := by simp; omega
              have hcz : decide ((c : Int) < 0) = false := by simp
              have HG := Lib.hid (get_ok b1 c _ hc8 wr HK.out.p)
              rw [hce]
              clear hce
              go_wp2_with (go_at_call 35; refine HG.out.mono ?_; rintro e w7 ⟨rfl, h7⟩; have HK7 := Lib.hid (HK.out.below h7); obtain ⟨d0, d1, d2⟩ := HK7.out.r.three hc8; clear h7)
              go_roundw
              case rel => exact ⟨c + 2, by omega, by go_num, rfl, HK7⟩
              case measure => simp [intOf]; omega
        have hx1 : ¬ ok % 4 = 1 := h1
        by_cases h2 : ok % 4 = 2
        · skip
          have hk0 : (ok % 4 == 0) = false := by simp; omega
          have hk1 : (ok % 4 == 1) = false := by simp; omega
          have hk2 : (ok % 4 == 2) = true := by simpa using h2
          clear h2
          go_wp2
          have HJ1 := Lib.hid (LJ.below HJ.out ((Below.refl wr.heap.size wr).alloc (Nat.le_refl _) (.cells #[.int .u8 ok, .bool op, .int .i64 oroot, .int .i64 oa, .int .i64 ob] 63)))
          have hbx := heap_alloc_new wr (.cells #[.int .u8 ok, .bool op, .int .i64 oroot, .int .i64 oa, .int .i64 ob] 63)
          have hb12 : wr.heap.size ≠ b1 ∧ wr.heap.size ≠ b2 := ⟨by have := HJ.out.p.lt; omega, by have := HJ.out.r.lt; omega⟩
          generalize wr.alloc (.cells #[.int .u8 ok, .bool op, .int .i64 oroot, .int .i64 oa, .int .i64 ob] 63) = W3 at *
          have HF := Lib.hid (show ∀ w' : World, w'.heap[wr.heap.size]? = W3.heap[wr.heap.size]? → _ from fun w' hw => five_cells (hw.trans hbx))
          have HB := Lib.hid (And.intro hbx hb12)
          clear hbx hb12 q0 q1 q2 q3 q4
          apply Ends.const (F := fun w' => LJ w b1 b2 (relL L oroot oa) w')
          case walk =>
            refine wp_region_steps 12 [(true, 0), (true, 1), (true, 2), (true, 3), (true, 4), (true, 6), (true, 7), (true, 8), (true, 9), (true, 10), (false, 5), (false, 11)] (fun w' => w'.heap[wr.heap.size]? = W3.heap[wr.heap.size]?) (by rfl) (by kernel_rfl) (fun _ _ _ _ _ h => h) rfl ?_
            refine steps_head rfl (.pointer (some ⟨b1, 0, none⟩)) (.inl ⟨rfl, fun w' hw => ?_⟩) ?_
            focus
              obtain ⟨z0, z1, z2, z3, z4⟩ := HF.out w' hw
              show (execOp _ _).run Tryd.prog w' = _
              go_simp
            try simp only [Act.put, List.setIfInBounds_toArray, List.set_cons_zero, List.set_cons_succ]
            refine steps_head rfl (.pointer (some ⟨wr.heap.size, 2, none⟩)) (.inl ⟨rfl, fun w' hw => ?_⟩) ?_
            focus
              obtain ⟨z0, z1, z2, z3, z4⟩ := HF.out w' hw
              show (execOp _ _).run Tryd.prog w' = _
              go_simp
            try simp only [Act.put, List.setIfInBounds_toArray, List.set_cons_zero, List.set_cons_succ]
            refine steps_head rfl (.int .i64 oroot) (.inl ⟨rfl, fun w' hw => ?_⟩) ?_
            focus
              obtain ⟨z0, z1, z2, z3, z4⟩ := HF.out w' hw
              show (execOp _ _).run Tryd.prog w' = _
              go_simp
            try simp only [Act.put, List.setIfInBounds_toArray, List.set_cons_zero, List.set_cons_succ]
            refine steps_head rfl (.pointer (some ⟨wr.heap.size, 3, none⟩)) (.inl ⟨rfl, fun w' hw => ?_⟩) ?_
            focus
              obtain ⟨z0, z1, z2, z3, z4⟩ := HF.out w' hw
              show (execOp _ _).run Tryd.prog w' = _
              go_simp
            try simp only [Act.put, List.setIfInBounds_toArray, List.set_cons_zero, List.set_cons_succ]
            refine steps_head rfl (.int .i64 oa) (.inl ⟨rfl, fun w' hw => ?_⟩) ?_
            focus
              obtain ⟨z0, z1, z2, z3, z4⟩ := HF.out w' hw
              show (execOp _ _).run Tryd.prog w' = _
              go_simp
            try simp only [Act.put, List.setIfInBounds_toArray, List.set_cons_zero, List.set_cons_succ]
            refine steps_head rfl (.pointer (some ⟨b2, 0, none⟩)) (.inl ⟨rfl, fun w' hw => ?_⟩) ?_
            focus
              obtain ⟨z0, z1, z2, z3, z4⟩ := HF.out w' hw
              show (execOp _ _).run Tryd.prog w' = _
              go_simp
            try simp only [Act.put, List.setIfInBounds_toArray, List.set_cons_zero, List.set_cons_succ]
            refine steps_head rfl (.pointer (some ⟨wr.heap.size, 2, none⟩)) (.inl ⟨rfl, fun w' hw => ?_⟩) ?_
            focus
              obtain ⟨z0, z1, z2, z3, z4⟩ := HF.out w' hw
              show (execOp _ _).run Tryd.prog w' = _
              go_simp
            try simp only [Act.put, List.setIfInBounds_toArray, List.set_cons_zero, List.set_cons_succ]
            refine steps_head rfl (.int .i64 oroot) (.inl ⟨rfl, fun w' hw => ?_⟩) ?_
            focus
              obtain ⟨z0, z1, z2, z3, z4⟩ := HF.out w' hw
              show (execOp _ _).run Tryd.prog w' = _
              go_simp
            try simp only [Act.put, List.setIfInBounds_toArray, List.set_cons_zero, List.set_cons_succ]
            refine steps_head rfl (.pointer (some ⟨wr.heap.size, 3, none⟩)) (.inl ⟨rfl, fun w' hw => ?_⟩) ?_
            focus
              obtain ⟨z0, z1, z2, z3, z4⟩ := HF.out w' hw
              show (execOp _ _).run Tryd.prog w' = _
              go_simp
            try simp only [Act.put, List.setIfInBounds_toArray, List.set_cons_zero, List.set_cons_succ]
            refine steps_head rfl (.int .i64 oa) (.inl ⟨rfl, fun w' hw => ?_⟩) ?_
            focus
              obtain ⟨z0, z1, z2, z3, z4⟩ := HF.out w' hw
              show (execOp _ _).run Tryd.prog w' = _
              go_simp
            try simp only [Act.put, List.setIfInBounds_toArray, List.set_cons_zero, List.set_cons_succ]
            refine steps_mid rfl fun K hK => ?_
            refine if_wanted rfl (step_call 31 _ _ rfl (fun _ _ => rfl) [.pointer (some ⟨b1, 0, none⟩), .int .i64 oroot, .int .i64 oa] rfl (rel_calls b1 L oroot oa W3.drew (HJ1.out.p.keep rfl) HJ1.out.ok) ?_)
            rintro e w5 h5
            obtain rfl := h5.1
            refine ⟨_, rfl, hK _ _ (h5.2.2.block _ (by have := (Array.getElem?_eq_some_iff.1 HB.out.1).1; exact this) (by have := HB.out.2.1; simp; omega)) ?_⟩
            clear hK K
            have H5 := Lib.hid h5
            clear h5
            try simp only [Act.put, List.setIfInBounds_toArray, List.set_cons_zero, List.set_cons_succ]
            refine steps_mid rfl fun K hK => ?_
            refine if_wanted rfl (step_call 32 _ _ rfl (fun _ _ => rfl) [.pointer (some ⟨b2, 0, none⟩), .int .i64 oroot, .int .i64 oa] rfl (rrel_calls b2 L oroot oa w5 ((HJ1.out.below (Below.drew (Below.refl _ _))).refs H5.out) HJ1.out.ok) ?_)
            rintro e w6 h6
            obtain rfl := h6.1
            refine ⟨_, rfl, hK _ _ ((h6.2.2.block _ (by have h7 := H5.out.2.2.size; have := (Array.getElem?_eq_some_iff.1 HB.out.1).1; exact Nat.lt_of_lt_of_le this h7) (by have := HB.out.2.2; simp; omega)).trans (H5.out.2.2.block _ (by have := (Array.getElem?_eq_some_iff.1 HB.out.1).1; exact this) (by have := HB.out.2.1; simp; omega))) ?_⟩
            clear hK K
            have H6 := Lib.hid (LJ.two (HJ1.out.below (Below.drew (Below.refl _ _))) H5.out h6 (relL_ok HJ1.out.ok _ _))
            clear h6
            try simp only [Act.put, List.setIfInBounds_toArray, List.set_cons_zero, List.set_cons_succ]
            refine steps_nil ?_
            go_wp2
            exact Ends.mk ⟨rfl, H6.out⟩
          case imp =>
            intro w6 h6
            have HJ6 := Lib.hid h6
            clear h6 HJ1 HB HF
            go_wp2
            go_loopw [8, 7] (fun i x wr => ∃ j : Nat, j ≤ 10 ∧ i = .int .i64 ((j : Int) - 1) ∧ x = .bool true ∧ Hid (LJ w b1 b2 (relL L oroot oa) wr)) (fun i _ _ => 10 - (intOf i + 1).toNat)
            case atStart => exact ⟨0, by omega, rfl, rfl, HJ6⟩
            case round =>
              clear HJ6
              obtain ⟨j, hj, rfl, rfl, HK⟩ := hrel
              by_cases hj0 : j = 0
              · subst hj0
                have HG := Lib.hid (get_bad b1 (-1) (by omega))
                go_wp2_with (go_at_call 35; refine (HG.out _).mono ?_; rintro e w7 ⟨rfl, rfl⟩)
                go_roundw
                case rel => exact ⟨1, by omega, by go_num, rfl, HK⟩
                case measure => simp [intOf]
              by_cases hj9 : j = 9
              · subst hj9
                have HG := Lib.hid (get_bad b1 8 (by omega))
                go_wp2_with (go_at_call 35; refine (HG.out _).mono ?_; rintro e w7 ⟨rfl, rfl⟩)
                go_roundw
                case rel => exact ⟨10, by omega, by go_num, rfl, HK⟩
                case measure => simp [intOf]
              by_cases hj10 : j = 10
              · subst hj10
                go_wp2
                go_roundw
                case rel => exact ⟨k + 1, b1, b2, _, by omega, by go_num, rfl, rfl, HK⟩
                case measure => simp [intOf]; omega
              obtain ⟨c, rfl⟩ : ∃ c, j = c + 1 := ⟨j - 1, by omega⟩
              have hc8 : c < 8 := by omega
              have hci : (c : Int) < 8 := by omega
              have hce : ((c + 1 : Nat) : Int) - 1 = (c : Int) := by omega
              have hcn : ((c : Int) == 8) = false := by simp; omega
              have hcz : decide ((c : Int) < 0) = false := by simp
              have HG := Lib.hid (get_ok b1 c _ hc8 wr HK.out.p)
              rw [hce]
              clear hce
              go_wp2_with (go_at_call 35; refine HG.out.mono ?_; rintro e w7 ⟨rfl, h7⟩; have HK7 := Lib.hid (HK.out.below h7); obtain ⟨d0, d1, d2⟩ := HK7.out.r.three hc8; clear h7)
              go_roundw
              case rel => exact ⟨c + 2, by omega, by go_num, rfl, HK7⟩
              case measure => simp [intOf]; omega
        have hx2 : ¬ ok % 4 = 2 := h2
        by_cases h0 : ok % 4 = 0
        · skip
          have hk0 : (ok % 4 == 0) = true := by simpa using h0
          clear h0
          go_wp2
          have HJ1 := Lib.hid (LJ.below HJ.out ((Below.refl wr.heap.size wr).alloc (Nat.le_refl _) (.cells #[.int .u8 ok, .bool op, .int .i64 oroot, .int .i64 oa, .int .i64 ob] 63)))
          have hbx := heap_alloc_new wr (.cells #[.int .u8 ok, .bool op, .int .i64 oroot, .int .i64 oa, .int .i64 ob] 63)
          have hb12 : wr.heap.size ≠ b1 ∧ wr.heap.size ≠ b2 := ⟨by have := HJ.out.p.lt; omega, by have := HJ.out.r.lt; omega⟩
          generalize wr.alloc (.cells #[.int .u8 ok, .bool op, .int .i64 oroot, .int .i64 oa, .int .i64 ob] 63) = W3 at *
          have HF := Lib.hid (show ∀ w' : World, w'.heap[wr.heap.size]? = W3.heap[wr.heap.size]? → _ from fun w' hw => five_cells (hw.trans hbx))
          have HB := Lib.hid (And.intro hbx hb12)
          clear hbx hb12 q0 q1 q2 q3 q4
          apply Ends.const (F := fun w' => LJ w b1 b2 (setL L op oroot oa ob) w')
          case walk =>
            refine wp_region_steps 20 [(true, 0), (true, 1), (true, 2), (true, 3), (true, 4), (true, 5), (true, 6), (true, 7), (true, 8), (true, 10), (true, 11), (true, 12), (true, 13), (true, 14), (true, 15), (true, 16), (true, 17), (true, 18), (false, 9), (false, 19)] (fun w' => w'.heap[wr.heap.size]? = W3.heap[wr.heap.size]?) (by rfl) (by kernel_rfl) (fun _ _ _ _ _ h => h) rfl ?_
            refine steps_head rfl (.pointer (some ⟨b1, 0, none⟩)) (.inl ⟨rfl, fun w' hw => ?_⟩) ?_
            focus
              obtain ⟨z0, z1, z2, z3, z4⟩ := HF.out w' hw
              show (execOp _ _).run Tryd.prog w' = _
              go_simp
            try simp only [Act.put, List.setIfInBounds_toArray, List.set_cons_zero, List.set_cons_succ]
            refine steps_head rfl (.pointer (some ⟨wr.heap.size, 1, none⟩)) (.inl ⟨rfl, fun w' hw => ?_⟩) ?_
            focus
              obtain ⟨z0, z1, z2, z3, z4⟩ := HF.out w' hw
              show (execOp _ _).run Tryd.prog w' = _
              go_simp
            try simp only [Act.put, List.setIfInBounds_toArray, List.set_cons_zero, List.set_cons_succ]
            refine steps_head rfl (.bool op) (.inl ⟨rfl, fun w' hw => ?_⟩) ?_
            focus
              obtain ⟨z0, z1, z2, z3, z4⟩ := HF.out w' hw
              show (execOp _ _).run Tryd.prog w' = _
              go_simp
            try simp only [Act.put, List.setIfInBounds_toArray, List.set_cons_zero, List.set_cons_succ]
            refine steps_head rfl (.pointer (some ⟨wr.heap.size, 2, none⟩)) (.inl ⟨rfl, fun w' hw => ?_⟩) ?_
            focus
              obtain ⟨z0, z1, z2, z3, z4⟩ := HF.out w' hw
              show (execOp _ _).run Tryd.prog w' = _
              go_simp
            try simp only [Act.put, List.setIfInBounds_toArray, List.set_cons_zero, List.set_cons_succ]
            refine steps_head rfl (.int .i64 oroot) (.inl ⟨rfl, fun w' hw => ?_⟩) ?_
            focus
              obtain ⟨z0, z1, z2, z3, z4⟩ := HF.out w' hw
              show (execOp _ _).run Tryd.prog w' = _
              go_simp
            try simp only [Act.put, List.setIfInBounds_toArray, List.set_cons_zero, List.set_cons_succ]
            refine steps_head rfl (.pointer (some ⟨wr.heap.size, 3, none⟩)) (.inl ⟨rfl, fun w' hw => ?_⟩) ?_
            focus
              obtain ⟨z0, z1, z2, z3, z4⟩ := HF.out w' hw
              show (execOp _ _).run Tryd.prog w' = _
              go_simp
            try simp only [Act.put, List.setIfInBounds_toArray, List.set_cons_zero, List.set_cons_succ]
            refine steps_head rfl (.int .i64 oa) (.inl ⟨rfl, fun w' hw => ?_⟩) ?_
            focus
              obtain ⟨z0, z1, z2, z3, z4⟩ := HF.out w' hw
              show (execOp _ _).run Tryd.prog w' = _
              go_simp
            try simp only [Act.put, List.setIfInBounds_toArray, List.set_cons_zero, List.set_cons_succ]
            refine steps_head rfl (.pointer (some ⟨wr.heap.size, 4, none⟩)) (.inl ⟨rfl, fun w' hw => ?_⟩) ?_
            focus
              obtain ⟨z0, z1, z2, z3, z4⟩ := HF.out w' hw
              show (execOp _ _).run Tryd.prog w' = _
              go_simp
            try simp only [Act.put, List.setIfInBounds_toArray, List.set_cons_zero, List.set_cons_succ]
            refine steps_head rfl (.int .i64 ob) (.inl ⟨rfl, fun w' hw => ?_⟩) ?_
            focus
              obtain ⟨z0, z1, z2, z3, z4⟩ := HF.out w' hw
              show (execOp _ _).run Tryd.prog w' = _
              go_simp
            try simp only [Act.put, List.setIfInBounds_toArray, List.set_cons_zero, List.set_cons_succ]
            refine steps_head rfl (.pointer (some ⟨b2, 0, none⟩)) (.inl ⟨rfl, fun w' hw => ?_⟩) ?_
            focus
              obtain ⟨z0, z1, z2, z3, z4⟩ := HF.out w' hw
              show (execOp _ _).run Tryd.prog w' = _
              go_simp
            try simp only [Act.put, List.setIfInBounds_toArray, List.set_cons_zero, List.set_cons_succ]
            refine steps_head rfl (.pointer (some ⟨wr.heap.size, 1, none⟩)) (.inl ⟨rfl, fun w' hw => ?_⟩) ?_
            focus
              obtain ⟨z0, z1, z2, z3, z4⟩ := HF.out w' hw
              show (execOp _ _).run Tryd.prog w' = _
              go_simp
            try simp only [Act.put, List.setIfInBounds_toArray, List.set_cons_zero, List.set_cons_succ]
            refine steps_head rfl (.bool op) (.inl ⟨rfl, fun w' hw => ?_⟩) ?_
            focus
              obtain ⟨z0, z1, z2, z3, z4⟩ := HF.out w' hw
              show (execOp _ _).run Tryd.prog w' = _
              go_simp
            try simp only [Act.put, List.setIfInBounds_toArray, List.set_cons_zero, List.set_cons_succ]
            refine steps_head rfl (.pointer (some ⟨wr.heap.size, 2, none⟩)) (.inl ⟨rfl, fun w' hw => ?_⟩) ?_
            focus
              obtain ⟨z0, z1, z2, z3, z4⟩ := HF.out w' hw
              show (execOp _ _).run Tryd.prog w' = _
              go_simp
            try simp only [Act.put, List.setIfInBounds_toArray, List.set_cons_zero, List.set_cons_succ]
            refine steps_head rfl (.int .i64 oroot) (.inl ⟨rfl, fun w' hw => ?_⟩) ?_
            focus
              obtain ⟨z0, z1, z2, z3, z4⟩ := HF.out w' hw
              show (execOp _ _).run Tryd.prog w' = _
              go_simp
            try simp only [Act.put, List.setIfInBounds_toArray, List.set_cons_zero, List.set_cons_succ]
            refine steps_head rfl (.pointer (some ⟨wr.heap.size, 3, none⟩)) (.inl ⟨rfl, fun w' hw => ?_⟩) ?_
            focus
              obtain ⟨z0, z1, z2, z3, z4⟩ := HF.out w' hw
              show (execOp _ _).run Tryd.prog w' = _
              go_simp
            try simp only [Act.put, List.setIfInBounds_toArray, List.set_cons_zero, List.set_cons_succ]
            refine steps_head rfl (.int .i64 oa) (.inl ⟨rfl, fun w' hw => ?_⟩) ?_
            focus
              obtain ⟨z0, z1, z2, z3, z4⟩ := HF.out w' hw
              show (execOp _ _).run Tryd.prog w' = _
              go_simp
            try simp only [Act.put, List.setIfInBounds_toArray, List.set_cons_zero, List.set_cons_succ]
            refine steps_head rfl (.pointer (some ⟨wr.heap.size, 4, none⟩)) (.inl ⟨rfl, fun w' hw => ?_⟩) ?_
            focus
              obtain ⟨z0, z1, z2, z3, z4⟩ := HF.out w' hw
              show (execOp _ _).run Tryd.prog w' = _
              go_simp
            try simp only [Act.put, List.setIfInBounds_toArray, List.set_cons_zero, List.set_cons_succ]
            refine steps_head rfl (.int .i64 ob) (.inl ⟨rfl, fun w' hw => ?_⟩) ?_
            focus
              obtain ⟨z0, z1, z2, z3, z4⟩ := HF.out w' hw
              show (execOp _ _).run Tryd.prog w' = _
              go_simp
            try simp only [Act.put, List.setIfInBounds_toArray, List.set_cons_zero, List.set_cons_succ]
            refine steps_mid rfl fun K hK => ?_
            refine if_wanted rfl (step_call 27 _ _ rfl (fun _ _ => rfl) [.pointer (some ⟨b1, 0, none⟩), .bool op, .int .i64 oroot, .int .i64 oa, .int .i64 ob] rfl (set_calls b1 L op oroot oa ob W3.drew (HJ1.out.p.keep rfl) HJ1.out.ok) ?_)
            rintro e w5 h5
            obtain rfl := h5.1
            refine ⟨_, rfl, hK _ _ (h5.2.2.block _ (by have := (Array.getElem?_eq_some_iff.1 HB.out.1).1; exact this) (by have := HB.out.2.1; simp; omega)) ?_⟩
            clear hK K
            have H5 := Lib.hid h5
            clear h5
            try simp only [Act.put, List.setIfInBounds_toArray, List.set_cons_zero, List.set_cons_succ]
            refine steps_mid rfl fun K hK => ?_
            refine if_wanted rfl (step_call 28 _ _ rfl (fun _ _ => rfl) [.pointer (some ⟨b2, 0, none⟩), .bool op, .int .i64 oroot, .int .i64 oa, .int .i64 ob] rfl (rset_calls b2 L op oroot oa ob w5 ((HJ1.out.below (Below.drew (Below.refl _ _))).refs H5.out) HJ1.out.ok) ?_)
            rintro e w6 h6
            obtain rfl := h6.1
            refine ⟨_, rfl, hK _ _ ((h6.2.2.block _ (by have h7 := H5.out.2.2.size; have := (Array.getElem?_eq_some_iff.1 HB.out.1).1; exact Nat.lt_of_lt_of_le this h7) (by have := HB.out.2.2; simp; omega)).trans (H5.out.2.2.block _ (by have := (Array.getElem?_eq_some_iff.1 HB.out.1).1; exact this) (by have := HB.out.2.1; simp; omega))) ?_⟩
            clear hK K
            have H6 := Lib.hid (LJ.two (HJ1.out.below (Below.drew (Below.refl _ _))) H5.out h6 (setL_ok HJ1.out.ok _ _ _ _))
            clear h6
            try simp only [Act.put, List.setIfInBounds_toArray, List.set_cons_zero, List.set_cons_succ]
            refine steps_nil ?_
            go_wp2
            exact Ends.mk ⟨rfl, H6.out⟩
          case imp =>
            intro w6 h6
            have HJ6 := Lib.hid h6
            clear h6 HJ1 HB HF
            go_wp2
            go_loopw [8, 7] (fun i x wr => ∃ j : Nat, j ≤ 10 ∧ i = .int .i64 ((j : Int) - 1) ∧ x = .bool true ∧ Hid (LJ w b1 b2 (setL L op oroot oa ob) wr)) (fun i _ _ => 10 - (intOf i + 1).toNat)
            case atStart => exact ⟨0, by omega, rfl, rfl, HJ6⟩
            case round =>
              clear HJ6
              obtain ⟨j, hj, rfl, rfl, HK⟩ := hrel
              by_cases hj0 : j = 0
              · subst hj0
                have HG := Lib.hid (get_bad b1 (-1) (by omega))
                go_wp2_with (go_at_call 35; refine (HG.out _).mono ?_; rintro e w7 ⟨rfl, rfl⟩)
                go_roundw
                case rel => exact ⟨1, by omega, by go_num, rfl, HK⟩
                case measure => simp [intOf]
              by_cases hj9 : j = 9
              · subst hj9
                have HG := Lib.hid (get_bad b1 8 (by omega))
                go_wp2_with (go_at_call 35; refine (HG.out _).mono ?_; rintro e w7 ⟨rfl, rfl⟩)
                go_roundw
                case rel => exact ⟨10, by omega, by go_num, rfl, HK⟩
                case measure => simp [intOf]
              by_cases hj10 : j = 10
              · subst hj10
                go_wp2
                go_roundw
                case rel => exact ⟨k + 1, b1, b2, _, by omega, by go_num, rfl, rfl, HK⟩
                case measure => simp [intOf]; omega
              obtain ⟨c, rfl⟩ : ∃ c, j = c + 1 := ⟨j - 1, by omega⟩
              have hc8 : c < 8 := by omega
              have hci : (c : Int) < 8 := by omega
              have hce : ((c + 1 : Nat) : Int) - 1 = (c : Int) := by omega
              have hcn : ((c : Int) == 8) = false := by simp; omega
              have hcz : decide ((c : Int) < 0) = false := by simp
              have HG := Lib.hid (get_ok b1 c _ hc8 wr HK.out.p)
              rw [hce]
              clear hce
              go_wp2_with (go_at_call 35; refine HG.out.mono ?_; rintro e w7 ⟨rfl, h7⟩; have HK7 := Lib.hid (HK.out.below h7); obtain ⟨d0, d1, d2⟩ := HK7.out.r.three hc8; clear h7)
              go_roundw
              case rel => exact ⟨c + 2, by omega, by go_num, rfl, HK7⟩
              case measure => simp [intOf]; omega
        have hx0 : ¬ ok % 4 = 0 := h0
        have hk0 : (ok % 4 == 0) = false := by simp; omega
        have hk1 : (ok % 4 == 1) = false := by simp; omega
        have hk2 : (ok % 4 == 2) = false := by simp; omega
        clear hx0 hx1 hx2 h0 h1 h2
        have HJ1 := Lib.hid (LJ.below HJ.out ((Below.refl wr.heap.size wr).alloc (Nat.le_refl _) (.cells #[.int .u8 ok, .bool op, .int .i64 oroot, .int .i64 oa, .int .i64 ob] 63)))
        go_wp2_with (first
          | (go_at_call 33; refine (climits_calls b1 L _ HJ1.out.p).mono ?_; rintro e w5 ⟨c1, rfl, h1, h2, h3⟩; have H5 := Lib.hid (And.intro h1 (And.intro h2 (And.intro h3 (HJ1.out.below h3)))); clear h1 h2 h3)
          | (go_at_call 34; refine (rclimits_calls b2 L _ H5.out.2.2.2.r).mono ?_; rintro e w6 ⟨c2, rfl, h1, h2, h3⟩; have HJ6 := Lib.hid (LJ.child HJ1.out H5.out.1 H5.out.2.1 H5.out.2.2.1 h1 h2 h3); clear h1 h2 h3))
        clear HJ1 H5
        go_loopw [8, 7] (fun i x wr => ∃ j : Nat, j ≤ 10 ∧ i = .int .i64 ((j : Int) - 1) ∧ x = .bool true ∧ Hid (LJ w c1 c2 (childL L) wr)) (fun i _ _ => 10 - (intOf i + 1).toNat)
        case atStart => exact ⟨0, by omega, rfl, rfl, HJ6⟩
        case round =>
          clear HJ6
          obtain ⟨j, hj, rfl, rfl, HK⟩ := hrel
          by_cases hj0 : j = 0
          · subst hj0
            have HG := Lib.hid (get_bad c1 (-1) (by omega))
            go_wp2_with (go_at_call 35; refine (HG.out _).mono ?_; rintro e w7 ⟨rfl, rfl⟩)
            go_roundw
            case rel => exact ⟨1, by omega, by go_num, rfl, HK⟩
            case measure => simp [intOf]
          by_cases hj9 : j = 9
          · subst hj9
            have HG := Lib.hid (get_bad c1 8 (by omega))
            go_wp2_with (go_at_call 35; refine (HG.out _).mono ?_; rintro e w7 ⟨rfl, rfl⟩)
            go_roundw
            case rel => exact ⟨10, by omega, by go_num, rfl, HK⟩
            case measure => simp [intOf]
          by_cases hj10 : j = 10
          · subst hj10
            go_wp2
            go_roundw
            case rel => exact ⟨k + 1, c1, c2, _, by omega, by go_num, rfl, rfl, HK⟩
            case measure => simp [intOf]; omega
          obtain ⟨c, rfl⟩ : ∃ c, j = c + 1 := ⟨j - 1, by omega⟩
          have hc8 : c < 8 := by omega
          have hci : (c : Int) < 8 := by omega
          have hce : ((c + 1 : Nat) : Int) - 1 = (c : Int) := by omega
          have hcn : ((c : Int) == 8) = false := by simp; omega
          have hcz : decide ((c : Int) < 0) = false := by simp
          have HG := Lib.hid (get_ok c1 c _ hc8 wr HK.out.p)
          rw [hce]
          clear hce
          go_wp2_with (go_at_call 35; refine HG.out.mono ?_; rintro e w7 ⟨rfl, h7⟩; have HK7 := Lib.hid (HK.out.below h7); obtain ⟨d0, d1, d2⟩ := HK7.out.r.three hc8; clear h7)
          go_roundw
          case rel => exact ⟨c + 2, by omega, by go_num, rfl, HK7⟩
          case measure => simp [intOf]; omega
      · obtain rfl : k = l.length := by omega
        go_wp2_with (go_at_call 9; refine (awake_calls _ (HA.out.2.1.below HJ.out.bel)).mono ?_; rintro e w9 ⟨rfl, h1⟩; have H9 := Lib.hid (HJ.out.bel.trans (h1.mono HJ.out.bel.size)); clear h1)
        go_ret
        exact ⟨rfl, H9.out⟩
end Go.Proofs.YthccppldpfddjaaDoor

