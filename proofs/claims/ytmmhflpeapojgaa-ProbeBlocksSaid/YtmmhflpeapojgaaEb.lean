import Derived.Test.YtmmhflpeapojgaaEa
import Derived.Deep.WholeRow
namespace Go.Proofs.Ytmmhflpeapojgaa
set_option linter.unusedVariables false
set_option linter.unusedSimpArgs false
open Go.RowKit Ieee
attribute [local go_sem] ints_get ints_size ints_getElem

theorem pw_order (l : List Nat) (k : Nat) (hk : k < np l) (j : Nat) (hj : j < 4) : fmtD.order ((pw l k).getD j 0) ((pw l k).getD j 0) = some .eq := by
  have hs : scode l = 0 := by
    unfold np at hk
    split at hk
    · assumption
    · omega
  have hlen : 4 * k + 4 ≤ l.length := by
    unfold np at hk
    rw [if_pos hs] at hk
    omega
  have e : (pw l k).getD j 0 = pwF l k j := by
    match j, hj with
    | 0, _ => simp [pw]
    | 1, _ => simp [pw]
    | 2, _ => simp [pw]
    | 3, _ => simp [pw]
  have hp := pre_bound (blk_bound (scode_good hs).2 hlen) (by omega) j 4
  rw [e]
  unfold pwF
  generalize pre (blk l k) j 4 = p at hp
  unfold Bd at hp
  have b1 := sqr_bound (a := p.1) (by omega)
  have b2 := sqr_bound (a := p.2) (by omega)
  have hv : V fmtD (F fmtD (sq p)) (sq p) := V_F fmtD_fine (smallD (by unfold sq; omega))
  rw [order_V hv hv]
  rcases cmp_cases (sq p) (sq p) with ⟨h, h'⟩ | ⟨h, h'⟩ | ⟨h, h'⟩
  · omega
  · rw [h]
  · omega
theorem dlist_len (l : List Nat) (f : Int) (h : l.length ≤ 300) : (dlist l f).length ≤ 300 := by
  unfold dlist
  split
  · rename_i hd
    have hf : 1 ≤ f.toNat := by
      unfold dcode at hd
      split at hd
      · contradiction
      · split at hd
        · simp at hd
        · omega
    rw [downK_len]
    generalize f.toNat = n at hf
    have : (l.length + n - 1) / n < 301 := by
      apply (Nat.div_lt_iff_lt_mul (by omega)).2
      have := Nat.mul_le_mul_left 300 hf
      rw [Nat.mul_comm] at this
      have h3 : 301 * n = 300 * n + n := Nat.succ_mul 300 n
      have h4 := Nat.mul_le_mul_right n (show l.length ≤ 300 from h)
      have h5 : l.length ≤ 300 * n := Nat.le_trans h (by omega)
      omega
    omega
  · simp
set_option maxHeartbeats 4000000 in
theorem blocks_law (A : Option Addr) (c : Nat) (l : List Nat) (f : Int) (w : World) (hC : FC w A l) (hlt : ∀ x ∈ l, x < 4294967296) (hl : l.length ≤ 9223372036854775807) (hcap : l.length ≤ c) (hcap2 : c ≤ 9223372036854775807) :
    Calls Try.prog 4 #[.slice A l.length c, .int .i64 f] w fun e w' => e = .returned (.bool true) ∧ Below w.heap.size w w' := by
  have HC := Lib.hid hC
  have HL := Lib.hid hlt
  clear hC hlt
  by_cases h1 : 300 < l.length
  · have h1' : (300 : Int) < (l.length : Int) := by omega
    go_enter Try.func4, Try.ntmps4
    go_wp2_with (go_at_call 6; refine (awake_calls _).mono ?_; rintro e w9 ⟨rfl, hd⟩; have HD := Lib.hid hd; clear hd)
    go_ret
    exact ⟨rfl, HD.out⟩
  · have h1' : ¬ (300 : Int) < (l.length : Int) := by omega
    have HNP : Hid (np l ≤ 75) := Lib.hid (by unfold np; split <;> omega)
    have HDL : Hid ((dlist l f).length ≤ 300) := Lib.hid (dlist_len l f (by omega))
    go_enter Try.func4, Try.ntmps4
    go_wp2_with (first
      | (go_at_call 12; refine (powers_calls A c l _ hl HC.out HL.out hcap hcap2).mono ?_; rintro e w1 hp; obtain ⟨v, rfl, hown, hd⟩ := hp; obtain ⟨B1, c1, rfl, hr1⟩ := own_open hown; have HD1 := Lib.hid hd; have HR1 := Lib.hid hr1; clear hd hown hr1)
      | (go_at_call 13; refine (rpowers_calls A c l _ hl (HC.out.below HD1.out)).mono ?_; rintro e w2 hp; obtain ⟨v, rfl, hown, hd⟩ := hp; obtain ⟨B2, c2, rfl, hr2⟩ := own_open hown; have HD2 := Lib.hid hd; have HR2 := Lib.hid hr2; clear hd hown hr2))
    go_loopw [9] (fun i wr => ∃ k : Nat, k ≤ np l ∧ i = .int .i64 k ∧ Hid (Below w2.heap.size w2 wr)) (fun i _ => np l - (intOf i).toNat)
    case atStart => exact ⟨0, Nat.zero_le _, rfl, Lib.hid (Below.refl _ _)⟩
    case round =>
      obtain ⟨k, hk, rfl, HK⟩ := hrel
      by_cases hlt : k < np l
      · have hlt' : (k : Int) < (np l : Int) := by omega
        have hk0 : (0 : Int) ≤ (k : Int) := by omega
        have hnp := HNP.out
        obtain ⟨g1, rfl, x0⟩ := HR1.out _ _ (pwK_get l _ k hlt 0 (by omega))
        obtain ⟨g2, rfl, y0⟩ := HR2.out _ _ (pwK_get l _ k hlt 0 (by omega))
        have hx : ∀ j, j < 4 → wr.cell? ⟨g1, k * 4 + j, none⟩ = some (.float .f64 ((pw l k).getD j 0)) := fun j hj => by
          obtain ⟨g, e, h⟩ := HR1.out _ _ (pwK_get l _ k hlt j hj)
          cases e
          have hb := below_then' HD2.out HK.out
          exact (hb.cell (World.block_lt_of_cell? _ _ h)).trans h
        have hy : ∀ j, j < 4 → wr.cell? ⟨g2, k * 4 + j, none⟩ = some (.float .f64 ((pw l k).getD j 0)) := fun j hj => by
          obtain ⟨g, e, h⟩ := HR2.out _ _ (pwK_get l _ k hlt j hj)
          cases e
          exact (HK.out.cell (World.block_lt_of_cell? _ _ h)).trans h
        have a0 := hx 0 (by omega)
        have a1 := hx 1 (by omega)
        have a2 := hx 2 (by omega)
        have a3 := hx 3 (by omega)
        have b0 := hy 0 (by omega)
        have b1 := hy 1 (by omega)
        have b2 := hy 2 (by omega)
        have b3 := hy 3 (by omega)
        have ho : ∀ j, j < 4 → FloatKind.f64.format.order ((pw l k).getD j 0) ((pw l k).getD j 0) = some .eq := fun j hj => pw_order l k hlt j hj
        have o0 := ho 0 (by omega)
        have o1 := ho 1 (by omega)
        have o2 := ho 2 (by omega)
        have o3 := ho 3 (by omega)
        generalize (pw l k).getD 0 0 = p0 at *
        generalize (pw l k).getD 1 0 = p1 at *
        generalize (pw l k).getD 2 0 = p2 at *
        generalize (pw l k).getD 3 0 = p3 at *
        have heq := equal44' 9998 p0 p1 p2 p3 o0 o1 o2 o3
        clear hx hy ho x0 y0 o0 o1 o2 o3
        rw [Nat.add_zero] at a0 b0
        go_wp2
        go_quiet (fail)
        go_wp2
        go_roundw
        case rel => exact ⟨k + 1, by omega, by go_num, Lib.hid (below_drewN HK.out _)⟩
        case measure => simp [intOf]; omega
      · obtain rfl : k = np l := by omega
        have hge : ¬ (np l : Int) < (np l : Int) := by omega
        have HFC := Lib.hid (HC.out.below (below_then' (below_then' HD1.out HD2.out) HK.out))
        have HB := Lib.hid (below_then' (below_then' HD1.out HD2.out) HK.out)
        go_wp2_with (first
          | (go_at_call 14; refine (down_calls A c l f _ hl HFC.out HL.out).mono ?_; rintro e w3 hp; obtain ⟨v, rfl, hown, hd⟩ := hp; obtain ⟨B3, c3, rfl, hr3⟩ := own_open hown; have HD3 := Lib.hid hd; have HR3 := Lib.hid hr3; clear hd hown hr3)
          | (go_at_call 15; refine (rdown_calls A c l f _ hl (HFC.out.below HD3.out) HL.out).mono ?_; rintro e w4 hp; obtain ⟨v, rfl, hown, hd⟩ := hp; obtain ⟨B4, c4, rfl, hr4⟩ := own_open hown; have HD4 := Lib.hid hd; have HR4 := Lib.hid hr4; clear hd hown hr4))
        have HB4 := Lib.hid (below_then' (below_then' HB.out HD3.out) HD4.out)
        go_loopw [12] (fun i wr => ∃ k : Nat, k ≤ (dlist l f).length ∧ i = .int .i64 k ∧ Hid (Below w4.heap.size w4 wr)) (fun i _ => (dlist l f).length - (intOf i).toNat)
        case atStart => exact ⟨0, Nat.zero_le _, rfl, Lib.hid (Below.refl _ _)⟩
        case round =>
          obtain ⟨k, hk, rfl, HK4⟩ := hrel
          by_cases hlt : k < (dlist l f).length
          · have hlt' : (k : Int) < ((dlist l f).length : Int) := by omega
            have hk0 : (0 : Int) ≤ (k : Int) := by omega
            have hdl := HDL.out
            obtain ⟨g3, rfl, x0⟩ := HR3.out _ _ (flts_get (dlist l f) k hlt)
            obtain ⟨g4, rfl, y0⟩ := HR4.out _ _ (flts_get (dlist l f) k hlt)
            have hb := below_then' HD4.out HK4.out
            have x1 := (hb.cell (World.block_lt_of_cell? _ _ x0)).trans x0
            have y1 := (HK4.out.cell (World.block_lt_of_cell? _ _ y0)).trans y0
            generalize (dlist l f).getD k 0 = x at *
            clear x0 y0 hb
            go_wp2
            go_quiet ((go_at_call 9; exact Calls.quiet_of_same ((bits_same x _).mono (fun e w' h => ⟨h.1, h.2.symm⟩))))
            go_wp2
            go_roundw
            case rel => exact ⟨k + 1, by omega, by go_num, Lib.hid (below_drewN HK4.out _)⟩
            case measure => simp [intOf]; omega
          · obtain rfl : k = (dlist l f).length := by omega
            have hge2 : ¬ ((dlist l f).length : Int) < ((dlist l f).length : Int) := by omega
            go_wp2_with (go_at_call 6; refine (awake_calls _).mono ?_; rintro e w9 ⟨rfl, hd⟩; have HD9 := Lib.hid (below_then' (below_then' HB4.out HK4.out) hd); clear hd)
            go_ret
            exact ⟨rfl, HD9.out⟩
end Go.Proofs.Ytmmhflpeapojgaa
