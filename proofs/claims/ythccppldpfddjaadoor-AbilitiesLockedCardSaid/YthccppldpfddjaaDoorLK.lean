/- AbilitiesLocked (4): the whole law, for any ability, any operations before and any lists of operations. -/
import Derived.Test.YthccppldpfddjaaDoorRowP
import Derived.Test.YthccppldpfddjaaDoorP1
import Derived.Test.YthccppldpfddjaaDoorD7
namespace Go.Proofs.YthccppldpfddjaaDoor
open Go.RowKit
set_option linter.unusedVariables false
/-- What the walk of Locked keeps: the set, and the array of the two rights that are locked. -/
structure KJ (w : World) (k b t : Nat) (C : Nat → Rt) (S : St) (W : World) : Prop where
  bel : Below w.heap.size w W
  set : ∃ lv, RArr 64 77 43 W b lv S
  ok : StOk S
  arr : ∃ lv, RArr 2 39 43 W t lv C
  eq : ∀ d, d < 2 → C d = S (d * 32 + k)
  lk : ∀ d, d < 2 → (C d).lk = true
  ge : w.heap.size ≤ b ∧ w.heap.size ≤ t
theorem KJ.below {w : World} {k b t : Nat} {C : Nat → Rt} {S : St} {W W' : World} (h : KJ w k b t C S W) (hb : Below W.heap.size W W') : KJ w k b t C S W' :=
  ⟨h.bel.trans (hb.mono h.bel.size), h.set.imp fun _ h => h.below hb, h.ok, h.arr.imp fun _ h => h.below hb, h.eq, h.lk, h.ge⟩
theorem KJ.step {w : World} {k b t : Nat} {C : Nat → Rt} {S : St} {W W' : World} {lv : Nat → Value} {o : OpA} (hk : k < 32) (h : KJ w k b t C S W) (hr : RArr 64 77 43 W' b lv (stepS S o)) (hg : W.grownBy W' (some b)) : KJ w k b t C (stepS S o) W' := by
  obtain ⟨l1, h1⟩ := h.set
  obtain ⟨l2, h2⟩ := h.arr
  obtain ⟨n1, n2⟩ := h.ge
  obtain ⟨cs, hc, -, -⟩ := h1.tab
  obtain ⟨ds, hd, -, -⟩ := h2.tab
  have hne : b ≠ t := by
    rintro rfl
    rw [hc] at hd
    cases hd
  refine ⟨h.bel.grown hg h.bel.size (fun j hj => by cases hj; exact n1), ⟨_, hr⟩, ?_, ⟨_, h2.other hc hne (by decide) fun j hj hne' => hg.block j hj (by simpa using hne')⟩, fun d hd => ?_, h.lk, n1, n2⟩
  · unfold stepS
    split
    · exact nextS_ok h.ok ‹_›
    · exact h.ok
  · rw [locked_step (by omega) (by rw [← h.eq d hd]; exact h.lk d hd)]
    exact h.eq d hd
theorem KJ.child {w : World} {k b t c : Nat} {C : Nat → Rt} {S : St} {W W' : World} {lv : Nat → Value} (h : KJ w k b t C S W) (hr : RArr 64 77 43 W' c lv (childS S)) (hc : W.heap.size ≤ c) (hb : Below W.heap.size W W') : KJ w k c t C (childS S) W' :=
  ⟨h.bel.trans (hb.mono h.bel.size), ⟨_, hr⟩, childS_ok h.ok, h.arr.imp fun _ h => h.below hb, fun d hd => by rw [locked_child (by rw [← h.eq d hd]; exact h.lk d hd)]; exact h.eq d hd, h.lk, by have := h.bel.size; omega, h.ge.2⟩
/-- The array of the two rights, the first d of them set. -/
def ownC (S : St) (k d : Nat) : Nat → Rt := fun i => if i < d then S (i * 32 + k) else ⟨[], false, false⟩
theorem ownC_succ (S : St) (k d : Nat) : upd (ownC S k d) d (S (d * 32 + k)) = ownC S k (d + 1) := by
  funext i
  unfold upd ownC
  by_cases h : i = d
  · subst h; simp
  · by_cases h1 : i < d
    · simp [h, h1, show i < d + 1 by omega]
    · simp [h, h1, show ¬ i < d + 1 by omega]
theorem zero39 (w : World) : RArr 2 39 43 (w.alloc (.cells #[.slice none 0 0, .bool false, .bool false, .slice none 0 0, .bool false, .bool false] 39)) w.heap.size (fun _ => .slice none 0 0) (fun _ => ⟨[], false, false⟩) := by
  refine ⟨⟨_, heap_alloc_new w _, rfl, fun j hj => ?_⟩, fun i hi => ls_nil _ _⟩
  rcases (by omega : j = 0 ∨ j = 1 ∨ j = 2 ∨ j = 3 ∨ j = 4 ∨ j = 5) with rfl | rfl | rfl | rfl | rfl | rfl <;> rfl
/-- The same ahead of the outer loop. -/
structure KI (w : World) (k b t d : Nat) (S : St) (W : World) : Prop where
  bel : Below w.heap.size w W
  set : ∃ lv, RArr 64 77 43 W b lv S
  arr : ∃ lv, RArr 2 39 43 W t lv (ownC S k d)
  ge : w.heap.size ≤ b ∧ w.heap.size ≤ t
theorem KI.below {w : World} {k b t d : Nat} {S : St} {W W' : World} (h : KI w k b t d S W) (hb : Below W.heap.size W W') : KI w k b t d S W' :=
  ⟨h.bel.trans (hb.mono h.bel.size), h.set.imp fun _ h => h.below hb, h.arr.imp fun _ h => h.below hb, h.ge⟩
theorem KI.store {w : World} {k b t d : Nat} {S : St} {W : World} (h : KI w k b t d S W) (hd : d < 2) {v : Value} (hv : Ls W 43 v (S (d * 32 + k)).rs) :
    KI w k b t (d + 1) S (set3 W t (d * 3) v (.bool (S (d * 32 + k)).lk) (.bool (S (d * 32 + k)).inh)) := by
  obtain ⟨l1, h1⟩ := h.set
  obtain ⟨l2, h2⟩ := h.arr
  obtain ⟨cs, hc, -, -⟩ := h1.tab
  obtain ⟨ds, hd', -, -⟩ := h2.tab
  have hne : t ≠ b := by
    rintro rfl
    rw [hc] at hd'
    cases hd'
  refine ⟨h.bel.trans (set3_below _ _ _ _ h.ge.2), ⟨_, h1.other hd' hne (by decide) fun j hj hne' => set3_other _ _ _ _ _ _ _ hne'⟩, ⟨upd l2 d v, ?_⟩, h.ge⟩
  rw [← ownC_succ]
  exact h2.store (by decide) hd hv
theorem KI.done {w : World} {k b t : Nat} {S : St} {W : World} (h : KI w k b t 2 S W) (hS : StOk S) (hl : ∀ d, d < 2 → (S (d * 32 + k)).lk = true) : KJ w k b t (ownC S k 2) S W :=
  ⟨h.bel, h.set, hS, h.arr, fun d hd => by unfold ownC; rw [if_pos hd], fun d hd => by unfold ownC; rw [if_pos hd]; exact hl d hd, h.ge⟩
set_option maxHeartbeats 16000000 in
set_option maxRecDepth 100000 in
theorem locked_law (a : Int) (l : List OpA) (v1 : Value) (ls : List (List OpA)) (v2 : Value) (w : World) (ha : 0 ≤ a ∧ a < 256) (hv : Ops w v1 l) (hu : Opss w v2 ls) (hA : AwAt w) :
    Calls Tryd.prog 4 #[.int .u8 a, v1, v2] w fun e w' => e = .returned (.bool true) ∧ Below w.heap.size w w' := by
  obtain ⟨A, cap, rfl, -⟩ := id hv
  obtain ⟨B, cbp, rfl, -⟩ := id hu
  obtain ⟨a0, a1⟩ := ha
  by_cases hlen : 210 < l.length
  · have hl : (210 : Int) < (l.length : Int) := by omega
    have HA := Lib.hid hA
    clear hv hu hlen hA
    go_enter Tryd.func4, Tryd.ntmps4
    go_wp2_with (go_at_call 9; refine (awake_calls _ HA.out).mono ?_; rintro e w1 ⟨rfl, h1⟩; have H1 := Lib.hid h1; clear h1)
    go_ret
    exact ⟨rfl, H1.out⟩
  have hl : (l.length : Int) ≤ 210 := by omega
  by_cases hlen2 : 10 < ls.length
  · have hl2 : (10 : Int) < (ls.length : Int) := by omega
    have HA := Lib.hid hA
    clear hv hu hlen hlen2 hA
    go_enter Tryd.func4, Tryd.ntmps4
    go_wp2_with (go_at_call 9; refine (awake_calls _ HA.out).mono ?_; rintro e w1 ⟨rfl, h1⟩; have H1 := Lib.hid h1; clear h1)
    go_ret
    exact ⟨rfl, H1.out⟩
  have hl2 : (ls.length : Int) ≤ 10 := by omega
  obtain ⟨k, hak⟩ : ∃ k : Nat, a % 32 = (k : Int) := ⟨(a % 32).toNat, by omega⟩
  have HK := Lib.hid (show k < 32 from by omega)
  have hk32 : (k : Int) < 32 := by omega
  have HL := Lib.hid (show l.length ≤ 210 from by omega)
  have HA := Lib.hid (And.intro hv (And.intro hA hu))
  have HSo := Lib.hid (applyS_ok l St0_ok)
  have HL0 := Lib.hid (lock_zero HK.out HSo.out)
  have HLA := Lib.hid (fun W lv v' (hr : RArr 64 77 43 W w.heap.size lv (applyS St0 l)) (hE : EffAt W) (ho : Os W v' [lockOp k]) => set_apply_calls w.heap.size lv (applyS St0 l) v' [lockOp k] W hE hr HSo.out ho)
  rw [applyC_one, applyS_one, HL0.out] at HLA
  have HSL := Lib.hid (show stepS (applyS St0 l) (lockOp k) = nextS (applyS St0 l) (lockOp k) from by unfold stepS; rw [if_pos HL0.out])
  rw [HSL.out] at HLA
  have HSn := Lib.hid (nextS_ok HSo.out HL0.out)
  have HLN := Lib.hid (lock_next (S := applyS St0 l) HK.out)
  generalize nextS (applyS St0 l) (lockOp k) = S1 at *
  clear hv hu hA hlen hlen2 HL0 HSL
  go_enter Tryd.func4, Tryd.ntmps4
  go_wp2_with (first
    | (go_at_call 10; refine (new_calls w).mono ?_; rintro e w1 ⟨rfl, h1, h2⟩; have H1 := Lib.hid (And.intro h1 h2); clear h1 h2)
    | (go_at_call 12; refine (ops_calls _ l w1 (HA.out.1.below H1.out.2) (by have := HL.out; omega)).mono ?_; rintro e w2 ⟨v2, rfl, h1, h2⟩; obtain ⟨A2, c2, rfl, -, -, -, -⟩ := Rw.form h1; obtain ⟨lv1, hr1⟩ := H1.out.1; have H2 := Lib.hid (And.intro h1 (And.intro (hr1.below h2) (H1.out.2.trans (h2.mono H1.out.2.size)))); clear h1 h2 hr1)
    | (go_at_call 11; refine (set_apply_calls w.heap.size _ St0 _ l w2 (HA.out.2.1.below H2.out.2.2).eff H2.out.2.1 St0_ok H2.out.1).mono ?_; rintro e w3 ⟨rfl, lv3, h1, h2⟩; have H3 := Lib.hid (And.intro h1 (H2.out.2.2.grown h2 H2.out.2.2.size (fun j hj => by cases hj; exact Nat.le_refl _))); have HO3 := Lib.hid (os_new w3 [lockOp k] (by unfold maxLen; simp)); clear h1 h2 H2)
    | (go_at_call 11; refine (HLA.out _ _ _ (H3.out.1.below ((Below.refl w3.heap.size w3).alloc (Nat.le_refl _) _)) (HA.out.2.1.below (H3.out.2.alloc H3.out.2.size _)).eff HO3.out).mono ?_; rintro e w4 ⟨rfl, lv4, h1, h2⟩; have H4 := Lib.hid (And.intro h1 ((H3.out.2.alloc H3.out.2.size (.cells (ocells [lockOp k]).toArray 35)).grown h2 (H3.out.2.alloc H3.out.2.size (.cells (ocells [lockOp k]).toArray 35)).size (fun j hj => by cases hj; exact Nat.le_refl _))); clear h1 h2))
  have HKI0 := Lib.hid (show KI w k w.heap.size w4.heap.size 0 S1 (w4.alloc (.cells #[.slice none 0 0, .bool false, .bool false, .slice none 0 0, .bool false, .bool false] 39)) from ⟨H4.out.2.alloc H4.out.2.size _, ⟨_, H4.out.1.below ((Below.refl w4.heap.size w4).alloc (Nat.le_refl _) _)⟩, ⟨_, (zero39 w4).congr (fun i _ => by simp [ownC])⟩, Nat.le_refl _, H4.out.2.size⟩)
  have HT := Lib.hid H4.out.2.size
  clear H1 H3 HO3 H4 HLA
  go_loopw [44] (fun i wr => ∃ d : Nat, d ≤ 2 ∧ i = .int .i64 d ∧ Hid (KI w k w.heap.size w4.heap.size d S1 wr)) (fun i _ => 2 - (intOf i).toNat)
  case atStart => exact ⟨0, by omega, rfl, HKI0⟩
  case round =>
    clear HKI0
    obtain ⟨d, hd, rfl, HI⟩ := hrel
    by_cases hlt : d < 2
    · have hlt' : (d : Int) < 2 := by omega
      obtain ⟨lvb, hrb⟩ := HI.out.set
      have HR := Lib.hid (right_calls w.heap.size d k lvb S1 wr hrb HSn.out hlt HK.out)
      unfold rv at HR
      clear hrb
      go_wp2_with (go_at_call 14; refine HR.out.mono ?_; rintro e w5 ⟨v5, rfl, h1, h2⟩; obtain ⟨A5, c5, rfl, -, -, -, -⟩ := Rw.form h1; obtain ⟨lva, hra⟩ := (HI.out.below h2).arr; obtain ⟨z0, z1, z2⟩ := hra.three hlt; have f0 := hra.frozen (d * 3); have f1 := hra.frozen (d * 3 + 1); have f2 := hra.frozen (d * 3 + 2); have HS := Lib.hid (KI.store (HI.out.below h2) hlt h1); clear h1 h2 hra)
      go_roundw
      case rel => exact ⟨d + 1, by omega, by go_num, HS⟩
      case measure => simp [intOf]; omega
    · have hd2 : d = 2 := by omega
      have hge2 : ¬ (d : Int) < 2 := by omega
      have HD2 := Lib.hid hd2
      have HKJ0 := Lib.hid (KI.done (by have h := HI.out; rw [hd2] at h; exact h) HSn.out (fun d hd => by
        rcases (by omega : d = 0 ∨ d = 1) with rfl | rfl
        · simpa using HLN.out.1
        · simpa using HLN.out.2))
      generalize ownC S1 k 2 = C at *
      clear HI HSn HLN HSo hd2 hd hlt
      go_wp2
      go_loopw [59, 8] (fun i x wr => ∃ (n b : Nat) (S : St), n ≤ ls.length ∧ i = .int .i64 n ∧ x = .pointer (some ⟨b, 0, none⟩) ∧ Hid (KJ w k b w4.heap.size C S wr)) (fun i _ _ => ls.length - (intOf i).toNat)
      case atStart => exact ⟨0, _, _, by omega, rfl, rfl, HKJ0⟩
      case round =>
        clear HKJ0
        obtain ⟨n, b, S, hn, rfl, rfl, HJ⟩ := hrel
        by_cases hlt2 : n < ls.length
        · have hlt2' : (n : Int) < (ls.length : Int) := by omega
          obtain ⟨g, go, A7, c7, rfl, hq0, hops⟩ := Opss.at HA.out.2.2 rfl hlt2
          have hq := (Below.cell HJ.out.bel (p := ⟨g, go + n, none⟩) (World.block_lt_of_cell? w _ hq0)).trans hq0
          clear hq0
          generalize ls[n] = x at *
          have HX := Lib.hid hops
          clear hops
          by_cases h30 : 30 < x.length
          · have h30' : (30 : Int) < (x.length : Int) := by omega
            go_wp2_with (go_at_call 9; refine (awake_calls _ (HA.out.2.1.below HJ.out.bel)).mono ?_; rintro e w9 ⟨rfl, h1⟩; have H9 := Lib.hid (HJ.out.bel.trans (h1.mono HJ.out.bel.size)); clear h1)
            go_ret
            exact ⟨rfl, H9.out⟩
          · have h30' : (x.length : Int) ≤ 30 := by omega
            go_wp2
            go_loopw [69] (fun i wr => ∃ (m : Nat) (S : St), m ≤ x.length ∧ i = .int .i64 m ∧ Hid (KJ w k b w4.heap.size C S wr)) (fun i _ => x.length - (intOf i).toNat)
            case atStart => exact ⟨0, S, by omega, rfl, HJ⟩
            case round =>
              clear HJ hq
              obtain ⟨m, S, hm, rfl, HJ⟩ := hrel
              by_cases hlt3 : m < x.length
              · have hlt3' : (m : Int) < (x.length : Int) := by omega
                obtain ⟨g2, go2, rfl, q0, q1, q2, q3, q4⟩ := Ops.at (HX.out.below HJ.out.bel) rfl hlt3
                generalize x[m] = o at *
                have HOo := Lib.hid (ops_new (wr.alloc (.cells #[.int .i64 o.kind, .int .i64 o.ab, .int .i64 o.dom, .int .i64 o.lo, .int .i64 o.hi] 31)) [o])
                rw [World.size_alloc, show (ocells [o]).toArray = #[.int .i64 o.kind, .int .i64 o.ab, .int .i64 o.dom, .int .i64 o.lo, .int .i64 o.hi] from rfl] at HOo
                have hbb := ((Below.refl wr.heap.size wr).alloc (Nat.le_refl _) (.cells #[.int .i64 o.kind, .int .i64 o.ab, .int .i64 o.dom, .int .i64 o.lo, .int .i64 o.hi] 31)).alloc (by simp) (.cells #[.int .i64 o.kind, .int .i64 o.ab, .int .i64 o.dom, .int .i64 o.lo, .int .i64 o.hi] 31)
                have HO2 := Lib.hid (KJ.below HJ.out hbb)
                have HOc := Lib.hid (ops_calls _ [o] _ HOo.out (by simp))
                have HAp := Lib.hid (fun W lv v' (hp : KJ w k b w4.heap.size C S W) (hr : RArr 64 77 43 W b lv S) (ho : Os W v' [o]) => set_apply_calls b lv S v' [o] W (HA.out.2.1.below hp.bel).eff hr hp.ok ho)
                rw [applyC_one, applyS_one] at HAp
                clear HOo hbb HJ
                go_wp2_with (first
                  | (go_at_call 12; refine HOc.out.mono ?_; rintro e w5 ⟨v5, rfl, h1, h2⟩; obtain ⟨A5, c5, rfl, -, -, -, -⟩ := Rw.form h1; have H6 := Lib.hid (And.intro h1 (KJ.below HO2.out h2)); clear h1 h2)
                  | (go_at_call 11; obtain ⟨lv2, hr2⟩ := H6.out.2.set; refine (HAp.out w5 lv2 _ H6.out.2 hr2 H6.out.1).mono ?_; rintro e w6 ⟨rfl, lv6, h1, h2⟩; have H7 := Lib.hid (KJ.step HK.out H6.out.2 h1 h2); clear h1 h2 hr2))
                go_roundw
                case rel => exact ⟨m + 1, _, by omega, by go_num, H7⟩
                case measure => simp [intOf]; omega
              · obtain rfl : m = x.length := by omega
                obtain ⟨lvb, hrb⟩ := HJ.out.set
                have HC := Lib.hid (set_child_calls b lvb S wr hrb HJ.out.ok)
                clear hrb
                go_wp2_with (go_at_call 15; refine HC.out.mono ?_; rintro e w5 ⟨cb, rfl, h1, ⟨lv', h2⟩, h3⟩; have H5 := Lib.hid (KJ.child HJ.out h2 (by omega) h3); clear h1 h2 h3)
                clear HC HJ
                generalize childS S = S2 at *
                go_loopw [81] (fun i wr => ∃ d : Nat, d ≤ 2 ∧ i = .int .i64 d ∧ Hid (KJ w k cb w4.heap.size C S2 wr)) (fun i _ => 2 - (intOf i).toNat)
                case atStart => exact ⟨0, by omega, rfl, H5⟩
                case round =>
                  clear H5
                  obtain ⟨d, hd, rfl, HI⟩ := hrel
                  by_cases hlt4 : d < 2
                  · have hlt4' : (d : Int) < 2 := by omega
                    obtain ⟨lvb, hrb⟩ := HI.out.set
                    have HR := Lib.hid (right_calls cb d k lvb S2 wr hrb HI.out.ok hlt4 HK.out)
                    rw [← HI.out.eq d hlt4] at HR
                    have HLC := Lib.hid (show (C d).rs.length ≤ 50 from by rw [HI.out.eq d hlt4]; exact (HI.out.ok _ (by have := HK.out; omega)).2)
                    have HLK := Lib.hid (HI.out.lk d hlt4)
                    obtain ⟨lva0, hra0⟩ := HI.out.arr
                    obtain ⟨A9, c9, hv9, -, -, -, -⟩ := Rw.form (hra0.row d hlt4)
                    have HZ := Lib.hid (show ∀ W, Below wr.heap.size wr W → W.cell? ⟨w4.heap.size, d * 3, none⟩ = some (.slice A9 (C d).rs.length c9) ∧ W.cell? ⟨w4.heap.size, d * 3 + 1, none⟩ = some (.bool (C d).lk) ∧ W.cell? ⟨w4.heap.size, d * 3 + 2, none⟩ = some (.bool (C d).inh) ∧ Ls W 43 (.slice A9 (C d).rs.length c9) (C d).rs from fun W hW => by
                      obtain ⟨z0, z1, z2⟩ := (hra0.below hW).three hlt4
                      have z3 := (hra0.below hW).row d hlt4
                      rw [hv9] at z0 z3
                      exact ⟨z0, z1, z2, z3⟩)
                    unfold rv at HR
                    clear hrb hra0 hv9
                    generalize C d = r at HR HLC HLK HZ
                    obtain ⟨rs, lk, inh⟩ := r
                    simp only at HR HLC HLK HZ
                    obtain rfl := HLK.out
                    have b1 : (inh != inh) = false := by simp
                    have b2 : ((rs.length : Int) != (rs.length : Int)) = false := by simp
                    go_wp2_with (go_at_call 14; refine HR.out.mono ?_; rintro e w5 ⟨v5, rfl, h1, h2⟩; obtain ⟨A5, c5, rfl, -, -, -, -⟩ := Rw.form h1; have H5 := Lib.hid (And.intro h1 h2); obtain ⟨z0, z1, z2, -⟩ := HZ.out _ (h2.alloc h2.size (.cells #[.slice A5 rs.length c5, .bool true, .bool inh] 38)); clear h1 h2)
                    go_quiet (fail)
                    go_wp2
                    have HN := Lib.hid neq43
                    obtain ⟨W6, hW6⟩ : ∃ W6, W6 = w5.alloc (.cells #[.slice A5 rs.length c5, .bool true, .bool inh] 38) := ⟨_, rfl⟩
                    have H6 := Lib.hid (show Below wr.heap.size wr W6 ∧ Ls W6 43 (.slice A5 rs.length c5) rs ∧ W6.heap[w5.heap.size]? = some (.cells #[.slice A5 rs.length c5, .bool true, .bool inh] 38 (0, 0)) from by
                      rw [hW6]
                      exact ⟨H5.out.2.alloc H5.out.2.size _, H5.out.1.below ((Below.refl w5.heap.size w5).alloc (Nat.le_refl _) _), heap_alloc_new w5 _⟩)
                    rw [← hW6]
                    clear hW6 H5 HR z0 z1 z2
                    go_loopw [121] (fun i wr => ∃ m : Nat, m ≤ rs.length ∧ i = .int .i64 m ∧ Hid (Below W6.heap.size W6 wr)) (fun i _ => rs.length - (intOf i).toNat)
                    case atStart => exact ⟨0, by omega, rfl, Lib.hid (below_dN (Below.refl _ _) nq)⟩
                    case round =>
                      obtain ⟨m, hm, rfl, HB⟩ := hrel
                      have HB7 := Lib.hid (H6.out.1.trans (HB.out.mono H6.out.1.size))
                      by_cases hlt5 : m < rs.length
                      · have hlt5' : (m : Int) < (rs.length : Int) := by omega
                        have hm6 : (m : Int) ≤ 50 := by have := HLC.out; omega
                        obtain ⟨x0, x1, x2⟩ := cells_three ((HB.out.block _ (Array.getElem?_eq_some_iff.1 H6.out.2.2).1).trans H6.out.2.2)
                        obtain ⟨z0, z1, z2, hz⟩ := HZ.out _ HB7.out
                        obtain ⟨g3, rfl, hg3, q1, q2⟩ := Ls.at (H6.out.2.1.below HB.out) rfl hlt5
                        obtain ⟨g4, rfl, hg4, p1, p2⟩ := Ls.at hz rfl hlt5
                        have hneq := fun w => HN.out rs[m].1 rs[m].2 rs[m].1 rs[m].2 w
                        clear hz
                        generalize rs[m] = r at *
                        obtain ⟨r1, r2⟩ := r
                        simp only [beq_self_eq_true, Bool.and_self, Bool.not_true] at q1 q2 p1 p2 hneq
                        go_wp2
                        go_quiet (fail)
                        go_wp2
                        go_roundw
                        case rel => exact ⟨m + 1, by omega, by go_num, Lib.hid (below_dN HB.out nq)⟩
                        case measure => simp [intOf]; omega
                      · obtain rfl : m = rs.length := by omega
                        go_wp2
                        go_roundw
                        case rel => exact ⟨d + 1, by omega, by go_num, Lib.hid (HI.out.below HB7.out)⟩
                        case measure => simp [intOf]; omega
                  · obtain rfl : d = 2 := by omega
                    go_wp2
                    go_roundw
                    case rel => exact ⟨n + 1, cb, S2, by omega, by go_num, rfl, HI⟩
                    case measure => simp [intOf]; omega
        · obtain rfl : n = ls.length := by omega
          go_wp2_with (go_at_call 9; refine (awake_calls _ (HA.out.2.1.below HJ.out.bel)).mono ?_; rintro e w9 ⟨rfl, h1⟩; have H9 := Lib.hid (HJ.out.bel.trans (h1.mono HJ.out.bel.size)); clear h1)
          go_ret
          exact ⟨rfl, H9.out⟩
end Go.Proofs.YthccppldpfddjaaDoor
