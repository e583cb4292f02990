/- The reference's small functions: isThread, isProcess, isSignal, Bit, queued, without, Pends, least. -/
import Derived.Test.YtbpihfphoniclaaA3
import Derived.OwnWalk
import Derived.Test.YtbpihfphoniclaaS1
import Derived.Test.YtbpihfphoniclaaB3
import Derived.Test.YtbpihfphoniclaaB1
import Derived.Test.YtbpihfphoniclaaS3
import Derived.Test.YtbpihfphoniclaaS5
namespace Go.Proofs.Ytbpihfphoniclaa
open Go.RowKit
set_option linter.unusedVariables false
theorem rthread_calls (n : Int) (w : World) : Calls Try.prog 63 #[.int .i64 n] w fun e w' => e = .returned (.bool (isTh n)) ∧ w = w' := by
  unfold isTh
  by_cases h1 : 0 ≤ n
  · by_cases h2 : n < 256
    · go_enter Try.func63, Try.ntmps63
      go_wp2
      go_ret
      exact ⟨by simp [h1, h2], rfl⟩
    · go_enter Try.func63, Try.ntmps63
      go_wp2
      go_ret
      exact ⟨by simp; omega, rfl⟩
  · go_enter Try.func63, Try.ntmps63
    go_wp2
    go_ret
    exact ⟨by simp; omega, rfl⟩
theorem rprocess_calls (n : Int) (w : World) : Calls Try.prog 64 #[.int .i64 n] w fun e w' => e = .returned (.bool (isPr n)) ∧ w = w' := by
  unfold isPr
  by_cases h1 : 0 ≤ n
  · by_cases h2 : n < 64
    · go_enter Try.func64, Try.ntmps64
      go_wp2
      go_ret
      exact ⟨by simp [h1, h2], rfl⟩
    · go_enter Try.func64, Try.ntmps64
      go_wp2
      go_ret
      exact ⟨by simp; omega, rfl⟩
  · go_enter Try.func64, Try.ntmps64
    go_wp2
    go_ret
    exact ⟨by simp; omega, rfl⟩
def isSg (n : Int) : Bool := decide (1 ≤ n) && decide (n ≤ 56)
theorem rsignal_calls (n : Int) (w : World) : Calls Try.prog 66 #[.int .i64 n] w fun e w' => e = .returned (.bool (isSg n)) ∧ w = w' := by
  unfold isSg
  by_cases h1 : 1 ≤ n
  · by_cases h2 : n ≤ 56
    · go_enter Try.func66, Try.ntmps66
      go_wp2
      go_ret
      exact ⟨by simp [h1, h2], rfl⟩
    · go_enter Try.func66, Try.ntmps66
      go_wp2
      go_ret
      exact ⟨by simp; omega, rfl⟩
  · go_enter Try.func66, Try.ntmps66
    go_wp2
    go_ret
    exact ⟨by simp; omega, rfl⟩
set_option maxHeartbeats 1000000 in
theorem rqueued_calls (v : Value) (l : List Pd) (w : World) (h : Ls w 127 v l) (hl : l.length ≤ 1000) :
    Calls Try.prog 71 #[v] w fun e w' => e = .returned (.int .i64 (queued l)) ∧ Below w.heap.size w w' := by
  obtain ⟨A, cap, rfl, _, _, _, hat⟩ := h.at
  have HAT := Lib.hid hat
  clear hat h
  go_enter Try.func71, Try.ntmps71
  go_wp2
  go_loopw [3, 4] (fun n i wr => ∃ k : Nat, k ≤ l.length ∧ i = .int .i64 k ∧ n = .int .i64 (queued (l.take k)) ∧ Hid (Below w.heap.size w wr)) (fun _ i _ => l.length - (intOf i).toNat)
  case atStart => exact ⟨0, by omega, rfl, rfl, Lib.hid (Below.refl _ _)⟩
  case round =>
    obtain ⟨k, hk, rfl, rfl, HB⟩ := hrel
    by_cases hlt : k < l.length
    · obtain ⟨g, rfl, hg, hc0, hc1⟩ := HAT.out k hlt
      have HQ := Lib.hid (queued_succ l k hlt)
      have hq := queued_le (l.take k)
      have hq2 : (l.take k).length ≤ k := List.length_take_le _ _
      generalize queued (l.take k) = q at *
      generalize l.getD k (0, 0) = y at *
      obtain ⟨y1, y2⟩ := y
      have hd0 := (HB.out.cell (p := ⟨g, k * 2, none⟩) hg).trans hc0
      have hlt' : (k : Int) < (l.length : Int) := by omega
      clear hc0 hc1
      by_cases hy : 41 ≤ y1
      all_goals
        have hbs := HB.out.size
        go_wp2
        go_roundw
        case rel => exact ⟨k + 1, by omega, by go_num, by rw [HQ.out]; simp [hy], HB⟩
        case measure => simp [intOf]; omega
    · obtain rfl : k = l.length := by omega
      rw [List.take_length]
      have hge : ¬ ((l.length : Int) < (l.length : Int)) := by omega
      go_wp2
      go_ret
      exact ⟨rfl, HB.out⟩
theorem without_succ (l : List Pd) (s : Int) (k : Nat) (hk : k < l.length) : without (l.take (k + 1)) s = without (l.take k) s ++ (if (l.getD k (0, 0)).1 = s then [] else [l.getD k (0, 0)]) := by
  unfold without
  rw [List.take_succ_eq_append_getElem hk, List.filter_append, List.getD_eq_getElem?_getD, List.getElem?_eq_getElem hk]
  simp only [Option.getD_some]
  by_cases h : l[k].1 = s <;> simp [List.filter_cons, h]
theorem two_first (w : World) (a b : Value) (e : TypeId) : ∀ ad, some (⟨w.heap.size, 0, none⟩ : Addr) = some ad → ∀ j u, [a, b][j]? = some u → (w.alloc (.cells #[a, b] e)).cell? (ad.add j) = some u := by
  rintro ad h j u hu
  cases h
  rw [add_at, cell_of_row _ _ _ _ _ _ (heap_alloc_new w _)]
  match j, hu with
  | 0, hu => cases hu; rfl
  | 1, hu => cases hu; rfl
  | j + 2, hu => simp at hu
/-- A fresh list of the reference's. -/
def Fresh (w0 : World) (v : Value) (l : List Pd) (w : World) : Prop := Ls w 127 v l ∧ Below w0.heap.size w0 w ∧ ∀ g, v.ownBlock = some g → w0.heap.size ≤ g
set_option maxHeartbeats 1000000 in
theorem rwithout_calls (v : Value) (s : Int) (l : List Pd) (w : World) (h : Ls w 127 v l) (hl : l.length ≤ 1000) :
    Calls Try.prog 76 #[v, .int .i64 s] w fun e w' => ∃ v', e = .returned v' ∧ Fresh w v' (without l s) w' := by
  obtain ⟨A, cap, rfl, _, _, _, hat⟩ := h.at
  obtain ⟨i2, hi2, hz0, hz1, hz2⟩ := info_parts (P := Try.prog) (e := 127) (z := .agg #[.int .i64 0, .int .i64 0]) (size := 2) (bytes := 16) (by kernel_rfl)
  have HAT := Lib.hid hat
  clear hat h
  go_enter Try.func76, Try.ntmps76
  go_wp2
  have HST : Hid (Fresh w (.slice (some ⟨w.heap.size, 0, none⟩) 0 0) [] (w.alloc (.cells #[] 127))) := Lib.hid ⟨⟨rfl, .inr ⟨w.heap.size, 0, #[], rfl, heap_alloc_new w _, Nat.le_refl _, Nat.zero_le _, Nat.zero_le _, rfl⟩⟩, (Below.refl _ _).alloc (Nat.le_refl _) _, fun g hg => by cases hg; exact Nat.le_refl _⟩
  go_loopw [5, 6] (fun u i wr => ∃ k : Nat, k ≤ l.length ∧ i = .int .i64 k ∧ Hid (Fresh w u (without (l.take k) s) wr)) (fun _ i _ => l.length - (intOf i).toNat)
  case atStart => exact ⟨0, Nat.zero_le _, rfl, HST⟩
  case round =>
    obtain ⟨k, hk, rfl, HI⟩ := hrel
    by_cases hlt : k < l.length
    · obtain ⟨g, rfl, hg, hc0, hc1⟩ := HAT.out k hlt
      have HQ := Lib.hid (without_succ l s k hlt)
      have hwl : (without (l.take k) s).length ≤ k := Nat.le_trans (without_len _ _) (List.length_take_le _ _)
      generalize without (l.take k) s = q at *
      generalize l.getD k (0, 0) = y at *
      obtain ⟨y1, y2⟩ := y
      obtain ⟨hls, hbel, hown⟩ := HI.out
      have hd0 := (hbel.cell (p := ⟨g, k * 2, none⟩) hg).trans hc0
      have hd1 := (hbel.cell (p := ⟨g, k * 2 + 1, none⟩) hg).trans hc1
      have HCE := Lib.hid (pair_cells hd0 hd1)
      have hlt' : (k : Int) < (l.length : Int) := by omega
      obtain ⟨A5, c5, rfl, _⟩ := hls.at
      have HLS := Lib.hid (hls.below ((Below.refl _ _).alloc (Nat.le_refl _) (.cells #[.int .i64 y1, .int .i64 y2] 127)))
      have HBEL := Lib.hid (hbel.alloc hbel.size (.cells #[.int .i64 y1, .int .i64 y2] 127))
      have HOWN := Lib.hid hown
      clear hc0 hc1 hd1 hls hbel hown
      by_cases hy : y1 = s
      · have hyb : (y1 != s) = false := by simpa using hy
        have HI2 : Hid (Fresh w (.slice A5 q.length c5) (without (l.take (k + 1)) s) wr) := Lib.hid (by rw [HQ.out, if_pos hy, List.append_nil]; exact HI.out)
        generalize q.length = n8 at *
        go_wp2
        go_roundw
        case rel => exact ⟨k + 1, by omega, by go_num, HI2⟩
        case measure => simp [intOf]; omega
      · have hyb : (y1 != s) = true := by simpa using hy
        have HQ2 : Hid (without (l.take (k + 1)) s = q ++ [(y1, y2)]) := Lib.hid (by rw [HQ.out, if_neg hy])
        obtain ⟨n8, hn8⟩ : ∃ n, q.length = n := ⟨_, rfl⟩
        rw [hn8] at hwl ⊢
        unfold Ls at HLS
        rw [hn8] at HLS HOWN
        have HN8 := Lib.hid hn8
        clear hn8
        go_wp2_with (first
          | ((with_reducible change wpList _ _ _ (⟨_, .load 127 (.tmp 24), _, _, _, _⟩ :: _) _ _); go_loud (refine wpList_load_cells (by rfl) 127 (.tmp 24) rfl ⟨g, k * 2, none⟩ rfl #[.int .i64 y1, .int .i64 y2] _ HCE.out Try.underlying127 rfl (n := 2) (by kernel_rfl) rfl ?_))
          | (at_builtin; go_loud (refine wpList_append_rw _ rfl _ _ 103 rfl 127 i2 (.agg #[.int .i64 0, .int .i64 0]) 2 16 Try.underlying103 hi2 hz0 hz1 hz2 rfl (by omega) _ _ _ rfl HLS.out _ 1 1 [.int .i64 y1, .int .i64 y2] rfl rfl (two_first wr _ _ 127) (fun h => by cases h) (by intro u hu; simp at hu; rcases hu with rfl | rfl <;> rfl) (by unfold maxLen; omega) (by omega) ?_; intro v' w3 hr3 hg3 ho3 hb3)))
        go_roundw
        case rel =>
          refine ⟨k + 1, by omega, by go_num, Lib.hid ⟨?_, ?_, ?_⟩⟩
          · rw [HQ2.out]
            unfold Ls
            rw [List.length_append, HN8.out, pcells_append]
            exact hr3
          · exact HBEL.out.grown hg3 HBEL.out.size (fun g hg => HOWN.out g hg)
          · intro g hg
            rcases ho3 with e | e
            · rw [e] at hg; exact HOWN.out g hg
            · rw [e] at hg
              cases hg
              exact HBEL.out.size
        case measure => simp [intOf]; omega
    · obtain rfl : k = l.length := by omega
      have HI2 : Hid (Fresh w u5 (without l s) wr) := Lib.hid (by have := HI.out; rwa [List.take_length] at this)
      have hge : ¬ ((l.length : Int) < (l.length : Int)) := by omega
      go_wp2
      go_ret
      exact ⟨_, rfl, HI2.out⟩
end Go.Proofs.Ytbpihfphoniclaa
namespace Go.Proofs.Ytbpihfphoniclaa
open Go.RowKit
set_option linter.unusedVariables false
theorem without_less (l : List Pd) (s : Int) : (without l s).length < l.length ↔ pends l s = true := by
  unfold without pends
  rw [List.length_filter_lt_length_iff_exists, List.any_eq_true]
  simp
theorem rpends_calls (v : Value) (s : Int) (l : List Pd) (w : World) (h : Ls w 127 v l) (hl : l.length ≤ 1000) :
    Calls Try.prog 72 #[v, .int .i64 s] w fun e w' => e = .returned (.bool (pends l s)) ∧ Below w.heap.size w w' := by
  have hle := without_len l s
  obtain ⟨A, cap, rfl, _⟩ := h.at
  have HC := Lib.hid (rwithout_calls _ s l w h hl)
  cases hp : pends l s with
  | true =>
    have hlt := (without_less l s).2 hp
    have hlt' : ((without l s).length : Int) < (l.length : Int) := by omega
    clear h hp
    go_enter Try.func72, Try.ntmps72
    go_wp2_with fail
    refine HC.out.mono ?_
    rintro e w' ⟨v', rfl, hf⟩
    obtain ⟨B, c, rfl, _⟩ := hf.1.at
    have HF := Lib.hid hf.2.1
    clear hf
    go_wp2
    go_ret
    exact ⟨rfl, HF.out⟩
  | false =>
    have hlt : ¬ (without l s).length < l.length := fun h => by rw [(without_less l s).1 h] at hp; cases hp
    have hlt' : ¬ ((without l s).length : Int) < (l.length : Int) := by omega
    clear h hp
    go_enter Try.func72, Try.ntmps72
    go_wp2_with fail
    refine HC.out.mono ?_
    rintro e w' ⟨v', rfl, hf⟩
    obtain ⟨B, c, rfl, _⟩ := hf.1.at
    have HF := Lib.hid hf.2.1
    clear hf
    go_wp2
    go_ret
    exact ⟨rfl, HF.out⟩
theorem rbit_calls (s : Int) (w : World) (h1 : 1 ≤ s) (h2 : s ≤ 64) : Calls Try.prog 69 #[.int .i64 s] w fun e w' => e = .returned (.int .u64 ((2 ^ (s - 1).toNat : Nat) : Int)) ∧ w = w' := by
  have e : (s - 1).toNat = s.toNat - 1 := by omega
  rw [e]
  have hw := pow_u64 (s.toNat - 1) (by omega)
  clear e
  go_enter Try.func69, Try.ntmps69
  go_wp2
  go_ret
  exact ⟨rfl, rfl⟩
/-- The least signal whose bit is set, or 0, among the first k. -/
def leastK (m : Nat) : Nat → Int
  | 0 => 0
  | k + 1 => if leastK m k = 0 ∧ m.testBit k = true then (k : Int) + 1 else leastK m k
def least (m : Nat) : Int := leastK m 56
theorem leastK_zero {m : Nat} {k : Nat} (h : ∀ j, j < k → m.testBit j = false) : leastK m k = 0 := by
  induction k with
  | zero => rfl
  | succ k ih =>
    unfold leastK
    rw [ih (fun j hj => h j (by omega)), if_neg (by rw [h k (by omega)]; simp)]
theorem leastK_hit {m : Nat} {k : Nat} (h : ∀ j, j < k → m.testBit j = false) (hk : m.testBit k = true) : ∀ n, k < n → leastK m n = (k : Int) + 1 := by
  intro n hn
  induction n with
  | zero => omega
  | succ n ih =>
    unfold leastK
    by_cases e : k = n
    · subst e
      rw [leastK_zero h, if_pos ⟨rfl, hk⟩]
    · rw [ih (by omega), if_neg (by omega)]
set_option maxHeartbeats 1000000 in
set_option maxRecDepth 100000 in
theorem rleast_calls (m : Nat) (w : World) (hm : m < 18446744073709551616) : Calls Try.prog 73 #[.int .u64 m] w fun e w' => e = .returned (.int .i64 (least m)) ∧ Below w.heap.size w w' := by
  have HM := Lib.hid hm
  clear hm
  go_enter Try.func73, Try.ntmps73
  go_wp2
  go_loopw [3] (fun i wr => ∃ k : Nat, k ≤ 56 ∧ i = .int .i64 ((k : Int) + 1) ∧ Hid ((∀ j, j < k → m.testBit j = false) ∧ wr = w)) (fun i _ => 57 - (intOf i).toNat)
  case atStart => exact ⟨0, by omega, rfl, Lib.hid ⟨fun j hj => by omega, rfl⟩⟩
  case round =>
    obtain ⟨k, hk, rfl, HI⟩ := hrel
    by_cases hlt : k < 56
    · have hlt' : (k : Int) + 1 ≤ 56 := by omega
      have hand : bits .and .u64 (m : Int) ((2 ^ k : Nat) : Int) = ((m &&& 2 ^ k : Nat) : Int) := u64_and_nat m (2 ^ k) HM.out (Nat.lt_of_lt_of_le (Nat.pow_lt_pow_right (by omega) (show k < 64 by omega)) (by decide))
      have e1 : ((k : Int) + 1 - 1).toNat = k := by omega
      have hz : (m &&& 2 ^ k = 0) ↔ m.testBit k = false := by
        constructor
        · intro h0
          have := congrArg (fun x => x.testBit k) h0
          simpa [Nat.testBit_and, Nat.testBit_two_pow_self] using this
        · intro hb
          apply Nat.eq_of_testBit_eq
          intro j
          rw [Nat.testBit_and, Nat.testBit_two_pow, Nat.zero_testBit]
          by_cases e : k = j
          · subst e; rw [hb]; rfl
          · simp [e]
      obtain ⟨bt, hbt⟩ : ∃ bt : Nat, 2 ^ k = bt := ⟨_, rfl⟩
      rw [hbt] at hand hz
      obtain ⟨x, hx⟩ : ∃ x : Nat, m &&& bt = x := ⟨_, rfl⟩
      rw [hx] at hand hz
      have HBT := Lib.hid (And.intro e1 hbt)
      clear e1 hbt hx
      cases hb : m.testBit k with
      | true =>
        have hne : ((x : Int) != 0) = true := by
          have : x ≠ 0 := fun h => by rw [hz.1 h] at hb; cases hb
          simp only [bne_iff_ne, ne_eq]
          omega
        have HH := Lib.hid (leastK_hit HI.out.1 hb 56 hlt)
        clear hb hz
        go_wp2_with (go_at_call 69; refine (rbit_calls _ _ (by omega) (by omega)).mono ?_; rw [HBT.out.1, HBT.out.2]; rintro e w' ⟨rfl, rfl⟩)
        go_ret
        exact ⟨by rw [show least m = leastK m 56 from rfl, HH.out]; rfl, by rw [HI.out.2]; exact Below.refl _ _⟩
      | false =>
        have hx0 : x = 0 := hz.2 hb
        subst hx0
        have hand0 : bits .and .u64 (m : Int) (bt : Int) = 0 := hand
        have HB := Lib.hid hb
        clear hb hz hand
        go_wp2_with (go_at_call 69; refine (rbit_calls _ _ (by omega) (by omega)).mono ?_; rw [HBT.out.1, HBT.out.2]; rintro e w' ⟨rfl, rfl⟩)
        go_roundw
        case rel =>
          refine ⟨k + 1, by omega, by go_num, Lib.hid ⟨fun j hj => ?_, HI.out.2⟩⟩
          rcases Nat.lt_succ_iff_lt_or_eq.1 hj with h | rfl
          · exact HI.out.1 j h
          · exact HB.out
        case measure => simp [intOf]; omega
    · obtain rfl : k = 56 := by omega
      go_wp2
      go_ret
      exact ⟨by rw [show least m = leastK m 56 from rfl, leastK_zero HI.out.1]; rfl, by rw [HI.out.2]; exact Below.refl _ _⟩
end Go.Proofs.Ytbpihfphoniclaa
namespace Go.Proofs.Ytbpihfphoniclaa
open Go.RowKit
set_option linter.unusedVariables false
/-- The slices of the lists, and the sets as they were given. -/
structure RLay where
  lv : Nat → Value
  set : Nat → Nat
def rtask (L : RLay) (S : St) (i : Nat) : Nat → Value
  | 0 => .bool (S.tk i).isSome
  | 1 => .int .i64 (match S.tk i with | some x => x.proc | none => 0)
  | 2 => .int .u64 ((match S.tk i with | some x => x.mask | none => 0 : Nat) : Int)
  | 3 => L.lv i
  | 4 => .bool (match S.tk i with | some x => x.waits | none => false)
  | 5 => .int .u64 ((L.set i : Nat) : Int)
  | _ => .int .i64 (S.got i)
def rcell (L : RLay) (S : St) (i : Nat) : Value :=
  if i < 1792 then rtask L S (i / 7) (i % 7) else if (i - 1792) % 58 = 0 then L.lv (256 + (i - 1792) / 58) else .int .i64 (S.ac ((i - 1792) / 58) ((i - 1792) % 58 - 1))
structure RRepL (w : World) (t : Nat) (L : RLay) (S : St) : Prop where
  tab : ∃ cs, w.heap[t]? = some (.cells cs 111 (0, 0)) ∧ cs.size = 5504 ∧ ∀ i, i < 5504 → cs[i]? = some (rcell L S i)
  row : ∀ i, i < 320 → Ls w 127 (L.lv i) (S.ls i)
  sets : ∀ i, i < 256 → L.set i < 18446744073709551616 ∧ ∀ x, S.tk i = some x → x.waits = true → L.set i &&& allM = x.wants
def RRep (w : World) (t : Nat) (S : St) : Prop := ∃ L, RRepL w t L S
/-- What a call of the reference leaves. -/
def RAfter (t : Nat) (S' : St) (w w' : World) : Prop := RRep w' t S' ∧ w.grownBy w' (some t)
section
variable {w : World} {t : Nat} {L : RLay} {S : St}
theorem RRepL.cellR (h : RRepL w t L S) (i : Nat) (hi : i < 5504) : w.cell? ⟨t, i, none⟩ = some (rcell L S i) := by
  obtain ⟨cs, h1, h2, h3⟩ := h.tab
  rw [cell_of_row _ _ _ _ _ _ h1]
  exact h3 i hi
theorem RRepL.frozenR (h : RRepL w t L S) (i : Nat) : w.frozen? ⟨t, i, none⟩ = false := by
  obtain ⟨cs, h1, _, _⟩ := h.tab
  exact frozen_of_cells h1 i
theorem RRepL.lt (h : RRepL w t L S) : t < w.heap.size := by
  obtain ⟨cs, h1, _⟩ := h.tab
  exact (Array.getElem?_eq_some_iff.1 h1).1
theorem rcell_task (L : RLay) (S : St) (i j : Nat) (hi : i < 256) (hj : j < 7) : rcell L S (i * 7 + j) = rtask L S i j := by
  unfold rcell
  rw [if_pos (by omega), show (i * 7 + j) / 7 = i by omega, show (i * 7 + j) % 7 = j by omega]
theorem rcell_list (L : RLay) (S : St) (p : Nat) (hp : p < 64) : rcell L S (1792 + p * 58) = L.lv (256 + p) := by
  unfold rcell
  rw [if_neg (by omega), if_pos (by omega), show (1792 + p * 58 - 1792) / 58 = p by omega]
theorem rcell_ac (L : RLay) (S : St) (p s : Nat) (hp : p < 64) (hs : s < 57) : rcell L S (1792 + p * 58 + 1 + s) = .int .i64 (S.ac p s) := by
  unfold rcell
  rw [if_neg (by omega), if_neg (by omega), show (1792 + p * 58 + 1 + s - 1792) / 58 = p by omega, show (1792 + p * 58 + 1 + s - 1792) % 58 - 1 = s by omega]
theorem RRepL.kept {w' : World} (h : RRepL w t L S) (hk : ∀ (k : Nat) (cs : Array Value) (e : TypeId) (fr : Nat × Nat), w.heap[k]? = some (.cells cs e fr) → e = 111 ∨ e = 127 → w'.heap[k]? = w.heap[k]?) : RRepL w' t L S := by
  obtain ⟨⟨cs, h1, h2, h3⟩, hr, hs⟩ := h
  refine ⟨⟨cs, (hk t cs 111 _ h1 (.inl rfl)).trans h1, h2, h3⟩, fun i hi => (hr i hi).kept fun g hg => ?_, hs⟩
  obtain ⟨cur, hc⟩ := (hr i hi).ty g hg
  exact hk g _ _ _ hc (.inr rfl)
theorem RRepL.below {w' : World} (h : RRepL w t L S) (hb : Below w.heap.size w w') : RRepL w' t L S := h.kept fun k cs e fr hk _ => hb.block k (Array.getElem?_eq_some_iff.1 hk).1
/-- A call of the program leaves it. -/
theorem RRepL.fr {w' : World} (h : RRepL w t L S) {b : Nat} (hf : Fr b TS w w') : RRepL w' t L S := h.kept fun k cs e fr hk he => by
  rw [hk]
  refine hf.oth k _ hk fun e' he' => ?_
  cases he'
  rcases he with rfl | rfl <;> decide
/-- And a call of the reference leaves the program's table. -/
theorem RepL.rgrown {w' : World} {base tp : Nat} {Lp : Lay} {Sp : St} (hp : RepL w base tp Lp Sp) (h : RRepL w t L S) (hg : w.grownBy w' (some t)) : RepL w' base tp Lp Sp := by
  refine hp.kept fun k cs e fr hk he => hg.block k (Array.getElem?_eq_some_iff.1 hk).1 ?_
  rintro e2
  cases e2
  obtain ⟨cs2, h1, _⟩ := h.tab
  rw [hk] at h1
  cases h1
  rcases he with h | h | h <;> cases h
/-- One cell of the table is written, to what another state has there. -/
theorem RRepL.put (h : RRepL w t L S) (i : Nat) (v : Value) {L' : RLay} {S' : St} (hc : ∀ j, j < 5504 → rcell L' S' j = if j = i then v else rcell L S j) (hr : ∀ j, j < 320 → Ls (w.setCell ⟨t, i, none⟩ v) 127 (L'.lv j) (S'.ls j))
    (hs : ∀ i, i < 256 → L'.set i < 18446744073709551616 ∧ ∀ x, S'.tk i = some x → x.waits = true → L'.set i &&& allM = x.wants) : RRepL (w.setCell ⟨t, i, none⟩ v) t L' S' := by
  obtain ⟨cs, h1, h2, h3⟩ := h.tab
  refine ⟨⟨cs.setIfInBounds i v, heap_setCell_same _ _ _ _ _ _ h1, by simpa using h2, fun j hj => ?_⟩, hr, hs⟩
  rw [hc j hj]
  by_cases e : j = i
  · subst e
    rw [if_pos rfl]
    simp [h2, hj]
  · rw [if_neg e, Array.getElem?_setIfInBounds_ne (fun e2 => e e2.symm)]
    exact h3 j hj
theorem RRepL.rows_set (h : RRepL w t L S) (i : Nat) (v : Value) {u : Value} {l : List Pd} (hu : Ls w 127 u l) : Ls (w.setCell ⟨t, i, none⟩ v) 127 u l := by
  refine hu.kept fun g hg => Below.heap_setCell _ _ _ _ ?_
  obtain ⟨cur, hc⟩ := hu.ty g hg
  obtain ⟨cs, h1, _⟩ := h.tab
  rintro e
  rw [show g = t from e, h1] at hc
  cases hc
end
def RL0 : RLay := { lv := fun _ => .slice none 0 0, set := fun _ => 0 }
def zeroRef : Array Value := ((List.range 5504).map (rcell RL0 S0)).toArray
set_option maxRecDepth 100000 in
theorem built111 : Try.prog.built 111 [] = some zeroRef := by kernel_rfl
theorem rrep_zero (w : World) : RRepL (w.alloc (.cells zeroRef 111)) w.heap.size RL0 S0 := by
  refine ⟨⟨zeroRef, heap_alloc_new _ _, by simp [zeroRef], fun i hi => by simp [zeroRef, hi]⟩, fun i _ => ls_nil _ _, fun i _ => ⟨by show (0 : Nat) < _; decide, fun x hx => by cases hx⟩⟩
set_option maxRecDepth 100000 in
theorem rnew_calls (w : World) : Calls Try.prog 22 #[] w fun e w' => e = .returned (.pointer (some ⟨w.heap.size, 0, none⟩)) ∧ RRepL w' w.heap.size RL0 S0 ∧ Below w.heap.size w w' := by
  have HR := Lib.hid (rrep_zero w)
  go_enter Try.func22, Try.ntmps22
  go_wp2_with ((with_reducible change wpList _ _ _ (⟨_, .build 111 _, _, _, _, _⟩ :: _) _ _); refine wpList_build_to rfl 111 #[] rfl [] (by rfl) _ built111 ?_)
  go_ret
  exact ⟨rfl, HR.out, (Below.refl _ _).alloc (Nat.le_refl _) _⟩
end Go.Proofs.Ytbpihfphoniclaa
namespace Go.Proofs.Ytbpihfphoniclaa
open Go.RowKit
set_option linter.unusedVariables false
theorem RAfter.refl {w : World} {t : Nat} {L : RLay} {S : St} (h : RRepL w t L S) : RAfter t S w w := ⟨⟨L, h⟩, ⟨rfl, rfl, rfl, Nat.le_refl _, fun _ _ _ => rfl⟩⟩
theorem RRepL.cell_task {w : World} {t : Nat} {L : RLay} {S : St} (h : RRepL w t L S) (i j : Nat) (hi : i < 256) (hj : j < 7) : w.cell? ⟨t, i * 7 + j, none⟩ = some (rtask L S i j) := by
  rw [h.cellR _ (by omega), rcell_task L S i j hi hj]
set_option maxRecDepth 100000 in
theorem rgot_calls {t : Nat} {L : RLay} {S : St} (n : Int) (w : World) (h : RRepL w t L S) : Calls Try.prog 54 #[.pointer (some ⟨t, 0, none⟩), .int .i64 n] w fun e w' => e = .returned (.int .i64 (gotS S n)) ∧ w = w' := by
  unfold gotS
  cases hn : isTh n with
  | false =>
    have HN := Lib.hid hn
    clear hn h
    go_enter Try.func54, Try.ntmps54
    go_wp2_with (go_at_call 63; refine (rthread_calls n _).mono ?_; rw [HN.out]; rintro e w' ⟨rfl, rfl⟩)
    go_ret
    exact ⟨rfl, rfl⟩
  | true =>
    obtain ⟨n0, n1⟩ := isTh_iff.1 hn
    have HN := Lib.hid hn
    have c6 := h.cell_task n.toNat 6 (by omega) (by omega)
    have e6 : rtask L S n.toNat 6 = .int .i64 (S.got n.toNat) := rfl
    rw [e6] at c6
    clear hn h e6
    go_enter Try.func54, Try.ntmps54
    go_wp2_with (go_at_call 63; refine (rthread_calls n _).mono ?_; rw [HN.out]; rintro e w' ⟨rfl, rfl⟩)
    go_ret
    exact ⟨rfl, rfl⟩
end Go.Proofs.Ytbpihfphoniclaa
namespace Go.Proofs.Ytbpihfphoniclaa
open Go.RowKit
set_option linter.unusedVariables false
def set7 (w : World) (t o : Nat) (a b c d e f g : Value) : World := (((((((w.setCell ⟨t, o, none⟩ a).setCell ⟨t, o + 1, none⟩ b).setCell ⟨t, o + 2, none⟩ c).setCell ⟨t, o + 3, none⟩ d).setCell ⟨t, o + 4, none⟩ e).setCell ⟨t, o + 5, none⟩ f).setCell ⟨t, o + 6, none⟩ g)
theorem grown_set (w : World) (t i : Nat) (v : Value) : w.grownBy (w.setCell ⟨t, i, none⟩ v) (some t) :=
  ⟨rfl, rfl, rfl, by simp, fun k hk hne => Below.heap_setCell _ _ _ _ (fun e => hne (by rw [show k = t from e]))⟩
theorem grown_set7 (w : World) (t o : Nat) (a b c d e f g : Value) : w.grownBy (set7 w t o a b c d e f g) (some t) :=
  ((((((grown_set w t o a).trans (grown_set _ t _ b)).trans (grown_set _ t _ c)).trans (grown_set _ t _ d)).trans (grown_set _ t _ e)).trans (grown_set _ t _ f)).trans (grown_set _ t _ g)
theorem set7_row {w : World} {t : Nat} {cs : Array Value} {ty : TypeId} (h : w.heap[t]? = some (.cells cs ty (0, 0))) (o : Nat) (a b c d e f g : Value) :
    (set7 w t o a b c d e f g).heap[t]? = some (.cells (((((((cs.setIfInBounds o a).setIfInBounds (o + 1) b).setIfInBounds (o + 2) c).setIfInBounds (o + 3) d).setIfInBounds (o + 4) e).setIfInBounds (o + 5) f).setIfInBounds (o + 6) g) ty (0, 0)) :=
  heap_setCell_same _ _ _ _ _ _ (heap_setCell_same _ _ _ _ _ _ (heap_setCell_same _ _ _ _ _ _ (heap_setCell_same _ _ _ _ _ _ (heap_setCell_same _ _ _ _ _ _ (heap_setCell_same _ _ _ _ _ _ (heap_setCell_same _ _ _ _ _ _ h))))))
/-- The cells of one thread. -/
def tcells (x : Option Tk) (u : Value) (s : Nat) (g : Int) : Nat → Value
  | 0 => .bool x.isSome
  | 1 => .int .i64 (match x with | some x => x.proc | none => 0)
  | 2 => .int .u64 ((match x with | some x => x.mask | none => 0 : Nat) : Int)
  | 3 => u
  | 4 => .bool (match x with | some x => x.waits | none => false)
  | 5 => .int .u64 ((s : Nat) : Int)
  | _ => .int .i64 g
theorem seven_get (cs : Array Value) (o : Nat) (f : Nat → Value) (hs : o + 7 ≤ cs.size) (j : Nat) :
    (((((((cs.setIfInBounds o (f 0)).setIfInBounds (o + 1) (f 1)).setIfInBounds (o + 2) (f 2)).setIfInBounds (o + 3) (f 3)).setIfInBounds (o + 4) (f 4)).setIfInBounds (o + 5) (f 5)).setIfInBounds (o + 6) (f 6))[j]? = if o ≤ j ∧ j < o + 7 then some (f (j - o)) else cs[j]? := by
  by_cases hj : o ≤ j ∧ j < o + 7
  · rw [if_pos hj]
    obtain ⟨k, rfl⟩ : ∃ k, j = o + k := ⟨j - o, by omega⟩
    rw [Nat.add_sub_cancel_left]
    have hk : k < 7 := by omega
    obtain rfl | rfl | rfl | rfl | rfl | rfl | rfl : k = 0 ∨ k = 1 ∨ k = 2 ∨ k = 3 ∨ k = 4 ∨ k = 5 ∨ k = 6 := by omega
    all_goals
      simp only [Array.getElem?_setIfInBounds, Array.size_setIfInBounds]
      simp
      try omega
  · rw [if_neg hj]
    simp only [Array.getElem?_setIfInBounds, Array.size_setIfInBounds]
    rw [if_neg (by omega), if_neg (by omega), if_neg (by omega), if_neg (by omega), if_neg (by omega), if_neg (by omega), if_neg (by omega)]
theorem rcell_upd (L : RLay) (S : St) {i : Nat} (hi : i < 256) (x : Option Tk) (u : Value) (l : List Pd) (s : Nat) (g : Int) (j : Nat) :
    rcell { lv := upd L.lv i u, set := upd L.set i s } { S with tk := upd S.tk i x, ls := upd S.ls i l, got := upd S.got i g } j = if i * 7 ≤ j ∧ j < i * 7 + 7 then tcells x u s g (j - i * 7) else rcell L S j := by
  unfold rcell
  by_cases h1 : j < 1792
  · rw [if_pos h1, if_pos h1]
    by_cases h2 : j / 7 = i
    · rw [if_pos (by omega), h2, show j - i * 7 = j % 7 by omega]
      generalize j % 7 = k
      unfold rtask tcells
      dsimp only
      rw [upd_same, upd_same, upd_same, upd_same]
      try rfl
    · rw [if_neg (by omega)]
      unfold rtask
      dsimp only
      rw [upd_other _ _ h2, upd_other _ _ h2, upd_other _ _ h2, upd_other _ _ h2]
  · have hno : ¬ (i * 7 ≤ j ∧ j < i * 7 + 7) := by omega
    rw [if_neg h1, if_neg h1, if_neg hno]
    dsimp only
    rw [upd_other L.lv u (show 256 + (j - 1792) / 58 ≠ i by omega)]
theorem RRepL.task_store {w : World} {t : Nat} {L : RLay} {S : St} (h : RRepL w t L S) {i : Nat} (hi : i < 256) (x : Option Tk) {u : Value} {l : List Pd} (s : Nat) (g : Int) (hu : Ls w 127 u l) (hs : s < 18446744073709551616) (hw : ∀ y, x = some y → y.waits = true → s &&& allM = y.wants) :
    RRepL (set7 w t (i * 7) (tcells x u s g 0) (tcells x u s g 1) (tcells x u s g 2) (tcells x u s g 3) (tcells x u s g 4) (tcells x u s g 5) (tcells x u s g 6)) t { lv := upd L.lv i u, set := upd L.set i s } { S with tk := upd S.tk i x, ls := upd S.ls i l, got := upd S.got i g } := by
  obtain ⟨cs, h1, h2, h3⟩ := h.tab
  have hrow := set7_row h1 (i * 7) (tcells x u s g 0) (tcells x u s g 1) (tcells x u s g 2) (tcells x u s g 3) (tcells x u s g 4) (tcells x u s g 5) (tcells x u s g 6)
  have hgr := grown_set7 w t (i * 7) (tcells x u s g 0) (tcells x u s g 1) (tcells x u s g 2) (tcells x u s g 3) (tcells x u s g 4) (tcells x u s g 5) (tcells x u s g 6)
  generalize set7 w t (i * 7) (tcells x u s g 0) (tcells x u s g 1) (tcells x u s g 2) (tcells x u s g 3) (tcells x u s g 4) (tcells x u s g 5) (tcells x u s g 6) = W at *
  have keep : ∀ {u : Value} {l : List Pd}, Ls w 127 u l → Ls W 127 u l := by
    intro u' l' hu'
    refine hu'.kept fun k hk => hgr.block k (hu'.lt k hk) ?_
    rintro e
    cases e
    obtain ⟨cur, hc⟩ := hu'.ty _ hk
    rw [h1] at hc
    cases hc
  refine ⟨⟨_, hrow, by simpa using h2, fun j hj => ?_⟩, fun k hk => ?_, fun k hk => ?_⟩
  · rw [seven_get cs (i * 7) (tcells x u s g) (by omega) j, rcell_upd L S hi x u l s g j]
    by_cases e : i * 7 ≤ j ∧ j < i * 7 + 7
    · rw [if_pos e, if_pos e]
    · rw [if_neg e, if_neg e]
      exact h3 j hj
  · by_cases e : k = i
    · subst e
      show Ls _ 127 (upd L.lv k u k) (upd S.ls k l k)
      rw [upd_same, upd_same]
      exact keep hu
    · show Ls _ 127 (upd L.lv i u k) (upd S.ls i l k)
      rw [upd_other _ _ e, upd_other _ _ e]
      exact keep (h.row k hk)
  · by_cases e : k = i
    · subst e
      refine ⟨?_, fun y hy hyw => ?_⟩
      · show upd L.set k s k < _
        rw [upd_same]
        exact hs
      · have hy' : upd S.tk k x k = some y := hy
        rw [upd_same] at hy'
        show upd L.set k s k &&& allM = _
        rw [upd_same]
        exact hw y hy' hyw
    · refine ⟨?_, fun y hy hyw => ?_⟩
      · show upd L.set i s k < _
        rw [upd_other _ _ e]
        exact (h.sets k hk).1
      · have hy' : upd S.tk i x k = some y := hy
        rw [upd_other _ _ e] at hy'
        show upd L.set i s k &&& allM = _
        rw [upd_other _ _ e]
        exact (h.sets k hk).2 y hy' hyw
end Go.Proofs.Ytbpihfphoniclaa
namespace Go.Proofs.Ytbpihfphoniclaa
open Go.RowKit
set_option linter.unusedVariables false
set_option maxRecDepth 100000 in
theorem rstart_calls {t : Nat} {L : RLay} {S : St} {n : Nat} (th p : Int) (w : World) (h : RRepL w t L S) (hin : Inv S n) :
    Calls Try.prog 45 #[.pointer (some ⟨t, 0, none⟩), .int .i64 th, .int .i64 p] w fun e w' => e = .returned (.int .i64 (startS S th p).1) ∧ RAfter t (startS S th p).2 w w' := by
  unfold startS
  have HA := Lib.hid (RAfter.refl h)
  cases hth : isTh th with
  | false =>
    have H1 := Lib.hid hth
    clear hth h
    go_enter Try.func45, Try.ntmps45
    go_wp2_with (go_at_call 63; refine (rthread_calls th _).mono ?_; rw [H1.out]; rintro e w' ⟨rfl, rfl⟩)
    go_ret
    exact ⟨rfl, HA.out⟩
  | true =>
    cases hp : isPr p with
    | false =>
      have H1 := Lib.hid (And.intro hth hp)
      clear hth h hp
      go_enter Try.func45, Try.ntmps45
      go_wp2_with (first
        | (go_at_call 63; refine (rthread_calls th _).mono ?_; rw [H1.out.1]; rintro e w' ⟨rfl, rfl⟩)
        | (go_at_call 64; refine (rprocess_calls p _).mono ?_; rw [H1.out.2]; rintro e w' ⟨rfl, rfl⟩))
      go_ret
      exact ⟨rfl, HA.out⟩
    | true =>
      have H1 := Lib.hid (And.intro hth hp)
      obtain ⟨t0, t1⟩ := isTh_iff.1 hth
      have c0 : w.cell? ⟨t, th.toNat * 7, none⟩ = some (.bool (S.tk th.toNat).isSome) := h.cell_task th.toNat 0 (by omega) (by omega)
      cases hx : S.tk th.toNat with
      | some x =>
        rw [hx] at c0
        have c0' : w.cell? ⟨t, th.toNat * 7, none⟩ = some (.bool true) := c0
        clear hth h hp hx c0
        go_enter Try.func45, Try.ntmps45
        go_wp2_with (first
          | (go_at_call 63; refine (rthread_calls th _).mono ?_; rw [H1.out.1]; rintro e w' ⟨rfl, rfl⟩)
          | (go_at_call 64; refine (rprocess_calls p _).mono ?_; rw [H1.out.2]; rintro e w' ⟨rfl, rfl⟩))
        go_ret
        exact ⟨rfl, HA.out⟩
      | none =>
        rw [hx] at c0
        have c0' : w.cell? ⟨t, th.toNat * 7, none⟩ = some (.bool false) := c0
        have c1 := h.cell_task th.toNat 1 (by omega) (by omega)
        have c2 := h.cell_task th.toNat 2 (by omega) (by omega)
        have c3 := h.cell_task th.toNat 3 (by omega) (by omega)
        have c4 := h.cell_task th.toNat 4 (by omega) (by omega)
        have c5 := h.cell_task th.toNat 5 (by omega) (by omega)
        have c6 := h.cell_task th.toNat 6 (by omega) (by omega)
        have y0 := h.frozenR (th.toNat * 7)
        have y1 := h.frozenR (th.toNat * 7 + 1)
        have y2 := h.frozenR (th.toNat * 7 + 2)
        have y3 := h.frozenR (th.toNat * 7 + 3)
        have y4 := h.frozenR (th.toNat * 7 + 4)
        have y5 := h.frozenR (th.toNat * 7 + 5)
        have y6 := h.frozenR (th.toNat * 7 + 6)
        have hst := h.task_store (i := th.toNat) (by omega) (some ⟨p, 0, false, 0⟩) 0 0 (ls_nil w 127) (by omega) (fun y hy hyw => by cases hy; cases hyw)
        have hls : upd S.ls th.toNat [] = S.ls := by
          have := upd_self S.ls th.toNat
          rwa [hin.dead th.toNat (by omega) hx] at this
        have hgr := grown_set7 w t (th.toNat * 7) (.bool true) (.int .i64 p) (.int .u64 0) (.slice none 0 0) (.bool false) (.int .u64 0) (.int .i64 0)
        have HST := Lib.hid (And.intro hst (And.intro hls hgr))
        clear hth h hp hx c0 hst hls hgr
        go_enter Try.func45, Try.ntmps45
        go_wp2_with (first
          | (go_at_call 63; refine (rthread_calls th _).mono ?_; rw [H1.out.1]; rintro e w' ⟨rfl, rfl⟩)
          | (go_at_call 64; refine (rprocess_calls p _).mono ?_; rw [H1.out.2]; rintro e w' ⟨rfl, rfl⟩))
        go_ret
        refine ⟨rfl, ⟨⟨upd L.lv th.toNat (.slice none 0 0), upd L.set th.toNat 0⟩, ?_⟩, HST.out.2.2⟩
        have := HST.out.1
        rw [HST.out.2.1] at this
        exact this
end Go.Proofs.Ytbpihfphoniclaa
namespace Go.Proofs.Ytbpihfphoniclaa
open Go.RowKit
set_option linter.unusedVariables false
theorem threads_has {S : St} {p : Int} {k : Nat} {x : Tk} (hk : k < 256) (hx : S.tk k = some x) (hp : x.proc = p) : (!(threads S p).isEmpty) = true := by
  have : k ∈ threads S p := mem_threads.2 ⟨hk, x, hx, hp⟩
  cases h : threads S p with
  | nil => rw [h] at this; cases this
  | cons a l => rfl
theorem threads_none {S : St} {p : Int} (h : ∀ j, j < 256 → inP S p j = false) : (!(threads S p).isEmpty) = false := by
  cases ht : threads S p with
  | nil => rfl
  | cons a l =>
    have : a ∈ threads S p := by rw [ht]; exact List.mem_cons_self
    obtain ⟨ha, x, hx, hp⟩ := mem_threads.1 this
    have h2 := inP_iff.2 ⟨x, hx, hp⟩
    rw [h a ha] at h2
    cases h2
set_option maxHeartbeats 1000000 in
set_option maxRecDepth 100000 in
theorem rhas_calls {t : Nat} {L : RLay} {S : St} (p : Int) (w : World) (h : RRepL w t L S) : Calls Try.prog 65 #[.pointer (some ⟨t, 0, none⟩), .int .i64 p] w fun e w' => e = .returned (.bool (!(threads S p).isEmpty)) ∧ w = w' := by
  have H := Lib.hid h
  clear h
  go_enter Try.func65, Try.ntmps65
  go_wp2
  go_loopw [5] (fun i wr => ∃ k : Nat, k ≤ 256 ∧ i = .int .i64 k ∧ Hid ((∀ j, j < k → inP S p j = false) ∧ w = wr)) (fun i _ => 256 - (intOf i).toNat)
  case atStart => exact ⟨0, by omega, rfl, Lib.hid ⟨fun j hj => by omega, rfl⟩⟩
  case round =>
    obtain ⟨k, hk, rfl, HI⟩ := hrel
    obtain rfl := HI.out.2
    by_cases hlt : k < 256
    · have hlt' : (k : Int) < 256 := by omega
      have c0 : w.cell? ⟨t, k * 7, none⟩ = some (.bool (S.tk k).isSome) := H.out.cell_task k 0 (by omega) (by omega)
      cases hx : S.tk k with
      | none =>
        rw [hx] at c0
        have c0' : w.cell? ⟨t, k * 7, none⟩ = some (.bool false) := c0
        have HB : Hid (inP S p k = false) := Lib.hid (by unfold inP; rw [hx])
        clear c0 hx
        go_wp2
        go_roundw
        case rel =>
          refine ⟨k + 1, by omega, by go_num, Lib.hid ⟨fun j hj => ?_, True.intro⟩⟩
          rcases Nat.lt_succ_iff_lt_or_eq.1 hj with h | rfl
          · exact HI.out.1 j h
          · exact HB.out
        case measure => simp [intOf]; omega
      | some x =>
        rw [hx] at c0
        have c0' : w.cell? ⟨t, k * 7, none⟩ = some (.bool true) := c0
        have c1 := H.out.cell_task k 1 (by omega) (by omega)
        unfold rtask at c1
        rw [hx] at c1
        have c1' : w.cell? ⟨t, k * 7 + 1, none⟩ = some (.int .i64 x.proc) := c1
        clear c0 c1
        by_cases hp : x.proc = p
        · have hpb : (x.proc == p) = true := by simpa using hp
          have HR := Lib.hid (threads_has hlt hx hp)
          clear hx hp
          go_wp2
          go_ret
          exact ⟨by rw [HR.out]; rfl, rfl⟩
        · have hpb : (x.proc == p) = false := by simpa using hp
          have HB : Hid (inP S p k = false) := Lib.hid (by unfold inP; rw [hx]; simpa using hp)
          clear hx hp
          go_wp2
          go_roundw
          case rel =>
            refine ⟨k + 1, by omega, by go_num, Lib.hid ⟨fun j hj => ?_, True.intro⟩⟩
            rcases Nat.lt_succ_iff_lt_or_eq.1 hj with h | rfl
            · exact HI.out.1 j h
            · exact HB.out
          case measure => simp [intOf]; omega
    · obtain rfl : k = 256 := by omega
      have HR := Lib.hid (threads_none HI.out.1)
      go_wp2
      go_ret
      exact ⟨by rw [HR.out]; rfl, rfl⟩
end Go.Proofs.Ytbpihfphoniclaa
namespace Go.Proofs.Ytbpihfphoniclaa
open Go.RowKit
set_option linter.unusedVariables false
theorem RRepL.cell_ac {w : World} {t : Nat} {L : RLay} {S : St} (h : RRepL w t L S) (p s : Nat) (hp : p < 64) (hs : s < 57) : w.cell? ⟨t, 1792 + p * 58 + 1 + s, none⟩ = some (.int .i64 (S.ac p s)) := by
  rw [h.cellR _ (by omega), rcell_ac L S p s hp hs]
theorem RRepL.cell_list {w : World} {t : Nat} {L : RLay} {S : St} (h : RRepL w t L S) (p : Nat) (hp : p < 64) : w.cell? ⟨t, 1792 + p * 58, none⟩ = some (L.lv (256 + p)) := by
  rw [h.cellR _ (by omega), rcell_list L S p hp]
set_option maxRecDepth 100000 in
theorem rignored_calls {t : Nat} {L : RLay} {S : St} (p s : Int) (w : World) (h : RRepL w t L S) (hp : isPr p = true) (hs : 1 ≤ s) (hs2 : s ≤ 56) :
    Calls Try.prog 67 #[.pointer (some ⟨t, 0, none⟩), .int .i64 p, .int .i64 s] w fun e w' => e = .returned (.bool (ignored S p.toNat s)) ∧ w = w' := by
  obtain ⟨p0, p1⟩ := isPr_iff.1 hp
  have c := h.cell_ac p.toNat s.toNat (by omega) (by omega)
  unfold ignored
  generalize S.ac p.toNat s.toNat = a at *
  clear h hp
  by_cases h1 : a = 1
  · subst h1
    go_enter Try.func67, Try.ntmps67
    go_wp2
    go_ret
    exact ⟨by simp, rfl⟩
  · have b1 : (a == 1) = false := by simpa using h1
    by_cases h0 : a = 0
    · subst h0
      by_cases h17 : s = 17
      · have b17 : (s == 17) = true := by simpa using h17
        clear h17
        go_enter Try.func67, Try.ntmps67
        go_wp2
        go_ret
        exact ⟨by rw [b17]; rfl, rfl⟩
      · have b17 : (s == 17) = false := by simpa using h17
        go_enter Try.func67, Try.ntmps67
        go_wp2
        go_ret
        exact ⟨by simp [b17], rfl⟩
    · have b0 : (a == 0) = false := by simpa using h0
      go_enter Try.func67, Try.ntmps67
      go_wp2
      go_ret
      exact ⟨by simp [b1, b0], rfl⟩
end Go.Proofs.Ytbpihfphoniclaa
namespace Go.Proofs.Ytbpihfphoniclaa
open Go.RowKit
set_option linter.unusedVariables false
theorem rtask_same {L : RLay} {S : St} {L' : RLay} {S' : St} {i : Nat} (ht : S'.tk i = S.tk i) (hl : L'.lv i = L.lv i) (hs : L'.set i = L.set i) (hg : S'.got i = S.got i) (j : Nat) : rtask L' S' i j = rtask L S i j := by
  unfold rtask
  rw [ht, hl, hs, hg]
/-- A cell of thread i is written; all else is as it was. -/
theorem RRepL.put_task {w : World} {t : Nat} {L : RLay} {S : St} (h : RRepL w t L S) {i j : Nat} (hi : i < 256) (hj : j < 7) (hj3 : j ≠ 3) (x : Option Tk) (s : Nat) (g : Int) (hv : ∀ k, k < 7 → k ≠ j → rtask { L with set := upd L.set i s } { S with tk := upd S.tk i x, got := upd S.got i g } i k = rtask L S i k)
    (hs : s < 18446744073709551616) (hw : ∀ y, x = some y → y.waits = true → s &&& allM = y.wants) :
    RRepL (w.setCell ⟨t, i * 7 + j, none⟩ (rtask { L with set := upd L.set i s } { S with tk := upd S.tk i x, got := upd S.got i g } i j)) t { L with set := upd L.set i s } { S with tk := upd S.tk i x, got := upd S.got i g } := by
  refine h.put (i * 7 + j) _ (fun k hk => ?_) (fun k hk => h.rows_set _ _ (h.row k hk)) (fun k hk => ?_)
  · by_cases e : k = i * 7 + j
    · subst e
      rw [if_pos rfl, rcell_task _ _ i j hi hj]
    · rw [if_neg e]
      unfold rcell
      by_cases h1 : k < 1792
      · rw [if_pos h1, if_pos h1]
        by_cases h2 : k / 7 = i
        · rw [h2]
          exact hv (k % 7) (by omega) (by omega)
        · exact rtask_same (L := L) (S := S) (L' := { L with set := upd L.set i s }) (S' := { S with tk := upd S.tk i x, got := upd S.got i g }) (i := k / 7) (upd_other S.tk x h2) rfl (upd_other L.set s h2) (upd_other S.got g h2) _
      · rw [if_neg h1, if_neg h1]
  · by_cases e : k = i
    · subst e
      refine ⟨?_, fun y hy hyw => ?_⟩
      · show upd L.set k s k < _
        rw [upd_same]
        exact hs
      · have hy' : upd S.tk k x k = some y := hy
        rw [upd_same] at hy'
        show upd L.set k s k &&& allM = _
        rw [upd_same]
        exact hw y hy' hyw
    · refine ⟨?_, fun y hy hyw => ?_⟩
      · show upd L.set i s k < _
        rw [upd_other _ _ e]
        exact (h.sets k hk).1
      · have hy' : upd S.tk i x k = some y := hy
        rw [upd_other _ _ e] at hy'
        show upd L.set i s k &&& allM = _
        rw [upd_other _ _ e]
        exact (h.sets k hk).2 y hy' hyw
end Go.Proofs.Ytbpihfphoniclaa
namespace Go.Proofs.Ytbpihfphoniclaa
theorem com_bit {x : Nat} (hx : x < 18446744073709551616) (j : Nat) : (18446744073709551615 - x).testBit j = (decide (j < 64) && !x.testBit j) := by
  have := Nat.testBit_two_pow_sub_succ (n := 64) (x := x) hx j
  rwa [show 2 ^ 64 - (x + 1) = 18446744073709551615 - x by omega] at this
/-- The set that Mask uses: without the signals that nobody masks. -/
def rset (b : Nat) : Nat := ((b &&& allM) &&& (18446744073709551615 - 256)) &&& (18446744073709551615 - 262144)
theorem rset_bit (b j : Nat) : (rset b).testBit j = ((b &&& allM).testBit j && (decide (j < 64) && !decide (8 = j)) && (decide (j < 64) && !decide (18 = j))) := by
  unfold rset
  rw [Nat.testBit_and, Nat.testBit_and, com_bit (by omega), com_bit (by omega), show (256 : Nat) = 2 ^ 8 from rfl, show (262144 : Nat) = 2 ^ 18 from rfl, Nat.testBit_two_pow, Nat.testBit_two_pow]
theorem nev_bit (j : Nat) : (18446744073709551615 - nevM).testBit j = (decide (j < 64) && !(decide (8 = j) || decide (18 = j))) := by
  rw [com_bit (by decide), show nevM = 2 ^ 8 ||| 2 ^ 18 by decide, Nat.testBit_or, Nat.testBit_two_pow, Nat.testBit_two_pow]
theorem small_bit {x : Nat} (hx : x < 72057594037927936) {j : Nat} (hj : 64 ≤ j) : x.testBit j = false :=
  Nat.testBit_lt_two_pow (Nat.lt_of_lt_of_le hx (Nat.le_trans (by decide : 72057594037927936 ≤ 2 ^ 64) (Nat.pow_le_pow_right (by omega) hj)))
theorem newMask_ref {old : Nat} (ho : old < 72057594037927936) (h8 : old.testBit 8 = false) (h18 : old.testBit 18 = false) (how : Int) (b : Nat) :
    newMask old how b = if how = 0 then old ||| rset b else if how = 1 then old &&& (18446744073709551615 - rset b) else rset b := by
  have hr : rset b < 18446744073709551616 := Nat.lt_of_le_of_lt Nat.and_le_left (Nat.lt_of_le_of_lt Nat.and_le_left (Nat.lt_of_le_of_lt Nat.and_le_right (by decide)))
  have ha : b &&& allM < 18446744073709551616 := Nat.lt_of_le_of_lt Nat.and_le_right (by decide)
  unfold newMask
  dsimp only
  apply Nat.eq_of_testBit_eq
  intro j
  rw [Nat.testBit_and, nev_bit]
  by_cases h64 : j < 64
  · by_cases e8 : 8 = j
    · subst e8
      split
      · rw [Nat.testBit_or, Nat.testBit_or, rset_bit, h8]; simp
      · split
        · rw [Nat.testBit_and, Nat.testBit_and, h8]; simp
        · rw [rset_bit]; simp
    · by_cases e18 : 18 = j
      · subst e18
        split
        · rw [Nat.testBit_or, Nat.testBit_or, rset_bit, h18]; simp
        · split
          · rw [Nat.testBit_and, Nat.testBit_and, h18]; simp
          · rw [rset_bit]; simp
      · split
        · rw [Nat.testBit_or, Nat.testBit_or, rset_bit]; simp [h64, e8, e18]
        · split
          · rw [Nat.testBit_and, Nat.testBit_and, com_bit hr, com_bit ha, rset_bit]; simp [h64, e8, e18]
          · rw [rset_bit]; simp [h64, e8, e18]
  · have hold := small_bit ho (j := j) (by omega)
    have hand := small_bit (x := b &&& allM) (Nat.lt_of_le_of_lt Nat.and_le_right (by decide)) (j := j) (by omega)
    split
    · rw [Nat.testBit_or, Nat.testBit_or, rset_bit, hold, hand]; simp
    · split
      · rw [Nat.testBit_and, Nat.testBit_and, hold]; simp
      · rw [rset_bit, hand]; simp
end Go.Proofs.Ytbpihfphoniclaa
namespace Go.Proofs.Ytbpihfphoniclaa
open Go.RowKit
set_option linter.unusedVariables false
theorem rmask_after {w : World} {t : Nat} {L : RLay} {S : St} (h : RRepL w t L S) {i : Nat} (hi : i < 256) {x : Tk} (hx : S.tk i = some x) (m : Nat) :
    RAfter t { S with tk := upd S.tk i (some { x with mask := m }) } w (w.setCell ⟨t, i * 7 + 2, none⟩ (.int .u64 (m : Int))) := by
  have hp := h.put_task hi (j := 2) (by omega) (by omega) (some { x with mask := m }) (L.set i) (S.got i) (fun k hk hk2 => ?_) (h.sets i hi).1 (fun y hy hyw => by cases hy; exact (h.sets i hi).2 x hx hyw)
  · have hv : rtask { L with set := upd L.set i (L.set i) } { S with tk := upd S.tk i (some { x with mask := m }), got := upd S.got i (S.got i) } i 2 = .int .u64 (m : Int) := by
      unfold rtask
      dsimp only
      rw [upd_same]
      rfl
    rw [hv, upd_self, upd_self] at hp
    exact ⟨⟨L, hp⟩, grown_set _ _ _ _⟩
  · unfold rtask
    dsimp only
    rw [upd_self, upd_self, upd_same, hx]
    obtain rfl | rfl | rfl | rfl | rfl | rfl : k = 0 ∨ k = 1 ∨ k = 3 ∨ k = 4 ∨ k = 5 ∨ k = 6 := by omega
    all_goals rfl
set_option maxHeartbeats 1000000 in
set_option maxRecDepth 100000 in
theorem rmask_some {t : Nat} {L : RLay} {S : St} (th how : Int) (b : Nat) (w : World) (h : RRepL w t L S) (hin : Inv S 1000) (hb : b < 18446744073709551616) (hth : isTh th = true) (h0 : ¬ how < 0) (h2 : ¬ 2 < how) (x : Tk) (hx : S.tk th.toNat = some x) :
    Calls Try.prog 48 #[.pointer (some ⟨t, 0, none⟩), .int .i64 th, .int .i64 how, .int .u64 b] w fun e w' => e = .returned (.tuple #[.int .u64 (x.mask : Int), .int .i64 0]) ∧ RAfter t { S with tk := upd S.tk th.toNat (some { x with mask := newMask x.mask how b }) } w w' := by
  obtain ⟨t0, t1⟩ := isTh_iff.1 hth
  obtain ⟨_, _, hm, m8, m18, _⟩ := hin.task th.toNat (by omega) x hx
  have hnm := newMask_ref hm m8 m18 how b
  have HA := Lib.hid (fun m => rmask_after h (show th.toNat < 256 by omega) hx m)
  have c0 : w.cell? ⟨t, th.toNat * 7, none⟩ = some (.bool (S.tk th.toNat).isSome) := h.cell_task th.toNat 0 (by omega) (by omega)
  have c2 := h.cell_task th.toNat 2 (by omega) (by omega)
  unfold rtask at c2
  rw [hx] at c0 c2
  have c0' : w.cell? ⟨t, th.toNat * 7, none⟩ = some (.bool true) := c0
  have c2' : w.cell? ⟨t, th.toNat * 7 + 2, none⟩ = some (.int .u64 (x.mask : Int)) := c2
  have y2 := h.frozenR (th.toNat * 7 + 2)
  have hs0 : b &&& allM < 72057594037927936 := Nat.lt_of_le_of_lt Nat.and_le_right (by decide)
  have E1 : bits .and .u64 (b : Int) 72057594037927935 = ((b &&& allM : Nat) : Int) := u64_and_nat b allM hb (by decide)
  have E2 : bits .andNot .u64 ((b &&& allM : Nat) : Int) 256 = (((b &&& allM) &&& (18446744073709551615 - 256) : Nat) : Int) := u64_andNot_nat _ 256 (by omega) (by omega)
  have E3 : bits .andNot .u64 (((b &&& allM) &&& (18446744073709551615 - 256) : Nat) : Int) 262144 = ((rset b : Nat) : Int) := u64_andNot_nat _ 262144 (Nat.lt_of_le_of_lt Nat.and_le_left (by omega)) (by omega)
  have hr : rset b < 72057594037927936 := Nat.lt_of_le_of_lt Nat.and_le_left (Nat.lt_of_le_of_lt Nat.and_le_left hs0)
  have E4 : bits .or .u64 (x.mask : Int) ((rset b : Nat) : Int) = ((x.mask ||| rset b : Nat) : Int) := u64_or_nat _ _ (by omega) (by omega)
  have E5 : bits .andNot .u64 (x.mask : Int) ((rset b : Nat) : Int) = ((x.mask &&& (18446744073709551615 - rset b) : Nat) : Int) := u64_andNot_nat _ _ (by omega) (by omega)
  generalize (b &&& allM) &&& (18446744073709551615 - 256) = s1 at *
  generalize b &&& allM = s0 at *
  generalize rset b = s2 at *
  generalize x.mask ||| s2 = o4 at *
  generalize x.mask &&& (18446744073709551615 - s2) = o5 at *
  rw [hnm]
  have HTH := Lib.hid hth
  clear h hth hx c0 c2 hin hm m8 m18 hnm hs0 hr hb
  obtain rfl | rfl | rfl : how = 0 ∨ how = 1 ∨ how = 2 := by omega
  all_goals
    go_enter Try.func48, Try.ntmps48
    go_wp2_with fail
    refine (rthread_calls th _).mono ?_
    rw [HTH.out]
    rintro e w' ⟨rfl, rfl⟩
    go_wp2_with fail
    refine (rbit_calls 9 _ (by omega) (by omega)).mono ?_
    rw [show ((2 ^ ((9 : Int) - 1).toNat : Nat) : Int) = 256 by decide]
    rintro e w' ⟨rfl, rfl⟩
    go_wp2_with fail
    refine (rbit_calls 19 _ (by omega) (by omega)).mono ?_
    rw [show ((2 ^ ((19 : Int) - 1).toNat : Nat) : Int) = 262144 by decide]
    rintro e w' ⟨rfl, rfl⟩
    go_wp2
    go_ret2
    first
      | exact ⟨rfl, HA.out o4⟩
      | exact ⟨rfl, HA.out o5⟩
      | exact ⟨rfl, HA.out s2⟩
set_option maxRecDepth 100000 in
theorem rmask_calls {t : Nat} {L : RLay} {S : St} (th how : Int) (b : Nat) (w : World) (h : RRepL w t L S) (hin : Inv S 1000) (hb : b < 18446744073709551616) :
    Calls Try.prog 48 #[.pointer (some ⟨t, 0, none⟩), .int .i64 th, .int .i64 how, .int .u64 b] w fun e w' => e = .returned (.tuple #[.int .u64 (maskS S th how b).1.1, .int .i64 (maskS S th how b).1.2]) ∧ RAfter t (maskS S th how b).2 w w' := by
  unfold maskS
  have HA := Lib.hid (RAfter.refl h)
  cases hth : isTh th with
  | false =>
    have H1 := Lib.hid hth
    clear hth h
    go_enter Try.func48, Try.ntmps48
    go_wp2_with (go_at_call 63; refine (rthread_calls th _).mono ?_; rw [H1.out]; rintro e w' ⟨rfl, rfl⟩)
    go_ret2
    exact ⟨rfl, HA.out⟩
  | true =>
    obtain ⟨t0, t1⟩ := isTh_iff.1 hth
    simp only [Bool.not_true, Bool.false_eq_true, if_false]
    by_cases hh : how < 0 ∨ 2 < how
    · rw [if_pos hh]
      have H1 := Lib.hid hth
      clear hth h
      have hh' : how < 0 ∨ (¬ how < 0 ∧ 2 < how) := by omega
      clear hh
      rcases hh' with hh | ⟨hh, hh2⟩
      all_goals
        go_enter Try.func48, Try.ntmps48
        go_wp2_with (go_at_call 63; refine (rthread_calls th _).mono ?_; rw [H1.out]; rintro e w' ⟨rfl, rfl⟩)
        go_ret2
        exact ⟨rfl, HA.out⟩
    · rw [if_neg hh]
      cases hx : S.tk th.toNat with
      | some x => exact rmask_some th how b w h hin hb hth (fun h => hh (.inl h)) (fun h => hh (.inr h)) x hx
      | none =>
        have c0 : w.cell? ⟨t, th.toNat * 7, none⟩ = some (.bool (S.tk th.toNat).isSome) := h.cell_task th.toNat 0 (by omega) (by omega)
        rw [hx] at c0
        have c0' : w.cell? ⟨t, th.toNat * 7, none⟩ = some (.bool false) := c0
        have H1 := Lib.hid hth
        have h1 : ¬ how < 0 := fun h => hh (.inl h)
        have h2 : ¬ 2 < how := fun h => hh (.inr h)
        clear hth h hx c0 hh
        go_enter Try.func48, Try.ntmps48
        go_wp2_with (go_at_call 63; refine (rthread_calls th _).mono ?_; rw [H1.out]; rintro e w' ⟨rfl, rfl⟩)
        go_ret2
        exact ⟨rfl, HA.out⟩
end Go.Proofs.Ytbpihfphoniclaa
namespace Go.Proofs.Ytbpihfphoniclaa
open Go.RowKit
set_option linter.unusedVariables false
theorem RRepL.put_wait2 {w : World} {t : Nat} {L : RLay} {S : St} (h : RRepL w t L S) {i : Nat} (hi : i < 256) {x : Tk} (hx : S.tk i = some x) (b : Bool) (s q : Nat) (hs : s < 18446744073709551616) (hw : b = true → s &&& allM = q) :
    RRepL ((w.setCell ⟨t, i * 7 + 4, none⟩ (.bool b)).setCell ⟨t, i * 7 + 5, none⟩ (.int .u64 (s : Int))) t { L with set := upd L.set i s } { S with tk := upd S.tk i (some { x with waits := b, wants := q }) } := by
  have h1 := h.put_task hi (j := 4) (by omega) (by omega) (some { x with waits := b, wants := L.set i &&& allM }) (L.set i) (S.got i) (fun k hk hk2 => ?_) (h.sets i hi).1 (fun y hy hyw => by cases hy; rfl)
  · have h2 := h1.put_task hi (j := 5) (by omega) (by omega) (some { x with waits := b, wants := q }) s (S.got i) (fun k hk hk2 => ?_) hs (fun y hy hyw => by cases hy; exact hw hyw)
    · have v4 : rtask { L with set := upd L.set i (L.set i) } { S with tk := upd S.tk i (some { x with waits := b, wants := L.set i &&& allM }), got := upd S.got i (S.got i) } i 4 = .bool b := by
        unfold rtask; dsimp only; rw [upd_same]; rfl
      rw [v4] at h2
      dsimp only at h2
      rw [upd_upd, upd_upd, upd_upd, upd_self S.got] at h2
      have v5 : rtask { L with set := upd L.set i s } { S with tk := upd S.tk i (some { x with waits := b, wants := q }), got := S.got } i 5 = .int .u64 (s : Int) := by
        unfold rtask; dsimp only; rw [upd_same, upd_same]; rfl
      rw [v5] at h2
      exact h2
    · unfold rtask
      dsimp only
      simp only [upd_same, upd_upd]
      obtain rfl | rfl | rfl | rfl | rfl | rfl : k = 0 ∨ k = 1 ∨ k = 2 ∨ k = 3 ∨ k = 4 ∨ k = 6 := by omega
      all_goals rfl
  · unfold rtask
    dsimp only
    rw [upd_self, upd_self, upd_same, hx]
    obtain rfl | rfl | rfl | rfl | rfl | rfl : k = 0 ∨ k = 1 ∨ k = 2 ∨ k = 3 ∨ k = 5 ∨ k = 6 := by omega
    all_goals rfl
theorem RRepL.put_got {w : World} {t : Nat} {L : RLay} {S : St} (h : RRepL w t L S) {i : Nat} (hi : i < 256) (g : Int) :
    RRepL (w.setCell ⟨t, i * 7 + 6, none⟩ (.int .i64 g)) t L { S with got := upd S.got i g } := by
  have h1 := h.put_task hi (j := 6) (by omega) (by omega) (S.tk i) (L.set i) g (fun k hk hk2 => ?_) (h.sets i hi).1 (fun y hy hyw => (h.sets i hi).2 y hy hyw)
  · have v6 : rtask { L with set := upd L.set i (L.set i) } { S with tk := upd S.tk i (S.tk i), got := upd S.got i g } i 6 = .int .i64 g := by
      unfold rtask; dsimp only; simp only [upd_same]
    rw [v6] at h1
    rw [upd_self, upd_self] at h1
    exact h1
  · unfold rtask
    dsimp only
    rw [upd_self, upd_self]
    obtain rfl | rfl | rfl | rfl | rfl | rfl : k = 0 ∨ k = 1 ∨ k = 2 ∨ k = 3 ∨ k = 4 ∨ k = 5 := by omega
    all_goals rfl
theorem RRepL.drew {w : World} {t : Nat} {L : RLay} {S : St} (h : RRepL w t L S) : RRepL w.drew t L S := h.kept fun _ _ _ _ _ _ => rfl
theorem grown_drew (w : World) (t : Nat) : w.grownBy w.drew (some t) := ⟨rfl, rfl, rfl, Nat.le_refl _, fun _ _ _ => rfl⟩
set_option maxRecDepth 100000 in
theorem rcancel_calls {t : Nat} {L : RLay} {S : St} (th : Int) (w : World) (h : RRepL w t L S) :
    Calls Try.prog 52 #[.pointer (some ⟨t, 0, none⟩), .int .i64 th] w fun e w' => e = .returned (.bool (cancelS S th).1) ∧ RAfter t (cancelS S th).2 w w' := by
  unfold cancelS
  have HA := Lib.hid (RAfter.refl h)
  cases hth : isTh th with
  | false =>
    have H1 := Lib.hid hth
    clear hth h
    go_enter Try.func52, Try.ntmps52
    go_wp2_with (go_at_call 63; refine (rthread_calls th _).mono ?_; rw [H1.out]; rintro e w' ⟨rfl, rfl⟩)
    go_ret
    exact ⟨rfl, HA.out⟩
  | true =>
    obtain ⟨t0, t1⟩ := isTh_iff.1 hth
    have H1 := Lib.hid hth
    have c4 := h.cell_task th.toNat 4 (by omega) (by omega)
    unfold rtask at c4
    cases hx : S.tk th.toNat with
    | none =>
      rw [hx] at c4
      have c4' : w.cell? ⟨t, th.toNat * 7 + 4, none⟩ = some (.bool false) := c4
      clear hth h c4 hx
      go_enter Try.func52, Try.ntmps52
      go_wp2_with (go_at_call 63; refine (rthread_calls th _).mono ?_; rw [H1.out]; rintro e w' ⟨rfl, rfl⟩)
      go_ret
      exact ⟨rfl, HA.out⟩
    | some x =>
      rw [hx] at c4
      have c4' : w.cell? ⟨t, th.toNat * 7 + 4, none⟩ = some (.bool x.waits) := c4
      cases hxw : x.waits with
      | false =>
        rw [hxw] at c4'
        clear hth h c4 hx
        simp only [Bool.not_true, Bool.false_eq_true, if_false, hxw]
        go_enter Try.func52, Try.ntmps52
        go_wp2_with (go_at_call 63; refine (rthread_calls th _).mono ?_; rw [H1.out]; rintro e w' ⟨rfl, rfl⟩)
        go_ret
        exact ⟨rfl, HA.out⟩
      | true =>
        rw [hxw] at c4'
        have y4 := h.frozenR (th.toNat * 7 + 4)
        have y5 := h.frozenR (th.toNat * 7 + 5)
        have c5 := h.cell_task th.toNat 5 (by omega) (by omega)
        have HP := Lib.hid (h.put_wait2 (show th.toNat < 256 by omega) hx false 0 x.wants (by omega) (fun h => by cases h))
        clear hth h c4 hx
        simp only [Bool.not_true, Bool.false_eq_true, if_false, hxw, if_true]
        go_enter Try.func52, Try.ntmps52
        go_wp2_with (go_at_call 63; refine (rthread_calls th _).mono ?_; rw [H1.out]; rintro e w' ⟨rfl, rfl⟩)
        go_region
        go_wp2
        go_ret
        exact ⟨rfl, ⟨_, HP.out.drew⟩, ((grown_set _ _ _ _).trans (grown_set _ _ _ _)).trans (grown_drew _ _)⟩
end Go.Proofs.Ytbpihfphoniclaa
namespace Go.Proofs.Ytbpihfphoniclaa
theorem lowest_least (l : List Pd) (m : Nat) (h : ∀ x ∈ l, 1 ≤ x.1 ∧ x.1 ≤ 56) : lowest l m = least (orOf l &&& m) := by
  rcases lowest_spec l m (fun x hx => (h x hx).1) with ⟨h1, h2⟩ | ⟨x, hx, h1, h2, h3⟩
  · rw [h1]
    symm
    refine leastK_zero fun j _ => ?_
    rw [Nat.testBit_and, orOf_bit]
    cases hq : l.any fun x => (x.1 - 1).toNat == j with
    | false => rfl
    | true =>
      obtain ⟨y, hy, he⟩ := List.any_eq_true.1 hq
      have := h2 y hy
      unfold hasB at this
      rw [show (y.1 - 1).toNat = j by simpa using he] at this
      rw [this]
      rfl
  · obtain ⟨x1, x2⟩ := h x hx
    rw [h1]
    symm
    unfold hasB at h2
    have hbit : (orOf l &&& m).testBit (x.1 - 1).toNat = true := by
      rw [Nat.testBit_and, orOf_bit, h2, Bool.and_true, List.any_eq_true]
      exact ⟨x, hx, by simp⟩
    have := leastK_hit (m := orOf l &&& m) (k := (x.1 - 1).toNat) (fun j hj => ?_) hbit 56 (by omega)
    · rw [show least (orOf l &&& m) = leastK (orOf l &&& m) 56 from rfl, this]
      omega
    · rw [Nat.testBit_and, orOf_bit]
      cases hq : l.any fun x => (x.1 - 1).toNat == j with
      | false => rfl
      | true =>
        obtain ⟨y, hy, he⟩ := List.any_eq_true.1 hq
        have he : (y.1 - 1).toNat = j := by simpa using he
        cases hm : m.testBit j with
        | false => rfl
        | true =>
          have := h3 y hy (by unfold hasB; rw [he]; exact hm)
          have := (h y hy).1
          omega
end Go.Proofs.Ytbpihfphoniclaa
