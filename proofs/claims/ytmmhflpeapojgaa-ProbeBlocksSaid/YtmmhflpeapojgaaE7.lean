import Derived.Test.YtmmhflpeapojgaaE6
import Derived.RangeFuncNested
import Derived.RangeFuncBound
import Derived.RangeFuncCalls
import Derived.RangeFuncLeaves
import Derived.RangeFuncBox
import Derived.Shelf.Abstract
import Derived.Shelf.RegionOpen
import Derived.OwnWalkIn
import Derived.TacticsInMore
import Derived.LoopNIn
import Derived.LoopIn
import Derived.Sort.QuietThIn
import Derived.Sort.QuietTacIn
import Derived.Deep.QuietTactic
namespace Go.Proofs.Ytmmhflpeapojgaa
set_option linter.unusedVariables false
set_option linter.unusedSimpArgs false
open Go.RowKit Ieee Go.Shelf
attribute [local go_sem] Oper.semAt_some

theorem chunk_calls (A : Option Addr) (len c : Nat) (w : World) :
    Calls Try.prog 28 #[.slice A len c, .int .i64 4] w fun e w' => e = .returned (.func (.func 38) #[] #[.pointer (some ⟨w.heap.size, 0, none⟩), .pointer (some ⟨w.heap.size + 1, 0, none⟩)]) ∧ w' = (w.alloc (.cells #[.slice A len c] 22)).alloc (.cells #[.int .i64 4] 3) := by
  go_enter Try.func28, Try.ntmps28
  go_wp2
  go_ret
  exact ⟨rfl, rfl⟩
/-- The two boxes lie as they lay. -/
structure KB (Bs Bn : Nat) (W W' : World) : Prop where
  s : W'.heap[Bs]? = W.heap[Bs]?
  n : W'.heap[Bn]? = W.heap[Bn]?
theorem KB.c1 {Bs Bn : Nat} {W W' : World} (h : KB Bs Bn W W') : W'.cell? ⟨Bs, 0, none⟩ = W.cell? ⟨Bs, 0, none⟩ := by simp [World.cell?, h.s]
theorem KB.c2 {Bs Bn : Nat} {W W' : World} (h : KB Bs Bn W W') : W'.cell? ⟨Bn, 0, none⟩ = W.cell? ⟨Bn, 0, none⟩ := by simp [World.cell?, h.n]
theorem KB.refl (Bs Bn : Nat) (W : World) : KB Bs Bn W W := ⟨rfl, rfl⟩
theorem KB.trans {Bs Bn : Nat} {A B C : World} (h : KB Bs Bn A B) (k : KB Bs Bn B C) : KB Bs Bn A C := ⟨k.s.trans h.s, k.n.trans h.n⟩
theorem KB.drewN {Bs Bn : Nat} {A B : World} (h : KB Bs Bn A B) (q : Nat) : KB Bs Bn A (B.drewN q) := ⟨h.s, h.n⟩
theorem KB.put {Bs Bn m : Nat} (h1 : Bs < m) (h2 : Bn < m) (W : World) (l : Nat) (o o' : Obj) (hl : m ≤ l) (_ : W.heap[l]? = some o) (_ : o.isCells = false) (_ : o.isWalk = false) : KB Bs Bn W (W.putObj l o') :=
  ⟨World.putObj_heap_other (by omega), World.putObj_heap_other (by omega)⟩
def chunkV (ad : Addr) (len k : Nat) : Value := .slice (some (ad.add (4 * k))) (min 4 (len - 4 * k)) (min 4 (len - 4 * k))
set_option maxRecDepth 100000 in
set_option maxHeartbeats 2000000 in
theorem chunk1_in (n : Nat) (hn : 1 ≤ n) (l Bs Bn : Nat) (A : Option Addr) (ad : Addr) (len cap : Nat) (hA : 0 < len → A = some ad) (hlen : len ≤ 4096) (hcap : len ≤ cap) (hcap2 : cap ≤ 9223372036854775807) (J Jx : List Nat → World → Prop)
    (hY : ∀ pre x W, J pre W → pre.length < len → 4 * x < len → YieldAt Fence.wide (n - 1) Try.prog l #[chunkV ad len x] W fun e W' =>
      (e = .returned (.bool true) ∧ J (pre ++ [x]) W' ∧ KB Bs Bn W W') ∨ (e = .returned (.bool false) ∧ Jx (pre ++ [x]) W'))
    (W : World) (hBs : W.cell? ⟨Bs, 0, none⟩ = some (.slice A len cap)) (hBn : W.cell? ⟨Bn, 0, none⟩ = some (.int .i64 4)) (hJd : ∀ pre W1 q, J pre W1 → J pre (W1.drewN q)) (h0 : J [] W) :
    CallsIn Fence.wide n Try.prog 38 #[.func (.yield l) #[] #[], .pointer (some ⟨Bs, 0, none⟩), .pointer (some ⟨Bn, 0, none⟩)] W fun e W' => (∃ v, e = .returned v) ∧
      ((∃ ys, ys = List.range ((len + 3) / 4) ∧ J ys W') ∨ (∃ pre, (∃ k, 4 * k < len + 4 ∧ pre = List.range k) ∧ Jx pre W')) := by
  refine callsIn_of_wp Try.func38 rfl trivial ?_ rfl
  simp only [Try.ntmps38, List.size_toArray, List.length_cons, List.length_nil, Nat.reduceAdd, Nat.reduceSub, Array.replicate_succ, Array.replicate_zero, List.push_toArray, List.append_toArray, List.nil_append, List.cons_append]
  gi_wp2
  gi_loopw [4] (fun i wr => ∃ k : Nat, 4 * k < len + 4 ∧ i = .int .i64 ((4 * k : Nat) : Int) ∧ J (List.range k) wr ∧ KB Bs Bn W wr)
    (fun i _ => len + 4 - (intOf i).toNat)
  case atStart => exact ⟨0, by omega, by simp, h0, KB.refl _ _ _⟩
  case round =>
    obtain ⟨k, hk, rfl, hJs, hnx⟩ := hrel
    have hc1 := hnx.c1.trans hBs
    have hc2 := hnx.c2.trans hBn
    by_cases hlt : 4 * k < len
    · obtain rfl : A = some ad := hA (by omega)
      have HY := Lib.hid (fun q => hY _ k (wr.drewN q) (hJd _ _ q hJs) (by rw [List.length_range]; omega) hlt)
      have HRNG := Lib.hid (List.range_succ (n := k))
      have H4 : Hid (4 * (k + 1) = 4 * k + 4) := Lib.hid (by omega)
      unfold chunkV at HY
      have hlt0 := hlt
      generalize 4 * k = i at hlt HY H4 hk ⊢
      have hlt' : (i : Int) < (len : Int) := by omega
      have hne : ¬ cap = i := by omega
      have hle : i ≤ len := by omega
      obtain ⟨r, hr⟩ : ∃ r, len - i = r := ⟨_, rfl⟩
      rcases (by omega : i + 4 ≤ len ∨ len < i + 4) with hc | hc
      · have hmin : min 4 (len - i) = 4 := by omega
        have hr4 : ¬ (r : Int) < 4 := by omega
        have hr4' : (4 : Int) ≤ (r : Int) := by omega
        rw [hmin] at HY
        gi_wp2
        gi_quiet_th (fail)
        obtain ⟨fn, tmps, assign, body, hy, hR⟩ := HY.out nq
        have hc3 : (wr.drewN nq).cell? ⟨Bs, 0, none⟩ = some (.slice (some ad) len cap) := hc1
        have hw1 : IntKind.i64.wrap ((i : Int) + 4) = (i : Int) + 4 := by rw [IntKind.wrap_i64]; omega
        have hx1 : (i : Int) + 4 ≤ (cap : Int) := by omega
        gi_wp2
        refine hR.mono ?_
        rintro e W3 (⟨rfl, hJ3, hk3⟩ | ⟨rfl, hJx3⟩)
        · have hc4 := hk3.c1.trans hc3
          have hc5 : W3.cell? ⟨Bn, 0, none⟩ = some (.int .i64 4) := hk3.c2.trans hc2
          have HB3 := Lib.hid ((hnx.drewN nq).trans hk3)
          gi_wp2
          go_roundw
          case rel => exact ⟨k + 1, by rw [H4.out]; omega, by rw [H4.out]; go_num, by rw [HRNG.out]; exact hJ3, HB3.out⟩
          case measure => simp [intOf]; omega
        · gi_wp2
          refine bodyPost_ret (results_none rfl _ _ _) rfl ?_
          exact ⟨⟨_, rfl⟩, .inr ⟨_, ⟨k + 1, by omega, HRNG.out.symm⟩, hJx3⟩⟩
      · have hmin : min 4 (len - i) = r := by omega
        have hr4 : (r : Int) < 4 := by omega
        rw [hmin] at HY
        gi_wp2
        gi_quiet_th (fail)
        obtain ⟨fn, tmps, assign, body, hy, hR⟩ := HY.out nq
        have hc3 : (wr.drewN nq).cell? ⟨Bs, 0, none⟩ = some (.slice (some ad) len cap) := hc1
        have hw1 : IntKind.i64.wrap ((i : Int) + (r : Int)) = (i : Int) + (r : Int) := by rw [IntKind.wrap_i64]; omega
        have hx1 : (i : Int) + (r : Int) ≤ (cap : Int) := by omega
        gi_wp2
        refine hR.mono ?_
        rintro e W3 (⟨rfl, hJ3, hk3⟩ | ⟨rfl, hJx3⟩)
        · have hc4 := hk3.c1.trans hc3
          have hc5 : W3.cell? ⟨Bn, 0, none⟩ = some (.int .i64 4) := hk3.c2.trans hc2
          have HB3 := Lib.hid ((hnx.drewN nq).trans hk3)
          gi_wp2
          go_roundw
          case rel => exact ⟨k + 1, by rw [H4.out]; omega, by rw [H4.out]; go_num, by rw [HRNG.out]; exact hJ3, HB3.out⟩
          case measure => simp [intOf]; omega
        · gi_wp2
          refine bodyPost_ret (results_none rfl _ _ _) rfl ?_
          exact ⟨⟨_, rfl⟩, .inr ⟨_, ⟨k + 1, by omega, HRNG.out.symm⟩, hJx3⟩⟩
    · have hkq : k = (len + 3) / 4 := by omega
      have HK := Lib.hid hkq
      generalize 4 * k = i at hlt hk ⊢
      have hge : ¬ (i : Int) < (len : Int) := by omega
      gi_wp2
      go_end0
      exact ⟨⟨_, rfl⟩, .inl (by rw [← HK.out]; exact hJs)⟩
theorem chunk_stops (n : Nat) (hn : 1 ≤ n) (Bs Bn : Nat) (A : Option Addr) (ad : Addr) (len cap : Nat) (hA : 0 < len → A = some ad) (hlen : len ≤ 4096) (hcap : len ≤ cap) (hcap2 : cap ≤ 9223372036854775807) (w : World)
    (hBs : w.cell? ⟨Bs, 0, none⟩ = some (.slice A len cap)) (hBn : w.cell? ⟨Bn, 0, none⟩ = some (.int .i64 4)) (hs : Bs < w.heap.size) (hb : Bn < w.heap.size) :
    SeqStopsK Fence.wide n Try.prog 38 #[.pointer (some ⟨Bs, 0, none⟩), .pointer (some ⟨Bn, 0, none⟩)] (fun k => #[chunkV ad len k]) (KB Bs Bn) (fun ys => ys = List.range ((len + 3) / 4)) (fun pre => ∃ k, 4 * k < len + 4 ∧ pre = List.range k) len w :=
  fun l J Jx W hW hJ hJx hY h0 => chunk1_in n hn l Bs Bn A ad len cap hA hlen hcap hcap2 J Jx (fun pre x W1 hj hl _ => hY pre x W1 hj hl) W
    ((hW.cell (p := ⟨Bs, 0, none⟩) hs).trans hBs) ((hW.cell (p := ⟨Bn, 0, none⟩) hb).trans hBn)
    (fun pre W1 q hj => hJ pre W1 _ none hj (grown_of_below' (below_drewN (Below.refl _ W1) q) none) (fun r e => by cases e)) h0
end Go.Proofs.Ytmmhflpeapojgaa
