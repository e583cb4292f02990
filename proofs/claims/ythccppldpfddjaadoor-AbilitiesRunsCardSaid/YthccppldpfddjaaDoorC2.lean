/- The iterator over all rights (38, 62). -/
import Derived.Test.YthccppldpfddjaaDoorC1
namespace Go.Proofs.YthccppldpfddjaaDoor
open Go.RowKit
set_option linter.unusedVariables false
attribute [local go_sem] Oper.semAt_some
theorem wpListIn_yield2 {F : Fence} {n : Nat} {P : Program} {ops : Array Oper} {rest : List Oper} {o : Oper} {a : Act} {w : World} {Q : Exit → Act → World → Prop} (hgd : Region.wanted o (yielded ops a.tmps) = true) (g x y : Operand) (ts : Array TypeId)
    (ho : o.op = .call { callee := .value g, args := #[x, y], argTypes := ts }) (l : Nat) (hg : a.eval g = .func (.yield l) #[] #[]) (hd : F.depth = none) {R : Ending → World → Prop} (hy : YieldAt F (n - 1) P l #[a.eval x, a.eval y] w R)
    (h : ∀ e w', R e w' → ∃ v, e = .returned v ∧ wpListIn F n P ops Q rest (a.put o.dst v) w') : wpListIn F n P ops Q (o :: rest) a w := by
  refine wpListIn_step fun K hK => ?_
  rw [if_pos hgd]
  obtain ⟨fn, tmps, assign, body, hrun, hR⟩ := hy
  unfold Oper.wpIn
  refine ⟨?_, ?_⟩
  · simp [Oper.about, ho, resolve, hg, Target.leads, Sem.run_pure, Deferred.ofValue, hrun]
  · rw [Oper.semAt_plain F _ _ (by rw [ho]; intro c hc'; cases hc')]
    simp [execOp, ho, resolve, hg, invoke, Deferred.ofValue, hrun, Result.andThen]
    exact ⟨by simp [hd], hR.mono fun e w' he => by obtain ⟨v, rfl, hv⟩ := h e w' he; exact hK _ _ hv⟩
def encI (b : Nat) (x : Nat) : Array Value := #[.agg #[.int .i64 ((x / 32 : Nat) : Int), .int .i64 ((x % 32 : Nat) : Int)], .pointer (some ⟨b, x * 3, none⟩)]
set_option maxHeartbeats 8000000 in
set_option maxRecDepth 100000 in
theorem all_seq (bx b : Nat) (w : World) (h1 : Boxed w bx 127 (.pointer (some ⟨b, 0, none⟩))) :
    SeqB Fence.wide 4 Tryd.prog 62 #[.pointer (some ⟨bx, 0, none⟩)] (encI b) (fun k => False) (KeepB bx) (fun pre x => x < 64 ∧ pre = List.range x) (fun xs => xs = List.range 64) (fun _ => True) w := by
  intro lp J Jx W hbw hJ hY h0
  have HY := Lib.hid hY
  have HJ := Lib.hid hJ
  have HX := Lib.hid (show Boxed W bx 127 (.pointer (some ⟨b, 0, none⟩)) from (hbw.block _ h1.lt).trans h1)
  clear hJ hY h1
  refine callsIn_of_wp Tryd.func62 rfl trivial ?_ rfl
  simp only [Tryd.ntmps62, List.size_toArray, List.length_cons, List.length_nil, Nat.reduceAdd, Nat.reduceSub, Array.replicate_succ, Array.replicate_zero, List.push_toArray, List.append_toArray, List.nil_append, List.cons_append]
  gi_wp2
  gi_loopw [5] (fun i wr => ∃ d : Nat, d ≤ 2 ∧ i = .int .i64 d ∧ Hid (J (List.range (d * 32)) wr ∧ KeepB bx W wr)) (fun i _ => 2 - (intOf i).toNat)
  case atStart => exact ⟨0, by omega, rfl, Lib.hid ⟨h0, Nat.le_refl _, rfl⟩⟩
  case round =>
    obtain ⟨d, hd, rfl, HD⟩ := hrel
    by_cases hlt : d < 2
    · have hlt' : (d : Int) < 2 := by omega
      gi_wp2
      gi_loopw [8] (fun i wr => ∃ j : Nat, j ≤ 32 ∧ i = .int .i64 j ∧ Hid (J (List.range (d * 32 + j)) wr ∧ KeepB bx W wr)) (fun i _ => 32 - (intOf i).toNat)
      case atStart => exact ⟨0, by omega, rfl, HD⟩
      case round =>
        clear HD
        obtain ⟨j, hj, rfl, HI⟩ := hrel
        by_cases hjl : j < 32
        · have hjl' : (j : Int) < 32 := by omega
          have hcb := (show Boxed wr bx 127 (.pointer (some ⟨b, 0, none⟩)) from HI.out.2.2.trans HX.out).cell
          have hq := HY.out _ (d * 32 + j) wr HI.out.1 ⟨by omega, rfl⟩
          unfold encI at hq
          rw [show (d * 32 + j) / 32 = d by omega, show (d * 32 + j) % 32 = j by omega, show (d * 32 + j) * 3 = d * 96 + j * 3 by omega] at hq
          have HQ := Lib.hid hq
          clear hq
          gi_wp2_with (((with_reducible change wpListIn _ _ _ _ _ (⟨_, .call { callee := .value (.tmp 11), args := _, argTypes := _ }, _, _, _, _⟩ :: _) _ _)); refine wpListIn_yield2 rfl (.tmp 11) (.tmp 14) (.tmp 20) #[87, 88] rfl lp rfl rfl HQ.out ?_; rintro e w3 (⟨rfl, hJ3, hk3⟩ | ⟨rfl, hJx⟩) <;> refine ⟨_, rfl, ?_⟩)
          · gi_wp2
            go_roundw
            case rel => exact ⟨j + 1, by omega, by go_num, Lib.hid ⟨by rw [show d * 32 + (j + 1) = (d * 32 + j) + 1 by omega, List.range_succ]; exact hJ3, HI.out.2.trans hk3⟩⟩
            case measure => simp [intOf]; omega
          · refine bodyPost_ret (results_none rfl _ _ _) rfl ?_
            exact ⟨⟨_, rfl⟩, .inr ⟨_, trivial, hJx⟩⟩
        · obtain rfl : j = 32 := by omega
          gi_wp2
          go_roundw
          case rel => exact ⟨d + 1, by omega, by go_num, Lib.hid (by rw [show (d + 1) * 32 = d * 32 + 32 by omega]; exact HI.out)⟩
          case measure => simp [intOf]; omega
    · obtain rfl : d = 2 := by omega
      gi_wp2
      refine bodyPost_end (results_none rfl _ _ _) rfl ?_
      exact ⟨⟨_, rfl⟩, .inl ⟨_, rfl, HD.out.1⟩⟩
theorem allof_calls (p : Value) (hp : ∃ ad, p = .pointer (some ad)) (w : World) : Calls Tryd.prog 38 #[p] w fun e w' => e = .returned (.func (.func 62) #[] #[.pointer (some ⟨w.heap.size, 0, none⟩)]) ∧ w' = w.alloc (.cells #[p] 127) := by
  obtain ⟨ad, rfl⟩ := hp
  have hmf : ∀ (fn : Fn) (first cap : Array Value) (w : World), (Instr.makeFunc fn first cap).run Tryd.prog w = .ok (.func fn first cap) w := fun _ _ _ _ => rfl
  go_enter Tryd.func38, Tryd.ntmps38
  go_wp2_with fail
  go_ret
  exact ⟨rfl, rfl⟩
theorem copy1_calls (p : Value) (w : World) : Calls Tryd.prog 58 #[p] w fun e w' => e = .returned (.bool true) ∧ Below w.heap.size w w' := by
  go_enter Tryd.func58, Tryd.ntmps58
  go_wp2
  go_ret
  exact ⟨rfl, Below.refl _ _⟩
theorem child1_calls (b i : Nat) (lv : Nat → Value) (S : St) (w : World) (h : RArr 64 77 43 w b lv S) (hi : i < 64) : Calls Tryd.prog 49 #[.pointer (some ⟨b, i * 3, none⟩)] w fun e w' => e = .returned (.bool ((S i).lk || (S i).inh)) ∧ Below w.heap.size w w' := by
  obtain ⟨-, q1, q2⟩ := h.three hi
  clear h
  generalize S i = r at *
  obtain ⟨rs, lk, inh⟩ := r
  simp only at q1 q2
  cases lk <;> cases inh <;>
  (go_enter Tryd.func49, Tryd.ntmps49
   go_wp2
   go_ret
   exact ⟨rfl, Below.refl _ _⟩)
end Go.Proofs.YthccppldpfddjaaDoor
