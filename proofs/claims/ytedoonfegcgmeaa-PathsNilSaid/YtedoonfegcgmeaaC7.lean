/- slices.Backward of strings; Collect(prefixes). -/
import Derived.Test.YtedoonfegcgmeaaC6
namespace Go.Proofs.Ytedoonfegcgmeaa
open Go.RowKit
set_option linter.unusedVariables false
attribute [local go_sem] Oper.semAt_some
theorem wpListIn_yield2 {F : Fence} {n : Nat} {P : Program} {ops : Array Oper} {rest : List Oper} {o : Oper} {a : Act} {w : World} {Q : Exit → Act → World → Prop} (hgd : Region.wanted o (yielded ops a.tmps) = true) (g x y : Operand) (ts : Array TypeId)
    (ho : o.op = .call { callee := .value g, args := #[x, y], argTypes := ts }) (l : Nat) (hg : a.eval g = .func (.yield l) #[] #[]) (hd : F.depth = none) {R : Ending → World → Prop} (hy : YieldAt F (n - 1) P l #[a.eval x, a.eval y] w R)
    (h : ∀ e w', R e w' → ∃ v, e = .returned v ∧ wpListIn F n P ops Q rest (a.put o.dst v) w') : wpListIn F n P ops Q (o :: rest) a w := by
  refine wpListIn_step fun K hK => ?_
  rw [if_pos hgd]
  obtain ⟨fn, tmps, assign, body, hrun, hR⟩ := hy
  unfold Oper.wpIn
  refine ⟨?_, ?_⟩
  · simp [Oper.about, ho, resolve, hg, Target.leads, Sem.run_pure, Deferred.ofValue, hrun]
  · rw [Oper.semAt_plain F _ _ (by rw [ho]; intro c hc'; cases hc')]
    simp [execOp, ho, resolve, hg, invoke, Deferred.ofValue, hrun, Result.andThen]
    exact ⟨by simp [hd], hR.mono fun e w' he => by obtain ⟨v, rfl, hv⟩ := h e w' he; exact hK _ _ hv⟩
/-- What a round keeps: the blocks of S. -/
def KeepS (S : Nat → Prop) (W W' : World) : Prop := W.heap.size ≤ W'.heap.size ∧ ∀ k, S k → W'.heap[k]? = W.heap[k]?
theorem KeepS.refl (S : Nat → Prop) (W : World) : KeepS S W W := ⟨Nat.le_refl _, fun _ _ => rfl⟩
theorem KeepS.trans {S : Nat → Prop} {a b c : World} (h : KeepS S a b) (k : KeepS S b c) : KeepS S a c := ⟨Nat.le_trans h.1 k.1, fun i hi => (k.2 i hi).trans (h.2 i hi)⟩
theorem keepS_put {S : Nat → Prop} {W : World} {l : Nat} {o' : Obj} (h1 : ∀ k, S k → k < l) : KeepS S W (W.putObj l o') := ⟨by simp [World.putObj], fun k hk => World.putObj_heap_other (by have := h1 k hk; omega)⟩
/-- The elements from the last to the first, with their places. -/
def bwd (L : List Bs) : Nat → List (Int × Bs)
  | 0 => []
  | k + 1 => ((k : Int), L.getD k []) :: bwd L k
def encP (x : Int × Bs) : Array Value := #[.int .i64 x.1, .string ⟨x.2.toArray⟩]
theorem backward_calls (A : Option Addr) (n c : Nat) (w : World) : Calls Try.prog 54 #[.slice A n c] w fun e w' => e = .returned (.func (.func 67) #[] #[.pointer (some ⟨w.heap.size, 0, none⟩)]) ∧ w' = w.alloc (.cells #[.slice A n c] 39) := by
  have hmf : ∀ (fn : Fn) (first cap : Array Value) (w : World), (Instr.makeFunc fn first cap).run Try.prog w = .ok (.func fn first cap) w := fun _ _ _ _ => rfl
  go_enter Try.func54, Try.ntmps54
  go_wp2_with fail
  go_ret
  exact ⟨rfl, rfl⟩
set_option maxHeartbeats 1000000 in
set_option maxRecDepth 100000 in
theorem backward_seq (S : Nat → Prop) (bx : Nat) (A : Option Addr) (cap : Nat) (L : List Bs) (w : World) (hL : L.length ≤ 1000000) (hbx : Boxed w bx 39 (.slice A L.length cap)) (hb : S bx) (hm : ∀ k, S k → k < w.heap.size)
    (hat : ∀ k (hk : k < L.length), ∃ g, A = some ⟨g, 0, none⟩ ∧ S g ∧ w.cell? ⟨g, k, none⟩ = some (str L[k])) :
    SeqB Fence.wide 4 Try.prog 67 #[.pointer (some ⟨bx, 0, none⟩)] encP (fun k => False) (KeepS S) (fun pre x => pre ++ [x] <+: bwd L L.length) (fun xs => xs = bwd L L.length) (fun pre => pre <+: bwd L L.length) w := by
  intro l J Jx W hbw hJ hY h0
  have HY := Lib.hid hY
  have hbxW := hbx.kept (grown_of_below' hbw none) (by simp)
  have HAT : Hid (∀ k (hk : k < L.length), ∃ g, A = some ⟨g, 0, none⟩ ∧ S g ∧ W.cell? ⟨g, k, none⟩ = some (str L[k])) := Lib.hid fun k hk => by
    obtain ⟨g, h1, h2, h3⟩ := hat k hk
    exact ⟨g, h1, h2, (hbw.cell (p := ⟨g, k, none⟩) (hm g h2)).trans h3⟩
  have HBX := Lib.hid hbxW
  clear hJ hY hbx hat hm
  have hc := hbxW.cell
  refine callsIn_of_wp Try.func67 rfl trivial ?_ rfl
  simp only [Try.ntmps67, List.size_toArray, List.length_cons, List.length_nil, Nat.reduceAdd, Nat.reduceSub, Array.replicate_succ, Array.replicate_zero, List.push_toArray, List.append_toArray, List.nil_append, List.cons_append]
  gi_wp2
  gi_loopw [3] (fun i wr => ∃ k : Nat, k ≤ L.length ∧ i = .int .i64 ((k : Int) - 1) ∧ ∃ pre, Hid (bwd L L.length = pre ++ bwd L k ∧ J pre wr ∧ KeepS S W wr)) (fun i _ => ((intOf i) + 1).toNat)
  case atStart => exact ⟨L.length, Nat.le_refl _, by go_num, [], Lib.hid ⟨rfl, h0, KeepS.refl _ _⟩⟩
  case round =>
    obtain ⟨k, hk, rfl, pre, HI⟩ := hrel
    have hcb : wr.cell? ⟨bx, 0, none⟩ = some (.slice A L.length cap) := (World.cell?_of_block (HI.out.2.2.2 bx hb)).trans HBX.out.cell
    cases k with
    | zero =>
      have h00 : ((0 : Nat) : Int) - 1 = -1 := rfl
      rw [h00]
      gi_wp2
      go_end0
      exact ⟨⟨_, rfl⟩, .inl (by rw [HI.out.1]; simpa [bwd] using HI.out.2.1)⟩
    | succ k =>
      have e1 : ((k + 1 : Nat) : Int) - 1 = (k : Int) := by omega
      rw [e1]
      have hlt : k < L.length := by omega
      have hlt' : (k : Int) < (L.length : Int) := by omega
      obtain ⟨g, rfl, hg, hcc⟩ := HAT.out k hlt
      have hc2 : wr.cell? ⟨g, k, none⟩ = some (str L[k]) := (World.cell?_of_block (HI.out.2.2.2 g hg)).trans hcc
      have hbk : bwd L (k + 1) = ((k : Int), L[k]) :: bwd L k := by
        show ((k : Int), L.getD k []) :: bwd L k = _
        rw [List.getD_eq_getElem?_getD, List.getElem?_eq_getElem hlt]
        rfl
      have hn1 : bwd L L.length = (pre ++ [((k : Int), L[k])]) ++ bwd L k := by rw [HI.out.1, hbk]; simp
      have hpre : pre ++ [((k : Int), L[k])] <+: bwd L L.length := by rw [hn1]; exact List.prefix_append _ _
      have hYk := Lib.hid (And.intro (HY.out _ ((k : Int), L[k]) wr HI.out.2.1 hpre) (And.intro hpre hn1))
      generalize L[k] = x at *
      clear hpre hn1 hcc hbk e1
      unfold encP at hYk
      unfold str at hc2
      simp only at hYk
      gi_wp2_with ((with_reducible change wpListIn _ _ _ _ _ (⟨_, .call { callee := .value (.tmp 11), args := _, argTypes := _ }, _, _, _, _⟩ :: _) _ _); refine wpListIn_yield2 rfl (.tmp 11) (.tmp 12) (.tmp 16) #[3, 9] rfl l rfl rfl hYk.out.1 ?_; rintro e w3 (⟨rfl, hJ3, hk3⟩ | ⟨rfl, hJx⟩) <;> refine ⟨_, rfl, ?_⟩)
      · go_roundw
        case rel => exact ⟨k, by omega, by go_num, pre ++ [((k : Int), x)], Lib.hid ⟨hYk.out.2.2, hJ3, HI.out.2.2.trans hk3⟩⟩
        case measure => simp [intOf]
      · refine bodyPost_ret (results_none rfl _ _ _) rfl ?_
        exact ⟨⟨_, rfl⟩, .inr ⟨_, hYk.out.2.1, hJx⟩⟩
end Go.Proofs.Ytedoonfegcgmeaa
