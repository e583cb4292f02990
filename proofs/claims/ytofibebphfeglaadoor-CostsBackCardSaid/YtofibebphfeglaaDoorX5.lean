/- CutPrefix, and the lines of a text: the iterator. -/
import Derived.Test.YtofibebphfeglaaDoorX4
import Derived.Test.YtofibebphfeglaaDoorIter
import Derived.Shelf.Abstract
import Derived.Shelf.RegionOpen
import Derived.OwnWalkIn
import Derived.TacticsInMore
import Derived.LoopNIn
import Derived.LoopIn
namespace Go.Proofs.YtofibebphfeglaaDoor
open Go.RowKit
set_option linter.unusedVariables false
attribute [local go_sem] Oper.semAt_some
theorem wpListIn_yield2 {F : Fence} {n : Nat} {P : Program} {ops : Array Oper} {rest : List Oper} {o : Oper} {a : Act} {w : World} {Q : Exit → Act → World → Prop} (hgd : Region.wanted o (yielded ops a.tmps) = true) (g x y : Operand) (ts : Array TypeId)
    (ho : o.op = .call { callee := .value g, args := #[x, y], argTypes := ts }) (l : Nat) (hg : a.eval g = .func (.yield l) #[] #[]) (hd : F.depth = none) {R : Ending → World → Prop} (hy : YieldAt F (n - 1) P l #[a.eval x, a.eval y] w R)
    (h : ∀ e w', R e w' → ∃ v, e = .returned v ∧ wpListIn F n P ops Q rest (a.put o.dst v) w') : wpListIn F n P ops Q (o :: rest) a w := by
  refine wpListIn_step fun K hK => ?_
  rw [if_pos hgd]
  obtain ⟨fn, tmps, assign, body, hrun, hR⟩ := hy
  unfold Oper.wpIn
  refine ⟨?_, ?_⟩
  · simp [Oper.about, ho, resolve, hg, Target.leads, Sem.run_pure, Deferred.ofValue, hrun]
  · rw [Oper.semAt_plain F _ _ (by rw [ho]; intro c hc'; cases hc')]
    simp [execOp, ho, resolve, hg, invoke, Deferred.ofValue, hrun, Result.andThen]
    exact ⟨by simp [hd], hR.mono fun e w' he => by obtain ⟨v, rfl, hv⟩ := h e w' he; exact hK _ _ hv⟩
/-- What a round keeps: the blocks of S. -/
def KeepS (S : Nat → Prop) (W W' : World) : Prop := W.heap.size ≤ W'.heap.size ∧ ∀ k, S k → W'.heap[k]? = W.heap[k]?
theorem KeepS.refl (S : Nat → Prop) (W : World) : KeepS S W W := ⟨Nat.le_refl _, fun _ _ => rfl⟩
theorem KeepS.trans {S : Nat → Prop} {a b c : World} (h : KeepS S a b) (k : KeepS S b c) : KeepS S a c := ⟨Nat.le_trans h.1 k.1, fun i hi => (k.2 i hi).trans (h.2 i hi)⟩
theorem keepS_put {S : Nat → Prop} {W : World} {l : Nat} {o' : Obj} (h1 : ∀ k, S k → k < l) : KeepS S W (W.putObj l o') := ⟨by simp [World.putObj], fun k hk => World.putObj_heap_other (by have := h1 k hk; omega)⟩
theorem ext_bs (l : Bs) (a b : Nat) : (⟨l.toArray⟩ : ByteArray).extract a b = ⟨((l.drop a).take (b - a)).toArray⟩ := by
  apply ByteArray.ext
  simp
theorem prefix_of {l lb : Bs} (h : Lib.hasPrefix l lb = true) : lb <+: l := List.isPrefixOf_iff_prefix.1 h
def cutS (l lb : Bs) : Bs × Bool := if Lib.hasPrefix l lb = true then (l.drop lb.length, true) else (l, false)
set_option maxRecDepth 100000 in
theorem cutp_calls (l lb : Bs) (w : World) (hl : l.length ≤ 1000000) (hb : lb.length ≤ 1000000) : Calls Tryd.prog 38 #[bstr l, bstr lb] w fun e w' => e = .returned (.tuple #[bstr (cutS l lb).1, .bool (cutS l lb).2]) ∧ w' = w := by
  have HH := Lib.hid (fun W => Tryd.stringslite_HasPrefix ⟨l.toArray⟩ ⟨lb.toArray⟩ W)
  simp only at HH
  cases hp : Lib.hasPrefix l lb with
  | true =>
    have hle := (prefix_of hp).length_le
    have hle' : (lb.length : Int) ≤ (l.length : Int) := by omega
    have e : cutS l lb = (l.drop lb.length, true) := by unfold cutS; rw [if_pos hp]
    rw [e]
    rw [hp] at HH
    clear e hp
    unfold bstr
    go_enter Tryd.func38, Tryd.ntmps38
    go_wp2_with (go_at_call 47; refine (HH.out _).mono ?_; rintro e w1 ⟨rfl, rfl⟩)
    have e2 : (⟨l.toArray⟩ : ByteArray).extract lb.length l.length = ⟨(l.drop lb.length).toArray⟩ := by rw [ext_bs, List.take_of_length_le (by simp)]
    rw [e2]
    clear e2
    go_ret2
    exact ⟨rfl, rfl⟩
  | false =>
    have e : cutS l lb = (l, false) := by unfold cutS; rw [if_neg (by rw [hp]; decide)]
    rw [e]
    rw [hp] at HH
    clear e hp
    unfold bstr
    go_enter Tryd.func38, Tryd.ntmps38
    go_wp2_with (go_at_call 47; refine (HH.out _).mono ?_; rintro e w1 ⟨rfl, rfl⟩)
    go_ret2
    exact ⟨rfl, rfl⟩
theorem cut_calls (l lb : Bs) (w : World) (hl : l.length ≤ 1000000) (hb : lb.length ≤ 1000000) : Calls Tryd.prog 29 #[bstr l, bstr lb] w fun e w' => e = .returned (.tuple #[bstr (cutS l lb).1, .bool (cutS l lb).2]) ∧ w' = w := by
  have HC := Lib.hid (fun W => cutp_calls l lb W hl hb)
  generalize cutS l lb = ab at *
  unfold bstr at *
  go_enter Tryd.func29, Tryd.ntmps29
  go_wp2_with (go_at_call 38; refine (HC.out _).mono ?_; rintro e w1 ⟨rfl, rfl⟩)
  go_ret2
  exact ⟨rfl, rfl⟩
theorem lines_calls (s : Bs) (w : World) : Calls Tryd.prog 28 #[bstr s] w fun e w' => e = .returned (.func (.func 36) #[] #[.pointer (some ⟨w.heap.size, 0, none⟩)]) ∧ w' = w.alloc (.cells #[bstr s] 9) := by
  have hmf : ∀ (fn : Fn) (first cap : Array Value) (w : World), (Instr.makeFunc fn first cap).run Tryd.prog w = .ok (.func fn first cap) w := fun _ _ _ _ => rfl
  unfold bstr
  go_enter Tryd.func28, Tryd.ntmps28
  go_wp2_with fail
  go_ret
  exact ⟨rfl, rfl⟩
/-- The place of the first line feed. -/
def nl (r : Bs) : Option Nat := if Lib.indexByte r 10 < 0 then none else some (Lib.indexByte r 10).toNat
/-- The lines of a text with their places; a rest without a line feed as an empty line. -/
def linesF : Nat → Nat → Bs → List (Nat × Bs)
  | 0, _, _ => []
  | f + 1, k, r => if r = [] then [] else match nl r with
    | none => [(k, [])]
    | some n => (k, r.take n) :: linesF f (k + n + 1) (r.drop (n + 1))
def linesL (s : Bs) : List (Nat × Bs) := linesF (s.length + 1) 0 s
def encP (x : Nat × Bs) : Array Value := #[.int .i64 x.1, .string ⟨x.2.toArray⟩]
theorem idx_calls (s : Bs) (k : Nat) (w : World) : Calls Tryd.prog 37 #[.string ((⟨s.toArray⟩ : ByteArray).extract k s.length), .int .u8 10] w fun e w' => e = .returned (.int .i64 (Lib.indexByte (s.drop k) 10)) ∧ w' = w := by
  have := Tryd.strings_IndexByte ((⟨s.toArray⟩ : ByteArray).extract k s.length) 10 w
  rw [ext_bs, List.take_of_length_le (by simp)] at this
  rw [ext_bs, List.take_of_length_le (by simp)]
  simpa using this
theorem idx_lt {r : Bs} {n : Nat} (h : Lib.indexByte r 10 = n) : n < r.length := by
  have := (Lib.indexByte_some h).1
  exact (List.getElem?_eq_some_iff.1 this).1
set_option maxHeartbeats 1000000 in
set_option maxRecDepth 100000 in
theorem lines_seq (bx : Nat) (s : Bs) (w : World) (hs : s.length ≤ 1000000) (hbx : Boxed w bx 9 (bstr s)) :
    SeqB Fence.wide 4 Tryd.prog 36 #[.pointer (some ⟨bx, 0, none⟩)] encP (fun k => False) (KeepS (fun k => k = bx)) (fun pre x => pre ++ [x] <+: linesL s) (fun xs => xs = linesL s) (fun pre => pre <+: linesL s) w := by
  intro l J Jx W hbw hJ hY h0
  have HY := Lib.hid hY
  have hbxW : Boxed W bx 9 (bstr s) := (hbw.block bx hbx.lt).trans hbx
  have HBX := Lib.hid hbxW
  clear hJ hY hbx
  have hc := hbxW.cell
  unfold bstr at hc
  clear hbxW
  refine callsIn_of_wp Tryd.func36 rfl trivial ?_ rfl
  simp only [Tryd.ntmps36, List.size_toArray, List.length_cons, List.length_nil, Nat.reduceAdd, Nat.reduceSub, Array.replicate_succ, Array.replicate_zero, List.push_toArray, List.append_toArray, List.nil_append, List.cons_append]
  gi_wp2
  gi_loopw [3] (fun i wr => ∃ k : Nat, k ≤ s.length ∧ i = .int .i64 k ∧ ∃ pre f, Hid (s.length - k < f ∧ linesL s = pre ++ linesF f k (s.drop k) ∧ J pre wr ∧ KeepS (fun k => k = bx) W wr)) (fun i _ => s.length - (intOf i).toNat)
  case atStart => exact ⟨0, by omega, rfl, [], s.length + 1, Lib.hid ⟨by omega, by simp [linesL], h0, KeepS.refl _ _⟩⟩
  case round =>
    obtain ⟨k, hk, rfl, pre, f, HI⟩ := hrel
    have hcb : wr.cell? ⟨bx, 0, none⟩ = some (.string ⟨s.toArray⟩) := (World.cell?_of_block (HI.out.2.2.2.2 bx rfl)).trans hc
    clear hc
    by_cases hlt : k < s.length
    · have hlt' : (k : Int) < (s.length : Int) := by omega
      have hge := Lib.indexByte_ge (s.drop k) 10
      have hIx := Lib.hid (fun W => idx_calls s k W)
      have hr : s.drop k ≠ [] := by
        intro h
        have := congrArg List.length h
        simp at this
        omega
      obtain ⟨g, rfl⟩ : ∃ g, f = g + 1 := ⟨f - 1, by have := HI.out.1; omega⟩
      have hL := HI.out.2.1
      unfold linesF at hL
      rw [if_neg hr] at hL
      have HGE := Lib.hid hge
      by_cases hn : Lib.indexByte (s.drop k) 10 < 0
      · have hnl : nl (s.drop k) = none := by unfold nl; rw [if_pos hn]
        rw [hnl] at hL
        simp only at hL
        have hpre : pre ++ [((k, []) : Nat × Bs)] <+: linesL s := by rw [hL]; exact List.prefix_refl _
        have hYk := Lib.hid (And.intro (HY.out pre ((k, []) : Nat × Bs) wr HI.out.2.2.1 hpre) (And.intro hpre hL))
        clear hpre hL hnl hge HGE hr
        generalize Lib.indexByte (s.drop k) 10 = x at *
        unfold encP at hYk
        simp only at hYk
        gi_wp2_with (first
          | (refine ⟨trivial, ?_⟩; gi_at_call 37; refine (callsIn_wide.2 (hIx.out _)).mono ?_; rintro e w' ⟨rfl, rfl⟩)
          | ((with_reducible change wpListIn _ _ _ _ _ (⟨_, .call { callee := .value (.tmp 15), args := _, argTypes := _ }, _, _, _, _⟩ :: _) _ _); refine wpListIn_yield2 rfl (.tmp 15) (.tmp 16) (.const (.string ⟨#[]⟩)) #[3, 9] rfl l rfl rfl hYk.out.1 ?_; rintro e w3 (⟨rfl, hJ3, hk3⟩ | ⟨rfl, hJx⟩) <;> refine ⟨_, rfl, ?_⟩))
        · refine bodyPost_ret (results_none rfl _ _ _) rfl ?_
          exact ⟨⟨_, rfl⟩, .inl ⟨_, rfl, by rw [hYk.out.2.2]; exact hJ3⟩⟩
        · refine bodyPost_ret (results_none rfl _ _ _) rfl ?_
          exact ⟨⟨_, rfl⟩, .inr ⟨_, hYk.out.2.1, hJx⟩⟩
      · obtain ⟨n, hx⟩ : ∃ n : Nat, Lib.indexByte (s.drop k) 10 = n := ⟨(Lib.indexByte (s.drop k) 10).toNat, by omega⟩
        have hnl : nl (s.drop k) = some n := by unfold nl; rw [if_neg hn, hx]; simp
        have hlt2 := idx_lt hx
        rw [List.length_drop] at hlt2
        rw [hnl] at hL
        simp only [List.drop_drop] at hL
        have hL' : linesL s = (pre ++ [((k, (s.drop k).take n) : Nat × Bs)]) ++ linesF g (k + n + 1) (s.drop (k + n + 1)) := by
          rw [hL, List.append_assoc]
          simp [Nat.add_assoc]
        have hpre : pre ++ [((k, (s.drop k).take n) : Nat × Bs)] <+: linesL s := by rw [hL']; exact List.prefix_append _ _
        have hY0 := HY.out pre ((k, (s.drop k).take n) : Nat × Bs) wr HI.out.2.2.1 hpre
        unfold encP at hY0
        have hex : (⟨((s.drop k).take n).toArray⟩ : ByteArray) = (⟨s.toArray⟩ : ByteArray).extract k (k + n) := by
          rw [ext_bs]
          congr 3
          omega
        simp only [hex] at hY0
        have hYk := Lib.hid (And.intro hY0 (And.intro hpre hL'))
        have hnn : ¬ (n : Int) < 0 := by omega
        have hkn : (k : Int) + n ≤ s.length := by omega
        have hkk : (k : Int) ≤ (k : Int) + n := by omega
        rw [hx] at hIx
        clear hpre hL hnl hge HGE hr hL' hY0 hex hn hx
        have HLT := Lib.hid hlt2
        gi_wp2_with (first
          | (refine ⟨trivial, ?_⟩; gi_at_call 37; refine (callsIn_wide.2 (hIx.out _)).mono ?_; rintro e w' ⟨rfl, rfl⟩)
          | ((with_reducible change wpListIn _ _ _ _ _ (⟨_, .call { callee := .value (.tmp 18), args := _, argTypes := _ }, _, _, _, _⟩ :: _) _ _); refine wpListIn_yield2 rfl (.tmp 18) (.tmp 19) (.tmp 25) #[3, 9] rfl l rfl rfl hYk.out.1 ?_; rintro e w3 (⟨rfl, hJ3, hk3⟩ | ⟨rfl, hJx⟩) <;> refine ⟨_, rfl, ?_⟩))
        · have hke : ((k : Int) + ((n : Int) + 1)) = ((k + n + 1 : Nat) : Int) := by omega
          rw [hke]
          refine ⟨⟨k + n + 1, by have := HLT.out; omega, rfl, _, g, Lib.hid ⟨by have := HI.out.1; omega, hYk.out.2.2, hJ3, HI.out.2.2.2.trans hk3⟩⟩, ?_⟩
          have := HLT.out
          simp [intOf]
          omega
        · refine bodyPost_ret (results_none rfl _ _ _) rfl ?_
          exact ⟨⟨_, rfl⟩, .inr ⟨_, hYk.out.2.1, hJx⟩⟩
    · obtain rfl : k = s.length := by omega
      gi_wp2
      go_end0
      refine ⟨⟨_, rfl⟩, .inl ⟨_, rfl, ?_⟩⟩
      have h1 := HI.out.2.1
      have h2 : linesF f s.length (s.drop s.length) = [] := by
        cases f with
        | zero => rfl
        | succ f => unfold linesF; simp
      rw [h2, List.append_nil] at h1
      rw [h1]
      exact HI.out.2.2.1
end Go.Proofs.YtofibebphfeglaaDoor
