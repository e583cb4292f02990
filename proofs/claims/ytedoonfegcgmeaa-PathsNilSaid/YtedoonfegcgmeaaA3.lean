/- The iterator of components. -/
import Derived.Test.YtedoonfegcgmeaaA2
import Derived.Test.YtedoonfegcgmeaaY1
namespace Go.Proofs.Ytedoonfegcgmeaa
open Go.RowKit
set_option linter.unusedVariables false
attribute [local go_sem] Oper.semAt_some
theorem wpListIn_yield_g {F : Fence} {n : Nat} {P : Program} {ops : Array Oper} {rest : List Oper} {o : Oper} {a : Act} {w : World} {Q : Exit → Act → World → Prop} (hgd : Region.wanted o (yielded ops a.tmps) = true) (g x : Operand) (ts : Array TypeId)
    (ho : o.op = .call { callee := .value g, args := #[x], argTypes := ts }) (l : Nat) (hg : a.eval g = .func (.yield l) #[] #[]) (hd : F.depth = none) {R : Ending → World → Prop} (hy : YieldAt F (n - 1) P l #[a.eval x] w R)
    (h : ∀ e w', R e w' → ∃ v, e = .returned v ∧ wpListIn F n P ops Q rest (a.put o.dst v) w') : wpListIn F n P ops Q (o :: rest) a w := by
  refine wpListIn_step fun K hK => ?_
  rw [if_pos hgd]
  obtain ⟨fn, tmps, assign, body, hrun, hR⟩ := hy
  unfold Oper.wpIn
  refine ⟨?_, ?_⟩
  · simp [Oper.about, ho, resolve, hg, Target.leads, Sem.run_pure, Deferred.ofValue, hrun]
  · rw [Oper.semAt_plain F _ _ (by rw [ho]; intro c hc'; cases hc')]
    simp [execOp, ho, resolve, hg, invoke, Deferred.ofValue, hrun, Result.andThen]
    exact ⟨by simp [hd], hR.mono fun e w' he => by obtain ⟨v, rfl, hv⟩ := h e w' he; exact hK _ _ hv⟩
/-- What a round keeps for the iterator. -/
def KeepB (bx : Nat) (W W' : World) : Prop := W.heap.size ≤ W'.heap.size ∧ W'.heap[bx]? = W.heap[bx]?
/-- The length of the string in a box. -/
def left (bx : Nat) (w : World) : Nat := match w.cell? ⟨bx, 0, none⟩ with
  | some (.string b) => b.size
  | _ => 0
theorem left_of {bx : Nat} {w : World} {l : Bs} (h : w.cell? ⟨bx, 0, none⟩ = some (str l)) : left bx w = l.length := by
  unfold left
  rw [h]
  simp [str, ByteArray.size]
theorem str_ne (l : Bs) : ((⟨l.toArray⟩ : ByteArray) = ⟨#[]⟩) ↔ l = [] := by
  constructor
  · intro h
    have := congrArg ByteArray.data h
    simpa using this
  · rintro rfl; rfl
theorem mk_data (l : Bs) : (⟨l.toArray⟩ : ByteArray).data.toList = l := by simp
theorem cutS_calls (l : Bs) (w : World) (hs : l.length ≤ 1000000) :
    Calls Try.prog 38 #[str l, .string ⟨#[47]⟩] w fun e w' => e = .returned (.tuple #[str (cut1 l).1, str (cut1 l).2.1, .bool (cut1 l).2.2]) ∧ ∃ n, w' = w.drewN n := by
  have := cut_calls ⟨l.toArray⟩ w (by simpa [ByteArray.size] using hs)
  rw [mk_data, cut_eq] at this
  exact this
theorem But.drewN {B : Nat → Prop} {a w : World} (h : But B a w) (n : Nat) : But B a (w.drewN n) := ⟨h.os, h.tape, h.output, h.size, h.block⟩
theorem Boxed.heap {w w' : World} {b : Nat} {t : TypeId} {v : Value} (h : Boxed w b t v) (he : w'.heap = w.heap) : Boxed w' b t v := by
  unfold Boxed at *
  rw [he]
  exact h
set_option maxHeartbeats 1000000 in
set_option maxRecDepth 100000 in
theorem comps1_seq (F : Fence) (n : Nat) (hF : F = Fence.wide) (hn : 1 ≤ n) (bx : Nat) (s : Bs) (w : World) (hbx : Boxed w bx 9 (str s)) (hs : s.length ≤ 1000000) :
    SeqB F n Try.prog 46 #[.pointer (some ⟨bx, 0, none⟩)] (fun x : Bs => #[str x]) (fun k => k = bx) (KeepB bx) (fun pre x => pre ++ [x] <+: comps s) (fun xs => xs = comps s) (fun pre => pre <+: comps s) w := by
  subst hF
  intro l J Jx W hbw hJ hY h0
  have HJ := Lib.hid hJ
  have HY := Lib.hid hY
  have hbxW := hbx.kept (grown_of_below' hbw none) (by simp)
  clear hJ hY hbx
  refine callsIn_of_wp Try.func46 rfl trivial ?_ rfl
  simp only [Try.ntmps46, List.size_toArray, List.length_cons, List.length_nil, Nat.reduceAdd, Nat.reduceSub, Array.replicate_succ, Array.replicate_zero, List.push_toArray, List.append_toArray, List.nil_append, List.cons_append]
  gi_wp2
  gi_loopw [3] (fun u wr => ∃ (pre : List Bs) (r : Bs), r.length ≤ 1000000 ∧ Hid (comps s = pre ++ comps r ∧ J pre wr ∧ Boxed wr bx 9 (str r) ∧ W.heap.size ≤ wr.heap.size)) (fun _ wr => left bx wr)
  case atStart => exact ⟨[], s, hs, Lib.hid ⟨rfl, h0, hbxW, Nat.le_refl _⟩⟩
  case round =>
    obtain ⟨pre, r, hrl, HI⟩ := hrel
    have hc := HI.out.2.2.1.cell
    have hfr := HI.out.2.2.1.frozen
    have HLEFT := Lib.hid (left_of hc)
    by_cases hr : r = []
    · subst hr
      unfold str at hc
      gi_wp2
      go_end0
      exact ⟨⟨_, rfl⟩, .inl ⟨pre, by rw [HI.out.1, comps_nil, List.append_nil], HI.out.2.1⟩⟩
    · have HLESS := Lib.hid (cut1_less hr)
      have hrest : (cut1 r).2.1.length ≤ 1000000 := Nat.le_trans (cut1_len r).2 hrl
      have HQ := Lib.hid (comps_cut r)
      have HCUT := Lib.hid (fun W => cutS_calls r W hrl)
      obtain ⟨one, ho⟩ : ∃ x, (cut1 r).1 = x := ⟨_, rfl⟩
      obtain ⟨rest, hre⟩ : ∃ x, (cut1 r).2.1 = x := ⟨_, rfl⟩
      rw [ho] at HQ HCUT
      rw [hre] at HQ HCUT HLESS hrest
      generalize (cut1 r).2.2 = ff at *
      have hrb : (r == []) = false := by simpa using hr
      clear ho hre hr
      unfold str at hc HCUT
      have hbr : ∀ n', Boxed (wr.drewN n') bx 9 (str r) := fun n' => Boxed.heap (show Boxed wr bx 9 (str r) from HI.out.2.2.1) rfl
      have HBR := Lib.hid hbr
      clear hbr
      by_cases h1 : one = []
      · have HV : Hid (comps s = pre ++ comps rest) := Lib.hid (by rw [HI.out.1, HQ.out, if_pos h1, List.nil_append])
        subst h1
        clear HQ
        gi_wp2_with (refine ⟨trivial, ?_⟩; gi_at_call 38; refine (callsIn_wide.2 (HCUT.out _)).mono ?_; rintro e w' ⟨rfl, n', rfl⟩; have hc2 := (HBR.out n').cell; have hf2 := (HBR.out n').frozen)
        refine ⟨fun _ h => (by cases h), ?_⟩
        unfold str at hc2
        gi_wp2
        have hb2 := (HBR.out n').set (str rest)
        unfold str at hb2
        go_roundw
        case rel => exact ⟨pre, rest, hrest, Lib.hid ⟨HV.out, HJ.out _ _ _ HI.out.2.1 (((But.refl (fun k => k = bx) wr).drewN n').setCell (p := ⟨bx, 0, none⟩) rfl _), hb2, by have := HI.out.2.2.2; simpa [World.setCell] using this⟩⟩
        case measure => have e1 := left_of hb2.cell; have e2 := HLEFT.out; have e3 := HLESS.out; omega
      · have hob : (one == []) = false := by simpa using h1
        have HV : Hid (comps s = (pre ++ [one]) ++ comps rest) := Lib.hid (by rw [HI.out.1, HQ.out, if_neg h1, List.append_assoc])
        clear HQ h1
        gi_wp2_with (first
          | (refine ⟨trivial, ?_⟩; gi_at_call 38; refine (callsIn_wide.2 (HCUT.out _)).mono ?_; rintro e w' ⟨rfl, n', rfl⟩)
          | (((with_reducible change wpListIn _ _ _ _ _ (⟨_, .call { callee := .value (.tmp 17), args := _, argTypes := _ }, _, _, _, _⟩ :: _) _ _)); refine wpListIn_yield_g rfl (.tmp 17) (.tmp 18) #[9] rfl l rfl rfl (HY.out pre one _ (HJ.out _ _ _ HI.out.2.1 ((But.refl (fun k => k = bx) wr).drewN n')) (by rw [HV.out]; exact List.prefix_append _ _)) ?_; rintro e w2 (⟨rfl, hJ2, hk2⟩ | ⟨rfl, hJx⟩) <;> first | (have hb2 : Boxed w2 bx 9 (str r) := hk2.2.trans (HBR.out n'); have hc2 := hb2.cell; have hf2 := hb2.frozen; unfold str at hc2; refine ⟨_, rfl, ?_⟩) | refine ⟨_, rfl, ?_⟩))
        · have hb3 := hb2.set (str rest)
          unfold str at hb3
          go_roundw
          case rel => exact ⟨pre ++ [one], rest, hrest, Lib.hid ⟨HV.out, HJ.out _ _ _ hJ2 ((But.refl (fun k => k = bx) w2).setCell (p := ⟨bx, 0, none⟩) rfl _), hb3, by have h1 := HI.out.2.2.2; have h2 : wr.heap.size ≤ w2.heap.size := hk2.1; simp [World.setCell]; omega⟩⟩
          case measure => have e1 := left_of hb3.cell; have e2 := HLEFT.out; have e3 := HLESS.out; omega
        · refine bodyPost_ret (results_none rfl _ _ _) rfl ?_
          exact ⟨⟨_, rfl⟩, .inr ⟨pre ++ [one], by rw [HV.out]; exact List.prefix_append _ _, hJx⟩⟩
end Go.Proofs.Ytedoonfegcgmeaa
