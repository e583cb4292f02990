/- A law of one step of a plain list of operations, used within a fence; for every program. -/
import Derived.Test.YthccppldpfddjaaDoorBr
import Derived.TacticsIn
namespace Go.Proofs.YthccppldpfddjaaDoor
open Go.RowKit
/-- The next operations alone. -/
def Only (S : Act → World → Prop) : Exit → Act → World → Prop
  | .normal, a, w => S a w
  | _, _, _ => False
theorem Only.stays {S : Act → World → Prop} : ¬ LetsOut (Only S) := fun ⟨_, _, h⟩ => h
theorem opIn_round {l n : Nat} {P : Program} {o : Oper} {a : Act} {w : World} {K : Act → World → Prop} {Q : Exit → Act → World → Prop} (hd : ∀ c, o.op ≠ .defer c)
    (h : o.wp P a w K (Only K)) : o.wpIn (Fence.wide.inRound l) n P a w K Q := by
  refine ⟨fun _ _ => trivial, ?_⟩
  rw [Oper.semAt_eq _ _ _ hd]
  unfold Oper.wp at h
  generalize (execOp a.eval o).run P w = r at h
  cases r with
  | ok x w' =>
    cases x <;> simp only [Oper.upon] at h <;> simp only [Oper.uponIn]
    case value => exact h
    case skip => exact h
    case defer => exact h
    case enter => exact ⟨fun hx => (by cases hx), callsIn_round (Calls.mono h (fun e w'' he => by cases e <;> first | exact he | exact absurd he Only.stays | exact he.elim))⟩
    case row => exact ⟨fun hx => (by cases hx), rowsIn_round (Rows.mono h (fun _ _ he => he))⟩
  | halt x w' => cases x <;> simp only [Oper.upon] at h <;> simp only [Oper.uponIn] <;> exact h.elim
theorem wpListIn_via {l n : Nat} {P : Program} {ops : Array Oper} {Q : Exit → Act → World → Prop} {o : Oper} {rest : List Oper} {a : Act} {w : World} (hd : (match o.op with | .defer _ => false | _ => true) = true)
    (h : ∀ Q' : Exit → Act → World → Prop, (∀ a' w', wpListIn (Fence.wide.inRound l) n P ops Q rest a' w' → Q' .normal a' w') → wpList P ops Q' [o] a w) : wpListIn (Fence.wide.inRound l) n P ops Q (o :: rest) a w := by
  have h1 := h (Only (wpListIn (Fence.wide.inRound l) n P ops Q rest)) (fun _ _ h => h)
  unfold wpListIn
  simp only [wpList] at h1
  by_cases hw : Region.wanted o (yielded ops a.tmps) = true
  · rw [if_pos hw] at h1 ⊢
    refine opIn_round (fun c hc => by rw [hc] at hd; cases hd) (h1.resolve_right fun x => Only.stays x.2)
  · rw [if_neg hw] at h1 ⊢
    exact ⟨fun _ _ => trivial, h1⟩
end Go.Proofs.YthccppldpfddjaaDoor
namespace Go.Proofs.YthccppldpfddjaaDoor
open Go.RowKit
theorem opIn_wide {n : Nat} {P : Program} {o : Oper} {a : Act} {w : World} {K : Act → World → Prop} {Q : Exit → Act → World → Prop} (hd : ∀ c, o.op ≠ .defer c)
    (h : o.wp P a w K (Only K)) : o.wpIn Fence.wide n P a w K Q := by
  refine ⟨fun _ _ => trivial, ?_⟩
  rw [Oper.semAt_eq _ _ _ hd]
  unfold Oper.wp at h
  generalize (execOp a.eval o).run P w = r at h
  cases r with
  | ok x w' =>
    cases x <;> simp only [Oper.upon] at h <;> simp only [Oper.uponIn]
    case value => exact h
    case skip => exact h
    case defer => exact h
    case enter => exact ⟨fun hx => (by cases hx), callsIn_wide.2 (Calls.mono h (fun e w'' he => by cases e <;> first | exact he | exact absurd he Only.stays | exact he.elim))⟩
    case row => exact ⟨fun hx => (by cases hx), fun c cs _ => by
      obtain ⟨v, w'', r, st⟩ := h c cs
      exact ⟨v, w'', r, stepsIn_wide.2 st⟩⟩
  | halt x w' => cases x <;> simp only [Oper.upon] at h <;> simp only [Oper.uponIn] <;> exact h.elim
theorem wpListIn_viaW {n : Nat} {P : Program} {ops : Array Oper} {Q : Exit → Act → World → Prop} {o : Oper} {rest : List Oper} {a : Act} {w : World} (hd : (match o.op with | .defer _ => false | _ => true) = true)
    (h : ∀ Q' : Exit → Act → World → Prop, (∀ a' w', wpListIn Fence.wide n P ops Q rest a' w' → Q' .normal a' w') → wpList P ops Q' [o] a w) : wpListIn Fence.wide n P ops Q (o :: rest) a w := by
  have h1 := h (Only (wpListIn Fence.wide n P ops Q rest)) (fun _ _ h => h)
  unfold wpListIn
  simp only [wpList] at h1
  by_cases hw : Region.wanted o (yielded ops a.tmps) = true
  · rw [if_pos hw] at h1 ⊢
    refine opIn_wide (fun c hc => by rw [hc] at hd; cases hd) (h1.resolve_right fun x => Only.stays x.2)
  · rw [if_neg hw] at h1 ⊢
    exact ⟨fun _ _ => trivial, h1⟩
end Go.Proofs.YthccppldpfddjaaDoor
