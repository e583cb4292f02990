/- A call of yield, met in a walk inside the fence. -/
import Derived.Test.YtedoonfegcgmeaaIter
import Derived.Test.YtedoonfegcgmeaaKit
import Derived.Shelf.Abstract
import Derived.Shelf.RegionOpen
import Derived.WalkKit
import Derived.OwnWalkIn
import Derived.TacticsInMore
import Derived.LoopNIn
import Derived.LoopIn
namespace Go.Proofs.Ytedoonfegcgmeaa
set_option linter.unusedSimpArgs false
open Go.RowKit
variable {F : Fence} {n : Nat} {P : Program}

theorem wpListIn_yield {ops : Array Oper} {rest : List Oper} {o : Oper} {a : Act} {w : World} {Q : Exit → Act → World → Prop} (hgd : o.guard = none) (g x : Operand) (ts : Array TypeId)
    (ho : o.op = .call { callee := .value g, args := #[x], argTypes := ts }) (l : Nat) (hg : a.eval g = .func (.yield l) #[] #[]) (hd : F.depth = none) {R : Ending → World → Prop} (hy : YieldAt F (n - 1) P l #[a.eval x] w R)
    (h : ∀ e w', R e w' → ∃ v, e = .returned v ∧ wpListIn F n P ops Q rest (a.put o.dst v) w') : wpListIn F n P ops Q (o :: rest) a w := by
  refine wpListIn_plain hgd fun K hK => ?_
  obtain ⟨fn, tmps, assign, body, hrun, hR⟩ := hy
  unfold Oper.wpIn
  refine ⟨?_, ?_⟩
  · simp [Oper.about, ho, resolve, hg, Target.leads, Sem.run_pure, Deferred.ofValue, hrun]
  · rw [Oper.semAt_plain F _ _ (by rw [ho]; intro c hc'; cases hc')]
    simp [execOp, ho, resolve, hg, invoke, Deferred.ofValue, hrun, Result.andThen]
    exact ⟨by simp [hd], hR.mono fun e w' he => by obtain ⟨v, rfl, hv⟩ := h e w' he; exact hK _ _ hv⟩
end Go.Proofs.Ytedoonfegcgmeaa
