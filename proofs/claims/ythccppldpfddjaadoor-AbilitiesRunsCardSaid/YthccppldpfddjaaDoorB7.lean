/- What rights.apply (37) needs: the table of effects, calls of a loaded function, the words. -/
import Derived.Test.YthccppldpfddjaaDoorB6
namespace Go.Proofs.YthccppldpfddjaaDoor
open Go.RowKit
set_option linter.unusedVariables false
section
variable {P : Program}
theorem oper_callv {o : Oper} {a : Act} {w : World} {K : Act → World → Prop} {Q : Exit → Act → World → Prop} (x : Operand) (args : Array Operand) (ts : Array TypeId) (ho : o.op = .call { callee := .value x, args := args, argTypes := ts })
    (f : FuncId) (hx : a.eval x = .func (.func f) #[] #[]) (eg : ∀ args w, (callFunc f args).run P w = .ok (.enter f args) w) (vals : List Value) (hv : args.toList.map a.eval = vals) {R : Ending → World → Prop} (hc : Calls P f vals.toArray w R) (h : ∀ e w', R e w' → ∃ v, e = .returned v ∧ K (a.put o.dst v) w') :
    Oper.wp P o a w K Q := by
  unfold Oper.wp
  have e2 : args.map a.eval = vals.toArray := by rw [← hv, ← Array.toList_map]
  simp [execOp, ho, resolve, invoke, hx, e2, Deferred.ofValue, Sem.run_bind, Sem.run_pure, eg, Result.andThen, Oper.upon]
  exact hc.mono fun e w' he => by obtain ⟨v, rfl, hv⟩ := h e w' he; exact hv
theorem wpList_callv {ops : Array Oper} {rest : List Oper} {o : Oper} {a : Act} {w : World} {Q : Exit → Act → World → Prop} (hgd : o.guard = none) (x : Operand) (args : Array Operand) (ts : Array TypeId) (ho : o.op = .call { callee := .value x, args := args, argTypes := ts })
    (f : FuncId) (hx : a.eval x = .func (.func f) #[] #[]) (eg : ∀ args w, (callFunc f args).run P w = .ok (.enter f args) w) (vals : List Value) (hv : args.toList.map a.eval = vals) {R : Ending → World → Prop} (hc : Calls P f vals.toArray w R)
    (h : ∀ e w', R e w' → ∃ v, e = .returned v ∧ wpList P ops Q rest (a.put o.dst v) w') : wpList P ops Q (o :: rest) a w :=
  wpList_plain hgd fun K hK => oper_callv x args ts ho f hx eg vals hv hc fun e w' he => by obtain ⟨v, hv, hw⟩ := h e w' he; exact ⟨v, hv, hK _ _ hw⟩
end
def effF (k : Nat) : Nat := if k = 0 then 101 else if k = 1 then 103 else if k = 2 then 106 else if k = 3 then 107 else 108
theorem effF_enters (k : Nat) : ∀ args w, (callFunc (effF k) args).run Tryd.prog w = .ok (.enter (effF k) args) w := by
  by_cases h0 : k = 0
  · rw [show effF k = 101 by simp [effF, h0]]; exact enters_of Tryd.func101 (by kernel_rfl) rfl
  by_cases h1 : k = 1
  · rw [show effF k = 103 by simp [effF, h1]]; exact enters_of Tryd.func103 (by kernel_rfl) rfl
  by_cases h2 : k = 2
  · rw [show effF k = 106 by simp [effF, h2]]; exact enters_of Tryd.func106 (by kernel_rfl) rfl
  by_cases h3 : k = 3
  · rw [show effF k = 107 by simp [effF, h3]]; exact enters_of Tryd.func107 (by kernel_rfl) rfl
  rw [show effF k = 108 by simp [effF, h0, h1, h2, h3]]; exact enters_of Tryd.func108 (by kernel_rfl) rfl
/-- The table of effects. -/
def EffAt (w : World) : Prop := ∀ k : Nat, k < 5 → w.cell? ⟨1, k, none⟩ = some (.func (.func (effF k)) #[] #[])
theorem EffAt.keep {w w' : World} (h : EffAt w) (hk : w'.heap[1]? = w.heap[1]?) : EffAt w' := fun k hk' => (World.cell?_of_block hk).trans (h k hk')
theorem EffAt.lt {w : World} (h : EffAt w) : 1 < w.heap.size := by
  have := h 0 (by omega)
  apply Decidable.byContradiction
  intro hlt
  have h2 : w.heap[1]? = none := by simp; omega
  simp [World.cell?, h2] at this
theorem EffAt.below {w w' : World} (h : EffAt w) (hb : Below w.heap.size w w') : EffAt w' := h.keep (hb.block _ h.lt)
theorem eff_calls (k : Nat) (hk : k < 5) (a dom lo hi : Int) (tb i : Nat) (lv : Nat → Value) (C : Nat → Rt) (w : World) (hi2 : i < 2) (h : RArr 2 39 43 w tb lv C) (hG : Good (C i).rs) (hlen : (C i).rs.length ≤ 51) (hb : okR (lo, hi)) :
    Calls Tryd.prog (effF k) #[.pointer (some ⟨tb, i * 3, none⟩), .agg #[.int .i64 k, .int .i64 a, .int .i64 dom, .int .i64 lo, .int .i64 hi]] w (Eff w tb i C (effS k lo hi (C i))) := by
  refine eff_any ⟨k, a, dom, lo, hi⟩ tb i lv C w hi2 h hG hlen hb _ ?_
  unfold effF
  simp only
  (repeat' split) <;> omega
end Go.Proofs.YthccppldpfddjaaDoor
