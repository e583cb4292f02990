/- General words: calls of yield; what an iterator and its rounds keep; posts with a hole; rows. -/
import Derived.Test.YthccppldpfddjaaDoorIter
import Derived.Test.YthccppldpfddjaaDoorKit
import Derived.Test.YthccppldpfddjaaDoorR0
import Derived.Test.YthccppldpfddjaaDoorHd
import Derived.Test.YthccppldpfddjaaDoorVia
import Derived.Deep.AppendLies
import Derived.Shelf.Abstract
import Derived.Shelf.RegionOpen
import Derived.WalkKit
import Derived.OwnWalkIn
import Derived.TacticsInMore
import Derived.LoopNIn
import Derived.LoopIn
namespace Go.Proofs.YthccppldpfddjaaDoor
set_option linter.unusedSimpArgs false
open Go.RowKit
variable {F : Fence} {n : Nat} {P : Program}

theorem wpListIn_yield {ops : Array Oper} {rest : List Oper} {o : Oper} {a : Act} {w : World} {Q : Exit → Act → World → Prop} (hgd : o.guard = none) (g x : Operand) (ts : Array TypeId)
    (ho : o.op = .call { callee := .value g, args := #[x], argTypes := ts }) (l : Nat) (hg : a.eval g = .func (.yield l) #[] #[]) (hd : F.depth = none) {R : Ending → World → Prop} (hy : YieldAt F (n - 1) P l #[a.eval x] w R)
    (h : ∀ e w', R e w' → ∃ v, e = .returned v ∧ wpListIn F n P ops Q rest (a.put o.dst v) w') : wpListIn F n P ops Q (o :: rest) a w := by
  refine wpListIn_plain hgd fun K hK => ?_
  obtain ⟨fn, tmps, assign, body, hrun, hR⟩ := hy
  unfold Oper.wpIn
  refine ⟨?_, ?_⟩
  · simp [Oper.about, ho, resolve, hg, Target.leads, Sem.run_pure, Deferred.ofValue, hrun]
  · rw [Oper.semAt_plain F _ _ (by rw [ho]; intro c hc'; cases hc')]
    simp [execOp, ho, resolve, hg, invoke, Deferred.ofValue, hrun, Result.andThen]
    exact ⟨by simp [hd], hR.mono fun e w' he => by obtain ⟨v, rfl, hv⟩ := h e w' he; exact hK _ _ hv⟩
set_option linter.unusedVariables false
attribute [local go_sem] Oper.semAt_some
theorem wpListIn_yield_g {F : Fence} {n : Nat} {P : Program} {ops : Array Oper} {rest : List Oper} {o : Oper} {a : Act} {w : World} {Q : Exit → Act → World → Prop} (hgd : Region.wanted o (yielded ops a.tmps) = true) (g x : Operand) (ts : Array TypeId)
    (ho : o.op = .call { callee := .value g, args := #[x], argTypes := ts }) (l : Nat) (hg : a.eval g = .func (.yield l) #[] #[]) (hd : F.depth = none) {R : Ending → World → Prop} (hy : YieldAt F (n - 1) P l #[a.eval x] w R)
    (h : ∀ e w', R e w' → ∃ v, e = .returned v ∧ wpListIn F n P ops Q rest (a.put o.dst v) w') : wpListIn F n P ops Q (o :: rest) a w := by
  refine wpListIn_step fun K hK => ?_
  rw [if_pos hgd]
  obtain ⟨fn, tmps, assign, body, hrun, hR⟩ := hy
  unfold Oper.wpIn
  refine ⟨?_, ?_⟩
  · simp [Oper.about, ho, resolve, hg, Target.leads, Sem.run_pure, Deferred.ofValue, hrun]
  · rw [Oper.semAt_plain F _ _ (by rw [ho]; intro c hc'; cases hc')]
    simp [execOp, ho, resolve, hg, invoke, Deferred.ofValue, hrun, Result.andThen]
    exact ⟨by simp [hd], hR.mono fun e w' he => by obtain ⟨v, rfl, hv⟩ := h e w' he; exact hK _ _ hv⟩
/-- What a round keeps for the iterator. -/
def KeepB (bx : Nat) (W W' : World) : Prop := W.heap.size ≤ W'.heap.size ∧ W'.heap[bx]? = W.heap[bx]?
theorem keepB_put {bx : Nat} {W : World} {l : Nat} {o' : Obj} (h1 : bx < l) : KeepB bx W (W.putObj l o') := ⟨by simp [World.putObj], World.putObj_heap_other (by omega)⟩
theorem KeepB.trans {bx : Nat} {a b c : World} (h : KeepB bx a b) (k : KeepB bx b c) : KeepB bx a c := ⟨Nat.le_trans h.1 k.1, k.2.trans h.2⟩
theorem keepB_below {bx : Nat} {W W' : World} (h : Below W.heap.size W W') (h1 : bx < W.heap.size) : KeepB bx W W' := ⟨h.size, h.block _ h1⟩
theorem keepB_set {bx : Nat} {W : World} {p : Addr} (u : Value) (h : p.block ≠ bx) : KeepB bx W (W.setCell p u) := ⟨by simp [World.setCell], Below.heap_setCell _ _ _ _ (Ne.symm h)⟩
/-- What may turn while a loop over components goes on, the rounds aside: the iterator's box, and blocks from s on that are no cells; new blocks. -/
structure Turn (s bx : Nat) (W W' : World) : Prop where
  os : W'.os = W.os
  tape : W'.tape = W.tape
  output : W'.output = W.output
  size : W.heap.size ≤ W'.heap.size
  block : ∀ k o, W.heap[k]? = some o → k ≠ bx → (k < s ∨ o.isCells = true) → W'.heap[k]? = some o
theorem Turn.boxed {s bx b : Nat} {t : TypeId} {v : Value} {W W' : World} (h : Turn s bx W W') (hb : Boxed W b t v) (h1 : b ≠ bx) : Boxed W' b t v := h.block b _ hb h1 (.inr rfl)
theorem Turn.cells {s bx b : Nat} {t : TypeId} {cs : Array Value} {fr : Nat × Nat} {W W' : World} (h : Turn s bx W W') (hb : W.heap[b]? = some (.cells cs t fr)) (h1 : b ≠ bx) : W'.heap[b]? = some (.cells cs t fr) := h.block b _ hb h1 (.inr rfl)
theorem Turn.below {s bx B : Nat} {w W W' : World} (h : Turn s bx W W') (hb : Below B w W) (hB : B ≤ w.heap.size) (h1 : B ≤ bx) (h3 : B ≤ s) : Below B w W' :=
  hb.trans ⟨h.os, h.tape, h.output, h.size, fun k hk => by
    have hlt : k < W.heap.size := by have := hb.size; omega
    rw [Array.getElem?_eq_getElem hlt]
    exact h.block k _ (Array.getElem?_eq_getElem hlt) (by omega) (.inl (by omega))⟩
theorem Turn.of_but {s bx : Nat} {W W' : World} (h : But (fun k => k = bx) W W') : Turn s bx W W' :=
  ⟨h.os, h.tape, h.output, h.size, fun k o hk h1 _ => (h.block k (Array.getElem?_eq_some_iff.1 hk).1 h1).trans hk⟩
theorem Turn.of_own {s bx : Nat} {W W' : World} {row : Option Nat} (hg : W.grownBy W' row) (hr : ∀ r, row = some r → s ≤ r ∧ ∃ o : Obj, W.heap[r]? = some o ∧ o.isCells = false) : Turn s bx W W' :=
  ⟨hg.os, hg.tape, hg.output, hg.size, fun k o hk _ h3 => by
    refine (hg.block k (Array.getElem?_eq_some_iff.1 hk).1 (fun e => ?_)).trans hk
    obtain ⟨h4, o', ho, hc⟩ := hr k e.symm
    rw [hk] at ho
    cases ho
    rcases h3 with h3 | h3
    · omega
    · simp [hc] at h3⟩
theorem results_cell1 {fn : Func} {p : Tmp} {ty : TypeId} (h : fn.results = #[.cell p ty]) (tmps : Array Value) (P : Program) (w : World) (a : Addr) (v : Value) (d : TypeDesc) (hp : tmps.getD p undef = .pointer (some a)) (hc : w.cell? a = some v)
    (hu : P.underlying ty = some d) (hd : (match d with | .struct _ | .array _ _ => true | _ => false) = false) : (results fn tmps).run P w = .ok v w := by
  have hp' : tmps[p]?.getD undef = .pointer (some a) := by simpa using hp
  have hagg : (isAgg ty).run P w = .ok false w := by
    unfold isAgg
    rw [Sem.run_bind, run_underlying hu w]
    cases d <;> simp_all
  simp [results, h, hp', asAddr, loadVar, Sem.run_bind, hagg, hc]
/-- What is behind 'out = append(out, ..)' with the row laid above the variable's box. -/
theorem out_appended {W w1 : World} {s B : Nat} {t e : TypeId} {size : Nat} {v v' : Value} {k m : Nat} {xs ys : List Value} (hv : Boxed W B t v) (hte : t ≠ e) (hrow : W.ownsRow s e size v k xs) (hB : B < s) (hs : s ≤ W.heap.size)
    (hown' : w1.ownsRow s e size v' m ys) (hgrow : W.grownBy w1 v.ownBlock) :
    Boxed w1 B t v ∧ Boxed (w1.setCell ⟨B, 0, none⟩ v') B t v' ∧ (w1.setCell ⟨B, 0, none⟩ v').ownsRow s e size v' m ys ∧ Below B W (w1.setCell ⟨B, 0, none⟩ v') ∧ (∀ j, j < s → j ≠ B → (w1.setCell ⟨B, 0, none⟩ v').heap[j]? = W.heap[j]?) ∧ KeepsOthers W (w1.setCell ⟨B, 0, none⟩ v') := by
  have hv1 : Boxed w1 B t v := hv.kept hgrow (hv.not_row hte hrow)
  have hg : ∀ j, v.ownBlock = some j → s ≤ j := by
    intro j ej
    rcases hrow.2 with ⟨rfl, _⟩ | ⟨g, cap, cur, rfl, hb, _, _⟩
    · simp [Value.ownBlock] at ej
    · obtain rfl : g = j := by simpa [Value.ownBlock] using ej
      exact hb
  refine ⟨hv1, hv1.set v', hown'.kept (grownBy_setCell' w1 B v') (.inr (hv1.not_row hte hown').symm), ?_, ?_, ?_⟩
  · exact ((Below.refl B W).grown hgrow (by omega) (fun j ej => by have := hg j ej; omega)).setCell (p := ⟨B, 0, none⟩) (Nat.le_refl _) v'
  · intro j hj hjB
    rw [Below.heap_setCell _ _ _ _ hjB]
    exact hgrow.block j (by omega) (fun e' => by have := hg j e'.symm; omega)
  · refine (KeepsOthers.of_grownBy hgrow fun j o ej hj => ?_).trans (KeepsOthers.setCell _ _ _)
    rcases hrow.2 with ⟨rfl, _⟩ | ⟨g, cap, cur, rfl, _, hgb, _⟩
    · simp [Value.ownBlock] at ej
    · obtain rfl : g = j := by simpa [Value.ownBlock] using ej
      rw [hgb] at hj; cases hj; rfl
theorem Turn.row {s bx n0 : Nat} {e : TypeId} {size k : Nat} {v : Value} {xs : List Value} {W W' : World} (h : Turn s bx W W') (hr : W.ownsRow n0 e size v k xs) (hn : bx < n0) : W'.ownsRow n0 e size v k xs := by
  rcases hr.2 with ⟨rfl, h2⟩ | ⟨g, cap, cur, rfl, hb, hg, h3⟩
  · exact ⟨hr.1, .inl ⟨rfl, h2⟩⟩
  · exact ⟨hr.1, .inr ⟨g, cap, cur, rfl, hb, h.cells hg (by omega), h3⟩⟩
theorem Turn.of_but' {s bx : Nat} {W W' : World} (h : But (fun k => False) W W') : Turn s bx W W' :=
  ⟨h.os, h.tape, h.output, h.size, fun k o hk h1 _ => (h.block k (Array.getElem?_eq_some_iff.1 hk).1 (fun h => h)).trans hk⟩
theorem keepsO_below {W W' : World} (h : Below W.heap.size W W') : KeepsOthers W W' := KeepsOthers.of_grownBy (grown_of_below' h none) (by intro j o h; cases h)
/-- What a round keeps: all blocks below n. -/
def KeepL (n : Nat) (W W' : World) : Prop := W.heap.size ≤ W'.heap.size ∧ ∀ k, k < n → W'.heap[k]? = W.heap[k]?
theorem KeepL.refl (n : Nat) (W : World) : KeepL n W W := ⟨Nat.le_refl _, fun _ _ => rfl⟩
theorem KeepL.trans {n : Nat} {a b c : World} (h : KeepL n a b) (k : KeepL n b c) : KeepL n a c := ⟨Nat.le_trans h.1 k.1, fun i hi => (k.2 i hi).trans (h.2 i hi)⟩
theorem keepL_put {n : Nat} {W : World} {l : Nat} {o' : Obj} (h1 : n ≤ l) : KeepL n W (W.putObj l o') := ⟨by simp [World.putObj], fun k hk => World.putObj_heap_other (by omega)⟩
theorem KeepL.keepB {n bx : Nat} {W W' : World} (h : KeepL n W W') (hb : bx < n) : KeepB bx W W' := ⟨h.1, h.2 bx hb⟩
theorem keepL_below {n : Nat} {W W' : World} (h : Below W.heap.size W W') (hn : n ≤ W.heap.size) : KeepL n W W' := ⟨h.size, fun k hk => h.block k (by omega)⟩
theorem SeqB.keep {α : Type} {F : Fence} {n : Nat} {P : Program} {g : Nat} {lb : Array Value} {encs : α → Array Value} {B : Nat → Prop} {Kp Kq : World → World → Prop} {Al : List α → α → Prop} {S Sp : List α → Prop} {w : World}
    (h : SeqB F n P g lb encs B Kp Al S Sp w) (hk : ∀ W W', Kq W W' → Kp W W') : SeqB F n P g lb encs B Kq Al S Sp w := by
  intro l J Jx W hb hJ hY h0
  refine h l J Jx W hb hJ (fun pre x A hj ha => ?_) h0
  obtain ⟨fn, tmps, assign, body, hrun, hR⟩ := hY pre x A hj ha
  exact ⟨fn, tmps, assign, body, hrun, hR.mono fun e A' he => by rcases he with ⟨h1, h2, h3⟩ | h4; exact .inl ⟨h1, h2, hk _ _ h3⟩; exact .inr h4⟩
theorem row_turn {s bx n0 : Nat} {e : TypeId} {size k : Nat} {v : Value} {xs : List Value} {W W' : World} (h : Turn s bx W W') (hr : W.ownsRow n0 e size v k xs) (hn : bx < n0) : W'.ownsRow n0 e size v k xs := h.row hr hn
theorem row_put {W : World} {base e size n D : Nat} {v : Value} {xs : List Value} {o o' : Obj} (h : W.ownsRow base e size v n xs) (hK : W.heap[D]? = some o) (ho : o.isCells = false := by rfl) : (W.putObj D o').ownsRow base e size v n xs := by
  rcases h.2 with ⟨rfl, h2⟩ | ⟨g, cap, cur, rfl, hb, hg, h3⟩
  · exact ⟨h.1, .inl ⟨rfl, h2⟩⟩
  · refine ⟨h.1, .inr ⟨g, cap, cur, rfl, hb, ?_, h3⟩⟩
    rw [World.putObj_heap_other]
    · exact hg
    · rintro rfl
      rw [hg] at hK
      cases hK
      cases ho
/-- A post that the walk leaves alone: the region ends as S says. -/
def Ends (S : Act → World → Prop) : Exit → Act → World → Prop
  | .normal, a, w => S a w
  | _, _, _ => False
theorem Ends.mk {S : Act → World → Prop} {a : Act} {w : World} (h : S a w) : Ends S .normal a w := h
theorem Ends.imp {S : Act → World → Prop} {Q : Exit → Act → World → Prop} (h : ∀ a w, S a w → Q .normal a w) : ∀ e a w, Ends S e a w → Q e a w := by
  intro e a w he
  cases e <;> first | exact h a w he | exact he.elim
theorem Ends.const {P : Program} {c : Code} {a : Act} {w : World} {Q : Exit → Act → World → Prop} (T : Act) (F : World → Prop)
    (walk : c.wp P (Ends fun a' w' => a' = T ∧ F w') a w) (imp : ∀ w', F w' → Q .normal T w') : c.wp P Q a w :=
  Code.wp_mono (Ends.imp fun a' w' h => by obtain ⟨rfl, hf⟩ := h; exact imp w' hf) walk
end Go.Proofs.YthccppldpfddjaaDoor
