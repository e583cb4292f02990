/- Regions that draw their order, in stages: operations that may be taken first (true) and such that must come next (false), in any mixture; then a tail that waits for all of them. -/
import Derived.Test.YthccppldpfddjaaDoorMid
namespace Go.Proofs.YthccppldpfddjaaDoor
open Go.RowKit
section
variable {P : Program} {md : Region.Mode} {ops : Array Oper} {Q : Exit → Act → World → Prop} {S : World → Prop}
def stepsB (md : Region.Mode) (ops : Array Oper) (n g : Nat) : List (Bool × Nat) → Array Bool → Bool
  | [], listed => Region.seqB md ops g n listed
  | (true, h) :: r, listed => (Region.ready md ops listed).contains h && Region.free md ops listed h && decide (h < n) && stepsB md ops n g r (listed.setIfInBounds h true)
  | (false, s) :: r, listed => decide (Region.ready md ops listed = [s]) && decide (s < n) && stepsB md ops n g r (listed.setIfInBounds s true)
def wpSteps (P : Program) (ops : Array Oper) (Q : Exit → Act → World → Prop) (S : World → Prop) (R : Act → World → Prop) (l : List Oper) : List (Bool × Nat) → Act → World → Prop
  | [], a, w => R a w
  | (true, h) :: r, a, w => match l[h]? with
    | some o => ∃ v, YieldsIf P ops S o v a ∧ wpSteps P ops Q S R l r (a.put o.dst v) w
    | none => False
  | (false, s) :: r, a, w => match l[s]? with
    | some o => ∀ K : Act → World → Prop, (∀ a' w', S w' → wpSteps P ops Q S R l r a' w' → K a' w') → if Region.wanted o (yielded ops a.tmps) = true then Oper.wp P o a w K Q else K (a.put o.dst undef) w
    | none => False
theorem wpAnyU_steps {l : List Oper} (hl : ops = l.toArray) {n g : Nat} {R : Act → World → Prop} (hsel : Region.noSelect ops = true) (hs : Region.sinkB md ops n = true) (hc : Region.chainB md ops n = true) (hn : n < ops.size) (hQ : ∀ c d v a w, Q (.panic c) (Act.put a d v) w → Q (.panic c) a w) :
    ∀ (st : List (Bool × Nat)) (listed : Array Bool) (a : Act) (w : World), HeadInv md ops n listed → stepsB md ops n g st listed = true → S w →
    wpSteps P ops Q S R l st a w → wpAnyU P md ops Q S n (fun listed a w => Region.seqB md ops g n listed = true ∧ R a w) st.length listed a w
  | [], listed, a, w, _, hB, _, h => ⟨hB, h⟩
  | (true, i) :: st, listed, a, w, inv, hB, hw, h => by
    simp only [stepsB, Bool.and_eq_true, decide_eq_true_eq] at hB
    unfold wpSteps at h
    cases hi : l[i]? with
    | none => rw [hi] at h; exact h.elim
    | some o =>
      rw [hi] at h
      simp only at h
      obtain ⟨v, hy, h⟩ := h
      have h0 : ops[i]? = some o := by rw [hl]; simpa using hi
      have hr : i ∈ Region.ready md ops listed := by simpa using hB.1.1.1
      rw [List.length_cons]
      refine wpAnyU_first h0 hsel hs hc hn hB.1.2 (fun _ _ _ hL => seqB_ready hL.1) (fun c a w => hQ c _ _ a w) _ listed a w inv (Region.free_spec h0 hB.1.1.2) hr hy hw ?_
      exact wpAnyU_steps hl hsel hs hc hn hQ st _ _ w (inv.set hr hB.1.2) hB.2 hw h
  | (false, s) :: st, listed, a, w, inv, hB, hw, h => by
    simp only [stepsB, Bool.and_eq_true, decide_eq_true_eq] at hB
    unfold wpSteps at h
    cases hi : l[s]? with
    | none => rw [hi] at h; exact h.elim
    | some o =>
      rw [hi] at h
      simp only at h
      have hr : s ∈ Region.ready md ops listed := by rw [hB.1.1]; simp
      rw [List.length_cons]
      refine ⟨by rw [hB.1.1]; simp, fun j hj => ?_⟩
      rw [hB.1.1] at hj
      obtain rfl : j = s := by simpa using hj
      exact ⟨hB.1.2, wpOp_step (by rw [hl]; simpa using hi) (fun K' hK => h K' (fun a' w' hS hW => hK a' w' ⟨hS, wpAnyU_steps hl hsel hs hc hn hQ st _ a' w' (inv.set hr hB.1.2) hB.2 hS hW⟩))⟩
def stagesB (md : Region.Mode) (ops : Array Oper) (n : Nat) (st : List (Bool × Nat)) : Bool :=
  Region.noSelect ops && decide (n < ops.size) && decide (st.length = n) && Region.sinkB md ops n && Region.chainB md ops n && stepsB md ops n (ops.size - n) st (Array.replicate ops.size false)
theorem wpAny_steps {l : List Oper} {a : Act} {w : World} (n : Nat) (st : List (Bool × Nat)) (S : World → Prop) (hB : stagesB .any l.toArray n st = true) (hQ : ∀ c d v a w, Q (.panic c) (Act.put a d v) w → Q (.panic c) a w)
    (hS : S w.drew) (h : wpSteps P l.toArray Q S (fun a w => wpList P l.toArray Q (l.drop n) a w) l st a w.drew) :
    wpAny P .any l.toArray Q l.toArray.size (Array.replicate l.toArray.size false) a w.drew := by
  simp only [stagesB, Bool.and_eq_true, decide_eq_true_eq, List.size_toArray] at hB
  obtain ⟨⟨⟨⟨⟨hsel, hn⟩, hlen⟩, hs⟩, hc⟩, hlex⟩ := hB
  have hdl : (l.drop n).length = l.length - n := by simp
  have H := wpAnyU_steps (P := P) (Q := Q) (S := S) (md := .any) (ops := l.toArray) (l := l) rfl (n := n) (g := l.length - n) (R := fun a w => wpList P l.toArray Q (l.drop n) a w) hsel hs hc (by simpa using hn) hQ st (Array.replicate l.length false) a w.drew
    ⟨by simp, fun j oj _ hl => (by rw [getD_replicate_false] at hl; cases hl), fun t _ ht => getD_in (by simpa using ht) (getD_replicate_false _ _)⟩ hlex hS h
  have := wpAny_of_U (Q := Q) (g := l.length - n) (fun listed a' w' hL => by
    have := wpAny_of_seq (md := .any) (Q' := Q) (l.drop n) n listed a' w' (fun j => by simp [List.getElem?_drop]) (by rw [hdl]; exact hL.1) hL.2
    rwa [hdl] at this) _ _ _ _ H
  rw [hlen, show l.length - n + n = l.length by omega] at this
  simpa using this
theorem wp_region_steps {id : Nat} {l : List Oper} {a : Act} {w : World} (n : Nat) (st : List (Bool × Nat)) (S : World → Prop) (hm : P.follows .mixedOrders = true) (hB : stagesB .any l.toArray n st = true) (hQ : ∀ c d v a w, Q (.panic c) (Act.put a d v) w → Q (.panic c) a w)
    (hS : S w.drew) (h : wpSteps P l.toArray Q S (fun a w => wpList P l.toArray Q (l.drop n) a w) l st a w.drew) : (Code.region id l.toArray true).wp P Q a w :=
  wp_region_any hm (wpAny_steps n st S hB hQ hS h)
theorem wpIn_round_steps {k r id : Nat} {l : List Oper} {a : Act} {w : World} (n : Nat) (st : List (Bool × Nat)) (S : World → Prop) (hl : ¬ LetsOut Q) (hdf : noDeferB l.toArray = true) (hm : P.follows .mixedOrders = true) (hB : stagesB .any l.toArray n st = true) (hQ : ∀ c d v a w, Q (.panic c) (Act.put a d v) w → Q (.panic c) a w)
    (hS : S w.drew) (h : wpSteps P l.toArray Q S (fun a w => wpList P l.toArray Q (l.drop n) a w) l st a w.drew) : (Code.region id l.toArray true).wpIn (Fence.wide.inRound k) r P Q a w :=
  wpIn_round_any hl hdf hm (wpAny_steps n st S hB hQ hS h)
theorem steps_nil {R : Act → World → Prop} {l : List Oper} {a : Act} {w : World} (h : R a w) : wpSteps P ops Q S R l [] a w := h
theorem steps_head {R : Act → World → Prop} {l : List Oper} {i : Nat} {st : List (Bool × Nat)} {o : Oper} {a : Act} {w : World} (hi : l[i]? = some o) (v : Value) (hy : YieldsIf P ops S o v a) (h : wpSteps P ops Q S R l st (a.put o.dst v) w) : wpSteps P ops Q S R l ((true, i) :: st) a w := by
  unfold wpSteps
  rw [hi]
  exact ⟨v, hy, h⟩
theorem steps_mid {R : Act → World → Prop} {l : List Oper} {i : Nat} {st : List (Bool × Nat)} {o : Oper} {a : Act} {w : World} (hi : l[i]? = some o)
    (h : ∀ K : Act → World → Prop, (∀ a' w', S w' → wpSteps P ops Q S R l st a' w' → K a' w') → if Region.wanted o (yielded ops a.tmps) = true then Oper.wp P o a w K Q else K (a.put o.dst undef) w) : wpSteps P ops Q S R l ((false, i) :: st) a w := by
  unfold wpSteps
  rw [hi]
  exact h
end
end Go.Proofs.YthccppldpfddjaaDoor
