/- Regions that draw their order: loads that may be taken first, then one forced order; what the loads read is shown anew behind each of the others. -/
import Derived.Test.YtbojagkalbfenaaBridge
import Derived.Deep.RegionHeld3
namespace Go.Proofs.Ytbojagkalbfenaa
open Go.RowKit
section
variable {P : Program} {md : Region.Mode} {ops : Array Oper} {Q : Exit → Act → World → Prop} {S : World → Prop}
def wpListS (P : Program) (ops : Array Oper) (Q : Exit → Act → World → Prop) (S : World → Prop) : List Oper → Act → World → Prop
  | [], a, w => Q .normal a w
  | o :: l, a, w => ∀ K : Act → World → Prop, (∀ a' w', S w' → wpListS P ops Q S l a' w' → K a' w') → if Region.wanted o (yielded ops a.tmps) = true then Oper.wp P o a w K Q else K (a.put o.dst undef) w
theorem wpListS_cons {o : Oper} {l : List Oper} {a : Act} {w : World} (h : ∀ K : Act → World → Prop, (∀ a' w', S w' → wpListS P ops Q S l a' w' → K a' w') → if Region.wanted o (yielded ops a.tmps) = true then Oper.wp P o a w K Q else K (a.put o.dst undef) w) : wpListS P ops Q S (o :: l) a w := h
theorem wpListS_nil {a : Act} {w : World} (h : Q .normal a w) : wpListS P ops Q S [] a w := h

theorem wpAnyH_of_seq : ∀ (l : List Oper) (k : Nat) (listed : Array Bool) (a : Act) (w : World), (∀ j, l[j]? = ops[k + j]?) →
    Region.seqB md ops l.length k listed = true → wpListS P ops Q S l a w → wpAnyH P md ops Q S l.length listed a w
  | [], _, _, _, _, _, hB, h => wpAnyH_done (by simpa [Region.seqB] using hB) h _
  | o :: l, k, listed, a, w, hl, hB, h => by
    have h0 : ops[k]? = some o := by simpa using (hl 0).symm
    simp only [List.length_cons, Region.seqB, Bool.and_eq_true, decide_eq_true_eq] at hB
    refine wpAnyH_ready hB.1 (by simp) (AllReadyH.cons h0 (fun K hK => ?_) AllReadyH.nil)
    exact h K (fun a' w' hS h' => hK.out a' w' hS (fun _ => wpAnyH_of_seq l (k + 1) _ a' w' (fun j => by have := hl (j + 1); simpa [Nat.add_assoc, Nat.add_comm 1 j] using this) hB.2 h'))

def putAll : List Oper → List Value → Act → Act
  | o :: l, v :: vs, a => putAll l vs (a.put o.dst v)
  | _, _, a => a
def YieldsList (P : Program) (ops : Array Oper) (S : World → Prop) : List Oper → List Value → Act → Prop
  | [], [], _ => True
  | o :: l, v :: vs, a => YieldsIf P ops S o v a ∧ YieldsList P ops S l vs (a.put o.dst v)
  | _, _, _ => False

theorem wpListS_yields : ∀ (l : List Oper) (vs : List Value) (a : Act) (w : World), S w → YieldsList P ops S l vs a → Q .normal (putAll l vs a) w → wpListS P ops Q S l a w
  | [], [], a, w, _, _, h => h
  | [], _ :: _, _, _, _, hy, _ => hy.elim
  | _ :: _, [], _, _, _, hy, _ => hy.elim
  | o :: l, v :: vs, a, w, hw, hy, h => by
    intro K hK
    have hk := hK _ _ hw (wpListS_yields l vs (a.put o.dst v) w hw hy.2 h)
    rcases hy.1 with ⟨h1, h2⟩ | ⟨h1, rfl⟩
    · rw [if_pos h1]
      unfold Oper.wp
      rw [h2 w hw]
      exact hk
    · rw [if_neg (by rw [h1]; decide)]
      exact hk

theorem wpAnyH_of_heads {g : Nat} {tl : List Oper} (hs : Region.noSelect ops = true) (hg : tl.length = g) (hQ : ∀ c d v a w, Q (.panic c) (Act.put a d v) w → Q (.panic c) a w) :
    ∀ (l : List Oper) (vs : List Value) (k : Nat) (listed : Array Bool) (a : Act) (w : World), (∀ j, j < l.length → l[j]? = ops[k + j]?) → (∀ j, tl[j]? = ops[k + l.length + j]?) → Region.lexHead md ops g l.length k listed = true → S w →
    YieldsList P ops S l vs a → wpListS P ops Q S tl (putAll l vs a) w → wpAnyH P md ops Q S (l.length + g) listed a w
  | [], [], k, listed, a, w, _, ht, hB, hw, _, h => by
    subst hg
    rw [List.length_nil, Nat.zero_add]
    exact wpAnyH_of_seq tl k listed a w (fun j => by simpa using ht j) hB h
  | [], _ :: _, _, _, _, _, _, _, _, _, hy, _ => hy.elim
  | _ :: _, [], _, _, _, _, _, _, _, _, hy, _ => hy.elim
  | o :: l, v :: vs, k, listed, a, w, hl, ht, hB, hw, hy, h => by
    have h0 : ops[k]? = some o := by simpa using (hl 0 (by simp)).symm
    simp only [List.length_cons, Region.lexHead, Bool.and_eq_true] at hB
    rw [List.length_cons, show l.length + 1 + g = (l.length + g) + 1 by omega]
    refine wpAnyH_take h0 hs hB.1.2 hB.1.1 (fun c a w => hQ c _ _ a w) hy.1 hw ?_
    exact wpAnyH_of_heads hs hg hQ l vs (k + 1) _ _ w (fun j hj => by have := hl (j + 1) (by simp; omega); simpa [Nat.add_assoc, Nat.add_comm 1 j] using this) (fun j => by rw [ht j]; congr 1; simp only [List.length_cons]; omega) hB.2 hw hy.2 h

def heldB (md : Region.Mode) (ops : Array Oper) (n : Nat) : Bool := Region.noSelect ops && decide (n ≤ ops.size) && Region.lexHead md ops (ops.size - n) n 0 (Array.replicate ops.size false)

/-- The region: its first n may be taken first (they yield vs wherever S holds), the others come in order. -/
theorem wp_region_heads {id : Nat} {l : List Oper} {a : Act} {w : World} (n : Nat) (S : World → Prop) (vs : List Value) (hm : P.follows .mixedOrders = true) (hB : heldB .any l.toArray n = true) (hQ : ∀ c d v a w, Q (.panic c) (Act.put a d v) w → Q (.panic c) a w)
    (hS : S w.drew) (hy : YieldsList P l.toArray S (l.take n) vs a) (h : wpListS P l.toArray Q S (l.drop n) (putAll (l.take n) vs a) w.drew) : (Code.region id l.toArray true).wp P Q a w := by
  simp only [heldB, Bool.and_eq_true, decide_eq_true_eq, List.size_toArray] at hB
  obtain ⟨⟨h1, h2⟩, h3⟩ := hB
  have htl : (l.take n).length = n := by simp; omega
  have hdl : (l.drop n).length = l.length - n := by simp
  refine wp_region_held_drew hm hS (fun hw => ?_)
  have := wpAnyH_of_heads (P := P) (md := .any) (ops := l.toArray) (S := S) (tl := l.drop n) h1 hdl hQ (l.take n) vs 0 (Array.replicate l.toArray.size false) a w.drew
    (fun j hj => by rw [htl] at hj; simp [hj]) (fun j => by rw [htl]; simp [List.getElem?_drop]) (by rw [htl]; simpa using h3) hw hy h
  rw [htl, show n + (l.length - n) = l.length by omega] at this
  simpa using this
end
end Go.Proofs.Ytbojagkalbfenaa
