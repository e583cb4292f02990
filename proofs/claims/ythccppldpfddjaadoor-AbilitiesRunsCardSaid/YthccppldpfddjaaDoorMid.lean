/- Regions that draw their order: heads (by their numbers) that may be taken first, operations in between (by their numbers) in one order that keep what the heads read, and a tail that waits for all of them and keeps nothing. -/
import Derived.Test.YthccppldpfddjaaDoorHd
namespace Go.Proofs.YthccppldpfddjaaDoor
open Go.RowKit
section
variable {P : Program} {md : Region.Mode} {ops : Array Oper} {Q : Exit → Act → World → Prop} {S : World → Prop}
def seqIdx (md : Region.Mode) (ops : Array Oper) (n g : Nat) : List Nat → Array Bool → Bool
  | [], listed => Region.seqB md ops g n listed
  | s :: ss, listed => decide (Region.ready md ops listed = [s]) && decide (s < n) && seqIdx md ops n g ss (listed.setIfInBounds s true)
def headIdx (md : Region.Mode) (ops : Array Oper) (n g : Nat) (ss : List Nat) : List Nat → Array Bool → Bool
  | [], listed => seqIdx md ops n g ss listed
  | h :: hs, listed => (Region.ready md ops listed).contains h && Region.free md ops listed h && decide (h < n) && headIdx md ops n g ss hs (listed.setIfInBounds h true)
def wpMids (P : Program) (ops : Array Oper) (Q : Exit → Act → World → Prop) (S : World → Prop) (R : Act → World → Prop) (l : List Oper) : List Nat → Act → World → Prop
  | [], a, w => R a w
  | i :: is, a, w => match l[i]? with
    | some o => ∀ K : Act → World → Prop, (∀ a' w', S w' → wpMids P ops Q S R l is a' w' → K a' w') → if Region.wanted o (yielded ops a.tmps) = true then Oper.wp P o a w K Q else K (a.put o.dst undef) w
    | none => False
theorem wpAnyU_midsIdx {l : List Oper} (hl : ops = l.toArray) {n g : Nat} {R : Act → World → Prop} : ∀ (ss : List Nat) (listed : Array Bool) (a : Act) (w : World),
    seqIdx md ops n g ss listed = true → wpMids P ops Q S R l ss a w → wpAnyU P md ops Q S n (fun listed a w => Region.seqB md ops g n listed = true ∧ R a w) ss.length listed a w
  | [], listed, a, w, hB, h => ⟨hB, h⟩
  | s :: ss, listed, a, w, hB, h => by
    simp only [seqIdx, Bool.and_eq_true, decide_eq_true_eq] at hB
    unfold wpMids at h
    cases hi : l[s]? with
    | none => rw [hi] at h; exact h.elim
    | some o =>
      rw [hi] at h
      simp only at h
      refine ⟨by rw [hB.1.1]; simp, fun j hj => ?_⟩
      rw [hB.1.1] at hj
      obtain rfl : j = s := by simpa using hj
      exact ⟨hB.1.2, wpOp_step (by rw [hl]; simpa using hi) (fun K' hK => h K' (fun a' w' hS hW => hK a' w' ⟨hS, wpAnyU_midsIdx hl ss _ a' w' hB.2 hW⟩))⟩
theorem wpAnyU_headsIdx {l : List Oper} (hl : ops = l.toArray) {n g : Nat} {R : Act → World → Prop} (hsel : Region.noSelect ops = true) (hs : Region.sinkB md ops n = true) (hc : Region.chainB md ops n = true) (hn : n < ops.size) (hQ : ∀ c d v a w, Q (.panic c) (Act.put a d v) w → Q (.panic c) a w) (ss : List Nat) :
    ∀ (hd : List Nat) (vs : List Value) (listed : Array Bool) (a : Act) (w : World), HeadInv md ops n listed → headIdx md ops n g ss hd listed = true → S w →
    YieldsIdx P ops S l hd vs a → wpMids P ops Q S R l ss (putIdx l hd vs a) w → wpAnyU P md ops Q S n (fun listed a w => Region.seqB md ops g n listed = true ∧ R a w) (hd.length + ss.length) listed a w
  | [], [], listed, a, w, _, hB, _, _, h => by
    rw [List.length_nil, Nat.zero_add]
    exact wpAnyU_midsIdx hl ss listed a w hB h
  | [], _ :: _, _, _, _, _, _, _, hy, _ => hy.elim
  | _ :: _, [], _, _, _, _, _, _, hy, _ => hy.elim
  | i :: hd, v :: vs, listed, a, w, inv, hB, hw, hy, h => by
    simp only [headIdx, Bool.and_eq_true, decide_eq_true_eq] at hB
    unfold YieldsIdx at hy
    unfold putIdx at h
    cases hi : l[i]? with
    | none => rw [hi] at hy; exact hy.elim
    | some o =>
      rw [hi] at hy h
      simp only at hy h
      have h0 : ops[i]? = some o := by rw [hl]; simpa using hi
      have hr : i ∈ Region.ready md ops listed := by simpa using hB.1.1.1
      rw [List.length_cons, show hd.length + 1 + ss.length = (hd.length + ss.length) + 1 by omega]
      refine wpAnyU_first h0 hsel hs hc hn hB.1.2 (fun _ _ _ hL => seqB_ready hL.1) (fun c a w => hQ c _ _ a w) _ listed a w inv (Region.free_spec h0 hB.1.1.2) hr hy.1 hw ?_
      exact wpAnyU_headsIdx hl hsel hs hc hn hQ ss hd vs _ _ w (inv.set hr hB.1.2) hB.2 hw hy.2 h
def midB (md : Region.Mode) (ops : Array Oper) (n : Nat) (hd ss : List Nat) : Bool :=
  Region.noSelect ops && decide (n < ops.size) && decide (hd.length + ss.length = n) && Region.sinkB md ops n && Region.chainB md ops n && headIdx md ops n (ops.size - n) ss hd (Array.replicate ops.size false)
theorem wpAny_mid {l : List Oper} {a : Act} {w : World} (n : Nat) (hd ss : List Nat) (S : World → Prop) (vs : List Value) (hB : midB .any l.toArray n hd ss = true) (hQ : ∀ c d v a w, Q (.panic c) (Act.put a d v) w → Q (.panic c) a w)
    (hS : S w.drew) (hy : YieldsIdx P l.toArray S l hd vs a) (h : wpMids P l.toArray Q S (fun a w => wpList P l.toArray Q (l.drop n) a w) l ss (putIdx l hd vs a) w.drew) :
    wpAny P .any l.toArray Q l.toArray.size (Array.replicate l.toArray.size false) a w.drew := by
  simp only [midB, Bool.and_eq_true, decide_eq_true_eq, List.size_toArray] at hB
  obtain ⟨⟨⟨⟨⟨hsel, hn⟩, hlen⟩, hs⟩, hc⟩, hlex⟩ := hB
  have hdl : (l.drop n).length = l.length - n := by simp
  have H := wpAnyU_headsIdx (P := P) (Q := Q) (S := S) (md := .any) (ops := l.toArray) (l := l) rfl (n := n) (g := l.length - n) (R := fun a w => wpList P l.toArray Q (l.drop n) a w) hsel hs hc (by simpa using hn) hQ ss hd vs (Array.replicate l.length false) a w.drew
    ⟨by simp, fun j oj _ hl => (by rw [getD_replicate_false] at hl; cases hl), fun t _ ht => getD_in (by simpa using ht) (getD_replicate_false _ _)⟩ hlex hS hy h
  have := wpAny_of_U (Q := Q) (g := l.length - n) (fun listed a' w' hL => by
    have := wpAny_of_seq (md := .any) (Q' := Q) (l.drop n) n listed a' w' (fun j => by simp [List.getElem?_drop]) (by rw [hdl]; exact hL.1) hL.2
    rwa [hdl] at this) _ _ _ _ H
  rw [hlen, show l.length - n + n = l.length by omega] at this
  simpa using this
theorem wp_region_mid {id : Nat} {l : List Oper} {a : Act} {w : World} (n : Nat) (hd ss : List Nat) (S : World → Prop) (vs : List Value) (hm : P.follows .mixedOrders = true) (hB : midB .any l.toArray n hd ss = true) (hQ : ∀ c d v a w, Q (.panic c) (Act.put a d v) w → Q (.panic c) a w)
    (hS : S w.drew) (hy : YieldsIdx P l.toArray S l hd vs a) (h : wpMids P l.toArray Q S (fun a w => wpList P l.toArray Q (l.drop n) a w) l ss (putIdx l hd vs a) w.drew) : (Code.region id l.toArray true).wp P Q a w :=
  wp_region_any hm (wpAny_mid n hd ss S vs hB hQ hS hy h)
theorem wpIn_round_mid {k r id : Nat} {l : List Oper} {a : Act} {w : World} (n : Nat) (hd ss : List Nat) (S : World → Prop) (vs : List Value) (hl : ¬ LetsOut Q) (hdf : noDeferB l.toArray = true) (hm : P.follows .mixedOrders = true) (hB : midB .any l.toArray n hd ss = true) (hQ : ∀ c d v a w, Q (.panic c) (Act.put a d v) w → Q (.panic c) a w)
    (hS : S w.drew) (hy : YieldsIdx P l.toArray S l hd vs a) (h : wpMids P l.toArray Q S (fun a w => wpList P l.toArray Q (l.drop n) a w) l ss (putIdx l hd vs a) w.drew) : (Code.region id l.toArray true).wpIn (Fence.wide.inRound k) r P Q a w :=
  wpIn_round_any hl hdf hm (wpAny_mid n hd ss S vs hB hQ hS hy h)
end
end Go.Proofs.YthccppldpfddjaaDoor
