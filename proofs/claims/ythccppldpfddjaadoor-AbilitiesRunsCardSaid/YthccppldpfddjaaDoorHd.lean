/- Regions that draw their order: loads that may be taken first, operations that change the world but not what the loads read, and a tail that waits for all of them: one walk; also within a round. -/
import Derived.Test.YthccppldpfddjaaDoorBr
import Derived.Deep.RegionHeld3
namespace Go.Proofs.YthccppldpfddjaaDoor
open Go.RowKit
section
variable {P : Program} {md : Region.Mode} {ops : Array Oper} {Q : Exit → Act → World → Prop} {S : World → Prop}
/-- Whatever is picked is one of the first n, S holds behind it; at the end L. -/
def wpAnyU (P : Program) (md : Region.Mode) (ops : Array Oper) (Q : Exit → Act → World → Prop) (S : World → Prop) (n : Nat) (L : Array Bool → Act → World → Prop) : Nat → Array Bool → Act → World → Prop
  | 0, listed, a, w => L listed a w
  | f + 1, listed, a, w => Region.ready md ops listed ≠ [] ∧ ∀ i ∈ Region.ready md ops listed, i < n ∧ wpOp P ops Q i (fun a' w' => S w' ∧ wpAnyU P md ops Q S n L f (listed.setIfInBounds i true) a' w') a w

theorem wpAny_of_U {n g : Nat} {L : Array Bool → Act → World → Prop} (hL : ∀ listed a w, L listed a w → wpAny P md ops Q g listed a w) :
    ∀ (f : Nat) (listed : Array Bool) (a : Act) (w : World), wpAnyU P md ops Q S n L f listed a w → wpAny P md ops Q (g + f) listed a w
  | 0, _, _, _, h => hL _ _ _ h
  | f + 1, _, _, _, h => ⟨fun h0 => absurd h0 h.1, fun i hi => wpOp_mono (fun _ _ h' => wpAny_of_U hL f _ _ _ h'.2) (h.2 i hi).2⟩

theorem wpAnyU_first {n i : Nat} {oi : Oper} {v : Value} {L : Array Bool → Act → World → Prop} (hi : ops[i]? = some oi) (hsel : Region.noSelect ops = true)
    (hs : Region.sinkB md ops n = true) (hc : Region.chainB md ops n = true) (hn : n < ops.size) (hin : i < n) (hdone : ∀ listed a w, L listed a w → ∀ j ∈ Region.ready md ops listed, n ≤ j)
    (hQ : ∀ c a w, Q (.panic c) (a.put oi.dst v) w → Q (.panic c) a w) :
    ∀ (f : Nat) (listed : Array Bool) (a : Act) (w : World),
      HeadInv md ops n listed →
      (∀ j oj, ops[j]? = some oj → j ≠ i → listed.getD j true = false → (∀ e ∈ oj.after, Region.binds md e = true → e.on ≠ i) → oi.apart ops oj = true) →
      i ∈ Region.ready md ops listed → YieldsIf P ops S oi v a → S w →
      wpAnyU P md ops Q S n L f (listed.setIfInBounds i true) (a.put oi.dst v) w → wpAnyU P md ops Q S n L (f + 1) listed a w := by
  intro f
  induction f with
  | zero =>
    intro listed a w inv _ hr hy hS H
    refine ⟨List.ne_nil_of_mem hr, fun j hj => ?_⟩
    have hjn : j < n := Nat.lt_of_not_le fun h => tail_waits hs hc hn inv _ i rfl hin (mem_ready.1 hr).1 j h hj
    refine ⟨hjn, ?_⟩
    by_cases hji : j = i
    · subst hji; exact hy.wpOp hi hS ⟨hS, H⟩
    · exact absurd (hdone _ _ _ H j (ready_mono hj hji)) (by omega)
  | succ f ih =>
    intro listed a w inv hfree hr hy hS H
    refine ⟨List.ne_nil_of_mem hr, fun j hj => ?_⟩
    have hjn : j < n := Nat.lt_of_not_le fun h => tail_waits hs hc hn inv _ i rfl hin (mem_ready.1 hr).1 j h hj
    refine ⟨hjn, ?_⟩
    by_cases hji : j = i
    · subst hji; exact hy.wpOp hi hS ⟨hS, H⟩
    · have h1 := (H.2 j (ready_mono hj hji)).2
      obtain ⟨hjun, oj, hoj, hall⟩ := mem_ready.1 hj
      have hnot : ∀ e ∈ oj.after, Region.binds md e = true → e.on ≠ i := fun e he hb heq => by
        have h1 := hall e he hb
        rw [heq, getD_both (mem_ready.1 hr).1] at h1
        cases h1
      have h2 := wpOp_putIf hoj (hfree j oj hoj hji hjun hnot) (fun cs b => Region.noSelect_spec hsel i oi cs b hi) (fun cs b => Region.noSelect_spec hsel j oj cs b hoj) hQ hy h1
      refine wpOp_mono (fun a' w' h3 => ⟨h3.2.1, ih (listed.setIfInBounds j true) a' w' (inv.set hj hjn) (fun k ok hk hki hun hno => hfree k ok hk hki ?_ hno) (ready_mono hr (Ne.symm hji)) h3.1 h3.2.1 ?_⟩) h2
      · by_cases hjk : j = k
        · subst hjk; exact hjun
        · rw [getD_set_ne true hjk] at hun; exact hun
      · rw [Array.setIfInBounds_comm _ _ hji]
        exact h3.2.2

/-- A list of operations, each of which leaves S behind; at the end R. -/
def wpListR (P : Program) (ops : Array Oper) (Q : Exit → Act → World → Prop) (S : World → Prop) (R : Act → World → Prop) : List Oper → Act → World → Prop
  | [], a, w => R a w
  | o :: l, a, w => ∀ K : Act → World → Prop, (∀ a' w', S w' → wpListR P ops Q S R l a' w' → K a' w') → if Region.wanted o (yielded ops a.tmps) = true then Oper.wp P o a w K Q else K (a.put o.dst undef) w
theorem wpListR_cons {R : Act → World → Prop} {o : Oper} {l : List Oper} {a : Act} {w : World} (h : ∀ K : Act → World → Prop, (∀ a' w', S w' → wpListR P ops Q S R l a' w' → K a' w') → if Region.wanted o (yielded ops a.tmps) = true then Oper.wp P o a w K Q else K (a.put o.dst undef) w) : wpListR P ops Q S R (o :: l) a w := h
theorem wpListR_nil {R : Act → World → Prop} {a : Act} {w : World} (h : R a w) : wpListR P ops Q S R [] a w := h

def putAll : List Oper → List Value → Act → Act
  | o :: l, v :: vs, a => putAll l vs (a.put o.dst v)
  | _, _, a => a
def YieldsList (P : Program) (ops : Array Oper) (S : World → Prop) : List Oper → List Value → Act → Prop
  | [], [], _ => True
  | o :: l, v :: vs, a => YieldsIf P ops S o v a ∧ YieldsList P ops S l vs (a.put o.dst v)
  | _, _, _ => False

theorem wpAnyU_mids {n g : Nat} {R : Act → World → Prop} : ∀ (l : List Oper) (k : Nat) (listed : Array Bool) (a : Act) (w : World), (∀ j, j < l.length → l[j]? = ops[k + j]?) → k + l.length = n →
    Region.seqB md ops (l.length + g) k listed = true → wpListR P ops Q S R l a w → wpAnyU P md ops Q S n (fun listed a w => Region.seqB md ops g n listed = true ∧ R a w) l.length listed a w
  | [], k, listed, a, w, _, hk, hB, h => by
    obtain rfl : k = n := by simpa using hk
    exact ⟨by simpa using hB, h⟩
  | o :: l, k, listed, a, w, hl, hk, hB, h => by
    rw [List.length_cons] at hk
    have h0 : ops[k]? = some o := by simpa using (hl 0 (by simp)).symm
    rw [List.length_cons, show l.length + 1 + g = (l.length + g) + 1 by omega] at hB
    simp only [Region.seqB, Bool.and_eq_true, decide_eq_true_eq] at hB
    refine ⟨by rw [hB.1]; simp, fun j hj => ?_⟩
    rw [hB.1] at hj
    obtain rfl : j = k := by simpa using hj
    exact ⟨by omega, wpOp_step h0 (fun K' hK => h K' (fun a' w' hS hW => hK a' w' ⟨hS, wpAnyU_mids l (j + 1) _ a' w' (fun i hi => by have := hl (i + 1) (by simp; omega); simpa [Nat.add_assoc, Nat.add_comm 1 i] using this) (by omega) hB.2 hW⟩))⟩

theorem wpAnyU_heads {n g : Nat} {ml : List Oper} {R : Act → World → Prop} (hsel : Region.noSelect ops = true) (hs : Region.sinkB md ops n = true) (hc : Region.chainB md ops n = true) (hn : n < ops.size) (hQ : ∀ c d v a w, Q (.panic c) (Act.put a d v) w → Q (.panic c) a w) :
    ∀ (l : List Oper) (vs : List Value) (k : Nat) (listed : Array Bool) (a : Act) (w : World), (∀ j, j < l.length → l[j]? = ops[k + j]?) → (∀ j, j < ml.length → ml[j]? = ops[k + l.length + j]?) → k + l.length + ml.length = n → HeadInv md ops n listed →
    Region.lexHead md ops (ml.length + g) l.length k listed = true → S w →
    YieldsList P ops S l vs a → wpListR P ops Q S R ml (putAll l vs a) w → wpAnyU P md ops Q S n (fun listed a w => Region.seqB md ops g n listed = true ∧ R a w) (l.length + ml.length) listed a w
  | [], [], k, listed, a, w, _, ht, hk, _, hB, hw, _, h => by
    rw [List.length_nil, Nat.zero_add]
    exact wpAnyU_mids ml k listed a w (fun j hj => by simpa using ht j hj) (by simpa using hk) (by simpa [Region.lexHead] using hB) h
  | [], _ :: _, _, _, _, _, _, _, _, _, _, _, hy, _ => hy.elim
  | _ :: _, [], _, _, _, _, _, _, _, _, _, _, hy, _ => hy.elim
  | o :: l, v :: vs, k, listed, a, w, hl, ht, hk, inv, hB, hw, hy, h => by
    have h0 : ops[k]? = some o := by simpa using (hl 0 (by simp)).symm
    rw [List.length_cons] at hk
    simp only [List.length_cons, Region.lexHead, Bool.and_eq_true] at hB
    have hr : k ∈ Region.ready md ops listed := by simpa using hB.1.1
    rw [List.length_cons, show l.length + 1 + ml.length = (l.length + ml.length) + 1 by omega]
    refine wpAnyU_first h0 hsel hs hc hn (by omega) (fun _ _ _ hL => seqB_ready hL.1) (fun c a w => hQ c _ _ a w) _ listed a w inv (Region.free_spec h0 hB.1.2) hr hy.1 hw ?_
    exact wpAnyU_heads hsel hs hc hn hQ l vs (k + 1) _ _ w (fun j hj => by have := hl (j + 1) (by simp; omega); simpa [Nat.add_assoc, Nat.add_comm 1 j] using this) (fun j hj => by rw [ht j hj]; congr 1; simp only [List.length_cons]; omega) (by omega) (inv.set hr (by omega)) hB.2 hw hy.2 h

def headB (md : Region.Mode) (ops : Array Oper) (n m : Nat) : Bool :=
  Region.noSelect ops && decide (n + m < ops.size) && Region.sinkB md ops (n + m) && Region.chainB md ops (n + m) && Region.lexHead md ops (ops.size - n) n 0 (Array.replicate ops.size false)

theorem wpAny_heads {l : List Oper} {a : Act} {w : World} (n m : Nat) (S : World → Prop) (vs : List Value) (hB : headB .any l.toArray n m = true) (hQ : ∀ c d v a w, Q (.panic c) (Act.put a d v) w → Q (.panic c) a w)
    (hS : S w.drew) (hy : YieldsList P l.toArray S (l.take n) vs a) (h : wpListR P l.toArray Q S (fun a w => wpList P l.toArray Q (l.drop (n + m)) a w) ((l.drop n).take m) (putAll (l.take n) vs a) w.drew) :
    wpAny P .any l.toArray Q l.toArray.size (Array.replicate l.toArray.size false) a w.drew := by
  simp only [headB, Bool.and_eq_true, decide_eq_true_eq, List.size_toArray] at hB
  obtain ⟨⟨⟨⟨hsel, hn⟩, hs⟩, hc⟩, hlex⟩ := hB
  have htl : (l.take n).length = n := by simp; omega
  have hml : ((l.drop n).take m).length = m := by simp; omega
  have hdl : (l.drop (n + m)).length = l.length - (n + m) := by simp
  have H := wpAnyU_heads (P := P) (Q := Q) (S := S) (md := .any) (ops := l.toArray) (n := n + m) (g := l.length - (n + m)) (ml := (l.drop n).take m) (R := fun a w => wpList P l.toArray Q (l.drop (n + m)) a w) hsel hs hc (by simpa using hn) hQ (l.take n) vs 0 (Array.replicate l.length false) a w.drew
    (fun j hj => by rw [htl] at hj; simp [hj]) (fun j hj => by rw [hml] at hj; rw [htl]; simp [List.getElem?_take, hj, List.getElem?_drop]) (by rw [htl, hml]; omega)
    ⟨by simp, fun j oj _ hl => (by rw [getD_replicate_false] at hl; cases hl), fun t _ ht => getD_in (by simpa using ht) (getD_replicate_false _ _)⟩
    (by rw [htl, hml, show m + (l.length - (n + m)) = l.length - n by omega]; exact hlex) hS hy h
  have := wpAny_of_U (Q := Q) (g := l.length - (n + m)) (fun listed a' w' hL => by
    have := wpAny_of_seq (md := .any) (Q' := Q) (l.drop (n + m)) (n + m) listed a' w' (fun j => by simp [List.getElem?_drop]) (by rw [hdl]; exact hL.1) hL.2
    rwa [hdl] at this) _ _ _ _ H
  rw [htl, hml, show l.length - (n + m) + (n + m) = l.length by omega] at this
  simpa using this

/-- The region: its first n may be taken first (they yield vs wherever S holds), the next m come in order and keep S, the others wait for all of these. -/
theorem wp_region_tails {id : Nat} {l : List Oper} {a : Act} {w : World} (n m : Nat) (S : World → Prop) (vs : List Value) (hm : P.follows .mixedOrders = true) (hB : headB .any l.toArray n m = true) (hQ : ∀ c d v a w, Q (.panic c) (Act.put a d v) w → Q (.panic c) a w)
    (hS : S w.drew) (hy : YieldsList P l.toArray S (l.take n) vs a) (h : wpListR P l.toArray Q S (fun a w => wpList P l.toArray Q (l.drop (n + m)) a w) ((l.drop n).take m) (putAll (l.take n) vs a) w.drew) : (Code.region id l.toArray true).wp P Q a w :=
  wp_region_any hm (wpAny_heads n m S vs hB hQ hS hy h)
/-- The same within a round, at the wide fence. -/
theorem wpIn_round_tails {k r id : Nat} {l : List Oper} {a : Act} {w : World} (n m : Nat) (S : World → Prop) (vs : List Value) (hl : ¬ LetsOut Q) (hd : noDeferB l.toArray = true) (hm : P.follows .mixedOrders = true) (hB : headB .any l.toArray n m = true) (hQ : ∀ c d v a w, Q (.panic c) (Act.put a d v) w → Q (.panic c) a w)
    (hS : S w.drew) (hy : YieldsList P l.toArray S (l.take n) vs a) (h : wpListR P l.toArray Q S (fun a w => wpList P l.toArray Q (l.drop (n + m)) a w) ((l.drop n).take m) (putAll (l.take n) vs a) w.drew) : (Code.region id l.toArray true).wpIn (Fence.wide.inRound k) r P Q a w :=
  wpIn_round_any hl hd hm (wpAny_heads n m S vs hB hQ hS hy h)

/-- The heads (by their numbers) may be taken first one after the other, the others come in one order (by their numbers). -/
def lexSeq (md : Region.Mode) (ops : Array Oper) : List Nat → Array Bool → Bool
  | [], listed => (Region.ready md ops listed).isEmpty
  | s :: ss, listed => decide (Region.ready md ops listed = [s]) && lexSeq md ops ss (listed.setIfInBounds s true)
def lexIdx (md : Region.Mode) (ops : Array Oper) (ss : List Nat) : List Nat → Array Bool → Bool
  | [], listed => lexSeq md ops ss listed
  | h :: hs, listed => (Region.ready md ops listed).contains h && Region.free md ops listed h && lexIdx md ops ss hs (listed.setIfInBounds h true)
def YieldsIdx (P : Program) (ops : Array Oper) (S : World → Prop) (l : List Oper) : List Nat → List Value → Act → Prop
  | [], [], _ => True
  | i :: is, v :: vs, a => match l[i]? with
    | some o => YieldsIf P ops S o v a ∧ YieldsIdx P ops S l is vs (a.put o.dst v)
    | none => False
  | _, _, _ => False
def putIdx (l : List Oper) : List Nat → List Value → Act → Act
  | i :: is, v :: vs, a => match l[i]? with
    | some o => putIdx l is vs (a.put o.dst v)
    | none => a
  | _, _, a => a
def wpIdx (P : Program) (ops : Array Oper) (Q : Exit → Act → World → Prop) (S : World → Prop) (l : List Oper) : List Nat → Act → World → Prop
  | [], a, w => Q .normal a w
  | i :: is, a, w => match l[i]? with
    | some o => ∀ K : Act → World → Prop, (∀ a' w', S w' → wpIdx P ops Q S l is a' w' → K a' w') → if Region.wanted o (yielded ops a.tmps) = true then Oper.wp P o a w K Q else K (a.put o.dst undef) w
    | none => False
theorem wpAnyH_idx {l : List Oper} (hl : ops = l.toArray) (hs : Region.noSelect ops = true) (hQ : ∀ c d v a w, Q (.panic c) (Act.put a d v) w → Q (.panic c) a w) :
    ∀ (hd : List Nat) (vs : List Value) (ss : List Nat) (listed : Array Bool) (a : Act) (w : World), lexIdx md ops ss hd listed = true → S w →
    YieldsIdx P ops S l hd vs a → wpIdx P ops Q S l ss (putIdx l hd vs a) w → wpAnyH P md ops Q S (hd.length + ss.length) listed a w
  | [], [], [], listed, a, w, hB, _, _, h => wpAnyH_done (by simpa [lexIdx, lexSeq] using hB) h _
  | [], [], s :: ss, listed, a, w, hB, _, _, h => by
    simp only [lexIdx, lexSeq, Bool.and_eq_true, decide_eq_true_eq] at hB
    unfold putIdx wpIdx at h
    cases hi : l[s]? with
    | none => rw [hi] at h; exact h.elim
    | some o =>
      rw [hi] at h
      simp only at h
      rw [List.length_nil, Nat.zero_add, List.length_cons]
      refine wpAnyH_ready hB.1 (by simp) (AllReadyH.cons (by rw [hl]; simpa using hi) (fun K hK => ?_) AllReadyH.nil)
      exact h K (fun a' w' hS h' => hK.out a' w' hS (fun _ => by
        have := wpAnyH_idx hl hs hQ [] [] ss _ a' w' hB.2 hS trivial h'
        simpa using this))
  | [], _ :: _, _, _, _, _, _, _, hy, _ => hy.elim
  | _ :: _, [], _, _, _, _, _, _, hy, _ => hy.elim
  | i :: hd, v :: vs, ss, listed, a, w, hB, hw, hy, h => by
    simp only [lexIdx, Bool.and_eq_true] at hB
    unfold YieldsIdx at hy
    unfold putIdx at h
    cases hi : l[i]? with
    | none => rw [hi] at hy; exact hy.elim
    | some o =>
      rw [hi] at hy h
      simp only at hy h
      rw [List.length_cons, show hd.length + 1 + ss.length = (hd.length + ss.length) + 1 by omega]
      refine wpAnyH_take (oi := o) (by rw [hl]; simpa using hi) hs hB.1.2 hB.1.1 (fun c a w => hQ c _ _ a w) hy.1 hw ?_
      exact wpAnyH_idx hl hs hQ hd vs ss _ _ w hB.2 hw hy.2 h
def idxB (md : Region.Mode) (ops : Array Oper) (hd ss : List Nat) : Bool :=
  Region.noSelect ops && decide (hd.length + ss.length = ops.size) && lexIdx md ops ss hd (Array.replicate ops.size false)
theorem wpAny_idx {l : List Oper} {a : Act} {w : World} (hd ss : List Nat) (S : World → Prop) (vs : List Value) (hB : idxB .any l.toArray hd ss = true) (hQ : ∀ c d v a w, Q (.panic c) (Act.put a d v) w → Q (.panic c) a w)
    (hS : S w.drew) (hy : YieldsIdx P l.toArray S l hd vs a) (h : wpIdx P l.toArray Q S l ss (putIdx l hd vs a) w.drew) : wpAny P .any l.toArray Q l.toArray.size (Array.replicate l.toArray.size false) a w.drew := by
  simp only [idxB, Bool.and_eq_true, decide_eq_true_eq] at hB
  have := wpAny_of_held _ _ _ _ (wpAnyH_idx (P := P) (md := .any) (S := S) rfl hB.1.1 hQ hd vs ss (Array.replicate l.toArray.size false) a w.drew hB.2 hS hy h)
  rwa [hB.1.2] at this
theorem wp_region_idx {id : Nat} {l : List Oper} {a : Act} {w : World} (hd ss : List Nat) (S : World → Prop) (vs : List Value) (hm : P.follows .mixedOrders = true) (hB : idxB .any l.toArray hd ss = true) (hQ : ∀ c d v a w, Q (.panic c) (Act.put a d v) w → Q (.panic c) a w)
    (hS : S w.drew) (hy : YieldsIdx P l.toArray S l hd vs a) (h : wpIdx P l.toArray Q S l ss (putIdx l hd vs a) w.drew) : (Code.region id l.toArray true).wp P Q a w :=
  wp_region_any hm (wpAny_idx hd ss S vs hB hQ hS hy h)
theorem wpIn_round_idx {k r id : Nat} {l : List Oper} {a : Act} {w : World} (hd ss : List Nat) (S : World → Prop) (vs : List Value) (hl : ¬ LetsOut Q) (hdf : noDeferB l.toArray = true) (hm : P.follows .mixedOrders = true) (hB : idxB .any l.toArray hd ss = true) (hQ : ∀ c d v a w, Q (.panic c) (Act.put a d v) w → Q (.panic c) a w)
    (hS : S w.drew) (hy : YieldsIdx P l.toArray S l hd vs a) (h : wpIdx P l.toArray Q S l ss (putIdx l hd vs a) w.drew) : (Code.region id l.toArray true).wpIn (Fence.wide.inRound k) r P Q a w :=
  wpIn_round_any hl hdf hm (wpAny_idx hd ss S vs hB hQ hS hy h)
theorem if_wanted {c : Prop} [Decidable c] {A B : Prop} (hc : c) (ha : A) : if c then A else B := by rw [if_pos hc]; exact ha
/-- A call of a function, as one step of such a list. -/
theorem step_call {o : Oper} {a : Act} {w : World} {K : Act → World → Prop} (f : FuncId) (args : Array Operand) (ts : Array TypeId) (ho : o.op = .call { callee := .value (.func f), args := args, argTypes := ts })
    (eg : ∀ args w, (callFunc f args).run P w = .ok (.enter f args) w) (vals : List Value) (hv : args.toList.map a.eval = vals) {R : Ending → World → Prop} (hc : Calls P f vals.toArray w R) (h : ∀ e w', R e w' → ∃ v, e = .returned v ∧ K (a.put o.dst v) w') :
    Oper.wp P o a w K Q := by
  unfold Oper.wp
  have e2 : args.map a.eval = vals.toArray := by rw [← hv, ← Array.toList_map]
  have e1 : a.eval (.func f) = .func (.func f) #[] #[] := rfl
  simp [execOp, ho, resolve, invoke, e1, e2, Deferred.ofValue, Sem.run_bind, Sem.run_pure, eg, Result.andThen, Oper.upon]
  exact hc.mono fun e w' he => by obtain ⟨v, rfl, hv⟩ := h e w' he; exact hv
end
end Go.Proofs.YthccppldpfddjaaDoor
