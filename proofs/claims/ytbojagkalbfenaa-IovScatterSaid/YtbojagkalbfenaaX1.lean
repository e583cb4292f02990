import Derived.Test.YtbojagkalbfenaaS1
import Derived.Laws.CopyOwn
namespace Go.Proofs.Ytbojagkalbfenaa
set_option linter.unusedVariables false
set_option linter.unusedSimpArgs false
open Go.RowKit PIovGather Go.Proofs.YtbojagkalbfenaaW.PrintWords
attribute [local go_sem] Oper.semAt_some ints_get ints_size ints_getElem

theorem wpList_copy_cells {P : Program} {w : World} {ops : Array Oper} {rest : List Oper} {o : Oper} {a : Act} {Q : Exit → Act → World → Prop} (hgd : o.guard = none) (d s : Operand) (dT sT : TypeId)
    (ho : o.op = .call { callee := .builtin .copy, args := #[d, s], argTypes := #[dT, sT] }) (elem : TypeId) (hu : P.underlying dT = some (.slice elem)) (hsz : (P.info? elem).map (·.size) = some 1)
    (b p dLen dCap : Nat) (ad : Addr) (sLen sCap : Nat) (hd : a.eval d = .slice (some ⟨b, p, none⟩) dLen dCap) (hs : a.eval s = .slice (some ad) sLen sCap)
    (cs : List Value) (hn : cs.length = Nat.min sLen dLen) (hsrc : ∀ j v, cs[j]? = some v → w.cell? (ad.add j) = some v) (hc : ∀ j, j < cs.length → (w.cell? ⟨b, p + j, none⟩).isSome = true) (hf : ∀ j, j < cs.length → w.frozen? ⟨b, p + j, none⟩ = false) (h1 : ∀ v ∈ cs, v.oneCell' = true)
    (h : wpList P ops Q rest (a.put o.dst (goInt cs.length)) (w.setCells b p cs)) : wpList P ops Q (o :: rest) a w := by
  refine wpList_plain hgd fun K hK => ?_
  have hrun := run_copy_cells (P := P) w dT sT o.type elem b p dLen dCap ad sLen sCap cs hu hsz hn hsrc hc hf h1
  unfold Oper.wp
  simp [execOp, ho, resolve, invoke, builtin, hd, hs, hrun, Result.andThen]
  exact hK _ _ h

/-- Data laid over a memory from a place on. -/
def wr (ms : List Value) (p : Nat) (vs : List Value) : List Value := ms.take p ++ vs ++ ms.drop (p + vs.length)
theorem wr_length {ms vs : List Value} {p : Nat} (h : p + vs.length ≤ ms.length) : (wr ms p vs).length = ms.length := by simp [wr]; omega
def scatS (s : List Value × List Value) (x : Int × Int) : List Value × List Value := (wr s.1 x.1.toNat (s.2.take x.2.toNat), s.2.drop x.2.toNat)
def scat (s : List Value × List Value) (xs : List (Int × Int)) : List Value × List Value := xs.foldl scatS s
theorem scat_snoc (s : List Value × List Value) (pre : List (Int × Int)) (x : Int × Int) : scat s (pre ++ [x]) = scatS (scat s pre) x := by simp [scat]
theorem sumL_slicedL : ∀ (l : List (Int × Int)) (off m : Int), 0 ≤ m → sumL (slicedL l off m) ≤ m
  | [], off, m, h => by simpa [slicedL, sumL] using h
  | p :: r, off, m, h => by
    simp only [slicedL]
    split
    · simpa [sumL] using h
    · split
      · exact sumL_slicedL r _ m h
      · have := sumL_slicedL r 0 (m - min (p.2 - off) m) (by omega)
        simp only [sumL]
        omega
theorem sumL_nonneg {l : List (Int × Int)} (h : ∀ x ∈ l, 1 ≤ x.2) : 0 ≤ sumL l := by
  induction l with
  | nil => simp [sumL]
  | cons x r ih =>
    have := ih (fun y hy => h y (List.mem_cons_of_mem _ hy))
    have := h x List.mem_cons_self
    simp only [sumL]; omega
theorem sumL_prefix {a b : List (Int × Int)} (h : a <+: b) (hb : ∀ x ∈ b, 1 ≤ x.2) : sumL a ≤ sumL b := by
  obtain ⟨t, rfl⟩ := h
  rw [sumL_append]
  have := sumL_nonneg (l := t) (fun x hx => hb x (List.mem_append_right _ hx))
  omega
/-- What is left of the data, and the memory's length, behind some parts. -/
theorem scat_rest (ms ds : List Value) : ∀ (xs : List (Int × Int)), (∀ x ∈ xs, 0 ≤ x.2) → (scat (ms, ds) xs).2 = ds.drop (sumL xs).toNat := by
  have key : ∀ (xs : List (Int × Int)) (ms ds : List Value), (∀ x ∈ xs, 0 ≤ x.2) → (xs.foldl scatS (ms, ds)).2 = ds.drop (sumL xs).toNat := by
    intro xs
    induction xs with
    | nil => intro ms ds _; simp [sumL]
    | cons x r ih =>
      intro ms ds h
      have h0 := h x List.mem_cons_self
      have hr : ∀ y ∈ r, 0 ≤ y.2 := fun y hy => h y (List.mem_cons_of_mem _ hy)
      have hs : 0 ≤ sumL r := by
        clear ih h
        induction r with
        | nil => simp [sumL]
        | cons y t iht => have := iht (fun z hz => hr z (List.mem_cons_of_mem _ hz)); have := hr y List.mem_cons_self; simp only [sumL]; omega
      simp only [List.foldl_cons, scatS]
      rw [ih _ _ hr, List.drop_drop]
      congr 1
      simp only [sumL]; omega
  exact fun xs h => key xs ms ds h

theorem Turn.row {s bn bo : Nat} {W W' : World} {base : Nat} {e : TypeId} {size : Nat} {v : Value} {k : Nat} {xs : List Value} (t : Turn s bn bo W W') (h : W.ownsRow base e size v k xs) (h1 : ∀ j, v.ownBlock = some j → j ≠ bn ∧ j ≠ bo) : W'.ownsRow base e size v k xs := by
  refine ⟨h.1, ?_⟩
  rcases h.2 with h0 | ⟨g, cap, cur, rfl, hb, hc, hr⟩
  · exact .inl h0
  · have := h1 g rfl
    exact .inr ⟨g, cap, cur, rfl, hb, t.cells hc this.1 this.2, hr⟩
theorem Turn.grown {s bn bo : Nat} {w W W' : World} {row : Option Nat} (t : Turn s bn bo W W') (h : w.grownBy W row) (h1 : w.heap.size ≤ bn) (h2 : w.heap.size ≤ bo) (h3 : w.heap.size ≤ s) : w.grownBy W' row := by
  refine ⟨t.os.trans h.os, t.tape.trans h.tape, t.output.trans h.output, Nat.le_trans h.size t.size, fun k hk hne => ?_⟩
  have hlt : k < W.heap.size := Nat.lt_of_lt_of_le hk h.size
  rw [← h.block k hk hne, Array.getElem?_eq_getElem hlt]
  exact t.block k _ (Array.getElem?_eq_getElem hlt) (by omega) (by omega) (.inl (by omega))
theorem Turn.mem {s bn bo : Nat} {W W' : World} {M : Option Addr} {ds : List Value} (t : Turn s bn bo W W') (h : Mem W M ds) (h1 : ∀ ad, M = some ad → ad.block < s ∧ ad.block ≠ bn ∧ ad.block ≠ bo) : Mem W' M ds :=
  ⟨fun j u hj => by
    obtain ⟨ad, e, hlt, hc⟩ := h.cell j u hj
    obtain ⟨a1, a2, a3⟩ := h1 ad e
    refine ⟨ad, e, Nat.lt_of_lt_of_le hlt t.size, ?_⟩
    have hk := t.block ad.block _ (Array.getElem?_eq_getElem hlt) a2 a3 (.inl a1)
    rw [World.cell?_of_block (w := W) (show W'.heap[(ad.add j).block]? = _ by rw [add_block, hk, Array.getElem?_eq_getElem hlt])]
    exact hc, h.one⟩
theorem own_frozen' {w : World} {base : Nat} {e : TypeId} {size n g cap : Nat} {xs : List Value} (h : w.ownsRow base e size (.slice (some ⟨g, 0, none⟩) n cap) n xs) (j : Nat) : w.frozen? ⟨g, j, none⟩ = false := by
  rcases h.2 with ⟨h2, _⟩ | ⟨g', cap', cur, he, _, hh, _⟩
  · cases h2
  · injection he with ha _ _
    injection ha with ha
    injection ha with hg
    subst hg
    simp [World.frozen?, hh]
theorem keeps_setCells (g : Nat) : ∀ (vs : List Value) (o : Nat) (W : World), KeepsOthers W (W.setCells g o vs)
  | [], _, W => KeepsOthers.refl W
  | v :: r, o, W => (KeepsOthers.setCell W ⟨g, o, none⟩ v).trans (keeps_setCells g r (o + 1) _)
/-- A piece of an own row is written. -/
theorem own_setCells {w : World} {base : Nat} {e : TypeId} {n g cap p : Nat} {xs vs : List Value} (h : w.ownsRow base e 1 (.slice (some ⟨g, 0, none⟩) n cap) n xs) (hp : p + vs.length ≤ n) :
    (w.setCells g p vs).ownsRow base e 1 (.slice (some ⟨g, 0, none⟩) n cap) n (wr xs p vs) := by
  obtain ⟨h1, h2⟩ := h
  rw [Nat.mul_one] at h1
  refine ⟨by rw [wr_length (by omega), Nat.mul_one]; exact h1, ?_⟩
  rcases h2 with ⟨h2, _⟩ | ⟨g', cap', cur, he, hb, hh, hn, hm, hs, ht⟩
  · cases h2
  · injection he with ha _ hc
    injection ha with ha
    injection ha with hg
    subst hg; subst hc
    rw [Nat.mul_one] at hs ht
    obtain ⟨cur', k1, k2, k3⟩ := setCells_row vs p w cur hh (by omega)
    refine .inr ⟨g, cap, cur', rfl, hb, k1, hn, hm, by rw [k2]; omega, ?_⟩
    rw [k3, Nat.mul_one, wr, ← ht, List.take_take, Nat.min_eq_left (by omega), List.append_assoc, List.append_assoc]
    have hl : cur.toList.length = cap := by simpa using hs
    rw [List.take_append, List.take_of_length_le (by simp; omega)]
    congr 1
    rw [List.length_take, hl, Nat.min_eq_left (by omega), List.take_append, List.take_of_length_le (by omega)]
    congr 1
    rw [List.drop_take]
    congr 1
    omega
end Go.Proofs.Ytbojagkalbfenaa
