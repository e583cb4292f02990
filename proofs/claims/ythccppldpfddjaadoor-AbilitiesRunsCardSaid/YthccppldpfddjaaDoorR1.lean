/- Slices of pairs; what a call leaves as it was. -/
import Derived.Test.YthccppldpfddjaaDoorR0
import Derived.Test.YthccppldpfddjaaDoorM2
namespace Go.Proofs.YthccppldpfddjaaDoor
open Go.RowKit
def pcells (l : List Rg) : List Value := l.flatMap fun p => [.int .i64 p.1, .int .i64 p.2]
theorem pcells_len (l : List Rg) : (pcells l).length = l.length * 2 := by
  induction l with
  | nil => rfl
  | cons p l ih => simp only [pcells, List.flatMap_cons, List.length_append, List.length_cons, List.length_nil] at ih ⊢; rw [ih]; omega
theorem pcells_get (l : List Rg) (i : Nat) (h : i < l.length) : (pcells l)[i * 2]? = some (.int .i64 (l.getD i (0, 0)).1) ∧ (pcells l)[i * 2 + 1]? = some (.int .i64 (l.getD i (0, 0)).2) := by
  induction l generalizing i with
  | nil => simp at h
  | cons p l ih =>
    cases i with
    | zero => simp [pcells]
    | succ i =>
      have := ih i (by simpa using h)
      simp only [pcells, List.flatMap_cons] at this ⊢
      rw [show (i + 1) * 2 = (i * 2) + 2 by omega, show (i * 2) + 2 + 1 = (i * 2 + 1) + 2 by omega]
      simpa using this
theorem pcells_append (a b : List Rg) : pcells (a ++ b) = pcells a ++ pcells b := by simp [pcells]
theorem pcells_one (l : List Rg) : ∀ u ∈ pcells l, u.oneCell' = true := by
  intro u hu
  simp only [pcells, List.mem_flatMap] at hu
  obtain ⟨p, -, hp⟩ := hu
  simp at hp
  rcases hp with rfl | rfl <;> rfl
theorem pcells_take (l : List Rg) (k : Nat) : pcells (l.take k) = (pcells l).take (k * 2) := by
  rcases Nat.lt_or_ge l.length k with h | h
  · rw [List.take_of_length_le (by omega), List.take_of_length_le (by rw [pcells_len]; omega)]
  · have e : pcells l = pcells (l.take k) ++ pcells (l.drop k) := by rw [← pcells_append, List.take_append_drop]
    have e2 : k * 2 = (pcells (l.take k)).length := by rw [pcells_len, List.length_take, Nat.min_eq_left h]
    rw [e, e2, List.take_left]
theorem pcells_drop (l : List Rg) (k : Nat) : pcells (l.drop k) = (pcells l).drop (k * 2) := by
  rcases Nat.lt_or_ge l.length k with h | h
  · rw [List.drop_of_length_le (by omega), List.drop_of_length_le (by rw [pcells_len]; omega)]; rfl
  · have e : pcells l = pcells (l.take k) ++ pcells (l.drop k) := by rw [← pcells_append, List.take_append_drop]
    have e2 : k * 2 = (pcells (l.take k)).length := by rw [pcells_len, List.length_take, Nat.min_eq_left h]
    rw [e, e2, List.drop_left]
/-- A slice of pairs. -/
def Ls (w : World) (e : TypeId) (v : Value) (l : List Rg) : Prop := Rw w e 2 v l.length (pcells l)
theorem ls_nil (w : World) (e : TypeId) : Ls w e (.slice none 0 0) [] := rw_nil w e 2

def oty : Obj → Option TypeId
  | .cells _ e _ => some e
  | _ => none
/-- What a call leaves as it was: all below `base`, and all blocks whose elements are of no type of T. -/
structure Fr (base : Nat) (T : List TypeId) (w w' : World) : Prop where
  bel : Below base w w'
  oth : ∀ (k : Nat) (o : Obj), w.heap[k]? = some o → (∀ e, oty o = some e → e ∉ T) → w'.heap[k]? = some o
theorem Fr.refl (base : Nat) (T : List TypeId) (w : World) : Fr base T w w := ⟨Below.refl _ _, fun _ _ h _ => h⟩
theorem Fr.trans {base : Nat} {T : List TypeId} {a b c : World} (h : Fr base T a b) (k : Fr base T b c) : Fr base T a c :=
  ⟨h.bel.trans k.bel, fun i o hi ho => k.oth i o (h.oth i o hi ho) ho⟩
theorem Fr.of_below {base : Nat} {T : List TypeId} {w w' : World} (h : Below w.heap.size w w') (hb : base ≤ w.heap.size) : Fr base T w w' :=
  ⟨h.mono hb, fun k o hk _ => by rw [h.block k (Array.getElem?_eq_some_iff.1 hk).1]; exact hk⟩
theorem Fr.mono {base base' : Nat} {T T' : List TypeId} {w w' : World} (h : Fr base T w w') (hb : base' ≤ base) (hT : ∀ e ∈ T, e ∈ T') : Fr base' T' w w' :=
  ⟨h.bel.mono hb, fun k o hk ho => h.oth k o hk (fun e he hm => ho e he (hT e hm))⟩
theorem Fr.size {base : Nat} {T : List TypeId} {w w' : World} (h : Fr base T w w') : w.heap.size ≤ w'.heap.size := h.bel.size
theorem Fr.setCell {base : Nat} {T : List TypeId} {w : World} {a : Addr} {u : Value} (hb : base ≤ a.block) (ht : ∀ o, w.heap[a.block]? = some o → ∃ e, oty o = some e ∧ e ∈ T) : Fr base T w (w.setCell a u) := by
  refine ⟨(Below.refl _ _).setCell hb u, fun k o hk ho => ?_⟩
  have hne : k ≠ a.block := by
    rintro rfl
    obtain ⟨e, he, hm⟩ := ht o hk
    exact ho e he hm
  rw [Below.heap_setCell _ _ _ _ hne]
  exact hk
theorem Fr.grown {base : Nat} {T : List TypeId} {w w' : World} {row : Option Nat} (hg : w.grownBy w' row) (hb : base ≤ w.heap.size) (hr : ∀ k, row = some k → base ≤ k ∧ ∀ o, w.heap[k]? = some o → ∃ e, oty o = some e ∧ e ∈ T) : Fr base T w w' := by
  refine ⟨(Below.refl _ _).grown hg hb (fun k hk => (hr k hk).1), fun k o hk ho => ?_⟩
  have hne : some k ≠ row := by
    intro h
    obtain ⟨e, he, hm⟩ := (hr k h.symm).2 o hk
    exact ho e he hm
  rw [hg.block k (Array.getElem?_eq_some_iff.1 hk).1 hne]
  exact hk
theorem Fr.of_heap {base : Nat} {T : List TypeId} {w w' : World} (h : w'.heap = w.heap) (h1 : w'.os = w.os) (h2 : w'.tape = w.tape) (h3 : w'.output = w.output) : Fr base T w w' :=
  ⟨⟨h1, h2, h3, by rw [h]; exact Nat.le_refl _, fun k _ => by rw [h]⟩, fun k o hk _ => by rw [h]; exact hk⟩

end Go.Proofs.YthccppldpfddjaaDoor
