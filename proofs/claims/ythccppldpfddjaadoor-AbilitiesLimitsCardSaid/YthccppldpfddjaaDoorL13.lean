/- Acts on limits, as they come in. -/
import Derived.Test.YthccppldpfddjaaDoorqL
import Derived.Test.YthccppldpfddjaaDoorE1
namespace Go.Proofs.YthccppldpfddjaaDoor
open Go.RowKit
set_option linter.unusedVariables false
structure ActL where
  kind : Int
  priv : Bool
  root : Int
  a : Int
  b : Int
def acells (l : List ActL) : List Value := l.flatMap fun o => [.int .u8 o.kind, .bool o.priv, .int .i64 o.root, .int .i64 o.a, .int .i64 o.b]
theorem acells_len (l : List ActL) : (acells l).length = l.length * 5 := by
  induction l with
  | nil => rfl
  | cons p l ih => simp only [acells, List.flatMap_cons, List.length_append, List.length_cons, List.length_nil] at ih ⊢; rw [ih]; omega
theorem acells_append (a b : List ActL) : acells (a ++ b) = acells a ++ acells b := by simp [acells]
theorem acells_one (l : List ActL) : ∀ u ∈ acells l, u.oneCell' = true := by
  intro u hu
  simp only [acells, List.mem_flatMap] at hu
  obtain ⟨p, -, hp⟩ := hu
  simp at hp
  rcases hp with rfl | rfl | rfl | rfl | rfl <;> rfl
theorem acells_get (l : List ActL) (i : Nat) (h : i < l.length) : (acells l)[i * 5]? = some (.int .u8 l[i].kind) ∧ (acells l)[i * 5 + 1]? = some (.bool l[i].priv) ∧ (acells l)[i * 5 + 2]? = some (.int .i64 l[i].root) ∧ (acells l)[i * 5 + 3]? = some (.int .i64 l[i].a) ∧ (acells l)[i * 5 + 4]? = some (.int .i64 l[i].b) := by
  induction l generalizing i with
  | nil => simp at h
  | cons p l ih =>
    cases i with
    | zero => simp [acells]
    | succ i =>
      have := ih i (by simpa using h)
      simp only [acells, List.flatMap_cons] at this ⊢
      rw [show (i + 1) * 5 = (i * 5) + 5 by omega, show (i * 5) + 5 + 1 = (i * 5 + 1) + 5 by omega, show (i * 5) + 5 + 2 = (i * 5 + 2) + 5 by omega, show (i * 5) + 5 + 3 = (i * 5 + 3) + 5 by omega, show (i * 5) + 5 + 4 = (i * 5 + 4) + 5 by omega]
      simpa using this
/-- A slice of acts on limits, wherever it lies. -/
def Acts (w : World) (v : Value) (l : List ActL) : Prop := ∃ A cap, v = .slice A l.length cap ∧ ∀ j u, (acells l)[j]? = some u → ∃ b off, A = some ⟨b, off, none⟩ ∧ w.cell? ⟨b, off + j, none⟩ = some u
theorem Acts.below {w w' : World} {v : Value} {l : List ActL} (h : Acts w v l) (hb : Below w.heap.size w w') : Acts w' v l := by
  obtain ⟨A, cap, rfl, hc⟩ := h
  refine ⟨A, cap, rfl, fun j u hj => ?_⟩
  obtain ⟨b, off, rfl, h1⟩ := hc j u hj
  have hlt : b < w.heap.size := World.block_lt_of_cell? w _ h1
  exact ⟨b, off, rfl, (Below.cell hb (p := ⟨b, off + j, none⟩) hlt).trans h1⟩
theorem Acts.at {w : World} {v : Value} {l : List ActL} (h : Acts w v l) {A : Option Addr} {n c : Nat} (hv : v = .slice A n c) {k : Nat} (hk : k < l.length) :
    ∃ g off, A = some ⟨g, off, none⟩ ∧ w.cell? ⟨g, off + k * 5, none⟩ = some (.int .u8 l[k].kind) ∧ w.cell? ⟨g, off + k * 5 + 1, none⟩ = some (.bool l[k].priv) ∧ w.cell? ⟨g, off + k * 5 + 2, none⟩ = some (.int .i64 l[k].root) ∧ w.cell? ⟨g, off + k * 5 + 3, none⟩ = some (.int .i64 l[k].a) ∧ w.cell? ⟨g, off + k * 5 + 4, none⟩ = some (.int .i64 l[k].b) := by
  subst hv
  obtain ⟨A', cap, hv, hc⟩ := h
  cases hv
  obtain ⟨p1, p2, p3, p4, p5⟩ := acells_get l k hk
  obtain ⟨g, off, rfl, h1⟩ := hc _ _ p1
  obtain ⟨g2, off2, e2, h2⟩ := hc _ _ p2
  obtain ⟨g3, off3, e3, h3⟩ := hc _ _ p3
  obtain ⟨g4, off4, e4, h4⟩ := hc _ _ p4
  obtain ⟨g5, off5, e5, h5⟩ := hc _ _ p5
  cases e2; cases e3; cases e4; cases e5
  exact ⟨g, off, rfl, h1, h2, h3, h4, h5⟩
end Go.Proofs.YthccppldpfddjaaDoor
