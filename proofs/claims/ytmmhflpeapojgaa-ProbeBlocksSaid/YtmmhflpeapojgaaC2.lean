import Derived.Test.YtmmhflpeapojgaaC1
namespace Go.Proofs.Ytmmhflpeapojgaa
set_option linter.unusedVariables false
set_option linter.unusedSimpArgs false
open Go.RowKit Ieee
attribute [local go_sem] ints_get ints_size ints_getElem

/-- Float words in a row. -/
def fx (l : List Nat) : Array Value := (l.map fun x => Value.float .f32 x).toArray
@[simp] theorem fx_size (l : List Nat) : (fx l).size = l.length := by simp [fx]
theorem fx_get (l : List Nat) (i : Nat) : (fx l)[i]? = (l[i]?).map fun x => Value.float .f32 x := by simp [fx]
theorem fx_set (l : List Nat) (i : Nat) (x : Nat) : (fx l).setIfInBounds i (.float .f32 x) = fx (l.set i x) := by
  apply Array.ext'
  simp [fx, List.map_set]
theorem fx_one (l : List Nat) : (fx l).all (·.oneCell') = true := by simp [fx, Array.all_eq_true_iff_forall_mem, Value.oneCell']
def par (k n : Nat) : Bool := (k / 4 % 2 * (n / 4 % 2) + k / 2 % 2 * (n / 2 % 2) + k % 2 * (n % 2)) % 2 == 0
theorem pc_par' : ∀ k n : Fin 8, pc (k.1 &&& n.1) % 2 = if par k.1 n.1 = true then 0 else 1 := by decide +kernel
theorem pc_par {k n : Nat} (hk : k < 8) (hn : n < 8) : pc (k &&& n) % 2 = if par k n = true then 0 else 1 := pc_par' ⟨k, hk⟩ ⟨n, hn⟩
theorem pc_bound' : ∀ m : Fin 8, 0 ≤ pc m.1 ∧ pc m.1 ≤ 3 := by decide +kernel
theorem pc_bound {m : Nat} (h : m < 8) : 0 ≤ pc m ∧ pc m ≤ 3 := pc_bound' ⟨m, h⟩
theorem and_lt' : ∀ k n : Fin 8, k.1 &&& n.1 < 8 := by decide +kernel
theorem and_lt {k n : Nat} (hk : k < 8) (hn : n < 8) : k &&& n < 8 := and_lt' ⟨k, hk⟩ ⟨n, hn⟩
/-- The partial sums of the Walsh transform. -/
def walshN (ns : List Int) (k : Nat) : Nat → Int
  | 0 => 0
  | j + 1 => if par k j = true then walshN ns k j + ns.getD j 0 else walshN ns k j - ns.getD j 0
theorem walshN_bound {ns : List Int} (h : ∀ i, -2048 ≤ ns.getD i 0 ∧ ns.getD i 0 ≤ 2047) (k : Nat) : ∀ j : Nat, -(2048 * j : Int) ≤ walshN ns k j ∧ walshN ns k j ≤ 2048 * j
  | 0 => by simp [walshN]
  | j + 1 => by have := walshN_bound h k j; have := h j; simp only [walshN]; split <;> omega
def outW (xs : List Nat) : List Nat := (List.range 8).map fun k => F fmt (walshN (nums xs) k 8)
def zero8 : List Nat := [0, 0, 0, 0, 0, 0, 0, 0]
def wcode (xs : List Nat) : Int := if xs.all sampleB = true then 0 else 34
def wval (xs : List Nat) : List Nat := if xs.all sampleB = true then outW xs else zero8
theorem wval_len (xs : List Nat) : (wval xs).length = 8 := by unfold wval; split <;> rfl
/-- The state of the sums: those before k are done. -/
def OutsW (ns : List Int) (os : List Nat) (k : Nat) : Prop := os.length = 8 ∧ (∀ i, i < k → os[i]? = some (F fmt (walshN ns i 8))) ∧ ∀ i, k ≤ i → i < 8 → os[i]? = some 0
theorem OutsW.zero (ns : List Int) : OutsW ns zero8 0 := ⟨rfl, fun i h => absurd h (by omega), fun i _ h => by
  match i, h with
  | 0, _ => rfl
  | 1, _ => rfl
  | 2, _ => rfl
  | 3, _ => rfl
  | 4, _ => rfl
  | 5, _ => rfl
  | 6, _ => rfl
  | 7, _ => rfl⟩
theorem OutsW.get {ns : List Int} {os : List Nat} {k : Nat} (h : OutsW ns os k) (hk : k < 8) : os[k]? = some 0 := h.2.2 k (Nat.le_refl _) hk
theorem OutsW.done {ns : List Int} {os : List Nat} {k : Nat} (h : OutsW ns os k) (hk : k < 8) : OutsW ns (os.set k (F fmt (walshN ns k 8))) (k + 1) := by
  refine ⟨by rw [List.length_set]; exact h.1, fun i hi => ?_, fun i hi h4 => ?_⟩
  · rcases Nat.lt_or_ge i k with q | q
    · rw [List.getElem?_set_ne (by omega)]; exact h.2.1 i q
    · obtain rfl : i = k := by omega
      rw [List.getElem?_set_self (by rw [h.1]; omega)]
  · rw [List.getElem?_set_ne (by omega)]; exact h.2.2 i (by omega) h4
theorem OutsW.all {xs : List Nat} {os : List Nat} (h : OutsW (nums xs) os 8) : os = outW xs := by
  unfold outW
  apply List.ext_getElem?
  intro i
  rcases Nat.lt_or_ge i 8 with q | q
  · rw [h.2.1 i q]; simp [q]
  · rw [List.getElem?_eq_none (by rw [h.1]; omega)]; simp [q]
/-- The world within the loops. -/
def TW (w0 : World) (xs os : List Nat) (wr : World) : Prop :=
  Below w0.heap.size w0 wr ∧ wr.heap[w0.heap.size]? = some (.cells (fx xs) 48 (0, 0)) ∧ (∃ z : Array Value, wr.heap[w0.heap.size + 1]? = some (.cells z 48 (0, 0)) ∧ z.size = 8) ∧ wr.heap[w0.heap.size + 1 + 1]? = some (.cells (fx os) 48 (0, 0))
theorem TW.set {w0 wr : World} {xs os : List Nat} (h : TW w0 xs os wr) (k x : Nat) : TW w0 xs (os.set k x) (wr.setCell ⟨w0.heap.size + 1 + 1, k, none⟩ (.float .f32 x)) := by
  obtain ⟨h1, h2, ⟨z, h3, h4⟩, h5⟩ := h
  refine ⟨h1.setCell (by simp; omega) _, ?_, ⟨z, ?_, h4⟩, ?_⟩
  · rw [Below.heap_setCell _ _ _ _ (by simp; omega)]; exact h2
  · rw [Below.heap_setCell _ _ _ _ (by simp)]; exact h3
  · rw [← fx_set]
    exact heap_setCell_same _ _ _ _ _ _ h5
theorem TW.drew {w0 wr : World} {xs os : List Nat} (h : TW w0 xs os wr) : TW w0 xs os wr.drew := ⟨h.1.drew, h.2.1, h.2.2.1, h.2.2.2⟩
theorem TW.cell {w0 wr : World} {xs os : List Nat} (h : TW w0 xs os wr) {k x : Nat} (hk : os[k]? = some x) : wr.cell? ⟨w0.heap.size + 1 + 1, k, none⟩ = some (.float .f32 x) := by
  rw [cell_of_row _ _ _ _ _ _ h.2.2.2, fx_get, hk]; rfl
theorem TW.input {w0 wr : World} {xs os : List Nat} (h : TW w0 xs os wr) {k : Nat} (hk : k < xs.length) : wr.cell? ⟨w0.heap.size, k, none⟩ = some (.float .f32 (xs.getD k 0)) := by
  rw [cell_of_row _ _ _ _ _ _ h.2.1, fx_get, List.getD_eq_getElem?_getD, List.getElem?_eq_getElem hk]; rfl
theorem TW.frozen {w0 wr : World} {xs os : List Nat} (h : TW w0 xs os wr) (k : Nat) : wr.frozen? ⟨w0.heap.size + 1 + 1, k, none⟩ = false := by
  simp [World.frozen?, h.2.2.2]
theorem TW.start (w : World) (xs : List Nat) : TW w xs zero8 (((w.alloc (.cells (fx xs) 48)).alloc (.cells (fx zero8) 48)).alloc (.cells (fx zero8) 48)) := by
  obtain ⟨h1, h2, h3⟩ := heap3 w (.cells (fx xs) 48) (.cells (fx zero8) 48) (.cells (fx zero8) 48)
  exact ⟨(((Below.refl _ _).alloc (Nat.le_refl _) _).alloc (by simp) _).alloc (by simp; omega) _, h3, ⟨_, h1, rfl⟩, h2⟩
theorem fadd {x y r : Nat} (h : fmt.add x y = some r) (W : World) : (binOp .add 27 (.float .f32 x) (.float .f32 y)).run Try.prog W = .ok (.float .f32 r) W := run_float_arith W .add 27 .f32 x y r h
theorem fsub {x y r : Nat} (h : fmt.sub x y = some r) (W : World) : (binOp .sub 27 (.float .f32 x) (.float .f32 y)).run Try.prog W = .ok (.float .f32 r) W := run_float_arith W .sub 27 .f32 x y r h
end Go.Proofs.Ytmmhflpeapojgaa
