import Derived.Test.YtmmhflpeapojgaaE3
import Derived.Deep.WholeRow
namespace Go.Proofs.Ytmmhflpeapojgaa
set_option linter.unusedVariables false
set_option linter.unusedSimpArgs false
open Go.RowKit Ieee
attribute [local go_sem] ints_get ints_size ints_getElem

/-- The number of a sample. -/
def nm (l : List Nat) (i : Nat) : Int := smpN (l.getD i 0)
/-- A block's numbers. -/
def blk (l : List Nat) (b : Nat) : List (Int × Int) := [(nm l (4 * b), 0), (nm l (4 * b + 1), 0), (nm l (4 * b + 2), 0), (nm l (4 * b + 3), 0)]
def sq (p : Int × Int) : Int := p.1 * p.1 + p.2 * p.2
abbrev fmtD : Format := FloatKind.f64.format
def fd (l : List Nat) : List Value := l.map (fun x => Value.float .f64 x)
def pwF (l : List Nat) (b k : Nat) : Nat := F fmtD (sq (pre (blk l b) k 4))
/-- A block's powers. -/
def pw (l : List Nat) (b : Nat) : List Nat := [pwF l b 0, pwF l b 1, pwF l b 2, pwF l b 3]
def pwK (l : List Nat) (n : Nat) : List Value := (List.range n).flatMap (fun b => fd (pw l b))
theorem pwK_succ (l : List Nat) (n : Nat) : pwK l (n + 1) = pwK l n ++ fd (pw l n) := by simp [pwK, List.range_succ]
theorem pwK_len (l : List Nat) (n : Nat) : (pwK l n).length = 4 * n := by
  induction n with
  | zero => rfl
  | succ n ih => rw [pwK_succ, List.length_append, ih]; simp [fd, pw]; omega
def np (l : List Nat) : Nat := if scode l = 0 then l.length / 4 else 0
def PPost (l : List Nat) (w : World) (e : Ending) (w' : World) : Prop :=
  ∃ v, e = .returned (.tuple #[v, .int .i64 (scode l)]) ∧ w'.ownsRow w.heap.size 44 4 v (np l) (pwK l (np l)) ∧ Below w.heap.size w w'
theorem info44 : (Try.prog.info? 44).map (fun i => (i.zero, i.size, i.bytes)) = some (some (.agg #[.float .f64 0, .float .f64 0, .float .f64 0, .float .f64 0]), 4, 32) := by kernel_rfl
theorem sqr_bound {a : Int} (h : -40000 ≤ a ∧ a ≤ 40000) : 0 ≤ a * a ∧ a * a ≤ 1600000000 := by
  have h1 : a.natAbs ≤ 40000 := by omega
  have h2 := Nat.mul_le_mul h1 h1
  have h3 := Int.natAbs_mul_self (a := a)
  omega
theorem px_set1 (l : List (Int × Int)) (a : Int) (k : Nat) (hk : k < l.length) : (px l).setIfInBounds (k * 2) (.int .i64 a) = px (l.set k (a, (l.getD k (0, 0)).2)) := by
  apply Array.ext'
  simp only [px, List.setIfInBounds_toArray]
  induction l generalizing k with
  | nil => simp at hk
  | cons q l ih =>
    cases k with
    | zero => simp
    | succ k =>
      have := ih k (by simpa using hk)
      rw [show (k + 1) * 2 = k * 2 + 1 + 1 by omega]
      simpa using this
/-- The numbers before n. -/
def inL (f : Nat → Int) (n : Nat) : List (Int × Int) := (List.range 4).map fun j => if j < n then (f j, 0) else (0, 0)
theorem inL_set (f : Nat → Int) : ∀ n, n < 4 → (inL f n).set n (f n, ((inL f n).getD n (0, 0)).2) = inL f (n + 1)
  | 0, _ => rfl
  | 1, _ => rfl
  | 2, _ => rfl
  | 3, _ => rfl
theorem inL_len (f : Nat → Int) (n : Nat) : (inL f n).length = 4 := by simp [inL]
theorem inL_fin (l : List Nat) (b : Nat) : inL (fun j => nm l (4 * b + j)) 4 = blk l b := rfl
/-- The world while a block is read. -/
def IN (w0 : World) (os : List (Int × Int)) (wx : World) : Prop := Below w0.heap.size w0 wx ∧ wx.heap[w0.heap.size]? = some (.cells (px os) 73 (0, 0))
theorem IN.put {w0 wx : World} {os : List (Int × Int)} (h : IN w0 os wx) {k : Nat} (hk : k < os.length) (a : Int) : IN w0 (os.set k (a, (os.getD k (0, 0)).2)) (wx.setCell ⟨w0.heap.size, k * 2, none⟩ (.int .i64 a)) := by
  refine ⟨h.1.setCell (by simp) _, ?_⟩
  rw [← px_set1 _ _ _ hk]
  simp [World.setCell, Array.getElem?_modify, h.2]
theorem IN.cell {w0 wx : World} {os : List (Int × Int)} (h : IN w0 os wx) {k : Nat} (hk : k < os.length) : wx.cell? ⟨w0.heap.size, k * 2, none⟩ = some (.int .i64 (os.getD k (0, 0)).1) := by
  rw [cell_of_row _ _ _ _ _ _ h.2, (px_get os k hk).1]
theorem IN.frozen {w0 wx : World} {os : List (Int × Int)} (h : IN w0 os wx) (k : Nat) : wx.frozen? ⟨w0.heap.size, k, none⟩ = false := by simp [World.frozen?, h.2]
/-- The world while a block's powers are laid. -/
def QN (w1 : World) (ys : List (Int × Int)) (fs : List Nat) (wx : World) : Prop :=
  Below w1.heap.size w1 wx ∧ wx.heap[w1.heap.size]? = some (.cells (px ys) 73 (0, 0)) ∧ wx.heap[w1.heap.size + 1]? = some (.cells (fd fs).toArray 44 (0, 0))
theorem fd_set (fs : List Nat) (k x : Nat) : (fd fs).toArray.setIfInBounds k (.float .f64 x) = (fd (fs.set k x)).toArray := by simp [fd, List.map_set]
theorem QN.put {w1 wx : World} {ys : List (Int × Int)} {fs : List Nat} (h : QN w1 ys fs wx) (k x : Nat) : QN w1 ys (fs.set k x) (wx.setCell ⟨w1.heap.size + 1, k, none⟩ (.float .f64 x)) := by
  refine ⟨h.1.setCell (by simp) _, ?_, ?_⟩
  · rw [Below.heap_setCell _ _ _ _ (by simp)]; exact h.2.1
  · rw [← fd_set]
    simp [World.setCell, Array.getElem?_modify, h.2.2]
theorem QN.drew {w1 wx : World} {ys : List (Int × Int)} {fs : List Nat} (h : QN w1 ys fs wx) : QN w1 ys fs wx.drew := ⟨h.1.drew, h.2.1, h.2.2⟩
theorem QN.cell {w1 wx : World} {ys : List (Int × Int)} {fs : List Nat} (h : QN w1 ys fs wx) {k : Nat} (hk : k < ys.length) : wx.cell? ⟨w1.heap.size, k * 2, none⟩ = some (.int .i64 (ys.getD k (0, 0)).1) ∧ wx.cell? ⟨w1.heap.size, k * 2 + 1, none⟩ = some (.int .i64 (ys.getD k (0, 0)).2) := by
  constructor <;> rw [cell_of_row _ _ _ _ _ _ h.2.1]
  · exact (px_get ys k hk).1
  · exact (px_get ys k hk).2
theorem QN.fcell {w1 wx : World} {ys : List (Int × Int)} {fs : List Nat} (h : QN w1 ys fs wx) {k : Nat} (hk : k < fs.length) : wx.cell? ⟨w1.heap.size + 1, k, none⟩ = some (.float .f64 (fs.getD k 0)) ∧ wx.frozen? ⟨w1.heap.size + 1, k, none⟩ = false := by
  constructor
  · rw [cell_of_row _ _ _ _ _ _ h.2.2]; simp [fd, List.getElem?_eq_getElem hk, List.getD_eq_getElem?_getD]
  · simp [World.frozen?, h.2.2]
/-- The powers before n. -/
def fsL (f : Nat → Nat) (n : Nat) : List Nat := (List.range 4).map fun j => if j < n then f j else 0
theorem fsL_set (f : Nat → Nat) : ∀ n, n < 4 → (fsL f n).set n (f n) = fsL f (n + 1)
  | 0, _ => rfl
  | 1, _ => rfl
  | 2, _ => rfl
  | 3, _ => rfl
theorem fsL_len (f : Nat → Nat) (n : Nat) : (fsL f n).length = 4 := by simp [fsL]
theorem fsL_four (f : Nat → Nat) : fsL f 4 = [f 0, f 1, f 2, f 3] := rfl
theorem fsL_fin (l : List Nat) (b : Nat) : fsL (fun k => pwF l b k) 4 = pw l b := by rw [fsL_four]; unfold pw; with_reducible rfl
theorem nm_bound {l : List Nat} (ha : l.all sampleB = true) (i : Nat) (hi : i < l.length) : -2048 ≤ nm l i ∧ nm l i ≤ 2047 := by
  have hm : l.getD i 0 ∈ l := by rw [List.getD_eq_getElem?_getD, List.getElem?_eq_getElem hi]; exact List.getElem_mem hi
  obtain ⟨-, h⟩ := sample_V (List.all_eq_true.1 ha _ hm)
  exact h
theorem blk_bound {l : List Nat} (ha : l.all sampleB = true) {b : Nat} (h : 4 * b + 4 ≤ l.length) : ∀ p ∈ blk l b, Bd 10000 p := by
  have h0 := nm_bound ha (4 * b) (by omega)
  have h1 := nm_bound ha (4 * b + 1) (by omega)
  have h2 := nm_bound ha (4 * b + 2) (by omega)
  have h3 := nm_bound ha (4 * b + 3) (by omega)
  intro p hp
  simp only [blk, List.mem_cons, List.not_mem_nil, or_false] at hp
  unfold Bd
  rcases hp with rfl | rfl | rfl | rfl <;> simp only <;> omega
def outI (ps : List (Int × Int)) : List (Int × Int) := (List.range 4).map fun k => pre ps k 4
theorem map4_get {α : Type} (g : Nat → α) (d : α) : ∀ k, k < 4 → ((List.range 4).map g).getD k d = g k
  | 0, _ => rfl
  | 1, _ => rfl
  | 2, _ => rfl
  | 3, _ => rfl
theorem outI_get (ps : List (Int × Int)) (k : Nat) (h : k < 4) : (outI ps).getD k (0, 0) = pre ps k 4 := map4_get _ _ k h
theorem outI_len (ps : List (Int × Int)) : (outI ps).length = 4 := by simp [outI]
set_option maxRecDepth 100000 in
theorem rpowers_bad (A : Option Addr) (c : Nat) (l : List Nat) (w : World) (hl : l.length ≤ 9223372036854775807) (hC : FC w A l) (h1 : scode l ≠ 0) :
    Calls Try.prog 13 #[.slice A l.length c] w fun e w' => PPost l w e w' := by
  have HC := Lib.hid hC
  have HN : Hid (np l = 0) := Lib.hid (by unfold np; rw [if_neg h1])
  clear hC
  generalize hs : scode l = s at *
  have HS := Lib.hid hs
  clear hs
  have hn : (s != 0) = true := by simpa using h1
  go_enter Try.func13, Try.ntmps13
  go_wp2_with (go_at_call 19; refine (rsamples_calls A c l _ hl HC.out).mono ?_; rw [HS.out]; rintro e w' ⟨rfl, rfl⟩)
  go_ret2
  exact ⟨_, by rw [HS.out]; rfl, by rw [HN.out]; exact ⟨rfl, .inl ⟨rfl, rfl⟩⟩, Below.refl _ _⟩
end Go.Proofs.Ytmmhflpeapojgaa
