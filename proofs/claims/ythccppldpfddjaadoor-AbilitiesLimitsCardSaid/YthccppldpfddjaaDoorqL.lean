/- What the methods answer on nil. -/
import Derived.Test.YthccppldpfddjaaDoorD6
import Derived.Test.YthccppldpfddjaaDoorStp
namespace Go.Proofs.YthccppldpfddjaaDoor
open Go.RowKit
set_option linter.unusedVariables false
theorem nil59 (k : Int) (w : World) : Calls Tryd.prog 59 #[.pointer none, .int .i64 k] w fun e w' => e = .returned (.tuple #[.pointer none, .int .i64 35]) ∧ Below w.heap.size w w' := by
  go_enter Tryd.func59, Tryd.ntmps59
  go_wp2
  go_ret2
  exact ⟨rfl, Below.refl _ _⟩
theorem nil60 (k n : Int) (w : World) : Calls Tryd.prog 60 #[.pointer none, .int .i64 k, .int .i64 n] w fun e w' => e = .returned (.tuple #[.pointer none, .int .i64 35]) ∧ Below w.heap.size w w' := by
  go_enter Tryd.func60, Tryd.ntmps60
  go_wp2_with (go_at_call 59; refine (nil59 k w).mono ?_; rintro e w1 ⟨rfl, h1⟩; have H1 := Lib.hid h1; clear h1)
  go_ret2
  exact ⟨rfl, H1.out⟩
theorem nil27 (k n : Int) (w : World) : Calls Tryd.prog 27 #[.pointer none, .bool true, .int .i64 k, .int .i64 n, .int .i64 n] w fun e w' => e = .returned (.int .i64 35) ∧ Below w.heap.size w w' := by
  go_enter Tryd.func27, Tryd.ntmps27
  go_wp2_with (go_at_call 59; refine (nil59 k w).mono ?_; rintro e w1 ⟨rfl, h1⟩; have H1 := Lib.hid h1; clear h1)
  go_ret
  exact ⟨rfl, H1.out⟩
theorem nil29 (k n : Int) (w : World) : Calls Tryd.prog 29 #[.pointer none, .int .i64 k, .int .i64 n] w fun e w' => e = .returned (.int .i64 35) ∧ Below w.heap.size w w' := by
  go_enter Tryd.func29, Tryd.ntmps29
  go_wp2_with (go_at_call 60; refine (nil60 k n w).mono ?_; rintro e w1 ⟨rfl, h1⟩; have H1 := Lib.hid h1; clear h1)
  go_ret
  exact ⟨rfl, H1.out⟩
theorem nil31 (k n : Int) (w : World) : Calls Tryd.prog 31 #[.pointer none, .int .i64 k, .int .i64 n] w fun e w' => e = .returned (.int .i64 35) ∧ Below w.heap.size w w' := by
  go_enter Tryd.func31, Tryd.ntmps31
  go_wp2_with (go_at_call 60; refine (nil60 k n w).mono ?_; rintro e w1 ⟨rfl, h1⟩; have H1 := Lib.hid h1; clear h1)
  go_ret
  exact ⟨rfl, H1.out⟩
theorem nil33 (w : World) : Calls Tryd.prog 33 #[.pointer none] w fun e w' => e = .returned (.pointer none) ∧ Below w.heap.size w w' := by
  go_enter Tryd.func33, Tryd.ntmps33
  go_wp2
  go_ret
  exact ⟨rfl, Below.refl _ _⟩
theorem nil35 (k : Int) (w : World) : Calls Tryd.prog 35 #[.pointer none, .int .i64 k] w fun e w' => e = .returned (.tuple #[.int .i64 0, .int .i64 0, .int .i64 0, .int .i64 35]) ∧ Below w.heap.size w w' := by
  go_enter Tryd.func35, Tryd.ntmps35
  go_wp2_with (go_at_call 59; refine (nil59 k w).mono ?_; rintro e w1 ⟨rfl, h1⟩; have H1 := Lib.hid h1; clear h1)
  refine bodyPost_ret (v := .tuple #[.int .i64 0, .int .i64 0, .int .i64 0, .int .i64 35]) ?_ rfl ⟨rfl, H1.out⟩
  have hr : Tryd.f35.results = #[.tmp 4, .tmp 5, .tmp 6, .tmp 7] := rfl
  simp [results, hr]
theorem nil11 (v : Value) (w : World) : Calls Tryd.prog 11 #[.pointer none, v] w fun e w' => e = .returned (.int .i64 35) ∧ Below w.heap.size w w' := by
  go_enter Tryd.func11, Tryd.ntmps11
  go_wp2
  go_ret
  exact ⟨rfl, Below.refl _ _⟩
theorem nil13 (w : World) : Calls Tryd.prog 13 #[.pointer none] w fun e w' => e = .returned (.string ⟨#[]⟩) ∧ Below w.heap.size w w' := by
  go_enter Tryd.func13, Tryd.ntmps13
  go_wp2
  go_ret
  exact ⟨rfl, Below.refl _ _⟩
theorem nil48 (v : Value) (hv : ∃ f, v = .func (.func f) #[] #[]) (w : World) : Calls Tryd.prog 48 #[.pointer none, v] w fun e w' => e = .returned (.pointer none) ∧ Below w.heap.size w w' := by
  obtain ⟨f, rfl⟩ := hv
  go_enter Tryd.func48, Tryd.ntmps48
  go_wp2
  go_ret
  exact ⟨rfl, (Below.refl _ _).alloc (Nat.le_refl _) _⟩
theorem nil15 (w : World) : Calls Tryd.prog 15 #[.pointer none] w fun e w' => e = .returned (.pointer none) ∧ Below w.heap.size w w' := by
  go_enter Tryd.func15, Tryd.ntmps15
  go_wp2_with (go_at_call 48; refine (nil48 _ ⟨49, rfl⟩ w).mono ?_; rintro e w1 ⟨rfl, h1⟩; have H1 := Lib.hid h1; clear h1)
  go_ret
  exact ⟨rfl, H1.out⟩
theorem nil22 (w : World) : Calls Tryd.prog 22 #[.pointer none] w fun e w' => e = .returned (.pointer none) ∧ Below w.heap.size w w' := by
  go_enter Tryd.func22, Tryd.ntmps22
  go_wp2_with (go_at_call 48; refine (nil48 _ ⟨58, rfl⟩ w).mono ?_; rintro e w1 ⟨rfl, h1⟩; have H1 := Lib.hid h1; clear h1)
  go_ret
  exact ⟨rfl, H1.out⟩
theorem nil20 (d a n : Int) (w : World) : Calls Tryd.prog 20 #[.pointer none, .int .i64 d, .int .i64 a, .int .i64 n] w fun e w' => e = .returned (.bool false) ∧ Below w.heap.size w w' := by
  go_enter Tryd.func20, Tryd.ntmps20
  go_wp2
  go_ret
  exact ⟨rfl, (Below.refl _ _).alloc (Nat.le_refl _) _⟩
theorem nil18 (w : World) : Calls Tryd.prog 18 #[.pointer none, .pointer none] w fun e w' => e = .returned (.bool false) ∧ Below w.heap.size w w' := by
  have h1 : ((w.alloc (.cells #[.pointer none] 24)).alloc (.cells #[.bool false] 4)).heap[w.heap.size + 1]? = some (.cells #[.bool false] 4 (0, 0)) := by
    have := heap_alloc_new (w.alloc (.cells #[.pointer none] 24)) (.cells #[.bool false] 4)
    simpa using this
  have HB := Lib.hid (And.intro h1 (((Below.refl w.heap.size w).alloc (Nat.le_refl _) (.cells #[.pointer none] 24)).alloc (by simp) (.cells #[.bool false] 4)))
  clear h1
  go_enter Tryd.func18, Tryd.ntmps18
  go_wp2
  refine bodyPost_ret (results_cell1 rfl _ _ _ ⟨w.heap.size + 1, 0, none⟩ (.bool false) _ rfl (by rw [cell_of_row _ _ _ _ _ _ HB.out.1]; rfl) Tryd.underlying4 rfl) rfl ?_
  exact ⟨rfl, HB.out.2⟩
theorem nil14 (d a : Int) (w : World) : Calls Tryd.prog 14 #[.pointer none, .int .i64 d, .int .i64 a] w fun e w' => e = .returned (.tuple #[.agg #[.slice none 0 0, .bool false, .bool false], .int .i64 35]) ∧ Below w.heap.size w w' := by
  have h1 := heap_alloc_new w (.cells #[.slice none 0 0, .bool false, .bool false] 38)
  have HB := Lib.hid (And.intro h1 ((Below.refl w.heap.size w).alloc (Nat.le_refl _) (.cells #[.slice none 0 0, .bool false, .bool false] 38)))
  clear h1
  go_enter Tryd.func14, Tryd.ntmps14
  go_wp2
  refine bodyPost_ret (v := .tuple #[.agg #[.slice none 0 0, .bool false, .bool false], .int .i64 35]) ?_ rfl ⟨rfl, HB.out.2⟩
  rw [results_cell_tmp rfl]
  have hl := run_loadVar_row (P := Tryd.prog) _ w.heap.size 38 38 _ (0, 0) _ HB.out.1 Tryd.underlying38 rfl size38
  simp [asAddr, hl, Result.andThen]
end Go.Proofs.YthccppldpfddjaaDoor
namespace Go.Proofs.YthccppldpfddjaaDoor
open Go.RowKit
set_option linter.unusedVariables false
/-- A limit: soft, hard, used. -/
structure Lm where
  soft : Int
  hard : Int
  used : Int
abbrev Lims := Nat → Lm
def Lims0 : Lims := fun _ => ⟨1099511627776, 1099511627776, 0⟩
def badKind (k : Int) : Bool := decide (k < 0) || decide (8 ≤ k)
/-- Set: the error's number and the limits behind it. -/
def setC (L : Lims) (priv : Bool) (k s h : Int) : Int :=
  if k < 0 ∨ 8 ≤ k then 34 else if s < 0 ∨ h < s ∨ 1099511627776 < h then 34 else if (L k.toNat).hard < h ∧ priv = false then 32 else 0
def setL (L : Lims) (priv : Bool) (k s h : Int) : Lims := if setC L priv k s h = 0 then upd L k.toNat { L k.toNat with soft := s, hard := h } else L
def useC (L : Lims) (k n : Int) : Int :=
  if k < 0 ∨ 8 ≤ k then 34 else if n < 0 ∨ 1099511627776 < n then 34 else if 0 < n ∧ (L k.toNat).soft < (L k.toNat).used + n then 18 else 0
def useL (L : Lims) (k n : Int) : Lims := if useC L k n = 0 then upd L k.toNat { L k.toNat with used := (L k.toNat).used + n } else L
def relC (L : Lims) (k n : Int) : Int :=
  if k < 0 ∨ 8 ≤ k then 34 else if n < 0 ∨ 1099511627776 < n then 34 else if (L k.toNat).used < n then 14 else 0
def relL (L : Lims) (k n : Int) : Lims := if relC L k n = 0 then upd L k.toNat { L k.toNat with used := (L k.toNat).used - n } else L
def childL (L : Lims) : Lims := fun i => { L i with used := 0 }
/-- No sum leaves the machine's words. -/
def LimOk (L : Lims) : Prop := ∀ i, 0 ≤ (L i).used ∧ (L i).used ≤ 2199023255552 ∧ 0 ≤ (L i).soft ∧ (L i).soft ≤ (L i).hard ∧ (L i).hard ≤ 1099511627776
def lcell (L : Lims) (j : Nat) : Value := if j % 3 = 0 then .int .i64 (L (j / 3)).soft else if j % 3 = 1 then .int .i64 (L (j / 3)).hard else .int .i64 (L (j / 3)).used
def rcellL (L : Lims) (j : Nat) : Value := if j < 8 then .int .i64 (L j).soft else if j < 16 then .int .i64 (L (j - 8)).hard else .int .i64 (L (j - 16)).used
/-- The program's block of limits, and the reference's. -/
def PL (w : World) (b : Nat) (L : Lims) : Prop := ∃ cs, w.heap[b]? = some (.cells cs 122 (0, 0)) ∧ cs.size = 24 ∧ ∀ j, j < 24 → cs[j]? = some (lcell L j)
def RL (w : World) (b : Nat) (L : Lims) : Prop := ∃ cs, w.heap[b]? = some (.cells cs 70 (0, 0)) ∧ cs.size = 24 ∧ ∀ j, j < 24 → cs[j]? = some (rcellL L j)
theorem PL.lt {w : World} {b : Nat} {L : Lims} (h : PL w b L) : b < w.heap.size := by
  obtain ⟨cs, h1, -⟩ := h
  exact (Array.getElem?_eq_some_iff.1 h1).1
theorem PL.keep {w w' : World} {b : Nat} {L : Lims} (h : PL w b L) (hk : w'.heap[b]? = w.heap[b]?) : PL w' b L := by
  obtain ⟨cs, h1, h2⟩ := h
  exact ⟨cs, hk.trans h1, h2⟩
theorem PL.three {w : World} {b : Nat} {L : Lims} (h : PL w b L) {i : Nat} (hi : i < 8) : w.cell? ⟨b, i * 3, none⟩ = some (.int .i64 (L i).soft) ∧ w.cell? ⟨b, i * 3 + 1, none⟩ = some (.int .i64 (L i).hard) ∧ w.cell? ⟨b, i * 3 + 2, none⟩ = some (.int .i64 (L i).used) := by
  obtain ⟨cs, h1, h2, h3⟩ := h
  refine ⟨?_, ?_, ?_⟩ <;> rw [cell_of_row _ _ _ _ _ _ h1]
  · rw [h3 _ (by omega)]; unfold lcell; rw [if_pos (by omega), show i * 3 / 3 = i by omega]
  · rw [h3 _ (by omega)]; unfold lcell; rw [if_neg (by omega), if_pos (by omega), show (i * 3 + 1) / 3 = i by omega]
  · rw [h3 _ (by omega)]; unfold lcell; rw [if_neg (by omega), if_neg (by omega), show (i * 3 + 2) / 3 = i by omega]
theorem PL.frozen {w : World} {b : Nat} {L : Lims} (h : PL w b L) (j : Nat) : w.frozen? ⟨b, j, none⟩ = false := by
  obtain ⟨cs, h1, -⟩ := h
  exact frozen_of_row w b j _ _ h1
end Go.Proofs.YthccppldpfddjaaDoor
namespace Go.Proofs.YthccppldpfddjaaDoor
open Go.RowKit
set_option linter.unusedVariables false
theorem lcell_upd (L : Lims) (i : Nat) (m : Lm) (j : Nat) : lcell (upd L i m) j = if j = i * 3 then .int .i64 m.soft else if j = i * 3 + 1 then .int .i64 m.hard else if j = i * 3 + 2 then .int .i64 m.used else lcell L j := by
  unfold lcell
  by_cases h : j / 3 = i
  · rw [h, upd_same]
    rcases (by omega : j = i * 3 ∨ j = i * 3 + 1 ∨ j = i * 3 + 2) with h | h | h
    · rw [if_pos (by omega), if_pos h]
    · rw [if_neg (by omega), if_pos (by omega), if_neg (by omega), if_pos h]
    · rw [if_neg (by omega), if_neg (by omega), if_neg (by omega), if_neg (by omega), if_pos h]
  · rw [upd_other _ _ h, if_neg (show ¬ j = i * 3 by omega), if_neg (show ¬ j = i * 3 + 1 by omega), if_neg (show ¬ j = i * 3 + 2 by omega)]
/-- The used amount of limit i is written. -/
theorem PL.used {w : World} {b : Nat} {L : Lims} (h : PL w b L) {i : Nat} (hi : i < 8) (u : Int) : PL (w.setCell ⟨b, i * 3 + 2, none⟩ (.int .i64 u)) b (upd L i { L i with used := u }) := by
  obtain ⟨cs, h1, h2, h3⟩ := h
  refine ⟨_, heap_setCell_same _ _ _ _ _ _ h1, by simpa using h2, fun j hj => ?_⟩
  rw [lcell_upd]
  simp only [Array.getElem?_setIfInBounds]
  by_cases e2 : j = i * 3 + 2
  · subst e2; simp; omega
  · rw [if_neg (Ne.symm e2), if_neg e2, h3 j hj]
    by_cases e0 : j = i * 3
    · subst e0; unfold lcell; simp
    · by_cases e1 : j = i * 3 + 1
      · subst e1; unfold lcell; rw [if_neg (by omega), if_pos (by omega), if_neg (by omega), if_pos rfl, show (i * 3 + 1) / 3 = i by omega]
      · rw [if_neg e0, if_neg e1]
/-- Soft and hard of limit i are written. -/
theorem PL.both {w : World} {b : Nat} {L : Lims} (h : PL w b L) {i : Nat} (hi : i < 8) (s t : Int) : PL ((w.setCell ⟨b, i * 3, none⟩ (.int .i64 s)).setCell ⟨b, i * 3 + 1, none⟩ (.int .i64 t)) b (upd L i { L i with soft := s, hard := t }) := by
  obtain ⟨cs, h1, h2, h3⟩ := h
  refine ⟨_, heap_setCell_same _ _ _ _ _ _ (heap_setCell_same _ _ _ _ _ _ h1), by simpa using h2, fun j hj => ?_⟩
  rw [lcell_upd]
  simp only [Array.getElem?_setIfInBounds, Array.size_setIfInBounds]
  by_cases e0 : j = i * 3
  · subst e0; simp; omega
  · by_cases e1 : j = i * 3 + 1
    · subst e1; simp; omega
    · rw [if_neg (Ne.symm e1), if_neg (Ne.symm e0), if_neg e0, if_neg e1, h3 j hj]
      by_cases e2 : j = i * 3 + 2
      · subst e2; unfold lcell; rw [if_neg (by omega), if_neg (by omega), if_pos rfl, show (i * 3 + 2) / 3 = i by omega]
      · rw [if_neg e2]
theorem of_ok (b k : Nat) (hk : k < 8) (w : World) : Calls Tryd.prog 59 #[.pointer (some ⟨b, 0, none⟩), .int .i64 k] w fun e w' => e = .returned (.tuple #[.pointer (some ⟨b, k * 3, none⟩), .int .i64 0]) ∧ w' = w := by
  have hki : (k : Int) < 8 := by omega
  go_enter Tryd.func59, Tryd.ntmps59
  go_wp2
  go_ret2
  exact ⟨rfl, rfl⟩
theorem of_bad (b : Nat) (k : Int) (hk : k < 0 ∨ 8 ≤ k) (w : World) : Calls Tryd.prog 59 #[.pointer (some ⟨b, 0, none⟩), .int .i64 k] w fun e w' => e = .returned (.tuple #[.pointer none, .int .i64 34]) ∧ w' = w := by
  by_cases h : k < 0
  · clear hk
    go_enter Tryd.func59, Tryd.ntmps59
    go_wp2
    go_ret2
    exact ⟨rfl, rfl⟩
  · have h8 : 8 ≤ k := by omega
    clear hk
    go_enter Tryd.func59, Tryd.ntmps59
    go_wp2
    go_ret2
    exact ⟨rfl, rfl⟩
theorem am_kind (b : Nat) (k n : Int) (hk : k < 0 ∨ 8 ≤ k) (w : World) : Calls Tryd.prog 60 #[.pointer (some ⟨b, 0, none⟩), .int .i64 k, .int .i64 n] w fun e w' => e = .returned (.tuple #[.pointer none, .int .i64 34]) ∧ w' = w := by
  have H := Lib.hid (of_bad b k hk w)
  clear hk
  go_enter Tryd.func60, Tryd.ntmps60
  go_wp2_with (go_at_call 59; refine H.out.mono ?_; rintro e w1 ⟨rfl, rfl⟩)
  go_ret2
  exact ⟨rfl, rfl⟩
theorem am_ok (b k : Nat) (n : Int) (hk : k < 8) (h0 : 0 ≤ n) (h1 : n ≤ 1099511627776) (w : World) : Calls Tryd.prog 60 #[.pointer (some ⟨b, 0, none⟩), .int .i64 k, .int .i64 n] w fun e w' => e = .returned (.tuple #[.pointer (some ⟨b, k * 3, none⟩), .int .i64 0]) ∧ w' = w := by
  have H := Lib.hid (of_ok b k hk w)
  clear hk
  go_enter Tryd.func60, Tryd.ntmps60
  go_wp2_with (go_at_call 59; refine H.out.mono ?_; rintro e w1 ⟨rfl, rfl⟩)
  go_ret2
  exact ⟨rfl, rfl⟩
theorem am_bad (b k : Nat) (n : Int) (hk : k < 8) (hn : n < 0 ∨ 1099511627776 < n) (w : World) : Calls Tryd.prog 60 #[.pointer (some ⟨b, 0, none⟩), .int .i64 k, .int .i64 n] w fun e w' => e = .returned (.tuple #[.pointer (some ⟨b, k * 3, none⟩), .int .i64 34]) ∧ w' = w := by
  have H := Lib.hid (of_ok b k hk w)
  by_cases h : n < 0
  · clear hk hn
    go_enter Tryd.func60, Tryd.ntmps60
    go_wp2_with (go_at_call 59; refine H.out.mono ?_; rintro e w1 ⟨rfl, rfl⟩)
    go_ret2
    exact ⟨rfl, rfl⟩
  · have h8 : 1099511627776 < n := by omega
    clear hk hn
    go_enter Tryd.func60, Tryd.ntmps60
    go_wp2_with (go_at_call 59; refine H.out.mono ?_; rintro e w1 ⟨rfl, rfl⟩)
    go_ret2
    exact ⟨rfl, rfl⟩
/-- What a method of limits leaves. -/
def LPost (w : World) (b : Nat) (c : Int) (L : Lims) (e : Ending) (w' : World) : Prop := e = .returned (.int .i64 c) ∧ PL w' b L ∧ w.grownBy w' (some b)
theorem grown_self (w : World) (r : Option Nat) : w.grownBy w r := grown_of_below' (Below.refl _ _) r
theorem grown_set {w W : World} {b : Nat} (h : w.grownBy W (some b)) (j : Nat) (v : Value) : w.grownBy (W.setCell ⟨b, j, none⟩ v) (some b) :=
  ⟨h.os, h.tape, h.output, by have := h.size; simpa [World.setCell] using this, fun k hk hne => by
    rw [Below.heap_setCell _ _ _ _ (by rintro rfl; exact hne rfl)]; exact h.block k hk hne⟩
set_option maxHeartbeats 2000000 in
theorem rel_calls (b : Nat) (L : Lims) (k n : Int) (w : World) (h : PL w b L) (hL : LimOk L) : Calls Tryd.prog 31 #[.pointer (some ⟨b, 0, none⟩), .int .i64 k, .int .i64 n] w (LPost w b (relC L k n) (relL L k n)) := by
  by_cases hk : k < 0 ∨ 8 ≤ k
  · have HC := Lib.hid (show relC L k n = 34 from by unfold relC; rw [if_pos hk])
    have H := Lib.hid (am_kind b k n hk w)
    have HP := Lib.hid h
    clear h hk
    go_enter Tryd.func31, Tryd.ntmps31
    go_wp2_with (go_at_call 60; refine H.out.mono ?_; rintro e w1 ⟨rfl, rfl⟩)
    go_ret
    exact ⟨by rw [HC.out]; rfl, by unfold relL; rw [HC.out, if_neg (by decide)]; exact HP.out, grown_self _ _⟩
  · obtain ⟨k, rfl⟩ := Int.eq_ofNat_of_zero_le (show 0 ≤ k by omega)
    have hk8 : k < 8 := by omega
    by_cases hn : n < 0 ∨ 1099511627776 < n
    · have HC := Lib.hid (show relC L k n = 34 from by unfold relC; rw [if_neg hk, if_pos hn])
      have H := Lib.hid (am_bad b k n hk8 hn w)
      have HP := Lib.hid h
      clear h hk hn
      go_enter Tryd.func31, Tryd.ntmps31
      go_wp2_with (go_at_call 60; refine H.out.mono ?_; rintro e w1 ⟨rfl, rfl⟩)
      go_ret
      exact ⟨by rw [HC.out]; rfl, by unfold relL; rw [HC.out, if_neg (by decide)]; exact HP.out, grown_self _ _⟩
    · have H := Lib.hid (am_ok b k n hk8 (by omega) (by omega) w)
      obtain ⟨c0, c1, c2⟩ := h.three hk8
      have f2 := h.frozen (k * 3 + 2)
      have HP := Lib.hid (And.intro h hk8)
      have hu := (hL k).1
      have hu2 := (hL k).2.1
      by_cases hlt : (L k).used < n
      · have HC := Lib.hid (show relC L k n = 14 from by unfold relC; rw [if_neg hk, if_neg hn, if_pos (by simpa using hlt)])
        clear h hk hn
        go_enter Tryd.func31, Tryd.ntmps31
        go_wp2_with (go_at_call 60; refine H.out.mono ?_; rintro e w1 ⟨rfl, rfl⟩)
        go_ret
        exact ⟨by rw [HC.out]; rfl, by unfold relL; rw [HC.out, if_neg (by decide)]; exact HP.out.1, grown_self _ _⟩
      · have HC := Lib.hid (show relC L k n = 0 from by unfold relC; rw [if_neg hk, if_neg hn, if_neg (by simpa using hlt)])
        have hw : IntKind.i64.wrap ((L k).used - n) = (L k).used - n := by rw [IntKind.wrap_i64]; omega
        clear h hk hn
        go_enter Tryd.func31, Tryd.ntmps31
        go_wp2_with (go_at_call 60; refine H.out.mono ?_; rintro e w1 ⟨rfl, rfl⟩)
        go_ret
        refine ⟨by rw [HC.out]; rfl, ?_, grown_set (grown_self _ _) _ _⟩
        unfold relL
        rw [HC.out, if_pos rfl]
        exact HP.out.1.used HP.out.2 _
end Go.Proofs.YthccppldpfddjaaDoor
namespace Go.Proofs.YthccppldpfddjaaDoor
open Go.RowKit
set_option linter.unusedVariables false
set_option maxHeartbeats 2000000 in
theorem use_calls (b : Nat) (L : Lims) (k n : Int) (w : World) (h : PL w b L) (hL : LimOk L) : Calls Tryd.prog 29 #[.pointer (some ⟨b, 0, none⟩), .int .i64 k, .int .i64 n] w (LPost w b (useC L k n) (useL L k n)) := by
  by_cases hk : k < 0 ∨ 8 ≤ k
  · have HC := Lib.hid (show useC L k n = 34 from by unfold useC; rw [if_pos hk])
    have H := Lib.hid (am_kind b k n hk w)
    have HP := Lib.hid h
    clear h hk
    go_enter Tryd.func29, Tryd.ntmps29
    go_wp2_with (go_at_call 60; refine H.out.mono ?_; rintro e w1 ⟨rfl, rfl⟩)
    go_ret
    exact ⟨by rw [HC.out]; rfl, by unfold useL; rw [HC.out, if_neg (by decide)]; exact HP.out, grown_self _ _⟩
  · obtain ⟨k, rfl⟩ := Int.eq_ofNat_of_zero_le (show 0 ≤ k by omega)
    have hk8 : k < 8 := by omega
    by_cases hn : n < 0 ∨ 1099511627776 < n
    · have HC := Lib.hid (show useC L k n = 34 from by unfold useC; rw [if_neg hk, if_pos hn])
      have H := Lib.hid (am_bad b k n hk8 hn w)
      have HP := Lib.hid h
      clear h hk hn
      go_enter Tryd.func29, Tryd.ntmps29
      go_wp2_with (go_at_call 60; refine H.out.mono ?_; rintro e w1 ⟨rfl, rfl⟩)
      go_ret
      exact ⟨by rw [HC.out]; rfl, by unfold useL; rw [HC.out, if_neg (by decide)]; exact HP.out, grown_self _ _⟩
    · have H := Lib.hid (am_ok b k n hk8 (by omega) (by omega) w)
      obtain ⟨c0, c1, c2⟩ := h.three hk8
      have f2 := h.frozen (k * 3 + 2)
      have HP := Lib.hid (And.intro h hk8)
      have hu := (hL k).1
      have hu2 := (hL k).2.1
      have hw : IntKind.i64.wrap ((L k).used + n) = (L k).used + n := by rw [IntKind.wrap_i64]; omega
      by_cases hz : 0 < n
      · by_cases hlt : (L k).soft < (L k).used + n
        · have HC := Lib.hid (show useC L k n = 18 from by unfold useC; rw [if_neg hk, if_neg hn, if_pos (by simpa using ⟨hz, hlt⟩)])
          clear h hk hn
          go_enter Tryd.func29, Tryd.ntmps29
          go_wp2_with (go_at_call 60; refine H.out.mono ?_; rintro e w1 ⟨rfl, rfl⟩)
          go_quiet (fail)
          go_wp2
          go_ret
          exact ⟨by rw [HC.out]; rfl, by unfold useL; rw [HC.out, if_neg (by decide)]; exact HP.out.1.keep (by exact (below_dN (Below.refl _ _) _).block _ HP.out.1.lt), grown_of_below' (below_dN (Below.refl _ _) _) _⟩
        · have HC := Lib.hid (show useC L k n = 0 from by unfold useC; rw [if_neg hk, if_neg hn, if_neg (by simp; intro _; omega)])
          clear h hk hn
          go_enter Tryd.func29, Tryd.ntmps29
          go_wp2_with (go_at_call 60; refine H.out.mono ?_; rintro e w1 ⟨rfl, rfl⟩)
          go_quiet (fail)
          have c2' : ((w1.drewN nq)).cell? ⟨b, k * 3 + 2, none⟩ = some (.int .i64 (L k).used) := (World.cell?_of_block (w := w1) ((below_dN (Below.refl _ _) nq).block _ HP.out.1.lt)).trans c2
          have f2' : ((w1.drewN nq)).frozen? ⟨b, k * 3 + 2, none⟩ = false := (HP.out.1.keep ((below_dN (Below.refl _ _) nq).block _ HP.out.1.lt)).frozen _
          go_wp2
          go_ret
          refine ⟨by rw [HC.out]; rfl, ?_, grown_set (grown_of_below' (below_dN (Below.refl _ _) _) _) _ _⟩
          unfold useL
          rw [HC.out, if_pos rfl]
          exact (HP.out.1.keep ((below_dN (Below.refl _ _) nq).block _ HP.out.1.lt)).used HP.out.2 _
      · have HC := Lib.hid (show useC L k n = 0 from by unfold useC; rw [if_neg hk, if_neg hn, if_neg (by simp; intro h; exact absurd h hz)])
        obtain rfl : n = 0 := by omega
        have hw0 : IntKind.i64.wrap (L k).used = (L k).used := by rw [IntKind.wrap_i64]; omega
        clear h hk hn hz
        go_enter Tryd.func29, Tryd.ntmps29
        go_wp2_with (go_at_call 60; refine H.out.mono ?_; rintro e w1 ⟨rfl, rfl⟩)
        go_quiet (fail)
        have c2' : ((w1.drewN nq)).cell? ⟨b, k * 3 + 2, none⟩ = some (.int .i64 (L k).used) := (World.cell?_of_block (w := w1) ((below_dN (Below.refl _ _) nq).block _ HP.out.1.lt)).trans c2
        have f2' : ((w1.drewN nq)).frozen? ⟨b, k * 3 + 2, none⟩ = false := (HP.out.1.keep ((below_dN (Below.refl _ _) nq).block _ HP.out.1.lt)).frozen _
        go_wp2
        go_ret
        refine ⟨by rw [HC.out]; rfl, ?_, grown_set (grown_of_below' (below_dN (Below.refl _ _) _) _) _ _⟩
        unfold useL
        rw [HC.out, if_pos rfl, show (L (k : Int).toNat).used + 0 = (L k).used by simp]
        exact (HP.out.1.keep ((below_dN (Below.refl _ _) nq).block _ HP.out.1.lt)).used HP.out.2 _
end Go.Proofs.YthccppldpfddjaaDoor
namespace Go.Proofs.YthccppldpfddjaaDoor
open Go.RowKit
set_option linter.unusedVariables false
set_option maxHeartbeats 2000000 in
theorem set_calls (b : Nat) (L : Lims) (priv : Bool) (k s t : Int) (w : World) (h : PL w b L) (hL : LimOk L) : Calls Tryd.prog 27 #[.pointer (some ⟨b, 0, none⟩), .bool priv, .int .i64 k, .int .i64 s, .int .i64 t] w (LPost w b (setC L priv k s t) (setL L priv k s t)) := by
  by_cases hk : k < 0 ∨ 8 ≤ k
  · have H := Lib.hid (of_bad b k hk w)
    have HP := Lib.hid (And.intro h trivial)
    have HC := Lib.hid (show setC L priv k s t = 34 from by unfold setC; rw [if_pos hk])
    clear h hk hL
    go_enter Tryd.func27, Tryd.ntmps27
    go_wp2_with (go_at_call 59; refine H.out.mono ?_; rintro e w1 ⟨rfl, rfl⟩)
    go_ret
    exact ⟨by rw [HC.out]; rfl, by unfold setL; rw [HC.out, if_neg (by decide)]; exact HP.out.1, grown_self _ _⟩
  · obtain ⟨k, rfl⟩ := Int.eq_ofNat_of_zero_le (show 0 ≤ k by omega)
    have hk8 : k < 8 := by omega
    have H := Lib.hid (of_ok b k hk8 w)
    obtain ⟨c0, c1, c2⟩ := h.three hk8
    have f0 := h.frozen (k * 3)
    have f1 := h.frozen (k * 3 + 1)
    have HP := Lib.hid (And.intro h hk8)
    by_cases h1 : s < 0
    · skip
      have HC := Lib.hid (show setC L priv (k : Int) s t = 34 from by unfold setC; rw [if_neg hk, if_pos (by omega)])
      clear h hk hL
      go_enter Tryd.func27, Tryd.ntmps27
      go_wp2_with (go_at_call 59; refine H.out.mono ?_; rintro e w1 ⟨rfl, rfl⟩)
      go_ret
      exact ⟨by rw [HC.out]; rfl, by unfold setL; rw [HC.out, if_neg (by decide)]; exact HP.out.1, grown_self _ _⟩
    · by_cases h2 : t < s
      · skip
        have HC := Lib.hid (show setC L priv (k : Int) s t = 34 from by unfold setC; rw [if_neg hk, if_pos (by omega)])
        clear h hk hL
        go_enter Tryd.func27, Tryd.ntmps27
        go_wp2_with (go_at_call 59; refine H.out.mono ?_; rintro e w1 ⟨rfl, rfl⟩)
        go_ret
        exact ⟨by rw [HC.out]; rfl, by unfold setL; rw [HC.out, if_neg (by decide)]; exact HP.out.1, grown_self _ _⟩
      · by_cases h3 : 1099511627776 < t
        · skip
          have HC := Lib.hid (show setC L priv (k : Int) s t = 34 from by unfold setC; rw [if_neg hk, if_pos (by omega)])
          clear h hk hL
          go_enter Tryd.func27, Tryd.ntmps27
          go_wp2_with (go_at_call 59; refine H.out.mono ?_; rintro e w1 ⟨rfl, rfl⟩)
          go_ret
          exact ⟨by rw [HC.out]; rfl, by unfold setL; rw [HC.out, if_neg (by decide)]; exact HP.out.1, grown_self _ _⟩
        · by_cases h4 : (L k).hard < t
          · cases priv
            · skip
              have HC := Lib.hid (show setC L false (k : Int) s t = 32 from by unfold setC; rw [if_neg hk, if_neg (by omega), if_pos ⟨by simpa using h4, rfl⟩])
              clear h hk hL
              go_enter Tryd.func27, Tryd.ntmps27
              go_wp2_with (go_at_call 59; refine H.out.mono ?_; rintro e w1 ⟨rfl, rfl⟩)
              go_ret
              exact ⟨by rw [HC.out]; rfl, by unfold setL; rw [HC.out, if_neg (by decide)]; exact HP.out.1, grown_self _ _⟩
            · skip
              have HC := Lib.hid (show setC L true (k : Int) s t = 0 from by unfold setC; rw [if_neg hk, if_neg (by omega), if_neg (by simp)])
              clear h hk hL
              go_enter Tryd.func27, Tryd.ntmps27
              go_wp2_with (go_at_call 59; refine H.out.mono ?_; rintro e w1 ⟨rfl, rfl⟩)
              go_ret
              refine ⟨by rw [HC.out]; rfl, ?_, grown_set (grown_set (grown_self _ _) _ _) _ _⟩
              unfold setL
              rw [HC.out, if_pos rfl]
              exact HP.out.1.both HP.out.2 _ _
          · skip
            have HC := Lib.hid (show setC L priv (k : Int) s t = 0 from by unfold setC; rw [if_neg hk, if_neg (by omega), if_neg (by intro h9; exact h4 (by simpa using h9.1))])
            clear h hk hL
            go_enter Tryd.func27, Tryd.ntmps27
            go_wp2_with (go_at_call 59; refine H.out.mono ?_; rintro e w1 ⟨rfl, rfl⟩)
            go_ret
            refine ⟨by rw [HC.out]; rfl, ?_, grown_set (grown_set (grown_self _ _) _ _) _ _⟩
            unfold setL
            rw [HC.out, if_pos rfl]
            exact HP.out.1.both HP.out.2 _ _
end Go.Proofs.YthccppldpfddjaaDoor
namespace Go.Proofs.YthccppldpfddjaaDoor
open Go.RowKit
set_option linter.unusedVariables false
theorem get_bad (b : Nat) (k : Int) (hk : k < 0 ∨ 8 ≤ k) (w : World) : Calls Tryd.prog 35 #[.pointer (some ⟨b, 0, none⟩), .int .i64 k] w fun e w' => e = .returned (.tuple #[.int .i64 0, .int .i64 0, .int .i64 0, .int .i64 34]) ∧ w' = w := by
  have H := Lib.hid (of_bad b k hk w)
  clear hk
  go_enter Tryd.func35, Tryd.ntmps35
  go_wp2_with (go_at_call 59; refine H.out.mono ?_; rintro e w1 ⟨rfl, rfl⟩)
  refine bodyPost_ret (v := .tuple #[.int .i64 0, .int .i64 0, .int .i64 0, .int .i64 34]) ?_ rfl ⟨rfl, rfl⟩
  have hr : Tryd.f35.results = #[.tmp 4, .tmp 5, .tmp 6, .tmp 7] := rfl
  simp [results, hr]
theorem built122 : Tryd.prog.built 122 [] = some ((List.replicate 24 (Value.int .i64 0)).toArray) := by kernel_rfl
def newL (k : Nat) : Lims := fun i => if i < k then ⟨1099511627776, 1099511627776, 0⟩ else ⟨0, 0, 0⟩
theorem zeroPL (w : World) : PL (w.alloc (.cells (List.replicate 24 (Value.int .i64 0)).toArray 122)) w.heap.size (newL 0) := by
  refine ⟨_, heap_alloc_new w _, by simp, fun j hj => ?_⟩
  rw [List.getElem?_toArray, List.getElem?_replicate, if_pos hj]
  have e : newL 0 = fun _ => ⟨0, 0, 0⟩ := by funext i; simp [newL]
  rw [e]
  unfold lcell
  split
  · rfl
  · split <;> rfl
theorem upd_upd {α : Type} (f : Nat → α) (i : Nat) (x y : α) : upd (upd f i x) i y = upd f i y := by
  funext j
  unfold upd
  split <;> rfl
theorem newL_succ (k : Nat) : upd (newL k) k ⟨1099511627776, 1099511627776, 0⟩ = newL (k + 1) := by
  funext i
  unfold upd newL
  by_cases h : i = k
  · subst h; simp
  · by_cases h1 : i < k
    · simp [h, h1, show i < k + 1 by omega]
    · simp [h, h1, show ¬ i < k + 1 by omega]
theorem PL.all {w : World} {b : Nat} {L : Lims} (h : PL w b L) {i : Nat} (hi : i < 8) (s t u : Int) : PL (set3 w b (i * 3) (.int .i64 s) (.int .i64 t) (.int .i64 u)) b (upd L i ⟨s, t, u⟩) := by
  have h1 := (h.both hi s t).used hi u
  rw [upd_upd, upd_same] at h1
  exact h1
set_option maxHeartbeats 4000000 in
set_option maxRecDepth 100000 in
theorem newlimits_calls (w : World) : Calls Tryd.prog 25 #[] w fun e w' => e = .returned (.pointer (some ⟨w.heap.size, 0, none⟩)) ∧ PL w' w.heap.size Lims0 ∧ Below w.heap.size w w' := by
  have HJ0 := Lib.hid (And.intro (zeroPL w) ((Below.refl w.heap.size w).alloc (Nat.le_refl _) (.cells (List.replicate 24 (Value.int .i64 0)).toArray 122)))
  go_enter Tryd.func25, Tryd.ntmps25
  go_wp2_with ((with_reducible change wpList _ _ _ (⟨_, .build 122 _, _, _, _, _⟩ :: _) _ _); refine wpList_build_to rfl 122 #[] rfl [] rfl _ built122 ?_)
  go_loopw [5] (fun i wr => ∃ k : Nat, k ≤ 8 ∧ i = .int .i64 k ∧ Hid (PL wr w.heap.size (newL k) ∧ Below w.heap.size w wr)) (fun i _ => 8 - (intOf i).toNat)
  case atStart => exact ⟨0, by omega, rfl, HJ0⟩
  case round =>
    clear HJ0
    obtain ⟨k, hk, rfl, HJ⟩ := hrel
    by_cases hlt : k < 8
    · have hlt' : (k : Int) < 8 := by omega
      obtain ⟨c0, c1, c2⟩ := HJ.out.1.three hlt
      have f0 := HJ.out.1.frozen (k * 3)
      have f1 := HJ.out.1.frozen (k * 3 + 1)
      have f2 := HJ.out.1.frozen (k * 3 + 2)
      have HN := Lib.hid (And.intro (HJ.out.1.all hlt 1099511627776 1099511627776 0) (HJ.out.2.trans (set3_below (w := wr) (t := w.heap.size) (k * 3) (.int .i64 1099511627776) (.int .i64 1099511627776) (.int .i64 0) (Nat.le_refl _))))
      rw [newL_succ] at HN
      unfold set3 at HN
      go_wp2
      go_roundw
      case rel => exact ⟨k + 1, by omega, by go_num, HN⟩
      case measure => simp [intOf]; omega
    · obtain rfl : k = 8 := by omega
      go_wp2
      go_ret
      refine ⟨rfl, ?_, HJ.out.2⟩
      obtain ⟨cs, h1, h2, h3⟩ := HJ.out.1
      refine ⟨cs, h1, h2, fun j hj => ?_⟩
      rw [h3 j hj]
      unfold lcell newL Lims0
      simp only [show j / 3 < 8 by omega, if_true]
set_option maxHeartbeats 2000000 in
theorem get_ok (b k : Nat) (L : Lims) (hk : k < 8) (w : World) (h : PL w b L) : Calls Tryd.prog 35 #[.pointer (some ⟨b, 0, none⟩), .int .i64 k] w fun e w' => e = .returned (.tuple #[.int .i64 (L k).soft, .int .i64 (L k).hard, .int .i64 (L k).used, .int .i64 0]) ∧ Below w.heap.size w w' := by
  have H := Lib.hid (of_ok b k hk w)
  obtain ⟨c0, c1, c2⟩ := h.three hk
  clear hk h
  go_enter Tryd.func35, Tryd.ntmps35
  go_wp2_with (go_at_call 59; refine H.out.mono ?_; rintro e w1 ⟨rfl, rfl⟩)
  go_quiet (fail)
  go_wp2
  refine bodyPost_ret (v := .tuple #[.int .i64 (L k).soft, .int .i64 (L k).hard, .int .i64 (L k).used, .int .i64 0]) ?_ rfl ⟨rfl, below_dN (Below.refl _ _) _⟩
  have hr : Tryd.f35.results = #[.tmp 4, .tmp 5, .tmp 6, .tmp 7] := rfl
  simp [results, hr]
end Go.Proofs.YthccppldpfddjaaDoor
namespace Go.Proofs.YthccppldpfddjaaDoor
open Go.RowKit
set_option linter.unusedVariables false
def childK (L : Lims) (k : Nat) : Lims := fun i => if i < k then { L i with used := 0 } else L i
theorem childK_succ (L : Lims) (k : Nat) : upd (childK L k) k { childK L k k with used := 0 } = childK L (k + 1) := by
  funext i
  unfold upd childK
  by_cases h : i = k
  · subst h; simp
  · by_cases h1 : i < k
    · simp [h, h1, show i < k + 1 by omega]
    · simp [h, h1, show ¬ i < k + 1 by omega]
theorem size122 : (Tryd.prog.info? 122).map (·.size) = some 24 := by kernel_rfl
theorem zero122 : (Tryd.prog.info? 122).map (·.zero) = some (some (.agg (List.replicate 24 (Value.int .i64 0)).toArray)) := by kernel_rfl
theorem PL.one {w : World} {b : Nat} {L : Lims} (h : PL w b L) {cs : Array Value} (hc : w.heap[b]? = some (.cells cs 122 (0, 0))) : cs.size = 24 ∧ cs.all (·.oneCell') = true ∧ ∀ j, j < 24 → cs[j]? = some (lcell L j) := by
  obtain ⟨cs', h1, h2, h3⟩ := h
  rw [hc] at h1
  cases h1
  refine ⟨h2, ?_, h3⟩
  rw [Array.all_eq_true]
  intro j hj
  have := h3 j (by omega)
  rw [Array.getElem?_eq_getElem hj] at this
  rw [Option.some.inj this]
  unfold lcell
  split
  · rfl
  · split <;> rfl
set_option maxHeartbeats 4000000 in
set_option maxRecDepth 100000 in
theorem climits_calls (b : Nat) (L : Lims) (w : World) (h : PL w b L) : Calls Tryd.prog 33 #[.pointer (some ⟨b, 0, none⟩)] w fun e w' => ∃ cb, e = .returned (.pointer (some ⟨cb, 0, none⟩)) ∧ w.heap.size ≤ cb ∧ PL w' cb (childL L) ∧ Below w.heap.size w w' := by
  obtain ⟨cs, hc, -, -⟩ := id h
  obtain ⟨h1, h2, h3⟩ := h.one hc
  have hz := heap_alloc_new w (.cells (List.replicate 24 (Value.int .i64 0)).toArray 122)
  have hr := setRow_heap _ _ _ cs _ _ hz
  have HJ0 := Lib.hid (And.intro (show PL ((w.alloc (.cells (List.replicate 24 (Value.int .i64 0)).toArray 122)).setRow w.heap.size cs) w.heap.size (childK L 0) from ⟨cs, hr, h1, fun j hj => by rw [h3 j hj]; unfold lcell childK; simp⟩) (show Below w.heap.size w ((w.alloc (.cells (List.replicate 24 (Value.int .i64 0)).toArray 122)).setRow w.heap.size cs) from below_setRow' ((Below.refl _ _).alloc (Nat.le_refl _) _) (Nat.le_refl _) _))
  have HLD := Lib.hid (show ∀ j v, cs[j]? = some v → w.cell? ((⟨b, 0, none⟩ : Addr).add j) = some v from fun j v hj => by rw [add_at, cell_of_row _ _ _ _ _ _ hc, Nat.zero_add]; exact hj)
  have HC := Lib.hid (And.intro h1 (And.intro h2 hz))
  clear h hc h1 h2 h3 hz hr
  go_enter Tryd.func33, Tryd.ntmps33
  go_wp2_with (first
    | ((with_reducible change wpList _ _ _ (⟨_, .load 122 _, _, _, _, _⟩ :: _) _ _); refine wpList_load_cells rfl 122 (.tmp 8) rfl ⟨b, 0, none⟩ rfl cs _ HLD.out Tryd.underlying122 rfl size122 HC.out.1 ?_)
    | ((with_reducible change wpList _ _ _ (⟨_, .alloc 122, _, _, _, _⟩ :: _) _ _); refine wpList_alloc_to rfl 122 rfl _ zero122 ?_; rw [World.size_alloc])
    | ((with_reducible change wpList _ _ _ (⟨_, .store 122 _ _, _, _, _, _⟩ :: _) _ _); refine wpList_store_row rfl 122 (.tmp 3) (.tmp 9) rfl w.heap.size cs rfl rfl 122 _ HC.out.2.2 (by rw [HC.out.1]; exact size122) (by rw [HC.out.1]; simp) HC.out.2.1 ?_))
  go_loopw [10] (fun i wr => ∃ k : Nat, k ≤ 8 ∧ i = .int .i64 k ∧ Hid (PL wr w.heap.size (childK L k) ∧ Below w.heap.size w wr)) (fun i _ => 8 - (intOf i).toNat)
  case atStart => exact ⟨0, by omega, rfl, HJ0⟩
  case round =>
    clear HJ0
    obtain ⟨k, hk, rfl, HJ⟩ := hrel
    by_cases hlt : k < 8
    · have hlt' : (k : Int) < 8 := by omega
      obtain ⟨c0, c1, c2⟩ := HJ.out.1.three hlt
      have f2 := HJ.out.1.frozen (k * 3 + 2)
      have HN := Lib.hid (And.intro (HJ.out.1.used hlt 0) (HJ.out.2.setCell (p := ⟨w.heap.size, k * 3 + 2, none⟩) (Nat.le_refl _) (.int .i64 0)))
      rw [childK_succ] at HN
      go_wp2
      go_roundw
      case rel => exact ⟨k + 1, by omega, by go_num, HN⟩
      case measure => simp [intOf]; omega
    · obtain rfl : k = 8 := by omega
      go_wp2
      go_ret
      refine ⟨_, rfl, Nat.le_refl _, ?_, HJ.out.2⟩
      obtain ⟨cs, h1, h2, h3⟩ := HJ.out.1
      refine ⟨cs, h1, h2, fun j hj => ?_⟩
      rw [h3 j hj]
      unfold lcell childK childL
      simp only [show j / 3 < 8 by omega, if_true]
end Go.Proofs.YthccppldpfddjaaDoor
namespace Go.Proofs.YthccppldpfddjaaDoor
open Go.RowKit
set_option linter.unusedVariables false
theorem RL.lt {w : World} {b : Nat} {L : Lims} (h : RL w b L) : b < w.heap.size := by
  obtain ⟨cs, h1, -⟩ := h
  exact (Array.getElem?_eq_some_iff.1 h1).1
theorem RL.keep {w w' : World} {b : Nat} {L : Lims} (h : RL w b L) (hk : w'.heap[b]? = w.heap[b]?) : RL w' b L := by
  obtain ⟨cs, h1, h2⟩ := h
  exact ⟨cs, hk.trans h1, h2⟩
theorem RL.dN {w : World} {b : Nat} {L : Lims} (h : RL w b L) (n : Nat) : RL (w.drewN n) b L := h.keep ((below_dN (Below.refl _ _) n).block _ h.lt)
theorem RL.three {w : World} {b : Nat} {L : Lims} (h : RL w b L) {i : Nat} (hi : i < 8) : w.cell? ⟨b, i, none⟩ = some (.int .i64 (L i).soft) ∧ w.cell? ⟨b, 8 + i, none⟩ = some (.int .i64 (L i).hard) ∧ w.cell? ⟨b, 16 + i, none⟩ = some (.int .i64 (L i).used) := by
  obtain ⟨cs, h1, h2, h3⟩ := h
  refine ⟨?_, ?_, ?_⟩ <;> rw [cell_of_row _ _ _ _ _ _ h1]
  · rw [h3 _ (by omega)]; unfold rcellL; rw [if_pos hi]
  · rw [h3 _ (by omega)]; unfold rcellL; rw [if_neg (by omega), if_pos (by omega), show 8 + i - 8 = i by omega]
  · rw [h3 _ (by omega)]; unfold rcellL; rw [if_neg (by omega), if_neg (by omega), show 16 + i - 16 = i by omega]
theorem RL.frozen {w : World} {b : Nat} {L : Lims} (h : RL w b L) (j : Nat) : w.frozen? ⟨b, j, none⟩ = false := by
  obtain ⟨cs, h1, -⟩ := h
  exact frozen_of_row w b j _ _ h1
theorem rcellL_upd (L : Lims) (i : Nat) (hi : i < 8) (m : Lm) (j : Nat) (hj : j < 24) : rcellL (upd L i m) j = if j = i then .int .i64 m.soft else if j = 8 + i then .int .i64 m.hard else if j = 16 + i then .int .i64 m.used else rcellL L j := by
  unfold rcellL
  by_cases h8 : j < 8
  · rw [if_pos h8, if_pos h8, if_neg (show ¬ j = 8 + i by omega), if_neg (show ¬ j = 16 + i by omega)]
    by_cases h : j = i
    · subst h; rw [upd_same, if_pos rfl]
    · rw [upd_other _ _ h, if_neg h]
  · rw [if_neg h8, if_neg h8, if_neg (show ¬ j = i by omega)]
    by_cases h16 : j < 16
    · rw [if_pos h16, if_pos h16, if_neg (show ¬ j = 16 + i by omega)]
      by_cases h : j = 8 + i
      · subst h; rw [show 8 + i - 8 = i by omega, upd_same, if_pos rfl]
      · rw [upd_other _ _ (by omega), if_neg h]
    · rw [if_neg h16, if_neg h16, if_neg (show ¬ j = 8 + i by omega)]
      by_cases h : j = 16 + i
      · subst h; rw [show 16 + i - 16 = i by omega, upd_same, if_pos rfl]
      · rw [upd_other _ _ (by omega), if_neg h]
theorem RL.used {w : World} {b : Nat} {L : Lims} (h : RL w b L) {i : Nat} (hi : i < 8) (u : Int) : RL (w.setCell ⟨b, 16 + i, none⟩ (.int .i64 u)) b (upd L i { L i with used := u }) := by
  obtain ⟨cs, h1, h2, h3⟩ := h
  refine ⟨_, heap_setCell_same _ _ _ _ _ _ h1, by simpa using h2, fun j hj => ?_⟩
  rw [rcellL_upd L i hi _ j hj]
  simp only [Array.getElem?_setIfInBounds]
  by_cases e2 : j = 16 + i
  · subst e2; simp; omega
  · rw [if_neg (Ne.symm e2), if_neg e2, h3 j hj]
    by_cases e0 : j = i
    · subst e0; unfold rcellL; simp [hi]
    · by_cases e1 : j = 8 + i
      · subst e1; unfold rcellL; rw [if_neg (by omega), if_pos (by omega), if_neg (by omega), if_pos rfl, show 8 + i - 8 = i by omega]
      · rw [if_neg e0, if_neg e1]
def RPost (w : World) (b : Nat) (c : Int) (L : Lims) (e : Ending) (w' : World) : Prop := e = .returned (.int .i64 c) ∧ RL w' b L ∧ w.grownBy w' (some b)
set_option maxHeartbeats 2000000 in
set_option maxRecDepth 100000 in
theorem rrel_calls (b : Nat) (L : Lims) (k n : Int) (w : World) (h : RL w b L) (hL : LimOk L) : Calls Tryd.prog 32 #[.pointer (some ⟨b, 0, none⟩), .int .i64 k, .int .i64 n] w (RPost w b (relC L k n) (relL L k n)) := by
  by_cases hk0 : k < 0
  · have HC := Lib.hid (show relC L k n = 34 from by unfold relC; rw [if_pos (.inl hk0)])
    have HP := Lib.hid h
    clear h
    go_enter Tryd.func32, Tryd.ntmps32
    go_wp2
    go_ret
    exact ⟨by rw [HC.out]; rfl, by unfold relL; rw [HC.out, if_neg (by decide)]; exact HP.out, grown_self _ _⟩
  by_cases hk1 : 8 ≤ k
  · have HC := Lib.hid (show relC L k n = 34 from by unfold relC; rw [if_pos (.inr hk1)])
    have HP := Lib.hid h
    clear h
    go_enter Tryd.func32, Tryd.ntmps32
    go_wp2
    go_ret
    exact ⟨by rw [HC.out]; rfl, by unfold relL; rw [HC.out, if_neg (by decide)]; exact HP.out, grown_self _ _⟩
  have hk : ¬ (k < 0 ∨ 8 ≤ k) := by omega
  by_cases hn0 : n < 0
  · have HC := Lib.hid (show relC L k n = 34 from by unfold relC; rw [if_neg hk, if_pos (.inl hn0)])
    have HP := Lib.hid h
    clear h
    clear hk
    go_enter Tryd.func32, Tryd.ntmps32
    go_wp2
    go_ret
    exact ⟨by rw [HC.out]; rfl, by unfold relL; rw [HC.out, if_neg (by decide)]; exact HP.out, grown_self _ _⟩
  by_cases hn1 : 1099511627776 < n
  · have HC := Lib.hid (show relC L k n = 34 from by unfold relC; rw [if_neg hk, if_pos (.inr hn1)])
    have HP := Lib.hid h
    clear h
    clear hk
    go_enter Tryd.func32, Tryd.ntmps32
    go_wp2
    go_ret
    exact ⟨by rw [HC.out]; rfl, by unfold relL; rw [HC.out, if_neg (by decide)]; exact HP.out, grown_self _ _⟩
  have hn : ¬ (n < 0 ∨ 1099511627776 < n) := by omega
  obtain ⟨k, rfl⟩ := Int.eq_ofNat_of_zero_le (show 0 ≤ k by omega)
  have hk8 : k < 8 := by omega
  have hki : (k : Int) < 8 := by omega
  obtain ⟨c0, c1, c2⟩ := h.three hk8
  have f2 := h.frozen (16 + k)
  have HP := Lib.hid (And.intro h hk8)
  have hu := (hL k).1
  have hu2 := (hL k).2.1
  by_cases hlt : (L k).used < n
  · have HC := Lib.hid (show relC L k n = 14 from by unfold relC; rw [if_neg hk, if_neg hn, if_pos (by simpa using hlt)])
    clear h hk hn
    go_enter Tryd.func32, Tryd.ntmps32
    go_wp2
    go_ret
    exact ⟨by rw [HC.out]; rfl, by unfold relL; rw [HC.out, if_neg (by decide)]; exact HP.out.1, grown_self _ _⟩
  · have HC := Lib.hid (show relC L k n = 0 from by unfold relC; rw [if_neg hk, if_neg hn, if_neg (by simpa using hlt)])
    have hw : IntKind.i64.wrap ((L k).used - n) = (L k).used - n := by rw [IntKind.wrap_i64]; omega
    clear h hk hn
    go_enter Tryd.func32, Tryd.ntmps32
    go_wp2
    go_still_tail 11, (by kernel_rfl)
    change wpList _ _ _ _ _ w.drew
    go_wp2
    go_ret
    refine ⟨by rw [HC.out]; rfl, ?_, grown_set (W := w.drew) (grown_of_below' (Below.drew (Below.refl _ _)) _) _ _⟩
    unfold relL
    rw [HC.out, if_pos rfl]
    exact (HP.out.1.keep (w' := w.drew) rfl).used HP.out.2 _
end Go.Proofs.YthccppldpfddjaaDoor
namespace Go.Proofs.YthccppldpfddjaaDoor
open Go.RowKit
set_option linter.unusedVariables false
set_option maxHeartbeats 2000000 in
set_option maxRecDepth 100000 in
theorem ruse_calls (b : Nat) (L : Lims) (k n : Int) (w : World) (h : RL w b L) (hL : LimOk L) : Calls Tryd.prog 30 #[.pointer (some ⟨b, 0, none⟩), .int .i64 k, .int .i64 n] w (RPost w b (useC L k n) (useL L k n)) := by
  by_cases hk0 : k < 0
  · have HC := Lib.hid (show useC L k n = 34 from by unfold useC; rw [if_pos (.inl hk0)])
    have HP := Lib.hid h
    clear h
    go_enter Tryd.func30, Tryd.ntmps30
    go_wp2
    go_ret
    exact ⟨by rw [HC.out]; rfl, by unfold useL; rw [HC.out, if_neg (by decide)]; exact HP.out, grown_self _ _⟩
  by_cases hk1 : 8 ≤ k
  · have HC := Lib.hid (show useC L k n = 34 from by unfold useC; rw [if_pos (.inr hk1)])
    have HP := Lib.hid h
    clear h
    go_enter Tryd.func30, Tryd.ntmps30
    go_wp2
    go_ret
    exact ⟨by rw [HC.out]; rfl, by unfold useL; rw [HC.out, if_neg (by decide)]; exact HP.out, grown_self _ _⟩
  have hk : ¬ (k < 0 ∨ 8 ≤ k) := by omega
  by_cases hn0 : n < 0
  · have HC := Lib.hid (show useC L k n = 34 from by unfold useC; rw [if_neg hk, if_pos (.inl hn0)])
    have HP := Lib.hid h
    clear h
    clear hk
    go_enter Tryd.func30, Tryd.ntmps30
    go_wp2
    go_ret
    exact ⟨by rw [HC.out]; rfl, by unfold useL; rw [HC.out, if_neg (by decide)]; exact HP.out, grown_self _ _⟩
  by_cases hn1 : 1099511627776 < n
  · have HC := Lib.hid (show useC L k n = 34 from by unfold useC; rw [if_neg hk, if_pos (.inr hn1)])
    have HP := Lib.hid h
    clear h
    clear hk
    go_enter Tryd.func30, Tryd.ntmps30
    go_wp2
    go_ret
    exact ⟨by rw [HC.out]; rfl, by unfold useL; rw [HC.out, if_neg (by decide)]; exact HP.out, grown_self _ _⟩
  have hn : ¬ (n < 0 ∨ 1099511627776 < n) := by omega
  obtain ⟨k, rfl⟩ := Int.eq_ofNat_of_zero_le (show 0 ≤ k by omega)
  have hk8 : k < 8 := by omega
  have hki : (k : Int) < 8 := by omega
  obtain ⟨c0, c1, c2⟩ := h.three hk8
  have f2 := h.frozen (16 + k)
  have HP := Lib.hid (And.intro h hk8)
  have hu := (hL k).1
  have hu2 := (hL k).2.1
  have hw : IntKind.i64.wrap ((L k).used + n) = (L k).used + n := by rw [IntKind.wrap_i64]; omega
  by_cases hz : 0 < n
  · by_cases hlt : (L k).soft < (L k).used + n
    · have HC := Lib.hid (show useC L k n = 18 from by unfold useC; rw [if_neg hk, if_neg hn, if_pos (by simpa using ⟨hz, hlt⟩)])
      clear h hk hn
      go_enter Tryd.func30, Tryd.ntmps30
      go_wp2
      go_quiet (fail)
      go_wp2
      go_ret
      exact ⟨by rw [HC.out]; rfl, by unfold useL; rw [HC.out, if_neg (by decide)]; exact HP.out.1.dN _, grown_of_below' (below_dN (Below.refl _ _) _) _⟩
    · have HC := Lib.hid (show useC L k n = 0 from by unfold useC; rw [if_neg hk, if_neg hn, if_neg (by simp; intro _; omega)])
      clear h hk hn
      go_enter Tryd.func30, Tryd.ntmps30
      go_wp2
      go_quiet (fail)
      obtain ⟨W, hW⟩ : ∃ W, W = w.drewN nq := ⟨_, rfl⟩
      have HPW := Lib.hid (And.intro (show RL W b L from by rw [hW]; exact HP.out.1.dN _) (show Below w.heap.size w W from by rw [hW]; exact below_dN (Below.refl _ _) _))
      obtain ⟨-, -, c2'⟩ := HPW.out.1.three HP.out.2
      have f2' := HPW.out.1.frozen (16 + k)
      rw [← hW]
      clear hW
      go_wp2
      go_still_tail 11, (by kernel_rfl)
      change wpList _ _ _ _ _ W.drew
      go_wp2
      go_ret
      refine ⟨by rw [HC.out]; rfl, ?_, grown_set (W := W.drew) (grown_of_below' (Below.drew HPW.out.2) _) _ _⟩
      unfold useL
      rw [HC.out, if_pos rfl]
      exact (HPW.out.1.keep (w' := W.drew) rfl).used HP.out.2 _
  · have HC := Lib.hid (show useC L k n = 0 from by unfold useC; rw [if_neg hk, if_neg hn, if_neg (by simp; intro h; exact absurd h hz)])
    obtain rfl : n = 0 := by omega
    have hw0 : IntKind.i64.wrap (L k).used = (L k).used := by rw [IntKind.wrap_i64]; omega
    clear h hk hn hz
    go_enter Tryd.func30, Tryd.ntmps30
    go_wp2
    go_quiet (fail)
    obtain ⟨W, hW⟩ : ∃ W, W = w.drewN nq := ⟨_, rfl⟩
    have HPW := Lib.hid (And.intro (show RL W b L from by rw [hW]; exact HP.out.1.dN _) (show Below w.heap.size w W from by rw [hW]; exact below_dN (Below.refl _ _) _))
    obtain ⟨-, -, c2'⟩ := HPW.out.1.three HP.out.2
    have f2' := HPW.out.1.frozen (16 + k)
    rw [← hW]
    clear hW
    go_wp2
    go_still_tail 11, (by kernel_rfl)
    change wpList _ _ _ _ _ W.drew
    go_wp2
    go_ret
    refine ⟨by rw [HC.out]; rfl, ?_, grown_set (W := W.drew) (grown_of_below' (Below.drew HPW.out.2) _) _ _⟩
    unfold useL
    rw [HC.out, if_pos rfl, show (L (k : Int).toNat).used + 0 = (L k).used by simp]
    exact (HPW.out.1.keep (w' := W.drew) rfl).used HP.out.2 _
end Go.Proofs.YthccppldpfddjaaDoor
namespace Go.Proofs.YthccppldpfddjaaDoor
open Go.RowKit
set_option linter.unusedVariables false
theorem RL.both {w : World} {b : Nat} {L : Lims} (h : RL w b L) {i : Nat} (hi : i < 8) (s t : Int) : RL ((w.setCell ⟨b, i, none⟩ (.int .i64 s)).setCell ⟨b, 8 + i, none⟩ (.int .i64 t)) b (upd L i { L i with soft := s, hard := t }) := by
  obtain ⟨cs, h1, h2, h3⟩ := h
  refine ⟨_, heap_setCell_same _ _ _ _ _ _ (heap_setCell_same _ _ _ _ _ _ h1), by simpa using h2, fun j hj => ?_⟩
  rw [rcellL_upd L i hi _ j hj]
  simp only [Array.getElem?_setIfInBounds, Array.size_setIfInBounds]
  by_cases e0 : j = i
  · subst e0; simp; omega
  · by_cases e1 : j = 8 + i
    · subst e1; simp; omega
    · rw [if_neg (Ne.symm e1), if_neg (Ne.symm e0), if_neg e0, if_neg e1, h3 j hj]
      by_cases e2 : j = 16 + i
      · subst e2; unfold rcellL; rw [if_neg (by omega), if_neg (by omega), if_pos rfl, show 16 + i - 16 = i by omega]
      · rw [if_neg e2]
set_option maxHeartbeats 4000000 in
set_option maxRecDepth 100000 in
theorem rset_end (b k : Nat) (L : Lims) (priv : Bool) (s t : Int) (w : World) (h : RL w b L) (hk8 : k < 8) (h1 : 0 ≤ s) (h2 : s ≤ t) (h3 : t ≤ 1099511627776) (hp : (L k).hard < t → priv = true) :
    Calls Tryd.prog 28 #[.pointer (some ⟨b, 0, none⟩), .bool priv, .int .i64 k, .int .i64 s, .int .i64 t] w (RPost w b 0 (upd L k { L k with soft := s, hard := t })) := by
  have hki : (k : Int) < 8 := by omega
  obtain ⟨c0, c1, c2⟩ := h.three hk8
  have f0 := h.frozen k
  have f1 := h.frozen (8 + k)
  have HP := Lib.hid (And.intro h hk8)
  have HF := Lib.hid (show RL (w.drew.setCell ⟨b, k, none⟩ (.int .i64 s)) b (upd L k { L k with soft := s }) from by
    have := ((h.keep (w' := w.drew) rfl).both hk8 s (L k).hard)
    obtain ⟨cs, hc, hs, h9⟩ := h.keep (w' := w.drew) rfl
    refine ⟨_, heap_setCell_same _ _ _ _ _ _ hc, by simpa using hs, fun j hj => ?_⟩
    rw [rcellL_upd L k hk8 _ j hj]
    simp only [Array.getElem?_setIfInBounds]
    by_cases e0 : j = k
    · subst e0; simp; omega
    · rw [if_neg (Ne.symm e0), if_neg e0, h9 j hj]
      by_cases e1 : j = 8 + k
      · subst e1; unfold rcellL; rw [if_neg (by omega), if_pos (by omega), if_pos rfl, show 8 + k - 8 = k by omega]
      · by_cases e2 : j = 16 + k
        · subst e2; unfold rcellL; rw [if_neg (by omega), if_neg (by omega), if_neg (by omega), if_pos rfl, show 16 + k - 16 = k by omega]
        · rw [if_neg e1, if_neg e2])
  clear h
  by_cases h4 : (L k).hard < t
  · obtain rfl := hp h4
    clear hp
    go_enter Tryd.func28, Tryd.ntmps28
    go_wp2
    apply Ends.const (F := fun w' => w' = (w.drew.setCell ⟨b, k, none⟩ (.int .i64 s)).setCell ⟨b, 8 + k, none⟩ (.int .i64 t))
    case walk =>
      refine wp_region_steps 13 [(true, 0), (true, 1), (true, 2), (true, 3), (true, 4), (true, 5), (true, 6), (true, 7), (true, 8), (true, 10), (true, 11), (false, 9), (true, 12)] (fun _ => True) (by rfl) (by kernel_rfl) (fun _ _ _ _ _ h => h) trivial ?_
      refine steps_head rfl (.pointer (some ⟨b, 0, none⟩)) (.inl ⟨rfl, fun w' hw => ?_⟩) ?_
      focus
        show (execOp _ _).run Tryd.prog w' = _
        go_simp
      try simp only [Act.put, List.setIfInBounds_toArray, List.set_cons_zero, List.set_cons_succ]
      refine steps_head rfl (.int .i64 k) (.inl ⟨rfl, fun w' hw => ?_⟩) ?_
      focus
        show (execOp _ _).run Tryd.prog w' = _
        go_simp
      try simp only [Act.put, List.setIfInBounds_toArray, List.set_cons_zero, List.set_cons_succ]
      refine steps_head rfl (.pointer (some ⟨b, 0, none⟩)) (.inl ⟨rfl, fun w' hw => ?_⟩) ?_
      focus
        show (execOp _ _).run Tryd.prog w' = _
        go_simp
      try simp only [Act.put, List.setIfInBounds_toArray, List.set_cons_zero, List.set_cons_succ]
      refine steps_head rfl (.int .i64 k) (.inl ⟨rfl, fun w' hw => ?_⟩) ?_
      focus
        show (execOp _ _).run Tryd.prog w' = _
        go_simp
      try simp only [Act.put, List.setIfInBounds_toArray, List.set_cons_zero, List.set_cons_succ]
      refine steps_head rfl (.int .i64 s) (.inl ⟨rfl, fun w' hw => ?_⟩) ?_
      focus
        show (execOp _ _).run Tryd.prog w' = _
        go_simp
      try simp only [Act.put, List.setIfInBounds_toArray, List.set_cons_zero, List.set_cons_succ]
      refine steps_head rfl (.int .i64 t) (.inl ⟨rfl, fun w' hw => ?_⟩) ?_
      focus
        show (execOp _ _).run Tryd.prog w' = _
        go_simp
      try simp only [Act.put, List.setIfInBounds_toArray, List.set_cons_zero, List.set_cons_succ]
      refine steps_head rfl (.pointer (some ⟨b, 0, none⟩)) (.inl ⟨rfl, fun w' hw => ?_⟩) ?_
      focus
        show (execOp _ _).run Tryd.prog w' = _
        go_simp
      try simp only [Act.put, List.setIfInBounds_toArray, List.set_cons_zero, List.set_cons_succ]
      refine steps_head rfl (.pointer (some ⟨b, 0, none⟩)) (.inl ⟨rfl, fun w' hw => ?_⟩) ?_
      focus
        show (execOp _ _).run Tryd.prog w' = _
        go_simp
      try simp only [Act.put, List.setIfInBounds_toArray, List.set_cons_zero, List.set_cons_succ]
      refine steps_head rfl (.pointer (some ⟨b, k, none⟩)) (.inl ⟨rfl, fun w' hw => ?_⟩) ?_
      focus
        show (execOp _ _).run Tryd.prog w' = _
        go_simp
      try simp only [Act.put, List.setIfInBounds_toArray, List.set_cons_zero, List.set_cons_succ]
      refine steps_head rfl (.pointer (some ⟨b, 0, none⟩)) (.inl ⟨rfl, fun w' hw => ?_⟩) ?_
      focus
        show (execOp _ _).run Tryd.prog w' = _
        go_simp
      try simp only [Act.put, List.setIfInBounds_toArray, List.set_cons_zero, List.set_cons_succ]
      refine steps_head rfl (.pointer (some ⟨b, 8, none⟩)) (.inl ⟨rfl, fun w' hw => ?_⟩) ?_
      focus
        show (execOp _ _).run Tryd.prog w' = _
        go_simp
      try simp only [Act.put, List.setIfInBounds_toArray, List.set_cons_zero, List.set_cons_succ]
      refine steps_mid rfl fun K hK => ?_
      have c0' : w.drew.cell? ⟨b, k, none⟩ = some (.int .i64 (L k).soft) := c0
      have f0' : w.drew.frozen? ⟨b, k, none⟩ = false := f0
      go_simp
      refine hK _ _ trivial ?_
      clear hK K
      try simp only [Act.put, List.setIfInBounds_toArray, List.set_cons_zero, List.set_cons_succ]
      refine steps_head rfl (.pointer (some ⟨b, 8 + k, none⟩)) (.inl ⟨rfl, fun w' hw => ?_⟩) ?_
      focus
        show (execOp _ _).run Tryd.prog w' = _
        go_simp
      try simp only [Act.put, List.setIfInBounds_toArray, List.set_cons_zero, List.set_cons_succ]
      refine steps_nil ?_
      have c1' := (HF.out.three HP.out.2).2.1
      have f1' := HF.out.frozen (8 + k)
      go_wp2
      exact Ends.mk ⟨rfl, rfl⟩
    case imp =>
      intro w' hw'
      subst hw'
      go_wp2
      go_ret
      exact ⟨rfl, (HP.out.1.keep (w' := w.drew) rfl).both HP.out.2 s t, grown_set (grown_set (W := w.drew) (grown_of_below' (Below.drew (Below.refl _ _)) _) _ _) _ _⟩
  · clear hp
    go_enter Tryd.func28, Tryd.ntmps28
    go_wp2
    apply Ends.const (F := fun w' => w' = (w.drew.setCell ⟨b, k, none⟩ (.int .i64 s)).setCell ⟨b, 8 + k, none⟩ (.int .i64 t))
    case walk =>
      refine wp_region_steps 13 [(true, 0), (true, 1), (true, 2), (true, 3), (true, 4), (true, 5), (true, 6), (true, 7), (true, 8), (true, 10), (true, 11), (false, 9), (true, 12)] (fun _ => True) (by rfl) (by kernel_rfl) (fun _ _ _ _ _ h => h) trivial ?_
      refine steps_head rfl (.pointer (some ⟨b, 0, none⟩)) (.inl ⟨rfl, fun w' hw => ?_⟩) ?_
      focus
        show (execOp _ _).run Tryd.prog w' = _
        go_simp
      try simp only [Act.put, List.setIfInBounds_toArray, List.set_cons_zero, List.set_cons_succ]
      refine steps_head rfl (.int .i64 k) (.inl ⟨rfl, fun w' hw => ?_⟩) ?_
      focus
        show (execOp _ _).run Tryd.prog w' = _
        go_simp
      try simp only [Act.put, List.setIfInBounds_toArray, List.set_cons_zero, List.set_cons_succ]
      refine steps_head rfl (.pointer (some ⟨b, 0, none⟩)) (.inl ⟨rfl, fun w' hw => ?_⟩) ?_
      focus
        show (execOp _ _).run Tryd.prog w' = _
        go_simp
      try simp only [Act.put, List.setIfInBounds_toArray, List.set_cons_zero, List.set_cons_succ]
      refine steps_head rfl (.int .i64 k) (.inl ⟨rfl, fun w' hw => ?_⟩) ?_
      focus
        show (execOp _ _).run Tryd.prog w' = _
        go_simp
      try simp only [Act.put, List.setIfInBounds_toArray, List.set_cons_zero, List.set_cons_succ]
      refine steps_head rfl (.int .i64 s) (.inl ⟨rfl, fun w' hw => ?_⟩) ?_
      focus
        show (execOp _ _).run Tryd.prog w' = _
        go_simp
      try simp only [Act.put, List.setIfInBounds_toArray, List.set_cons_zero, List.set_cons_succ]
      refine steps_head rfl (.int .i64 t) (.inl ⟨rfl, fun w' hw => ?_⟩) ?_
      focus
        show (execOp _ _).run Tryd.prog w' = _
        go_simp
      try simp only [Act.put, List.setIfInBounds_toArray, List.set_cons_zero, List.set_cons_succ]
      refine steps_head rfl (.pointer (some ⟨b, 0, none⟩)) (.inl ⟨rfl, fun w' hw => ?_⟩) ?_
      focus
        show (execOp _ _).run Tryd.prog w' = _
        go_simp
      try simp only [Act.put, List.setIfInBounds_toArray, List.set_cons_zero, List.set_cons_succ]
      refine steps_head rfl (.pointer (some ⟨b, 0, none⟩)) (.inl ⟨rfl, fun w' hw => ?_⟩) ?_
      focus
        show (execOp _ _).run Tryd.prog w' = _
        go_simp
      try simp only [Act.put, List.setIfInBounds_toArray, List.set_cons_zero, List.set_cons_succ]
      refine steps_head rfl (.pointer (some ⟨b, k, none⟩)) (.inl ⟨rfl, fun w' hw => ?_⟩) ?_
      focus
        show (execOp _ _).run Tryd.prog w' = _
        go_simp
      try simp only [Act.put, List.setIfInBounds_toArray, List.set_cons_zero, List.set_cons_succ]
      refine steps_head rfl (.pointer (some ⟨b, 0, none⟩)) (.inl ⟨rfl, fun w' hw => ?_⟩) ?_
      focus
        show (execOp _ _).run Tryd.prog w' = _
        go_simp
      try simp only [Act.put, List.setIfInBounds_toArray, List.set_cons_zero, List.set_cons_succ]
      refine steps_head rfl (.pointer (some ⟨b, 8, none⟩)) (.inl ⟨rfl, fun w' hw => ?_⟩) ?_
      focus
        show (execOp _ _).run Tryd.prog w' = _
        go_simp
      try simp only [Act.put, List.setIfInBounds_toArray, List.set_cons_zero, List.set_cons_succ]
      refine steps_mid rfl fun K hK => ?_
      have c0' : w.drew.cell? ⟨b, k, none⟩ = some (.int .i64 (L k).soft) := c0
      have f0' : w.drew.frozen? ⟨b, k, none⟩ = false := f0
      go_simp
      refine hK _ _ trivial ?_
      clear hK K
      try simp only [Act.put, List.setIfInBounds_toArray, List.set_cons_zero, List.set_cons_succ]
      refine steps_head rfl (.pointer (some ⟨b, 8 + k, none⟩)) (.inl ⟨rfl, fun w' hw => ?_⟩) ?_
      focus
        show (execOp _ _).run Tryd.prog w' = _
        go_simp
      try simp only [Act.put, List.setIfInBounds_toArray, List.set_cons_zero, List.set_cons_succ]
      refine steps_nil ?_
      have c1' := (HF.out.three HP.out.2).2.1
      have f1' := HF.out.frozen (8 + k)
      go_wp2
      exact Ends.mk ⟨rfl, rfl⟩
    case imp =>
      intro w' hw'
      subst hw'
      go_wp2
      go_ret
      exact ⟨rfl, (HP.out.1.keep (w' := w.drew) rfl).both HP.out.2 s t, grown_set (grown_set (W := w.drew) (grown_of_below' (Below.drew (Below.refl _ _)) _) _ _) _ _⟩
set_option maxHeartbeats 4000000 in
theorem rset_calls (b : Nat) (L : Lims) (priv : Bool) (k s t : Int) (w : World) (h : RL w b L) (hL : LimOk L) : Calls Tryd.prog 28 #[.pointer (some ⟨b, 0, none⟩), .bool priv, .int .i64 k, .int .i64 s, .int .i64 t] w (RPost w b (setC L priv k s t) (setL L priv k s t)) := by
  by_cases hk0 : k < 0
  · skip
    have HC := Lib.hid (show setC L priv k s t = 34 from by unfold setC; rw [if_pos (.inl hk0)])
    have HP := Lib.hid h
    clear h hL
    go_enter Tryd.func28, Tryd.ntmps28
    go_wp2
    go_ret
    exact ⟨by rw [HC.out]; rfl, by unfold setL; rw [HC.out, if_neg (by decide)]; exact HP.out, grown_self _ _⟩
  by_cases hk1 : 8 ≤ k
  · skip
    have HC := Lib.hid (show setC L priv k s t = 34 from by unfold setC; rw [if_pos (.inr hk1)])
    have HP := Lib.hid h
    clear h hL
    go_enter Tryd.func28, Tryd.ntmps28
    go_wp2
    go_ret
    exact ⟨by rw [HC.out]; rfl, by unfold setL; rw [HC.out, if_neg (by decide)]; exact HP.out, grown_self _ _⟩
  have hk : ¬ (k < 0 ∨ 8 ≤ k) := by omega
  by_cases h1 : s < 0
  · skip
    have HC := Lib.hid (show setC L priv k s t = 34 from by unfold setC; rw [if_neg hk, if_pos (by omega)])
    have HP := Lib.hid h
    clear h hL
    clear hk
    go_enter Tryd.func28, Tryd.ntmps28
    go_wp2
    go_ret
    exact ⟨by rw [HC.out]; rfl, by unfold setL; rw [HC.out, if_neg (by decide)]; exact HP.out, grown_self _ _⟩
  by_cases h2 : t < s
  · skip
    have HC := Lib.hid (show setC L priv k s t = 34 from by unfold setC; rw [if_neg hk, if_pos (by omega)])
    have HP := Lib.hid h
    clear h hL
    clear hk
    go_enter Tryd.func28, Tryd.ntmps28
    go_wp2
    go_ret
    exact ⟨by rw [HC.out]; rfl, by unfold setL; rw [HC.out, if_neg (by decide)]; exact HP.out, grown_self _ _⟩
  by_cases h3 : 1099511627776 < t
  · skip
    have HC := Lib.hid (show setC L priv k s t = 34 from by unfold setC; rw [if_neg hk, if_pos (by omega)])
    have HP := Lib.hid h
    clear h hL
    clear hk
    go_enter Tryd.func28, Tryd.ntmps28
    go_wp2
    go_ret
    exact ⟨by rw [HC.out]; rfl, by unfold setL; rw [HC.out, if_neg (by decide)]; exact HP.out, grown_self _ _⟩
  obtain ⟨k, rfl⟩ := Int.eq_ofNat_of_zero_le (show 0 ≤ k by omega)
  have hk8 : k < 8 := by omega
  by_cases hp : (L k).hard < t ∧ priv = false
  · obtain ⟨h4, rfl⟩ := hp
    have hki : (k : Int) < 8 := by omega
    obtain ⟨c0, c1, c2⟩ := h.three hk8
    have HC := Lib.hid (show setC L false (k : Int) s t = 32 from by unfold setC; rw [if_neg hk, if_neg (by omega), if_pos ⟨by simpa using h4, rfl⟩])
    have HP := Lib.hid h
    clear h hL hk
    go_enter Tryd.func28, Tryd.ntmps28
    go_wp2
    go_ret
    exact ⟨by rw [HC.out]; rfl, by unfold setL; rw [HC.out, if_neg (by decide)]; exact HP.out, grown_self _ _⟩
  · have HC : setC L priv (k : Int) s t = 0 := by unfold setC; rw [if_neg hk, if_neg (by omega), if_neg (by simpa using hp)]
    have h9 := rset_end b k L priv s t w h hk8 (by omega) (by omega) (by omega) (fun h4 => by cases priv; exact absurd ⟨h4, rfl⟩ hp; rfl)
    rw [HC]
    unfold setL
    rw [HC, if_pos rfl]
    exact h9
end Go.Proofs.YthccppldpfddjaaDoor
namespace Go.Proofs.YthccppldpfddjaaDoor
open Go.RowKit
set_option linter.unusedVariables false
theorem built70 : Tryd.prog.built 70 [] = some ((List.replicate 24 (Value.int .i64 0)).toArray) := by kernel_rfl
theorem zeroRL (w : World) : RL (w.alloc (.cells (List.replicate 24 (Value.int .i64 0)).toArray 70)) w.heap.size (newL 0) := by
  refine ⟨_, heap_alloc_new w _, by simp, fun j hj => ?_⟩
  rw [List.getElem?_toArray, List.getElem?_replicate, if_pos hj]
  have e : newL 0 = fun _ => ⟨0, 0, 0⟩ := by funext i; simp [newL]
  rw [e]
  unfold rcellL
  split
  · rfl
  · split <;> rfl
theorem RL.soft {w : World} {b : Nat} {L : Lims} (h : RL w b L) {k : Nat} (hk8 : k < 8) (s : Int) : RL (w.setCell ⟨b, k, none⟩ (.int .i64 s)) b (upd L k { L k with soft := s }) := by
  obtain ⟨cs, hc, hs, h9⟩ := h
  refine ⟨_, heap_setCell_same _ _ _ _ _ _ hc, by simpa using hs, fun j hj => ?_⟩
  rw [rcellL_upd L k hk8 _ j hj]
  simp only [Array.getElem?_setIfInBounds]
  by_cases e0 : j = k
  · subst e0; simp; omega
  · rw [if_neg (Ne.symm e0), if_neg e0, h9 j hj]
    by_cases e1 : j = 8 + k
    · subst e1; unfold rcellL; rw [if_neg (by omega), if_pos (by omega), if_pos rfl, show 8 + k - 8 = k by omega]
    · by_cases e2 : j = 16 + k
      · subst e2; unfold rcellL; rw [if_neg (by omega), if_neg (by omega), if_neg (by omega), if_pos rfl, show 16 + k - 16 = k by omega]
      · rw [if_neg e1, if_neg e2]
set_option maxHeartbeats 4000000 in
set_option maxRecDepth 100000 in
theorem rnewlimits_calls (w : World) : Calls Tryd.prog 26 #[] w fun e w' => e = .returned (.pointer (some ⟨w.heap.size, 0, none⟩)) ∧ RL w' w.heap.size Lims0 ∧ Below w.heap.size w w' := by
  have HJ0 := Lib.hid (And.intro (zeroRL w) ((Below.refl w.heap.size w).alloc (Nat.le_refl _) (.cells (List.replicate 24 (Value.int .i64 0)).toArray 70)))
  go_enter Tryd.func26, Tryd.ntmps26
  go_wp2_with ((with_reducible change wpList _ _ _ (⟨_, .build 70 _, _, _, _, _⟩ :: _) _ _); refine wpList_build_to rfl 70 #[] rfl [] rfl _ built70 ?_)
  go_loopw [2] (fun i wr => ∃ k : Nat, k ≤ 8 ∧ i = .int .i64 k ∧ Hid (RL wr w.heap.size (newL k) ∧ Below w.heap.size w wr)) (fun i _ => 8 - (intOf i).toNat)
  case atStart => exact ⟨0, by omega, rfl, HJ0⟩
  case round =>
    clear HJ0
    obtain ⟨k, hk, rfl, HJ⟩ := hrel
    by_cases hlt : k < 8
    · have hlt' : (k : Int) < 8 := by omega
      obtain ⟨c0, c1, c2⟩ := HJ.out.1.three hlt
      have f0 := HJ.out.1.frozen k
      have f1 := HJ.out.1.frozen (8 + k)
      have HF := Lib.hid ((HJ.out.1.keep (w' := wr.drew) rfl).soft hlt 1099511627776)
      have HN := Lib.hid (And.intro ((HJ.out.1.keep (w' := wr.drew) rfl).both hlt 1099511627776 1099511627776) (((HJ.out.2.drew).setCell (p := ⟨w.heap.size, k, none⟩) (Nat.le_refl _) (.int .i64 1099511627776)).setCell (p := ⟨w.heap.size, 8 + k, none⟩) (Nat.le_refl _) (.int .i64 1099511627776)))
      rw [show ({ newL k k with soft := 1099511627776, hard := 1099511627776 } : Lm) = ⟨1099511627776, 1099511627776, 0⟩ from by unfold newL; simp, newL_succ] at HN
      go_wp2
      apply Ends.const (F := fun w' => w' = (wr.drew.setCell ⟨w.heap.size, k, none⟩ (.int .i64 1099511627776)).setCell ⟨w.heap.size, 8 + k, none⟩ (.int .i64 1099511627776))
      case walk =>
        refine wp_region_steps 11 [(true, 0), (true, 1), (true, 2), (true, 3), (true, 4), (true, 5), (true, 6), (true, 8), (true, 9), (false, 7), (true, 10)] (fun _ => True) (by rfl) (by kernel_rfl) (fun _ _ _ _ _ h => h) trivial ?_
        refine steps_head rfl (.pointer (some ⟨w.heap.size, 0, none⟩)) (.inl ⟨rfl, fun w' hw => ?_⟩) ?_
        focus
          show (execOp _ _).run Tryd.prog w' = _
          go_simp
        try simp only [Act.put, List.setIfInBounds_toArray, List.set_cons_zero, List.set_cons_succ]
        refine steps_head rfl (.int .i64 k) (.inl ⟨rfl, fun w' hw => ?_⟩) ?_
        focus
          show (execOp _ _).run Tryd.prog w' = _
          go_simp
        try simp only [Act.put, List.setIfInBounds_toArray, List.set_cons_zero, List.set_cons_succ]
        refine steps_head rfl (.pointer (some ⟨w.heap.size, 0, none⟩)) (.inl ⟨rfl, fun w' hw => ?_⟩) ?_
        focus
          show (execOp _ _).run Tryd.prog w' = _
          go_simp
        try simp only [Act.put, List.setIfInBounds_toArray, List.set_cons_zero, List.set_cons_succ]
        refine steps_head rfl (.int .i64 k) (.inl ⟨rfl, fun w' hw => ?_⟩) ?_
        focus
          show (execOp _ _).run Tryd.prog w' = _
          go_simp
        try simp only [Act.put, List.setIfInBounds_toArray, List.set_cons_zero, List.set_cons_succ]
        refine steps_head rfl (.pointer (some ⟨w.heap.size, 0, none⟩)) (.inl ⟨rfl, fun w' hw => ?_⟩) ?_
        focus
          show (execOp _ _).run Tryd.prog w' = _
          go_simp
        try simp only [Act.put, List.setIfInBounds_toArray, List.set_cons_zero, List.set_cons_succ]
        refine steps_head rfl (.pointer (some ⟨w.heap.size, 0, none⟩)) (.inl ⟨rfl, fun w' hw => ?_⟩) ?_
        focus
          show (execOp _ _).run Tryd.prog w' = _
          go_simp
        try simp only [Act.put, List.setIfInBounds_toArray, List.set_cons_zero, List.set_cons_succ]
        refine steps_head rfl (.pointer (some ⟨w.heap.size, k, none⟩)) (.inl ⟨rfl, fun w' hw => ?_⟩) ?_
        focus
          show (execOp _ _).run Tryd.prog w' = _
          go_simp
        try simp only [Act.put, List.setIfInBounds_toArray, List.set_cons_zero, List.set_cons_succ]
        refine steps_head rfl (.pointer (some ⟨w.heap.size, 0, none⟩)) (.inl ⟨rfl, fun w' hw => ?_⟩) ?_
        focus
          show (execOp _ _).run Tryd.prog w' = _
          go_simp
        try simp only [Act.put, List.setIfInBounds_toArray, List.set_cons_zero, List.set_cons_succ]
        refine steps_head rfl (.pointer (some ⟨w.heap.size, 8, none⟩)) (.inl ⟨rfl, fun w' hw => ?_⟩) ?_
        focus
          show (execOp _ _).run Tryd.prog w' = _
          go_simp
        try simp only [Act.put, List.setIfInBounds_toArray, List.set_cons_zero, List.set_cons_succ]
        refine steps_mid rfl fun K hK => ?_
        have c0' : wr.drew.cell? ⟨w.heap.size, k, none⟩ = some (.int .i64 (newL k k).soft) := c0
        have f0' : wr.drew.frozen? ⟨w.heap.size, k, none⟩ = false := f0
        go_simp
        refine hK _ _ trivial ?_
        clear hK K
        try simp only [Act.put, List.setIfInBounds_toArray, List.set_cons_zero, List.set_cons_succ]
        refine steps_head rfl (.pointer (some ⟨w.heap.size, 8 + k, none⟩)) (.inl ⟨rfl, fun w' hw => ?_⟩) ?_
        focus
          show (execOp _ _).run Tryd.prog w' = _
          go_simp
        try simp only [Act.put, List.setIfInBounds_toArray, List.set_cons_zero, List.set_cons_succ]
        refine steps_nil ?_
        have c1' := (HF.out.three hlt).2.1
        have f1' := HF.out.frozen (8 + k)
        go_wp2
        exact Ends.mk ⟨rfl, rfl⟩
      case imp =>
        intro w' hw'
        subst hw'
        go_wp2
        go_roundw
        case rel => exact ⟨k + 1, by omega, by go_num, HN⟩
        case measure => simp [intOf]; omega
    · obtain rfl : k = 8 := by omega
      go_wp2
      go_ret
      refine ⟨rfl, ?_, HJ.out.2⟩
      obtain ⟨cs, h1, h2, h3⟩ := HJ.out.1
      refine ⟨cs, h1, h2, fun j hj => ?_⟩
      rw [h3 j hj]
      unfold rcellL newL Lims0
      by_cases h8 : j < 8
      · simp [h8]
      · by_cases h16 : j < 16
        · simp [h8, h16, show j - 8 < 8 by omega]
        · simp [h8, h16, show j - 16 < 8 by omega]
end Go.Proofs.YthccppldpfddjaaDoor
namespace Go.Proofs.YthccppldpfddjaaDoor
open Go.RowKit
set_option linter.unusedVariables false
set_option maxHeartbeats 4000000 in
set_option maxRecDepth 100000 in
theorem rclimits_calls (b : Nat) (L : Lims) (w : World) (h : RL w b L) : Calls Tryd.prog 34 #[.pointer (some ⟨b, 0, none⟩)] w fun e w' => ∃ cb, e = .returned (.pointer (some ⟨cb, 0, none⟩)) ∧ w.heap.size ≤ cb ∧ RL w' cb (childL L) ∧ Below w.heap.size w w' := by
  obtain ⟨a0, b0, -⟩ := h.three (i := 0) (by decide)
  obtain ⟨a1, b1, -⟩ := h.three (i := 1) (by decide)
  obtain ⟨a2, b2, -⟩ := h.three (i := 2) (by decide)
  obtain ⟨a3, b3, -⟩ := h.three (i := 3) (by decide)
  obtain ⟨a4, b4, -⟩ := h.three (i := 4) (by decide)
  obtain ⟨a5, b5, -⟩ := h.three (i := 5) (by decide)
  obtain ⟨a6, b6, -⟩ := h.three (i := 6) (by decide)
  obtain ⟨a7, b7, -⟩ := h.three (i := 7) (by decide)
  simp only [Nat.reduceAdd] at b0 b1 b2 b3 b4 b5 b6 b7
  have HP := Lib.hid h
  clear h
  go_enter Tryd.func34, Tryd.ntmps34
  go_wp2
  go_still_tail 9, (by kernel_rfl)
  change wpList _ _ _ _ _ w.drew
  go_wp2
  go_ret
  refine ⟨_, rfl, Nat.le_refl _, ⟨_, heap_alloc_new w _, rfl, fun j hj => ?_⟩, Below.drew ((Below.refl _ _).alloc (Nat.le_refl _) _)⟩
  rcases (by omega : j = 0 ∨ j = 1 ∨ j = 2 ∨ j = 3 ∨ j = 4 ∨ j = 5 ∨ j = 6 ∨ j = 7 ∨ j = 8 ∨ j = 9 ∨ j = 10 ∨ j = 11 ∨ j = 12 ∨ j = 13 ∨ j = 14 ∨ j = 15 ∨ j = 16 ∨ j = 17 ∨ j = 18 ∨ j = 19 ∨ j = 20 ∨ j = 21 ∨ j = 22 ∨ j = 23) with rfl | rfl | rfl | rfl | rfl | rfl | rfl | rfl | rfl | rfl | rfl | rfl | rfl | rfl | rfl | rfl | rfl | rfl | rfl | rfl | rfl | rfl | rfl | rfl <;> rfl
end Go.Proofs.YthccppldpfddjaaDoor
namespace Go.Proofs.YthccppldpfddjaaDoor
theorem Lims0_ok : LimOk Lims0 := fun i => by unfold Lims0; simp
theorem upd_ok {L : Lims} {k : Nat} {m : Lm} (h : LimOk L) (hm : 0 ≤ m.used ∧ m.used ≤ 2199023255552 ∧ 0 ≤ m.soft ∧ m.soft ≤ m.hard ∧ m.hard ≤ 1099511627776) : LimOk (upd L k m) := fun i => by
  by_cases e : i = k
  · subst e; rw [upd_same]; exact hm
  · rw [upd_other _ _ e]; exact h i
theorem setL_ok {L : Lims} (h : LimOk L) (p : Bool) (k s t : Int) : LimOk (setL L p k s t) := by
  unfold setL
  split
  · rename_i hc
    unfold setC at hc
    split at hc
    · simp at hc
    · split at hc
      · simp at hc
      · rename_i h1
        have hu := h k.toNat
        exact upd_ok h ⟨hu.1, hu.2.1, by simp only; omega, by simp only; omega, by simp only; omega⟩
  · exact h
theorem useL_ok {L : Lims} (h : LimOk L) (k n : Int) : LimOk (useL L k n) := by
  unfold useL
  split
  · rename_i hc
    unfold useC at hc
    split at hc
    · simp at hc
    · split at hc
      · simp at hc
      · rename_i h1
        have hu := h k.toNat
        split at hc
        · simp at hc
        · rename_i h2
          exact upd_ok h ⟨by simp only; omega, by simp only; omega, hu.2.2⟩
  · exact h
theorem relL_ok {L : Lims} (h : LimOk L) (k n : Int) : LimOk (relL L k n) := by
  unfold relL
  split
  · rename_i hc
    unfold relC at hc
    split at hc
    · simp at hc
    · split at hc
      · simp at hc
      · rename_i h1
        have hu := h k.toNat
        split at hc
        · simp at hc
        · rename_i h2
          exact upd_ok h ⟨by simp only; omega, by simp only; omega, hu.2.2⟩
  · exact h
theorem childL_ok {L : Lims} (h : LimOk L) : LimOk (childL L) := fun i => by
  have hu := h i
  unfold childL
  exact ⟨by simp, by simp, hu.2.2⟩
end Go.Proofs.YthccppldpfddjaaDoor
