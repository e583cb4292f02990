import Derived.Test.YtofibebphfeglaaDoorA2
namespace Go.Proofs.YtofibebphfeglaaDoor
open Go.RowKit

/-- The names of the operations. -/
def nm : List (List UInt8) := [[115, 101, 110, 100], [114, 101, 99, 101, 105, 118, 101], [114, 101, 112, 108, 121], [114, 101, 97, 100], [119, 114, 105, 116, 101], [112, 117, 108, 115, 101], [108, 111, 99, 107], [117, 110, 108, 111, 99, 107], [99, 111, 110, 100, 119, 97, 105, 116], [99, 111, 110, 100, 115, 105, 103, 110, 97, 108], [115, 101, 109, 119, 97, 105, 116], [115, 101, 109, 112, 111, 115, 116], [98, 97, 114, 114, 105, 101, 114], [116, 105, 109, 101, 114], [115, 108, 101, 101, 112], [99, 104, 97, 110, 110, 101, 108], [105, 110, 116, 101, 114, 114, 117, 112, 116], [117, 110, 109, 97, 115, 107], [107, 105, 108, 108], [112, 114, 105, 111, 114, 105, 116, 121], [121, 105, 101, 108, 100], [101, 120, 105, 116], [115, 112, 97, 119, 110], [110, 111, 112]]
def bs (l : List UInt8) : ByteArray := ⟨l.toArray⟩
def strs (l : List (List UInt8)) : Array Value := (l.map fun s => Value.string (bs s)).toArray

def lab : List (List UInt8) := [115, 101, 99, 116, 105, 111, 110] :: [99, 111, 112, 121] :: nm
def NamesAt (w : World) : Prop := ∀ i, i < 26 → w.cell? ⟨0, i, none⟩ = some (.string (bs (lab.getD i [])))
theorem NamesAt.below {w w1 : World} (h : NamesAt w) (hb : Below w.heap.size w w1) : NamesAt w1 := fun i hi => (hb.cell (World.block_lt_of_cell? _ _ (h i hi))).trans (h i hi)
/-- The name of an operation. -/
def nameS (op : Int) : ByteArray := if 0 ≤ op ∧ op < 24 then bs (nm.getD op.toNat []) else bs []
theorem nameS_out {op : Int} (h : ¬ (0 ≤ op ∧ op < 24)) : nameS op = bs [] := if_neg h
theorem nameS_in {op : Int} (h : 0 ≤ op ∧ op < 24) : nameS op = bs (nm.getD op.toNat []) := if_pos h

set_option maxRecDepth 100000 in
theorem names_calls (w : World) : Calls Tryd.prog 20 #[] w fun e w' => e = .returned (.slice (some ⟨w.heap.size, 0, none⟩) 24 24) ∧ w' = w.alloc (.cells (strs nm) 9) := by
  go_enter Tryd.func20, Tryd.ntmps20
  go_wp2_with fail
  go_ret
  exact ⟨rfl, rfl⟩
theorem strs_cell (w : World) (k : Nat) (hk : k < 24) : (w.alloc (.cells (strs nm) 9)).cell? ⟨w.heap.size, k, none⟩ = some (.string (bs (nm.getD k []))) := by
  have hl : nm.length = 24 := by decide
  rw [cell_of_row _ _ _ _ _ _ (heap_alloc_new w _)]
  simp [strs, List.getElem?_eq_getElem (show k < nm.length by omega), List.getD_eq_getElem?_getD]

theorem name_calls (op : Int) (w : World) (hN : NamesAt w) : Calls Tryd.prog 7 #[.int .i64 op] w fun e w' => e = .returned (.string (nameS op)) ∧ w' = w := by
  by_cases h : 0 ≤ op ∧ op < 24
  · rw [nameS_in h]
    obtain ⟨h0, h1⟩ := h
    have hc := hN (op.toNat + 2) (by omega)
    rw [show lab.getD (op.toNat + 2) [] = nm.getD op.toNat [] from rfl, show op.toNat + 2 = (op + 2).toNat by omega] at hc
    clear hN
    generalize bs (nm.getD op.toNat []) = s at *
    go_enter Tryd.func7, Tryd.ntmps7
    go_wp2
    go_ret
    exact ⟨rfl, rfl⟩
  · rw [nameS_out h]
    rcases (by omega : op < 0 ∨ (0 ≤ op ∧ 24 ≤ op)) with h | ⟨h, h1⟩
    all_goals
      clear hN
      go_enter Tryd.func7, Tryd.ntmps7
      go_wp2
      go_ret
      exact ⟨rfl, rfl⟩

theorem rname_calls (op : Int) (w : World) : Calls Tryd.prog 8 #[.int .i64 op] w fun e w' => e = .returned (.string (nameS op)) ∧ Below w.heap.size w w' := by
  by_cases h : 0 ≤ op ∧ op < 24
  · rw [nameS_in h]
    obtain ⟨h0, h1⟩ := h
    have hc := strs_cell w op.toNat (by omega)
    generalize bs (nm.getD op.toNat []) = s at *
    have HB := Lib.hid ((Below.refl w.heap.size w).alloc (Nat.le_refl _) (.cells (strs nm) 9))
    go_enter Tryd.func8, Tryd.ntmps8
    go_wp2_with (go_at_call 20; refine (names_calls _).mono ?_; rintro e w1 ⟨rfl, rfl⟩)
    go_ret
    exact ⟨rfl, HB.out⟩
  · rw [nameS_out h]
    rcases (by omega : op < 0 ∨ (0 ≤ op ∧ 24 ≤ op)) with h | ⟨h, h1⟩
    all_goals
      go_enter Tryd.func8, Tryd.ntmps8
      go_wp2_with fail
      go_ret
      exact ⟨rfl, Below.refl _ _⟩

def isN (s : ByteArray) (k : Nat) : Bool := (bs (nm.getD k [])).toList == s.toList
theorem isN_step {s : ByteArray} {k : Nat} (h : ∀ j, j < k → isN s j = false) (h2 : isN s k = false) : ∀ j, j < k + 1 → isN s j = false := by
  intro j hj
  by_cases e : j = k
  · rw [e]; exact h2
  · exact h j (by omega)
/-- The number of a name. -/
def numS (s : ByteArray) : Int := (((List.range 24).find? (isN s)).map Int.ofNat).getD (-1)
theorem numS_hit {s : ByteArray} {k : Nat} (hk : k < 24) (h1 : ∀ j, j < k → isN s j = false) (h2 : isN s k = true) : (k : Int) = numS s := by
  unfold numS
  have : (List.range 24).find? (isN s) = some k := by
    rw [List.find?_range_eq_some]
    exact ⟨h2, by simpa using hk, fun j hj => by simp [h1 j hj]⟩
  rw [this]; rfl
theorem numS_miss {s : ByteArray} (h1 : ∀ j, j < 24 → isN s j = false) : -1 = numS s := by
  unfold numS
  have : (List.range 24).find? (isN s) = none := by
    rw [List.find?_eq_none]
    intro j hj
    simp [h1 j (by simpa using hj)]
  rw [this]; rfl
theorem nameS_nat {k : Nat} (h : k < 24) : nameS k = bs (nm.getD k []) := by rw [nameS_in (by omega)]; simp

theorem number_calls (s : ByteArray) (w : World) (hN : NamesAt w) : Calls Tryd.prog 9 #[.string s] w fun e w' => e = .returned (.int .i64 (numS s)) ∧ w' = w := by
  have HN := Lib.hid hN
  clear hN
  go_enter Tryd.func9, Tryd.ntmps9
  go_wp2_with fail
  go_loop [4] (fun i => ∃ k : Nat, k ≤ 24 ∧ i = .int .i64 k ∧ Hid (∀ j, j < k → isN s j = false)) (fun i => 24 - (intOf i).toNat)
  case atStart => exact ⟨0, by omega, rfl, Lib.hid (fun j hj => by omega)⟩
  case round =>
    obtain ⟨k, hk, rfl, hall⟩ := hrel
    by_cases hlt : k < 24
    · cases hb : isN s k with
      | true =>
        have hb' : ((nameS k).toList == s.toList) = true := by rw [nameS_nat hlt]; exact hb
        have HH := Lib.hid hb
        clear hb
        go_wp2_with (go_at_call 7; refine (name_calls _ _ HN.out).mono ?_; rintro e w1 ⟨rfl, rfl⟩)
        go_ret
        exact ⟨ret_int (numS_hit hlt hall.out HH.out), rfl⟩
      | false =>
        have hb' : ((nameS k).toList == s.toList) = false := by rw [nameS_nat hlt]; exact hb
        have HH := Lib.hid hb
        clear hb
        go_wp2_with (go_at_call 7; refine (name_calls _ _ HN.out).mono ?_; rintro e w1 ⟨rfl, rfl⟩)
        go_round
        case rel => exact ⟨k + 1, by omega, by go_num, Lib.hid (isN_step hall.out HH.out)⟩
        case measure => simp [intOf]; omega
    · obtain rfl : k = 24 := by omega
      go_wp2_with fail
      go_ret
      exact ⟨ret_int (numS_miss hall.out), rfl⟩

theorem rnumber_calls (s : ByteArray) (w : World) : Calls Tryd.prog 10 #[.string s] w fun e w' => e = .returned (.int .i64 (numS s)) ∧ Below w.heap.size w w' := by
  have HB := Lib.hid ((Below.refl w.heap.size w).alloc (Nat.le_refl _) (.cells (strs nm) 9))
  go_enter Tryd.func10, Tryd.ntmps10
  go_wp2_with (go_at_call 20; refine (names_calls _).mono ?_; rintro e w1 ⟨rfl, rfl⟩)
  go_loop [4] (fun i => ∃ k : Nat, k ≤ 24 ∧ i = .int .i64 k ∧ Hid (∀ j, j < k → isN s j = false)) (fun i => 24 - (intOf i).toNat)
  case atStart => exact ⟨0, by omega, rfl, Lib.hid (fun j hj => by omega)⟩
  case round =>
    obtain ⟨k, hk, rfl, hall⟩ := hrel
    by_cases hlt : k < 24
    · have hc := strs_cell w k hlt
      cases hb : isN s k with
      | true =>
        have HH := Lib.hid hb
        have hb' : ((bs (nm.getD k [])).toList == s.toList) = true := hb
        clear hb
        generalize bs (nm.getD k []) = nk at hb' hc
        go_wp2_with fail
        go_ret
        exact ⟨ret_int (numS_hit hlt hall.out HH.out), HB.out⟩
      | false =>
        have HH := Lib.hid hb
        have hb' : ((bs (nm.getD k [])).toList == s.toList) = false := hb
        clear hb
        generalize bs (nm.getD k []) = nk at hb' hc
        go_wp2_with fail
        go_round
        case rel => exact ⟨k + 1, by omega, by go_num, Lib.hid (isN_step hall.out HH.out)⟩
        case measure => simp [intOf]; omega
    · obtain rfl : k = 24 := by omega
      go_wp2_with fail
      go_ret
      exact ⟨ret_int (numS_miss hall.out), HB.out⟩

theorem names_law (op : Int) (s : ByteArray) (w : World) (hN : NamesAt w) (_ : s.size ≤ maxLen) : Calls Tryd.prog 3 #[.int .i64 op, .string s] w fun e w' => e = .returned (.bool true) ∧ Below w.heap.size w w' := by
  have HN := Lib.hid hN
  have HW := Lib.hid (Below.refl w.heap.size w)
  clear hN
  go_enter Tryd.func3, Tryd.ntmps3
  go_wp2_with (first
    | (go_at_call 6; refine (awake_calls _).mono ?_; rintro e w1 ⟨rfl, hb⟩; replace HW := Lib.hid (below_then' HW.out hb); clear hb)
    | (go_at_call 7; refine (name_calls _ _ (HN.out.below HW.out)).mono ?_; rintro e w1 ⟨rfl, rfl⟩)
    | (go_at_call 8; refine (rname_calls _ _).mono ?_; rintro e w1 ⟨rfl, hb⟩; replace HW := Lib.hid (below_then' HW.out hb); clear hb)
    | (go_at_call 9; refine (number_calls _ _ (HN.out.below HW.out)).mono ?_; rintro e w1 ⟨rfl, rfl⟩)
    | (go_at_call 10; refine (rnumber_calls _ _).mono ?_; rintro e w1 ⟨rfl, hb⟩; replace HW := Lib.hid (below_then' HW.out hb); clear hb))
  all_goals
    go_ret
    exact ⟨rfl, HW.out⟩
end Go.Proofs.YtofibebphfeglaaDoor
