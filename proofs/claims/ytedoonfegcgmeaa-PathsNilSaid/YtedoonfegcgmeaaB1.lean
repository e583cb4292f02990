/- The reference's zero, Components, long and path. -/
import Derived.Test.YtedoonfegcgmeaaA6
namespace Go.Proofs.Ytedoonfegcgmeaa
open Go.RowKit
set_option linter.unusedVariables false
theorem byte_at (s : Bs) (k : Nat) (hk : k < s.length) : ∀ h : k < (⟨s.toArray⟩ : ByteArray).size, (⟨s.toArray⟩ : ByteArray)[k] = s[k] := by
  intro h
  rfl
theorem indexByte_iff (s : Bs) (c : UInt8) : 0 ≤ Lib.indexByte s c ↔ c ∈ s := by
  induction s with
  | nil => simp [Lib.indexByte]
  | cons b l ih =>
    have hge := Lib.indexByte_ge l c
    rw [Lib.indexByte]
    by_cases hb : b = c
    · subst hb; simp
    · have hb2 : (b == c) = false := by simpa using hb
      rw [hb2]
      simp only [Bool.false_eq_true, if_false, beq_iff_eq, List.mem_cons]
      rw [← ih]
      constructor
      · intro h
        split at h
        · omega
        · exact .inr (by omega)
      · rintro (h | h)
        · exact absurd h.symm hb
        · rw [if_neg (by omega)]; omega
theorem zero_calls (s : Bs) (w : World) (hs : s.length ≤ 1000000) : Calls Try.prog 27 #[str s] w fun e w' => e = .returned (.bool (decide (0 ∈ s))) ∧ Below w.heap.size w w' := by
  unfold str
  go_enter Try.func27, Try.ntmps27
  go_wp2
  go_loopw [3] (fun i wr => ∃ k : Nat, k ≤ s.length ∧ i = .int .i64 k ∧ Hid ((∀ j, (h : j < k) → s[j]? ≠ some 0) ∧ Below w.heap.size w wr)) (fun i _ => s.length - (intOf i).toNat)
  case atStart => exact ⟨0, by omega, rfl, Lib.hid ⟨fun j hj => by omega, Below.refl _ _⟩⟩
  case round =>
    obtain ⟨k, hk, rfl, HI⟩ := hrel
    by_cases hlt : k < s.length
    · have hlt' : (k : Int) < (s.length : Int) := by omega
      obtain ⟨b, hbe⟩ : ∃ b, s[k]'hlt = b := ⟨_, rfl⟩
      have hb : ∀ h : k < (⟨s.toArray⟩ : ByteArray).size, (⟨s.toArray⟩ : ByteArray)[k] = b := fun h => (byte_at s k hlt h).trans hbe
      by_cases h0 : b = 0
      · subst h0
        have HM : Hid (decide ((0 : UInt8) ∈ s) = true) := Lib.hid (by rw [decide_eq_true_eq, ← hbe]; exact List.getElem_mem hlt)
        clear hbe
        go_wp2
        go_ret
        exact ⟨by rw [HM.out]; rfl, HI.out.2⟩
      · have hb0 : ((b.toNat : Int) == 0) = false := by
          simp only [beq_eq_false_iff_ne, ne_eq]
          intro h
          exact h0 (UInt8.toNat_inj.1 (by simpa using (by omega : b.toNat = 0)))
        have HN : Hid (∀ j, (h : j < k + 1) → s[j]? ≠ some 0) := Lib.hid fun j hj => by
          rcases Nat.lt_succ_iff_lt_or_eq.1 hj with h | rfl
          · exact HI.out.1 j h
          · rw [List.getElem?_eq_getElem hlt, hbe]
            intro h
            cases h
            exact h0 rfl
        clear hbe h0
        go_wp2
        go_roundw
        case rel => exact ⟨k + 1, by omega, by go_num, Lib.hid ⟨HN.out, HI.out.2⟩⟩
        case measure => simp [intOf]; omega
    · obtain rfl : k = s.length := by omega
      have hge : ¬ ((s.length : Int) < (s.length : Int)) := by omega
      have HM : Hid (decide ((0 : UInt8) ∈ s) = false) := Lib.hid (by
        rw [decide_eq_false_iff_not]
        intro h
        obtain ⟨j, hj, he⟩ := List.getElem_of_mem h
        exact HI.out.1 j hj (by rw [List.getElem?_eq_getElem hj, he]))
      go_wp2
      go_ret
      exact ⟨by rw [HM.out]; rfl, HI.out.2⟩
/-- The cells of a slice of strings. -/
theorem row_at {w : World} {base : Nat} {v : Value} {l : List Bs} (h : w.ownsRow base 9 1 v l.length (strs l)) : ∃ A cap, v = .slice A l.length cap ∧ l.length ≤ cap ∧
    ∀ k (hk : k < l.length), ∃ g, A = some ⟨g, 0, none⟩ ∧ g < w.heap.size ∧ w.cell? ⟨g, k, none⟩ = some (str l[k]) := by
  rcases h.2 with ⟨rfl, h0⟩ | ⟨g, cap, cur, rfl, hg, hh, hn, hcap, hsz, htake⟩
  · have hl : l.length = 0 := by first | exact h0 | exact h0.1 | exact h0.symm | exact h0.1.symm
    refine ⟨none, 0, by rw [hl], by omega, fun k hk => by omega⟩
  · refine ⟨_, cap, rfl, hn, fun k hk => ⟨g, rfl, (Array.getElem?_eq_some_iff.1 hh).1, ?_⟩⟩
    rw [cell_of_row _ _ _ _ _ _ hh]
    have h3 : (cur.toList.take (l.length * 1))[k]? = some (str l[k]) := by
      rw [htake]
      unfold strs
      rw [List.getElem?_map, List.getElem?_eq_getElem hk]
      rfl
    rw [List.getElem?_take, if_pos (by omega)] at h3
    simpa using h3
theorem long_calls (base : Nat) (v : Value) (l : List Bs) (w : World) (h : w.ownsRow base 9 1 v l.length (strs l)) (hl : l.length ≤ 1000000) (hs : ∀ x ∈ l, x.length ≤ 1000000) : Calls Try.prog 29 #[v] w fun e w' => e = .returned (.bool (longB l)) ∧ Below w.heap.size w w' := by
  obtain ⟨A, cap, rfl, _, hat⟩ := row_at h
  have HAT := Lib.hid hat
  have HS := Lib.hid hs
  clear hat h hs
  go_enter Try.func29, Try.ntmps29
  go_wp2
  go_loopw [3] (fun i wr => ∃ k : Nat, k ≤ l.length ∧ i = .int .i64 k ∧ Hid (longB (l.take k) = false ∧ Below w.heap.size w wr)) (fun i _ => l.length - (intOf i).toNat)
  case atStart => exact ⟨0, by omega, rfl, Lib.hid ⟨rfl, Below.refl _ _⟩⟩
  case round =>
    obtain ⟨k, hk, rfl, HI⟩ := hrel
    by_cases hlt : k < l.length
    · have hlt' : (k : Int) < (l.length : Int) := by omega
      obtain ⟨g, rfl, hg, hc⟩ := HAT.out k hlt
      have hc2 := (HI.out.2.cell (p := ⟨g, k, none⟩) hg).trans hc
      have hxl := HS.out l[k] (List.getElem_mem hlt)
      have hsn : longB (l.take (k + 1)) = (longB (l.take k) || decide (64 < l[k].length)) := by rw [List.take_succ_eq_append_getElem hlt, longB_snoc]
      have hpre : l.take (k + 1) <+: l := List.take_prefix _ _
      generalize l[k] = x at *
      have HSN := Lib.hid (And.intro hsn hpre)
      unfold str at hc2
      clear hc hsn hpre
      by_cases hx : 64 < x.length
      · have hx' : (64 : Int) < (x.length : Int) := by omega
        have HL : Hid (longB l = true) := Lib.hid (longB_prefix HSN.out.2 (by rw [HSN.out.1]; simp [hx]))
        go_wp2
        go_ret
        exact ⟨by rw [HL.out]; rfl, HI.out.2⟩
      · have hx' : ¬ (64 : Int) < (x.length : Int) := by omega
        have HN : Hid (longB (l.take (k + 1)) = false) := Lib.hid (by rw [HSN.out.1, HI.out.1]; simpa using hx)
        go_wp2
        go_roundw
        case rel => exact ⟨k + 1, by omega, by go_num, Lib.hid ⟨HN.out, HI.out.2⟩⟩
        case measure => simp [intOf]; omega
    · obtain rfl : k = l.length := by omega
      have hge : ¬ ((l.length : Int) < (l.length : Int)) := by omega
      have HL : Hid (longB l = false) := Lib.hid (by have := HI.out.1; rwa [List.take_length] at this)
      go_wp2
      go_ret
      exact ⟨by rw [HL.out]; rfl, HI.out.2⟩
end Go.Proofs.Ytedoonfegcgmeaa
