/- The reference's number and label. -/
import Derived.Test.YtofibebphfeglaaDoorX8
namespace Go.Proofs.YtofibebphfeglaaDoor
open Go.RowKit
set_option linter.unusedVariables false
theorem digsOf_take {r : Bs} {j : Nat} (h : (r.take j).all isD = true) (h10 : j ≤ 10) (hl : j ≤ r.length) (he : j < r.length → j < 10 → ∀ c, r[j]? = some c → isD c = false) : digsOf r = r.take j := by
  have e : r = r.take j ++ r.drop j := (List.take_append_drop j r).symm
  have hlen : (r.take j).length = j := by simp; omega
  have tw1 : ∀ (a b : Bs), a.all isD = true → (a ++ b).takeWhile isD = a ++ b.takeWhile isD := by
    intro a b ha
    induction a with
    | nil => rfl
    | cons c a ih =>
      simp only [List.all_cons, Bool.and_eq_true] at ha
      rw [List.cons_append, List.takeWhile_cons, if_pos ha.1, ih ha.2, List.cons_append]
  unfold digsOf
  conv => lhs; rw [e, tw1 _ _ h]
  rcases Nat.lt_or_ge j 10 with h1 | h1
  · have : (r.drop j).takeWhile isD = [] := by
      cases hd : r.drop j with
      | nil => rfl
      | cons c t =>
        have hj : r[j]? = some c := by
          have := congrArg List.head? hd
          rw [List.head?_drop] at this
          exact this
        have hjl : j < r.length := (List.getElem?_eq_some_iff.1 hj).1
        rw [List.takeWhile_cons, if_neg (by rw [he hjl h1 c hj]; decide)]
    rw [this, List.append_nil, List.take_of_length_le (by omega)]
  · obtain rfl : j = 10 := by omega
    rw [List.take_left' hlen]
def rnumV (k : Nat) : Option (Int × Nat) → Value
  | some (v, n) => .tuple #[.int .i64 v, .int .i64 ((k + n : Nat) : Int)]
  | none => .tuple #[.int .i64 0, .int .i64 (-1)]
theorem val_bd {l : Bs} (h : l.all isD = true) (h10 : l.length ≤ 10) : val l < 10000000000 := by
  have := valA_lt l h 0 0 (by simp)
  refine Nat.lt_of_lt_of_le this ?_
  rw [Nat.zero_add, show (10000000000 : Nat) = 10 ^ 10 by decide]
  exact Nat.pow_le_pow_right (by omega) h10
theorem is48 {c : UInt8} (e : (c.toNat : Int) = 48) : c = 48 := by
  have h : (48 : UInt8).toNat = 48 := by decide
  exact UInt8.toNat_inj.1 (by omega)
theorem is10 {c : UInt8} (e : (c.toNat : Int) = 10) : c = 10 := by
  have h : (10 : UInt8).toNat = 10 := by decide
  exact UInt8.toNat_inj.1 (by omega)
theorem drop_at (s : Bs) (k j : Nat) : (s.drop k)[j]? = s[k + j]? := by rw [List.getElem?_drop]
theorem getB (s : Bs) (i : Nat) (c : UInt8) (hc : s[i]? = some c) (h : i < (⟨s.toArray⟩ : ByteArray).size) : (⟨s.toArray⟩ : ByteArray)[i]'h = c := by
  have h2 : i < s.length := (List.getElem?_eq_some_iff.1 hc).1
  have : s[i] = c := (List.getElem?_eq_some_iff.1 hc).2
  rw [← this]
  show s.toArray[i] = _
  simp
/-- What number finds behind its loop. -/
structure AtEnd (s : Bs) (k j : Nat) : Prop where
  all : ((s.drop k).take j).all isD = true
  le : j ≤ 10
  len : k + j ≤ s.length
  stop : k + j < s.length → j < 10 → ∀ c, s[k + j]? = some c → isD c = false
theorem AtEnd.digs {s : Bs} {k j : Nat} (h : AtEnd s k j) : digsOf (s.drop k) = (s.drop k).take j ∧ ((s.drop k).take j).length = j := by
  have hl : j ≤ (s.drop k).length := by rw [List.length_drop]; have := h.len; omega
  refine ⟨digsOf_take h.all h.le hl fun h1 h2 c hc => ?_, by simp; have := h.len; omega⟩
  rw [drop_at] at hc
  rw [List.length_drop] at h1
  exact h.stop (by omega) h2 c hc
theorem AtEnd.bad {s : Bs} {k j : Nat} (h : AtEnd s k j) (hb : ¬ (1 ≤ j ∧ j ≤ 9 ∧ (1 < j → s[k]? ≠ some 48) ∧ s[k + j]? = some 10)) : rnumV k (rnum (s.drop k)) = .tuple #[.int .i64 0, .int .i64 (-1)] := by
  obtain ⟨h1, h2⟩ := h.digs
  have : rnum (s.drop k) = none := by
    unfold rnum
    rw [h1, h2, drop_at, if_neg]
    rintro ⟨h3, h4⟩
    obtain ⟨g1, g2, g3, _⟩ := numOK_spec h3
    apply hb
    refine ⟨?_, by omega, fun hj => ?_, h4⟩
    · have := List.length_pos_iff.2 g1
      omega
    · have := g3 (by omega)
      rwa [List.head?_take, if_neg (by omega), List.head?_drop] at this
  rw [this]
  rfl
theorem AtEnd.good {s : Bs} {k j : Nat} (h : AtEnd s k j) (h1 : 1 ≤ j) (h9 : j ≤ 9) (hz : 1 < j → s[k]? ≠ some 48) (hc : s[k + j]? = some 10) : rnumV k (rnum (s.drop k)) = .tuple #[.int .i64 (val ((s.drop k).take j) : Int), .int .i64 ((k + j : Nat) : Int)] := by
  obtain ⟨g1, g2⟩ := h.digs
  have hok : numOK ((s.drop k).take j) = true := by
    unfold numOK
    rw [h.all, g2]
    have e1 : ((s.drop k).take j).isEmpty = false := by
      rw [List.isEmpty_eq_false_iff]
      intro e
      rw [e] at g2
      simp at g2
      omega
    rw [e1]
    by_cases hj : 1 < j
    · have := hz hj
      have e2 : ((s.drop k).take j).head? ≠ some 48 := by rwa [List.head?_take, if_neg (by omega), List.head?_drop]
      simp [h9, e2]
    · simp [h9, hj]
  unfold rnum
  rw [g1, g2, drop_at, if_pos ⟨hok, hc⟩]
  rfl
theorem take_next {s : Bs} {k j : Nat} {c : UInt8} (hc : s[k + j]? = some c) : (s.drop k).take (j + 1) = (s.drop k).take j ++ [c] := by
  rw [← drop_at] at hc
  obtain ⟨h1, h2⟩ := List.getElem?_eq_some_iff.1 hc
  rw [List.take_succ_eq_append_getElem h1, h2]
set_option maxHeartbeats 4000000 in
set_option maxRecDepth 100000 in
theorem rnum_calls (s : Bs) (k : Nat) (w : World) (hk : k ≤ s.length) (hs : s.length ≤ 1000000) : Calls Tryd.prog 32 #[bstr s, .int .i64 k] w fun e w' => e = .returned (rnumV k (rnum (s.drop k))) ∧ w' = w := by
  unfold bstr
  go_enter Tryd.func32, Tryd.ntmps32
  go_wp2_with fail
  go_loopw [6, 7] (fun n i wr => ∃ j : Nat, j ≤ 10 ∧ k + j ≤ s.length ∧ i = .int .i64 ((k + j : Nat) : Int) ∧ ∃ v : Nat, n = .int .i64 (v : Int) ∧ v < 10000000000 ∧ Hid (((s.drop k).take j).all isD = true ∧ v = val ((s.drop k).take j)) ∧ wr = w) (fun _ i _ => s.length - (intOf i).toNat)
  case atStart => exact ⟨0, by omega, by omega, rfl, 0, rfl, by omega, Lib.hid ⟨rfl, rfl⟩, rfl⟩
  case round =>
    obtain ⟨j, h10, hj, rfl, v, rfl, hvb, HA, rfl⟩ := hrel
    by_cases h1 : k + j < s.length
    · obtain ⟨c, hc⟩ : ∃ c, s[k + j]? = some c := ⟨_, List.getElem?_eq_getElem h1⟩
      obtain ⟨c0, hc0⟩ : ∃ c, s[k]? = some c := ⟨_, List.getElem?_eq_getElem (by omega)⟩
      have hB := getB s (k + j) c hc
      have hB0 := getB s k c0 hc0
      have h1' : (k : Int) + j < s.length := by omega
      have HC := Lib.hid (And.intro hc hc0)
      clear hc hc0
      by_cases h2 : j < 10 ∧ isD c = true
      · obtain ⟨h2, h3⟩ := h2
        have h4 : 48 ≤ c.toNat ∧ c.toNat ≤ 57 := by simpa [isD] using h3
        obtain ⟨h5, h6⟩ := h4
        have h2' : (k : Int) + j - k < 10 := by omega
        have h5' : (48 : Int) ≤ (c.toNat : Int) := by omega
        have h6' : (c.toNat : Int) ≤ 57 := by omega
        go_wp2_with fail
        have hnx := take_next HC.out.1
        have hall : ((s.drop k).take (j + 1)).all isD = true := by rw [hnx, List.all_append, HA.out.1]; simp [h3]
        have hvn : val ((s.drop k).take (j + 1)) = v * 10 + (c.toNat - 48) := by
          rw [hnx]
          have := valA_snoc 0 ((s.drop k).take j) c
          unfold val
          rw [this]
          have := HA.out.2
          unfold val at this
          rw [← this]
        have hb := val_bd hall (by simp; omega)
        refine ⟨⟨j + 1, by omega, by omega, by congr 1 <;> omega, v * 10 + (c.toNat - 48), by congr 1 <;> omega, by omega, Lib.hid ⟨hall, hvn.symm⟩, trivial⟩, ?_⟩
        simp [intOf]
        omega
      · have HE : Hid (AtEnd s k j) := Lib.hid ⟨HA.out.1, h10, hj, fun _ hj10 c' hc' => by
          rw [HC.out.1] at hc'
          injection hc' with hc'
          subst hc'
          cases hd : isD c with
          | false => rfl
          | true => exact absurd ⟨hj10, hd⟩ h2⟩
        rcases Nat.lt_or_ge j 10 with hj10 | hj10
        · have hnd : isD c = false := by
            cases hd : isD c with
            | false => rfl
            | true => exact absurd ⟨hj10, hd⟩ h2
          have hcd : c.toNat < 48 ∨ 57 < c.toNat := by
            unfold isD at hnd
            simp at hnd
            omega
          have h2' : (k : Int) + j - k < 10 := by omega
          clear h2 hnd
          by_cases hg : 1 ≤ j ∧ (1 < j → c0 ≠ 48) ∧ c = 10
          · obtain ⟨g1, g2, rfl⟩ := hg
            have HG := Lib.hid (HE.out.good g1 (by omega) (fun hj => by rw [HC.out.2]; intro e; injection e with e; exact g2 hj e) HC.out.1)
            have g3 : ¬ (k : Int) + j - k < 1 := by omega
            have g4 : ¬ 9 < (k : Int) + j - k := by omega
            rcases Nat.lt_or_ge 1 j with hj1 | hj1
            · have g5 : (1 : Int) < (k : Int) + j - k := by omega
              have g6 : ¬ ((c0.toNat : Int) = 48) := fun e => g2 hj1 (is48 e)
              have g7 : ((c0.toNat : Int) == 48) = false := by simpa using g6
              clear g2 hcd
              go_wp2_with fail
              go_ret2
              exact ⟨by rw [HG.out, ← HA.out.2]; simp, rfl⟩
            · have g5 : ¬ (1 : Int) < (k : Int) + j - k := by omega
              clear g2 hcd
              go_wp2_with fail
              go_ret2
              exact ⟨by rw [HG.out, ← HA.out.2]; simp, rfl⟩
          · have HBD := Lib.hid (HE.out.bad (fun hx => hg ⟨hx.1, fun h e => hx.2.2.1 h (by rw [HC.out.2, e]), by
              have := hx.2.2.2
              rw [HC.out.1] at this
              injection this⟩))
            rcases (by omega : j = 0 ∨ 1 ≤ j) with hj0 | hj0
            · have g3 : (k : Int) + j - k < 1 := by omega
              clear hg hj0
              rcases hcd with hcd | hcd
              · have g5 : ¬ (48 : Int) ≤ (c.toNat : Int) := by omega
                go_wp2_with fail
                all_goals
                  go_ret2
                  exact ⟨by first | (rw [HBD.out]; rfl) | rw [HBD.out], rfl⟩
              · have g5 : (48 : Int) ≤ (c.toNat : Int) := by omega
                have g6 : ¬ (c.toNat : Int) ≤ 57 := by omega
                go_wp2_with fail
                all_goals
                  go_ret2
                  exact ⟨by first | (rw [HBD.out]; rfl) | rw [HBD.out], rfl⟩
            · by_cases hz : 1 < j ∧ c0 = 48
              · obtain ⟨hz1, rfl⟩ := hz
                have g3 : ¬ (k : Int) + j - k < 1 := by omega
                have g4 : ¬ 9 < (k : Int) + j - k := by omega
                have g7 : (1 : Int) < (k : Int) + j - k := by omega
                clear hg
                rcases hcd with hcd | hcd
                · have g5 : ¬ (48 : Int) ≤ (c.toNat : Int) := by omega
                  go_wp2_with fail
                  all_goals
                    go_ret2
                    exact ⟨by first | (rw [HBD.out]; rfl) | rw [HBD.out], rfl⟩
                · have g5 : (48 : Int) ≤ (c.toNat : Int) := by omega
                  have g6 : ¬ (c.toNat : Int) ≤ 57 := by omega
                  go_wp2_with fail
                  all_goals
                    go_ret2
                    exact ⟨by first | (rw [HBD.out]; rfl) | rw [HBD.out], rfl⟩
              · have hc10 : ¬ c = 10 := fun e => hg ⟨hj0, fun h e2 => hz ⟨h, e2⟩, e⟩
                have g8 : ¬ ((c.toNat : Int) = 10) := fun e => hc10 (is10 e)
                have g9 : ((c.toNat : Int) != 10) = true := by simpa using g8
                clear hg hz hc10
                rcases hcd with hcd | hcd
                · have g5 : ¬ (48 : Int) ≤ (c.toNat : Int) := by omega
                  go_wp2_with fail
                  all_goals
                    go_ret2
                    exact ⟨by first | (rw [HBD.out]; rfl) | rw [HBD.out], rfl⟩
                · have g5 : (48 : Int) ≤ (c.toNat : Int) := by omega
                  have g6 : ¬ (c.toNat : Int) ≤ 57 := by omega
                  go_wp2_with fail
                  all_goals
                    go_ret2
                    exact ⟨by first | (rw [HBD.out]; rfl) | rw [HBD.out], rfl⟩
        · obtain rfl : j = 10 := by omega
          have HBD := Lib.hid (HE.out.bad (fun hx => by have := hx.2.1; omega))
          have g3 : ¬ (k : Int) + 10 - k < 10 := by omega
          have g4 : 9 < (k : Int) + 10 - k := by omega
          have g5 : ¬ (k : Int) + 10 - k < 1 := by omega
          clear h2
          go_wp2_with fail
          all_goals
            go_ret2
            exact ⟨by first | (rw [HBD.out]; rfl) | rw [HBD.out], rfl⟩
    · have HE : Hid (AtEnd s k j) := Lib.hid ⟨HA.out.1, h10, hj, fun h _ _ _ => absurd h h1⟩
      have hkl : k + j = s.length := by omega
      have HBD := Lib.hid (HE.out.bad (fun hx => by
        have := hx.2.2.2
        rw [List.getElem?_eq_none (by omega)] at this
        cases this))
      have h1' : ¬ (k : Int) + j < s.length := by omega
      have h2' : (s.length : Int) ≤ (k : Int) + j := by omega
      clear h1
      rcases (by omega : j = 0 ∨ 1 ≤ j) with hj0 | hj0
      · have g3 : (k : Int) + j - k < 1 := by omega
        clear hj0
        go_wp2_with fail
        all_goals
          go_ret2
          exact ⟨by first | (rw [HBD.out]; rfl) | rw [HBD.out], rfl⟩
      · obtain ⟨c0, hc0⟩ : ∃ c, s[k]? = some c := ⟨_, List.getElem?_eq_getElem (by omega)⟩
        have hB0 := getB s k c0 hc0
        clear hc0
        go_wp2_with fail
        all_goals
          go_ret2
          exact ⟨by first | (rw [HBD.out]; rfl) | rw [HBD.out], rfl⟩
end Go.Proofs.YtofibebphfeglaaDoor
