import Derived.Test.YtbojagkalbfenaaL5
namespace Go.Proofs.Ytbojagkalbfenaa
set_option linter.unusedSimpArgs false
open Go.RowKit PIovGather Go.Proofs.YtbojagkalbfenaaW.PrintWords

theorem rd_cons {l : List Int} {i : Nat} (h : i < l.length) : l.drop i = rd l i :: l.drop (i + 1) := by
  rw [List.drop_eq_getElem_cons h]
  simp [rd, List.getD_eq_getElem?_getD, List.getElem?_eq_getElem h]

theorem rinside_l0 (mem at_ : List Int) (hl : at_.length ≤ 1000000) : ∀ (c k i : Nat), i + c = at_.length → c < k →
    orpimentref09_inside.l0 k mem at_ i = some ((at_.drop i).all fun a => decide (a < mem.length))
  | 0, k + 1, i, hi, _ => by
    simp only [orpimentref09_inside.l0, show ¬ ((i : Int) < (at_.length : Int)) by omega, if_false]
    rw [List.drop_eq_nil_of_le (by omega)]
    rfl
  | c + 1, k + 1, i, hi, hk => by
    have hlt : i < at_.length := by omega
    have ih := rinside_l0 mem at_ hl c k (i + 1) (by omega) (by omega)
    rw [show ((i + 1 : Nat) : Int) = (i : Int) + 1 by omega] at ih
    simp only [orpimentref09_inside.l0, show (i : Int) < (at_.length : Int) by omega, show (0 : Int) ≤ (i : Int) by omega, if_true]
    rw [w64 (x := (i : Int) + 1) (by omega) (by omega), ih, rd_cons hlt, List.all_cons]
    by_cases h : rd at_ i ≥ (mem.length : Int)
    · simp [h, show ¬ (rd at_ i < (mem.length : Int)) by omega]
    · simp [h, show rd at_ i < (mem.length : Int) by omega]
theorem seg_all (n : Nat) : ∀ (c : Nat) (a : Int), 1 ≤ c → ((seg a c).all fun x => decide (x < n)) = decide (a + c ≤ n)
  | 1, a, _ => by simp only [seg, List.all_cons, List.all_nil, Bool.and_true]; exact decide_eq_decide.2 (by omega)
  | c + 2, a, _ => by
    have ih := seg_all n (c + 1) (a + 1) (by omega)
    simp only [seg, List.all_cons] at ih ⊢
    rw [ih, ← Bool.decide_and]
    congr 1
    rw [eq_iff_iff]
    omega
theorem addrs_inside (n : Nat) : ∀ (xs : List (Int × Int)), (∀ x ∈ xs, 1 ≤ x.2) → ((addrs xs).all fun a => decide (a < n)) = insideB n xs
  | [], _ => rfl
  | x :: xs, h => by
    have ih := addrs_inside n xs (fun y hy => h y (List.mem_cons_of_mem _ hy))
    have hx := h x List.mem_cons_self
    simp only [addrs, List.flatMap_cons, List.all_append, insideB, List.all_cons] at ih ⊢
    rw [ih, seg_all n x.2.toNat x.1 (by omega)]
    congr 2
    rw [eq_iff_iff]
    omega
theorem addrs_length : ∀ {xs : List (Int × Int)}, (∀ x ∈ xs, x.2 ≤ 4096) → (addrs xs).length ≤ 4096 * xs.length
  | [], _ => by simp [addrs]
  | x :: xs, h => by
    have ih := addrs_length (xs := xs) (fun y hy => h y (List.mem_cons_of_mem _ hy))
    have hx := h x List.mem_cons_self
    simp only [addrs, List.flatMap_cons, List.length_append, seg_length, List.length_cons] at ih ⊢
    omega
theorem addrs_fine {xs : List (Int × Int)} (h : fine xs) : (addrs xs).length ≤ 65536 := by
  have h1 := addrs_length (fun x hx => (h.2 x hx).2.2)
  have h2 := h.1
  omega
theorem rinside_f {xs : List (Int × Int)} (h : fine xs) (mem : List Int) {k : Nat} (hk : 70000 ≤ k) : orpimentref09_inside.f k mem (addrs xs) = some (insideB mem.length xs) := by
  have h1 := addrs_fine h
  have := rinside_l0 mem (addrs xs) (by omega) (addrs xs).length k 0 (by omega) (by omega)
  rw [show ((0 : Nat) : Int) = 0 from rfl, List.drop_zero, addrs_inside _ _ (fun x hx => (h.2 x hx).2.1)] at this
  exact this

theorem rgather_l0 (mem at_ : List Int) (hl : at_.length ≤ 1000000) (hin : ∀ a ∈ at_, 0 ≤ a ∧ a < mem.length) : ∀ (c k i : Nat) (out : List Int), i + c = at_.length → c < k → out.length ≤ i →
    orpimentref09_Gather.l0 k mem at_ out i = some (out ++ (at_.drop i).map (rd mem), 0)
  | 0, k + 1, i, out, hi, _, _ => by
    simp only [orpimentref09_Gather.l0, show ¬ ((i : Int) < (at_.length : Int)) by omega, if_false]
    rw [List.drop_eq_nil_of_le (by omega)]
    simp
  | c + 1, k + 1, i, out, hi, hk, ho => by
    have hlt : i < at_.length := by omega
    have hd := rd_cons hlt
    have hb := hin (rd at_ i) (List.mem_of_mem_drop (by rw [hd]; exact List.mem_cons_self))
    have ih := rgather_l0 mem at_ hl hin c k (i + 1) (out ++ [rd mem (rd at_ i)]) (by omega) (by omega) (by simp; omega)
    rw [show ((i + 1 : Nat) : Int) = (i : Int) + 1 by omega] at ih
    simp only [orpimentref09_Gather.l0, show (i : Int) < (at_.length : Int) by omega, show (0 : Int) ≤ (i : Int) by omega, hb.1, hb.2, if_true]
    rw [if_pos (by omega), w64 (x := (i : Int) + 1) (by omega) (by omega), ih, hd]
    simp

/-- The bytes of parts, as whole numbers. -/
def gatherI (mem : List Int) (xs : List (Int × Int)) : List Int := xs.flatMap fun x => (mem.drop x.1.toNat).take x.2.toNat
theorem gatherL_map (mem : List Int) (f : Int → Value) (xs : List (Int × Int)) : gatherL (mem.map f) xs = (gatherI mem xs).map f := by
  simp only [gatherL, gatherI, List.map_flatMap, List.map_take, List.map_drop]
  rfl
theorem seg_map (mem : List Int) : ∀ (c : Nat) (a : Int), 0 ≤ a → a + c ≤ mem.length → (seg a c).map (rd mem) = (mem.drop a.toNat).take c
  | 0, a, _, _ => by simp [seg]
  | c + 1, a, h0, h1 => by
    have ih := seg_map mem c (a + 1) (by omega) (by omega)
    have hd := rd_cons (l := mem) (i := a.toNat) (by omega)
    rw [show ((a.toNat : Nat) : Int) = a by omega] at hd
    rw [hd]
    simp only [seg, List.map_cons, List.take_succ_cons, ih]
    rw [show (a + 1).toNat = a.toNat + 1 by omega]
theorem addrs_map (mem : List Int) : ∀ (xs : List (Int × Int)), (∀ x ∈ xs, 0 ≤ x.1 ∧ 0 ≤ x.2) → insideB mem.length xs = true → (addrs xs).map (rd mem) = gatherI mem xs
  | [], _, _ => rfl
  | x :: xs, h, hi => by
    have hx := h x List.mem_cons_self
    simp only [insideB, List.all_cons, Bool.and_eq_true, decide_eq_true_eq] at hi
    have ih := addrs_map mem xs (fun y hy => h y (List.mem_cons_of_mem _ hy)) hi.2
    simp only [addrs, gatherI, List.flatMap_cons, List.map_append] at ih ⊢
    rw [ih, seg_map mem x.2.toNat x.1 hx.1 (by omega)]
theorem seg_mem : ∀ (c : Nat) (a : Int), ∀ y ∈ seg a c, a ≤ y
  | 0, _, y, h => by simp [seg] at h
  | c + 1, a, y, h => by
    rcases List.mem_cons.1 h with rfl | h
    · omega
    · have := seg_mem c (a + 1) y h; omega

/-- The reference's answer. -/
theorem rgather_f (mem : List Int) (l : List S44) (off n : Int) {k : Nat} (hk : 70000 ≤ k) :
    orpimentref09_Gather.f k mem l off n = some (if wth (prs l) off n = 0 then (if insideB mem.length (slicedL (prs l) off n) = true then (gatherI mem (slicedL (prs l) off n), 0) else ([], 11)) else ([], wth (prs l) off n)) := by
  obtain ⟨r, hr, hp⟩ := rslice_f l off n (k := k) (by omega)
  rw [orpimentref09_Gather.f, hr, Option.bind_some]
  by_cases h : wth (prs l) off n = 0
  · rw [if_pos h] at hp
    have hc : chk (prs l) = 0 := by
      unfold wth at h
      split at h
      · assumption
      · assumption
    obtain ⟨h1, h2, h3, h4⟩ := chk_zero hc
    have hoff : 0 ≤ off := by
      unfold wth at h
      rw [if_pos hc] at h
      split at h
      · cases h
      · omega
    have hf := fine_sliced (n := n) h1 h2 hoff
    rw [if_pos h, if_pos h, addrs_f (by rw [hp]; exact hf) hk, Option.bind_some, hp, rinside_f hf mem hk, Option.bind_some]
    by_cases g : insideB mem.length (slicedL (prs l) off n) = true
    · rw [if_pos g, if_pos g]
      have hlen := addrs_fine hf
      have hall : ∀ a ∈ addrs (slicedL (prs l) off n), 0 ≤ a ∧ a < mem.length := by
        intro a ha
        refine ⟨?_, ?_⟩
        · obtain ⟨x, hx, hax⟩ := List.mem_flatMap.1 ha
          have := seg_mem _ _ a hax
          have := (hf.2 x hx).1.1
          omega
        · have := addrs_inside mem.length _ (fun x hx => (hf.2 x hx).2.1)
          rw [g, List.all_eq_true] at this
          simpa using this a ha
      have := rgather_l0 mem _ (by omega) hall (addrs (slicedL (prs l) off n)).length k 0 [] (by omega) (by omega) (by simp)
      rw [show ((0 : Nat) : Int) = 0 from rfl, List.drop_zero, List.nil_append, addrs_map mem _ (fun x hx => ⟨(hf.2 x hx).1.1, by have := (hf.2 x hx).2.1; omega⟩) g] at this
      exact this
    · rw [if_neg g, if_neg g]
  · rw [if_neg h, if_neg h]
end Go.Proofs.Ytbojagkalbfenaa
