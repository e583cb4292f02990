/- Plain words: Parse undoes Text, and Text undoes Parse. -/
import Derived.Test.YtofibebphfeglaaDoorX12
namespace Go.Proofs.YtofibebphfeglaaDoor
def tl (T0 : List Int) (i j : Nat) : Bs := (List.range j).flatMap fun m => lineS T0 (i + m)
theorem tl_zero (T0 : List Int) (i : Nat) : tl T0 i 0 = [] := rfl
theorem tl_succ (T0 : List Int) (i j : Nat) : tl T0 i (j + 1) = lineS T0 i ++ tl T0 (i + 1) j := by
  unfold tl
  rw [List.range_succ_eq_map, List.flatMap_cons, List.flatMap_map, Nat.add_zero]
  congr 1
  refine congrArg (fun f => List.flatMap f (List.range j)) ?_
  funext m
  rw [show i + m.succ = i + 1 + m by omega]
theorem txtK_tl (T0 : List Int) (k : Nat) : txtK T0 k = tl T0 0 k := by
  unfold txtK tl
  simp
theorem lineS_lbl (T0 : List Int) (i : Nat) : lineS T0 i = lbl i ++ (dec (T0.getD i 0) ++ [10]) := by
  unfold lineS lbl
  simp
theorem hasP_app (a b : Bs) : Lib.hasPrefix (a ++ b) a = true := List.isPrefixOf_iff_prefix.2 (List.prefix_append _ _)
theorem dec_ok {n : Int} (h1 : n ≤ 1000) : numOK (dec n) = true := decD_ok _ (by omega)
theorem dec_val {n : Int} (h0 : 0 ≤ n) : (val (dec n) : Int) = n := by
  unfold dec
  rw [decD_val]
  omega
/-- One line of a text is read. -/
theorem ref_line (T0 : List Int) (i j k : Nat) (r : Bs) (T : List Int) (h0 : 0 ≤ T0.getD i 0) (h1 : T0.getD i 0 ≤ 1000) :
    refF (j + 1) i k (lineS T0 i ++ r) T = refF j (i + 1) (k + (lineS T0 i).length) r (T.set i (T0.getD i 0)) := by
  rw [lineS_lbl, List.append_assoc]
  conv => lhs; unfold refF
  have e : ∀ x : Bs, (dec (T0.getD i 0) ++ [10]) ++ x = dec (T0.getD i 0) ++ 10 :: x := by intro x; simp
  rw [if_pos (hasP_app _ _), List.drop_left, e, rnum_line (dec_ok h1)]
  simp only
  rw [dec_val h0]
  have e2 : (lbl i ++ (dec (T0.getD i 0) ++ 10 :: r)).drop ((lbl i).length + (dec (T0.getD i 0)).length + 1) = r := by
    rw [← List.append_assoc, show (lbl i).length + (dec (T0.getD i 0)).length + 1 = (lbl i ++ dec (T0.getD i 0)).length + 1 by simp, ← List.drop_drop, List.drop_left]
    rfl
  have e3 : (lbl i ++ (dec (T0.getD i 0) ++ [10])).length = (lbl i).length + (dec (T0.getD i 0)).length + 1 := by
    rw [List.length_append, List.length_append]
    rfl
  rw [e2, e3]
theorem ref_text (T0 : List Int) (hl : T0.length = 26) (hT : ∀ m, m < 26 → 0 ≤ T0.getD m 0 ∧ T0.getD m 0 ≤ 1000) : ∀ (j i k : Nat) (T : List Int), i + j = 26 → T.length = 26 → (∀ m, m < i → T.getD m 0 = T0.getD m 0) →
    refF j i k (tl T0 i j) T = .ok (k + (tl T0 i j).length, T0)
  | 0, i, k, T, hi, hTl, hs => by
    obtain rfl : i = 26 := by omega
    have : T = T0 := by
      apply List.ext_getElem (by omega)
      intro m h1 h2
      have := hs m (by omega)
      simpa [List.getD_eq_getElem?_getD, h1, h2] using this
    rw [this]
    rfl
  | j + 1, i, k, T, hi, hTl, hs => by
    obtain ⟨h0, h1⟩ := hT i (by omega)
    rw [tl_succ, ref_line T0 i j k _ T h0 h1, ref_text T0 hl hT j (i + 1) _ _ (by omega) (by rw [List.length_set]; exact hTl), List.length_append]
    · congr 2
      omega
    · intro m hm
      by_cases e : m = i
      · subst e
        simp [List.getD_eq_getElem?_getD, show m < T.length by omega]
      · rw [← hs m (by omega)]
        simp [List.getD_eq_getElem?_getD, List.getElem?_set, Ne.symm e]
/-- Parse undoes Text. -/
theorem parsed_text {s c : Int} {l : List Int} (hl : l.length = 24) (hok : okT s c l = true) : parsed (textS s c l) = (s :: c :: l, 0, 0) := by
  have hlen := txtK_len hl hok 26 (by omega)
  have hT0 : (s :: c :: l).length = 26 := by simp [hl]
  rw [parsed_ref, if_neg (by unfold textS; omega)]
  have h := ref_text (s :: c :: l) hT0 (fun m hm => getT hl hok m hm) 26 0 0 z26 rfl z26_len (fun m hm => by omega)
  unfold textS
  rw [txtK_tl, h]
  simp only [finR]
  rw [if_neg (by omega)]
  unfold finT
  rw [show chkT (s :: c :: l) = chk s c l from rfl, chk_t hok, if_pos rfl]
/-- What was read is the text of the numbers read. -/
theorem ref_back : ∀ (j i k : Nat) (r : Bs) (T : List Int) (k2 : Nat) (T2 : List Int), i + j = 26 → T.length = 26 → refF j i k r T = .ok (k2, T2) → T2.length = 26 ∧ (∀ m, m < i → T2.getD m 0 = T.getD m 0) ∧ ∃ rest, r = tl T2 i j ++ rest ∧ k2 = k + (tl T2 i j).length
  | 0, i, k, r, T, k2, T2, hi, hTl, h => by
    unfold refF at h
    injection h with h
    injection h with h1 h2
    subst h1 h2
    exact ⟨hTl, fun _ _ => rfl, r, rfl, rfl⟩
  | j + 1, i, k, r, T, k2, T2, hi, hTl, h => by
    unfold refF at h
    split at h
    · rename_i hp
      obtain ⟨r', rfl⟩ := prefix_of hp
      rw [List.drop_left] at h
      cases hr : rnum r' with
      | none => rw [hr] at h; cases h
      | some x =>
        obtain ⟨v, n⟩ := x
        rw [hr] at h
        simp only at h
        obtain ⟨d, t, rfl, hd, rfl, rfl⟩ := rnum_some hr
        have e2 : (lbl i ++ (d ++ 10 :: t)).drop ((lbl i).length + d.length + 1) = t := by
          rw [← List.append_assoc, show (lbl i).length + d.length + 1 = (lbl i ++ d).length + 1 by simp, ← List.drop_drop, List.drop_left]
          rfl
        rw [e2] at h
        obtain ⟨g1, g2, rest, g3, g4⟩ := ref_back j (i + 1) _ t _ k2 T2 (by omega) (by rw [List.length_set]; exact hTl) h
        have hv : T2.getD i 0 = (val d : Int) := by
          rw [g2 i (by omega)]
          simp [List.getD_eq_getElem?_getD, show i < T.length by omega]
        obtain ⟨n1, _, n3, n4⟩ := numOK_spec hd
        have hdec : dec (T2.getD i 0) = d := by
          rw [hv]
          unfold dec
          exact decD_of_val d n4 n1 n3
        have hline : lineS T2 i = lbl i ++ (d ++ [10]) := by rw [lineS_lbl, hdec]
        refine ⟨g1, fun m hm => ?_, rest, ?_, ?_⟩
        · rw [g2 m (by omega)]
          simp [List.getD_eq_getElem?_getD, List.getElem?_set, show i ≠ m by omega]
        · rw [tl_succ, hline, g3]
          simp
        · rw [tl_succ, hline, g4]
          simp
          omega
    · cases h
/-- Text undoes Parse. -/
theorem text_parsed {t : Bs} (h : (parsed t).2.2 = 0) : ∃ s c l, (parsed t).1 = s :: c :: l ∧ l.length = 24 ∧ okT s c l = true ∧ textS s c l = t := by
  rw [parsed_ref] at h ⊢
  split at h
  · cases h
  · rename_i hle
    rw [if_neg hle]
    cases hr : refF 26 0 0 t z26 with
    | error k => rw [hr] at h; cases h
    | ok x =>
      obtain ⟨k, T⟩ := x
      rw [hr] at h
      simp only [finR] at h ⊢
      split at h
      · cases h
      · rename_i hk
        rw [if_neg hk]
        unfold finT at h ⊢
        split at h
        · rename_i hc
          rw [if_pos hc]
          obtain ⟨g1, _, rest, g3, g4⟩ := ref_back 26 0 0 t z26 k T rfl z26_len hr
          have hrest : rest = [] := by
            have := congrArg List.length g3
            rw [List.length_append] at this
            exact List.length_eq_zero_iff.1 (by omega)
          obtain ⟨s, c, l, rfl⟩ : ∃ s c l, T = s :: c :: l := by
            match T, g1 with
            | a :: b :: l, _ => exact ⟨a, b, l, rfl⟩
          refine ⟨s, c, l, rfl, by simpa using g1, ?_, ?_⟩
          · cases hok : okT s c l with
            | true => rfl
            | false =>
              have := chk_f hok
              have h2 : chk s c l = 0 := hc
              omega
          · unfold textS
            rw [txtK_tl, g3, hrest, List.append_nil]
        · cases h
end Go.Proofs.YtofibebphfeglaaDoor
