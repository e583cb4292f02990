/- Plain words: the two readings of a text are the same. -/
import Derived.Test.YtofibebphfeglaaDoorX5
namespace Go.Proofs.YtofibebphfeglaaDoor
def lbl (i : Nat) : Bs := lab.getD i [] ++ [32]
def stepP (i : Nat) (l : Bs) : Option Int := if (cutS l (lbl i)).2 = true ∧ numOK (cutS l (lbl i)).1 = true then some (val (cutS l (lbl i)).1 : Int) else none
def runP : List (Nat × Bs) → Nat → List Int → Except Nat (Nat × List Int)
  | [], i, T => .ok (i, T)
  | x :: xs, i, T => if i = 26 then .error x.1 else match stepP i x.2 with
    | none => .error x.1
    | some v => runP xs (i + 1) (T.set i v)
def digsOf (r : Bs) : Bs := (r.takeWhile isD).take 10
def rnum (r : Bs) : Option (Int × Nat) := if numOK (digsOf r) = true ∧ r[(digsOf r).length]? = some 10 then some ((val (digsOf r) : Int), (digsOf r).length) else none
def refF : Nat → Nat → Nat → Bs → List Int → Except Nat (Nat × List Int)
  | 0, _, k, _, T => .ok (k, T)
  | j + 1, i, k, r, T => if Lib.hasPrefix r (lbl i) = true then match rnum (r.drop (lbl i).length) with
      | none => .error k
      | some (v, n) => refF j (i + 1) (k + ((lbl i).length + n + 1)) (r.drop ((lbl i).length + n + 1)) (T.set i v)
    else .error k
def chkT (T : List Int) : Int := chk (T.getD 0 0) (T.getD 1 0) (T.drop 2)
def finT (T : List Int) : List Int × Int × Int := if chkT T = 0 then (T, 0, 0) else (z26, 0, 34)
def finP (len : Nat) : Except Nat (Nat × List Int) → List Int × Int × Int
  | .error k => (z26, k, 36)
  | .ok (i, T) => if i < 26 then (z26, len, 36) else finT T
def finR (len : Nat) : Except Nat (Nat × List Int) → List Int × Int × Int
  | .error k => (z26, k, 36)
  | .ok (k, T) => if k < len then (z26, k, 36) else finT T
theorem lbl_no : ∀ i, i < 26 → ¬ (10 : UInt8) ∈ lbl i := by decide
theorem lbl_ne (i : Nat) : lbl i ≠ [] := by unfold lbl; simp
theorem tw (d t : Bs) (h : d.all isD = true) : (d ++ 10 :: t).takeWhile isD = d := by
  induction d with
  | nil => rfl
  | cons c d ih =>
    simp only [List.all_cons, Bool.and_eq_true] at h
    rw [List.cons_append, List.takeWhile_cons, if_pos h.1, ih h.2]
theorem digsOf_pre (r : Bs) : digsOf r <+: r := (List.take_prefix _ _).trans (List.takeWhile_prefix _)
theorem digsOf_line {d t : Bs} (h : d.all isD = true) (h9 : d.length ≤ 9) : digsOf (d ++ 10 :: t) = d := by
  unfold digsOf
  rw [tw d t h, List.take_of_length_le (by omega)]
theorem rnum_line {d t : Bs} (h : numOK d = true) : rnum (d ++ 10 :: t) = some ((val d : Int), d.length) := by
  obtain ⟨_, h9, _, ha⟩ := numOK_spec h
  unfold rnum
  rw [digsOf_line ha h9, if_pos ⟨h, by simp⟩]
theorem rnum_some {r : Bs} {v : Int} {m : Nat} (h : rnum r = some (v, m)) : ∃ d t, r = d ++ 10 :: t ∧ numOK d = true ∧ v = val d ∧ m = d.length := by
  unfold rnum at h
  split at h
  · rename_i hc
    obtain ⟨h1, h2⟩ := hc
    injection h with h
    injection h with h3 h4
    obtain ⟨t, ht⟩ := digsOf_pre r
    cases t with
    | nil =>
      rw [List.append_nil] at ht
      rw [ht, List.getElem?_eq_none (Nat.le_refl _)] at h2
      cases h2
    | cons c t =>
      refine ⟨digsOf r, t, ?_, h1, h3.symm, h4.symm⟩
      rw [← ht] at h2 ⊢
      rw [ht] at h2 ⊢
      have h5 : r[(digsOf r).length]? = some c := by
        rw [← ht]
        have : digsOf (digsOf r ++ c :: t) = digsOf r := by rw [ht]
        rw [this]
        simp
      rw [h2] at h5
      injection h5 with h5
      rw [h5, ht]
  · cases h
theorem digs_no {d : Bs} (h : d.all isD = true) : ¬ (10 : UInt8) ∈ d := by
  intro hm
  have := List.all_eq_true.1 h _ hm
  exact absurd this (by decide)
theorem nl_some {r : Bs} {n : Nat} (h : nl r = some n) : ∃ l t, r = l ++ 10 :: t ∧ ¬ (10 : UInt8) ∈ l ∧ l.length = n := by
  unfold nl at h
  split at h
  · cases h
  · injection h with h
    have hx : Lib.indexByte r 10 = (n : Int) := by have := Lib.indexByte_ge r 10; omega
    obtain ⟨h1, h2⟩ := Lib.indexByte_some hx
    obtain ⟨hlt, h3⟩ := List.getElem?_eq_some_iff.1 h1
    refine ⟨r.take n, r.drop (n + 1), ?_, ?_, by simp; omega⟩
    · rw [← h3, ← List.drop_eq_getElem_cons hlt, List.take_append_drop]
    · intro hm
      obtain ⟨k, hk, h4⟩ := List.getElem_of_mem hm
      rw [List.length_take] at hk
      refine h2 k (by omega) ?_
      rw [List.getElem_take] at h4
      rw [List.getElem?_eq_getElem (by omega), h4]
theorem nl_of {l t : Bs} (h : ¬ (10 : UInt8) ∈ l) : nl (l ++ 10 :: t) = some l.length := by
  cases hn : nl (l ++ 10 :: t) with
  | none =>
    exfalso
    unfold nl at hn
    split at hn
    · rename_i hlt
      have hx : Lib.indexByte (l ++ 10 :: t) 10 = -1 := by have := Lib.indexByte_ge (l ++ 10 :: t) 10; omega
      exact Lib.indexByte_none hx l.length (by simp)
    · cases hn
  | some n =>
    obtain ⟨l', t', he, hl', rfl⟩ := nl_some hn
    congr 1
    rcases Nat.lt_trichotomy l'.length l.length with hlt | heq | hgt
    · exfalso
      apply h
      have : (l ++ 10 :: t)[l'.length]? = some 10 := by rw [he]; simp
      rw [List.getElem?_append_left hlt] at this
      exact List.mem_of_getElem? this
    · exact heq
    · exfalso
      apply hl'
      have : (l' ++ 10 :: t')[l.length]? = some 10 := by rw [← he]; simp
      rw [List.getElem?_append_left hgt] at this
      exact List.mem_of_getElem? this
theorem cutS_app (lb d : Bs) : cutS (lb ++ d) lb = (d, true) := by
  unfold cutS Lib.hasPrefix
  rw [if_pos (List.isPrefixOf_iff_prefix.2 (List.prefix_append _ _))]
  simp
/-- A line is taken by both, or by neither. -/
theorem step_eq {i : Nat} (hi : i < 26) (l t : Bs) (hl : ¬ (10 : UInt8) ∈ l) :
    (∃ d, l = lbl i ++ d ∧ numOK d = true) ∧ stepP i l = some (val (l.drop (lbl i).length) : Int) ∧ Lib.hasPrefix (l ++ 10 :: t) (lbl i) = true ∧ rnum ((l ++ 10 :: t).drop (lbl i).length) = some ((val (l.drop (lbl i).length) : Int), l.length - (lbl i).length) ∨
    stepP i l = none ∧ (Lib.hasPrefix (l ++ 10 :: t) (lbl i) = true → rnum ((l ++ 10 :: t).drop (lbl i).length) = none) := by
  by_cases h : ∃ d, l = lbl i ++ d ∧ numOK d = true
  · refine .inl ⟨h, ?_⟩
    obtain ⟨d, rfl, hd⟩ := h
    refine ⟨?_, ?_, ?_⟩
    · unfold stepP
      rw [cutS_app, if_pos ⟨rfl, hd⟩]
      simp
    · exact List.isPrefixOf_iff_prefix.2 (by rw [List.append_assoc]; exact List.prefix_append _ _)
    · rw [List.append_assoc, List.drop_left, rnum_line hd]
      simp
  · refine .inr ⟨?_, fun hp => ?_⟩
    · unfold stepP
      rw [if_neg]
      rintro ⟨h1, h2⟩
      apply h
      unfold cutS at h1 h2
      split at h1
      · rename_i hp
        rw [if_pos hp] at h2
        obtain ⟨d, rfl⟩ := prefix_of hp
        rw [List.drop_left] at h2
        exact ⟨d, rfl, h2⟩
      · cases h1
    · cases hr : rnum ((l ++ 10 :: t).drop (lbl i).length) with
      | none => rfl
      | some x =>
        exfalso
        obtain ⟨v, m⟩ := x
        obtain ⟨d, t', he, hd, _, _⟩ := rnum_some hr
        apply h
        obtain ⟨r', hr'⟩ := prefix_of hp
        rw [← hr', List.drop_left] at he
        rw [he] at hr'
        have h1 := nl_of (t := t) hl
        rw [← hr', ← List.append_assoc] at h1
        have h2 : ¬ (10 : UInt8) ∈ lbl i ++ d := by
          rw [List.mem_append]
          rintro (h | h)
          · exact lbl_no i hi h
          · exact digs_no (numOK_spec hd).2.2.2 h
        rw [nl_of h2] at h1
        injection h1 with h1
        refine ⟨d, ?_, hd⟩
        have h3 : (l ++ 10 :: t).take l.length = l := by simp
        rw [← hr', ← List.append_assoc, ← h1, List.take_left] at h3
        exact h3.symm
theorem rnum_has {r : Bs} {x : Int × Nat} (h : rnum r = some x) : (10 : UInt8) ∈ r := by
  obtain ⟨v, m⟩ := x
  obtain ⟨d, t, rfl, _⟩ := rnum_some h
  simp
theorem nl_none {r : Bs} (h : nl r = none) : ¬ (10 : UInt8) ∈ r := by
  intro hm
  unfold nl at h
  split at h
  · rename_i hlt
    have hx : Lib.indexByte r 10 = -1 := by have := Lib.indexByte_ge r 10; omega
    obtain ⟨k, hk, h4⟩ := List.getElem_of_mem hm
    exact Lib.indexByte_none hx k (by rw [List.getElem?_eq_getElem hk, h4])
  · cases h
theorem prefix_nil (i : Nat) : Lib.hasPrefix [] (lbl i) = false := by
  cases h : Lib.hasPrefix [] (lbl i) with
  | false => rfl
  | true => exact absurd (List.prefix_nil.1 (prefix_of h)) (lbl_ne i)
theorem step_nil (i : Nat) : stepP i [] = none := by
  unfold stepP cutS
  rw [prefix_nil]
  simp
/-- Both readings, from any state on. -/
theorem readings (len : Nat) : ∀ (j i k : Nat) (r : Bs) (T : List Int) (f : Nat), i + j = 26 → r.length < f → k + r.length = len → finP len (runP (linesF f k r) i T) = finR len (refF j i k r T) := by
  intro j
  induction j with
  | zero =>
    intro i k r T f hi hf hk
    obtain rfl : i = 26 := by omega
    obtain ⟨g, rfl⟩ : ∃ g, f = g + 1 := ⟨f - 1, by omega⟩
    unfold linesF refF
    by_cases hr : r = []
    · subst hr
      simp only [if_true, runP, finP, finR]
      rw [if_neg (by omega), if_neg (by simp at hk; omega)]
    · have hpos : 0 < r.length := List.length_pos_iff.2 hr
      rw [if_neg hr]
      have hR : finR len (.ok (k, T)) = (z26, (k : Int), 36) := by simp only [finR]; rw [if_pos (by omega)]
      rw [hR]
      cases hn : nl r with
      | none => simp [runP, finP]
      | some n => simp [runP, finP]
  | succ j ih =>
    intro i k r T f hi hf hk
    obtain ⟨g, rfl⟩ : ∃ g, f = g + 1 := ⟨f - 1, by omega⟩
    unfold linesF refF
    by_cases hr : r = []
    · subst hr
      rw [prefix_nil]
      simp only [if_true, runP, finP, finR]
      rw [if_pos (by omega)]
      simp at hk ⊢
      omega
    · rw [if_neg hr]
      cases hn : nl r with
      | none =>
        have h1 := nl_none hn
        have hR : refF (j + 1) i k r T = .error k := by
          unfold refF
          split
          · cases hx : rnum (r.drop (lbl i).length) with
            | none => rfl
            | some x => exact absurd (List.mem_of_mem_drop (rnum_has hx)) h1
          · rfl
        unfold refF at hR
        rw [hR]
        simp only [runP]
        rw [if_neg (by omega), step_nil]
        rfl
      | some n =>
        obtain ⟨l, t, rfl, hl, rfl⟩ := nl_some hn
        simp only [List.take_left, runP]
        rw [if_neg (by omega)]
        have hdr : (l ++ 10 :: t).drop (l.length + 1) = t := by
          rw [← List.drop_drop, List.drop_left]
          rfl
        rcases step_eq (i := i) (by omega) l t hl with ⟨⟨d, hd, hnd⟩, h1, h2, h3⟩ | ⟨h1, h2⟩
        · rw [h1, if_pos h2, h3]
          simp only
          have hle : (lbl i).length ≤ l.length := by rw [hd]; simp
          have e1 : (lbl i).length + (l.length - (lbl i).length) + 1 = l.length + 1 := by omega
          rw [e1, hdr]
          rw [show k + l.length + 1 = k + (l.length + 1) by omega]
          simp at hk hf
          exact ih (i + 1) (k + (l.length + 1)) t _ g (by omega) (by omega) (by omega)
        · rw [h1]
          by_cases hp : Lib.hasPrefix (l ++ 10 :: t) (lbl i) = true
          · rw [if_pos hp, h2 hp]
            rfl
          · rw [if_neg hp]
            rfl
def parsed (s : Bs) : List Int × Int × Int := if 65536 < s.length then (z26, 0, 18) else finP s.length (runP (linesL s) 0 z26)
theorem parsed_ref (s : Bs) : parsed s = if 65536 < s.length then (z26, 0, 18) else finR s.length (refF 26 0 0 s z26) := by
  unfold parsed linesL
  rw [readings s.length 26 0 0 s z26 (s.length + 1) rfl (by omega) (by omega)]
end Go.Proofs.YtofibebphfeglaaDoor
