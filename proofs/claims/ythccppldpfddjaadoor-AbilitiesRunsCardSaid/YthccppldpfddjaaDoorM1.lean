/- Rights of the abilities in plain words: ranges, and what is left or joined. -/
namespace Go.Proofs.YthccppldpfddjaaDoor
abbrev Rg := Int × Int
def MX : Int := 1099511627776
/-- What is left of ranges without the values from lo to hi. -/
def pieces (lo hi : Int) (r : Rg) : List Rg := (if r.1 < lo then [(r.1, min r.2 (lo - 1))] else []) ++ (if hi < r.2 then [(max r.1 (hi + 1), r.2)] else [])
def outS (l : List Rg) (lo hi : Int) : List Rg := l.flatMap (pieces lo hi)
/-- The ranges with the values from lo to hi. -/
def withR : List Rg → Int → Int → List Rg
  | [], lo, hi => [(lo, hi)]
  | r :: l, lo, hi => if r.2 + 1 < lo then r :: withR l lo hi else if hi + 1 < r.1 then (lo, hi) :: r :: l else withR l (min lo r.1) (max hi r.2)
theorem withR_cons (r : Rg) (l : List Rg) (lo hi : Int) : withR (r :: l) lo hi = if r.2 + 1 < lo then r :: withR l lo hi else if hi + 1 < r.1 then (lo, hi) :: r :: l else withR l (min lo r.1) (max hi r.2) := by rw [withR]
/-- Ranges as a right has them. -/
def okR (r : Rg) : Prop := 0 ≤ r.1 ∧ r.1 ≤ r.2 ∧ r.2 ≤ MX
def Good (l : List Rg) : Prop := (∀ r ∈ l, okR r) ∧ l.Pairwise fun a b => a.2 + 1 < b.1
theorem good_nil : Good [] := ⟨by simp, List.Pairwise.nil⟩
theorem Good.tail {r : Rg} {l : List Rg} (h : Good (r :: l)) : Good l := ⟨fun x hx => h.1 x (List.mem_cons_of_mem _ hx), (List.pairwise_cons.1 h.2).2⟩
theorem Good.head {r : Rg} {l : List Rg} (h : Good (r :: l)) : okR r := h.1 r (List.mem_cons_self)
theorem Good.gap {r : Rg} {l : List Rg} (h : Good (r :: l)) : ∀ x ∈ l, r.2 + 1 < x.1 := (List.pairwise_cons.1 h.2).1
theorem Good.cons {r : Rg} {l : List Rg} (h : Good l) (h1 : okR r) (h2 : ∀ x ∈ l, r.2 + 1 < x.1) : Good (r :: l) :=
  ⟨fun x hx => by rcases List.mem_cons.1 hx with rfl | hx; exact h1; exact h.1 x hx, List.pairwise_cons.2 ⟨h2, h.2⟩⟩
/-- Each piece lies within its range. -/
theorem pieces_in {lo hi : Int} {r x : Rg} (hr : r.1 ≤ r.2) (h : x ∈ pieces lo hi r) : r.1 ≤ x.1 ∧ x.1 ≤ x.2 ∧ x.2 ≤ r.2 := by
  unfold pieces at h
  rcases List.mem_append.1 h with h | h
  · split at h
    · simp at h; subst h; simp only; omega
    · simp at h
  · split at h
    · simp at h; subst h; simp only; omega
    · simp at h
theorem outS_mem {l : List Rg} {lo hi : Int} {x : Rg} (h : x ∈ outS l lo hi) : ∃ r ∈ l, x ∈ pieces lo hi r := by
  simpa [outS] using h
theorem outS_cons (r : Rg) (l : List Rg) (lo hi : Int) : outS (r :: l) lo hi = pieces lo hi r ++ outS l lo hi := by simp [outS]
theorem outS_good {l : List Rg} {lo hi : Int} (h : Good l) (hl : lo ≤ hi) : Good (outS l lo hi) := by
  induction l with
  | nil => exact good_nil
  | cons r l ih =>
    rw [outS_cons]
    have ih := ih h.tail
    have hr := h.head
    unfold okR at hr
    have hg : ∀ x ∈ outS l lo hi, r.2 + 1 < x.1 := by
      intro x hx
      obtain ⟨y, hy, hxy⟩ := outS_mem hx
      have h1 := h.gap y hy
      have h2 := (h.tail.1 y hy).2.1
      have h3 := pieces_in h2 hxy
      omega
    unfold pieces
    split <;> split
    · refine (ih.cons (r := (max r.1 (hi + 1), r.2)) ⟨by simp only; omega, by simp only; omega, hr.2.2⟩ (fun x hx => hg x hx)).cons (r := (r.1, min r.2 (lo - 1))) ⟨hr.1, by simp only; omega, by simp only; omega⟩ ?_
      intro x hx
      rcases List.mem_cons.1 hx with rfl | hx
      · simp only; omega
      · have := hg x hx; simp only; omega
    · refine ih.cons (r := (r.1, min r.2 (lo - 1))) ⟨hr.1, by simp only; omega, by simp only; omega⟩ ?_
      intro x hx
      have := hg x hx; simp only; omega
    · exact ih.cons (r := (max r.1 (hi + 1), r.2)) ⟨by simp only; omega, by simp only; omega, hr.2.2⟩ (fun x hx => hg x hx)
    · simpa using ih
theorem withR_lower {l : List Rg} {lo hi b : Int} (h1 : ∀ y ∈ l, b < y.1) (h2 : b < lo) : ∀ x ∈ withR l lo hi, b < x.1 := by
  induction l generalizing lo hi with
  | nil => intro x hx; simp [withR] at hx; subst hx; exact h2
  | cons r l ih =>
    intro x hx
    rw [withR_cons] at hx
    split at hx
    · rcases List.mem_cons.1 hx with rfl | hx
      · exact h1 _ (List.mem_cons_self)
      · exact ih (fun y hy => h1 y (List.mem_cons_of_mem _ hy)) h2 x hx
    · split at hx
      · rcases List.mem_cons.1 hx with rfl | hx
        · exact h2
        · exact h1 x hx
      · have := h1 r (List.mem_cons_self)
        exact ih (fun y hy => h1 y (List.mem_cons_of_mem _ hy)) (by omega) x hx
theorem withR_good {l : List Rg} {lo hi : Int} (h : Good l) (hl : okR (lo, hi)) : Good (withR l lo hi) := by
  induction l generalizing lo hi with
  | nil => exact good_nil.cons hl (by simp)
  | cons r l ih =>
    have hr := h.head
    unfold okR at hr hl
    simp only at hl
    rw [withR_cons]
    split
    · exact (ih h.tail hl).cons h.head (withR_lower h.gap (by omega))
    · split
      · refine h.cons hl ?_
        intro x hx
        rcases List.mem_cons.1 hx with rfl | hx
        · simpa using ‹_›
        · have := h.gap x hx; simp only; omega
      · exact ih h.tail ⟨by simp only; omega, by simp only; omega, by simp only; omega⟩
theorem withR_pos (l : List Rg) (lo hi : Int) : 1 ≤ (withR l lo hi).length := by
  induction l generalizing lo hi with
  | nil => simp [withR]
  | cons r l ih => rw [withR_cons]; split; simp; split; simp; exact ih _ _
theorem withR_len (l : List Rg) (lo hi : Int) : (withR l lo hi).length ≤ l.length + 1 := by
  induction l generalizing lo hi with
  | nil => simp [withR]
  | cons r l ih =>
    rw [withR_cons]
    split
    · simp only [List.length_cons]; have := ih lo hi; omega
    · split
      · simp
      · simp only [List.length_cons]; have := ih (min lo r.1) (max hi r.2); omega
theorem pieces_len (lo hi : Int) (r : Rg) : (pieces lo hi r).length ≤ 2 := by unfold pieces; split <;> split <;> simp
theorem outS_len (l : List Rg) (lo hi : Int) : (outS l lo hi).length ≤ 2 * l.length := by
  induction l with
  | nil => simp [outS]
  | cons r l ih => rw [outS_cons, List.length_append, List.length_cons]; have := pieces_len lo hi r; omega
/- The program's way of joining: insert, then merge. -/
def mstep (out : List Rg) (r : Rg) : List Rg := match out.getLast? with
  | some q => if r.1 ≤ q.2 + 1 then out.dropLast ++ [(q.1, max q.2 r.2)] else out ++ [r]
  | none => out ++ [r]
theorem mstep_nil (r : Rg) : mstep [] r = [r] := rfl
theorem mstep_join {out : List Rg} {q r : Rg} (h : r.1 ≤ q.2 + 1) : mstep (out ++ [q]) r = out ++ [(q.1, max q.2 r.2)] := by
  unfold mstep
  rw [List.getLast?_concat]
  simp [h]
theorem mstep_apart {out : List Rg} {q r : Rg} (h : q.2 + 1 < r.1) : mstep (out ++ [q]) r = out ++ [q] ++ [r] := by
  unfold mstep
  rw [List.getLast?_concat]
  simp only
  rw [if_neg (by omega)]
def firstAt (l : List Rg) (lo : Int) : Nat := (l.takeWhile fun r => decide (r.1 < lo)).length
theorem firstAt_le (l : List Rg) (lo : Int) : firstAt l lo ≤ l.length := (List.takeWhile_sublist _).length_le
def insS (l : List Rg) (lo hi : Int) : List Rg := l.take (firstAt l lo) ++ (lo, hi) :: l.drop (firstAt l lo)
def withP (l : List Rg) (lo hi : Int) : List Rg := (insS (outS l lo hi) lo hi).foldl mstep []
theorem insS_lt {r : Rg} {l : List Rg} {lo hi : Int} (h : r.1 < lo) : insS (r :: l) lo hi = r :: insS l lo hi := by
  unfold insS firstAt
  rw [List.takeWhile_cons, if_pos (by simpa using h)]
  simp
theorem insS_ge {l : List Rg} {lo hi : Int} (h : ∀ r ∈ l, lo ≤ r.1) : insS l lo hi = (lo, hi) :: l := by
  have : firstAt l lo = 0 := by
    unfold firstAt
    cases l with
    | nil => rfl
    | cons r l => rw [List.takeWhile_cons, if_neg (by have := h r (List.mem_cons_self); simp; omega)]; rfl
  unfold insS
  rw [this]
  simp
theorem pieces_below {lo hi : Int} {r : Rg} (h1 : r.1 ≤ r.2) (h : r.2 + 1 < lo) (hl : lo ≤ hi) : pieces lo hi r = [r] := by
  unfold pieces
  rw [if_pos (by omega), if_neg (by omega), show min r.2 (lo - 1) = r.2 by omega]
  rfl
theorem pieces_above {lo hi : Int} {r : Rg} (h1 : r.1 ≤ r.2) (h : hi + 1 < r.1) (hl : lo ≤ hi) : pieces lo hi r = [r] := by
  unfold pieces
  rw [if_neg (by omega), if_pos (by omega), show max r.1 (hi + 1) = r.1 by omega]
  rfl
theorem outS_above {l : List Rg} {lo hi : Int} (hg : ∀ r ∈ l, r.1 ≤ r.2 ∧ hi + 1 < r.1) (hl : lo ≤ hi) : outS l lo hi = l := by
  induction l with
  | nil => rfl
  | cons r l ih =>
    rw [outS_cons, ih (fun x hx => hg x (List.mem_cons_of_mem _ hx)), pieces_above (hg r (List.mem_cons_self)).1 (hg r (List.mem_cons_self)).2 hl]
    rfl
theorem fold_apart {out : List Rg} {q : Rg} {l : List Rg} (hq : ∀ x ∈ l, q.2 + 1 < x.1) (hl : Good l) : l.foldl mstep (out ++ [q]) = out ++ [q] ++ l := by
  induction l generalizing out q with
  | nil => simp
  | cons r l ih =>
    rw [List.foldl_cons, mstep_apart (hq r (List.mem_cons_self)), ih hl.gap hl.tail]
    simp
/-- Behind the place: the last range is joined with what it touches. -/
theorem fold_behind (l : List Rg) (lo hi : Int) (hl : lo ≤ hi) (hG : Good l) (c h : Int) (hc : c ≤ lo) (hh : hi ≤ h) (hlo : ∀ r ∈ l, lo ≤ r.1) (out : List Rg) :
    (outS l lo hi).foldl mstep (out ++ [(c, h)]) = out ++ withR l c h := by
  induction l generalizing h out with
  | nil => simp [outS, withR]
  | cons r l ih =>
    have hr := hG.head
    unfold okR at hr
    have h0 := hlo r (List.mem_cons_self)
    rw [outS_cons, List.foldl_append]
    rw [withR_cons]
    rw [if_neg (by omega)]
    by_cases ha : h + 1 < r.1
    · rw [if_pos ha, pieces_above hr.2.1 (by omega) hl, List.foldl_cons, List.foldl_nil, mstep_apart ha, outS_above (fun x hx => ⟨(hG.tail.1 x hx).2.1, by have := hG.gap x hx; omega⟩) hl, fold_apart hG.gap hG.tail]
      simp
    · rw [if_neg ha]
      unfold pieces
      rw [if_neg (by omega)]
      have hmin : min c r.1 = c := by omega
      rw [hmin]
      by_cases hb : hi < r.2
      · rw [if_pos hb]
        simp only [List.nil_append, List.foldl_cons, List.foldl_nil]
        rw [mstep_join (by simp only; omega)]
        exact ih hG.tail (max h r.2) (by omega) (fun x hx => hlo x (List.mem_cons_of_mem _ hx)) out
      · rw [if_neg hb, show max h r.2 = h by omega]
        simp only [List.append_nil, List.foldl_nil]
        exact ih hG.tail h hh (fun x hx => hlo x (List.mem_cons_of_mem _ hx)) out
theorem outS_ge {l : List Rg} {lo hi : Int} (h : ∀ r ∈ l, lo ≤ r.1 ∧ r.1 ≤ r.2) : ∀ x ∈ outS l lo hi, lo ≤ x.1 := by
  intro x hx
  obtain ⟨r, hr, hxr⟩ := outS_mem hx
  have h1 := h r hr
  have := pieces_in h1.2 hxr
  omega
/-- Ahead of the place, and at it. -/
theorem fold_ahead (l : List Rg) (lo hi : Int) (hl : lo ≤ hi) (hG : Good l) (out : List Rg) (hout : ∀ q, out.getLast? = some q → q.2 + 1 < lo ∧ ∀ x ∈ l, q.2 + 1 < x.1) :
    (insS (outS l lo hi) lo hi).foldl mstep out = out ++ withR l lo hi := by
  have start : ∀ (x : Rg), (∀ q, out.getLast? = some q → q.2 + 1 < x.1) → mstep out x = out ++ [x] := by
    intro x hx
    unfold mstep
    cases hq : out.getLast? with
    | none => rfl
    | some q => simp only; rw [if_neg (by have := hx q hq; omega)]
  induction l generalizing out with
  | nil =>
    rw [show outS [] lo hi = [] from rfl, insS_ge (by simp), List.foldl_cons, List.foldl_nil, start _ (fun q hq => (hout q hq).1)]
    rfl
  | cons r l ih =>
    have hr := hG.head
    unfold okR at hr
    have hrout : ∀ q, out.getLast? = some q → q.2 + 1 < r.1 := fun q hq => (hout q hq).2 r (List.mem_cons_self)
    by_cases ha : r.2 + 1 < lo
    · rw [outS_cons, pieces_below hr.2.1 ha hl, List.cons_append, List.nil_append, insS_lt (by omega), List.foldl_cons, start r hrout]
      rw [ih hG.tail (out ++ [r]) (fun q hq => by
        rw [List.getLast?_concat] at hq
        cases hq
        exact ⟨ha, hG.gap⟩) (by
        intro x hx
        have hx := hx r (by rw [List.getLast?_concat])
        rw [mstep_apart hx])]
      rw [withR_cons]
      rw [if_pos ha]
      simp
    · have hge : ∀ x ∈ l, lo ≤ x.1 := fun x hx => by have := hG.gap x hx; omega
      have hgl := outS_ge (hi := hi) (fun x hx => ⟨hge x hx, (hG.tail.1 x hx).2.1⟩)
      by_cases hlt : r.1 < lo
      · -- the left piece is joined with the new range
        rw [outS_cons]
        rw [withR_cons]
        rw [if_neg ha, if_neg (by omega)]
        unfold pieces
        rw [if_pos hlt]
        have hm : min lo r.1 = r.1 := by omega
        rw [hm, List.append_assoc, List.cons_append, List.nil_append, insS_lt (by simpa using hlt), List.foldl_cons, start (r.1, min r.2 (lo - 1)) hrout]
        by_cases hb : hi < r.2
        · rw [if_pos hb]
          rw [insS_ge (by
            intro x hx
            rcases List.mem_append.1 hx with hx | hx
            · simp at hx; subst hx; simp only; omega
            · exact hgl x hx), List.foldl_cons, mstep_join (by simp only; omega), List.cons_append, List.foldl_cons, mstep_join (by simp only; omega), List.nil_append]
          have h1 : max (max (min r.2 (lo - 1)) hi) r.2 = max hi r.2 := by omega
          simp only
          rw [h1]
          exact fold_behind l lo hi hl hG.tail r.1 (max hi r.2) (by omega) (by omega) hge out
        · rw [if_neg hb, List.nil_append, insS_ge hgl, List.foldl_cons, mstep_join (by simp only; omega)]
          have h1 : max (min r.2 (lo - 1)) hi = max hi r.2 := by omega
          simp only
          rw [h1]
          exact fold_behind l lo hi hl hG.tail r.1 (max hi r.2) (by omega) (by omega) hge out
      · have hgr : ∀ x ∈ outS (r :: l) lo hi, lo ≤ x.1 := outS_ge (fun x hx => by
          rcases List.mem_cons.1 hx with rfl | hx
          · exact ⟨by omega, hr.2.1⟩
          · exact ⟨hge x hx, (hG.tail.1 x hx).2.1⟩)
        rw [insS_ge hgr, List.foldl_cons, start _ (fun q hq => (hout q hq).1)]
        exact fold_behind (r :: l) lo hi hl hG lo hi (Int.le_refl _) (Int.le_refl _) (fun x hx => by
          rcases List.mem_cons.1 hx with rfl | hx
          · omega
          · exact hge x hx) out
theorem withP_eq {l : List Rg} {lo hi : Int} (hG : Good l) (hl : lo ≤ hi) : withP l lo hi = withR l lo hi := by
  unfold withP
  rw [fold_ahead l lo hi hl hG [] (by simp)]
  rfl
end Go.Proofs.YthccppldpfddjaaDoor
