/- The components of a path, in plain words. -/
import Derived.Test.YtedoonfegcgmeaaA1
namespace Go.Proofs.Ytedoonfegcgmeaa
abbrev Bs := List UInt8
/-- What is ahead of the first slash, what is behind it, whether there is one. -/
def cut1 : Bs → Bs × Bs × Bool
  | [] => ([], [], false)
  | b :: l => if b = 47 then ([], l, true) else (b :: (cut1 l).1, (cut1 l).2.1, (cut1 l).2.2)
theorem cut_eq (l : Bs) : Lib.cut l [47] = cut1 l := by
  unfold Lib.cut
  rw [Lib.index_one]
  induction l with
  | nil => rfl
  | cons b l ih =>
    unfold cut1
    have hge := Lib.indexByte_ge l 47
    by_cases hb : b = 47
    · subst hb
      rw [if_pos rfl]
      simp [Lib.indexByte]
    · rw [if_neg hb, ← ih]
      have hb2 : (b == 47) = false := by simpa using hb
      have e : Lib.indexByte (b :: l) 47 = if Lib.indexByte l 47 = -1 then -1 else Lib.indexByte l 47 + 1 := by
        rw [Lib.indexByte, hb2]
        simp
      rw [e]
      generalize Lib.indexByte l 47 = x at *
      by_cases h : x = -1
      · subst h
        simp
      · rw [if_neg h]
        obtain ⟨k, rfl⟩ : ∃ k : Nat, x = (k : Int) := ⟨x.toNat, by omega⟩
        have e1 : ((k : Int) + 1).toNat = k + 1 := by omega
        rw [if_pos (by omega), if_pos (by omega)]
        simp [e1]
theorem cut1_len (l : Bs) : (cut1 l).1.length ≤ l.length ∧ (cut1 l).2.1.length ≤ l.length := by
  induction l with
  | nil => exact ⟨Nat.le_refl _, Nat.le_refl _⟩
  | cons b l ih =>
    unfold cut1
    split
    · simp
    · simp only [List.length_cons]
      omega
theorem cut1_less {l : Bs} (h : l ≠ []) : (cut1 l).2.1.length < l.length := by
  cases l with
  | nil => exact absurd rfl h
  | cons b l =>
    unfold cut1
    split
    · simp
    · have := (cut1_len l).2
      simp only [List.length_cons]
      omega
/-- All components, the empty ones too. -/
def parts : Bs → List Bs
  | [] => [[]]
  | b :: l => if b = 47 then [] :: parts l else match parts l with
    | [] => [[b]]
    | p :: ps => (b :: p) :: ps
theorem parts_cons (b : UInt8) (l : Bs) : parts (b :: l) = if b = 47 then [] :: parts l else match parts l with
    | [] => [[b]]
    | p :: ps => (b :: p) :: ps := rfl
theorem cut1_cons (b : UInt8) (l : Bs) : cut1 (b :: l) = if b = 47 then ([], l, true) else (b :: (cut1 l).1, (cut1 l).2.1, (cut1 l).2.2) := rfl
theorem parts_cut (l : Bs) : parts l = (cut1 l).1 :: (if (cut1 l).2.2 = true then parts (cut1 l).2.1 else []) := by
  induction l with
  | nil => rfl
  | cons b l ih =>
    rw [parts_cons, cut1_cons]
    by_cases hb : b = 47
    · rw [if_pos hb, if_pos hb]
      simp
    · rw [if_neg hb, if_neg hb, ih]
theorem cut1_none {l : Bs} (h : (cut1 l).2.2 = false) : (cut1 l).2.1 = [] := by
  induction l with
  | nil => rfl
  | cons b l ih =>
    unfold cut1 at h ⊢
    split at h
    · cases h
    · rename_i hb
      rw [if_neg hb]
      exact ih h
/-- The components that are not empty. -/
def comps (l : Bs) : List Bs := (parts l).filter (fun p => !p.isEmpty)
theorem comps_nil : comps [] = [] := rfl
theorem comps_cut (l : Bs) : comps l = (if (cut1 l).1 = [] then [] else [(cut1 l).1]) ++ comps (cut1 l).2.1 := by
  unfold comps
  rw [parts_cut l]
  cases h : (cut1 l).2.2 with
  | false =>
    rw [cut1_none h]
    cases h1 : (cut1 l).1 <;> simp [parts]
  | true =>
    cases h1 : (cut1 l).1 <;> simp
theorem comps_ne {l : Bs} {x : Bs} (h : x ∈ comps l) : x ≠ [] := by
  have := (List.mem_filter.1 h).2
  simpa using this
theorem parts_len (l : Bs) : ∀ x ∈ parts l, x.length ≤ l.length := by
  induction l with
  | nil => intro x hx; simp [parts] at hx; subst hx; simp
  | cons b l ih =>
    intro x hx
    unfold parts at hx
    split at hx
    · rcases List.mem_cons.1 hx with rfl | hx
      · simp
      · have := ih x hx; simp; omega
    · cases hp : parts l with
      | nil => rw [hp] at hx; simp at hx; subst hx; simp
      | cons p ps =>
        rw [hp] at hx
        rcases List.mem_cons.1 hx with rfl | hx
        · have := ih p (by rw [hp]; exact List.mem_cons_self); simpa using this
        · have := ih x (by rw [hp]; exact List.mem_cons_of_mem _ hx); simp; omega
theorem parts_count (l : Bs) : (parts l).length ≤ l.length + 1 := by
  induction l with
  | nil => simp [parts]
  | cons b l ih =>
    unfold parts
    split
    · simp; omega
    · cases hp : parts l with
      | nil => simp
      | cons p ps => rw [hp] at ih; simp at ih ⊢; omega
end Go.Proofs.Ytedoonfegcgmeaa
