/- Plain words: decimal numbers, read and written. -/
import Derived.Test.YtofibebphfeglaaDoorX3
namespace Go.Proofs.YtofibebphfeglaaDoor
abbrev Bs := List UInt8
def isD (c : UInt8) : Bool := decide (48 ≤ c.toNat ∧ c.toNat ≤ 57)
def valA (acc : Nat) (l : Bs) : Nat := l.foldl (fun n c => n * 10 + (c.toNat - 48)) acc
def val (l : Bs) : Nat := valA 0 l
/-- What number takes: one to nine digits, no zero ahead of others. -/
def numOK (l : Bs) : Bool := !l.isEmpty && decide (l.length ≤ 9) && !(decide (1 < l.length) && l.head? == some 48) && l.all isD
theorem valA_cons (acc : Nat) (c : UInt8) (l : Bs) : valA acc (c :: l) = valA (acc * 10 + (c.toNat - 48)) l := by unfold valA; rw [List.foldl_cons]
theorem valA_snoc (acc : Nat) (l : Bs) (c : UInt8) : valA acc (l ++ [c]) = valA acc l * 10 + (c.toNat - 48) := by simp [valA, List.foldl_append]
theorem valA_ge (l : Bs) : ∀ acc, acc ≤ valA acc l := by
  induction l with
  | nil => intro acc; exact Nat.le_refl _
  | cons c l ih => intro acc; rw [valA_cons]; exact Nat.le_trans (by omega) (ih _)
theorem valA_lt (l : Bs) (h : l.all isD = true) : ∀ acc k, acc < 10 ^ k → valA acc l < 10 ^ (k + l.length) := by
  induction l with
  | nil => intro acc k hk; simpa [valA] using hk
  | cons c l ih =>
    intro acc k hk
    simp only [List.all_cons, Bool.and_eq_true] at h
    have hc : 48 ≤ c.toNat ∧ c.toNat ≤ 57 := by simpa [isD] using h.1
    rw [valA_cons]
    have := ih h.2 (acc * 10 + (c.toNat - 48)) (k + 1) (by rw [Nat.pow_succ]; omega)
    rw [List.length_cons]
    rwa [show k + (l.length + 1) = k + 1 + l.length by omega]
theorem val_lt {l : Bs} (h : l.all isD = true) (hl : l.length ≤ 9) : val l < 1000000000 := by
  have := valA_lt l h 0 0 (by simp)
  refine Nat.lt_of_lt_of_le this ?_
  rw [Nat.zero_add, show (1000000000 : Nat) = 10 ^ 9 by decide]
  exact Nat.pow_le_pow_right (by omega) hl
theorem parseM_ok (l : Bs) (h : l.all isD = true) : ∀ acc, valA acc l < 1000000000000 → Lib.parseUintM (2 ^ 64 - 1) acc l = .ok (valA acc l) := by
  induction l with
  | nil => intro acc _; rfl
  | cons c l ih =>
    intro acc hv
    simp only [List.all_cons, Bool.and_eq_true] at h
    have hc : 48 ≤ c.toNat ∧ c.toNat ≤ 57 := by simpa [isD] using h.1
    rw [valA_cons] at hv ⊢
    have hge := valA_ge l (acc * 10 + (c.toNat - 48))
    unfold Lib.parseUintM
    rw [if_pos hc, if_neg (by omega), if_neg (by omega)]
    exact ih h.2 _ hv
theorem parse_ok {l : Bs} (h : l.all isD = true) (h0 : l ≠ []) (hl : l.length ≤ 9) : Lib.parseIntB 64 l = .ok (val l : Int) := by
  have hv := val_lt h hl
  cases l with
  | nil => exact absurd rfl h0
  | cons c r =>
    have hc : 48 ≤ c.toNat ∧ c.toNat ≤ 57 := by
      simp only [List.all_cons, Bool.and_eq_true] at h
      simpa [isD] using h.1
    have h1 : ¬ (c.toNat = 43 ∨ c.toNat = 45) := by omega
    have h2 : ¬ c.toNat = 45 := by omega
    unfold Lib.parseIntB Lib.parseUintB
    simp only [if_neg h1]
    rw [if_neg (by simp), parseM_ok (c :: r) h 0 (by unfold val at hv; omega)]
    have hv' : valA 0 (c :: r) < 1000000000 := hv
    show (if ¬ c.toNat = 45 ∧ 2 ^ 63 ≤ valA 0 (c :: r) then Lib.NumEnd.range else if c.toNat = 45 ∧ 2 ^ 63 < valA 0 (c :: r) then Lib.NumEnd.range else Lib.NumEnd.ok (if c.toNat = 45 then -((valA 0 (c :: r) : Nat) : Int) else ((valA 0 (c :: r) : Nat) : Int))) = _
    rw [if_neg (by omega), if_neg (by omega), if_neg h2]
    rfl
def digs : Bs := [48, 49, 50, 51, 52, 53, 54, 55, 56, 57]
set_option maxRecDepth 100000 in
theorem digs_has (c : UInt8) : digs.contains c = isD c := by
  have key : ∀ n : Fin 256, digs.contains (UInt8.ofNat n.val) = isD (UInt8.ofNat n.val) := by decide
  have := key ⟨c.toNat, c.toNat_lt⟩
  simpa using this
theorem all_take (p : UInt8 → Bool) (l : Bs) {x : UInt8} (h : x ∈ l.takeWhile p) : p x = true := List.all_eq_true.1 List.all_takeWhile x h
theorem drop_all (p : UInt8 → Bool) : ∀ l : Bs, (∀ x ∈ l, p x = true) → l.dropWhile p = []
  | [], _ => rfl
  | a :: l, h => by
    rw [List.dropWhile_cons, if_pos (h a (by simp))]
    exact drop_all p l fun x hx => h x (by simp [hx])
theorem trim_nil (l : Bs) : Lib.trimS l digs = [] ↔ l.all isD = true := by
  unfold Lib.trimS Lib.trimLeftS Lib.trimRightS
  constructor
  · intro h
    rw [List.all_eq_true]
    intro c hc
    have h1 : ∀ x ∈ (l.reverse.dropWhile (digs.contains ·)).reverse, digs.contains x = true := by
      intro x hx
      have h2 := List.takeWhile_append_dropWhile (p := (digs.contains ·)) (l := (l.reverse.dropWhile (digs.contains ·)).reverse)
      rw [h, List.append_nil] at h2
      rw [← h2] at hx
      exact all_take _ _ hx
    rw [← digs_has]
    have h3 := List.takeWhile_append_dropWhile (p := (digs.contains ·)) (l := l.reverse)
    have hc' : c ∈ l.reverse := List.mem_reverse.2 hc
    rw [← h3, List.mem_append] at hc'
    rcases hc' with h4 | h4
    · exact all_take _ _ h4
    · exact h1 c (List.mem_reverse.2 h4)
  · intro h
    rw [List.all_eq_true] at h
    have h1 : l.reverse.dropWhile (digs.contains ·) = [] := drop_all _ _ fun x hx => by
      rw [digs_has]
      exact h x (List.mem_reverse.1 hx)
    rw [h1]
    rfl
/-- Writing, then reading. -/
theorem decD_all : ∀ u : Nat, (Lib.decDigits u).all isD = true := by
  intro u
  induction u using Nat.strongRecOn with
  | _ u ih =>
    rw [Lib.decDigits]
    split
    · rename_i h
      have : (UInt8.ofNat (48 + u)).toNat = 48 + u := by
        rw [UInt8.toNat_ofNat']
        omega
      simp [isD, this]
      omega
    · have : (UInt8.ofNat (48 + u % 10)).toNat = 48 + u % 10 := by
        rw [UInt8.toNat_ofNat']
        omega
      rw [List.all_append, ih _ (by omega)]
      simp [isD, this]
      omega
theorem decD_val : ∀ u : Nat, val (Lib.decDigits u) = u := by
  intro u
  induction u using Nat.strongRecOn with
  | _ u ih =>
    rw [Lib.decDigits]
    split
    · have : (UInt8.ofNat (48 + u)).toNat = 48 + u := by
        rw [UInt8.toNat_ofNat']
        omega
      simp only [val, valA, List.foldl_cons, List.foldl_nil, this]
      omega
    · have : (UInt8.ofNat (48 + u % 10)).toNat = 48 + u % 10 := by
        rw [UInt8.toNat_ofNat']
        omega
      have h2 := ih (u / 10) (by omega)
      unfold val at h2 ⊢
      rw [valA_snoc, h2, this]
      omega
theorem decD_ne (u : Nat) : Lib.decDigits u ≠ [] := by
  rw [Lib.decDigits]
  split <;> simp
theorem decD_head : ∀ u : Nat, 0 < u → (Lib.decDigits u).head? ≠ some 48 := by
  intro u
  induction u using Nat.strongRecOn with
  | _ u ih =>
    intro hu
    rw [Lib.decDigits]
    split
    · intro h
      simp only [List.head?_cons, Option.some.injEq] at h
      have := congrArg UInt8.toNat h
      rw [UInt8.toNat_ofNat'] at this
      have h48 : (48 : UInt8).toNat = 48 := by decide
      omega
    · obtain ⟨a, t, h⟩ := List.exists_cons_of_ne_nil (decD_ne (u / 10))
      have := ih (u / 10) (by omega) (by omega)
      rw [h] at this ⊢
      exact this
theorem decD_len9 (u : Nat) (h : u < 1000000000) : (Lib.decDigits u).length ≤ 9 := by
  have key : ∀ k u : Nat, u < 10 ^ (k + 1) → (Lib.decDigits u).length ≤ k + 1 := by
    intro k
    induction k with
    | zero => intro u hu; rw [Lib.decDigits, dif_pos (by omega)]; simp
    | succ k ih =>
      intro u hu
      rw [Lib.decDigits]
      split
      · simp
      · rw [List.length_append]
        have := ih (u / 10) (by rw [Nat.pow_succ] at hu; omega)
        simp
        omega
  exact key 8 u (by simpa using h)
theorem decD_ok (u : Nat) (h : u < 1000000000) : numOK (Lib.decDigits u) = true := by
  unfold numOK
  have h1 := decD_ne u
  have h2 := decD_len9 u h
  have h3 : (!(decide (1 < (Lib.decDigits u).length) && (Lib.decDigits u).head? == some 48)) = true := by
    by_cases hu : u < 10
    · rw [Lib.decDigits, dif_pos hu]; simp
    · have := decD_head u (by omega)
      simp [this]
  rw [h3, decD_all]
  simp [h1, h2]
/-- Reading, then writing. -/
theorem decD_of_val : ∀ l : Bs, l.all isD = true → l ≠ [] → (1 < l.length → l.head? ≠ some 48) → Lib.decDigits (val l) = l := by
  intro l
  induction hn : l.length using Nat.strongRecOn generalizing l with
  | _ n ih =>
    intro ha h0 hz
    rcases List.eq_nil_or_concat l with rfl | ⟨l', c, rfl⟩
    · exact absurd rfl h0
    · rw [List.concat_eq_append] at *
      rw [List.all_append, Bool.and_eq_true] at ha
      have hc : 48 ≤ c.toNat ∧ c.toNat ≤ 57 := by simpa [isD] using ha.2
      have hcc : UInt8.ofNat c.toNat = c := UInt8.ofNat_toNat
      have hv : val (l' ++ [c]) = val l' * 10 + (c.toNat - 48) := valA_snoc 0 l' c
      rw [hv]
      cases l' with
      | nil =>
        have : val ([] : Bs) = 0 := rfl
        rw [this, Lib.decDigits, dif_pos (by omega)]
        rw [show 48 + (0 * 10 + (c.toNat - 48)) = c.toNat by omega, hcc]
        rfl
      | cons d r =>
        have hz' : (d :: r).head? ≠ some 48 := by
          have := hz (by rw [← hn, List.length_append, List.length_cons]; simp)
          exact this
        have hr : Lib.decDigits (val (d :: r)) = d :: r := ih (d :: r).length (by rw [← hn, List.length_append]; simp) (d :: r) rfl ha.1 (by simp) (fun _ => hz')
        have hpos : 0 < val (d :: r) := by
          rcases Nat.eq_zero_or_pos (val (d :: r)) with h | h
          · rw [h] at hr
            have : Lib.decDigits 0 = [48] := by rw [Lib.decDigits, dif_pos (by omega)]; rfl
            rw [this] at hr
            exact absurd (by rw [← hr]; rfl) hz'
          · exact h
        rw [Lib.decDigits, dif_neg (by omega)]
        rw [show (val (d :: r) * 10 + (c.toNat - 48)) / 10 = val (d :: r) by omega, hr, show 48 + (val (d :: r) * 10 + (c.toNat - 48)) % 10 = c.toNat by omega, hcc]
theorem numOK_spec {l : Bs} (h : numOK l = true) : l ≠ [] ∧ l.length ≤ 9 ∧ (1 < l.length → l.head? ≠ some 48) ∧ l.all isD = true := by
  unfold numOK at h
  simp only [Bool.and_eq_true, Bool.not_eq_true', decide_eq_true_eq, List.isEmpty_eq_false_iff] at h
  refine ⟨h.1.1.1, h.1.1.2, fun h1 h2 => ?_, h.2⟩
  have := h.1.2
  rw [h2] at this
  simp [h1] at this
end Go.Proofs.YtofibebphfeglaaDoor
