import Ieee.Arith
namespace Go.Proofs.Ytmmhflpeapojgaa
open Ieee

theorem log2_iff {n k : Nat} (h : n ≠ 0) : n.log2 = k ↔ 2 ^ k ≤ n ∧ n < 2 ^ (k + 1) := Nat.log2_eq_iff h
theorem log2_mul_pow {m : Nat} (h : 0 < m) (k : Nat) : (m * 2 ^ k).log2 = m.log2 + k := by
  have hp : 0 < 2 ^ k := Nat.two_pow_pos k
  have h1 := (log2_iff (show m ≠ 0 by omega)).1 rfl
  rw [log2_iff (Nat.ne_of_gt (Nat.mul_pos h hp)), Nat.pow_add, show m.log2 + k + 1 = (m.log2 + 1) + k by omega, Nat.pow_add _ _ k]
  exact ⟨Nat.mul_le_mul_right _ h1.1, Nat.mul_lt_mul_of_pos_right h1.2 hp⟩

theorem cut_exact (way : Toward) (neg : Bool) (q d : Nat) : way.cut neg (q * 2 ^ d) d = q := by
  unfold Toward.cut
  have hg : ∀ g : Nat, (g = d ∨ q = 0) → (q * 2 ^ d / (1 <<< g) = q ∧ q * 2 ^ d % (1 <<< g) = 0) := by
    intro g hg
    rw [Nat.shiftLeft_eq, Nat.one_mul]
    rcases hg with rfl | rfl
    · exact ⟨Nat.mul_div_cancel _ (Nat.two_pow_pos _), Nat.mul_mod_left _ _⟩
    · simp
  have hm : min d ((q * 2 ^ d).log2 + 2) = d ∨ q = 0 := by
    rcases Nat.eq_zero_or_pos q with h | h
    · exact .inr h
    · left; rw [log2_mul_pow h]; omega
  obtain ⟨h1, h2⟩ := hg _ hm
  simp only [h1, h2]
  have hp : 0 < 1 <<< min d ((q * 2 ^ d).log2 + 2) := by rw [Nat.shiftLeft_eq, Nat.one_mul]; exact Nat.two_pow_pos _
  cases way <;> simp

/-- What is asked of a format. -/
structure FineF (f : Format) : Prop where
  low : f.leastPlace + f.fractionBits ≤ 0
  top : -f.leastPlace + 2 ≤ ((2 ^ f.exponentBits - 1 : Nat) : Int)
theorem fine_single : FineF single := ⟨by decide, by decide⟩
theorem fine_double : FineF double := ⟨by decide, by decide⟩

variable {f : Format}
/-- The rung of a whole number. -/
def rungOf (f : Format) (m : Nat) : Nat := ((m.log2 : Int) - f.fractionBits - f.leastPlace).toNat * 2 ^ f.fractionBits + m * 2 ^ (f.fractionBits - m.log2)
theorem log2_le {m k : Nat} (h0 : 0 < m) (h : m < 2 ^ (k + 1)) : m.log2 ≤ k := by
  have h1 := (log2_iff (show m ≠ 0 by omega)).1 rfl
  rcases Nat.lt_or_ge k m.log2 with h2 | h2
  · have := Nat.pow_le_pow_right (show 0 < 2 by omega) (show k + 1 ≤ m.log2 from h2)
    omega
  · exact h2
theorem kept_bounds {m k : Nat} (h0 : 0 < m) (h : m < 2 ^ (k + 1)) : 2 ^ k ≤ m * 2 ^ (k - m.log2) ∧ m * 2 ^ (k - m.log2) < 2 ^ (k + 1) := by
  have hl := log2_le h0 h
  have h1 := (log2_iff (show m ≠ 0 by omega)).1 rfl
  have hp : 0 < 2 ^ (k - m.log2) := Nat.two_pow_pos _
  have e1 : 2 ^ k = 2 ^ m.log2 * 2 ^ (k - m.log2) := by rw [← Nat.pow_add]; congr 1; omega
  have e2 : 2 ^ (k + 1) = 2 ^ (m.log2 + 1) * 2 ^ (k - m.log2) := by rw [← Nat.pow_add]; congr 1; omega
  rw [e1, e2]
  exact ⟨Nat.mul_le_mul_right _ h1.1, Nat.mul_lt_mul_of_pos_right h1.2 hp⟩
theorem rung_lt (hf : FineF f) {m : Nat} (h0 : 0 < m) (h : m < 2 ^ (f.fractionBits + 1)) : rungOf f m < f.infRung := by
  have hl := log2_le h0 h
  obtain ⟨_, hk⟩ := kept_bounds h0 h
  have hlow := hf.low
  have htop := hf.top
  unfold rungOf Format.infRung Format.binade
  have e : ((m.log2 : Int) - f.fractionBits - f.leastPlace).toNat + 2 ≤ 2 ^ f.exponentBits - 1 := by omega
  have h3 : (((m.log2 : Int) - f.fractionBits - f.leastPlace).toNat + 2) * 2 ^ f.fractionBits ≤ (2 ^ f.exponentBits - 1) * 2 ^ f.fractionBits := Nat.mul_le_mul_right _ e
  rw [Nat.add_mul] at h3
  rw [Nat.pow_succ] at hk
  omega
theorem rung_ge {m : Nat} (hf : FineF f) (h0 : 0 < m) (h : m < 2 ^ (f.fractionBits + 1)) : rungOf f m / f.binade = ((m.log2 : Int) - f.fractionBits - f.leastPlace).toNat + 1 ∧ f.binade + rungOf f m % f.binade = m * 2 ^ (f.fractionBits - m.log2) := by
  obtain ⟨h1, h2⟩ := kept_bounds h0 h
  unfold rungOf Format.binade
  rw [Nat.pow_succ] at h2
  generalize m * 2 ^ (f.fractionBits - m.log2) = q at *
  generalize 2 ^ f.fractionBits = B at *
  generalize ((m.log2 : Int) - f.fractionBits - f.leastPlace).toNat = r
  obtain ⟨d, rfl⟩ : ∃ d, q = B + d := ⟨q - B, by omega⟩
  have hd : d < B := by omega
  rw [show r * B + (B + d) = d + B * (r + 1) by rw [Nat.mul_add, Nat.mul_comm B r]; omega]
  rw [Nat.add_mul_div_left _ _ (by omega), Nat.add_mul_mod_self_left, Nat.div_eq_of_lt hd, Nat.mod_eq_of_lt hd]
  omega
theorem nearest_exact (hf : FineF f) (s : Bool) {m : Nat} (h0 : 0 < m) (h : m < 2 ^ (f.fractionBits + 1)) (k : Nat) : f.nearest s (m * 2 ^ k) (-(k : Int)) = f.word s (rungOf f m) := by
  have hl := log2_le h0 h
  have hlow := hf.low
  have hr := rung_lt hf h0 h
  unfold Format.nearest
  rw [if_neg (Nat.ne_of_gt (Nat.mul_pos h0 (Nat.two_pow_pos k))), log2_mul_pow h0]
  have hlast : max (-(k : Int) + ((m.log2 + k : Nat) : Int) - f.fractionBits) f.leastPlace = (m.log2 : Int) - f.fractionBits := by omega
  simp only [hlast]
  have hcut : Toward.even.cut s ((m * 2 ^ k) <<< (-(k : Int) - ((m.log2 : Int) - f.fractionBits)).toNat) ((m.log2 : Int) - f.fractionBits - -(k : Int)).toNat = m * 2 ^ (f.fractionBits - m.log2) := by
    rcases Nat.le_total k (f.fractionBits - m.log2) with hk | hk
    · have e1 : (-(k : Int) - ((m.log2 : Int) - f.fractionBits)).toNat = f.fractionBits - m.log2 - k := by omega
      have e2 : ((m.log2 : Int) - f.fractionBits - -(k : Int)).toNat = 0 := by omega
      rw [e1, e2, Nat.shiftLeft_eq, Nat.mul_assoc, ← Nat.pow_add, show k + (f.fractionBits - m.log2 - k) = f.fractionBits - m.log2 by omega]
      have := cut_exact .even s (m * 2 ^ (f.fractionBits - m.log2)) 0
      simpa using this
    · have e1 : (-(k : Int) - ((m.log2 : Int) - f.fractionBits)).toNat = 0 := by omega
      have e2 : ((m.log2 : Int) - f.fractionBits - -(k : Int)).toNat = k - (f.fractionBits - m.log2) := by omega
      rw [e1, e2, Nat.shiftLeft_zero]
      have := cut_exact .even s (m * 2 ^ (f.fractionBits - m.log2)) (k - (f.fractionBits - m.log2))
      rwa [Nat.mul_assoc, ← Nat.pow_add, show f.fractionBits - m.log2 + (k - (f.fractionBits - m.log2)) = k by omega] at this
  rw [hcut]
  congr 1
  have : ((m.log2 : Int) - f.fractionBits - f.leastPlace).toNat * f.binade + m * 2 ^ (f.fractionBits - m.log2) = rungOf f m := rfl
  rw [this]
  omega

theorem inf_lt_sign (f : Format) : f.infRung < f.signWeight := by
  unfold Format.infRung Format.signWeight Format.binade
  rw [Nat.pow_add]
  refine Nat.mul_lt_mul_of_pos_right ?_ (Nat.two_pow_pos _)
  have := Nat.two_pow_pos f.exponentBits
  omega
theorem word_parts (f : Format) (s : Bool) {r : Nat} (h : r < f.signWeight) : (f.word s r / f.signWeight % 2 == 1) = s ∧ f.word s r % f.signWeight = r := by
  have hp : 0 < f.signWeight := Nat.two_pow_pos _
  cases s with
  | false => simp [Format.word, Nat.div_eq_of_lt h, Nat.mod_eq_of_lt h]
  | true => simp [Format.word, Nat.add_div_left, Nat.div_eq_of_lt h, Nat.mod_eq_of_lt h, hp]
theorem read_rung (hf : FineF f) (s : Bool) {m : Nat} (h0 : 0 < m) (h : m < 2 ^ (f.fractionBits + 1)) : f.read (f.word s (rungOf f m)) = .number s (m * 2 ^ (f.fractionBits - m.log2)) (-((f.fractionBits - m.log2 : Nat) : Int)) := by
  have hr := rung_lt hf h0 h
  have hs := inf_lt_sign f
  obtain ⟨w1, w2⟩ := word_parts f s (show rungOf f m < f.signWeight by omega)
  obtain ⟨g1, g2⟩ := rung_ge hf h0 h
  have hl := log2_le h0 h
  have hlow := hf.low
  have hb : ¬ rungOf f m < f.binade := by
    intro hlt
    rw [Nat.div_eq_of_lt hlt] at g1
    omega
  unfold Format.read
  simp only [w1, w2, if_neg hb, if_pos hr, g2, g1]
  congr 1
  omega

/-- A datum is a whole number (a zero of either sign is 0). -/
def VD (f : Format) (d : Datum) (n : Int) : Prop :=
  ∃ (s : Bool) (k : Nat), d = .number s (n.natAbs * 2 ^ k) (-(k : Int)) ∧ (n ≠ 0 → s = decide (n < 0) ∧ k ≤ f.fractionBits) ∧ (k : Int) ≤ -f.leastPlace
/-- A word stands for a whole number. -/
def V (f : Format) (x : Nat) (n : Int) : Prop := VD f (f.read x) n
/-- The word of a whole number. -/
def F (f : Format) (n : Int) : Nat := f.nearest (decide (n < 0)) n.natAbs 0
/-- Small enough to stand exactly. -/
def Small (f : Format) (n : Int) : Prop := n.natAbs < 2 ^ (f.fractionBits + 1)

theorem F_eq (hf : FineF f) {n : Int} (hn : n ≠ 0) (h : Small f n) : F f n = f.word (decide (n < 0)) (rungOf f n.natAbs) := by
  have := nearest_exact hf (decide (n < 0)) (m := n.natAbs) (by omega) h 0
  simpa [F] using this
theorem F_zero (f : Format) : F f 0 = 0 := by simp [F, Format.nearest, Format.word]
theorem V_F (hf : FineF f) {n : Int} (h : Small f n) : V f (F f n) n := by
  have hlow := hf.low
  by_cases hn : n = 0
  · subst hn
    refine ⟨false, (-f.leastPlace).toNat, ?_, fun h => absurd rfl h, by omega⟩
    rw [F_zero]
    have hp : 0 < f.binade := Nat.two_pow_pos _
    have e : (-((-f.leastPlace).toNat : Int)) = f.leastPlace := by omega
    rw [e]
    unfold Format.read
    have hz : ¬ f.binade = 0 := by omega
    simp only [Nat.zero_mod, if_pos hp]
    simp [hz, hp]
  · rw [F_eq hf hn h]
    refine ⟨decide (n < 0), f.fractionBits - n.natAbs.log2, read_rung hf _ (by omega) h, fun _ => ⟨rfl, by omega⟩, by omega⟩
theorem V_zero_word (hf : FineF f) (s : Bool) : V f (f.word s 0) 0 := by
  have hlow := hf.low
  refine ⟨s, (-f.leastPlace).toNat, ?_, fun h => absurd rfl h, by omega⟩
  obtain ⟨w1, w2⟩ := word_parts f s (Nat.two_pow_pos _ : 0 < f.signWeight)
  have hp : 0 < f.binade := Nat.two_pow_pos _
  have e : (-((-f.leastPlace).toNat : Int)) = f.leastPlace := by omega
  rw [e]
  unfold Format.read
  have hz : ¬ f.binade = 0 := by omega
  simp only [w1, w2, if_pos hp]
  simp [hz]

theorem signed_V {s : Bool} {n : Int} {k u : Nat} (h : n ≠ 0 → s = decide (n < 0)) : signed s (n.natAbs * 2 ^ k) u = n * 2 ^ (k + u) := by
  unfold signed
  rw [Nat.shiftLeft_eq, Nat.mul_assoc, ← Nat.pow_add]
  by_cases hn : n = 0
  · subst hn; simp
  · rw [h hn]
    by_cases hs : n < 0
    · simp only [hs, decide_true, if_true]
      rw [Int.natCast_mul, Int.natCast_pow, show ((n.natAbs : Nat) : Int) = -n by omega]
      rw [Int.neg_mul, Int.neg_neg]
      rfl
    · simp only [hs, decide_false, Bool.false_eq_true, if_false]
      rw [Int.natCast_mul, Int.natCast_pow, show ((n.natAbs : Nat) : Int) = n by omega]
      rfl
theorem pow2_pos (k : Nat) : (0 : Int) < 2 ^ k := Int.pow_pos (by decide)
theorem cmp_scale {a b p : Int} (hp : 0 < p) : compare (a * p) (b * p) = compare a b := by
  simp only [compare, compareOfLessAndEq]
  have l1 : (a * p < b * p) ↔ a < b := ⟨fun h => Int.lt_of_mul_lt_mul_right h (Int.le_of_lt hp), fun h => Int.mul_lt_mul_of_pos_right h hp⟩
  have l2 : (a * p = b * p) ↔ a = b := ⟨fun h => Int.eq_of_mul_eq_mul_right (by omega) h, fun h => by rw [h]⟩
  simp only [l1, l2]
theorem order_V {x y : Nat} {a b : Int} (hx : V f x a) (hy : V f y b) : f.order x y = some (compare a b) := by
  obtain ⟨s, k, h1, h2, _⟩ := hx
  obtain ⟨t, j, g1, g2, _⟩ := hy
  unfold Format.order
  rw [h1, g1]
  simp only [Datum.order]
  rw [signed_V (fun h => (h2 h).1), signed_V (fun h => (g2 h).1)]
  have e1 : k + (-(k : Int) - min (-(k : Int)) (-(j : Int))).toNat = max k j := by omega
  have e2 : j + (-(j : Int) - min (-(k : Int)) (-(j : Int))).toNat = max k j := by omega
  rw [e1, e2, cmp_scale (pow2_pos _)]
/-- The very word of a whole number: of a zero, its sign is left open. -/
def G (f : Format) (x : Nat) (n : Int) : Prop := ∃ s : Bool, (n ≠ 0 → s = decide (n < 0)) ∧ x = f.word s (if n = 0 then 0 else rungOf f n.natAbs)
theorem G_F (hf : FineF f) {n : Int} (h : Small f n) : G f (F f n) n := by
  by_cases hn : n = 0
  · subst hn; exact ⟨false, fun h => absurd rfl h, by rw [F_zero]; simp [Format.word]⟩
  · exact ⟨_, fun _ => rfl, by rw [F_eq hf hn h, if_neg hn]⟩
theorem G.ne {x : Nat} {n : Int} (hf : FineF f) (hs : Small f n) (h : G f x n) (hn : n ≠ 0) : x = F f n := by
  obtain ⟨s, h1, h2⟩ := h
  rw [h2, if_neg hn, h1 hn, F_eq hf hn hs]
theorem G.V {x : Nat} {n : Int} (hf : FineF f) (hs : Small f n) (h : G f x n) : V f x n := by
  by_cases hn : n = 0
  · obtain ⟨s, h1, h2⟩ := h
    subst hn
    rw [h2, if_pos rfl]
    exact V_zero_word hf s
  · rw [h.ne hf hs hn]
    exact V_F hf hs
/-- What comes of an operation at whole numbers. -/
def Gives (f : Format) (o : Option Nat) (n : Int) : Prop := ∃ r, o = some r ∧ G f r n
theorem write_number (hf : FineF f) {s : Bool} {n : Int} (k : Nat) (hs : n ≠ 0 → s = decide (n < 0)) (hn : Small f n) : G f (f.write (.number s (n.natAbs * 2 ^ k) (-(k : Int)))) n := by
  by_cases h0 : n = 0
  · subst h0
    exact ⟨s, fun h => absurd rfl h, by simp [Format.write, Format.nearest]⟩
  · refine ⟨s, hs, ?_⟩
    rw [if_neg h0]
    exact nearest_exact hf _ (by omega) hn k
theorem sum_VD (hf : FineF f) {x y : Datum} {a b : Int} (hx : VD f x a) (hy : VD f y b) (hs : Small f (a + b)) : Gives f ((x.sum y).map f.write) (a + b) := by
  obtain ⟨s, k, rfl, h2, _⟩ := hx
  obtain ⟨t, j, rfl, g2, _⟩ := hy
  simp only [Datum.sum, Option.map_some]
  rw [signed_V (fun h => (h2 h).1), signed_V (fun h => (g2 h).1)]
  have e1 : k + (-(k : Int) - min (-(k : Int)) (-(j : Int))).toNat = max k j := by omega
  have e2 : j + (-(j : Int) - min (-(k : Int)) (-(j : Int))).toNat = max k j := by omega
  have e3 : min (-(k : Int)) (-(j : Int)) = -((max k j : Nat) : Int) := by omega
  rw [e1, e2, e3, ← Int.add_mul]
  have hp := pow2_pos (max k j)
  refine ⟨_, rfl, ?_⟩
  rw [Int.natAbs_mul, Int.natAbs_pow, show (2 : Int).natAbs = 2 from rfl]
  refine write_number hf (max k j) ?_ hs
  intro h0
  have hz : (a + b) * 2 ^ max k j ≠ 0 := Int.mul_ne_zero h0 (by omega)
  rw [if_neg hz]
  refine decide_eq_decide.2 ⟨fun h => ?_, fun h => Int.mul_neg_of_neg_of_pos h hp⟩
  rcases Int.lt_trichotomy (a + b) 0 with q | q | q
  · exact q
  · exact absurd q h0
  · have := Int.mul_pos q hp; omega
theorem add_V (hf : FineF f) {x y : Nat} {a b : Int} (hx : V f x a) (hy : V f y b) (hs : Small f (a + b)) : Gives f (f.add x y) (a + b) := sum_VD hf hx hy hs
theorem VD_opposite {d : Datum} {n : Int} (h : VD f d n) : VD f d.opposite (-n) := by
  obtain ⟨s, k, rfl, h2, h3⟩ := h
  refine ⟨!s, k, by simp [Datum.opposite], fun h0 => ?_, h3⟩
  obtain ⟨h4, h5⟩ := h2 (by omega)
  refine ⟨?_, h5⟩
  rw [h4]
  by_cases q : n < 0
  · simp [q]; omega
  · simp [q]; omega
theorem sub_V (hf : FineF f) {x y : Nat} {a b : Int} (hx : V f x a) (hy : V f y b) (hs : Small f (a - b)) : Gives f (f.sub x y) (a - b) := by
  have := sum_VD hf hx (VD_opposite hy) (by rwa [← Int.sub_eq_add_neg])
  rwa [← Int.sub_eq_add_neg] at this
theorem mul_V (hf : FineF f) {x y : Nat} {a b : Int} (hx : V f x a) (hy : V f y b) (hs : Small f (a * b)) : Gives f (f.mul x y) (a * b) := by
  obtain ⟨s, k, h1, h2, _⟩ := hx
  obtain ⟨t, j, g1, g2, _⟩ := hy
  unfold Format.mul
  rw [h1, g1]
  simp only [Datum.product, Option.map_some]
  refine ⟨_, rfl, ?_⟩
  rw [show a.natAbs * 2 ^ k * (b.natAbs * 2 ^ j) = (a * b).natAbs * 2 ^ (k + j) by rw [Int.natAbs_mul, Nat.pow_add]; simp only [Nat.mul_assoc, Nat.mul_left_comm], show -(k : Int) + -(j : Int) = -((k + j : Nat) : Int) by omega]
  refine write_number hf (k + j) ?_ hs
  intro h0
  have ha : a ≠ 0 := fun e => h0 (by rw [e, Int.zero_mul])
  have hb : b ≠ 0 := fun e => h0 (by rw [e, Int.mul_zero])
  rw [(h2 ha).1, (g2 hb).1]
  rcases Int.lt_or_gt_of_ne ha with p | p <;> rcases Int.lt_or_gt_of_ne hb with q | q
  · have hz := Int.mul_pos_of_neg_of_neg p q
    rw [decide_eq_true p, decide_eq_true q, decide_eq_false (show ¬ a * b < 0 by omega)]; rfl
  · have hz := Int.mul_neg_of_neg_of_pos p q
    rw [decide_eq_true p, decide_eq_false (show ¬ b < 0 by omega), decide_eq_true hz]; rfl
  · have hz := Int.mul_neg_of_pos_of_neg p q
    rw [decide_eq_false (show ¬ a < 0 by omega), decide_eq_true q, decide_eq_true hz]; rfl
  · have hz := Int.mul_pos p q
    rw [decide_eq_false (show ¬ a < 0 by omega), decide_eq_false (show ¬ b < 0 by omega), decide_eq_false (show ¬ a * b < 0 by omega)]; rfl
/-- From one format to another. -/
theorem conv_V {g : Format} (hg : FineF g) {x : Nat} {n : Int} (hx : V f x n) (hs : Small g n) : ∃ s m e, f.read x = .number s m e ∧ G g (g.write (.number s m e)) n := by
  obtain ⟨s, k, h1, h2, _⟩ := hx
  exact ⟨s, _, _, h1, write_number hg k (fun h => (h2 h).1) hs⟩
theorem V_finite {x : Nat} {n : Int} (h : V f x n) : (f.read x).isInfinity = false := by
  obtain ⟨s, k, h1, _⟩ := h
  rw [h1]; rfl
theorem signed_self {s : Bool} {n : Int} (h : n ≠ 0 → s = decide (n < 0)) : signed s n.natAbs 0 = n := by
  have := signed_V (s := s) (n := n) (k := 0) (u := 0) h
  simpa using this
theorem toInt_V {x : Nat} {n : Int} (h : V f x n) : (f.read x).toInt .zero = some n := by
  obtain ⟨s, k, h1, h2, _⟩ := h
  rw [h1]
  unfold Datum.toInt Datum.integral
  have e1 : (-(k : Int)).toNat = 0 := by omega
  have e2 : (- -(k : Int)).toNat = k := by omega
  simp only [e1, e2, Nat.shiftLeft_zero, cut_exact]
  rw [signed_self (fun h => (h2 h).1)]

theorem read_number {x : Nat} {s : Bool} {m : Nat} {i : Int} (h : f.read x = .number s m i) : m < 2 ^ (f.fractionBits + 1) ∧ f.leastPlace ≤ i ∧ (i = f.leastPlace ∨ 2 ^ f.fractionBits ≤ m) := by
  have hp : 0 < f.binade := Nat.two_pow_pos _
  have hb : f.binade = 2 ^ f.fractionBits := rfl
  unfold Format.read at h
  simp only at h
  split at h
  · injection h with h1 h2 h3
    rw [Nat.pow_succ]
    exact ⟨by omega, by omega, .inl h3.symm⟩
  · split at h
    · injection h with h1 h2 h3
      have := Nat.mod_lt (x % f.signWeight) hp
      rw [Nat.pow_succ]
      exact ⟨by omega, by omega, .inr (by omega)⟩
    · split at h <;> cases h
theorem cut_zero_le (neg : Bool) (n d : Nat) : Toward.zero.cut neg n d * 2 ^ d ≤ n := by
  unfold Toward.cut
  simp only [Bool.toNat_false, Nat.add_zero, Nat.shiftLeft_eq, Nat.one_mul]
  rcases Nat.le_total d (n.log2 + 2) with h | h
  · rw [Nat.min_eq_left h]
    exact Nat.div_mul_le_self _ _
  · rw [Nat.min_eq_right h]
    have : n < 2 ^ (n.log2 + 2) := by
      rcases Nat.eq_zero_or_pos n with h0 | h0
      · subst h0; exact Nat.two_pow_pos _
      · have := ((log2_iff (show n ≠ 0 by omega)).1 rfl).2
        exact Nat.lt_of_lt_of_le this (Nat.pow_le_pow_right (by omega) (by omega))
    rw [Nat.div_eq_of_lt this]
    omega

/-- Where a number lies, as its comparison with a whole number tells. -/
theorem order_number {x y : Nat} {s : Bool} {m : Nat} {i n : Int} (hx : f.read x = .number s m i) (hy : V f y n) : ∃ u w : Nat, f.order x y = some (compare (signed s m u) (n * 2 ^ w)) ∧ (w : Int) = u - i ∧ (0 ≤ i → (u : Int) = i + w) := by
  obtain ⟨t, j, g1, g2, _⟩ := hy
  unfold Format.order
  rw [hx, g1]
  simp only [Datum.order]
  rw [signed_V (fun h => (g2 h).1)]
  refine ⟨_, _, rfl, by omega, by omega⟩
theorem cmp_le {a b : Int} (h : (some (compare a b) == some .lt || some (compare a b) == some .eq) = true) : a ≤ b := by
  simp only [compare, compareOfLessAndEq] at h
  split at h
  · omega
  · split at h
    · omega
    · simp at h
theorem cmp_ge {a b : Int} (h : (some (compare a b) == some .gt || some (compare a b) == some .eq) = true) : b ≤ a := by
  simp only [compare, compareOfLessAndEq] at h
  split at h
  · simp at h
  · split at h <;> omega
theorem toInt_between {x y z : Nat} {low high : Int} (hl : low ≤ 0) (hh : 0 ≤ high) (hy : V f y low) (hz : V f z high)
    (h1 : (f.order x y == some .gt || f.order x y == some .eq) = true) (h2 : (f.order x z == some .lt || f.order x z == some .eq) = true) : ∃ n, (f.read x).toInt .zero = some n ∧ low ≤ n ∧ n ≤ high := by
  cases hx : f.read x with
  | nan s t => unfold Format.order at h1; rw [hx] at h1; simp [Datum.order] at h1
  | infinity s =>
    obtain ⟨t, j, g1, _⟩ := hy
    obtain ⟨t', j', g1', _⟩ := hz
    unfold Format.order at h1 h2
    rw [hx, g1] at h1
    rw [hx, g1'] at h2
    cases s <;> simp [Datum.order] at h1 h2
  | number s m i =>
    obtain ⟨u, w, e, hw, hu⟩ := order_number hx hy
    obtain ⟨u', w', e', hw', hu'⟩ := order_number hx hz
    rw [e] at h1
    rw [e'] at h2
    have k1 := cmp_ge h1
    have k2 := cmp_le h2
    refine ⟨_, rfl, ?_⟩
    simp only [signed]
    have hc := cut_zero_le s (m <<< i.toNat) (-i).toNat
    generalize Toward.zero.cut s (m <<< i.toNat) (-i).toNat = c at hc
    rw [Nat.shiftLeft_eq] at hc
    simp only [Nat.shiftLeft_zero]
    have key : ∀ (u w : Nat), (w : Int) = u - i → ((0 : Int) ≤ i → (u : Int) = i + w) → c * 2 ^ w ≤ m * 2 ^ u := by
      intro u w hw hu
      rcases Int.lt_or_le i 0 with hi | hi
      · rw [show i.toNat = 0 by omega, Nat.pow_zero, Nat.mul_one] at hc
        have h3 := Nat.mul_le_mul_right (2 ^ u) hc
        rwa [Nat.mul_assoc, ← Nat.pow_add, show (-i).toNat + u = w by omega] at h3
      · rw [show (-i).toNat = 0 by omega, Nat.pow_zero, Nat.mul_one] at hc
        have h3 := Nat.mul_le_mul_right (2 ^ w) hc
        rwa [Nat.mul_assoc, ← Nat.pow_add, show i.toNat + w = u by omega] at h3
    cases s with
    | false =>
      simp only [Bool.false_eq_true, if_false]
      refine ⟨by omega, ?_⟩
      have q := key u' w' hw' hu'
      simp only [signed, Bool.false_eq_true, if_false, Nat.shiftLeft_eq] at k2
      have hp := pow2_pos w'
      refine Int.le_of_mul_le_mul_right (a := 2 ^ w') ?_ hp
      refine Int.le_trans ?_ k2
      have q' : ((c * 2 ^ w' : Nat) : Int) ≤ ((m * 2 ^ u' : Nat) : Int) := by omega
      rwa [Int.natCast_mul, Int.natCast_pow] at q'
    | true =>
      simp only [if_true]
      refine ⟨?_, by omega⟩
      have q := key u w hw hu
      simp only [signed, if_true, Nat.shiftLeft_eq] at k1
      have hp := pow2_pos w
      refine Int.le_of_mul_le_mul_right (a := 2 ^ w) ?_ hp
      refine Int.le_trans k1 ?_
      have q' : ((c * 2 ^ w : Nat) : Int) ≤ ((m * 2 ^ u : Nat) : Int) := by omega
      rw [Int.natCast_mul c, Int.natCast_pow] at q'
      rw [Int.neg_mul]
      exact Int.neg_le_neg q'
theorem cmp_eq {a b : Int} (h : compare a b = .eq) : a = b := by
  simp only [compare, compareOfLessAndEq] at h
  split at h
  · cases h
  · split at h
    · assumption
    · cases h
/-- What equals a whole number is that number. -/
theorem V_of_eq (hf : FineF f) {x y : Nat} {n : Int} (hy : V f y n) (hn : Small f n) (h : f.order x y = some .eq) : V f x n := by
  have hlow := hf.low
  cases hx : f.read x with
  | nan s t => unfold Format.order at h; rw [hx] at h; simp [Datum.order] at h
  | infinity s =>
    obtain ⟨t, j, g1, _⟩ := hy
    unfold Format.order at h
    rw [hx, g1] at h
    cases s <;> simp [Datum.order] at h
  | number s m i =>
    obtain ⟨u, w, e, hw, hu⟩ := order_number hx hy
    rw [e] at h
    injection h with h
    have k := cmp_eq h
    obtain ⟨r1, r2, r3⟩ := read_number hx
    have hpu := Nat.two_pow_pos u
    have hpw := Nat.two_pow_pos w
    have hab : m * 2 ^ u = n.natAbs * 2 ^ w := by
      have := congrArg Int.natAbs k
      unfold signed at this
      rw [Int.natAbs_mul, Int.natAbs_pow, show (2 : Int).natAbs = 2 from rfl, Nat.shiftLeft_eq] at this
      cases s with
      | false => simp only [Bool.false_eq_true, if_false, Int.natAbs_natCast] at this; exact this
      | true => simp only [if_true, Int.natAbs_neg, Int.natAbs_natCast] at this; exact this
    have hi : i ≤ 0 := by
      rcases Int.lt_or_le 0 i with hi | hi
      · exfalso
        have hm : 2 ^ f.fractionBits ≤ m := by rcases r3 with r | r; omega; exact r
        have hu' := hu (by omega)
        rw [show u = i.toNat + w by omega, Nat.pow_add, ← Nat.mul_assoc] at hab
        have h3 := Nat.eq_of_mul_eq_mul_right hpw hab
        have h4 : 2 ^ 1 ≤ 2 ^ i.toNat := Nat.pow_le_pow_right (by omega) (by omega)
        have h5 := Nat.mul_le_mul hm h4
        unfold Small at hn
        rw [Nat.pow_succ] at hn
        omega
      · exact hi
    have hm : m = n.natAbs * 2 ^ (-i).toNat := by
      rw [show w = (-i).toNat + u by omega, Nat.pow_add, ← Nat.mul_assoc] at hab
      exact Nat.eq_of_mul_eq_mul_right hpu hab
    refine ⟨s, (-i).toNat, ?_, fun h0 => ⟨?_, ?_⟩, by omega⟩
    · rw [hx, ← hm]; congr 1; omega
    · have hm0 : 0 < m := by rw [hm]; exact Nat.mul_pos (by omega) (Nat.two_pow_pos _)
      unfold signed at k
      rw [Nat.shiftLeft_eq] at k
      have hmu : 0 < m * 2 ^ u := Nat.mul_pos hm0 hpu
      have hp := pow2_pos w
      cases s with
      | false =>
        simp only [Bool.false_eq_true, if_false] at k
        rcases Int.lt_or_le n 0 with q | q
        · have := Int.mul_neg_of_neg_of_pos q hp; omega
        · simp; omega
      | true =>
        simp only [if_true] at k
        rcases Int.lt_or_le n 0 with q | q
        · simp [q]
        · have := Int.mul_nonneg q (Int.le_of_lt hp); omega
    · rcases Nat.lt_or_ge f.fractionBits (-i).toNat with q | q
      · exfalso
        have h4 : 2 ^ (f.fractionBits + 1) ≤ 2 ^ (-i).toNat := Nat.pow_le_pow_right (by omega) q
        have h5 : 1 * 2 ^ (-i).toNat ≤ n.natAbs * 2 ^ (-i).toNat := Nat.mul_le_mul_right _ (by omega)
        omega
      · exact q
/-- The word of a number that came in. -/
theorem V_word (hf : FineF f) (hlow : f.leastPlace + f.fractionBits < 0) {x : Nat} {n : Int} (hx : x < 2 * f.signWeight) (h : V f x n) (hn : Small f n) : G f x n := by
  obtain ⟨s, k, h1, h2, h3⟩ := h
  have hp : 0 < f.signWeight := Nat.two_pow_pos _
  have hB : 0 < f.binade := Nat.two_pow_pos _
  have hB2 : f.binade = 2 ^ f.fractionBits := rfl
  have hxw : x = f.word (x / f.signWeight % 2 == 1) (x % f.signWeight) := by
    have hd := Nat.div_add_mod x f.signWeight
    have hq : x / f.signWeight < 2 := by rw [Nat.div_lt_iff_lt_mul hp]; exact hx
    unfold Format.word
    rcases Nat.lt_or_ge (x / f.signWeight) 1 with q | q
    · have : x / f.signWeight = 0 := Nat.lt_one_iff.1 q
      rw [this] at hd ⊢
      simp at hd ⊢; omega
    · have : x / f.signWeight = 1 := Nat.le_antisymm (Nat.le_of_lt_succ hq) q
      rw [this] at hd ⊢
      simp at hd ⊢; omega
  unfold Format.read at h1
  simp only at h1
  generalize x % f.signWeight = r at *
  generalize (x / f.signWeight % 2 == 1) = s' at *
  split at h1
  · injection h1 with e1 e2 e3
    subst e1
    have hz : n = 0 := by
      rcases Int.decEq n 0 with q | q
      · have := (h2 q).2; omega
      · exact q
    subst hz
    simp at e2
    subst e2
    exact ⟨s', fun h => absurd rfl h, by rw [if_pos rfl]; exact hxw⟩
  · split at h1
    · injection h1 with e1 e2 e3
      subst e1
      have hn0 : n ≠ 0 := by rintro rfl; simp at e2; omega
      have hk := (h2 hn0).2
      refine ⟨s', fun h => (h2 h).1, ?_⟩
      rw [if_neg hn0, hxw]
      congr 1
      have hm : 0 < n.natAbs := by omega
      have hl : (n.natAbs * 2 ^ k).log2 = f.fractionBits := by
        have hmod := Nat.mod_lt r hB
        rw [log2_iff (Nat.ne_of_gt (Nat.mul_pos hm (Nat.two_pow_pos k))), Nat.pow_succ]
        omega
      rw [log2_mul_pow hm] at hl
      unfold rungOf
      rw [show f.fractionBits - n.natAbs.log2 = k by omega, ← e2]
      have hdm := Nat.div_add_mod r f.binade
      have hq : ((n.natAbs.log2 : Int) - f.fractionBits - f.leastPlace).toNat = r / f.binade - 1 := by omega
      rw [hq, ← hB2]
      have h1 : 1 ≤ r / f.binade := by rw [Nat.le_div_iff_mul_le hB]; omega
      rw [Nat.sub_mul, Nat.mul_comm (r / f.binade)]
      have : f.binade * 1 ≤ f.binade * (r / f.binade) := Nat.mul_le_mul_left _ h1
      omega
    · split at h1 <;> cases h1
theorem xor_two_pow {r k : Nat} (h : r < 2 ^ k) : r ^^^ 2 ^ k = 2 ^ k + r := by
  apply Nat.eq_of_testBit_eq
  intro i
  rw [Nat.testBit_xor, Nat.testBit_two_pow]
  rcases Nat.lt_trichotomy i k with q | q | q
  · rw [Nat.testBit_two_pow_add_gt q]
    have hne : ¬ k = i := by omega
    simp [hne]
  · subst q
    rw [Nat.testBit_two_pow_add_eq, Nat.testBit_lt_two_pow h]
    simp
  · have h1 : r < 2 ^ i := Nat.lt_of_lt_of_le h (Nat.pow_le_pow_right (by omega) (by omega))
    have h2 : 2 ^ k + r < 2 ^ i := Nat.lt_of_lt_of_le (show 2 ^ k + r < 2 ^ (k + 1) by rw [Nat.pow_succ]; omega) (Nat.pow_le_pow_right (by omega) (by omega))
    have hne : ¬ k = i := by omega
    rw [Nat.testBit_lt_two_pow h1, Nat.testBit_lt_two_pow h2]
    simp [hne]
theorem rg_lt (hf : FineF f) {n : Int} (h : Small f n) : (if n = 0 then 0 else rungOf f n.natAbs) < f.signWeight := by
  split
  · exact Nat.two_pow_pos _
  · exact Nat.lt_trans (rung_lt hf (by omega) h) (inf_lt_sign f)
/-- A number with its sign turned. -/
theorem neg_G (hf : FineF f) {x : Nat} {n : Int} (h : G f x n) (hs : Small f n) : G f (x ^^^ 2 ^ (f.exponentBits + f.fractionBits)) (-n) := by
  have hr := rg_lt hf hs
  obtain ⟨s, h1, rfl⟩ := h
  refine ⟨!s, fun h0 => ?_, ?_⟩
  · rw [h1 (by omega)]
    by_cases q : n < 0
    · simp [q]; omega
    · simp [q]; omega
  · rw [Int.natAbs_neg, show (if -n = 0 then 0 else rungOf f n.natAbs) = (if n = 0 then 0 else rungOf f n.natAbs) by simp [Int.neg_eq_zero]]
    generalize (if n = 0 then 0 else rungOf f n.natAbs) = r at *
    have hx := xor_two_pow (show r < 2 ^ (f.exponentBits + f.fractionBits) from hr)
    cases s with
    | false => simpa [Format.word, Format.signWeight] using hx
    | true =>
      show (2 ^ (f.exponentBits + f.fractionBits) + r) ^^^ 2 ^ (f.exponentBits + f.fractionBits) = r
      rw [← hx, Nat.xor_assoc, Nat.xor_self, Nat.xor_zero]
end Go.Proofs.Ytmmhflpeapojgaa
