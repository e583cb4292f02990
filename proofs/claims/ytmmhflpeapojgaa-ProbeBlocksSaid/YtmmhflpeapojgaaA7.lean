import Derived.Test.YtmmhflpeapojgaaA6
namespace Go.Proofs.Ytmmhflpeapojgaa
set_option linter.unusedVariables false
set_option linter.unusedSimpArgs false
open Go.RowKit Ieee
attribute [local go_sem] ints_get ints_size ints_getElem

/-- A sample's word is the number's own. -/
theorem sample_G {x : Nat} (h : sampleB x = true) (hx : x < 4294967296) : G fmt x (smpN x) := by
  obtain ⟨h1, h2, h3⟩ := sample_V h
  exact V_word fmt_fine (by decide) (by show x < 2 * 2 ^ (8 + 23); omega) h1 (small_of (by omega))
def minW (x y : Nat) : Nat := match fmt.order x y with | some .lt => x | some .gt => y | _ => if (FloatKind.f32.decode x).neg then x else y
def maxW (x y : Nat) : Nat := match fmt.order x y with | some .gt => x | some .lt => y | _ => if (FloatKind.f32.decode x).neg then y else x
theorem cmp_cases (a b : Int) : (compare a b = .lt ∧ a < b) ∨ (compare a b = .eq ∧ a = b) ∨ (compare a b = .gt ∧ b < a) := by
  simp only [compare, compareOfLessAndEq]
  rcases Int.lt_trichotomy a b with h | h | h
  · left; simp [h]
  · right; left; subst h; simp
  · right; right
    rw [if_neg (by omega), if_neg (by omega)]
    exact ⟨rfl, h⟩
theorem minW_G {x y : Nat} {a b : Int} (hx : G fmt x a) (hy : G fmt y b) (ha : Small fmt a) (hb : Small fmt b) : G fmt (minW x y) (min a b) := by
  have ho := order_V (hx.V fmt_fine ha) (hy.V fmt_fine hb)
  unfold minW
  rw [ho]
  rcases cmp_cases a b with ⟨h, h'⟩ | ⟨h, h'⟩ | ⟨h, h'⟩
  · rw [h, show min a b = a by omega]; exact hx
  · rw [h, show min a b = a by omega]; subst h'; simp only; split; exact hx; exact hy
  · rw [h, show min a b = b by omega]; exact hy
theorem maxW_G {x y : Nat} {a b : Int} (hx : G fmt x a) (hy : G fmt y b) (ha : Small fmt a) (hb : Small fmt b) : G fmt (maxW x y) (max a b) := by
  have ho := order_V (hx.V fmt_fine ha) (hy.V fmt_fine hb)
  unfold maxW
  rw [ho]
  rcases cmp_cases a b with ⟨h, h'⟩ | ⟨h, h'⟩ | ⟨h, h'⟩
  · rw [h, show max a b = b by omega]; exact hy
  · rw [h, show max a b = a by omega]; subst h'; simp only; split; exact hy; exact hx
  · rw [h, show max a b = a by omega]; exact hx
theorem run_min_f {x y : Nat} {a b : Int} (hx : V fmt x a) (hy : V fmt y b) (ts : Array TypeId) (t : TypeId) (W : World) : (Builtin.min_ ts t #[.float .f32 x, .float .f32 y]).run Try.prog W = .ok (.float .f32 (minW x y)) W := by
  have ho := order_V hx hy
  unfold minW
  simp only [Builtin.min_, List.foldlM, Builtin.min2]
  rw [show FloatKind.f32.format.order x y = some (compare a b) from ho]
  rcases cmp_cases a b with ⟨h, h'⟩ | ⟨h, h'⟩ | ⟨h, h'⟩ <;> rw [h] <;> simp
theorem run_max_f {x y : Nat} {a b : Int} (hx : V fmt x a) (hy : V fmt y b) (ts : Array TypeId) (t : TypeId) (W : World) : (Builtin.max_ ts t #[.float .f32 x, .float .f32 y]).run Try.prog W = .ok (.float .f32 (maxW x y)) W := by
  have ho := order_V hx hy
  unfold maxW
  simp only [Builtin.max_, List.foldlM, Builtin.max2]
  rw [show FloatKind.f32.format.order x y = some (compare a b) from ho]
  rcases cmp_cases a b with ⟨h, h'⟩ | ⟨h, h'⟩ | ⟨h, h'⟩ <;> rw [h] <;> simp
/-- The least and the greatest of the first numbers. -/
def least (l : List Int) : Nat → Int
  | 0 => l.getD 0 0
  | k + 1 => min (least l k) (l.getD k 0)
def most (l : List Int) : Nat → Int
  | 0 => l.getD 0 0
  | k + 1 => max (most l k) (l.getD k 0)
theorem least_bound {l : List Int} (h : ∀ i, -2048 ≤ l.getD i 0 ∧ l.getD i 0 ≤ 2047) : ∀ k, -2048 ≤ least l k ∧ least l k ≤ 2047
  | 0 => h 0
  | k + 1 => by have := least_bound h k; have := h k; simp only [least]; omega
theorem most_bound {l : List Int} (h : ∀ i, -2048 ≤ l.getD i 0 ∧ l.getD i 0 ≤ 2047) : ∀ k, -2048 ≤ most l k ∧ most l k ≤ 2047
  | 0 => h 0
  | k + 1 => by have := most_bound h k; have := h k; simp only [most]; omega
/-- A list of samples, read as words below 2^32. -/
structure SL (l : List Nat) : Prop where
  all : l.all sampleB = true
  lt : ∀ x ∈ l, x < 4294967296
def nums (l : List Nat) : List Int := l.map smpN
theorem nums_get (l : List Nat) (i : Nat) (h : i < l.length) : (nums l).getD i 0 = smpN (l.getD i 0) := by
  simp [nums, List.getD_eq_getElem?_getD, List.getElem?_eq_getElem h]
theorem SL.get {l : List Nat} (h : SL l) {i : Nat} (hi : i < l.length) : sampleB (l.getD i 0) = true ∧ l.getD i 0 < 4294967296 := by
  rw [List.getD_eq_getElem?_getD, List.getElem?_eq_getElem hi]
  exact ⟨List.all_eq_true.1 h.all _ (List.getElem_mem hi), h.lt _ (List.getElem_mem hi)⟩
theorem SL.bound {l : List Nat} (h : SL l) (i : Nat) : -2048 ≤ (nums l).getD i 0 ∧ (nums l).getD i 0 ≤ 2047 := by
  rcases Nat.lt_or_ge i l.length with hi | hi
  · rw [nums_get l i hi]
    exact (sample_V (h.get hi).1).2
  · rw [List.getD_eq_getElem?_getD, List.getElem?_eq_none (by simpa [nums] using hi)]
    simp
theorem SL.G {l : List Nat} (h : SL l) {i : Nat} (hi : i < l.length) : G fmt (l.getD i 0) ((nums l).getD i 0) := by
  rw [nums_get l i hi]
  exact sample_G (h.get hi).1 (h.get hi).2
/-- What slices.Min and slices.Max answer. -/
def WPost (n : Int) (w : World) (e : Ending) (w' : World) : Prop := ∃ r, e = .returned (.float .f32 r) ∧ Go.Proofs.Ytmmhflpeapojgaa.G fmt r n ∧ w = w'
set_option maxHeartbeats 1000000 in
theorem min_calls (A : Option Addr) (c : Nat) (l : List Nat) (w : World) (h0 : 0 < l.length) (hl : l.length ≤ 4096) (hs : SL l) (hC : FC w A l) :
    Calls Try.prog 24 #[.slice A l.length c] w fun e w' => WPost (least (nums l) l.length) w e w' := by
  have HC := Lib.hid hC
  have HS := Lib.hid hs
  have hlb := least_bound hs.bound
  have HLB := Lib.hid hlb
  obtain ⟨ad, rfl, hc0⟩ := hC 0 h0
  have hG0 := hs.G h0
  have HG0 := Lib.hid hG0
  have h0' : ¬ (l.length : Int) < 1 := by omega
  have h0'' : (0 : Int) < (l.length : Int) := by omega
  clear hC hs hlb hG0
  have h00 : ad.add 0 = ad := by unfold Addr.add; split <;> simp_all
  rw [h00] at hc0
  generalize l.getD 0 0 = x0 at *
  go_enter Try.func24, Try.ntmps24
  go_wp2
  go_loop [3, 4] (fun m i => ∃ (k r : Nat), 1 ≤ k ∧ k ≤ l.length ∧ i = .int .i64 k ∧ m = .float .f32 r ∧ Hid (Go.Proofs.Ytmmhflpeapojgaa.G fmt r (least (nums l) k))) (fun _ i => l.length - (intOf i).toNat)
  case atStart => exact ⟨1, x0, by omega, by omega, rfl, rfl, Lib.hid (by simp only [least]; rw [Int.min_self]; exact HG0.out)⟩
  case round =>
    obtain ⟨k, r, hk1, hk, rfl, rfl, HI⟩ := hrel
    by_cases hlt : k < l.length
    · obtain ⟨ad', e, hc⟩ := HC.out k hlt
      cases e
      have hlt' : (k : Int) < (l.length : Int) := by omega
      have hGk := HS.out.G hlt
      have hbk := HS.out.bound k
      have hb1 := HLB.out k
      have s1 : Small fmt (least (nums l) k) := small_of (by omega)
      have s2 : Small fmt ((nums l).getD k 0) := small_of (by omega)
      have hm := fun W => run_min_f (HI.out.V fmt_fine s1) (hGk.V fmt_fine s2) #[27, 27] 27 W
      have HN := Lib.hid (minW_G HI.out hGk s1 s2)
      clear hGk hbk hb1 s1 s2
      generalize l.getD k 0 = x at *
      go_wp2
      go_round
      case rel => exact ⟨k + 1, minW r x, by omega, by omega, by go_num, rfl, HN⟩
      case measure => simp [intOf]; omega
    · obtain rfl : k = l.length := by omega
      have hge : ¬ (l.length : Int) < (l.length : Int) := by omega
      go_wp2
      go_ret
      exact ⟨r, rfl, HI.out, rfl⟩
set_option maxHeartbeats 1000000 in
theorem max_calls (A : Option Addr) (c : Nat) (l : List Nat) (w : World) (h0 : 0 < l.length) (hl : l.length ≤ 4096) (hs : SL l) (hC : FC w A l) :
    Calls Try.prog 25 #[.slice A l.length c] w fun e w' => WPost (most (nums l) l.length) w e w' := by
  have HC := Lib.hid hC
  have HS := Lib.hid hs
  have hlb := most_bound hs.bound
  have HLB := Lib.hid hlb
  obtain ⟨ad, rfl, hc0⟩ := hC 0 h0
  have hG0 := hs.G h0
  have HG0 := Lib.hid hG0
  have h0' : ¬ (l.length : Int) < 1 := by omega
  have h0'' : (0 : Int) < (l.length : Int) := by omega
  clear hC hs hlb hG0
  have h00 : ad.add 0 = ad := by unfold Addr.add; split <;> simp_all
  rw [h00] at hc0
  generalize l.getD 0 0 = x0 at *
  go_enter Try.func25, Try.ntmps25
  go_wp2
  go_loop [3, 4] (fun m i => ∃ (k r : Nat), 1 ≤ k ∧ k ≤ l.length ∧ i = .int .i64 k ∧ m = .float .f32 r ∧ Hid (Go.Proofs.Ytmmhflpeapojgaa.G fmt r (most (nums l) k))) (fun _ i => l.length - (intOf i).toNat)
  case atStart => exact ⟨1, x0, by omega, by omega, rfl, rfl, Lib.hid (by simp only [most]; rw [Int.max_self]; exact HG0.out)⟩
  case round =>
    obtain ⟨k, r, hk1, hk, rfl, rfl, HI⟩ := hrel
    by_cases hlt : k < l.length
    · obtain ⟨ad', e, hc⟩ := HC.out k hlt
      cases e
      have hlt' : (k : Int) < (l.length : Int) := by omega
      have hGk := HS.out.G hlt
      have hbk := HS.out.bound k
      have hb1 := HLB.out k
      have s1 : Small fmt (most (nums l) k) := small_of (by omega)
      have s2 : Small fmt ((nums l).getD k 0) := small_of (by omega)
      have hm := fun W => run_max_f (HI.out.V fmt_fine s1) (hGk.V fmt_fine s2) #[27, 27] 27 W
      have HN := Lib.hid (maxW_G HI.out hGk s1 s2)
      clear hGk hbk hb1 s1 s2
      generalize l.getD k 0 = x at *
      go_wp2
      go_round
      case rel => exact ⟨k + 1, maxW r x, by omega, by omega, by go_num, rfl, HN⟩
      case measure => simp [intOf]; omega
    · obtain rfl : k = l.length := by omega
      have hge : ¬ (l.length : Int) < (l.length : Int) := by omega
      go_wp2
      go_ret
      exact ⟨r, rfl, HI.out, rfl⟩
end Go.Proofs.Ytmmhflpeapojgaa
