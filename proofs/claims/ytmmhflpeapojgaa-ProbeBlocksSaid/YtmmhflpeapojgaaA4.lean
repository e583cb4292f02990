import Derived.Test.YtmmhflpeapojgaaA3
namespace Go.Proofs.Ytmmhflpeapojgaa
set_option linter.unusedVariables false
set_option linter.unusedSimpArgs false
open Go.RowKit Ieee
attribute [local go_sem] ints_get ints_size ints_getElem

/-- A complex whole number times i, so many times. -/
def rot : Nat → Int × Int → Int × Int
  | 0, p => p
  | k + 1, p => (-(rot k p).2, (rot k p).1)
theorem rot_bound {B : Int} : ∀ (k : Nat) (p : Int × Int), (-B ≤ p.1 ∧ p.1 ≤ B) → (-B ≤ p.2 ∧ p.2 ≤ B) → (-B ≤ (rot k p).1 ∧ (rot k p).1 ≤ B) ∧ (-B ≤ (rot k p).2 ∧ (rot k p).2 ≤ B)
  | 0, p, h, g => ⟨h, g⟩
  | k + 1, p, h, g => by
    have := rot_bound k p h g
    simp only [rot]
    omega
/-- How often a number is turned. -/
def turns4 (q : Int) : Nat := (q % 4).toNat

theorem tmod4 (q : Int) : ∃ r, q.tmod 4 = r ∧ -3 ≤ r ∧ r ≤ 3 ∧ (r + 4) % 4 = q % 4 := by
  rcases Int.le_total 0 q with h | h
  · exact ⟨_, Int.tmod_eq_emod_of_nonneg h, by omega, by omega, by omega⟩
  · obtain ⟨p, rfl⟩ : ∃ p, q = -p := ⟨-q, by omega⟩
    refine ⟨_, Int.neg_tmod p 4, ?_⟩
    rw [Int.tmod_eq_emod_of_nonneg (show (0 : Int) ≤ p by omega)]
    omega
/-- The word's sign turned. -/
theorem neg_word {x : Nat} {a : Int} (h : G fmt x a) (hs : Small fmt a) : G fmt (Op.negFloat .f32 x) (-a) := neg_G fmt_fine h hs

section
variable {P : Program} {w : World} {a : Addr} {m : Mode}
@[go_sem] theorem run_store_complex (k : FloatKind) (x y : Nat) : (store a (.complex k x y) m).run P w = stored P w a (.complex k x y) m := run_store P w a _ m rfl
@[go_sem] theorem run_store_float (k : FloatKind) (x : Nat) : (store a (.float k x) m).run P w = stored P w a (.float k x) m := run_store P w a _ m rfl
end
/-- The sign of a float is turned. -/
theorem wpList_neg {P : Program} {ops : Array Oper} {rest : List Oper} {o : Oper} {a : Act} {w : World} {Q : Exit → Act → World → Prop} (hg : o.guard = none) (t : TypeId) (x : Operand) (ho : o.op = .unOp .neg t x)
    (b : Nat) (hx : a.eval x = .float .f32 b) (h : wpList P ops Q rest (a.put o.dst (.float .f32 (Op.negFloat .f32 b))) w) : wpList P ops Q (o :: rest) a w :=
  wpList_plain hg fun _ hK => by
    have h1 := hK _ _ h
    unfold Oper.wp execOp
    simp only [ho, hx]
    exact h1
set_option maxHeartbeats 1000000 in
theorem turned_calls (x y : Nat) (a b q : Int) (w : World) (hx : G fmt x a) (hy : G fmt y b) (ha : -100000 ≤ a ∧ a ≤ 100000) (hb : -100000 ≤ b ∧ b ≤ 100000) (hq : -100 ≤ q ∧ q ≤ 100) :
    Calls Try.prog 39 #[.complex .f32 x y, .int .i64 q] w fun e w' => e = .returned (.complex .f32 (F fmt (rot (turns4 q) (a, b)).1) (F fmt (rot (turns4 q) (a, b)).2)) ∧ w = w' := by
  obtain ⟨r, hr, hr0, hr1, hre⟩ := tmod4 q
  have hm : (r + 4) % 4 = (turns4 q : Int) := by unfold turns4; omega
  clear hre
  have hm4 : turns4 q < 4 := by unfold turns4; omega
  generalize turns4 q = m at *
  have hrb := fun k => rot_bound (B := 100000) k (a, b) ha hb
  have HR := Lib.hid hrb
  have HX := Lib.hid (And.intro hx hy)
  clear hx hy hrb
  go_enter Try.func39, Try.ntmps39
  go_wp2
  go_loop [0, 9] (fun c i => ∃ (k : Nat) (x' y' : Nat), k ≤ m ∧ i = .int .i64 k ∧ c = .complex .f32 x' y' ∧ Hid (G fmt x' (rot k (a, b)).1 ∧ G fmt y' (rot k (a, b)).2)) (fun _ i => m - (intOf i).toNat)
  case atStart => exact ⟨0, x, y, Nat.zero_le _, rfl, rfl, Lib.hid HX.out⟩
  case round =>
    obtain ⟨k, x', y', hk, rfl, rfl, HI⟩ := hrel
    by_cases hlt : k < m
    · have hlt' : (k : Int) < (m : Int) := by omega
      go_wp2_with ((with_reducible change wpList _ _ _ (⟨_, .unOp .neg 27 (.tmp 12), _, _, _, _⟩ :: _) _ _); refine wpList_neg rfl 27 (.tmp 12) rfl y' rfl ?_)
      go_round
      case rel => exact ⟨k + 1, by omega, by omega, _, _, ⟨rfl, rfl⟩, Lib.hid ⟨neg_word HI.out.2 (small_of (by have := (HR.out k).2; omega)), HI.out.1⟩⟩
      case measure => simp [intOf]; omega
    · obtain rfl : k = m := by omega
      have hlt' : ¬ (k : Int) < (k : Int) := by omega
      have hp1 := plusW_G HI.out.1 (small_of (by have := (HR.out k).1; omega))
      have hp2 := plusW_G HI.out.2 (small_of (by have := (HR.out k).2; omega))
      have HP := Lib.hid (And.intro hp1 hp2)
      clear hp1 hp2
      go_wp2_with (go_at_call 40; refine (clean_calls x' y' _).mono ?_; rintro e w' ⟨rfl, rfl⟩)
      go_ret
      exact ⟨by rw [← HP.out.1, ← HP.out.2]; rfl, rfl⟩
end Go.Proofs.Ytmmhflpeapojgaa
