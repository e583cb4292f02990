import Derived.Test.YtmmhflpeapojgaaA8
import Derived.Laws.ResultCell
import Derived.Deep.QuietTactic
import Derived.BigQuiet
import Derived.Outline
namespace Go.Proofs.Ytmmhflpeapojgaa
set_option linter.unusedVariables false
set_option linter.unusedSimpArgs false
open Go.RowKit Ieee
attribute [local go_sem] ints_get ints_size ints_getElem

theorem results_cell_tmp_row {P : Program} {fn : Func} {p u : Tmp} {ty : TypeId} (h : fn.results = #[.cell p ty, .tmp u]) (tmps : Array Value) (w : World) (g : Nat) (t : TypeId) (cs : Array Value) (fr : Nat × Nat) (d : TypeDesc)
    (hp : tmps.getD p undef = .pointer (some ⟨g, 0, none⟩)) (hg : w.heap[g]? = some (.cells cs t fr))
    (hu : P.underlying ty = some d) (hd : (match d with | .struct _ | .array _ _ => true | _ => false) = true) (hi : (P.info? ty).map (·.size) = some cs.size) :
    (results fn tmps).run P w = .ok (.tuple #[.agg cs, tmps.getD u undef]) w := by
  rw [results_cell_tmp h, hp]
  simp [asAddr, run_loadVar_row w g t ty cs fr d hg hu hd hi]

def incTo (ts : List Int) : Nat → Bool
  | 0 => true
  | k + 1 => incTo ts k && decide (k = 0 ∨ ts.getD (k - 1) 0 < ts.getD k 0)
def sumTo (n : List Int) : Nat → Int
  | 0 => 0
  | k + 1 => sumTo n k + n.getD k 0
def sqTo (n : List Int) : Nat → Int
  | 0 => 0
  | k + 1 => sqTo n k + n.getD k 0 * n.getD k 0
def levTo (ts : List Int) (last : Int) : Nat → Int
  | 0 => 0
  | k + 1 => levTo ts last k + (if ts.getD k 0 ≤ last then 1 else 0)
theorem sq_bound {x : Int} (h : -2048 ≤ x ∧ x ≤ 2047) : 0 ≤ x * x ∧ x * x ≤ 4194304 := by
  have h1 : x.natAbs ≤ 2048 := by omega
  have h2 : x.natAbs * x.natAbs ≤ 2048 * 2048 := Nat.mul_le_mul h1 h1
  have h3 : ((x.natAbs * x.natAbs : Nat) : Int) = x * x := Int.natAbs_mul_self
  omega
theorem sumTo_bound {n : List Int} (h : ∀ i, -2048 ≤ n.getD i 0 ∧ n.getD i 0 ≤ 2047) : ∀ k : Nat, -2048 * k ≤ sumTo n k ∧ sumTo n k ≤ 2048 * k
  | 0 => by simp [sumTo]
  | k + 1 => by have := sumTo_bound h k; have := h k; simp only [sumTo]; omega
theorem sqTo_bound {n : List Int} (h : ∀ i, -2048 ≤ n.getD i 0 ∧ n.getD i 0 ≤ 2047) : ∀ k : Nat, 0 ≤ sqTo n k ∧ sqTo n k ≤ 4194304 * k
  | 0 => by simp [sqTo]
  | k + 1 => by have := sqTo_bound h k; have := sq_bound (h k); simp only [sqTo]; omega
theorem levTo_bound (ts : List Int) (last : Int) : ∀ k : Nat, 0 ≤ levTo ts last k ∧ levTo ts last k ≤ k
  | 0 => by simp [levTo]
  | k + 1 => by have := levTo_bound ts last k; simp only [levTo]; split <;> omega
def lastN (l : List Nat) : Int := smpN (l.getD (l.length - 1) 0)
def mcode (l : List Nat) (ts : List Int) : Int := if scode l ≠ 0 then scode l else if l.length = 0 then 9 else if 16 < ts.length then 18 else if ts.all inB = false then 34 else if incTo ts ts.length = false then 30 else 0
def zeroG : Array Value := #[.int .i64 0, .float .f32 0, .float .f32 0, .int .i64 0, .int .i64 0, .int .i64 0]
def fullG (l : List Nat) (ts : List Int) : Array Value := #[.int .i64 l.length, .float .f32 (F fmt (least (nums l) l.length)), .float .f32 (F fmt (most (nums l) l.length)), .int .i64 (sumTo (nums l) l.length), .int .i64 (sqTo (nums l) l.length), .int .i64 (levTo ts (lastN l) ts.length)]
def gval (l : List Nat) (ts : List Int) : Array Value := if mcode l ts = 0 then fullG l ts else zeroG

/-- What Measure answers. -/
def MPost (l : List Nat) (ts : List Int) (w : World) (e : Ending) (w' : World) : Prop := e = .returned (.tuple #[.agg (gval l ts), .int .i64 (mcode l ts)]) ∧ Below w.heap.size w w'
theorem MPost.bad {l : List Nat} {ts : List Int} {w w' : World} {e : Ending} {c : Int} (hc : mcode l ts = c) (h0 : c ≠ 0) (he : e = .returned (.tuple #[.agg zeroG, .int .i64 c])) (hb : Below w.heap.size w w') : MPost l ts w e w' := by
  refine ⟨?_, hb⟩
  unfold gval
  rw [hc, if_neg h0]
  exact he
set_option maxHeartbeats 2000000 in
theorem measure_bad (A : Option Addr) (c : Nat) (l : List Nat) (B : Option Addr) (cb : Nat) (ts : List Int) (w : World) (hl : l.length ≤ 9223372036854775807) (ht : ts.length ≤ 9223372036854775807) (hC : FC w A l) (hT : IC w B ts)
    (hbad : scode l ≠ 0 ∨ l.length = 0 ∨ 16 < ts.length ∨ ts.all inB = false) :
    Calls Try.prog 7 #[.slice A l.length c, .slice B ts.length cb] w fun e w' => MPost l ts w e w' := by
  have HC := Lib.hid hC
  have HT := Lib.hid hT
  have HB := Lib.hid ((Below.refl w.heap.size w).alloc (Nat.le_refl _) (.cells #[.int .i64 0, .float .f32 0, .float .f32 0, .int .i64 0, .int .i64 0, .int .i64 0] 29))
  have HH := Lib.hid (heap_alloc_new w (.cells #[.int .i64 0, .float .f32 0, .float .f32 0, .int .i64 0, .int .i64 0, .int .i64 0] 29))
  clear hC hT
  by_cases h1 : scode l = 0
  · have HSC := Lib.hid h1
    by_cases h2 : l.length = 0
    · have hc : mcode l ts = 9 := by unfold mcode; rw [if_neg (by simpa using h1), if_pos h2]
      have HM := Lib.hid hc
      have hl0 : (l.length : Int) = 0 := by omega
      clear hbad h1 hc h2
      go_enter Try.func7, Try.ntmps7
      go_wp2_with (go_at_call 18; refine (samples_calls A c l _ hl (HC.out.below HB.out)).mono ?_; rw [HSC.out]; rintro e w' ⟨rfl, rfl⟩)
      refine bodyPost_ret (results_cell_tmp_row rfl _ _ w.heap.size 29 _ (0, 0) _ rfl HH.out Try.underlying29 rfl (by kernel_rfl)) rfl ?_
      exact (MPost.bad HM.out (by decide) rfl HB.out)
    · have hl1 : ((l.length : Int) == 0) = false := beq_eq_false_iff_ne.2 (by omega)
      by_cases h3 : 16 < ts.length
      · have hc : mcode l ts = 18 := by unfold mcode; rw [if_neg (by simpa using h1), if_neg h2, if_pos h3]
        have HM := Lib.hid hc
        have h3' : (16 : Int) < (ts.length : Int) := by omega
        clear hbad h1 hc
        go_enter Try.func7, Try.ntmps7
        go_wp2_with (go_at_call 18; refine (samples_calls A c l _ hl (HC.out.below HB.out)).mono ?_; rw [HSC.out]; rintro e w' ⟨rfl, rfl⟩)
        refine bodyPost_ret (results_cell_tmp_row rfl _ _ w.heap.size 29 _ (0, 0) _ rfl HH.out Try.underlying29 rfl (by kernel_rfl)) rfl ?_
        exact (MPost.bad HM.out (by decide) rfl HB.out)
      · have h3' : ¬ (16 : Int) < (ts.length : Int) := by omega
        have h4 : ts.all inB = false := by rcases hbad with h | h | h | h <;> first | exact h | (exfalso; omega)
        have hc : mcode l ts = 34 := by unfold mcode; rw [if_neg (by simpa using h1), if_neg h2, if_neg h3, if_pos h4]
        have HM := Lib.hid (And.intro hc h4)
        clear hbad h1 hc h4
        go_enter Try.func7, Try.ntmps7
        go_wp2_with (first
          | (go_at_call 18; refine (samples_calls A c l _ hl (HC.out.below HB.out)).mono ?_; rw [HSC.out]; rintro e w' ⟨rfl, rfl⟩)
          | (go_at_call 21; refine (contains21 B cb ts _ (by omega) (HT.out.below HB.out)).mono ?_; rw [HM.out.2]; rintro e w' ⟨rfl, rfl⟩))
        refine bodyPost_ret (results_cell_tmp_row rfl _ _ w.heap.size 29 _ (0, 0) _ rfl HH.out Try.underlying29 rfl (by kernel_rfl)) rfl ?_
        exact (MPost.bad HM.out.1 (by decide) rfl HB.out)
  · have hc : mcode l ts = scode l := by unfold mcode; rw [if_pos h1]
    obtain ⟨sc, hsc⟩ : ∃ sc, scode l = sc := ⟨_, rfl⟩
    rw [hsc] at h1 hc
    have HM := Lib.hid (And.intro hc h1)
    have HSC := Lib.hid hsc
    have hne : (sc == 0) = false := by simpa using h1
    clear hbad h1 hc hsc
    go_enter Try.func7, Try.ntmps7
    go_wp2_with (go_at_call 18; refine (samples_calls A c l _ hl (HC.out.below HB.out)).mono ?_; rw [HSC.out]; rintro e w' ⟨rfl, rfl⟩)
    refine bodyPost_ret (results_cell_tmp_row rfl _ _ w.heap.size 29 _ (0, 0) _ rfl HH.out Try.underlying29 rfl (by kernel_rfl)) rfl ?_
    exact (MPost.bad HM.out.1 HM.out.2 rfl HB.out)
end Go.Proofs.Ytmmhflpeapojgaa
