import Derived.Test.YtbojagkalbfenaasG3
namespace Go.Proofs.Ytbojagkalbfenaa
set_option linter.unusedVariables false
set_option linter.unusedSimpArgs false
open Go.RowKit PIovSlices Go.Proofs.YtbojagkalbfenaaW.PrintWords
attribute [local go_sem] ints_get ints_size ints_getElem

/-- The part ends behind the greatest address. -/
def farB (p : Int × Int) : Bool := decide (IntKind.i64.wrap (1099511627776 - p.1) < p.2)
theorem far_calls (p : Int × Int) (w : World) : Calls Try.prog 32 #[.agg #[.int .i64 p.1, .int .i64 p.2]] w fun e w' => e = .returned (.bool (farB p)) ∧ Below w.heap.size w w' := by
  go_enter Try.func32, Try.ntmps32
  obtain ⟨p1, p2⟩ := p
  obtain ⟨y, hy⟩ : ∃ y, IntKind.i64.wrap (1099511627776 - p1) = y := ⟨_, rfl⟩
  go_wp2
  go_ret
  refine ⟨by simp [farB, hy], (Below.refl _ _).alloc (Nat.le_refl _) _⟩
set_option maxHeartbeats 1000000 in
set_option maxRecDepth 100000 in
theorem index_calls (A : Option Addr) (ac : Nat) (l : List S44) (w : World) (hp : Pairs w A (prs l)) (hl : l.length ≤ 8796093022208) :
    Calls Try.prog 42 #[.slice A l.length ac, .func (.func 32) #[] #[]] w fun e w' => ∃ r : Int, e = .returned (.int .i64 r) ∧ decide (0 ≤ r) = (prs l).any farB ∧ Below w.heap.size w w' := by
  have HP := Lib.hid hp
  clear hp
  go_enter Try.func42, Try.ntmps42
  go_wp2
  go_loopw [5, 8] (fun i m wr => ∃ k : Nat, k ≤ l.length ∧ m = .int .i64 k ∧ Hid (((prs l).take k).any farB = false ∧ Below w.heap.size w wr)) (fun _ m _ => ((l.length : Int) - intOf m).toNat)
  case atStart => exact ⟨0, by omega, rfl, Lib.hid ⟨by simp, Below.refl _ _⟩⟩
  case round =>
    obtain ⟨k, hk, rfl, hi⟩ := hrel
    by_cases hlt : k < l.length
    · have hkp : k < (prs l).length := by rw [prs_length]; exact hlt
      obtain ⟨ad, e, hx, hy⟩ := (HP.out.below hi.out.2) k hkp
      subst e
      obtain ⟨p, hpp⟩ : ∃ p, p = (prs l).getD k (0, 0) := ⟨_, rfl⟩
      rw [← hpp] at hx hy
      have hsn : ((prs l).take (k + 1)).any farB = (((prs l).take k).any farB || farB p) := by
        rw [List.take_succ_eq_append_getElem hkp, List.any_append, hpp, List.getD_eq_getElem?_getD, List.getElem?_eq_getElem hkp]
        simp
      rw [hi.out.1, Bool.false_or] at hsn
      have HSN := Lib.hid (And.intro hsn hpp)
      clear hsn hpp
      cases hf : farB p with
      | true =>
        go_wp2_with (first
          | (go_at_call 32; refine (far_calls p _).mono ?_; rw [hf]; rintro e w2 ⟨rfl, hd⟩; have HD := Lib.hid (below_then' hi.out.2 hd); clear hd))
        go_ret
        refine ⟨(k : Int), rfl, ?_, HD.out⟩
        have h1 := HSN.out.1
        rw [hf, List.any_eq_true] at h1
        obtain ⟨y, hy1, hy2⟩ := h1
        rw [List.any_eq_true.2 ⟨y, List.mem_of_mem_take hy1, hy2⟩]
        simp
      | false =>
        go_wp2_with (first
          | (go_at_call 32; refine (far_calls p _).mono ?_; rw [hf]; rintro e w2 ⟨rfl, hd⟩; have HD := Lib.hid (below_then' hi.out.2 hd); clear hd))
        go_roundw
        case rel => exact ⟨k + 1, by omega, by go_num, Lib.hid ⟨by rw [HSN.out.1, hf], HD.out⟩⟩
        case measure => simp [intOf]; omega
    · have hke : k = l.length := by omega
      have h1 := hi.out.1
      rw [hke, ← prs_length, List.take_length] at h1
      have HH := Lib.hid h1
      clear h1
      go_wp2
      go_ret
      exact ⟨-1, rfl, by rw [HH.out]; rfl, hi.out.2⟩
/-- slices.ContainsFunc. -/
theorem contains_calls (A : Option Addr) (ac : Nat) (l : List S44) (w : World) (hp : Pairs w A (prs l)) (hl : l.length ≤ 8796093022208) :
    Calls Try.prog 31 #[.slice A l.length ac, .func (.func 32) #[] #[]] w fun e w' => e = .returned (.bool ((prs l).any farB)) ∧ Below w.heap.size w w' := by
  go_enter Try.func31, Try.ntmps31
  go_wp2_with (first
    | (go_at_call 42; refine (index_calls A ac l _ hp hl).mono ?_; rintro e w2 ⟨r, rfl, hr, hd⟩))
  go_ret
  exact ⟨by simp [hr], hd⟩
end Go.Proofs.Ytbojagkalbfenaa
