import Derived.Test.YtbpihfphoniclaaC3
namespace Go.Proofs.Ytbpihfphoniclaa
open Go.RowKit
set_option linter.unusedVariables false
def wcells (l : List (Int × Int × Int)) : List Value := l.flatMap fun d => [.int .i64 d.1, .int .i64 d.2.1, .int .i64 d.2.2]
theorem wcells_len (l : List (Int × Int × Int)) : (wcells l).length = l.length * 3 := by
  induction l with
  | nil => rfl
  | cons p l ih => simp only [wcells, List.flatMap_cons, List.length_append, List.length_cons, List.length_nil] at ih ⊢; rw [ih]; omega
/-- A slice of wakes. -/
def Wk (w : World) (v : Value) (l : List (Int × Int × Int)) : Prop := Rw w 88 3 v l.length (wcells l)
theorem wk_nil (w : World) : Wk w (.slice none 0 0) [] := rw_nil w 88 3
def KillPost (base t : Nat) (r : (List (Int × Int × Int) × Int) × St) (w : World) (e : Ending) (w' : World) : Prop :=
  ∃ v, e = .returned (.tuple #[v, .int .i64 r.1.2]) ∧ Wk w' v r.1.1 ∧ After base t r.2 w w'
set_option maxRecDepth 100000 in
theorem kill_nil (th p s v : Int) (w : World) : Calls Try.prog 14 #[.pointer none, .int .i64 th, .int .i64 p, .int .i64 s, .int .i64 v] w fun e w' => e = .returned (.tuple #[.slice none 0 0, .int .i64 35]) ∧ Below w.heap.size w w' := by
  go_enter Try.func14, Try.ntmps14
  go_wp2
  go_ret2
  exact ⟨rfl, (Below.refl _ _).alloc (Nat.le_refl _) _⟩
theorem After.box {base t : Nat} {L : Lay} {S : St} {w : World} (h : RepL w base t L S) (o : Obj) : After base t S w (w.alloc o) := After.below h ((Below.refl _ _).alloc (Nat.le_refl _) o)
theorem killPost_err {base t : Nat} {S : St} {w w' : World} {c : Int} (h : After base t S w w') : KillPost base t (([], c), S) w (.returned (.tuple #[.slice none 0 0, .int .i64 c])) w' := ⟨_, rfl, wk_nil _, h⟩
set_option maxRecDepth 100000 in
/-- The errors of numbers. -/
theorem kill_range {base t : Nat} {L : Lay} {S : St} (th p s v : Int) (w : World) (h : RepL w base t L S) (hbad : (th ≠ -1 ∧ isTh th = false) ∨ isPr p = false) :
    Calls Try.prog 14 #[.pointer (some ⟨t, 0, none⟩), .int .i64 th, .int .i64 p, .int .i64 s, .int .i64 v] w fun e w' => KillPost base t (([], 34), S) w e w' := by
  have HB := Lib.hid (killPost_err (c := 34) (After.box h (.cells #[.int .i64 s] 3)))
  clear h
  by_cases h1 : th = -1
  · subst h1
    have hp : isPr p = false := by
      rcases hbad with ⟨h, _⟩ | h
      · exact absurd rfl h
      · exact h
    have HP := Lib.hid hp
    clear hbad hp
    go_enter Try.func14, Try.ntmps14
    go_wp2_with (go_at_call 28; refine (process_calls p _).mono ?_; rw [HP.out]; rintro e w' ⟨rfl, rfl⟩)
    go_ret2
    exact HB.out
  · have b1 : (th != -1) = true := by simpa using h1
    have b1' : (th == -1) = false := by simpa using h1
    cases hth : isTh th with
    | false =>
      have HTH := Lib.hid hth
      clear hbad hth h1
      go_enter Try.func14, Try.ntmps14
      go_wp2_with (go_at_call 27; refine (thread_calls th _).mono ?_; rw [HTH.out]; rintro e w' ⟨rfl, rfl⟩)
      go_ret2
      exact HB.out
    | true =>
      have hp : isPr p = false := by
        rcases hbad with ⟨_, h⟩ | h
        · rw [hth] at h; cases h
        · exact h
      have HTH := Lib.hid hth
      have HP := Lib.hid hp
      clear hbad hth h1 hp
      go_enter Try.func14, Try.ntmps14
      go_wp2_with (first
        | (go_at_call 27; refine (thread_calls th _).mono ?_; rw [HTH.out]; rintro e w' ⟨rfl, rfl⟩)
        | (go_at_call 28; refine (process_calls p _).mono ?_; rw [HP.out]; rintro e w' ⟨rfl, rfl⟩))
      go_ret2
      exact HB.out
set_option maxRecDepth 100000 in
theorem kill_invalid {base t : Nat} {L : Lay} {S : St} (th p s v : Int) (w : World) (h : RepL w base t L S) (h1 : th = -1 ∨ isTh th = true) (hp : isPr p = true) (hs : s < 1 ∨ 56 < s) :
    Calls Try.prog 14 #[.pointer (some ⟨t, 0, none⟩), .int .i64 th, .int .i64 p, .int .i64 s, .int .i64 v] w fun e w' => KillPost base t (([], 14), S) w e w' := by
  have HB := Lib.hid (killPost_err (c := 14) (After.box h (.cells #[.int .i64 s] 3)))
  have HP := Lib.hid hp
  clear h hp
  have hs' : s < 1 ∨ (¬ s < 1 ∧ 56 < s) := by omega
  clear hs
  by_cases h1' : th = -1
  · subst h1'
    clear h1
    rcases hs' with hs | ⟨hs, hs2⟩
    all_goals
      go_enter Try.func14, Try.ntmps14
      go_wp2_with (go_at_call 28; refine (process_calls p _).mono ?_; rw [HP.out]; rintro e w' ⟨rfl, rfl⟩)
      go_ret2
      exact HB.out
  · have b1 : (th != -1) = true := by simpa using h1'
    have HTH : Hid (isTh th = true) := Lib.hid (by
      rcases h1 with h | h
      · exact absurd h h1'
      · exact h)
    clear h1 h1'
    rcases hs' with hs | ⟨hs, hs2⟩
    all_goals
      go_enter Try.func14, Try.ntmps14
      go_wp2_with (first
        | (go_at_call 27; refine (thread_calls th _).mono ?_; rw [HTH.out]; rintro e w' ⟨rfl, rfl⟩)
        | (go_at_call 28; refine (process_calls p _).mono ?_; rw [HP.out]; rintro e w' ⟨rfl, rfl⟩))
      go_ret2
      exact HB.out
theorem any_mem {l : List Nat} {th : Int} (h0 : 0 ≤ th) : (l.any fun y => th == (y : Int)) = decide (th.toNat ∈ l) := by
  rw [Bool.eq_iff_iff, List.any_eq_true, decide_eq_true_iff]
  constructor
  · rintro ⟨y, hy, he⟩
    have : th = (y : Int) := by simpa using he
    rw [this]
    simpa using hy
  · intro hm
    exact ⟨_, hm, by simp; omega⟩
set_option maxRecDepth 100000 in
theorem kill_noproc {base t : Nat} {L : Lay} {S : St} (th p s v : Int) (w : World) (h : RepL w base t L S) (h1 : th = -1 ∨ isTh th = true) (hp : isPr p = true) (hs : ¬ s < 1) (hs2 : ¬ 56 < s) (hno : (th ≠ -1 ∧ th.toNat ∉ threads S p) ∨ threads S p = []) :
    Calls Try.prog 14 #[.pointer (some ⟨t, 0, none⟩), .int .i64 th, .int .i64 p, .int .i64 s, .int .i64 v] w fun e w' => KillPost base t (([], 24), S) w e w' := by
  have HP := Lib.hid hp
  have hb0 : Below w.heap.size w (w.alloc (.cells #[.int .i64 s] 3)) := (Below.refl _ _).alloc (Nat.le_refl _) _
  have H := Lib.hid (And.intro h hb0)
  clear h hp
  by_cases h1' : th = -1
  · subst h1'
    have hl : threads S p = [] := by
      rcases hno with ⟨h, _⟩ | h
      · exact absurd rfl h
      · exact h
    clear h1 hno hb0
    go_enter Try.func14, Try.ntmps14
    go_wp2_with (first
      | (go_at_call 28; refine (process_calls p _).mono ?_; rw [HP.out]; rintro e w' ⟨rfl, rfl⟩)
      | (go_at_call 30; refine (threads_calls p _ (H.out.1.below H.out.2)).mono ?_; rw [hl]; rintro e w2 ⟨v2, rfl, hown, hb2⟩; have HN : Hid (Ns w2 v2 []) := Lib.hid (Rw.of_own hown); have HB2 := Lib.hid (below_then' H.out.2 hb2); clear hown hb2; obtain ⟨A2, c2, rfl, _⟩ := HN.out.at))
    go_ret2
    exact killPost_err (After.below H.out.1 HB2.out)
  · have b1 : (th != -1) = true := by simpa using h1'
    have HTH : Hid (isTh th = true) := Lib.hid (by
      rcases h1 with h | h
      · exact absurd h h1'
      · exact h)
    have hnm : th.toNat ∉ threads S p := by
      rcases hno with ⟨_, h⟩ | h
      · exact h
      · rw [h]; simp
    have HAN : Hid ((threads S p).any (fun y => th == (y : Int)) = false) := Lib.hid (by rw [any_mem (isTh_iff.1 HTH.out).1]; simpa using hnm)
    have HL := Lib.hid (threads_len S p)
    clear h1 h1' hno hnm hb0
    go_enter Try.func14, Try.ntmps14
    go_wp2_with (first
      | (go_at_call 27; refine (thread_calls th _).mono ?_; rw [HTH.out]; rintro e w' ⟨rfl, rfl⟩)
      | (go_at_call 28; refine (process_calls p _).mono ?_; rw [HP.out]; rintro e w' ⟨rfl, rfl⟩)
      | (go_at_call 30; refine (threads_calls p _ (H.out.1.below H.out.2)).mono ?_; rintro e w2 ⟨v2, rfl, hown, hb2⟩; have HN : Hid (Ns w2 v2 (threads S p)) := Lib.hid (Rw.of_own hown); have HB2 := Lib.hid (below_then' H.out.2 hb2); clear hown hb2; obtain ⟨A2, c2, rfl, _⟩ := HN.out.at)
      | (go_at_call 31; refine (contains_calls _ (threads S p) th _ HN.out HL.out).mono ?_; rw [HAN.out]; rintro e w' ⟨rfl, rfl⟩))
    go_ret2
    exact killPost_err (After.below H.out.1 HB2.out)
end Go.Proofs.Ytbpihfphoniclaa
