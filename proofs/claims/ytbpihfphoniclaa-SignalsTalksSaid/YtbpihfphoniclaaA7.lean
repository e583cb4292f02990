import Derived.Test.YtbpihfphoniclaaA6
namespace Go.Proofs.Ytbpihfphoniclaa
open Go.RowKit
set_option linter.unusedVariables false
def wantF (q : Bool) : Nat := if q then 56 else 57
def wantP (q : Bool) (S : St) (s : Int) (i : Nat) : Bool := if q then waitsFor S s i else unmasked S s i
theorem RepL.drewN {w : World} {base t : Nat} {L : Lay} {S : St} (h : RepL w base t L S) (n : Nat) : RepL (w.drewN n) base t L S := h.heap rfl
set_option maxRecDepth 100000 in
theorem want3_calls {base t : Nat} {L : Lay} {S : St} (q : Bool) (i b8 b3 sb : Nat) (s : Int) (w : World) (h : RepL w base t L S) (hin : Inv S 1000) (hi : i < 256) (hst : (S.tk i).isSome = true)
    (h8 : w.cell? ⟨b8, 0, none⟩ = some (.func (.func (wantF q)) #[] #[.pointer (some ⟨sb, 0, none⟩)])) (h3 : w.cell? ⟨b3, 0, none⟩ = some (.pointer (some ⟨t, 0, none⟩))) (hs : w.cell? ⟨sb, 0, none⟩ = some (.int .i64 s)) (h1 : 1 ≤ s) (h2 : s ≤ 56) :
    Calls Try.prog 59 #[.int .i64 i, .pointer (some ⟨b8, 0, none⟩), .pointer (some ⟨b3, 0, none⟩)] w fun e w' => e = .returned (.bool (wantP q S s i)) ∧ ∃ n, w' = w.drewN n := by
  obtain ⟨x, hx⟩ := Option.isSome_iff_exists.1 hst
  obtain ⟨b, hb, _, hbl, hbc, hc⟩ := h.task_cell hi hx
  obtain ⟨_, _, hm, _, _, hwn⟩ := hin.task i hi x hx
  have HB := Lib.hid hbc
  have HS := Lib.hid hs
  have HX : Hid (wantP q S s i = if q then x.waits && hasB x.wants s else !hasB x.mask s) := Lib.hid (by unfold wantP waitsFor unmasked; rw [hx])
  have hi' : (i : Int) < 256 := by omega
  have hi0 : (0 : Int) ≤ (i : Int) := by omega
  rw [HX.out]
  clear h hin hst hb hbc hx hs
  cases q with
  | true =>
    simp only [wantF, if_true] at h8
    go_enter Try.func59, Try.ntmps59
    go_wp2
    go_quiet ((go_at_call 56; exact Calls.quiet_of (want1_calls b sb x (L.lv i) s _ HB.out HS.out h1 h2 (by omega))))
    go_wp2
    go_ret
    exact ⟨rfl, _, rfl⟩
  | false =>
    simp only [wantF, Bool.false_eq_true, if_false] at h8
    go_enter Try.func59, Try.ntmps59
    go_wp2
    go_quiet ((go_at_call 57; exact Calls.quiet_of (want2_calls b sb x (L.lv i) s _ HB.out HS.out h1 h2 (by omega))))
    go_wp2
    go_ret
    exact ⟨rfl, _, rfl⟩
/-- The index of the first element with a property, or -1. -/
def firstI (P : Nat → Bool) (l : List Nat) (r : Int) : Prop := (r = -1 ∧ ∀ x ∈ l, P x = false) ∨ ∃ i, i < l.length ∧ r = (i : Int) ∧ l.find? P = some (l.getD i 0)
theorem find_at {P : Nat → Bool} {l : List Nat} {k : Nat} (h : k < l.length) (hn : ∀ x ∈ l.take k, P x = false) (hp : P (l.getD k 0) = true) : l.find? P = some (l.getD k 0) := by
  have e : l = l.take k ++ l.getD k 0 :: l.drop (k + 1) := by
    rw [List.getD_eq_getElem?_getD, List.getElem?_eq_getElem h]
    simp
  have h1 : (l.take k).find? P = none := by
    rw [List.find?_eq_none]
    intro x hx
    simp [hn x hx]
  have h2 : (l.take k ++ l.getD k 0 :: l.drop (k + 1)).find? P = some (l.getD k 0) := by
    rw [List.find?_append, h1, List.find?_cons, hp]
    rfl
  rw [← e] at h2
  exact h2
set_option maxHeartbeats 1000000 in
set_option maxRecDepth 100000 in
theorem indexF_calls {base t : Nat} {L : Lay} {S : St} (q : Bool) (v : Value) (l : List Nat) (b8 b3 sb : Nat) (s : Int) (w : World) (h : RepL w base t L S) (hin : Inv S 1000) (hv : Ns w v l) (hl : l.length ≤ 256) (hall : ∀ i ∈ l, i < 256 ∧ (S.tk i).isSome = true)
    (h8 : w.cell? ⟨b8, 0, none⟩ = some (.func (.func (wantF q)) #[] #[.pointer (some ⟨sb, 0, none⟩)])) (h3 : w.cell? ⟨b3, 0, none⟩ = some (.pointer (some ⟨t, 0, none⟩))) (hs : w.cell? ⟨sb, 0, none⟩ = some (.int .i64 s)) (h1 : 1 ≤ s) (h2 : s ≤ 56) :
    Calls Try.prog 58 #[v, .func (.func 59) #[] #[.pointer (some ⟨b8, 0, none⟩), .pointer (some ⟨b3, 0, none⟩)]] w fun e w' => ∃ r, e = .returned (.int .i64 r) ∧ firstI (wantP q S s) l r ∧ ∃ n, w' = w.drewN n := by
  obtain ⟨A, cap, rfl, _, _, hat⟩ := hv.at
  have HAT := Lib.hid hat
  have HALL := Lib.hid hall
  have H := Lib.hid (And.intro h (And.intro hin (And.intro h8 (And.intro h3 hs))))
  clear hat hv h hin h8 h3 hs hall
  go_enter Try.func58, Try.ntmps58
  go_wp2
  go_loopw [5, 8] (fun i m wr => ∃ k n : Nat, k ≤ l.length ∧ m = .int .i64 k ∧ Hid (∀ x ∈ l.take k, wantP q S s x = false) ∧ Hid (wr = w.drewN n)) (fun _ m _ => l.length - (intOf m).toNat)
  case atStart => exact ⟨0, 0, Nat.zero_le _, rfl, Lib.hid (by simp), Lib.hid rfl⟩
  case round =>
    obtain ⟨k, n, hk, rfl, HI, HW⟩ := hrel
    obtain ⟨h, hin, h8, h3, hs⟩ := H.out
    have hR := h.drewN n
    have h8' : (w.drewN n).cell? _ = _ := h8
    have h3' : (w.drewN n).cell? _ = _ := h3
    have hs' : (w.drewN n).cell? _ = _ := hs
    rw [← HW.out] at hR h8' h3' hs'
    have HR := Lib.hid (And.intro hR (And.intro h8' (And.intro h3' hs')))
    clear hR h8' h3' hs' h h8 h3 hs
    have HN := Lib.hid hin
    clear hin
    by_cases hlt : k < l.length
    · obtain ⟨g, rfl, hg, hc0⟩ := HAT.out k hlt
      have hc : wr.cell? ⟨g, k, none⟩ = some (.int .i64 (l.getD k 0 : Nat)) := by rw [HW.out]; exact hc0
      have hlt' : (k : Int) < (l.length : Int) := by omega
      have hk0 : (0 : Int) ≤ (k : Int) := by omega
      have hmem : l.getD k 0 ∈ l := by rw [List.getD_eq_getElem?_getD, List.getElem?_eq_getElem hlt]; exact List.getElem_mem hlt
      obtain ⟨hy1, hy2⟩ := HALL.out _ hmem
      have HY := Lib.hid hy2
      have HF : Hid (wantP q S s (l.getD k 0) = true → l.find? (wantP q S s) = some (l.getD k 0)) := Lib.hid (find_at hlt HI.out)
      have HT : Hid (wantP q S s (l.getD k 0) = false → ∀ x ∈ l.take (k + 1), wantP q S s x = false) := Lib.hid fun hf x hx => by
        rw [List.take_succ_eq_append_getElem hlt] at hx
        rcases List.mem_append.1 hx with h | h
        · exact HI.out x h
        · obtain rfl : x = l[k] := by simpa using h
          rw [List.getD_eq_getElem?_getD, List.getElem?_eq_getElem hlt] at hf
          exact hf
      clear hmem hy2 hc0
      obtain ⟨y, hy⟩ : ∃ y, l.getD k 0 = y := ⟨_, rfl⟩
      rw [hy] at hc HY HF HT hy1
      have HE := Lib.hid hy
      clear hy
      cases hp : wantP q S s y with
      | true =>
        go_wp2_with (go_at_call 59; refine (want3_calls q y b8 b3 sb s _ HR.out.1 HN.out hy1 HY.out HR.out.2.1 HR.out.2.2.1 HR.out.2.2.2 h1 h2).mono ?_; rw [hp]; rintro e w2 ⟨rfl, n2, rfl⟩)
        go_ret
        exact ⟨_, rfl, .inr ⟨k, hlt, rfl, by rw [HE.out]; exact HF.out hp⟩, n + n2, by rw [HW.out, World.drewN_drewN]⟩
      | false =>
        go_wp2_with (go_at_call 59; refine (want3_calls q y b8 b3 sb s _ HR.out.1 HN.out hy1 HY.out HR.out.2.1 HR.out.2.2.1 HR.out.2.2.2 h1 h2).mono ?_; rw [hp]; rintro e w2 ⟨rfl, n2, rfl⟩)
        go_roundw
        case rel => exact ⟨k + 1, n + n2, by omega, by go_num, Lib.hid (HT.out hp), Lib.hid (by rw [HW.out, World.drewN_drewN])⟩
        case measure => simp [intOf]; omega
    · obtain rfl : k = l.length := by omega
      have hge : ¬ (l.length : Int) < (l.length : Int) := by omega
      have H1 : Hid (∀ x ∈ l, wantP q S s x = false) := Lib.hid (by have := HI.out; rwa [List.take_length] at this)
      go_wp2
      go_ret
      exact ⟨-1, rfl, .inl ⟨rfl, H1.out⟩, n, HW.out⟩
end Go.Proofs.Ytbpihfphoniclaa
