/- The reference's Components and path. -/
import Derived.Test.YtedoonfegcgmeaaB1
import Derived.Laws.Strings2
namespace Go.Proofs.Ytedoonfegcgmeaa
open Go.RowKit
set_option linter.unusedVariables false
def stP (a : List Bs × Bs) (b : UInt8) : List Bs × Bs := if b = 47 then (a.1 ++ [a.2], []) else (a.1, a.2 ++ [b])
def pst (l : Bs) : List Bs × Bs := l.foldl stP ([], [])
theorem pst_snoc (l : Bs) (b : UInt8) : pst (l ++ [b]) = stP (pst l) b := by simp [pst]
theorem pst_parts (l : Bs) : parts l = (pst l).1 ++ [(pst l).2] := by
  have key : ∀ (l : Bs) (d : List Bs) (c : Bs), (l.foldl stP (d, c)).1 ++ [(l.foldl stP (d, c)).2] = d ++ (match parts l with | [] => [c] | p :: ps => (c ++ p) :: ps) := by
    intro l
    induction l with
    | nil => intro d c; simp [parts]
    | cons b l ih =>
      intro d c
      rw [List.foldl_cons, parts_cons]
      by_cases hb : b = 47
      · rw [if_pos hb]
        rw [show stP (d, c) b = (d ++ [c], []) from if_pos hb]
        have := ih (d ++ [c]) []
        rw [this]
        cases hp : parts l <;> simp [hp]
        rw [parts_cut] at hp
        cases hp
      · rw [if_neg hb]
        rw [show stP (d, c) b = (d, c ++ [b]) from if_neg hb]
        have := ih d (c ++ [b])
        rw [this]
        cases hp : parts l <;> simp
  have := key l [] []
  unfold pst
  rw [this]
  cases hp : parts l with
  | nil => rw [parts_cut] at hp; cases hp
  | cons p ps => simp
theorem pst_len (l : Bs) : (pst l).1.length ≤ l.length ∧ (pst l).2.length ≤ l.length := by
  have h1 := parts_count l
  have h2 := parts_len l (pst l).2 (by rw [pst_parts]; simp)
  rw [pst_parts] at h1
  simp at h1
  exact ⟨by omega, h2⟩
theorem extract_one (s : Bs) (k : Nat) (hk : k < s.length) (c : Bs) : ((⟨c.toArray⟩ : ByteArray) ++ (⟨s.toArray⟩ : ByteArray).extract k (k + 1)) = ⟨(c ++ [s[k]]).toArray⟩ := by
  apply ByteArray.ext
  have e : (s.drop k).take 1 = [s[k]] := by
    rw [List.drop_eq_getElem_cons hk]
    rfl
  have : (s.toArray.extract k (k + 1)) = #[s[k]] := by
    apply Array.ext'
    simpa using e
  simp [this]
set_option maxHeartbeats 1000000 in
set_option maxRecDepth 100000 in
theorem components_ref (s : Bs) (w : World) (hs : s.length ≤ 1000) : Calls Try.prog 28 #[str s] w fun e w' => ∃ v, e = .returned v ∧ w'.ownsRow w.heap.size 9 1 v (parts s).length (strs (parts s)) ∧ Below w.heap.size w w' := by
  obtain ⟨i0, hi0, hz0, hz1, hz2⟩ := info_parts (P := Try.prog) (e := 9) (z := .string ⟨#[]⟩) (size := 1) (bytes := 16) (by kernel_rfl)
  unfold str
  go_enter Try.func28, Try.ntmps28
  go_wp2
  go_loopw [3, 4, 5] (fun u c i wr => ∃ k : Nat, k ≤ s.length ∧ i = .int .i64 k ∧ c = .string ⟨(pst (s.take k)).2.toArray⟩ ∧ Hid (wr.ownsRow w.heap.size 9 1 u (pst (s.take k)).1.length (strs (pst (s.take k)).1) ∧ Below w.heap.size w wr)) (fun _ _ i _ => s.length - (intOf i).toNat)
  case atStart => exact ⟨0, by omega, rfl, rfl, Lib.hid ⟨World.ownsRow_nil _ _ _ _, Below.refl _ _⟩⟩
  case round =>
    obtain ⟨k, hk, rfl, rfl, HI⟩ := hrel
    by_cases hlt : k < s.length
    · have hlt' : (k : Int) < (s.length : Int) := by omega
      obtain ⟨b, hbe⟩ : ∃ b, s[k]'hlt = b := ⟨_, rfl⟩
      have hb : ∀ h : k < (⟨s.toArray⟩ : ByteArray).size, (⟨s.toArray⟩ : ByteArray)[k] = b := fun h => (byte_at s k hlt h).trans hbe
      have HEX := Lib.hid (extract_one s k hlt (pst (s.take k)).2)
      rw [hbe] at HEX
      have HQ : Hid (pst (s.take (k + 1)) = stP (pst (s.take k)) b) := Lib.hid (by rw [List.take_succ_eq_append_getElem hlt, pst_snoc, hbe])
      have hpl := pst_len (s.take k)
      rw [List.length_take] at hpl
      obtain ⟨⟨d, c⟩, hdc⟩ : ∃ x, pst (s.take k) = x := ⟨_, rfl⟩
      rw [hdc] at HEX HQ hpl HI ⊢
      simp only at HEX hpl HI
      have HBL := HI.out.2.size
      have HR := Lib.hid (HI.out.1.alloc (.cells #[.string ⟨c.toArray⟩] 9))
      clear hbe hdc
      by_cases h47 : b = 47
      · subst h47
        have HN : Hid (pst (s.take (k + 1)) = (d ++ [c], [])) := Lib.hid (by rw [HQ.out]; rfl)
        clear HEX
        go_wp2_with (at_builtin; go_loud (refine wpList_append_own _ rfl (.tmp 16) (.tmp 18) 39 rfl w.heap.size 9 i0 (.string ⟨#[]⟩) 1 16 Try.underlying39 hi0 hz0 hz1 hz2 rfl (by decide) _ _ _ rfl HR.out ⟨wr.heap.size, 0, none⟩ 1 1 [.string ⟨c.toArray⟩] rfl rfl (cell_one_new _ _ _) (by simp [Value.oneCell']) (by unfold maxLen; omega) (by omega) (by simp; omega) ?_; intro v' w1' hown' hgrow _))
        have hb2 := (HI.out.2.alloc HI.out.2.size (.cells #[.string ⟨c.toArray⟩] 9)).grown hgrow (HI.out.2.alloc HI.out.2.size _).size (fun j ej => own_base' HI.out.1 j ej)
        go_roundw
        case rel => exact ⟨k + 1, by omega, by go_num, by rw [HN.out], Lib.hid ⟨by rw [HN.out]; simpa [strs, str] using hown', hb2⟩⟩
        case measure => simp [intOf]; omega
      · have HN : Hid (pst (s.take (k + 1)) = (d, c ++ [b])) := Lib.hid (by rw [HQ.out]; exact if_neg h47)
        have hbb : ((b.toNat : Int) == 47) = false := by
          simp only [beq_eq_false_iff_ne, ne_eq]
          intro h
          exact h47 (UInt8.toNat_inj.1 (by simpa using (by omega : b.toNat = 47)))
        clear h47
        have hS : (Instr.slice 9 (.string ⟨s.toArray⟩) (some (.int .i64 (k : Int))) (some (.int .i64 ((k : Int) + 1))) none).run Try.prog wr = .ok (.string ((⟨s.toArray⟩ : ByteArray).extract k (k + 1))) wr := by
          have := run_slice_string wr 9 (P := Try.prog) ⟨s.toArray⟩ .i64 .i64 (k : Int) ((k : Int) + 1) Try.underlying9 (by omega) (by omega) (by show (k : Int) + 1 ≤ ((s.toArray.size : Nat) : Int); simp; omega)
          rw [show ((k : Int) + 1).toNat = k + 1 by omega, Int.toNat_natCast] at this
          exact this
        go_wp2
        go_roundw
        case rel => exact ⟨k + 1, by omega, by go_num, by rw [HN.out]; exact congrArg Value.string HEX.out, Lib.hid ⟨by rw [HN.out]; exact HI.out.1, HI.out.2⟩⟩
        case measure => simp [intOf]; omega
    · obtain rfl : k = s.length := by omega
      have hge : ¬ ((s.length : Int) < (s.length : Int)) := by omega
      rw [List.take_length] at HI ⊢
      have HP := Lib.hid (pst_parts s)
      have hpl := pst_len s
      obtain ⟨⟨d, c⟩, hdc⟩ : ∃ x, pst s = x := ⟨_, rfl⟩
      rw [hdc] at HP hpl HI ⊢
      simp only at HP hpl HI
      have HBL := HI.out.2.size
      have HR := Lib.hid (HI.out.1.alloc (.cells #[.string ⟨c.toArray⟩] 9))
      clear hdc
      go_wp2_with (at_builtin; go_loud (refine wpList_append_own _ rfl (.tmp 27) (.tmp 29) 39 rfl w.heap.size 9 i0 (.string ⟨#[]⟩) 1 16 Try.underlying39 hi0 hz0 hz1 hz2 rfl (by decide) _ _ _ rfl HR.out ⟨wr.heap.size, 0, none⟩ 1 1 [.string ⟨c.toArray⟩] rfl rfl (cell_one_new _ _ _) (by simp [Value.oneCell']) (by unfold maxLen; omega) (by omega) (by simp; omega) ?_; intro v' w1' hown' hgrow _))
      have hb2 := (HI.out.2.alloc HI.out.2.size (.cells #[.string ⟨c.toArray⟩] 9)).grown hgrow (HI.out.2.alloc HI.out.2.size _).size (fun j ej => own_base' HI.out.1 j ej)
      go_ret
      exact ⟨v', rfl, by rw [HP.out]; simpa [strs, str] using hown', hb2⟩
/-- The path of components, as the reference makes it. -/
def pathL (l : List Bs) : Bs := l.flatMap fun x => 47 :: x
def pathR (l : List Bs) : Bs := if pathL l = [] then [47] else pathL l
theorem pathL_snoc (l : List Bs) (x : Bs) : pathL (l ++ [x]) = pathL l ++ 47 :: x := by simp [pathL]
theorem pathR_pathOf (l : List Bs) : pathR l = pathOf l := by
  unfold pathR pathOf Lib.join
  cases l with
  | nil => simp [pathL, List.intercalate]
  | cons x l =>
    have : pathL (x :: l) ≠ [] := by simp [pathL]
    rw [if_neg this]
    have key : ∀ (x : Bs) (l : List Bs), pathL (x :: l) = 47 :: ([47] : Bs).intercalate (x :: l) := by
      intro x l
      induction l generalizing x with
      | nil => simp [pathL, List.intercalate]
      | cons y l ih =>
        have e : ([47] : Bs).intercalate (x :: y :: l) = x ++ [47] ++ ([47] : Bs).intercalate (y :: l) := by simp [List.intercalate]
        rw [e]
        have h2 := ih y
        have h3 : pathL (x :: y :: l) = (47 :: x) ++ pathL (y :: l) := by simp [pathL]
        rw [h3, h2]
        simp
    exact key x l
theorem cat3 (a x : Bs) : (((⟨a.toArray⟩ : ByteArray) ++ ⟨#[47]⟩) ++ ⟨x.toArray⟩) = ⟨(a ++ 47 :: x).toArray⟩ := by
  apply ByteArray.ext
  simp
theorem pathL_take (l : List Bs) (k : Nat) : (pathL (l.take k)).length ≤ (pathL l).length := by
  have : pathL l = pathL (l.take k) ++ pathL (l.drop k) := by unfold pathL; rw [← List.flatMap_append, List.take_append_drop]
  rw [this, List.length_append]
  omega
set_option maxHeartbeats 1000000 in
set_option maxRecDepth 100000 in
theorem path_calls (base : Nat) (v : Value) (l : List Bs) (w : World) (h : w.ownsRow base 9 1 v l.length (strs l)) (hl : l.length ≤ 1000000) (hpl : (pathL l).length ≤ 1000000) : Calls Try.prog 30 #[v] w fun e w' => e = .returned (str (pathR l)) ∧ Below w.heap.size w w' := by
  obtain ⟨A, cap, rfl, _, hat⟩ := row_at h
  have HAT := Lib.hid hat
  clear hat h
  go_enter Try.func30, Try.ntmps30
  go_wp2
  go_loopw [3, 4] (fun c i wr => ∃ k : Nat, k ≤ l.length ∧ i = .int .i64 k ∧ c = .string ⟨(pathL (l.take k)).toArray⟩ ∧ Hid (Below w.heap.size w wr)) (fun _ i _ => l.length - (intOf i).toNat)
  case atStart => exact ⟨0, by omega, rfl, rfl, Lib.hid (Below.refl _ _)⟩
  case round =>
    obtain ⟨k, hk, rfl, rfl, HI⟩ := hrel
    by_cases hlt : k < l.length
    · have hlt' : (k : Int) < (l.length : Int) := by omega
      obtain ⟨g, rfl, hg, hc⟩ := HAT.out k hlt
      have hc2 := (HI.out.cell (p := ⟨g, k, none⟩) hg).trans hc
      have hq1 := pathL_take l (k + 1)
      rw [List.take_succ_eq_append_getElem hlt, pathL_snoc, List.length_append, List.length_cons] at hq1
      have HSN : Hid (pathL (l.take (k + 1)) = pathL (l.take k) ++ 47 :: l[k]) := Lib.hid (by rw [List.take_succ_eq_append_getElem hlt, pathL_snoc])
      generalize l[k] = x at *
      generalize pathL (l.take k) = q at *
      have hq2 : q.length + (x.length + 1) ≤ 1000000 := Nat.le_trans hq1 hpl
      have HC := Lib.hid (cat3 q x)
      unfold str at hc2
      clear hc
      go_wp2
      go_roundw
      case rel => exact ⟨k + 1, by omega, by go_num, by rw [HSN.out]; exact congrArg Value.string HC.out, HI⟩
      case measure => simp [intOf]; omega
    · obtain rfl : k = l.length := by omega
      have hge : ¬ ((l.length : Int) < (l.length : Int)) := by omega
      rw [List.take_length]
      have HP : Hid (pathR l = if pathL l = [] then [47] else pathL l) := Lib.hid rfl
      generalize pathL l = q at *
      by_cases hq : q = []
      · rw [if_pos hq] at HP
        subst hq
        go_wp2
        go_ret
        exact ⟨by rw [HP.out]; rfl, HI.out⟩
      · rw [if_neg hq] at HP
        have hqb : (q == []) = false := by simpa using hq
        clear hq
        go_wp2
        go_ret
        exact ⟨by rw [HP.out]; rfl, HI.out⟩
end Go.Proofs.Ytedoonfegcgmeaa
