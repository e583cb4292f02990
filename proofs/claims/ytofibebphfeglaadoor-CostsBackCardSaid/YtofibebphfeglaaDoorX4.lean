/- The program's number, CutPrefix, lines. -/
import Derived.Test.YtofibebphfeglaaDoorY1
import Derived.Lib.AtoiErrMem
namespace Go.Proofs.YtofibebphfeglaaDoor
open Go.RowKit
set_option linter.unusedVariables false
theorem zero94i : (Tryd.prog.info? 94).map (·.zero) = some (some (.agg (Array.replicate 256 (.bool false)))) := by kernel_rfl
theorem zero94 : ∀ w, (zeroValue 94).run Tryd.prog w = .ok (.agg (Array.replicate 256 (.bool false))) w := by
  intro w
  obtain ⟨i, hi, hz⟩ := Option.map_eq_some_iff.1 zero94i
  generalize Array.replicate 256 (Value.bool false) = A at *
  simp [zeroValue, typeInfo, hi, hz]
theorem digs_low : ∀ (j : Nat) b, (ByteArray.mk #[48, 49, 50, 51, 52, 53, 54, 55, 56, 57]).data.toList[j]? = some b → b.toNat < 128 := by
  intro j b h
  have hb : b ∈ digs := List.mem_of_getElem? h
  have := digs_has b
  have h2 : digs.contains b = true := by simpa using hb
  rw [h2] at this
  have h3 : 48 ≤ b.toNat ∧ b.toNat ≤ 57 := by simpa [isD] using this.symm
  omega
theorem below_drewN {B : Nat} {a w : World} (h : Below B a w) (q : Nat) : Below B a (w.drewN q) := ⟨h.os, h.tape, h.output, h.size, h.block⟩
theorem trim_calls (l : Bs) (w : World) (h0 : l ≠ []) (hl : l.length ≤ 1000000) : Calls Tryd.prog 39 #[bstr l, .string ⟨#[48, 49, 50, 51, 52, 53, 54, 55, 56, 57]⟩] w fun e w' => e = .returned (bstr (Lib.trimS l digs)) ∧ Below w.heap.size w w' := by
  have hz : 0 < l.length := List.length_pos_iff.2 h0
  have hs : (⟨l.toArray⟩ : ByteArray).size = l.length := by show l.toArray.size = _; simp
  refine (Tryd.strings_Trim_set zero94 ⟨l.toArray⟩ ⟨#[48, 49, 50, 51, 52, 53, 54, 55, 56, 57]⟩ w (by decide) (by omega) (by omega) (by decide) digs_low).mono ?_
  rintro e w' ⟨rfl, q, rfl⟩
  exact ⟨rfl, below_drewN (((Below.refl _ w).alloc (Nat.le_refl _) _).alloc (by simp) _) q⟩
theorem parseInt_calls (l : Bs) (w : World) (h : l.all isD = true) (h0 : l ≠ []) (hl : l.length ≤ 9) : Calls Tryd.prog 40 #[bstr l, .int .i64 10, .int .i64 64] w fun e w' => e = .returned (.tuple #[.int .i64 (val l), .nilIface]) ∧ Below w.heap.size w w' := by
  have hs : (⟨l.toArray⟩ : ByteArray).size = l.length := by show l.toArray.size = _; simp
  refine (Tryd.strconv_ParseInt_10 ⟨l.toArray⟩ (by omega) (val l) (by simpa using parse_ok h h0 hl) w).mono ?_
  rintro e w' ⟨rfl, hw⟩
  refine ⟨rfl, ?_⟩
  rcases hw with rfl | ⟨t, rfl⟩
  · exact Below.refl _ _
  · exact Lib.bytesWorld_below _ _ _
def numV (l : Bs) : Int := if numOK l = true then val l else 0
set_option maxHeartbeats 1000000 in
set_option maxRecDepth 100000 in
theorem num30_calls (l : Bs) (w : World) (hl : l.length ≤ 1000000) : Calls Tryd.prog 30 #[bstr l] w fun e w' => e = .returned (.tuple #[.int .i64 (numV l), .bool (numOK l)]) ∧ Below w.heap.size w w' := by
  unfold bstr
  by_cases h0 : l = []
  · subst h0
    have e1 : numV [] = 0 := rfl
    have e2 : numOK [] = false := rfl
    rw [e1, e2]
    clear e1 e2
    go_enter Tryd.func30, Tryd.ntmps30
    go_wp2_with fail
    go_ret2
    exact ⟨rfl, Below.refl _ _⟩
  · have hne : l.isEmpty = false := by simpa using h0
    by_cases h9 : 9 < l.length
    · have e2 : numOK l = false := by unfold numOK; simp; intro _ h; omega
      have e1 : numV l = 0 := by unfold numV; rw [e2]; rfl
      rw [e1, e2]
      clear e1 e2
      have h9' : (9 : Int) < (l.length : Int) := by omega
      go_enter Tryd.func30, Tryd.ntmps30
      go_wp2_with fail
      go_ret2
      exact ⟨rfl, Below.refl _ _⟩
    · have HT := Lib.hid (fun W => trim_calls l W h0 hl)
      have HP := Lib.hid (fun (ha : l.all isD = true) W => parseInt_calls l W ha h0 (by omega))
      unfold bstr at HT HP
      have h9' : ¬ (9 : Int) < (l.length : Int) := by omega
      obtain ⟨c, r, rfl⟩ : ∃ c r, l = c :: r := List.exists_cons_of_ne_nil h0
      by_cases h1 : 0 < r.length ∧ c = 48
      · obtain ⟨h1, rfl⟩ := h1
        have e2 : numOK (48 :: r) = false := by
          have : 1 < r.length + 1 := by omega
          unfold numOK; simp [this]
        have e1 : numV (48 :: r) = 0 := by unfold numV; rw [e2]; rfl
        rw [e1, e2]
        clear e1 e2 HT HP
        have h1' : (1 : Int) < ((48 :: r : List UInt8).length : Int) := by simp; omega
        go_enter Tryd.func30, Tryd.ntmps30
        go_wp2_with fail
        all_goals
          go_ret2
          exact ⟨rfl, Below.refl _ _⟩
      · have hl9 : (c :: r).length ≤ 9 := by omega
        have hnz : (!(decide (1 < (c :: r).length) && (c :: r).head? == some 48)) = true := by
          rcases Nat.eq_zero_or_pos r.length with h | h
          · simp [h]
          · have : c ≠ 48 := fun e => h1 ⟨h, e⟩
            simp [this]
        have hok : numOK (c :: r) = (c :: r).all isD := by
          unfold numOK
          rw [hnz]
          simp only [List.isEmpty_cons, Bool.not_false, Bool.true_and, Bool.and_true, decide_eq_true hl9]
        have h9'' : ¬ (9 < (r.length : Int) + 1) := by simp at hl9; omega
        clear hnz h9 h9' h0 hl
        by_cases ha : (c :: r).all isD = true
        · have ht : (Lib.trimS (c :: r) digs).isEmpty = true := by rw [(trim_nil (c :: r)).2 ha]; rfl
          have e1 : numV (c :: r) = val (c :: r) := by unfold numV; rw [hok, ha]; rfl
          rw [hok, ha, e1]
          replace HP := Lib.hid (HP.out ha)
          clear hok e1 ha
          rcases Nat.eq_zero_or_pos r.length with h | h
          · have hr : r = [] := List.length_eq_zero_iff.1 h
            subst hr
            clear h h1
            go_enter Tryd.func30, Tryd.ntmps30
            go_wp2_with (first
              | (go_at_call 39; refine (HT.out _).mono ?_; rintro e w1 ⟨rfl, hb⟩; have HB := Lib.hid hb; clear hb)
              | (go_at_call 40; refine (HP.out _).mono ?_; rintro e w2 ⟨rfl, hb⟩; have HB2 := Lib.hid (below_then' HB.out hb); clear hb))
            go_region
            all_goals
              go_wp2
              go_ret2
              exact ⟨rfl, HB2.out.drew⟩
          · have h2 : ¬ c = 48 := fun e => h1 ⟨h, e⟩
            have h3 : ¬ c.toNat = 48 := fun e => h2 (UInt8.toNat_inj.1 (by simpa using e))
            have h3i : ¬ ((c.toNat : Int) = 48) := by omega
            have h3d : (decide ((c.toNat : Int) = 48)) = false := by simpa using h3i
            have h4 : (1 : Int) < (r.length : Int) + 1 := by omega
            clear h1 h2 h
            go_enter Tryd.func30, Tryd.ntmps30
            go_wp2_with (first
              | (go_at_call 39; refine (HT.out _).mono ?_; rintro e w1 ⟨rfl, hb⟩; have HB := Lib.hid hb; clear hb)
              | (go_at_call 40; refine (HP.out _).mono ?_; rintro e w2 ⟨rfl, hb⟩; have HB2 := Lib.hid (below_then' HB.out hb); clear hb))
            go_region
            all_goals
              go_wp2
              go_ret2
              exact ⟨rfl, HB2.out.drew⟩
        · have ha' : (c :: r).all isD = false := by simpa using ha
          have ht : (Lib.trimS (c :: r) digs).isEmpty = false := by
            have := mt (trim_nil (c :: r)).1 ha
            simpa using this
          have e1 : numV (c :: r) = 0 := by unfold numV; rw [hok, ha']; rfl
          rw [hok, ha', e1]
          clear hok e1 ha ha' HP
          rcases Nat.eq_zero_or_pos r.length with h | h
          · have hr : r = [] := List.length_eq_zero_iff.1 h
            subst hr
            clear h h1
            go_enter Tryd.func30, Tryd.ntmps30
            go_wp2_with (go_at_call 39; refine (HT.out _).mono ?_; rintro e w1 ⟨rfl, hb⟩; have HB := Lib.hid hb; clear hb)
            go_ret2
            exact ⟨rfl, HB.out⟩
          · have h2 : ¬ c = 48 := fun e => h1 ⟨h, e⟩
            have h3 : ¬ c.toNat = 48 := fun e => h2 (UInt8.toNat_inj.1 (by simpa using e))
            have h3i : ¬ ((c.toNat : Int) = 48) := by omega
            have h3d : (decide ((c.toNat : Int) = 48)) = false := by simpa using h3i
            have h4 : (1 : Int) < (r.length : Int) + 1 := by omega
            clear h1 h2 h
            go_enter Tryd.func30, Tryd.ntmps30
            go_wp2_with (go_at_call 39; refine (HT.out _).mono ?_; rintro e w1 ⟨rfl, hb⟩; have HB := Lib.hid hb; clear hb)
            go_ret2
            exact ⟨rfl, HB.out⟩
end Go.Proofs.YtofibebphfeglaaDoor
