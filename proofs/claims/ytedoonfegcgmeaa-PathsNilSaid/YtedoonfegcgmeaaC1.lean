/- The iterator of prefixes. -/
import Derived.Test.YtedoonfegcgmeaaB6
namespace Go.Proofs.Ytedoonfegcgmeaa
open Go.RowKit
set_option linter.unusedVariables false
attribute [local go_sem] Oper.semAt_some
def mid (p : Bs) : Nat → List Bs
  | 0 => []
  | i + 1 => mid p i ++ (if 1 ≤ i ∧ p[i]? = some 47 then [p.take i] else [])
theorem mid_succ (p : Bs) (i : Nat) : mid p (i + 1) = mid p i ++ (if 1 ≤ i ∧ p[i]? = some 47 then [p.take i] else []) := rfl
/-- The paths that cover a path, the shortest first. -/
def pfx (p : Bs) : List Bs := if p = [47] then [[47]] else [47] :: (mid p p.length ++ [p])
theorem mid_mono (p : Bs) {i j : Nat} (h : i ≤ j) : mid p i <+: mid p j := by
  induction h with
  | refl => exact List.prefix_refl _
  | step _ ih => exact ih.trans (List.prefix_append _ _)
theorem pfx_calls (s : Bs) (w : World) : Calls Try.prog 51 #[str s] w fun e w' => e = .returned (.func (.func 66) #[] #[.pointer (some ⟨w.heap.size, 0, none⟩)]) ∧ w' = w.alloc (.cells #[str s] 9) := by
  have hmf : ∀ (fn : Fn) (first cap : Array Value) (w : World), (Instr.makeFunc fn first cap).run Try.prog w = .ok (.func fn first cap) w := fun _ _ _ _ => rfl
  unfold str
  go_enter Try.func51, Try.ntmps51
  go_wp2_with fail
  go_ret
  exact ⟨rfl, rfl⟩
set_option maxHeartbeats 1000000 in
set_option maxRecDepth 100000 in
theorem pfx_seq (F : Fence) (n : Nat) (hF : F = Fence.wide) (hn : 1 ≤ n) (bx : Nat) (s : Bs) (w : World) (hbx : Boxed w bx 9 (str s)) (hs : s.length ≤ 1000000) :
    SeqB F n Try.prog 66 #[.pointer (some ⟨bx, 0, none⟩)] (fun x : Bs => #[str x]) (fun k => False) (KeepB bx) (fun pre x => pre ++ [x] <+: pfx s) (fun xs => xs = pfx s) (fun pre => pre <+: pfx s) w := by
  subst hF
  intro l J Jx W hbw hJ hY h0
  have HY := Lib.hid hY
  have hbxW := hbx.kept (grown_of_below' hbw none) (by simp)
  clear hJ hY hbx
  have hY0 := Lib.hid (HY.out [] [47] W h0 (by unfold pfx; split <;> simp))
  have hc := hbxW.cell
  have hfr := hbxW.frozen
  have HBX := Lib.hid hbxW
  unfold str at hc
  by_cases h47 : s = [47]
  · have HP : Hid (pfx s = [[47]]) := Lib.hid (by unfold pfx; rw [if_pos h47])
    subst h47
    refine callsIn_of_wp Try.func66 rfl trivial ?_ rfl
    simp only [Try.ntmps66, List.size_toArray, List.length_cons, List.length_nil, Nat.reduceAdd, Nat.reduceSub, Array.replicate_succ, Array.replicate_zero, List.push_toArray, List.append_toArray, List.nil_append, List.cons_append]
    gi_wp2_with ((with_reducible change wpListIn _ _ _ _ _ (⟨_, .call { callee := .value (.tmp 4), args := _, argTypes := _ }, _, _, _, _⟩ :: _) _ _); refine wpListIn_yield_g rfl (.tmp 4) (.const (.string ⟨#[47]⟩)) #[9] rfl l rfl rfl hY0.out ?_; rintro e w2 (⟨rfl, hJ2, hk2⟩ | ⟨rfl, hJx⟩) <;> first | (have hb2 : Boxed w2 bx 9 (str [47]) := hk2.2.trans HBX.out; have hc2 := hb2.cell; have hf2 := hb2.frozen; unfold str at hc2; refine ⟨_, rfl, ?_⟩) | refine ⟨_, rfl, ?_⟩)
    · refine bodyPost_ret (results_none rfl _ _ _) rfl ?_
      exact ⟨⟨_, rfl⟩, .inl (by rw [HP.out]; exact hJ2)⟩
    · refine bodyPost_ret (results_none rfl _ _ _) rfl ?_
      exact ⟨⟨_, rfl⟩, .inr ⟨[[47]], by rw [HP.out]; exact List.prefix_refl _, hJx⟩⟩
  have hsb : (s == [47]) = false := by simpa using h47
  have HP : Hid (pfx s = [47] :: (mid s s.length ++ [s])) := Lib.hid (by unfold pfx; rw [if_neg h47])
  clear h47
  refine callsIn_of_wp Try.func66 rfl trivial ?_ rfl
  simp only [Try.ntmps66, List.size_toArray, List.length_cons, List.length_nil, Nat.reduceAdd, Nat.reduceSub, Array.replicate_succ, Array.replicate_zero, List.push_toArray, List.append_toArray, List.nil_append, List.cons_append]
  gi_wp2_with ((with_reducible change wpListIn _ _ _ _ _ (⟨_, .call { callee := .value (.tmp 4), args := _, argTypes := _ }, _, _, _, _⟩ :: _) _ _); refine wpListIn_yield_g rfl (.tmp 4) (.const (.string ⟨#[47]⟩)) #[9] rfl l rfl rfl hY0.out ?_; rintro e w2 (⟨rfl, hJ2, hk2⟩ | ⟨rfl, hJx⟩) <;> first | (have hb2 : Boxed w2 bx 9 (str s) := hk2.2.trans HBX.out; have hc2 := hb2.cell; have hf2 := hb2.frozen; unfold str at hc2; refine ⟨_, rfl, ?_⟩) | refine ⟨_, rfl, ?_⟩)
  · have HJ2 := Lib.hid hJ2
    have hsz : W.heap.size ≤ w2.heap.size := hk2.1
    clear hY0 hJ2 hk2
    gi_loopw [3] (fun i wr => ∃ k : Nat, 1 ≤ k ∧ (k ≤ 1 ∨ k ≤ s.length) ∧ i = .int .i64 k ∧ Hid (J ([47] :: mid s k) wr ∧ Boxed wr bx 9 (str s) ∧ W.heap.size ≤ wr.heap.size)) (fun i _ => s.length - (intOf i).toNat)
    case atStart => exact ⟨1, by omega, .inl (by omega), rfl, Lib.hid ⟨HJ2.out, hb2, hsz⟩⟩
    case round =>
      obtain ⟨k, hk1, hk, rfl, HI⟩ := hrel
      have hc3 := HI.out.2.1.cell
      have hf3 := HI.out.2.1.frozen
      unfold str at hc3
      by_cases hlt : k < s.length
      · have hlt' : (k : Int) < (s.length : Int) := by omega
        obtain ⟨b, hbe⟩ : ∃ b, s[k]'hlt = b := ⟨_, rfl⟩
        have hb : ∀ h : k < (⟨s.toArray⟩ : ByteArray).size, (⟨s.toArray⟩ : ByteArray)[k] = b := fun h => (byte_at s k hlt h).trans hbe
        have hms := mid_succ s k
        by_cases h47 : b = 47
        · subst h47
          rw [if_pos ⟨hk1, by rw [List.getElem?_eq_getElem hlt, hbe]⟩] at hms
          have HM := Lib.hid hms
          have hS : (Instr.slice 9 (.string ⟨s.toArray⟩) none (some (.int .i64 (k : Int))) none).run Try.prog wr = .ok (.string ⟨(s.take k).toArray⟩) wr := by
            have := run_slice_string_h (P := Try.prog) wr 9 ⟨s.toArray⟩ Try.underlying9 .i64 (k : Int) (by omega) (by show (k : Int) ≤ ((s.toArray.size : Nat) : Int); simp; omega)
            rw [← extract_take]
            rw [Int.toNat_natCast] at this
            exact this
          have hpre : ([47] :: mid s k) ++ [s.take k] <+: pfx s := by
            rw [HP.out, List.cons_append, ← hms]
            exact List.cons_prefix_cons.2 ⟨rfl, (mid_mono s (by omega : k + 1 ≤ s.length)).trans (List.prefix_append _ _)⟩
          have hYk := Lib.hid (And.intro (HY.out _ (s.take k) wr HI.out.1 hpre) hpre)
          clear hbe hms hpre
          gi_wp2_with ((with_reducible change wpListIn _ _ _ _ _ (⟨_, .call { callee := .value (.tmp 22), args := _, argTypes := _ }, _, _, _, _⟩ :: _) _ _); refine wpListIn_yield_g rfl (.tmp 22) (.tmp 25) #[9] rfl l rfl rfl hYk.out.1 ?_; rintro e w3 (⟨rfl, hJ3, hk3⟩ | ⟨rfl, hJx⟩) <;> refine ⟨_, rfl, ?_⟩)
          · go_roundw
            case rel => exact ⟨k + 1, by omega, .inr (by omega), by go_num, Lib.hid ⟨by rw [HM.out]; exact hJ3, hk3.2.trans HI.out.2.1, Nat.le_trans HI.out.2.2 hk3.1⟩⟩
            case measure => simp [intOf]; omega
          · refine bodyPost_ret (results_none rfl _ _ _) rfl ?_
            exact ⟨⟨_, rfl⟩, .inr ⟨_, hYk.out.2, hJx⟩⟩
        · have hbb : ((b.toNat : Int) == 47) = false := by
            simp only [beq_eq_false_iff_ne, ne_eq]
            intro h
            exact h47 (UInt8.toNat_inj.1 (by simpa using (by omega : b.toNat = 47)))
          rw [if_neg (by rw [List.getElem?_eq_getElem hlt, hbe]; rintro ⟨_, h⟩; exact h47 (Option.some.inj h)), List.append_nil] at hms
          have HM := Lib.hid hms
          clear hbe hms h47
          gi_wp2
          refine ⟨fun _ h => (by cases h), ?_⟩
          gi_wp2
          go_roundw
          case rel => exact ⟨k + 1, by omega, .inr (by omega), by go_num, Lib.hid ⟨by rw [HM.out]; exact HI.out.1, HI.out.2⟩⟩
          case measure => simp [intOf]; omega
      · have hge : ¬ ((k : Int) < (s.length : Int)) := by omega
        have hmk : mid s k = mid s s.length := by
          by_cases he : k = s.length
          · rw [he]
          · have h1 : k = 1 := by omega
            have h2 : s.length = 0 := by omega
            rw [h1, h2]
            rfl
        have hpe : pfx s = ([47] :: mid s k) ++ [s] := by rw [HP.out, hmk]; rfl
        have hYk := Lib.hid (And.intro (HY.out _ s wr HI.out.1 (by rw [hpe]; exact List.prefix_refl _)) hpe)
        clear hmk hpe
        gi_wp2_with ((with_reducible change wpListIn _ _ _ _ _ (⟨_, .call { callee := .value (.tmp 29), args := _, argTypes := _ }, _, _, _, _⟩ :: _) _ _); refine wpListIn_yield_g rfl (.tmp 29) (.tmp 30) #[9] rfl l rfl rfl hYk.out.1 ?_; rintro e w3 (⟨rfl, hJ3, hk3⟩ | ⟨rfl, hJx⟩) <;> refine ⟨_, rfl, ?_⟩)
        · go_end0
          exact ⟨⟨_, rfl⟩, .inl (by rw [hYk.out.2]; exact hJ3)⟩
        · go_end0
          exact ⟨⟨_, rfl⟩, .inr ⟨_, by rw [hYk.out.2]; exact List.prefix_refl _, hJx⟩⟩
  · refine bodyPost_ret (results_none rfl _ _ _) rfl ?_
    exact ⟨⟨_, rfl⟩, .inr ⟨[[47]], by rw [HP.out]; simp, hJx⟩⟩
end Go.Proofs.Ytedoonfegcgmeaa
