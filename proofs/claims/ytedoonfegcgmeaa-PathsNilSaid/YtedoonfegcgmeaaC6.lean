/- slices.Values of ints; sorting of at most one. -/
import Derived.Test.YtedoonfegcgmeaaC5
import Derived.Test.YtedoonfegcgmeaaSh2
namespace Go.Proofs.Ytedoonfegcgmeaa
open Go.RowKit
set_option linter.unusedVariables false
attribute [local go_sem] Oper.semAt_some
theorem values_calls (A : Option Addr) (n c : Nat) (w : World) : Calls Try.prog 57 #[.slice A n c] w fun e w' => e = .returned (.func (.func 71) #[] #[.pointer (some ⟨w.heap.size, 0, none⟩)]) ∧ w' = w.alloc (.cells #[.slice A n c] 70) := by
  have hmf : ∀ (fn : Fn) (first cap : Array Value) (w : World), (Instr.makeFunc fn first cap).run Try.prog w = .ok (.func fn first cap) w := fun _ _ _ _ => rfl
  go_enter Try.func57, Try.ntmps57
  go_wp2_with fail
  go_ret
  exact ⟨rfl, rfl⟩
set_option maxHeartbeats 1000000 in
set_option maxRecDepth 100000 in
theorem values_seq (m bx : Nat) (A : Option Addr) (cap : Nat) (L : List Int) (w : World) (hL : L.length ≤ 1000000) (hbx : Boxed w bx 70 (.slice A L.length cap)) (hb : bx < m) (hm : m ≤ w.heap.size)
    (hat : ∀ k (hk : k < L.length), ∃ g, A = some ⟨g, 0, none⟩ ∧ g < m ∧ w.cell? ⟨g, k, none⟩ = some (.int .i64 L[k])) :
    SeqB Fence.wide 4 Try.prog 71 #[.pointer (some ⟨bx, 0, none⟩)] (fun x : Int => #[encI x]) (fun k => False) (KeepL m) (fun pre x => pre ++ [x] <+: L) (fun xs => xs = L) (fun pre => pre <+: L) w := by
  intro l J Jx W hbw hJ hY h0
  have HY := Lib.hid hY
  have hbxW := hbx.kept (grown_of_below' hbw none) (by simp)
  have HAT : Hid (∀ k (hk : k < L.length), ∃ g, A = some ⟨g, 0, none⟩ ∧ g < m ∧ W.cell? ⟨g, k, none⟩ = some (.int .i64 L[k])) := Lib.hid fun k hk => by
    obtain ⟨g, h1, h2, h3⟩ := hat k hk
    exact ⟨g, h1, h2, (hbw.cell (p := ⟨g, k, none⟩) (by show g < w.heap.size; omega)).trans h3⟩
  have hmW : m ≤ W.heap.size := Nat.le_trans hm hbw.size
  have HMW := Lib.hid hmW
  clear hJ hY hbx hat hmW
  have hc := hbxW.cell
  refine callsIn_of_wp Try.func71 rfl trivial ?_ rfl
  simp only [Try.ntmps71, List.size_toArray, List.length_cons, List.length_nil, Nat.reduceAdd, Nat.reduceSub, Array.replicate_succ, Array.replicate_zero, List.push_toArray, List.append_toArray, List.nil_append, List.cons_append]
  gi_wp2
  gi_loopw [7] (fun i wr => ∃ k : Nat, k ≤ L.length ∧ i = .int .i64 k ∧ Hid (J (L.take k) wr ∧ KeepL m W wr)) (fun i _ => L.length - (intOf i).toNat)
  case atStart => exact ⟨0, by omega, rfl, Lib.hid ⟨h0, KeepL.refl _ _⟩⟩
  case round =>
    obtain ⟨k, hk, rfl, HI⟩ := hrel
    by_cases hlt : k < L.length
    · have hlt' : (k : Int) < (L.length : Int) := by omega
      obtain ⟨g, rfl, hg, hcc⟩ := HAT.out k hlt
      have hc2 : wr.cell? ⟨g, k, none⟩ = some (.int .i64 L[k]) := (World.cell?_of_block (HI.out.2.2 g hg)).trans hcc
      have hpre : L.take k ++ [L[k]] <+: L := by rw [← List.take_succ_eq_append_getElem hlt]; exact List.take_prefix _ _
      have hsn : L.take (k + 1) = L.take k ++ [L[k]] := List.take_succ_eq_append_getElem hlt
      have hYk := Lib.hid (And.intro (HY.out _ L[k] wr HI.out.1 hpre) (And.intro hpre hsn))
      generalize L[k] = x at *
      clear hpre hsn hcc
      unfold encI at hYk
      gi_wp2_with ((with_reducible change wpListIn _ _ _ _ _ (⟨_, .call { callee := .value (.tmp 11), args := _, argTypes := _ }, _, _, _, _⟩ :: _) _ _); refine wpListIn_yield_g rfl (.tmp 11) (.tmp 12) #[3] rfl l rfl rfl hYk.out.1 ?_; rintro e w3 (⟨rfl, hJ3, hk3⟩ | ⟨rfl, hJx⟩) <;> refine ⟨_, rfl, ?_⟩)
      · go_roundw
        case rel => exact ⟨k + 1, by omega, by go_num, Lib.hid ⟨by rw [hYk.out.2.2]; exact hJ3, HI.out.2.trans hk3⟩⟩
        case measure => simp [intOf]; omega
      · refine bodyPost_ret (results_none rfl _ _ _) rfl ?_
        exact ⟨⟨_, rfl⟩, .inr ⟨_, hYk.out.2.1, hJx⟩⟩
    · obtain rfl : k = L.length := by omega
      have hge : ¬ ((L.length : Int) < (L.length : Int)) := by omega
      rw [List.take_length] at HI
      gi_wp2
      go_end0
      exact ⟨⟨_, rfl⟩, .inl HI.out.1⟩
theorem _root_.Go.World.ownsRow.sliced {w : World} {base e size n : Nat} {v : Value} {xs : List Value} (h : w.ownsRow base e size v n xs) : ∃ A c, v = .slice A n c := by
  rcases h.2 with ⟨rfl, h0⟩ | ⟨g, cap, cur, rfl, _⟩
  · have : n = 0 := by first | exact h0 | exact h0.1 | exact h0.symm | exact h0.1.symm
    exact ⟨none, 0, by rw [this]⟩
  · exact ⟨_, cap, rfl⟩
set_option maxRecDepth 100000 in
theorem insert_small (A : Option Addr) (n c : Nat) (hn : n ≤ 1) (f : Value) (w : World) : Calls Try.prog 97 #[.slice A n c, .int .i64 0, .int .i64 n, f] w fun e w' => (∃ v, e = .returned v) ∧ w' = w := by
  have hn' : ¬ (1 : Int) < (n : Int) := by omega
  go_enter Try.func97, Try.ntmps97
  go_wp2
  go_loopw [8] (fun i wr => i = .int .i64 1 ∧ wr = w) (fun _ _ => 0)
  case atStart => exact ⟨rfl, rfl⟩
  case round =>
    obtain ⟨rfl, rfl⟩ := hrel
    go_wp2
    go_end0
    exact ⟨⟨_, rfl⟩, rfl⟩
set_option maxRecDepth 100000 in
theorem pdq_small (A : Option Addr) (n c : Nat) (hn : n ≤ 1) (lim f : Value) (w : World) : Calls Try.prog 87 #[.slice A n c, .int .i64 0, .int .i64 n, lim, f] w fun e w' => (∃ v, e = .returned v) ∧ w' = w := by
  have hn' : (n : Int) ≤ 12 := by omega
  go_enter Try.func87, Try.ntmps87
  go_wp2
  go_loopw [1, 2] (fun a b wr => a = .int .i64 0 ∧ b = .int .i64 n ∧ wr = w) (fun _ _ _ => 0)
  case atStart => exact ⟨rfl, rfl, rfl⟩
  case round =>
    obtain ⟨rfl, rfl, rfl⟩ := hrel
    go_wp2_with (go_at_call 97; refine (insert_small A n c hn f _).mono ?_; rintro e w' ⟨⟨v, rfl⟩, rfl⟩)
    refine bodyPost_ret (results_none rfl _ _ _) rfl ?_
    exact ⟨⟨_, rfl⟩, rfl⟩
set_option maxRecDepth 100000 in
theorem sortFunc_small (A : Option Addr) (n c : Nat) (hn : n ≤ 1) (f : Value) (w : World) : Calls Try.prog 70 #[.slice A n c, f] w fun e w' => (∃ v, e = .returned v) ∧ w' = w := by
  have hw : IntKind.u64.wrap (n : Int) = n := by rw [IntKind.wrap_u64]; omega
  go_enter Try.func70, Try.ntmps70
  go_wp2_with (first
    | (go_at_call 60; refine (Try.bits_Len (n : Int) _ (by omega) (by omega)).mono ?_; rintro e w' ⟨rfl, rfl⟩)
    | (go_at_call 87; refine (pdq_small A n c hn _ f _).mono ?_; rintro e w' ⟨⟨v, rfl⟩, rfl⟩))
  go_end0
  exact ⟨⟨_, rfl⟩, rfl⟩
/-- slices.SortedFunc over the values of a row of at most one int. -/
theorem sorted_small (A : Option Addr) (cap : Nat) (L : List Int) (f : Value) (bx : Nat) (w : World) (hL : L.length ≤ 1) (hbx : Boxed w bx 70 (.slice A L.length cap))
    (hat : ∀ k (hk : k < L.length), ∃ g, A = some ⟨g, 0, none⟩ ∧ g < w.heap.size ∧ w.cell? ⟨g, k, none⟩ = some (.int .i64 L[k])) :
    Calls Try.prog 56 #[.func (.func 71) #[] #[.pointer (some ⟨bx, 0, none⟩)], f] w fun e w' => ∃ v, e = .returned v ∧ w'.ownsRow (w.heap.size + 1) 3 1 v L.length (encsI L) ∧ Below w.heap.size w w' := by
  have HC := Lib.hid (collectI_calls 71 #[.pointer (some ⟨bx, 0, none⟩)] L w (by omega) (enters_of Try.func71 (by kernel_rfl) rfl) (fun W hb => values_seq w.heap.size bx A cap L W (by omega) ((hb.block bx hbx.lt).trans hbx) hbx.lt hb.size (fun k hk => by
    obtain ⟨g, h1, h2, h3⟩ := hat k hk
    exact ⟨g, h1, h2, (hb.cell (p := ⟨g, k, none⟩) h2).trans h3⟩)))
  have HL := Lib.hid hL
  clear hat hbx hL
  go_enter Try.func56, Try.ntmps56
  go_wp2_with (go_at_call 69; refine HC.out.mono ?_; rintro e w1 ⟨v, rfl, hr, hb⟩; obtain ⟨A', c', rfl⟩ := hr.sliced; have HB := Lib.hid (And.intro hr hb); have HS := Lib.hid (fun W => sortFunc_small A' L.length c' HL.out f W); clear hr hb)
  go_wp2_with (go_at_call 70; refine (HS.out _).mono ?_; rintro e w' ⟨⟨v, rfl⟩, rfl⟩)
  go_ret
  exact ⟨_, rfl, HB.out.1, HB.out.2⟩
end Go.Proofs.Ytedoonfegcgmeaa
