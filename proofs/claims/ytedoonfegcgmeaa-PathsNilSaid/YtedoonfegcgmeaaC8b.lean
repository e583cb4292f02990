/- candidates, on a table of one mount: one round of its range. -/
import Derived.Test.YtedoonfegcgmeaaC8a
namespace Go.Proofs.Ytedoonfegcgmeaa
open Go.RowKit
set_option linter.unusedVariables false
attribute [local go_sem] Oper.semAt_some run_store_fn
def seq1 : Code → Code | .seq a _ => a | c => c
def seq2 : Code → Code | .seq _ b => b | c => c
def blkB : Code → Code | .block _ b => b | c => c
def rngB : Code → Code | .rangeFunc _ _ _ b => b | c => c
/-- What a round keeps. -/
def S5 (B8 n5 : Nat) (A5 : Option Addr) (k : Nat) : Prop := k = n5 ∨ (B8 + 2 ≤ k ∧ k < n5 ∧ A5 = some ⟨k, 0, none⟩)
theorem S5.le {B8 n5 : Nat} {A5 : Option Addr} {k : Nat} (h : S5 B8 n5 A5 k) (h8 : B8 + 3 ≤ n5) : k ≤ n5 ∧ B8 + 2 ≤ k := by
  rcases h with rfl | ⟨h1, h2, _⟩ <;> omega
set_option maxHeartbeats 4000000 in
set_option maxRecDepth 100000 in
theorem cands_round (base tb : Nat) (p0 q : Bs) (o m : Int) (gg cap gb lb ib cap2 n B8 n5 : Nat) (A5 : Option Addr) (c5 : Nat) (u6 u7 u24 u25 u26 u27 u28 u29 u30 u31 : Value) (w W : World) (pre : List (Int × Bs)) (x : Int × Bs) (l : Nat) (HO : One w base tb p0 o m gg cap gb lb ib cap2 n)
    (hR : RI w base tb p0 q o m gg cap gb lb ib cap2 n B8 (n5 + 1) (outL p0 q m pre) W) (hsz : n5 + 1 ≤ W.heap.size) (h8 : w.heap.size + 4 ≤ B8) (h5 : B8 + 3 ≤ n5) (hxl : x.2.length ≤ 1000000) (hq : q.length ≤ 900000) (hq0 : q ≠ []) (hn : (outL p0 q m pre).length ≤ 1000000) :
    (rngB (blkB (seq2 (seq1 (seq2 (seq2 (seq2 (seq2 (seq2 (Try.f36.body.getD .skip)))))))))).wpIn (Fence.wide.inRound l) 3 Try.prog (ownPostK (KeepS (S5 B8 n5 A5)) (fun pre W => RI w base tb p0 q o m gg cap gb lb ib cap2 n B8 (n5 + 1) (outL p0 q m pre) W ∧ n5 + 1 ≤ W.heap.size) (fun _ _ _ => False) (pre ++ [x]) W) { tmps := #[.pointer (some ⟨tb, 0, none⟩), .string ⟨q.toArray⟩, .pointer (some ⟨w.heap.size, 0, none⟩), .pointer (some ⟨w.heap.size + 1, 0, none⟩), .slice none 0 0, .pointer (some ⟨w.heap.size + 3, 0, none⟩), u6, u7, .pointer (some ⟨B8, 0, none⟩), .pointer (some ⟨B8 + 1, 0, none⟩), undef, .string ⟨x.2.toArray⟩, undef, undef, undef, undef, .map (some (w.heap.size + 2)), .pointer (some ⟨tb, 0, none⟩), .pointer (some ⟨tb, 0, none⟩), .pointer (some ⟨tb, 0, none⟩), .slice (some ⟨gg, 0, none⟩) 1 cap, .int .i64 1, .int .i64 1, .bool false, u24, u25, u26, u27, u28, u29, u30, u31, .func (.func 53) #[] #[.pointer (some ⟨w.heap.size, 0, none⟩), .pointer (some ⟨w.heap.size + 3, 0, none⟩)], .string ⟨q.toArray⟩, .func (.func 66) #[] #[.pointer (some ⟨B8 + 1 + 1, 0, none⟩)], .slice A5 (pfx q).length c5, .func (.func 67) #[] #[.pointer (some ⟨n5, 0, none⟩)], .int .i64 x.1, .string ⟨x.2.toArray⟩, undef, undef, undef, undef, undef, undef, undef, undef, undef, undef, undef, undef, undef, undef, undef, undef, undef, undef, undef, undef, undef, undef, undef, undef, undef, undef, undef, undef, undef, undef, undef, undef, undef, undef, undef, undef, undef, undef], defers := [] } W := by
  have hsn := outL_snoc p0 q m pre x
  obtain ⟨A, cp, L, hL, hlk, hat⟩ := grp_one (p0 := p0) (o := o) (m := m) (base := base) (tb := tb) (gg := gg) (cap := cap) (gb := gb) (lb := lb) (ib := ib) (cap2 := cap2) (n := n) x.2 hxl
  have hR1 := Lib.hid (And.intro hR (And.intro hsz (And.intro hsn (And.intro hlk (And.intro hat hL)))))
  have HRC := Lib.hid (fun W => rest_calls x.2 q W hxl (by omega) hq0)
  have HN := Lib.hid (And.intro hn (And.intro h8 h5))
  have HO1 := Lib.hid HO
  have c1 := hR.ci.b1.cell
  clear HO
  unfold str at c1 HRC
  clear hR hsz hsn hlk hat hL hxl hq hq0 hn h8 h5
  simp only [Try.f36, Option.getD_some, seq1, seq2, blkB, rngB]
  generalize x.1 = xi at *
  generalize hxs : x.2 = xs at *
  gi_wp2_with (refine ⟨trivial, ?_⟩; gi_at_call 32; refine (callsIn_wide.2 (HRC.out _)).mono ?_; rintro e w1 ⟨rfl, hb⟩; have HB := Lib.hid (And.intro hb (hR1.out.1.below hb (by omega))); clear hb)
  have hL1 : L.length ≤ 1 := by rw [hR1.out.2.2.2.2.2]; split <;> simp
  have hOd : One w1.drew base tb p0 o m gg cap gb lb ib cap2 n := HB.out.2.one.keep fun _ _ => rfl
  have hso := sorted_small A cp L (.func (.func 53) #[] #[.pointer (some ⟨w.heap.size, 0, none⟩), .pointer (some ⟨w.heap.size + 3, 0, none⟩)]) w1.heap.size (w1.drew.alloc (.cells #[.slice A L.length cp] 70)) hL1 (Boxed.new w1.drew 70 _)
    (hR1.out.2.2.2.2.1 _ (hOd.keep fun k hk => Below.heap_alloc _ _ _ hk))
  have HSO := Lib.hid hso
  have hF : ∀ w', (∀ k, k < w1.heap.size → w'.heap[k]? = w1.heap[k]?) → w'.cell? ⟨w.heap.size, 0, none⟩ = some (.pointer (some ⟨tb, 0, none⟩)) ∧ w'.cell? ⟨tb, 1, none⟩ = some (.map (some gb)) ∧
      (Instr.lookup 64 (.map (some gb)) (.string ⟨xs.toArray⟩) false).run Try.prog w' = .ok (.slice A L.length cp) w' ∧ w'.cell? ⟨B8, 0, none⟩ = some (.func (.func 53) #[] #[.pointer (some ⟨w.heap.size, 0, none⟩), .pointer (some ⟨w.heap.size + 3, 0, none⟩)]) := fun w' hk =>
    ⟨(show Boxed w' _ _ _ from (hk _ HB.out.2.ci.b0.lt).trans HB.out.2.ci.b0).cell, (HB.out.2.one.keep hk).tab.cells.2.1, hR1.out.2.2.2.1 _ (HB.out.2.one.keep hk), (show Boxed w' _ _ _ from (hk _ (Boxed.lt HB.out.2.b8)).trans HB.out.2.b8).cell⟩
  have HF := Lib.hid hF
  clear hso hOd hL1 c1 hF
  apply EndsIn.split (G := fun A' c' w' => (∀ k (hk : k < L.length), ∃ g, A' = some ⟨g, 0, none⟩ ∧ w'.cell? ⟨g, k, none⟩ = some (.int .i64 L[k])) ∧ Below w1.heap.size w1 w')
  case walk =>
    refine wpIn_round_idx [0, 1, 2, 3, 4, 5, 7, 10] [6, 8, 9] (fun w' => ∀ k, k < w1.heap.size → w'.heap[k]? = w1.heap[k]?)
      [.pointer (some ⟨tb, 0, none⟩), .pointer (some ⟨tb, 0, none⟩), .pointer (some ⟨tb, 1, none⟩), .map (some gb), .string ⟨xs.toArray⟩, .slice A L.length cp, .func (.func 53) #[] #[.pointer (some ⟨w.heap.size, 0, none⟩), .pointer (some ⟨w.heap.size + 3, 0, none⟩)], .int .i64 0]
      Ends.stays (by rfl) (by kernel_rfl) (by kernel_rfl) (fun _ _ _ _ _ h => h) (fun _ _ => rfl) ?heads ?_
    case heads =>
      refine ⟨.inl ⟨rfl, fun w' hw => ?_⟩, .inl ⟨rfl, fun w' hw => ?_⟩, .inl ⟨rfl, fun w' hw => ?_⟩, .inl ⟨rfl, fun w' hw => ?_⟩, .inl ⟨rfl, fun w' hw => ?_⟩, .inl ⟨rfl, fun w' hw => ?_⟩, .inl ⟨rfl, fun w' hw => ?_⟩, .inl ⟨rfl, fun w' hw => ?_⟩, trivial⟩ <;>
        (obtain ⟨f1, f2, f3, f4⟩ := HF.out w' hw; show (execOp _ _).run Try.prog w' = _; go_simp)
    simp only [wpIdx, putIdx, List.getElem?_cons_succ, List.getElem?_cons_zero, Act.put, List.setIfInBounds_toArray, List.set_cons_zero, List.set_cons_succ]
    intro K hK
    refine if_wanted (by rfl) ?_
    refine step_call 57 #[.tmp 50] #[70] ?g2 (enters_of Try.func57 (by kernel_rfl) rfl) [.slice A L.length cp] ?g3 (values_calls A L.length cp _) ?_
    case g2 => rfl
    case g3 => rfl
    rintro e w' ⟨rfl, rfl⟩
    refine ⟨_, rfl, hK _ _ (fun k hk => Below.heap_alloc _ _ _ hk) ?_⟩
    intro K2 hK2
    refine if_wanted (by rfl) ?_
    refine step_call 56 #[.tmp 51, .tmp 52] #[101, 94] ?g2 (enters_of Try.func56 (by kernel_rfl) rfl) [.func (.func 71) #[] #[.pointer (some ⟨w1.heap.size, 0, none⟩)], .func (.func 53) #[] #[.pointer (some ⟨w.heap.size, 0, none⟩), .pointer (some ⟨w.heap.size + 3, 0, none⟩)]] ?g3 HSO.out ?_
    case g2 => rfl
    case g3 => rfl
    rintro e w6 ⟨v, rfl, hr6, hb6⟩
    obtain ⟨A', c', rfl⟩ := hr6.sliced
    have hb7 : Below w1.heap.size w1 w6 := (((Below.refl _ w1).drew).alloc (Nat.le_refl _) _).trans (hb6.mono (by simp))
    refine ⟨_, rfl, hK2 _ _ (fun k hk => hb7.block k hk) ?_⟩
    intro K3 hK3
    simp only [Act.put, List.setIfInBounds_toArray, List.set_cons_zero, List.set_cons_succ]
    go_simp
    refine hK3 _ _ (fun k hk => hb7.block k hk) ?_
    refine Ends.mk ⟨A', c', rfl, fun k hk => ?_, hb7⟩
    obtain ⟨g, h1, _, _, h2⟩ := rowI_at hr6 k hk
    exact ⟨g, h1, h2⟩
  case imp =>
    rintro A' c' w6 ⟨hat6, hb6⟩
    have hI6 := HB.out.2.below hb6 (by omega)
    have H6 := Lib.hid (And.intro hat6 (And.intro hb6 hI6))
    clear HF HSO hat6 hb6 hI6
    have hBW := HB.out.1.trans (H6.out.2.1.mono HB.out.1.size)
    rcases hLL : L with _ | ⟨z, _ | ⟨z2, L2⟩⟩
    · subst hLL
      have hx : ¬ xs = p0 := by intro h; have := hR1.out.2.2.2.2.2; rw [if_pos h] at this; cases this
      have hf : outL p0 q m (pre ++ [x]) = outL p0 q m pre := by have := hR1.out.2.2.1; rwa [if_neg hx, List.append_nil] at this
      have HFIN := Lib.hid (And.intro hf (And.intro hBW H6.out.2.2))
      clear hf hx hBW
      simp only [List.length_nil]
      gi_wp2
      gi_loopw [55] (fun i wr => i = .int .i64 0 ∧ wr = w6) (fun _ _ => 0)
      case atStart => exact ⟨rfl, rfl⟩
      case round =>
        obtain ⟨rfl, rfl⟩ := hrel
        gi_wp2
        refine ⟨keepsO_below HFIN.out.2.1, ⟨HFIN.out.2.1.size, fun k hk => HFIN.out.2.1.block k (by have := hk.le HN.out.2.2; have := hR1.out.2.1; omega)⟩, ?_, Nat.le_trans hR1.out.2.1 HFIN.out.2.1.size⟩
        rw [HFIN.out.1]
        exact HFIN.out.2.2
    · subst hLL
      have hx : xs = p0 := by
        by_cases h : xs = p0
        · exact h
        · have := hR1.out.2.2.2.2.2; rw [if_neg h] at this; cases this
      have hz : z = 1 := by have := hR1.out.2.2.2.2.2; rw [if_pos hx] at this; injection this
      subst hz
      have hf : outL p0 q m (pre ++ [x]) = outL p0 q m pre ++ [(m, (restS xs q).1)] := by have := hR1.out.2.2.1; rwa [if_pos hx] at this
      obtain ⟨g6, rfl, hc6⟩ := H6.out.1 0 (by simp)
      have HFIN := Lib.hid (And.intro hf hBW)
      obtain ⟨v, hv, hrow⟩ := H6.out.2.2.out
      have HV := Lib.hid (And.intro hv hrow)
      simp only [List.getElem_cons_zero] at hc6
      clear hf hx hBW hv hrow
      simp only [List.length_cons, List.length_nil, Nat.zero_add]
      gi_wp2
      gi_loopw [55] (fun i wr => (i = .int .i64 0 ∧ wr = w6) ∨ (i = .int .i64 1 ∧ Hid (KeepsOthers W wr ∧ KeepS (S5 B8 n5 A5) W wr ∧ RI w base tb p0 q o m gg cap gb lb ib cap2 n B8 (n5 + 1) (outL p0 q m (pre ++ [x])) wr ∧ n5 + 1 ≤ wr.heap.size))) (fun i _ => (1 - intOf i).toNat)
      case atStart => exact .inl ⟨rfl, rfl⟩
      case round =>
        rcases hrel with ⟨rfl, hwr⟩ | ⟨rfl, HI⟩
        · obtain rfl : w6 = wr := hwr.symm
          clear hwr
          gi_wp2
          have hF : ∀ w', (∀ k, k < w6.heap.size → w'.heap[k]? = w6.heap[k]?) → w'.cell? ⟨B8 + 1, 0, none⟩ = some v ∧ w'.cell? ⟨w.heap.size, 0, none⟩ = some (.pointer (some ⟨tb, 0, none⟩)) ∧ w'.cell? ⟨tb, 0, none⟩ = some (.slice (some ⟨gg, 0, none⟩) 1 cap) ∧
              w'.cell? ⟨w.heap.size + 3, 0, none⟩ = some (.map (some (w.heap.size + 2))) ∧ (Instr.lookup 93 (.map (some (w.heap.size + 2))) (.int .i64 1) false).run Try.prog w' = .ok (.int .i64 0) w' ∧ w'.cell? ⟨gg, 2, none⟩ = some (.int .i64 m) := fun w' hk =>
            ⟨(show Boxed w' _ _ _ from (hk _ (Boxed.lt HV.out.1)).trans HV.out.1).cell, (show Boxed w' _ _ _ from (hk _ (Boxed.lt H6.out.2.2.ci.b0)).trans H6.out.2.2.ci.b0).cell, (H6.out.2.2.one.keep hk).tab.cells.1,
              (show Boxed w' _ _ _ from (hk _ (Boxed.lt H6.out.2.2.ci.b3)).trans H6.out.2.2.ci.b3).cell, lookup_at (H6.out.2.2.mp.heap (hk _ H6.out.2.2.mp.lt)), (H6.out.2.2.one.keep hk).cells.2.2.1⟩
          have HF6 := Lib.hid hF
          clear hF
          obtain ⟨i0, hi0, hz0, hz1, hz2⟩ := info_parts (P := Try.prog) (e := 51) (z := .agg #[.int .i64 0, .string ⟨#[]⟩]) (size := 2) (bytes := 24) (by kernel_rfl)
          apply EndsIn.split (G := fun _ _ wr => KeepsOthers W wr ∧ KeepS (S5 B8 n5 A5) W wr ∧ RI w base tb p0 q o m gg cap gb lb ib cap2 n B8 (n5 + 1) (outL p0 q m (pre ++ [x])) wr ∧ n5 + 1 ≤ wr.heap.size)
          case walk =>
            refine wpIn_round_tails 14 1 (fun w' => ∀ k, k < w6.heap.size → w'.heap[k]? = w6.heap[k]?)
              [v, .pointer (some ⟨tb, 0, none⟩), .pointer (some ⟨tb, 0, none⟩), .pointer (some ⟨tb, 0, none⟩), .slice (some ⟨gg, 0, none⟩) 1 cap, .map (some (w.heap.size + 2)), .int .i64 1, .int .i64 0, .pointer (some ⟨gg, 0, none⟩), .pointer (some ⟨gg, 0, none⟩), .pointer (some ⟨gg, 2, none⟩), .int .i64 m, .string ⟨(restS xs q).1.toArray⟩, .agg #[.int .i64 m, .string ⟨(restS xs q).1.toArray⟩]]
              Ends.stays (by rfl) (by kernel_rfl) (by kernel_rfl) (fun _ _ _ _ _ h => h) (fun _ _ => rfl) ?heads ?_
            case heads =>
              simp only [List.take_succ_cons, List.take_zero]
              refine ⟨.inl ⟨rfl, fun w' hw => ?_⟩, .inl ⟨rfl, fun w' hw => ?_⟩, .inl ⟨rfl, fun w' hw => ?_⟩, .inl ⟨rfl, fun w' hw => ?_⟩, .inl ⟨rfl, fun w' hw => ?_⟩, .inl ⟨rfl, fun w' hw => ?_⟩, .inl ⟨rfl, fun w' hw => ?_⟩, .inl ⟨rfl, fun w' hw => ?_⟩, .inl ⟨rfl, fun w' hw => ?_⟩, .inl ⟨rfl, fun w' hw => ?_⟩, .inl ⟨rfl, fun w' hw => ?_⟩, .inl ⟨rfl, fun w' hw => ?_⟩, .inl ⟨rfl, fun w' hw => ?_⟩, .inl ⟨rfl, fun w' hw => ?_⟩, trivial⟩ <;>
                (obtain ⟨f1, f2, f3, f4, f5, f6⟩ := HF6.out w' hw; show (execOp _ _).run Try.prog w' = _; go_simp)
            simp only [List.take_succ_cons, List.take_zero, List.drop_succ_cons, List.drop_zero, putAll, Act.put, List.setIfInBounds_toArray, List.set_cons_zero, List.set_cons_succ]
            refine wpListR_cons fun K hK => ?_
            go_simp
            refine hK _ _ (fun k hk => Below.heap_alloc _ _ _ hk) ?_
            refine wpListR_nil ?_
            clear hK K
            have hH2 : World.ownsRow (w6.alloc (.cells #[.int .i64 m, .string ⟨(restS xs q).1.toArray⟩] 51)).drew (n5 + 1) 51 2 v (outL p0 q m pre).length (candV (outL p0 q m pre)) := HV.out.2.alloc _
            have hB2 : Boxed (w6.alloc (.cells #[.int .i64 m, .string ⟨(restS xs q).1.toArray⟩] 51)).drew (B8 + 1) 36 v := Boxed.alloc (W := w6) HV.out.1 _
            have HH2 := Lib.hid (And.intro hH2 hB2)
            clear hH2 hB2
            refine wpList_append_own _ rfl (.tmp 59) (.tmp 73) 36 rfl (n5 + 1) 51 i0 (.agg #[.int .i64 0, .string ⟨#[]⟩]) 2 24 Try.underlying36 hi0 hz0 hz1 hz2 rfl (by decide) _ _ _ rfl HH2.out.1 ⟨w6.heap.size, 0, none⟩ 1 1 [.int .i64 m, .string ⟨(restS xs q).1.toArray⟩] rfl rfl ?cells (by simp [Value.oneCell']) (by have := HN.out.1; unfold maxLen; omega) (by have := HN.out.1; omega) (by have := H6.out.2.1.size; have := HB.out.1.size; have := hR1.out.2.1; simp; omega) ?_
            case cells =>
              intro k u hk
              have h7 : (w6.alloc (.cells #[.int .i64 m, .string ⟨(restS xs q).1.toArray⟩] 51)).drew.heap[w6.heap.size]? = some (.cells #[.int .i64 m, .string ⟨(restS xs q).1.toArray⟩] 51) := World.alloc_heap_new w6 _
              rw [add_at, cell_of_row _ _ _ _ _ _ h7]
              simpa using hk
            intro v' w7 hown' hgrow _
            obtain ⟨g', cap', rfl⟩ := ownsRow_succ hown'
            obtain ⟨a1, a2, a3, a4, a5, a6⟩ := out_appended HH2.out.2 (by decide) HH2.out.1 (by have := HN.out; omega) (by have := H6.out.2.1.size; have := HB.out.1.size; have := hR1.out.2.1; simp; omega) hown' hgrow
            have hcr' := a1.cell
            have hfr' := a1.frozen
            have HA := Lib.hid (And.intro a2 (And.intro a3 (And.intro a4 (And.intro a5 a6))))
            clear a1 a2 a3 a4 a5 a6 hown' hgrow
            simp only [Act.put, List.setIfInBounds_toArray, List.set_cons_zero, List.set_cons_succ]
            go_wp2
            generalize hA7 : (some (⟨g', 0, none⟩ : Addr)) = A7
            refine Ends.mk ⟨A7, cap', rfl, ?_⟩
            subst hA7
            have hk6 : ∀ k, k < n5 + 1 → k ≠ B8 + 1 → (w7.setCell ⟨B8 + 1, 0, none⟩ (.slice (some ⟨g', 0, none⟩) ((outL p0 q m pre).length + 1) cap')).heap[k]? = w6.heap[k]? := fun k h1 h2 => (HA.out.2.2.2.1 k h1 h2).trans (Below.heap_alloc w6 _ _ (by have := H6.out.2.1.size; have := HB.out.1.size; have := hR1.out.2.1; omega))
            have hbw : Below w.heap.size w (w7.setCell ⟨B8 + 1, 0, none⟩ (.slice (some ⟨g', 0, none⟩) ((outL p0 q m pre).length + 1) cap')) :=
              ((H6.out.2.2.ci.bel.alloc H6.out.2.2.ci.bel.size _).drew).trans (HA.out.2.2.1.mono (by have := HN.out; omega))
            refine ⟨((keepsO_below HFIN.out.2).trans ((KeepsOthers.alloc w6 _).trans (KeepsOthers.drew _))).trans HA.out.2.2.2.2, ⟨Nat.le_trans HFIN.out.2.size (Nat.le_trans (by simp) HA.out.2.2.1.size), fun k hk => ?_⟩, ?_, ?_⟩
            · have h1 := hk.le HN.out.2.2
              exact (hk6 k (by omega) (by omega)).trans (HFIN.out.2.block k (by have := hR1.out.2.1; omega))
            · refine RI.final H6.out.2.2 HO1.out hk6 hbw HN.out.2.1 (by have := HN.out; omega) HA.out.1 ?_
              have h3 := HA.out.2.1
              rw [HFIN.out.1, candV_snoc, List.length_append]
              exact h3
            · have h1 := HA.out.2.2.1.size
              have := H6.out.2.1.size; have := HB.out.1.size; have := hR1.out.2.1
              simp at h1 ⊢
              omega
          case imp =>
            rintro _ _ wr hFi
            have HI := Lib.hid hFi
            clear hFi
            gi_wp2
            go_roundw
            case rel => exact ⟨_, _, _, _, _, _, _, _, _, _, _, _, _, _, _, _, _, _, _, _, _, _, .inr ⟨rfl, HI.out⟩, rfl⟩
            case measure => simp [intOf]
        · gi_wp2
          exact HI.out
    · exfalso
      have := hR1.out.2.2.2.2.2
      rw [hLL] at this
      split at this <;> cases this
end Go.Proofs.Ytedoonfegcgmeaa
