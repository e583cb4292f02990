/- The iterator of what is left of ranges. -/
import Derived.Test.YthccppldpfddjaaDoorA2
namespace Go.Proofs.YthccppldpfddjaaDoor
open Go.RowKit
set_option linter.unusedVariables false
attribute [local go_sem] Oper.semAt_some
/-- What a round keeps: all blocks below m, and each block of one element of type T (two cells). -/
structure KeepT (m : Nat) (T : TypeId) (W W' : World) : Prop where
  size : W.heap.size ≤ W'.heap.size
  low : ∀ k, k < m → W'.heap[k]? = W.heap[k]?
  one : ∀ (k : Nat) (a b : Value), W.heap[k]? = some (.cells #[a, b] T (0, 0)) → W'.heap[k]? = some (.cells #[a, b] T (0, 0))
theorem KeepT.refl (m : Nat) (T : TypeId) (W : World) : KeepT m T W W := ⟨Nat.le_refl _, fun _ _ => rfl, fun _ _ _ h => h⟩
theorem KeepT.trans {m : Nat} {T : TypeId} {a b c : World} (h : KeepT m T a b) (k : KeepT m T b c) : KeepT m T a c :=
  ⟨Nat.le_trans h.size k.size, fun i hi => (k.low i hi).trans (h.low i hi), fun i x y hx => k.one i x y (h.one i x y hx)⟩
theorem keepT_below {m : Nat} {T : TypeId} {W W' : World} (h : Below W.heap.size W W') (hm : m ≤ W.heap.size) : KeepT m T W W' :=
  ⟨h.size, fun k hk => h.block k (by omega), fun k a b hk => (h.block k (Array.getElem?_eq_some_iff.1 hk).1).trans hk⟩
theorem keepT_put {m : Nat} {T : TypeId} {W : World} {l : Nat} {o o' : Obj} (h1 : m ≤ l) (ho : W.heap[l]? = some o) (hc : o.isCells = false) : KeepT m T W (W.putObj l o') :=
  ⟨by simp [World.putObj], fun k hk => World.putObj_heap_other (by omega), fun k a b hk => by
    rw [World.putObj_heap_other (by rintro rfl; rw [hk] at ho; cases ho; cases hc)]; exact hk⟩
def encR (x : Rg) : Value := .agg #[.int .i64 x.1, .int .i64 x.2]
/-- What a slice of ranges holds at place k. -/
theorem Ls.at {w : World} {e : TypeId} {v : Value} {l : List Rg} (h : Ls w e v l) {A : Option Addr} {n c : Nat} (hv : v = .slice A n c) {k : Nat} (hk : k < l.length) :
    ∃ g, A = some ⟨g, 0, none⟩ ∧ v.ownBlock = some g ∧ w.cell? ⟨g, k * 2, none⟩ = some (.int .i64 l[k].1) ∧ w.cell? ⟨g, k * 2 + 1, none⟩ = some (.int .i64 l[k].2) := by
  subst hv
  obtain ⟨h1, h2⟩ := h
  rcases h2 with ⟨h2, h3⟩ | ⟨g, cap, cur, h2, h3, r⟩
  · omega
  · cases h2
    have hc := Rw.cells (w := w) (e := e) (size := 2) (v := .slice (some ⟨g, 0, none⟩) l.length c) (n := l.length) (xs := pcells l) ⟨h1, .inr ⟨g, c, cur, rfl, h3, r⟩⟩ (g := g) rfl
    obtain ⟨p1, p2⟩ := pcells_get l k hk
    have g1 := hc _ _ p1
    have g2 := hc _ _ p2
    rw [add_at, Nat.zero_add] at g1 g2
    refine ⟨g, rfl, rfl, ?_, ?_⟩
    · rw [g1]; simp [List.getD_eq_getElem?_getD, List.getElem?_eq_getElem hk]
    · rw [g2]; simp [List.getD_eq_getElem?_getD, List.getElem?_eq_getElem hk]
theorem outS_take (l : List Rg) (lo hi : Int) (k : Nat) (hk : k < l.length) : outS (l.take (k + 1)) lo hi = outS (l.take k) lo hi ++ pieces lo hi l[k] := by
  unfold outS
  rw [List.take_succ_eq_append_getElem hk, List.flatMap_append]
  simp
theorem outS_prefix (l : List Rg) (lo hi : Int) (k : Nat) : outS (l.take k) lo hi <+: outS l lo hi := by
  refine ⟨outS (l.drop k) lo hi, ?_⟩
  unfold outS
  rw [← List.flatMap_append, List.take_append_drop]
theorem pieces_left {a b lo hi : Int} (h1 : a < lo) (h2 : b ≤ hi) (m : Int) (hm : m = min b (lo - 1)) : pieces lo hi (a, b) = [(a, m)] := by
  unfold pieces
  simp only
  rw [if_pos h1, if_neg (by omega), hm]
  rfl
theorem pieces_both {a b lo hi : Int} (h1 : a < lo) (h2 : hi < b) (hl : lo ≤ hi) : pieces lo hi (a, b) = [(a, lo - 1), (hi + 1, b)] := by
  unfold pieces
  simp only
  rw [if_pos h1, if_pos h2, show min b (lo - 1) = lo - 1 by omega, show max a (hi + 1) = hi + 1 by omega]
  rfl
theorem pieces_right {a b lo hi : Int} (h1 : lo ≤ a) (h2 : hi < b) (m : Int) (hm : m = max a (hi + 1)) : pieces lo hi (a, b) = [(m, b)] := by
  unfold pieces
  simp only
  rw [if_neg (by omega), if_pos h2, hm]
  rfl
theorem pieces_none {a b lo hi : Int} (h1 : lo ≤ a) (h2 : b ≤ hi) : pieces lo hi (a, b) = [] := by
  unfold pieces
  simp only
  rw [if_neg (by omega), if_neg (by omega)]
  rfl
set_option maxHeartbeats 8000000 in
set_option maxRecDepth 100000 in
theorem outside_seq (m b1 b2 b3 : Nat) (v : Value) (l : List Rg) (lo hi : Int) (w : World) (h1 : Boxed w b1 36 v) (h2 : Boxed w b2 2 (.int .i64 lo)) (h3 : Boxed w b3 2 (.int .i64 hi))
    (hb : b1 < m ∧ b2 < m ∧ b3 < m) (hm : m ≤ w.heap.size) (hl : Ls w 43 v l) (hlm : ∀ g, v.ownBlock = some g → g < m) (hlen : l.length ≤ 1000000) (hlo : -1000000000000000000 ≤ lo) (hhi : hi ≤ 1000000000000000000) (hlh : lo ≤ hi) :
    SeqB Fence.wide 4 Tryd.prog 113 #[.pointer (some ⟨b1, 0, none⟩), .pointer (some ⟨b2, 0, none⟩), .pointer (some ⟨b3, 0, none⟩)] (fun x : Rg => #[encR x]) (fun k => False) (KeepT m 43) (fun pre x => pre ++ [x] <+: outS l lo hi) (fun xs => xs = outS l lo hi) (fun pre => pre <+: outS l lo hi) w := by
  intro lp J Jx W hbw hJ hY h0
  obtain ⟨A, cap, rfl, hcap, -, -, -⟩ := Rw.form hl
  have HY := Lib.hid hY
  have HJ := Lib.hid hJ
  have hgr := grown_of_below' hbw none
  have hAll := Lib.hid (And.intro (h1.kept hgr (by simp)) (And.intro (h2.kept hgr (by simp)) (And.intro (h3.kept hgr (by simp)) (hl.below hbw))))
  have HM := Lib.hid (And.intro (Nat.le_trans hm hbw.size) (And.intro hlm hb))
  have HL := Lib.hid hlen
  clear hJ hY h1 h2 h3 hl hm hlm hb hlen hgr hcap
  have c1 := hAll.out.1.cell
  refine callsIn_of_wp Tryd.func113 rfl trivial ?_ rfl
  simp only [Tryd.ntmps113, List.size_toArray, List.length_cons, List.length_nil, Nat.reduceAdd, Nat.reduceSub, Array.replicate_succ, Array.replicate_zero, List.push_toArray, List.append_toArray, List.nil_append, List.cons_append]
  gi_wp2
  gi_loopw [9] (fun i wr => ∃ k : Nat, k ≤ l.length ∧ i = .int .i64 k ∧ Hid (J (outS (l.take k) lo hi) wr ∧ KeepT m 43 W wr)) (fun i _ => l.length - (intOf i).toNat)
  case atStart => exact ⟨0, by omega, rfl, Lib.hid ⟨by simpa [outS] using h0, KeepT.refl _ _ _⟩⟩
  case round =>
    obtain ⟨k, hk, rfl, HI⟩ := hrel
    clear c1
    by_cases hlt : k < l.length
    · have hlt' : (k : Int) < (l.length : Int) := by omega
      have hk6 : (k : Int) ≤ 1000000 := by have := HL.out; omega
      obtain ⟨g, rfl, hg, q1, q2⟩ := Ls.at hAll.out.2.2.2 rfl hlt
      have hgm := HM.out.2.1 g hg
      have q1' : wr.cell? ⟨g, k * 2, none⟩ = some (.int .i64 l[k].1) := (World.cell?_of_block (HI.out.2.low g hgm)).trans q1
      have q2' : wr.cell? ⟨g, k * 2 + 1, none⟩ = some (.int .i64 l[k].2) := (World.cell?_of_block (HI.out.2.low g hgm)).trans q2
      have HT := Lib.hid (And.intro (outS_take l lo hi k hlt) (outS_prefix l lo hi (k + 1)))
      clear q1 q2 hg hgm
      generalize l[k] = r at *
      obtain ⟨a, b⟩ := r
      simp only at q1' q2'
      have hkx : ∀ o, KeepT m 43 W (wr.alloc o) := fun o => HI.out.2.trans (keepT_below ((Below.refl _ _).alloc (Nat.le_refl _) _) (Nat.le_trans HM.out.1 HI.out.2.size))
      have hf : ∀ w3, KeepT m 43 (wr.alloc (.cells #[.int .i64 a, .int .i64 b] 43)) w3 → w3.cell? ⟨wr.heap.size, 0, none⟩ = some (.int .i64 a) ∧ w3.cell? ⟨wr.heap.size, 1, none⟩ = some (.int .i64 b) ∧ w3.cell? ⟨b3, 0, none⟩ = some (.int .i64 hi) ∧ KeepT m 43 W w3 := by
        intro w3 hk3
        have e1 := hk3.one wr.heap.size _ _ (heap_alloc_new wr _)
        have e2 := (hkx _).trans hk3
        refine ⟨by rw [cell_of_row _ _ _ _ _ _ e1]; rfl, by rw [cell_of_row _ _ _ _ _ _ e1]; rfl, ?_, e2⟩
        exact (show Boxed w3 b3 2 (.int .i64 hi) from (e2.low b3 HM.out.2.2.2.2).trans hAll.out.2.2.1).cell
      have hc2 := ((show Boxed (wr.alloc (.cells #[.int .i64 a, .int .i64 b] 43)) b2 2 (.int .i64 lo) from ((hkx _).low b2 HM.out.2.2.2.1).trans hAll.out.2.1).cell)
      have hc3 := ((show Boxed (wr.alloc (.cells #[.int .i64 a, .int .i64 b] 43)) b3 2 (.int .i64 hi) from ((hkx _).low b3 HM.out.2.2.2.2).trans hAll.out.2.2.1).cell)
      have hj1 : J (outS (l.take k) lo hi) (wr.alloc (.cells #[.int .i64 a, .int .i64 b] 43)) := HJ.out _ _ _ HI.out.1 ((But.refl _ wr).alloc _)
      have HF := Lib.hid (And.intro hf (And.intro hj1 (hkx (.cells #[.int .i64 a, .int .i64 b] 43))))
      clear hf hj1 hkx
      by_cases ha : a < lo
      · by_cases hb : b ≤ hi
        · by_cases hm1 : b ≤ lo - 1
          · have HP := Lib.hid (pieces_left ha hb b (by omega))
            have HY1 := Lib.hid (HY.out _ (a, b) _ HF.out.2.1 (by have := HT.out.2; rw [HT.out.1, HP.out] at this; exact this))
            unfold encR at HY1
            gi_wp2_with (((with_reducible change wpListIn _ _ _ _ _ (⟨_, .call { callee := .value (.tmp 18), args := _, argTypes := _ }, _, _, _, _⟩ :: _) _ _)); refine wpListIn_yield_g rfl (.tmp 18) (.tmp 26) #[43] rfl lp rfl rfl HY1.out ?_; rintro e w3 (⟨rfl, hJ3, hk3⟩ | ⟨rfl, hJx⟩) <;> first | (obtain ⟨x1, x2, x3, x4⟩ := HF.out.1 w3 hk3; have HJ3 := Lib.hid (And.intro hJ3 x4); clear hJ3 hk3 x4; refine ⟨_, rfl, ?_⟩) | refine ⟨_, rfl, ?_⟩)
            · refine ⟨fun _ h => (by cases h), ?_⟩
              gi_wp2
              go_roundw
              case rel => exact ⟨k + 1, by omega, by go_num, Lib.hid ⟨by rw [HT.out.1, HP.out]; exact HJ3.out.1, HJ3.out.2⟩⟩
              case measure => simp [intOf]; omega
            · refine bodyPost_ret (results_none rfl _ _ _) rfl ?_
              exact ⟨⟨_, rfl⟩, .inr ⟨_, (by have := HT.out.2; rw [HT.out.1, HP.out] at this; exact this), hJx⟩⟩
          · have HP := Lib.hid (pieces_left ha hb (lo - 1) (by omega))
            have g1 : lo - 1 < b := by omega
            have g2 : lo ≤ b := by omega
            have HY1 := Lib.hid (HY.out _ (a, lo - 1) _ HF.out.2.1 (by have := HT.out.2; rw [HT.out.1, HP.out] at this; exact this))
            unfold encR at HY1
            gi_wp2_with (((with_reducible change wpListIn _ _ _ _ _ (⟨_, .call { callee := .value (.tmp 18), args := _, argTypes := _ }, _, _, _, _⟩ :: _) _ _)); refine wpListIn_yield_g rfl (.tmp 18) (.tmp 26) #[43] rfl lp rfl rfl HY1.out ?_; rintro e w3 (⟨rfl, hJ3, hk3⟩ | ⟨rfl, hJx⟩) <;> first | (obtain ⟨x1, x2, x3, x4⟩ := HF.out.1 w3 hk3; have HJ3 := Lib.hid (And.intro hJ3 x4); clear hJ3 hk3 x4; refine ⟨_, rfl, ?_⟩) | refine ⟨_, rfl, ?_⟩)
            · refine ⟨fun _ h => (by cases h), ?_⟩
              gi_wp2
              go_roundw
              case rel => exact ⟨k + 1, by omega, by go_num, Lib.hid ⟨by rw [HT.out.1, HP.out]; exact HJ3.out.1, HJ3.out.2⟩⟩
              case measure => simp [intOf]; omega
            · refine bodyPost_ret (results_none rfl _ _ _) rfl ?_
              exact ⟨⟨_, rfl⟩, .inr ⟨_, (by have := HT.out.2; rw [HT.out.1, HP.out] at this; exact this), hJx⟩⟩
        · have hb' : hi < b := by omega
          have HP := Lib.hid (pieces_both ha hb' hlh)
          have HY1 := Lib.hid (HY.out _ (a, lo - 1) _ HF.out.2.1 (by have := HT.out.2; rw [HT.out.1, HP.out] at this; exact List.IsPrefix.trans ⟨[(hi + 1, b)], by simp⟩ this))
          have HY2 := Lib.hid (fun w3 hj => HY.out (outS (l.take k) lo hi ++ [(a, lo - 1)]) (hi + 1, b) w3 hj (by have := HT.out.2; rw [HT.out.1, HP.out] at this; simpa using this))
          unfold encR at HY1 HY2
          have g1 : ¬ b ≤ lo - 1 := by omega
          have g2 : lo ≤ b := by omega
          gi_wp2_with (first
            | (((with_reducible change wpListIn _ _ _ _ _ (⟨_, .call { callee := .value (.tmp 18), args := _, argTypes := _ }, _, _, _, _⟩ :: _) _ _)); refine wpListIn_yield_g rfl (.tmp 18) (.tmp 26) #[43] rfl lp rfl rfl HY1.out ?_; rintro e w3 (⟨rfl, hJ3, hk3⟩ | ⟨rfl, hJx⟩) <;> first | (obtain ⟨x1, x2, x3, x4⟩ := HF.out.1 w3 hk3; have HJ3 := Lib.hid (And.intro hJ3 x4); clear hJ3 hk3 x4; refine ⟨_, rfl, ?_⟩) | refine ⟨_, rfl, ?_⟩)
            | (((with_reducible change wpListIn _ _ _ _ _ (⟨_, .call { callee := .value (.tmp 35), args := _, argTypes := _ }, _, _, _, _⟩ :: _) _ _)); refine wpListIn_yield_g rfl (.tmp 35) (.tmp 43) #[43] rfl lp rfl rfl (HY2.out _ HJ3.out.1) ?_; rintro e w4 (⟨rfl, hJ4, hk4⟩ | ⟨rfl, hJx⟩) <;> refine ⟨_, rfl, ?_⟩))
          · go_roundw
            case rel => exact ⟨k + 1, by omega, by go_num, Lib.hid ⟨by rw [HT.out.1, HP.out]; simpa using hJ4, HJ3.out.2.trans hk4⟩⟩
            case measure => simp [intOf]; omega
          · refine bodyPost_ret (results_none rfl _ _ _) rfl ?_
            exact ⟨⟨_, rfl⟩, .inr ⟨_, (by have := HT.out.2; rw [HT.out.1, HP.out] at this; simpa using this), hJx⟩⟩
          · refine bodyPost_ret (results_none rfl _ _ _) rfl ?_
            exact ⟨⟨_, rfl⟩, .inr ⟨_, (by have := HT.out.2; rw [HT.out.1, HP.out] at this; exact List.IsPrefix.trans ⟨[(hi + 1, b)], by simp⟩ this), hJx⟩⟩
      · by_cases hb : b ≤ hi
        · have HP := Lib.hid (pieces_none (by omega : lo ≤ a) hb)
          obtain ⟨x1, x2, -, -⟩ := HF.out.1 _ (KeepT.refl _ _ _)
          gi_wp2
          refine ⟨fun _ h => (by cases h), ?_⟩
          gi_wp2
          go_roundw
          case rel => exact ⟨k + 1, by omega, by go_num, Lib.hid ⟨by rw [HT.out.1, HP.out, List.append_nil]; exact HF.out.2.1, HF.out.2.2⟩⟩
          case measure => simp [intOf]; omega
        · have hb' : hi < b := by omega
          by_cases hm1 : a ≤ hi
          · have HP := Lib.hid (pieces_right (by omega : lo ≤ a) hb' (hi + 1) (by omega))
            have HY1 := Lib.hid (HY.out _ (hi + 1, b) _ HF.out.2.1 (by have := HT.out.2; rw [HT.out.1, HP.out] at this; exact this))
            unfold encR at HY1
            have g1 : a ≤ hi + 1 := by omega
            gi_wp2
            refine ⟨fun _ h => (by cases h), ?_⟩
            gi_wp2_with (((with_reducible change wpListIn _ _ _ _ _ (⟨_, .call { callee := .value (.tmp 35), args := _, argTypes := _ }, _, _, _, _⟩ :: _) _ _)); refine wpListIn_yield_g rfl (.tmp 35) (.tmp 43) #[43] rfl lp rfl rfl HY1.out ?_; rintro e w3 (⟨rfl, hJ3, hk3⟩ | ⟨rfl, hJx⟩) <;> first | (obtain ⟨x1, x2, x3, x4⟩ := HF.out.1 w3 hk3; have HJ3 := Lib.hid (And.intro hJ3 x4); clear hJ3 hk3 x4; refine ⟨_, rfl, ?_⟩) | refine ⟨_, rfl, ?_⟩)
            · go_roundw
              case rel => exact ⟨k + 1, by omega, by go_num, Lib.hid ⟨by rw [HT.out.1, HP.out]; exact HJ3.out.1, HJ3.out.2⟩⟩
              case measure => simp [intOf]; omega
            · refine bodyPost_ret (results_none rfl _ _ _) rfl ?_
              exact ⟨⟨_, rfl⟩, .inr ⟨_, (by have := HT.out.2; rw [HT.out.1, HP.out] at this; exact this), hJx⟩⟩
          · have HP := Lib.hid (pieces_right (by omega : lo ≤ a) hb' a (by omega))
            have HY1 := Lib.hid (HY.out _ (a, b) _ HF.out.2.1 (by have := HT.out.2; rw [HT.out.1, HP.out] at this; exact this))
            unfold encR at HY1
            have g1 : hi + 1 ≤ a := by omega
            gi_wp2
            refine ⟨fun _ h => (by cases h), ?_⟩
            gi_wp2_with (((with_reducible change wpListIn _ _ _ _ _ (⟨_, .call { callee := .value (.tmp 35), args := _, argTypes := _ }, _, _, _, _⟩ :: _) _ _)); refine wpListIn_yield_g rfl (.tmp 35) (.tmp 43) #[43] rfl lp rfl rfl HY1.out ?_; rintro e w3 (⟨rfl, hJ3, hk3⟩ | ⟨rfl, hJx⟩) <;> first | (obtain ⟨x1, x2, x3, x4⟩ := HF.out.1 w3 hk3; have HJ3 := Lib.hid (And.intro hJ3 x4); clear hJ3 hk3 x4; refine ⟨_, rfl, ?_⟩) | refine ⟨_, rfl, ?_⟩)
            · go_roundw
              case rel => exact ⟨k + 1, by omega, by go_num, Lib.hid ⟨by rw [HT.out.1, HP.out]; exact HJ3.out.1, HJ3.out.2⟩⟩
              case measure => simp [intOf]; omega
            · refine bodyPost_ret (results_none rfl _ _ _) rfl ?_
              exact ⟨⟨_, rfl⟩, .inr ⟨_, (by have := HT.out.2; rw [HT.out.1, HP.out] at this; exact this), hJx⟩⟩
    · obtain rfl : k = l.length := by omega
      have hge : ¬ ((l.length : Int) < (l.length : Int)) := by omega
      rw [List.take_length] at HI
      gi_wp2
      go_end0
      exact ⟨⟨_, rfl⟩, .inl HI.out.1⟩
end Go.Proofs.YthccppldpfddjaaDoor
