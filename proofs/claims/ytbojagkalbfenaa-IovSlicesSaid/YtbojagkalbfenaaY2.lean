import Derived.Test.YtbojagkalbfenaaProg
import Derived.Test.YtbojagkalbfenaaY1
namespace Go.Proofs.Ytbojagkalbfenaa
set_option linter.unusedVariables false
set_option linter.unusedSimpArgs false
open Go.RowKit
attribute [local go_sem] Oper.semAt_some ints_get ints_size ints_getElem

/-- A slice of pairs of int64 that lies in memory. -/
def Pairs (w : World) (A : Option Addr) (l : List (Int × Int)) : Prop :=
  ∀ i, i < l.length → ∃ ad, A = some ad ∧ w.cell? (ad.add (i * 2)) = some (.int .i64 (l.getD i (0, 0)).1) ∧ w.cell? ⟨(ad.add (i * 2)).block, (ad.add (i * 2)).off + 1, none⟩ = some (.int .i64 (l.getD i (0, 0)).2)
theorem Pairs.below {w w1 : World} {A : Option Addr} {l : List (Int × Int)} (h : Pairs w A l) (hb : Below w.heap.size w w1) : Pairs w1 A l := by
  intro i hi
  obtain ⟨ad, e, h1, h2⟩ := h i hi
  exact ⟨ad, e, (hb.cell (World.block_lt_of_cell? _ _ h1)).trans h1, (hb.cell (World.block_lt_of_cell? _ _ h2)).trans h2⟩
theorem add_block (a : Addr) (n : Nat) : (a.add n).block = a.block := by unfold Addr.add; split <;> rfl
theorem Pairs.kept {w w1 : World} {A : Option Addr} {l : List (Int × Int)} (h : Pairs w A l) (hb : ∀ ad, A = some ad → w1.heap[ad.block]? = w.heap[ad.block]?) : Pairs w1 A l := by
  intro i hi
  obtain ⟨ad, e, h1, h2⟩ := h i hi
  have hk := hb ad e
  exact ⟨ad, e, (World.cell?_of_block (w := w) (by rw [add_block]; exact hk)).trans h1, (World.cell?_of_block (w := w) (by show w1.heap[(ad.add (i * 2)).block]? = _; rw [add_block]; exact hk)).trans h2⟩

/-- The parts of the m bytes from an offset on, without empty ones. -/
def slicedL : List (Int × Int) → Int → Int → List (Int × Int)
  | [], _, _ => []
  | p :: r, off, m => if m ≤ 0 then [] else if p.2 ≤ off then slicedL r (off - p.2) m else (p.1 + off, min (p.2 - off) m) :: slicedL r 0 (m - min (p.2 - off) m)
def okP (l : List (Int × Int)) : Prop := ∀ p ∈ l, (0 ≤ p.1 ∧ p.1 ≤ 1099511627776) ∧ 0 ≤ p.2 ∧ p.2 ≤ 4096
theorem okP_get {l : List (Int × Int)} (h : okP l) (k : Nat) (hk : k < l.length) : (0 ≤ (l.getD k (0, 0)).1 ∧ (l.getD k (0, 0)).1 ≤ 1099511627776) ∧ 0 ≤ (l.getD k (0, 0)).2 ∧ (l.getD k (0, 0)).2 ≤ 4096 := by
  rw [List.getD_eq_getElem?_getD, List.getElem?_eq_getElem hk]
  exact h _ (List.getElem_mem hk)
theorem slicedL_mem {l : List (Int × Int)} (h : okP l) : ∀ {off m : Int}, 0 ≤ off → ∀ x ∈ slicedL l off m, (0 ≤ x.1 ∧ x.1 ≤ 1099511631872) ∧ 1 ≤ x.2 ∧ x.2 ≤ 4096 := by
  induction l with
  | nil => intro off m h0 x hx; simp [slicedL] at hx
  | cons p r ih =>
    intro off m h0 x hx
    have hr : okP r := fun q hq => h q (List.mem_cons_of_mem _ hq)
    have hp := h p List.mem_cons_self
    simp only [slicedL] at hx
    split at hx
    · simp at hx
    · split at hx
      · exact ih hr (by omega) x hx
      · rcases List.mem_cons.1 hx with rfl | hx
        · simp only
          omega
        · exact ih hr (by omega) x hx
theorem sl_bd {l : List (Int × Int)} (h : okP l) {off m : Int} (h0 : 0 ≤ off) {pre : List (Int × Int)} {x : Int × Int} (hp : pre ++ [x] <+: slicedL l off m) : (0 ≤ x.1 ∧ x.1 ≤ 1099511631872) ∧ 1 ≤ x.2 ∧ x.2 ≤ 4096 :=
  slicedL_mem h h0 x (hp.subset (by simp))

/-- What a round keeps for the iterator. -/
def KeepS (bp bn bo : Nat) (A : Option Addr) (W W' : World) : Prop :=
  W.heap.size ≤ W'.heap.size ∧ W'.heap[bp]? = W.heap[bp]? ∧ W'.heap[bn]? = W.heap[bn]? ∧ W'.heap[bo]? = W.heap[bo]? ∧ ∀ ad, A = some ad → W'.heap[ad.block]? = W.heap[ad.block]?

theorem drop_cons {l : List (Int × Int)} {k : Nat} (h : k < l.length) : l.drop k = l.getD k (0, 0) :: l.drop (k + 1) := by
  rw [List.drop_eq_getElem_cons h]
  simp [List.getD_eq_getElem?_getD, List.getElem?_eq_getElem h]

theorem cell_set2 {W : World} {p : Addr} {u a b : Value} {b1 b2 : Nat} (h : W.cell? p = some u) (h1 : p.block ≠ b1) (h2 : p.block ≠ b2) : ((W.setCell ⟨b1, 0, none⟩ a).setCell ⟨b2, 0, none⟩ b).cell? p = some u := by
  rw [World.cell?_of_block (w := W) (by rw [Below.heap_setCell _ _ _ _ h2, Below.heap_setCell _ _ _ _ h1]), h]
theorem cell_two (w : World) (o : Obj) (u v : Value) (t : TypeId) : ((w.alloc o).alloc (.cells #[u, v] t)).cell? ⟨w.heap.size + 1, 0, none⟩ = some u ∧ ((w.alloc o).alloc (.cells #[u, v] t)).cell? ⟨w.heap.size + 1, 1, none⟩ = some v := by
  constructor <;> (rw [cell_of_row _ _ _ _ _ _ (heap_alloc2_new w _ _)]; rfl)
theorem keep2 {wr : World} {bn bo b : Nat} {o o2 : Obj} {v v2 : Value} (hne : b ≠ bn ∧ b ≠ bo ∧ b < wr.heap.size) : ((((wr.alloc o).alloc o2).setCell ⟨bo, 0, none⟩ v).setCell ⟨bn, 0, none⟩ v2).heap[b]? = wr.heap[b]? := by
  rw [Below.heap_setCell _ _ _ _ hne.1, Below.heap_setCell _ _ _ _ hne.2.1, Below.heap_alloc _ _ _ (by have := hne.2.2; simp; omega), Below.heap_alloc _ _ _ hne.2.2]
theorem keep1 {wr : World} {bn bo b : Nat} {o : Obj} {v : Value} (hne : b ≠ bn ∧ b ≠ bo ∧ b < wr.heap.size) : ((wr.alloc o).setCell ⟨bo, 0, none⟩ v).heap[b]? = wr.heap[b]? := by
  rw [Below.heap_setCell _ _ _ _ hne.2.1, Below.heap_alloc _ _ _ hne.2.2]

set_option maxHeartbeats 1000000 in
set_option maxRecDepth 100000 in
theorem sliced1_seq (F : Fence) (n : Nat) (h43 : F.fn 43) (hro : F.round = none) (hd : F.depth = none) (hn : 1 ≤ n) (bp bn bo : Nat) (A : Option Addr) (cap : Nat) (cs : List (Int × Int)) (off m : Int) (w : World)
    (hbp : Boxed w bp 23 (.slice A cs.length cap)) (hbn : Boxed w bn 2 (.int .i64 m)) (hbo : Boxed w bo 2 (.int .i64 off)) (n1 : bp ≠ bn) (n2 : bp ≠ bo) (n3 : bn ≠ bo) (hp : Pairs w A cs) (hA : ∀ ad, A = some ad → ad.block ≠ bn ∧ ad.block ≠ bo ∧ ad.block < w.heap.size)
    (hok : okP cs) (hoff : 0 ≤ off ∧ off ≤ 1099511627776) (hm : 0 ≤ m ∧ m ≤ 1099511627776) (hlen : cs.length ≤ 16) :
    SeqB F n Try.prog 43 #[.pointer (some ⟨bp, 0, none⟩), .pointer (some ⟨bn, 0, none⟩), .pointer (some ⟨bo, 0, none⟩)] (fun x : Int × Int => #[.agg #[.int .i64 x.1, .int .i64 x.2]]) (fun k => k = bn ∨ k = bo) (KeepS bp bn bo A)
      (fun pre x => pre ++ [x] <+: slicedL cs off m) (fun xs => xs = slicedL cs off m) (fun pre => pre <+: slicedL cs off m) w := by
  intro l J Jx W hbw hJ hY h0
  have HJ := Lib.hid hJ
  have HY := Lib.hid hY
  have HOK := Lib.hid hok
  have hbpW := hbp.kept (grown_of_below' hbw none) (by simp)
  have hbnW := hbn.kept (grown_of_below' hbw none) (by simp)
  have hboW := hbo.kept (grown_of_below' hbw none) (by simp)
  have hcp := hbpW.cell
  have HPW := Lib.hid (hp.below hbw)
  clear hJ hY hok hbp hbn hbo hp
  refine callsIn_of_wp Try.func43 rfl h43 ?_ hro
  simp only [Try.ntmps43, List.size_toArray, List.length_cons, List.length_nil, Nat.reduceAdd, Nat.reduceSub, Array.replicate_succ, Array.replicate_zero, List.push_toArray, List.append_toArray, List.nil_append, List.cons_append]
  gi_wp2
  gi_loopw [10] (fun i wr => ∃ (k : Nat) (pre : List (Int × Int)) (o' m' : Int), k ≤ cs.length ∧ i = .int .i64 k ∧ (0 ≤ o' ∧ o' ≤ 1099511627776) ∧ (0 ≤ m' ∧ m' ≤ 1099511627776) ∧ Hid (slicedL cs off m = pre ++ slicedL (cs.drop k) o' m' ∧ J pre wr ∧ Boxed wr bn 2 (.int .i64 m') ∧ Boxed wr bo 2 (.int .i64 o') ∧ Pairs wr A cs ∧ W.heap.size ≤ wr.heap.size))
    (fun i _ => cs.length - (intOf i).toNat)
  case atStart => exact ⟨0, [], off, m, by omega, rfl, hoff, hm, Lib.hid ⟨rfl, h0, hbnW, hboW, HPW.out, Nat.le_refl _⟩⟩
  case round =>
    obtain ⟨k, pre, o', m', hk, rfl, ⟨ho0, ho1⟩, ⟨hm0, hm1⟩, HI⟩ := hrel
    by_cases hlt : k < cs.length
    · have hcn := HI.out.2.2.1.cell
      have hco := HI.out.2.2.2.1.cell
      have hfo := HI.out.2.2.2.1.frozen
      have hfn := HI.out.2.2.1.frozen
      obtain ⟨ad, rfl, hx, hy⟩ := HI.out.2.2.2.2.1 k hlt
      have hv := okP_get HOK.out k hlt
      obtain ⟨x, hxe⟩ : ∃ x, x = (cs.getD k (0, 0)).1 := ⟨_, rfl⟩
      obtain ⟨y, hye⟩ : ∃ y, y = (cs.getD k (0, 0)).2 := ⟨_, rfl⟩
      rw [← hxe, ← hye] at hv
      rw [← hxe] at hx
      rw [← hye] at hy
      obtain ⟨⟨hx0, hx1⟩, hy0, hy1⟩ := hv
      have HD : Hid (cs.drop k = (x, y) :: cs.drop (k + 1)) := Lib.hid (by rw [drop_cons hlt, hxe, hye])
      clear hxe hye
      have b1n := HI.out.2.2.1.alloc (.cells #[.int .i64 x, .int .i64 y] 44)
      have b1o := HI.out.2.2.2.1.alloc (.cells #[.int .i64 x, .int .i64 y] 44)
      have hcn := b1n.cell
      have hco := b1o.cell
      have hfn := b1n.frozen
      have hfo := b1o.frozen
      have HB1 := Lib.hid (And.intro b1n b1o)
      clear b1n b1o
      by_cases hm2 : m' ≤ 0
      · gi_wp2
        refine bodyPost_ret (results_none rfl _ _ _) rfl ?_
        exact ⟨⟨_, rfl⟩, .inl ⟨pre, by rw [HI.out.1, HD.out]; simp [slicedL, hm2], HJ.out _ _ _ HI.out.2.1 ((But.refl _ _).alloc _)⟩⟩
      · by_cases hoy : y ≤ o'
        · gi_wp2
          go_roundw
          case rel => exact ⟨k + 1, pre, o' - y, m', by omega, by go_num, ⟨by omega, by omega⟩, ⟨hm0, hm1⟩, Lib.hid ⟨by rw [HI.out.1, HD.out]; simp only [slicedL]; rw [if_neg hm2, if_pos hoy], HJ.out _ _ _ HI.out.2.1 (((But.refl _ _).alloc _).setCell (by simp) _), HB1.out.1.other n3 _, HB1.out.2.set _, HI.out.2.2.2.2.1.kept (fun ad' e => by cases e; exact keep1 ⟨(hA _ rfl).1, (hA _ rfl).2.1, by have := (hA _ rfl).2.2; have := hbw.size; have := HI.out.2.2.2.2.2; omega⟩), by have := HI.out.2.2.2.2.2; simp [World.setCell]; omega⟩⟩
          case measure => simp [intOf]; omega
        · have hbol : (⟨wr.heap.size + 1, 0, none⟩ : Addr).block ≠ bo := by have := HI.out.2.2.2.1.lt; simp; omega
          have hbnl : (⟨wr.heap.size + 1, 0, none⟩ : Addr).block ≠ bn := by have := HI.out.2.2.1.lt; simp; omega
          rcases (by omega : y - o' ≤ m' ∨ m' < y - o') with hmin | hmin
          · have b2n := HB1.out.1.alloc (.cells #[.int .i64 (x + o'), .int .i64 (y - o')] 44)
            have b2o := HB1.out.2.alloc (.cells #[.int .i64 (x + o'), .int .i64 (y - o')] 44)
            have hcn2 := b2n.cell
            have hco2 := b2o.cell
            have hfn2 := b2n.frozen
            have hfo2 := b2o.frozen
            have HB2 := Lib.hid (And.intro b2n b2o)
            clear b2n b2o
            have hq0 := cell_set2 (a := .int .i64 0) (b := .int .i64 (m' - (y - o'))) (cell_two wr (.cells #[.int .i64 x, .int .i64 y] 44) (.int .i64 (x + o')) (.int .i64 (y - o')) 44).1 hbol hbnl
            have hq1 := cell_set2 (a := .int .i64 0) (b := .int .i64 (m' - (y - o'))) (cell_two wr (.cells #[.int .i64 x, .int .i64 y] 44) (.int .i64 (x + o')) (.int .i64 (y - o')) 44).2 hbol hbnl
            have HV : Hid (slicedL cs off m = (pre ++ [(x + o', (y - o'))]) ++ slicedL (cs.drop (k + 1)) 0 (m' - (y - o'))) := Lib.hid (by
              rw [HI.out.1, HD.out]; simp only [slicedL]; rw [if_neg hm2, if_neg hoy, show min (y - o') m' = (y - o') by omega]; simp)
            gi_wp2_with (((with_reducible change wpListIn _ _ _ _ _ (⟨_, .call { callee := .value (.tmp 39), args := _, argTypes := _ }, _, _, _, _⟩ :: _) _ _)); refine wpListIn_yield rfl (.tmp 39) (.tmp 40) #[44] rfl l rfl hd (HY.out pre (x + o', (y - o')) _ (HJ.out _ _ _ HI.out.2.1 (((((But.refl _ _).alloc _).alloc _).setCell (by simp) _).setCell (by simp) _)) (by rw [HV.out]; exact List.prefix_append _ _)) ?_; rintro e w9 (⟨rfl, hJ2, hk2⟩ | ⟨rfl, hJx⟩) <;> refine ⟨_, rfl, ?_⟩)
            · go_roundw
              case rel =>
                refine ⟨k + 1, pre ++ [(x + o', (y - o'))], 0, m' - (y - o'), by omega, by go_num, ⟨by omega, by omega⟩, ⟨by omega, by omega⟩, Lib.hid ⟨HV.out, hJ2, hk2.2.2.1.trans ((HB2.out.1.other n3 _).set _), hk2.2.2.2.1.trans ((HB2.out.2.set _).other (Ne.symm n3) _), HI.out.2.2.2.2.1.kept (fun ad' e => ?_), ?_⟩⟩
                · cases e
                  exact (hk2.2.2.2.2 _ rfl).trans (keep2 ⟨(hA _ rfl).1, (hA _ rfl).2.1, by have := (hA _ rfl).2.2; have := hbw.size; have := HI.out.2.2.2.2.2; omega⟩)
                · have h1 := hk2.1
                  have h2 := HI.out.2.2.2.2.2
                  simp [World.setCell] at h1
                  omega
              case measure => simp [intOf]; omega
            · refine bodyPost_ret (results_none rfl _ _ _) rfl ?_
              exact ⟨⟨_, rfl⟩, .inr ⟨pre ++ [(x + o', (y - o'))], by rw [HV.out]; exact List.prefix_append _ _, hJx⟩⟩
          · have b2n := HB1.out.1.alloc (.cells #[.int .i64 (x + o'), .int .i64 m'] 44)
            have b2o := HB1.out.2.alloc (.cells #[.int .i64 (x + o'), .int .i64 m'] 44)
            have hcn2 := b2n.cell
            have hco2 := b2o.cell
            have hfn2 := b2n.frozen
            have hfo2 := b2o.frozen
            have HB2 := Lib.hid (And.intro b2n b2o)
            clear b2n b2o
            have hq0 := cell_set2 (a := .int .i64 0) (b := .int .i64 0) (cell_two wr (.cells #[.int .i64 x, .int .i64 y] 44) (.int .i64 (x + o')) (.int .i64 m') 44).1 hbol hbnl
            have hq1 := cell_set2 (a := .int .i64 0) (b := .int .i64 0) (cell_two wr (.cells #[.int .i64 x, .int .i64 y] 44) (.int .i64 (x + o')) (.int .i64 m') 44).2 hbol hbnl
            have HV : Hid (slicedL cs off m = (pre ++ [(x + o', m')]) ++ slicedL (cs.drop (k + 1)) 0 0) := Lib.hid (by
              rw [HI.out.1, HD.out]; simp only [slicedL]; rw [if_neg hm2, if_neg hoy, show min (y - o') m' = m' by omega]; simp)
            gi_wp2_with (((with_reducible change wpListIn _ _ _ _ _ (⟨_, .call { callee := .value (.tmp 39), args := _, argTypes := _ }, _, _, _, _⟩ :: _) _ _)); refine wpListIn_yield rfl (.tmp 39) (.tmp 40) #[44] rfl l rfl hd (HY.out pre (x + o', m') _ (HJ.out _ _ _ HI.out.2.1 (((((But.refl _ _).alloc _).alloc _).setCell (by simp) _).setCell (by simp) _)) (by rw [HV.out]; exact List.prefix_append _ _)) ?_; rintro e w9 (⟨rfl, hJ2, hk2⟩ | ⟨rfl, hJx⟩) <;> refine ⟨_, rfl, ?_⟩)
            · go_roundw
              case rel =>
                refine ⟨k + 1, pre ++ [(x + o', m')], 0, 0, by omega, by go_num, ⟨by omega, by omega⟩, ⟨by omega, by omega⟩, Lib.hid ⟨HV.out, hJ2, hk2.2.2.1.trans ((HB2.out.1.other n3 _).set _), hk2.2.2.2.1.trans ((HB2.out.2.set _).other (Ne.symm n3) _), HI.out.2.2.2.2.1.kept (fun ad' e => ?_), ?_⟩⟩
                · cases e
                  exact (hk2.2.2.2.2 _ rfl).trans (keep2 ⟨(hA _ rfl).1, (hA _ rfl).2.1, by have := (hA _ rfl).2.2; have := hbw.size; have := HI.out.2.2.2.2.2; omega⟩)
                · have h1 := hk2.1
                  have h2 := HI.out.2.2.2.2.2
                  simp [World.setCell] at h1
                  omega
              case measure => simp [intOf]; omega
            · refine bodyPost_ret (results_none rfl _ _ _) rfl ?_
              exact ⟨⟨_, rfl⟩, .inr ⟨pre ++ [(x + o', m')], by rw [HV.out]; exact List.prefix_append _ _, hJx⟩⟩
    · obtain rfl : k = cs.length := by omega
      gi_wp2
      go_end0
      exact ⟨⟨_, rfl⟩, .inl ⟨pre, by rw [HI.out.1, List.drop_length]; simp [slicedL], HI.out.2.1⟩⟩
end Go.Proofs.Ytbojagkalbfenaa
