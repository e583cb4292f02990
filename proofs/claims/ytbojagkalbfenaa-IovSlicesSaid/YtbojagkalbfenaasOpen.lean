/- How arguments that came in are read: memories (slices of bytes), lists of parts, and pairs of numbers. -/
import Derived.Test.YtbojagkalbfenaasZ1
import Derived.Test.YtbojagkalbfenaasK1
import Derived.Test.YtbojagkalbfenaasG8
import Derived.Deep.Strs
import Derived.OpenShut
import Derived.WideShapes
import Derived.SizedLaws
import Derived.Deep.Slices
namespace Go.Proofs.Ytbojagkalbfenaa
set_option linter.unusedVariables false
set_option linter.unusedSimpArgs false
open Go.RowKit PIovSlices Go.Proofs.YtbojagkalbfenaaW.PrintWords
attribute [local go_sem] ints_get ints_size ints_getElem

theorem pcs_get (l : List (Int × Int)) (i : Nat) (h : i < l.length) : (pcs l)[i * 2]? = some (.int .i64 (l.getD i (0, 0)).1) ∧ (pcs l)[i * 2 + 1]? = some (.int .i64 (l.getD i (0, 0)).2) := by
  induction l generalizing i with
  | nil => simp at h
  | cons p l ih =>
    cases i with
    | zero => simp [pcs]
    | succ i =>
      have := ih i (by simpa using h)
      simp only [pcs, List.flatMap_cons] at this ⊢
      rw [show (i + 1) * 2 = (i * 2) + 2 by omega, show (i * 2) + 2 + 1 = (i * 2 + 1) + 2 by omega]
      simpa using this
theorem C_of_pairs {w : World} {A : Option Addr} {l : List S44} (hl : l.length ≤ 9223372036854775807) (h : Pairs w A (prs l)) : Kd.C k44 w A l.length l := by
  refine ⟨rfl, hl, fun hp => ?_⟩
  obtain ⟨ad, e, _⟩ := h 0 (by rw [prs_length]; exact hp)
  refine ⟨ad, e, fun j p hj => ⟨[.int .i64 p.f0, .int .i64 p.f1], rfl, k44_mk w p, fun i u hu => ?_⟩⟩
  have hjl := (List.getElem?_eq_some_iff.1 hj).1
  obtain ⟨ad2, e2, h1, h2⟩ := h j (by rw [prs_length]; exact hjl)
  rw [e] at e2
  cases e2
  have hg : (prs l).getD j (0, 0) = (p.f0, p.f1) := by simp [prs, List.getD_eq_getElem?_getD, hj]
  rw [hg] at h1 h2
  show w.cell? (ad.add (j * 2 + i)) = some u
  match i, hu with
  | 0, hu => cases hu; exact h1
  | 1, hu =>
    cases hu
    rw [show ad.add (j * 2 + 1) = ⟨(ad.add (j * 2)).block, (ad.add (j * 2)).off + 1, none⟩ by rw [← add_plus]; unfold Addr.add; simp]
    exact h2
  | i + 2, hu => simp at hu
theorem C_own44 {w : World} {base : Nat} {v : Value} {xs : List (Int × Int)} (h : w.ownsRow base 44 2 v xs.length (pcs xs)) : ∃ (A : Option Addr) (c : Nat) (l : List S44), v = .slice A l.length c ∧ l.length ≤ c ∧ Kd.C k44 w A l.length l ∧ prs l = xs := by
  have hp : prs (xs.map fun p => (⟨p.1, p.2⟩ : S44)) = xs := by simp [prs, Function.comp_def]
  rcases h.2 with ⟨rfl, h0⟩ | ⟨g, cap, cur, rfl, _, _, hc, hm, _⟩
  · have : xs = [] := List.length_eq_zero_iff.1 h0
    subst this
    exact ⟨none, 0, [], rfl, by simp, ⟨rfl, by simp, fun hp => by simp at hp⟩, rfl⟩
  · refine ⟨some ⟨g, 0, none⟩, cap, xs.map fun p => (⟨p.1, p.2⟩ : S44), by simp, by simpa using hc, C_of_pairs (by simp only [maxLen] at hm; simp; omega) ?_, hp⟩
    rw [hp]
    intro i hi
    obtain ⟨h1, h2⟩ := pcs_get xs i hi
    have c1 := h.cells (g := g) rfl _ _ h1
    have c2 := h.cells (g := g) rfl _ _ h2
    refine ⟨_, rfl, c1, ?_⟩
    rw [add_at] at c1 c2 ⊢
    rw [show 0 + (i * 2 + 1) = 0 + i * 2 + 1 by omega] at c2
    exact c2

theorem equalP_l0 (a b : List S44) (hl : a.length = b.length) (hb : a.length ≤ 1000000) : ∀ (c k i : Nat), i + c = a.length → c < k → api_Part_24.l0 k a b a.length i = some (decide (prs (a.drop i) = prs (b.drop i)))
  | 0, k + 1, i, hi, _ => by
    simp only [api_Part_24.l0, show ¬ ((i : Int) < (a.length : Int)) by omega, if_false]
    rw [List.drop_eq_nil_of_le (by omega), List.drop_eq_nil_of_le (by omega)]
    simp
  | c + 1, k + 1, i, hi, hk => by
    have ih := equalP_l0 a b hl hb c k (i + 1) (by omega) (by omega)
    rw [show ((i + 1 : Nat) : Int) = (i : Int) + 1 by omega] at ih
    simp only [api_Part_24.l0, show (i : Int) < (a.length : Int) by omega, show (i : Int) < (b.length : Int) by omega, show (0 : Int) ≤ (i : Int) by omega, if_true]
    have hda := rd_prs a i (by omega)
    have hdb := rd_prs b i (by omega)
    rw [w64 (x := (i : Int) + 1) (by omega) (by omega), ih]
    have e1 : prs (a.drop i) = ((rd_T44 a i).f0, (rd_T44 a i).f1) :: prs (a.drop (i + 1)) := by simpa [prs, List.map_drop] using hda
    have e2 : prs (b.drop i) = ((rd_T44 b i).f0, (rd_T44 b i).f1) :: prs (b.drop (i + 1)) := by simpa [prs, List.map_drop] using hdb
    rw [e1, e2]
    by_cases h0 : (rd_T44 a i).f0 = (rd_T44 b i).f0 <;> by_cases h1 : (rd_T44 a i).f1 = (rd_T44 b i).f1 <;> simp [h0, h1]
theorem equalP_f (a b : List S44) (hb : a.length ≤ 1000000) {k : Nat} (hk : 1000002 ≤ k) : api_Part_24.f k a b = some (decide (prs a = prs b)) := by
  unfold api_Part_24.f
  by_cases h : a.length = b.length
  · rw [if_pos (by omega)]
    have := equalP_l0 a b h hb a.length k 0 (by omega) (by omega)
    simpa using this
  · rw [if_neg (by omega), decide_eq_false]
    intro he
    have := congrArg List.length he
    rw [prs_length, prs_length] at this
    exact h this
/-- slices.Equal of two lists of the same parts. -/
theorem equalP_same {W : World} {A B : Option Addr} {ca cb : Nat} {l1 l2 : List S44} (ha : Kd.C k44 W A l1.length l1) (hb : Kd.C k44 W B l2.length l2) (hca : l1.length ≤ ca) (hcb : l2.length ≤ cb) (hl : l1.length ≤ 1000000) (he : prs l1 = prs l2) :
    Calls Try.prog 24 #[.slice A l1.length ca, .slice B l2.length cb] W fun e w' => e = .returned (.bool true) ∧ Below W.heap.size W w' := by
  refine (api_Part_24.calls 1000002 A ca l1 B cb l2 true W ha hca hb hcb (by rw [equalP_f l1 l2 hl (by omega), he]; simp)).mono ?_
  rintro e w' ⟨rfl, hd⟩
  exact ⟨rfl, hd.below⟩
theorem fold_all {l : List (Int × Int)} (h : l.any farB = false) (hok : okP l) : ∀ p ∈ l, p.1 + p.2 ≤ 1099511627776 := by
  intro p hp
  have h1 : farB p = false := by
    cases hf : farB p with
    | false => rfl
    | true => rw [List.any_eq_true.2 ⟨p, hp, hf⟩] at h; cases h
  have h2 := hok p hp
  simp only [farB, decide_eq_false_iff_not] at h1
  rw [IntKind.wrap_i64] at h1
  omega
theorem joinL_all {xs : List (Int × Int)} (h : ∀ p ∈ xs, 1 ≤ p.2) : ∀ p ∈ joinL xs, 1 ≤ p.2 := by
  have key : ∀ (xs out : List (Int × Int)), (∀ p ∈ xs, 1 ≤ p.2) → (∀ p ∈ out, 1 ≤ p.2) → ∀ p ∈ xs.foldl joinStep out, 1 ≤ p.2 := by
    intro xs
    induction xs with
    | nil => intro out _ ho p hp; exact ho p hp
    | cons x r ih =>
      intro out hx ho
      have h0 := hx x List.mem_cons_self
      refine ih _ (fun y hy => hx y (List.mem_cons_of_mem _ hy)) (fun y hy => ?_)
      rcases snoc_cases out with rfl | ⟨o, q, rfl⟩
      · rw [joinStep_nil, List.mem_singleton] at hy; rw [hy]; exact h0
      · have hq := ho q (by simp)
        rw [joinStep_snoc] at hy
        split at hy
        · rcases List.mem_append.1 hy with h | h
          · exact ho y (by simp [h])
          · rw [List.mem_singleton.1 h]; simp only; omega
        · rcases List.mem_append.1 hy with h | h
          · exact ho y h
          · rw [List.mem_singleton.1 h]; exact h0
  exact key xs [] h (by simp)
/-- A slice that takes all. -/
theorem sliced_whole : ∀ (l : List (Int × Int)) (m : Int), (∀ p ∈ l, 1 ≤ p.2) → sumL l ≤ m → slicedL l 0 m = l
  | [], m, _, _ => rfl
  | p :: r, m, h, hm => by
    have hp := h p List.mem_cons_self
    have hr : ∀ q ∈ r, 1 ≤ q.2 := fun q hq => h q (List.mem_cons_of_mem _ hq)
    have hs := sumL_nn (l := r) (fun q hq => by have := hr q hq; omega)
    simp only [sumL] at hm
    simp only [slicedL]
    rw [if_neg (by omega), if_neg (by omega), show min (p.2 - 0) m = p.2 by omega, sliced_whole r _ hr (by omega)]
    simp
theorem okB_of {l : List (Int × Int)} (h : okP l) : okB l = true := okB_iff.2 h
theorem chk_of {l : List (Int × Int)} (h : okP l) (h1 : l.length ≤ 16) (h2 : sumL l ≤ 4096) : chk l = 0 := by
  unfold chk
  rw [if_neg (by omega), if_pos (okB_of h), if_neg (by omega)]
theorem mem_sum : ∀ {l : List (Int × Int)}, (∀ p ∈ l, 1 ≤ p.2) → ∀ q ∈ l, q.2 ≤ sumL l
  | p :: r, h, q, hq => by
    have hr : ∀ y ∈ r, 1 ≤ y.2 := fun y hy => h y (List.mem_cons_of_mem _ hy)
    have hs := sumL_nn (l := r) (fun y hy => by have := hr y hy; omega)
    have hp := h p List.mem_cons_self
    simp only [sumL]
    rcases List.mem_cons.1 hq with rfl | hq
    · omega
    · have := mem_sum hr q hq; omega
/-- What the law's slices are, in plain words. -/
theorem slices_plain {l : List (Int × Int)} (hfar : l.any farB = false) {a b c d : Int} (h1 : wth l a b = 0) (h2 : wth (slicedL l a b) c d = 0) :
    (0 ≤ a ∧ 0 ≤ c ∧ a + c ≤ 4096) ∧ wth l (a + c) d = 0 ∧ slicedL (slicedL l a b) c d = slicedL l (a + c) d ∧ chk (slicedL (slicedL l a b) c d) = 0 ∧ sumL (slicedL (slicedL l a b) c d) = d ∧
      chk (joinL (slicedL (slicedL l a b) c d)) = 0 ∧ sumL (joinL (slicedL (slicedL l a b) c d)) = d ∧ (∀ p ∈ slicedL (slicedL l a b) c d, 1 ≤ p.2 ∧ 0 ≤ p.1) := by
  obtain ⟨ok, len, s0, s1, a0, b0, ab⟩ := wth_zero h1
  obtain ⟨ok2, len2, t0, t1, c0, d0, cd⟩ := wth_zero h2
  have hn : ∀ p ∈ l, 0 ≤ p.2 := fun p hp => (ok p hp).2.1
  have hend := fold_all hfar ok
  rw [sum_sliced l a b hn a0 b0 ab] at cd t1
  have e := sliced_sliced l a b c d hn a0 c0 (by omega)
  rw [show min d (b - c) = d by omega] at e
  obtain ⟨k1, k2, k3⟩ := sliced_ok ok hend (a + c) d (by omega)
  have hsum := sum_sliced l (a + c) d hn (by omega) d0 (by omega)
  have hlen := slicedL_length l (a + c) d
  have hjl := joinL_length (slicedL l (a + c) d)
  have hjs : sumL (joinL (slicedL l (a + c) d)) = d := by
    have := sumL_join (slicedL l (a + c) d) []
    rw [hsum] at this
    simpa [joinL, sumL] using this
  have hj1 := joinL_all k3
  have hjok : okP (joinL (slicedL l (a + c) d)) := fun q hq => by
    have g1 := joinL_bound (M := 1099511627776) (fun y hy => ⟨⟨(k1 y hy).1.1, by have := k2 y hy; have := k3 y hy; omega⟩, (k1 y hy).2⟩) q hq
    refine ⟨g1.1, g1.2.1, ?_⟩
    have := mem_sum hj1 q hq
    omega
  refine ⟨⟨a0, c0, by omega⟩, ?_, e, ?_, ?_, ?_, ?_, ?_⟩
  · unfold wth
    rw [chk_of ok len s1, if_pos rfl, if_neg (by omega)]
  · rw [e]; exact chk_of k1 (by omega) (by omega)
  · rw [e]; exact hsum
  · rw [e]; exact chk_of hjok (by omega) (by omega)
  · rw [e]; exact hjs
  · rw [e]; exact fun p hp => ⟨k3 p hp, (k1 p hp).1.1⟩
end Go.Proofs.Ytbojagkalbfenaa
namespace Go.Proofs.Ytbojagkalbfenaa
set_option linter.unusedVariables false
set_option linter.unusedSimpArgs false
open Go.RowKit PIovSlices Go.Proofs.YtbojagkalbfenaaW.PrintWords
attribute [local go_sem] ints_get ints_size ints_getElem

theorem pairs_kept {w w1 : World} {A : Option Addr} {l : List (Int × Int)} (h : Pairs w A l) (hb : ∀ k, k < w.heap.size → w1.heap[k]? = w.heap[k]?) : Pairs w1 A l := by
  intro i hi
  obtain ⟨ad, e, h1, h2⟩ := h i hi
  exact ⟨ad, e, (World.cell?_of_block (w := w) (hb _ (World.block_lt_of_cell? _ _ h1))).trans h1, (World.cell?_of_block (w := w) (hb _ (World.block_lt_of_cell? _ _ h2))).trans h2⟩
theorem V_of_pairs {w : World} {b : Nat} {A : Option Addr} {l : List S44} {c : Nat} (hc : l.length ≤ c) (hl : l.length ≤ 9223372036854775807) (h : Pairs w A (prs l)) : Kd.V k44 44 w b (fun k => k < w.heap.size) (.slice A l.length c) l := by
  refine Kd.V_mk hc (fun W' hW' => C_of_pairs hl (pairs_kept h ?_))
  intro i hi
  exact hW' i hi hi

/-- A list of parts of the call's own, as the next call takes it. -/
def Own44 (w : World) (A : Option Addr) (c : Nat) (l : List S44) : Prop := Kd.V k44 44 w w.heap.size (fun k => k < w.heap.size) (.slice A l.length c) l ∧ (∀ ad, A = some ad → ad.block < w.heap.size) ∧ Kd.C k44 w A l.length l ∧ l.length ≤ c
theorem Own44.below {w w1 : World} {A : Option Addr} {c : Nat} {l : List S44} (h : Own44 w A c l) (hb : Below w.heap.size w w1) : Own44 w1 A c l :=
  ⟨Kd.V_map (Kd.V_mono (Kd.V_below h.1 hb) (fun k hk => Nat.lt_of_lt_of_le hk hb.size)) (fun _ h => h), fun ad e => Nat.lt_of_lt_of_le (h.2.1 ad e) hb.size, Kd.C_below h.2.2.1 hb, h.2.2.2⟩
theorem own44_of {w : World} {base : Nat} {v : Value} {xs : List (Int × Int)} (h : w.ownsRow base 44 2 v xs.length (pcs xs)) : ∃ (A : Option Addr) (c : Nat) (l : List S44), v = .slice A l.length c ∧ Own44 w A c l ∧ prs l = xs := by
  obtain ⟨A, c, l, rfl, hc, hC, hp⟩ := C_own44 h
  have hl : l.length = xs.length := by rw [← hp, prs_length]
  refine ⟨A, c, l, rfl, ⟨V_of_pairs hc hC.2.1 (pairs_of_C hC), fun ad e => ?_, hC, hc⟩, hp⟩
  subst e
  rcases h.2 with ⟨he, _⟩ | ⟨g, cap, cur, he, _, hh, _⟩
  · cases he
  · injection he with h1 _ _
    injection h1 with h1
    subst h1
    exact (Array.getElem?_eq_some_iff.1 hh).1
theorem length_f (l : List S44) (h : chk (prs l) = 0) {k : Nat} (hk : 60 ≤ k) : iov_Length.f k l = some (sumL (prs l), 0) := by
  rw [iov_Length.f, check_f l hk, Option.bind_some, if_pos h]
  obtain ⟨h1, h2, _, _⟩ := chk_zero h
  rw [prs_length] at h2
  rw [total_f h1 h2 (by omega)]; rfl
theorem slice_ok {A : Option Addr} {c : Nat} {l : List S44} {off n : Int} {w : World} (h : Own44 w A c l) (hw : wth (prs l) off n = 0) :
    Calls Try.prog 20 #[.slice A l.length c, .int .i64 off, .int .i64 n] w fun e w' => ∃ B cb lb, e = .returned (.tuple #[.slice B lb.length cb, .int .i64 0]) ∧ Own44 w' B cb lb ∧ prs lb = slicedL (prs l) off n ∧ Below w.heap.size w w' := by
  refine (sliceF A c l off n _ w h.1 h.2.1).mono ?_
  rintro e w' ⟨v, rfl, ho, hd⟩
  rw [hw]
  rw [show sres l off n = slicedL (prs l) off n from if_pos hw] at ho
  obtain ⟨B, cb, lb, rfl, h1, h2⟩ := own44_of ho
  exact ⟨B, cb, lb, rfl, h1, h2, hd⟩
theorem slice_bad {A : Option Addr} {c : Nat} {l : List S44} {off n : Int} {w : World} (h : Own44 w A c l) (hw : wth (prs l) off n ≠ 0) :
    Calls Try.prog 20 #[.slice A l.length c, .int .i64 off, .int .i64 n] w fun e w' => ∃ v, e = .returned (.tuple #[v, .int .i64 (wth (prs l) off n)]) ∧ Below w.heap.size w w' :=
  (sliceF A c l off n _ w h.1 h.2.1).mono (by rintro e w' ⟨v, rfl, _, hd⟩; exact ⟨v, rfl, hd⟩)
/-- Bytes stay bytes. -/
def Bs (l : List Value) : Prop := ∀ u ∈ l, ∃ p, u = Value.int .u8 p
theorem Bs_byts (l : List Int) : Bs (byts l) := fun u hu => by
  obtain ⟨p, _, rfl⟩ := List.mem_map.1 hu
  exact ⟨p, rfl⟩
theorem Bs_list : ∀ {l : List Value}, Bs l → ∃ x : List Int, l = byts x
  | [], _ => ⟨[], rfl⟩
  | u :: r, h => by
    obtain ⟨p, rfl⟩ := h u List.mem_cons_self
    obtain ⟨x, rfl⟩ := Bs_list (l := r) (fun v hv => h v (List.mem_cons_of_mem _ hv))
    exact ⟨p :: x, rfl⟩
theorem Bs_gather (ms : List Int) (xs : List (Int × Int)) : Bs (gatherL (byts ms) xs) := fun u hu => by
  obtain ⟨x, _, hy⟩ := List.mem_flatMap.1 hu
  exact Bs_byts ms u (List.mem_of_mem_drop (List.mem_of_mem_take hy))
/-- Gather of all bytes of a good list. -/
theorem gather_all {M A : Option Addr} {ms : List Int} {mc c : Nat} {l : List S44} {d : Int} {w : World} (hC : Kd.C (Kd.int .u8) w M ms.length ms) (hmc : ms.length ≤ mc) (hmx : mc ≤ 9223372036854775807) (h : Own44 w A c l) (hk : chk (prs l) = 0) (hs : sumL (prs l) = d) (h1 : ∀ p ∈ prs l, 1 ≤ p.2) :
    Calls Try.prog 12 #[.slice M ms.length mc, .slice A l.length c, .int .i64 0, .int .i64 d] w fun e w' => ∃ B cb lb, e = .returned (.tuple #[.slice B lb.length cb, .int .i64 (if insideB ms.length (prs l) = true then 0 else 11)]) ∧ lb.length ≤ cb ∧ Kd.C (Kd.int .u8) w' B lb.length lb ∧
      byts lb = (if insideB ms.length (prs l) = true then gatherL (byts ms) (prs l) else []) ∧ Below w.heap.size w w' := by
  have hn := sumL_nn (l := prs l) (fun p hp => by have := h1 p hp; omega)
  have hw : wth (prs l) 0 d = 0 := by unfold wth; rw [if_pos hk, if_neg (by omega)]
  have hsl : slicedL (prs l) 0 d = prs l := sliced_whole _ _ h1 (by omega)
  have hb : (byts ms).length = ms.length := by simp [byts]
  have := gatherF M (byts ms) mc A c l 0 d _ w (mem_of_C hC) h.1 h.2.1 (by rw [hb]; exact hmc) hmx
  rw [hb] at this
  have hg : gcode ms.length (prs l) 0 d = if insideB ms.length (prs l) = true then 0 else 11 := by unfold gcode; rw [if_pos hw, hsl]
  have hr : gres (byts ms) (prs l) 0 d = if insideB ms.length (prs l) = true then gatherL (byts ms) (prs l) else [] := by
    unfold gres
    rw [hb, hg, hsl]
    by_cases hi : insideB ms.length (prs l) = true <;> simp [hi]
  rw [hg, hr] at this
  have hbs : Bs (if insideB ms.length (prs l) = true then gatherL (byts ms) (prs l) else []) := by
    split
    · exact Bs_gather _ _
    · intro u hu; cases hu
  obtain ⟨x, hx⟩ := Bs_list hbs
  rw [hx] at this ⊢
  refine this.mono ?_
  rintro e w' ⟨v, rfl, ho, hd⟩
  rw [show (byts x).length = x.length by simp [byts]] at ho
  obtain ⟨B, cb, rfl, hcb, hCx⟩ := C_of_own ho
  exact ⟨B, cb, x, rfl, hcb, hCx, rfl, hd⟩
end Go.Proofs.Ytbojagkalbfenaa
namespace Go.Proofs.Ytbojagkalbfenaa
set_option linter.unusedVariables false
set_option linter.unusedSimpArgs false
open Go.RowKit PIovSlices Go.Proofs.YtbojagkalbfenaaW.PrintWords
attribute [local go_sem] ints_get ints_size ints_getElem

theorem arr4 {w : World} {g : Nat} {x y z u : Value} {t : TypeId} {fr : Nat × Nat} (h : w.heap[g]? = some (.cells #[x, y, z, u] t fr)) : w.cell? ⟨g, 0, none⟩ = some x ∧ w.cell? ⟨g, 1, none⟩ = some y ∧ w.cell? ⟨g, 2, none⟩ = some z ∧ w.cell? ⟨g, 3, none⟩ = some u := by
  refine ⟨?_, ?_, ?_, ?_⟩ <;> (rw [cell_of_row _ _ _ _ _ _ h]; rfl)
theorem jres_of (l6 : List S44) {xs : List (Int × Int)} (h : prs l6 = xs) (hk : chk xs = 0) (h1 : ∀ p ∈ xs, 1 ≤ p.2) : jres l6 = joinL xs := by
  subst h
  unfold jres
  rw [if_pos hk, sliced_whole _ _ h1 (Int.le_refl _)]
theorem byts_inj {a b : List Int} (h : byts a = byts b) : a = b := by
  induction a generalizing b with
  | nil => cases b with
    | nil => rfl
    | cons y b => simp [byts] at h
  | cons x a ih => cases b with
    | nil => simp [byts] at h
    | cons y b =>
      simp only [byts, List.map_cons, List.cons.injEq, Value.int.injEq, true_and] at h
      rw [h.1, ih h.2]
theorem equal_bytes {W : World} {A B : Option Addr} {ca cb : Nat} {x y : List Int} (ha : Kd.C (Kd.int .u8) W A x.length x) (hb : Kd.C (Kd.int .u8) W B y.length y) (hca : x.length ≤ ca) (hcb : y.length ≤ cb) (he : x = y) (hl : x.length ≤ 1000000) :
    Calls Try.prog 14 #[.slice A x.length ca, .slice B y.length cb] W fun e w' => e = .returned (.bool true) ∧ Below W.heap.size W w' := by
  subst he
  refine (slices_Equal_byte_byte.calls 1000002 A ca x B cb x true W ha hca hb hcb (by rw [equal_f x x hl (by omega)]; simp)).mono ?_
  rintro e w' ⟨rfl, hd⟩
  exact ⟨rfl, hd.below⟩
theorem gather_len {ms : List Int} {xs : List (Int × Int)} (x : List Int) (h : byts x = (if insideB ms.length xs = true then gatherL (byts ms) xs else [])) (hl : xs.length ≤ 16) (hk : chk xs = 0) : x.length ≤ 65536 := by
  have h0 : (byts x).length = x.length := by simp [byts]
  obtain ⟨ok, _⟩ := chk_zero hk
  have h1 := gatherL_bound (ds := byts ms) (xs := xs) (fun y hy => (ok y hy).2.2)
  rw [← h0, h]
  split
  · omega
  · simp

set_option maxHeartbeats 4000000 in
set_option maxRecDepth 100000 in
theorem slices_law (M A : Option Addr) (ms : List Int) (l : List S44) (mc ac : Nat) (a b c d : Int) (w : World) (hC : Kd.C (Kd.int .u8) w M ms.length ms) (hmc : ms.length ≤ mc) (hmx : mc ≤ 9223372036854775807) (hO : Own44 w A ac l) (hlz : l.length ≤ 8796093022208) :
    Calls Try.prog 9 #[.slice M ms.length mc, .slice A l.length ac, .agg #[.int .i64 a, .int .i64 b, .int .i64 c, .int .i64 d]] w fun e w' => e = .returned (.bool true) ∧ Below w.heap.size w w' := by
  have hac := hO.2.2.2
  have HC := Lib.hid hC
  have HO := Lib.hid hO
  clear hC hO
  go_enter Try.func9, Try.ntmps9
  have HB := Lib.hid (((Below.refl w.heap.size w).alloc (Nat.le_refl _) (.cells #[.int .i64 a, .int .i64 b, .int .i64 c, .int .i64 d] 61)).alloc (by simp) (.cells #[.slice M ms.length mc] 22))
  have HX : Hid (((w.alloc (.cells #[.int .i64 a, .int .i64 b, .int .i64 c, .int .i64 d] 61)).alloc (.cells #[.slice M ms.length mc] 22)).heap[w.heap.size]? = some (.cells #[.int .i64 a, .int .i64 b, .int .i64 c, .int .i64 d] 61 (0, 0))) := Lib.hid (by rw [Below.heap_alloc _ _ _ (by simp)]; exact heap_alloc_new w _)
  have HS : Hid (((w.alloc (.cells #[.int .i64 a, .int .i64 b, .int .i64 c, .int .i64 d] 61)).alloc (.cells #[.slice M ms.length mc] 22)).heap[w.heap.size + 1]? = some (.cells #[.slice M ms.length mc] 22 (0, 0))) := Lib.hid (by have := heap_alloc_new (w.alloc (.cells #[.int .i64 a, .int .i64 b, .int .i64 c, .int .i64 d] 61)) (.cells #[.slice M ms.length mc] 22); simpa using this)
  obtain ⟨hx0, hx1, hx2, hx3⟩ := arr4 HX.out
  cases hsm : smallB l.length ms.length with
  | false =>
    go_wp2_with (first
      | (go_at_call 10; refine (orpimentlaw09_small.calls 3 A ac l (some ⟨w.heap.size + 1, 0, none⟩) 1 [ms] false _ (Kd.C_below HO.out.2.2.1 HB.out) hac (C_one HS.out hmc (Kd.C_below HC.out HB.out)) (by simp) (by rw [small_f l ms (by omega), hsm])).mono ?_; rintro e w1 ⟨rfl, hd0⟩; have hd := hd0.below; replace HB := Lib.hid (below_then' HB.out hd); replace HX := Lib.hid (heap_kept HX.out hd); clear hx0 hx1 hx2 hx3; obtain ⟨hx0, hx1, hx2, hx3⟩ := arr4 HX.out; clear hd hd0)
      | (go_at_call 11; refine (awake_calls _).mono ?_; rintro e w9 ⟨rfl, hd⟩; replace HB := Lib.hid (below_then' HB.out hd); clear hd))
    go_ret
    exact ⟨rfl, HB.out⟩
  | true =>
    cases hfar : (prs l).any farB with
    | true =>
      have HFAR := Lib.hid hfar
      clear hfar
      go_wp2_with (first
        | (go_at_call 10; refine (orpimentlaw09_small.calls 3 A ac l (some ⟨w.heap.size + 1, 0, none⟩) 1 [ms] true _ (Kd.C_below HO.out.2.2.1 HB.out) hac (C_one HS.out hmc (Kd.C_below HC.out HB.out)) (by simp) (by rw [small_f l ms (by omega), hsm])).mono ?_; rintro e w1 ⟨rfl, hd0⟩; have hd := hd0.below; replace HB := Lib.hid (below_then' HB.out hd); replace HX := Lib.hid (heap_kept HX.out hd); clear hx0 hx1 hx2 hx3; obtain ⟨hx0, hx1, hx2, hx3⟩ := arr4 HX.out; clear hd hd0)
        | (go_at_call 31; refine (contains_calls A ac l _ (pairs_of_C (Kd.C_below HO.out.2.2.1 HB.out)) hlz).mono ?_; rw [HFAR.out]; rintro e w2 ⟨rfl, hd⟩; replace HB := Lib.hid (below_then' HB.out hd); replace HX := Lib.hid (heap_kept HX.out hd); clear hx0 hx1 hx2 hx3; obtain ⟨hx0, hx1, hx2, hx3⟩ := arr4 HX.out; clear hd)
        | (go_at_call 11; refine (awake_calls _).mono ?_; rintro e w9 ⟨rfl, hd⟩; replace HB := Lib.hid (below_then' HB.out hd); clear hd))
      go_ret
      exact ⟨rfl, HB.out⟩
    | false =>
      have HFAR := Lib.hid hfar
      clear hfar
      by_cases hw1 : wth (prs l) a b = 0
      · have HW1 := Lib.hid hw1
        by_cases hw2 : wth (slicedL (prs l) a b) c d = 0
        · have HW2 := Lib.hid hw2
          have hpl := slices_plain HFAR.out hw1 hw2
          have hac1 : IntKind.i64.wrap (a + c) = a + c := by rw [IntKind.wrap_i64]; omega
          have HPL := Lib.hid hpl
          have HL16 : Hid ((slicedL (slicedL (prs l) a b) c d).length ≤ 16) := by
            have h1 := (wth_zero hw1).2.1
            have h2 := slicedL_length (prs l) a b
            have h3 := slicedL_length (slicedL (prs l) a b) c d
            exact Lib.hid (by omega)
          have HJI : Hid (insideB ms.length (joinL (slicedL (slicedL (prs l) a b) c d)) = insideB ms.length (slicedL (slicedL (prs l) a b) c d) ∧ gatherL (byts ms) (joinL (slicedL (slicedL (prs l) a b) c d)) = gatherL (byts ms) (slicedL (slicedL (prs l) a b) c d)) := by
            have h8 := hpl.2.2.2.2.2.2.2
            have j1 := inside_join ms.length (slicedL (slicedL (prs l) a b) c d) [] (fun x hx => by have := (h8 x hx).1; omega)
            have j2 := gather_join (byts ms) (slicedL (slicedL (prs l) a b) c d) [] (fun x hx => ⟨(h8 x hx).2, by have := (h8 x hx).1; omega⟩) (by simp)
            exact Lib.hid ⟨by simpa [insideB, joinL] using j1, by simpa [gatherL, joinL] using j2⟩
          clear hw1 hw2 hpl
          go_wp2_with (first
            | (go_at_call 10; refine (orpimentlaw09_small.calls 3 A ac l (some ⟨w.heap.size + 1, 0, none⟩) 1 [ms] true _ (Kd.C_below HO.out.2.2.1 HB.out) hac (C_one HS.out hmc (Kd.C_below HC.out HB.out)) (by simp) (by rw [small_f l ms (by omega), hsm])).mono ?_; rintro e w1 ⟨rfl, hd0⟩; have hd := hd0.below; replace HB := Lib.hid (below_then' HB.out hd); replace HX := Lib.hid (heap_kept HX.out hd); clear hx0 hx1 hx2 hx3; obtain ⟨hx0, hx1, hx2, hx3⟩ := arr4 HX.out; clear hd hd0)
            | (go_at_call 31; refine (contains_calls A ac l _ (pairs_of_C (Kd.C_below HO.out.2.2.1 HB.out)) hlz).mono ?_; rw [HFAR.out]; rintro e w2 ⟨rfl, hd⟩; replace HB := Lib.hid (below_then' HB.out hd); replace HX := Lib.hid (heap_kept HX.out hd); clear hx0 hx1 hx2 hx3; obtain ⟨hx0, hx1, hx2, hx3⟩ := arr4 HX.out; clear hd)
            | (go_at_call 20; (with_reducible show Calls Try.prog 20 #[.slice A _ _, .int .i64 a, .int .i64 b] _ _); refine (slice_ok (HO.out.below HB.out) HW1.out).mono ?_; rintro e w3 ⟨A4, c4, l4, rfl, ho4, hp4, hd⟩; have H4 := Lib.hid ho4; have HP4 := Lib.hid hp4; replace HB := Lib.hid (below_then' HB.out hd); replace HX := Lib.hid (heap_kept HX.out hd); clear hx0 hx1 hx2 hx3; obtain ⟨hx0, hx1, hx2, hx3⟩ := arr4 HX.out; clear hd ho4 hp4)
            | (go_at_call 20; (with_reducible show Calls Try.prog 20 #[.slice A4 _ _, .int .i64 c, .int .i64 d] _ _); refine (slice_ok H4.out (by rw [HP4.out]; exact HW2.out)).mono ?_; rintro e w4 ⟨A5, c5, l5, rfl, ho5, hp5, hd⟩; have H5 := Lib.hid ho5; have HP5 : Hid (prs l5 = slicedL (slicedL (prs l) a b) c d) := Lib.hid (by rw [hp5, HP4.out]); replace HB := Lib.hid (below_then' HB.out hd); replace HX := Lib.hid (heap_kept HX.out hd); clear hx0 hx1 hx2 hx3; obtain ⟨hx0, hx1, hx2, hx3⟩ := arr4 HX.out; clear hd ho5 hp5)
            | (go_at_call 20; (with_reducible show Calls Try.prog 20 #[.slice A _ _, .int .i64 (a + c), .int .i64 d] _ _); refine (slice_ok (HO.out.below HB.out) HPL.out.2.1).mono ?_; rintro e w5 ⟨A6, c6, l6, rfl, ho6, hp6, hd⟩; have H6 := Lib.hid ho6; have HP6 : Hid (prs l6 = slicedL (slicedL (prs l) a b) c d) := Lib.hid (by rw [hp6, HPL.out.2.2.1]); replace H5 := Lib.hid (H5.out.below hd); replace HB := Lib.hid (below_then' HB.out hd); replace HX := Lib.hid (heap_kept HX.out hd); clear hx0 hx1 hx2 hx3; obtain ⟨hx0, hx1, hx2, hx3⟩ := arr4 HX.out; clear hd ho6 hp6)
            | (go_at_call 22; refine (joinF A6 c6 l6 _ H6.out.2.2.1 H6.out.2.2.2 H6.out.2.1).mono ?_; rintro e w6 ⟨v7, he, ho7, hd⟩; rw [show chk (prs l6) = 0 by rw [HP6.out]; exact HPL.out.2.2.2.1] at he; subst he; obtain ⟨A7, c7, l7, rfl, h7, hp7⟩ := own44_of ho7; have H7 := Lib.hid h7; have HP7 : Hid (prs l7 = joinL (slicedL (slicedL (prs l) a b) c d)) := Lib.hid (by rw [hp7]; exact jres_of l6 HP6.out HPL.out.2.2.2.1 (fun p hp => (HPL.out.2.2.2.2.2.2.2 p hp).1)); replace H5 := Lib.hid (H5.out.below hd); replace H6 := Lib.hid (H6.out.below hd); replace HB := Lib.hid (below_then' HB.out hd); replace HX := Lib.hid (heap_kept HX.out hd); clear hx0 hx1 hx2 hx3; obtain ⟨hx0, hx1, hx2, hx3⟩ := arr4 HX.out; clear hd ho7 hp7 h7)
            | (go_at_call 18; refine (iov_Length.calls 60 _ A5 c5 l5 d 0 _ H5.out.1 (by rw [length_f l5 (by rw [HP5.out]; exact HPL.out.2.2.2.1) (by omega), HP5.out, HPL.out.2.2.2.2.1])).mono ?_; rintro e w7 ⟨rfl, hd⟩; replace H5 := Lib.hid (H5.out.below hd); replace H6 := Lib.hid (H6.out.below hd); replace H7 := Lib.hid (H7.out.below hd); replace HB := Lib.hid (below_then' HB.out hd); replace HX := Lib.hid (heap_kept HX.out hd); clear hx0 hx1 hx2 hx3; obtain ⟨hx0, hx1, hx2, hx3⟩ := arr4 HX.out; clear hd)
            | (go_at_call 12; (with_reducible show Calls Try.prog 12 #[.slice M _ _, .slice A5 _ _, .int .i64 0, .int .i64 d] _ _); refine (gather_all (Kd.C_below HC.out HB.out) hmc hmx H5.out (by rw [HP5.out]; exact HPL.out.2.2.2.1) (by rw [HP5.out]; exact HPL.out.2.2.2.2.1) (by rw [HP5.out]; exact fun p hp => (HPL.out.2.2.2.2.2.2.2 p hp).1)).mono ?_; rw [HP5.out]; rintro e w8 ⟨A8, c8, l8, rfl, hc8, h8, hp8, hd⟩; have H8 := Lib.hid (And.intro h8 hp8); have HC8 := Lib.hid hc8; replace H5 := Lib.hid (H5.out.below hd); replace H6 := Lib.hid (H6.out.below hd); replace H7 := Lib.hid (H7.out.below hd); replace HB := Lib.hid (below_then' HB.out hd); replace HX := Lib.hid (heap_kept HX.out hd); clear hx0 hx1 hx2 hx3; obtain ⟨hx0, hx1, hx2, hx3⟩ := arr4 HX.out; clear hd h8 hp8 hc8)
            | (go_at_call 12; (with_reducible show Calls Try.prog 12 #[.slice M _ _, .slice A7 _ _, .int .i64 0, .int .i64 d] _ _); refine (gather_all (Kd.C_below HC.out HB.out) hmc hmx H7.out (by rw [HP7.out]; exact HPL.out.2.2.2.2.2.1) (by rw [HP7.out]; exact HPL.out.2.2.2.2.2.2.1) (by rw [HP7.out]; exact joinL_all (fun p hp => (HPL.out.2.2.2.2.2.2.2 p hp).1))).mono ?_; rw [HP7.out, HJI.out.1, HJI.out.2]; rintro e w10 ⟨A9, c9, l9, rfl, hc9, h9, hp9, hd⟩; have H9 := Lib.hid (And.intro h9 hp9); have HC9 := Lib.hid hc9; replace H5 := Lib.hid (H5.out.below hd); replace H6 := Lib.hid (H6.out.below hd); replace H8 := Lib.hid (And.intro (Kd.C_below H8.out.1 hd) H8.out.2); replace HB := Lib.hid (below_then' HB.out hd); replace HX := Lib.hid (heap_kept HX.out hd); clear hx0 hx1 hx2 hx3; obtain ⟨hx0, hx1, hx2, hx3⟩ := arr4 HX.out; clear hd h9 hp9 hc9)
            | (go_at_call 24; refine (equalP_same H5.out.2.2.1 H6.out.2.2.1 H5.out.2.2.2 H6.out.2.2.2 (by have := HL16.out; rw [← HP5.out, prs_length] at this; omega) (HP5.out.trans HP6.out.symm)).mono ?_; rintro e w11 ⟨rfl, hd⟩; replace H8 := Lib.hid (And.intro (Kd.C_below H8.out.1 hd) H8.out.2); replace H9 := Lib.hid (And.intro (Kd.C_below H9.out.1 hd) H9.out.2); replace HB := Lib.hid (below_then' HB.out hd); replace HX := Lib.hid (heap_kept HX.out hd); clear hx0 hx1 hx2 hx3; obtain ⟨hx0, hx1, hx2, hx3⟩ := arr4 HX.out; clear hd)
            | (go_at_call 14; refine (equal_bytes H8.out.1 H9.out.1 HC8.out HC9.out (byts_inj (H8.out.2.trans H9.out.2.symm)) (by have := gather_len l8 H8.out.2 HL16.out HPL.out.2.2.2.1; omega)).mono ?_; rintro e w12 ⟨rfl, hd⟩; replace HB := Lib.hid (below_then' HB.out hd); replace HX := Lib.hid (heap_kept HX.out hd); clear hx0 hx1 hx2 hx3; obtain ⟨hx0, hx1, hx2, hx3⟩ := arr4 HX.out; clear hd)
            | (go_at_call 11; refine (awake_calls _).mono ?_; rintro e w9 ⟨rfl, hd⟩; replace HB := Lib.hid (below_then' HB.out hd); clear hd))
          all_goals (go_ret; exact ⟨rfl, HB.out⟩)
        · have HW2 := Lib.hid hw2
          obtain ⟨ok, len, s0, s1, a0, b0, ab⟩ := wth_zero hw1
          have hn : ∀ p ∈ prs l, 0 ≤ p.2 := fun p hp => (ok p hp).2.1
          have hck : chk (slicedL (prs l) a b) = 0 := by
            have hlen := slicedL_length (prs l) a b
            exact chk_of (sliced_ok ok (fold_all HFAR.out ok) a b a0).1 (by omega) (by rw [sum_sliced _ a b hn a0 b0 ab]; omega)
          have hdis : c < 0 ∨ d < 0 ∨ b < c ∨ b - c < d := by
            by_cases g : c < 0 ∨ d < 0 ∨ b < c ∨ b - c < d
            · exact g
            · exact absurd (by unfold wth; rw [if_pos hck, sum_sliced _ a b hn a0 b0 ab, if_neg g]) hw2
          obtain ⟨cc, hcc⟩ : ∃ cc, wth (slicedL (prs l) a b) c d = cc := ⟨_, rfl⟩
          have HCC := Lib.hid (And.intro hcc True.intro)
          have hc0 : (cc == 0) = false := by simpa using (hcc ▸ hw2 : cc ≠ 0)
          have hb4 : b ≤ 4096 := by omega
          clear hcc hw1 hw2 ok hn hck
          by_cases g1 : c < 0
          · clear hdis
            go_wp2_with (first
              | (go_at_call 10; refine (orpimentlaw09_small.calls 3 A ac l (some ⟨w.heap.size + 1, 0, none⟩) 1 [ms] true _ (Kd.C_below HO.out.2.2.1 HB.out) hac (C_one HS.out hmc (Kd.C_below HC.out HB.out)) (by simp) (by rw [small_f l ms (by omega), hsm])).mono ?_; rintro e w1 ⟨rfl, hd0⟩; have hd := hd0.below; replace HB := Lib.hid (below_then' HB.out hd); replace HX := Lib.hid (heap_kept HX.out hd); clear hx0 hx1 hx2 hx3; obtain ⟨hx0, hx1, hx2, hx3⟩ := arr4 HX.out; clear hd hd0)
              | (go_at_call 31; refine (contains_calls A ac l _ (pairs_of_C (Kd.C_below HO.out.2.2.1 HB.out)) hlz).mono ?_; rw [HFAR.out]; rintro e w2 ⟨rfl, hd⟩; replace HB := Lib.hid (below_then' HB.out hd); replace HX := Lib.hid (heap_kept HX.out hd); clear hx0 hx1 hx2 hx3; obtain ⟨hx0, hx1, hx2, hx3⟩ := arr4 HX.out; clear hd)
              | (go_at_call 20; (with_reducible show Calls Try.prog 20 #[.slice A _ _, .int .i64 a, .int .i64 b] _ _); refine (slice_ok (HO.out.below HB.out) HW1.out).mono ?_; rintro e w3 ⟨A4, c4, l4, rfl, ho4, hp4, hd⟩; have H4 := Lib.hid ho4; have HP4 := Lib.hid hp4; replace HB := Lib.hid (below_then' HB.out hd); replace HX := Lib.hid (heap_kept HX.out hd); clear hx0 hx1 hx2 hx3; obtain ⟨hx0, hx1, hx2, hx3⟩ := arr4 HX.out; clear hd ho4 hp4)
              | (go_at_call 20; (with_reducible show Calls Try.prog 20 #[.slice A4 _ _, .int .i64 c, .int .i64 d] _ _); refine (slice_bad H4.out (by rw [HP4.out]; exact HW2.out)).mono ?_; rintro e w4 ⟨v4, he, hd⟩; rw [HP4.out, HCC.out.1] at he; subst he; replace HB := Lib.hid (below_then' HB.out hd); replace HX := Lib.hid (heap_kept HX.out hd); clear hx0 hx1 hx2 hx3; obtain ⟨hx0, hx1, hx2, hx3⟩ := arr4 HX.out; clear hd)
              | (go_at_call 11; refine (awake_calls _).mono ?_; rintro e w9 ⟨rfl, hd⟩; replace HB := Lib.hid (below_then' HB.out hd); clear hd))
            all_goals (go_ret; exact ⟨rfl, HB.out⟩)
          · by_cases g2 : d < 0
            · clear hdis
              go_wp2_with (first
                | (go_at_call 10; refine (orpimentlaw09_small.calls 3 A ac l (some ⟨w.heap.size + 1, 0, none⟩) 1 [ms] true _ (Kd.C_below HO.out.2.2.1 HB.out) hac (C_one HS.out hmc (Kd.C_below HC.out HB.out)) (by simp) (by rw [small_f l ms (by omega), hsm])).mono ?_; rintro e w1 ⟨rfl, hd0⟩; have hd := hd0.below; replace HB := Lib.hid (below_then' HB.out hd); replace HX := Lib.hid (heap_kept HX.out hd); clear hx0 hx1 hx2 hx3; obtain ⟨hx0, hx1, hx2, hx3⟩ := arr4 HX.out; clear hd hd0)
                | (go_at_call 31; refine (contains_calls A ac l _ (pairs_of_C (Kd.C_below HO.out.2.2.1 HB.out)) hlz).mono ?_; rw [HFAR.out]; rintro e w2 ⟨rfl, hd⟩; replace HB := Lib.hid (below_then' HB.out hd); replace HX := Lib.hid (heap_kept HX.out hd); clear hx0 hx1 hx2 hx3; obtain ⟨hx0, hx1, hx2, hx3⟩ := arr4 HX.out; clear hd)
                | (go_at_call 20; (with_reducible show Calls Try.prog 20 #[.slice A _ _, .int .i64 a, .int .i64 b] _ _); refine (slice_ok (HO.out.below HB.out) HW1.out).mono ?_; rintro e w3 ⟨A4, c4, l4, rfl, ho4, hp4, hd⟩; have H4 := Lib.hid ho4; have HP4 := Lib.hid hp4; replace HB := Lib.hid (below_then' HB.out hd); replace HX := Lib.hid (heap_kept HX.out hd); clear hx0 hx1 hx2 hx3; obtain ⟨hx0, hx1, hx2, hx3⟩ := arr4 HX.out; clear hd ho4 hp4)
                | (go_at_call 20; (with_reducible show Calls Try.prog 20 #[.slice A4 _ _, .int .i64 c, .int .i64 d] _ _); refine (slice_bad H4.out (by rw [HP4.out]; exact HW2.out)).mono ?_; rintro e w4 ⟨v4, he, hd⟩; rw [HP4.out, HCC.out.1] at he; subst he; replace HB := Lib.hid (below_then' HB.out hd); replace HX := Lib.hid (heap_kept HX.out hd); clear hx0 hx1 hx2 hx3; obtain ⟨hx0, hx1, hx2, hx3⟩ := arr4 HX.out; clear hd)
                | (go_at_call 11; refine (awake_calls _).mono ?_; rintro e w9 ⟨rfl, hd⟩; replace HB := Lib.hid (below_then' HB.out hd); clear hd))
              all_goals (go_ret; exact ⟨rfl, HB.out⟩)
            · by_cases g3 : b < c
              · clear hdis
                go_wp2_with (first
                  | (go_at_call 10; refine (orpimentlaw09_small.calls 3 A ac l (some ⟨w.heap.size + 1, 0, none⟩) 1 [ms] true _ (Kd.C_below HO.out.2.2.1 HB.out) hac (C_one HS.out hmc (Kd.C_below HC.out HB.out)) (by simp) (by rw [small_f l ms (by omega), hsm])).mono ?_; rintro e w1 ⟨rfl, hd0⟩; have hd := hd0.below; replace HB := Lib.hid (below_then' HB.out hd); replace HX := Lib.hid (heap_kept HX.out hd); clear hx0 hx1 hx2 hx3; obtain ⟨hx0, hx1, hx2, hx3⟩ := arr4 HX.out; clear hd hd0)
                  | (go_at_call 31; refine (contains_calls A ac l _ (pairs_of_C (Kd.C_below HO.out.2.2.1 HB.out)) hlz).mono ?_; rw [HFAR.out]; rintro e w2 ⟨rfl, hd⟩; replace HB := Lib.hid (below_then' HB.out hd); replace HX := Lib.hid (heap_kept HX.out hd); clear hx0 hx1 hx2 hx3; obtain ⟨hx0, hx1, hx2, hx3⟩ := arr4 HX.out; clear hd)
                  | (go_at_call 20; (with_reducible show Calls Try.prog 20 #[.slice A _ _, .int .i64 a, .int .i64 b] _ _); refine (slice_ok (HO.out.below HB.out) HW1.out).mono ?_; rintro e w3 ⟨A4, c4, l4, rfl, ho4, hp4, hd⟩; have H4 := Lib.hid ho4; have HP4 := Lib.hid hp4; replace HB := Lib.hid (below_then' HB.out hd); replace HX := Lib.hid (heap_kept HX.out hd); clear hx0 hx1 hx2 hx3; obtain ⟨hx0, hx1, hx2, hx3⟩ := arr4 HX.out; clear hd ho4 hp4)
                  | (go_at_call 20; (with_reducible show Calls Try.prog 20 #[.slice A4 _ _, .int .i64 c, .int .i64 d] _ _); refine (slice_bad H4.out (by rw [HP4.out]; exact HW2.out)).mono ?_; rintro e w4 ⟨v4, he, hd⟩; rw [HP4.out, HCC.out.1] at he; subst he; replace HB := Lib.hid (below_then' HB.out hd); replace HX := Lib.hid (heap_kept HX.out hd); clear hx0 hx1 hx2 hx3; obtain ⟨hx0, hx1, hx2, hx3⟩ := arr4 HX.out; clear hd)
                  | (go_at_call 11; refine (awake_calls _).mono ?_; rintro e w9 ⟨rfl, hd⟩; replace HB := Lib.hid (below_then' HB.out hd); clear hd))
                all_goals (go_ret; exact ⟨rfl, HB.out⟩)
              · have g4 : b - c < d := by omega
                have hwr : IntKind.i64.wrap (b - c) = b - c := by rw [IntKind.wrap_i64]; omega
                clear hdis
                go_wp2_with (first
                  | (go_at_call 10; refine (orpimentlaw09_small.calls 3 A ac l (some ⟨w.heap.size + 1, 0, none⟩) 1 [ms] true _ (Kd.C_below HO.out.2.2.1 HB.out) hac (C_one HS.out hmc (Kd.C_below HC.out HB.out)) (by simp) (by rw [small_f l ms (by omega), hsm])).mono ?_; rintro e w1 ⟨rfl, hd0⟩; have hd := hd0.below; replace HB := Lib.hid (below_then' HB.out hd); replace HX := Lib.hid (heap_kept HX.out hd); clear hx0 hx1 hx2 hx3; obtain ⟨hx0, hx1, hx2, hx3⟩ := arr4 HX.out; clear hd hd0)
                  | (go_at_call 31; refine (contains_calls A ac l _ (pairs_of_C (Kd.C_below HO.out.2.2.1 HB.out)) hlz).mono ?_; rw [HFAR.out]; rintro e w2 ⟨rfl, hd⟩; replace HB := Lib.hid (below_then' HB.out hd); replace HX := Lib.hid (heap_kept HX.out hd); clear hx0 hx1 hx2 hx3; obtain ⟨hx0, hx1, hx2, hx3⟩ := arr4 HX.out; clear hd)
                  | (go_at_call 20; (with_reducible show Calls Try.prog 20 #[.slice A _ _, .int .i64 a, .int .i64 b] _ _); refine (slice_ok (HO.out.below HB.out) HW1.out).mono ?_; rintro e w3 ⟨A4, c4, l4, rfl, ho4, hp4, hd⟩; have H4 := Lib.hid ho4; have HP4 := Lib.hid hp4; replace HB := Lib.hid (below_then' HB.out hd); replace HX := Lib.hid (heap_kept HX.out hd); clear hx0 hx1 hx2 hx3; obtain ⟨hx0, hx1, hx2, hx3⟩ := arr4 HX.out; clear hd ho4 hp4)
                  | (go_at_call 20; (with_reducible show Calls Try.prog 20 #[.slice A4 _ _, .int .i64 c, .int .i64 d] _ _); refine (slice_bad H4.out (by rw [HP4.out]; exact HW2.out)).mono ?_; rintro e w4 ⟨v4, he, hd⟩; rw [HP4.out, HCC.out.1] at he; subst he; replace HB := Lib.hid (below_then' HB.out hd); replace HX := Lib.hid (heap_kept HX.out hd); clear hx0 hx1 hx2 hx3; obtain ⟨hx0, hx1, hx2, hx3⟩ := arr4 HX.out; clear hd)
                  | (go_at_call 11; refine (awake_calls _).mono ?_; rintro e w9 ⟨rfl, hd⟩; replace HB := Lib.hid (below_then' HB.out hd); clear hd))
                all_goals (go_ret; exact ⟨rfl, HB.out⟩)
      · have HW1 := Lib.hid hw1
        obtain ⟨cc, hcc⟩ : ∃ cc, wth (prs l) a b = cc := ⟨_, rfl⟩
        have HCC := Lib.hid (And.intro hcc True.intro)
        have hc0 : (cc == 0) = false := by simpa using (hcc ▸ hw1 : cc ≠ 0)
        clear hcc hw1
        go_wp2_with (first
          | (go_at_call 10; refine (orpimentlaw09_small.calls 3 A ac l (some ⟨w.heap.size + 1, 0, none⟩) 1 [ms] true _ (Kd.C_below HO.out.2.2.1 HB.out) hac (C_one HS.out hmc (Kd.C_below HC.out HB.out)) (by simp) (by rw [small_f l ms (by omega), hsm])).mono ?_; rintro e w1 ⟨rfl, hd0⟩; have hd := hd0.below; replace HB := Lib.hid (below_then' HB.out hd); replace HX := Lib.hid (heap_kept HX.out hd); clear hx0 hx1 hx2 hx3; obtain ⟨hx0, hx1, hx2, hx3⟩ := arr4 HX.out; clear hd hd0)
          | (go_at_call 31; refine (contains_calls A ac l _ (pairs_of_C (Kd.C_below HO.out.2.2.1 HB.out)) hlz).mono ?_; rw [HFAR.out]; rintro e w2 ⟨rfl, hd⟩; replace HB := Lib.hid (below_then' HB.out hd); replace HX := Lib.hid (heap_kept HX.out hd); clear hx0 hx1 hx2 hx3; obtain ⟨hx0, hx1, hx2, hx3⟩ := arr4 HX.out; clear hd)
          | (go_at_call 20; refine (slice_bad (HO.out.below HB.out) HW1.out).mono ?_; rintro e w3 ⟨v3, he, hd⟩; rw [HCC.out.1] at he; subst he; replace HB := Lib.hid (below_then' HB.out hd); replace HX := Lib.hid (heap_kept HX.out hd); clear hx0 hx1 hx2 hx3; obtain ⟨hx0, hx1, hx2, hx3⟩ := arr4 HX.out; clear hd)
          | (go_at_call 11; refine (awake_calls _).mono ?_; rintro e w9 ⟨rfl, hd⟩; replace HB := Lib.hid (below_then' HB.out hd); clear hd))
        all_goals (go_ret; exact ⟨rfl, HB.out⟩)
end Go.Proofs.Ytbojagkalbfenaa
namespace Go.Proofs.Ytbojagkalbfenaa
open Go.RowKit Go.WideShapes Go.ChangeShapes Go.Deep PIovSlices Go.Proofs.YtbojagkalbfenaaW.PrintWords
section
variable {H : Type} {enc : TypeId × Value → H} {P : Program} {w : World} {base : Nat} {spare : Nat → Bool} {held : Bool}
theorem trod_ints {fuel : Nat} {t e : TypeId} {n : Nat} {k : IntKind} {cs : List Value} {x : DataW H × List MemPlace} (ht : P.underlying t = some (.array n e)) (he : P.underlying e = some (.int k)) (hs : P.cellsOf e = 1) (hn : P.cellsOf t = n)
    (h : DataW.trod enc P w base spare held fuel t cs = some x) : ∃ l : List Int, l.length = n ∧ cs = l.map (fun z => Value.int k z) := by
  obtain ⟨xs, m, _, _, hl, hlx, hi⟩ := DataW.trod_array ht h
  rw [hn] at hl
  have key : ∀ i, i < n → ∃ a, cs[i]? = some (.int k a) := by
    intro i hin
    have h1 := hi i hin
    rw [List.getElem?_eq_getElem (by omega), hs] at h1
    obtain ⟨a, ha, _⟩ := DataW.trod_int he h1
    refine ⟨a, ?_⟩
    have h2 := congrArg (fun l => l[0]?) ha
    simpa [List.getElem?_take, List.getElem?_drop] using h2
  refine ⟨cs.map (fun v => match v with | .int _ a => a | _ => 0), by simp [hl], ?_⟩
  apply List.ext_getElem?
  intro i
  by_cases hin : i < n
  · obtain ⟨a, ha⟩ := key i hin
    simp [ha]
  · simp [List.getElem?_eq_none (show cs.length ≤ i by omega)]

theorem cells_of {a : Addr} {n : Nat} {cs : List Value} (h : w.cells? base a n = some cs) : cs.length = n ∧ ∀ q, q < n → w.cell? (a.add q) = cs[q]? := by
  unfold World.cells? at h
  split at h
  · have hl := mapM_some_length h
    rw [List.length_range] at hl
    exact ⟨hl, fun q hq => mapM_some_get h q q (by simp [hq])⟩
  · simp at h

/-- A slice that came in, whatever its elements: its shape, its reach, and each element's cells with their reading. -/
theorem open_rows {r : Reach} {b0 : Nat} {ts : List TypeId} {ds : List (DataW H)} {j : Nat} {t e : TypeId} {m B : Nat} {v : Value} {d : DataW H} {p : List MemPlace} (hu : P.underlying t = some (.slice e)) (hm : P.cellsOf e = m) (hB : P.bytesOf e = B)
    (ht : ts[j]? = some t) (hd : ds[j]? = some d) (hsz : (DataW.weightsEach P ts ds).all (· ≤ reachBytes) = true)
    (hv : Value.okWide P w r b0 t v) (h : DataW.Trod enc P w base spare held t v d p) :
    ∃ A len cap, v = .slice A len cap ∧ len ≤ cap ∧ cap ≤ maxLen ∧ len * B ≤ 140737488351232 ∧ (A = none → len = 0 ∧ cap = 0) ∧ ∀ i, i < len → ∃ ad cs fuel y, A = some ad ∧ cs.length = m ∧ (∀ q, q < m → w.cell? (ad.add (i * m + q)) = cs[q]?) ∧ DataW.trod enc P w base spare held fuel e cs = some y := by
  obtain ⟨A, len, cap, rfl⟩ := okWide_slice hu hv
  obtain ⟨fuel, hf⟩ := h
  refine ⟨A, len, cap, rfl, ?_⟩
  rcases open_slice hu hf with ⟨hcs, _⟩ | ⟨a, len', cap', m', n, D, Pl, hcs, _, hl, hml, hm', hx, hi⟩
  · simp [Value.cells] at hcs
    obtain ⟨rfl, rfl, rfl⟩ := hcs
    exact ⟨Nat.le_refl _, by simp [maxLen], by simp, fun _ => ⟨rfl, rfl⟩, fun i hi => by omega⟩
  · simp [Value.cells] at hcs
    obtain ⟨rfl, rfl, rfl⟩ := hcs
    obtain ⟨hx, _⟩ := Prod.mk.inj hx
    subst hx
    have z := sized_slice hsz ht hd hu
    rw [hB] at z
    simp only [List.length_map, List.length_range] at z
    have hlm : len ≤ m' := by rw [hm']; split <;> omega
    refine ⟨hl, hml, Nat.le_trans (Nat.mul_le_mul_right _ (by omega)) z, fun h => (by cases h), fun i hil => ?_⟩
    obtain ⟨cs', hc', ht'⟩ := hi i (by omega)
    rw [hm] at hc'
    obtain ⟨h1, h2⟩ := cells_of hc'
    exact ⟨a, cs', n, _, rfl, h1, fun q hq => by rw [← Deep.add_add]; exact h2 q hq, ht'⟩
theorem slice_block {r : Reach} {b0 : Nat} {t e : TypeId} {a : Addr} {n c : Nat} (hu : P.underlying t = some (.slice e)) (hv : Value.okWide P w r b0 t (.slice (some a) n c)) : a.block < w.heap.size := by
  simp only [Value.okWide, hu, Cell.okWide, Cell.ok] at hv
  obtain ⟨_, _, _, _, row, cells, hs, _⟩ := hv
  unfold World.shape? at hs
  by_cases h : a.block < w.heap.size
  · exact h
  · rw [Array.getElem?_eq_none (by omega)] at hs
    cases hs
end
theorem open22 {H : Type} {enc : TypeId × Value → H} {w : World} {base : Nat} {spare : Nat → Bool} {held : Bool} {r : Reach} {b0 : Nat} {ts : List TypeId} {ds : List (DataW H)} {j t : Nat} {v : Value} {d : DataW H} {p : List MemPlace}
    (htt : t = 22) (ht : ts[j]? = some t) (hd : ds[j]? = some d) (hsz : (DataW.weightsEach Try.prog ts ds).all (· ≤ reachBytes) = true)
    (hv : Value.okWide Try.prog w r b0 22 v) (h : DataW.Trod enc Try.prog w base spare held 22 v d p) :
    ∃ (A : Option Addr) (cap : Nat) (ms : List Int), v = .slice A ms.length cap ∧ Kd.C (Kd.int .u8) w A ms.length ms ∧ ms.length ≤ cap ∧ cap ≤ 9223372036854775807 := by
  subst htt
  obtain ⟨A, len, cap, rfl, hl, hm, hz, _, hi⟩ := open_rows (m := 1) (B := 1) Try.underlying22 (by kernel_rfl) (by kernel_rfl) ht hd hsz hv h
  have hc : ∀ i, i < len → ∃ q : Int, ∃ ad, A = some ad ∧ w.cell? (ad.add i) = some (.int .u8 q) := by
    intro i hil
    obtain ⟨ad, cs, fuel, y, rfl, hl, hcell, hy⟩ := hi i hil
    obtain ⟨a, rfl, _⟩ := DataW.trod_int Try.underlying5 hy
    exact ⟨a, ad, rfl, by simpa using hcell 0 (by omega)⟩
  obtain ⟨f, hf⟩ := Deep.choose_lt hc
  refine ⟨A, cap, (List.range len).map f, by simp, ⟨rfl, by simp; simp only [maxLen] at hm; omega, fun hp => ?_⟩, by simpa using hl, by simp only [maxLen] at hm; omega⟩
  simp only [List.length_map, List.length_range] at hp
  obtain ⟨ad, rfl, _⟩ := hf 0 hp
  refine ⟨ad, rfl, fun j p hj => ⟨[.int .u8 p], rfl, rfl, fun i u hu => ?_⟩⟩
  match i, hu with
  | 0, hu =>
    cases hu
    have hjl : j < len := by
      have := (List.getElem?_eq_some_iff.1 hj).1
      simpa using this
    obtain ⟨ad2, e, h2⟩ := hf j hjl
    cases e
    obtain rfl : f j = p := by simpa [hjl] using hj
    simpa [Kd.int, Kd.scalar] using h2
  | i + 1, hu => simp at hu
theorem open23 {H : Type} {enc : TypeId × Value → H} {w : World} {base : Nat} {spare : Nat → Bool} {held : Bool} {r : Reach} {b0 : Nat} {ts : List TypeId} {ds : List (DataW H)} {j t : Nat} {v : Value} {d : DataW H} {p : List MemPlace}
    (htt : t = 23) (ht : ts[j]? = some t) (hd : ds[j]? = some d) (hsz : (DataW.weightsEach Try.prog ts ds).all (· ≤ reachBytes) = true)
    (hv : Value.okWide Try.prog w r b0 23 v) (h : DataW.Trod enc Try.prog w base spare held 23 v d p) :
    ∃ (A : Option Addr) (cap : Nat) (l : List S44), v = .slice A l.length cap ∧ Kd.V k44 44 w w.heap.size (fun k => k < w.heap.size) (.slice A l.length cap) l ∧ (∀ ad, A = some ad → ad.block < w.heap.size) ∧ l.length * 16 ≤ 140737488351232 := by
  subst htt
  obtain ⟨A, len, cap, rfl, hl, _, hz, _, hi⟩ := open_rows (m := 2) (B := 16) Try.underlying23 (by kernel_rfl) (by kernel_rfl) ht hd hsz hv h
  have hc : ∀ i, i < len → ∃ q : S44, ∃ ad, A = some ad ∧ w.cell? (ad.add (i * 2)) = some (.int .i64 q.f0) ∧ w.cell? ⟨(ad.add (i * 2)).block, (ad.add (i * 2)).off + 1, none⟩ = some (.int .i64 q.f1) := by
    intro i hil
    obtain ⟨ad, cs, fuel, y, rfl, hl, hcell, hy⟩ := hi i hil
    obtain ⟨y0, y1, m, _, _, g0, g1⟩ := trod_struct2 Try.underlying44 hy
    obtain ⟨a, ea, _⟩ := DataW.trod_int Try.underlying2 g0
    obtain ⟨b, eb, _⟩ := DataW.trod_int Try.underlying2 g1
    rw [show Try.prog.cellsOf 2 = 1 by kernel_rfl] at ea eb
    match cs, hl with
    | [c0, c1], _ =>
      simp at ea eb
      subst ea eb
      have h0 := hcell 0 (by omega)
      have h1 := hcell 1 (by omega)
      refine ⟨⟨a, b⟩, ad, rfl, by simpa using h0, ?_⟩
      rw [← Deep.add_add] at h1
      have e2 : (ad.add (i * 2)).add 1 = ⟨(ad.add (i * 2)).block, (ad.add (i * 2)).off + 1, none⟩ := by unfold Addr.add; simp
      rw [e2] at h1
      simpa using h1
  haveI : Inhabited S44 := ⟨z44⟩
  obtain ⟨f, hf⟩ := Deep.choose_lt hc
  have hp : Pairs w A (prs ((List.range len).map f)) := by
    intro i hil
    rw [prs_length] at hil
    simp only [List.length_map, List.length_range] at hil
    have := hf i hil
    simpa [prs, List.getD_eq_getElem?_getD, hil] using this
  refine ⟨A, cap, (List.range len).map f, by simp, V_of_pairs (by simpa using hl) (by simp; omega) hp, ?_, by simpa using hz⟩
  rintro ad rfl
  exact slice_block Try.underlying23 hv
theorem open61 {H : Type} {enc : TypeId × Value → H} {w : World} {base : Nat} {spare : Nat → Bool} {held : Bool} {r : Reach} {b0 : Nat} {v : Value} {d : DataW H} {p : List MemPlace}
    (hv : Value.okWide Try.prog w r b0 61 v) (h : DataW.Trod enc Try.prog w base spare held 61 v d p) : ∃ (a b c e : Int), v = .agg #[.int .i64 a, .int .i64 b, .int .i64 c, .int .i64 e] := by
  simp only [Value.okWide, Try.underlying61] at hv
  obtain ⟨cs, rfl, hs, _⟩ := hv
  obtain ⟨fuel, hf⟩ := h
  obtain ⟨l, hl, e⟩ := trod_ints (n := 4) Try.underlying61 Try.underlying2 (by kernel_rfl) (by kernel_rfl) hf
  match l, hl with
  | [a, b, c, d], _ =>
    refine ⟨a, b, c, d, ?_⟩
    congr 1
    simp only [Value.cells] at e
    simpa using congrArg List.toArray e
theorem slices_row (A0 : Option Addr) (cap0 : Nat) (ms0 : List Int) (A1 : Option Addr) (cap1 : Nat) (l1 : List S44) (a2 b2 c2 e2 : Int) (w : World) (c0 : Kd.C (Kd.int .u8) w A0 ms0.length ms0) (hc0 : ms0.length ≤ cap0) (hm0 : cap0 ≤ 9223372036854775807)
    (v1 : Kd.V k44 44 w w.heap.size (fun k => k < w.heap.size) (.slice A1 l1.length cap1) l1) (hA1 : ∀ ad, A1 = some ad → ad.block < w.heap.size) (hz1 : l1.length * 16 ≤ 140737488351232) :
    Calls Try.prog 9 #[.slice A0 ms0.length cap0, .slice A1 l1.length cap1, .agg #[.int .i64 a2, .int .i64 b2, .int .i64 c2, .int .i64 e2]] w fun e w' => e = .returned (.bool true) ∧ Below w.heap.size w w' :=
  slices_law A0 A1 ms0 l1 cap0 cap1 a2 b2 c2 e2 w c0 hc0 hm0 ⟨v1, hA1, (Kd.V_reads' v1).2.2, (Kd.V_reads' v1).2.1⟩ (by omega)
end Go.Proofs.Ytbojagkalbfenaa
