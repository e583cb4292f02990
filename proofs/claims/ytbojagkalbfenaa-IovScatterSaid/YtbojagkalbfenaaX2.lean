import Derived.Test.YtbojagkalbfenaaX1
namespace Go.Proofs.Ytbojagkalbfenaa
set_option linter.unusedVariables false
set_option linter.unusedSimpArgs false
open Go.RowKit PIovGather Go.Proofs.YtbojagkalbfenaaW.PrintWords
attribute [local go_sem] Oper.semAt_some ints_get ints_size ints_getElem

theorem results_none {fn : Func} (h : fn.results = #[]) (tmps : Array Value) (P : Program) (w : World) : (results fn tmps).run P w = .ok (.tuple #[]) w := by
  simp [results, h]
/-- A memory that may be written: an own row (its block: row), or an empty slice, wherever it lies (row: none). -/
def MRow (W : World) (base : Nat) (row : Option Nat) (v : Value) (n : Nat) (ms : List Value) : Prop := (n = 0 ∧ row = none ∧ ms = []) ∨ (row = v.ownBlock ∧ W.ownsRow base 5 1 v n ms)
theorem MRow.length {W : World} {base : Nat} {row : Option Nat} {v : Value} {n : Nat} {ms : List Value} (h : MRow W base row v n ms) : ms.length = n := by
  rcases h with ⟨h1, _, rfl⟩ | ⟨_, h2⟩
  · simp [h1]
  · have := h2.1; omega
theorem MRow.move {W W' : World} {base : Nat} {row : Option Nat} {v : Value} {n : Nat} {ms : List Value} (h : MRow W base row v n ms) (hm : ∀ k, row = some k → W'.heap[k]? = W.heap[k]?) : MRow W' base row v n ms := by
  rcases h with h | ⟨h1, h2⟩
  · exact .inl h
  · exact .inr ⟨h1, own_move h2 (fun k hk => hm k (h1.trans hk))⟩
theorem MRow.lt {W : World} {base : Nat} {row : Option Nat} {v : Value} {n : Nat} {ms : List Value} (h : MRow W base row v n ms) : ∀ k, row = some k → k < W.heap.size := by
  intro k hk
  rcases h with ⟨_, h, _⟩ | ⟨h1, h2⟩
  · rw [h] at hk; cases hk
  · exact own_lt' h2 k (h1 ▸ hk)
/-- What holds between the parts of scatter: the memory's row, what is left of the data. -/
structure Scat (w : World) (B base n : Nat) (row : Option Nat) (v : Value) (ms ds : List Value) (W : World) : Prop where
  grown : w.grownBy W row
  box : Boxed W B 22 v
  mem : MRow W base row v n ms
  data : ∃ D c, Boxed W (B + 1) 22 (.slice D ds.length c) ∧ Mem W D ds ∧ ds.length ≤ c ∧ c ≤ 9223372036854775807 ∧ ∀ ad, D = some ad → ad.block < w.heap.size ∧ some ad.block ≠ row
theorem Scat.turn {w : World} {B base n : Nat} {row : Option Nat} {v : Value} {ms ds : List Value} {s bn bo : Nat} {W W' : World} (h : Scat w B base n row v ms ds W) (t : Turn s bn bo W W') (h1 : w.heap.size ≤ B) (h2 : B + 1 < bn) (h3 : B + 1 < bo) (h4 : B + 1 < s) (hv : ∀ j, row = some j → j < w.heap.size) : Scat w B base n row v ms ds W' := by
  obtain ⟨a1, a2, a3, D, c, a4, a5, a6, a7, a8⟩ := h
  refine ⟨t.grown a1 (by omega) (by omega) (by omega), t.boxed a2 (by omega) (by omega), a3.move (fun k hk => ?_), D, c, t.boxed a4 (by omega) (by omega), t.mem a5 (fun ad e => by have := (a8 ad e).1; omega), a6, a7, a8⟩
  have hlt := a3.lt k hk
  have := hv k hk
  rw [Array.getElem?_eq_getElem hlt]
  exact t.block k _ (Array.getElem?_eq_getElem hlt) (by omega) (by omega) (.inl (by omega))
theorem Scat.below {w : World} {B base n : Nat} {row : Option Nat} {v : Value} {ms ds : List Value} {W W' : World} (h : Scat w B base n row v ms ds W) (hb : Below W.heap.size W W') : Scat w B base n row v ms ds W' := by
  obtain ⟨a1, a2, a3, D, c, a4, a5, a6, a7, a8⟩ := h
  refine ⟨⟨hb.os.trans a1.os, hb.tape.trans a1.tape, hb.output.trans a1.output, Nat.le_trans a1.size hb.size, fun k hk hne => (hb.block k (Nat.lt_of_lt_of_le hk a1.size)).trans (a1.block k hk hne)⟩, (hb.block _ a2.lt).trans a2, a3.move (fun k hk => hb.block k (a3.lt k hk)), D, c, (hb.block _ a4.lt).trans a4, a5.below hb, a6, a7, a8⟩
theorem Scat.alloc {w : World} {B base n : Nat} {row : Option Nat} {v : Value} {ms ds : List Value} {W : World} (h : Scat w B base n row v ms ds W) (o : Obj) : Scat w B base n row v ms ds (W.alloc o) := h.below ((Below.refl _ _).alloc (Nat.le_refl _) _)
theorem grownBy_trans_keep {w W W' : World} {row : Option Nat} (h : w.grownBy W row) (h1 : W'.os = W.os) (h2 : W'.tape = W.tape) (h3 : W'.output = W.output) (h4 : W.heap.size ≤ W'.heap.size) (h5 : ∀ k, k < w.heap.size → some k ≠ row → W'.heap[k]? = W.heap[k]?) : w.grownBy W' row :=
  ⟨h1.trans h.os, h2.trans h.tape, h3.trans h.output, Nat.le_trans h.size h4, fun k hk hne => (h5 k hk hne).trans (h.block k hk hne)⟩
theorem mem_drop {W : World} {M : Addr} {ds : List Value} (h : Mem W (some M) ds) (k : Nat) : Mem W (some (M.add k)) (ds.drop k) :=
  ⟨fun j u hj => by
    rw [List.getElem?_drop] at hj
    obtain ⟨ad, e, hlt, hc⟩ := h.cell _ _ hj
    cases e
    exact ⟨_, rfl, by rw [add_block]; exact hlt, by rw [add_plus]; exact hc⟩, fun u hu => h.one u (List.mem_of_mem_drop hu)⟩
theorem mem_nil {W : World} {M : Option Addr} {ds : List Value} (h : ds = []) : Mem W M ds := by
  subst h
  exact ⟨fun j u hj => by simp at hj, fun u hu => by simp at hu⟩

set_option maxHeartbeats 2000000 in
set_option maxRecDepth 100000 in
theorem scatter_in (A : Option Addr) (cap : Nat) (cs : List (Int × Int)) (off : Int) (V : Option Addr) (vc base n : Nat) (row : Option Nat) (ms : List Value) (D : Option Addr) (dcap : Nat) (ds : List Value) (w : World)
    (hown : MRow w base row (.slice V n vc) n ms) (hmem : Mem w D ds) (hdc : ds.length ≤ dcap) (hdm : dcap ≤ 9223372036854775807) (hD : ∀ ad, D = some ad → ad.block < w.heap.size ∧ some ad.block ≠ row)
    (hp : Pairs w A cs) (hA : ∀ ad, A = some ad → ad.block < w.heap.size ∧ some ad.block ≠ row) (hok : okP cs) (hoff : 0 ≤ off ∧ off ≤ 1099511627776) (hdl : ds.length ≤ 1099511627776) (hlen : cs.length ≤ 16) (hin : insideB n (slicedL cs off ds.length) = true) :
    CallsIn Fence.wide 5 Try.prog 41 #[.slice V n vc, .slice A cs.length cap, .int .i64 off, .slice D ds.length dcap] w fun e w' => e = .returned (.tuple #[]) ∧ MRow w' base row (.slice V n vc) n (scat (ms, ds) (slicedL cs off ds.length)).1 ∧ w.grownBy w' row := by
  have HP := Lib.hid hp
  have HA := Lib.hid hA
  have HD := Lib.hid hD
  have HOK := Lib.hid hok
  have HIN := Lib.hid hin
  have HM := Lib.hid hmem
  have HO := Lib.hid hown
  have HV : Hid (∀ j, row = some j → j < w.heap.size) := Lib.hid hown.lt
  clear hp hA hD hok hin hmem hown
  refine callsIn_of_wp_marks Try.func41 rfl trivial ?_ rfl
  simp only [Try.ntmps41, List.size_toArray, List.length_cons, List.length_nil, Nat.reduceAdd, Nat.reduceSub, Array.replicate_succ, Array.replicate_zero, List.push_toArray, List.append_toArray, List.nil_append, List.cons_append]
  gi_wp2_with (refine ⟨trivial, ?_⟩; gi_at_call 40; refine (callsIn_wide.2 (sliced_calls _ _ _ _ _ _)).mono ?_; rintro e w' ⟨rfl, rfl⟩)
  obtain ⟨W0, hW0⟩ : ∃ W0, (w.alloc (.cells #[.slice V n vc] 22)).alloc (.cells #[.slice D ds.length dcap] 22) = W0 := ⟨_, rfl⟩
  have hs0 : w.heap.size + 1 + 1 = W0.heap.size := by rw [← hW0]; simp
  have hb0 : Below w.heap.size w W0 := by rw [← hW0]; exact ((Below.refl _ _).alloc (Nat.le_refl _) _).alloc (by simp) _
  have hst : Scat w w.heap.size base n row (.slice V n vc) ms ds W0 := by
    rw [← hW0]
    refine ⟨by rw [hW0]; exact grown_of_below' hb0 _, (Boxed.new w 22 _).alloc _, by rw [hW0]; exact HO.out.move (fun k hk => hb0.block k (HV.out k hk)), D, dcap, ?_, by rw [hW0]; exact HM.out.below hb0, hdc, hdm, HD.out⟩
    have := Boxed.new (w.alloc (.cells #[.slice V n vc] 22)) 22 (.slice D ds.length dcap)
    simpa using this
  rw [hW0, hs0]
  have hbs := slW_below W0 A cs.length cap off ds.length
  have hsum : ∀ pre x, pre ++ [x] <+: slicedL cs off ds.length → sumL pre + x.2 ≤ ds.length ∧ (∀ y ∈ pre, 0 ≤ y.2) := fun pre x hal => by
    have hall : ∀ y ∈ slicedL cs off ds.length, 1 ≤ y.2 := fun y hy => (slicedL_mem HOK.out hoff.1 y hy).2.1
    have h1 := sumL_prefix hal hall
    have h2 := sumL_slicedL cs off ds.length (by omega)
    rw [sumL_append] at h1
    simp only [sumL] at h1
    exact ⟨by omega, fun y hy => by have := hall y (hal.subset (List.mem_append_left _ hy)); omega⟩
  have HSUM := Lib.hid hsum
  clear hsum
  refine range_sliced A cap cs off ds.length W0 (HP.out.below hb0) (fun ad e => by have := (HA.out ad e).1; omega) HOK.out hoff (by omega) hlen rfl rfl
    (fun pre W => Scat w w.heap.size base n row (.slice V n vc) (scat (ms, ds) pre).1 (scat (ms, ds) pre).2 W)
    (fun c pre W => False)
    (fun pre x a₁ W => Scat w w.heap.size base n row (.slice V n vc) (scat (ms, ds) pre).1 (scat (ms, ds) pre).2 W ∧ ∃ b, W0.heap.size + 3 ≤ b ∧ W.heap[b]? = some (.cells #[.int .i64 x.1, .int .i64 x.2] 44 (0, 0)) ∧
      a₁ = { tmps := #[.slice V n vc, .slice A cs.length cap, .int .i64 off, .slice D ds.length dcap, .pointer (some ⟨w.heap.size, 0, none⟩), undef, undef, .pointer (some ⟨w.heap.size + 1, 0, none⟩), .pointer (some ⟨b, 0, none⟩), .slice A cs.length cap, .int .i64 off, .slice D ds.length dcap, .int .i64 ds.length, .func (.func 43) #[] #[.pointer (some ⟨W0.heap.size, 0, none⟩), .pointer (some ⟨W0.heap.size + 2, 0, none⟩), .pointer (some ⟨W0.heap.size + 1, 0, none⟩)], .agg #[.int .i64 x.1, .int .i64 x.2], undef, undef, undef, undef, undef, undef, undef, undef, undef, undef, undef, undef, undef, undef, undef], defers := [] })
    (fun pre W W' h t => h.turn t (Nat.le_refl _) (by omega) (by omega) (by omega) HV.out) (fun c pre W W' h t => h) ?tA ?start ?assign ?body ?done ?stop
  case tA =>
    rintro pre x a₁ W W' ⟨h, b, h5, h6, h7⟩ t
    exact ⟨h.turn t (Nat.le_refl _) (by omega) (by omega) (by omega) HV.out, b, h5, t.cells h6 (by omega) (by omega), h7⟩
  case start => exact hst.below hbs
  case assign =>
    intro l pre x W K hI hsz hK
    gi_wp2
    refine hK _ _ (KeepsOthers.alloc _ _) ((Below.refl _ _).alloc (Nat.le_refl _) _) ⟨hI.alloc _, _, hsz, heap_alloc_new _ _, rfl⟩
  case body =>
    rintro l pre ⟨x1, x2⟩ a₁ W hal ⟨hx0, hx1⟩ ⟨hy0, hy1⟩ hsz ⟨hI, b, hb, hcell, rfl⟩
    have hc0 : W.cell? ⟨b, 0, none⟩ = some (.int .i64 x1) := by rw [cell_of_row _ _ _ _ _ _ hcell]; rfl
    have hc1 : W.cell? ⟨b, 1, none⟩ = some (.int .i64 x2) := by rw [cell_of_row _ _ _ _ _ _ hcell]; rfl
    simp only at hx0 hx1 hy0 hy1
    have hsn := HSUM.out pre _ hal
    have hrl : (scat (ms, ds) pre).2.length = ds.length - (sumL pre).toNat := by rw [scat_rest ms ds pre hsn.2, List.length_drop]
    have hs0' : 0 ≤ sumL pre := sumL_nonneg (fun y hy => (slicedL_mem HOK.out hoff.1 y (hal.subset (List.mem_append_left _ hy))).2.1)
    have hsn1 := hsn.1
    simp only at hsn1
    have hle : x1 + x2 ≤ n := by
      have : insideB n (pre ++ [(x1, x2)]) = true := by
        obtain ⟨q, hq⟩ := hal
        have h := HIN.out
        rw [← hq] at h
        simp only [insideB, List.all_append, Bool.and_eq_true] at h
        simp only [insideB, List.all_append, Bool.and_eq_true]
        exact h.1
      rw [insideB_snoc, Bool.and_eq_true] at this
      simpa using this.2
    have hsc : scat (ms, ds) (pre ++ [(x1, x2)]) = scatS (scat (ms, ds) pre) (x1, x2) := scat_snoc _ _ _
    generalize scat (ms, ds) pre = sc at hI hrl hsc
    obtain ⟨m1, r1⟩ := sc
    simp only [scatS] at hI hrl hsc
    obtain ⟨a1, a2, a3o, D', c', a4, a5, a6, a7, a8⟩ := hI
    obtain ⟨ad, rfl⟩ : ∃ ad, D' = some ad := by
      obtain ⟨ad, h, _⟩ := a5.cell 0 r1[0] (List.getElem?_eq_getElem (by omega))
      exact ⟨ad, h⟩
    obtain ⟨hrw, a3⟩ : row = (Value.slice V n vc).ownBlock ∧ W.ownsRow base 5 1 (.slice V n vc) n m1 := by
      rcases a3o with ⟨h, _⟩ | h
      · omega
      · exact h
    clear a3o
    obtain ⟨g, vc', hv⟩ := ownsRow_pos a3 (by omega)
    injection hv with hV _ hvc
    subst hV; subst hvc
    obtain rfl : row = some g := hrw
    have hvn : n ≤ vc ∧ vc ≤ 9223372036854775807 := by
      rcases a3.2 with ⟨h, _⟩ | ⟨_, _, _, h, _, _, h1, h2, _⟩
      · cases h
      · injection h with _ _ h3
        subst h3
        simp only [maxLen] at h2
        exact ⟨h1, h2⟩
    have hcv := a2.cell
    have hcd := a4.cell
    have hfd := a4.frozen
    have hwr : IntKind.i64.wrap (x1 + x2) = x1 + x2 := by rw [IntKind.wrap_i64]; omega
    have hne : ¬ vc = x1.toNat := by omega
    have h0s : 0 ≤ x1 + x2 := by omega
    have h1s : x1 ≤ max (x1 + x2) 0 := by omega
    have hcap : x1 + x2 ≤ vc := by omega
    have hgl : g < w.heap.size := HV.out g rfl
    have HI := Lib.hid (And.intro a1 (And.intro a2 (And.intro a3 (And.intro a4 (And.intro a5 a8)))))
    have HSC := Lib.hid hsc
    have hx2r : x2 ≤ (r1.length : Int) := by omega
    have hx2n : x2.toNat ≤ r1.length := by omega
    clear a1 a2 a3 a4 a5 a8 hsc hrl hsn hsn1
    gi_wp2
    refine wpIn_round_still_tail 10 (by rintro ⟨a, w, h⟩; exact h) (by kernel_rfl) (by kernel_rfl) (by kernel_rfl) ?_
    simp only [List.take_succ_cons, List.take_zero, List.drop_succ_cons, List.drop_zero]
    iterate 10 ((with_reducible refine wpStill_step (fun K hK => ?_)); have HK := Lib.hid hK; clear hK; go_simp; (with_reducible refine HK.out _ ?_); clear HK K)
    (with_reducible refine wpStill_nil ?_)
    refine wpList_copy_cells rfl (.tmp 23) (.tmp 24) 22 22 rfl 5 Try.underlying22 (by kernel_rfl) g x1.toNat _ _ ad _ _ rfl rfl (r1.take x2.toNat) ?hn ?src ?hc ?hf ?one ?_
    case hn => rw [List.length_take, Nat.min_comm]; show min _ _ = min _ _; omega
    case src =>
      intro j u hj
      have hj' : r1[j]? = some u := by
        rw [List.getElem?_take] at hj
        split at hj
        · exact hj
        · cases hj
      obtain ⟨ad', e, _, h⟩ := HI.out.2.2.2.2.1.cell _ _ hj'
      cases e
      exact h
    case hc =>
      intro j hj
      have hm1 : m1.length = n := by have := HI.out.2.2.1.1; omega
      have hj2 : x1.toNat + j < m1.length := by simp only [List.length_take] at hj; omega
      have := HI.out.2.2.1.cells (g := g) rfl _ _ (List.getElem?_eq_getElem hj2)
      rw [add_at, Nat.zero_add] at this
      exact Option.isSome_iff_exists.2 ⟨_, this⟩
    case hf => exact fun j _ => own_frozen' HI.out.2.2.1 _
    case one => exact fun u hu => HI.out.2.2.2.2.1.one u (List.mem_of_mem_take hu)
    have hsame := setCells_same g (r1.take x2.toNat) x1.toNat W.drew
    have hfar0 : ∀ j, j ≠ g → (W.drew.setCells g x1.toNat (r1.take x2.toNat)).heap[j]? = W.heap[j]? := fun j hj => setCells_far (r1.take x2.toNat) x1.toNat (w := W.drew) j hj
    have hkp : KeepsOthers W (W.drew.setCells g x1.toNat (r1.take x2.toNat)) := (KeepsOthers.drew W).trans (keeps_setCells g _ _ W.drew)
    have hrow1 : (W.drew.setCells g x1.toNat (r1.take x2.toNat)).ownsRow base 5 1 (.slice (some ⟨g, 0, none⟩) n vc) n (wr m1 x1.toNat (r1.take x2.toNat)) := own_setCells (w := W.drew) HI.out.2.2.1 (by simp only [List.length_take]; omega)
    show wpList _ _ _ _ _ (W.drew.setCells g x1.toNat (r1.take x2.toNat))
    generalize W.drew.setCells g x1.toNat (r1.take x2.toNat) = W1 at hsame hfar0 hkp hrow1 ⊢
    have hbx : Boxed W1 (w.heap.size + 1) 22 (.slice (some ad) r1.length c') := (hfar0 _ (by omega)).trans HI.out.2.2.2.1
    have hcd1 := hbx.cell
    have hfd1 := hbx.frozen
    have hcell1 : W1.heap[b]? = some (.cells #[.int .i64 x1, .int .i64 x2] 44 (0, 0)) := (hfar0 _ (by omega)).trans hcell
    have hc01 : W1.cell? ⟨b, 0, none⟩ = some (.int .i64 x1) := by rw [cell_of_row _ _ _ _ _ _ hcell1]; rfl
    have hc11 : W1.cell? ⟨b, 1, none⟩ = some (.int .i64 x2) := by rw [cell_of_row _ _ _ _ _ _ hcell1]; rfl
    have HFAR := Lib.hid (And.intro hfar0 (And.intro hsame (And.intro hkp (And.intro hrow1 hbx))))
    clear hfar0 hsame hkp hrow1 hbx hc0 hc1 hcell hcv hcd hfd hcell1
    go_wp2
    refine wpIn_round_plain (by rintro ⟨a, w, h⟩; exact h) (by kernel_rfl) ?_
    have hmem1 : Mem W1 (some ad) r1 := by
      have hne : ad.block ≠ g := fun e => (HI.out.2.2.2.2.2 ad rfl).2 (by rw [e])
      refine ⟨fun j u hj => ?_, HI.out.2.2.2.2.1.one⟩
      obtain ⟨ad', e, hlt, hc⟩ := HI.out.2.2.2.2.1.cell j u hj
      cases e
      refine ⟨ad, rfl, by rw [HFAR.out.2.1.2.2.2]; exact hlt, ?_⟩
      rw [World.cell?_of_block (w := W) (show W1.heap[(ad.add j).block]? = _ by rw [add_block]; exact HFAR.out.1 _ hne)]
      exact hc
    have fin : ∀ (D2 : Option Addr) (c2 : Nat), Mem W1 D2 (r1.drop x2.toNat) → r1.length - x2.toNat ≤ c2 → c2 ≤ 9223372036854775807 → (∀ ad', D2 = some ad' → ad'.block < w.heap.size ∧ some ad'.block ≠ some g) →
        KeepsOthers W (W1.setCell ⟨w.heap.size + 1, 0, none⟩ (.slice D2 (r1.length - x2.toNat) c2)) ∧ KeepS W0.heap.size (W0.heap.size + 2) (W0.heap.size + 1) A W (W1.setCell ⟨w.heap.size + 1, 0, none⟩ (.slice D2 (r1.length - x2.toNat) c2)) ∧
        Scat w w.heap.size base n (some g) (.slice (some ⟨g, 0, none⟩) n vc) (wr m1 x1.toNat (r1.take x2.toNat)) (r1.drop x2.toNat) (W1.setCell ⟨w.heap.size + 1, 0, none⟩ (.slice D2 (r1.length - x2.toNat) c2)) := by
      intro D2 c2 hm hc2 hcm hD2
      obtain ⟨far, ⟨so, st, su, sz⟩, kp, row, bx⟩ := HFAR.out
      have hset : ∀ k, k ≠ w.heap.size + 1 → (W1.setCell ⟨w.heap.size + 1, 0, none⟩ (.slice D2 (r1.length - x2.toNat) c2)).heap[k]? = W1.heap[k]? := fun k hk => Below.heap_setCell W1 ⟨w.heap.size + 1, 0, none⟩ _ k hk
      have hall : ∀ k, k ≠ w.heap.size + 1 → k ≠ g → (W1.setCell ⟨w.heap.size + 1, 0, none⟩ (.slice D2 (r1.length - x2.toNat) c2)).heap[k]? = W.heap[k]? := fun k h1 h2 => (hset k h1).trans (far k h2)
      refine ⟨kp.trans (KeepsOthers.setCell _ _ _), ⟨?_, hall _ (by omega) (by omega), hall _ (by omega) (by omega), hall _ (by omega) (by omega), fun ad' e => hall _ (by have := (HA.out ad' e).1; omega) (fun e' => (HA.out ad' e).2 (by rw [e']))⟩, ?_, ?_, ?_, D2, c2, ?_, ?_, ?_, hcm, hD2⟩
      · show _ ≤ (W1.setCell _ _).heap.size; rw [World.size_setCell, sz]; exact Nat.le_refl _
      · exact grownBy_trans_keep HI.out.1 so st su (by rw [World.size_setCell, sz]; exact Nat.le_refl _) (fun k hk hne => hall k (by omega) (fun e => hne (by rw [e])))
      · exact (hall _ (by omega) (by omega)).trans HI.out.2.1
      · exact .inr ⟨rfl, own_move row (fun k hk => hset k (by simp [Value.ownBlock] at hk; omega))⟩
      · rw [List.length_drop]; exact bx.set _
      · refine ⟨fun j u hj => ?_, hm.one⟩
        obtain ⟨ad', e, hlt, hc⟩ := hm.cell j u hj
        refine ⟨ad', e, by simpa [World.setCell] using hlt, ?_⟩
        rw [World.cell?_of_block (w := W1) (show _ = W1.heap[(ad'.add j).block]? by rw [add_block]; exact hset _ (by have := (hD2 ad' e).1; omega))]
        exact hc
      · rw [List.length_drop]; exact hc2
    have FIN := Lib.hid fin
    clear fin
    by_cases hcc : c' = x2.toNat
    · go_wp2
      obtain ⟨f1, f2, f3⟩ := FIN.out (some ad) 0 (mem_nil (List.drop_eq_nil_of_le (by omega))) (by omega) (by omega) (fun ad' e => by cases e; exact HI.out.2.2.2.2.2 ad rfl)
      exact ⟨f1, f2, by show Scat _ _ _ _ _ _ (scat (ms, ds) (pre ++ [(x1, x2)])).1 (scat (ms, ds) (pre ++ [(x1, x2)])).2 _; rw [HSC.out]; exact f3⟩
    · go_wp2
      obtain ⟨f1, f2, f3⟩ := FIN.out (some (ad.add x2.toNat)) (c' - x2.toNat) (mem_drop hmem1 x2.toNat) (by omega) (by omega) (fun ad' e => by cases e; rw [add_block]; exact HI.out.2.2.2.2.2 ad rfl)
      exact ⟨f1, f2, by show Scat _ _ _ _ _ _ (scat (ms, ds) (pre ++ [(x1, x2)])).1 (scat (ms, ds) (pre ++ [(x1, x2)])).2 _; rw [HSC.out]; exact f3⟩
  case done =>
    rintro D1 W hD1 h hK
    gi_wp2
    refine ⟨by simp, .inl ⟨_, _, rfl, run_takeDeferred hK, ?_⟩⟩
    refine ⟨_, results_none rfl _ _ _, rfl, h.mem.move (fun k hk => World.putObj_heap_other (by have := HV.out k hk; omega)), grownBy_trans_keep h.grown rfl rfl rfl (by simp [World.putObj]) (fun k hk _ => World.putObj_heap_other (by omega))⟩
  case stop =>
    intro D c pre W hD hpre h
    exact h.elim
end Go.Proofs.Ytbojagkalbfenaa
