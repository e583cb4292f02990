import Derived.Test.YtbojagkalbfenaaG1
namespace Go.Proofs.Ytbojagkalbfenaa
open Go.RowKit
attribute [local go_sem] Oper.semAt_some ints_get ints_size ints_getElem

theorem ownsRow_pos {W : World} {base : Nat} {e : TypeId} {size : Nat} {v : Value} {k : Nat} {xs : List Value} (h : W.ownsRow base e size v k xs) (hk : 0 < k) : ∃ g cap, v = .slice (some ⟨g, 0, none⟩) k cap := by
  rcases h.2 with ⟨_, h0⟩ | ⟨g, cap, _, rfl, _⟩
  · omega
  · exact ⟨g, cap, rfl⟩

theorem Turn.owns {s bn bo : Nat} {W W' : World} {base : Nat} {e : TypeId} {size : Nat} {v : Value} {k : Nat} {xs : List Value} (t : Turn s bn bo W W') (h : W.ownsRow base e size v k xs) (h1 : bn < base) (h2 : bo < base) : W'.ownsRow base e size v k xs := by
  refine ⟨h.1, ?_⟩
  rcases h.2 with h0 | ⟨g, cap, cur, rfl, hb, hc, hr⟩
  · exact .inl h0
  · exact .inr ⟨g, cap, cur, rfl, hb, t.cells hc (by omega) (by omega), hr⟩
theorem add_plus (p : Addr) (a b : Nat) : (p.add a).add b = p.add (a + b) := by
  simp only [Addr.add]
  split <;> split <;> (try split) <;> simp_all <;> omega

theorem results_tmp1 {fn : Func} {p : Tmp} (h : fn.results = #[.tmp p]) (tmps : Array Value) (P : Program) (w : World) : (results fn tmps).run P w = .ok (tmps.getD p undef) w := by
  simp [results, h]
theorem owns_mono {W : World} {base base' : Nat} {e : TypeId} {size : Nat} {v : Value} {k : Nat} {xs : List Value} (h : W.ownsRow base e size v k xs) (hb : base' ≤ base) : W.ownsRow base' e size v k xs := by
  refine ⟨h.1, ?_⟩
  rcases h.2 with h0 | ⟨g, cap, cur, rfl, hg, hr⟩
  · exact .inl h0
  · exact .inr ⟨g, cap, cur, rfl, by omega, hr⟩

/-- A slice's cells, all of them of one cell each. -/
structure Mem (w : World) (M : Option Addr) (ds : List Value) : Prop where
  cell : ∀ j u, ds[j]? = some u → ∃ ad, M = some ad ∧ ad.block < w.heap.size ∧ w.cell? (ad.add j) = some u
  one : ∀ u ∈ ds, u.oneCell' = true
theorem Mem.below {w W : World} {M : Option Addr} {ds : List Value} (h : Mem w M ds) (hb : Below w.heap.size w W) : Mem W M ds :=
  ⟨fun j u hj => by
    obtain ⟨ad, h1, h2, h3⟩ := h.cell j u hj
    exact ⟨ad, h1, Nat.lt_of_lt_of_le h2 hb.size, (hb.cell (p := ad.add j) (by rw [Addr.add]; split <;> exact h2)).trans h3⟩, h.one⟩

set_option maxHeartbeats 2000000 in
set_option maxRecDepth 100000 in
theorem gather_in (M : Option Addr) (ds : List Value) (mcap : Nat) (A : Option Addr) (cap : Nat) (cs : List (Int × Int)) (off m : Int) (w : World) (hmem : Mem w M ds) (hp : Pairs w A cs) (hA : ∀ ad, A = some ad → ad.block < w.heap.size)
    (hok : okP cs) (hoff : 0 ≤ off ∧ off ≤ 1099511627776) (hm : 0 ≤ m ∧ m ≤ 1099511627776) (hlen : cs.length ≤ 16) (hml : ds.length ≤ mcap) (hmc : mcap ≤ 9223372036854775807) (hin : insideB ds.length (slicedL cs off m) = true) :
    CallsIn Fence.wide 5 Try.prog 35 #[.slice M ds.length mcap, .slice A cs.length cap, .int .i64 off, .int .i64 m] w fun e w' => ∃ v, e = .returned v ∧ w'.ownsRow w.heap.size 5 1 v (gatherL ds (slicedL cs off m)).length (gatherL ds (slicedL cs off m)) ∧ Below w.heap.size w w' := by
  have HM := Lib.hid hmem
  have HP := Lib.hid hp
  have HA := Lib.hid hA
  have HOK := Lib.hid hok
  have HIN := Lib.hid hin
  clear hp hA hok hmem hin
  refine callsIn_of_wp_marks Try.func35 rfl trivial ?_ rfl
  simp only [Try.ntmps35, List.size_toArray, List.length_cons, List.length_nil, Nat.reduceAdd, Nat.reduceSub, Array.replicate_succ, Array.replicate_zero, List.push_toArray, List.append_toArray, List.nil_append, List.cons_append]
  gi_wp2_with (refine ⟨trivial, ?_⟩; gi_at_call 40; refine (callsIn_wide.2 (sliced_calls _ _ _ _ _ _)).mono ?_; rintro e w' ⟨rfl, rfl⟩)
  obtain ⟨W0, hW0⟩ : ∃ W0, (w.alloc (.cells #[.slice M ds.length mcap] 22)).alloc (.cells #[.slice none 0 0] 22) = W0 := ⟨_, rfl⟩
  have hs0 : w.heap.size + 1 + 1 = W0.heap.size := by rw [← hW0]; simp
  have hb0 : Below w.heap.size w W0 := by rw [← hW0]; exact ((Below.refl _ _).alloc (Nat.le_refl _) _).alloc (by simp) _
  have hm0 : Boxed W0 w.heap.size 22 (.slice M ds.length mcap) := by rw [← hW0]; exact (Boxed.new w 22 _).alloc _
  have hr0 : Boxed W0 (w.heap.size + 1) 22 (.slice none 0 0) := by
    rw [← hW0]
    have := Boxed.new (w.alloc (.cells #[.slice M ds.length mcap] 22)) 22 (.slice none 0 0)
    simpa using this
  rw [hW0, hs0]
  have hbs := slW_below W0 A cs.length cap off m
  refine range_sliced A cap cs off m W0 (HP.out.below hb0) (fun ad e => by have := HA.out ad e; omega) HOK.out hoff hm hlen rfl rfl
    (fun pre W => Boxed W w.heap.size 22 (.slice M ds.length mcap) ∧ Below w.heap.size w W ∧ ∃ v, Boxed W (w.heap.size + 1) 22 v ∧ W.ownsRow (W0.heap.size + 3) 5 1 v (gatherL ds pre).length (gatherL ds pre))
    (fun c pre W => False)
    (fun pre x a₁ W => (Boxed W w.heap.size 22 (.slice M ds.length mcap) ∧ Below w.heap.size w W ∧ ∃ v, Boxed W (w.heap.size + 1) 22 v ∧ W.ownsRow (W0.heap.size + 3) 5 1 v (gatherL ds pre).length (gatherL ds pre)) ∧ ∃ b, W0.heap.size + 3 ≤ b ∧ W.heap[b]? = some (.cells #[.int .i64 x.1, .int .i64 x.2] 44 (0, 0)) ∧
      a₁ = { tmps := #[.slice M ds.length mcap, .slice A cs.length cap, .int .i64 off, .int .i64 m, .pointer (some ⟨w.heap.size, 0, none⟩), undef, undef, undef, .slice none 0 0, .pointer (some ⟨w.heap.size + 1, 0, none⟩), .pointer (some ⟨b, 0, none⟩), .slice A cs.length cap, .int .i64 off, .int .i64 m,
        .func (.func 43) #[] #[.pointer (some ⟨W0.heap.size, 0, none⟩), .pointer (some ⟨W0.heap.size + 2, 0, none⟩), .pointer (some ⟨W0.heap.size + 1, 0, none⟩)], .agg #[.int .i64 x.1, .int .i64 x.2], undef, undef, undef, undef, undef, undef, undef, undef, undef, undef, undef, undef], defers := [] })
    (fun pre W W' ⟨h1, h2, v, h3, h4⟩ t => ⟨t.boxed h1 (by omega) (by omega), t.below h2 (Nat.le_refl _) (by omega) (by omega) (by omega), v, t.boxed h3 (by omega) (by omega), t.owns h4 (by omega) (by omega)⟩) (fun c pre W W' h t => h) ?tA ?start ?assign ?body ?done ?stop
  case tA =>
    rintro pre x a₁ W W' ⟨⟨h1, h2, v, h3, h4⟩, b, h5, h6, h7⟩ t
    exact ⟨⟨t.boxed h1 (by omega) (by omega), t.below h2 (Nat.le_refl _) (by omega) (by omega) (by omega), v, t.boxed h3 (by omega) (by omega), t.owns h4 (by omega) (by omega)⟩, b, h5, t.cells h6 (by omega) (by omega), h7⟩
  case start => exact ⟨(hbs.block _ hm0.lt).trans hm0, below_then' hb0 hbs, _, (hbs.block _ hr0.lt).trans hr0, by simp [gatherL], .inl ⟨rfl, by simp [gatherL]⟩⟩
  case assign =>
    intro l pre x W K hI hsz hK
    gi_wp2
    refine hK _ _ (KeepsOthers.alloc _ _) ((Below.refl _ _).alloc (Nat.le_refl _) _) ⟨?_, _, hsz, heap_alloc_new _ _, rfl⟩
    obtain ⟨h1, h2, v, h3, h4⟩ := hI
    exact ⟨h1.alloc _, h2.alloc h2.size _, v, h3.alloc _, h4.alloc _⟩
  case body =>
    rintro l pre ⟨x1, x2⟩ a₁ W hal ⟨hx0, hx1⟩ ⟨hy0, hy1⟩ hsz ⟨⟨hI1, hI2, v, hv, hrow⟩, b, hb, hcell, rfl⟩
    have hcm := hI1.cell
    have hc0 : W.cell? ⟨b, 0, none⟩ = some (.int .i64 x1) := by rw [cell_of_row _ _ _ _ _ _ hcell]; rfl
    have hc1 : W.cell? ⟨b, 1, none⟩ = some (.int .i64 x2) := by rw [cell_of_row _ _ _ _ _ _ hcell]; rfl
    have hcr := hv.cell
    have hfr := hv.frozen
    simp only at hx0 hx1 hy0 hy1
    have hle : x1 + x2 ≤ ds.length := by
      have : insideB ds.length (pre ++ [(x1, x2)]) = true := by
        obtain ⟨q, hq⟩ := hal
        have h := HIN.out
        rw [← hq] at h
        simp only [insideB, List.all_append, Bool.and_eq_true] at h
        simp only [insideB, List.all_append, Bool.and_eq_true]
        exact h.1
      rw [insideB_snoc, Bool.and_eq_true] at this
      simpa using this.2
    obtain ⟨M0, rfl⟩ : ∃ M0, M = some M0 := by
      have h0 : 0 < ds.length := by omega
      obtain ⟨ad, h, _⟩ := HM.out.cell 0 ds[0] (List.getElem?_eq_getElem h0)
      exact ⟨ad, h⟩
    have hwr : IntKind.i64.wrap (x1 + x2) = x1 + x2 := by rw [IntKind.wrap_i64]; omega
    have hne : ¬ mcap = x1.toNat := by omega
    have h0s : 0 ≤ x1 + x2 := by omega
    have h1s : x1 ≤ max (x1 + x2) 0 := by omega
    have hcap : x1 + x2 ≤ mcap := by omega
    have HI := Lib.hid (And.intro hI1 (And.intro hI2 (And.intro hv hrow)))
    clear hI1 hI2 hv hrow
    gi_wp2
    refine wpIn_round_still_tail 10 (by rintro ⟨a, w, h⟩; exact h) (by kernel_rfl) (by kernel_rfl) (by kernel_rfl) ?_
    simp only [List.take_succ_cons, List.take_zero, List.drop_succ_cons, List.drop_zero]
    repeat still_step
    refine wpStill_nil ?_
    have hpl : (piece ds (x1, x2)).length = (x1 + x2).toNat - x1.toNat := by rw [piece_length (by simpa using hx0) (by simp only; omega) (by simpa using hle)]; simp only; omega
    have hbd : (gatherL ds pre).length + ((x1 + x2).toNat - x1.toNat) ≤ 65536 := by
      have h1 := gatherL_bound (ds := ds) (xs := pre ++ [(x1, x2)]) (fun y hy => (slicedL_mem HOK.out hoff.1 y (hal.subset hy)).2.2)
      have h2 := slicedL_length cs off m
      have h3 := hal.length_le
      rw [gatherL_snoc, List.length_append, hpl] at h1
      omega
    obtain ⟨i0, hi0, hz0, hz1, hz2⟩ := info_parts (P := Try.prog) (e := 5) (z := .int .u8 0) (size := 1) (bytes := 1) (by kernel_rfl)
    refine wpList_append_own _ rfl (.tmp 16) (.tmp 25) 22 rfl (W0.heap.size + 3) 5 i0 (.int .u8 0) 1 1 Try.underlying22 hi0 hz0 hz1 hz2 rfl (by omega) v _ (gatherL ds pre) rfl HI.out.2.2.2 _ _ _ (piece ds (x1, x2)) rfl (by rw [hpl]; omega) ?cells ?one ?len ?byt ?bas ?_
    case cells =>
      intro j u hj
      have hj' : ds[x1.toNat + j]? = some u := by
        simp only [piece, List.getElem?_take, List.getElem?_drop] at hj
        split at hj
        · exact hj
        · cases hj
      obtain ⟨ad, e1, e2, e3⟩ := HM.out.cell _ _ hj'
      cases e1
      rw [add_plus]
      exact (HI.out.2.1.cell (p := M0.add (x1.toNat + j)) (by rw [Addr.add]; split <;> exact e2)).trans e3
    case one => exact fun u hu => HM.out.one u (List.mem_of_mem_drop (List.mem_of_mem_take hu))
    case len => simp only [maxLen]; omega
    case byt => omega
    case bas => exact hsz
    intro v' w1 hown' hgrow _
    obtain ⟨g', cap', rfl⟩ := ownsRow_pos hown' (by omega)
    obtain ⟨a1, a2, a3, a4, a5, a6⟩ := out_appended (W := W.drew) HI.out.2.2.1 (by decide) HI.out.2.2.2 (by omega) hsz hown' hgrow
    have hcr' := a1.cell
    have hfr' := a1.frozen
    have HA5 := Lib.hid a5
    clear a5
    go_wp2
    refine ⟨(KeepsOthers.drew W).trans a6, ⟨?ks, HA5.out _ (by omega) (by omega), HA5.out _ (by omega) (by omega), HA5.out _ (by omega) (by omega), fun ad e => HA5.out _ (by have := HA.out ad e; omega) (by have := HA.out ad e; omega)⟩, ?kb, ?kw, _, a2, ?ko⟩
    case ks => exact a4.size
    case kb => exact (HA5.out _ (by omega) (by omega)).trans HI.out.1
    case kw => exact HI.out.2.1.trans ⟨a4.os, a4.tape, a4.output, a4.size, fun k hk => a4.block k (by omega)⟩
    case ko => rw [gatherL_snoc, List.length_append, hpl]; exact a3
  case done =>
    rintro D W hD ⟨h1, h2, v, h3, h4⟩ hK
    have hcr := h3.cell
    have hfr := h3.frozen
    gi_wp2
    refine ⟨by simp, .inl ⟨_, _, rfl, run_takeDeferred hK, ?_⟩⟩
    exact ⟨_, results_tmp1 rfl _ _ _, v, rfl, ownsRow_putObj (owns_mono h4 (by omega)) _ hK rfl, h2.trans (belowK_b (w := w) (Nat.le_refl _) _ D _ _ (by omega) hK rfl rfl)⟩
  case stop =>
    intro D c pre W hD hpre h
    exact h.elim
end Go.Proofs.Ytbojagkalbfenaa
