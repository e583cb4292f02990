import Derived.Test.YtbojagkalbfenaaY3
namespace Go.Proofs.Ytbojagkalbfenaa
open Go.RowKit
attribute [local go_sem] Oper.semAt_some ints_get ints_size ints_getElem

def insideB (mlen : Nat) (xs : List (Int × Int)) : Bool := xs.all fun x => decide (x.1 + x.2 ≤ mlen)
theorem insideB_snoc (mlen : Nat) (pre : List (Int × Int)) (x : Int × Int) : insideB mlen (pre ++ [x]) = (insideB mlen pre && decide (x.1 + x.2 ≤ mlen)) := by simp [insideB]
theorem insideB_prefix {mlen : Nat} {pre xs : List (Int × Int)} (h : pre <+: xs) (hf : insideB mlen pre = false) : insideB mlen xs = false := by
  obtain ⟨q, rfl⟩ := h
  simp only [insideB, List.all_append] at hf ⊢
  rw [hf]; rfl

theorem results_cell1 {fn : Func} {p : Tmp} {ty : TypeId} (h : fn.results = #[.cell p ty]) (tmps : Array Value) (P : Program) (w : World) (a : Addr) (v : Value) (d : TypeDesc) (hp : tmps.getD p undef = .pointer (some a)) (hc : w.cell? a = some v)
    (hu : P.underlying ty = some d) (hd : (match d with | .struct _ | .array _ _ => true | _ => false) = false) : (results fn tmps).run P w = .ok v w := by
  have hp' : tmps[p]?.getD undef = .pointer (some a) := by simpa using hp
  have hagg : (isAgg ty).run P w = .ok false w := by
    unfold isAgg
    rw [Sem.run_bind, run_underlying hu w]
    cases d <;> simp_all
  simp [results, h, hp', asAddr, loadVar, Sem.run_bind, hagg, hc]

set_option maxHeartbeats 1000000 in
set_option maxRecDepth 100000 in
theorem inside_in (M : Option Addr) (mlen mcap : Nat) (A : Option Addr) (cap : Nat) (cs : List (Int × Int)) (off m : Int) (w : World) (hp : Pairs w A cs) (hA : ∀ ad, A = some ad → ad.block < w.heap.size)
    (hok : okP cs) (hoff : 0 ≤ off ∧ off ≤ 1099511627776) (hm : 0 ≤ m ∧ m ≤ 1099511627776) (hlen : cs.length ≤ 16) (hml : mlen ≤ 9223372036854775807) :
    CallsIn Fence.wide 5 Try.prog 34 #[.slice M mlen mcap, .slice A cs.length cap, .int .i64 off, .int .i64 m] w fun e w' => e = .returned (.bool (insideB mlen (slicedL cs off m))) ∧ Below w.heap.size w w' := by
  have HP := Lib.hid hp
  have HA := Lib.hid hA
  have HOK := Lib.hid hok
  clear hp hA hok
  refine callsIn_of_wp_marks Try.func34 rfl trivial ?_ rfl
  simp only [Try.ntmps34, List.size_toArray, List.length_cons, List.length_nil, Nat.reduceAdd, Nat.reduceSub, Array.replicate_succ, Array.replicate_zero, List.push_toArray, List.append_toArray, List.nil_append, List.cons_append]
  gi_wp2_with (refine ⟨trivial, ?_⟩; gi_at_call 40; refine (callsIn_wide.2 (sliced_calls _ _ _ _ _ _)).mono ?_; rintro e w' ⟨rfl, rfl⟩)
  obtain ⟨W0, hW0⟩ : ∃ W0, (w.alloc (.cells #[.slice M mlen mcap] 22)).alloc (.cells #[.bool false] 4) = W0 := ⟨_, rfl⟩
  have hs0 : w.heap.size + 1 + 1 = W0.heap.size := by rw [← hW0]; simp
  have hb0 : Below w.heap.size w W0 := by rw [← hW0]; exact ((Below.refl _ _).alloc (Nat.le_refl _) _).alloc (by simp) _
  have hm0 : Boxed W0 w.heap.size 22 (.slice M mlen mcap) := by rw [← hW0]; exact (Boxed.new w 22 _).alloc _
  have hr0 : Boxed W0 (w.heap.size + 1) 4 (.bool false) := by
    rw [← hW0]
    have := Boxed.new (w.alloc (.cells #[.slice M mlen mcap] 22)) 4 (.bool false)
    simpa using this
  rw [hW0, hs0]
  have hbs := slW_below W0 A cs.length cap off m
  refine range_sliced A cap cs off m W0 (HP.out.below hb0) (fun ad e => by have := HA.out ad e; omega) HOK.out hoff hm hlen rfl rfl
    (fun pre W => Boxed W w.heap.size 22 (.slice M mlen mcap) ∧ Boxed W (w.heap.size + 1) 4 (.bool false) ∧ Below w.heap.size w W ∧ insideB mlen pre = true)
    (fun c pre W => c = .ret ∧ Boxed W (w.heap.size + 1) 4 (.bool false) ∧ Below w.heap.size w W ∧ insideB mlen pre = false)
    (fun pre x a₁ W => (Boxed W w.heap.size 22 (.slice M mlen mcap) ∧ Boxed W (w.heap.size + 1) 4 (.bool false) ∧ Below w.heap.size w W ∧ insideB mlen pre = true) ∧ ∃ b, W0.heap.size + 3 ≤ b ∧ W.heap[b]? = some (.cells #[.int .i64 x.1, .int .i64 x.2] 44 (0, 0)) ∧
      a₁ = { tmps := #[.slice M mlen mcap, .slice A cs.length cap, .int .i64 off, .int .i64 m, .pointer (some ⟨w.heap.size, 0, none⟩), undef, undef, undef, .pointer (some ⟨w.heap.size + 1, 0, none⟩), .pointer (some ⟨b, 0, none⟩), .slice A cs.length cap, .int .i64 off, .int .i64 m,
        .func (.func 43) #[] #[.pointer (some ⟨W0.heap.size, 0, none⟩), .pointer (some ⟨W0.heap.size + 2, 0, none⟩), .pointer (some ⟨W0.heap.size + 1, 0, none⟩)], .agg #[.int .i64 x.1, .int .i64 x.2], undef, undef, undef, undef, undef, undef, undef, undef], defers := [] })
    (fun pre W W' h t => ⟨t.boxed h.1 (by omega) (by omega), t.boxed h.2.1 (by omega) (by omega), t.below h.2.2.1 (Nat.le_refl _) (by omega) (by omega) (by omega), h.2.2.2⟩)
    (fun c pre W W' h t => ⟨h.1, t.boxed h.2.1 (by omega) (by omega), t.below h.2.2.1 (Nat.le_refl _) (by omega) (by omega) (by omega), h.2.2.2⟩)
    (fun pre x a₁ W W' h t => ⟨⟨t.boxed h.1.1 (by omega) (by omega), t.boxed h.1.2.1 (by omega) (by omega), t.below h.1.2.2.1 (Nat.le_refl _) (by omega) (by omega) (by omega), h.1.2.2.2⟩, by
      obtain ⟨b, h1, h2, h3⟩ := h.2
      exact ⟨b, h1, t.cells h2 (by omega) (by omega), h3⟩⟩)
    ⟨(hbs.block _ hm0.lt).trans hm0, (hbs.block _ hr0.lt).trans hr0, below_then' hb0 hbs, rfl⟩
    ?assign ?body ?done ?stop
  case assign =>
    intro l pre x W K hI hsz hK
    gi_wp2
    exact hK _ _ (KeepsOthers.alloc _ _) ((Below.refl _ _).alloc (Nat.le_refl _) _) ⟨⟨hI.1.alloc _, hI.2.1.alloc _, hI.2.2.1.alloc hI.2.2.1.size _, hI.2.2.2⟩, _, hsz, heap_alloc_new _ _, rfl⟩
  case body =>
    rintro l pre ⟨x1, x2⟩ a₁ W hal ⟨hx0, hx1⟩ ⟨hy0, hy1⟩ hsz ⟨⟨hI1, hI2, hI3, hI4⟩, b, hb, hcell, rfl⟩
    have hcm := hI1.cell
    have hc0 : W.cell? ⟨b, 0, none⟩ = some (.int .i64 x1) := by rw [cell_of_row _ _ _ _ _ _ hcell]; rfl
    have hc1 : W.cell? ⟨b, 1, none⟩ = some (.int .i64 x2) := by rw [cell_of_row _ _ _ _ _ _ hcell]; rfl
    have hcr := hI2.cell
    have hfr := hI2.frozen
    have HI := Lib.hid (And.intro hI1 (And.intro hI2 (And.intro hI3 hI4)))
    simp only at hx0 hx1 hy0 hy1
    clear hI1 hI2 hI3 hI4
    by_cases hle : x1 + x2 ≤ mlen
    · gi_wp2
      exact ⟨KeepsOthers.refl _, keepS_below (Below.refl _ _) (by omega) (by omega) (by omega) (fun ad e => by have := HA.out ad e; have := hb0.size; omega), HI.out.1, HI.out.2.1, HI.out.2.2.1, by rw [insideB_snoc, HI.out.2.2.2]; simpa using hle⟩
    · gi_wp2
      exact ⟨KeepsOthers.setCell _ _ _, rfl, HI.out.2.1.set _, HI.out.2.2.1.setCell (by simp) _, by rw [insideB_snoc]; simp; intro _; omega⟩
  case done =>
    rintro D W hD ⟨h1, h2, h3, h4⟩ hK
    have hcr := h2.cell
    have hfr := h2.frozen
    gi_wp2
    refine ⟨by simp, .inl ⟨_, _, rfl, run_takeDeferred ((KeepsOthers.setCell _ _ _).same D _ hK rfl), ?_⟩⟩
    exact ⟨_, results_cell1 rfl _ _ _ ⟨w.heap.size + 1, 0, none⟩ (.bool true) _ rfl (by rw [World.cell?_of_block (w := W.setCell ⟨w.heap.size + 1, 0, none⟩ (.bool true)) (World.putObj_heap_other (by simp; omega))]; exact (h2.set _).cell) Try.underlying4 rfl,
      by rw [h4], (h3.setCell (by simp) _).trans (belowK_b (w := w) (Nat.le_refl _) _ D _ _ (by omega) ((KeepsOthers.setCell _ _ _).same D _ hK rfl) rfl rfl)⟩
  case stop =>
    rintro D c pre W hD hpre ⟨rfl, h2, h3, h4⟩ hK
    gi_wp2
    refine ⟨by simp, .inl ⟨_, _, rfl, run_takeDeferred hK, ?_⟩⟩
    exact ⟨_, results_cell1 rfl _ _ _ ⟨w.heap.size + 1, 0, none⟩ (.bool false) _ rfl (by rw [World.cell?_of_block (w := W) (World.putObj_heap_other (by simp; omega))]; exact h2.cell) Try.underlying4 rfl,
      by rw [insideB_prefix hpre h4], h3.trans (belowK_b (w := w) (Nat.le_refl _) _ D _ _ (by omega) hK rfl rfl)⟩
end Go.Proofs.Ytbojagkalbfenaa
