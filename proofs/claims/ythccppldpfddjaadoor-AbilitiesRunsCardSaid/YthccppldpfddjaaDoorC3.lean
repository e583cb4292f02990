/- derived (48): copies. -/
import Derived.Test.YthccppldpfddjaaDoorC2
namespace Go.Proofs.YthccppldpfddjaaDoor
open Go.RowKit
set_option linter.unusedVariables false
attribute [local go_sem] Oper.semAt_some
def derS (p : Rt → Bool) (S : St) (k : Nat) : St := fun i => if i < k ∧ p (S i) = true then S i else St0 i
theorem derS_skip {p : Rt → Bool} {S : St} {k : Nat} (h : p (S k) = false) : derS p S (k + 1) = derS p S k := by
  funext i
  unfold derS
  by_cases e : i = k
  · subst e; simp [h]
  · simp only [show i < k + 1 ↔ i < k by omega]
theorem derS_set {p : Rt → Bool} {S : St} {k : Nat} (h : p (S k) = true) : upd (derS p S k) k (S k) = derS p S (k + 1) := by
  funext i
  unfold upd derS
  by_cases e : i = k
  · subst e; simp [h]
  · rw [if_neg e]
    simp only [show i < k + 1 ↔ i < k by omega]
/-- What the loop of derived keeps. -/
structure DI (w : World) (p : Rt → Bool) (S : St) (n5 cb fc k : Nat) (W : World) : Prop where
  bel : Below w.heap.size w W
  bf : Boxed W w.heap.size 102 (.func (.func fc) #[] #[])
  b5 : Boxed W n5 24 (.pointer (some ⟨cb, 0, none⟩))
  tab : ∃ lv', RArr 64 77 43 W cb lv' (derS p S k)
  ge : w.heap.size < cb ∧ cb < n5
  sz : n5 + 1 < W.heap.size
theorem RArr.turn {n : Nat} {T E : TypeId} {A B : World} {t : Nat} {lv : Nat → Value} {S : Nat → Rt} (h : RArr n T E A t lv S) {s : Nat} (ht : ∀ b, Turn s b A B) : RArr n T E B t lv S := by
  obtain ⟨cs, h1, -, -⟩ := h.tab
  exact h.kept (((ht (t + 1)).cells h1 (by omega)).trans h1.symm) fun k cs fr hk => ((ht (k + 1)).cells hk (by omega)).trans hk.symm
theorem DI.turn {w : World} {p : Rt → Bool} {S : St} {n5 cb fc k : Nat} {A B : World} (h : DI w p S n5 cb fc k A) {s : Nat} (hs : w.heap.size ≤ s) (ht : ∀ b, Turn s b A B) : DI w p S n5 cb fc k B :=
  ⟨(ht w.heap.size).below h.bel (Nat.le_refl _) (Nat.le_refl _) hs, (ht (w.heap.size + 1)).boxed h.bf (by omega), (ht (n5 + 1)).boxed h.b5 (by omega), h.tab.imp fun _ h => h.turn ht, h.ge, Nat.lt_of_lt_of_le h.sz (ht 0).size⟩
theorem DI.below {w : World} {p : Rt → Bool} {S : St} {n5 cb fc k : Nat} {A B : World} (h : DI w p S n5 cb fc k A) (hb : Below A.heap.size A B) : DI w p S n5 cb fc k B :=
  ⟨h.bel.trans (hb.mono h.bel.size), (hb.block _ h.bf.lt).trans h.bf, (hb.block _ h.b5.lt).trans h.b5, h.tab.imp fun _ h => h.below hb, h.ge, Nat.lt_of_lt_of_le h.sz hb.size⟩
theorem DI.store {w : World} {p : Rt → Bool} {S : St} {n5 cb fc k : Nat} {A : World} (h : DI w p S n5 cb fc k A) (hk : k < 64) (hp : p (S k) = true) {v : Value} (hv : Ls A 43 v (S k).rs) :
    DI w p S n5 cb fc (k + 1) (set3 A cb (k * 3) v (.bool (S k).lk) (.bool (S k).inh)) := by
  obtain ⟨lv', h1⟩ := h.tab
  obtain ⟨g1, g2⟩ := h.ge
  refine ⟨h.bel.trans (set3_below _ _ _ _ (by omega)), (set3_other _ _ _ _ _ _ _ (by omega)).trans h.bf, (set3_other _ _ _ _ _ _ _ (by omega)).trans h.b5, ⟨upd lv' k v, ?_⟩, ⟨g1, g2⟩, Nat.lt_of_lt_of_le h.sz (set3_below (B := 0) (w := A) (t := cb) _ _ _ _ (Nat.zero_le _)).size⟩
  rw [← derS_set hp]
  exact h1.store (by decide) hk hv
theorem keepsO_set3 (W : World) (t o : Nat) (a b c : Value) : KeepsOthers W (set3 W t o a b c) := ((KeepsOthers.setCell _ _ _).trans (KeepsOthers.setCell _ _ _)).trans (KeepsOthers.setCell _ _ _)
set_option maxHeartbeats 8000000 in
set_option maxRecDepth 100000 in
theorem derived58_in (b : Nat) (lv : Nat → Value) (S : St) (w : World) (h : RArr 64 77 43 w b lv S) (hS : StOk S) :
    CallsIn Fence.wide 5 Tryd.prog 48 #[.pointer (some ⟨b, 0, none⟩), .func (.func 58) #[] #[]] w fun e w' => ∃ cb, e = .returned (.pointer (some ⟨cb, 0, none⟩)) ∧ w.heap.size < cb ∧ (∃ lv', RArr 64 77 43 w' cb lv' (derS (fun _ => true) S 64)) ∧ Below w.heap.size w w' := by
  have HA := Lib.hid (And.intro h hS)
  have HN := Lib.hid (new_calls (w.alloc (.cells #[.func (.func 58) #[] #[]] 102)))
  have HP := Lib.hid (allof_calls (.pointer (some ⟨b, 0, none⟩)) ⟨_, rfl⟩)
  have hbf := Boxed.new w 102 (.func (.func 58) #[] #[])
  have HF := Lib.hid hbf
  clear h hS hbf
  refine callsIn_of_wp_marks Tryd.func48 rfl trivial ?_ rfl
  simp only [Tryd.ntmps48, List.size_toArray, List.length_cons, List.length_nil, Nat.reduceAdd, Nat.reduceSub, Array.replicate_succ, Array.replicate_zero, List.push_toArray, List.append_toArray, List.nil_append, List.cons_append]
  gi_wp2_with (first
    | (refine ⟨trivial, ?_⟩; gi_at_call 10; refine (callsIn_wide.2 HN.out).mono ?_; rintro e w1 ⟨rfl, h1, h2⟩; have HW1 := Lib.hid (And.intro h1 h2); clear h1 h2)
    | (refine ⟨trivial, ?_⟩; gi_at_call 38; refine (callsIn_wide.2 (HP.out _)).mono ?_; rintro e w2 ⟨rfl, rfl⟩))
  obtain ⟨W1, hW1⟩ : ∃ W1, (w1.alloc (.cells #[.pointer (some ⟨w.heap.size + 1, 0, none⟩)] 24)).alloc (.cells #[.pointer (some ⟨b, 0, none⟩)] 127) = W1 := ⟨_, rfl⟩
  obtain ⟨n5, hn5⟩ : ∃ n5, w1.heap.size = n5 := ⟨_, rfl⟩
  have hs1 : W1.heap.size = n5 + 2 := by rw [← hW1, ← hn5]; simp
  have hn : w.heap.size + 1 < n5 := by
    obtain ⟨lv', h1⟩ := HW1.out.1
    have := h1.lt
    simp at this
    omega
  have hb1 : Below n5 w1 W1 := by rw [← hW1, ← hn5]; exact ((Below.refl _ _).alloc (Nat.le_refl _) _).alloc (by simp) _
  have hbx : Boxed W1 (n5 + 1) 127 (.pointer (some ⟨b, 0, none⟩)) := by
    rw [← hW1, ← hn5]
    have := Boxed.new (w1.alloc (.cells #[.pointer (some ⟨w.heap.size + 1, 0, none⟩)] 24)) 127 (.pointer (some ⟨b, 0, none⟩))
    simpa using this
  have hb5 : Boxed W1 n5 24 (.pointer (some ⟨w.heap.size + 1, 0, none⟩)) := by
    rw [← hW1, ← hn5]
    exact (Boxed.new w1 24 _).alloc _
  have hw1 : Below w.heap.size w w1 := ((Below.refl _ w).alloc (Nat.le_refl _) (.cells #[.func (.func 58) #[] #[]] 102)).trans (HW1.out.2.mono (by simp))
  have hD0 : DI w (fun _ => true) S n5 (w.heap.size + 1) 58 0 W1 := by
    refine ⟨hw1.trans (hb1.mono (by omega)), ?_, hb5, ?_, ⟨by omega, hn⟩, by omega⟩
    · refine (hb1.block _ (by omega)).trans ((HW1.out.2.block _ (by simp)).trans HF.out)
    · obtain ⟨lv', h1⟩ := HW1.out.1
      simp only [World.size_alloc] at h1
      exact ⟨lv', (h1.below (by rw [hn5]; exact hb1)).congr (fun i _ => by simp [derS])⟩
  rw [hW1]
  rw [hn5]
  have HS1 := Lib.hid (And.intro hs1 (And.intro hn hbx))
  have HD0 := Lib.hid hD0
  clear hs1 hb1 hbx hb5 hw1 hD0 hW1 HF HW1 HN
  clear hn5 w1
  have HQ := Lib.hid hn
  clear hn
  refine wpIn_rangeFunc_B (α := Nat) rfl (by omega) (gf := 62) rfl trivial (enters_of Tryd.func62 (by kernel_rfl) rfl) (all_seq (n5 + 1) b W1 HS1.out.2.2) (fun h k => h.trans k)
    (fun W l o o' h1 h2 h3 _ => keepB_put (by have := HS1.out; omega)) (Below.refl _ _) (by intro k hk; exact hk.elim) (fun _ => rfl)
    (fun pre W => DI w (fun _ => true) S n5 (w.heap.size + 1) 58 pre.length W)
    (fun _ _ _ => False)
    (fun s A B row hs hg hr => DI.turn hs (s := W1.heap.size) (by have := HS1.out; omega) fun b => Turn.of_own hg hr)
    (fun s A B hs hb => DI.turn hs (s := W1.heap.size) (by have := HS1.out; omega) fun b => Turn.of_but' hb)
    (fun c s A B row hs hg hr => hs)
    HD0.out
    (fun pre x a₁ W => DI w (fun _ => true) S n5 (w.heap.size + 1) 58 pre.length W ∧ ∃ b6, W.heap[b6]? = some (.cells #[.int .i64 ((x / 32 : Nat) : Int), .int .i64 ((x % 32 : Nat) : Int)] 87 (0, 0)) ∧
      a₁ = { tmps := #[.pointer (some ⟨b, 0, none⟩), .func (.func 58) #[] #[], undef, .pointer (some ⟨w.heap.size, 0, none⟩), .pointer none, .pointer (some ⟨n5, 0, none⟩), .pointer (some ⟨b6, 0, none⟩), .pointer (some ⟨b, x * 3, none⟩),
        .pointer (some ⟨b, 0, none⟩), .bool false, .pointer (some ⟨w.heap.size + 1, 0, none⟩), .pointer (some ⟨b, 0, none⟩), .pointer (some ⟨b, 0, none⟩), .pointer (some ⟨b, 0, none⟩), .func (.func 62) #[] #[.pointer (some ⟨n5 + 1, 0, none⟩)],
        .agg #[.int .i64 ((x / 32 : Nat) : Int), .int .i64 ((x % 32 : Nat) : Int)], .pointer (some ⟨b, x * 3, none⟩), undef, undef, undef, undef, undef, undef, undef, undef, undef, undef, undef, undef, undef, undef, undef, undef, undef], defers := [] })
    ?hAx
    ?assign ?body ?done ?stop
  case hAx =>
    rintro pre x a₁ s A B row ⟨h3, b6, h4, h5⟩ hg hr
    have t : ∀ b, Turn W1.heap.size b A B := fun b => Turn.of_own hg hr
    exact ⟨h3.turn (by have := HS1.out; omega) t, b6, (t (b6 + 1)).cells h4 (by omega), h5⟩
  case assign =>
    intro l pre x W K hI hal hK
    unfold encI
    have hbe := hI.below ((Below.refl _ W).alloc (Nat.le_refl _) (.cells #[.int .i64 ((x / 32 : Nat) : Int), .int .i64 ((x % 32 : Nat) : Int)] 87))
    have hsz := hI.sz
    generalize x / 32 = d at *
    generalize x % 32 = j at *
    gi_wp2
    exact hK _ _ (KeepsOthers.alloc W _) (keepB_below ((Below.refl _ _).alloc (Nat.le_refl _) _) hsz) ⟨hbe, _, heap_alloc_new W _, rfl⟩
  case body =>
    rintro l pre x a₁ W ⟨hx, rfl⟩ ⟨hI, b6, h6, rfl⟩
    rw [List.length_range] at hI
    have hcf := hI.bf.cell
    have HI := Lib.hid (And.intro hI h6)
    have ho : x / 32 * 96 + x % 32 * 3 = x * 3 := by omega
    have hd2 : x / 32 < 2 := by omega
    have hj2 : x % 32 < 32 := by omega
    have HR := Lib.hid (HA.out.1.below hI.bel)
    obtain ⟨A1, cp1, hv1, -, -, -, -⟩ := Rw.form (HR.out.row x hx)
    have HF2 := Lib.hid (show ∀ w', Below W.heap.size W w' → w'.cell? ⟨n5, 0, none⟩ = some (.pointer (some ⟨w.heap.size + 1, 0, none⟩)) ∧ w'.cell? ⟨b6, 0, none⟩ = some (.int .i64 ((x / 32 : Nat) : Int)) ∧ w'.cell? ⟨b6, 1, none⟩ = some (.int .i64 ((x % 32 : Nat) : Int)) ∧
        w'.cell? ⟨b, x * 3, none⟩ = some (.slice A1 (S x).rs.length cp1) ∧ w'.cell? ⟨b, x * 3 + 1, none⟩ = some (.bool (S x).lk) ∧ w'.cell? ⟨b, x * 3 + 2, none⟩ = some (.bool (S x).inh) from fun w' hw => by
      have e6 := (hw.block b6 (Array.getElem?_eq_some_iff.1 HI.out.2).1).trans HI.out.2
      obtain ⟨q0, q1, q2⟩ := (HR.out.below hw).three hx
      rw [hv1] at q0
      exact ⟨(HI.out.1.below hw).b5.cell, by rw [cell_of_row _ _ _ _ _ _ e6]; rfl, by rw [cell_of_row _ _ _ _ _ _ e6]; rfl, q0, q1, q2⟩)
    have HCP := Lib.hid (fun W' (hW : Below W.heap.size W W') => copied_calls (S x) (lv x) W' ((HR.out.row x hx).below hW) (by have := (HA.out.2 x hx).2; omega))
    unfold rv at HCP
    rw [hv1] at HCP
    have HX := Lib.hid (And.intro hx (And.intro ho (And.intro hd2 hj2)))
    skip
    clear hI h6 hv1 ho hd2 hj2 hx
    generalize x / 32 = d at *
    generalize x % 32 = j at *
    gi_wp2_with (refine ⟨trivial, ?_⟩; gi_at_call 58; refine (callsIn_round (copy1_calls _ _)).mono ?_; rintro e w2 ⟨rfl, hb2⟩; have HB2 := Lib.hid hb2; clear hb2)
    gi_wp2
    apply EndsIn.splitV (G := fun v w4 => ∃ w3 A c, Below W.heap.size W w3 ∧ v = .agg #[.slice A (S x).rs.length c, .bool (S x).lk, .bool (S x).inh] ∧ Ls w3 43 (.slice A (S x).rs.length c) (S x).rs ∧ w4 = set3 w3 (w.heap.size + 1) (x * 3) (.slice A (S x).rs.length c) (.bool (S x).lk) (.bool (S x).inh))
    case walk =>
      have hdi : (d : Int) < 2 := by have := HX.out.2.2.1; omega
      have hji : (j : Int) < 32 := by have := HX.out.2.2.2; omega
      refine wpIn_round_mid 13 [0, 1, 2, 3, 4, 5, 6, 7, 9, 10, 11] [8, 12] (fun w' => Below W.heap.size W w')
        [.pointer (some ⟨w.heap.size + 1, 0, none⟩), .pointer (some ⟨b6, 0, none⟩), .int .i64 d, .pointer (some ⟨b6, 1, none⟩), .int .i64 j, .pointer (some ⟨b, x * 3, none⟩), .pointer (some ⟨b, x * 3, none⟩), .agg #[.slice A1 (S x).rs.length cp1, .bool (S x).lk, .bool (S x).inh],
          .pointer (some ⟨w.heap.size + 1, 0, none⟩), .pointer (some ⟨w.heap.size + 1, 0, none⟩), .pointer (some ⟨w.heap.size + 1, d * 96, none⟩)]
        Ends.stays (by rfl) (by kernel_rfl) (by kernel_rfl) (fun _ _ _ _ _ h => h) (Below.drew HB2.out) ?heads ?_
      case heads =>
        refine ⟨.inl ⟨rfl, fun w' hw => ?_⟩, .inl ⟨rfl, fun w' hw => ?_⟩, .inl ⟨rfl, fun w' hw => ?_⟩, .inl ⟨rfl, fun w' hw => ?_⟩, .inl ⟨rfl, fun w' hw => ?_⟩, .inl ⟨rfl, fun w' hw => ?_⟩, .inl ⟨rfl, fun w' hw => ?_⟩, .inl ⟨rfl, fun w' hw => ?_⟩, .inl ⟨rfl, fun w' hw => ?_⟩, .inl ⟨rfl, fun w' hw => ?_⟩, .inl ⟨rfl, fun w' hw => ?_⟩, trivial⟩ <;>
          (obtain ⟨f1, f2, f3, f4, f5, f6⟩ := HF2.out w' hw; show (execOp _ _).run Tryd.prog w' = _; go_simp)
      simp only [List.drop_succ_cons, List.drop_zero, putIdx, Act.put, List.getElem?_cons_zero, List.getElem?_cons_succ, List.setIfInBounds_toArray, List.set_cons_zero, List.set_cons_succ]
      refine wpMids_cons rfl fun K hK => ?_
      refine if_wanted rfl (step_call 47 _ _ rfl (fun _ _ => rfl) [.agg #[.slice A1 (S x).rs.length cp1, .bool (S x).lk, .bool (S x).inh]] rfl (HCP.out _ (Below.drew HB2.out)) ?_)
      rintro e w3 ⟨v', rfl, h1, h2⟩
      obtain ⟨A', c', rfl, -, -, -, -⟩ := Rw.form h1
      have HB3 := Lib.hid (show Below W.heap.size W w3 from (Below.drew HB2.out).trans (h2.mono (Below.drew HB2.out).size))
      refine ⟨_, rfl, hK _ _ HB3.out ?_⟩
      obtain ⟨lv', hr⟩ := (HI.out.1.below HB3.out).tab
      obtain ⟨c0, c1, c2⟩ := hr.three HX.out.1
      have f0 := hr.frozen (x * 3)
      have f1 := hr.frozen (x * 3 + 1)
      have f2 := hr.frozen (x * 3 + 2)
      have HY := Lib.hid h1
      have ho := HX.out.2.1
      clear h1 h2 hK K hr
      try simp only [Act.put, List.setIfInBounds_toArray, List.set_cons_zero, List.set_cons_succ]
      refine wpMids_cons rfl fun K hK => ?_
      go_simp
      refine hK _ _ HB3.out ?_
      clear hK K
      try simp only [Act.put, List.setIfInBounds_toArray, List.set_cons_zero, List.set_cons_succ]
      refine wpMids_nil ?_
      go_wp2
      generalize hV : Value.agg #[Value.slice A' (S x).rs.length c', Value.bool (S x).lk, Value.bool (S x).inh] = V
      apply Ends.mk
      exact ⟨V, rfl, w3, A', c', HB3.out, hV.symm, HY.out, rfl⟩
    case imp =>
      rintro v w4 ⟨w3, A, c, hb, rfl, hv, rfl⟩
      have HN := Lib.hid (DI.store (HI.out.1.below hb) HX.out.1 rfl hv)
      have HKO := Lib.hid ((keepsO_below hb).trans (keepsO_set3 w3 (w.heap.size + 1) (x * 3) (.slice A (S x).rs.length c) (.bool (S x).lk) (.bool (S x).inh)))
      have HKB := Lib.hid (show KeepB (n5 + 1) W (set3 w3 (w.heap.size + 1) (x * 3) (.slice A (S x).rs.length c) (.bool (S x).lk) (.bool (S x).inh)) from ⟨HKO.out.size, (set3_other _ _ _ _ _ _ _ (by have := HI.out.1.ge; omega)).trans (hb.block _ HI.out.1.sz)⟩)
      clear hb hv HI
      gi_wp2
      exact ⟨HKO.out, HKB.out, by show DI _ _ _ _ _ _ (List.length _) _; rw [List.length_append, List.length_range]; exact HN.out⟩
  case done =>
    rintro D xs W hD rfl hI hK
    rw [List.length_range] at hI
    have hc5 := hI.b5.cell
    have HI := Lib.hid (And.intro hI hK)
    clear hI hK
    gi_wp2
    refine ⟨by simp, .inl ⟨_, _, rfl, run_takeDeferred HI.out.2, ?_⟩⟩
    have hcl : ∀ (k : Nat) (cs : Array Value) (t : TypeId) (fr : Nat × Nat), W.heap[k]? = some (.cells cs t fr) → k ≠ D := by
      rintro k cs t fr h1 rfl
      have h2 := HI.out.2
      rw [h1] at h2
      cases h2
    refine ⟨_, results_tmp rfl _ _ _, _, rfl, by omega, ?_, HI.out.1.bel.trans (belowK_b (w := w) (Nat.le_refl _) _ D _ _ (by have := HS1.out; omega) HI.out.2 rfl rfl)⟩
    obtain ⟨lv', h1⟩ := HI.out.1.tab
    obtain ⟨cs, h2, -, -⟩ := h1.tab
    exact ⟨lv', h1.kept (World.putObj_heap_other (hcl _ _ _ _ h2)) fun k cs fr hk => World.putObj_heap_other (hcl _ _ _ _ hk)⟩
  case stop =>
    intro D c pre W hD hpre h hK
    exact h.elim
set_option maxHeartbeats 8000000 in
set_option maxRecDepth 100000 in
theorem derived49_in (b : Nat) (lv : Nat → Value) (S : St) (w : World) (h : RArr 64 77 43 w b lv S) (hS : StOk S) :
    CallsIn Fence.wide 5 Tryd.prog 48 #[.pointer (some ⟨b, 0, none⟩), .func (.func 49) #[] #[]] w fun e w' => ∃ cb, e = .returned (.pointer (some ⟨cb, 0, none⟩)) ∧ w.heap.size < cb ∧ (∃ lv', RArr 64 77 43 w' cb lv' (derS (fun r => r.lk || r.inh) S 64)) ∧ Below w.heap.size w w' := by
  have HA := Lib.hid (And.intro h hS)
  have HN := Lib.hid (new_calls (w.alloc (.cells #[.func (.func 49) #[] #[]] 102)))
  have HP := Lib.hid (allof_calls (.pointer (some ⟨b, 0, none⟩)) ⟨_, rfl⟩)
  have hbf := Boxed.new w 102 (.func (.func 49) #[] #[])
  have HF := Lib.hid hbf
  clear h hS hbf
  refine callsIn_of_wp_marks Tryd.func48 rfl trivial ?_ rfl
  simp only [Tryd.ntmps48, List.size_toArray, List.length_cons, List.length_nil, Nat.reduceAdd, Nat.reduceSub, Array.replicate_succ, Array.replicate_zero, List.push_toArray, List.append_toArray, List.nil_append, List.cons_append]
  gi_wp2_with (first
    | (refine ⟨trivial, ?_⟩; gi_at_call 10; refine (callsIn_wide.2 HN.out).mono ?_; rintro e w1 ⟨rfl, h1, h2⟩; have HW1 := Lib.hid (And.intro h1 h2); clear h1 h2)
    | (refine ⟨trivial, ?_⟩; gi_at_call 38; refine (callsIn_wide.2 (HP.out _)).mono ?_; rintro e w2 ⟨rfl, rfl⟩))
  obtain ⟨W1, hW1⟩ : ∃ W1, (w1.alloc (.cells #[.pointer (some ⟨w.heap.size + 1, 0, none⟩)] 24)).alloc (.cells #[.pointer (some ⟨b, 0, none⟩)] 127) = W1 := ⟨_, rfl⟩
  obtain ⟨n5, hn5⟩ : ∃ n5, w1.heap.size = n5 := ⟨_, rfl⟩
  have hs1 : W1.heap.size = n5 + 2 := by rw [← hW1, ← hn5]; simp
  have hn : w.heap.size + 1 < n5 := by
    obtain ⟨lv', h1⟩ := HW1.out.1
    have := h1.lt
    simp at this
    omega
  have hb1 : Below n5 w1 W1 := by rw [← hW1, ← hn5]; exact ((Below.refl _ _).alloc (Nat.le_refl _) _).alloc (by simp) _
  have hbx : Boxed W1 (n5 + 1) 127 (.pointer (some ⟨b, 0, none⟩)) := by
    rw [← hW1, ← hn5]
    have := Boxed.new (w1.alloc (.cells #[.pointer (some ⟨w.heap.size + 1, 0, none⟩)] 24)) 127 (.pointer (some ⟨b, 0, none⟩))
    simpa using this
  have hb5 : Boxed W1 n5 24 (.pointer (some ⟨w.heap.size + 1, 0, none⟩)) := by
    rw [← hW1, ← hn5]
    exact (Boxed.new w1 24 _).alloc _
  have hw1 : Below w.heap.size w w1 := ((Below.refl _ w).alloc (Nat.le_refl _) (.cells #[.func (.func 49) #[] #[]] 102)).trans (HW1.out.2.mono (by simp))
  have hD0 : DI w (fun r => r.lk || r.inh) S n5 (w.heap.size + 1) 49 0 W1 := by
    refine ⟨hw1.trans (hb1.mono (by omega)), ?_, hb5, ?_, ⟨by omega, hn⟩, by omega⟩
    · refine (hb1.block _ (by omega)).trans ((HW1.out.2.block _ (by simp)).trans HF.out)
    · obtain ⟨lv', h1⟩ := HW1.out.1
      simp only [World.size_alloc] at h1
      exact ⟨lv', (h1.below (by rw [hn5]; exact hb1)).congr (fun i _ => by simp [derS])⟩
  rw [hW1]
  rw [hn5]
  have HS1 := Lib.hid (And.intro hs1 (And.intro hn hbx))
  have HD0 := Lib.hid hD0
  clear hs1 hb1 hbx hb5 hw1 hD0 hW1 HF HW1 HN
  clear hn5 w1
  have HQ := Lib.hid hn
  clear hn
  refine wpIn_rangeFunc_B (α := Nat) rfl (by omega) (gf := 62) rfl trivial (enters_of Tryd.func62 (by kernel_rfl) rfl) (all_seq (n5 + 1) b W1 HS1.out.2.2) (fun h k => h.trans k)
    (fun W l o o' h1 h2 h3 _ => keepB_put (by have := HS1.out; omega)) (Below.refl _ _) (by intro k hk; exact hk.elim) (fun _ => rfl)
    (fun pre W => DI w (fun r => r.lk || r.inh) S n5 (w.heap.size + 1) 49 pre.length W)
    (fun _ _ _ => False)
    (fun s A B row hs hg hr => DI.turn hs (s := W1.heap.size) (by have := HS1.out; omega) fun b => Turn.of_own hg hr)
    (fun s A B hs hb => DI.turn hs (s := W1.heap.size) (by have := HS1.out; omega) fun b => Turn.of_but' hb)
    (fun c s A B row hs hg hr => hs)
    HD0.out
    (fun pre x a₁ W => DI w (fun r => r.lk || r.inh) S n5 (w.heap.size + 1) 49 pre.length W ∧ ∃ b6, W.heap[b6]? = some (.cells #[.int .i64 ((x / 32 : Nat) : Int), .int .i64 ((x % 32 : Nat) : Int)] 87 (0, 0)) ∧
      a₁ = { tmps := #[.pointer (some ⟨b, 0, none⟩), .func (.func 49) #[] #[], undef, .pointer (some ⟨w.heap.size, 0, none⟩), .pointer none, .pointer (some ⟨n5, 0, none⟩), .pointer (some ⟨b6, 0, none⟩), .pointer (some ⟨b, x * 3, none⟩),
        .pointer (some ⟨b, 0, none⟩), .bool false, .pointer (some ⟨w.heap.size + 1, 0, none⟩), .pointer (some ⟨b, 0, none⟩), .pointer (some ⟨b, 0, none⟩), .pointer (some ⟨b, 0, none⟩), .func (.func 62) #[] #[.pointer (some ⟨n5 + 1, 0, none⟩)],
        .agg #[.int .i64 ((x / 32 : Nat) : Int), .int .i64 ((x % 32 : Nat) : Int)], .pointer (some ⟨b, x * 3, none⟩), undef, undef, undef, undef, undef, undef, undef, undef, undef, undef, undef, undef, undef, undef, undef, undef, undef], defers := [] })
    ?hAx
    ?assign ?body ?done ?stop
  case hAx =>
    rintro pre x a₁ s A B row ⟨h3, b6, h4, h5⟩ hg hr
    have t : ∀ b, Turn W1.heap.size b A B := fun b => Turn.of_own hg hr
    exact ⟨h3.turn (by have := HS1.out; omega) t, b6, (t (b6 + 1)).cells h4 (by omega), h5⟩
  case assign =>
    intro l pre x W K hI hal hK
    unfold encI
    have hbe := hI.below ((Below.refl _ W).alloc (Nat.le_refl _) (.cells #[.int .i64 ((x / 32 : Nat) : Int), .int .i64 ((x % 32 : Nat) : Int)] 87))
    have hsz := hI.sz
    generalize x / 32 = d at *
    generalize x % 32 = j at *
    gi_wp2
    exact hK _ _ (KeepsOthers.alloc W _) (keepB_below ((Below.refl _ _).alloc (Nat.le_refl _) _) hsz) ⟨hbe, _, heap_alloc_new W _, rfl⟩
  case body =>
    rintro l pre x a₁ W ⟨hx, rfl⟩ ⟨hI, b6, h6, rfl⟩
    rw [List.length_range] at hI
    have hcf := hI.bf.cell
    have HI := Lib.hid (And.intro hI h6)
    have ho : x / 32 * 96 + x % 32 * 3 = x * 3 := by omega
    have hd2 : x / 32 < 2 := by omega
    have hj2 : x % 32 < 32 := by omega
    have HR := Lib.hid (HA.out.1.below hI.bel)
    obtain ⟨A1, cp1, hv1, -, -, -, -⟩ := Rw.form (HR.out.row x hx)
    have HF2 := Lib.hid (show ∀ w', Below W.heap.size W w' → w'.cell? ⟨n5, 0, none⟩ = some (.pointer (some ⟨w.heap.size + 1, 0, none⟩)) ∧ w'.cell? ⟨b6, 0, none⟩ = some (.int .i64 ((x / 32 : Nat) : Int)) ∧ w'.cell? ⟨b6, 1, none⟩ = some (.int .i64 ((x % 32 : Nat) : Int)) ∧
        w'.cell? ⟨b, x * 3, none⟩ = some (.slice A1 (S x).rs.length cp1) ∧ w'.cell? ⟨b, x * 3 + 1, none⟩ = some (.bool (S x).lk) ∧ w'.cell? ⟨b, x * 3 + 2, none⟩ = some (.bool (S x).inh) from fun w' hw => by
      have e6 := (hw.block b6 (Array.getElem?_eq_some_iff.1 HI.out.2).1).trans HI.out.2
      obtain ⟨q0, q1, q2⟩ := (HR.out.below hw).three hx
      rw [hv1] at q0
      exact ⟨(HI.out.1.below hw).b5.cell, by rw [cell_of_row _ _ _ _ _ _ e6]; rfl, by rw [cell_of_row _ _ _ _ _ _ e6]; rfl, q0, q1, q2⟩)
    have HCP := Lib.hid (fun W' (hW : Below W.heap.size W W') => copied_calls (S x) (lv x) W' ((HR.out.row x hx).below hW) (by have := (HA.out.2 x hx).2; omega))
    unfold rv at HCP
    rw [hv1] at HCP
    have HX := Lib.hid (And.intro hx (And.intro ho (And.intro hd2 hj2)))
    have HC1 := Lib.hid (fun W' (hW : Below W.heap.size W W') => child1_calls b x lv S W' (HR.out.below hW) hx)
    clear hI h6 hv1 ho hd2 hj2 hx
    generalize x / 32 = d at *
    generalize x % 32 = j at *
    have HPT0 := Lib.hid (show ∀ c, ((S x).lk || (S x).inh) = c → (fun r => r.lk || r.inh) (S x) = c from fun c h => h)
    cases hp : ((S x).lk || (S x).inh)
    · rw [hp] at HC1
      have HPT := Lib.hid (HPT0.out _ hp)
      clear hp
      gi_wp2_with (refine ⟨trivial, ?_⟩; gi_at_call 49; refine (callsIn_round (HC1.out _ (Below.refl _ _))).mono ?_; rintro e w2 ⟨rfl, hb2⟩; have HB2 := Lib.hid hb2; clear hb2)
      exact ⟨keepsO_below HB2.out, ⟨HB2.out.size, HB2.out.block _ HI.out.1.sz⟩, by show DI _ _ _ _ _ _ (List.length _) _; rw [List.length_append, List.length_range]; have := HI.out.1.below HB2.out; exact ⟨this.bel, this.bf, this.b5, by rw [show (List.length [x]) = 1 from rfl, derS_skip HPT.out]; exact this.tab, this.ge, this.sz⟩⟩
    · rw [hp] at HC1
      have HPT := Lib.hid (HPT0.out _ hp)
      clear hp
      gi_wp2_with (refine ⟨trivial, ?_⟩; gi_at_call 49; refine (callsIn_round (HC1.out _ (Below.refl _ _))).mono ?_; rintro e w2 ⟨rfl, hb2⟩; have HB2 := Lib.hid hb2; clear hb2)
      gi_wp2
      apply EndsIn.splitV (G := fun v w4 => ∃ w3 A c, Below W.heap.size W w3 ∧ v = .agg #[.slice A (S x).rs.length c, .bool (S x).lk, .bool (S x).inh] ∧ Ls w3 43 (.slice A (S x).rs.length c) (S x).rs ∧ w4 = set3 w3 (w.heap.size + 1) (x * 3) (.slice A (S x).rs.length c) (.bool (S x).lk) (.bool (S x).inh))
      case walk =>
        have hdi : (d : Int) < 2 := by have := HX.out.2.2.1; omega
        have hji : (j : Int) < 32 := by have := HX.out.2.2.2; omega
        refine wpIn_round_mid 13 [0, 1, 2, 3, 4, 5, 6, 7, 9, 10, 11] [8, 12] (fun w' => Below W.heap.size W w')
          [.pointer (some ⟨w.heap.size + 1, 0, none⟩), .pointer (some ⟨b6, 0, none⟩), .int .i64 d, .pointer (some ⟨b6, 1, none⟩), .int .i64 j, .pointer (some ⟨b, x * 3, none⟩), .pointer (some ⟨b, x * 3, none⟩), .agg #[.slice A1 (S x).rs.length cp1, .bool (S x).lk, .bool (S x).inh],
            .pointer (some ⟨w.heap.size + 1, 0, none⟩), .pointer (some ⟨w.heap.size + 1, 0, none⟩), .pointer (some ⟨w.heap.size + 1, d * 96, none⟩)]
          Ends.stays (by rfl) (by kernel_rfl) (by kernel_rfl) (fun _ _ _ _ _ h => h) (Below.drew HB2.out) ?heads ?_
        case heads =>
          refine ⟨.inl ⟨rfl, fun w' hw => ?_⟩, .inl ⟨rfl, fun w' hw => ?_⟩, .inl ⟨rfl, fun w' hw => ?_⟩, .inl ⟨rfl, fun w' hw => ?_⟩, .inl ⟨rfl, fun w' hw => ?_⟩, .inl ⟨rfl, fun w' hw => ?_⟩, .inl ⟨rfl, fun w' hw => ?_⟩, .inl ⟨rfl, fun w' hw => ?_⟩, .inl ⟨rfl, fun w' hw => ?_⟩, .inl ⟨rfl, fun w' hw => ?_⟩, .inl ⟨rfl, fun w' hw => ?_⟩, trivial⟩ <;>
            (obtain ⟨f1, f2, f3, f4, f5, f6⟩ := HF2.out w' hw; show (execOp _ _).run Tryd.prog w' = _; go_simp)
        simp only [List.drop_succ_cons, List.drop_zero, putIdx, Act.put, List.getElem?_cons_zero, List.getElem?_cons_succ, List.setIfInBounds_toArray, List.set_cons_zero, List.set_cons_succ]
        refine wpMids_cons rfl fun K hK => ?_
        refine if_wanted rfl (step_call 47 _ _ rfl (fun _ _ => rfl) [.agg #[.slice A1 (S x).rs.length cp1, .bool (S x).lk, .bool (S x).inh]] rfl (HCP.out _ (Below.drew HB2.out)) ?_)
        rintro e w3 ⟨v', rfl, h1, h2⟩
        obtain ⟨A', c', rfl, -, -, -, -⟩ := Rw.form h1
        have HB3 := Lib.hid (show Below W.heap.size W w3 from (Below.drew HB2.out).trans (h2.mono (Below.drew HB2.out).size))
        refine ⟨_, rfl, hK _ _ HB3.out ?_⟩
        obtain ⟨lv', hr⟩ := (HI.out.1.below HB3.out).tab
        obtain ⟨c0, c1, c2⟩ := hr.three HX.out.1
        have f0 := hr.frozen (x * 3)
        have f1 := hr.frozen (x * 3 + 1)
        have f2 := hr.frozen (x * 3 + 2)
        have HY := Lib.hid h1
        have ho := HX.out.2.1
        clear h1 h2 hK K hr
        try simp only [Act.put, List.setIfInBounds_toArray, List.set_cons_zero, List.set_cons_succ]
        refine wpMids_cons rfl fun K hK => ?_
        go_simp
        refine hK _ _ HB3.out ?_
        clear hK K
        try simp only [Act.put, List.setIfInBounds_toArray, List.set_cons_zero, List.set_cons_succ]
        refine wpMids_nil ?_
        go_wp2
        generalize hV : Value.agg #[Value.slice A' (S x).rs.length c', Value.bool (S x).lk, Value.bool (S x).inh] = V
        apply Ends.mk
        exact ⟨V, rfl, w3, A', c', HB3.out, hV.symm, HY.out, rfl⟩
      case imp =>
        rintro v w4 ⟨w3, A, c, hb, rfl, hv, rfl⟩
        have HN := Lib.hid (DI.store (HI.out.1.below hb) HX.out.1 HPT.out hv)
        have HKO := Lib.hid ((keepsO_below hb).trans (keepsO_set3 w3 (w.heap.size + 1) (x * 3) (.slice A (S x).rs.length c) (.bool (S x).lk) (.bool (S x).inh)))
        have HKB := Lib.hid (show KeepB (n5 + 1) W (set3 w3 (w.heap.size + 1) (x * 3) (.slice A (S x).rs.length c) (.bool (S x).lk) (.bool (S x).inh)) from ⟨HKO.out.size, (set3_other _ _ _ _ _ _ _ (by have := HI.out.1.ge; omega)).trans (hb.block _ HI.out.1.sz)⟩)
        clear hb hv HI
        gi_wp2
        exact ⟨HKO.out, HKB.out, by show DI _ _ _ _ _ _ (List.length _) _; rw [List.length_append, List.length_range]; exact HN.out⟩
  case done =>
    rintro D xs W hD rfl hI hK
    rw [List.length_range] at hI
    have hc5 := hI.b5.cell
    have HI := Lib.hid (And.intro hI hK)
    clear hI hK
    gi_wp2
    refine ⟨by simp, .inl ⟨_, _, rfl, run_takeDeferred HI.out.2, ?_⟩⟩
    have hcl : ∀ (k : Nat) (cs : Array Value) (t : TypeId) (fr : Nat × Nat), W.heap[k]? = some (.cells cs t fr) → k ≠ D := by
      rintro k cs t fr h1 rfl
      have h2 := HI.out.2
      rw [h1] at h2
      cases h2
    refine ⟨_, results_tmp rfl _ _ _, _, rfl, by omega, ?_, HI.out.1.bel.trans (belowK_b (w := w) (Nat.le_refl _) _ D _ _ (by have := HS1.out; omega) HI.out.2 rfl rfl)⟩
    obtain ⟨lv', h1⟩ := HI.out.1.tab
    obtain ⟨cs, h2, -, -⟩ := h1.tab
    exact ⟨lv', h1.kept (World.putObj_heap_other (hcl _ _ _ _ h2)) fun k cs fr hk => World.putObj_heap_other (hcl _ _ _ _ hk)⟩
  case stop =>
    intro D c pre W hD hpre h hK
    exact h.elim
/-- Copy (22). -/
theorem set_copy_calls (b : Nat) (lv : Nat → Value) (S : St) (w : World) (h : RArr 64 77 43 w b lv S) (hS : StOk S) :
    Calls Tryd.prog 22 #[.pointer (some ⟨b, 0, none⟩)] w fun e w' => ∃ cb, e = .returned (.pointer (some ⟨cb, 0, none⟩)) ∧ w.heap.size < cb ∧ (∃ lv', RArr 64 77 43 w' cb lv' S) ∧ Below w.heap.size w w' := by
  have HC := Lib.hid ((callsIn_wide (n := 5)).1 (derived58_in b lv S w h hS))
  clear h hS
  go_enter Tryd.func22, Tryd.ntmps22
  go_wp2_with (go_at_call 48; refine HC.out.mono ?_; rintro e w1 ⟨cb, rfl, h1, ⟨lv', h2⟩, h3⟩; have HB := Lib.hid (And.intro h1 (And.intro h2 h3)); clear h1 h2 h3)
  go_ret
  exact ⟨cb, rfl, HB.out.1, ⟨lv', HB.out.2.1.congr (fun i hi => by simp [derS, hi])⟩, HB.out.2.2⟩
/-- Child (15). -/
theorem set_child_calls (b : Nat) (lv : Nat → Value) (S : St) (w : World) (h : RArr 64 77 43 w b lv S) (hS : StOk S) :
    Calls Tryd.prog 15 #[.pointer (some ⟨b, 0, none⟩)] w fun e w' => ∃ cb, e = .returned (.pointer (some ⟨cb, 0, none⟩)) ∧ w.heap.size < cb ∧ (∃ lv', RArr 64 77 43 w' cb lv' (childS S)) ∧ Below w.heap.size w w' := by
  have HC := Lib.hid ((callsIn_wide (n := 5)).1 (derived49_in b lv S w h hS))
  clear h hS
  go_enter Tryd.func15, Tryd.ntmps15
  go_wp2_with (go_at_call 48; refine HC.out.mono ?_; rintro e w1 ⟨cb, rfl, h1, ⟨lv', h2⟩, h3⟩; have HB := Lib.hid (And.intro h1 (And.intro h2 h3)); clear h1 h2 h3)
  go_ret
  exact ⟨cb, rfl, HB.out.1, ⟨lv', HB.out.2.1.congr (fun i hi => by simp [derS, childS, hi])⟩, HB.out.2.2⟩
end Go.Proofs.YthccppldpfddjaaDoor
