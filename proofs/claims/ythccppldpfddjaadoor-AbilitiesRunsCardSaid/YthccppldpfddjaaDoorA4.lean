/- slices.AppendSeq and slices.Collect of ranges. -/
import Derived.Test.YthccppldpfddjaaDoorA3
namespace Go.Proofs.YthccppldpfddjaaDoor
open Go.RowKit
set_option linter.unusedVariables false
attribute [local go_sem] Oper.semAt_some
/-- What the loop of AppendSeq holds: its box, its row above, that nothing older has turned. -/
structure AI (w : World) (pre : List Rg) (W : World) : Prop where
  row : ∃ v, Boxed W w.heap.size 36 v ∧ Ls W 43 v pre ∧ (∀ g, v.ownBlock = some g → w.heap.size < g) ∧ (pre = [] → v = .slice none 0 0)
  bel : Below w.heap.size w W
theorem AI.turn {w : World} {pre : List Rg} {A B : World} (h : AI w pre A) (t : ∀ b, Turn (w.heap.size + 1) b A B) : AI w pre B := by
  obtain ⟨⟨v, h1, h2, h3, h4⟩, h5⟩ := h
  refine ⟨⟨v, (t (w.heap.size + 1)).boxed h1 (by omega), ?_, h3, h4⟩, (t w.heap.size).below h5 (Nat.le_refl _) (Nat.le_refl _) (by omega)⟩
  refine Rw.kept h2 fun g hg => ?_
  obtain ⟨cur, hc⟩ := Rw.ty h2 g hg
  rw [hc]
  have := h3 g hg
  exact (t w.heap.size).cells hc (by omega)
/-- Behind 's = append(s, x)'. -/
theorem AI.appended {w : World} {pre : List Rg} {x : Rg} {W W1 w1 : World} {v v' : Value} (hw1 : W1 = W.alloc (.cells (pcells [x]).toArray 43)) (hb : Boxed W w.heap.size 36 v) (hl : Ls W 43 v pre) (hg : ∀ g, v.ownBlock = some g → w.heap.size < g) (hn : pre = [] → v = .slice none 0 0) (hbel : Below w.heap.size w W)
    (hr : Rw w1 43 2 v' (pre.length + 1) (pcells pre ++ pcells [x])) (hgr : W1.grownBy w1 v.ownBlock) (hown : v'.ownBlock = v.ownBlock ∨ v'.ownBlock = some W1.heap.size) (hfull : ∀ A, v = .slice A pre.length pre.length → Below W1.heap.size W1 w1) :
    Boxed w1 w.heap.size 36 v ∧ KeepsOthers W (w1.setCell ⟨w.heap.size, 0, none⟩ v') ∧ KeepT w.heap.size 43 W (w1.setCell ⟨w.heap.size, 0, none⟩ v') ∧ AI w (pre ++ [x]) (w1.setCell ⟨w.heap.size, 0, none⟩ v') := by
  have hs1 : W1.heap.size = W.heap.size + 1 := by rw [hw1]; simp
  have hold : ∀ k, k < W.heap.size → W1.heap[k]? = W.heap[k]? := fun k hk => by rw [hw1]; exact Below.heap_alloc W _ _ hk
  have hblt := hb.lt
  have hb1 : Boxed W1 w.heap.size 36 v := (hold _ hblt).trans hb
  have hnr : v.ownBlock ≠ some w.heap.size := fun e => by have := hg _ e; omega
  have hbw1 : Boxed w1 w.heap.size 36 v := (hgr.block _ (by omega) (fun e => hnr e.symm)).trans hb1
  have hko : KeepsOthers W1 w1 := by
    refine KeepsOthers.of_grownBy hgr fun j o ej hj => ?_
    obtain ⟨cur, hc⟩ := Rw.ty hl j ej
    rw [hold j (Array.getElem?_eq_some_iff.1 hc).1, hc] at hj
    cases hj; rfl
  have hlow : ∀ k, k < w.heap.size → w1.heap[k]? = W.heap[k]? := fun k hk => (hgr.block k (by omega) (fun e => by have := hg k e.symm; omega)).trans (hold k (by omega))
  have hwle : w.heap.size ≤ W.heap.size := by omega
  have hone : ∀ (k : Nat) (a b : Value), W.heap[k]? = some (.cells #[a, b] 43 (0, 0)) → w1.heap[k]? = some (.cells #[a, b] 43 (0, 0)) := by
    intro k a b hk
    have hkl := (Array.getElem?_eq_some_iff.1 hk).1
    have hk1 := (hold k hkl).trans hk
    rcases hl.2 with ⟨hv, -⟩ | ⟨g, cap, cur, hv, hgg, hcap, _, hsz, _⟩
    · rw [hv] at hgr
      exact (hgr.block k (by omega) (by simp [Value.ownBlock])).trans hk1
    · by_cases e : g = k
      · subst e
        rw [hk] at hgg
        cases hgg
        have hc1 : cap = pre.length := by
          rcases pre with _ | ⟨p, pre⟩
          · have := hn rfl; rw [this] at hv; cases hv
          · simp at hsz hcap ⊢; omega
        subst hc1
        exact ((hfull _ hv).block g (by omega)).trans hk1
      · refine (hgr.block k (by omega) ?_).trans hk1
        rw [hv]
        simp [Value.ownBlock]
        omega
  refine ⟨hbw1, ?_, ⟨?_, ?_, ?_⟩, ⟨v', hbw1.set v', ?_, ?_, ?_⟩, ?_⟩
  · have h1 : KeepsOthers W w1 := by rw [hw1] at hko; exact (KeepsOthers.alloc W _).trans hko
    exact h1.trans (KeepsOthers.setCell _ _ _)
  · have := hgr.size; simp [World.setCell]; omega
  · intro k hk
    rw [Below.heap_setCell _ _ _ _ (by show k ≠ w.heap.size; omega)]
    exact hlow k hk
  · intro k a b hk
    rw [Below.heap_setCell _ _ _ _ (by rintro rfl; rw [show W.heap[w.heap.size]? = _ from hb] at hk; cases hk)]
    exact hone k a b hk
  · have h1 : Ls w1 43 v' (pre ++ [x]) := by
      show Rw w1 43 2 v' (pre ++ [x]).length (pcells (pre ++ [x]))
      rw [pcells_append, List.length_append]
      exact hr
    exact h1.set hbw1 (by decide) 0 v'
  · intro g hg'
    rcases hown with e | e
    · exact hg g (by rw [← e]; exact hg')
    · rw [e] at hg'; cases hg'; omega
  · intro h; simp at h
  · have h2 : Below w.heap.size w w1 := by
      have h3 : Below w.heap.size w W1 := by rw [hw1]; exact hbel.alloc hbel.size _
      exact h3.grown hgr (by omega) (fun k hk => by have := hg k hk; omega)
    exact h2.setCell (Nat.le_refl _) _
set_option maxHeartbeats 4000000 in
set_option maxRecDepth 100000 in
theorem appendSeq_in (gf : Nat) (lb : Array Value) (L : List Rg) (w : World) (hL : L.length ≤ 1000000) (eg : ∀ args w, (callFunc gf args).run Tryd.prog w = .ok (.enter gf args) w)
    (hseq : ∀ W, Below w.heap.size w W → SeqB Fence.wide 4 Tryd.prog gf lb (fun x : Rg => #[encR x]) (fun k => False) (KeepT w.heap.size 43) (fun pre x => pre ++ [x] <+: L) (fun xs => xs = L) (fun pre => pre <+: L) W) :
    CallsIn Fence.wide 5 Tryd.prog 112 #[.slice none 0 0, .func (.func gf) #[] lb] w fun e w' => ∃ v, e = .returned v ∧ Ls w' 43 v L ∧ (∀ g, v.ownBlock = some g → w.heap.size < g) ∧ Below w.heap.size w w' := by
  have HL := Lib.hid hL
  have HS := Lib.hid (And.intro hseq eg)
  clear hL hseq eg
  refine callsIn_of_wp_marks Tryd.func112 rfl trivial ?_ rfl
  simp only [Tryd.ntmps112, List.size_toArray, List.length_cons, List.length_nil, Nat.reduceAdd, Nat.reduceSub, Array.replicate_succ, Array.replicate_zero, List.push_toArray, List.append_toArray, List.nil_append, List.cons_append]
  gi_wp2
  obtain ⟨W1, hW1⟩ : ∃ W1, w.alloc (.cells #[.slice none 0 0] 36) = W1 := ⟨_, rfl⟩
  have hs1 : W1.heap.size = w.heap.size + 1 := by rw [← hW1]; simp
  have hb1 : Below w.heap.size w W1 := by rw [← hW1]; exact (Below.refl _ _).alloc (Nat.le_refl _) _
  have hr1 : Boxed W1 w.heap.size 36 (.slice none 0 0) := by rw [← hW1]; exact Boxed.new w 36 _
  rw [hW1]
  have HS1 := Lib.hid hs1
  clear hs1 hW1
  refine wpIn_rangeFunc_B (α := Rg) rfl (by omega) (gf := gf) rfl trivial HS.out.2 (HS.out.1 W1 hb1) (fun h k => h.trans k)
    (fun W l o o' h1 h2 h3 _ => keepT_put (by have := HS1.out; omega) h2 h3) (Below.refl _ _) (by intro k hk; exact hk.elim) (fun _ => rfl)
    (fun pre W => AI w pre W)
    (fun _ _ _ => False)
    (fun s A B row hs hg hr => AI.turn hs fun b => Turn.of_own hg (by rw [HS1.out] at hr; exact hr))
    (fun s A B hs hb => AI.turn hs fun b => Turn.of_but' hb)
    (fun c s A B row hs hg hr => hs)
    ⟨⟨_, hr1, ls_nil _ _, by simp [Value.ownBlock], fun _ => rfl⟩, hb1⟩
    (fun pre x a₁ W => AI w pre W ∧ ∃ b5, W.heap[b5]? = some (.cells #[.int .i64 x.1, .int .i64 x.2] 43 (0, 0)) ∧
      a₁ = { tmps := #[.slice none 0 0, .func (.func gf) #[] lb, .pointer (some ⟨w.heap.size, 0, none⟩), undef, .slice none 0 0, .pointer (some ⟨b5, 0, none⟩), .func (.func gf) #[] lb, encR x, undef, undef, undef, undef, undef], defers := [] })
    ?hAx
    ?assign ?body ?done ?stop
  case hAx =>
    rintro pre x a₁ s A B row ⟨h3, b5, h4, h5⟩ hg hr
    have t : ∀ b, Turn (w.heap.size + 1) b A B := fun b => Turn.of_own hg (by rw [HS1.out] at hr; exact hr)
    exact ⟨h3.turn t, b5, (t (b5 + 1)).cells h4 (by omega), h5⟩
  case assign =>
    intro l pre x W K hI hal hK
    unfold encR
    gi_wp2
    exact hK _ _ (KeepsOthers.alloc W _) (keepT_below ((Below.refl _ _).alloc (Nat.le_refl _) _) hI.bel.size) ⟨hI.turn fun b => Turn.of_but' ((But.refl _ W).alloc _), _, heap_alloc_new W _, rfl⟩
  case body =>
    rintro l pre x a₁ W hal ⟨hI, b5, h5, rfl⟩
    obtain ⟨⟨v, hb, hl, hg, hn⟩, hbel⟩ := hI
    have hcv := hb.cell
    have c0 : W.cell? ⟨b5, 0, none⟩ = some (.int .i64 x.1) := by rw [cell_of_row _ _ _ _ _ _ h5]; rfl
    have c1 : W.cell? ⟨b5, 1, none⟩ = some (.int .i64 x.2) := by rw [cell_of_row _ _ _ _ _ _ h5]; rfl
    have hlen : pre.length + 1 ≤ 1000000 := by
      have h1 := hal.length_le
      have h2 := HL.out
      simp at h1
      omega
    have HI := Lib.hid (And.intro hb (And.intro hl (And.intro hg (And.intro hn hbel))))
    obtain ⟨i0, hi0, hz0, hz1, hz2⟩ := info_parts info43
    have HL1 := Lib.hid (show Rw (W.alloc (.cells (pcells [x]).toArray 43)) 43 2 v pre.length (pcells pre) from Rw.below hl ((Below.refl _ _).alloc (Nat.le_refl _) _))
    have HN := Lib.hid (show ∀ ad, some (⟨W.heap.size, 0, none⟩ : Addr) = some ad → ∀ j u, (pcells [x])[j]? = some u → (W.alloc (.cells (pcells [x]).toArray 43)).cell? (ad.add j) = some u from by
      rintro ad h j u hj
      cases h
      rw [add_at, cell_of_row _ _ _ _ _ _ (heap_alloc_new W _)]
      simpa using hj)
    have HA := Lib.hid (fun w1 v' => AI.appended (w := w) (pre := pre) (x := x) (W := W) (W1 := W.alloc (.cells (pcells [x]).toArray 43)) (w1 := w1) (v := v) (v' := v') rfl hb hl hg hn hbel)
    clear hb hl hg hn hbel hal h5
    rw [show (pcells [x]).toArray = #[.int .i64 x.1, .int .i64 x.2] from rfl] at HL1 HN HA
    unfold encR
    gi_wp2_with (gi_at_builtin; refine wpListIn_via rfl fun Q' hQ' => ?_; refine wpList_append_rw _ rfl (.tmp 8) (.tmp 10) 36 rfl 43 i0 (.agg #[.int .i64 0, .int .i64 0]) 2 16 Tryd.underlying36 hi0 hz0 hz1 hz2 rfl (by decide) _ _ _ rfl HL1.out (some ⟨W.heap.size, 0, none⟩) 1 1 (pcells [x]) rfl rfl HN.out (by simp) (pcells_one [x]) (by unfold maxLen; omega) (by omega) ?_; intro v' w1 h1 h2 h3 h4; obtain ⟨A', cap', rfl, -, -, -, -⟩ := Rw.form h1; obtain ⟨a1, a2, a3, a4⟩ := HA.out w1 _ h1 h2 h3 h4; clear h1 h2 h3 h4; refine hQ' _ _ ?_; clear hQ' Q'; have hcr' := a1.cell; have hfr' := a1.frozen)
    exact ⟨a2, a3, a4⟩
  case done =>
    rintro D xs W hD rfl ⟨⟨v, h1, h2, h3, h4⟩, h5⟩ hK
    have hcv := h1.cell
    have hD2 : w.heap.size + 1 ≤ D := by have := HS1.out; omega
    have HX := Lib.hid (And.intro h2 (And.intro h3 (And.intro h5 hK)))
    clear h2 h3 h4 h5 hK hD
    gi_wp2
    refine ⟨by simp, .inl ⟨_, _, rfl, run_takeDeferred HX.out.2.2.2, ?_⟩⟩
    refine ⟨_, results_tmp rfl _ _ _, v, rfl, ?_, HX.out.2.1, HX.out.2.2.1.trans (belowK_b (w := w) (Nat.le_refl _) _ D _ _ (by omega) HX.out.2.2.2 rfl rfl)⟩
    refine Rw.kept HX.out.1 fun g hg => ?_
    obtain ⟨cur, hc⟩ := Rw.ty HX.out.1 g hg
    exact World.putObj_heap_other (by rintro rfl; have := HX.out.2.2.2; rw [hc] at this; cases this)
  case stop =>
    intro D c pre W hD hpre h hK
    exact h.elim
theorem collect_calls (gf : Nat) (lb : Array Value) (L : List Rg) (w : World) (hL : L.length ≤ 1000000) (eg : ∀ args w, (callFunc gf args).run Tryd.prog w = .ok (.enter gf args) w)
    (hseq : ∀ W, Below w.heap.size w W → SeqB Fence.wide 4 Tryd.prog gf lb (fun x : Rg => #[encR x]) (fun k => False) (KeepT w.heap.size 43) (fun pre x => pre ++ [x] <+: L) (fun xs => xs = L) (fun pre => pre <+: L) W) :
    Calls Tryd.prog 104 #[.func (.func gf) #[] lb] w fun e w' => ∃ v, e = .returned v ∧ Ls w' 43 v L ∧ (∀ g, v.ownBlock = some g → w.heap.size < g) ∧ Below w.heap.size w w' := by
  have HA := Lib.hid ((callsIn_wide (n := 5)).1 (appendSeq_in gf lb L w hL eg hseq))
  clear hseq
  go_enter Tryd.func104, Tryd.ntmps104
  go_wp2_with (go_at_call 112; refine HA.out.mono ?_; rintro e w1 ⟨v, rfl, h1, h2, h3⟩; have HB := Lib.hid (And.intro h1 (And.intro h2 h3)); clear h1 h2 h3)
  go_ret
  exact ⟨v, rfl, HB.out⟩
theorem outside_calls (A : Option Addr) (n c : Nat) (lo hi : Int) (w : World) : Calls Tryd.prog 105 #[.slice A n c, .int .i64 lo, .int .i64 hi] w fun e w' =>
    e = .returned (.func (.func 113) #[] #[.pointer (some ⟨w.heap.size, 0, none⟩), .pointer (some ⟨w.heap.size + 1, 0, none⟩), .pointer (some ⟨w.heap.size + 2, 0, none⟩)]) ∧ w' = ((w.alloc (.cells #[.slice A n c] 36)).alloc (.cells #[.int .i64 lo] 2)).alloc (.cells #[.int .i64 hi] 2) := by
  have hmf : ∀ (fn : Fn) (first cap : Array Value) (w : World), (Instr.makeFunc fn first cap).run Tryd.prog w = .ok (.func fn first cap) w := fun _ _ _ _ => rfl
  go_enter Tryd.func105, Tryd.ntmps105
  go_wp2_with fail
  go_ret
  exact ⟨rfl, rfl⟩
theorem three_boxes (w : World) (a b c : Value) (t u : TypeId) : Boxed (((w.alloc (.cells #[a] t)).alloc (.cells #[b] u)).alloc (.cells #[c] u)) w.heap.size t a ∧ Boxed (((w.alloc (.cells #[a] t)).alloc (.cells #[b] u)).alloc (.cells #[c] u)) (w.heap.size + 1) u b ∧ Boxed (((w.alloc (.cells #[a] t)).alloc (.cells #[b] u)).alloc (.cells #[c] u)) (w.heap.size + 2) u c := by
  refine ⟨((Boxed.new w t a).alloc _).alloc _, ?_, ?_⟩
  · have := (Boxed.new (w.alloc (.cells #[a] t)) u b).alloc (.cells #[c] u)
    simpa using this
  · have := Boxed.new ((w.alloc (.cells #[a] t)).alloc (.cells #[b] u)) u c
    simpa using this
theorem good_bound {l : List Rg} (h : Good l) : ∀ r ∈ l, 0 ≤ r.1 ∧ r.2 ≤ MX := fun r hr => ⟨(h.1 r hr).1, (h.1 r hr).2.2⟩
/-- slices.Collect(outside(l, lo, hi)), the iterator's boxes laid. -/
theorem collect_outside (v : Value) (l : List Rg) (lo hi : Int) (w : World) (hl : Ls w 43 v l) (hlen : l.length ≤ 1000) (hlo : -1000000000000000000 ≤ lo) (hhi : hi ≤ 1000000000000000000) (hlh : lo ≤ hi) (W : World) (hW : W = ((w.alloc (.cells #[v] 36)).alloc (.cells #[.int .i64 lo] 2)).alloc (.cells #[.int .i64 hi] 2)) :
    Calls Tryd.prog 104 #[.func (.func 113) #[] #[.pointer (some ⟨w.heap.size, 0, none⟩), .pointer (some ⟨w.heap.size + 1, 0, none⟩), .pointer (some ⟨w.heap.size + 2, 0, none⟩)]] W fun e w' =>
      ∃ v', e = .returned v' ∧ Ls w' 43 v' (outS l lo hi) ∧ (∀ g, v'.ownBlock = some g → w.heap.size < g) ∧ Below w.heap.size w w' := by
  have hsz : W.heap.size = w.heap.size + 3 := by rw [hW]; simp
  have hbw : Below w.heap.size w W := by rw [hW]; exact (((Below.refl w.heap.size w).alloc (Nat.le_refl _) _).alloc (by simp) _).alloc (by simp; omega) _
  obtain ⟨b1, b2, b3⟩ := three_boxes w v (.int .i64 lo) (.int .i64 hi) 36 2
  rw [← hW] at b1 b2 b3
  refine (collect_calls 113 _ (outS l lo hi) W (by have := outS_len l lo hi; omega) (enters_of Tryd.func113 (by kernel_rfl) rfl) (fun W1 hb1 => ?_)).mono ?_
  · have hbx : Below w.heap.size w W1 := below_then' hbw hb1
    have keep : ∀ {b : Nat} {t : TypeId} {u : Value}, Boxed W b t u → Boxed W1 b t u := fun h => (hb1.block _ h.lt).trans h
    refine outside_seq W.heap.size w.heap.size (w.heap.size + 1) (w.heap.size + 2) v l lo hi W1 (keep b1) (keep b2) (keep b3) (by omega) hb1.size (hl.below hbx) ?_ (by omega) hlo hhi hlh
    intro g hg
    have := Rw.lt hl g hg
    omega
  · rintro e w' ⟨v', rfl, h1, h2, h3⟩
    refine ⟨v', rfl, h1, fun g hg => by have := h2 g hg; omega, below_then' hbw h3⟩
end Go.Proofs.YthccppldpfddjaaDoor
