/- candidates, on a table of one mount: the walk. -/
import Derived.Test.YtedoonfegcgmeaaC8b
namespace Go.Proofs.Ytedoonfegcgmeaa
open Go.RowKit
set_option linter.unusedVariables false
attribute [local go_sem] Oper.semAt_some run_store_fn
set_option maxHeartbeats 4000000 in
set_option maxRecDepth 100000 in
theorem cands_in (base tb : Nat) (p0 q : Bs) (o m : Int) (gg cap gb lb ib cap2 n : Nat) (w : World) (h : One w base tb p0 o m gg cap gb lb ib cap2 n) (hq : q.length ≤ 900000) (hq0 : q ≠ []) (hp0 : p0.length ≤ 900000) :
    CallsIn Fence.wide 5 Try.prog 36 #[.pointer (some ⟨tb, 0, none⟩), str q] w fun e w' => ∃ v, e = .returned v ∧ (∃ n0, w.heap.size ≤ n0 ∧ w'.ownsRow n0 51 2 v (outL p0 q m (bwd (pfx q) (pfx q).length)).length (candV (outL p0 q m (bwd (pfx q) (pfx q).length)))) ∧ Below w.heap.size w w' := by
  have HO := Lib.hid h
  have HQ := Lib.hid (And.intro hq (And.intro hq0 hp0))
  obtain ⟨t0, t1, t2, t3⟩ := h.tab.cells
  obtain ⟨r0, r1, r2, r3, r4⟩ := h.cells
  have hmm : ∀ (t : TypeId) (w : World), (Instr.makeMap t none).run Try.prog w = .ok (.map (some w.heap.size)) (w.alloc (.map #[] 0)) := fun t w => run_makeMap t w
  have hmf : ∀ (fn : Fn) (first cap : Array Value) (w : World), (Instr.makeFunc fn first cap).run Try.prog w = .ok (.func fn first cap) w := fun _ _ _ _ => rfl
  have hO3 : One ((((w.alloc (.cells #[.pointer (some ⟨tb, 0, none⟩)] 30)).alloc (.cells #[.string ⟨q.toArray⟩] 9)).alloc (.map #[] 0)).alloc (.cells #[.map (some (w.heap.size + 1 + 1))] 93)) base tb p0 o m gg cap gb lb ib cap2 n :=
    h.keep fun k hk => ((((Below.refl w.heap.size w).alloc (Nat.le_refl _) _).alloc (by simp) _).alloc (by simp; omega) _ |>.alloc (by simp; omega) _).block k hk
  clear h hq hq0 hp0 t0 t1 t2 t3 r0 r1 r2 r3 r4
  obtain ⟨t0, t1, t2, t3⟩ := hO3.tab.cells
  obtain ⟨r0, r1, r2, r3, r4⟩ := hO3.cells
  have HO3 := Lib.hid hO3
  clear hO3
  refine callsIn_of_wp_marks Try.func36 rfl trivial ?_ rfl
  simp only [Try.ntmps36, List.size_toArray, List.length_cons, List.length_nil, Nat.reduceAdd, Nat.reduceSub, Array.replicate_succ, Array.replicate_zero, List.push_toArray, List.append_toArray, List.nil_append, List.cons_append]
  unfold str
  gi_wp2
  have e2 : w.heap.size + 1 + 1 = w.heap.size + 2 := rfl
  have e3 : w.heap.size + 2 + 1 = w.heap.size + 3 := rfl
  rw [e2, e3]
  rw [e2] at HO3 t0 t1 t2 t3 r0 r1 r2 r3 r4
  obtain ⟨W3, hW3⟩ : ∃ W3, ((((w.alloc (.cells #[.pointer (some ⟨tb, 0, none⟩)] 30)).alloc (.cells #[.string ⟨q.toArray⟩] 9)).alloc (.map #[] 0)).alloc (.cells #[.map (some (w.heap.size + 2))] 93)) = W3 := ⟨_, rfl⟩
  have hs3 : W3.heap.size = w.heap.size + 4 := by rw [← hW3]; simp
  have hC3 : CI w tb q W3 := by
    rw [← hW3]
    refine ⟨(((Boxed.new w 30 _).alloc _).alloc _).alloc _, ?_, ?_, ?_⟩
    · have := ((Boxed.new (w.alloc (.cells #[.pointer (some ⟨tb, 0, none⟩)] 30)) 9 (str q)).alloc (.map #[] 0)).alloc (.cells #[.map (some (w.heap.size + 2))] 93)
      rw [World.size_alloc] at this
      exact this
    · have := Boxed.new (((w.alloc (.cells #[.pointer (some ⟨tb, 0, none⟩)] 30)).alloc (.cells #[.string ⟨q.toArray⟩] 9)).alloc (.map #[] 0)) 93 (.map (some (w.heap.size + 2)))
      rw [World.size_alloc, World.size_alloc, World.size_alloc] at this
      exact this
    · exact ((((Below.refl _ w).alloc (Nat.le_refl _) _).alloc (by simp) _).alloc (by simp; omega) _).alloc (by simp; omega) _
  have hM3 : MapV W3 3 (w.heap.size + 2) 0 (.map []) := by
    rw [← hW3]
    refine mapV_empty ((Below.heap_alloc _ _ _ (by simp)).trans ?_)
    have := World.alloc_heap_new ((w.alloc (.cells #[.pointer (some ⟨tb, 0, none⟩)] 30)).alloc (.cells #[.string ⟨q.toArray⟩] 9)) (.map #[] 0)
    rw [World.size_alloc, World.size_alloc] at this
    exact this
  rw [hW3] at HO3 t0 t1 t2 t3 r0 r1 r2 r3 r4 ⊢
  clear e2 e3 hW3 hmm
  have c3 := hC3.b3.cell
  have ne3 := World.new_ne W3 _ c3
  have HC3 := Lib.hid (And.intro hC3 (And.intro hM3 hs3))
  have HK1 : Hid (keyOf Try.prog 3 (.int .i64 1) = some (.int .i64 1)) := Lib.hid (Maps.keyOf_int_mk Try.underlying3 (by decide))
  clear hC3 hM3 hs3
  gi_loopw [22] (fun i wr => (i = .int .i64 0 ∧ wr = W3) ∨ (i = .int .i64 1 ∧ Hid (CI w tb q wr ∧ MapV wr 3 (w.heap.size + 2) 1 D1))) (fun i _ => (1 - intOf i).toNat)
  case atStart => exact .inl ⟨rfl, rfl⟩
  case round =>
    rcases hrel with ⟨rfl, rfl⟩ | ⟨rfl, HI⟩
    · have cX := (HC3.out.1.b3.alloc (.cells #[.string ⟨p0.toArray⟩, .int .i64 o, .int .i64 m, .int .i64 1] 69)).cell
      have hmX := HC3.out.2.1.heap (Below.heap_alloc wr (.cells #[.string ⟨p0.toArray⟩, .int .i64 o, .int .i64 m, .int .i64 1] 69) _ HC3.out.2.1.lt)
      have HMX := Lib.hid hmX
      clear hmX
      gi_wp2_with (gi_at_mapUpdate; refine wpListIn_mapUpdate_own _ rfl _ _ _ 93 rfl 3 3 (Maps.int_keyed Try.underlying3) Try.underlying93 RV (w.heap.size + 2) 0 (.map []) rfl HMX.out (by unfold maxLen; omega) _ _ (.int .i64 1) rfl rfl HK1.out (.held (.int .i64 0)) [] rfl ?_; intro w4 hm4 hg4)
      have hC4 : CI w tb q w4 := by
        have hs := HC3.out.2.2
        have hk : ∀ k, k < wr.heap.size → k ≠ w.heap.size + 2 → w4.heap[k]? = wr.heap[k]? := fun k hk hne => (hg4.block k (by simp; omega) (by intro h; exact hne (Option.some.inj h))).trans (Below.heap_alloc _ _ _ hk)
        exact HC3.out.1.ext (fun k h1 h2 => hk k (by omega) h2) (HC3.out.1.bel.trans ⟨hg4.os, hg4.tape, hg4.output, Nat.le_trans (by simp) hg4.size, fun k h1 => hk k (by omega) (by omega)⟩)
      have HI4 := Lib.hid (And.intro hC4 hm4)
      clear hC4 hm4 hg4
      go_roundw
      case rel => exact .inr ⟨rfl, HI4.out⟩
      case measure => simp [intOf]
    · have c0 := HI.out.1.b0.cell
      have c1 := HI.out.1.b1.cell
      have c4 := HI.out.1.b3.cell
      have cz := ((HI.out.1.b1.alloc (.cells #[.func (.func 53) #[] #[.pointer (some ⟨w.heap.size, 0, none⟩), .pointer (some ⟨w.heap.size + 3, 0, none⟩)]] 94)).alloc (.cells #[.slice none 0 0] 36)).cell
      unfold str at cz
      have hcol := collect_pfx q ((wr.alloc (.cells #[.func (.func 53) #[] #[.pointer (some ⟨w.heap.size, 0, none⟩), .pointer (some ⟨w.heap.size + 3, 0, none⟩)]] 94)).alloc (.cells #[.slice none 0 0] 36)) HQ.out.1
      rw [World.size_alloc, World.size_alloc] at hcol
      have HCOL := Lib.hid hcol
      clear hcol
      gi_wp2_with (first
        | (refine ⟨trivial, ?_⟩; gi_at_call 51; refine (callsIn_wide.2 (pfx_calls q _)).mono ?_; rintro e w' ⟨rfl, rfl⟩)
        | (refine ⟨trivial, ?_⟩; gi_at_call 55; refine (callsIn_wide.2 HCOL.out).mono ?_; rintro e w5 ⟨A5, c5, rfl, hr5, hb5⟩; have HR5 := Lib.hid (And.intro hr5 hb5); clear hr5 hb5)
        | (refine ⟨trivial, ?_⟩; gi_at_call 54; refine (callsIn_wide.2 (backward_calls _ _ _ _)).mono ?_; rintro e w' ⟨rfl, rfl⟩))
      obtain ⟨hr5, hb5⟩ := HR5.out
      obtain ⟨A6, c6, he6, _, hat⟩ := row_at hr5
      have hRI : RI w base tb p0 q o m gg cap gb lb ib cap2 n wr.heap.size (w5.heap.size + 1) [] (w5.alloc (.cells #[.slice A5 (pfx q).length c5] 39)) := by
        have hk5 : ∀ k, k < wr.heap.size → (w5.alloc (.cells #[.slice A5 (pfx q).length c5] 39)).heap[k]? = wr.heap[k]? := fun k hk => by
          have h5 := hb5.size
          simp at h5
          exact (Below.heap_alloc _ _ _ (by omega)).trans ((hb5.block k (by omega)).trans ((Below.heap_alloc _ _ _ (by simp; omega)).trans ((Below.heap_alloc _ _ _ (by simp; omega)).trans (Below.heap_alloc _ _ _ hk))))
        have hsr : w.heap.size + 4 ≤ wr.heap.size := by have := HI.out.1.b3.lt; omega
        have hON := HO.out.keep fun k hk => HI.out.1.bel.block k hk
        refine ⟨HI.out.1.ext (fun k h1 h2 => hk5 k (by omega)) (HI.out.1.bel.trans ?_), HI.out.2.heap (hk5 _ HI.out.2.lt), hON.keep hk5, ?_, ⟨.slice none 0 0, ?_, World.ownsRow_nil _ _ _ _⟩⟩
        · exact ((((Below.refl _ wr).alloc (by omega) _).alloc (by simp; omega) _).alloc (by simp; omega) _).trans (hb5.mono (by omega)) |>.alloc (by have := hb5.size; simp at this; omega) _
        · exact ((hb5.block _ (by omega)).trans ((((Boxed.new wr 94 _).alloc _).alloc _))) |> fun h => (show Boxed w5 _ _ _ from h).alloc _
        · have h1 := (Boxed.new (wr.alloc (.cells #[.func (.func 53) #[] #[.pointer (some ⟨w.heap.size, 0, none⟩), .pointer (some ⟨w.heap.size + 3, 0, none⟩)]] 94)) 36 (.slice none 0 0)).alloc (.cells #[.string ⟨q.toArray⟩] 9)
          rw [World.size_alloc] at h1
          exact (show Boxed w5 _ _ _ from (hb5.block _ (by omega)).trans h1).alloc _
      have hbx : Boxed (w5.alloc (.cells #[.slice A5 (pfx q).length c5] 39)) w5.heap.size 39 (.slice A5 (pfx q).length c5) := Boxed.new w5 39 _
      have hat5 : ∀ k (hk : k < (pfx q).length), ∃ g, A5 = some ⟨g, 0, none⟩ ∧ wr.heap.size + 2 ≤ g ∧ g < w5.heap.size ∧ (w5.alloc (.cells #[.slice A5 (pfx q).length c5] 39)).cell? ⟨g, k, none⟩ = some (str (pfx q)[k]) := fun k hk => by
        obtain ⟨g, h1, h0, h2, h3⟩ := rowS_at hr5 k hk
        exact ⟨g, h1, by omega, h2, by rw [World.cell?_alloc_lt _ _ _ (by exact h2)]; exact h3⟩
      have hs5 : wr.heap.size + 3 ≤ w5.heap.size := by have := hb5.size; simp at this; omega
      have hsr : w.heap.size + 4 ≤ wr.heap.size := by have := HI.out.1.b3.lt; omega
      have hs6 : (w5.alloc (.cells #[.slice A5 (pfx q).length c5] 39)).heap.size = w5.heap.size + 1 := by simp
      generalize hW5 : w5.alloc (.cells #[.slice A5 (pfx q).length c5] 39) = W5 at *
      clear hat hr5 hb5 HR5 HCOL cz c0 c1 c4 he6 hW5
      have HSZ := Lib.hid (And.intro hs5 (And.intro hsr hs6))
      have HRI := Lib.hid hRI
      clear hs5 hsr hs6
      clear hRI r0 r1 r2 r3 r4 t0 t1 t2 t3 c3 ne3 HO3 HC3 HK1 hmf
      have hgbW : gb < W5.heap.size := HRI.out.one.lt.2.2.1
      have turnR : ∀ (l : List (Int × Bs)) (A B : World), RI w base tb p0 q o m gg cap gb lb ib cap2 n wr.heap.size (w5.heap.size + 1) l A → (∀ b, Turn W5.heap.size b A B) → RI w base tb p0 q o m gg cap gb lb ib cap2 n wr.heap.size (w5.heap.size + 1) l B := fun l A B h t => h.turn t hgbW (by have := HSZ.out; omega) (by omega)
      refine wpIn_rangeFunc_B (α := Int × Bs) (encs := encP) rfl (by omega) (gf := 67) rfl trivial (enters_of Try.func67 (by kernel_rfl) rfl)
        (backward_seq (S5 wr.heap.size w5.heap.size A5) w5.heap.size A5 c5 (pfx q) W5 (by have := pfx_count q; have := HQ.out.1; omega) hbx (.inl rfl) (by have := HSZ.out; intro k hk; have := hk.le HSZ.out.1; omega)
          (fun k hk => by obtain ⟨g, h1, h0, h2, h3⟩ := hat5 k hk; exact ⟨g, h1, .inr ⟨h0, h2, h1⟩, h3⟩))
        (fun h k => h.trans k) (fun W l o o' h _ _ _ => keepS_put (by have := HSZ.out; intro k hk; have := hk.le HSZ.out.1; omega)) (Below.refl _ _) (by intro k hk; exact hk.elim) (fun _ => rfl)
        (fun pre W => RI w base tb p0 q o m gg cap gb lb ib cap2 n wr.heap.size (w5.heap.size + 1) (outL p0 q m pre) W ∧ W5.heap.size ≤ W.heap.size)
        (fun _ _ _ => False)
        (fun s A B row hs hg hr => ⟨turnR _ A B hs.1 fun b => Turn.of_own hg hr, Nat.le_trans hs.2 hg.size⟩)
        (fun s A B hs hb => ⟨turnR _ A B hs.1 fun b => Turn.of_but' hb, Nat.le_trans hs.2 hb.size⟩)
        (fun c s A B row hs hg hr => hs)
        ⟨HRI.out, Nat.le_refl _⟩
        (fun pre x a₁ W => (RI w base tb p0 q o m gg cap gb lb ib cap2 n wr.heap.size (w5.heap.size + 1) (outL p0 q m pre) W ∧ W5.heap.size ≤ W.heap.size) ∧ a₁ = { tmps := #[.pointer (some ⟨tb, 0, none⟩), .string ⟨q.toArray⟩, .pointer (some ⟨w.heap.size, 0, none⟩), .pointer (some ⟨w.heap.size + 1, 0, none⟩), .slice none 0 0, .pointer (some ⟨w.heap.size + 3, 0, none⟩), u6, u7, .pointer (some ⟨wr.heap.size, 0, none⟩), .pointer (some ⟨wr.heap.size + 1, 0, none⟩), undef, .string ⟨x.2.toArray⟩, undef, undef, undef, undef, .map (some (w.heap.size + 2)), .pointer (some ⟨tb, 0, none⟩), .pointer (some ⟨tb, 0, none⟩), .pointer (some ⟨tb, 0, none⟩), .slice (some ⟨gg, 0, none⟩) 1 cap, .int .i64 1, .int .i64 1, .bool false, u24, u25, u26, u27, u28, u29, u30, u31, .func (.func 53) #[] #[.pointer (some ⟨w.heap.size, 0, none⟩), .pointer (some ⟨w.heap.size + 3, 0, none⟩)], .string ⟨q.toArray⟩, .func (.func 66) #[] #[.pointer (some ⟨wr.heap.size + 1 + 1, 0, none⟩)], .slice A5 (pfx q).length c5, .func (.func 67) #[] #[.pointer (some ⟨w5.heap.size, 0, none⟩)], .int .i64 x.1, .string ⟨x.2.toArray⟩, undef, undef, undef, undef, undef, undef, undef, undef, undef, undef, undef, undef, undef, undef, undef, undef, undef, undef, undef, undef, undef, undef, undef, undef, undef, undef, undef, undef, undef, undef, undef, undef, undef, undef, undef, undef, undef, undef], defers := [] })
        (fun pre x a₁ s A B row hs hg hr => ⟨⟨turnR _ A B hs.1.1 fun b => Turn.of_own hg hr, Nat.le_trans hs.1.2 hg.size⟩, hs.2⟩)
        ?assign ?body ?done ?stop
      case assign =>
        intro l pre x W K hI hal hK
        unfold encP
        gi_wp2
        exact hK _ _ (KeepsOthers.refl _) (KeepS.refl _ _) ⟨hI, rfl⟩
      case body =>
        rintro l pre x a₁ W hal ⟨⟨hR, hsz⟩, rfl⟩
        have hx2 : x.2 ∈ pfx q := bwd_mem (pfx q) _ (Nat.le_refl _) x (hal.subset (by simp))
        have hpl : pre.length ≤ 1000000 := by
          have h1 := hal.length_le
          have h2 := pfx_count q
          have h3 := bwd_len (pfx q) (pfx q).length
          have := HQ.out.1
          simp at h1
          omega
        have hol : (outL p0 q m pre).length ≤ 1000000 := Nat.le_trans (by unfold outL; rw [List.length_map]; exact List.length_filter_le _ _) hpl
        rw [HSZ.out.2.2]
        exact cands_round base tb p0 q o m gg cap gb lb ib cap2 n wr.heap.size w5.heap.size A5 c5 u6 u7 u24 u25 u26 u27 u28 u29 u30 u31 w W pre x l HO.out hR (by have := HSZ.out; omega) HSZ.out.2.1 HSZ.out.1 (by have := pfx_len q x.2 hx2; have := HQ.out.1; omega) HQ.out.1 HQ.out.2.1 hol
      case done =>
        rintro D' xs W hD rfl ⟨hR, hsz⟩ hK
        obtain ⟨v, hv, hrow⟩ := hR.out
        have hcv := hv.cell
        have hD2 : w.heap.size ≤ D' := by have := HSZ.out; omega
        have HX := Lib.hid (And.intro hrow (And.intro hR.ci.bel hK))
        clear hR hsz hv hrow hK hat5 hbx HRI
        gi_wp2
        refine ⟨by simp, .inl ⟨_, _, rfl, run_takeDeferred HX.out.2.2, ?_⟩⟩
        refine ⟨_, results_tmp rfl _ _ _, v, rfl, ⟨_, ?_, row_put HX.out.1 HX.out.2.2⟩, HX.out.2.1.trans (belowK_b (w := w) (Nat.le_refl _) _ D' _ _ hD2 HX.out.2.2 rfl rfl)⟩
        have := HSZ.out; omega
      case stop =>
        rintro D' c pre W hD hpre h hK
        exact h.elim
end Go.Proofs.Ytedoonfegcgmeaa
