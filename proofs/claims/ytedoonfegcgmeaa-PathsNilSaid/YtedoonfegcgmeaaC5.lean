/- slices.AppendSeq and slices.Collect, of strings and of ints. (Printed by gC5.py.) -/
import Derived.Test.YtedoonfegcgmeaaC4
namespace Go.Proofs.Ytedoonfegcgmeaa
open Go.RowKit
set_option linter.unusedVariables false
attribute [local go_sem] Oper.semAt_some
/-- What a round keeps: all blocks below n. -/
def KeepL (n : Nat) (W W' : World) : Prop := W.heap.size ≤ W'.heap.size ∧ ∀ k, k < n → W'.heap[k]? = W.heap[k]?
theorem KeepL.refl (n : Nat) (W : World) : KeepL n W W := ⟨Nat.le_refl _, fun _ _ => rfl⟩
theorem KeepL.trans {n : Nat} {a b c : World} (h : KeepL n a b) (k : KeepL n b c) : KeepL n a c := ⟨Nat.le_trans h.1 k.1, fun i hi => (k.2 i hi).trans (h.2 i hi)⟩
theorem keepL_put {n : Nat} {W : World} {l : Nat} {o' : Obj} (h1 : n ≤ l) : KeepL n W (W.putObj l o') := ⟨by simp [World.putObj], fun k hk => World.putObj_heap_other (by omega)⟩
theorem KeepL.keepB {n bx : Nat} {W W' : World} (h : KeepL n W W') (hb : bx < n) : KeepB bx W W' := ⟨h.1, h.2 bx hb⟩
theorem keepL_below {n : Nat} {W W' : World} (h : Below W.heap.size W W') (hn : n ≤ W.heap.size) : KeepL n W W' := ⟨h.size, fun k hk => h.block k (by omega)⟩
theorem SeqB.keep {α : Type} {F : Fence} {n : Nat} {P : Program} {g : Nat} {lb : Array Value} {encs : α → Array Value} {B : Nat → Prop} {Kp Kq : World → World → Prop} {Al : List α → α → Prop} {S Sp : List α → Prop} {w : World}
    (h : SeqB F n P g lb encs B Kp Al S Sp w) (hk : ∀ W W', Kq W W' → Kp W W') : SeqB F n P g lb encs B Kq Al S Sp w := by
  intro l J Jx W hb hJ hY h0
  refine h l J Jx W hb hJ (fun pre x A hj ha => ?_) h0
  obtain ⟨fn, tmps, assign, body, hrun, hR⟩ := hY pre x A hj ha
  exact ⟨fn, tmps, assign, body, hrun, hR.mono fun e A' he => by rcases he with ⟨h1, h2, h3⟩ | h4; exact .inl ⟨h1, h2, hk _ _ h3⟩; exact .inr h4⟩
theorem row_turn {s bx n0 : Nat} {e : TypeId} {size k : Nat} {v : Value} {xs : List Value} {W W' : World} (h : Turn s bx W W') (hr : W.ownsRow n0 e size v k xs) (hn : bx < n0) : W'.ownsRow n0 e size v k xs := h.row hr hn
theorem row_put {W : World} {base e size n D : Nat} {v : Value} {xs : List Value} {o o' : Obj} (h : W.ownsRow base e size v n xs) (hK : W.heap[D]? = some o) (ho : o.isCells = false := by rfl) : (W.putObj D o').ownsRow base e size v n xs := by
  rcases h.2 with ⟨rfl, h2⟩ | ⟨g, cap, cur, rfl, hb, hg, h3⟩
  · exact ⟨h.1, .inl ⟨rfl, h2⟩⟩
  · refine ⟨h.1, .inr ⟨g, cap, cur, rfl, hb, ?_, h3⟩⟩
    rw [World.putObj_heap_other]
    · exact hg
    · rintro rfl
      rw [hg] at hK
      cases hK
      cases ho
def encS (x : Bs) : Value := .string ⟨x.toArray⟩
def encsS (l : List Bs) : List Value := l.map encS
theorem encsS_len (l : List Bs) : (encsS l).length = l.length := by simp [encsS]
set_option maxHeartbeats 1000000 in
set_option maxRecDepth 100000 in
theorem appendSeqS_in (gf : Nat) (lb : Array Value) (L : List Bs) (w : World) (hL : L.length ≤ 1000000) (eg : ∀ args w, (callFunc gf args).run Try.prog w = .ok (.enter gf args) w)
    (hseq : ∀ W, Below w.heap.size w W → SeqB Fence.wide 4 Try.prog gf lb (fun x : Bs => #[encS x]) (fun k => False) (KeepL w.heap.size) (fun pre x => pre ++ [x] <+: L) (fun xs => xs = L) (fun pre => pre <+: L) W) :
    CallsIn Fence.wide 5 Try.prog 68 #[.slice none 0 0, .func (.func gf) #[] lb] w fun e w' => ∃ v, e = .returned v ∧ w'.ownsRow (w.heap.size + 1) 9 1 v L.length (encsS L) ∧ Below w.heap.size w w' := by
  have HL := Lib.hid hL
  have HS := Lib.hid (And.intro hseq eg)
  clear hL hseq eg
  refine callsIn_of_wp_marks Try.func68 rfl trivial ?_ rfl
  simp only [Try.ntmps68, List.size_toArray, List.length_cons, List.length_nil, Nat.reduceAdd, Nat.reduceSub, Array.replicate_succ, Array.replicate_zero, List.push_toArray, List.append_toArray, List.nil_append, List.cons_append]
  gi_wp2
  obtain ⟨W1, hW1⟩ : ∃ W1, w.alloc (.cells #[.slice none 0 0] 39) = W1 := ⟨_, rfl⟩
  have hs1 : W1.heap.size = w.heap.size + 1 := by rw [← hW1]; simp
  have hb1 : Below w.heap.size w W1 := by rw [← hW1]; exact (Below.refl _ _).alloc (Nat.le_refl _) _
  have hr1 : Boxed W1 w.heap.size 39 (.slice none 0 0) := by rw [← hW1]; exact Boxed.new w 39 _
  rw [hW1]
  have HS1 := Lib.hid hs1
  clear hs1 hW1
  have turnI : ∀ (pre : List Bs) (A B : World), ((∃ v, Boxed A w.heap.size 39 v ∧ A.ownsRow (w.heap.size + 1) 9 1 v pre.length (encsS pre)) ∧ Below w.heap.size w A) → (∀ b, Turn (w.heap.size + 1) b A B) →
      ((∃ v, Boxed B w.heap.size 39 v ∧ B.ownsRow (w.heap.size + 1) 9 1 v pre.length (encsS pre)) ∧ Below w.heap.size w B) := by
    rintro pre A B ⟨⟨v, h1, h2⟩, h3⟩ t
    exact ⟨⟨v, (t (w.heap.size + 1)).boxed h1 (by omega), row_turn (t 0) h2 (by omega)⟩, (t w.heap.size).below h3 (Nat.le_refl _) (Nat.le_refl _) (by omega)⟩
  refine wpIn_rangeFunc_B (α := Bs) rfl (by omega) (gf := gf) rfl trivial HS.out.2 (HS.out.1 W1 hb1) (fun h k => h.trans k)
    (fun W l o o' h _ _ _ => keepL_put (by have := HS1.out; omega)) (Below.refl _ _) (by intro k hk; exact hk.elim) (fun _ => rfl)
    (fun pre W => (∃ v, Boxed W w.heap.size 39 v ∧ W.ownsRow (w.heap.size + 1) 9 1 v pre.length (encsS pre)) ∧ Below w.heap.size w W)
    (fun _ _ _ => False)
    (fun s A B row hs hg hr => turnI s A B hs fun b => Turn.of_own hg (by rw [HS1.out] at hr; exact hr))
    (fun s A B hs hb => turnI s A B hs fun b => Turn.of_but' hb)
    (fun c s A B row hs hg hr => hs)
    ⟨⟨_, hr1, World.ownsRow_nil _ _ _ _⟩, hb1⟩
    (fun pre x a₁ W => ((∃ v, Boxed W w.heap.size 39 v ∧ W.ownsRow (w.heap.size + 1) 9 1 v pre.length (encsS pre)) ∧ Below w.heap.size w W) ∧
      a₁ = { tmps := #[.slice none 0 0, .func (.func gf) #[] lb, .pointer (some ⟨w.heap.size, 0, none⟩), undef, .slice none 0 0, encS x, .func (.func gf) #[] lb, encS x, undef, undef, undef, undef, undef], defers := [] })
    (fun pre x a₁ s A B row hs hg hr => ⟨turnI pre A B hs.1 fun b => Turn.of_own hg (by rw [HS1.out] at hr; exact hr), hs.2⟩)
    ?assign ?body ?done ?stop
  case assign =>
    intro l pre x W K hI hal hK
    unfold encS
    gi_wp2
    exact hK _ _ (KeepsOthers.refl _) (KeepL.refl _ _) ⟨hI, rfl⟩
  case body =>
    rintro l pre x a₁ W hal ⟨⟨⟨v, hv, hrow⟩, hbel⟩, rfl⟩
    have hcv := hv.cell
    have hfv := hv.frozen
    have hlen : pre.length + 1 ≤ 1000000 := by
      have h1 := hal.length_le
      have h2 := HL.out
      simp at h1
      omega
    have hsz : w.heap.size + 1 ≤ W.heap.size := by have := hv.lt; omega
    have HI := Lib.hid (And.intro hv (And.intro hrow hbel))
    obtain ⟨i0, hi0, hz0, hz1, hz2⟩ := info_parts (P := Try.prog) (e := 9) (z := .string ⟨#[]⟩) (size := 1) (bytes := 16) (by kernel_rfl)
    have HR := Lib.hid (HI.out.2.1.alloc (.cells #[encS x] 9))
    have HV2 := Lib.hid (HI.out.1.alloc (.cells #[encS x] 9))
    have HSZ := Lib.hid hsz
    clear hv hrow hbel hal
    unfold encS at HR HV2 ⊢
    gi_wp2_with (gi_at_builtin; refine wpListIn_append_own _ rfl (.tmp 8) (.tmp 10) 39 rfl (w.heap.size + 1) 9 i0 (.string ⟨#[]⟩) 1 16 Try.underlying39 hi0 hz0 hz1 hz2 rfl (by decide) _ _ _ rfl HR.out ⟨W.heap.size, 0, none⟩ 1 1 [.string ⟨x.toArray⟩] rfl rfl (cell_one_new _ _ _) (by simp [Value.oneCell']) (by unfold maxLen; omega) (by omega) (by simp; omega) ?_; intro v' w1' hown' hgrow _; obtain ⟨g', cap', rfl⟩ := ownsRow_succ hown'; obtain ⟨a1, a2, a3, a4, a5, a6⟩ := out_appended HV2.out (by decide) HR.out (by omega) (by simp; omega) hown' hgrow; have hcr' := a1.cell; have hfr' := a1.frozen)
    refine ⟨(KeepsOthers.alloc W _).trans a6, ⟨Nat.le_trans (by simp) a4.size, fun k hk => (a5 k (by omega) (by omega)).trans (Below.heap_alloc W _ _ (by omega))⟩, ⟨_, a2, ?_⟩, (HI.out.2.2.alloc HI.out.2.2.size _).trans (a4.mono (Nat.le_refl _))⟩
    simpa [encsS, encS] using a3
  case done =>
    rintro D xs W hD rfl ⟨⟨v, h1, h2⟩, h3⟩ hK
    have hcv := h1.cell
    have hD2 : w.heap.size + 1 ≤ D := by have := HS1.out; omega
    have HX := Lib.hid (And.intro h2 (And.intro h3 hK))
    clear h2 h3 hK hD
    gi_wp2
    refine ⟨by simp, .inl ⟨_, _, rfl, run_takeDeferred HX.out.2.2, ?_⟩⟩
    refine ⟨_, results_tmp rfl _ _ _, v, rfl, ?_, HX.out.2.1.trans (belowK_b (w := w) (Nat.le_refl _) _ D _ _ (by omega) HX.out.2.2 rfl rfl)⟩
    exact row_put HX.out.1 HX.out.2.2
  case stop =>
    rintro D c pre W hD hpre h hK
    exact h.elim
theorem collectS_calls (gf : Nat) (lb : Array Value) (L : List Bs) (w : World) (hL : L.length ≤ 1000000) (eg : ∀ args w, (callFunc gf args).run Try.prog w = .ok (.enter gf args) w)
    (hseq : ∀ W, Below w.heap.size w W → SeqB Fence.wide 4 Try.prog gf lb (fun x : Bs => #[encS x]) (fun k => False) (KeepL w.heap.size) (fun pre x => pre ++ [x] <+: L) (fun xs => xs = L) (fun pre => pre <+: L) W) :
    Calls Try.prog 55 #[.func (.func gf) #[] lb] w fun e w' => ∃ v, e = .returned v ∧ w'.ownsRow (w.heap.size + 1) 9 1 v L.length (encsS L) ∧ Below w.heap.size w w' := by
  have HA := Lib.hid ((callsIn_wide (n := 5)).1 (appendSeqS_in gf lb L w hL eg hseq))
  clear hseq
  go_enter Try.func55, Try.ntmps55
  go_wp2_with (go_at_call 68; refine HA.out.mono ?_; rintro e w1 ⟨v, rfl, hr, hb⟩; have HB := Lib.hid (And.intro hr hb); clear hr hb)
  go_ret
  exact ⟨v, rfl, HB.out.1, HB.out.2⟩

def encI (x : Int) : Value := .int .i64 x
def encsI (l : List Int) : List Value := l.map encI
theorem encsI_len (l : List Int) : (encsI l).length = l.length := by simp [encsI]
set_option maxHeartbeats 1000000 in
set_option maxRecDepth 100000 in
theorem appendSeqI_in (gf : Nat) (lb : Array Value) (L : List Int) (w : World) (hL : L.length ≤ 1000000) (eg : ∀ args w, (callFunc gf args).run Try.prog w = .ok (.enter gf args) w)
    (hseq : ∀ W, Below w.heap.size w W → SeqB Fence.wide 4 Try.prog gf lb (fun x : Int => #[encI x]) (fun k => False) (KeepL w.heap.size) (fun pre x => pre ++ [x] <+: L) (fun xs => xs = L) (fun pre => pre <+: L) W) :
    CallsIn Fence.wide 5 Try.prog 86 #[.slice none 0 0, .func (.func gf) #[] lb] w fun e w' => ∃ v, e = .returned v ∧ w'.ownsRow (w.heap.size + 1) 3 1 v L.length (encsI L) ∧ Below w.heap.size w w' := by
  have HL := Lib.hid hL
  have HS := Lib.hid (And.intro hseq eg)
  clear hL hseq eg
  refine callsIn_of_wp_marks Try.func86 rfl trivial ?_ rfl
  simp only [Try.ntmps86, List.size_toArray, List.length_cons, List.length_nil, Nat.reduceAdd, Nat.reduceSub, Array.replicate_succ, Array.replicate_zero, List.push_toArray, List.append_toArray, List.nil_append, List.cons_append]
  gi_wp2
  obtain ⟨W1, hW1⟩ : ∃ W1, w.alloc (.cells #[.slice none 0 0] 70) = W1 := ⟨_, rfl⟩
  have hs1 : W1.heap.size = w.heap.size + 1 := by rw [← hW1]; simp
  have hb1 : Below w.heap.size w W1 := by rw [← hW1]; exact (Below.refl _ _).alloc (Nat.le_refl _) _
  have hr1 : Boxed W1 w.heap.size 70 (.slice none 0 0) := by rw [← hW1]; exact Boxed.new w 70 _
  rw [hW1]
  have HS1 := Lib.hid hs1
  clear hs1 hW1
  have turnI : ∀ (pre : List Int) (A B : World), ((∃ v, Boxed A w.heap.size 70 v ∧ A.ownsRow (w.heap.size + 1) 3 1 v pre.length (encsI pre)) ∧ Below w.heap.size w A) → (∀ b, Turn (w.heap.size + 1) b A B) →
      ((∃ v, Boxed B w.heap.size 70 v ∧ B.ownsRow (w.heap.size + 1) 3 1 v pre.length (encsI pre)) ∧ Below w.heap.size w B) := by
    rintro pre A B ⟨⟨v, h1, h2⟩, h3⟩ t
    exact ⟨⟨v, (t (w.heap.size + 1)).boxed h1 (by omega), row_turn (t 0) h2 (by omega)⟩, (t w.heap.size).below h3 (Nat.le_refl _) (Nat.le_refl _) (by omega)⟩
  refine wpIn_rangeFunc_B (α := Int) rfl (by omega) (gf := gf) rfl trivial HS.out.2 (HS.out.1 W1 hb1) (fun h k => h.trans k)
    (fun W l o o' h _ _ _ => keepL_put (by have := HS1.out; omega)) (Below.refl _ _) (by intro k hk; exact hk.elim) (fun _ => rfl)
    (fun pre W => (∃ v, Boxed W w.heap.size 70 v ∧ W.ownsRow (w.heap.size + 1) 3 1 v pre.length (encsI pre)) ∧ Below w.heap.size w W)
    (fun _ _ _ => False)
    (fun s A B row hs hg hr => turnI s A B hs fun b => Turn.of_own hg (by rw [HS1.out] at hr; exact hr))
    (fun s A B hs hb => turnI s A B hs fun b => Turn.of_but' hb)
    (fun c s A B row hs hg hr => hs)
    ⟨⟨_, hr1, World.ownsRow_nil _ _ _ _⟩, hb1⟩
    (fun pre x a₁ W => ((∃ v, Boxed W w.heap.size 70 v ∧ W.ownsRow (w.heap.size + 1) 3 1 v pre.length (encsI pre)) ∧ Below w.heap.size w W) ∧
      a₁ = { tmps := #[.slice none 0 0, .func (.func gf) #[] lb, .pointer (some ⟨w.heap.size, 0, none⟩), undef, .slice none 0 0, encI x, .func (.func gf) #[] lb, encI x, undef, undef, undef, undef, undef], defers := [] })
    (fun pre x a₁ s A B row hs hg hr => ⟨turnI pre A B hs.1 fun b => Turn.of_own hg (by rw [HS1.out] at hr; exact hr), hs.2⟩)
    ?assign ?body ?done ?stop
  case assign =>
    intro l pre x W K hI hal hK
    unfold encI
    gi_wp2
    exact hK _ _ (KeepsOthers.refl _) (KeepL.refl _ _) ⟨hI, rfl⟩
  case body =>
    rintro l pre x a₁ W hal ⟨⟨⟨v, hv, hrow⟩, hbel⟩, rfl⟩
    have hcv := hv.cell
    have hfv := hv.frozen
    have hlen : pre.length + 1 ≤ 1000000 := by
      have h1 := hal.length_le
      have h2 := HL.out
      simp at h1
      omega
    have hsz : w.heap.size + 1 ≤ W.heap.size := by have := hv.lt; omega
    have HI := Lib.hid (And.intro hv (And.intro hrow hbel))
    obtain ⟨i0, hi0, hz0, hz1, hz2⟩ := info_parts (P := Try.prog) (e := 3) (z := .int .i64 0) (size := 1) (bytes := 8) (by kernel_rfl)
    have HR := Lib.hid (HI.out.2.1.alloc (.cells #[encI x] 3))
    have HV2 := Lib.hid (HI.out.1.alloc (.cells #[encI x] 3))
    have HSZ := Lib.hid hsz
    clear hv hrow hbel hal
    unfold encI at HR HV2 ⊢
    gi_wp2_with (gi_at_builtin; refine wpListIn_append_own _ rfl (.tmp 8) (.tmp 10) 70 rfl (w.heap.size + 1) 3 i0 (.int .i64 0) 1 8 Try.underlying70 hi0 hz0 hz1 hz2 rfl (by decide) _ _ _ rfl HR.out ⟨W.heap.size, 0, none⟩ 1 1 [.int .i64 x] rfl rfl (cell_one_new _ _ _) (by simp [Value.oneCell']) (by unfold maxLen; omega) (by omega) (by simp; omega) ?_; intro v' w1' hown' hgrow _; obtain ⟨g', cap', rfl⟩ := ownsRow_succ hown'; obtain ⟨a1, a2, a3, a4, a5, a6⟩ := out_appended HV2.out (by decide) HR.out (by omega) (by simp; omega) hown' hgrow; have hcr' := a1.cell; have hfr' := a1.frozen)
    refine ⟨(KeepsOthers.alloc W _).trans a6, ⟨Nat.le_trans (by simp) a4.size, fun k hk => (a5 k (by omega) (by omega)).trans (Below.heap_alloc W _ _ (by omega))⟩, ⟨_, a2, ?_⟩, (HI.out.2.2.alloc HI.out.2.2.size _).trans (a4.mono (Nat.le_refl _))⟩
    simpa [encsI, encI] using a3
  case done =>
    rintro D xs W hD rfl ⟨⟨v, h1, h2⟩, h3⟩ hK
    have hcv := h1.cell
    have hD2 : w.heap.size + 1 ≤ D := by have := HS1.out; omega
    have HX := Lib.hid (And.intro h2 (And.intro h3 hK))
    clear h2 h3 hK hD
    gi_wp2
    refine ⟨by simp, .inl ⟨_, _, rfl, run_takeDeferred HX.out.2.2, ?_⟩⟩
    refine ⟨_, results_tmp rfl _ _ _, v, rfl, ?_, HX.out.2.1.trans (belowK_b (w := w) (Nat.le_refl _) _ D _ _ (by omega) HX.out.2.2 rfl rfl)⟩
    exact row_put HX.out.1 HX.out.2.2
  case stop =>
    rintro D c pre W hD hpre h hK
    exact h.elim
theorem collectI_calls (gf : Nat) (lb : Array Value) (L : List Int) (w : World) (hL : L.length ≤ 1000000) (eg : ∀ args w, (callFunc gf args).run Try.prog w = .ok (.enter gf args) w)
    (hseq : ∀ W, Below w.heap.size w W → SeqB Fence.wide 4 Try.prog gf lb (fun x : Int => #[encI x]) (fun k => False) (KeepL w.heap.size) (fun pre x => pre ++ [x] <+: L) (fun xs => xs = L) (fun pre => pre <+: L) W) :
    Calls Try.prog 69 #[.func (.func gf) #[] lb] w fun e w' => ∃ v, e = .returned v ∧ w'.ownsRow (w.heap.size + 1) 3 1 v L.length (encsI L) ∧ Below w.heap.size w w' := by
  have HA := Lib.hid ((callsIn_wide (n := 5)).1 (appendSeqI_in gf lb L w hL eg hseq))
  clear hseq
  go_enter Try.func69, Try.ntmps69
  go_wp2_with (go_at_call 86; refine HA.out.mono ?_; rintro e w1 ⟨v, rfl, hr, hb⟩; have HB := Lib.hid (And.intro hr hb); clear hr hb)
  go_ret
  exact ⟨v, rfl, HB.out.1, HB.out.2⟩

end Go.Proofs.Ytedoonfegcgmeaa
