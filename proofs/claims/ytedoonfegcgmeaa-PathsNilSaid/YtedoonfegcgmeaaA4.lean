/- 'for c := range components(path)': the caller's law; named. -/
import Derived.Test.YtedoonfegcgmeaaA3
namespace Go.Proofs.Ytedoonfegcgmeaa
open Go.RowKit
set_option linter.unusedVariables false
attribute [local go_sem] Oper.semAt_some
theorem components_calls (s : Bs) (w : World) : Calls Try.prog 25 #[str s] w fun e w' => e = .returned (.func (.func 46) #[] #[.pointer (some ⟨w.heap.size, 0, none⟩)]) ∧ w' = w.alloc (.cells #[str s] 9) := by
  have hmf : ∀ (fn : Fn) (first cap : Array Value) (w : World), (Instr.makeFunc fn first cap).run Try.prog w = .ok (.func fn first cap) w := fun _ _ _ _ => rfl
  unfold str
  go_enter Try.func25, Try.ntmps25
  go_wp2_with fail
  go_ret
  exact ⟨rfl, rfl⟩
theorem keepB_put {bx : Nat} {W : World} {l : Nat} {o' : Obj} (h1 : bx < l) : KeepB bx W (W.putObj l o') := ⟨by simp [World.putObj], World.putObj_heap_other (by omega)⟩
theorem KeepB.trans {bx : Nat} {a b c : World} (h : KeepB bx a b) (k : KeepB bx b c) : KeepB bx a c := ⟨Nat.le_trans h.1 k.1, k.2.trans h.2⟩
theorem keepB_below {bx : Nat} {W W' : World} (h : Below W.heap.size W W') (h1 : bx < W.heap.size) : KeepB bx W W' := ⟨h.size, h.block _ h1⟩
theorem keepB_set {bx : Nat} {W : World} {p : Addr} (u : Value) (h : p.block ≠ bx) : KeepB bx W (W.setCell p u) := ⟨by simp [World.setCell], Below.heap_setCell _ _ _ _ (Ne.symm h)⟩
/-- What may turn while a loop over components goes on, the rounds aside: the iterator's box, and blocks from s on that are no cells; new blocks. -/
structure Turn (s bx : Nat) (W W' : World) : Prop where
  os : W'.os = W.os
  tape : W'.tape = W.tape
  output : W'.output = W.output
  size : W.heap.size ≤ W'.heap.size
  block : ∀ k o, W.heap[k]? = some o → k ≠ bx → (k < s ∨ o.isCells = true) → W'.heap[k]? = some o
theorem Turn.boxed {s bx b : Nat} {t : TypeId} {v : Value} {W W' : World} (h : Turn s bx W W') (hb : Boxed W b t v) (h1 : b ≠ bx) : Boxed W' b t v := h.block b _ hb h1 (.inr rfl)
theorem Turn.cells {s bx b : Nat} {t : TypeId} {cs : Array Value} {fr : Nat × Nat} {W W' : World} (h : Turn s bx W W') (hb : W.heap[b]? = some (.cells cs t fr)) (h1 : b ≠ bx) : W'.heap[b]? = some (.cells cs t fr) := h.block b _ hb h1 (.inr rfl)
theorem Turn.below {s bx B : Nat} {w W W' : World} (h : Turn s bx W W') (hb : Below B w W) (hB : B ≤ w.heap.size) (h1 : B ≤ bx) (h3 : B ≤ s) : Below B w W' :=
  hb.trans ⟨h.os, h.tape, h.output, h.size, fun k hk => by
    have hlt : k < W.heap.size := by have := hb.size; omega
    rw [Array.getElem?_eq_getElem hlt]
    exact h.block k _ (Array.getElem?_eq_getElem hlt) (by omega) (.inl (by omega))⟩
theorem Turn.of_but {s bx : Nat} {W W' : World} (h : But (fun k => k = bx) W W') : Turn s bx W W' :=
  ⟨h.os, h.tape, h.output, h.size, fun k o hk h1 _ => (h.block k (Array.getElem?_eq_some_iff.1 hk).1 h1).trans hk⟩
theorem Turn.of_own {s bx : Nat} {W W' : World} {row : Option Nat} (hg : W.grownBy W' row) (hr : ∀ r, row = some r → s ≤ r ∧ ∃ o : Obj, W.heap[r]? = some o ∧ o.isCells = false) : Turn s bx W W' :=
  ⟨hg.os, hg.tape, hg.output, hg.size, fun k o hk _ h3 => by
    refine (hg.block k (Array.getElem?_eq_some_iff.1 hk).1 (fun e => ?_)).trans hk
    obtain ⟨h4, o', ho, hc⟩ := hr k e.symm
    rw [hk] at ho
    cases ho
    rcases h3 with h3 | h3
    · omega
    · simp [hc] at h3⟩
/-- The caller's law: the iterator's box is block w.heap.size. -/
theorem range_comps {g : Operand} {ps : Array Tmp} {assign body : Code} {Q : Exit → Act → World → Prop} {a : Act} (s : Bs) (w : World) (hs : s.length ≤ 1000000)
    (hg : a.eval g = .func (.func 46) #[] #[.pointer (some ⟨w.heap.size, 0, none⟩)]) (hps : ps.size = 1)
    (I : List Bs → World → Prop) (Ix : Code → List Bs → World → Prop) (Ax : List Bs → Bs → Act → World → Prop)
    (hI : ∀ pre W W', I pre W → Turn (w.heap.size + 1) w.heap.size W W' → I pre W') (hIx : ∀ c pre W W', Ix c pre W → Turn (w.heap.size + 1) w.heap.size W W' → Ix c pre W')
    (hAx : ∀ pre x a₁ W W', Ax pre x a₁ W → Turn (w.heap.size + 1) w.heap.size W W' → Ax pre x a₁ W')
    (h0 : I [] (w.alloc (.cells #[str s] 9)))
    (hassign : ∀ (l : Nat) (pre : List Bs) (x : Bs) (W : World) (K : Act → World → Prop), I pre W → w.heap.size + 1 ≤ W.heap.size → (∀ a₁ W₁, KeepsOthers W W₁ → Below W.heap.size W W₁ → Ax pre x a₁ W₁ → K a₁ W₁) →
      assign.wpIn (Fence.wide.inRound l) 3 Try.prog (Exit.then K (fun _ _ _ => False)) { tmps := (ps.zip #[str x]).foldl (fun t (p, v) => t.setIfInBounds p v) a.tmps, defers := [] } W)
    (hbody : ∀ (l : Nat) (pre : List Bs) (x : Bs) (a₁ : Act) (W : World), pre ++ [x] <+: comps s → w.heap.size + 1 ≤ W.heap.size → Ax pre x a₁ W →
      body.wpIn (Fence.wide.inRound l) 3 Try.prog (ownPostK (KeepB w.heap.size) I Ix (pre ++ [x]) W) a₁ W)
    (hdone : ∀ (D : Nat) (W : World), w.heap.size + 1 ≤ D → I (comps s) W → W.heap[D]? = some (.deferred (some [])) → Q .normal { a with defers := { target := .collected D, args := #[] } :: a.defers } W)
    (hstop : ∀ (D : Nat) (c : Code) (pre : List Bs) (W : World), w.heap.size + 1 ≤ D → pre <+: comps s → Ix c pre W → W.heap[D]? = some (.deferred (some [])) → c.wpIn Fence.wide 5 Try.prog Q { a with defers := { target := .collected D, args := #[] } :: a.defers } W) :
    (Code.rangeFunc g ps assign body).wpIn Fence.wide 5 Try.prog Q a (w.alloc (.cells #[str s] 9)) := by
  have hss : (w.alloc (.cells #[str s] 9)).heap.size = w.heap.size + 1 := by simp
  refine wpIn_rangeFunc_B (α := Bs) rfl (by omega) (gf := 46) hg trivial (enters_of Try.func46 (by kernel_rfl) rfl) (comps1_seq Fence.wide 4 rfl (by omega) w.heap.size s (w.alloc (.cells #[str s] 9)) (Boxed.new w 9 _) hs) (fun h k => h.trans k)
    (fun W l o o' h _ _ _ => keepB_put (by omega)) (Below.refl _ _) (by intro k hk; omega) (fun _ => hps.symm)
    (fun pre W => I pre W ∧ w.heap.size + 1 ≤ W.heap.size) Ix
    (fun s A B row hs hg hr => ⟨hI s A B hs.1 (Turn.of_own hg (by rw [hss] at hr; exact hr)), Nat.le_trans hs.2 hg.size⟩)
    (fun s A B hs hb => ⟨hI s A B hs.1 (Turn.of_but hb), Nat.le_trans hs.2 hb.size⟩)
    (fun c s A B row hs hg hr => hIx c s A B hs (Turn.of_own hg (by rw [hss] at hr; exact hr)))
    ⟨h0, by omega⟩
    (fun pre x a₁ W => Ax pre x a₁ W ∧ w.heap.size + 1 ≤ W.heap.size)
    (fun pre x a₁ s A B row hs hg hr => ⟨hAx pre x a₁ A B hs.1 (Turn.of_own hg (by rw [hss] at hr; exact hr)), Nat.le_trans hs.2 hg.size⟩)
    ?assign ?body ?done ?stop
  case assign =>
    intro l pre x W K hi hal hK
    refine hassign l pre x W K hi.1 hi.2 (fun a₁ W₁ h1 h2 h3 => hK a₁ W₁ h1 ?_ ⟨h3, Nat.le_trans hi.2 h2.size⟩)
    exact keepB_below h2 (by omega)
  case body =>
    intro l pre x a₁ W hal hax
    refine wpIn_mono (hbody l pre x a₁ W hal hax.2 hax.1) ?_
    intro e a3 W3 h
    cases e with
    | normal => exact ⟨h.1, h.2.1, h.2.2, Nat.le_trans hax.2 h.1.size⟩
    | ret => exact h
    | exit id => exact h
    | goto t => exact h
    | panic c => exact h
    | outgrown => exact h
  case done =>
    rintro D xs W hD rfl hi hk
    exact hdone D W (by omega) hi.1 hk
  case stop =>
    intro D c pre W hD hpre hi hk
    exact hstop D c pre W (by omega) hpre hi hk
theorem results_cell1 {fn : Func} {p : Tmp} {ty : TypeId} (h : fn.results = #[.cell p ty]) (tmps : Array Value) (P : Program) (w : World) (a : Addr) (v : Value) (d : TypeDesc) (hp : tmps.getD p undef = .pointer (some a)) (hc : w.cell? a = some v)
    (hu : P.underlying ty = some d) (hd : (match d with | .struct _ | .array _ _ => true | _ => false) = false) : (results fn tmps).run P w = .ok v w := by
  have hp' : tmps[p]?.getD undef = .pointer (some a) := by simpa using hp
  have hagg : (isAgg ty).run P w = .ok false w := by
    unfold isAgg
    rw [Sem.run_bind, run_underlying hu w]
    cases d <;> simp_all
  simp [results, h, hp', asAddr, loadVar, Sem.run_bind, hagg, hc]
/-- Some component is too long. -/
def longB (l : List Bs) : Bool := l.any fun x => decide (64 < x.length)
theorem longB_snoc (pre : List Bs) (x : Bs) : longB (pre ++ [x]) = (longB pre || decide (64 < x.length)) := by simp [longB]
theorem longB_prefix {pre xs : List Bs} (h : pre <+: xs) (hf : longB pre = true) : longB xs = true := by
  obtain ⟨q, rfl⟩ := h
  simp only [longB, List.any_append] at hf ⊢
  rw [hf]; rfl
def namedS (s : Bs) : Int := if longB (comps s) = true then 21 else 0
set_option maxHeartbeats 1000000 in
set_option maxRecDepth 100000 in
theorem named_in (s : Bs) (w : World) (hs : s.length ≤ 1000000) :
    CallsIn Fence.wide 5 Try.prog 24 #[str s] w fun e w' => e = .returned (.int .i64 (namedS s)) ∧ Below w.heap.size w w' := by
  have HS := Lib.hid hs
  refine callsIn_of_wp_marks Try.func24 rfl trivial ?_ rfl
  simp only [Try.ntmps24, List.size_toArray, List.length_cons, List.length_nil, Nat.reduceAdd, Nat.reduceSub, Array.replicate_succ, Array.replicate_zero, List.push_toArray, List.append_toArray, List.nil_append, List.cons_append]
  unfold str
  gi_wp2_with (refine ⟨trivial, ?_⟩; gi_at_call 25; refine (callsIn_wide.2 (components_calls s _)).mono ?_; rintro e w' ⟨rfl, rfl⟩)
  obtain ⟨W0, hW0⟩ : ∃ W0, w.alloc (.cells #[.int .i64 0] 23) = W0 := ⟨_, rfl⟩
  have hs0 : w.heap.size + 1 = W0.heap.size := by rw [← hW0]; simp
  have hb0 : Below w.heap.size w W0 := by rw [← hW0]; exact (Below.refl _ _).alloc (Nat.le_refl _) _
  have hr0 : Boxed W0 w.heap.size 23 (.int .i64 0) := by rw [← hW0]; exact Boxed.new w 23 _
  rw [hW0, hs0]
  refine range_comps s W0 HS.out rfl rfl
    (fun pre W => Boxed W w.heap.size 23 (.int .i64 0) ∧ Below w.heap.size w W ∧ longB pre = false)
    (fun c pre W => c = .ret ∧ Boxed W w.heap.size 23 (.int .i64 21) ∧ Below w.heap.size w W ∧ longB pre = true)
    (fun pre x a₁ W => (Boxed W w.heap.size 23 (.int .i64 0) ∧ Below w.heap.size w W ∧ longB pre = false) ∧
      a₁ = { tmps := #[.string ⟨s.toArray⟩, undef, .pointer (some ⟨w.heap.size, 0, none⟩), .string ⟨x.toArray⟩, .string ⟨s.toArray⟩, .func (.func 46) #[] #[.pointer (some ⟨W0.heap.size, 0, none⟩)], .string ⟨x.toArray⟩, undef, undef, undef], defers := [] })
    (fun pre W W' h t => ⟨t.boxed h.1 (by omega), t.below h.2.1 (Nat.le_refl _) (by omega) (by omega), h.2.2⟩)
    (fun c pre W W' h t => ⟨h.1, t.boxed h.2.1 (by omega), t.below h.2.2.1 (Nat.le_refl _) (by omega) (by omega), h.2.2.2⟩)
    (fun pre x a₁ W W' h t => ⟨⟨t.boxed h.1.1 (by omega), t.below h.1.2.1 (Nat.le_refl _) (by omega) (by omega), h.1.2.2⟩, h.2⟩)
    ⟨hr0.alloc _, hb0.alloc hb0.size _, rfl⟩
    ?assign ?body ?done ?stop
  case assign =>
    intro l pre x W K hI hsz hK
    unfold str
    gi_wp2
    exact hK _ _ (KeepsOthers.refl _) (Below.refl _ _) ⟨hI, rfl⟩
  case body =>
    rintro l pre x a₁ W hal hsz ⟨⟨hI1, hI2, hI3⟩, rfl⟩
    have hcr := hI1.cell
    have hfr := hI1.frozen
    have HI := Lib.hid (And.intro hI1 (And.intro hI2 hI3))
    clear hI1 hI2 hI3 hal
    by_cases hle : 64 < x.length
    · have hle' : (64 : Int) < (x.length : Int) := by omega
      gi_wp2
      exact ⟨KeepsOthers.setCell _ _ _, rfl, HI.out.1.set _, HI.out.2.1.setCell (by simp) _, by rw [longB_snoc]; simp; omega⟩
    · have hle' : ¬ (64 : Int) < (x.length : Int) := by omega
      gi_wp2
      exact ⟨KeepsOthers.refl _, keepB_below (Below.refl _ _) (by omega), HI.out.1, HI.out.2.1, by rw [longB_snoc, HI.out.2.2]; simpa using hle⟩
  case done =>
    rintro D W hD ⟨h1, h2, h3⟩ hK
    have hcr := h1.cell
    have hfr := h1.frozen
    gi_wp2
    refine ⟨by simp, .inl ⟨_, _, rfl, run_takeDeferred ((KeepsOthers.setCell _ _ _).same D _ hK rfl), ?_⟩⟩
    exact ⟨_, results_cell1 rfl _ _ _ ⟨w.heap.size, 0, none⟩ (.int .i64 0) _ rfl (by rw [World.cell?_of_block (w := W.setCell ⟨w.heap.size, 0, none⟩ (.int .i64 0)) (World.putObj_heap_other (by simp; omega))]; exact (h1.set _).cell) Try.underlying23 rfl,
      by unfold namedS; rw [h3]; rfl, (h2.setCell (by simp) _).trans (belowK_b (w := w) (Nat.le_refl _) _ D _ _ (by omega) ((KeepsOthers.setCell _ _ _).same D _ hK rfl) rfl rfl)⟩
  case stop =>
    rintro D c pre W hD hpre ⟨rfl, h2, h3, h4⟩ hK
    gi_wp2
    refine ⟨by simp, .inl ⟨_, _, rfl, run_takeDeferred hK, ?_⟩⟩
    exact ⟨_, results_cell1 rfl _ _ _ ⟨w.heap.size, 0, none⟩ (.int .i64 21) _ rfl (by rw [World.cell?_of_block (w := W) (World.putObj_heap_other (by simp; omega))]; exact h2.cell) Try.underlying23 rfl,
      by unfold namedS; rw [longB_prefix hpre h4]; rfl, h3.trans (belowK_b (w := w) (Nat.le_refl _) _ D _ _ (by omega) hK rfl rfl)⟩
end Go.Proofs.Ytedoonfegcgmeaa
