/- 'for p := range prefixes(path)': the caller's law; linked. -/
import Derived.Test.YtedoonfegcgmeaaC1
import Derived.Maps.OwnIn
import Derived.RangeFuncNested
import Derived.Test.YtedoonfegcgmeaaBr
import Derived.RegionIn
namespace Go.Proofs.Ytedoonfegcgmeaa
open Go.RowKit
set_option linter.unusedVariables false
attribute [local go_sem] Oper.semAt_some
theorem Turn.of_but' {s bx : Nat} {W W' : World} (h : But (fun k => False) W W') : Turn s bx W W' :=
  ⟨h.os, h.tape, h.output, h.size, fun k o hk h1 _ => (h.block k (Array.getElem?_eq_some_iff.1 hk).1 (fun h => h)).trans hk⟩
/-- The caller's law: the iterator's box is block w.heap.size. -/
theorem range_pfx {g : Operand} {ps : Array Tmp} {assign body : Code} {Q : Exit → Act → World → Prop} {a : Act} (s : Bs) (w : World) (hs : s.length ≤ 1000000)
    (hg : a.eval g = .func (.func 66) #[] #[.pointer (some ⟨w.heap.size, 0, none⟩)]) (hps : ps.size = 1)
    (I : List Bs → World → Prop) (Ix : Code → List Bs → World → Prop) (Ax : List Bs → Bs → Act → World → Prop)
    (hI : ∀ pre W W', I pre W → Turn (w.heap.size + 1) w.heap.size W W' → I pre W') (hIx : ∀ c pre W W', Ix c pre W → Turn (w.heap.size + 1) w.heap.size W W' → Ix c pre W')
    (hAx : ∀ pre x a₁ W W', Ax pre x a₁ W → Turn (w.heap.size + 1) w.heap.size W W' → Ax pre x a₁ W')
    (h0 : I [] (w.alloc (.cells #[str s] 9)))
    (hassign : ∀ (l : Nat) (pre : List Bs) (x : Bs) (W : World) (K : Act → World → Prop), I pre W → w.heap.size + 1 ≤ W.heap.size → (∀ a₁ W₁, KeepsOthers W W₁ → Below W.heap.size W W₁ → Ax pre x a₁ W₁ → K a₁ W₁) →
      assign.wpIn (Fence.wide.inRound l) 3 Try.prog (Exit.then K (fun _ _ _ => False)) { tmps := (ps.zip #[str x]).foldl (fun t (p, v) => t.setIfInBounds p v) a.tmps, defers := [] } W)
    (hbody : ∀ (l : Nat) (pre : List Bs) (x : Bs) (a₁ : Act) (W : World), pre ++ [x] <+: pfx s → w.heap.size + 1 ≤ W.heap.size → Ax pre x a₁ W →
      body.wpIn (Fence.wide.inRound l) 3 Try.prog (ownPostK (KeepB w.heap.size) I Ix (pre ++ [x]) W) a₁ W)
    (hdone : ∀ (D : Nat) (W : World), w.heap.size + 1 ≤ D → I (pfx s) W → W.heap[D]? = some (.deferred (some [])) → Q .normal { a with defers := { target := .collected D, args := #[] } :: a.defers } W)
    (hstop : ∀ (D : Nat) (c : Code) (pre : List Bs) (W : World), w.heap.size + 1 ≤ D → pre <+: pfx s → Ix c pre W → W.heap[D]? = some (.deferred (some [])) → c.wpIn Fence.wide 5 Try.prog Q { a with defers := { target := .collected D, args := #[] } :: a.defers } W) :
    (Code.rangeFunc g ps assign body).wpIn Fence.wide 5 Try.prog Q a (w.alloc (.cells #[str s] 9)) := by
  have hss : (w.alloc (.cells #[str s] 9)).heap.size = w.heap.size + 1 := by simp
  refine wpIn_rangeFunc_B (α := Bs) rfl (by omega) (gf := 66) hg trivial (enters_of Try.func66 (by kernel_rfl) rfl) (pfx_seq Fence.wide 4 rfl (by omega) w.heap.size s (w.alloc (.cells #[str s] 9)) (Boxed.new w 9 _) hs) (fun h k => h.trans k)
    (fun W l o o' h _ _ _ => keepB_put (by omega)) (Below.refl _ _) (by intro k hk; exact hk.elim) (fun _ => hps.symm)
    (fun pre W => I pre W ∧ w.heap.size + 1 ≤ W.heap.size) Ix
    (fun s A B row hs hg hr => ⟨hI s A B hs.1 (Turn.of_own hg (by rw [hss] at hr; exact hr)), Nat.le_trans hs.2 hg.size⟩)
    (fun s A B hs hb => ⟨hI s A B hs.1 (Turn.of_but' hb), Nat.le_trans hs.2 hb.size⟩)
    (fun c s A B row hs hg hr => hIx c s A B hs (Turn.of_own hg (by rw [hss] at hr; exact hr)))
    ⟨h0, by omega⟩
    (fun pre x a₁ W => Ax pre x a₁ W ∧ w.heap.size + 1 ≤ W.heap.size)
    (fun pre x a₁ s A B row hs hg hr => ⟨hAx pre x a₁ A B hs.1 (Turn.of_own hg (by rw [hss] at hr; exact hr)), Nat.le_trans hs.2 hg.size⟩)
    ?assign ?body ?done ?stop
  case assign =>
    intro l pre x W K hi hal hK
    refine hassign l pre x W K hi.1 hi.2 (fun a₁ W₁ h1 h2 h3 => hK a₁ W₁ h1 ?_ ⟨h3, Nat.le_trans hi.2 h2.size⟩)
    exact keepB_below h2 (by omega)
  case body =>
    intro l pre x a₁ W hal hax
    refine wpIn_mono (hbody l pre x a₁ W hal hax.2 hax.1) ?_
    intro e a3 W3 h
    cases e with
    | normal => exact ⟨h.1, h.2.1, h.2.2, Nat.le_trans hax.2 h.1.size⟩
    | ret => exact h
    | exit id => exact h
    | goto t => exact h
    | panic c => exact h
    | outgrown => exact h
  case done =>
    rintro D xs W hD rfl hi hk
    exact hdone D W (by omega) hi.1 hk
  case stop =>
    intro D c pre W hD hpre hi hk
    exact hstop D c pre W (by omega) hpre hi hk
/-- A map's elements, read as they stand. -/
def RV : Value → Option (DataW Value × List MemPlace) := fun v => some (.held v, [])
/-- Block b is a map that reads as D. -/
def MapV (w : World) (k : TypeId) (b n : Nat) (D : DataW Value) : Prop := w.ownsMap Try.prog k RV b n D
theorem keyS (q : Bs) (h : q.length ≤ 1000000) : keyOf Try.prog 9 (str q) = some (.string q) := by
  unfold keyOf
  rw [Try.underlying9]
  have : q.length ≤ maxLen := by unfold maxLen; omega
  simp [mapKey, Try.underlying9, str, ByteArray.size, this]
theorem MapV.heap {w w' : World} {k : TypeId} {b n : Nat} {D : DataW Value} (h : MapV w k b n D) (he : w'.heap[b]? = w.heap[b]?) : MapV w' k b n D := by
  obtain ⟨es, clock, hb, r⟩ := h
  exact ⟨es, clock, he.trans hb, r⟩
theorem MapV.lt {w : World} {k : TypeId} {b n : Nat} {D : DataW Value} (h : MapV w k b n D) : b < w.heap.size := World.ownsMap.lt h
theorem MapV.below {w w' : World} {k : TypeId} {b n : Nat} {D : DataW Value} (h : MapV w k b n D) (hb : Below w.heap.size w w') : MapV w' k b n D := h.heap (hb.block b h.lt)
theorem pfx_len (p : Bs) : ∀ x ∈ pfx p, x.length ≤ p.length + 1 := by
  have key : ∀ n, ∀ x ∈ mid p n, x.length ≤ p.length := by
    intro n
    induction n with
    | zero => intro x hx; cases hx
    | succ i ih =>
      intro x hx
      rw [mid_succ] at hx
      rcases List.mem_append.1 hx with h | h
      · exact ih x h
      · split at h
        · simp at h; subst h; simp; omega
        · cases h
  intro x hx
  unfold pfx at hx
  split at hx
  · simp at hx; subst hx; simp
  · rcases List.mem_cons.1 hx with rfl | hx
    · simp
    · rcases List.mem_append.1 hx with h | h
      · have := key _ x h; omega
      · simp at h; subst h; omega
/-- The table, in its block. -/
def TabAt (w : World) (tb : Nat) (mv gv lv lst : Value) : Prop := w.heap[tb]? = some (.cells #[mv, gv, lv, lst] 67 (0, 0))
theorem TabAt.lt {w : World} {tb : Nat} {a b c d : Value} (h : TabAt w tb a b c d) : tb < w.heap.size := (Array.getElem?_eq_some_iff.1 h).1
theorem TabAt.heap {w w' : World} {tb : Nat} {a b c d : Value} (h : TabAt w tb a b c d) (he : w'.heap[tb]? = w.heap[tb]?) : TabAt w' tb a b c d := he.trans h
theorem TabAt.below {w w' : World} {tb : Nat} {a b c d : Value} (h : TabAt w tb a b c d) (hb : Below w.heap.size w w') : TabAt w' tb a b c d := h.heap (hb.block tb h.lt)
theorem TabAt.cells {w : World} {tb : Nat} {a b c d : Value} (h : TabAt w tb a b c d) : w.cell? ⟨tb, 0, none⟩ = some a ∧ w.cell? ⟨tb, 1, none⟩ = some b ∧ w.cell? ⟨tb, 2, none⟩ = some c ∧ w.cell? ⟨tb, 3, none⟩ = some d :=
  ⟨cell_of_row _ _ _ _ _ _ h, cell_of_row _ _ _ _ _ _ h, cell_of_row _ _ _ _ _ _ h, cell_of_row _ _ _ _ _ _ h⟩
/-- A link is expanded here. -/
def hitB (D : DataW Value) (f : Bool) (p q : Bs) : Bool := Maps.has D (.string q) && (f || q != p)
/-- The link that is expanded. -/
def linkS (D : DataW Value) (f : Bool) (p : Bs) : Option Bs := (pfx p).find? (hitB D f p)
def linkV (D : DataW Value) (f : Bool) (p : Bs) : Value := match linkS D f p with
  | some q => .tuple #[str q, str (restS q p).1, .bool true]
  | none => .tuple #[str [], str [], .bool false]
/-- What the loop in linked leans on. -/
structure LI (w : World) (tb : Nat) (p : Bs) (f : Bool) (v6 v7 : Bs) (v8 : Bool) (W : World) : Prop where
  b0 : Boxed W w.heap.size 30 (.pointer (some ⟨tb, 0, none⟩))
  b1 : Boxed W (w.heap.size + 1) 9 (str p)
  b2 : Boxed W (w.heap.size + 2) 4 (.bool f)
  b3 : Boxed W (w.heap.size + 3) 9 (str v6)
  b4 : Boxed W (w.heap.size + 4) 9 (str v7)
  b5 : Boxed W (w.heap.size + 5) 4 (.bool v8)
  bel : Below w.heap.size w W
theorem LI.turn {w : World} {tb : Nat} {p : Bs} {f : Bool} {v6 v7 : Bs} {v8 : Bool} {W W' : World} (h : LI w tb p f v6 v7 v8 W) (t : Turn (w.heap.size + 6 + 1) (w.heap.size + 6) W W') : LI w tb p f v6 v7 v8 W' :=
  ⟨t.boxed h.b0 (by omega), t.boxed h.b1 (by omega), t.boxed h.b2 (by omega), t.boxed h.b3 (by omega), t.boxed h.b4 (by omega), t.boxed h.b5 (by omega), t.below h.bel (Nat.le_refl _) (by omega) (by omega)⟩
theorem LI.below {w : World} {tb : Nat} {p : Bs} {f : Bool} {v6 v7 : Bs} {v8 : Bool} {W W' : World} (h : LI w tb p f v6 v7 v8 W) (t : Below W.heap.size W W') : LI w tb p f v6 v7 v8 W' :=
  ⟨(t.block _ h.b0.lt).trans h.b0, (t.block _ h.b1.lt).trans h.b1, (t.block _ h.b2.lt).trans h.b2, (t.block _ h.b3.lt).trans h.b3, (t.block _ h.b4.lt).trans h.b4, (t.block _ h.b5.lt).trans h.b5, below_then' h.bel t⟩
theorem LI.set4 {w : World} {tb : Nat} {p : Bs} {f : Bool} {v6 v7 : Bs} {v8 : Bool} {W : World} (h : LI w tb p f v6 v7 v8 W) (v : Bs) : LI w tb p f v6 v v8 (W.setCell ⟨w.heap.size + 4, 0, none⟩ (str v)) :=
  ⟨h.b0.other (by omega) _, h.b1.other (by omega) _, h.b2.other (by omega) _, h.b3.other (by omega) _, h.b4.set _, h.b5.other (by omega) _, h.bel.setCell (by show w.heap.size ≤ w.heap.size + 4; omega) _⟩
theorem LI.set3 {w : World} {tb : Nat} {p : Bs} {f : Bool} {v6 v7 : Bs} {v8 : Bool} {W : World} (h : LI w tb p f v6 v7 v8 W) (v : Bs) : LI w tb p f v v7 v8 (W.setCell ⟨w.heap.size + 3, 0, none⟩ (str v)) :=
  ⟨h.b0.other (by omega) _, h.b1.other (by omega) _, h.b2.other (by omega) _, h.b3.set _, h.b4.other (by omega) _, h.b5.other (by omega) _, h.bel.setCell (by show w.heap.size ≤ w.heap.size + 3; omega) _⟩
theorem LI.set5 {w : World} {tb : Nat} {p : Bs} {f : Bool} {v6 v7 : Bs} {v8 : Bool} {W : World} (h : LI w tb p f v6 v7 v8 W) (v : Bool) : LI w tb p f v6 v7 v (W.setCell ⟨w.heap.size + 5, 0, none⟩ (.bool v)) :=
  ⟨h.b0.other (by omega) _, h.b1.other (by omega) _, h.b2.other (by omega) _, h.b3.other (by omega) _, h.b4.other (by omega) _, h.b5.set _, h.bel.setCell (by show w.heap.size ≤ w.heap.size + 5; omega) _⟩
theorem LI.drew {w : World} {tb : Nat} {p : Bs} {f : Bool} {v6 v7 : Bs} {v8 : Bool} {W : World} (h : LI w tb p f v6 v7 v8 W) : LI w tb p f v6 v7 v8 W.drew :=
  ⟨h.b0, h.b1, h.b2, h.b3, h.b4, h.b5, h.bel.drew⟩
theorem keepsO_below {W W' : World} (h : Below W.heap.size W W') : KeepsOthers W W' := KeepsOthers.of_grownBy (grown_of_below' h none) (by intro j o h; cases h)
theorem keepB_below' {bx : Nat} {W W' : World} (h : Below W.heap.size W W') (h1 : bx < W.heap.size) : KeepB bx W W' := keepB_below h h1
theorem results_cell3 {fn : Func} {p q r : Tmp} {ty ty2 ty3 : TypeId} (h : fn.results = #[.cell p ty, .cell q ty2, .cell r ty3]) (tmps : Array Value) (P : Program) (w : World) (a b c : Addr) (u v x : Value) (d d2 d3 : TypeDesc)
    (hp : tmps.getD p undef = .pointer (some a)) (hq : tmps.getD q undef = .pointer (some b)) (hr : tmps.getD r undef = .pointer (some c)) (ha : w.cell? a = some u) (hb : w.cell? b = some v) (hc : w.cell? c = some x)
    (hu : P.underlying ty = some d) (hd : (match d with | .struct _ | .array _ _ => true | _ => false) = false) (hu2 : P.underlying ty2 = some d2) (hd2 : (match d2 with | .struct _ | .array _ _ => true | _ => false) = false)
    (hu3 : P.underlying ty3 = some d3) (hd3 : (match d3 with | .struct _ | .array _ _ => true | _ => false) = false) : (results fn tmps).run P w = .ok (.tuple #[u, v, x]) w := by
  have hp' : tmps[p]?.getD undef = .pointer (some a) := by simpa using hp
  have hq' : tmps[q]?.getD undef = .pointer (some b) := by simpa using hq
  have hr' : tmps[r]?.getD undef = .pointer (some c) := by simpa using hr
  have g1 : (isAgg ty).run P w = .ok false w := by
    unfold isAgg
    rw [Sem.run_bind, run_underlying hu w]
    cases d <;> simp_all
  have g2 : (isAgg ty2).run P w = .ok false w := by
    unfold isAgg
    rw [Sem.run_bind, run_underlying hu2 w]
    cases d2 <;> simp_all
  have g3 : (isAgg ty3).run P w = .ok false w := by
    unfold isAgg
    rw [Sem.run_bind, run_underlying hu3 w]
    cases d3 <;> simp_all
  simp [results, h, hp', hq', hr', asAddr, loadVar, Sem.run_bind, g1, g2, g3, ha, hb, hc]
theorem linkS_snoc (D : DataW Value) (f : Bool) (p : Bs) (pre : List Bs) (x : Bs) (h : pre.find? (hitB D f p) = none) : (pre ++ [x]).find? (hitB D f p) = if hitB D f p x = true then some x else none := by
  rw [List.find?_append, h]
  by_cases hx : hitB D f p x = true
  · rw [if_pos hx]; simp [hx]
  · rw [if_neg hx]; simp [hx]
theorem find_prefix {q : Bs → Bool} {pre xs : List Bs} {y : Bs} (h : pre <+: xs) (hf : pre.find? q = some y) : xs.find? q = some y := by
  obtain ⟨t, rfl⟩ := h
  rw [List.find?_append, hf]
  rfl
set_option maxHeartbeats 2000000 in
set_option maxRecDepth 100000 in
theorem linked_in (tb lb n : Nat) (mv gv lst : Value) (D : DataW Value) (p : Bs) (f : Bool) (w : World) (ht : TabAt w tb mv gv (.map (some lb)) lst) (hm : MapV w 9 lb n D) (hp : p.length ≤ 900000) (hp0 : p ≠ []) :
    CallsIn Fence.wide 5 Try.prog 34 #[.pointer (some ⟨tb, 0, none⟩), str p, .bool f] w fun e w' => e = .returned (linkV D f p) ∧ Below w.heap.size w w' := by
  have HS := Lib.hid hp
  have HT := Lib.hid (And.intro ht hm)
  have HR := Lib.hid (fun q (hq : q.length ≤ 1000000) W => rest_calls q p W hq (by have := HS.out; omega) hp0)
  clear hp ht hm hp0
  unfold str at HR
  refine callsIn_of_wp_marks Try.func34 rfl trivial ?_ rfl
  simp only [Try.ntmps34, List.size_toArray, List.length_cons, List.length_nil, Nat.reduceAdd, Nat.reduceSub, Array.replicate_succ, Array.replicate_zero, List.push_toArray, List.append_toArray, List.nil_append, List.cons_append]
  unfold str
  gi_wp2_with (refine ⟨trivial, ?_⟩; gi_at_call 51; refine (callsIn_wide.2 (pfx_calls p _)).mono ?_; rintro e w' ⟨rfl, rfl⟩)
  obtain ⟨W0, hW0⟩ : ∃ W0, ((((((w.alloc (.cells #[.pointer (some ⟨tb, 0, none⟩)] 30)).alloc (.cells #[.string ⟨p.toArray⟩] 9)).alloc (.cells #[.bool f] 4)).alloc (.cells #[.string ⟨#[]⟩] 9)).alloc (.cells #[.string ⟨#[]⟩] 9)).alloc (.cells #[.bool false] 4)) = W0 := ⟨_, rfl⟩
  have hs0 : w.heap.size + 1 + 1 + 1 + 1 + 1 + 1 = W0.heap.size := by rw [← hW0]; simp
  have hL0 : LI w tb p f [] [] false W0 := by
    rw [← hW0]
    refine ⟨(((((Boxed.new w 30 _).alloc _).alloc _).alloc _).alloc _).alloc _, ?_, ?_, ?_, ?_, ?_, ?_⟩
    · have := ((((Boxed.new (w.alloc (.cells #[.pointer (some ⟨tb, 0, none⟩)] 30)) 9 (str p)).alloc (.cells #[.bool f] 4)).alloc (.cells #[.string ⟨#[]⟩] 9)).alloc (.cells #[.string ⟨#[]⟩] 9)).alloc (.cells #[.bool false] 4)
      rw [World.size_alloc] at this
      exact this
    · have := (((Boxed.new ((w.alloc (.cells #[.pointer (some ⟨tb, 0, none⟩)] 30)).alloc (.cells #[.string ⟨p.toArray⟩] 9)) 4 (.bool f)).alloc (.cells #[.string ⟨#[]⟩] 9)).alloc (.cells #[.string ⟨#[]⟩] 9)).alloc (.cells #[.bool false] 4)
      rw [World.size_alloc, World.size_alloc] at this
      exact this
    · have := ((Boxed.new (((w.alloc (.cells #[.pointer (some ⟨tb, 0, none⟩)] 30)).alloc (.cells #[.string ⟨p.toArray⟩] 9)).alloc (.cells #[.bool f] 4)) 9 (str [])).alloc (.cells #[.string ⟨#[]⟩] 9)).alloc (.cells #[.bool false] 4)
      rw [World.size_alloc, World.size_alloc, World.size_alloc] at this
      exact this
    · have := (Boxed.new ((((w.alloc (.cells #[.pointer (some ⟨tb, 0, none⟩)] 30)).alloc (.cells #[.string ⟨p.toArray⟩] 9)).alloc (.cells #[.bool f] 4)).alloc (.cells #[.string ⟨#[]⟩] 9)) 9 (str [])).alloc (.cells #[.bool false] 4)
      rw [World.size_alloc, World.size_alloc, World.size_alloc, World.size_alloc] at this
      exact this
    · have := Boxed.new (((((w.alloc (.cells #[.pointer (some ⟨tb, 0, none⟩)] 30)).alloc (.cells #[.string ⟨p.toArray⟩] 9)).alloc (.cells #[.bool f] 4)).alloc (.cells #[.string ⟨#[]⟩] 9)).alloc (.cells #[.string ⟨#[]⟩] 9)) 4 (.bool false)
      rw [World.size_alloc, World.size_alloc, World.size_alloc, World.size_alloc, World.size_alloc] at this
      exact this
    · exact (((((((Below.refl _ w).alloc (Nat.le_refl _) _).alloc (by simp) _).alloc (by simp; omega) _).alloc (by simp; omega) _).alloc (by simp; omega) _).alloc (by simp; omega) _)
  have hs1 : W0.heap.size = w.heap.size + 6 := by omega
  rw [hW0, hs0]
  have e2 : w.heap.size + 1 + 1 = w.heap.size + 2 := rfl
  have e3 : w.heap.size + 2 + 1 = w.heap.size + 3 := rfl
  have e4 : w.heap.size + 3 + 1 = w.heap.size + 4 := rfl
  have e5 : w.heap.size + 4 + 1 = w.heap.size + 5 := rfl
  rw [e2, e3, e4, e5]
  clear e2 e3 e4 e5
  have HS1 := Lib.hid hs1
  clear hs0 hs1 hW0
  refine range_pfx p W0 (by have := HS.out; omega) rfl rfl
    (fun pre W => LI w tb p f [] [] false W ∧ pre.find? (hitB D f p) = none)
    (fun c pre W => c = .ret ∧ ∃ q, LI w tb p f q (restS q p).1 true W ∧ pre.find? (hitB D f p) = some q)
    (fun pre x a₁ W => (LI w tb p f [] [] false W ∧ pre.find? (hitB D f p) = none) ∧
      a₁ = { tmps := #[.pointer (some ⟨tb, 0, none⟩), .string ⟨p.toArray⟩, .bool f, .pointer (some ⟨w.heap.size, 0, none⟩), .pointer (some ⟨w.heap.size + 1, 0, none⟩), .pointer (some ⟨w.heap.size + 2, 0, none⟩), .pointer (some ⟨w.heap.size + 3, 0, none⟩), .pointer (some ⟨w.heap.size + 4, 0, none⟩), .pointer (some ⟨w.heap.size + 5, 0, none⟩),
        .string ⟨x.toArray⟩, undef, undef, .string ⟨p.toArray⟩, .func (.func 66) #[] #[.pointer (some ⟨W0.heap.size, 0, none⟩)], .string ⟨x.toArray⟩, undef, undef, undef, undef, undef, undef, undef, undef, undef, undef, undef, undef, undef, undef, undef, undef, undef, undef, undef, undef, undef, undef, undef, undef, undef, undef], defers := [] })
    (fun pre W W' h t => ⟨h.1.turn (by rw [← HS1.out]; exact t), h.2⟩)
    (fun c pre W W' h t => ⟨h.1, by obtain ⟨q, h1, h2⟩ := h.2; exact ⟨q, h1.turn (by rw [← HS1.out]; exact t), h2⟩⟩)
    (fun pre x a₁ W W' h t => ⟨⟨h.1.1.turn (by rw [← HS1.out]; exact t), h.1.2⟩, h.2⟩)
    ⟨⟨hL0.b0.alloc _, hL0.b1.alloc _, hL0.b2.alloc _, hL0.b3.alloc _, hL0.b4.alloc _, hL0.b5.alloc _, hL0.bel.alloc hL0.bel.size _⟩, rfl⟩
    ?assign ?body ?done ?stop
  case assign =>
    intro l pre x W K hI hsz hK
    unfold str
    gi_wp2
    exact hK _ _ (KeepsOthers.refl _) (Below.refl _ _) ⟨hI, rfl⟩
  case body =>
    rintro l pre x a₁ W hal hsz ⟨⟨hI1, hI2⟩, rfl⟩
    have hxl : x.length ≤ 1000000 := by
      have := pfx_len p x (hal.subset (by simp))
      have h2 := HS.out
      omega
    have hbx : W0.heap.size < W.heap.size := by omega
    have HT2 := Lib.hid (And.intro (HT.out.1.heap (hI1.bel.block tb HT.out.1.lt)) (HT.out.2.heap (hI1.bel.block lb HT.out.2.lt)))
    obtain ⟨_, _, hc2, _⟩ := HT2.out.1.cells
    obtain ⟨v, ps, hlk, _⟩ := World.ownsMap.look_ok HT2.out.2 (Maps.string_keyed Try.underlying9) Try.underlying65 (z := .string ⟨#[]⟩) (by simp [go_sem]) (zd := .held (.string ⟨#[]⟩)) (zp := []) rfl (keyS x hxl)
    have hsn := linkS_snoc D f p pre x hI2
    have HX := Lib.hid (And.intro hI1 (And.intro hI2 (And.intro hsn hbx)))
    have h0 := hI1.b0.cell
    have h1 := hI1.b1.cell
    have h2 := hI1.b2.cell
    have h3 := hI1.b3.cell
    have h4 := hI1.b4.cell
    have h5 := hI1.b5.cell
    have f3 := hI1.b3.frozen
    have f4 := hI1.b4.frozen
    have f5 := hI1.b5.frozen
    unfold str at h1 h3 h4 hlk
    clear hI1 hI2 hsn hal hsz hbx
    cases hh : Maps.has D (.string x) with
    | false =>
      rw [hh] at hlk
      have HF : Hid (¬ hitB D f p x = true) := Lib.hid (by unfold hitB; rw [hh]; simp)
      clear hh
      gi_wp2
      exact ⟨KeepsOthers.refl _, keepB_below (Below.refl _ _) HX.out.2.2.2, HX.out.1, by rw [HX.out.2.2.1, if_neg HF.out]⟩
    | true =>
      rw [hh] at hlk
      cases f with
      | true =>
        have HF : Hid (hitB D true p x = true) := Lib.hid (by unfold hitB; rw [hh]; simp)
        clear hh
        gi_wp2_with (refine ⟨trivial, ?_⟩; gi_at_call 32; refine (callsIn_wide.2 (HR.out x hxl _)).mono ?_; rintro e w1 ⟨rfl, hb⟩; have hI := HX.out.1.below hb; have HB := Lib.hid hb; have k1 := hI.b1.cell; have k3 := hI.b3.cell; have k4 := hI.b4.cell; have k5 := hI.b5.cell; have g3 := hI.b3.frozen; have g4 := hI.b4.frozen; have g5 := hI.b5.frozen; have HI2 := Lib.hid hI; unfold str at k1 k3 k4; clear hb hI)
        gi_region
        all_goals
          gi_wp2
          refine ⟨(keepsO_below HB.out).trans (((((KeepsOthers.setCell _ _ _).trans (KeepsOthers.setCell _ _ _)).trans (KeepsOthers.setCell _ _ _)).trans (KeepsOthers.setCell _ _ _)).trans (KeepsOthers.drew _)), rfl, x, ?_, by rw [HX.out.2.2.1, if_pos HF.out]⟩
          repeat (first | apply LI.drew | apply LI.set5 | apply LI.set4 | apply LI.set3)
          exact HI2.out
      | false =>
        by_cases hxp : x = p
        · have HF : Hid (¬ hitB D false p x = true) := Lib.hid (by unfold hitB; rw [hh]; simp [hxp])
          have hb : (x == p) = true := by simpa using hxp
          clear hh hxp
          gi_wp2
          exact ⟨KeepsOthers.refl _, keepB_below (Below.refl _ _) HX.out.2.2.2, HX.out.1, by rw [HX.out.2.2.1, if_neg HF.out]⟩
        · have HF : Hid (hitB D false p x = true) := Lib.hid (by unfold hitB; rw [hh]; simp [hxp])
          have hb : (x == p) = false := by simpa using hxp
          clear hh hxp
          gi_wp2_with (refine ⟨trivial, ?_⟩; gi_at_call 32; refine (callsIn_wide.2 (HR.out x hxl _)).mono ?_; rintro e w1 ⟨rfl, hb⟩; have hI := HX.out.1.below hb; have HB := Lib.hid hb; have k1 := hI.b1.cell; have k3 := hI.b3.cell; have k4 := hI.b4.cell; have k5 := hI.b5.cell; have g3 := hI.b3.frozen; have g4 := hI.b4.frozen; have g5 := hI.b5.frozen; have HI2 := Lib.hid hI; unfold str at k1 k3 k4; clear hb hI)
          gi_region
          all_goals
            gi_wp2
            refine ⟨(keepsO_below HB.out).trans (((((KeepsOthers.setCell _ _ _).trans (KeepsOthers.setCell _ _ _)).trans (KeepsOthers.setCell _ _ _)).trans (KeepsOthers.setCell _ _ _)).trans (KeepsOthers.drew _)), rfl, x, ?_, by rw [HX.out.2.2.1, if_pos HF.out]⟩
            repeat (first | apply LI.drew | apply LI.set5 | apply LI.set4 | apply LI.set3)
            exact HI2.out
  case done =>
    rintro D' W hD ⟨h1, h2⟩ hK
    have c3 := h1.b3.cell
    have c4 := h1.b4.cell
    have c5 := h1.b5.cell
    have g3 := h1.b3.frozen
    have g4 := h1.b4.frozen
    have g5 := h1.b5.frozen
    unfold str at c3 c4
    have HX := Lib.hid (And.intro h1 (And.intro h2 hK))
    have hD2 : w.heap.size + 7 ≤ D' := by have := HS1.out; omega
    clear h1 h2 hK hD
    gi_wp2
    have hL := ((HX.out.1.set3 []).set4 []).set5 false
    have hK2 : (((W.setCell ⟨w.heap.size + 3, 0, none⟩ (str [])).setCell ⟨w.heap.size + 4, 0, none⟩ (str [])).setCell ⟨w.heap.size + 5, 0, none⟩ (.bool false)).heap[D']? = some (.deferred (some [])) := (((KeepsOthers.setCell _ _ _).trans (KeepsOthers.setCell _ _ _)).trans (KeepsOthers.setCell _ _ _)).same D' _ HX.out.2.2 rfl
    refine ⟨by simp, .inl ⟨_, _, rfl, run_takeDeferred hK2, ?_⟩⟩
    have hcell : ∀ k, k ≠ D' → (World.putObj (((W.setCell ⟨w.heap.size + 3, 0, none⟩ (str [])).setCell ⟨w.heap.size + 4, 0, none⟩ (str [])).setCell ⟨w.heap.size + 5, 0, none⟩ (.bool false)) D' (.deferred none)).cell? ⟨k, 0, none⟩ = (((W.setCell ⟨w.heap.size + 3, 0, none⟩ (str [])).setCell ⟨w.heap.size + 4, 0, none⟩ (str [])).setCell ⟨w.heap.size + 5, 0, none⟩ (.bool false)).cell? ⟨k, 0, none⟩ := fun k hk => World.cell?_of_block (World.putObj_heap_other (by simp; omega))
    exact ⟨_, results_cell3 rfl _ _ _ ⟨w.heap.size + 3, 0, none⟩ ⟨w.heap.size + 4, 0, none⟩ ⟨w.heap.size + 5, 0, none⟩ (str []) (str []) (.bool false) _ _ _ rfl rfl rfl ((hcell _ (by omega)).trans hL.b3.cell) ((hcell _ (by omega)).trans hL.b4.cell) ((hcell _ (by omega)).trans hL.b5.cell) Try.underlying9 rfl Try.underlying9 rfl Try.underlying4 rfl,
      by unfold linkV linkS; rw [HX.out.2.1], hL.bel.trans (belowK_b (w := w) (Nat.le_refl _) _ D' _ _ (by omega) hK2 rfl rfl)⟩
  case stop =>
    rintro D' c pre W hD hpre ⟨rfl, q, h1, h2⟩ hK
    have hD2 : w.heap.size + 7 ≤ D' := by have := HS1.out; omega
    have HX := Lib.hid (And.intro h1 (And.intro h2 (And.intro hK hpre)))
    clear h1 h2 hK hD hpre
    gi_wp2
    refine ⟨by simp, .inl ⟨_, _, rfl, run_takeDeferred HX.out.2.2.1, ?_⟩⟩
    have hcell : ∀ k, k ≠ D' → (World.putObj W D' (.deferred none)).cell? ⟨k, 0, none⟩ = W.cell? ⟨k, 0, none⟩ := fun k hk => World.cell?_of_block (World.putObj_heap_other (by simp; omega))
    exact ⟨_, results_cell3 rfl _ _ _ ⟨w.heap.size + 3, 0, none⟩ ⟨w.heap.size + 4, 0, none⟩ ⟨w.heap.size + 5, 0, none⟩ (str q) (str (restS q p).1) (.bool true) _ _ _ rfl rfl rfl ((hcell _ (by omega)).trans HX.out.1.b3.cell) ((hcell _ (by omega)).trans HX.out.1.b4.cell) ((hcell _ (by omega)).trans HX.out.1.b5.cell) Try.underlying9 rfl Try.underlying9 rfl Try.underlying4 rfl,
      by unfold linkV linkS; rw [find_prefix HX.out.2.2.2 HX.out.2.1], HX.out.1.bel.trans (belowK_b (w := w) (Nat.le_refl _) _ D' _ _ (by omega) HX.out.2.2.1 rfl rfl)⟩
end Go.Proofs.Ytedoonfegcgmeaa
