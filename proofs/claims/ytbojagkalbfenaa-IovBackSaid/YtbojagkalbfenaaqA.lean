/- A range over an iterator that keeps state of its own in cells: the law for the caller, out of the kit's law of the statement; for every program. -/
import Derived.RangeFuncNested
import Derived.RangeFuncBound
import Derived.RangeFuncCalls
import Derived.RangeFuncLeaves
import Derived.RangeFuncFrom
import Derived.WalkKit
import Derived.KernelRfl
import Derived.Lib.Hide
import Derived.Lib.QuietBelow
import Derived.Shelf.Abstract
import Derived.Shelf.RegionOpen
import Derived.OwnWalkIn
import Derived.TacticsInMore
import Derived.LoopNIn
import Derived.LoopIn
import Derived.Test.YtbojagkalbfenaaProg
import Derived.CallsIn
import Derived.OrdersIn
import Derived.StillTail
namespace Go.Proofs.Ytbojagkalbfenaa
open Go.RowKit
variable {F : Fence} {n : Nat} {P : Program}

/-- Nothing that was there has turned, but in the blocks of B. -/
structure But (B : Nat → Prop) (W W' : World) : Prop where
  os : W'.os = W.os
  tape : W'.tape = W.tape
  output : W'.output = W.output
  size : W.heap.size ≤ W'.heap.size
  block : ∀ k, k < W.heap.size → ¬ B k → W'.heap[k]? = W.heap[k]?
theorem But.refl (B : Nat → Prop) (W : World) : But B W W := ⟨rfl, rfl, rfl, Nat.le_refl _, fun _ _ _ => rfl⟩
theorem But.trans {B : Nat → Prop} {a b c : World} (h : But B a b) (k : But B b c) : But B a c :=
  ⟨k.os.trans h.os, k.tape.trans h.tape, k.output.trans h.output, Nat.le_trans h.size k.size, fun i hi hb => (k.block i (Nat.lt_of_lt_of_le hi h.size) hb).trans (h.block i hi hb)⟩
theorem But.alloc {B : Nat → Prop} {a w : World} (h : But B a w) (o : Obj) : But B a (w.alloc o) :=
  h.trans ⟨rfl, rfl, rfl, by simp, fun k hk _ => Below.heap_alloc _ _ _ hk⟩
theorem But.setCell {B : Nat → Prop} {a w : World} (h : But B a w) {p : Addr} (hp : B p.block) (u : Value) : But B a (w.setCell p u) :=
  h.trans ⟨rfl, rfl, rfl, by simp [World.setCell], fun k hk hb => Below.heap_setCell _ _ _ _ (fun e => hb (e ▸ hp))⟩
theorem But.drew {B : Nat → Prop} {a w : World} (h : But B a w) : But B a w.drew := ⟨h.os, h.tape, h.output, h.size, h.block⟩
theorem But.of_below {B : Nat → Prop} {a w : World} (h : Below a.heap.size a w) : But B a w := ⟨h.os, h.tape, h.output, h.size, fun k hk _ => h.block k hk⟩
theorem But.cell {B : Nat → Prop} {W W' : World} (h : But B W W') {p : Addr} {v : Value} (hc : W.cell? p = some v) (hb : ¬ B p.block) : W'.cell? p = some v :=
  (World.cell?_of_block (w := W) (h.block p.block (World.block_lt_of_cell? W p hc) hb)).trans hc

/-- An iterator's contract: for every round that keeps Kp, whatever the caller holds (J), if it abides what the iterator does between two rounds (But B). -/
def SeqB {α : Type} (F : Fence) (n : Nat) (P : Program) (g : Nat) (lb : Array Value) (encs : α → Array Value) (B : Nat → Prop) (Kp : World → World → Prop) (Al : List α → α → Prop) (S Sp : List α → Prop) (w : World) : Prop :=
  ∀ (l : Nat) (J Jx : List α → World → Prop) (W : World), Below w.heap.size w W → (∀ s A A', J s A → But B A A' → J s A') →
    (∀ pre x A, J pre A → Al pre x → YieldAt F (n - 1) P l (encs x) A fun e A' => (e = .returned (.bool true) ∧ J (pre ++ [x]) A' ∧ Kp A A') ∨ (e = .returned (.bool false) ∧ Jx (pre ++ [x]) A')) →
    J [] W →
    CallsIn F n P g (#[.func (.yield l) #[] #[]] ++ lb) W fun e W' => (∃ v, e = .returned v) ∧ ((∃ xs, S xs ∧ J xs W') ∨ (∃ pre, Sp pre ∧ Jx pre W'))

/-- The caller's law. -/
theorem wpIn_rangeFunc_B {α : Type} {g : Operand} {ps : Array Tmp} {assign body : Code} {Q : Exit → Act → World → Prop} {a : Act} {w : World}
    (hro : F.round = none) (h1 : 1 ≤ n) {gf : Nat} {lb : Array Value} (hg : a.eval g = .func (.func gf) #[] lb) (hFg : F.fn gf) (eg : ∀ args w, (callFunc gf args).run P w = .ok (.enter gf args) w)
    {encs : α → Array Value} {B : Nat → Prop} {Kp : World → World → Prop} {Al : List α → α → Prop} {S Sp : List α → Prop} {w0 : World} (hseq : SeqB F (n - 1) P gf lb encs B Kp Al S Sp w0)
    (hKt : ∀ {A B C : World}, Kp A B → Kp B C → Kp A C) (hKb : ∀ (W : World) (l : Nat) (o o' : Obj), w.heap.size ≤ l → W.heap[l]? = some o → o.isCells = false → o.isWalk = false → Kp W (W.putObj l o')) (hb0 : Below w0.heap.size w0 w) (hB : ∀ k, B k → k < w.heap.size) (hps : ∀ x, (encs x).size = ps.size)
    (I : List α → World → Prop) (Ix : Code → List α → World → Prop) (hI : OwnFrom w.heap.size I) (hIB : ∀ s A A', I s A → But B A A' → I s A') (hIx : ∀ c, OwnFrom w.heap.size (Ix c)) (h0 : I [] w) (Ax : List α → α → Act → World → Prop) (hAx : ∀ pre x a₁, OwnFrom w.heap.size (fun (_ : Unit) W => Ax pre x a₁ W))
    (hassign : ∀ (l : Nat) (pre : List α) (x : α) (W : World) (K : Act → World → Prop), I pre W → Al pre x → (∀ a₁ W₁, KeepsOthers W W₁ → Kp W W₁ → Ax pre x a₁ W₁ → K a₁ W₁) →
      assign.wpIn (F.inRound l) (n - 1 - 1) P (Exit.then K (fun _ _ _ => False)) { tmps := (ps.zip (encs x)).foldl (fun t (p, v) => t.setIfInBounds p v) a.tmps, defers := [] } W)
    (hbody : ∀ (l : Nat) (pre : List α) (x : α) (a₁ : Act) (W : World), Al pre x → Ax pre x a₁ W → body.wpIn (F.inRound l) (n - 1 - 1) P (ownPostK Kp I Ix (pre ++ [x]) W) a₁ W)
    (hdone : ∀ (D : Nat) (xs : List α) (W : World), w.heap.size ≤ D → S xs → I xs W → W.heap[D]? = some (.deferred (some [])) → Q .normal { a with defers := { target := .collected D, args := #[] } :: a.defers } W)
    (hstop : ∀ (D : Nat) (c : Code) (pre : List α) (W : World), w.heap.size ≤ D → Sp pre → Ix c pre W → W.heap[D]? = some (.deferred (some [])) → c.wpIn F n P Q { a with defers := { target := .collected D, args := #[] } :: a.defers } W) :
    (Code.rangeFunc g ps assign body).wpIn F n P Q a w := by
  refine wpIn_rangeFunc ?_
  intro fn hfn
  rw [hro]
  obtain ⟨rec, hrec⟩ : ∃ rec : LoopState → Option Code → Loop, rec = fun st pe => { state := st, pending := pe, fn, tmps := a.tmps, params := ps, assign, body, defers := w.heap.size } := ⟨_, rfl⟩
  obtain ⟨W1, hW1⟩ : ∃ W1, (w.alloc (.deferred (some []))).alloc (.loop (rec .ready none)) = W1 := ⟨_, rfl⟩
  have hL1 : W1.heap[w.heap.size + 1]? = some (.loop (rec .ready none)) := by
    rw [← hW1]; have := World.alloc_heap_new (w.alloc (.deferred (some []))) (.loop (rec .ready none)); rwa [World.size_alloc] at this
  have hK1 : W1.heap[w.heap.size]? = some (.deferred (some [])) := by
    rw [← hW1]; exact (Below.heap_alloc _ _ _ (by simp)).trans (World.alloc_heap_new w _)
  have hI1 : I [] W1 := by rw [← hW1]; exact hI.alloc _ (hI.alloc _ h0)
  have hb1 : Below w0.heap.size w0 W1 := by
    rw [← hW1]; exact hb0.trans ((((Below.refl _ w).alloc (Nat.le_refl _) _).alloc (by simp) _).mono hb0.size)
  have hnB : ∀ k, w.heap.size ≤ k → ¬ B k := fun k hk hb => absurd (hB k hb) (by omega)
  refine ⟨w.heap.size + 1, [{ target := .collected w.heap.size, args := #[] }], W1, { target := .fn (.func gf) lb, args := #[.func (.yield (w.heap.size + 1)) #[] #[]] }, W1, gf,
    #[.func (.yield (w.heap.size + 1)) #[] #[]] ++ lb, W1, ?_, ?_, ?_, ?_, fun _ => h1, ?_⟩
  · rw [← hW1, hrec]; exact run_enterLoop_outer _ _ _ _ _
  · simp only [resolve, hg]
    simp [go_sem]
  · intro f' hf'; simp [Target.leads] at hf'; subst hf'; exact hFg
  · simp [invoke, go_sem, eg]
  · refine (hseq (w.heap.size + 1)
      (fun pre W => I pre W ∧ W.heap[w.heap.size + 1]? = some (.loop (rec .ready none)) ∧ W.heap[w.heap.size]? = some (.deferred (some [])))
      (fun pre W => ∃ c, Ix c pre W ∧ W.heap[w.heap.size + 1]? = some (.loop (rec .done (some c))) ∧ W.heap[w.heap.size]? = some (.deferred (some [])))
      W1 hb1
      (fun s A A' hs hb => ⟨hIB s A A' hs.1 hb, (hb.block _ (Array.getElem?_eq_some_iff.1 hs.2.1).1 (hnB _ (by omega))).trans hs.2.1, (hb.block _ (Array.getElem?_eq_some_iff.1 hs.2.2).1 (hnB _ (by omega))).trans hs.2.2⟩)
      ?_ ⟨hI1, hL1, hK1⟩).mono ?_
    · rintro pre x W ⟨hi, hl, hk⟩ hlen
      have hy := run_yield (P := P) (args := encs x) hl (by rw [hrec]; exact hps x)
      rw [hrec] at hy
      refine ⟨fn, _, assign, body, hy, roundIn_of_wpIn hfn (hassign _ pre x W _ hi hlen ?_)⟩
      intro a₁ Wa hko hkp0 hax
      have hl0 := hl
      replace hl : Wa.heap[w.heap.size + 1]? = some (.loop (rec .ready none)) := hko.same _ _ hl rfl
      replace hk : Wa.heap[w.heap.size]? = some (.deferred (some [])) := hko.same _ _ hk rfl
      have hlt : w.heap.size + 1 < Wa.heap.size := (Array.getElem?_eq_some_iff.1 hl).1
      refine ⟨_, run_beginRound hl (by rw [hrec]), ?_⟩
      have hl2 : (Wa.putObj (w.heap.size + 1) (.loop { rec .ready none with state := .busy })).heap[w.heap.size + 1]? = some (.loop { rec .ready none with state := .busy }) := World.putObj_heap_same hlt
      have hk2 : (Wa.putObj (w.heap.size + 1) (.loop { rec .ready none with state := .busy })).heap[w.heap.size]? = some (.deferred (some [])) := (World.putObj_heap_other (by omega)).trans hk
      have hw2 : Kp W (Wa.putObj (w.heap.size + 1) (.loop { rec .ready none with state := .busy })) := hKt hkp0 (hKb _ _ _ _ (by omega) hl rfl rfl)
      refine wpIn_mono (hbody _ pre x a₁ _ hlen ((hAx pre x a₁).putObj (s := ()) _ hax (by omega) hl rfl)) ?_
      have fin : ∀ (jump : Option Code) (W3 : World), KeepsOthers (Wa.putObj (w.heap.size + 1) (.loop { rec .ready none with state := .busy })) W3 →
          (Instr.endRound (w.heap.size + 1) jump).run P W3 = .ok (.bool jump.isNone) (W3.putObj (w.heap.size + 1) (.loop (rec (if jump.isNone then .ready else .done) jump))) ∧
          W3.heap[w.heap.size + 1]? = some (.loop { rec .ready none with state := .busy }) ∧
          (W3.putObj (w.heap.size + 1) (.loop (rec (if jump.isNone then .ready else .done) jump))).heap[w.heap.size + 1]? = some (.loop (rec (if jump.isNone then .ready else .done) jump)) ∧
          (W3.putObj (w.heap.size + 1) (.loop (rec (if jump.isNone then .ready else .done) jump))).heap[w.heap.size]? = some (.deferred (some [])) := fun jump W3 hk3 => by
        have hl3 := hk3.same _ _ hl2 rfl
        have := run_endRound (P := P) jump hl3
        rw [hrec] at this ⊢
        exact ⟨this, by rw [hrec] at hl3; exact hl3, World.putObj_heap_same (Array.getElem?_eq_some_iff.1 hl3).1, (World.putObj_heap_other (by omega)).trans (hk3.same _ _ hk2 rfl)⟩
      rintro e a3 W3 hp
      cases e with
      | normal =>
        obtain ⟨hk3, hkp3, hi3⟩ := hp
        obtain ⟨hr, hl3, hl4, hk4⟩ := fin none W3 hk3
        exact ⟨_, _, hr, .inl ⟨rfl, ⟨hI.putObj _ hi3 (by omega) hl3 rfl, hl4, hk4⟩, hKt (hKt hw2 hkp3) (hKb _ _ _ _ (by omega) hl3 rfl rfl)⟩⟩
      | ret =>
        obtain ⟨hk3, hi3⟩ := hp
        obtain ⟨hr, hl3, hl4, hk4⟩ := fin (some .ret) W3 hk3
        exact ⟨_, _, hr, .inr ⟨rfl, .ret, (hIx _).putObj _ hi3 (by omega) hl3 rfl, hl4, hk4⟩⟩
      | exit id =>
        obtain ⟨hk3, hi3⟩ := hp
        obtain ⟨hr, hl3, hl4, hk4⟩ := fin (some (.exit id)) W3 hk3
        exact ⟨_, _, hr, .inr ⟨rfl, .exit id, (hIx _).putObj _ hi3 (by omega) hl3 rfl, hl4, hk4⟩⟩
      | goto t =>
        obtain ⟨hk3, hi3⟩ := hp
        obtain ⟨hr, hl3, hl4, hk4⟩ := fin (some (.goto t)) W3 hk3
        exact ⟨_, _, hr, .inr ⟨rfl, .goto t, (hIx _).putObj _ hi3 (by omega) hl3 rfl, hl4, hk4⟩⟩
      | panic ch => exact hp.elim
      | outgrown => exact hp.elim
    · rintro e W2 ⟨⟨v, rfl⟩, (⟨xs, hS, hi, hl, hk⟩ | ⟨pre, hSp, c, hi, hl, hk⟩)⟩
      · exact ⟨none, _, by have := run_endLoop (P := P) hl (by rw [hrec]; simp); rw [hrec] at this; exact this, hdone _ xs _ (Nat.le_refl _) hS (hI.putObj _ hi (by omega) hl rfl) ((World.putObj_heap_other (by omega)).trans hk)⟩
      · exact ⟨some c, _, by have := run_endLoop (P := P) hl (by rw [hrec]; simp); rw [hrec] at this; exact this, hstop _ c pre _ (Nat.le_refl _) hSp ((hIx c).putObj _ hi (by omega) hl rfl) ((World.putObj_heap_other (by omega)).trans hk)⟩
end Go.Proofs.Ytbojagkalbfenaa
namespace Go.Proofs.Ytbojagkalbfenaa
open Go.RowKit
section
variable {P : Program}

/-- A row of int64 cells. -/
def ints (l : List Int) : Array Value := (l.map (fun n => Value.int .i64 n)).toArray
theorem ints_get (l : List Int) (i : Nat) : (ints l)[i]? = (l[i]?).map (fun n => Value.int .i64 n) := by simp [ints]
theorem ints_getElem (l : List Int) (i : Nat) (h : i < (ints l).size) : (ints l)[i] = .int .i64 (l[i]'(by simpa [ints] using h)) := by simp [ints]
theorem ints_size (l : List Int) : (ints l).size = l.length := by simp [ints]

theorem own_base' {w : World} {base : Nat} {e : TypeId} {size n : Nat} {v : Value} {xs : List Value} (h : w.ownsRow base e size v n xs) (k : Nat) (hk : v.ownBlock = some k) : base ≤ k := by
  rcases h.2 with ⟨rfl, _⟩ | ⟨g, cap, cur, rfl, hb, _⟩
  · simp [Value.ownBlock] at hk
  · have : g = k := by simpa [Value.ownBlock] using hk
    omega
theorem grown_of_below' {w w1 : World} (h : Below w.heap.size w w1) (row : Option Nat) : w.grownBy w1 row := ⟨h.os, h.tape, h.output, h.size, fun i hi _ => h.block i hi⟩
theorem own_lt' {w : World} {base : Nat} {e : TypeId} {size n : Nat} {v : Value} {xs : List Value} (h : w.ownsRow base e size v n xs) (k : Nat) (hk : v.ownBlock = some k) : k < w.heap.size := by
  rcases h.2 with ⟨rfl, _⟩ | ⟨g, cap, cur, rfl, hb, hh, _⟩
  · simp [Value.ownBlock] at hk
  · have : g = k := by simpa [Value.ownBlock] using hk
    subst this
    exact (Array.getElem?_eq_some_iff.1 hh).1
theorem own_mono {w : World} {base base' : Nat} {e : TypeId} {size n : Nat} {v : Value} {xs : List Value} (h : w.ownsRow base e size v n xs) (hb : base' ≤ base) : w.ownsRow base' e size v n xs := by
  obtain ⟨h1, h2⟩ := h
  refine ⟨h1, ?_⟩
  rcases h2 with h2 | ⟨g, cap, cur, hv, hg, r⟩
  · exact .inl h2
  · exact .inr ⟨g, cap, cur, hv, by omega, r⟩
theorem add_at (b o j : Nat) : (⟨b, o, none⟩ : Addr).add j = ⟨b, o + j, none⟩ := by unfold Addr.add; split <;> simp_all

theorem run_loadVar_cells (w : World) (ad : Addr) (ty : TypeId) (cs : Array Value) (d : TypeDesc) (hc : ∀ j v, cs[j]? = some v → w.cell? (ad.add j) = some v)
    (hu : P.underlying ty = some d) (hd : (match d with | .struct _ | .array _ _ => true | _ => false) = true) {n : Nat} (hi : (P.info? ty).map (·.size) = some n) (hn : cs.size = n) :
    (loadVar ty ad).run P w = .ok (.agg cs) w := by
  have hl : (loadCells ad cs.toList.length).run P w = .ok cs.toList.toArray w :=
    run_loadCells_list (P := P) w ad cs.toList (fun j v hv => hc j v (by simpa using hv))
  cases hq : P.info? ty with
  | none => simp [hq] at hi
  | some i =>
    have hs : i.size = cs.size := by rw [hn]; simpa [hq] using hi
    have hagg : (isAgg ty).run P w = .ok true w := by
      unfold isAgg
      rw [Sem.run_bind, run_underlying hu w]
      cases d <;> simp_all
    simp only [Array.length_toList, Array.toArray_toList] at hl
    simp [loadVar, Sem.run_bind, hagg, sizeOf, typeInfo, hq, hs, hl]

theorem wp_load_cells {o : Oper} {a : Act} {w : World} {K : Act → World → Prop} {Q : Exit → Act → World → Prop} (ty : TypeId) (x : Operand) (ho : o.op = .load ty x)
    (ad : Addr) (hx : a.eval x = .pointer (some ad)) (cs : Array Value) (d : TypeDesc) (hc : ∀ j v, cs[j]? = some v → w.cell? (ad.add j) = some v)
    (hu : P.underlying ty = some d) (hd : (match d with | .struct _ | .array _ _ => true | _ => false) = true) {n : Nat} (hi : (P.info? ty).map (·.size) = some n) (hn : cs.size = n)
    (h : K (a.put o.dst (.agg cs)) w) : o.wp P a w K Q := by
  unfold Oper.wp execOp
  simp only [ho, hx, Instr.loadAt, Instr.sureAddr, Sem.run_bind, Sem.run_pure, Result.andThen_ok, run_loadVar_cells w ad ty cs d hc hu hd hi hn]
  exact h

/-- A whole array or struct is loaded from wherever it lies. -/
theorem wpList_load_cells {ops : Array Oper} {rest : List Oper} {o : Oper} {a : Act} {w : World} {Q : Exit → Act → World → Prop} (hgd : Region.wanted o (yielded ops a.tmps) = true) (ty : TypeId) (x : Operand) (ho : o.op = .load ty x)
    (ad : Addr) (hx : a.eval x = .pointer (some ad)) (cs : Array Value) (d : TypeDesc) (hc : ∀ j v, cs[j]? = some v → w.cell? (ad.add j) = some v)
    (hu : P.underlying ty = some d) (hd : (match d with | .struct _ | .array _ _ => true | _ => false) = true) {n : Nat} (hi : (P.info? ty).map (·.size) = some n) (hn : cs.size = n)
    (h : wpList P ops Q rest (a.put o.dst (.agg cs)) w) : wpList P ops Q (o :: rest) a w :=
  wpList_step fun _ hK => by
    rw [if_pos hgd]
    exact wp_load_cells ty x ho ad hx cs d hc hu hd hi hn (hK _ _ h)

/-- A value of an array of int64 is indexed. -/
theorem run_index_ints (w : World) (T E : TypeId) (n : Nat) (l : List Int) (i : Int) (hl : l.length = n) (h0 : 0 ≤ i) (h1 : i < n) (hT : P.underlying T = some (.array n E)) (hE : P.underlying E = some (.int .i64)) (hs : (P.info? E).map (·.size) = some 1) :
    (Instr.index T (.agg (ints l)) (.int .i64 i)).run P w = .ok (.int .i64 (l.getD i.toNat 0)) w := by
  have hlt : i.toNat < l.length := by omega
  cases hq : P.info? E with
  | none => simp [hq] at hs
  | some u =>
    have hu : u.size = 1 := by simpa [hq] using hs
    have hagg : (isAgg E).run P w = .ok false w := by
      unfold isAgg
      rw [Sem.run_bind, run_underlying hE w]
      rfl
    simp [Instr.index, asIntOf, run_underlying hT, h0, h1, part, sizeOf, typeInfo, hq, hu, hagg, ints_get, hlt]

/-- A part of a row that was just laid. -/
theorem cells_new (w : World) (l l' : List Int) (T : TypeId) (k : Nat) (h : l' = l.drop k) : ∀ j v, (ints l')[j]? = some v → (w.alloc (.cells (ints l) T)).cell? ((⟨w.heap.size, k, none⟩ : Addr).add j) = some v := by
  subst h
  intro j v hv
  rw [add_at, cell_of_row _ _ _ _ _ _ (heap_alloc_new w _)]
  rw [ints_get] at hv ⊢
  simpa using hv

/-- A row that was just laid, read behind a call that laid more. -/
theorem cells_kept {w w1 : World} {l : List Int} {T : TypeId} (hb : Below (w.alloc (.cells (ints l) T)).heap.size (w.alloc (.cells (ints l) T)) w1) {l' : List Int} {k : Nat} (h : l' = l.drop k) :
    ∀ j v, (ints l')[j]? = some v → w1.cell? ((⟨w.heap.size, k, none⟩ : Addr).add j) = some v := by
  intro j v hv
  have h1 := cells_new w l l' T k h j v hv
  rw [add_at] at h1 ⊢
  rw [hb.cell (by simp)]
  exact h1
theorem cell_kept1 {w w1 : World} {l : List Int} {T : TypeId} (hb : Below (w.alloc (.cells (ints l) T)).heap.size (w.alloc (.cells (ints l) T)) w1) (k : Nat) (hk : k < l.length) :
    w1.cell? ⟨w.heap.size, k, none⟩ = some (.int .i64 (l.getD k 0)) := by
  have h1 := cells_kept hb (l' := l) (k := 0) rfl k (.int .i64 (l.getD k 0)) (by rw [ints_get]; simp [List.getD_eq_getElem?_getD, List.getElem?_eq_getElem hk])
  rw [add_at] at h1
  simpa using h1

/-- An operation of a region that draws: it loads a whole array or struct from old memory. -/
theorem wpQuiet_load_cells {w : World} {ops : Array Oper} {Q : Act → Prop} {rest : List Oper} {o : Oper} {a : Act} (hgd : Region.wanted o (yielded ops a.tmps) = true) (ty : TypeId) (x : Operand) (ho : o.op = .load ty x)
    (ad : Addr) (hx : a.eval x = .pointer (some ad)) (cs : Array Value) (d : TypeDesc) (hc : ∀ j v, cs[j]? = some v → w.cell? (ad.add j) = some v)
    (hu : P.underlying ty = some d) (hd : (match d with | .struct _ | .array _ _ => true | _ => false) = true) {n : Nat} (hi : (P.info? ty).map (·.size) = some n) (hn : cs.size = n)
    (h : wpQuiet P ops (fun w' => ∃ p : Regrown, w' = Sort.grow (redrawn w p.d) p.os) Q rest (a.put o.dst (.agg cs))) :
    wpQuiet P ops (fun w' => ∃ p : Regrown, w' = Sort.grow (redrawn w p.d) p.os) Q (o :: rest) a := by
  refine wpQuiet_step (fun K hK => ?_)
  rw [if_pos hgd]
  refine ⟨.agg cs, fun w' hw' => ?_, hK _ h⟩
  obtain ⟨p, rfl⟩ := hw'
  have hrun := run_loadVar_cells (P := P) (Sort.grow (redrawn w p.d) p.os) ad ty cs d (fun j v hv => cell_regrown (hc j v hv) _ _) hu hd hi hn
  unfold Oper.quietAt execOp
  simp only [ho, hx, Instr.loadAt, Instr.sureAddr, Sem.run_bind, Sem.run_pure, Result.andThen_ok, hrun]
  exact ⟨rfl, rfl⟩

theorem list24 {l : List Int} (h : l.length = 24) : ∃ a0 a1 a2 a3 a4 a5 a6 a7 a8 a9 a10 a11 a12 a13 a14 a15 a16 a17 a18 a19 a20 a21 a22 a23, l = [a0, a1, a2, a3, a4, a5, a6, a7, a8, a9, a10, a11, a12, a13, a14, a15, a16, a17, a18, a19, a20, a21, a22, a23] := by
  iterate 24 (rcases l with _ | ⟨_, l⟩; · simp at h)
  obtain rfl : l = [] := by simpa using h
  exact ⟨_, _, _, _, _, _, _, _, _, _, _, _, _, _, _, _, _, _, _, _, _, _, _, _, rfl⟩
theorem ints_one (l : List Int) : (ints l).all (·.oneCell') = true := by
  rw [Array.all_eq_true_iff_forall_mem]
  intro v hv
  simp only [ints, List.mem_toArray, List.mem_map] at hv
  obtain ⟨n, -, rfl⟩ := hv
  rfl
theorem below_setRow' {w w1 : World} (h : Below w.heap.size w w1) {g : Nat} (hg : w.heap.size ≤ g) (cs : Array Value) : Below w.heap.size w (w1.setRow g cs) :=
  h.trans ⟨rfl, rfl, rfl, by simp, fun k hk => setRow_other w1 g k cs (by omega)⟩

/-- A struct or an array is built, its cells known. -/
theorem wpList_build_to {ops : Array Oper} {rest : List Oper} {o : Oper} {a : Act} {w : World} {Q : Exit → Act → World → Prop} (hg : o.guard = none) (t : TypeId) (parts : Array (Nat × Operand)) (ho : o.op = .build t parts)
    (vs : List (Nat × Value)) (hv : (parts.map fun (i, x) => (i, a.eval x)).toList = vs) (cs : Array Value) (hf : P.built t vs = some cs)
    (h : wpList P ops Q rest (a.put o.dst (.agg cs)) w) : wpList P ops Q (o :: rest) a w :=
  wpList_build hg t parts ho (by rw [hv, hf]; rfl) (by rw [hv, hf]; exact h)

/-- A variable is laid, its zero value known. -/
theorem wpList_alloc_to {ops : Array Oper} {rest : List Oper} {o : Oper} {a : Act} {w : World} {Q : Exit → Act → World → Prop} (hg : o.guard = none) (t : TypeId) (ho : o.op = .alloc t)
    (z : Array Value) (hz : (P.info? t).map (·.zero) = some (some (.agg z)))
    (h : wpList P ops Q rest (a.put o.dst (.pointer (some ⟨w.heap.size, 0, none⟩))) (w.alloc (.cells z t))) : wpList P ops Q (o :: rest) a w :=
  wpList_plain hg fun _ hK => by
    have h1 := hK _ _ h
    cases hq : P.info? t with
    | none => simp [hq] at hz
    | some i =>
      have hz' : i.zero = some (.agg z) := by simpa [hq] using hz
      unfold Oper.wp execOp
      simp only [ho]
      have hrun : (Instr.alloc t true (.tuple #[])).run P w = .ok (.pointer (some ⟨w.heap.size, 0, none⟩)) (w.alloc (.cells z t)) := by
        simp [Instr.alloc, zeroValue, typeInfo, hq, hz', newVar, newRow, Value.cells]
      simp only [Sem.run_bind, hrun, Result.andThen_ok, Sem.run_pure]
      exact h1

/-- One element (of `size` cells) is appended to a row of the call's own; the element lies in a block that was laid just ahead. -/
theorem wpList_append_1 {ops : Array Oper} {rest : List Oper} {o : Oper} {a : Act} {w0 : World} {Q : Exit → Act → World → Prop} (hgd : o.guard = none) (s x : Operand) (t e : TypeId)
    (ho : o.op = .call { callee := .builtin .append, args := #[s, x], argTypes := #[t, t] })
    (z : Value) (size bytes : Nat) (ht : P.underlying t = some (.slice e)) (hi : (P.info? e).map (fun i => (i.zero, i.size, i.bytes)) = some (some z, size, bytes)) (hzs : z.cells.size = size) (hsz : 0 < size)
    (w1 : World) (base n : Nat) (v : Value) (xs : List Value) (hs : a.eval s = v) (hown : w0.ownsRow base e size v n xs) (hb : Below base w1 w0)
    (us : List Value) (hx : a.eval x = .slice (some ⟨w0.heap.size, 0, none⟩) 1 1) (hl : us.length = size) (h1 : ∀ u ∈ us, u.oneCell' = true)
    (h63 : n + 1 ≤ maxLen) (hbytes : (n + 1) * bytes ≤ 140737488355328) (hbase : base ≤ w0.heap.size)
    (h : ∀ v' w', w'.ownsRow base e size v' (n + 1) (xs ++ us) → Below base w1 w' → wpList P ops Q rest (a.put o.dst v') w') : wpList P ops Q (o :: rest) a (w0.alloc (.cells us.toArray e)) := by
  obtain ⟨i0, hi0, hz0, hz1, hz2⟩ := info_parts hi
  refine wpList_append_own _ hgd s x t ho base e i0 z size bytes ht hi0 hz0 hz1 hz2 hzs hsz v n xs hs (hown.alloc _) ⟨w0.heap.size, 0, none⟩ 1 1 us hx (by omega) ?_ h1 h63 hbytes (by simp; omega) ?_
  · intro j u hj
    rw [add_at, cell_of_row _ _ _ _ _ _ (heap_alloc_new w0 _)]
    simpa using hj
  · intro v' w' h2 h3 _
    refine h v' w' h2 ((hb.alloc hbase _).grown h3 (by simp; omega) ?_)
    intro k hk
    exact own_base' hown k hk

theorem below_of_regrown {w w' : World} (h : ∃ p : Regrown, w' = Sort.grow (redrawn w p.d) p.os) : Below w.heap.size w w' := by
  obtain ⟨p, rfl⟩ := h
  exact below_regrown _ _ _
theorem below_then' {w w1 w2 : World} (h : Below w.heap.size w w1) (k : Below w1.heap.size w1 w2) : Below w.heap.size w w2 :=
  h.trans ⟨k.os, k.tape, k.output, k.size, fun i hi => k.block i (Nat.lt_of_lt_of_le hi h.size)⟩
theorem ret_int2 {k j : IntKind} {a b c d : Int} (h : a = b) (g : c = d) : Ending.returned (.tuple #[.int k a, .int j c]) = .returned (.tuple #[.int k b, .int j d]) := by rw [h, g]
theorem ret_int {k : IntKind} {a b : Int} (h : a = b) : Ending.returned (.int k a) = .returned (.int k b) := by rw [h]
theorem ret_bool {a b : Bool} (h : a = b) : Ending.returned (.bool a) = .returned (.bool b) := by rw [h]
theorem take_all (p : Int → Bool) (l : List Int) (k : Nat) (hk : k < l.length) : (l.take (k + 1)).all p = ((l.take k).all p && p (l.getD k 0)) := by
  rw [List.take_succ_eq_append_getElem hk, List.all_append]
  simp [List.getD_eq_getElem?_getD, List.getElem?_eq_getElem hk]
theorem all_of_take_not (p : Int → Bool) (l : List Int) (k : Nat) (hk : k < l.length) (h : p (l.getD k 0) = false) : l.all p = false := by
  rw [List.all_eq_false]
  exact ⟨l[k], List.getElem_mem hk, by simpa [List.getD_eq_getElem?_getD, List.getElem?_eq_getElem hk] using h⟩
end
end Go.Proofs.Ytbojagkalbfenaa
namespace Go.Proofs.Ytbojagkalbfenaa
set_option linter.unusedSimpArgs false
open Go.RowKit
variable {F : Fence} {n : Nat} {P : Program}

theorem wpListIn_yield {ops : Array Oper} {rest : List Oper} {o : Oper} {a : Act} {w : World} {Q : Exit → Act → World → Prop} (hgd : o.guard = none) (g x : Operand) (ts : Array TypeId)
    (ho : o.op = .call { callee := .value g, args := #[x], argTypes := ts }) (l : Nat) (hg : a.eval g = .func (.yield l) #[] #[]) (hd : F.depth = none) {R : Ending → World → Prop} (hy : YieldAt F (n - 1) P l #[a.eval x] w R)
    (h : ∀ e w', R e w' → ∃ v, e = .returned v ∧ wpListIn F n P ops Q rest (a.put o.dst v) w') : wpListIn F n P ops Q (o :: rest) a w := by
  refine wpListIn_plain hgd fun K hK => ?_
  obtain ⟨fn, tmps, assign, body, hrun, hR⟩ := hy
  unfold Oper.wpIn
  refine ⟨?_, ?_⟩
  · simp [Oper.about, ho, resolve, hg, Target.leads, Sem.run_pure, Deferred.ofValue, hrun]
  · rw [Oper.semAt_plain F _ _ (by rw [ho]; intro c hc'; cases hc')]
    simp [execOp, ho, resolve, hg, invoke, Deferred.ofValue, hrun, Result.andThen]
    exact ⟨by simp [hd], hR.mono fun e w' he => by obtain ⟨v, rfl, hv⟩ := h e w' he; exact hK _ _ hv⟩
end Go.Proofs.Ytbojagkalbfenaa
namespace Go.Proofs.Ytbojagkalbfenaa
set_option linter.unusedVariables false
set_option linter.unusedSimpArgs false
open Go.RowKit
attribute [local go_sem] Oper.semAt_some ints_get ints_size ints_getElem

/-- A slice of pairs of int64 that lies in memory. -/
def Pairs (w : World) (A : Option Addr) (l : List (Int × Int)) : Prop :=
  ∀ i, i < l.length → ∃ ad, A = some ad ∧ w.cell? (ad.add (i * 2)) = some (.int .i64 (l.getD i (0, 0)).1) ∧ w.cell? ⟨(ad.add (i * 2)).block, (ad.add (i * 2)).off + 1, none⟩ = some (.int .i64 (l.getD i (0, 0)).2)
theorem Pairs.below {w w1 : World} {A : Option Addr} {l : List (Int × Int)} (h : Pairs w A l) (hb : Below w.heap.size w w1) : Pairs w1 A l := by
  intro i hi
  obtain ⟨ad, e, h1, h2⟩ := h i hi
  exact ⟨ad, e, (hb.cell (World.block_lt_of_cell? _ _ h1)).trans h1, (hb.cell (World.block_lt_of_cell? _ _ h2)).trans h2⟩
theorem add_block (a : Addr) (n : Nat) : (a.add n).block = a.block := by unfold Addr.add; split <;> rfl
theorem Pairs.kept {w w1 : World} {A : Option Addr} {l : List (Int × Int)} (h : Pairs w A l) (hb : ∀ ad, A = some ad → w1.heap[ad.block]? = w.heap[ad.block]?) : Pairs w1 A l := by
  intro i hi
  obtain ⟨ad, e, h1, h2⟩ := h i hi
  have hk := hb ad e
  exact ⟨ad, e, (World.cell?_of_block (w := w) (by rw [add_block]; exact hk)).trans h1, (World.cell?_of_block (w := w) (by show w1.heap[(ad.add (i * 2)).block]? = _; rw [add_block]; exact hk)).trans h2⟩

/-- The parts of the m bytes from an offset on, without empty ones. -/
def slicedL : List (Int × Int) → Int → Int → List (Int × Int)
  | [], _, _ => []
  | p :: r, off, m => if m ≤ 0 then [] else if p.2 ≤ off then slicedL r (off - p.2) m else (p.1 + off, min (p.2 - off) m) :: slicedL r 0 (m - min (p.2 - off) m)
def okP (l : List (Int × Int)) : Prop := ∀ p ∈ l, (0 ≤ p.1 ∧ p.1 ≤ 1099511627776) ∧ 0 ≤ p.2 ∧ p.2 ≤ 4096
theorem okP_get {l : List (Int × Int)} (h : okP l) (k : Nat) (hk : k < l.length) : (0 ≤ (l.getD k (0, 0)).1 ∧ (l.getD k (0, 0)).1 ≤ 1099511627776) ∧ 0 ≤ (l.getD k (0, 0)).2 ∧ (l.getD k (0, 0)).2 ≤ 4096 := by
  rw [List.getD_eq_getElem?_getD, List.getElem?_eq_getElem hk]
  exact h _ (List.getElem_mem hk)
theorem slicedL_mem {l : List (Int × Int)} (h : okP l) : ∀ {off m : Int}, 0 ≤ off → ∀ x ∈ slicedL l off m, (0 ≤ x.1 ∧ x.1 ≤ 1099511631872) ∧ 1 ≤ x.2 ∧ x.2 ≤ 4096 := by
  induction l with
  | nil => intro off m h0 x hx; simp [slicedL] at hx
  | cons p r ih =>
    intro off m h0 x hx
    have hr : okP r := fun q hq => h q (List.mem_cons_of_mem _ hq)
    have hp := h p List.mem_cons_self
    simp only [slicedL] at hx
    split at hx
    · simp at hx
    · split at hx
      · exact ih hr (by omega) x hx
      · rcases List.mem_cons.1 hx with rfl | hx
        · simp only
          omega
        · exact ih hr (by omega) x hx
theorem sl_bd {l : List (Int × Int)} (h : okP l) {off m : Int} (h0 : 0 ≤ off) {pre : List (Int × Int)} {x : Int × Int} (hp : pre ++ [x] <+: slicedL l off m) : (0 ≤ x.1 ∧ x.1 ≤ 1099511631872) ∧ 1 ≤ x.2 ∧ x.2 ≤ 4096 :=
  slicedL_mem h h0 x (hp.subset (by simp))

/-- What a round keeps for the iterator. -/
def KeepS (bp bn bo : Nat) (A : Option Addr) (W W' : World) : Prop :=
  W.heap.size ≤ W'.heap.size ∧ W'.heap[bp]? = W.heap[bp]? ∧ W'.heap[bn]? = W.heap[bn]? ∧ W'.heap[bo]? = W.heap[bo]? ∧ ∀ ad, A = some ad → W'.heap[ad.block]? = W.heap[ad.block]?

theorem drop_cons {l : List (Int × Int)} {k : Nat} (h : k < l.length) : l.drop k = l.getD k (0, 0) :: l.drop (k + 1) := by
  rw [List.drop_eq_getElem_cons h]
  simp [List.getD_eq_getElem?_getD, List.getElem?_eq_getElem h]

theorem cell_set2 {W : World} {p : Addr} {u a b : Value} {b1 b2 : Nat} (h : W.cell? p = some u) (h1 : p.block ≠ b1) (h2 : p.block ≠ b2) : ((W.setCell ⟨b1, 0, none⟩ a).setCell ⟨b2, 0, none⟩ b).cell? p = some u := by
  rw [World.cell?_of_block (w := W) (by rw [Below.heap_setCell _ _ _ _ h2, Below.heap_setCell _ _ _ _ h1]), h]
theorem cell_two (w : World) (o : Obj) (u v : Value) (t : TypeId) : ((w.alloc o).alloc (.cells #[u, v] t)).cell? ⟨w.heap.size + 1, 0, none⟩ = some u ∧ ((w.alloc o).alloc (.cells #[u, v] t)).cell? ⟨w.heap.size + 1, 1, none⟩ = some v := by
  constructor <;> (rw [cell_of_row _ _ _ _ _ _ (heap_alloc2_new w _ _)]; rfl)
theorem keep2 {wr : World} {bn bo b : Nat} {o o2 : Obj} {v v2 : Value} (hne : b ≠ bn ∧ b ≠ bo ∧ b < wr.heap.size) : ((((wr.alloc o).alloc o2).setCell ⟨bo, 0, none⟩ v).setCell ⟨bn, 0, none⟩ v2).heap[b]? = wr.heap[b]? := by
  rw [Below.heap_setCell _ _ _ _ hne.1, Below.heap_setCell _ _ _ _ hne.2.1, Below.heap_alloc _ _ _ (by have := hne.2.2; simp; omega), Below.heap_alloc _ _ _ hne.2.2]
theorem keep1 {wr : World} {bn bo b : Nat} {o : Obj} {v : Value} (hne : b ≠ bn ∧ b ≠ bo ∧ b < wr.heap.size) : ((wr.alloc o).setCell ⟨bo, 0, none⟩ v).heap[b]? = wr.heap[b]? := by
  rw [Below.heap_setCell _ _ _ _ hne.2.1, Below.heap_alloc _ _ _ hne.2.2]

set_option maxHeartbeats 1000000 in
set_option maxRecDepth 100000 in
theorem sliced1_seq (F : Fence) (n : Nat) (h43 : F.fn 43) (hro : F.round = none) (hd : F.depth = none) (hn : 1 ≤ n) (bp bn bo : Nat) (A : Option Addr) (cap : Nat) (cs : List (Int × Int)) (off m : Int) (w : World)
    (hbp : Boxed w bp 23 (.slice A cs.length cap)) (hbn : Boxed w bn 2 (.int .i64 m)) (hbo : Boxed w bo 2 (.int .i64 off)) (n1 : bp ≠ bn) (n2 : bp ≠ bo) (n3 : bn ≠ bo) (hp : Pairs w A cs) (hA : ∀ ad, A = some ad → ad.block ≠ bn ∧ ad.block ≠ bo ∧ ad.block < w.heap.size)
    (hok : okP cs) (hoff : 0 ≤ off ∧ off ≤ 1099511627776) (hm : 0 ≤ m ∧ m ≤ 1099511627776) (hlen : cs.length ≤ 16) :
    SeqB F n Try.prog 43 #[.pointer (some ⟨bp, 0, none⟩), .pointer (some ⟨bn, 0, none⟩), .pointer (some ⟨bo, 0, none⟩)] (fun x : Int × Int => #[.agg #[.int .i64 x.1, .int .i64 x.2]]) (fun k => k = bn ∨ k = bo) (KeepS bp bn bo A)
      (fun pre x => pre ++ [x] <+: slicedL cs off m) (fun xs => xs = slicedL cs off m) (fun pre => pre <+: slicedL cs off m) w := by
  intro l J Jx W hbw hJ hY h0
  have HJ := Lib.hid hJ
  have HY := Lib.hid hY
  have HOK := Lib.hid hok
  have hbpW := hbp.kept (grown_of_below' hbw none) (by simp)
  have hbnW := hbn.kept (grown_of_below' hbw none) (by simp)
  have hboW := hbo.kept (grown_of_below' hbw none) (by simp)
  have hcp := hbpW.cell
  have HPW := Lib.hid (hp.below hbw)
  clear hJ hY hok hbp hbn hbo hp
  refine callsIn_of_wp Try.func43 rfl h43 ?_ hro
  simp only [Try.ntmps43, List.size_toArray, List.length_cons, List.length_nil, Nat.reduceAdd, Nat.reduceSub, Array.replicate_succ, Array.replicate_zero, List.push_toArray, List.append_toArray, List.nil_append, List.cons_append]
  gi_wp2
  gi_loopw [10] (fun i wr => ∃ (k : Nat) (pre : List (Int × Int)) (o' m' : Int), k ≤ cs.length ∧ i = .int .i64 k ∧ (0 ≤ o' ∧ o' ≤ 1099511627776) ∧ (0 ≤ m' ∧ m' ≤ 1099511627776) ∧ Hid (slicedL cs off m = pre ++ slicedL (cs.drop k) o' m' ∧ J pre wr ∧ Boxed wr bn 2 (.int .i64 m') ∧ Boxed wr bo 2 (.int .i64 o') ∧ Pairs wr A cs ∧ W.heap.size ≤ wr.heap.size))
    (fun i _ => cs.length - (intOf i).toNat)
  case atStart => exact ⟨0, [], off, m, by omega, rfl, hoff, hm, Lib.hid ⟨rfl, h0, hbnW, hboW, HPW.out, Nat.le_refl _⟩⟩
  case round =>
    obtain ⟨k, pre, o', m', hk, rfl, ⟨ho0, ho1⟩, ⟨hm0, hm1⟩, HI⟩ := hrel
    by_cases hlt : k < cs.length
    · have hcn := HI.out.2.2.1.cell
      have hco := HI.out.2.2.2.1.cell
      have hfo := HI.out.2.2.2.1.frozen
      have hfn := HI.out.2.2.1.frozen
      obtain ⟨ad, rfl, hx, hy⟩ := HI.out.2.2.2.2.1 k hlt
      have hv := okP_get HOK.out k hlt
      obtain ⟨x, hxe⟩ : ∃ x, x = (cs.getD k (0, 0)).1 := ⟨_, rfl⟩
      obtain ⟨y, hye⟩ : ∃ y, y = (cs.getD k (0, 0)).2 := ⟨_, rfl⟩
      rw [← hxe, ← hye] at hv
      rw [← hxe] at hx
      rw [← hye] at hy
      obtain ⟨⟨hx0, hx1⟩, hy0, hy1⟩ := hv
      have HD : Hid (cs.drop k = (x, y) :: cs.drop (k + 1)) := Lib.hid (by rw [drop_cons hlt, hxe, hye])
      clear hxe hye
      have b1n := HI.out.2.2.1.alloc (.cells #[.int .i64 x, .int .i64 y] 44)
      have b1o := HI.out.2.2.2.1.alloc (.cells #[.int .i64 x, .int .i64 y] 44)
      have hcn := b1n.cell
      have hco := b1o.cell
      have hfn := b1n.frozen
      have hfo := b1o.frozen
      have HB1 := Lib.hid (And.intro b1n b1o)
      clear b1n b1o
      by_cases hm2 : m' ≤ 0
      · gi_wp2
        refine bodyPost_ret (results_none rfl _ _ _) rfl ?_
        exact ⟨⟨_, rfl⟩, .inl ⟨pre, by rw [HI.out.1, HD.out]; simp [slicedL, hm2], HJ.out _ _ _ HI.out.2.1 ((But.refl _ _).alloc _)⟩⟩
      · by_cases hoy : y ≤ o'
        · gi_wp2
          go_roundw
          case rel => exact ⟨k + 1, pre, o' - y, m', by omega, by go_num, ⟨by omega, by omega⟩, ⟨hm0, hm1⟩, Lib.hid ⟨by rw [HI.out.1, HD.out]; simp only [slicedL]; rw [if_neg hm2, if_pos hoy], HJ.out _ _ _ HI.out.2.1 (((But.refl _ _).alloc _).setCell (by simp) _), HB1.out.1.other n3 _, HB1.out.2.set _, HI.out.2.2.2.2.1.kept (fun ad' e => by cases e; exact keep1 ⟨(hA _ rfl).1, (hA _ rfl).2.1, by have := (hA _ rfl).2.2; have := hbw.size; have := HI.out.2.2.2.2.2; omega⟩), by have := HI.out.2.2.2.2.2; simp [World.setCell]; omega⟩⟩
          case measure => simp [intOf]; omega
        · have hbol : (⟨wr.heap.size + 1, 0, none⟩ : Addr).block ≠ bo := by have := HI.out.2.2.2.1.lt; simp; omega
          have hbnl : (⟨wr.heap.size + 1, 0, none⟩ : Addr).block ≠ bn := by have := HI.out.2.2.1.lt; simp; omega
          rcases (by omega : y - o' ≤ m' ∨ m' < y - o') with hmin | hmin
          · have b2n := HB1.out.1.alloc (.cells #[.int .i64 (x + o'), .int .i64 (y - o')] 44)
            have b2o := HB1.out.2.alloc (.cells #[.int .i64 (x + o'), .int .i64 (y - o')] 44)
            have hcn2 := b2n.cell
            have hco2 := b2o.cell
            have hfn2 := b2n.frozen
            have hfo2 := b2o.frozen
            have HB2 := Lib.hid (And.intro b2n b2o)
            clear b2n b2o
            have hq0 := cell_set2 (a := .int .i64 0) (b := .int .i64 (m' - (y - o'))) (cell_two wr (.cells #[.int .i64 x, .int .i64 y] 44) (.int .i64 (x + o')) (.int .i64 (y - o')) 44).1 hbol hbnl
            have hq1 := cell_set2 (a := .int .i64 0) (b := .int .i64 (m' - (y - o'))) (cell_two wr (.cells #[.int .i64 x, .int .i64 y] 44) (.int .i64 (x + o')) (.int .i64 (y - o')) 44).2 hbol hbnl
            have HV : Hid (slicedL cs off m = (pre ++ [(x + o', (y - o'))]) ++ slicedL (cs.drop (k + 1)) 0 (m' - (y - o'))) := Lib.hid (by
              rw [HI.out.1, HD.out]; simp only [slicedL]; rw [if_neg hm2, if_neg hoy, show min (y - o') m' = (y - o') by omega]; simp)
            gi_wp2_with (((with_reducible change wpListIn _ _ _ _ _ (⟨_, .call { callee := .value (.tmp 39), args := _, argTypes := _ }, _, _, _, _⟩ :: _) _ _)); refine wpListIn_yield rfl (.tmp 39) (.tmp 40) #[44] rfl l rfl hd (HY.out pre (x + o', (y - o')) _ (HJ.out _ _ _ HI.out.2.1 (((((But.refl _ _).alloc _).alloc _).setCell (by simp) _).setCell (by simp) _)) (by rw [HV.out]; exact List.prefix_append _ _)) ?_; rintro e w9 (⟨rfl, hJ2, hk2⟩ | ⟨rfl, hJx⟩) <;> refine ⟨_, rfl, ?_⟩)
            · go_roundw
              case rel =>
                refine ⟨k + 1, pre ++ [(x + o', (y - o'))], 0, m' - (y - o'), by omega, by go_num, ⟨by omega, by omega⟩, ⟨by omega, by omega⟩, Lib.hid ⟨HV.out, hJ2, hk2.2.2.1.trans ((HB2.out.1.other n3 _).set _), hk2.2.2.2.1.trans ((HB2.out.2.set _).other (Ne.symm n3) _), HI.out.2.2.2.2.1.kept (fun ad' e => ?_), ?_⟩⟩
                · cases e
                  exact (hk2.2.2.2.2 _ rfl).trans (keep2 ⟨(hA _ rfl).1, (hA _ rfl).2.1, by have := (hA _ rfl).2.2; have := hbw.size; have := HI.out.2.2.2.2.2; omega⟩)
                · have h1 := hk2.1
                  have h2 := HI.out.2.2.2.2.2
                  simp [World.setCell] at h1
                  omega
              case measure => simp [intOf]; omega
            · refine bodyPost_ret (results_none rfl _ _ _) rfl ?_
              exact ⟨⟨_, rfl⟩, .inr ⟨pre ++ [(x + o', (y - o'))], by rw [HV.out]; exact List.prefix_append _ _, hJx⟩⟩
          · have b2n := HB1.out.1.alloc (.cells #[.int .i64 (x + o'), .int .i64 m'] 44)
            have b2o := HB1.out.2.alloc (.cells #[.int .i64 (x + o'), .int .i64 m'] 44)
            have hcn2 := b2n.cell
            have hco2 := b2o.cell
            have hfn2 := b2n.frozen
            have hfo2 := b2o.frozen
            have HB2 := Lib.hid (And.intro b2n b2o)
            clear b2n b2o
            have hq0 := cell_set2 (a := .int .i64 0) (b := .int .i64 0) (cell_two wr (.cells #[.int .i64 x, .int .i64 y] 44) (.int .i64 (x + o')) (.int .i64 m') 44).1 hbol hbnl
            have hq1 := cell_set2 (a := .int .i64 0) (b := .int .i64 0) (cell_two wr (.cells #[.int .i64 x, .int .i64 y] 44) (.int .i64 (x + o')) (.int .i64 m') 44).2 hbol hbnl
            have HV : Hid (slicedL cs off m = (pre ++ [(x + o', m')]) ++ slicedL (cs.drop (k + 1)) 0 0) := Lib.hid (by
              rw [HI.out.1, HD.out]; simp only [slicedL]; rw [if_neg hm2, if_neg hoy, show min (y - o') m' = m' by omega]; simp)
            gi_wp2_with (((with_reducible change wpListIn _ _ _ _ _ (⟨_, .call { callee := .value (.tmp 39), args := _, argTypes := _ }, _, _, _, _⟩ :: _) _ _)); refine wpListIn_yield rfl (.tmp 39) (.tmp 40) #[44] rfl l rfl hd (HY.out pre (x + o', m') _ (HJ.out _ _ _ HI.out.2.1 (((((But.refl _ _).alloc _).alloc _).setCell (by simp) _).setCell (by simp) _)) (by rw [HV.out]; exact List.prefix_append _ _)) ?_; rintro e w9 (⟨rfl, hJ2, hk2⟩ | ⟨rfl, hJx⟩) <;> refine ⟨_, rfl, ?_⟩)
            · go_roundw
              case rel =>
                refine ⟨k + 1, pre ++ [(x + o', m')], 0, 0, by omega, by go_num, ⟨by omega, by omega⟩, ⟨by omega, by omega⟩, Lib.hid ⟨HV.out, hJ2, hk2.2.2.1.trans ((HB2.out.1.other n3 _).set _), hk2.2.2.2.1.trans ((HB2.out.2.set _).other (Ne.symm n3) _), HI.out.2.2.2.2.1.kept (fun ad' e => ?_), ?_⟩⟩
                · cases e
                  exact (hk2.2.2.2.2 _ rfl).trans (keep2 ⟨(hA _ rfl).1, (hA _ rfl).2.1, by have := (hA _ rfl).2.2; have := hbw.size; have := HI.out.2.2.2.2.2; omega⟩)
                · have h1 := hk2.1
                  have h2 := HI.out.2.2.2.2.2
                  simp [World.setCell] at h1
                  omega
              case measure => simp [intOf]; omega
            · refine bodyPost_ret (results_none rfl _ _ _) rfl ?_
              exact ⟨⟨_, rfl⟩, .inr ⟨pre ++ [(x + o', m')], by rw [HV.out]; exact List.prefix_append _ _, hJx⟩⟩
    · obtain rfl : k = cs.length := by omega
      gi_wp2
      go_end0
      exact ⟨⟨_, rfl⟩, .inl ⟨pre, by rw [HI.out.1, List.drop_length]; simp [slicedL], HI.out.2.1⟩⟩
end Go.Proofs.Ytbojagkalbfenaa
namespace Go.Proofs.Ytbojagkalbfenaa
open Go.RowKit
attribute [local go_sem] Oper.semAt_some ints_get ints_size ints_getElem

/-- The world behind the making of the iterator. -/
def slW (w : World) (A : Option Addr) (len cap : Nat) (off m : Int) : World := ((w.alloc (.cells #[.slice A len cap] 23)).alloc (.cells #[.int .i64 off] 2)).alloc (.cells #[.int .i64 m] 2)
theorem sliced_calls (A : Option Addr) (len cap : Nat) (off m : Int) (w : World) :
    Calls Try.prog 40 #[.slice A len cap, .int .i64 off, .int .i64 m] w fun e w' => e = .returned (.func (.func 43) #[] #[.pointer (some ⟨w.heap.size, 0, none⟩), .pointer (some ⟨w.heap.size + 2, 0, none⟩), .pointer (some ⟨w.heap.size + 1, 0, none⟩)]) ∧ w' = slW w A len cap off m := by
  have hmf : ∀ (fn : Fn) (first cap : Array Value) (w : World), (Instr.makeFunc fn first cap).run Try.prog w = .ok (.func fn first cap) w := fun _ _ _ _ => rfl
  go_enter Try.func40, Try.ntmps40
  go_wp2_with fail
  go_ret
  exact ⟨rfl, rfl⟩
theorem slW_size (w : World) (A : Option Addr) (len cap : Nat) (off m : Int) : (slW w A len cap off m).heap.size = w.heap.size + 3 := by simp [slW]
theorem slW_below (w : World) (A : Option Addr) (len cap : Nat) (off m : Int) : Below w.heap.size w (slW w A len cap off m) :=
  (((Below.refl _ _).alloc (Nat.le_refl _) _).alloc (by simp) _).alloc (by simp; omega) _
theorem slW_p (w : World) (A : Option Addr) (len cap : Nat) (off m : Int) : Boxed (slW w A len cap off m) w.heap.size 23 (.slice A len cap) := ((Boxed.new w 23 _).alloc _).alloc _
theorem slW_o (w : World) (A : Option Addr) (len cap : Nat) (off m : Int) : Boxed (slW w A len cap off m) (w.heap.size + 1) 2 (.int .i64 off) := by
  have := (Boxed.new (w.alloc (.cells #[.slice A len cap] 23)) 2 (.int .i64 off)).alloc (.cells #[.int .i64 m] 2)
  simpa [slW] using this
theorem slW_n (w : World) (A : Option Addr) (len cap : Nat) (off m : Int) : Boxed (slW w A len cap off m) (w.heap.size + 2) 2 (.int .i64 m) := by
  have := Boxed.new ((w.alloc (.cells #[.slice A len cap] 23)).alloc (.cells #[.int .i64 off] 2)) 2 (.int .i64 m)
  simpa [slW] using this

/-- The iterator's contract behind its making. -/
theorem sliced_seq (n : Nat) (hn : 1 ≤ n) (A : Option Addr) (cap : Nat) (cs : List (Int × Int)) (off m : Int) (w : World) (hp : Pairs w A cs) (hA : ∀ ad, A = some ad → ad.block < w.heap.size)
    (hok : okP cs) (hoff : 0 ≤ off ∧ off ≤ 1099511627776) (hm : 0 ≤ m ∧ m ≤ 1099511627776) (hlen : cs.length ≤ 16) :
    SeqB Fence.wide n Try.prog 43 #[.pointer (some ⟨w.heap.size, 0, none⟩), .pointer (some ⟨w.heap.size + 2, 0, none⟩), .pointer (some ⟨w.heap.size + 1, 0, none⟩)] (fun x : Int × Int => #[.agg #[.int .i64 x.1, .int .i64 x.2]]) (fun k => k = w.heap.size + 2 ∨ k = w.heap.size + 1) (KeepS w.heap.size (w.heap.size + 2) (w.heap.size + 1) A)
      (fun pre x => pre ++ [x] <+: slicedL cs off m) (fun xs => xs = slicedL cs off m) (fun pre => pre <+: slicedL cs off m) (slW w A cs.length cap off m) :=
  sliced1_seq Fence.wide n trivial rfl rfl hn _ _ _ A cap cs off m _ (slW_p ..) (slW_n ..) (slW_o ..) (by omega) (by omega) (by omega) (hp.below (slW_below ..))
    (fun ad e => by have := hA ad e; rw [slW_size]; omega) hok hoff hm hlen

theorem keepS_put {bp bn bo : Nat} {A : Option Addr} {W : World} {l : Nat} {o' : Obj} (h1 : bp < l) (h2 : bn < l) (h3 : bo < l) (h4 : ∀ ad, A = some ad → ad.block < l) : KeepS bp bn bo A W (W.putObj l o') :=
  ⟨by simp [World.putObj], World.putObj_heap_other (by omega), World.putObj_heap_other (by omega), World.putObj_heap_other (by omega), fun ad e => World.putObj_heap_other (by have := h4 ad e; omega)⟩
theorem KeepS.trans {bp bn bo : Nat} {A : Option Addr} {a b c : World} (h : KeepS bp bn bo A a b) (k : KeepS bp bn bo A b c) : KeepS bp bn bo A a c :=
  ⟨Nat.le_trans h.1 k.1, k.2.1.trans h.2.1, k.2.2.1.trans h.2.2.1, k.2.2.2.1.trans h.2.2.2.1, fun ad e => (k.2.2.2.2 ad e).trans (h.2.2.2.2 ad e)⟩
theorem keepS_below {bp bn bo : Nat} {A : Option Addr} {W W' : World} (h : Below W.heap.size W W') (h1 : bp < W.heap.size) (h2 : bn < W.heap.size) (h3 : bo < W.heap.size) (h4 : ∀ ad, A = some ad → ad.block < W.heap.size) : KeepS bp bn bo A W W' :=
  ⟨h.size, h.block _ h1, h.block _ h2, h.block _ h3, fun ad e => h.block _ (h4 ad e)⟩

/-- What may turn while a loop over the iterator goes on, the rounds aside: the iterator's two counters, and blocks from s on that are no cells; new blocks. -/
structure Turn (s bn bo : Nat) (W W' : World) : Prop where
  os : W'.os = W.os
  tape : W'.tape = W.tape
  output : W'.output = W.output
  size : W.heap.size ≤ W'.heap.size
  block : ∀ k o, W.heap[k]? = some o → k ≠ bn → k ≠ bo → (k < s ∨ o.isCells = true) → W'.heap[k]? = some o
theorem Turn.boxed {s bn bo b : Nat} {t : TypeId} {v : Value} {W W' : World} (h : Turn s bn bo W W') (hb : Boxed W b t v) (h1 : b ≠ bn) (h2 : b ≠ bo) : Boxed W' b t v := h.block b _ hb h1 h2 (.inr rfl)
theorem Turn.cells {s bn bo b : Nat} {t : TypeId} {cs : Array Value} {fr : Nat × Nat} {W W' : World} (h : Turn s bn bo W W') (hb : W.heap[b]? = some (.cells cs t fr)) (h1 : b ≠ bn) (h2 : b ≠ bo) : W'.heap[b]? = some (.cells cs t fr) := h.block b _ hb h1 h2 (.inr rfl)
theorem Turn.below {s bn bo B : Nat} {w W W' : World} (h : Turn s bn bo W W') (hb : Below B w W) (hB : B ≤ w.heap.size) (h1 : B ≤ bn) (h2 : B ≤ bo) (h3 : B ≤ s) : Below B w W' :=
  hb.trans ⟨h.os, h.tape, h.output, h.size, fun k hk => by
    have hlt : k < W.heap.size := by have := hb.size; omega
    rw [Array.getElem?_eq_getElem hlt]
    exact h.block k _ (Array.getElem?_eq_getElem hlt) (by omega) (by omega) (.inl (by omega))⟩
theorem Turn.of_but {s bn bo : Nat} {W W' : World} (h : But (fun k => k = bn ∨ k = bo) W W') : Turn s bn bo W W' :=
  ⟨h.os, h.tape, h.output, h.size, fun k o hk h1 h2 _ => (h.block k (Array.getElem?_eq_some_iff.1 hk).1 (by simp [h1, h2])).trans hk⟩
theorem Turn.of_own {s bn bo : Nat} {W W' : World} {row : Option Nat} (hg : W.grownBy W' row) (hr : ∀ r, row = some r → s ≤ r ∧ ∃ o : Obj, W.heap[r]? = some o ∧ o.isCells = false) : Turn s bn bo W W' :=
  ⟨hg.os, hg.tape, hg.output, hg.size, fun k o hk _ _ h3 => by
    refine (hg.block k (Array.getElem?_eq_some_iff.1 hk).1 (fun e => ?_)).trans hk
    obtain ⟨h4, o', ho, hc⟩ := hr k e.symm
    rw [hk] at ho
    cases ho
    rcases h3 with h3 | h3
    · omega
    · simp [hc] at h3⟩

/-- 'for p := range sliced(parts, off, m) { body }': the caller's law. -/
theorem range_sliced {g : Operand} {ps : Array Tmp} {assign body : Code} {Q : Exit → Act → World → Prop} {a : Act} (A : Option Addr) (cap : Nat) (cs : List (Int × Int)) (off m : Int) (w : World)
    (hp : Pairs w A cs) (hA : ∀ ad, A = some ad → ad.block < w.heap.size) (hok : okP cs) (hoff : 0 ≤ off ∧ off ≤ 1099511627776) (hm : 0 ≤ m ∧ m ≤ 1099511627776) (hlen : cs.length ≤ 16)
    (hg : a.eval g = .func (.func 43) #[] #[.pointer (some ⟨w.heap.size, 0, none⟩), .pointer (some ⟨w.heap.size + 2, 0, none⟩), .pointer (some ⟨w.heap.size + 1, 0, none⟩)]) (hps : ps.size = 1)
    (I : List (Int × Int) → World → Prop) (Ix : Code → List (Int × Int) → World → Prop) (Ax : List (Int × Int) → Int × Int → Act → World → Prop)
    (hI : ∀ pre W W', I pre W → Turn (w.heap.size + 3) (w.heap.size + 2) (w.heap.size + 1) W W' → I pre W') (hIx : ∀ c pre W W', Ix c pre W → Turn (w.heap.size + 3) (w.heap.size + 2) (w.heap.size + 1) W W' → Ix c pre W')
    (hAx : ∀ pre x a₁ W W', Ax pre x a₁ W → Turn (w.heap.size + 3) (w.heap.size + 2) (w.heap.size + 1) W W' → Ax pre x a₁ W')
    (h0 : I [] (slW w A cs.length cap off m))
    (hassign : ∀ (l : Nat) (pre : List (Int × Int)) (x : Int × Int) (W : World) (K : Act → World → Prop), I pre W → w.heap.size + 3 ≤ W.heap.size → (∀ a₁ W₁, KeepsOthers W W₁ → Below W.heap.size W W₁ → Ax pre x a₁ W₁ → K a₁ W₁) →
      assign.wpIn (Fence.wide.inRound l) 3 Try.prog (Exit.then K (fun _ _ _ => False)) { tmps := (ps.zip #[.agg #[.int .i64 x.1, .int .i64 x.2]]).foldl (fun t (p, v) => t.setIfInBounds p v) a.tmps, defers := [] } W)
    (hbody : ∀ (l : Nat) (pre : List (Int × Int)) (x : Int × Int) (a₁ : Act) (W : World), pre ++ [x] <+: slicedL cs off m → (0 ≤ x.1 ∧ x.1 ≤ 1099511631872) → (1 ≤ x.2 ∧ x.2 ≤ 4096) → w.heap.size + 3 ≤ W.heap.size → Ax pre x a₁ W →
      body.wpIn (Fence.wide.inRound l) 3 Try.prog (ownPostK (KeepS w.heap.size (w.heap.size + 2) (w.heap.size + 1) A) I Ix (pre ++ [x]) W) a₁ W)
    (hdone : ∀ (D : Nat) (W : World), w.heap.size + 3 ≤ D → I (slicedL cs off m) W → W.heap[D]? = some (.deferred (some [])) → Q .normal { a with defers := { target := .collected D, args := #[] } :: a.defers } W)
    (hstop : ∀ (D : Nat) (c : Code) (pre : List (Int × Int)) (W : World), w.heap.size + 3 ≤ D → pre <+: slicedL cs off m → Ix c pre W → W.heap[D]? = some (.deferred (some [])) → c.wpIn Fence.wide 5 Try.prog Q { a with defers := { target := .collected D, args := #[] } :: a.defers } W) :
    (Code.rangeFunc g ps assign body).wpIn Fence.wide 5 Try.prog Q a (slW w A cs.length cap off m) := by
  have hbs := slW_below w A cs.length cap off m
  have hss := slW_size w A cs.length cap off m
  refine wpIn_rangeFunc_B (α := Int × Int) rfl (by omega) (gf := 43) hg trivial (enters_of Try.func43 (by kernel_rfl) rfl) (sliced_seq 4 (by omega) A cap cs off m w hp hA hok hoff hm hlen) (fun h k => h.trans k)
    (fun W l o o' h _ _ _ => keepS_put (by omega) (by omega) (by omega) (fun ad e => by have := hA ad e; omega)) (Below.refl _ _) (by intro k hk; omega) (fun _ => hps.symm)
    (fun pre W => I pre W ∧ w.heap.size + 3 ≤ W.heap.size) Ix
    (fun s A B row hs hg hr => ⟨hI s A B hs.1 (Turn.of_own hg (by rw [hss] at hr; exact hr)), Nat.le_trans hs.2 hg.size⟩)
    (fun s A B hs hb => ⟨hI s A B hs.1 (Turn.of_but hb), Nat.le_trans hs.2 hb.size⟩)
    (fun c s A B row hs hg hr => hIx c s A B hs (Turn.of_own hg (by rw [hss] at hr; exact hr)))
    ⟨h0, by omega⟩
    (fun pre x a₁ W => Ax pre x a₁ W ∧ w.heap.size + 3 ≤ W.heap.size)
    (fun pre x a₁ s A B row hs hg hr => ⟨hAx pre x a₁ A B hs.1 (Turn.of_own hg (by rw [hss] at hr; exact hr)), Nat.le_trans hs.2 hg.size⟩)
    ?assign ?body ?done ?stop
  case assign =>
    intro l pre x W K hi hal hK
    refine hassign l pre x W K hi.1 hi.2 (fun a₁ W₁ h1 h2 h3 => hK a₁ W₁ h1 ?_ ⟨h3, Nat.le_trans hi.2 h2.size⟩)
    exact keepS_below h2 (by omega) (by omega) (by omega) (fun ad e => by have := hA ad e; omega)
  case body =>
    intro l pre x a₁ W hal hax
    have hb := sl_bd hok hoff.1 hal
    refine wpIn_mono (hbody l pre x a₁ W hal hb.1 hb.2 hax.2 hax.1) ?_
    intro e a3 W3 h
    cases e with
    | normal => exact ⟨h.1, h.2.1, h.2.2, Nat.le_trans hax.2 h.1.size⟩
    | ret => exact h
    | exit id => exact h
    | goto t => exact h
    | panic c => exact h
    | outgrown => exact h
  case done =>
    rintro D xs W hD rfl hi hk
    exact hdone D W (by omega) hi.1 hk
  case stop =>
    intro D c pre W hD hpre hi hk
    exact hstop D c pre W (by omega) hpre hi hk
end Go.Proofs.Ytbojagkalbfenaa
namespace Go.Proofs.Ytbojagkalbfenaa
open Go.RowKit
attribute [local go_sem] Oper.semAt_some ints_get ints_size ints_getElem

def insideB (mlen : Nat) (xs : List (Int × Int)) : Bool := xs.all fun x => decide (x.1 + x.2 ≤ mlen)
theorem insideB_snoc (mlen : Nat) (pre : List (Int × Int)) (x : Int × Int) : insideB mlen (pre ++ [x]) = (insideB mlen pre && decide (x.1 + x.2 ≤ mlen)) := by simp [insideB]
theorem insideB_prefix {mlen : Nat} {pre xs : List (Int × Int)} (h : pre <+: xs) (hf : insideB mlen pre = false) : insideB mlen xs = false := by
  obtain ⟨q, rfl⟩ := h
  simp only [insideB, List.all_append] at hf ⊢
  rw [hf]; rfl

theorem results_cell1 {fn : Func} {p : Tmp} {ty : TypeId} (h : fn.results = #[.cell p ty]) (tmps : Array Value) (P : Program) (w : World) (a : Addr) (v : Value) (d : TypeDesc) (hp : tmps.getD p undef = .pointer (some a)) (hc : w.cell? a = some v)
    (hu : P.underlying ty = some d) (hd : (match d with | .struct _ | .array _ _ => true | _ => false) = false) : (results fn tmps).run P w = .ok v w := by
  have hp' : tmps[p]?.getD undef = .pointer (some a) := by simpa using hp
  have hagg : (isAgg ty).run P w = .ok false w := by
    unfold isAgg
    rw [Sem.run_bind, run_underlying hu w]
    cases d <;> simp_all
  simp [results, h, hp', asAddr, loadVar, Sem.run_bind, hagg, hc]

set_option maxHeartbeats 1000000 in
set_option maxRecDepth 100000 in
theorem inside_in (M : Option Addr) (mlen mcap : Nat) (A : Option Addr) (cap : Nat) (cs : List (Int × Int)) (off m : Int) (w : World) (hp : Pairs w A cs) (hA : ∀ ad, A = some ad → ad.block < w.heap.size)
    (hok : okP cs) (hoff : 0 ≤ off ∧ off ≤ 1099511627776) (hm : 0 ≤ m ∧ m ≤ 1099511627776) (hlen : cs.length ≤ 16) (hml : mlen ≤ 9223372036854775807) :
    CallsIn Fence.wide 5 Try.prog 34 #[.slice M mlen mcap, .slice A cs.length cap, .int .i64 off, .int .i64 m] w fun e w' => e = .returned (.bool (insideB mlen (slicedL cs off m))) ∧ Below w.heap.size w w' := by
  have HP := Lib.hid hp
  have HA := Lib.hid hA
  have HOK := Lib.hid hok
  clear hp hA hok
  refine callsIn_of_wp_marks Try.func34 rfl trivial ?_ rfl
  simp only [Try.ntmps34, List.size_toArray, List.length_cons, List.length_nil, Nat.reduceAdd, Nat.reduceSub, Array.replicate_succ, Array.replicate_zero, List.push_toArray, List.append_toArray, List.nil_append, List.cons_append]
  gi_wp2_with (refine ⟨trivial, ?_⟩; gi_at_call 40; refine (callsIn_wide.2 (sliced_calls _ _ _ _ _ _)).mono ?_; rintro e w' ⟨rfl, rfl⟩)
  obtain ⟨W0, hW0⟩ : ∃ W0, (w.alloc (.cells #[.slice M mlen mcap] 22)).alloc (.cells #[.bool false] 4) = W0 := ⟨_, rfl⟩
  have hs0 : w.heap.size + 1 + 1 = W0.heap.size := by rw [← hW0]; simp
  have hb0 : Below w.heap.size w W0 := by rw [← hW0]; exact ((Below.refl _ _).alloc (Nat.le_refl _) _).alloc (by simp) _
  have hm0 : Boxed W0 w.heap.size 22 (.slice M mlen mcap) := by rw [← hW0]; exact (Boxed.new w 22 _).alloc _
  have hr0 : Boxed W0 (w.heap.size + 1) 4 (.bool false) := by
    rw [← hW0]
    have := Boxed.new (w.alloc (.cells #[.slice M mlen mcap] 22)) 4 (.bool false)
    simpa using this
  rw [hW0, hs0]
  have hbs := slW_below W0 A cs.length cap off m
  refine range_sliced A cap cs off m W0 (HP.out.below hb0) (fun ad e => by have := HA.out ad e; omega) HOK.out hoff hm hlen rfl rfl
    (fun pre W => Boxed W w.heap.size 22 (.slice M mlen mcap) ∧ Boxed W (w.heap.size + 1) 4 (.bool false) ∧ Below w.heap.size w W ∧ insideB mlen pre = true)
    (fun c pre W => c = .ret ∧ Boxed W (w.heap.size + 1) 4 (.bool false) ∧ Below w.heap.size w W ∧ insideB mlen pre = false)
    (fun pre x a₁ W => (Boxed W w.heap.size 22 (.slice M mlen mcap) ∧ Boxed W (w.heap.size + 1) 4 (.bool false) ∧ Below w.heap.size w W ∧ insideB mlen pre = true) ∧ ∃ b, W0.heap.size + 3 ≤ b ∧ W.heap[b]? = some (.cells #[.int .i64 x.1, .int .i64 x.2] 44 (0, 0)) ∧
      a₁ = { tmps := #[.slice M mlen mcap, .slice A cs.length cap, .int .i64 off, .int .i64 m, .pointer (some ⟨w.heap.size, 0, none⟩), undef, undef, undef, .pointer (some ⟨w.heap.size + 1, 0, none⟩), .pointer (some ⟨b, 0, none⟩), .slice A cs.length cap, .int .i64 off, .int .i64 m,
        .func (.func 43) #[] #[.pointer (some ⟨W0.heap.size, 0, none⟩), .pointer (some ⟨W0.heap.size + 2, 0, none⟩), .pointer (some ⟨W0.heap.size + 1, 0, none⟩)], .agg #[.int .i64 x.1, .int .i64 x.2], undef, undef, undef, undef, undef, undef, undef, undef], defers := [] })
    (fun pre W W' h t => ⟨t.boxed h.1 (by omega) (by omega), t.boxed h.2.1 (by omega) (by omega), t.below h.2.2.1 (Nat.le_refl _) (by omega) (by omega) (by omega), h.2.2.2⟩)
    (fun c pre W W' h t => ⟨h.1, t.boxed h.2.1 (by omega) (by omega), t.below h.2.2.1 (Nat.le_refl _) (by omega) (by omega) (by omega), h.2.2.2⟩)
    (fun pre x a₁ W W' h t => ⟨⟨t.boxed h.1.1 (by omega) (by omega), t.boxed h.1.2.1 (by omega) (by omega), t.below h.1.2.2.1 (Nat.le_refl _) (by omega) (by omega) (by omega), h.1.2.2.2⟩, by
      obtain ⟨b, h1, h2, h3⟩ := h.2
      exact ⟨b, h1, t.cells h2 (by omega) (by omega), h3⟩⟩)
    ⟨(hbs.block _ hm0.lt).trans hm0, (hbs.block _ hr0.lt).trans hr0, below_then' hb0 hbs, rfl⟩
    ?assign ?body ?done ?stop
  case assign =>
    intro l pre x W K hI hsz hK
    gi_wp2
    exact hK _ _ (KeepsOthers.alloc _ _) ((Below.refl _ _).alloc (Nat.le_refl _) _) ⟨⟨hI.1.alloc _, hI.2.1.alloc _, hI.2.2.1.alloc hI.2.2.1.size _, hI.2.2.2⟩, _, hsz, heap_alloc_new _ _, rfl⟩
  case body =>
    rintro l pre ⟨x1, x2⟩ a₁ W hal ⟨hx0, hx1⟩ ⟨hy0, hy1⟩ hsz ⟨⟨hI1, hI2, hI3, hI4⟩, b, hb, hcell, rfl⟩
    have hcm := hI1.cell
    have hc0 : W.cell? ⟨b, 0, none⟩ = some (.int .i64 x1) := by rw [cell_of_row _ _ _ _ _ _ hcell]; rfl
    have hc1 : W.cell? ⟨b, 1, none⟩ = some (.int .i64 x2) := by rw [cell_of_row _ _ _ _ _ _ hcell]; rfl
    have hcr := hI2.cell
    have hfr := hI2.frozen
    have HI := Lib.hid (And.intro hI1 (And.intro hI2 (And.intro hI3 hI4)))
    simp only at hx0 hx1 hy0 hy1
    clear hI1 hI2 hI3 hI4
    by_cases hle : x1 + x2 ≤ mlen
    · gi_wp2
      exact ⟨KeepsOthers.refl _, keepS_below (Below.refl _ _) (by omega) (by omega) (by omega) (fun ad e => by have := HA.out ad e; have := hb0.size; omega), HI.out.1, HI.out.2.1, HI.out.2.2.1, by rw [insideB_snoc, HI.out.2.2.2]; simpa using hle⟩
    · gi_wp2
      exact ⟨KeepsOthers.setCell _ _ _, rfl, HI.out.2.1.set _, HI.out.2.2.1.setCell (by simp) _, by rw [insideB_snoc]; simp; intro _; omega⟩
  case done =>
    rintro D W hD ⟨h1, h2, h3, h4⟩ hK
    have hcr := h2.cell
    have hfr := h2.frozen
    gi_wp2
    refine ⟨by simp, .inl ⟨_, _, rfl, run_takeDeferred ((KeepsOthers.setCell _ _ _).same D _ hK rfl), ?_⟩⟩
    exact ⟨_, results_cell1 rfl _ _ _ ⟨w.heap.size + 1, 0, none⟩ (.bool true) _ rfl (by rw [World.cell?_of_block (w := W.setCell ⟨w.heap.size + 1, 0, none⟩ (.bool true)) (World.putObj_heap_other (by simp; omega))]; exact (h2.set _).cell) Try.underlying4 rfl,
      by rw [h4], (h3.setCell (by simp) _).trans (belowK_b (w := w) (Nat.le_refl _) _ D _ _ (by omega) ((KeepsOthers.setCell _ _ _).same D _ hK rfl) rfl rfl)⟩
  case stop =>
    rintro D c pre W hD hpre ⟨rfl, h2, h3, h4⟩ hK
    gi_wp2
    refine ⟨by simp, .inl ⟨_, _, rfl, run_takeDeferred hK, ?_⟩⟩
    exact ⟨_, results_cell1 rfl _ _ _ ⟨w.heap.size + 1, 0, none⟩ (.bool false) _ rfl (by rw [World.cell?_of_block (w := W) (World.putObj_heap_other (by simp; omega))]; exact h2.cell) Try.underlying4 rfl,
      by rw [insideB_prefix hpre h4], h3.trans (belowK_b (w := w) (Nat.le_refl _) _ D _ _ (by omega) hK rfl rfl)⟩
end Go.Proofs.Ytbojagkalbfenaa
namespace Go.Proofs.Ytbojagkalbfenaa
open Go.RowKit

/-- At the wide fence, in a round: what is known of a plain call is known there. -/
theorem callsIn_round {l n : Nat} {P : Program} {f : FuncId} {args : Array Value} {w : World} {R : Ending → World → Prop} (h : Calls P f args w R) : CallsIn (Fence.wide.inRound l) n P f args w R :=
  (callsIn_wide (n := n)).2 h

theorem rowsIn_round {l n : Nat} {P : Program} {row : String} {args : Array Value} {w : World} {R : Value → World → Prop} (h : Rows P row args w R) : RowsIn (Fence.wide.inRound l) n P row args w R := by
  intro c cs _
  obtain ⟨v, w', r, s⟩ := h c cs
  exact ⟨v, w', r, stepsIn_wide.2 s⟩

def noDeferB (ops : Array Oper) : Bool := ops.toList.all fun o => match o.op with | .defer _ => false | _ => true

theorem noDefer_spec {ops : Array Oper} (h : noDeferB ops = true) {i : Nat} {o : Oper} (hi : ops[i]? = some o) : ∀ c, o.op ≠ .defer c := by
  intro c hc
  simp only [noDeferB, List.all_eq_true] at h
  have := h o (by simpa using List.mem_of_getElem? (by simpa using hi : ops.toList[i]? = some o))
  rw [hc] at this
  cases this

theorem wpOpsIn_of_wpOps {l n : Nat} {P : Program} {ops : Array Oper} {Q : Exit → Act → World → Prop} (hQ : ¬ LetsOut Q) (hd : noDeferB ops = true) :
    ∀ (ls : List Nat) (a : Act) (w : World), wpOps P ops Q ls a w → wpOpsIn (Fence.wide.inRound l) n P ops Q ls a w
  | [], a, w, h => h
  | i :: rest, a, w, h => by
    simp only [wpOps] at h
    simp only [wpOpsIn]
    cases ho : ops[i]? with
    | none => simp only [ho] at h ⊢; exact wpOpsIn_of_wpOps hQ hd rest a w h
    | some o =>
      simp only [ho] at h ⊢
      by_cases hw : Region.wanted o (yielded ops a.tmps) = true
      · simp only [hw, if_true] at h ⊢
        have h := h.resolve_right fun x => hQ x.2
        refine ⟨fun _ _ => trivial, ?_⟩
        rw [Oper.semAt_eq _ _ _ (noDefer_spec hd ho)]
        unfold Oper.wp at h
        generalize (execOp a.eval o).run P w = r at h
        have ih := wpOpsIn_of_wpOps (P := P) (l := l) (n := n) hQ hd rest
        cases r with
        | ok x w' =>
          cases x <;> simp only [Oper.upon] at h <;> simp only [Oper.uponIn]
          case value => exact ih _ _ h
          case skip => exact ih _ _ h
          case defer => exact ih _ _ h
          case enter => exact ⟨fun hx => (by cases hx), callsIn_round (Calls.mono h (fun e w'' he => by cases e <;> first | exact ih _ _ he | exact he))⟩
          case row => exact ⟨fun hx => (by cases hx), rowsIn_round (Rows.mono h (fun _ _ he => ih _ _ he))⟩
        | halt x w' => cases x <;> simp only [Oper.upon] at h <;> simp only [Oper.uponIn] <;> exact h
      · simp only [hw, if_false, Bool.false_eq_true] at h ⊢
        exact ⟨fun _ _ => trivial, wpOpsIn_of_wpOps hQ hd rest _ w h⟩

theorem wpIn_round_any {l n : Nat} {P : Program} {id : Nat} {ops : Array Oper} {Q : Exit → Act → World → Prop} {a : Act} {w : World} (hQ : ¬ LetsOut Q) (hd : noDeferB ops = true) (hm : P.follows .mixedOrders = true)
    (h : wpAny P .any ops Q ops.size (Array.replicate ops.size false) a { w with drawn := w.drawn + 1 }) : (Code.region id ops true).wpIn (Fence.wide.inRound l) n P Q a w :=
  wpIn_region_draw fun t => by
    refine wpOpsIn_of_wpOps hQ hd _ _ _ ?_
    simp only [Region.schedule, hm, Bool.true_or, if_true]
    exact wpAny_sound ops.size t _ a _ h

theorem wpIn_round_still_tail {k id : Nat} {r : Nat} {P : Program} {Q : Exit → Act → World → Prop} {a : Act} {w : World} {l : List Oper} (n : Nat) (hQ : ¬ LetsOut Q) (hd : noDeferB l.toArray = true) (hm : P.follows .mixedOrders = true) (hB : Region.lexTailB .any l.toArray n = true)
    (h : wpStill P l.toArray { w with drawn := w.drawn + 1 } (fun a' => wpList P l.toArray Q (l.drop n) a' { w with drawn := w.drawn + 1 }) (l.take n) a) : (Code.region id l.toArray true).wpIn (Fence.wide.inRound k) r P Q a w := by
  simp only [Region.lexTailB, Bool.and_eq_true, decide_eq_true_eq] at hB
  obtain ⟨⟨⟨⟨hsel, hn⟩, hs⟩, hc⟩, hlex⟩ := hB
  have hn' : n < l.length := by simpa using hn
  have htl : (l.take n).length = n := by simp; omega
  have hdl : (l.drop n).length = l.toArray.size - n := by simp
  have inv0 : HeadInv .any l.toArray n (Array.replicate l.toArray.size false) :=
    ⟨by simp, fun j oj _ hl => (by rw [getD_replicate_false] at hl; cases hl), fun t _ ht => getD_in (by simpa using ht) (getD_replicate_false _ _)⟩
  have H := wpAnyL_lex (md := .any) (g := l.toArray.size - n) hsel hs hc hn (l.take n) 0 _ a (fun j hj => by
    have hj' : j < n := by rw [htl] at hj; exact hj
    simp [hj']) (by simpa using htl) inv0 (by rw [htl]; exact hlex) h
  refine wpIn_round_any hQ hd hm ?_
  have := wpAny_of_head (Q' := Q) (g := l.toArray.size - n) (fun listed a' hL => by
    have := wpAny_of_seq (md := .any) (Q' := Q) (l.drop n) n listed a' { w with drawn := w.drawn + 1 } (fun j => by simp [List.getElem?_drop]) (by rw [hdl]; exact hL.1) hL.2
    rwa [hdl] at this) _ _ _ H
  rw [htl, show n + (l.toArray.size - n) = l.toArray.size by omega] at this
  exact this
end Go.Proofs.Ytbojagkalbfenaa
namespace Go.Proofs.Ytbojagkalbfenaa
open Go.RowKit
attribute [local go_sem] Oper.semAt_some ints_get ints_size ints_getElem

def piece (ds : List Value) (x : Int × Int) : List Value := (ds.drop x.1.toNat).take x.2.toNat
def gatherL (ds : List Value) (xs : List (Int × Int)) : List Value := xs.flatMap (piece ds)
theorem gatherL_snoc (ds : List Value) (pre : List (Int × Int)) (x : Int × Int) : gatherL ds (pre ++ [x]) = gatherL ds pre ++ piece ds x := by simp [gatherL]
theorem piece_length {ds : List Value} {x : Int × Int} (h0 : 0 ≤ x.1) (h1 : 0 ≤ x.2) (h : x.1 + x.2 ≤ ds.length) : (piece ds x).length = x.2.toNat := by
  simp only [piece, List.length_take, List.length_drop]; omega
theorem gatherL_bound {ds : List Value} : ∀ {xs : List (Int × Int)}, (∀ x ∈ xs, x.2 ≤ 4096) → (gatherL ds xs).length ≤ 4096 * xs.length
  | [], _ => by simp [gatherL]
  | x :: xs, h => by
    have h1 := gatherL_bound (ds := ds) (xs := xs) (fun y hy => h y (List.mem_cons_of_mem _ hy))
    have h2 := h x List.mem_cons_self
    have h3 : (piece ds x).length ≤ x.2.toNat := by simp only [piece, List.length_take]; omega
    simp only [gatherL, List.flatMap_cons, List.length_append, List.length_cons] at h1 ⊢
    omega
theorem slicedL_length : ∀ (l : List (Int × Int)) (off m : Int), (slicedL l off m).length ≤ l.length
  | [], _, _ => by simp [slicedL]
  | p :: r, off, m => by
    simp only [slicedL]
    have h1 := slicedL_length r (off - p.2) m
    have h2 := slicedL_length r 0 (m - min (p.2 - off) m)
    split
    · simp
    · split <;> simp only [List.length_cons] <;> omega

/-- What is behind 'out = append(out, ..)' with the row laid above the variable's box. -/
theorem out_appended {W w1 : World} {s B : Nat} {t e : TypeId} {size : Nat} {v v' : Value} {k m : Nat} {xs ys : List Value} (hv : Boxed W B t v) (hte : t ≠ e) (hrow : W.ownsRow s e size v k xs) (hB : B < s) (hs : s ≤ W.heap.size)
    (hown' : w1.ownsRow s e size v' m ys) (hgrow : W.grownBy w1 v.ownBlock) :
    Boxed w1 B t v ∧ Boxed (w1.setCell ⟨B, 0, none⟩ v') B t v' ∧ (w1.setCell ⟨B, 0, none⟩ v').ownsRow s e size v' m ys ∧ Below B W (w1.setCell ⟨B, 0, none⟩ v') ∧ (∀ j, j < s → j ≠ B → (w1.setCell ⟨B, 0, none⟩ v').heap[j]? = W.heap[j]?) ∧ KeepsOthers W (w1.setCell ⟨B, 0, none⟩ v') := by
  have hv1 : Boxed w1 B t v := hv.kept hgrow (hv.not_row hte hrow)
  have hg : ∀ j, v.ownBlock = some j → s ≤ j := by
    intro j ej
    rcases hrow.2 with ⟨rfl, _⟩ | ⟨g, cap, cur, rfl, hb, _, _⟩
    · simp [Value.ownBlock] at ej
    · obtain rfl : g = j := by simpa [Value.ownBlock] using ej
      exact hb
  refine ⟨hv1, hv1.set v', hown'.kept (grownBy_setCell' w1 B v') (.inr (hv1.not_row hte hown').symm), ?_, ?_, ?_⟩
  · exact ((Below.refl B W).grown hgrow (by omega) (fun j ej => by have := hg j ej; omega)).setCell (p := ⟨B, 0, none⟩) (Nat.le_refl _) v'
  · intro j hj hjB
    rw [Below.heap_setCell _ _ _ _ hjB]
    exact hgrow.block j (by omega) (fun e' => by have := hg j e'.symm; omega)
  · refine (KeepsOthers.of_grownBy hgrow fun j o ej hj => ?_).trans (KeepsOthers.setCell _ _ _)
    rcases hrow.2 with ⟨rfl, _⟩ | ⟨g, cap, cur, rfl, _, hgb, _⟩
    · simp [Value.ownBlock] at ej
    · obtain rfl : g = j := by simpa [Value.ownBlock] using ej
      rw [hgb] at hj; cases hj; rfl
end Go.Proofs.Ytbojagkalbfenaa
namespace Go.Proofs.Ytbojagkalbfenaa
open Go.RowKit
attribute [local go_sem] Oper.semAt_some ints_get ints_size ints_getElem

theorem ownsRow_pos {W : World} {base : Nat} {e : TypeId} {size : Nat} {v : Value} {k : Nat} {xs : List Value} (h : W.ownsRow base e size v k xs) (hk : 0 < k) : ∃ g cap, v = .slice (some ⟨g, 0, none⟩) k cap := by
  rcases h.2 with ⟨_, h0⟩ | ⟨g, cap, _, rfl, _⟩
  · omega
  · exact ⟨g, cap, rfl⟩

theorem Turn.owns {s bn bo : Nat} {W W' : World} {base : Nat} {e : TypeId} {size : Nat} {v : Value} {k : Nat} {xs : List Value} (t : Turn s bn bo W W') (h : W.ownsRow base e size v k xs) (h1 : bn < base) (h2 : bo < base) : W'.ownsRow base e size v k xs := by
  refine ⟨h.1, ?_⟩
  rcases h.2 with h0 | ⟨g, cap, cur, rfl, hb, hc, hr⟩
  · exact .inl h0
  · exact .inr ⟨g, cap, cur, rfl, hb, t.cells hc (by omega) (by omega), hr⟩
theorem add_plus (p : Addr) (a b : Nat) : (p.add a).add b = p.add (a + b) := by
  simp only [Addr.add]
  split <;> split <;> (try split) <;> simp_all <;> omega

theorem results_tmp1 {fn : Func} {p : Tmp} (h : fn.results = #[.tmp p]) (tmps : Array Value) (P : Program) (w : World) : (results fn tmps).run P w = .ok (tmps.getD p undef) w := by
  simp [results, h]
theorem owns_mono {W : World} {base base' : Nat} {e : TypeId} {size : Nat} {v : Value} {k : Nat} {xs : List Value} (h : W.ownsRow base e size v k xs) (hb : base' ≤ base) : W.ownsRow base' e size v k xs := by
  refine ⟨h.1, ?_⟩
  rcases h.2 with h0 | ⟨g, cap, cur, rfl, hg, hr⟩
  · exact .inl h0
  · exact .inr ⟨g, cap, cur, rfl, by omega, hr⟩

/-- A slice's cells, all of them of one cell each. -/
structure Mem (w : World) (M : Option Addr) (ds : List Value) : Prop where
  cell : ∀ j u, ds[j]? = some u → ∃ ad, M = some ad ∧ ad.block < w.heap.size ∧ w.cell? (ad.add j) = some u
  one : ∀ u ∈ ds, u.oneCell' = true
theorem Mem.below {w W : World} {M : Option Addr} {ds : List Value} (h : Mem w M ds) (hb : Below w.heap.size w W) : Mem W M ds :=
  ⟨fun j u hj => by
    obtain ⟨ad, h1, h2, h3⟩ := h.cell j u hj
    exact ⟨ad, h1, Nat.lt_of_lt_of_le h2 hb.size, (hb.cell (p := ad.add j) (by rw [Addr.add]; split <;> exact h2)).trans h3⟩, h.one⟩

set_option maxHeartbeats 2000000 in
set_option maxRecDepth 100000 in
theorem gather_in (M : Option Addr) (ds : List Value) (mcap : Nat) (A : Option Addr) (cap : Nat) (cs : List (Int × Int)) (off m : Int) (w : World) (hmem : Mem w M ds) (hp : Pairs w A cs) (hA : ∀ ad, A = some ad → ad.block < w.heap.size)
    (hok : okP cs) (hoff : 0 ≤ off ∧ off ≤ 1099511627776) (hm : 0 ≤ m ∧ m ≤ 1099511627776) (hlen : cs.length ≤ 16) (hml : ds.length ≤ mcap) (hmc : mcap ≤ 9223372036854775807) (hin : insideB ds.length (slicedL cs off m) = true) :
    CallsIn Fence.wide 5 Try.prog 35 #[.slice M ds.length mcap, .slice A cs.length cap, .int .i64 off, .int .i64 m] w fun e w' => ∃ v, e = .returned v ∧ w'.ownsRow w.heap.size 5 1 v (gatherL ds (slicedL cs off m)).length (gatherL ds (slicedL cs off m)) ∧ Below w.heap.size w w' := by
  have HM := Lib.hid hmem
  have HP := Lib.hid hp
  have HA := Lib.hid hA
  have HOK := Lib.hid hok
  have HIN := Lib.hid hin
  clear hp hA hok hmem hin
  refine callsIn_of_wp_marks Try.func35 rfl trivial ?_ rfl
  simp only [Try.ntmps35, List.size_toArray, List.length_cons, List.length_nil, Nat.reduceAdd, Nat.reduceSub, Array.replicate_succ, Array.replicate_zero, List.push_toArray, List.append_toArray, List.nil_append, List.cons_append]
  gi_wp2_with (refine ⟨trivial, ?_⟩; gi_at_call 40; refine (callsIn_wide.2 (sliced_calls _ _ _ _ _ _)).mono ?_; rintro e w' ⟨rfl, rfl⟩)
  obtain ⟨W0, hW0⟩ : ∃ W0, (w.alloc (.cells #[.slice M ds.length mcap] 22)).alloc (.cells #[.slice none 0 0] 22) = W0 := ⟨_, rfl⟩
  have hs0 : w.heap.size + 1 + 1 = W0.heap.size := by rw [← hW0]; simp
  have hb0 : Below w.heap.size w W0 := by rw [← hW0]; exact ((Below.refl _ _).alloc (Nat.le_refl _) _).alloc (by simp) _
  have hm0 : Boxed W0 w.heap.size 22 (.slice M ds.length mcap) := by rw [← hW0]; exact (Boxed.new w 22 _).alloc _
  have hr0 : Boxed W0 (w.heap.size + 1) 22 (.slice none 0 0) := by
    rw [← hW0]
    have := Boxed.new (w.alloc (.cells #[.slice M ds.length mcap] 22)) 22 (.slice none 0 0)
    simpa using this
  rw [hW0, hs0]
  have hbs := slW_below W0 A cs.length cap off m
  refine range_sliced A cap cs off m W0 (HP.out.below hb0) (fun ad e => by have := HA.out ad e; omega) HOK.out hoff hm hlen rfl rfl
    (fun pre W => Boxed W w.heap.size 22 (.slice M ds.length mcap) ∧ Below w.heap.size w W ∧ ∃ v, Boxed W (w.heap.size + 1) 22 v ∧ W.ownsRow (W0.heap.size + 3) 5 1 v (gatherL ds pre).length (gatherL ds pre))
    (fun c pre W => False)
    (fun pre x a₁ W => (Boxed W w.heap.size 22 (.slice M ds.length mcap) ∧ Below w.heap.size w W ∧ ∃ v, Boxed W (w.heap.size + 1) 22 v ∧ W.ownsRow (W0.heap.size + 3) 5 1 v (gatherL ds pre).length (gatherL ds pre)) ∧ ∃ b, W0.heap.size + 3 ≤ b ∧ W.heap[b]? = some (.cells #[.int .i64 x.1, .int .i64 x.2] 44 (0, 0)) ∧
      a₁ = { tmps := #[.slice M ds.length mcap, .slice A cs.length cap, .int .i64 off, .int .i64 m, .pointer (some ⟨w.heap.size, 0, none⟩), undef, undef, undef, .slice none 0 0, .pointer (some ⟨w.heap.size + 1, 0, none⟩), .pointer (some ⟨b, 0, none⟩), .slice A cs.length cap, .int .i64 off, .int .i64 m,
        .func (.func 43) #[] #[.pointer (some ⟨W0.heap.size, 0, none⟩), .pointer (some ⟨W0.heap.size + 2, 0, none⟩), .pointer (some ⟨W0.heap.size + 1, 0, none⟩)], .agg #[.int .i64 x.1, .int .i64 x.2], undef, undef, undef, undef, undef, undef, undef, undef, undef, undef, undef, undef], defers := [] })
    (fun pre W W' ⟨h1, h2, v, h3, h4⟩ t => ⟨t.boxed h1 (by omega) (by omega), t.below h2 (Nat.le_refl _) (by omega) (by omega) (by omega), v, t.boxed h3 (by omega) (by omega), t.owns h4 (by omega) (by omega)⟩) (fun c pre W W' h t => h) ?tA ?start ?assign ?body ?done ?stop
  case tA =>
    rintro pre x a₁ W W' ⟨⟨h1, h2, v, h3, h4⟩, b, h5, h6, h7⟩ t
    exact ⟨⟨t.boxed h1 (by omega) (by omega), t.below h2 (Nat.le_refl _) (by omega) (by omega) (by omega), v, t.boxed h3 (by omega) (by omega), t.owns h4 (by omega) (by omega)⟩, b, h5, t.cells h6 (by omega) (by omega), h7⟩
  case start => exact ⟨(hbs.block _ hm0.lt).trans hm0, below_then' hb0 hbs, _, (hbs.block _ hr0.lt).trans hr0, by simp [gatherL], .inl ⟨rfl, by simp [gatherL]⟩⟩
  case assign =>
    intro l pre x W K hI hsz hK
    gi_wp2
    refine hK _ _ (KeepsOthers.alloc _ _) ((Below.refl _ _).alloc (Nat.le_refl _) _) ⟨?_, _, hsz, heap_alloc_new _ _, rfl⟩
    obtain ⟨h1, h2, v, h3, h4⟩ := hI
    exact ⟨h1.alloc _, h2.alloc h2.size _, v, h3.alloc _, h4.alloc _⟩
  case body =>
    rintro l pre ⟨x1, x2⟩ a₁ W hal ⟨hx0, hx1⟩ ⟨hy0, hy1⟩ hsz ⟨⟨hI1, hI2, v, hv, hrow⟩, b, hb, hcell, rfl⟩
    have hcm := hI1.cell
    have hc0 : W.cell? ⟨b, 0, none⟩ = some (.int .i64 x1) := by rw [cell_of_row _ _ _ _ _ _ hcell]; rfl
    have hc1 : W.cell? ⟨b, 1, none⟩ = some (.int .i64 x2) := by rw [cell_of_row _ _ _ _ _ _ hcell]; rfl
    have hcr := hv.cell
    have hfr := hv.frozen
    simp only at hx0 hx1 hy0 hy1
    have hle : x1 + x2 ≤ ds.length := by
      have : insideB ds.length (pre ++ [(x1, x2)]) = true := by
        obtain ⟨q, hq⟩ := hal
        have h := HIN.out
        rw [← hq] at h
        simp only [insideB, List.all_append, Bool.and_eq_true] at h
        simp only [insideB, List.all_append, Bool.and_eq_true]
        exact h.1
      rw [insideB_snoc, Bool.and_eq_true] at this
      simpa using this.2
    obtain ⟨M0, rfl⟩ : ∃ M0, M = some M0 := by
      have h0 : 0 < ds.length := by omega
      obtain ⟨ad, h, _⟩ := HM.out.cell 0 ds[0] (List.getElem?_eq_getElem h0)
      exact ⟨ad, h⟩
    have hwr : IntKind.i64.wrap (x1 + x2) = x1 + x2 := by rw [IntKind.wrap_i64]; omega
    have hne : ¬ mcap = x1.toNat := by omega
    have h0s : 0 ≤ x1 + x2 := by omega
    have h1s : x1 ≤ max (x1 + x2) 0 := by omega
    have hcap : x1 + x2 ≤ mcap := by omega
    have HI := Lib.hid (And.intro hI1 (And.intro hI2 (And.intro hv hrow)))
    clear hI1 hI2 hv hrow
    gi_wp2
    refine wpIn_round_still_tail 10 (by rintro ⟨a, w, h⟩; exact h) (by kernel_rfl) (by kernel_rfl) (by kernel_rfl) ?_
    simp only [List.take_succ_cons, List.take_zero, List.drop_succ_cons, List.drop_zero]
    repeat still_step
    refine wpStill_nil ?_
    have hpl : (piece ds (x1, x2)).length = (x1 + x2).toNat - x1.toNat := by rw [piece_length (by simpa using hx0) (by simp only; omega) (by simpa using hle)]; simp only; omega
    have hbd : (gatherL ds pre).length + ((x1 + x2).toNat - x1.toNat) ≤ 65536 := by
      have h1 := gatherL_bound (ds := ds) (xs := pre ++ [(x1, x2)]) (fun y hy => (slicedL_mem HOK.out hoff.1 y (hal.subset hy)).2.2)
      have h2 := slicedL_length cs off m
      have h3 := hal.length_le
      rw [gatherL_snoc, List.length_append, hpl] at h1
      omega
    obtain ⟨i0, hi0, hz0, hz1, hz2⟩ := info_parts (P := Try.prog) (e := 5) (z := .int .u8 0) (size := 1) (bytes := 1) (by kernel_rfl)
    refine wpList_append_own _ rfl (.tmp 16) (.tmp 25) 22 rfl (W0.heap.size + 3) 5 i0 (.int .u8 0) 1 1 Try.underlying22 hi0 hz0 hz1 hz2 rfl (by omega) v _ (gatherL ds pre) rfl HI.out.2.2.2 _ _ _ (piece ds (x1, x2)) rfl (by rw [hpl]; omega) ?cells ?one ?len ?byt ?bas ?_
    case cells =>
      intro j u hj
      have hj' : ds[x1.toNat + j]? = some u := by
        simp only [piece, List.getElem?_take, List.getElem?_drop] at hj
        split at hj
        · exact hj
        · cases hj
      obtain ⟨ad, e1, e2, e3⟩ := HM.out.cell _ _ hj'
      cases e1
      rw [add_plus]
      exact (HI.out.2.1.cell (p := M0.add (x1.toNat + j)) (by rw [Addr.add]; split <;> exact e2)).trans e3
    case one => exact fun u hu => HM.out.one u (List.mem_of_mem_drop (List.mem_of_mem_take hu))
    case len => simp only [maxLen]; omega
    case byt => omega
    case bas => exact hsz
    intro v' w1 hown' hgrow _
    obtain ⟨g', cap', rfl⟩ := ownsRow_pos hown' (by omega)
    obtain ⟨a1, a2, a3, a4, a5, a6⟩ := out_appended (W := W.drew) HI.out.2.2.1 (by decide) HI.out.2.2.2 (by omega) hsz hown' hgrow
    have hcr' := a1.cell
    have hfr' := a1.frozen
    have HA5 := Lib.hid a5
    clear a5
    go_wp2
    refine ⟨(KeepsOthers.drew W).trans a6, ⟨?ks, HA5.out _ (by omega) (by omega), HA5.out _ (by omega) (by omega), HA5.out _ (by omega) (by omega), fun ad e => HA5.out _ (by have := HA.out ad e; omega) (by have := HA.out ad e; omega)⟩, ?kb, ?kw, _, a2, ?ko⟩
    case ks => exact a4.size
    case kb => exact (HA5.out _ (by omega) (by omega)).trans HI.out.1
    case kw => exact HI.out.2.1.trans ⟨a4.os, a4.tape, a4.output, a4.size, fun k hk => a4.block k (by omega)⟩
    case ko => rw [gatherL_snoc, List.length_append, hpl]; exact a3
  case done =>
    rintro D W hD ⟨h1, h2, v, h3, h4⟩ hK
    have hcr := h3.cell
    have hfr := h3.frozen
    gi_wp2
    refine ⟨by simp, .inl ⟨_, _, rfl, run_takeDeferred hK, ?_⟩⟩
    exact ⟨_, results_tmp1 rfl _ _ _, v, rfl, ownsRow_putObj (owns_mono h4 (by omega)) _ hK rfl, h2.trans (belowK_b (w := w) (Nat.le_refl _) _ D _ _ (by omega) hK rfl rfl)⟩
  case stop =>
    intro D c pre W hD hpre h
    exact h.elim
end Go.Proofs.Ytbojagkalbfenaa
