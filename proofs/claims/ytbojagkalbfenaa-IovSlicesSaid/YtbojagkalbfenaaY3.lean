import Derived.Test.YtbojagkalbfenaaY2
namespace Go.Proofs.Ytbojagkalbfenaa
open Go.RowKit
attribute [local go_sem] Oper.semAt_some ints_get ints_size ints_getElem

/-- The world behind the making of the iterator. -/
def slW (w : World) (A : Option Addr) (len cap : Nat) (off m : Int) : World := ((w.alloc (.cells #[.slice A len cap] 23)).alloc (.cells #[.int .i64 off] 2)).alloc (.cells #[.int .i64 m] 2)
theorem sliced_calls (A : Option Addr) (len cap : Nat) (off m : Int) (w : World) :
    Calls Try.prog 40 #[.slice A len cap, .int .i64 off, .int .i64 m] w fun e w' => e = .returned (.func (.func 43) #[] #[.pointer (some ⟨w.heap.size, 0, none⟩), .pointer (some ⟨w.heap.size + 2, 0, none⟩), .pointer (some ⟨w.heap.size + 1, 0, none⟩)]) ∧ w' = slW w A len cap off m := by
  have hmf : ∀ (fn : Fn) (first cap : Array Value) (w : World), (Instr.makeFunc fn first cap).run Try.prog w = .ok (.func fn first cap) w := fun _ _ _ _ => rfl
  go_enter Try.func40, Try.ntmps40
  go_wp2_with fail
  go_ret
  exact ⟨rfl, rfl⟩
theorem slW_size (w : World) (A : Option Addr) (len cap : Nat) (off m : Int) : (slW w A len cap off m).heap.size = w.heap.size + 3 := by simp [slW]
theorem slW_below (w : World) (A : Option Addr) (len cap : Nat) (off m : Int) : Below w.heap.size w (slW w A len cap off m) :=
  (((Below.refl _ _).alloc (Nat.le_refl _) _).alloc (by simp) _).alloc (by simp; omega) _
theorem slW_p (w : World) (A : Option Addr) (len cap : Nat) (off m : Int) : Boxed (slW w A len cap off m) w.heap.size 23 (.slice A len cap) := ((Boxed.new w 23 _).alloc _).alloc _
theorem slW_o (w : World) (A : Option Addr) (len cap : Nat) (off m : Int) : Boxed (slW w A len cap off m) (w.heap.size + 1) 2 (.int .i64 off) := by
  have := (Boxed.new (w.alloc (.cells #[.slice A len cap] 23)) 2 (.int .i64 off)).alloc (.cells #[.int .i64 m] 2)
  simpa [slW] using this
theorem slW_n (w : World) (A : Option Addr) (len cap : Nat) (off m : Int) : Boxed (slW w A len cap off m) (w.heap.size + 2) 2 (.int .i64 m) := by
  have := Boxed.new ((w.alloc (.cells #[.slice A len cap] 23)).alloc (.cells #[.int .i64 off] 2)) 2 (.int .i64 m)
  simpa [slW] using this

/-- The iterator's contract behind its making. -/
theorem sliced_seq (n : Nat) (hn : 1 ≤ n) (A : Option Addr) (cap : Nat) (cs : List (Int × Int)) (off m : Int) (w : World) (hp : Pairs w A cs) (hA : ∀ ad, A = some ad → ad.block < w.heap.size)
    (hok : okP cs) (hoff : 0 ≤ off ∧ off ≤ 1099511627776) (hm : 0 ≤ m ∧ m ≤ 1099511627776) (hlen : cs.length ≤ 16) :
    SeqB Fence.wide n Try.prog 43 #[.pointer (some ⟨w.heap.size, 0, none⟩), .pointer (some ⟨w.heap.size + 2, 0, none⟩), .pointer (some ⟨w.heap.size + 1, 0, none⟩)] (fun x : Int × Int => #[.agg #[.int .i64 x.1, .int .i64 x.2]]) (fun k => k = w.heap.size + 2 ∨ k = w.heap.size + 1) (KeepS w.heap.size (w.heap.size + 2) (w.heap.size + 1) A)
      (fun pre x => pre ++ [x] <+: slicedL cs off m) (fun xs => xs = slicedL cs off m) (fun pre => pre <+: slicedL cs off m) (slW w A cs.length cap off m) :=
  sliced1_seq Fence.wide n trivial rfl rfl hn _ _ _ A cap cs off m _ (slW_p ..) (slW_n ..) (slW_o ..) (by omega) (by omega) (by omega) (hp.below (slW_below ..))
    (fun ad e => by have := hA ad e; rw [slW_size]; omega) hok hoff hm hlen

theorem keepS_put {bp bn bo : Nat} {A : Option Addr} {W : World} {l : Nat} {o' : Obj} (h1 : bp < l) (h2 : bn < l) (h3 : bo < l) (h4 : ∀ ad, A = some ad → ad.block < l) : KeepS bp bn bo A W (W.putObj l o') :=
  ⟨by simp [World.putObj], World.putObj_heap_other (by omega), World.putObj_heap_other (by omega), World.putObj_heap_other (by omega), fun ad e => World.putObj_heap_other (by have := h4 ad e; omega)⟩
theorem KeepS.trans {bp bn bo : Nat} {A : Option Addr} {a b c : World} (h : KeepS bp bn bo A a b) (k : KeepS bp bn bo A b c) : KeepS bp bn bo A a c :=
  ⟨Nat.le_trans h.1 k.1, k.2.1.trans h.2.1, k.2.2.1.trans h.2.2.1, k.2.2.2.1.trans h.2.2.2.1, fun ad e => (k.2.2.2.2 ad e).trans (h.2.2.2.2 ad e)⟩
theorem keepS_below {bp bn bo : Nat} {A : Option Addr} {W W' : World} (h : Below W.heap.size W W') (h1 : bp < W.heap.size) (h2 : bn < W.heap.size) (h3 : bo < W.heap.size) (h4 : ∀ ad, A = some ad → ad.block < W.heap.size) : KeepS bp bn bo A W W' :=
  ⟨h.size, h.block _ h1, h.block _ h2, h.block _ h3, fun ad e => h.block _ (h4 ad e)⟩

/-- What may turn while a loop over the iterator goes on, the rounds aside: the iterator's two counters, and blocks from s on that are no cells; new blocks. -/
structure Turn (s bn bo : Nat) (W W' : World) : Prop where
  os : W'.os = W.os
  tape : W'.tape = W.tape
  output : W'.output = W.output
  size : W.heap.size ≤ W'.heap.size
  block : ∀ k o, W.heap[k]? = some o → k ≠ bn → k ≠ bo → (k < s ∨ o.isCells = true) → W'.heap[k]? = some o
theorem Turn.boxed {s bn bo b : Nat} {t : TypeId} {v : Value} {W W' : World} (h : Turn s bn bo W W') (hb : Boxed W b t v) (h1 : b ≠ bn) (h2 : b ≠ bo) : Boxed W' b t v := h.block b _ hb h1 h2 (.inr rfl)
theorem Turn.cells {s bn bo b : Nat} {t : TypeId} {cs : Array Value} {fr : Nat × Nat} {W W' : World} (h : Turn s bn bo W W') (hb : W.heap[b]? = some (.cells cs t fr)) (h1 : b ≠ bn) (h2 : b ≠ bo) : W'.heap[b]? = some (.cells cs t fr) := h.block b _ hb h1 h2 (.inr rfl)
theorem Turn.below {s bn bo B : Nat} {w W W' : World} (h : Turn s bn bo W W') (hb : Below B w W) (hB : B ≤ w.heap.size) (h1 : B ≤ bn) (h2 : B ≤ bo) (h3 : B ≤ s) : Below B w W' :=
  hb.trans ⟨h.os, h.tape, h.output, h.size, fun k hk => by
    have hlt : k < W.heap.size := by have := hb.size; omega
    rw [Array.getElem?_eq_getElem hlt]
    exact h.block k _ (Array.getElem?_eq_getElem hlt) (by omega) (by omega) (.inl (by omega))⟩
theorem Turn.of_but {s bn bo : Nat} {W W' : World} (h : But (fun k => k = bn ∨ k = bo) W W') : Turn s bn bo W W' :=
  ⟨h.os, h.tape, h.output, h.size, fun k o hk h1 h2 _ => (h.block k (Array.getElem?_eq_some_iff.1 hk).1 (by simp [h1, h2])).trans hk⟩
theorem Turn.of_own {s bn bo : Nat} {W W' : World} {row : Option Nat} (hg : W.grownBy W' row) (hr : ∀ r, row = some r → s ≤ r ∧ ∃ o : Obj, W.heap[r]? = some o ∧ o.isCells = false) : Turn s bn bo W W' :=
  ⟨hg.os, hg.tape, hg.output, hg.size, fun k o hk _ _ h3 => by
    refine (hg.block k (Array.getElem?_eq_some_iff.1 hk).1 (fun e => ?_)).trans hk
    obtain ⟨h4, o', ho, hc⟩ := hr k e.symm
    rw [hk] at ho
    cases ho
    rcases h3 with h3 | h3
    · omega
    · simp [hc] at h3⟩

/-- 'for p := range sliced(parts, off, m) { body }': the caller's law. -/
theorem range_sliced {g : Operand} {ps : Array Tmp} {assign body : Code} {Q : Exit → Act → World → Prop} {a : Act} (A : Option Addr) (cap : Nat) (cs : List (Int × Int)) (off m : Int) (w : World)
    (hp : Pairs w A cs) (hA : ∀ ad, A = some ad → ad.block < w.heap.size) (hok : okP cs) (hoff : 0 ≤ off ∧ off ≤ 1099511627776) (hm : 0 ≤ m ∧ m ≤ 1099511627776) (hlen : cs.length ≤ 16)
    (hg : a.eval g = .func (.func 43) #[] #[.pointer (some ⟨w.heap.size, 0, none⟩), .pointer (some ⟨w.heap.size + 2, 0, none⟩), .pointer (some ⟨w.heap.size + 1, 0, none⟩)]) (hps : ps.size = 1)
    (I : List (Int × Int) → World → Prop) (Ix : Code → List (Int × Int) → World → Prop) (Ax : List (Int × Int) → Int × Int → Act → World → Prop)
    (hI : ∀ pre W W', I pre W → Turn (w.heap.size + 3) (w.heap.size + 2) (w.heap.size + 1) W W' → I pre W') (hIx : ∀ c pre W W', Ix c pre W → Turn (w.heap.size + 3) (w.heap.size + 2) (w.heap.size + 1) W W' → Ix c pre W')
    (hAx : ∀ pre x a₁ W W', Ax pre x a₁ W → Turn (w.heap.size + 3) (w.heap.size + 2) (w.heap.size + 1) W W' → Ax pre x a₁ W')
    (h0 : I [] (slW w A cs.length cap off m))
    (hassign : ∀ (l : Nat) (pre : List (Int × Int)) (x : Int × Int) (W : World) (K : Act → World → Prop), I pre W → w.heap.size + 3 ≤ W.heap.size → (∀ a₁ W₁, KeepsOthers W W₁ → Below W.heap.size W W₁ → Ax pre x a₁ W₁ → K a₁ W₁) →
      assign.wpIn (Fence.wide.inRound l) 3 Try.prog (Exit.then K (fun _ _ _ => False)) { tmps := (ps.zip #[.agg #[.int .i64 x.1, .int .i64 x.2]]).foldl (fun t (p, v) => t.setIfInBounds p v) a.tmps, defers := [] } W)
    (hbody : ∀ (l : Nat) (pre : List (Int × Int)) (x : Int × Int) (a₁ : Act) (W : World), pre ++ [x] <+: slicedL cs off m → (0 ≤ x.1 ∧ x.1 ≤ 1099511631872) → (1 ≤ x.2 ∧ x.2 ≤ 4096) → w.heap.size + 3 ≤ W.heap.size → Ax pre x a₁ W →
      body.wpIn (Fence.wide.inRound l) 3 Try.prog (ownPostK (KeepS w.heap.size (w.heap.size + 2) (w.heap.size + 1) A) I Ix (pre ++ [x]) W) a₁ W)
    (hdone : ∀ (D : Nat) (W : World), w.heap.size + 3 ≤ D → I (slicedL cs off m) W → W.heap[D]? = some (.deferred (some [])) → Q .normal { a with defers := { target := .collected D, args := #[] } :: a.defers } W)
    (hstop : ∀ (D : Nat) (c : Code) (pre : List (Int × Int)) (W : World), w.heap.size + 3 ≤ D → pre <+: slicedL cs off m → Ix c pre W → W.heap[D]? = some (.deferred (some [])) → c.wpIn Fence.wide 5 Try.prog Q { a with defers := { target := .collected D, args := #[] } :: a.defers } W) :
    (Code.rangeFunc g ps assign body).wpIn Fence.wide 5 Try.prog Q a (slW w A cs.length cap off m) := by
  have hbs := slW_below w A cs.length cap off m
  have hss := slW_size w A cs.length cap off m
  refine wpIn_rangeFunc_B (α := Int × Int) rfl (by omega) (gf := 43) hg trivial (enters_of Try.func43 (by kernel_rfl) rfl) (sliced_seq 4 (by omega) A cap cs off m w hp hA hok hoff hm hlen) (fun h k => h.trans k)
    (fun W l o o' h _ _ _ => keepS_put (by omega) (by omega) (by omega) (fun ad e => by have := hA ad e; omega)) (Below.refl _ _) (by intro k hk; omega) (fun _ => hps.symm)
    (fun pre W => I pre W ∧ w.heap.size + 3 ≤ W.heap.size) Ix
    (fun s A B row hs hg hr => ⟨hI s A B hs.1 (Turn.of_own hg (by rw [hss] at hr; exact hr)), Nat.le_trans hs.2 hg.size⟩)
    (fun s A B hs hb => ⟨hI s A B hs.1 (Turn.of_but hb), Nat.le_trans hs.2 hb.size⟩)
    (fun c s A B row hs hg hr => hIx c s A B hs (Turn.of_own hg (by rw [hss] at hr; exact hr)))
    ⟨h0, by omega⟩
    (fun pre x a₁ W => Ax pre x a₁ W ∧ w.heap.size + 3 ≤ W.heap.size)
    (fun pre x a₁ s A B row hs hg hr => ⟨hAx pre x a₁ A B hs.1 (Turn.of_own hg (by rw [hss] at hr; exact hr)), Nat.le_trans hs.2 hg.size⟩)
    ?assign ?body ?done ?stop
  case assign =>
    intro l pre x W K hi hal hK
    refine hassign l pre x W K hi.1 hi.2 (fun a₁ W₁ h1 h2 h3 => hK a₁ W₁ h1 ?_ ⟨h3, Nat.le_trans hi.2 h2.size⟩)
    exact keepS_below h2 (by omega) (by omega) (by omega) (fun ad e => by have := hA ad e; omega)
  case body =>
    intro l pre x a₁ W hal hax
    have hb := sl_bd hok hoff.1 hal
    refine wpIn_mono (hbody l pre x a₁ W hal hb.1 hb.2 hax.2 hax.1) ?_
    intro e a3 W3 h
    cases e with
    | normal => exact ⟨h.1, h.2.1, h.2.2, Nat.le_trans hax.2 h.1.size⟩
    | ret => exact h
    | exit id => exact h
    | goto t => exact h
    | panic c => exact h
    | outgrown => exact h
  case done =>
    rintro D xs W hD rfl hi hk
    exact hdone D W (by omega) hi.1 hk
  case stop =>
    intro D c pre W hD hpre hi hk
    exact hstop D c pre W (by omega) hpre hi hk
end Go.Proofs.Ytbojagkalbfenaa
