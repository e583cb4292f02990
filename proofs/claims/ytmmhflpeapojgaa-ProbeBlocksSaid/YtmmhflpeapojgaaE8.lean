import Derived.Test.YtmmhflpeapojgaaE7
import Derived.RangeFuncFrom
namespace Go.Proofs.Ytmmhflpeapojgaa
set_option linter.unusedVariables false
set_option linter.unusedSimpArgs false
open Go.RowKit Ieee Go.Shelf
attribute [local go_sem] Oper.semAt_some ints_get ints_size ints_getElem
def rowsP (l : List Nat) (pre : List Nat) : List Value := pre.flatMap fun b => fd (pw l b)
theorem rowsP_snoc (l pre : List Nat) (x : Nat) : rowsP l (pre ++ [x]) = rowsP l pre ++ fd (pw l x) := by simp [rowsP]
/-- What holds between two rounds. -/
def PI (l : List Nat) (w : World) (pre : List Nat) (W : World) : Prop :=
  ((w.heap.size + 3 ≤ W.heap.size ∧ ∀ x ∈ pre, 4 * x + 4 ≤ l.length) ∧ ∃ v, Boxed W w.heap.size 40 v ∧ W.ownsRow (w.heap.size + 3) 44 4 v pre.length (rowsP l pre) ∧ True) ∧ Below w.heap.size w W
theorem PI.own (l : List Nat) (w : World) (B : Nat) (hB : w.heap.size ≤ B) : OwnFrom B (PI l w) :=
  OwnFrom.and (OwnFrom.and (OwnFrom.and (fun s W W' row hs hg hr => Nat.le_trans hs hg.size) (ownFrom_pure B fun pre => ∀ x ∈ pre, 4 * x + 4 ≤ l.length)) (Own.from (holdsRow_own (w.heap.size + 3) w.heap.size 40 44 4 (fun pre : List Nat => pre.length) (fun pre => rowsP l pre) (fun _ _ => True)) B)) (ownFrom_below (Nat.le_refl _) hB)
theorem add_plus (p : Addr) (a b : Nat) : (p.add a).add b = p.add (a + b) := by
  simp only [Addr.add]
  split <;> split <;> (try split) <;> simp_all <;> omega
theorem run_arrayAt (a : Addr) (W : World) : (Instr.arrayAt 69 (.slice (some a) 4 4)).run Try.prog W = .ok (.pointer (some a)) W := by
  simp [Instr.arrayAt, run_underlying Try.underlying69]
theorem wpListIn_load_cells {F : Fence} {n : Nat} {P : Program} {ops : Array Oper} {rest : List Oper} {o : Oper} {a : Act} {w : World} {Q : Exit → Act → World → Prop} (hgd : o.guard = none) (ty : TypeId) (x : Operand) (ho : o.op = .load ty x)
    (ad : Addr) (hx : a.eval x = .pointer (some ad)) (cs : Array Value) (d : TypeDesc) (hc : ∀ j v, cs[j]? = some v → w.cell? (ad.add j) = some v)
    (hu : P.underlying ty = some d) (hd : (match d with | .struct _ | .array _ _ => true | _ => false) = true) {m : Nat} (hi : (P.info? ty).map (·.size) = some m) (hn : cs.size = m)
    (h : wpListIn F n P ops Q rest (a.put o.dst (.agg cs)) w) : wpListIn F n P ops Q (o :: rest) a w := by
  refine wpListIn_plain hgd fun K hK => ?_
  have h1 := hK _ _ h
  unfold Oper.wpIn
  refine ⟨?_, ?_⟩
  · simp [Oper.about, ho]
  · rw [Oper.semAt_plain F _ _ (by rw [ho]; intro c hc'; cases hc')]
    simp only [execOp, ho, hx, Instr.loadAt, Instr.sureAddr, Sem.run_bind, Sem.run_pure, Result.andThen_ok, run_loadVar_cells w ad ty cs d hc hu hd hi hn]
    exact h1
@[local go_sem] theorem ix69_0 (f0 f1 f2 f3 : Nat) (W : World) : (Instr.index 69 (.agg #[.float .f32 f0, .float .f32 f1, .float .f32 f2, .float .f32 f3]) (.int .i64 0)).run Try.prog W = .ok (.float .f32 f0) W := run_index_one W 69 27 4 _ _ _ 0 rfl (by omega) rfl Try.underlying69 Try.underlying27 rfl (by kernel_rfl)
@[local go_sem] theorem ix54_0 (a0 b0 a1 b1 a2 b2 a3 b3 : Nat) (W : World) : (Instr.index 54 (.agg #[.complex .f32 a0 b0, .complex .f32 a1 b1, .complex .f32 a2 b2, .complex .f32 a3 b3]) (.int .i64 0)).run Try.prog W = .ok (.complex .f32 a0 b0) W := run_index_one W 54 53 4 _ _ _ 0 rfl (by omega) rfl Try.underlying54 Try.underlying53 rfl (by kernel_rfl)
@[local go_sem] theorem ix69_1 (f0 f1 f2 f3 : Nat) (W : World) : (Instr.index 69 (.agg #[.float .f32 f0, .float .f32 f1, .float .f32 f2, .float .f32 f3]) (.int .i64 1)).run Try.prog W = .ok (.float .f32 f1) W := run_index_one W 69 27 4 _ _ _ 1 rfl (by omega) rfl Try.underlying69 Try.underlying27 rfl (by kernel_rfl)
@[local go_sem] theorem ix54_1 (a0 b0 a1 b1 a2 b2 a3 b3 : Nat) (W : World) : (Instr.index 54 (.agg #[.complex .f32 a0 b0, .complex .f32 a1 b1, .complex .f32 a2 b2, .complex .f32 a3 b3]) (.int .i64 1)).run Try.prog W = .ok (.complex .f32 a1 b1) W := run_index_one W 54 53 4 _ _ _ 1 rfl (by omega) rfl Try.underlying54 Try.underlying53 rfl (by kernel_rfl)
@[local go_sem] theorem ix69_2 (f0 f1 f2 f3 : Nat) (W : World) : (Instr.index 69 (.agg #[.float .f32 f0, .float .f32 f1, .float .f32 f2, .float .f32 f3]) (.int .i64 2)).run Try.prog W = .ok (.float .f32 f2) W := run_index_one W 69 27 4 _ _ _ 2 rfl (by omega) rfl Try.underlying69 Try.underlying27 rfl (by kernel_rfl)
@[local go_sem] theorem ix54_2 (a0 b0 a1 b1 a2 b2 a3 b3 : Nat) (W : World) : (Instr.index 54 (.agg #[.complex .f32 a0 b0, .complex .f32 a1 b1, .complex .f32 a2 b2, .complex .f32 a3 b3]) (.int .i64 2)).run Try.prog W = .ok (.complex .f32 a2 b2) W := run_index_one W 54 53 4 _ _ _ 2 rfl (by omega) rfl Try.underlying54 Try.underlying53 rfl (by kernel_rfl)
@[local go_sem] theorem ix69_3 (f0 f1 f2 f3 : Nat) (W : World) : (Instr.index 69 (.agg #[.float .f32 f0, .float .f32 f1, .float .f32 f2, .float .f32 f3]) (.int .i64 3)).run Try.prog W = .ok (.float .f32 f3) W := run_index_one W 69 27 4 _ _ _ 3 rfl (by omega) rfl Try.underlying69 Try.underlying27 rfl (by kernel_rfl)
@[local go_sem] theorem ix54_3 (a0 b0 a1 b1 a2 b2 a3 b3 : Nat) (W : World) : (Instr.index 54 (.agg #[.complex .f32 a0 b0, .complex .f32 a1 b1, .complex .f32 a2 b2, .complex .f32 a3 b3]) (.int .i64 3)).run Try.prog W = .ok (.complex .f32 a3 b3) W := run_index_one W 54 53 4 _ _ _ 3 rfl (by omega) rfl Try.underlying54 Try.underlying53 rfl (by kernel_rfl)
theorem cx_four (g : Nat → Nat × Nat) : cx ((List.range 4).map g) = #[.complex .f32 (g 0).1 (g 0).2, .complex .f32 (g 1).1 (g 1).2, .complex .f32 (g 2).1 (g 2).2, .complex .f32 (g 3).1 (g 3).2] := rfl
theorem gzero : G fmt 0 0 := by have := G_F fmt_fine (n := 0) (small_of (by omega)); rwa [F_zero] at this
theorem turns_blk (l : List Nat) (x : Nat) (ha : l.all sampleB = true) (hlt : ∀ y ∈ l, y < 4294967296) (hx : 4 * x + 4 ≤ l.length) (W : World) :
    Calls Try.prog 29 #[.agg #[.complex .f32 (l.getD (4 * x) 0) 0, .complex .f32 (l.getD (4 * x + 1) 0) 0, .complex .f32 (l.getD (4 * x + 2) 0) 0, .complex .f32 (l.getD (4 * x + 3) 0) 0], .int .i64 (-1)] W fun e w' =>
      e = .returned (.agg #[.complex .f32 (F fmt (pre (blk l x) 0 4).1) (F fmt (pre (blk l x) 0 4).2), .complex .f32 (F fmt (pre (blk l x) 1 4).1) (F fmt (pre (blk l x) 1 4).2), .complex .f32 (F fmt (pre (blk l x) 2 4).1) (F fmt (pre (blk l x) 2 4).2), .complex .f32 (F fmt (pre (blk l x) 3 4).1) (F fmt (pre (blk l x) 3 4).2)]) ∧ Below W.heap.size W w' := by
  have hg : ∀ i, i < l.length → GP (l.getD i 0, 0) (nm l i, 0) := fun i hi => by
    have hm : l.getD i 0 ∈ l := by rw [List.getD_eq_getElem?_getD, List.getElem?_eq_getElem hi]; exact List.getElem_mem hi
    exact ⟨sample_G (List.all_eq_true.1 ha _ hm) (hlt _ hm), gzero⟩
  have h := turns_calls [(l.getD (4 * x) 0, 0), (l.getD (4 * x + 1) 0, 0), (l.getD (4 * x + 2) 0, 0), (l.getD (4 * x + 3) 0, 0)] (blk l x) rfl rfl (fun i hi => by
    match i, hi with
    | 0, _ => exact hg _ (by omega)
    | 1, _ => exact hg _ (by omega)
    | 2, _ => exact hg _ (by omega)
    | 3, _ => exact hg _ (by omega)) (blk_bound ha hx) W
  unfold outT at h
  rw [cx_four] at h
  exact h
theorem dmul {x y r : Nat} (h : fmtD.mul x y = some r) (W : World) : (binOp .mul 43 (.float .f64 x) (.float .f64 y)).run Try.prog W = .ok (.float .f64 r) W := by
  have := run_floatArith (P := Try.prog) (w := W) (op := .mul) (k := .f64) (x := x) (y := y) (r := r) (by unfold floatBits; exact h)
  simpa [binOp] using this
theorem dadd {x y r : Nat} (h : fmtD.add x y = some r) (W : World) : (binOp .add 43 (.float .f64 x) (.float .f64 y)).run Try.prog W = .ok (.float .f64 r) W := by
  have := run_floatArith (P := Try.prog) (w := W) (op := .add) (k := .f64) (x := x) (y := y) (r := r) (by unfold floatBits; exact h)
  simpa [binOp] using this
theorem out_appended {W w1 : World} {s B : Nat} {t e : TypeId} {size : Nat} {v v' : Value} {k m : Nat} {xs ys : List Value} (hv : Boxed W B t v) (hte : t ≠ e) (hrow : W.ownsRow s e size v k xs) (hB : B < s) (hs : s ≤ W.heap.size)
    (hown' : w1.ownsRow s e size v' m ys) (hgrow : W.grownBy w1 v.ownBlock) :
    Boxed w1 B t v ∧ Boxed (w1.setCell ⟨B, 0, none⟩ v') B t v' ∧ (w1.setCell ⟨B, 0, none⟩ v').ownsRow s e size v' m ys ∧ Below B W (w1.setCell ⟨B, 0, none⟩ v') ∧ (∀ j, j < s → j ≠ B → (w1.setCell ⟨B, 0, none⟩ v').heap[j]? = W.heap[j]?) ∧ KeepsOthers W (w1.setCell ⟨B, 0, none⟩ v') := by
  have hv1 : Boxed w1 B t v := hv.kept hgrow (hv.not_row hte hrow)
  have hg : ∀ j, v.ownBlock = some j → s ≤ j := by
    intro j ej
    rcases hrow.2 with ⟨rfl, _⟩ | ⟨g, cap, cur, rfl, hb, _, _⟩
    · simp [Value.ownBlock] at ej
    · obtain rfl : g = j := by simpa [Value.ownBlock] using ej
      exact hb
  refine ⟨hv1, hv1.set v', hown'.kept (grownBy_setCell' w1 B v') (.inr (hv1.not_row hte hown').symm), ?_, ?_, ?_⟩
  · exact ((Below.refl B W).grown hgrow (by omega) (fun j ej => by have := hg j ej; omega)).setCell (p := ⟨B, 0, none⟩) (Nat.le_refl _) v'
  · intro j hj hjB
    rw [Below.heap_setCell _ _ _ _ hjB]
    exact hgrow.block j (by omega) (fun e' => by have := hg j e'.symm; omega)
  · refine (KeepsOthers.of_grownBy hgrow fun j o ej hj => ?_).trans (KeepsOthers.setCell _ _ _)
    rcases hrow.2 with ⟨rfl, _⟩ | ⟨g, cap, cur, rfl, _, hgb, _⟩
    · simp [Value.ownBlock] at ej
    · obtain rfl : g = j := by simpa [Value.ownBlock] using ej
      rw [hgb] at hj; cases hj; rfl
theorem keeps_below {W W' : World} (h : Below W.heap.size W W') : KeepsOthers W W' := ⟨h.size, fun k o hk _ => (h.block k (Array.getElem?_eq_some_iff.1 hk).1).trans hk⟩
theorem results_tmp2 {fn : Func} {p q : Tmp} (h : fn.results = #[.tmp p, .tmp q]) (tmps : Array Value) (P : Program) (w : World) : (results fn tmps).run P w = .ok (.tuple #[tmps.getD p undef, tmps.getD q undef]) w := by
  simp [results, h]
theorem PPost.leave {l : List Nat} {w W : World} {v : Value} {D m : Nat} {ds : List Deferred} (hs : scode l = 0) (hK : W.heap[D]? = some (.deferred (some ds))) (hD : m ≤ D) (hm : w.heap.size ≤ m) (hrow : W.ownsRow (w.heap.size + 3) 44 4 v (np l) (rowsP l (List.range (np l)))) (hB : Below w.heap.size w W) :
    PPost l w (.returned (.tuple #[v, .int .i64 0])) (W.putObj D (.deferred none)) :=
  ⟨v, by rw [hs], own_mono (ownsRow_putObj hrow _ hK rfl) (by omega), hB.trans (belowK_b (w := w) (Nat.le_refl _) W D _ _ (by omega) hK rfl rfl)⟩
set_option maxRecDepth 100000 in
set_option maxHeartbeats 4000000 in
theorem powers_good (A : Option Addr) (c : Nat) (l : List Nat) (w : World) (hC : FC w A l) (hlt : ∀ x ∈ l, x < 4294967296) (hs : scode l = 0) (hcap : l.length ≤ c) (hcap2 : c ≤ 9223372036854775807) :
    Calls Try.prog 12 #[.slice A l.length c] w fun e w' => PPost l w e w' := by
  obtain ⟨hl, ha⟩ := scode_good hs
  have HC := Lib.hid hC
  have HS := Lib.hid hs
  have HNP : Hid (np l = l.length / 4) := Lib.hid (by unfold np; rw [if_pos hs])
  have HBB : Hid (∀ b, 4 * b + 4 ≤ l.length → ∀ p ∈ blk l b, Bd 10000 p) := Lib.hid (fun b hb => blk_bound ha hb)
  have HG := Lib.hid (And.intro ha hlt)
  clear hC hs ha hlt
  refine (callsIn_wide (n := 5)).1 ?_
  refine callsIn_of_wp_marks Try.func12 rfl trivial ?_ rfl
  simp only [Try.ntmps12, List.size_toArray, List.length_cons, List.length_nil, Nat.reduceAdd, Nat.reduceSub, Array.replicate_succ, Array.replicate_zero, List.push_toArray, List.append_toArray, List.nil_append, List.cons_append]
  gi_wp2_with (refine ⟨trivial, ?_⟩; first
    | (gi_at_call 18; refine (callsIn_wide.2 (samples_calls A c l _ (by omega) HC.out)).mono ?_; rw [HS.out]; rintro e w' ⟨rfl, rfl⟩)
    | (gi_at_call 28; refine (callsIn_wide.2 (chunk_calls A l.length c _)).mono ?_; rintro e w' ⟨rfl, rfl⟩))
  obtain ⟨ad, hA⟩ : ∃ ad, 0 < l.length → A = some ad := by
    by_cases h0 : 0 < l.length
    · obtain ⟨ad, h, _⟩ := HC.out 0 h0
      exact ⟨ad, fun _ => h⟩
    · exact ⟨⟨0, 0, none⟩, fun h => absurd h h0⟩
  obtain ⟨k1, k2, k3⟩ := heap3 w (.cells #[.slice none 0 0] 40) (.cells #[.slice A l.length c] 22) (.cells #[.int .i64 4] 3)
  obtain ⟨W0, hW0⟩ : ∃ W0, ((w.alloc (.cells #[.slice none 0 0] 40)).alloc (.cells #[.slice A l.length c] 22)).alloc (.cells #[.int .i64 4] 3) = W0 := ⟨_, rfl⟩
  have hsz : W0.heap.size = w.heap.size + 1 + 1 + 1 := by rw [← hW0]; simp
  have hb0 : Below w.heap.size w W0 := by rw [← hW0]; exact (((Below.refl _ _).alloc (Nat.le_refl _) _).alloc (by simp) _).alloc (by simp; omega) _
  rw [hW0] at k1 k2 k3 ⊢
  have HA := Lib.hid hA
  clear hA
  refine wpIn_rangeFunc_ownF rfl (by omega) (gf := 38) (lb := #[.pointer (some ⟨w.heap.size + 1, 0, none⟩), .pointer (some ⟨w.heap.size + 1 + 1, 0, none⟩)]) rfl trivial (enters_of Try.func38 (by kernel_rfl) rfl)
    (chunk_stops 4 (by omega) (w.heap.size + 1) (w.heap.size + 1 + 1) A ad l.length c HA.out hl hcap hcap2 W0 (cells_of_heap k1 0 _ rfl) (cells_of_heap k2 0 _ rfl) (by omega) (by omega))
    KB.trans (KB.put (by omega) (by omega)) (Below.refl _ _) (fun _ => rfl)
    (PI l w) (fun c' pre W => c' = .exit 0 ∧ ∃ pre0 x, pre = pre0 ++ [x] ∧ ¬ 4 * x + 4 ≤ l.length ∧ PI l w pre0 W)
    (PI.own l w _ (by omega)) (fun c s W W' row hs hg hr => by obtain ⟨h0, p0, x, h1, h2, h3⟩ := hs; exact ⟨h0, p0, x, h1, h2, PI.own l w _ (by omega) p0 W W' row h3 hg hr⟩)
    ⟨⟨⟨by omega, by simp⟩, _, k3, ⟨rfl, .inl ⟨rfl, rfl⟩⟩, trivial⟩, hb0⟩
    (fun x => { tmps := #[.slice A l.length c, undef, .slice none 0 0, .int .i64 0, .int .i64 0, .pointer (some ⟨w.heap.size, 0, none⟩), chunkV ad l.length x, undef, undef, undef, undef, undef, undef, undef, undef, undef, .slice A l.length c, .int .i64 0, .int .i64 0, .bool false, undef, .slice A l.length c, .func (.func 38) #[] #[.pointer (some ⟨w.heap.size + 1, 0, none⟩), .pointer (some ⟨w.heap.size + 1 + 1, 0, none⟩)], chunkV ad l.length x, undef, undef, undef, undef, undef, undef, undef, undef, undef, undef, undef, undef, undef, undef, undef, undef, undef, undef, undef, undef, undef, undef, undef, undef, undef, undef, undef, undef, undef, undef, undef, undef, undef, undef, undef, undef, undef, undef, undef, undef, undef, undef, undef], defers := [] }) ?assign ?body ?done ?stop
  case assign =>
    intro l x W K hK
    gi_wp2
    exact hK
  case body =>
    rintro r bs x W hI hlen
    by_cases hx : 4 * x + 4 ≤ l.length
    · have hr : min 4 (l.length - 4 * x) = 4 := by omega
      have hA1 := HA.out (by omega)
      have hFC := HC.out.below hI.2
      have hcs : ∀ j, j < 4 → W.cell? (ad.add (4 * x + j)) = some (.float .f32 (l.getD (4 * x + j) 0)) := fun j hj => by
        obtain ⟨ad', e, h⟩ := hFC (4 * x + j) (by omega)
        rw [hA1] at e
        cases e
        exact h
      have HQ : Hid (∀ j v, (#[.float .f32 (l.getD (4 * x) 0), .float .f32 (l.getD (4 * x + 1) 0), .float .f32 (l.getD (4 * x + 2) 0), .float .f32 (l.getD (4 * x + 3) 0)] : Array Value)[j]? = some v → W.cell? ((ad.add (4 * x)).add j) = some v) := Lib.hid (by
        intro j v hv
        rw [add_plus]
        match j, hv with
        | 0, hv => rw [hcs 0 (by omega)]; exact hv
        | 1, hv => rw [hcs 1 (by omega)]; exact hv
        | 2, hv => rw [hcs 2 (by omega)]; exact hv
        | 3, hv => rw [hcs 3 (by omega)]; exact hv
        | j + 4, hv => simp at hv)
      unfold chunkV
      rw [hr]
      clear hcs hFC
      have harr := run_arrayAt (ad.add (4 * x)) W
      have HT : Hid (∀ W', _) := Lib.hid (turns_blk l x HG.out.1 HG.out.2 hx)
      have HBK := Lib.hid (HBB.out x hx)
      have hpr : ∀ k, Bd 40000 (pre (blk l x) k 4) := fun k => by have := pre_bound HBK.out (by omega) k 4; simpa [Bd] using this
      obtain ⟨u0, v0, uu0, vv0, hu0, hv0, huu0, hvv0, hs0⟩ := sqD (hpr 0)
      have hpw0 : F fmtD (sq (pre (blk l x) 0 4)) = pwF l x 0 := rfl
      rw [hpw0] at hs0
      clear hpw0
      have hcu0 := fun W' => run_convert_float_float (P := Try.prog) (w := W') 27 43 .f32 .f64 _ _ rfl Try.underlying43 hu0
      have hcv0 := fun W' => run_convert_float_float (P := Try.prog) (w := W') 27 43 .f32 .f64 _ _ rfl Try.underlying43 hv0
      obtain ⟨u1, v1, uu1, vv1, hu1, hv1, huu1, hvv1, hs1⟩ := sqD (hpr 1)
      have hpw1 : F fmtD (sq (pre (blk l x) 1 4)) = pwF l x 1 := rfl
      rw [hpw1] at hs1
      clear hpw1
      have hcu1 := fun W' => run_convert_float_float (P := Try.prog) (w := W') 27 43 .f32 .f64 _ _ rfl Try.underlying43 hu1
      have hcv1 := fun W' => run_convert_float_float (P := Try.prog) (w := W') 27 43 .f32 .f64 _ _ rfl Try.underlying43 hv1
      obtain ⟨u2, v2, uu2, vv2, hu2, hv2, huu2, hvv2, hs2⟩ := sqD (hpr 2)
      have hpw2 : F fmtD (sq (pre (blk l x) 2 4)) = pwF l x 2 := rfl
      rw [hpw2] at hs2
      clear hpw2
      have hcu2 := fun W' => run_convert_float_float (P := Try.prog) (w := W') 27 43 .f32 .f64 _ _ rfl Try.underlying43 hu2
      have hcv2 := fun W' => run_convert_float_float (P := Try.prog) (w := W') 27 43 .f32 .f64 _ _ rfl Try.underlying43 hv2
      obtain ⟨u3, v3, uu3, vv3, hu3, hv3, huu3, hvv3, hs3⟩ := sqD (hpr 3)
      have hpw3 : F fmtD (sq (pre (blk l x) 3 4)) = pwF l x 3 := rfl
      rw [hpw3] at hs3
      clear hpw3
      have hcu3 := fun W' => run_convert_float_float (P := Try.prog) (w := W') 27 43 .f32 .f64 _ _ rfl Try.underlying43 hu3
      have hcv3 := fun W' => run_convert_float_float (P := Try.prog) (w := W') 27 43 .f32 .f64 _ _ rfl Try.underlying43 hv3
      have HPW : Hid (fd (pw l x) = [.float .f64 (pwF l x 0), .float .f64 (pwF l x 1), .float .f64 (pwF l x 2), .float .f64 (pwF l x 3)]) := Lib.hid (by unfold fd pw; rfl)
      generalize pwF l x 0 = p0 at *
      generalize F fmt (pre (blk l x) 0 4).1 = a0 at *
      generalize F fmt (pre (blk l x) 0 4).2 = b0 at *
      generalize pwF l x 1 = p1 at *
      generalize F fmt (pre (blk l x) 1 4).1 = a1 at *
      generalize F fmt (pre (blk l x) 1 4).2 = b1 at *
      generalize pwF l x 2 = p2 at *
      generalize F fmt (pre (blk l x) 2 4).1 = a2 at *
      generalize F fmt (pre (blk l x) 2 4).2 = b2 at *
      generalize pwF l x 3 = p3 at *
      generalize F fmt (pre (blk l x) 3 4).1 = a3 at *
      generalize F fmt (pre (blk l x) 3 4).2 = b3 at *
      have hmu0 := dmul huu0
      have hmv0 := dmul hvv0
      have had0 := dadd hs0
      have hmu1 := dmul huu1
      have hmv1 := dmul hvv1
      have had1 := dadd hs1
      have hmu2 := dmul huu2
      have hmv2 := dmul hvv2
      have had2 := dadd hs2
      have hmu3 := dmul huu3
      have hmv3 := dmul hvv3
      have had3 := dadd hs3
      clear huu0 huu1 huu2 huu3 hvv0 hvv1 hvv2 hvv3 hs0 hs1 hs2 hs3
      clear hpr hu0 hu1 hu2 hu3 hv0 hv1 hv2 hv3
      generalize l.getD (4 * x) 0 = f0 at *
      generalize l.getD (4 * x + 1) 0 = f1 at *
      generalize l.getD (4 * x + 2) 0 = f2 at *
      generalize l.getD (4 * x + 3) 0 = f3 at *
      gi_wp2_with ((with_reducible change wpListIn _ _ _ _ _ (⟨_, .load 69 (.tmp 28), _, _, _, _⟩ :: _) _ _); refine wpListIn_load_cells rfl 69 (.tmp 28) rfl (ad.add (4 * x)) rfl #[.float .f32 f0, .float .f32 f1, .float .f32 f2, .float .f32 f3] _ HQ.out Try.underlying69 rfl (by kernel_rfl) rfl ?_)
      refine wpIn_loop_rounds 5 ?_
      rw [roundsIn_succ]; gi_wp2
      rw [roundsIn_succ]; gi_wp2
      rw [roundsIn_succ]; gi_wp2
      rw [roundsIn_succ]; gi_wp2
      rw [roundsIn_succ]; gi_wp2_with (refine ⟨trivial, ?_⟩; gi_at_call 29; refine (CallsIn.inRound r (callsIn_wide.2 (HT.out _))).mono ?_; intro e w1 hp; obtain ⟨rfl, hd⟩ := hp; have HRW := Lib.hid (heap_kept (heap3 W _ _ _).2.1 hd); have HBW := Lib.hid (below_then' ((((Below.refl W.heap.size W).alloc (Nat.le_refl _) _).alloc (by simp) _).alloc (by simp; omega) _) hd); clear hd)
      have z0 : w1.cell? ⟨W.heap.size + 1 + 1, 0, none⟩ = some (.float .f64 0) := by rw [cell_of_row _ _ _ _ _ _ HRW.out]; rfl
      have z1 : w1.cell? ⟨W.heap.size + 1 + 1, 1, none⟩ = some (.float .f64 0) := by rw [cell_of_row _ _ _ _ _ _ HRW.out]; rfl
      have z2 : w1.cell? ⟨W.heap.size + 1 + 1, 2, none⟩ = some (.float .f64 0) := by rw [cell_of_row _ _ _ _ _ _ HRW.out]; rfl
      have z3 : w1.cell? ⟨W.heap.size + 1 + 1, 3, none⟩ = some (.float .f64 0) := by rw [cell_of_row _ _ _ _ _ _ HRW.out]; rfl
      have y0 : w1.frozen? ⟨W.heap.size + 1 + 1, 0, none⟩ = false := by simp [World.frozen?, HRW.out]
      have y1 : w1.frozen? ⟨W.heap.size + 1 + 1, 1, none⟩ = false := by simp [World.frozen?, HRW.out]
      have y2 : w1.frozen? ⟨W.heap.size + 1 + 1, 2, none⟩ = false := by simp [World.frozen?, HRW.out]
      have y3 : w1.frozen? ⟨W.heap.size + 1 + 1, 3, none⟩ = false := by simp [World.frozen?, HRW.out]
      refine wpIn_loop_rounds 5 ?_
      rw [roundsIn_succ]; gi_wp2
      rw [roundsIn_succ]; gi_wp2
      rw [roundsIn_succ]; gi_wp2
      rw [roundsIn_succ]; gi_wp2
      obtain ⟨⟨⟨hz, hf⟩, v, hv, hrow, -⟩, hB⟩ := hI
      obtain ⟨W2, hW2⟩ : ∃ W2, ((((w1.setCell ⟨W.heap.size + 1 + 1, 0, none⟩ (.float .f64 p0)).setCell ⟨W.heap.size + 1 + 1, 1, none⟩ (.float .f64 p1)).setCell ⟨W.heap.size + 1 + 1, 2, none⟩ (.float .f64 p2)).setCell ⟨W.heap.size + 1 + 1, 3, none⟩ (.float .f64 p3)) = W2 := ⟨_, rfl⟩
      have hrow2 : W2.heap[W.heap.size + 1 + 1]? = some (.cells #[.float .f64 p0, .float .f64 p1, .float .f64 p2, .float .f64 p3] 44 (0, 0)) := by
        rw [← hW2]; simp [World.setCell, Array.getElem?_modify, HRW.out]
      have hB2 : Below W.heap.size W W2 := by
        rw [← hW2]
        exact (((HBW.out.setCell (by simp; omega) _).setCell (by simp; omega) _).setCell (by simp; omega) _).setCell (by simp; omega) _
      rw [hW2]
      have hbox : Boxed W2 w.heap.size 40 v := (hB2.block _ hv.lt).trans hv
      have hown := owns_below hrow hB2
      have hcb := hbox.cell
      have hfb := hbox.frozen
      have HCL := Lib.hid (cells_of_heap hrow2)
      have HK2 := Lib.hid (keeps_below hB2)
      obtain ⟨i0, hi0, hz0, hz1, hz2⟩ := info_parts (P := Try.prog) info44
      have HCN : Hid (∀ j u, ([.float .f64 p0, .float .f64 p1, .float .f64 p2, .float .f64 p3] : List Value)[j]? = some u → (W2.alloc (.cells #[.float .f64 p0, .float .f64 p1, .float .f64 p2, .float .f64 p3] 44)).cell? ((⟨W2.heap.size, 0, none⟩ : Addr).add j) = some u) := Lib.hid (fun j u hj => cells_of_heap (heap_alloc_new W2 (.cells #[.float .f64 p0, .float .f64 p1, .float .f64 p2, .float .f64 p3] 44)) j u (by simpa using hj))
      have hz2' := hB2.size
      clear hW2 hrow2
      rw [roundsIn_succ]; gi_wp2_with (first
        | ((with_reducible change wpListIn _ _ _ _ _ (⟨_, .load 44 (.tmp 11), _, _, _, _⟩ :: _) _ _); refine wpListIn_load_cells rfl 44 (.tmp 11) rfl ⟨W.heap.size + 1 + 1, 0, none⟩ rfl #[.float .f64 p0, .float .f64 p1, .float .f64 p2, .float .f64 p3] _ HCL.out Try.underlying44 rfl (by kernel_rfl) rfl ?_)
        | (gi_at_builtin; go_loud (refine wpListIn_append_own _ rfl (.tmp 62) (.tmp 64) 40 rfl (w.heap.size + 3) 44 i0 (.agg #[.float .f64 0, .float .f64 0, .float .f64 0, .float .f64 0]) 4 32 Try.underlying40 hi0 hz0 hz1 hz2 rfl (by decide) v bs.length (rowsP l bs) rfl (hown.alloc _) ⟨W2.heap.size, 0, none⟩ 1 1 [.float .f64 p0, .float .f64 p1, .float .f64 p2, .float .f64 p3] rfl rfl HCN.out ?a1 ?a2 ?a3 ?a4 ?a5)
           case a1 => intro u hu; simp at hu; rcases hu with rfl | rfl | rfl | rfl <;> rfl
           case a2 => simp only [maxLen]; omega
           case a3 => omega
           case a4 => simp; omega
           intro v' w3 hown3 hgrow3 _
           obtain ⟨g', cap', rfl⟩ := ownsRow_succ hown3
           obtain ⟨e1, e2, e3, e4, e5, e6⟩ := out_appended (hbox.alloc _) (by decide) (hown.alloc _) (by omega) (by simp; omega) hown3 hgrow3
           have hc7 := e1.cell
           have hf7 := e1.frozen
           have HE := Lib.hid (And.intro e2 (And.intro e3 (And.intro e4 (And.intro e5 e6))))
           clear e1 e2 e3 e4 e5 e6 hown3 hgrow3))
      obtain ⟨e2, e3, e4, e5, e6⟩ := HE.out
      have hbl : ∀ j, j < w.heap.size + 3 → j ≠ w.heap.size → _ = W.heap[j]? := fun j h1 h2 => (e5 j h1 h2).trans ((Below.heap_alloc W2 _ _ (by omega)).trans (hB2.block j (by omega)))
      refine ⟨HK2.out.trans ((KeepsOthers.alloc _ _).trans e6), ⟨hbl _ (by omega) (by omega), hbl _ (by omega) (by omega)⟩, ⟨⟨⟨?_, ?_⟩, _, e2, ?_, trivial⟩, ?_⟩⟩
      · have := e4.size; simp at this ⊢; omega
      · intro y hy
        rcases List.mem_append.1 hy with h | h
        · exact hf y h
        · obtain rfl : y = x := by simpa using h
          exact hx
      · rw [rowsP_snoc, HPW.out, List.length_append]; exact e3
      · exact ((below_then' hB hB2).alloc (by omega) _).trans e4
    · have hr : min 4 (l.length - 4 * x) < 4 := by omega
      obtain ⟨q, hq⟩ : ∃ q, min 4 (l.length - 4 * x) = q := ⟨_, rfl⟩
      have hq4 : (q : Int) < 4 := by omega
      unfold chunkV
      rw [hq]
      gi_wp2
      exact ⟨KeepsOthers.refl _, rfl, bs, x, rfl, hx, hI⟩
  case done =>
    rintro D ys W hD rfl ⟨⟨⟨hz, hf⟩, v, hv, hrow, -⟩, hB⟩ hK
    have hq : (l.length + 3) / 4 = np l := by
      rw [HNP.out]
      rcases Nat.eq_zero_or_pos ((l.length + 3) / 4) with h0 | h0
      · omega
      · have := hf ((l.length + 3) / 4 - 1) (by simp; omega)
        omega
    rw [hq] at hrow
    have hc := hv.cell
    rw [List.length_range] at hrow
    have HR := Lib.hid (PPost.leave HS.out hK hD (by omega) hrow hB)
    clear hrow
    gi_wp2
    refine ⟨by simp, .inl ⟨_, _, rfl, run_takeDeferred hK, ?_⟩⟩
    exact ⟨_, results_tmp2 (p := 2) (q := 3) rfl _ _ _, HR.out⟩
  case stop =>
    rintro D c' pre W hD ⟨k, hk, rfl⟩ ⟨rfl, p0, x, h1, h2, ⟨⟨⟨hz, hf⟩, v, hv, hrow, -⟩, hB⟩⟩ hK
    have hc := hv.cell
    obtain ⟨m, rfl⟩ : ∃ m, k = m + 1 := by
      rcases k with _ | m
      · simp at h1
      · exact ⟨m, rfl⟩
    rw [List.range_succ] at h1
    obtain ⟨e1, e2⟩ := List.append_inj' h1 rfl
    obtain rfl : m = x := by simpa using e2
    subst e1
    have hq : m = np l := by rw [HNP.out]; omega
    rw [List.length_range, hq] at hrow
    have HR := Lib.hid (PPost.leave HS.out hK hD (by omega) hrow hB)
    clear hrow
    gi_wp2
    refine ⟨by simp, .inl ⟨_, _, rfl, run_takeDeferred hK, ?_⟩⟩
    exact ⟨_, results_tmp2 (p := 2) (q := 3) rfl _ _ _, HR.out⟩
end Go.Proofs.Ytmmhflpeapojgaa
