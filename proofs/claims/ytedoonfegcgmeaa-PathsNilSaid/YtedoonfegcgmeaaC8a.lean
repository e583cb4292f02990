/- candidates, on a table of one mount. -/
import Derived.Test.YtedoonfegcgmeaaC7
import Derived.Test.YtedoonfegcgmeaaHd
namespace Go.Proofs.Ytedoonfegcgmeaa
open Go.RowKit
set_option linter.unusedVariables false
attribute [local go_sem] Oper.semAt_some
theorem run_store_fn {P : Program} {w : World} {a : Addr} {m : Mode} (f : Fn) (x y : Array Value) : (store a (.func f x y) m).run P w = stored P w a (.func f x y) m := run_store P w a _ m rfl
attribute [local go_sem] run_store_fn
/-- A table of one mount. -/
structure One (w : World) (base tb : Nat) (p0 : Bs) (o m : Int) (gg cap gb lb ib cap2 n : Nat) : Prop where
  tab : TabAt w tb (.slice (some ⟨gg, 0, none⟩) 1 cap) (.map (some gb)) (.map (some lb)) (.int .i64 1)
  row : w.ownsRow base 69 4 (.slice (some ⟨gg, 0, none⟩) 1 cap) 1 [str p0, .int .i64 o, .int .i64 m, .int .i64 1]
  ints : w.ownsRow base 3 1 (.slice (some ⟨ib, 0, none⟩) 1 cap2) 1 [.int .i64 1]
  grp : MapV w 9 gb n ((DataW.map []).put (.string p0) (.held (.slice (some ⟨ib, 0, none⟩) 1 cap2)))
theorem One.lt {w : World} {base tb : Nat} {p0 : Bs} {o m : Int} {gg cap gb lb ib cap2 n : Nat} (h : One w base tb p0 o m gg cap gb lb ib cap2 n) : tb < w.heap.size ∧ gg < w.heap.size ∧ gb < w.heap.size ∧ ib < w.heap.size := by
  refine ⟨h.tab.lt, ?_, h.grp.lt, ?_⟩
  · rcases h.row.2 with ⟨h0, _⟩ | ⟨g', cap', cur, hv, _, hh, _⟩
    · cases h0
    · cases hv; exact (Array.getElem?_eq_some_iff.1 hh).1
  · rcases h.ints.2 with ⟨h0, _⟩ | ⟨g', cap', cur, hv, _, hh, _⟩
    · cases h0
    · cases hv; exact (Array.getElem?_eq_some_iff.1 hh).1
theorem One.cells {w : World} {base tb : Nat} {p0 : Bs} {o m : Int} {gg cap gb lb ib cap2 n : Nat} (h : One w base tb p0 o m gg cap gb lb ib cap2 n) :
    w.cell? ⟨gg, 0, none⟩ = some (.string ⟨p0.toArray⟩) ∧ w.cell? ⟨gg, 1, none⟩ = some (.int .i64 o) ∧ w.cell? ⟨gg, 2, none⟩ = some (.int .i64 m) ∧ w.cell? ⟨gg, 3, none⟩ = some (.int .i64 1) ∧ w.cell? ⟨ib, 0, none⟩ = some (.int .i64 1) := by
  have h1 := fun k u hk => h.row.cells (g := gg) rfl k u hk
  have h2 := fun k u hk => h.ints.cells (g := ib) rfl k u hk
  refine ⟨?_, ?_, ?_, ?_, ?_⟩
  · simpa [Addr.add, str] using h1 0 _ rfl
  · simpa [Addr.add] using h1 1 _ rfl
  · simpa [Addr.add] using h1 2 _ rfl
  · simpa [Addr.add] using h1 3 _ rfl
  · simpa [Addr.add] using h2 0 _ rfl
theorem One.keep {w w' : World} {base tb : Nat} {p0 : Bs} {o m : Int} {gg cap gb lb ib cap2 n : Nat} (h : One w base tb p0 o m gg cap gb lb ib cap2 n) (hk : ∀ k, k < w.heap.size → w'.heap[k]? = w.heap[k]?) : One w' base tb p0 o m gg cap gb lb ib cap2 n := by
  have hrow : ∀ {e size cp : Nat} {g : Nat} {xs : List Value}, w.ownsRow base e size (.slice (some ⟨g, 0, none⟩) 1 cp) 1 xs → w'.ownsRow base e size (.slice (some ⟨g, 0, none⟩) 1 cp) 1 xs := by
    intro e size cp g xs h
    rcases h.2 with ⟨h0, _⟩ | ⟨g', cap', cur, hv, hb, hh, h3⟩
    · cases h0
    · cases hv
      exact ⟨h.1, .inr ⟨_, _, cur, rfl, hb, (hk _ (Array.getElem?_eq_some_iff.1 hh).1).trans hh, h3⟩⟩
  exact ⟨h.tab.heap (hk _ h.lt.1), hrow h.row, hrow h.ints, h.grp.heap (hk _ h.lt.2.2.1)⟩
/-- What candidates lays ahead of its loops. -/
structure CI (w : World) (tb : Nat) (q : Bs) (W : World) : Prop where
  b0 : Boxed W w.heap.size 30 (.pointer (some ⟨tb, 0, none⟩))
  b1 : Boxed W (w.heap.size + 1) 9 (str q)
  b3 : Boxed W (w.heap.size + 3) 93 (.map (some (w.heap.size + 2)))
  bel : Below w.heap.size w W
def D1 : DataW Value := (DataW.map []).put (.int .i64 1) (.held (.int .i64 0))
theorem CI.ext {w : World} {tb : Nat} {q : Bs} {W W' : World} (h : CI w tb q W) (hk : ∀ k, k < w.heap.size + 4 → k ≠ w.heap.size + 2 → W'.heap[k]? = W.heap[k]?) (hb : Below w.heap.size w W') : CI w tb q W' :=
  ⟨(hk _ (by omega) (by omega)).trans h.b0, (hk _ (by omega) (by omega)).trans h.b1, (hk _ (by omega) (by omega)).trans h.b3, hb⟩
/-- What candidates answers on a table of one mount. -/
def outL (p0 q : Bs) (m : Int) (pre : List (Int × Bs)) : List (Int × Bs) := (pre.filter fun x => x.2 == p0).map fun x => (m, (restS x.2 q).1)
def candV (l : List (Int × Bs)) : List Value := l.flatMap fun x => [.int .i64 x.1, .string ⟨x.2.toArray⟩]
theorem outL_snoc (p0 q : Bs) (m : Int) (pre : List (Int × Bs)) (x : Int × Bs) : outL p0 q m (pre ++ [x]) = outL p0 q m pre ++ (if x.2 = p0 then [(m, (restS x.2 q).1)] else []) := by
  unfold outL
  rw [List.filter_append, List.map_append]
  by_cases h : x.2 = p0
  · simp [h]
  · simp [h]
theorem candV_snoc (l : List (Int × Bs)) (y : Int × Bs) : candV (l ++ [y]) = candV l ++ [.int .i64 y.1, .string ⟨y.2.toArray⟩] := by simp [candV]
/-- What the loop in candidates keeps. -/
structure RI (w : World) (base tb : Nat) (p0 q : Bs) (o m : Int) (gg cap gb lb ib cap2 n B8 n0 : Nat) (l : List (Int × Bs)) (W : World) : Prop where
  ci : CI w tb q W
  mp : MapV W 3 (w.heap.size + 2) 1 D1
  one : One W base tb p0 o m gg cap gb lb ib cap2 n
  b8 : Boxed W B8 94 (.func (.func 53) #[] #[.pointer (some ⟨w.heap.size, 0, none⟩), .pointer (some ⟨w.heap.size + 3, 0, none⟩)])
  out : ∃ v, Boxed W (B8 + 1) 36 v ∧ W.ownsRow n0 51 2 v l.length (candV l)
theorem row1_turn {z base e size g cp : Nat} {xs : List Value} {A B : World} (t : ∀ b, Turn z b A B) (h : A.ownsRow base e size (.slice (some ⟨g, 0, none⟩) 1 cp) 1 xs) : B.ownsRow base e size (.slice (some ⟨g, 0, none⟩) 1 cp) 1 xs := by
  rcases h.2 with ⟨h0, _⟩ | ⟨g', cap', cur, hv, hb, hh, h3⟩
  · cases h0
  · cases hv
    exact ⟨h.1, .inr ⟨_, _, cur, rfl, hb, (t (g + 1)).cells hh (by omega), h3⟩⟩
theorem One.turn {z : Nat} {w w' : World} {base tb : Nat} {p0 : Bs} {o m : Int} {gg cap gb lb ib cap2 n : Nat} (h : One w base tb p0 o m gg cap gb lb ib cap2 n) (t : ∀ b, Turn z b w w') (hz : gb < z) : One w' base tb p0 o m gg cap gb lb ib cap2 n := by
  refine ⟨(t (tb + 1)).cells h.tab (by omega), row1_turn t h.row, row1_turn t h.ints, h.grp.heap ?_⟩
  have hlt := h.grp.lt
  rw [Array.getElem?_eq_getElem hlt]
  exact (t (gb + 1)).block gb _ (Array.getElem?_eq_getElem hlt) (by omega) (.inl hz)
theorem RI.turn {w : World} {base tb : Nat} {p0 q : Bs} {o m : Int} {gg cap gb lb ib cap2 n B8 n0 z : Nat} {l : List (Int × Bs)} {A B : World} (h : RI w base tb p0 q o m gg cap gb lb ib cap2 n B8 n0 l A) (t : ∀ b, Turn z b A B) (hz : gb < z) (hz2 : w.heap.size + 4 ≤ z) (hn : 0 < n0) :
    RI w base tb p0 q o m gg cap gb lb ib cap2 n B8 n0 l B := by
  obtain ⟨v, h1, h2⟩ := h.out
  refine ⟨⟨(t (w.heap.size + 1)).boxed h.ci.b0 (by omega), (t w.heap.size).boxed h.ci.b1 (by omega), (t w.heap.size).boxed h.ci.b3 (by omega), (t (w.heap.size + 9)).below h.ci.bel (Nat.le_refl _) (by omega) (by omega)⟩, h.mp.heap ?_, h.one.turn t hz, (t (B8 + 1)).boxed h.b8 (by omega), ⟨v, (t (B8 + 2)).boxed h1 (by omega), row_turn (t 0) h2 hn⟩⟩
  have hlt := h.mp.lt
  rw [Array.getElem?_eq_getElem hlt]
  exact (t w.heap.size).block _ _ (Array.getElem?_eq_getElem hlt) (by omega) (.inl (by omega))
theorem pfx_count (p : Bs) : (pfx p).length ≤ p.length + 2 := by
  have key : ∀ n, (mid p n).length ≤ n := by
    intro n
    induction n with
    | zero => simp [mid]
    | succ i ih => rw [mid_succ, List.length_append]; split <;> simp <;> omega
  unfold pfx
  split
  · simp
  · have := key p.length
    simp
    omega
theorem collect_pfx (q : Bs) (Z : World) (hq : q.length ≤ 900000) : Calls Try.prog 55 #[.func (.func 66) #[] #[.pointer (some ⟨Z.heap.size, 0, none⟩)]] (Z.alloc (.cells #[.string ⟨q.toArray⟩] 9)) fun e w' => ∃ A c, e = .returned (.slice A (pfx q).length c) ∧ w'.ownsRow (Z.heap.size + 2) 9 1 (.slice A (pfx q).length c) (pfx q).length (strs (pfx q)) ∧ Below (Z.heap.size + 1) (Z.alloc (.cells #[.string ⟨q.toArray⟩] 9)) w' := by
  have hs : (Z.alloc (.cells #[.string ⟨q.toArray⟩] 9)).heap.size = Z.heap.size + 1 := by simp
  have hc := pfx_count q
  refine (collectS_calls 66 #[.pointer (some ⟨Z.heap.size, 0, none⟩)] (pfx q) (Z.alloc (.cells #[.string ⟨q.toArray⟩] 9)) (by omega) (enters_of Try.func66 (by kernel_rfl) rfl) (fun W hb => ?_)).mono ?_
  · have hbx : Boxed W Z.heap.size 9 (str q) := (hb.block _ (by simp)).trans (Boxed.new Z 9 (str q))
    exact (pfx_seq Fence.wide 4 rfl (by omega) Z.heap.size q W hbx (by omega)).keep fun W1 W2 h => h.keepB (by simp)
  · rintro e w' ⟨v, rfl, hr, hb⟩
    obtain ⟨A, c, rfl⟩ := hr.sliced
    rw [hs] at hr hb
    exact ⟨A, c, rfl, hr, hb⟩

theorem EndsIn.split {F : Fence} {n : Nat} {P : Program} {c : Code} {a : Act} {w : World} {Q : Exit → Act → World → Prop} (T : Option Addr → Nat → Act) (G : Option Addr → Nat → World → Prop)
    (walk : c.wpIn F n P (Ends fun a' w' => ∃ A c, a' = T A c ∧ G A c w') a w) (imp : ∀ A c w', G A c w' → Q .normal (T A c) w') : c.wpIn F n P Q a w :=
  wpIn_mono walk (Ends.imp fun a' w' h => by obtain ⟨A, c, rfl, hf⟩ := h; exact imp A c w' hf)
theorem Ends.stays {S : Act → World → Prop} : ¬ LetsOut (Ends S) := fun ⟨_, _, h⟩ => h
theorem lookup_one {W : World} {gb n : Nat} {p0 : Bs} {v : Value} (hm : MapV W 9 gb n ((DataW.map []).put (.string p0) (.held v))) (x : Bs) (hx : x.length ≤ 1000000) :
    (Instr.lookup 64 (.map (some gb)) (.string ⟨x.toArray⟩) false).run Try.prog W = .ok (if x = p0 then v else .slice none 0 0) W := by
  obtain ⟨v', ps, hr, hv⟩ := World.ownsMap.lookup hm (Maps.string_keyed Try.underlying9) Try.underlying64 (zero70 W) (zd := .held (.slice none 0 0)) (zp := []) rfl (keyS x hx)
  by_cases h : x = p0
  · subst h
    rw [Maps.atKey_put_same Maps.isMap_empty (show WideAt.IsKeyLit (.string x) from trivial)] at hv
    cases hv
    rw [if_pos rfl]
    exact hr
  · rw [Maps.atKey_put_other (by intro e; exact h (by injection e))] at hv
    cases hv
    rw [if_neg h]
    exact hr
theorem lookup_at {W : World} {b n : Nat} (hm : MapV W 3 b n D1) : (Instr.lookup 93 (.map (some b)) (.int .i64 1) false).run Try.prog W = .ok (.int .i64 0) W := by
  obtain ⟨v', ps, hr, hv⟩ := World.ownsMap.lookup hm (Maps.int_keyed Try.underlying3) Try.underlying93 (z := .int .i64 0) (by simp [go_sem]) (zd := .held (.int .i64 0)) (zp := []) rfl (show keyOf Try.prog 3 (.int .i64 1) = some (.int .i64 1) from Maps.keyOf_int_mk Try.underlying3 (by decide))
  unfold D1 at hv
  rw [Maps.atKey_put_same Maps.isMap_empty (show WideAt.IsKeyLit (.int .i64 1) from trivial)] at hv
  cases hv
  exact hr

theorem rowI_at {w : World} {base : Nat} {A : Option Addr} {c : Nat} {l : List Int} (h : w.ownsRow base 3 1 (.slice A l.length c) l.length (encsI l)) :
    ∀ k (hk : k < l.length), ∃ g, A = some ⟨g, 0, none⟩ ∧ base ≤ g ∧ g < w.heap.size ∧ w.cell? ⟨g, k, none⟩ = some (.int .i64 l[k]) := by
  intro k hk
  rcases h.2 with ⟨h1, h0⟩ | ⟨g, cap, cur, h1, hg, hh, hn, hcap, hsz, htake⟩
  · have hl : l.length = 0 := by first | exact h0 | exact h0.1 | exact h0.symm | exact h0.1.symm
    omega
  · injection h1 with h1 _ _
    refine ⟨g, h1, hg, (Array.getElem?_eq_some_iff.1 hh).1, ?_⟩
    rw [cell_of_row _ _ _ _ _ _ hh]
    have h3 : (cur.toList.take (l.length * 1))[k]? = some (.int .i64 l[k]) := by
      rw [htake]
      unfold encsI
      rw [List.getElem?_map, List.getElem?_eq_getElem hk]
      rfl
    rw [List.getElem?_take, if_pos (by omega)] at h3
    simpa using h3
theorem rowS_at {w : World} {base : Nat} {A : Option Addr} {c : Nat} {l : List Bs} (h : w.ownsRow base 9 1 (.slice A l.length c) l.length (strs l)) :
    ∀ k (hk : k < l.length), ∃ g, A = some ⟨g, 0, none⟩ ∧ base ≤ g ∧ g < w.heap.size ∧ w.cell? ⟨g, k, none⟩ = some (str l[k]) := by
  intro k hk
  rcases h.2 with ⟨h1, h0⟩ | ⟨g, cap, cur, h1, hg, hh, hn, hcap, hsz, htake⟩
  · have hl : l.length = 0 := by first | exact h0 | exact h0.1 | exact h0.symm | exact h0.1.symm
    omega
  · injection h1 with h1 _ _
    refine ⟨g, h1, hg, (Array.getElem?_eq_some_iff.1 hh).1, ?_⟩
    rw [cell_of_row _ _ _ _ _ _ hh]
    have h3 : (cur.toList.take (l.length * 1))[k]? = some (str l[k]) := by
      rw [htake]
      unfold strs
      rw [List.getElem?_map, List.getElem?_eq_getElem hk]
      rfl
    rw [List.getElem?_take, if_pos (by omega)] at h3
    simpa using h3
theorem bwd_mem (L : List Bs) : ∀ k, k ≤ L.length → ∀ x ∈ bwd L k, x.2 ∈ L := by
  intro k
  induction k with
  | zero => intro _ x hx; cases hx
  | succ k ih =>
    intro hk x hx
    rcases List.mem_cons.1 hx with rfl | hx
    · show L.getD k [] ∈ L
      rw [List.getD_eq_getElem?_getD, List.getElem?_eq_getElem (by omega)]
      exact List.getElem_mem _
    · exact ih (by omega) x hx
theorem bwd_len (L : List Bs) : ∀ k, (bwd L k).length = k
  | 0 => rfl
  | k + 1 => by simp [bwd, bwd_len L k]
theorem RI.final {w : World} {base tb : Nat} {p0 q : Bs} {o m : Int} {gg cap gb lb ib cap2 n B8 n0 : Nat} {l l' : List (Int × Bs)} {A B : World} {v : Value} (h : RI w base tb p0 q o m gg cap gb lb ib cap2 n B8 n0 l A) (hO : One w base tb p0 o m gg cap gb lb ib cap2 n)
    (hk : ∀ k, k < n0 → k ≠ B8 + 1 → B.heap[k]? = A.heap[k]?) (hB : Below w.heap.size w B) (h8 : w.heap.size + 4 ≤ B8) (hn : B8 + 1 < n0) (h1 : Boxed B (B8 + 1) 36 v) (h2 : B.ownsRow n0 51 2 v l'.length (candV l')) : RI w base tb p0 q o m gg cap gb lb ib cap2 n B8 n0 l' B :=
  ⟨h.ci.ext (fun k h1 _ => hk k (by omega) (by omega)) hB, h.mp.heap (hk _ (by omega) (by omega)), hO.keep hB.block, (hk _ (by omega) (by omega)).trans h.b8, ⟨v, h1, h2⟩⟩
theorem RI.below {w : World} {base tb : Nat} {p0 q : Bs} {o m : Int} {gg cap gb lb ib cap2 n B8 n0 : Nat} {l : List (Int × Bs)} {A B : World} (h : RI w base tb p0 q o m gg cap gb lb ib cap2 n B8 n0 l A) (hb : Below A.heap.size A B) (hn : 0 < n0) : RI w base tb p0 q o m gg cap gb lb ib cap2 n B8 n0 l B :=
  h.turn (z := A.heap.size) (fun b => Turn.of_but' (But.of_below hb)) h.one.lt.2.2.1 (by have := h.ci.b3.lt; omega) hn
theorem grp_one {p0 : Bs} {o m : Int} {base tb gg cap gb lb ib cap2 n : Nat} (x : Bs) (hx : x.length ≤ 1000000) : ∃ (A : Option Addr) (c : Nat) (L : List Int), L = (if x = p0 then [1] else []) ∧
    (∀ W, One W base tb p0 o m gg cap gb lb ib cap2 n → (Instr.lookup 64 (.map (some gb)) (.string ⟨x.toArray⟩) false).run Try.prog W = .ok (.slice A L.length c) W) ∧
    (∀ W, One W base tb p0 o m gg cap gb lb ib cap2 n → ∀ k (hk : k < L.length), ∃ g, A = some ⟨g, 0, none⟩ ∧ g < W.heap.size ∧ W.cell? ⟨g, k, none⟩ = some (.int .i64 L[k])) := by
  by_cases h : x = p0
  · refine ⟨some ⟨ib, 0, none⟩, cap2, [1], by rw [if_pos h], fun W hW => ?_, fun W hW k hk => ⟨ib, rfl, hW.lt.2.2.2, ?_⟩⟩
    · have := lookup_one hW.grp x hx
      rwa [if_pos h] at this
    · obtain rfl : k = 0 := by simpa using hk
      exact hW.cells.2.2.2.2
  · refine ⟨none, 0, [], by rw [if_neg h], fun W hW => ?_, fun W hW k hk => absurd hk (by simp)⟩
    have := lookup_one hW.grp x hx
    rwa [if_neg h] at this
end Go.Proofs.Ytedoonfegcgmeaa
