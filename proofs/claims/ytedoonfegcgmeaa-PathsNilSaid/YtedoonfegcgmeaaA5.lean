/- Clean. -/
import Derived.Test.YtedoonfegcgmeaaA4
import Derived.Maps.AppendAt
import Derived.WalkSmall
namespace Go.Proofs.Ytedoonfegcgmeaa
open Go.RowKit
set_option linter.unusedVariables false
attribute [local go_sem] Oper.semAt_some
theorem named_calls (s : Bs) (w : World) (hs : s.length ≤ 1000000) : Calls Try.prog 24 #[str s] w fun e w' => e = .returned (.int .i64 (namedS s)) ∧ Below w.heap.size w w' := (callsIn_wide (n := 5)).1 (named_in s w hs)
/-- What is behind 'out = append(out, ..)' with the row laid above the variable's box. -/
theorem out_appended {W w1 : World} {s B : Nat} {t e : TypeId} {size : Nat} {v v' : Value} {k m : Nat} {xs ys : List Value} (hv : Boxed W B t v) (hte : t ≠ e) (hrow : W.ownsRow s e size v k xs) (hB : B < s) (hs : s ≤ W.heap.size)
    (hown' : w1.ownsRow s e size v' m ys) (hgrow : W.grownBy w1 v.ownBlock) :
    Boxed w1 B t v ∧ Boxed (w1.setCell ⟨B, 0, none⟩ v') B t v' ∧ (w1.setCell ⟨B, 0, none⟩ v').ownsRow s e size v' m ys ∧ Below B W (w1.setCell ⟨B, 0, none⟩ v') ∧ (∀ j, j < s → j ≠ B → (w1.setCell ⟨B, 0, none⟩ v').heap[j]? = W.heap[j]?) ∧ KeepsOthers W (w1.setCell ⟨B, 0, none⟩ v') := by
  have hv1 : Boxed w1 B t v := hv.kept hgrow (hv.not_row hte hrow)
  have hg : ∀ j, v.ownBlock = some j → s ≤ j := by
    intro j ej
    rcases hrow.2 with ⟨rfl, _⟩ | ⟨g, cap, cur, rfl, hb, _, _⟩
    · simp [Value.ownBlock] at ej
    · obtain rfl : g = j := by simpa [Value.ownBlock] using ej
      exact hb
  refine ⟨hv1, hv1.set v', hown'.kept (grownBy_setCell' w1 B v') (.inr (hv1.not_row hte hown').symm), ?_, ?_, ?_⟩
  · exact ((Below.refl B W).grown hgrow (by omega) (fun j ej => by have := hg j ej; omega)).setCell (p := ⟨B, 0, none⟩) (Nat.le_refl _) v'
  · intro j hj hjB
    rw [Below.heap_setCell _ _ _ _ hjB]
    exact hgrow.block j (by omega) (fun e' => by have := hg j e'.symm; omega)
  · refine (KeepsOthers.of_grownBy hgrow fun j o ej hj => ?_).trans (KeepsOthers.setCell _ _ _)
    rcases hrow.2 with ⟨rfl, _⟩ | ⟨g, cap, cur, rfl, _, hgb, _⟩
    · simp [Value.ownBlock] at ej
    · obtain rfl : g = j := by simpa [Value.ownBlock] using ej
      rw [hgb] at hj; cases hj; rfl
theorem Turn.row {s bx n0 : Nat} {e : TypeId} {size k : Nat} {v : Value} {xs : List Value} {W W' : World} (h : Turn s bx W W') (hr : W.ownsRow n0 e size v k xs) (hn : bx < n0) : W'.ownsRow n0 e size v k xs := by
  rcases hr.2 with ⟨rfl, h2⟩ | ⟨g, cap, cur, rfl, hb, hg, h3⟩
  · exact ⟨hr.1, .inl ⟨rfl, h2⟩⟩
  · exact ⟨hr.1, .inr ⟨g, cap, cur, rfl, hb, h.cells hg (by omega), h3⟩⟩
def stepC (acc : List Bs) (c : Bs) : List Bs := if c = [46] then acc else if c = [46, 46] then acc.dropLast else acc ++ [c]
/-- The components that are left. -/
def stk (l : List Bs) : List Bs := l.foldl stepC []
theorem stk_snoc (l : List Bs) (c : Bs) : stk (l ++ [c]) = stepC (stk l) c := by simp [stk]
theorem stk_len (l : List Bs) : (stk l).length ≤ l.length := by
  have key : ∀ (l acc : List Bs), (l.foldl stepC acc).length ≤ acc.length + l.length := by
    intro l
    induction l with
    | nil => intro acc; simp
    | cons c l ih =>
      intro acc
      have := ih (stepC acc c)
      have h2 : (stepC acc c).length ≤ acc.length + 1 := by
        unfold stepC
        split
        · omega
        · split <;> simp; omega
      simp only [List.foldl_cons, List.length_cons]
      omega
  have := key l []
  simpa [stk] using this
def strs (l : List Bs) : List Value := l.map str
/-- The clean path of components. -/
def pathOf (l : List Bs) : Bs := 47 :: Lib.join l [47]
def cleanS (s : Bs) : Bs × Int :=
  if s = [] then ([], 9) else if 255 < s.length then ([], 21) else if 0 ≤ Lib.indexByte s 0 ∨ s.head? ≠ some 47 then ([], 14)
  else if longB (comps s) = true then ([], 21) else (pathOf (stk (comps s)), 0)
theorem comps_count (s : Bs) : (comps s).length ≤ s.length + 1 := Nat.le_trans (List.length_filter_le _ _) (parts_count s)
theorem comps_short {s : Bs} {c : Bs} (h : c ∈ comps s) : c.length ≤ s.length := parts_len s c (List.mem_filter.1 h).1
theorem stk_sub (l : List Bs) : ∀ c ∈ stk l, c ∈ l := by
  have key : ∀ (l acc : List Bs), ∀ c ∈ l.foldl stepC acc, c ∈ acc ∨ c ∈ l := by
    intro l
    induction l with
    | nil => intro acc c hc; exact .inl hc
    | cons x l ih =>
      intro acc c hc
      rw [List.foldl_cons] at hc
      rcases ih _ c hc with h | h
      · unfold stepC at h
        split at h
        · exact .inl h
        · split at h
          · exact .inl ((List.dropLast_sublist acc).subset h)
          · rcases List.mem_append.1 h with h | h
            · exact .inl h
            · simp at h; exact .inr (by rw [h]; exact List.mem_cons_self)
      · exact .inr (List.mem_cons_of_mem _ h)
  intro c hc
  rcases key l [] c hc with h | h
  · cases h
  · exact h
theorem stk_short {s : Bs} {c : Bs} (h : c ∈ stk (comps s)) : c.length ≤ s.length := comps_short (stk_sub _ _ h)
theorem join_len (L : List Bs) (m : Nat) (h : ∀ c ∈ L, c.length ≤ m) (n : Nat) (hn : L.length ≤ n) : (Lib.join L [47]).length ≤ n * (m + 1) := by
  have key : ∀ L : List Bs, (∀ c ∈ L, c.length ≤ m) → (([47] : Bs).intercalate L).length ≤ L.length * (m + 1) := by
    intro L
    induction L with
    | nil => intro _; simp [List.intercalate]
    | cons x L ih =>
      intro h
      have h1 := h x List.mem_cons_self
      have h2 := ih fun c hc => h c (List.mem_cons_of_mem _ hc)
      cases L with
      | nil => simp [List.intercalate] at h2 ⊢; omega
      | cons y L =>
        have e : ([47] : Bs).intercalate (x :: y :: L) = x ++ [47] ++ ([47] : Bs).intercalate (y :: L) := by simp [List.intercalate]
        rw [e]
        simp only [List.length_append, List.length_cons, List.length_nil] at h2 ⊢
        have : (L.length + 1 + 1) * (m + 1) = (L.length + 1) * (m + 1) + (m + 1) := by rw [Nat.add_mul, Nat.one_mul]
        omega
  have h1 := key L h
  have h2 : L.length * (m + 1) ≤ n * (m + 1) := Nat.mul_le_mul_right _ hn
  unfold Lib.join
  omega
theorem slash_str (l : Bs) : Ending.returned (Value.tuple #[.string ((⟨#[47]⟩ : ByteArray) ++ ⟨l.toArray⟩), .int .i64 0]) = .returned (.tuple #[str (47 :: l), .int .i64 0]) := by
  have e : ((⟨#[47]⟩ : ByteArray) ++ ⟨l.toArray⟩) = ⟨(47 :: l).toArray⟩ := by
    apply ByteArray.ext
    simp
  rw [e]
  rfl
theorem join_calls (L : List Bs) (v : Value) (W : World) (base : Nat) (h : W.ownsRow base 9 1 v L.length (strs L)) (hk : L.length ≤ 256) (hl : (Lib.join L [47]).length ≤ 1000000) :
    Calls Try.prog 26 #[v, .string ⟨#[47]⟩] W fun e w' => e = .returned (str (Lib.join L [47])) ∧ Below W.heap.size W w' := by
  have hm : (L.map fun l => (⟨l.toArray⟩ : ByteArray)).map (·.data.toList) = L := by
    rw [List.map_map]
    exact (List.map_congr_left fun x _ => by simp).trans (List.map_id L)
  cases hL : L with
  | nil =>
    rw [hL] at h
    have e : ∃ a c, v = .slice a 0 c := by
      rcases h.2 with ⟨rfl, _⟩ | ⟨g, cap, cur, rfl, _⟩
      · exact ⟨_, _, rfl⟩
      · exact ⟨_, _, rfl⟩
    obtain ⟨a, c, rfl⟩ := e
    refine (Try.strings_Join_none a c ⟨#[47]⟩ W).mono ?_
    rintro e w' ⟨rfl, rfl⟩
    exact ⟨rfl, Below.refl _ _⟩
  | cons x L' =>
    rw [← hL]
    have h' := h
    rw [show L.length = L'.length + 1 by rw [hL]; rfl] at h'
    obtain ⟨g, cap, rfl⟩ := ownsRow_succ h'
    have hlen : (L.map fun l => (⟨l.toArray⟩ : ByteArray)).length = L'.length + 1 := by rw [List.length_map, hL]; rfl
    have hk2 : L'.length + 1 ≤ 256 := by rw [hL] at hk; simpa using hk
    rcases h'.2 with ⟨h0, _⟩ | ⟨g', cap', cur, hv, hg, hh, hn, hcap, hsz, htake⟩
    · cases h0
    · cases hv
      have := Try.strings_Join g 0 cap (L.map fun l => (⟨l.toArray⟩ : ByteArray)) ⟨#[47]⟩ W ?_ (Array.getElem?_eq_some_iff.1 hh).1 (by rw [hlen]; omega) (by rw [hlen]; omega) (by rw [hm]; show (Lib.join L [47]).length ≤ _; omega)
      · rw [hm, hlen] at this
        exact this
      · intro j x hj
        rw [Nat.zero_add, cell_of_row _ _ _ _ _ _ hh]
        have hj2 : (strs L)[j]? = some (.string x) := by
          rw [List.getElem?_map] at hj
          cases hl : L[j]? with
          | none => rw [hl] at hj; cases hj
          | some y =>
            rw [hl] at hj
            cases hj
            unfold strs
            rw [List.getElem?_map, hl]
            rfl
        have hlt : j < L'.length + 1 := by
          have := (List.getElem?_eq_some_iff.1 hj2).1
          rw [strs, List.length_map, hL] at this
          exact this
        have h3 : (cur.toList.take ((L'.length + 1) * 1))[j]? = some (.string x) := by rw [htake]; exact hj2
        rw [List.getElem?_take, if_pos (by omega)] at h3
        simpa using h3
set_option maxHeartbeats 2000000 in
set_option maxRecDepth 100000 in
theorem clean_ok (s : Bs) (w : World) (h0 : s ≠ []) (h255 : s.length ≤ 255) (hz : Lib.indexByte s 0 < 0) (hh : s.head? = some 47) (hl : longB (comps s) = false) :
    CallsIn Fence.wide 5 Try.prog 7 #[str s] w fun e w' => e = .returned (.tuple #[str (pathOf (stk (comps s))), .int .i64 0]) ∧ Below w.heap.size w w' := by
  have HN := Lib.hid (fun W => named_calls s W (by omega))
  have HZ := Lib.hid (fun W => (Try.strings_IndexByte ⟨s.toArray⟩ 0 W).mono (R' := fun e w' => e = .returned (.int .i64 (Lib.indexByte (⟨s.toArray⟩ : ByteArray).data.toList (0 : Int).toNat.toUInt8)) ∧ W = w') fun e w' h => ⟨h.1, h.2.symm⟩)
  rw [mk_data] at HZ
  have hnm : namedS s = 0 := by unfold namedS; rw [hl]; rfl
  rw [hnm] at HN
  have hs255 : ¬ (255 : Int) < (s.length : Int) := by omega
  have HH := Lib.hid h255
  have hlen : (0 : Int) < (s.length : Int) := by cases s; exact absurd rfl h0; simp
  have hsb : (s == []) = false := by simpa using h0
  have hhd : ∀ h : 0 < (⟨s.toArray⟩ : ByteArray).size, (⟨s.toArray⟩ : ByteArray)[0] = 47 := by
    intro h
    cases s with
    | nil => cases hh
    | cons b r => simp at hh; subst hh; rfl
  have hzz : ¬ (0 : Int) ≤ Lib.indexByte s (0 : Int).toNat.toUInt8 := by have : (0 : Int).toNat.toUInt8 = (0 : UInt8) := rfl; rw [this]; omega
  generalize Lib.indexByte s (0 : Int).toNat.toUInt8 = ix at *
  have hzd : decide ((0 : Int) ≤ ix) = false := by simpa using hzz
  clear hz hh hl hnm h0 h255
  refine callsIn_of_wp_marks Try.func7 rfl trivial ?_ rfl
  simp only [Try.ntmps7, List.size_toArray, List.length_cons, List.length_nil, Nat.reduceAdd, Nat.reduceSub, Array.replicate_succ, Array.replicate_zero, List.push_toArray, List.append_toArray, List.nil_append, List.cons_append]
  unfold str at HN ⊢
  gi_wp2_with (first
    | (refine ⟨trivial, ?_⟩; gi_at_call 23; refine (callsIn_wide.2 (HZ.out _)).mono ?_; rintro e w' ⟨rfl, rfl⟩)
    | (refine ⟨trivial, ?_⟩; gi_at_call 24; refine (callsIn_wide.2 (HN.out _)).mono ?_; rintro e w1 ⟨rfl, hb⟩; have HB1 := Lib.hid hb; clear hb)
    | (refine ⟨trivial, ?_⟩; gi_at_call 25; refine (callsIn_wide.2 (components_calls s _)).mono ?_; rintro e w' ⟨rfl, rfl⟩))
  obtain ⟨bl, hbl⟩ : ∃ bl, w1.heap.size = bl := ⟨_, rfl⟩
  obtain ⟨W0, hW0⟩ : ∃ W0, w1.alloc (.cells #[.slice none 0 0] 39) = W0 := ⟨_, rfl⟩
  have hs0 : bl + 1 = W0.heap.size := by rw [← hW0, ← hbl]; simp
  have hwb : w.heap.size ≤ bl := by rw [← hbl]; exact HB1.out.size
  have hb0 : Below w.heap.size w W0 := by rw [← hW0]; exact HB1.out.alloc HB1.out.size _
  have hr0 : Boxed W0 bl 39 (.slice none 0 0) := by rw [← hW0, ← hbl]; exact Boxed.new w1 39 _
  rw [hW0, hbl, hs0]
  have hcc : (comps s).length ≤ 256 := Nat.le_trans (comps_count s) (by have := HH.out; omega)
  have HCC := Lib.hid hcc
  refine range_comps s W0 (by have := HH.out; omega) rfl rfl
    (fun pre W => (∃ v, Boxed W bl 39 v ∧ W.ownsRow (W0.heap.size + 1) 9 1 v (stk pre).length (strs (stk pre))) ∧ Below w.heap.size w W)
    (fun _ _ _ => False)
    (fun pre x a₁ W => ((∃ v, Boxed W bl 39 v ∧ W.ownsRow (W0.heap.size + 1) 9 1 v (stk pre).length (strs (stk pre))) ∧ Below w.heap.size w W) ∧
      a₁ = { tmps := #[.string ⟨s.toArray⟩, undef, .string ⟨#[]⟩, .int .i64 0, .int .i64 0, .pointer (some ⟨bl, 0, none⟩), .string ⟨x.toArray⟩, .bool false, .string ⟨s.toArray⟩, .bool false, .bool false, .string ⟨s.toArray⟩, .int .i64 (s.length : Int), .bool false, .bool false, .string ⟨s.toArray⟩, .int .i64 ix, .bool false, .bool false, .string ⟨s.toArray⟩, .int .u8 47, .bool false, .bool false,
        .string ⟨s.toArray⟩, .int .i64 0, .int .i64 0, .bool false, undef, .string ⟨s.toArray⟩, .func (.func 46) #[] #[.pointer (some ⟨W0.heap.size, 0, none⟩)], .string ⟨x.toArray⟩, undef, undef, undef, undef, undef, undef, undef, undef, undef, undef, undef, undef, undef, undef, undef, undef, undef, undef], defers := [] })
    (fun pre W W' h t => by
      obtain ⟨⟨v, h1, h2⟩, h3⟩ := h
      exact ⟨⟨v, t.boxed h1 (by omega), t.row h2 (by omega)⟩, t.below h3 (Nat.le_refl _) (by omega) (by omega)⟩)
    (fun c pre W W' h t => h)
    (fun pre x a₁ W W' h t => by
      obtain ⟨⟨⟨v, h1, h2⟩, h3⟩, h4⟩ := h
      exact ⟨⟨⟨v, t.boxed h1 (by omega), t.row h2 (by omega)⟩, t.below h3 (Nat.le_refl _) (by omega) (by omega)⟩, h4⟩)
    ⟨⟨_, hr0.alloc _, World.ownsRow_nil _ _ _ _⟩, hb0.alloc hb0.size _⟩
    ?assign ?body ?done ?stop
  case assign =>
    intro l pre x W K hI hsz hK
    unfold str
    gi_wp2
    exact hK _ _ (KeepsOthers.refl _) (Below.refl _ _) ⟨hI, rfl⟩
  case body =>
    rintro l pre x a₁ W hal hsz ⟨⟨⟨v, hv, hrow⟩, hbel⟩, rfl⟩
    have hcv := hv.cell
    have hfv := hv.frozen
    have HI := Lib.hid (And.intro hv (And.intro hrow hbel))
    have hpl : pre.length + 1 ≤ 256 := by
      have := hal.length_le
      have h2 := HCC.out
      simp at this
      omega
    have hkl := stk_len pre
    have HSZ := Lib.hid hsz
    clear hv hrow hbel hal
    by_cases h1 : x = [46]
    · have hx1 : (x == [46]) = true := by simpa using h1
      have HS := Lib.hid (show stk (pre ++ [x]) = stk pre by rw [stk_snoc]; unfold stepC; rw [if_pos h1])
      clear h1
      gi_wp2
      exact ⟨KeepsOthers.refl _, keepB_below (Below.refl _ _) (by have := HSZ.out; omega), ⟨v, HI.out.1, by rw [HS.out]; exact HI.out.2.1⟩, HI.out.2.2⟩
    · have hx1 : (x == [46]) = false := by simpa using h1
      by_cases h2 : x = [46, 46]
      · have hx2 : (x == [46, 46]) = true := by simpa using h2
        have HS := Lib.hid (show stk (pre ++ [x]) = (stk pre).dropLast by rw [stk_snoc]; unfold stepC; rw [if_neg h1, if_pos h2])
        clear h1 h2
        rcases List.eq_nil_or_concat (stk pre) with hq | ⟨q, y, hq⟩
        · rw [hq] at HI HS
          rcases HI.out.2.1.2 with ⟨hv0, _⟩ | ⟨g, cap, cur, hv0, _, _, _⟩
          all_goals
            subst hv0
            gi_wp2
            exact ⟨KeepsOthers.setCell _ _ _, keepB_set _ (by show bl ≠ _; omega), ⟨_, HI.out.1.set _, by rw [HS.out]; exact HI.out.2.1.kept (grownBy_setCell' _ bl _) (.inr (HI.out.1.not_row (by decide) HI.out.2.1).symm)⟩, HI.out.2.2.setCell (by show w.heap.size ≤ bl; omega) _⟩
        · rw [List.concat_eq_append] at hq
          rw [hq] at HI HS hkl
          have hlen1 : (q ++ [y]).length = q.length + 1 := by simp
          have hkq : q.length + 1 ≤ pre.length := by rw [← hlen1]; exact hkl
          have hrow := HI.out.2.1
          rw [hlen1] at hrow
          obtain ⟨g, cap, rfl⟩ := ownsRow_succ hrow
          have hpop := ownsRow_pop (size := 1) (n := q.length) (xs := strs q) (last := [str y]) (by simp [strs]) (by simpa [strs] using hrow)
          have HP := Lib.hid hpop
          have hqb : (q.length : Int) + 1 ≤ 257 := by omega
          have hcap : q.length + 1 ≤ cap := by
            rcases hrow.2 with ⟨h, _⟩ | ⟨g', cap', cur, h, _, _, h3, _⟩
            · cases h
            · cases h; exact h3
          have hcap' : (q.length : Int) ≤ (cap : Int) := by omega
          have hmx : max (q.length : Int) 0 = (q.length : Int) := by omega
          have hdl : (q ++ [y]).dropLast = q := by simp
          rw [hdl] at HS
          clear hq hpop hrow
          gi_wp2
          exact ⟨KeepsOthers.setCell _ _ _, keepB_set _ (by show bl ≠ _; omega), ⟨_, HI.out.1.set _, by rw [HS.out]; exact HP.out.kept (grownBy_setCell' _ bl _) (.inr (HI.out.1.not_row (by decide) HP.out).symm)⟩, HI.out.2.2.setCell (by show w.heap.size ≤ bl; omega) _⟩
      · have hx2 : (x == [46, 46]) = false := by simpa using h2
        have HS := Lib.hid (show stk (pre ++ [x]) = stk pre ++ [x] by rw [stk_snoc]; unfold stepC; rw [if_neg h1, if_neg h2])
        obtain ⟨i0, hi0, hz0, hz1, hz2⟩ := info_parts (P := Try.prog) (e := 9) (z := .string ⟨#[]⟩) (size := 1) (bytes := 16) (by kernel_rfl)
        have HR := Lib.hid (HI.out.2.1.alloc (.cells #[.string ⟨x.toArray⟩] 9))
        have HV2 := Lib.hid (HI.out.1.alloc (.cells #[.string ⟨x.toArray⟩] 9))
        have hsz2 : W0.heap.size + 1 ≤ W.heap.size := HSZ.out
        clear h1 h2
        obtain ⟨q, hq⟩ : ∃ q, stk pre = q := ⟨_, rfl⟩
        rw [hq] at HR HS hkl
        clear hq
        gi_wp2_with (gi_at_builtin; refine wpListIn_append_own _ rfl (.tmp 32) (.tmp 34) 39 rfl (W0.heap.size + 1) 9 i0 (.string ⟨#[]⟩) 1 16 Try.underlying39 hi0 hz0 hz1 hz2 rfl (by decide) _ _ _ rfl HR.out ⟨W.heap.size, 0, none⟩ 1 1 [.string ⟨x.toArray⟩] rfl rfl (cell_one_new _ _ _) (by simp [Value.oneCell']) (by unfold maxLen; omega) (by omega) (by simp; omega) ?_; intro v' w1' hown' hgrow _; obtain ⟨g', cap', rfl⟩ := ownsRow_succ hown'; obtain ⟨a1, a2, a3, a4, a5, a6⟩ := out_appended HV2.out (by decide) HR.out (by omega) (by simp; omega) hown' hgrow; have hcr' := a1.cell; have hfr' := a1.frozen)
        exact ⟨(KeepsOthers.alloc W _).trans a6, ⟨Nat.le_trans (by simp) a4.size, (a5 _ (by omega) (by omega)).trans (Below.heap_alloc W _ _ (by omega))⟩, ⟨_, a2, by rw [HS.out]; simpa [strs, str] using a3⟩, (HI.out.2.2.alloc HI.out.2.2.size _).trans (a4.mono hwb)⟩
  case done =>
    rintro D W hD ⟨⟨v, h1, h2⟩, h3⟩ hK
    have hcv := h1.cell
    have hDl : D < W.heap.size := (Array.getElem?_eq_some_iff.1 hK).1
    have hk := Nat.le_trans (stk_len (comps s)) HCC.out
    have hjl := join_len (stk (comps s)) s.length (fun c hc => stk_short hc) 256 hk
    have HK := Lib.hid (And.intro hK h3)
    obtain ⟨L, hL⟩ : ∃ L, stk (comps s) = L := ⟨_, rfl⟩
    have HL := Lib.hid hL
    rw [hL] at h2 hk hjl
    clear hL h1 h3 hK
    have HJ : Hid (∀ W', Below W.heap.size W W' → W'.heap[D]? = some (.deferred (some [])) ∧ Below w.heap.size w W') := Lib.hid fun W' hb => ⟨(hb.block D hDl).trans HK.out.1, below_then' HK.out.2 hb⟩
    have HJOIN : Hid (Calls Try.prog 26 #[v, .string ⟨#[47]⟩] W fun e w' => e = .returned (str (Lib.join L [47])) ∧ Below W.heap.size W w') := Lib.hid (join_calls L v W (W0.heap.size + 1) h2 (by omega) (by have := HH.out; omega))
    clear h2
    unfold str at HJOIN
    gi_wp2_with (refine ⟨trivial, ?_⟩; gi_at_call 26; refine (callsIn_wide.2 HJOIN.out).mono ?_; rintro e w' ⟨rfl, hb⟩; have hj := HJ.out _ hb; clear hb)
    refine ⟨by simp, .inl ⟨_, _, rfl, run_takeDeferred hj.1, ?_⟩⟩
    exact ⟨_, results_tmp2 rfl _ _ _, by rw [HL.out]; exact slash_str _, hj.2.trans (belowK_b (w := w) (Nat.le_refl _) _ D _ _ (by omega) hj.1 rfl rfl)⟩
  case stop =>
    rintro D c pre W hD hpre h hK
    exact h.elim
end Go.Proofs.Ytedoonfegcgmeaa
