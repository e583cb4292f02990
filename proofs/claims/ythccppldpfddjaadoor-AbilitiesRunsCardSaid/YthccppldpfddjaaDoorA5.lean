/- slices.SortFunc of ranges that are in order: nothing turns; slices.SortedFunc. -/
import Derived.Test.YthccppldpfddjaaDoorA4
import Derived.Test.YthccppldpfddjaaDoorSl
namespace Go.Proofs.YthccppldpfddjaaDoor
open Go.RowKit Go.Sort
set_option linter.unusedVariables false
/-- A range whose low end is in bounds. -/
abbrev Sg := { p : Rg // 0 ≤ p.1 ∧ p.1 ≤ MX }
instance sgInhabited : Inhabited Sg := ⟨⟨(0, 0), by decide, by decide⟩⟩
def encG (x : Sg) : List Value := [.int .i64 x.1.1, .int .i64 x.1.2]
def cfG (x y : Sg) : Int := min (max (x.1.1 - y.1.1) (-1)) 1
theorem ltG (x y : Sg) : ltOf cfG x y = decide (x.1.1 < y.1.1) := by
  unfold ltOf cfG
  congr 1
  apply propext
  omega
theorem swoG : SWO (ltOf cfG) where
  irrefl x := by rw [ltG]; simp
  trans x y z h1 h2 := by rw [ltG] at *; simp at *; omega
  ntrans x y z h1 h2 := by rw [ltG] at *; simp at *; omega
set_option maxHeartbeats 1000000 in
theorem cmp_calls (x y : Sg) (W : World) : Calls Tryd.prog 110 #[.agg (encG x).toArray, .agg (encG y).toArray] W fun e w' => e = .returned (.int .i64 (cfG x y)) ∧ ∃ q os', w' = grow (W.drewN q) os' := by
  obtain ⟨⟨a, b⟩, h1, h2⟩ := x
  obtain ⟨⟨c, d⟩, h3, h4⟩ := y
  unfold cfG encG MX at *
  simp only at h1 h2 h3 h4 ⊢
  go_enter Tryd.func110, Tryd.ntmps110
  go_wp2
  go_ret
  exact ⟨rfl, 0, _, by rw [alloc_eq_grow, alloc_eq_grow, grow_grow]; rfl⟩
theorem cmpLaysG (blk off size : Nat) (w : World) : Go.Proofs.CmpLays Tryd.prog 110 #[] encG 2 cfG blk off size w := fun _ _ _ _ x y => cmp_calls x y _
/-- A list of ranges as one of ranges in bounds. -/
def toG (l : List Rg) (h : ∀ p ∈ l, 0 ≤ p.1 ∧ p.1 ≤ MX) : List Sg := l.attachWith _ h
theorem toG_map (l : List Rg) (h : ∀ p ∈ l, 0 ≤ p.1 ∧ p.1 ≤ MX) : (toG l h).map (·.1) = l := by unfold toG; exact List.attachWith_map_subtype_val _
theorem toG_len (l : List Rg) (h : ∀ p ∈ l, 0 ≤ p.1 ∧ p.1 ≤ MX) : (toG l h).length = l.length := by simp [toG]
theorem toG_get (l : List Rg) (h : ∀ p ∈ l, 0 ≤ p.1 ∧ p.1 ≤ MX) (i : Nat) (hi : i < l.length) : ((toG l h).toArray[i]!).1 = l[i] := by
  rw [getElem!_pos _ i (by simpa [toG_len] using hi)]
  simp [toG]
theorem good_inB {l : List Rg} (h : Good l) : ∀ p ∈ l, 0 ≤ p.1 ∧ p.1 ≤ MX := fun p hp => ⟨(h.1 p hp).1, by have := (h.1 p hp).2; omega⟩
theorem holdsG {w : World} {g n c : Nat} {l : List Rg} (h : ∀ p ∈ l, 0 ≤ p.1 ∧ p.1 ≤ MX) (hl : Ls w 43 (.slice (some ⟨g, 0, none⟩) n c) l) : HoldsK encG 2 w g 0 (toG l h).toArray := by
  obtain ⟨cur, hcur⟩ := Rw.ty hl g rfl
  have hc := Rw.cells hl (g := g) rfl
  intro j hj
  have hj2 : j < l.length * 2 := by simpa [toG_len] using hj
  refine ⟨?_, frozen_of_row w g _ _ _ hcur⟩
  rw [get_flatK _ _ _ _ (by simpa [toG_len] using hj2)]
  obtain ⟨p1, p2⟩ := pcells_get l (j / 2) (by omega)
  have hi : j / 2 < l.length := by omega
  have e1 : l.getD (j / 2) (0, 0) = l[j / 2] := by simp [List.getD_eq_getElem?_getD, List.getElem?_eq_getElem hi]
  rw [e1] at p1 p2
  have h2 := toG_get l h (j / 2) hi
  rcases (by omega : j % 2 = 0 ∨ j % 2 = 1) with hm | hm
  · rw [hm]
    have e : j = j / 2 * 2 := by omega
    have := hc _ _ p1
    rw [← e, add_at] at this
    rw [this]
    simp only [encG, h2, id]
    rfl
  · rw [hm]
    have e : j = j / 2 * 2 + 1 := by omega
    have := hc _ _ p2
    rw [← e, add_at] at this
    rw [this]
    simp only [encG, h2, id]
    rfl
/-- There is one order. -/
theorem sorted_same {l : List Rg} (hG : Good l) (h : ∀ p ∈ l, 0 ≤ p.1 ∧ p.1 ≤ MX) (d' : Array Sg) (hp : Sort.PermIn 0 (toG l h).toArray.size (toG l h).toArray d') (hs : Sort.SortedIn (ltOf cfG) 0 (toG l h).toArray.size d') : d' = (toG l h).toArray := by
  obtain ⟨h1, -, h2⟩ := hp
  have hsz : (toG l h).toArray.size = (toG l h).length := by simp
  have e1 : ((toG l h).toArray.extract 0 (toG l h).toArray.size).toList = toG l h := by simp
  have e2 : (d'.extract 0 (toG l h).toArray.size).toList = d'.toList := by rw [← h1]; simp
  rw [e1, e2] at h2
  have hpw : (toG l h).Pairwise (fun a b => a.1.1 < b.1.1) := by
    have : ((toG l h).map (·.1)).Pairwise (fun a b => a.2 + 1 < b.1) := by rw [toG_map]; exact hG.2
    rw [List.pairwise_map] at this
    refine List.Pairwise.imp_of_mem ?_ this
    intro a b ha _ hab
    have := (hG.1 a.1 (by rw [← toG_map l h]; exact List.mem_map_of_mem ha)).2.1
    omega
  have hpl : (toG l h).Pairwise (fun a b => a.1.1 ≤ b.1.1) := hpw.imp (fun h => by omega)
  have hpd : d'.toList.Pairwise (fun a b => a.1.1 ≤ b.1.1) := by
    rw [List.pairwise_iff_getElem]
    intro i j hi hj hij
    have hj' : j < d'.size := by simpa using hj
    have := hs i j (Nat.zero_le _) hij (by rw [← h1]; exact hj')
    rw [ltG, getElem!_pos d' j hj', getElem!_pos d' i (by omega)] at this
    simp at this ⊢
    omega
  have huniq : ∀ (L : List Sg), L.Pairwise (fun a b => a.1.1 < b.1.1) → ∀ a ∈ L, ∀ b ∈ L, a.1.1 = b.1.1 → a = b := by
    intro L hL
    induction L with
    | nil => intro a ha; simp at ha
    | cons x L ih =>
      obtain ⟨g1, g2⟩ := List.pairwise_cons.1 hL
      intro a ha b hb hab
      rcases List.mem_cons.1 ha with e1 | ha1
      · rcases List.mem_cons.1 hb with e2 | hb1
        · rw [e1, e2]
        · have := g1 b hb1; rw [e1] at hab; omega
      · rcases List.mem_cons.1 hb with e2 | hb1
        · have := g1 a ha1; rw [e2] at hab; omega
        · exact ih g2 a ha1 b hb1 hab
  have := List.Perm.eq_of_pairwise (le := fun a b : Sg => a.1.1 ≤ b.1.1) (fun a b ha hb h3 h4 => huniq _ hpw a (h2.subset ha) b hb (by omega)) hpd hpl h2
  rw [← this]
theorem ahead_eq (w : World) (n : Nat) : Below w.heap.size w (Sort.ahead w n) := ⟨rfl, rfl, rfl, Nat.le_refl _, fun _ _ => rfl⟩
set_option maxRecDepth 100000 in
theorem insert_none (A : Option Addr) (c : Nat) (f : Value) (w : World) : Calls Tryd.prog 120 #[.slice A 0 c, .int .i64 0, .int .i64 0, f] w fun e w' => (∃ v, e = .returned v) ∧ w' = w := by
  go_enter Tryd.func120, Tryd.ntmps120
  go_wp2
  refine wp_loop_rounds 1 ?_
  rw [rounds_succ]
  go_wp2
  go_end0
  exact ⟨⟨_, rfl⟩, rfl⟩
set_option maxRecDepth 100000 in
theorem pdq_none (A : Option Addr) (c : Nat) (lim f : Value) (w : World) : Calls Tryd.prog 117 #[.slice A 0 c, .int .i64 0, .int .i64 0, lim, f] w fun e w' => (∃ v, e = .returned v) ∧ w' = w := by
  go_enter Tryd.func117, Tryd.ntmps117
  go_wp2
  refine wp_loop_rounds 1 ?_
  rw [rounds_succ]
  go_wp2_with (go_at_call 120; refine (insert_none A c f _).mono ?_; rintro e w' ⟨⟨v, rfl⟩, rfl⟩)
  (try simp only [Exit.inBlock, Exit.then]); refine bodyPost_ret (results_none rfl _ _ _) rfl ?_
  exact ⟨⟨_, rfl⟩, rfl⟩
theorem len_zero (w : World) : Calls Tryd.prog 118 #[.int .u64 0] w fun e w' => (∃ l : Int, e = .returned (.int .i64 l)) ∧ w' = w :=
  (Any.bits_Len (SlLaysF0.n15.bits (P := Tryd.prog) (ρ := Tryd.lsort_ren) { Tryd.lsort with }) 0 w (by omega) (by omega)).mono fun e w' ⟨h1, h2⟩ => ⟨⟨_, h1⟩, h2⟩
set_option maxRecDepth 100000 in
theorem sortFunc_none (A : Option Addr) (c : Nat) (f : Value) (w : World) : Calls Tryd.prog 114 #[.slice A 0 c, f] w fun e w' => (∃ v, e = .returned v) ∧ w' = w := by
  go_enter Tryd.func114, Tryd.ntmps114
  go_wp2_with (first
    | (go_at_call 118; refine (len_zero _).mono ?_; rintro e w' ⟨⟨l, rfl⟩, rfl⟩)
    | (go_at_call 117; refine (pdq_none A c _ f _).mono ?_; rintro e w' ⟨⟨v, rfl⟩, rfl⟩))
  go_end0
  exact ⟨⟨_, rfl⟩, rfl⟩
set_option maxHeartbeats 1000000 in
theorem sortFunc_calls (v : Value) (l : List Rg) (w : World) (hl : Ls w 43 v l) (hG : Good l) (hlen : l.length ≤ 1000) :
    Calls Tryd.prog 114 #[v, .func (.func 110) #[] #[]] w fun e w' => (∃ u, e = .returned u) ∧ Below w.heap.size w w' := by
  have eg : ∀ args w, (callFunc 110 args).run Tryd.prog w = .ok (.enter 110 args) w := enters_of Tryd.func110 (by kernel_rfl) rfl
  have hB := good_inB hG
  obtain ⟨A, c, rfl, -, -, hA, -⟩ := Rw.form hl
  cases A with
  | none =>
    obtain ⟨h0, h1⟩ := hA rfl
    rw [h0]
    exact (sortFunc_none none c _ w).mono fun e w' ⟨he, hw⟩ => ⟨he, by rw [hw]; exact Below.refl _ _⟩
  | some ad =>
    obtain ⟨g, hg⟩ : ∃ g, ad = ⟨g, 0, none⟩ := by
      rcases hl.2 with ⟨h2, _⟩ | ⟨g, cap, cur, h2, _⟩
      · cases h2
      · cases h2; exact ⟨g, rfl⟩
    subst hg
    have hlt := Rw.lt hl g rfl
    have hH := holdsG hB hl
    have hcon := AnyQ.slices_SortFunc Tryd.lsort 2 Tryd.isAgg43 Tryd.sizeOf43 encG (fun _ => rfl) (fun x v hv => by simp [encG] at hv; rcases hv with rfl | rfl <;> rfl) cfG swoG 110 #[] g 0 c (toG l hB).toArray w eg (cmpLaysG g 0 _ w) hH hlt (by simp [toG_len]; omega)
    rw [show (toG l hB).toArray.size = l.length by simp [toG_len]] at hcon
    refine hcon.mono ?_
    rintro e w' ⟨rfl, d', n, os, hp, hs, rfl⟩
    refine ⟨⟨_, rfl⟩, ?_⟩
    have hd : d' = (toG l hB).toArray := sorted_same hG hB d' (by rwa [show (toG l hB).toArray.size = l.length by simp [toG_len]]) (by rwa [show (toG l hB).toArray.size = l.length by simp [toG_len]])
    subst hd
    unfold sortWorldK
    rw [putRowK_self _ _ _ _ _ _ (by intro j hj; exact hH j hj)]
    have h2 : Below w.heap.size w (grow (redrawn w (w.drawn + n)) os) := below_of_regrown ⟨⟨_, os⟩, rfl⟩
    exact h2
/-- slices.SortedFunc(outside(l, lo, hi), ..). -/
theorem sorted_outside (v : Value) (l : List Rg) (lo hi : Int) (w : World) (hl : Ls w 43 v l) (hG : Good l) (hlen : l.length ≤ 500) (hlo : -1000000000000000000 ≤ lo) (hhi : hi ≤ 1000000000000000000) (hlh : lo ≤ hi) (W : World) (hW : W = ((w.alloc (.cells #[v] 36)).alloc (.cells #[.int .i64 lo] 2)).alloc (.cells #[.int .i64 hi] 2)) :
    Calls Tryd.prog 109 #[.func (.func 113) #[] #[.pointer (some ⟨w.heap.size, 0, none⟩), .pointer (some ⟨w.heap.size + 1, 0, none⟩), .pointer (some ⟨w.heap.size + 2, 0, none⟩)], .func (.func 110) #[] #[]] W fun e w' =>
      ∃ v', e = .returned v' ∧ Ls w' 43 v' (outS l lo hi) ∧ (∀ g, v'.ownBlock = some g → w.heap.size < g) ∧ Below w.heap.size w w' := by
  have HC := Lib.hid (collect_outside v l lo hi w hl (by omega) hlo hhi hlh W hW)
  have HS := Lib.hid (fun v' w' (h : Ls w' 43 v' (outS l lo hi)) => sortFunc_calls v' (outS l lo hi) w' h (outS_good hG hlh) (by have := outS_len l lo hi; omega))
  clear hl hG hW hlen
  go_enter Tryd.func109, Tryd.ntmps109
  go_wp2_with (go_at_call 104; refine HC.out.mono ?_; rintro e w1 ⟨v', rfl, h1, h2, h3⟩; obtain ⟨A', c', rfl, -, -, -, -⟩ := Rw.form h1; have HX := Lib.hid (And.intro h1 (And.intro h2 h3)); clear h1 h2 h3)
  go_wp2_with (go_at_call 114; refine (HS.out _ _ HX.out.1).mono ?_; rintro e w2 ⟨⟨u, rfl⟩, hb⟩)
  go_ret
  exact ⟨_, rfl, HX.out.1.below hb, HX.out.2.1, HX.out.2.2.trans (hb.mono HX.out.2.2.size)⟩
end Go.Proofs.YthccppldpfddjaaDoor
