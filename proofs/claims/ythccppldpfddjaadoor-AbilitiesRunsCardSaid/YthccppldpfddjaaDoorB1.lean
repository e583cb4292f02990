/- with: the ranges with the values from lo to hi. -/
import Derived.Test.YthccppldpfddjaaDoorA9
import Derived.BigQuiet
import Derived.Deep.QuietTactic
import Derived.StillTailTactics
namespace Go.Proofs.YthccppldpfddjaaDoor
open Go.RowKit
set_option linter.unusedVariables false
theorem firstAt_spec (l : List Rg) (lo : Int) (k : Nat) (hk : k < l.length) (h : ∀ j, j < k → ∀ (hj : j < l.length), l[j].1 < lo) : (l[k].1 < lo → ∀ j, j < k + 1 → ∀ (hj : j < l.length), l[j].1 < lo) ∧ (¬ l[k].1 < lo → firstAt l lo = k) := by
  constructor
  · intro h1 j hj hj2
    by_cases e : j = k
    · subst e; exact h1
    · exact h j (by omega) hj2
  · intro h1
    unfold firstAt
    induction l generalizing k with
    | nil => simp at hk
    | cons r l ih =>
      cases k with
      | zero => rw [List.takeWhile_cons, if_neg (by simpa using h1)]; rfl
      | succ k =>
        have h0 := h 0 (by omega) (by simp)
        rw [List.takeWhile_cons, if_pos (by simpa using h0), List.length_cons]
        rw [ih k (by simpa using hk) (fun j hj hj2 => by have := h (j + 1) (by omega) (by simpa using hj2); simpa using this) (by simpa using h1)]
theorem firstAt_all (l : List Rg) (lo : Int) (h : ∀ j, j < l.length → ∀ (hj : j < l.length), l[j].1 < lo) : firstAt l lo = l.length := by
  unfold firstAt
  induction l with
  | nil => rfl
  | cons r l ih =>
    have h0 := h 0 (by simp) (by simp)
    rw [List.takeWhile_cons, if_pos (by simpa using h0), List.length_cons, ih (fun j hj hj2 => by have := h (j + 1) (by simpa using hj) (by simpa using hj); simpa using this), List.length_cons]
theorem outS_len2 {l : List Rg} {lo hi : Int} (h : l.length ≤ 51) : (outS l lo hi).length ≤ 102 := by have := outS_len l lo hi; omega
theorem pcells_set_hi (l : List Rg) (k : Nat) (hk : k < l.length) (x : Int) : (pcells l).set (k * 2 + 1) (.int .i64 x) = pcells (l.set k (l[k].1, x)) := by
  induction l generalizing k with
  | nil => simp at hk
  | cons p l ih =>
    cases k with
    | zero => simp [pcells]
    | succ k =>
      have := ih k (by simpa using hk)
      simp only [pcells, List.flatMap_cons, List.cons_append, List.nil_append, List.set_cons_succ, List.getElem_cons_succ] at this ⊢
      rw [show (k + 1) * 2 = (k * 2 + 1) + 1 by omega, List.set_cons_succ, this]
theorem Ls.set_hi {w : World} {e : TypeId} {v : Value} {l : List Rg} {g : Nat} (h : Ls w e v l) (hv : v.ownBlock = some g) (k : Nat) (hk : k < l.length) (x : Int) : Ls (w.setCell ⟨g, k * 2 + 1, none⟩ (.int .i64 x)) e v (l.set k (l[k].1, x)) := by
  refine ⟨by rw [pcells_len], ?_⟩
  rcases h.2 with ⟨rfl, _⟩ | ⟨g', cap, cur, rfl, hg, h1, h2, h3, h4⟩
  · simp [Value.ownBlock] at hv
  · simp only [Value.ownBlock, Option.some.injEq] at hv
    subst hv
    refine .inr ⟨g', cap, _, by rw [List.length_set], heap_setCell_same _ _ _ _ _ _ hg, by rw [List.length_set]; exact h1, h2, by simpa using h3, ?_⟩
    rw [List.length_set, ← pcells_set_hi l k hk x, ← h4]
    simp [List.take_set]
def okL (l : List Rg) : Prop := ∀ r ∈ l, okR r
theorem okL_fold (l : List Rg) (out : List Rg) (h1 : okL out) (h2 : okL l) : okL (l.foldl mstep out) := by
  induction l generalizing out with
  | nil => exact h1
  | cons r l ih =>
    refine ih _ ?_ (fun x hx => h2 x (List.mem_cons_of_mem _ hx))
    have hr := h2 r (List.mem_cons_self)
    unfold mstep
    cases hq : out.getLast? with
    | none =>
      intro x hx
      rcases List.mem_append.1 hx with hx | hx
      · exact h1 x hx
      · simp at hx; subst hx; exact hr
    | some q =>
      simp only
      have hqo : okR q := h1 q (List.mem_of_getLast? hq)
      split
      · intro x hx
        rcases List.mem_append.1 hx with hx | hx
        · exact h1 x (List.dropLast_subset _ hx)
        · simp at hx; subst hx
          unfold okR at *
          simp only
          omega
      · intro x hx
        rcases List.mem_append.1 hx with hx | hx
        · exact h1 x hx
        · simp at hx; subst hx; exact hr
theorem mstep_len (out : List Rg) (r : Rg) : (mstep out r).length ≤ out.length + 1 := by
  unfold mstep
  cases hq : out.getLast? with
  | none => simp
  | some q =>
    simp only
    split
    · simp
    · simp
theorem fold_len (l : List Rg) (out : List Rg) : (l.foldl mstep out).length ≤ out.length + l.length := by
  induction l generalizing out with
  | nil => simp
  | cons r l ih =>
    have h1 := ih (mstep out r)
    have h2 := mstep_len out r
    simp only [List.foldl_cons, List.length_cons]
    omega
theorem fold_take (l : List Rg) (k : Nat) (hk : k < l.length) : (l.take (k + 1)).foldl mstep [] = mstep ((l.take k).foldl mstep []) l[k] := by
  rw [List.take_succ_eq_append_getElem hk, List.foldl_append]
  rfl
/-- What the second loop of with holds of its result so far. -/
structure MI (w : World) (out : List Rg) (v : Value) (wr : World) : Prop where
  row : Ls wr 43 v out
  own : ∀ g, v.ownBlock = some g → w.heap.size ≤ g
  bel : Below w.heap.size w wr
theorem MI.appended {w : World} {out : List Rg} {x : Rg} {v v' : Value} {wr W1 w1 : World} (hI : MI w out v wr) (hW1 : Below wr.heap.size wr W1) (h1 : Rw w1 43 2 v' (out.length + 1) (pcells out ++ pcells [x])) (h2 : W1.grownBy w1 v.ownBlock) (h3 : v'.ownBlock = v.ownBlock ∨ v'.ownBlock = some W1.heap.size) : MI w (out ++ [x]) v' w1 := by
  have hb : Below w.heap.size w W1 := hI.bel.trans (hW1.mono hI.bel.size)
  refine ⟨?_, fun g hg => ?_, hb.grown h2 hb.size hI.own⟩
  · show Rw w1 43 2 v' (out ++ [x]).length (pcells (out ++ [x]))
    rw [pcells_append, List.length_append]
    exact h1
  · rcases h3 with e | e
    · exact hI.own g (by rw [← e]; exact hg)
    · rw [e] at hg; cases hg; exact hb.size
theorem MI.joined {w : World} {out : List Rg} {q : Rg} {v : Value} {wr W1 : World} {g : Nat} (hI : MI w (out ++ [q]) v wr) (hW1 : Below wr.heap.size wr W1) (hg : v.ownBlock = some g) (x : Int) : MI w (out ++ [(q.1, x)]) v (W1.setCell ⟨g, out.length * 2 + 1, none⟩ (.int .i64 x)) := by
  have hb : Below w.heap.size w W1 := hI.bel.trans (hW1.mono hI.bel.size)
  refine ⟨?_, hI.own, hb.setCell (hI.own g hg) _⟩
  have h1 := (hI.row.below hW1).set_hi hg out.length (by simp) x
  simpa using h1
theorem below_dN {B : Nat} {w w' : World} (h : Below B w w') (n : Nat) : Below B w (w'.drewN n) := ⟨h.os, h.tape, h.output, h.size, h.block⟩
theorem two_cells {w : World} {g : Nat} {a b : Value} {t : TypeId} (h : w.heap[g]? = some (.cells #[a, b] t (0, 0))) : w.cell? ⟨g, 0, none⟩ = some a ∧ w.cell? ⟨g, 1, none⟩ = some b := by
  refine ⟨?_, ?_⟩ <;> rw [cell_of_row _ _ _ _ _ _ h] <;> rfl
theorem news_at {w : World} {g : Nat} {r : Rg} (h : w.heap[g]? = some (.cells #[.int .i64 r.1, .int .i64 r.2] 43 (0, 0))) : ∀ ad, some (⟨g, 0, none⟩ : Addr) = some ad → ∀ j u, (pcells [r])[j]? = some u → w.cell? (ad.add j) = some u := by
  rintro ad e j u hj
  cases e
  rw [add_at, cell_of_row _ _ _ _ _ _ h]
  simpa [pcells] using hj
/-- What the first loop of with holds: the ranges ahead of k begin below lo. -/
def Ahead (l : List Rg) (lo : Int) (k : Nat) : Prop := ∀ j, j < k → ∀ (hj : j < l.length), l[j].1 < lo
set_option maxHeartbeats 4000000 in
set_option maxRecDepth 100000 in
theorem with_calls (v : Value) (l : List Rg) (lo hi : Int) (w : World) (hl : Ls w 43 v l) (hG : Good l) (hlen : l.length ≤ 51) (hb : okR (lo, hi)) :
    Calls Tryd.prog 102 #[v, .int .i64 lo, .int .i64 hi] w fun e w' => ∃ v', e = .returned v' ∧ Ls w' 43 v' (withR l lo hi) ∧ Below w.heap.size w w' := by
  obtain ⟨A, c, rfl, -, -, -, -⟩ := Rw.form hl
  unfold okR MX at hb
  simp only at hb
  obtain ⟨hb0, hb1, hb2⟩ := hb
  have HS := Lib.hid (fun W hW => sorted_outside (.slice A l.length c) l lo hi w hl hG (by omega) (by omega) (by omega) (by omega) W hW)
  have HP := Lib.hid (And.intro (withP_eq hG hb1) (outS_len2 (lo := lo) (hi := hi) hlen))
  have HGo := Lib.hid (outS_good hG hb1)
  clear hl hG hlen
  go_enter Tryd.func102, Tryd.ntmps102
  go_wp2_with (first
    | (go_at_call 105; refine (outside_calls A l.length c lo hi _).mono ?_; rintro e w1 ⟨rfl, rfl⟩)
    | (go_at_call 109; refine (HS.out _ rfl).mono ?_; rintro e w1 ⟨v1, rfl, h1, h2, h3⟩; obtain ⟨A1, c1, rfl, -, -, -, -⟩ := Rw.form h1; have HX := Lib.hid (And.intro h1 (And.intro h2 h3)); clear h1 h2 h3))
  clear HS
  have HX1 := Lib.hid (show withP l lo hi = ((outS l lo hi).take (firstAt (outS l lo hi) lo) ++ (lo, hi) :: (outS l lo hi).drop (firstAt (outS l lo hi) lo)).foldl mstep [] from rfl)
  generalize outS l lo hi = o at *
  go_loopw [7] (fun i wr => ∃ k : Nat, k ≤ o.length ∧ i = .int .i64 k ∧ wr = w1 ∧ Hid (Ahead o lo k)) (fun i _ => o.length - (intOf i).toNat)
  case atStart => exact ⟨0, by omega, rfl, rfl, Lib.hid (fun j hj => by omega)⟩
  case round =>
    obtain ⟨k, hk, rfl, rfl, HI⟩ := hrel
    have hol : (o.length : Int) ≤ 102 := by have := HP.out.2; omega
    by_cases hlt : k < o.length
    · have hlt' : (k : Int) < (o.length : Int) := by omega
      obtain ⟨g, rfl, hg, q1, q2⟩ := Ls.at HX.out.1 rfl hlt
      have hsp := firstAt_spec o lo k hlt HI.out
      by_cases hlo : o[k].1 < lo
      · have HN := Lib.hid (hsp.1 hlo)
        clear hsp
        generalize o[k].1 = a at *
        go_wp2
        go_roundw
        case rel => exact ⟨k + 1, by omega, by go_num, trivial, HN⟩
        case measure => simp [intOf]; omega
      · have HK := Lib.hid (hsp.2 hlo)
        clear hsp
        generalize o[k].1 = a at *
        obtain ⟨L, hLdef⟩ : ∃ L, L = o.take k ++ (lo, hi) :: o.drop k := ⟨_, rfl⟩
        have HL := Lib.hid (insert_calls (w.heap.size + 1) _ o (lo, hi) k wr.heap.size (wr.alloc (.cells #[.int .i64 lo, .int .i64 hi] 43)) (HX.out.1.below ((Below.refl _ _).alloc (Nat.le_refl _) _)) (by omega) (fun g hg => HX.out.2.1 g hg) (by have := HX.out.2.2.size; simp; omega) (heap_alloc_new wr _) (fun e => by have := Rw.lt HX.out.1 _ e; omega) (by have := HP.out.2; omega))
        rw [← hLdef] at HL
        have HF := Lib.hid (show withR l lo hi = L.foldl mstep [] from by rw [← HP.out.1, HX1.out, HK.out, hLdef])
        have HO := Lib.hid (show okL L from by
          intro r hr
          rw [hLdef] at hr
          rcases List.mem_append.1 hr with hr | hr
          · exact HGo.out.1 r (List.mem_of_mem_take hr)
          · rcases List.mem_cons.1 hr with rfl | hr
            · exact ⟨by simpa using hb0, by simpa using hb1, by unfold MX; simpa using hb2⟩
            · exact HGo.out.1 r (List.mem_of_mem_drop hr))
        have HLn := Lib.hid (show L.length ≤ 103 from by have := HP.out.2; rw [hLdef]; simp; omega)
        clear hLdef
        go_wp2_with (go_at_call 111; refine HL.out.mono ?_; rintro e w2 ⟨v2, rfl, h1, h2, h3⟩; obtain ⟨A2, c2, rfl, -, -, -, -⟩ := Rw.form h1; have HY := Lib.hid (And.intro h1 (And.intro h2 h3)); clear h1 h2 h3)
        have HLL := Lib.hid (And.intro HF.out (And.intro HO.out HLn.out))
        have HXB := Lib.hid (show Below w.heap.size w w2 from (HX.out.2.2.trans (((Below.refl _ wr).alloc (Nat.le_refl _) _).mono HX.out.2.2.size)).trans (HY.out.2.2.mono (by omega)))
        clear HF HO HLn HL HX HX1 HP HGo HK HI
        have hLl : (L.length : Int) ≤ 103 := by have := HLL.out.2.2; omega
        go_loopw [40, 8] (fun i x wr => ∃ j : Nat, j ≤ L.length ∧ i = .int .i64 j ∧ Hid (MI w2 ((L.take j).foldl mstep []) x wr)) (fun i _ _ => L.length - (intOf i).toNat)
        case atStart => exact ⟨0, by omega, rfl, Lib.hid ⟨ls_nil _ _, by simp [Value.ownBlock], Below.refl _ _⟩⟩
        case round =>
          obtain ⟨j, hj, rfl, HI⟩ := hrel
          obtain ⟨A8, c8, rfl, hcap8, -, -, -⟩ := Rw.form HI.out.row
          by_cases hlt2 : j < L.length
          · have hlt2' : (j : Int) < (L.length : Int) := by omega
            obtain ⟨g2, rfl, hg2, q1, q2⟩ := Ls.at HY.out.1 rfl hlt2
            have hg2lt := Rw.lt HY.out.1 g2 hg2
            have q1' : wr.cell? ⟨g2, j * 2, none⟩ = some (.int .i64 L[j].1) := (HI.out.bel.cell (p := ⟨g2, j * 2, none⟩) hg2lt).trans q1
            have q2' : wr.cell? ⟨g2, j * 2 + 1, none⟩ = some (.int .i64 L[j].2) := (HI.out.bel.cell (p := ⟨g2, j * 2 + 1, none⟩) hg2lt).trans q2
            have HT := Lib.hid (And.intro (fold_take L j hlt2) (And.intro (HLL.out.2.1 L[j] (List.getElem_mem hlt2)) (And.intro (okL_fold (L.take j) [] (by simp [okL]) (fun x hx => HLL.out.2.1 x (List.mem_of_mem_take hx))) (by have := fold_len (L.take j) []; simp at this; have := HLL.out.2.2; omega : ((L.take j).foldl mstep []).length ≤ 103))))
            clear q1 q2 hg2 hg2lt
            generalize L[j] = r at *
            generalize (L.take j).foldl mstep [] = out at *
            obtain ⟨ra, rb⟩ := r
            simp only at q1' q2'
            have hra : 0 ≤ ra ∧ ra ≤ rb ∧ rb ≤ 1099511627776 := HT.out.2.1
            have hXX := fun nq => below_dN (((Below.refl wr.heap.size wr).alloc (Nat.le_refl _) (.cells #[.int .i64 ra, .int .i64 rb] 43)).alloc (by simp) (.cells #[.int .i64 ra, .int .i64 rb] 43)) nq
            have hYY : ∀ nq, (((wr.alloc (.cells #[.int .i64 ra, .int .i64 rb] 43)).alloc (.cells #[.int .i64 ra, .int .i64 rb] 43)).drewN nq).heap[wr.heap.size + 1]? = some (.cells #[.int .i64 ra, .int .i64 rb] 43 (0, 0)) := by
              intro nq
             
              have := heap_alloc_new (wr.alloc (.cells #[.int .i64 ra, .int .i64 rb] 43)) (.cells #[.int .i64 ra, .int .i64 rb] 43)
              rwa [World.size_alloc] at this
            have HZZ := Lib.hid (And.intro hXX hYY)
            clear hXX hYY
            obtain ⟨i0, hi0, hz0, hz1, hz2⟩ := info_parts info43
            rcases List.eq_nil_or_concat out with rfl | ⟨out', q, hcc⟩
            · go_wp2
              go_quiet (fail)
              go_wp2_with (at_builtin; refine wpList_append_rw _ rfl (.tmp 74) (.tmp 76) 36 rfl 43 i0 (.agg #[.int .i64 0, .int .i64 0]) 2 16 Tryd.underlying36 hi0 hz0 hz1 hz2 rfl (by decide) _ _ _ rfl (HI.out.row.below (HZZ.out.1 nq)) (some ⟨wr.heap.size + 1, 0, none⟩) 1 1 (pcells [(ra, rb)]) rfl rfl (news_at (r := (ra, rb)) (HZZ.out.2 nq)) (by simp) (pcells_one _) (by unfold maxLen; simp) (by simp) ?_; intro v' w5 h1 h2 h3 h4; have HM := Lib.hid (MI.appended HI.out (HZZ.out.1 nq) h1 h2 h3); obtain ⟨A5, c5, rfl, -, -, -, -⟩ := Rw.form h1; clear h1 h2 h3 h4)
              go_roundw
              case rel => exact ⟨j + 1, by omega, by go_num, Lib.hid (by rw [HT.out.1]; exact HM.out)⟩
              case measure => simp [intOf]; omega
            · rw [List.concat_eq_append] at hcc
              subst hcc
              obtain ⟨qa, qb⟩ := q
              have hql := HT.out.2.2.2
              have hqk : okR (qa, qb) := HT.out.2.2.1 (qa, qb) (by simp)
              have hqb : 0 ≤ qa ∧ qa ≤ qb ∧ qb ≤ 1099511627776 := hqk
              obtain ⟨g8, rfl, hg8, u1, u2⟩ := Ls.at HI.out.row (l := out' ++ [(qa, qb)]) rfl (k := out'.length) (by simp)
              simp only [List.getElem_concat_length] at u1 u2
              have hlt8 := Rw.lt HI.out.row g8 hg8
              have u2' : (wr.alloc (.cells #[.int .i64 ra, .int .i64 rb] 43)).cell? ⟨g8, out'.length * 2 + 1, none⟩ = some (.int .i64 qb) := (Below.cell ((Below.refl wr.heap.size wr).alloc (Nat.le_refl _) _) (p := ⟨g8, out'.length * 2 + 1, none⟩) hlt8).trans u2
              obtain ⟨cur8, hcur8⟩ := Rw.ty HI.out.row g8 hg8
              have uf : (wr.alloc (.cells #[.int .i64 ra, .int .i64 rb] 43)).frozen? ⟨g8, out'.length * 2 + 1, none⟩ = false := frozen_of_row _ g8 _ _ _ ((Below.heap_alloc wr _ _ hlt8).trans hcur8)
              have HG8 := Lib.hid hg8
              clear u1 u2 hqk hcur8 hg8 hlt8
              have l1 : (out' ++ [(qa, qb)]).length = out'.length + 1 := by simp
              have l2 : ((out' ++ [(qa, qb)]).length : Int) = (out'.length : Int) + 1 := by simp
              rw [l1] at hcap8 hql
              have HR := Lib.hid (show Ls wr 43 (.slice (some ⟨g8, 0, none⟩) (out'.length + 1) c8) (out' ++ [(qa, qb)]) from by have := HI.out.row; rwa [l1] at this)
              by_cases hjn : ra ≤ qb + 1
              · have HMS := Lib.hid (mstep_join (out := out') (q := (qa, qb)) (r := (ra, rb)) hjn)
                go_wp2
                go_quiet (fail)
                go_wp2
                have hbx : ((wr.alloc (.cells #[.int .i64 ra, .int .i64 rb] 43)).drewN nq).heap[wr.heap.size]? = some (.cells #[.int .i64 ra, .int .i64 rb] 43 (0, 0)) := heap_alloc_new wr _
                obtain ⟨k0, k1⟩ := two_cells hbx
                have k2 : ((wr.alloc (.cells #[.int .i64 ra, .int .i64 rb] 43)).drewN nq).cell? ⟨g8, out'.length * 2 + 1, none⟩ = some (.int .i64 qb) := u2'
                have k3 : ((wr.alloc (.cells #[.int .i64 ra, .int .i64 rb] 43)).drewN nq).frozen? ⟨g8, out'.length * 2 + 1, none⟩ = false := uf
                have HBQ := Lib.hid (below_dN ((Below.refl wr.heap.size wr).alloc (Nat.le_refl _) (.cells #[.int .i64 ra, .int .i64 rb] 43)) nq)
                clear hbx u2' uf
                generalize (wr.alloc (.cells #[.int .i64 ra, .int .i64 rb] 43)).drewN nq = wq at *
                have hwrp : IntKind.i64.wrap (out'.length : Int) = (out'.length : Int) := by rw [IntKind.wrap_i64]; omega
                have hlt1 : (out'.length : Int) < (out'.length : Int) + 1 := by omega
                go_still_tail 14, (by kernel_rfl)
                change wpList _ _ _ _ _ wq.drew
                go_wp2
                go_roundw
                case rel =>
                  refine ⟨j + 1, by omega, by go_num, Lib.hid ?_⟩
                  rw [HT.out.1, HMS.out]
                  have h9 := MI.joined HI.out HBQ.out (g := g8) rfl (max qb rb)
                  rw [l1] at h9
                  exact ⟨h9.row, h9.own, h9.bel.drew⟩
                case measure => simp [intOf]; omega
              · have HMS := Lib.hid (mstep_apart (out := out') (q := (qa, qb)) (r := (ra, rb)) (by simp only; omega))
                go_wp2
                go_quiet (fail)
                go_wp2_with (at_builtin; refine wpList_append_rw _ rfl (.tmp 74) (.tmp 76) 36 rfl 43 i0 (.agg #[.int .i64 0, .int .i64 0]) 2 16 Tryd.underlying36 hi0 hz0 hz1 hz2 rfl (by decide) _ _ _ rfl (HR.out.below (HZZ.out.1 nq)) (some ⟨wr.heap.size + 1, 0, none⟩) 1 1 (pcells [(ra, rb)]) rfl rfl (news_at (r := (ra, rb)) (HZZ.out.2 nq)) (by simp) (pcells_one _) (by unfold maxLen; rw [l1]; omega) (by rw [l1]; omega) ?_; intro v' w5 h1 h2 h3 h4; have HM := Lib.hid (MI.appended HI.out (HZZ.out.1 nq) h1 h2 h3); obtain ⟨A5, c5, rfl, -, -, -, -⟩ := Rw.form h1; clear h1 h2 h3 h4)
                go_roundw
                case rel => exact ⟨j + 1, by omega, by go_num, Lib.hid (by rw [HT.out.1, HMS.out]; have := HM.out; rw [l1] at this; exact this)⟩
                case measure => simp [intOf]; omega
          · have hge2 : ¬ ((j : Int) < (L.length : Int)) := by omega
            have hjL : j = L.length := by omega
            have HE : Hid (MI w2 (withR l lo hi) (.slice A8 (L.foldl mstep []).length c8) wr) := Lib.hid (by have := HI.out; rw [HLL.out.1]; rwa [hjL, List.take_length] at this)
            go_wp2
            go_ret
            exact ⟨_, rfl, HE.out.row, HXB.out.trans (HE.out.bel.mono HXB.out.size)⟩
    · have hge : ¬ ((k : Int) < (o.length : Int)) := by omega
      have HK : Hid (firstAt o lo = k) := Lib.hid (by rw [firstAt_all o lo (by have := HI.out; rwa [show k = o.length by omega] at this)]; omega)
      obtain ⟨L, hLdef⟩ : ∃ L, L = o.take k ++ (lo, hi) :: o.drop k := ⟨_, rfl⟩
      have HL := Lib.hid (insert_calls (w.heap.size + 1) _ o (lo, hi) k wr.heap.size (wr.alloc (.cells #[.int .i64 lo, .int .i64 hi] 43)) (HX.out.1.below ((Below.refl _ _).alloc (Nat.le_refl _) _)) (by omega) (fun g hg => HX.out.2.1 g hg) (by have := HX.out.2.2.size; simp; omega) (heap_alloc_new wr _) (fun e => by have := Rw.lt HX.out.1 _ e; omega) (by have := HP.out.2; omega))
      rw [← hLdef] at HL
      have HF := Lib.hid (show withR l lo hi = L.foldl mstep [] from by rw [← HP.out.1, HX1.out, HK.out, hLdef])
      have HO := Lib.hid (show okL L from by
        intro r hr
        rw [hLdef] at hr
        rcases List.mem_append.1 hr with hr | hr
        · exact HGo.out.1 r (List.mem_of_mem_take hr)
        · rcases List.mem_cons.1 hr with rfl | hr
          · exact ⟨by simpa using hb0, by simpa using hb1, by unfold MX; simpa using hb2⟩
          · exact HGo.out.1 r (List.mem_of_mem_drop hr))
      have HLn := Lib.hid (show L.length ≤ 103 from by have := HP.out.2; rw [hLdef]; simp; omega)
      clear hLdef
      go_wp2_with (go_at_call 111; refine HL.out.mono ?_; rintro e w2 ⟨v2, rfl, h1, h2, h3⟩; obtain ⟨A2, c2, rfl, -, -, -, -⟩ := Rw.form h1; have HY := Lib.hid (And.intro h1 (And.intro h2 h3)); clear h1 h2 h3)
      have HLL := Lib.hid (And.intro HF.out (And.intro HO.out HLn.out))
      have HXB := Lib.hid (show Below w.heap.size w w2 from (HX.out.2.2.trans (((Below.refl _ wr).alloc (Nat.le_refl _) _).mono HX.out.2.2.size)).trans (HY.out.2.2.mono (by omega)))
      clear HF HO HLn HL HX HX1 HP HGo HK HI
      have hLl : (L.length : Int) ≤ 103 := by have := HLL.out.2.2; omega
      go_loopw [40, 8] (fun i x wr => ∃ j : Nat, j ≤ L.length ∧ i = .int .i64 j ∧ Hid (MI w2 ((L.take j).foldl mstep []) x wr)) (fun i _ _ => L.length - (intOf i).toNat)
      case atStart => exact ⟨0, by omega, rfl, Lib.hid ⟨ls_nil _ _, by simp [Value.ownBlock], Below.refl _ _⟩⟩
      case round =>
        obtain ⟨j, hj, rfl, HI⟩ := hrel
        obtain ⟨A8, c8, rfl, hcap8, -, -, -⟩ := Rw.form HI.out.row
        by_cases hlt2 : j < L.length
        · have hlt2' : (j : Int) < (L.length : Int) := by omega
          obtain ⟨g2, rfl, hg2, q1, q2⟩ := Ls.at HY.out.1 rfl hlt2
          have hg2lt := Rw.lt HY.out.1 g2 hg2
          have q1' : wr.cell? ⟨g2, j * 2, none⟩ = some (.int .i64 L[j].1) := (HI.out.bel.cell (p := ⟨g2, j * 2, none⟩) hg2lt).trans q1
          have q2' : wr.cell? ⟨g2, j * 2 + 1, none⟩ = some (.int .i64 L[j].2) := (HI.out.bel.cell (p := ⟨g2, j * 2 + 1, none⟩) hg2lt).trans q2
          have HT := Lib.hid (And.intro (fold_take L j hlt2) (And.intro (HLL.out.2.1 L[j] (List.getElem_mem hlt2)) (And.intro (okL_fold (L.take j) [] (by simp [okL]) (fun x hx => HLL.out.2.1 x (List.mem_of_mem_take hx))) (by have := fold_len (L.take j) []; simp at this; have := HLL.out.2.2; omega : ((L.take j).foldl mstep []).length ≤ 103))))
          clear q1 q2 hg2 hg2lt
          generalize L[j] = r at *
          generalize (L.take j).foldl mstep [] = out at *
          obtain ⟨ra, rb⟩ := r
          simp only at q1' q2'
          have hra : 0 ≤ ra ∧ ra ≤ rb ∧ rb ≤ 1099511627776 := HT.out.2.1
          have hXX := fun nq => below_dN (((Below.refl wr.heap.size wr).alloc (Nat.le_refl _) (.cells #[.int .i64 ra, .int .i64 rb] 43)).alloc (by simp) (.cells #[.int .i64 ra, .int .i64 rb] 43)) nq
          have hYY : ∀ nq, (((wr.alloc (.cells #[.int .i64 ra, .int .i64 rb] 43)).alloc (.cells #[.int .i64 ra, .int .i64 rb] 43)).drewN nq).heap[wr.heap.size + 1]? = some (.cells #[.int .i64 ra, .int .i64 rb] 43 (0, 0)) := by
            intro nq
           
            have := heap_alloc_new (wr.alloc (.cells #[.int .i64 ra, .int .i64 rb] 43)) (.cells #[.int .i64 ra, .int .i64 rb] 43)
            rwa [World.size_alloc] at this
          have HZZ := Lib.hid (And.intro hXX hYY)
          clear hXX hYY
          obtain ⟨i0, hi0, hz0, hz1, hz2⟩ := info_parts info43
          rcases List.eq_nil_or_concat out with rfl | ⟨out', q, hcc⟩
          · go_wp2
            go_quiet (fail)
            go_wp2_with (at_builtin; refine wpList_append_rw _ rfl (.tmp 74) (.tmp 76) 36 rfl 43 i0 (.agg #[.int .i64 0, .int .i64 0]) 2 16 Tryd.underlying36 hi0 hz0 hz1 hz2 rfl (by decide) _ _ _ rfl (HI.out.row.below (HZZ.out.1 nq)) (some ⟨wr.heap.size + 1, 0, none⟩) 1 1 (pcells [(ra, rb)]) rfl rfl (news_at (r := (ra, rb)) (HZZ.out.2 nq)) (by simp) (pcells_one _) (by unfold maxLen; simp) (by simp) ?_; intro v' w5 h1 h2 h3 h4; have HM := Lib.hid (MI.appended HI.out (HZZ.out.1 nq) h1 h2 h3); obtain ⟨A5, c5, rfl, -, -, -, -⟩ := Rw.form h1; clear h1 h2 h3 h4)
            go_roundw
            case rel => exact ⟨j + 1, by omega, by go_num, Lib.hid (by rw [HT.out.1]; exact HM.out)⟩
            case measure => simp [intOf]; omega
          · rw [List.concat_eq_append] at hcc
            subst hcc
            obtain ⟨qa, qb⟩ := q
            have hql := HT.out.2.2.2
            have hqk : okR (qa, qb) := HT.out.2.2.1 (qa, qb) (by simp)
            have hqb : 0 ≤ qa ∧ qa ≤ qb ∧ qb ≤ 1099511627776 := hqk
            obtain ⟨g8, rfl, hg8, u1, u2⟩ := Ls.at HI.out.row (l := out' ++ [(qa, qb)]) rfl (k := out'.length) (by simp)
            simp only [List.getElem_concat_length] at u1 u2
            have hlt8 := Rw.lt HI.out.row g8 hg8
            have u2' : (wr.alloc (.cells #[.int .i64 ra, .int .i64 rb] 43)).cell? ⟨g8, out'.length * 2 + 1, none⟩ = some (.int .i64 qb) := (Below.cell ((Below.refl wr.heap.size wr).alloc (Nat.le_refl _) _) (p := ⟨g8, out'.length * 2 + 1, none⟩) hlt8).trans u2
            obtain ⟨cur8, hcur8⟩ := Rw.ty HI.out.row g8 hg8
            have uf : (wr.alloc (.cells #[.int .i64 ra, .int .i64 rb] 43)).frozen? ⟨g8, out'.length * 2 + 1, none⟩ = false := frozen_of_row _ g8 _ _ _ ((Below.heap_alloc wr _ _ hlt8).trans hcur8)
            have HG8 := Lib.hid hg8
            clear u1 u2 hqk hcur8 hg8 hlt8
            have l1 : (out' ++ [(qa, qb)]).length = out'.length + 1 := by simp
            have l2 : ((out' ++ [(qa, qb)]).length : Int) = (out'.length : Int) + 1 := by simp
            rw [l1] at hcap8 hql
            have HR := Lib.hid (show Ls wr 43 (.slice (some ⟨g8, 0, none⟩) (out'.length + 1) c8) (out' ++ [(qa, qb)]) from by have := HI.out.row; rwa [l1] at this)
            by_cases hjn : ra ≤ qb + 1
            · have HMS := Lib.hid (mstep_join (out := out') (q := (qa, qb)) (r := (ra, rb)) hjn)
              go_wp2
              go_quiet (fail)
              go_wp2
              have hbx : ((wr.alloc (.cells #[.int .i64 ra, .int .i64 rb] 43)).drewN nq).heap[wr.heap.size]? = some (.cells #[.int .i64 ra, .int .i64 rb] 43 (0, 0)) := heap_alloc_new wr _
              obtain ⟨k0, k1⟩ := two_cells hbx
              have k2 : ((wr.alloc (.cells #[.int .i64 ra, .int .i64 rb] 43)).drewN nq).cell? ⟨g8, out'.length * 2 + 1, none⟩ = some (.int .i64 qb) := u2'
              have k3 : ((wr.alloc (.cells #[.int .i64 ra, .int .i64 rb] 43)).drewN nq).frozen? ⟨g8, out'.length * 2 + 1, none⟩ = false := uf
              have HBQ := Lib.hid (below_dN ((Below.refl wr.heap.size wr).alloc (Nat.le_refl _) (.cells #[.int .i64 ra, .int .i64 rb] 43)) nq)
              clear hbx u2' uf
              generalize (wr.alloc (.cells #[.int .i64 ra, .int .i64 rb] 43)).drewN nq = wq at *
              have hwrp : IntKind.i64.wrap (out'.length : Int) = (out'.length : Int) := by rw [IntKind.wrap_i64]; omega
              have hlt1 : (out'.length : Int) < (out'.length : Int) + 1 := by omega
              go_still_tail 14, (by kernel_rfl)
              change wpList _ _ _ _ _ wq.drew
              go_wp2
              go_roundw
              case rel =>
                refine ⟨j + 1, by omega, by go_num, Lib.hid ?_⟩
                rw [HT.out.1, HMS.out]
                have h9 := MI.joined HI.out HBQ.out (g := g8) rfl (max qb rb)
                rw [l1] at h9
                exact ⟨h9.row, h9.own, h9.bel.drew⟩
              case measure => simp [intOf]; omega
            · have HMS := Lib.hid (mstep_apart (out := out') (q := (qa, qb)) (r := (ra, rb)) (by simp only; omega))
              go_wp2
              go_quiet (fail)
              go_wp2_with (at_builtin; refine wpList_append_rw _ rfl (.tmp 74) (.tmp 76) 36 rfl 43 i0 (.agg #[.int .i64 0, .int .i64 0]) 2 16 Tryd.underlying36 hi0 hz0 hz1 hz2 rfl (by decide) _ _ _ rfl (HR.out.below (HZZ.out.1 nq)) (some ⟨wr.heap.size + 1, 0, none⟩) 1 1 (pcells [(ra, rb)]) rfl rfl (news_at (r := (ra, rb)) (HZZ.out.2 nq)) (by simp) (pcells_one _) (by unfold maxLen; rw [l1]; omega) (by rw [l1]; omega) ?_; intro v' w5 h1 h2 h3 h4; have HM := Lib.hid (MI.appended HI.out (HZZ.out.1 nq) h1 h2 h3); obtain ⟨A5, c5, rfl, -, -, -, -⟩ := Rw.form h1; clear h1 h2 h3 h4)
              go_roundw
              case rel => exact ⟨j + 1, by omega, by go_num, Lib.hid (by rw [HT.out.1, HMS.out]; have := HM.out; rw [l1] at this; exact this)⟩
              case measure => simp [intOf]; omega
        · have hge2 : ¬ ((j : Int) < (L.length : Int)) := by omega
          have hjL : j = L.length := by omega
          have HE : Hid (MI w2 (withR l lo hi) (.slice A8 (L.foldl mstep []).length c8) wr) := Lib.hid (by have := HI.out; rw [HLL.out.1]; rwa [hjL, List.take_length] at this)
          go_wp2
          go_ret
          exact ⟨_, rfl, HE.out.row, HXB.out.trans (HE.out.bel.mono HXB.out.size)⟩
end Go.Proofs.YthccppldpfddjaaDoor
