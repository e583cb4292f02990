/- The reference's rights: SameRight (53). -/
import Derived.Test.YthccppldpfddjaaDoorA3
import Derived.Test.YthccppldpfddjaaDoorqP
import Derived.DeepKeys
namespace Go.Proofs.YthccppldpfddjaaDoor
open Go.RowKit
set_option linter.unusedVariables false
theorem below_dQ {B : Nat} {w w' : World} (h : Below B w w') (n : Nat) : Below B w (w'.drewN n) := ⟨h.os, h.tape, h.output, h.size, h.block⟩
theorem rneq116 (a b c d : Int) (w : World) : (binOp .neq 116 (.agg #[.int .i64 a, .int .i64 b]) (.agg #[.int .i64 c, .int .i64 d])).run Tryd.prog w = .ok (.bool (!(a == c && b == d))) w := by
  have p0 : (part 2 (#[.int .i64 a, .int .i64 b] : Array Value) 0).run Tryd.prog w = .ok (.int .i64 a) w := run_part_plain w (by kernel_rfl) rfl
  have p1 : (part 2 (#[.int .i64 a, .int .i64 b] : Array Value) 1).run Tryd.prog w = .ok (.int .i64 b) w := run_part_plain w (by kernel_rfl) rfl
  have r0 : (part 2 (#[.int .i64 c, .int .i64 d] : Array Value) 0).run Tryd.prog w = .ok (.int .i64 c) w := run_part_plain w (by kernel_rfl) rfl
  have r1 : (part 2 (#[.int .i64 c, .int .i64 d] : Array Value) 1).run Tryd.prog w = .ok (.int .i64 d) w := run_part_plain w (by kernel_rfl) rfl
  have hf : (Tryd.prog.fieldsOf 116).toList = [(Tryd.prog.fieldsOf 116)[0]!, (Tryd.prog.fieldsOf 116)[1]!] := by kernel_rfl
  have a0 : ((Tryd.prog.fieldsOf 116)[0]!).type = 2 := by kernel_rfl
  have a1 : ((Tryd.prog.fieldsOf 116)[1]!).type = 2 := by kernel_rfl
  have b0 : ((Tryd.prog.fieldsOf 116)[0]!).offset = 0 := by kernel_rfl
  have b1 : ((Tryd.prog.fieldsOf 116)[1]!).offset = 1 := by kernel_rfl
  have c0 : ((Tryd.prog.fieldsOf 116)[0]!).name ≠ "_" := beq_eq_false_iff_ne.1 (by kernel_rfl)
  have c1 : ((Tryd.prog.fieldsOf 116)[1]!).name ≠ "_" := beq_eq_false_iff_ne.1 (by kernel_rfl)
  have u0 : Tryd.prog.underlying 2 = some (.int .i64) := by kernel_rfl
  rw [run_neq_struct, run_equalIn_agg w 9999 116 _ _ (by kernel_rfl) (by kernel_rfl), hf]
  generalize (Tryd.prog.fieldsOf 116)[0]! = f0 at *
  generalize (Tryd.prog.fieldsOf 116)[1]! = f1 at *
  simp only [Op.eqFields, ne_eq, c0, c1, not_false_eq_true, if_true, a0, a1, b0, b1, Sem.run_bind, p0, p1, r0, r1, Result.andThen_ok, run_equalIn_int w 9998 2 .i64 .i64 _ _ u0]
  by_cases h1 : a = c
  · by_cases h2 : b = d
    · subst h1 h2; simp [Op.eqFields, Sem.run_bind, p1, r1, run_equalIn_int w 9998 2 .i64 .i64 _ _ u0, Sem.run_pure]
    · have : (b == d) = false := by simpa using h2
      subst h1; simp [Op.eqFields, Sem.run_bind, p1, r1, run_equalIn_int w 9998 2 .i64 .i64 _ _ u0, Sem.run_pure, this]
  · have : (a == c) = false := by simpa using h1
    simp [Op.eqFields, Sem.run_pure, this]
theorem rtake_eq_snoc {l m : List Rg} {k : Nat} (h1 : k < l.length) (h2 : k < m.length) : l.take (k + 1) = m.take (k + 1) ↔ l.take k = m.take k ∧ l[k] = m[k] := by
  rw [List.take_succ_eq_append_getElem h1, List.take_succ_eq_append_getElem h2]
  constructor
  · intro h
    have := List.append_inj' h rfl
    exact ⟨this.1, by simpa using this.2⟩
  · rintro ⟨h3, h4⟩
    rw [h3, h4]
set_option maxHeartbeats 4000000 in
set_option maxRecDepth 100000 in
theorem rsame_calls (v u : Value) (r s : Rt) (w : World) (hv : Ls w 116 v r.rs) (hu : Ls w 116 u s.rs) (hl : r.rs.length ≤ 1000000) :
    Calls Tryd.prog 53 #[.agg (rv v r), .agg (rv u s)] w fun e w' => e = .returned (.bool (r.eqb s)) ∧ Below w.heap.size w w' := by
  obtain ⟨A, cap, rfl, -, -, -, -⟩ := Rw.form hv
  obtain ⟨B, cbp, rfl, -, -, -, -⟩ := Rw.form hu
  have hbb := ((Below.refl w.heap.size w).alloc (Nat.le_refl _) (.cells (rv (.slice A r.rs.length cap) r) 105)).alloc (by simp) (.cells (rv (.slice B s.rs.length cbp) s) 105)
  have HS := Lib.hid (And.intro hv (And.intro hu hl))
  unfold rv at hbb ⊢
  have HB := Lib.hid hbb
  clear hv hu hl hbb
  obtain ⟨rs, l1, i1⟩ := r
  obtain ⟨ss, l2, i2⟩ := s
  unfold Rt.eqb
  simp only at HS HB ⊢
  by_cases h1 : l1 = l2
  · subst h1
    by_cases h2 : i1 = i2
    · subst h2
      by_cases hlen : rs.length = ss.length
      · have HLen := Lib.hid hlen
        have d1 : ((rs.length : Int) != (ss.length : Int)) = false := by rw [hlen]; simp
        have d2 : (l1 != l1) = false := by simp
        have d3 : (i1 != i1) = false := by simp
        have HN := Lib.hid rneq116
        obtain ⟨W2, hW2⟩ : ∃ W2, W2 = (w.alloc (.cells #[.slice A rs.length cap, .bool l1, .bool i1] 105)).alloc (.cells #[.slice B ss.length cbp, .bool l1, .bool i1] 105) := ⟨_, rfl⟩
        have HW := Lib.hid hW2
        clear hlen
        go_enter Tryd.func53, Tryd.ntmps53
        go_wp2
        rw [← HW.out]
        go_loopw [30] (fun i wr => ∃ k : Nat, k ≤ rs.length ∧ i = .int .i64 k ∧ Hid (rs.take k = ss.take k) ∧ Hid (Below W2.heap.size W2 wr)) (fun i _ => rs.length - (intOf i).toNat)
        case atStart => exact ⟨0, by omega, rfl, Lib.hid rfl, Lib.hid (Below.refl _ _)⟩
        case round =>
          obtain ⟨k, hk, rfl, HT, HB2⟩ := hrel
          rw [HW.out] at HB2
          have HB3 := Lib.hid (below_two HB2.out)
          have hl6 : (rs.length : Int) ≤ 1000000 := by have := HS.out.2.2; omega
          by_cases hlt : k < rs.length
          · have hlt' : (k : Int) < (rs.length : Int) := by omega
            have hlm : k < ss.length := by have := HLen.out; omega
            have hlm' : (k : Int) < (ss.length : Int) := by omega
            obtain ⟨c0, c1, c2⟩ := cells_three (two_first HB2.out)
            obtain ⟨e0, e1, e2⟩ := cells_three (two_second HB2.out)
            obtain ⟨g, rfl, hg, q1, q2⟩ := Ls.at (HS.out.1.below HB3.out) rfl hlt
            obtain ⟨g', rfl, hg', q1', q2'⟩ := Ls.at (HS.out.2.1.below HB3.out) rfl hlm
            have HX := Lib.hid (rtake_eq_snoc hlt hlm)
            have hneq := fun w => HN.out rs[k].1 rs[k].2 ss[k].1 ss[k].2 w
            have HE := Lib.hid (show (rs[k] = ss[k]) ↔ (rs[k].1 = ss[k].1 ∧ rs[k].2 = ss[k].2) from Prod.ext_iff)
            generalize rs[k] = x at *
            generalize ss[k] = y at *
            obtain ⟨a, b⟩ := x
            obtain ⟨c, d⟩ := y
            simp only at q1 q2 q1' q2' hneq
            by_cases hE : a = c ∧ b = d
            · have hf : (!(a == c && b == d)) = false := by simp [hE.1, hE.2]
              have HEE := Lib.hid hE
              rw [hf] at hneq
              clear hE hf
              go_wp2
              go_quiet (fail)
              go_wp2
              go_roundw
              case rel => exact ⟨k + 1, by omega, by go_num, Lib.hid (HX.out.2 ⟨HT.out, by rw [HEE.out.1, HEE.out.2]⟩), Lib.hid (by rw [HW.out]; exact below_dQ HB2.out nq)⟩
              case measure => simp [intOf]; omega
            · have hf : (!(a == c && b == d)) = true := by simp; omega
              have HEE := Lib.hid hE
              rw [hf] at hneq
              clear hE hf
              go_wp2
              go_quiet (fail)
              go_wp2
              go_ret
              refine ⟨?_, below_dQ HB3.out nq⟩
              have : rs ≠ ss := by
                intro h
                exact HEE.out (by have := (HX.out.1 (by rw [h])).2; simpa using this)
              simp [this]
          · obtain rfl : k = rs.length := by omega
            go_wp2
            go_ret
            refine ⟨?_, HB3.out⟩
            have := HT.out
            rw [List.take_length, HLen.out, List.take_length] at this
            simp [this]
      · have HLen := Lib.hid hlen
        have d1 : ((rs.length : Int) != (ss.length : Int)) = true := by simp; omega
        clear hlen
        have d2 : (l1 != l1) = false := by simp
        have d3 : (i1 != i1) = false := by simp
        go_enter Tryd.func53, Tryd.ntmps53
        go_wp2
        go_ret
        refine ⟨?_, HB.out⟩
        have : rs ≠ ss := fun h => HLen.out (by rw [h])
        simp [this]
    · have d2 : (l1 != l1) = false := by simp
      have d3 : (i1 != i2) = true := by simpa using h2
      go_enter Tryd.func53, Tryd.ntmps53
      go_wp2
      go_ret
      exact ⟨by simp [h2], HB.out⟩
  · have d2 : (l1 != l2) = true := by simpa using h1
    go_enter Tryd.func53, Tryd.ntmps53
    go_wp2
    go_ret
    exact ⟨by simp [h1], HB.out⟩
end Go.Proofs.YthccppldpfddjaaDoor
namespace Go.Proofs.YthccppldpfddjaaDoor
open Go.RowKit
set_option linter.unusedVariables false
theorem info116 : (Tryd.prog.info? 116).map (fun i => (i.zero, i.size, i.bytes)) = some (some (.agg #[.int .i64 0, .int .i64 0]), 2, 16) := by kernel_rfl
/-- A slice of the reference's ranges that the call itself makes. -/
structure WI (w : World) (l : List Rg) (v : Value) (W : World) : Prop where
  row : Ls W 116 v l
  own : ∀ g, v.ownBlock = some g → w.heap.size ≤ g
  bel : Below w.heap.size w W
theorem WI.nil (w : World) {W : World} (h : Below w.heap.size w W) : WI w [] (.slice none 0 0) W := ⟨ls_nil _ _, by simp [Value.ownBlock], h⟩
theorem WI.below {w : World} {l : List Rg} {v : Value} {W W' : World} (h : WI w l v W) (hb : Below W.heap.size W W') : WI w l v W' :=
  ⟨h.row.below hb, h.own, h.bel.trans (hb.mono h.bel.size)⟩
theorem WI.app {w : World} {l : List Rg} {x : Rg} {v v' : Value} {W W' : World} (h : WI w l v W) (h1 : Rw W' 116 2 v' (l.length + 1) (pcells l ++ pcells [x])) (h2 : W.grownBy W' v.ownBlock) (h3 : v'.ownBlock = v.ownBlock ∨ v'.ownBlock = some W.heap.size) : WI w (l ++ [x]) v' W' := by
  refine ⟨?_, fun g hg => ?_, h.bel.grown h2 h.bel.size (fun j hj => h.own j hj)⟩
  · show Rw W' 116 2 v' (l ++ [x]).length (pcells (l ++ [x]))
    rw [pcells_append, List.length_append]
    exact h1
  · rcases h3 with e | e
    · exact h.own g (by rw [← e]; exact hg)
    · rw [e] at hg; cases hg; exact h.bel.size
theorem WI.two {w : World} {l : List Rg} {v : Value} {wr : World} (h : WI w l v wr) (A B : Obj) : WI w l v ((wr.alloc A).alloc B) := h.below (((Below.refl wr.heap.size wr).alloc (Nat.le_refl _) A).alloc (by simp) B)
theorem WI.one {w : World} {l : List Rg} {v : Value} {wr : World} (h : WI w l v wr) (A : Obj) : WI w l v (wr.alloc A) := h.below ((Below.refl wr.heap.size wr).alloc (Nat.le_refl _) A)
theorem kept_box {wr w5 : World} {A B : Obj} {row : Option Nat} (hg : ((wr.alloc A).alloc B).grownBy w5 row) (hr : ∀ g, row = some g → g < wr.heap.size) : w5.heap[wr.heap.size]? = some A :=
  (hg.block _ (by simp; omega) (fun e => by have := hr _ e.symm; omega)).trans ((Below.heap_alloc _ _ _ (by simp)).trans (heap_alloc_new wr A))
theorem rnews {g : Nat} {w : World} {a b : Int} (h : w.heap[g]? = some (.cells #[.int .i64 a, .int .i64 b] 116 (0, 0))) : ∀ ad, some (⟨g, 0, none⟩ : Addr) = some ad → ∀ j u, (pcells [(a, b)])[j]? = some u → w.cell? (ad.add j) = some u := by
  rintro ad e j u hj
  cases e
  rw [add_at, cell_of_row _ _ _ _ _ _ h]
  simpa [pcells] using hj
theorem rnews2 (wr : World) (A : Obj) (a b : Int) : ((wr.alloc A).alloc (.cells #[.int .i64 a, .int .i64 b] 116)).heap[wr.heap.size + 1]? = some (.cells #[.int .i64 a, .int .i64 b] 116 (0, 0)) := by
  have := heap_alloc_new (wr.alloc A) (.cells #[.int .i64 a, .int .i64 b] 116)
  rwa [World.size_alloc] at this
theorem rtwo_cells {w : World} {g : Nat} {a b : Value} {t : TypeId} (h : w.heap[g]? = some (.cells #[a, b] t (0, 0))) : w.cell? ⟨g, 0, none⟩ = some a ∧ w.cell? ⟨g, 1, none⟩ = some b := by
  refine ⟨?_, ?_⟩ <;> rw [cell_of_row _ _ _ _ _ _ h] <;> rfl
set_option maxHeartbeats 8000000 in
set_option maxRecDepth 100000 in
theorem rwithout_calls (v : Value) (l : List Rg) (lo hi : Int) (w : World) (hl : Ls w 116 v l) (hlen : l.length ≤ 1000) (hlo : -1000000000000000000 ≤ lo) (hhi : hi ≤ 1000000000000000000) (hlh : lo ≤ hi) :
    Calls Tryd.prog 56 #[v, .int .i64 lo, .int .i64 hi] w fun e w' => ∃ v', e = .returned v' ∧ Ls w' 116 v' (outS l lo hi) ∧ Below w.heap.size w w' := by
  obtain ⟨A, c, rfl, -, -, -, -⟩ := Rw.form hl
  have HS := Lib.hid (And.intro hl hlen)
  clear hl hlen
  go_enter Tryd.func56, Tryd.ntmps56
  go_wp2
  go_loopw [12, 7] (fun i x wr => ∃ k : Nat, k ≤ l.length ∧ i = .int .i64 k ∧ Hid (WI w (outS (l.take k) lo hi) x wr)) (fun i _ _ => l.length - (intOf i).toNat)
  case atStart => exact ⟨0, by omega, rfl, Lib.hid (by simpa [outS] using WI.nil w (Below.refl _ w))⟩
  case round =>
    obtain ⟨k, hk, rfl, HI⟩ := hrel
    obtain ⟨A8, c8, rfl, hcap8, -, -, -⟩ := Rw.form HI.out.row
    by_cases hlt : k < l.length
    · have hlt' : (k : Int) < (l.length : Int) := by omega
      have hk6 : (k : Int) ≤ 1000 := by have := HS.out.2; omega
      obtain ⟨g, rfl, hg, q1, q2⟩ := Ls.at (HS.out.1.below HI.out.bel) rfl hlt
      have HT := Lib.hid (outS_take l lo hi k hlt)
      have HN := Lib.hid (show (outS (l.take k) lo hi).length ≤ 2000 from by have := outS_len (l.take k) lo hi; have := HS.out.2; rw [List.length_take] at *; omega)
      have HO := Lib.hid (Rw.lt HI.out.row)
      generalize outS (l.take k) lo hi = out at *
      generalize l[k] = r at *
      obtain ⟨a, b⟩ := r
      simp only at q1 q2
      obtain ⟨i0, hi0, hz0, hz1, hz2⟩ := info_parts info116
      by_cases ha : a < lo
      · by_cases hb : b ≤ hi
        · have hb9 : ¬ hi < b := by omega
          by_cases hm1 : b ≤ lo - 1
          · have HP := Lib.hid (pieces_left ha hb b (by omega))
            have HW := Lib.hid (HI.out.two (.cells #[.int .i64 a, .int .i64 b] 116) (.cells #[.int .i64 a, .int .i64 b] 116))
            have HNW := Lib.hid (rnews (rnews2 wr (.cells #[.int .i64 a, .int .i64 b] 116) a b))
            go_wp2_with (at_builtin; refine wpList_append_rw _ rfl (.tmp 20) (.tmp 29) 103 rfl 116 i0 (.agg #[.int .i64 0, .int .i64 0]) 2 16 Tryd.underlying103 hi0 hz0 hz1 hz2 rfl (by decide) _ _ _ rfl HW.out.row (some ⟨wr.heap.size + 1, 0, none⟩) 1 1 (pcells [(a, b)]) rfl rfl HNW.out (by simp) (pcells_one _) (by have := HN.out; simp; unfold maxLen; omega) (by have := HN.out; simp; omega) ?_; intro v5 w5 h1 h2 h3 h4; have H5 := Lib.hid (HW.out.app h1 h2 h3); obtain ⟨A5, c5, rfl, -, -, -, -⟩ := Rw.form h1; have hkb := kept_box h2 (fun g hg => HO.out g hg); obtain ⟨x1, x2⟩ := rtwo_cells hkb; clear h1 h2 h3 h4 hkb)
            go_roundw
            case rel => exact ⟨k + 1, by omega, by go_num, Lib.hid (by rw [HT.out, HP.out]; exact H5.out)⟩
            case measure => simp [intOf]; omega
          · have HP := Lib.hid (pieces_left ha hb (lo - 1) (by omega))
            have g1 : lo - 1 < b := by omega
            have g2 : lo ≤ b := by omega
            have HW := Lib.hid (HI.out.two (.cells #[.int .i64 a, .int .i64 b] 116) (.cells #[.int .i64 a, .int .i64 (lo - 1)] 116))
            have HNW := Lib.hid (rnews (rnews2 wr (.cells #[.int .i64 a, .int .i64 b] 116) a (lo - 1)))
            go_wp2_with (at_builtin; refine wpList_append_rw _ rfl (.tmp 20) (.tmp 29) 103 rfl 116 i0 (.agg #[.int .i64 0, .int .i64 0]) 2 16 Tryd.underlying103 hi0 hz0 hz1 hz2 rfl (by decide) _ _ _ rfl HW.out.row (some ⟨wr.heap.size + 1, 0, none⟩) 1 1 (pcells [(a, (lo - 1))]) rfl rfl HNW.out (by simp) (pcells_one _) (by have := HN.out; simp; unfold maxLen; omega) (by have := HN.out; simp; omega) ?_; intro v5 w5 h1 h2 h3 h4; have H5 := Lib.hid (HW.out.app h1 h2 h3); obtain ⟨A5, c5, rfl, -, -, -, -⟩ := Rw.form h1; have hkb := kept_box h2 (fun g hg => HO.out g hg); obtain ⟨x1, x2⟩ := rtwo_cells hkb; clear h1 h2 h3 h4 hkb)
            go_roundw
            case rel => exact ⟨k + 1, by omega, by go_num, Lib.hid (by rw [HT.out, HP.out]; exact H5.out)⟩
            case measure => simp [intOf]; omega
        · have hb' : hi < b := by omega
          have HP := Lib.hid (pieces_both ha hb' hlh)
          have g1 : ¬ b ≤ lo - 1 := by omega
          have g2 : lo ≤ b := by omega
          have g3 : a ≤ hi + 1 := by omega
          have g4 : lo - 1 < b := by omega
          have g5 : ¬ hi + 1 < a := by omega
          have g6 : a ≤ hi := by omega
          have HW := Lib.hid (HI.out.two (.cells #[.int .i64 a, .int .i64 b] 116) (.cells #[.int .i64 a, .int .i64 (lo - 1)] 116))
          have HNW := Lib.hid (rnews (rnews2 wr (.cells #[.int .i64 a, .int .i64 b] 116) a (lo - 1)))
          go_wp2_with (first
            | (at_builtin; refine wpList_append_rw _ rfl (.tmp 20) (.tmp 29) 103 rfl 116 i0 (.agg #[.int .i64 0, .int .i64 0]) 2 16 Tryd.underlying103 hi0 hz0 hz1 hz2 rfl (by decide) _ _ _ rfl HW.out.row (some ⟨wr.heap.size + 1, 0, none⟩) 1 1 (pcells [(a, lo - 1)]) rfl rfl HNW.out (by simp) (pcells_one _) (by have := HN.out; simp; unfold maxLen; omega) (by have := HN.out; simp; omega) ?_; intro v5 w5 h1 h2 h3 h4; have H5 := Lib.hid ((HW.out.app h1 h2 h3).one (.cells #[.int .i64 (hi + 1), .int .i64 b] 116)); obtain ⟨A5, c5, rfl, -, -, -, -⟩ := Rw.form h1; have hkb := kept_box h2 (fun g hg => HO.out g hg); obtain ⟨x1, x2⟩ := rtwo_cells hkb; have HNX := Lib.hid (rnews (heap_alloc_new w5 (.cells #[.int .i64 (hi + 1), .int .i64 b] 116))); clear h1 h2 h3 h4 hkb)
            | (at_builtin; refine wpList_append_rw _ rfl (.tmp 35) (.tmp 44) 103 rfl 116 i0 (.agg #[.int .i64 0, .int .i64 0]) 2 16 Tryd.underlying103 hi0 hz0 hz1 hz2 rfl (by decide) _ _ _ rfl H5.out.row (some ⟨w5.heap.size, 0, none⟩) 1 1 (pcells [(hi + 1, b)]) rfl rfl HNX.out (by simp) (pcells_one _) (by have := HN.out; simp; unfold maxLen; omega) (by have := HN.out; simp; omega) ?_; intro v6 w6 h1 h2 h3 h4; have H6 := Lib.hid (H5.out.app h1 (by exact h2) (by exact h3)); clear h1 h2 h3 h4))
          go_roundw
          case rel => exact ⟨k + 1, by omega, by go_num, Lib.hid (by rw [HT.out, HP.out]; exact (by simpa using H6.out))⟩
          case measure => simp [intOf]; omega
      · have ha9 : lo ≤ a := by omega
        by_cases hb : b ≤ hi
        · have HP := Lib.hid (pieces_none ha9 hb)
          have hb9 : ¬ hi < b := by omega
          go_wp2
          go_roundw
          case rel => exact ⟨k + 1, by omega, by go_num, Lib.hid (by rw [HT.out, HP.out, List.append_nil]; exact HI.out.one _)⟩
          case measure => simp [intOf]; omega
        · have hb' : hi < b := by omega
          by_cases hm1 : a ≤ hi
          · have HP := Lib.hid (pieces_right ha9 hb' (hi + 1) (by omega))
            have g1 : a ≤ hi + 1 := by omega
            have HW := Lib.hid (HI.out.two (.cells #[.int .i64 a, .int .i64 b] 116) (.cells #[.int .i64 (hi + 1), .int .i64 b] 116))
            have HNW := Lib.hid (rnews (rnews2 wr (.cells #[.int .i64 a, .int .i64 b] 116) (hi + 1) b))
            go_wp2_with (at_builtin; refine wpList_append_rw _ rfl (.tmp 35) (.tmp 44) 103 rfl 116 i0 (.agg #[.int .i64 0, .int .i64 0]) 2 16 Tryd.underlying103 hi0 hz0 hz1 hz2 rfl (by decide) _ _ _ rfl HW.out.row (some ⟨wr.heap.size + 1, 0, none⟩) 1 1 (pcells [((hi + 1), b)]) rfl rfl HNW.out (by simp) (pcells_one _) (by have := HN.out; simp; unfold maxLen; omega) (by have := HN.out; simp; omega) ?_; intro v5 w5 h1 h2 h3 h4; have H5 := Lib.hid (HW.out.app h1 h2 h3); obtain ⟨A5, c5, rfl, -, -, -, -⟩ := Rw.form h1; have hkb := kept_box h2 (fun g hg => HO.out g hg); obtain ⟨x1, x2⟩ := rtwo_cells hkb; clear h1 h2 h3 h4 hkb)
            go_roundw
            case rel => exact ⟨k + 1, by omega, by go_num, Lib.hid (by rw [HT.out, HP.out]; exact H5.out)⟩
            case measure => simp [intOf]; omega
          · have HP := Lib.hid (pieces_right ha9 hb' a (by omega))
            have g1 : hi < a := by omega
            have g2 : hi + 1 ≤ a := by omega
            have HW := Lib.hid (HI.out.two (.cells #[.int .i64 a, .int .i64 b] 116) (.cells #[.int .i64 a, .int .i64 b] 116))
            have HNW := Lib.hid (rnews (rnews2 wr (.cells #[.int .i64 a, .int .i64 b] 116) a b))
            go_wp2_with (at_builtin; refine wpList_append_rw _ rfl (.tmp 35) (.tmp 44) 103 rfl 116 i0 (.agg #[.int .i64 0, .int .i64 0]) 2 16 Tryd.underlying103 hi0 hz0 hz1 hz2 rfl (by decide) _ _ _ rfl HW.out.row (some ⟨wr.heap.size + 1, 0, none⟩) 1 1 (pcells [(a, b)]) rfl rfl HNW.out (by simp) (pcells_one _) (by have := HN.out; simp; unfold maxLen; omega) (by have := HN.out; simp; omega) ?_; intro v5 w5 h1 h2 h3 h4; have H5 := Lib.hid (HW.out.app h1 h2 h3); obtain ⟨A5, c5, rfl, -, -, -, -⟩ := Rw.form h1; have hkb := kept_box h2 (fun g hg => HO.out g hg); obtain ⟨x1, x2⟩ := rtwo_cells hkb; clear h1 h2 h3 h4 hkb)
            go_roundw
            case rel => exact ⟨k + 1, by omega, by go_num, Lib.hid (by rw [HT.out, HP.out]; exact H5.out)⟩
            case measure => simp [intOf]; omega
    · obtain rfl : k = l.length := by omega
      rw [List.take_length] at HI
      go_wp2
      go_ret
      exact ⟨_, rfl, by simpa using HI.out.row, HI.out.bel⟩
end Go.Proofs.YthccppldpfddjaaDoor
