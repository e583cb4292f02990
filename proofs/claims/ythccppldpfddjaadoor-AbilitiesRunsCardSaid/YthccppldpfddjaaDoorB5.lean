/- slices.Equal of ranges; rights compared. -/
import Derived.Test.YthccppldpfddjaaDoorB4
import Derived.DeepKeys
namespace Go.Proofs.YthccppldpfddjaaDoor
open Go.RowKit
set_option linter.unusedVariables false
theorem neq43 (a b c d : Int) (w : World) : (binOp .neq 43 (.agg #[.int .i64 a, .int .i64 b]) (.agg #[.int .i64 c, .int .i64 d])).run Tryd.prog w = .ok (.bool (!(a == c && b == d))) w := by
  have p0 : (part 2 (#[.int .i64 a, .int .i64 b] : Array Value) 0).run Tryd.prog w = .ok (.int .i64 a) w := run_part_plain w (by kernel_rfl) rfl
  have p1 : (part 2 (#[.int .i64 a, .int .i64 b] : Array Value) 1).run Tryd.prog w = .ok (.int .i64 b) w := run_part_plain w (by kernel_rfl) rfl
  have r0 : (part 2 (#[.int .i64 c, .int .i64 d] : Array Value) 0).run Tryd.prog w = .ok (.int .i64 c) w := run_part_plain w (by kernel_rfl) rfl
  have r1 : (part 2 (#[.int .i64 c, .int .i64 d] : Array Value) 1).run Tryd.prog w = .ok (.int .i64 d) w := run_part_plain w (by kernel_rfl) rfl
  have hf : (Tryd.prog.fieldsOf 43).toList = [(Tryd.prog.fieldsOf 43)[0]!, (Tryd.prog.fieldsOf 43)[1]!] := by kernel_rfl
  have a0 : ((Tryd.prog.fieldsOf 43)[0]!).type = 2 := by kernel_rfl
  have a1 : ((Tryd.prog.fieldsOf 43)[1]!).type = 2 := by kernel_rfl
  have b0 : ((Tryd.prog.fieldsOf 43)[0]!).offset = 0 := by kernel_rfl
  have b1 : ((Tryd.prog.fieldsOf 43)[1]!).offset = 1 := by kernel_rfl
  have c0 : ((Tryd.prog.fieldsOf 43)[0]!).name ≠ "_" := beq_eq_false_iff_ne.1 (by kernel_rfl)
  have c1 : ((Tryd.prog.fieldsOf 43)[1]!).name ≠ "_" := beq_eq_false_iff_ne.1 (by kernel_rfl)
  have u0 : Tryd.prog.underlying 2 = some (.int .i64) := by kernel_rfl
  rw [run_neq_struct, run_equalIn_agg w 9999 43 _ _ (by kernel_rfl) (by kernel_rfl), hf]
  generalize (Tryd.prog.fieldsOf 43)[0]! = f0 at *
  generalize (Tryd.prog.fieldsOf 43)[1]! = f1 at *
  simp only [Op.eqFields, ne_eq, c0, c1, not_false_eq_true, if_true, a0, a1, b0, b1, Sem.run_bind, p0, p1, r0, r1, Result.andThen_ok, run_equalIn_int w 9998 2 .i64 .i64 _ _ u0]
  by_cases h1 : a = c
  · by_cases h2 : b = d
    · subst h1 h2; simp [Op.eqFields, Sem.run_bind, p1, r1, run_equalIn_int w 9998 2 .i64 .i64 _ _ u0, Sem.run_pure]
    · have : (b == d) = false := by simpa using h2
      subst h1; simp [Op.eqFields, Sem.run_bind, p1, r1, run_equalIn_int w 9998 2 .i64 .i64 _ _ u0, Sem.run_pure, this]
  · have : (a == c) = false := by simpa using h1
    simp [Op.eqFields, Sem.run_pure, this]
theorem take_eq_snoc {l m : List Rg} {k : Nat} (h1 : k < l.length) (h2 : k < m.length) : l.take (k + 1) = m.take (k + 1) ↔ l.take k = m.take k ∧ l[k] = m[k] := by
  rw [List.take_succ_eq_append_getElem h1, List.take_succ_eq_append_getElem h2]
  constructor
  · intro h
    have := List.append_inj' h rfl
    exact ⟨this.1, by simpa using this.2⟩
  · rintro ⟨h3, h4⟩
    rw [h3, h4]
set_option maxHeartbeats 2000000 in
set_option maxRecDepth 100000 in
theorem sliceseq_calls (v u : Value) (l m : List Rg) (w : World) (hv : Ls w 43 v l) (hu : Ls w 43 u m) (hl : l.length ≤ 1000000) :
    Calls Tryd.prog 63 #[v, u] w fun e w' => e = .returned (.bool (decide (l = m))) ∧ Below w.heap.size w w' := by
  obtain ⟨A, cap, rfl, -, -, -, -⟩ := Rw.form hv
  obtain ⟨B, cbp, rfl, -, -, -, -⟩ := Rw.form hu
  have HS := Lib.hid (And.intro hv (And.intro hu hl))
  clear hv hu hl
  by_cases hlen : l.length = m.length
  · have HLen := Lib.hid hlen
    have d1 : ((l.length : Int) != (m.length : Int)) = false := by rw [hlen]; simp
    have d2 : l.length = m.length := hlen
    clear hlen d2
    have HN := Lib.hid neq43
    go_enter Tryd.func63, Tryd.ntmps63
    go_wp2
    go_loopw [13] (fun i wr => ∃ k : Nat, k ≤ l.length ∧ i = .int .i64 k ∧ Hid (l.take k = m.take k) ∧ Hid (Below w.heap.size w wr)) (fun i _ => l.length - (intOf i).toNat)
    case atStart => exact ⟨0, by omega, rfl, Lib.hid rfl, Lib.hid (Below.refl _ _)⟩
    case round =>
      obtain ⟨k, hk, rfl, HT, HB⟩ := hrel
      have hl6 : (l.length : Int) ≤ 1000000 := by have := HS.out.2.2; omega
      by_cases hlt : k < l.length
      · have hlt' : (k : Int) < (l.length : Int) := by omega
        have hlm : k < m.length := by have := HLen.out; omega
        have hlm' : (k : Int) < (m.length : Int) := by omega
        obtain ⟨g, rfl, hg, q1, q2⟩ := Ls.at (HS.out.1.below HB.out) rfl hlt
        obtain ⟨g', rfl, hg', q1', q2'⟩ := Ls.at (HS.out.2.1.below HB.out) rfl hlm
        have HX := Lib.hid (take_eq_snoc hlt hlm)
        have hneq := fun w => HN.out l[k].1 l[k].2 m[k].1 m[k].2 w
        have HE := Lib.hid (show (l[k] = m[k]) ↔ (l[k].1 = m[k].1 ∧ l[k].2 = m[k].2) from Prod.ext_iff)
        generalize l[k] = x at *
        generalize m[k] = y at *
        obtain ⟨a, b⟩ := x
        obtain ⟨c, d⟩ := y
        simp only at q1 q2 q1' q2' hneq
        by_cases hE : a = c ∧ b = d
        · have hf : (!(a == c && b == d)) = false := by simp [hE.1, hE.2]
          have HEE := Lib.hid hE
          rw [hf] at hneq
          clear hE hf
          go_wp2
          go_quiet (fail)
          go_wp2
          go_roundw
          case rel => exact ⟨k + 1, by omega, by go_num, Lib.hid (HX.out.2 ⟨HT.out, by rw [HEE.out.1, HEE.out.2]⟩), Lib.hid (below_dN HB.out nq)⟩
          case measure => simp [intOf]; omega
        · have hf : (!(a == c && b == d)) = true := by simp; omega
          have HEE := Lib.hid hE
          rw [hf] at hneq
          clear hE hf
          go_wp2
          go_quiet (fail)
          go_wp2
          go_ret
          refine ⟨?_, below_dN HB.out nq⟩
          have : l ≠ m := by
            intro h
            exact HEE.out (by have := (HX.out.1 (by rw [h])).2; simpa using this)
          simp [this]
      · obtain rfl : k = l.length := by omega
        go_wp2
        go_ret
        refine ⟨?_, HB.out⟩
        have := HT.out
        rw [List.take_length, HLen.out, List.take_length] at this
        simp [this]
  · have HLen := Lib.hid hlen
    have d1 : ((l.length : Int) != (m.length : Int)) = true := by simp; omega
    clear hlen
    go_enter Tryd.func63, Tryd.ntmps63
    go_wp2
    go_ret
    refine ⟨?_, Below.refl _ _⟩
    have : l ≠ m := fun h => HLen.out (by rw [h])
    simp [this]
end Go.Proofs.YthccppldpfddjaaDoor
