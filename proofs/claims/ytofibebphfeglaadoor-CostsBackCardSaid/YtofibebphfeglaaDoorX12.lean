/- Equal tables and faults. -/
import Derived.Test.YtofibebphfeglaaDoorX11
import Derived.DeepKeys
namespace Go.Proofs.YtofibebphfeglaaDoor
open Go.RowKit
set_option linter.unusedVariables false
variable {P : Program}
theorem items_self (d : Nat) {e : TypeId} {k : IntKind} (he : P.plainKey e = true) (hu : P.underlying e = some (.int k)) (xs : Array Value) (w : World) (hx : ∀ i, i < xs.size → ∃ n, xs[i]? = some (.int .i64 n)) : ∀ is : List Nat, (∀ i ∈ is, i < xs.size) → (Op.eqItems (d + 1) e 1 xs xs is).run P w = .ok true w
  | [], _ => by simp [Op.eqItems]
  | i :: is, h => by
    obtain ⟨n, hn⟩ := hx i (h i (by simp))
    have hp : (part e xs (i * 1)).run P w = .ok (.int .i64 n) w := run_part_plain w he (by rw [Nat.mul_one]; exact hn)
    simp only [Op.eqItems, Sem.run_bind, hp, Result.andThen_ok, run_equalIn_int w d e .i64 k n n hu]
    simp only [BEq.rfl, Bool.not_true, Bool.false_eq_true, if_false]
    exact items_self d he hu xs w hx is fun j hj => h j (List.mem_cons_of_mem _ hj)
theorem allInt (Y : List Int) : ∀ i, i < (ints Y).size → ∃ n, (ints Y)[i]? = some (.int .i64 n) := by
  intro i hi
  rw [ints_size] at hi
  exact ⟨Y[i], by rw [ints_get]; simp [List.getElem?_eq_getElem hi]⟩
theorem part_agg {e : TypeId} {n : Nat} {xs : Array Value} {off : Nat} {d : TypeDesc} (hu : P.underlying e = some d) (hd : (match d with | .struct _ | .array _ _ => true | _ => false) = true) (hs : (P.info? e).map (·.size) = some n) (w : World) : (part e xs off).run P w = .ok (.agg (xs.extract off (off + n))) w := by
  cases hq : P.info? e with
  | none => simp [hq] at hs
  | some u =>
    have hu' : u.size = n := by simpa [hq] using hs
    have hagg : (isAgg e).run P w = .ok true w := by
      unfold isAgg
      rw [Sem.run_bind, run_underlying hu w]
      cases d <;> first | rfl | cases hd
    simp [part, Sem.run_bind, hagg, sizeOf, typeInfo, hq, hu']
/-- Equal structs: two numbers and an array of 24. -/
theorem equalIn_table (t : TypeId) (f0 f1 f2 : Field) (e a : TypeId) (k : IntKind) {i : TypeInfo} (ht : Tryd.prog.underlying t = some (.struct (Tryd.prog.fieldsOf t))) (hp : Tryd.prog.stoodInHeld t = false) (hf : (Tryd.prog.fieldsOf t).toList = [f0, f1, f2])
    (h0 : f0.name ≠ "_" ∧ f0.type = e ∧ f0.offset = 0) (h1 : f1.name ≠ "_" ∧ f1.type = e ∧ f1.offset = 1) (h2 : f2.name ≠ "_" ∧ f2.type = a ∧ f2.offset = 2)
    (he : Tryd.prog.plainKey e = true) (hu : Tryd.prog.underlying e = some (.int k)) (ha : Tryd.prog.underlying a = some (.array 24 e)) (hs : (Tryd.prog.info? a).map (·.size) = some 24) (hi : Tryd.prog.info? e = some i) (hc : Tryd.prog.cellsOf e = 1)
    {Y : List Int} (hY : Y.length = 26) (w : World) : (Op.equalIn 10000 t (.agg (ints Y)) (.agg (ints Y))).run Tryd.prog w = .ok true w := by
  obtain ⟨n0, hn0⟩ := allInt Y 0 (by rw [ints_size]; omega)
  obtain ⟨n1, hn1⟩ := allInt Y 1 (by rw [ints_size]; omega)
  have p0 : (part e (ints Y) 0).run Tryd.prog w = .ok (.int .i64 n0) w := run_part_plain w he hn0
  have p1 : (part e (ints Y) 1).run Tryd.prog w = .ok (.int .i64 n1) w := run_part_plain w he hn1
  have p2 : (part a (ints Y) 2).run Tryd.prog w = .ok (.agg ((ints Y).extract 2 (2 + 24))) w := part_agg ha rfl hs w
  have hz : ((ints Y).extract 2 (2 + 24)).size = 24 := by rw [Array.size_extract, ints_size]; omega
  have q2 : (Op.equalIn 9999 a (.agg ((ints Y).extract 2 (2 + 24))) (.agg ((ints Y).extract 2 (2 + 24)))).run Tryd.prog w = .ok true w := by
    have := run_equalIn_array (P := Tryd.prog) w 9998 ((ints Y).extract 2 (2 + 24)) ((ints Y).extract 2 (2 + 24)) ha hi
    rw [this, hc]
    refine items_self 9997 he hu _ w (fun i hi => ?_) _ (fun i hi => by rw [hz]; simpa using hi)
    rw [hz] at hi
    obtain ⟨n, hn⟩ := allInt Y (2 + i) (by rw [ints_size]; omega)
    exact ⟨n, by rw [Array.getElem?_extract]; simp [hi, hn, ints_size]; omega⟩
  rw [run_equalIn_agg w 9999 t _ _ ht hp, hf]
  simp only [Op.eqFields, ne_eq, h0.1, h1.1, h2.1, not_false_eq_true, if_true, h0.2.1, h0.2.2, h1.2.1, h1.2.2, h2.2.1, h2.2.2, Sem.run_bind, p0, p1, p2, q2, Result.andThen_ok, run_equalIn_int w 9998 e .i64 k _ _ hu, BEq.rfl, Bool.not_true, Bool.false_eq_true, if_false, Sem.run_pure]
theorem eqin33 {Y : List Int} (hY : Y.length = 26) (w : World) : (Op.equalIn 10000 33 (.agg (ints Y)) (.agg (ints Y))).run Tryd.prog w = .ok true w :=
  equalIn_table 33 ((Tryd.prog.fieldsOf 33)[0]!) ((Tryd.prog.fieldsOf 33)[1]!) ((Tryd.prog.fieldsOf 33)[2]!) 2 26 .i64 (i := (Tryd.prog.info? 2).getD default) (by kernel_rfl) (by kernel_rfl) (by kernel_rfl) ⟨beq_eq_false_iff_ne.1 (by kernel_rfl), by kernel_rfl, by kernel_rfl⟩ ⟨beq_eq_false_iff_ne.1 (by kernel_rfl), by kernel_rfl, by kernel_rfl⟩ ⟨beq_eq_false_iff_ne.1 (by kernel_rfl), by kernel_rfl, by kernel_rfl⟩ (by kernel_rfl) (by kernel_rfl) (by kernel_rfl) (by kernel_rfl) (by kernel_rfl) (by kernel_rfl) hY w
theorem eqin28 {Y : List Int} (hY : Y.length = 26) (w : World) : (Op.equalIn 10000 28 (.agg (ints Y)) (.agg (ints Y))).run Tryd.prog w = .ok true w :=
  equalIn_table 28 ((Tryd.prog.fieldsOf 28)[0]!) ((Tryd.prog.fieldsOf 28)[1]!) ((Tryd.prog.fieldsOf 28)[2]!) 2 26 .i64 (i := (Tryd.prog.info? 2).getD default) (by kernel_rfl) (by kernel_rfl) (by kernel_rfl) ⟨beq_eq_false_iff_ne.1 (by kernel_rfl), by kernel_rfl, by kernel_rfl⟩ ⟨beq_eq_false_iff_ne.1 (by kernel_rfl), by kernel_rfl, by kernel_rfl⟩ ⟨beq_eq_false_iff_ne.1 (by kernel_rfl), by kernel_rfl, by kernel_rfl⟩ (by kernel_rfl) (by kernel_rfl) (by kernel_rfl) (by kernel_rfl) (by kernel_rfl) (by kernel_rfl) hY w
theorem eq33 {Y : List Int} (h : Y.length = 26) (w : World) : (binOp .eql 33 (.agg (ints Y)) (.agg (ints Y))).run Tryd.prog w = .ok (.bool true) w := by
  rw [run_eql_struct, eqin33 h]
  rfl
theorem neq28 {Y : List Int} (h : Y.length = 26) (w : World) : (binOp .neq 28 (.agg (ints Y)) (.agg (ints Y))).run Tryd.prog w = .ok (.bool false) w := by
  rw [run_neq_struct, eqin28 h]
  rfl
theorem eq36 (x y : Int) (w : World) : (binOp .eql 36 (.agg (flt x y)) (.agg (flt x y))).run Tryd.prog w = .ok (.bool true) w := by
  have p0 : (part 3 (flt x y) 0).run Tryd.prog w = .ok (.int .i64 x) w := run_part_plain w (by kernel_rfl) rfl
  have p1 : (part 29 (flt x y) 1).run Tryd.prog w = .ok (.int .i64 y) w := run_part_plain w (by kernel_rfl) rfl
  have hf : (Tryd.prog.fieldsOf 36).toList = [(Tryd.prog.fieldsOf 36)[0]!, (Tryd.prog.fieldsOf 36)[1]!] := by kernel_rfl
  have a0 : ((Tryd.prog.fieldsOf 36)[0]!).type = 3 := by kernel_rfl
  have a1 : ((Tryd.prog.fieldsOf 36)[1]!).type = 29 := by kernel_rfl
  have b0 : ((Tryd.prog.fieldsOf 36)[0]!).offset = 0 := by kernel_rfl
  have b1 : ((Tryd.prog.fieldsOf 36)[1]!).offset = 1 := by kernel_rfl
  have c0 : ((Tryd.prog.fieldsOf 36)[0]!).name ≠ "_" := beq_eq_false_iff_ne.1 (by kernel_rfl)
  have c1 : ((Tryd.prog.fieldsOf 36)[1]!).name ≠ "_" := beq_eq_false_iff_ne.1 (by kernel_rfl)
  have u0 : Tryd.prog.underlying 3 = some (.int .i64) := by kernel_rfl
  have u1 : Tryd.prog.underlying 29 = some (.int .i64) := by kernel_rfl
  rw [run_eql_struct, run_equalIn_agg w 9999 36 _ _ (by kernel_rfl) (by kernel_rfl), hf]
  generalize (Tryd.prog.fieldsOf 36)[0]! = f0 at *
  generalize (Tryd.prog.fieldsOf 36)[1]! = f1 at *
  simp only [Op.eqFields, ne_eq, c0, c1, not_false_eq_true, if_true, a0, a1, b0, b1, Sem.run_bind, p0, p1, Result.andThen_ok, run_equalIn_int w 9998 3 .i64 .i64 _ _ u0, run_equalIn_int w 9998 29 .i64 .i64 _ _ u1, BEq.rfl, Bool.not_true, Bool.false_eq_true, if_false, Sem.run_pure]
theorem runP_len : ∀ (xs : List (Nat × Bs)) (i : Nat) (T : List Int), T.length = 26 → ∀ j T', runP xs i T = .ok (j, T') → T'.length = 26
  | [], i, T, h, j, T', e => by unfold runP at e; injection e with e; injection e with e1 e2; rw [← e2]; exact h
  | x :: xs, i, T, h, j, T', e => by
    unfold runP at e
    split at e
    · cases e
    · split at e
      · cases e
      · exact runP_len xs _ _ (by rw [List.length_set]; exact h) j T' e
theorem parsed_len (s : Bs) : (parsed s).1.length = 26 := by
  unfold parsed
  split
  · exact z26_len
  · cases h : runP (linesL s) 0 z26 with
    | error k => exact z26_len
    | ok x =>
      obtain ⟨j, T⟩ := x
      simp only [finP]
      split
      · exact z26_len
      · unfold finT
        split
        · exact runP_len _ _ _ z26_len _ _ h
        · exact z26_len
end Go.Proofs.YtofibebphfeglaaDoor
