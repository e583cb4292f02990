import Derived.Test.YtbpihfphoniclaaA1
namespace Go.Proofs.Ytbpihfphoniclaa
open Go.RowKit
set_option linter.unusedVariables false
section
variable {P : Program}
/-- A value of an array of one-celled elements is indexed. -/
theorem run_index_cells (w : World) (T E : TypeId) (n : Nat) (cs : Array Value) (i : Int) (u : Value) (hi : cs[i.toNat]? = some u) (h0 : 0 ≤ i) (h1 : i < n) (hT : P.underlying T = some (.array n E)) (d : TypeDesc) (hE : P.underlying E = some d) (hd : (match d with | .struct _ | .array _ _ => true | _ => false) = false) (hs : (P.info? E).map (·.size) = some 1) :
    (Instr.index T (.agg cs) (.int .i64 i)).run P w = .ok u w := by
  cases hq : P.info? E with
  | none => simp [hq] at hs
  | some y =>
    have hu : y.size = 1 := by simpa [hq] using hs
    have hagg : (isAgg E).run P w = .ok false w := by
      unfold isAgg
      rw [Sem.run_bind, run_underlying hE w]
      cases d <;> simp_all
    simp [Instr.index, asIntOf, run_underlying hT, h0, h1, part, sizeOf, typeInfo, hq, hu, hagg, hi]
end
def ptrs (L : Lay) : Array Value := ((List.range 256).map fun i => pv (L.ptr i)).toArray
theorem ptrs_size (L : Lay) : (ptrs L).size = 256 := by simp [ptrs]
theorem ptrs_get (L : Lay) (i : Nat) (h : i < 256) : (ptrs L)[i]? = some (pv (L.ptr i)) := by simp [ptrs, h]
theorem ptrs_cells {w : World} {base t : Nat} {L : Lay} {S : St} (h : RepL w base t L S) : ∀ j v, (ptrs L)[j]? = some v → w.cell? ((⟨t, 0, none⟩ : Addr).add j) = some v := by
  intro j v hv
  have hj : j < 256 := by
    have := (Array.getElem?_eq_some_iff.1 hv).1
    rwa [ptrs_size] at this
  rw [ptrs_get L j hj] at hv
  cases hv
  rw [add_at, Nat.zero_add, h.cellT j (by omega), tcell_ptr _ _ _ hj]
def thrK (S : St) (p : Int) (k : Nat) : List Nat := (List.range k).filter (inP S p)
theorem thrK_all (S : St) (p : Int) : thrK S p 256 = threads S p := rfl
theorem thrK_succ (S : St) (p : Int) (k : Nat) : thrK S p (k + 1) = thrK S p k ++ (if inP S p k then [k] else []) := by
  unfold thrK
  rw [List.range_succ, List.filter_append]
  congr 1
  simp [List.filter_cons]
theorem thrK_len (S : St) (p : Int) (k : Nat) : (thrK S p k).length ≤ k := by
  have := List.length_filter_le (inP S p) (List.range k)
  rw [List.length_range] at this
  exact this
def nums (l : List Nat) : List Value := l.map fun (i : Nat) => Value.int .i64 (i : Int)
theorem info3 : (Try.prog.info? 3).map (fun i => (i.zero, i.size, i.bytes)) = some (some (.int .i64 0), 1, 8) := by kernel_rfl
theorem size68 : (Try.prog.info? 68).map (·.size) = some 256 := by kernel_rfl
set_option maxHeartbeats 1000000 in
set_option maxRecDepth 100000 in
theorem threads_calls {base t : Nat} {L : Lay} {S : St} (p : Int) (w : World) (h : RepL w base t L S) :
    Calls Try.prog 30 #[.pointer (some ⟨t, 0, none⟩), .int .i64 p] w fun e w' => ∃ v, e = .returned v ∧ w'.ownsRow w.heap.size 3 1 v (threads S p).length (nums (threads S p)) ∧ Below w.heap.size w w' := by
  have H := Lib.hid h
  have HC := Lib.hid (ptrs_cells h)
  clear h
  go_enter Try.func30, Try.ntmps30
  go_wp2_with ((with_reducible change wpList _ _ _ (⟨_, .load 68 (.tmp 10), _, _, _, _⟩ :: _) _ _); refine wpList_load_cells (by rfl) 68 (.tmp 10) rfl ⟨t, 0, none⟩ rfl (ptrs L) _ HC.out Try.underlying68 rfl size68 (ptrs_size L) ?_)
  go_loopw [5, 12] (fun v i wr => ∃ k : Nat, k ≤ 256 ∧ i = .int .i64 k ∧ Hid (wr.ownsRow w.heap.size 3 1 v (thrK S p k).length (nums (thrK S p k)) ∧ Below w.heap.size w wr)) (fun _ i _ => 256 - (intOf i).toNat)
  case atStart => exact ⟨0, by omega, rfl, Lib.hid ⟨⟨rfl, .inl ⟨rfl, rfl⟩⟩, Below.refl _ _⟩⟩
  case round =>
    obtain ⟨k, hk, rfl, HI⟩ := hrel
    by_cases hlt : k < 256
    · have hidx := fun W => run_index_cells (P := Try.prog) W 68 67 256 (ptrs L) (k : Int) _ (by rw [Int.toNat_natCast]; exact ptrs_get L k hlt) (by omega) (by omega) Try.underlying68 _ Try.underlying67 rfl (by kernel_rfl)
      cases hx : S.tk k with
      | none =>
        have HN := Lib.hid (show thrK S p (k + 1) = thrK S p k by rw [thrK_succ]; simp [inP, hx])
        rw [(H.out.idle k hlt hx).1] at hidx
        simp only [pv, Option.map_none] at hidx
        clear hx
        go_wp2
        go_roundw
        case rel => exact ⟨k + 1, by omega, by go_num, by rw [HN.out]; exact HI⟩
        case measure => simp [intOf]; omega
      | some x =>
        obtain ⟨b, hb, _, hbl, hbc, _⟩ := H.out.task_cell hlt hx
        rw [hb] at hidx
        simp only [pv, Option.map_some] at hidx
        have hc : wr.cell? ⟨b, 0, none⟩ = some (.int .i64 x.proc) := by
          rw [HI.out.2.cell hbl, cell_of_row _ _ _ _ _ _ hbc]
          rfl
        clear hbc
        by_cases hp : x.proc = p
        · have HN := Lib.hid (show thrK S p (k + 1) = thrK S p k ++ [k] by rw [thrK_succ]; simp [inP, hx, hp])
          have hp' : (x.proc == p) = true := by simp [hp]
          have hlk := thrK_len S p k
          obtain ⟨hown, hbel⟩ := HI.out
          generalize thrK S p k = l at *
          clear hx hb hp
          go_wp2_with (at_builtin; refine wpList_append_1 rfl (.tmp 26) (.tmp 28) 43 3 rfl (.int .i64 0) 1 8 Try.underlying43 info3 rfl (by decide) w w.heap.size l.length _ (nums l) rfl hown hbel [.int .i64 k] (by first | rfl | simp [Act.eval, Act.put]) rfl (by simp [Value.oneCell']) (by unfold maxLen; omega) (by omega) hbel.size ?_; intro v' w2 hown2 hb2; have HI2 := Lib.hid (And.intro hown2 hb2); clear hown2 hb2)
          go_roundw
          case rel => exact ⟨k + 1, by omega, by go_num, by rw [HN.out]; simpa [nums] using HI2⟩
          case measure => simp [intOf]; omega
        · have HN := Lib.hid (show thrK S p (k + 1) = thrK S p k by rw [thrK_succ]; simp [inP, hx, hp])
          have hp' : (x.proc == p) = false := by simp [hp]
          clear hx hb hp
          go_wp2
          go_roundw
          case rel => exact ⟨k + 1, by omega, by go_num, by rw [HN.out]; exact HI⟩
          case measure => simp [intOf]; omega
    · obtain rfl : k = 256 := by omega
      rw [thrK_all] at HI
      go_wp2
      go_ret
      exact ⟨_, rfl, HI.out⟩
end Go.Proofs.Ytbpihfphoniclaa
