import Derived.Test.YtbojagkalbfenaaU1
namespace Go.Proofs.Ytbojagkalbfenaa
set_option linter.unusedVariables false
set_option linter.unusedSimpArgs false
open Go.RowKit PIovGather Go.Proofs.YtbojagkalbfenaaW.PrintWords
attribute [local go_sem] ints_get ints_size ints_getElem

theorem hdr_length (ds : List Int) : (hdr ds).length = 16 := by
  unfold hdr; split
  · rfl
  · simp [byts]; omega
theorem hdr_one (ds : List Int) : ∀ v ∈ hdr ds, v.oneCell' = true := by
  unfold hdr; split
  · decide
  · intro v hv; obtain ⟨p, _, rfl⟩ := List.mem_map.1 hv; rfl
theorem cells_of_heap {w : World} {g : Nat} {cs : Array Value} {T : TypeId} {fr : Nat × Nat} (h : w.heap[g]? = some (.cells cs T fr)) : ∀ j v, cs[j]? = some v → w.cell? ((⟨g, 0, none⟩ : Addr).add j) = some v := by
  intro j v hv
  rw [add_at, cell_of_row _ _ _ _ _ _ h]
  simpa using hv
theorem eq16 (W : World) : (Op.equalIn 10000 33 (.agg z16.toArray) (.agg z16.toArray)).run Try.prog W = .ok true W := by kernel_rfl
theorem C_of_row {w : World} {g : Nat} {l : List Int} {T : TypeId} {fr : Nat × Nat} (hl : l.length ≤ 9223372036854775807) (h : w.heap[g]? = some (.cells (byts l).toArray T fr)) : Kd.C (Kd.int .u8) w (some ⟨g, 0, none⟩) l.length l := by
  refine ⟨rfl, hl, fun _ => ⟨_, rfl, fun j p hj => ⟨[.int .u8 p], rfl, rfl, fun i u hi => ?_⟩⟩⟩
  match i, hi with
  | 0, hi =>
    cases hi
    rw [add_at, cell_of_row _ _ _ _ _ _ h]
    simp [byts, hj, Kd.int, Kd.scalar]
  | i + 1, hi => simp at hi
/-- slices.Equal of one list of bytes, twice in memory. -/
theorem equal_same {W : World} {A B : Option Addr} {ca cb : Nat} {l : List Int} {n m : Nat} (ha : Kd.C (Kd.int .u8) W A l.length l) (hb : Kd.C (Kd.int .u8) W B l.length l) (hca : l.length ≤ ca) (hcb : l.length ≤ cb) (hl : l.length ≤ 1000000) (hn : n = l.length) (hm : m = l.length) :
    Calls Try.prog 14 #[.slice A n ca, .slice B m cb] W fun e w' => e = .returned (.bool true) ∧ Below W.heap.size W w' := by
  subst hn; subst hm
  refine (slices_Equal_byte_byte.calls 1000002 A ca l B cb l true W ha hca hb hcb (by rw [equal_f l l hl (by omega)]; simp)).mono ?_
  rintro e w' ⟨rfl, hd⟩
  exact ⟨rfl, hd.below⟩
theorem z16_one : z16.toArray.all (·.oneCell') = true := by decide +kernel
theorem z16_size : (Try.prog.info? 33).map (·.size) = some z16.toArray.size := by kernel_rfl
/-- A new array, stored whole: where it lies then. -/
theorem stored16 (w : World) (vs : List Value) (hv : vs.length = 16) : (w.alloc (.cells z16.toArray 33)).there w.heap.size 0 vs.toArray.size := there_row (heap_alloc_new w _) (by simp [hv, z16])
theorem stored16_row (w : World) (vs : List Value) (hv : vs.length = 16) : ((w.alloc (.cells z16.toArray 33)).setCells w.heap.size 0 vs).heap[w.heap.size]? = some (.cells vs.toArray 33 (0, 0)) := by
  obtain ⟨cur, h1, h2, h3⟩ := setCells_row (e := 33) vs 0 (w.alloc (.cells z16.toArray 33)) z16.toArray (heap_alloc_new w _) (by simp [hv, z16])
  rw [h1]
  simp only [List.take_zero, List.nil_append, Nat.zero_add, hv] at h3
  rw [List.drop_eq_nil_of_le (by simp [z16]), List.append_nil] at h3
  rw [← Array.toArray_toList (xs := cur), h3]
theorem stored16_below {b : Nat} {w W : World} (h : Below b w W) (hb : b ≤ W.heap.size) (vs : List Value) : Below b w ((W.alloc (.cells z16.toArray 33)).setCells W.heap.size 0 vs) := below_setCells (h.alloc hb _) hb
theorem header_ge (A : Option Addr) (cap : Nat) (ds : List Int) (w : World) (hC : Kd.C (Kd.int .u8) w A ds.length ds) (hs : ∀ ad, A = some ad → ad.spot = none) (hc : ds.length ≤ cap) (hm : cap ≤ 9223372036854775807) (h6 : ds.length ≤ 6000) (h16 : ¬ ds.length < 16) :
    Calls Try.prog 17 #[.slice A ds.length cap] w fun e w' => ∃ A3 c3, e = .returned (.tuple #[.agg (hdr ds).toArray, .slice A3 (ds.length - 16) c3, .bool true]) ∧ ds.length - 16 ≤ c3 ∧ Kd.C (Kd.int .u8) w' A3 (ds.drop 16).length (ds.drop 16) ∧ Below w.heap.size w w' := by
  refine (header_calls A cap ds w hC hs hc hm h6).mono ?_
  rintro e w' ⟨v, rfl, ho, hb⟩
  obtain ⟨A3, c3, rfl, hc3, h3⟩ := C_of_own ho
  rw [decide_eq_true (by omega), List.length_drop] at *
  exact ⟨A3, c3, rfl, hc3, h3, hb⟩
set_option maxHeartbeats 1000000 in
set_option maxRecDepth 100000 in
theorem units_law (n : Int) (hn : -9223372036854775808 ≤ n ∧ n ≤ 9223372036854775807) (A : Option Addr) (cap : Nat) (ds : List Int) (w : World) (hC : Kd.C (Kd.int .u8) w A ds.length ds) (hs : ∀ ad, A = some ad → ad.spot = none) (hc : ds.length ≤ cap) (hm : cap ≤ 9223372036854775807) :
    Calls Try.prog 4 #[.int .i64 n, .slice A ds.length cap] w fun e w' => e = .returned (.bool true) ∧ Below w.heap.size w w' := by
  have HC := Lib.hid hC
  have HS := Lib.hid hs
  clear hC hs
  go_enter Try.func4, Try.ntmps4
  by_cases h6 : 6000 < ds.length
  · go_wp2_with (first
      | (go_at_call 11; refine (awake_calls _).mono ?_; rintro e w5 ⟨rfl, hb⟩))
    go_ret
    exact ⟨rfl, hb⟩
  · have HB := Lib.hid (Below.refl w.heap.size w)
    have hi : (Try.prog.info? 33).map (·.size) = some (hdr ds).toArray.size := by rw [List.size_toArray, hdr_length]; kernel_rfl
    have HI := Lib.hid hi
    clear hi
    by_cases h16 : ds.length < 16
    · have heq : ∀ W, (Op.equalIn 10000 33 (.agg z16.toArray) (.agg #[Value.int .u8 0, Value.int .u8 0, Value.int .u8 0, Value.int .u8 0, Value.int .u8 0, Value.int .u8 0, Value.int .u8 0, Value.int .u8 0, Value.int .u8 0, Value.int .u8 0, Value.int .u8 0, Value.int .u8 0, Value.int .u8 0, Value.int .u8 0, Value.int .u8 0, Value.int .u8 0])).run Try.prog W = .ok true W := eq16
      go_wp2_with (first
        | (go_at_call 15; refine (units_calls n hn _).mono ?_; rintro e w1 ⟨rfl, hb⟩; replace HB := Lib.hid (below_then' HB.out hb); clear hb)
        | (go_at_call 16; refine (runits_calls n hn _).mono ?_; rintro e w2 ⟨rfl, hb⟩; replace HB := Lib.hid (below_then' HB.out hb); clear hb)
        | (go_at_call 17; refine (header_small A cap ds _ h16).mono ?_; rintro e w3 ⟨rfl, hb⟩; replace HB := Lib.hid (below_then' HB.out hb); clear hb)
        | ((with_reducible change wpList _ _ _ (⟨_, .store 33 (.tmp 5) (.tmp 20), _, _, _, _⟩ :: _) _ _); go_loud (refine wpList_store_mid rfl 33 (.tmp 5) (.tmp 20) rfl _ 0 z16.toArray rfl rfl (stored16 w3 z16 rfl) z16_size z16_one ?_; have HR := Lib.hid (stored16_row w3 z16 rfl); have HBB := Lib.hid (stored16_below HB.out HB.out.size z16); show wpList _ _ _ _ _ ((w3.alloc (.cells z16.toArray 33)).setCells w3.heap.size 0 z16); generalize (w3.alloc (.cells z16.toArray 33)).setCells w3.heap.size 0 z16 = W4 at HR HBB ⊢))
        | ((with_reducible change wpList _ _ _ (⟨_, .load 33 (.tmp 5), _, _, _, _⟩ :: _) _ _); go_loud (refine wpList_load_cells (by rfl) 33 (.tmp 5) rfl ⟨w3.heap.size, 0, none⟩ rfl z16.toArray _ (cells_of_heap HR.out) Try.underlying33 rfl z16_size rfl ?_))
        | (go_at_call 11; refine (awake_calls _).mono ?_; rintro e w5 ⟨rfl, hb⟩; replace HBB := Lib.hid (below_then' HBB.out hb); clear hb))
      go_ret
      exact ⟨rfl, HBB.out⟩
    · obtain ⟨ad, e, _⟩ := HC.out.2.2 (by omega)
      subst e
      have hsp := HS.out ad rfl
      obtain ⟨b, o, sp⟩ := ad
      simp only at hsp
      subst hsp
      go_wp2_with (first
        | (go_at_call 15; refine (units_calls n hn _).mono ?_; rintro e w1 ⟨rfl, hb⟩; replace HB := Lib.hid (below_then' HB.out hb); clear hb)
        | (go_at_call 16; refine (runits_calls n hn _).mono ?_; rintro e w2 ⟨rfl, hb⟩; replace HB := Lib.hid (below_then' HB.out hb); clear hb)
        | (go_at_call 17; refine (header_ge _ cap ds _ (Kd.C_below HC.out HB.out) HS.out hc hm (by omega) h16).mono ?_; rintro e w3 ⟨A3, c3, rfl, hc3, h3, hb⟩; have H3 := Lib.hid h3; replace HB := Lib.hid (below_then' HB.out hb); clear hb h3)
        | ((with_reducible change wpList _ _ _ (⟨_, .store 33 (.tmp 5) (.tmp 20), _, _, _, _⟩ :: _) _ _); go_loud (refine wpList_store_mid rfl 33 (.tmp 5) (.tmp 20) rfl _ 0 (hdr ds).toArray rfl rfl (stored16 w3 (hdr ds) (hdr_length ds)) HI.out (all_oneCell_toArray (hdr_one ds)) ?_; have HR := Lib.hid (stored16_row w3 (hdr ds) (hdr_length ds)); have HBB := Lib.hid (stored16_below HB.out HB.out.size (hdr ds)); have HB3 := Lib.hid (stored16_below (Below.refl w3.heap.size w3) (Nat.le_refl _) (hdr ds)); show wpList _ _ _ _ _ ((w3.alloc (.cells z16.toArray 33)).setCells w3.heap.size 0 (hdr ds)); generalize (w3.alloc (.cells z16.toArray 33)).setCells w3.heap.size 0 (hdr ds) = W4 at HR HBB HB3 ⊢)))
      have hl : (ds.take 16).length = 16 := by simp; omega
      have h16' : hdr ds = byts (ds.take 16) := if_neg h16
      have e1 : ∀ W, Below W4.heap.size W4 W → Calls Try.prog 14 #[.slice (some ⟨w3.heap.size, 0, none⟩) 16 16, .slice (some ⟨b, o, none⟩) 16 cap] W fun e w' => e = .returned (.bool true) ∧ Below W.heap.size W w' := by
        intro W hW
        have h1 := C_of_row (l := ds.take 16) (by omega) (by rw [← h16']; exact HR.out)
        have h2 := Kd.C_take (m := 16) (Kd.C_below HC.out HB.out) (by omega)
        exact equal_same (Kd.C_below h1 hW) (Kd.C_below (Kd.C_below h2 HB3.out) hW) (by omega) (by omega) (by omega) hl.symm hl.symm
      have e2 : ∀ W A4, A4 = (if cap = 16 then some ⟨b, o, none⟩ else some ⟨b, o + 16, none⟩ : Option Addr) → Below W4.heap.size W4 W → Calls Try.prog 14 #[.slice A3 (ds.length - 16) c3, .slice A4 (ds.length - 16) (cap - 16)] W fun e w' => e = .returned (.bool true) ∧ Below W.heap.size W w' := by
        intro W A4 hA4 hW
        have h2 := Kd.C_drop (m := 16) (c := cap) (Kd.C_below HC.out HB.out) (by omega) hc
        rw [show (if cap = 16 then some (⟨b, o, none⟩ : Addr) else (some ⟨b, o, none⟩ : Option Addr).map (·.add (16 * (Kd.int .u8).sz))) = A4 by rw [hA4]; congr 1] at h2
        exact equal_same (Kd.C_below (Kd.C_below H3.out HB3.out) hW) (Kd.C_below (Kd.C_below h2 HB3.out) hW) (by simpa using hc3) (by simp; omega) (by simp; omega) (by simp) (by simp)
      clear h16'
      have hcc : 16 ≤ cap := by omega
      have hcl : 16 ≤ ds.length := by omega
      have hcci : (16 : Int) ≤ (cap : Int) := by omega
      have hcli : (16 : Int) ≤ (ds.length : Int) := by omega
      have E1 := Lib.hid e1
      have E2 := Lib.hid e2
      clear e1 e2
      refine wp_region_quiet_below (by kernel_rfl) (by kernel_rfl) ?_
      repeat (first
        | quiet_step (first
            | (go_at_call 14; first | (with_reducible exact (E1.out _ (below_regrown _ _ _)).regrown_of) | exact (E2.out _ _ (by simp [*]) (below_regrown _ _ _)).regrown_of)
            | (go_at_call 11; exact (awake_calls _).regrown_of)))
      refine wpQuiet_nil ?_
      intro w5 hw5
      have hb5 := Lib.hid (below_of_regrown hw5)
      clear hw5
      go_wp2
      all_goals (go_ret; exact ⟨rfl, below_then' HBB.out hb5.out⟩)
end Go.Proofs.Ytbojagkalbfenaa
