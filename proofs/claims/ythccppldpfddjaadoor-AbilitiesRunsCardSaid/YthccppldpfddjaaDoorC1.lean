/- New (10). -/
import Derived.Test.YthccppldpfddjaaDoorB9
namespace Go.Proofs.YthccppldpfddjaaDoor
open Go.RowKit
set_option linter.unusedVariables false
theorem wpMids_cons {P : Program} {ops : Array Oper} {Q : Exit → Act → World → Prop} {S : World → Prop} {R : Act → World → Prop} {l : List Oper} {i : Nat} {is : List Nat} {o : Oper} {a : Act} {w : World} (hi : l[i]? = some o)
    (h : ∀ K : Act → World → Prop, (∀ a' w', S w' → wpMids P ops Q S R l is a' w' → K a' w') → if Region.wanted o (yielded ops a.tmps) = true then Oper.wp P o a w K Q else K (a.put o.dst undef) w) : wpMids P ops Q S R l (i :: is) a w := by
  unfold wpMids
  rw [hi]
  exact h
theorem wpMids_nil {P : Program} {ops : Array Oper} {Q : Exit → Act → World → Prop} {S : World → Prop} {R : Act → World → Prop} {l : List Oper} {a : Act} {w : World} (h : R a w) : wpMids P ops Q S R l [] a w := h
def z192 : List Value := (List.replicate 64 [Value.slice none 0 0, .bool false, .bool false]).flatten
set_option maxRecDepth 100000 in
theorem built77 : Tryd.prog.built 77 [] = some z192.toArray := by kernel_rfl
theorem flat3 (a b c : Value) : ∀ (n j : Nat), j < n * 3 → (List.replicate n [a, b, c]).flatten[j]? = some (if j % 3 = 0 then a else if j % 3 = 1 then b else c)
  | 0, j, h => by omega
  | n + 1, 0, h => rfl
  | n + 1, 1, h => rfl
  | n + 1, 2, h => rfl
  | n + 1, i + 3, h => by
    rw [List.replicate_succ, List.flatten_cons, show (i + 3) % 3 = i % 3 by omega, ← flat3 a b c n i (by omega)]
    simp
theorem flat3_len (a b c : Value) : ∀ n : Nat, (List.replicate n [a, b, c]).flatten.length = n * 3
  | 0 => rfl
  | n + 1 => by rw [List.replicate_succ, List.flatten_cons, List.length_append, flat3_len a b c n]; simp; omega
theorem RArr.congr {n : Nat} {T E : TypeId} {w : World} {t : Nat} {lv : Nat → Value} {S S' : Nat → Rt} (h : RArr n T E w t lv S) (hS : ∀ i, i < n → S i = S' i) : RArr n T E w t lv S' := by
  obtain ⟨⟨cs, h1, h2, h3⟩, h4⟩ := h
  refine ⟨⟨cs, h1, h2, fun j hj => ?_⟩, fun i hi => by rw [← hS i hi]; exact h4 i hi⟩
  rw [h3 j hj]
  unfold rcell
  rw [hS (j / 3) (by omega)]
theorem zero64 (w : World) : RArr 64 77 43 (w.alloc (.cells z192.toArray 77)) w.heap.size (fun _ => .slice none 0 0) (fun _ => ⟨[], false, false⟩) := by
  refine ⟨⟨_, heap_alloc_new w _, by unfold z192; rw [List.size_toArray, flat3_len], fun j hj => ?_⟩, fun i hi => ls_nil _ _⟩
  have := flat3 (.slice none 0 0) (.bool false) (.bool false) 64 j hj
  unfold z192 rcell
  rw [List.getElem?_toArray]
  exact this
def newS (k : Nat) : St := fun i => if i < k then stdR (i / 32) else ⟨[], false, false⟩
theorem newS_succ (k : Nat) : upd (newS k) k (stdR (k / 32)) = newS (k + 1) := by
  funext i
  unfold upd newS
  by_cases h : i = k
  · subst h; simp
  · by_cases h1 : i < k
    · simp [h, h1, show i < k + 1 by omega]
    · simp [h, h1, show ¬ i < k + 1 by omega]
structure NJ (w : World) (k : Nat) (wr : World) : Prop where
  bel : Below w.heap.size w wr
  tab : ∃ lv, RArr 64 77 43 wr w.heap.size lv (newS k)
theorem NJ.store {w : World} {k : Nat} {wr w2 : World} (h : NJ w k wr) (hk : k < 64) (hb : Below wr.heap.size wr w2) {v : Value} (hv : Ls w2 43 v (stdR (k / 32)).rs) : NJ w (k + 1) (set3 w2 w.heap.size (k * 3) v (.bool (stdR (k / 32)).lk) (.bool (stdR (k / 32)).inh)) := by
  obtain ⟨lv, h1⟩ := h.tab
  refine ⟨(h.bel.trans (hb.mono h.bel.size)).trans (set3_below _ _ _ _ (Nat.le_refl _)), upd lv k v, ?_⟩
  rw [← newS_succ]
  exact (h1.below hb).store (by decide) hk hv
set_option maxHeartbeats 4000000 in
set_option maxRecDepth 100000 in
theorem new_calls (w : World) : Calls Tryd.prog 10 #[] w fun e w' => e = .returned (.pointer (some ⟨w.heap.size, 0, none⟩)) ∧ (∃ lv, RArr 64 77 43 w' w.heap.size lv St0) ∧ Below w.heap.size w w' := by
  have HJ0 := Lib.hid (NJ.mk (w := w) (k := 0) ((Below.refl _ w).alloc (Nat.le_refl _) _) ⟨_, (zero64 w).congr (fun i _ => by simp [newS])⟩)
  go_enter Tryd.func10, Tryd.ntmps10
  go_wp2_with ((with_reducible change wpList _ _ _ (⟨_, .build 77 _, _, _, _, _⟩ :: _) _ _); refine wpList_build_to rfl 77 #[] rfl [] rfl z192.toArray built77 ?_)
  go_loopw [6] (fun i wr => ∃ d : Nat, d ≤ 2 ∧ i = .int .i64 d ∧ Hid (NJ w (d * 32) wr)) (fun i _ => 2 - (intOf i).toNat)
  case atStart => exact ⟨0, by omega, rfl, HJ0⟩
  case round =>
    clear HJ0
    obtain ⟨d, hd, rfl, HJ⟩ := hrel
    by_cases hlt : d < 2
    · have hlt' : (d : Int) < 2 := by omega
      go_wp2
      go_loopw [9] (fun i wr => ∃ j : Nat, j ≤ 32 ∧ i = .int .i64 j ∧ Hid (NJ w (d * 32 + j) wr)) (fun i _ => 32 - (intOf i).toNat)
      case atStart => exact ⟨0, by omega, rfl, HJ⟩
      case round =>
        clear HJ
        obtain ⟨j, hj, rfl, HI⟩ := hrel
        by_cases hjl : j < 32
        · have hjl' : (j : Int) < 32 := by omega
          go_wp2
          have HS := Lib.hid (standard_calls d wr.drew)
          have ho : d * 96 + j * 3 = (d * 32 + j) * 3 := by omega
          have HK := Lib.hid (show (d * 32 + j) / 32 = d from by omega)
          apply Ends.splitV (F := fun v w3 => ∃ w2 A c, Below wr.heap.size wr w2 ∧ v = .agg #[.slice A (stdR d).rs.length c, .bool (stdR d).lk, .bool (stdR d).inh] ∧ Ls w2 43 (.slice A (stdR d).rs.length c) (stdR d).rs ∧ w3 = set3 w2 w.heap.size ((d * 32 + j) * 3) (.slice A (stdR d).rs.length c) (.bool (stdR d).lk) (.bool (stdR d).inh))
          case walk =>
            refine wp_region_mid 9 [0, 1, 2, 3, 5, 6, 7] [4, 8] (fun w' => Below wr.heap.size wr w')
              [.pointer (some ⟨w.heap.size, 0, none⟩), .int .i64 d, .int .i64 j, .int .i64 d, .pointer (some ⟨w.heap.size, 0, none⟩), .pointer (some ⟨w.heap.size, 0, none⟩), .pointer (some ⟨w.heap.size, d * 96, none⟩)]
              (by rfl) (by kernel_rfl) (fun _ _ _ _ _ h => h) (Below.drew (Below.refl _ _)) ?heads ?_
            case heads =>
              refine ⟨.inl ⟨rfl, fun w' hw => ?_⟩, .inl ⟨rfl, fun w' hw => ?_⟩, .inl ⟨rfl, fun w' hw => ?_⟩, .inl ⟨rfl, fun w' hw => ?_⟩, .inl ⟨rfl, fun w' hw => ?_⟩, .inl ⟨rfl, fun w' hw => ?_⟩, .inl ⟨rfl, fun w' hw => ?_⟩, trivial⟩ <;>
                (show (execOp _ _).run Tryd.prog w' = _; go_simp)
            simp only [List.drop_succ_cons, List.drop_zero, putIdx, Act.put, List.getElem?_cons_zero, List.getElem?_cons_succ, List.setIfInBounds_toArray, List.set_cons_zero, List.set_cons_succ]
            refine wpMids_cons rfl fun K hK => ?_
            refine if_wanted rfl (step_call 36 _ _ rfl (fun _ _ => rfl) [.int .i64 d] rfl HS.out ?_)
            rintro e w2 ⟨v', rfl, h1, h2⟩
            obtain ⟨A', c', rfl, -, -, -, -⟩ := Rw.form h1
            have HB2 := Lib.hid (show Below wr.heap.size wr w2 from (Below.drew (Below.refl _ _)).trans h2)
            refine ⟨_, rfl, hK _ _ HB2.out ?_⟩
            obtain ⟨lv, hr⟩ := HI.out.tab
            have hc0 := (hr.below HB2.out).three (i := d * 32 + j) (by omega)
            have f0 := (hr.below HB2.out).frozen ((d * 32 + j) * 3)
            have f1 := (hr.below HB2.out).frozen ((d * 32 + j) * 3 + 1)
            have f2 := (hr.below HB2.out).frozen ((d * 32 + j) * 3 + 2)
            obtain ⟨c0, c1, c2⟩ := hc0
            have HX := Lib.hid h1
            clear h1 h2 hK K hr
            unfold rv
            try simp only [Act.put, List.setIfInBounds_toArray, List.set_cons_zero, List.set_cons_succ]
            refine wpMids_cons rfl fun K hK => ?_
            go_simp
            refine hK _ _ HB2.out ?_
            clear hK K
            try simp only [Act.put, List.setIfInBounds_toArray, List.set_cons_zero, List.set_cons_succ]
            refine wpMids_nil ?_
            go_wp2
            generalize hV : Value.agg #[Value.slice A' (stdR d).rs.length c', Value.bool (stdR d).lk, Value.bool (stdR d).inh] = V
            apply Ends.mk
            exact ⟨V, rfl, w2, A', c', HB2.out, hV.symm, HX.out, rfl⟩
          case imp =>
            rintro v w3 ⟨w2, A, c, hb, rfl, hv, rfl⟩
            have HN := Lib.hid (NJ.store HI.out (by omega) hb (v := .slice A (stdR d).rs.length c) (by rw [HK.out]; exact hv))
            rw [HK.out] at HN
            clear hb hv HI HS
            go_wp2
            go_roundw
            case rel => exact ⟨j + 1, by omega, by go_num, HN⟩
            case measure => simp [intOf]; omega
        · obtain rfl : j = 32 := by omega
          go_wp2
          go_roundw
          case rel => exact ⟨d + 1, by omega, by go_num, Lib.hid (by rw [show (d + 1) * 32 = d * 32 + 32 by omega]; exact HI.out)⟩
          case measure => simp [intOf]; omega
    · obtain rfl : d = 2 := by omega
      go_wp2
      go_ret
      exact ⟨rfl, HJ.out.tab.imp fun lv h => h.congr (fun i hi => by simp [newS, St0]; omega), HJ.out.bel⟩
end Go.Proofs.YthccppldpfddjaaDoor
