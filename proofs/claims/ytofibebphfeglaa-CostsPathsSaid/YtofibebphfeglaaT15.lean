import Derived.Test.YtofibebphfeglaaT14
namespace Go.Proofs.Ytofibebphfeglaa
open Go.RowKit
attribute [local go_sem] ints_get ints_size ints_getElem

set_option maxHeartbeats 1000000 in
set_option maxRecDepth 100000 in
theorem rpath_calls (s c : Int) (l : List Int) (hl : l.length = 24) (A : Option Addr) (cap : Nat) (cs : List (Int × Int)) (w : World) (hp : Pairs w A cs) (hlen : cs.length ≤ 9223372036854775807) :
    Calls Try.prog 22 #[.agg (ints (s :: c :: l)), .slice A cs.length cap] w fun e w' => e = .returned (.tuple #[.int .i64 (pathS s c l cs).1, .int .i64 (pathS s c l cs).2]) ∧ Below w.heap.size w w' := by
  have H := Lib.hid hl
  clear hl
  have HF := Lib.hid (heap_alloc_new w (.cells (ints (s :: c :: l)) 29))
  have HW := Lib.hid ((Below.refl w.heap.size w).alloc (Nat.le_refl _) (.cells (ints (s :: c :: l)) 29))
  have HP := Lib.hid hp
  clear hp
  cases hok : okT s c l with
  | false =>
    have HE := Lib.hid (chk_f hok)
    have HS := Lib.hid (show pathS s c l cs = (0, 34) by simp [pathS, hok])
    clear hok
    go_enter Try.func22, Try.ntmps22
    go_wp2_with (first
      | ((with_reducible change wpList _ _ _ (⟨_, .load 29 (.tmp 2), _, _, _, _⟩ :: _) _ _); refine wpList_load_cells rfl 29 (.tmp 2) rfl ⟨w.heap.size, 0, none⟩ rfl (ints (s :: c :: l)) _ (cells_of_heap HF.out) Try.underlying29 rfl size29 (by rw [ints_size]; simp only [List.length_cons, H.out]) ?_)
      | (go_at_call 11; refine (rcheck_calls s c l H.out _).mono ?_; rw [HE.out]; rintro e w1 ⟨rfl, hb1⟩; replace HW := Lib.hid (below_then' HW.out hb1); clear hb1))
    go_ret2
    exact ⟨ret_int2' HS.out.symm, HW.out⟩
  | true =>
    have HE := Lib.hid (chk_t hok)
    by_cases hcs : cs.length ≤ 1000
    · have HS := Lib.hid (show pathS s c l cs = pathR s c l cs 0 by simp [pathS, hok, hcs])
      clear hok
      go_enter Try.func22, Try.ntmps22
      go_wp2_with (first
        | ((with_reducible change wpList _ _ _ (⟨_, .load 29 (.tmp 2), _, _, _, _⟩ :: _) _ _); refine wpList_load_cells rfl 29 (.tmp 2) rfl ⟨w.heap.size, 0, none⟩ rfl (ints (s :: c :: l)) _ (cells_of_heap HF.out) Try.underlying29 rfl size29 (by rw [ints_size]; simp only [List.length_cons, H.out]) ?_)
        | (go_at_call 11; refine (rcheck_calls s c l H.out _).mono ?_; rw [HE.out]; rintro e w1 ⟨rfl, hb1⟩; replace HF := Lib.hid (heap_kept HF.out hb1); replace HW := Lib.hid (below_then' HW.out hb1); clear hb1))
      go_loopw [6, 7] (fun m i wr => ∃ (k : Nat) (acc : Int), k ≤ cs.length ∧ i = .int .i64 k ∧ m = .int .i64 acc ∧ 0 ≤ acc ∧ acc ≤ 26600 * (k : Int) ∧ Hid (pathR s c l cs 0 = pathR s c l (cs.drop k) acc) ∧ Hid (Below w1.heap.size w1 wr)) (fun _ i _ => cs.length - (intOf i).toNat)
      case atStart => exact ⟨0, 0, by omega, rfl, rfl, by omega, by omega, Lib.hid rfl, Lib.hid (Below.refl _ _)⟩
      case round =>
        obtain ⟨k, acc, hk, rfl, rfl, ha0, ha1, HR, hb⟩ := hrel
        by_cases hlt : k < cs.length
        · have HPw := (HP.out.below HW.out).below hb.out
          obtain ⟨ad, rfl, hx, hy⟩ := HPw k hlt
          obtain ⟨x, hxe⟩ : ∃ x, x = (cs.getD k (0, 0)).1 := ⟨_, rfl⟩
          obtain ⟨y, hye⟩ : ∃ y, y = (cs.getD k (0, 0)).2 := ⟨_, rfl⟩
          rw [← hxe] at hx
          rw [← hye] at hy
          have HX := Lib.hid hxe
          have HY := Lib.hid hye
          clear HPw hxe hye
          replace HF := Lib.hid (heap_kept HF.out hb.out)
          have hcn := costN_bd s c l H.out x y
          have hx' : ∀ d os, (Sort.grow (redrawn wr d) os).cell? (ad.add (k * 2)) = some (.int .i64 x) := fun d os => cell_regrown hx d os
          have hy' : ∀ d os, (Sort.grow (redrawn wr d) os).cell? ⟨(ad.add (k * 2)).block, (ad.add (k * 2)).off + 1, none⟩ = some (.int .i64 y) := fun d os => cell_regrown hy d os
          clear hx hy
          by_cases hce : costE s c l x y = 0
          · have HCE := Lib.hid hce
            have HCC : ∀ W : World, Calls Try.prog 8 #[.agg (ints (s :: c :: l)), .int .i64 x, .int .i64 y] W fun e w' => e = .returned (.tuple #[.int .i64 (costN s c l x y), .int .i64 0]) ∧ Below W.heap.size W w' := fun W => by
              have := rcost_calls s c l H.out x y W
              rwa [hce] at this
            have HC2 := Lib.hid HCC
            clear hce HCC
            go_wp2_with fail
            refine wp_region_quiet_below (by kernel_rfl) (by kernel_rfl) ?_
            repeat (first
              | ((with_reducible change wpQuiet _ _ _ _ (⟨_, .load 29 (.tmp 2), _, _, _, _⟩ :: _) _); refine wpQuiet_load_cells rfl 29 (.tmp 2) rfl ⟨w.heap.size, 0, none⟩ rfl (ints (s :: c :: l)) _ (cells_of_heap HF.out) Try.underlying29 rfl size29 (by rw [ints_size]; simp only [List.length_cons, H.out]) ?_)
              | quiet_step ((go_at_call 8; exact (HC2.out _).regrown_of)))
            refine wpQuiet_nil ?_
            intro w5 hw5
            replace hb := Lib.hid (below_then' hb.out (below_of_regrown hw5))
            clear hw5 hx' hy'
            go_wp2
            go_roundw
            case rel => exact ⟨k + 1, acc + costN s c l x y, by omega, by go_num, by go_num, by omega, by omega, Lib.hid (by rw [HR.out, pathR_go hlt (by rw [← HX.out, ← HY.out]; exact HCE.out), ← HX.out, ← HY.out]), hb⟩
            case measure => simp [intOf]; omega
          · have hce' : (costE s c l x y == 0) = false := by simpa using hce
            have HCE := Lib.hid hce
            clear hce
            go_wp2_with fail
            refine wp_region_quiet_below (by kernel_rfl) (by kernel_rfl) ?_
            repeat (first
              | ((with_reducible change wpQuiet _ _ _ _ (⟨_, .load 29 (.tmp 2), _, _, _, _⟩ :: _) _); refine wpQuiet_load_cells rfl 29 (.tmp 2) rfl ⟨w.heap.size, 0, none⟩ rfl (ints (s :: c :: l)) _ (cells_of_heap HF.out) Try.underlying29 rfl size29 (by rw [ints_size]; simp only [List.length_cons, H.out]) ?_)
              | quiet_step ((go_at_call 8; exact (rcost_calls s c l H.out _ _ _).regrown_of)))
            refine wpQuiet_nil ?_
            intro w5 hw5
            replace hb := Lib.hid (below_then' hb.out (below_of_regrown hw5))
            clear hw5 hx' hy'
            go_wp2
            go_ret2
            exact ⟨ret_int2' (by rw [HS.out, HR.out, pathR_stop hlt (by rw [← HX.out, ← HY.out]; exact HCE.out), ← HX.out, ← HY.out]), below_then' HW.out hb.out⟩
        · obtain rfl : k = cs.length := by omega
          go_wp2
          go_ret2
          exact ⟨ret_int2' (by rw [HS.out, HR.out, List.drop_length]; rfl), below_then' HW.out hb.out⟩
    · have HS := Lib.hid (show pathS s c l cs = (0, 18) by simp [pathS, hok, hcs])
      clear hok
      have hcs' : 1000 < cs.length := by omega
      go_enter Try.func22, Try.ntmps22
      go_wp2_with (first
        | ((with_reducible change wpList _ _ _ (⟨_, .load 29 (.tmp 2), _, _, _, _⟩ :: _) _ _); refine wpList_load_cells rfl 29 (.tmp 2) rfl ⟨w.heap.size, 0, none⟩ rfl (ints (s :: c :: l)) _ (cells_of_heap HF.out) Try.underlying29 rfl size29 (by rw [ints_size]; simp only [List.length_cons, H.out]) ?_)
        | (go_at_call 11; refine (rcheck_calls s c l H.out _).mono ?_; rw [HE.out]; rintro e w1 ⟨rfl, hb1⟩; replace HW := Lib.hid (below_then' HW.out hb1); clear hb1))
      go_ret2
      exact ⟨ret_int2' HS.out.symm, HW.out⟩
end Go.Proofs.Ytofibebphfeglaa
