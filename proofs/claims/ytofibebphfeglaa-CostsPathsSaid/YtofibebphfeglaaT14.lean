import Derived.Test.YtofibebphfeglaaT10
import Derived.Test.YtofibebphfeglaaOpen24
namespace Go.Proofs.Ytofibebphfeglaa
open Go.RowKit
attribute [local go_sem] ints_get ints_size ints_getElem

/-- A slice of pairs of int64 that lies in memory. -/
def Pairs (w : World) (A : Option Addr) (l : List (Int × Int)) : Prop :=
  ∀ i, i < l.length → ∃ ad, A = some ad ∧ w.cell? (ad.add (i * 2)) = some (.int .i64 (l.getD i (0, 0)).1) ∧ w.cell? ⟨(ad.add (i * 2)).block, (ad.add (i * 2)).off + 1, none⟩ = some (.int .i64 (l.getD i (0, 0)).2)
theorem Pairs.below {w w1 : World} {A : Option Addr} {l : List (Int × Int)} (h : Pairs w A l) (hb : Below w.heap.size w w1) : Pairs w1 A l := by
  intro i hi
  obtain ⟨ad, e, h1, h2⟩ := h i hi
  exact ⟨ad, e, (hb.cell (World.block_lt_of_cell? _ _ h1)).trans h1, (hb.cell (World.block_lt_of_cell? _ _ h2)).trans h2⟩

/-- The sum of the costs of calls, and the first error. -/
def pathR (s c : Int) (l : List Int) : List (Int × Int) → Int → Int × Int
  | [], acc => (acc, 0)
  | p :: r, acc => if costE s c l p.1 p.2 = 0 then pathR s c l r (acc + costN s c l p.1 p.2) else (0, costE s c l p.1 p.2)
def pathS (s c : Int) (l : List Int) (cs : List (Int × Int)) : Int × Int := if okT s c l then (if cs.length ≤ 1000 then pathR s c l cs 0 else (0, 18)) else (0, 34)
theorem cost_ok {s c : Int} {l : List Int} {a b : Int} (he : costE s c l a b = 0) : okT s c l = true ∧ (0 ≤ a ∧ a < 24) ∧ (0 ≤ b ∧ b ≤ 4096) := by
  by_cases h1 : okT s c l = true
  · by_cases h2 : 0 ≤ a ∧ a < 24
    · by_cases h3 : 0 ≤ b ∧ b ≤ 4096
      · exact ⟨h1, h2, h3⟩
      · simp [costE, h1, okOp, h2, okB, h3] at he
    · simp [costE, h1, okOp, h2] at he
  · simp [costE, h1] at he
theorem costN_bd (s c : Int) (l : List Int) (hl : l.length = 24) (a b : Int) : 0 ≤ costN s c l a b ∧ costN s c l a b ≤ 26600 := by
  unfold costN
  split
  · rename_i h
    obtain ⟨h1, h2, h3⟩ := cost_ok h
    obtain ⟨-, hc0, hc1⟩ := okT_c h1
    have h4 := okT_l h1 a.toNat (by omega)
    have h5 := mul_bd hc0 hc1 (units_bd h3.1 h3.2).1 (units_bd h3.1 h3.2).2
    omega
  · omega
theorem ret_int2' {a b : Int} {x : Int × Int} (h : (a, b) = x) : Ending.returned (.tuple #[.int .i64 a, .int .i64 b]) = .returned (.tuple #[.int .i64 x.1, .int .i64 x.2]) := by rw [← h]
theorem pathR_go {s c : Int} {l : List Int} {cs : List (Int × Int)} {k : Nat} {acc : Int} (hk : k < cs.length) (he : costE s c l (cs.getD k (0, 0)).1 (cs.getD k (0, 0)).2 = 0) :
    pathR s c l (cs.drop k) acc = pathR s c l (cs.drop (k + 1)) (acc + costN s c l (cs.getD k (0, 0)).1 (cs.getD k (0, 0)).2) := by
  rw [List.drop_eq_getElem_cons hk]
  simp only [List.getD_eq_getElem?_getD, List.getElem?_eq_getElem hk, Option.getD_some] at he ⊢
  simp only [pathR, he, if_true]
theorem pathR_stop {s c : Int} {l : List Int} {cs : List (Int × Int)} {k : Nat} {acc : Int} (hk : k < cs.length) (he : costE s c l (cs.getD k (0, 0)).1 (cs.getD k (0, 0)).2 ≠ 0) :
    pathR s c l (cs.drop k) acc = (0, costE s c l (cs.getD k (0, 0)).1 (cs.getD k (0, 0)).2) := by
  rw [List.drop_eq_getElem_cons hk]
  simp only [List.getD_eq_getElem?_getD, List.getElem?_eq_getElem hk, Option.getD_some] at he ⊢
  simp only [pathR, he, if_false]
theorem zero48 : (Try.prog.info? 48).map (·.zero) = some (some (.agg (ints [0, 0]))) := by kernel_rfl
theorem size48 : (Try.prog.info? 48).map (·.size) = some 2 := by kernel_rfl

set_option maxHeartbeats 1000000 in
set_option maxRecDepth 100000 in
theorem path_calls (s c : Int) (l : List Int) (hl : l.length = 24) (A : Option Addr) (cap : Nat) (cs : List (Int × Int)) (w : World) (hp : Pairs w A cs) (hlen : cs.length ≤ 9223372036854775807) :
    Calls Try.prog 21 #[.agg (ints (s :: c :: l)), .slice A cs.length cap] w fun e w' => e = .returned (.tuple #[.int .i64 (pathS s c l cs).1, .int .i64 (pathS s c l cs).2]) ∧ Below w.heap.size w w' := by
  have H := Lib.hid hl
  clear hl
  have HF := Lib.hid (heap_alloc_new w (.cells (ints (s :: c :: l)) 24))
  have HW := Lib.hid ((Below.refl w.heap.size w).alloc (Nat.le_refl _) (.cells (ints (s :: c :: l)) 24))
  have HP := Lib.hid hp
  clear hp
  cases hok : okT s c l with
  | false =>
    have HE := Lib.hid (chk_f hok)
    have HS := Lib.hid (show pathS s c l cs = (0, 34) by simp [pathS, hok])
    clear hok
    go_enter Try.func21, Try.ntmps21
    go_wp2_with (first
      | ((with_reducible change wpList _ _ _ (⟨_, .load 24 (.tmp 2), _, _, _, _⟩ :: _) _ _); refine wpList_load_cells rfl 24 (.tmp 2) rfl ⟨w.heap.size, 0, none⟩ rfl (ints (s :: c :: l)) _ (cells_of_heap HF.out) Try.underlying24 rfl size24 (by rw [ints_size]; simp only [List.length_cons, H.out]) ?_)
      | (go_at_call 10; refine (check_calls s c l H.out _).mono ?_; rw [HE.out]; rintro e w1 ⟨rfl, hb1⟩; replace HW := Lib.hid (below_then' HW.out hb1); clear hb1))
    go_ret2
    exact ⟨ret_int2' HS.out.symm, HW.out⟩
  | true =>
    have HE := Lib.hid (chk_t hok)
    by_cases hcs : cs.length ≤ 1000
    · have HS := Lib.hid (show pathS s c l cs = pathR s c l cs 0 by simp [pathS, hok, hcs])
      clear hok
      go_enter Try.func21, Try.ntmps21
      go_wp2_with (first
        | ((with_reducible change wpList _ _ _ (⟨_, .load 24 (.tmp 2), _, _, _, _⟩ :: _) _ _); refine wpList_load_cells rfl 24 (.tmp 2) rfl ⟨w.heap.size, 0, none⟩ rfl (ints (s :: c :: l)) _ (cells_of_heap HF.out) Try.underlying24 rfl size24 (by rw [ints_size]; simp only [List.length_cons, H.out]) ?_)
        | (go_at_call 10; refine (check_calls s c l H.out _).mono ?_; rw [HE.out]; rintro e w1 ⟨rfl, hb1⟩; replace HF := Lib.hid (heap_kept HF.out hb1); replace HW := Lib.hid (below_then' HW.out hb1); clear hb1))
      go_loopw [6, 19] (fun m i wr => ∃ (k : Nat) (acc : Int), k ≤ cs.length ∧ i = .int .i64 k ∧ m = .int .i64 acc ∧ 0 ≤ acc ∧ acc ≤ 26600 * (k : Int) ∧ Hid (pathR s c l cs 0 = pathR s c l (cs.drop k) acc) ∧ Hid (Below w1.heap.size w1 wr)) (fun _ i _ => cs.length - (intOf i).toNat)
      case atStart => exact ⟨0, 0, by omega, rfl, rfl, by omega, by omega, Lib.hid rfl, Lib.hid (Below.refl _ _)⟩
      case round =>
        obtain ⟨k, acc, hk, rfl, rfl, ha0, ha1, HR, hb⟩ := hrel
        by_cases hlt : k < cs.length
        · have HPw := (HP.out.below HW.out).below hb.out
          obtain ⟨ad, rfl, hx, hy⟩ := HPw k hlt
          obtain ⟨x, hxe⟩ : ∃ x, x = (cs.getD k (0, 0)).1 := ⟨_, rfl⟩
          obtain ⟨y, hye⟩ : ∃ y, y = (cs.getD k (0, 0)).2 := ⟨_, rfl⟩
          rw [← hxe] at hx
          rw [← hye] at hy
          have HX := Lib.hid hxe
          have HY := Lib.hid hye
          clear HPw hxe hye
          replace HF := Lib.hid (heap_kept HF.out hb.out)
          have hcn := costN_bd s c l H.out x y
          by_cases hce : costE s c l x y = 0
          · have HCE := Lib.hid hce
            clear hce
            go_wp2_with (first
              | ((with_reducible change wpList _ _ _ (⟨_, .load 24 (.tmp 2), _, _, _, _⟩ :: _) _ _); refine wpList_load_cells rfl 24 (.tmp 2) rfl ⟨w.heap.size, 0, none⟩ rfl (ints (s :: c :: l)) _ (cells_of_heap (heap_kept HF.out ((Below.refl _ _).alloc (Nat.le_refl _) _))) Try.underlying24 rfl size24 (by rw [ints_size]; simp only [List.length_cons, H.out]) ?_)
              | (go_at_call 7; refine (cost_calls s c l H.out _ _ _).mono ?_; rw [HCE.out]; rintro e w2 ⟨rfl, hb2⟩; replace hb := Lib.hid (below_then' (hb.out.alloc hb.out.size _) hb2); clear hb2))
            go_roundw
            case rel => exact ⟨k + 1, acc + costN s c l x y, by omega, by go_num, by go_num, by omega, by omega, Lib.hid (by rw [HR.out, pathR_go hlt (by rw [← HX.out, ← HY.out]; exact HCE.out), ← HX.out, ← HY.out]), hb⟩
            case measure => simp [intOf]; omega
          · have hce' : (costE s c l x y == 0) = false := by simpa using hce
            have HCE := Lib.hid hce
            clear hce
            go_wp2_with (first
              | ((with_reducible change wpList _ _ _ (⟨_, .load 24 (.tmp 2), _, _, _, _⟩ :: _) _ _); refine wpList_load_cells rfl 24 (.tmp 2) rfl ⟨w.heap.size, 0, none⟩ rfl (ints (s :: c :: l)) _ (cells_of_heap (heap_kept HF.out ((Below.refl _ _).alloc (Nat.le_refl _) _))) Try.underlying24 rfl size24 (by rw [ints_size]; simp only [List.length_cons, H.out]) ?_)
              | (go_at_call 7; refine (cost_calls s c l H.out _ _ _).mono ?_; rintro e w2 ⟨rfl, hb2⟩; replace hb := Lib.hid (below_then' (hb.out.alloc hb.out.size _) hb2); clear hb2))
            go_ret2
            exact ⟨ret_int2' (by rw [HS.out, HR.out, pathR_stop hlt (by rw [← HX.out, ← HY.out]; exact HCE.out), ← HX.out, ← HY.out]), below_then' HW.out hb.out⟩
        · obtain rfl : k = cs.length := by omega
          go_wp2
          go_ret2
          exact ⟨ret_int2' (by rw [HS.out, HR.out, List.drop_length]; rfl), below_then' HW.out hb.out⟩
    · have HS := Lib.hid (show pathS s c l cs = (0, 18) by simp [pathS, hok, hcs])
      clear hok
      have hcs' : 1000 < cs.length := by omega
      go_enter Try.func21, Try.ntmps21
      go_wp2_with (first
        | ((with_reducible change wpList _ _ _ (⟨_, .load 24 (.tmp 2), _, _, _, _⟩ :: _) _ _); refine wpList_load_cells rfl 24 (.tmp 2) rfl ⟨w.heap.size, 0, none⟩ rfl (ints (s :: c :: l)) _ (cells_of_heap HF.out) Try.underlying24 rfl size24 (by rw [ints_size]; simp only [List.length_cons, H.out]) ?_)
        | (go_at_call 10; refine (check_calls s c l H.out _).mono ?_; rw [HE.out]; rintro e w1 ⟨rfl, hb1⟩; replace HW := Lib.hid (below_then' HW.out hb1); clear hb1))
      go_ret2
      exact ⟨ret_int2' HS.out.symm, HW.out⟩
end Go.Proofs.Ytofibebphfeglaa
