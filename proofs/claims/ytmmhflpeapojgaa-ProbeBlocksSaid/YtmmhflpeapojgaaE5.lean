import Derived.Test.YtmmhflpeapojgaaE4
namespace Go.Proofs.Ytmmhflpeapojgaa
set_option linter.unusedVariables false
set_option linter.unusedSimpArgs false
open Go.RowKit Ieee
attribute [local go_sem] ints_get ints_size ints_getElem
theorem owns_below {w w1 : World} {base : Nat} {e : TypeId} {size n : Nat} {v : Value} {xs : List Value} (h : w.ownsRow base e size v n xs) (hb : Below w.heap.size w w1) : w1.ownsRow base e size v n xs := by
  obtain ⟨h1, h2⟩ := h
  refine ⟨h1, ?_⟩
  rcases h2 with h2 | ⟨g, cap, cur, hv, hg, hh, r⟩
  · exact .inl h2
  · exact .inr ⟨g, cap, cur, hv, hg, (hb.block _ (Array.getElem?_eq_some_iff.1 hh).1).trans hh, r⟩
theorem QN.start (w1 : World) (ys : List (Int × Int)) (f : Nat → Nat) : QN w1 ys (fsL f 0) ((w1.alloc (.cells (px ys) 73)).alloc (.cells #[.float .f64 0, .float .f64 0, .float .f64 0, .float .f64 0] 44)) := by
  have e : fsL f 0 = [0, 0, 0, 0] := rfl
  rw [e]
  refine ⟨((Below.refl _ _).alloc (Nat.le_refl _) _).alloc (by simp) _, ?_, ?_⟩
  · rw [Below.heap_alloc _ _ _ (by simp)]; exact heap_alloc_new _ _
  · have := heap_alloc_new (w1.alloc (.cells (px ys) 73)) (.cells #[.float .f64 0, .float .f64 0, .float .f64 0, .float .f64 0] 44)
    simpa [fd] using this
theorem rsums2 (ps : List (Int × Int)) (hp : ps.length = 4) (hb : ∀ p ∈ ps, Bd 10000 p) (w : World) :
    Calls Try.prog 30 #[.agg (px ps), .int .i64 (-1)] w fun e w' => e = .returned (.agg (px (outI ps))) ∧ Below w.heap.size w w' := rsums_calls ps hp hb w
set_option maxHeartbeats 4000000 in
set_option maxRecDepth 100000 in
theorem rpowers_good (A : Option Addr) (c : Nat) (l : List Nat) (w : World) (hC : FC w A l) (hs : scode l = 0) :
    Calls Try.prog 13 #[.slice A l.length c] w fun e w' => PPost l w e w' := by
  obtain ⟨hl, ha⟩ := scode_good hs
  have HC := Lib.hid hC
  have HS := Lib.hid hs
  have HNP : Hid (np l = l.length / 4) := Lib.hid (by unfold np; rw [if_pos hs])
  have HBB : Hid (∀ b, 4 * b + 4 ≤ l.length → ∀ p ∈ blk l b, Bd 10000 p) := Lib.hid (fun b hb => blk_bound ha hb)
  clear hC hs ha
  go_enter Try.func13, Try.ntmps13
  go_wp2_with (go_at_call 19; refine (rsamples_calls A c l _ (by omega) HC.out).mono ?_; rw [HS.out]; rintro e w' ⟨rfl, rfl⟩)
  go_loopw [5, 6] (fun v m wr => ∃ b : Nat, 4 * b ≤ l.length ∧ m = .int .i64 ((4 * b : Nat) : Int) ∧ Hid (wr.ownsRow w.heap.size 44 4 v b (pwK l b) ∧ Below w.heap.size w wr)) (fun _ m _ => l.length - (intOf m).toNat)
  case atStart => exact ⟨0, by omega, by simp, Lib.hid ⟨⟨by simp [pwK], .inl ⟨rfl, rfl⟩⟩, Below.refl _ _⟩⟩
  case round =>
    obtain ⟨b, hb, rfl, HI⟩ := hrel
    by_cases hlt : 4 * b + 4 ≤ l.length
    · have HBK := Lib.hid (HBB.out b hlt)
      have HB4 : Hid (4 * (b + 1) = 4 * b + 4) := Lib.hid (by omega)
      obtain ⟨i, hi⟩ : ∃ i, 4 * b = i := ⟨_, rfl⟩
      have HIB := Lib.hid hi
      rw [hi] at hb hlt ⊢
      rw [hi] at HB4
      clear hi
      have hlt' : (i : Int) + 4 ≤ (l.length : Int) := by omega
      have hw4 : IntKind.i64.wrap ((i : Int) + 4) = (i : Int) + 4 := by rw [IntKind.wrap_i64]; omega
      have HIN : Hid (IN wr (inL (fun j => nm l (i + j)) 0) (wr.alloc (.cells #[.int .i64 0, .int .i64 0, .int .i64 0, .int .i64 0, .int .i64 0, .int .i64 0, .int .i64 0, .int .i64 0] 73))) := Lib.hid ⟨(Below.refl _ _).alloc (Nat.le_refl _) _, heap_alloc_new _ _⟩
      obtain ⟨w0, rfl⟩ : ∃ w0 : World, w0 = wr := ⟨_, rfl⟩
      go_wp2
      go_loopw [8] (fun m wx => ∃ n : Nat, n ≤ 4 ∧ m = .int .i64 n ∧ Hid (IN w0 (inL (fun j => nm l (i + j)) n) wx)) (fun m _ => 4 - (intOf m).toNat)
      case atStart => exact ⟨0, by omega, rfl, HIN⟩
      case round =>
        obtain ⟨n, hn, rfl, HX⟩ := hrel
        by_cases hnl : n < 4
        · have hnl' : (n : Int) < 4 := by omega
          have hn0 : (0 : Int) ≤ (n : Int) := by omega
          have hin : i + n < l.length := by omega
          obtain ⟨ad, rfl, hc⟩ := (HC.out.below (below_then' HI.out.2 HX.out.1)) (i + n) hin
          have hix : (i : Int) + (n : Int) < (l.length : Int) := by omega
          have hi0 : (0 : Int) ≤ (i : Int) + (n : Int) := by omega
          have htn : ((i : Int) + (n : Int)).toNat = i + n := by omega
          have hwn : IntKind.i64.wrap ((i : Int) + (n : Int)) = (i : Int) + (n : Int) := by rw [IntKind.wrap_i64]; omega
          have hf := HX.out.frozen (n * 2)
          have hcl := HX.out.cell (k := n) (by rw [inL_len]; exact hnl)
          have HP := Lib.hid (HX.out.put (k := n) (by rw [inL_len]; exact hnl) (nm l (i + n)))
          have hset := inL_set (fun j => nm l (i + j)) n hnl
          rw [hset] at HP
          have HNM : Hid (smpN (l.getD (i + n) 0) = nm l (i + n)) := Lib.hid rfl
          clear hset
          generalize l.getD (i + n) 0 = x at *
          generalize nm l (i + n) = y at *
          go_wp2_with (go_at_call 26; refine (rsample_calls x _).mono ?_; rw [HNM.out]; rintro e w' ⟨rfl, rfl⟩)
          go_roundw
          case rel => exact ⟨n + 1, by omega, by go_num, HP⟩
          case measure => simp [intOf]; omega
        · obtain rfl : n = 4 := by omega
          have hnl' : ¬ ((4 : Nat) : Int) < 4 := by omega
          have HPB : Hid (inL (fun j => nm l (i + j)) 4 = blk l b) := Lib.hid (by rw [← HIB.out]; exact inL_fin l b)
          have HX2 := Lib.hid HX.out.2
          rw [HPB.out] at HX2
          have HPR : Hid (∀ k, Bd (10000 * (4 : Nat)) (pre (blk l b) k 4)) := Lib.hid (fun k => pre_bound HBK.out (by omega) k 4)
          have HF : Hid (∀ k, pwF l b k = F fmtD (sq (pre (blk l b) k 4))) := Lib.hid (fun k => rfl)
          have HFF : Hid (fsL (fun k => pwF l b k) 4 = pw l b) := Lib.hid (fsL_fin l b)
          have HOK := Lib.hid (pwK_succ l b)
          go_wp2_with (first
            | ((with_reducible change wpList _ _ _ (⟨_, .load 73 (.tmp 7), _, _, _, _⟩ :: _) _ _); go_loud (refine wpList_load_row rfl 73 (.tmp 7) rfl w0.heap.size rfl 73 (px (blk l b)) (0, 0) _ HX2.out Try.underlying73 rfl (by kernel_rfl) ?_))
            | (go_at_call 30; go_loud (refine (rsums2 (blk l b) rfl HBK.out _).mono ?_; intro e w1 hp; obtain ⟨rfl, hd⟩ := hp; have HD := Lib.hid hd; clear hd))
            | ((with_reducible change wpList _ _ _ (⟨_, .store 73 (.tmp 9) (.tmp 42), _, _, _, _⟩ :: _) _ _); go_loud (refine wpList_store_row rfl 73 (.tmp 9) (.tmp 42) rfl w1.heap.size (px (outI (blk l b))) rfl rfl 73 _ (heap_alloc_new w1 _) (by rw [px_size, outI_len]; kernel_rfl) (by rw [px_size, outI_len]; rfl) (px_one _) ?_; rw [World.setRow_alloc_new])))
          have HW1 := Lib.hid (below_then' HX.out.1 HD.out)
          have HQ0 := Lib.hid (QN.start w1 (outI (blk l b)) (fun k => pwF l b k))
          go_loopw [11] (fun m wx => ∃ n : Nat, n ≤ 4 ∧ m = .int .i64 n ∧ Hid (QN w1 (outI (blk l b)) (fsL (fun k => pwF l b k) n) wx)) (fun m _ => 4 - (intOf m).toNat)
          case atStart => exact ⟨0, by omega, rfl, HQ0⟩
          case round =>
            obtain ⟨n, hn, rfl, HZ⟩ := hrel
            by_cases hnk : n < 4
            · have hnk' : (n : Int) < 4 := by omega
              have hn0 : (0 : Int) ≤ (n : Int) := by omega
              obtain ⟨hc1, hc2⟩ := HZ.out.cell (k := n) (by rw [outI_len]; exact hnk)
              obtain ⟨hc3, hc4⟩ := HZ.out.fcell (k := n) (by rw [fsL_len]; exact hnk)
              rw [outI_get _ _ hnk] at hc1 hc2
              have hpr := HPR.out n
              have hfn := HF.out n
              have hpt := (HZ.out.put n (pwF l b n)).drew
              have hset := fsL_set (fun k => pwF l b k) n hnk
              rw [hset] at hpt
              rw [hfn] at hpt
              have HPT := Lib.hid hpt
              clear hset hfn hpt
              generalize pre (blk l b) n 4 = p at *
              obtain ⟨x, y⟩ := p
              simp only [Bd, sq] at hpr hc1 hc2 HPT
              have hx := sqr_bound (a := x) (by omega)
              have hy := sqr_bound (a := y) (by omega)
              have hw1 : IntKind.i64.wrap (x * x) = x * x := by rw [IntKind.wrap_i64]; omega
              have hw2 : IntKind.i64.wrap (y * y) = y * y := by rw [IntKind.wrap_i64]; omega
              have hw3 : IntKind.i64.wrap (x * x + y * y) = x * x + y * y := by rw [IntKind.wrap_i64]; omega
              clear hpr hx hy
              go_wp2
              refine wp_region_still_tail 22 (by kernel_rfl) (by kernel_rfl) ?_
              simp only [List.take_succ_cons, List.take_zero, List.drop_succ_cons, List.drop_zero]
              repeat ((with_reducible refine wpStill_step (fun K hK => ?_)); have HK := Lib.hid hK; clear hK; go_simp; (with_reducible refine HK.out _ ?_); clear HK K)
              (with_reducible refine wpStill_nil ?_)
              go_wp2
              go_roundw
              case rel => exact ⟨n + 1, by omega, by go_num, HPT⟩
              case measure => simp [intOf]; omega
            · obtain rfl : n = 4 := by omega
              have hnk' : ¬ ((4 : Nat) : Int) < 4 := by omega
              have h0x := below_then' HW1.out HZ.out.1
              have hown := owns_below HI.out.1 h0x
              have hbel := below_then' HI.out.2 h0x
              have HRW := Lib.hid HZ.out.2.2
              rw [HFF.out] at HRW
              have hpl : b ≤ 1024 := by have := HIB.out; omega
              clear h0x
              go_wp2_with (first
                | ((with_reducible change wpList _ _ _ (⟨_, .load 44 (.tmp 10), _, _, _, _⟩ :: _) _ _); go_loud (refine wpList_load_row rfl 44 (.tmp 10) rfl (w1.heap.size + 1) rfl 44 #[.float .f64 (pwF l b 0), .float .f64 (pwF l b 1), .float .f64 (pwF l b 2), .float .f64 (pwF l b 3)] (0, 0) _ HRW.out Try.underlying44 rfl (by kernel_rfl) ?_))
                | (at_builtin; refine wpList_append_1 rfl (.tmp 69) (.tmp 71) 40 44 rfl (.agg #[.float .f64 0, .float .f64 0, .float .f64 0, .float .f64 0]) 4 32 Try.underlying40 info44 rfl (by decide) w w.heap.size b _ (pwK l b) rfl hown hbel [.float .f64 (pwF l b 0), .float .f64 (pwF l b 1), .float .f64 (pwF l b 2), .float .f64 (pwF l b 3)] (by first | rfl | simp [Act.eval, Act.put]) rfl (by simp [Value.oneCell']) (by unfold maxLen; omega) (by omega) hbel.size ?_; intro v' w2 hown2 hb2; have HOW : Hid (w2.ownsRow w.heap.size 44 4 v' (b + 1) (pwK l (b + 1))) := Lib.hid (by (rw [HOK.out]; exact hown2)); clear hown2))
              go_roundw
              case rel => exact ⟨b + 1, by rw [HB4.out]; omega, by rw [HB4.out]; go_num, Lib.hid ⟨HOW.out, hb2⟩⟩
              case measure => simp [intOf]; omega
    · have hge : ¬ ((4 * b : Nat) : Int) + 4 ≤ (l.length : Int) := by omega
      have HQ : Hid (np l = b) := Lib.hid (by rw [HNP.out]; omega)
      have hb0 := hb
      generalize 4 * b = i at hb hlt hge ⊢
      have hw4 : IntKind.i64.wrap ((i : Int) + 4) = (i : Int) + 4 := by rw [IntKind.wrap_i64]; omega
      go_wp2
      go_ret2
      exact ⟨_, by rw [HS.out]; rfl, by rw [HQ.out]; exact HI.out.1, HI.out.2⟩
theorem rpowers_calls (A : Option Addr) (c : Nat) (l : List Nat) (w : World) (hl : l.length ≤ 9223372036854775807) (hC : FC w A l) :
    Calls Try.prog 13 #[.slice A l.length c] w fun e w' => PPost l w e w' := by
  by_cases h : scode l = 0
  · exact rpowers_good A c l w hC h
  · exact rpowers_bad A c l w hl hC h
end Go.Proofs.Ytmmhflpeapojgaa
