/- The reference's Clean. -/
import Derived.Test.YtedoonfegcgmeaaB2
namespace Go.Proofs.Ytedoonfegcgmeaa
open Go.RowKit
set_option linter.unusedVariables false
def stepR (acc : List Bs) (c : Bs) : List Bs := if c = [46, 46] then acc.dropLast else if c = [] then acc else if c = [46] then acc else acc ++ [c]
def stkR (l : List Bs) : List Bs := l.foldl stepR []
theorem stkR_snoc (l : List Bs) (c : Bs) : stkR (l ++ [c]) = stepR (stkR l) c := by simp [stkR]
theorem stkR_stk (l : List Bs) : stkR l = stk (l.filter (fun p => !p.isEmpty)) := by
  have key : ∀ (l acc : List Bs), l.foldl stepR acc = (l.filter (fun p => !p.isEmpty)).foldl stepC acc := by
    intro l
    induction l with
    | nil => intro acc; rfl
    | cons x l ih =>
      intro acc
      rw [List.foldl_cons, ih]
      cases x with
      | nil => simp [stepR]
      | cons b x =>
        rw [List.filter_cons_of_pos (by simp), List.foldl_cons]
        congr 1
        unfold stepR stepC
        by_cases h1 : b :: x = [46]
        · rw [h1]; simp
        · by_cases h2 : b :: x = [46, 46]
          · rw [h2]; simp
          · simp [h1, h2]
  exact key l []
theorem stkR_len (l : List Bs) : (stkR l).length ≤ l.length := by
  rw [stkR_stk]
  exact Nat.le_trans (stk_len _) (List.length_filter_le _ _)
theorem longB_parts (l : List Bs) : longB l = longB (l.filter (fun p => !p.isEmpty)) := by
  induction l with
  | nil => rfl
  | cons x l ih =>
    cases x with
    | nil => rw [List.filter_cons_of_neg (by simp)]; rw [← ih]; simp [longB]
    | cons b x => rw [List.filter_cons_of_pos (by simp)]; unfold longB at ih ⊢; rw [List.any_cons, List.any_cons, ih]
theorem ret_str3 (l : Bs) (c : Int) : Ending.returned (Value.tuple #[.string ⟨l.toArray⟩, .int .i64 c]) = .returned (.tuple #[str l, .int .i64 c]) := rfl
theorem row_below {W W' : World} {B base : Nat} {v : Value} {n : Nat} {xs : List Value} (h : W.ownsRow base 9 1 v n xs) (hb : Below B W W') (hB : W.heap.size ≤ B) : W'.ownsRow base 9 1 v n xs := by
  rcases h.2 with ⟨rfl, h2⟩ | ⟨g, cap, cur, rfl, hg, hh, h3⟩
  · exact ⟨h.1, .inl ⟨rfl, h2⟩⟩
  · have hlt := (Array.getElem?_eq_some_iff.1 hh).1
    exact ⟨h.1, .inr ⟨g, cap, cur, rfl, hg, (hb.block g (by omega)).trans hh, h3⟩⟩
theorem pathL_len (l : List Bs) (n : Nat) (h : (pathOf l).length ≤ n) : (pathL l).length ≤ n := by
  have h1 := pathR_pathOf l
  unfold pathR at h1
  split at h1
  · rename_i h2; rw [h2]; exact Nat.zero_le _
  · rw [h1]; exact h
set_option maxHeartbeats 4000000 in
set_option maxRecDepth 100000 in
theorem cleanR_ok (s : Bs) (w : World) (h0 : s ≠ []) (h255 : s.length ≤ 255) (hz : 0 ∉ s) (hh : s.head? = some 47) (hl : longB (comps s) = false) :
    Calls Try.prog 8 #[str s] w fun e w' => e = .returned (.tuple #[str (pathOf (stk (comps s))), .int .i64 0]) ∧ Below w.heap.size w w' := by
  have HZ := Lib.hid (fun W => zero_calls s W (by omega))
  rw [show decide (0 ∈ s) = false by simpa using hz] at HZ
  have HC := Lib.hid (fun W => components_ref s W (by omega))
  have hcc : (parts s).length ≤ 256 := Nat.le_trans (parts_count s) (by omega)
  have hpl := parts_len s
  have HLO := Lib.hid (fun W base v h => long_calls base v (parts s) W h (by omega) (fun x hx => Nat.le_trans (hpl x hx) (by omega)))
  rw [longB_parts, show (parts s).filter (fun p => !p.isEmpty) = comps s from rfl, hl] at HLO
  have HST := Lib.hid (show stkR (parts s) = stk (comps s) from stkR_stk _)
  have hjl := join_len (stk (comps s)) s.length (fun c hc => stk_short hc) 256 (Nat.le_trans (stk_len _) (Nat.le_trans (comps_count s) (by omega)))
  have HPL : Hid ((pathL (stk (comps s))).length ≤ 1000000) := Lib.hid (pathL_len _ _ (by unfold pathOf; rw [List.length_cons]; omega))
  have hs255 : ¬ (255 : Int) < (s.length : Int) := by omega
  have hlen : (0 : Int) < (s.length : Int) := by cases s; exact absurd rfl h0; simp
  have hsb : (s == []) = false := by simpa using h0
  have hhd : ∀ h : 0 < (⟨s.toArray⟩ : ByteArray).size, (⟨s.toArray⟩ : ByteArray)[0] = 47 := by
    intro h
    cases s with
    | nil => cases hh
    | cons b r => simp at hh; subst hh; rfl
  have HPS := Lib.hid (fun x (h : x ∈ parts s) => Nat.le_trans (hpl x h) h255)
  generalize parts s = ps at *
  generalize stk (comps s) = cs at *
  obtain ⟨i0, hi0, hz0, hz1, hz2⟩ := info_parts (P := Try.prog) (e := 9) (z := .string ⟨#[]⟩) (size := 1) (bytes := 16) (by kernel_rfl)
  clear hz hh hl h0 h255 hpl hjl
  unfold str at HZ HC ⊢
  go_enter Try.func8, Try.ntmps8
  go_wp2_with (first
    | (go_at_call 27; refine (HZ.out _).mono ?_; rintro e w1 ⟨rfl, hb⟩; have HB1 := Lib.hid hb; clear hb)
    | (go_at_call 28; refine (HC.out _).mono ?_; rintro e w2 ⟨v, rfl, hr, hb⟩; have HB2 := Lib.hid (And.intro hr hb); clear hr hb)
    | (go_at_call 29; refine (HLO.out _ _ _ HB2.out.1).mono ?_; rintro e w3 ⟨rfl, hb⟩; have HB3 := Lib.hid hb; clear hb))
  have hbw : Below w.heap.size w w3 := (HB1.out.trans (HB2.out.2.mono HB1.out.size)).trans (HB3.out.mono (Nat.le_trans HB1.out.size HB2.out.2.size))
  have hrw := row_below HB2.out.1 HB3.out (Nat.le_refl _)
  have HW := Lib.hid (And.intro hbw hrw)
  obtain ⟨A, cap, rfl, hcap, hat⟩ := row_at hrw
  have HAT := Lib.hid hat
  clear hat hbw hrw HB1 HB2 HB3 HZ HC HLO
  go_loopw [5, 6] (fun u i wr => ∃ k : Nat, k ≤ ps.length ∧ i = .int .i64 k ∧ Hid (wr.ownsRow w3.heap.size 9 1 u (stkR (ps.take k)).length (strs (stkR (ps.take k))) ∧ Below w3.heap.size w3 wr)) (fun _ i _ => ps.length - (intOf i).toNat)
  case atStart => exact ⟨0, by omega, rfl, Lib.hid ⟨World.ownsRow_nil _ _ _ _, Below.refl _ _⟩⟩
  case round =>
    obtain ⟨k, hk, rfl, HI⟩ := hrel
    by_cases hlt : k < ps.length
    · have hlt' : (k : Int) < (ps.length : Int) := by omega
      obtain ⟨g, rfl, hg, hc⟩ := HAT.out k hlt
      have hc2 := (HI.out.2.cell (p := ⟨g, k, none⟩) hg).trans hc
      have hxl := HPS.out ps[k] (List.getElem_mem hlt)
      have HSN : Hid (stkR (ps.take (k + 1)) = stepR (stkR (ps.take k)) ps[k]) := Lib.hid (by rw [List.take_succ_eq_append_getElem hlt, stkR_snoc])
      have hsl := stkR_len (ps.take k)
      rw [List.length_take] at hsl
      generalize ps[k] = x at *
      obtain ⟨q, hq⟩ : ∃ q, stkR (ps.take k) = q := ⟨_, rfl⟩
      rw [hq] at HI HSN hsl
      clear hq hc
      unfold str at hc2
      by_cases h2 : x = [46, 46]
      · have hx2 : (x == [46, 46]) = true := by simpa using h2
        have HS : Hid (stkR (ps.take (k + 1)) = q.dropLast) := Lib.hid (by rw [HSN.out]; unfold stepR; rw [if_pos h2])
        clear h2 HSN
        rcases List.eq_nil_or_concat q with rfl | ⟨q, y, rfl⟩
        · rcases HI.out.1.2 with ⟨rfl, _⟩ | ⟨g', cap', cur, rfl, _, _, _⟩
          all_goals
            go_wp2
            go_roundw
            case rel => exact ⟨k + 1, by omega, by go_num, by rw [HS.out]; exact HI⟩
            case measure => simp [intOf]; omega
        · rw [List.concat_eq_append] at HI HS hsl
          have hlen1 : (q ++ [y]).length = q.length + 1 := by simp
          rw [hlen1] at hsl HI
          obtain ⟨g', cap', rfl⟩ := ownsRow_succ HI.out.1
          have hpop := ownsRow_pop (size := 1) (n := q.length) (xs := strs q) (last := [str y]) (by simp [strs]) (by simpa [strs] using HI.out.1)
          have HP := Lib.hid hpop
          have hqb : (q.length : Int) + 1 ≤ 257 := by omega
          have hcap2 : q.length + 1 ≤ cap' := by
            rcases HI.out.1.2 with ⟨h, _⟩ | ⟨g'', cap'', cur, h, _, _, h3, _⟩
            · cases h
            · cases h; exact h3
          have hcap' : (q.length : Int) ≤ (cap' : Int) := by omega
          have hdl : (q ++ [y]).dropLast = q := by simp
          rw [hdl] at HS
          clear hpop
          go_wp2
          go_roundw
          case rel => exact ⟨k + 1, by omega, by go_num, Lib.hid ⟨by rw [HS.out]; exact HP.out, HI.out.2⟩⟩
          case measure => simp [intOf]; omega
      · have hx2 : (x == [46, 46]) = false := by simpa using h2
        by_cases he : x = []
        · have hx0 : x.isEmpty = true := by simpa using he
          have HS : Hid (stkR (ps.take (k + 1)) = q) := Lib.hid (by rw [HSN.out]; unfold stepR; rw [if_neg h2, if_pos he])
          clear h2 HSN he
          go_wp2
          go_roundw
          case rel => exact ⟨k + 1, by omega, by go_num, by rw [HS.out]; exact HI⟩
          case measure => simp [intOf]; omega
        · have hx0 : x.isEmpty = false := by simpa using he
          by_cases h1 : x = [46]
          · have hx1 : (x == [46]) = true := by simpa using h1
            have HS : Hid (stkR (ps.take (k + 1)) = q) := Lib.hid (by rw [HSN.out]; unfold stepR; rw [if_neg h2, if_neg he, if_pos h1])
            clear h2 HSN he h1
            go_wp2
            go_roundw
            case rel => exact ⟨k + 1, by omega, by go_num, by rw [HS.out]; exact HI⟩
            case measure => simp [intOf]; omega
          · have hx1 : (x == [46]) = false := by simpa using h1
            have HS : Hid (stkR (ps.take (k + 1)) = q ++ [x]) := Lib.hid (by rw [HSN.out]; unfold stepR; rw [if_neg h2, if_neg he, if_neg h1])
            have HBL := HI.out.2.size
            have HR := Lib.hid (HI.out.1.alloc (.cells #[.string ⟨x.toArray⟩] 9))
            clear h2 HSN he h1
            go_wp2_with (at_builtin; go_loud (refine wpList_append_own _ rfl (.tmp 54) (.tmp 59) 39 rfl w3.heap.size 9 i0 (.string ⟨#[]⟩) 1 16 Try.underlying39 hi0 hz0 hz1 hz2 rfl (by decide) _ _ _ rfl HR.out ⟨wr.heap.size, 0, none⟩ 1 1 [.string ⟨x.toArray⟩] rfl rfl (cell_one_new _ _ _) (by simp [Value.oneCell']) (by unfold maxLen; omega) (by omega) (by simp; omega) ?_; intro v' w1' hown' hgrow _))
            have hb2 := (HI.out.2.alloc HI.out.2.size (.cells #[.string ⟨x.toArray⟩] 9)).grown hgrow (HI.out.2.alloc HI.out.2.size _).size (fun j ej => own_base' HI.out.1 j ej)
            go_roundw
            case rel => exact ⟨k + 1, by omega, by go_num, Lib.hid ⟨by rw [HS.out]; simpa [strs, str] using hown', hb2⟩⟩
            case measure => simp [intOf]; omega
    · obtain rfl : k = ps.length := by omega
      have hge : ¬ ((ps.length : Int) < (ps.length : Int)) := by omega
      rw [List.take_length] at HI
      have hsl := stkR_len ps
      rw [HST.out] at HI hsl
      have HP := Lib.hid (fun v (h : wr.ownsRow w3.heap.size 9 1 v cs.length (strs cs)) => path_calls w3.heap.size v cs wr h (by omega) HPL.out)
      unfold str at HP
      go_wp2_with (go_at_call 30; refine (HP.out _ HI.out.1).mono ?_; rintro e w4 ⟨rfl, hb⟩; have HB4 := Lib.hid hb; clear hb)
      go_ret2
      exact ⟨by rw [← pathR_pathOf]; rfl, (HW.out.1.trans (HI.out.2.mono HW.out.1.size)).trans (HB4.out.mono (Nat.le_trans HW.out.1.size HI.out.2.size))⟩
end Go.Proofs.Ytedoonfegcgmeaa
