import Derived.Test.YtbojagkalbfenaaX2
namespace Go.Proofs.Ytbojagkalbfenaa
set_option linter.unusedVariables false
set_option linter.unusedSimpArgs false
open Go.RowKit PIovGather Go.Proofs.YtbojagkalbfenaaW.PrintWords Go.Proofs.YtbojagkalbfenaaW.PrintMore
attribute [local go_sem] ints_get ints_size ints_getElem min2_int min_two

/-- The number of bytes that Scatter writes; its error; the memory behind it. -/
def sN (l : List S44) (off : Int) (dl : Nat) : Int := if sumL (prs l) - off < (dl : Int) then sumL (prs l) - off else (dl : Int)
def scode (nm dl : Nat) (l : List S44) (off : Int) : Int := if wth (prs l) off 0 = 0 then (if insideB nm (slicedL (prs l) off (sN l off dl)) = true then 0 else 11) else wth (prs l) off 0
def snum (nm dl : Nat) (l : List S44) (off : Int) : Int := if scode nm dl l off = 0 then sN l off dl else 0
def smem (ms ds : List Value) (l : List S44) (off : Int) : List Value := if scode ms.length ds.length l off = 0 then (scat (ms, ds.take (sN l off ds.length).toNat) (slicedL (prs l) off (sN l off ds.length))).1 else ms
theorem mem_take {W : World} {M : Option Addr} {ds : List Value} (h : Mem W M ds) (k : Nat) : Mem W M (ds.take k) :=
  ⟨fun j u hj => h.cell j u (by
    rw [List.getElem?_take] at hj
    split at hj
    · exact hj
    · cases hj), fun u hu => h.one u (List.mem_of_mem_take hu)⟩
theorem grownBy_below {w w1 w2 : World} {row : Option Nat} (hb : Below w.heap.size w w1) (hg : w1.grownBy w2 row) : w.grownBy w2 row :=
  ⟨hg.os.trans hb.os, hg.tape.trans hb.tape, hg.output.trans hb.output, Nat.le_trans hb.size hg.size, fun k hk hne => (hg.block k (Nat.lt_of_lt_of_le hk hb.size) hne).trans (hb.block k hk)⟩
theorem grownBy_of_below {w w1 : World} (row : Option Nat) (hb : Below w.heap.size w w1) : w.grownBy w1 row := grown_of_below' hb row

set_option maxHeartbeats 1000000 in
set_option maxRecDepth 100000 in
theorem scatterF (A : Option Addr) (cap : Nat) (l : List S44) (off : Int) (V : Option Addr) (vc base n : Nat) (row : Option Nat) (ms : List Value) (D : Option Addr) (dcap : Nat) (ds : List Value) (P0 : Nat → Prop) (w : World)
    (hrow : MRow w base row (.slice V n vc) n ms) (hmem : Mem w D ds) (hdc : ds.length ≤ dcap) (hdm : dcap ≤ 9223372036854775807) (hD : ∀ ad, D = some ad → ad.block < w.heap.size ∧ some ad.block ≠ row)
    (hV : Kd.V k44 44 w w.heap.size P0 (.slice A l.length cap) l) (hA : ∀ ad, A = some ad → ad.block < w.heap.size ∧ some ad.block ≠ row) (hdl : ds.length ≤ 1099511627776) (hn : n ≤ 9223372036854775807) :
    Calls Try.prog 26 #[.slice V n vc, .slice A l.length cap, .int .i64 off, .slice D ds.length dcap] w fun e w' => e = .returned (.tuple #[.int .i64 (snum n ds.length l off), .int .i64 (scode n ds.length l off)]) ∧ MRow w' base row (.slice V n vc) n (smem ms ds l off) ∧ w.grownBy w' row := by
  have hml := hrow.length
  have hcap := (Kd.V_reads' hV).2.1
  have HV := Lib.hid hV
  have HL := Lib.hid (Kd.V_reads' hV).2.2
  have HP := Lib.hid (pairs_of_C (Kd.V_reads' hV).2.2)
  have HA := Lib.hid hA
  have HD := Lib.hid hD
  have HM := Lib.hid hmem
  have HR := Lib.hid hrow
  clear hV hA hD hmem hrow
  go_enter Try.func26, Try.ntmps26
  by_cases hw : wth (prs l) off 0 = 0
  · obtain ⟨h1, h2, h3, h4, h5, h6, h7⟩ := wth_zero hw
    have h2' : l.length ≤ 16 := by rwa [prs_length] at h2
    have hwr : IntKind.i64.wrap (sumL (prs l) - off) = sumL (prs l) - off := by rw [IntKind.wrap_i64]; omega
    have hN0 : 0 ≤ sN l off ds.length := by unfold sN; split <;> omega
    have hN1 : sN l off ds.length ≤ ds.length := by unfold sN; split <;> omega
    have hN : (if sumL (prs l) - off < (ds.length : Int) then sumL (prs l) - off else (ds.length : Int)) = sN l off ds.length := rfl
    have HN := Lib.hid hN
    have hN2 : sN l off ds.length ≤ sumL (prs l) - off := by unfold sN; split <;> omega
    clear hN
    by_cases hin : insideB n (slicedL (prs l) off (sN l off ds.length)) = true
    · have hc : scode n ds.length l off = 0 := by unfold scode; rw [if_pos hw, if_pos hin]
      have hs : snum n ds.length l off = sN l off ds.length := if_pos hc
      have hm : smem ms ds l off = (scat (ms, ds.take (sN l off ds.length).toNat) (slicedL (prs l) off (sN l off ds.length))).1 := by unfold smem; rw [hml, if_pos hc]
      rw [hc, hs, hm]
      generalize sN l off ds.length = NN at *
      have hlt : (ds.take NN.toNat).length = NN.toNat := by rw [List.length_take]; omega
      have hw3 : wth (prs l) off NN = 0 := by
        unfold wth at hw ⊢
        split at hw
        · rename_i hck
          rw [if_pos hck, if_neg (by omega)]
        · rename_i hck
          exact absurd hw hck
      have h41 : ∀ W, Below w.heap.size w W → Calls Try.prog 41 #[.slice V n vc, .slice A l.length cap, .int .i64 off, .slice D NN.toNat dcap] W fun e w' => e = .returned (.tuple #[]) ∧ MRow w' base row (.slice V n vc) n (scat (ms, ds.take NN.toNat) (slicedL (prs l) off NN)).1 ∧ W.grownBy w' row := fun W hb => by
        have := callsIn_wide.1 (scatter_in A cap (prs l) off V vc base n row ms D dcap (ds.take NN.toNat) W (HR.out.move (fun k hk => hb.block k (HR.out.lt k hk))) (mem_take (HM.out.below hb) _) (by omega) hdm (fun ad e => ⟨Nat.lt_of_lt_of_le (HD.out ad e).1 hb.size, (HD.out ad e).2⟩) (HP.out.below hb) (fun ad e => ⟨Nat.lt_of_lt_of_le (HA.out ad e).1 hb.size, (HA.out ad e).2⟩) h1 (by omega) (by omega) h2 (by rw [hlt, show ((NN.toNat : Nat) : Int) = NN by omega]; exact hin))
        rw [prs_length, hlt, show ((NN.toNat : Nat) : Int) = NN by omega] at this
        exact this
      have H41 := Lib.hid h41
      have HIN := Lib.hid hin
      have HOK := Lib.hid h1
      have hNc : NN ≤ (dcap : Int) := by omega
      clear h41 hin h1
      have HB := Lib.hid (Below.refl w.heap.size w)
      go_wp2_with (first
        | (go_at_call 33; refine (iov_within.calls 60 P0 A cap l off 0 0 _ (Kd.V_map (Kd.V_below HV.out HB.out) (fun _ h => h)) (by rw [within_f l off 0 (by omega), hw])).mono ?_; rintro e w1 ⟨rfl, hb1⟩; replace HB := Lib.hid (below_then' HB.out hb1); clear hb1)
        | (go_at_call 39; refine (iov_total.calls 60 A cap l _ _ (Kd.C_below HL.out HB.out) hcap (total_f HOK.out h2' (by omega))).mono ?_; rintro e w2 ⟨rfl, hb2⟩; replace HB := Lib.hid (below_then' HB.out hb2); clear hb2; have hN := HN.out)
        | (go_at_call 34; refine (inside_l V n vc A cap l off NN _ (HP.out.below HB.out) (fun ad e => Nat.lt_of_lt_of_le (HA.out ad e).1 HB.out.size) hw3 hn).mono ?_; rw [HIN.out]; rintro e w3 ⟨rfl, hb3⟩; replace HB := Lib.hid (below_then' HB.out hb3); clear hb3)
        | (go_at_call 41; refine (H41.out _ HB.out).mono ?_; rintro e w4 ⟨rfl, hr4, hg4⟩; have HG := Lib.hid (And.intro hr4 (grownBy_below HB.out hg4)); clear hr4 hg4))
      go_ret2
      exact ⟨rfl, HG.out.1, HG.out.2⟩
    · have hin' : insideB n (slicedL (prs l) off (sN l off ds.length)) = false := by simpa using hin
      have hc : scode n ds.length l off = 11 := by unfold scode; rw [if_pos hw, if_neg hin]
      have hs : snum n ds.length l off = 0 := by unfold snum; rw [hc]; rfl
      have hm : smem ms ds l off = ms := by unfold smem; rw [hml, hc]; rfl
      rw [hc, hs, hm]
      generalize sN l off ds.length = NN at *
      have hw3 : wth (prs l) off NN = 0 := by
        unfold wth at hw ⊢
        split at hw
        · rename_i hck
          rw [if_pos hck, if_neg (by omega)]
        · rename_i hck
          exact absurd hw hck
      have HIN := Lib.hid hin'
      have HOK := Lib.hid h1
      clear hin hin' h1
      have HB := Lib.hid (Below.refl w.heap.size w)
      go_wp2_with (first
        | (go_at_call 33; refine (iov_within.calls 60 P0 A cap l off 0 0 _ (Kd.V_map (Kd.V_below HV.out HB.out) (fun _ h => h)) (by rw [within_f l off 0 (by omega), hw])).mono ?_; rintro e w1 ⟨rfl, hb1⟩; replace HB := Lib.hid (below_then' HB.out hb1); clear hb1)
        | (go_at_call 39; refine (iov_total.calls 60 A cap l _ _ (Kd.C_below HL.out HB.out) hcap (total_f HOK.out h2' (by omega))).mono ?_; rintro e w2 ⟨rfl, hb2⟩; replace HB := Lib.hid (below_then' HB.out hb2); clear hb2; have hN := HN.out)
        | (go_at_call 34; refine (inside_l V n vc A cap l off NN _ (HP.out.below HB.out) (fun ad e => Nat.lt_of_lt_of_le (HA.out ad e).1 HB.out.size) hw3 hn).mono ?_; rw [HIN.out]; rintro e w3 ⟨rfl, hb3⟩; replace HB := Lib.hid (below_then' HB.out hb3); clear hb3))
      go_ret2
      exact ⟨rfl, HR.out.move (fun k hk => HB.out.block k (HR.out.lt k hk)), grownBy_of_below row HB.out⟩
  · have hc : scode n ds.length l off = wth (prs l) off 0 := by unfold scode; rw [if_neg hw]
    have hs : snum n ds.length l off = 0 := by unfold snum; rw [if_neg (by rw [hc]; exact hw)]
    have hm : smem ms ds l off = ms := by unfold smem; rw [hml, if_neg (by rw [hc]; exact hw)]
    rw [hc, hs, hm]
    go_wp2_with (first
      | (go_at_call 33; refine (iov_within.calls 60 P0 A cap l off 0 _ _ HV.out (within_f l off 0 (by omega))).mono ?_; rintro e w1 ⟨rfl, hb1⟩))
    go_ret2
    exact ⟨rfl, HR.out.move (fun k hk => hb1.block k (HR.out.lt k hk)), grownBy_of_below row hb1⟩
end Go.Proofs.Ytbojagkalbfenaa
