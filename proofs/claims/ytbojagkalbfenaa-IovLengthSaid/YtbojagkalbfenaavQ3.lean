import Derived.Test.YtbojagkalbfenaavQ2
namespace Go.Proofs.Ytbojagkalbfenaa
set_option linter.unusedSimpArgs false
set_option linter.unusedVariables false
open Go.RowKit PIovLength Go.Proofs.YtbojagkalbfenaaW.PrintWords
attribute [local go_sem] ints_get ints_size ints_getElem

set_option maxHeartbeats 2000000 in
set_option maxRecDepth 100000 in
theorem length_law (A : Option Addr) (l : List S44) (ac : Nat) (a b : Int) (P0 : Nat → Prop) (w : World) (hV : Kd.V k44 44 w w.heap.size P0 (.slice A l.length ac) l) (hA : ∀ ad, A = some ad → ad.block < w.heap.size) :
    Calls Try.prog 5 #[.slice A l.length ac, .int .i64 a, .int .i64 b] w fun e w' => e = .returned (.bool true) ∧ Below w.heap.size w w' := by
  have hac := (Kd.V_reads' hV).2.1
  have HV := Lib.hid hV
  have HL := Lib.hid (Kd.V_reads' hV).2.2
  have HA := Lib.hid hA
  clear hV hA
  have HB := Lib.hid (Below.refl w.heap.size w)
  go_enter Try.func5, Try.ntmps5
  by_cases hs : (l.length : Int) ≤ 60
  · obtain ⟨r1, hr1, hp1⟩ := rslice_f l a b (k := 60) (by omega)
    obtain ⟨r2, hr2, hp2⟩ := rjoin_f l (k := 60) (by omega)
    obtain ⟨T, hT⟩ : ∃ T : Int, (if chk (prs l) = 0 then sumL (prs l) else 0) = T := ⟨_, rfl⟩
    have hlen := length_f l (k := 60) (by omega)
    have hrlen := rlen_f l (k := 60) (by omega)
    rw [hT] at hlen hrlen
    have HLN := Lib.hid (And.intro hlen hrlen)
    clear hT hlen hrlen
    have HR1 := Lib.hid (And.intro hr1 hp1)
    have HR2 := Lib.hid (And.intro hr2 hp2)
    clear hr1 hr2 hp1 hp2
    go_wp2_with (first
      | (go_at_call 10; refine (orpimentlaw09_small.calls 3 A ac l none 0 [] true _ (Kd.C_below HL.out HB.out) hac ⟨rfl, by simp, fun hp => by simp at hp⟩ (by simp) (by rw [small0_f l (by omega), decide_eq_true hs])).mono ?_; rintro e w1 ⟨rfl, hd⟩; replace HB := Lib.hid (below_then' HB.out hd.below); clear hd)
      | (go_at_call 18; refine (iov_Length.calls 60 P0 A ac l _ _ _ (Kd.V_map (Kd.V_below HV.out HB.out) (fun _ h => h)) HLN.out.1).mono ?_; rintro e w2 ⟨rfl, hd⟩; replace HB := Lib.hid (below_then' HB.out hd); clear hd)
      | (go_at_call 19; refine (orpimentref09_Length.calls 60 A ac l _ _ _ (Kd.C_below HL.out HB.out) hac HLN.out.2).mono ?_; rintro e w3 ⟨rfl, hd⟩; replace HB := Lib.hid (below_then' HB.out hd); clear hd)
      | (go_at_call 20; refine (sliceF A ac l a b P0 _ (Kd.V_map (Kd.V_below HV.out HB.out) (fun _ h => h)) (fun ad e => Nat.lt_of_lt_of_le (HA.out ad e) HB.out.size)).mono ?_; rintro e w4 ⟨v4, rfl, ho, hd⟩; obtain ⟨A4, c4, l4, rfl, hc4, h4, hp4⟩ := C_own44 ho; have H4 := Lib.hid (And.intro h4 hp4); have HC4 := Lib.hid hc4; replace HB := Lib.hid (below_then' HB.out hd); clear hd ho h4 hp4 hc4)
      | (go_at_call 21; refine (orpimentref09_Slice.calls 60 A ac l a b _ _ _ (Kd.C_below HL.out HB.out) hac HR1.out.1).mono ?_; rintro e w5 ⟨v5, rfl, hR, hd⟩; obtain ⟨A5, c5, rfl⟩ := Kd.R_slice hR; obtain ⟨_, hc5, h5⟩ := Kd.R_reads' hR; have H5 := Lib.hid h5; have HC5 := Lib.hid hc5; replace H4 := Lib.hid (And.intro (Kd.C_below H4.out.1 hd) H4.out.2); replace HB := Lib.hid (below_then' HB.out hd); clear hd hR h5 hc5)
      | (go_at_call 22; refine (joinF A ac l _ (Kd.C_below HL.out HB.out) hac (fun ad e => Nat.lt_of_lt_of_le (HA.out ad e) HB.out.size)).mono ?_; rintro e w6 ⟨v6, rfl, ho, hd⟩; obtain ⟨A6, c6, l6, rfl, hc6, h6, hp6⟩ := C_own44 ho; have H6 := Lib.hid (And.intro h6 hp6); have HC6 := Lib.hid hc6; replace H4 := Lib.hid (And.intro (Kd.C_below H4.out.1 hd) H4.out.2); replace H5 := Lib.hid (Kd.C_below H5.out hd); replace HB := Lib.hid (below_then' HB.out hd); clear hd ho h6 hp6 hc6)
      | (go_at_call 23; refine (orpimentref09_Join.calls 60 A ac l _ _ _ (Kd.C_below HL.out HB.out) hac HR2.out.1).mono ?_; rintro e w7 ⟨v7, rfl, hR, hd⟩; obtain ⟨A7, c7, rfl⟩ := Kd.R_slice hR; obtain ⟨_, hc7, h7⟩ := Kd.R_reads' hR; have H7 := Lib.hid h7; have HC7 := Lib.hid hc7; replace H4 := Lib.hid (And.intro (Kd.C_below H4.out.1 hd) H4.out.2); replace H5 := Lib.hid (Kd.C_below H5.out hd); replace H6 := Lib.hid (And.intro (Kd.C_below H6.out.1 hd) H6.out.2); replace HB := Lib.hid (below_then' HB.out hd); clear hd hR h7 hc7)
      | (go_at_call 24; (with_reducible show Calls Try.prog 24 #[.slice A4 _ _, .slice A5 _ _] _ _); refine (equalP_same (A := A4) (B := A5) H4.out.1 H5.out HC4.out HC5.out (by have := sres_length l a b; rw [← H4.out.2, prs_length] at this; omega) (H4.out.2.trans HR1.out.2.symm)).mono ?_; rintro e w8 ⟨rfl, hd⟩; replace H6 := Lib.hid (And.intro (Kd.C_below H6.out.1 hd) H6.out.2); replace H7 := Lib.hid (Kd.C_below H7.out hd); replace HB := Lib.hid (below_then' HB.out hd); clear hd)
      | (go_at_call 24; (with_reducible show Calls Try.prog 24 #[.slice A6 _ _, .slice A7 _ _] _ _); refine (equalP_same (A := A6) (B := A7) H6.out.1 H7.out HC6.out HC7.out (by have := jres_length l; rw [← H6.out.2, prs_length] at this; omega) (H6.out.2.trans HR2.out.2.symm)).mono ?_; rintro e w8 ⟨rfl, hd⟩; replace HB := Lib.hid (below_then' HB.out hd); clear hd)
      | (go_at_call 11; refine (awake_calls _).mono ?_; rintro e w9 ⟨rfl, hb⟩; replace HB := Lib.hid (below_then' HB.out hb); clear hb))
    go_ret
    exact ⟨rfl, HB.out⟩
  · have hs' : decide ((l.length : Int) ≤ 60) = false := decide_eq_false hs
    go_wp2_with (first
      | (go_at_call 10; refine (orpimentlaw09_small.calls 3 A ac l none 0 [] false _ (Kd.C_below HL.out HB.out) hac ⟨rfl, by simp, fun hp => by simp at hp⟩ (by simp) (by rw [small0_f l (by omega), hs'])).mono ?_; rintro e w1 ⟨rfl, hd⟩; replace HB := Lib.hid (below_then' HB.out hd.below); clear hd)
      | (go_at_call 11; refine (awake_calls _).mono ?_; rintro e w9 ⟨rfl, hb⟩; replace HB := Lib.hid (below_then' HB.out hb); clear hb))
    go_ret
    exact ⟨rfl, HB.out⟩
end Go.Proofs.Ytbojagkalbfenaa
