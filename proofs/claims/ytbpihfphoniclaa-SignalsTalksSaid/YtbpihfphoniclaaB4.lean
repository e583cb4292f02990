import Derived.Test.YtbpihfphoniclaaB3
import Derived.Deep.RegionLaw
namespace Go.Proofs.Ytbpihfphoniclaa
open Go.RowKit
set_option linter.unusedVariables false
def AfterL (base t : Nat) (L : Lay) (S' : St) (w w' : World) : Prop := (∃ L', RepL w' base t L' S' ∧ L'.ptr = L.ptr) ∧ Fr base TS w w'
theorem AfterL.after {base t : Nat} {L : Lay} {S' : St} {w w' : World} (h : AfterL base t L S' w w') : After base t S' w w' := by
  obtain ⟨⟨L', h1, _⟩, h2⟩ := h
  exact ⟨⟨L', h1⟩, h2⟩
/-- The lists behind the forgetting in some threads. -/
def forgotL (S : St) (p : Nat) (s : Int) (l : List Nat) : St := { S with ls := fun i => if i = 256 + p ∨ i ∈ l then without (S.ls i) s else S.ls i }
theorem forgot_all (S : St) (p : Nat) (s : Int) : forgotL S p s (threads S p) = forget S p s := by
  unfold forgotL forget
  congr 1
  funext i
  have e : (i = 256 + p ∨ i ∈ threads S p) ↔ (i = 256 + p ∨ (i < 256 ∧ inP S p i = true)) := by
    rw [mem_threads, inP_iff]
  by_cases h : i = 256 + p ∨ i ∈ threads S p
  · rw [if_pos h, if_pos (e.1 h)]
  · rw [if_neg h, if_neg (fun h' => h (e.2 h'))]
theorem forgot_nil (S : St) (p : Nat) (s : Int) : forgotL S p s [] = { S with ls := upd S.ls (256 + p) (without (S.ls (256 + p)) s) } := by
  unfold forgotL
  congr 1
  funext i
  by_cases h : i = 256 + p
  · subst h; simp
  · rw [upd_other _ _ h]; simp [h]
theorem forgot_snoc (S : St) (p : Nat) (s : Int) (l : List Nat) (y : Nat) (hy : y ∉ l) (hy2 : y < 256) : forgotL S p s (l ++ [y]) = { forgotL S p s l with ls := upd (forgotL S p s l).ls y (without ((forgotL S p s l).ls y) s) } := by
  have hne : ¬ y = 256 + p := by omega
  have e1 : (forgotL S p s l).ls y = S.ls y := by simp [forgotL, hy, hne]
  rw [e1]
  unfold forgotL
  congr 1
  funext i
  by_cases h : i = y
  · subst h; simp
  · rw [upd_other _ _ h]; simp [h]
theorem Ns.fr {w w' : World} {v : Value} {l : List Nat} {base : Nat} (h : Ns w v l) (hf : Fr base TS w w') : Ns w' v l := by
  refine Rw.kept h fun g hg => ?_
  obtain ⟨cur, hc⟩ := Rw.ty h g hg
  rw [hc]
  exact hf.oth g _ hc (fun e he => by simp [oty] at he; subst he; decide)
theorem forgot_inv {S : St} {n : Nat} (h : ∀ i, i < 320 → (S.ls i).length ≤ n) (p : Nat) (s : Int) (l : List Nat) : ∀ i, i < 320 → ((forgotL S p s l).ls i).length ≤ n := by
  intro i hi
  unfold forgotL
  dsimp only
  split
  · exact Nat.le_trans (without_len _ _) (h i hi)
  · exact h i hi
/-- A list is cut by `without`, and the slice is stored. -/
theorem RepL.cutTask {w : World} {base t : Nat} {L : Lay} {S : St} (h : RepL w base t L S) {i : Nat} (hi : i < 256) {x : Tk} (hx : S.tk i = some x) {b : Nat} (hb : L.ptr i = some b) {w1 : World} {v' : Value} {l' : List Pd} (hr : Ls w1 94 v' l') (hm : Moved w w1 (L.lv i) v') :
    (∃ L', RepL (w1.setCell ⟨b, 2, none⟩ v') base t L' { S with ls := upd S.ls i l' } ∧ L'.ptr = L.ptr) ∧ Fr base TS w (w1.setCell ⟨b, 2, none⟩ v') := by
  have h1 := (h.setLs (show i < 320 by omega) (grown_of_below' hm.1 _) hr hm.2).1 hi b x hb hx
  exact ⟨⟨_, h1, rfl⟩, (Fr.of_below hm.1 h.base_lt).trans ((h.below hm.1).frB hi hx hb _ _)⟩
theorem RepL.cutProc {w : World} {base t : Nat} {L : Lay} {S : St} (h : RepL w base t L S) {p j : Nat} (hp : p < 64) (hj : j = 256 + p * 58 + 57) {w1 : World} {v' : Value} {l' : List Pd} (hr : Ls w1 94 v' l') (hm : Moved w w1 (L.lv (256 + p)) v') :
    (∃ L', RepL (w1.setCell ⟨t, j, none⟩ v') base t L' { S with ls := upd S.ls (256 + p) l' } ∧ L'.ptr = L.ptr) ∧ Fr base TS w (w1.setCell ⟨t, j, none⟩ v') := by
  have h1 := (h.setLs (show 256 + p < 320 by omega) (grown_of_below' hm.1 _) hr hm.2).2 p j rfl hj
  exact ⟨⟨_, h1, rfl⟩, (Fr.of_below hm.1 h.base_lt).trans ((h.below hm.1).frT _ _)⟩
theorem threads_len (S : St) (p : Int) : (threads S p).length ≤ 256 := thrK_len S p 256
theorem threads_nodup (S : St) (p : Int) : (threads S p).Nodup := List.Pairwise.filter _ List.nodup_range
theorem nodup_take {l : List Nat} (h : l.Nodup) {k : Nat} (hk : k < l.length) : l.getD k 0 ∉ l.take k := by
  intro hm
  rw [List.getD_eq_getElem?_getD, List.getElem?_eq_getElem hk] at hm
  obtain ⟨j, hj, e⟩ := List.getElem_of_mem hm
  rw [List.length_take] at hj
  rw [List.getElem_take] at e
  have hlt : j < k := by omega
  have := List.pairwise_iff_getElem.1 h j k (by omega) hk hlt
  exact this e
theorem Moved.undrew {w w1 : World} {v v1 : Value} (h : Moved w.drew w1 v v1) : Moved w w1 v v1 := ⟨⟨h.1.os, h.1.tape, h.1.output, h.1.size, h.1.block⟩, h.2⟩
set_option maxHeartbeats 1000000 in
set_option maxRecDepth 100000 in
theorem forget_calls {base t : Nat} {L : Lay} {S : St} (p s : Int) (w : World) (h : RepL w base t L S) (hin : ∀ i, i < 320 → (S.ls i).length ≤ 1000) (hp0 : 0 ≤ p) (hp : p < 64) :
    Calls Try.prog 41 #[.pointer (some ⟨t, 0, none⟩), .int .i64 p, .int .i64 s] w fun e w' => e = .returned (.tuple #[]) ∧ AfterL base t L (forget S p.toNat s) w w' := by
  have cp : w.cell? ⟨t, 256 + p.toNat * 58 + 57, none⟩ = some (L.lv (256 + p.toNat)) := by
    rw [h.cellT _ (by omega), tcell_lv L S p.toNat _ (by omega) rfl]
  have fp := h.frozenT (256 + p.toNat * 58 + 57)
  obtain ⟨A1, cap1, e1, _, _, _, _⟩ := (h.row (256 + p.toNat) (by omega)).at
  have HR1 := Lib.hid (h.row (256 + p.toNat) (by omega))
  have HL1 := Lib.hid (hin (256 + p.toNat) (by omega))
  have H := Lib.hid (And.intro h hin)
  have htl := h.lt
  rw [e1] at cp HR1
  have HE := Lib.hid e1
  clear h hin e1
  go_enter Try.func41, Try.ntmps41
  go_wp2_with fail
  go_region_law (first
    | (go_simp; go_at_call 62; refine (without_calls _ (S.ls (256 + p.toNat)) s _ (Ls.drew HR1.out) HL1.out).mono ?_; rintro e w1 ⟨v', rfl, hr1, hbm⟩; obtain ⟨A', c', rfl, _⟩ := hr1.at; have hc1 := (hbm.1.cell (p := ⟨t, 256 + p.toNat * 58 + 57, none⟩) htl).trans cp; have hf1 := (hbm.1.frozen (p := ⟨t, 256 + p.toNat * 58 + 57, none⟩) htl).trans fp; have HX1 := Lib.hid (And.intro hr1 hbm); clear hr1 hbm))
  have hA := H.out.1.cutProc (p := p.toNat) (j := 256 + p.toNat * 58 + 57) (by omega) rfl HX1.out.1 (by rw [HE.out]; exact HX1.out.2.undrew)
  rw [← forgot_nil] at hA
  generalize w1.setCell ⟨t, 256 + p.toNat * 58 + 57, none⟩ (.slice A' (without (S.ls (256 + p.toNat)) s).length c') = W1 at *
  have HA := Lib.hid hA
  clear hA hc1 hf1 cp fp
  obtain ⟨L1, hL1, hP1⟩ := HA.out.1
  have HP1 := Lib.hid hP1
  clear hP1
  have HL := Lib.hid hL1
  clear hL1
  go_wp2_with (go_at_call 30; refine (threads_calls p W1 HL.out).mono ?_; rintro e w2 ⟨v2, rfl, hown, hb2⟩; have HN : Hid (Ns w2 v2 (threads S p)) := Lib.hid (Rw.of_own hown); have HB2 := Lib.hid hb2; clear hown hb2; obtain ⟨A2, c2, rfl, _⟩ := HN.out.at)
  have HT := Lib.hid (threads_len S p)
  have HND := Lib.hid (threads_nodup S p)
  have HMEM : Hid (∀ y ∈ threads S p, y < 256 ∧ ∃ x, S.tk y = some x ∧ x.proc = p) := Lib.hid fun y hy => mem_threads.1 hy
  have HALL := Lib.hid (forgot_all S p.toNat s)
  have HPP : Hid ((p.toNat : Int) = p) := Lib.hid (Int.toNat_of_nonneg hp0)
  have HS0 : Hid ((∃ L', RepL w2 base t L' (forgotL S p.toNat s []) ∧ L'.ptr = L.ptr) ∧ Fr base TS w w2 ∧ Ns w2 (.slice A2 (threads S p).length c2) (threads S p)) := Lib.hid ⟨⟨L1, HL.out.below HB2.out, HP1.out⟩, HA.out.2.trans (Fr.of_below HB2.out HL.out.base_lt), HN.out⟩
  rw [HPP.out] at HALL
  generalize threads S p = l at *
  clear HL HA HN HB2 HX1
  go_loopw [27] (fun i wr => ∃ k : Nat, k ≤ l.length ∧ i = .int .i64 k ∧ Hid ((∃ L', RepL wr base t L' (forgotL S p.toNat s (l.take k)) ∧ L'.ptr = L.ptr) ∧ Fr base TS w wr ∧ Ns wr (.slice A2 l.length c2) l)) (fun i _ => l.length - (intOf i).toNat)
  case atStart => exact ⟨0, by omega, rfl, by simpa using HS0⟩
  case round =>
    obtain ⟨k, hk, rfl, HI⟩ := hrel
    by_cases hlt : k < l.length
    · obtain ⟨⟨L3, hR3, hP3⟩, hF3, hN3⟩ := HI.out
      have HP3 := Lib.hid hP3
      clear hP3
      obtain ⟨A3, c3, e3, _, _, hat⟩ := hN3.at
      obtain ⟨g, eg, hg, hcg⟩ := hat k hlt
      cases e3
      subst eg
      have hin' : l.getD k 0 ∈ l := by rw [List.getD_eq_getElem?_getD, List.getElem?_eq_getElem hlt]; exact List.getElem_mem hlt
      obtain ⟨hy, x, hx, hxp⟩ := HMEM.out _ hin'
      have hny : l.getD k 0 ∉ l.take k := nodup_take HND.out hlt
      have hsn := forgot_snoc S p.toNat s (l.take k) (l.getD k 0) hny hy
      have htk : l.take (k + 1) = l.take k ++ [l.getD k 0] := by rw [List.take_succ_eq_append_getElem hlt, List.getD_eq_getElem?_getD, List.getElem?_eq_getElem hlt]; rfl
      rw [← htk] at hsn
      have HSN := Lib.hid hsn
      generalize l.getD k 0 = y at *
      have hx3 : (forgotL S p.toNat s (l.take k)).tk y = some x := hx
      obtain ⟨b, hpb, _, hbl, hbc, hcy⟩ := hR3.task_cell hy hx3
      have hlen := forgot_inv H.out.2 p.toNat s (l.take k) y (by omega)
      have hrow := hR3.row y (by omega)
      have hne : b ≠ t := hR3.ne_tab hbc (by decide)
      have c2' : wr.cell? ⟨b, 2, none⟩ = some (L3.lv y) := by rw [cell_of_row _ _ _ _ _ _ hbc]; rfl
      have f2' : wr.frozen? ⟨b, 2, none⟩ = false := frozen_of_cells hbc 2
      obtain ⟨A4, c4, e4, _⟩ := hrow.at
      rw [e4] at c2' hrow
      have HR3 := Lib.hid (And.intro hR3 (And.intro hF3 (And.intro hN3 (And.intro hx3 (And.intro hpb (And.intro hrow (And.intro hlen e4)))))))
      have htl3 := hR3.lt
      have hyi : (y : Int) < 256 := by omega
      have hy0 : (0 : Int) ≤ (y : Int) := by omega
      have hki : (k : Int) < (l.length : Int) := by omega
      have hne' : t ≠ b := fun h => hne h.symm
      clear hR3 hF3 hN3 hat hin' hx hxp hny hsn htk hx3 hpb hbc hlen hrow e4
      go_wp2_with fail
      go_region_law (first
        | (go_simp; go_at_call 62; refine (without_calls _ _ s _ (Ls.drew HR3.out.2.2.2.2.2.1) HR3.out.2.2.2.2.2.2.1).mono ?_; rintro e w1 ⟨v', rfl, hr1, hbm⟩; obtain ⟨A', c', rfl, _⟩ := hr1.at; have hc1 := (hbm.1.cell (p := ⟨b, 2, none⟩) hbl).trans c2'; have hf1 := (hbm.1.frozen (p := ⟨b, 2, none⟩) hbl).trans f2'; have hcy1 := (hbm.1.cell (p := ⟨t, y, none⟩) htl3).trans hcy; have HX1 := Lib.hid (And.intro hr1 hbm); clear hr1 hbm))
      all_goals
        have hA := HR3.out.1.cutTask hy HR3.out.2.2.2.1 HR3.out.2.2.2.2.1 HX1.out.1 (by rw [HR3.out.2.2.2.2.2.2.2]; exact HX1.out.2.undrew)
        rw [← HSN.out] at hA
        have hN := HR3.out.2.2.1.fr hA.2
        have HF : Hid _ := Lib.hid (And.intro (show ∃ L', RepL _ base t L' _ ∧ L'.ptr = L.ptr from by obtain ⟨⟨L5, h5, h6⟩, _⟩ := hA; exact ⟨L5, h5, h6.trans HP3.out⟩) (And.intro (HR3.out.2.1.trans hA.2) hN))
        clear hA hN
        have hT := HT.out
        go_wp2
        go_roundw
        case rel => exact ⟨k + 1, by omega, by go_num, HF⟩
        case measure => simp [intOf]; omega
    · obtain rfl : k = l.length := by omega
      have hge : ¬ ((l.length : Int) < (l.length : Int)) := by omega
      rw [List.take_length, HALL.out] at HI
      go_wp2
      go_end0
      exact ⟨rfl, HI.out.1, HI.out.2.1⟩
end Go.Proofs.Ytbpihfphoniclaa
