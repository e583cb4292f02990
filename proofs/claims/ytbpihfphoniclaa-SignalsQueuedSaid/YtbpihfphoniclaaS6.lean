/- SignalsKill in plain words: what follows the calls. -/
import Derived.Test.YtbpihfphoniclaaS5
import Derived.Test.YtbpihfphoniclaaS1
namespace Go.Proofs.Ytbpihfphoniclaa
def mK : Nat := 72057594037665535
theorem newMask_all (x : Nat) : newMask x 2 18446744073709551615 = mK := by
  unfold newMask
  dsimp only
  rw [if_neg (by decide), if_neg (by decide)]
  decide +kernel
theorem mask_left : allM &&& (18446744073709551615 - mK) = nevM := by decide +kernel
theorem hasB_nev {s : Int} (h1 : 1 ≤ s) (h2 : s ≤ 56) : hasB nevM s = true ↔ s = 9 ∨ s = 19 := by
  unfold hasB
  have key : ∀ j, j < 56 → ((nevM.testBit j = true) ↔ (j = 8 ∨ j = 18)) := by decide +kernel
  rw [key _ (by omega)]
  omega
/-- The table ahead of each Next of the law. -/
structure Lp (S : St) (s : Int) : Prop where
  tk : ∃ w, S.tk 0 = some ⟨0, mK, false, w⟩
  ac : Ac9 S
  pn : pends (both S 0 0) s = true
  inv : Inv S 1000
theorem pends_iff {l : List Pd} {s : Int} : pends l s = true ↔ ∃ v, (s, v) ∈ l := by
  unfold pends
  rw [List.any_eq_true]
  constructor
  · rintro ⟨⟨a, v⟩, hm, he⟩
    obtain rfl : a = s := by simpa using he
    exact ⟨v, hm⟩
  · rintro ⟨v, hm⟩
    exact ⟨_, hm, by simp⟩
theorem cut_keeps {l : List Pd} {s r : Int} {v : Int} (h : (r, v) ∈ l) (hne : r ≠ s) : (r, v) ∈ cut l s := by
  unfold cut
  exact (List.mem_eraseP_of_neg (by simpa using hne)).2 h
theorem cut_less {l : List Pd} {s : Int} (h : pends l s = true) : (cut l s).length < l.length := by
  obtain ⟨v, hv⟩ := pends_iff.1 h
  unfold cut
  have : (l.eraseP fun x => x.1 == s).length = l.length - 1 := List.length_eraseP_of_mem hv (by simp)
  have h2 := List.length_pos_of_mem hv
  omega
theorem does_nev {S : St} (h : Ac9 S) {s : Int} (hs : s = 9 ∨ s = 19) : does S 0 s = if s = 9 then 2 else 3 := by
  unfold does
  rcases hs with rfl | rfl
  · rw [show (9 : Int).toNat = 9 from rfl, (h 0).1]; simp
  · rw [show (19 : Int).toNat = 19 from rfl, (h 0).2]; simp
theorem next_lp {S : St} {s : Int} (h : Lp S s) (hs : s = 9 ∨ s = 19) : ∃ t v d S', nextS S 0 = (((t, v, d), true), S') ∧ (t = s → d = if s = 9 then 2 else 3) ∧ (t ≠ s → Lp S' s ∧ (both S' 0 0).length < (both S 0 0).length) := by
  obtain ⟨wn, hx⟩ := h.tk
  have hsg : ∀ x ∈ both S 0 0, 1 ≤ x.1 ∧ x.1 ≤ 56 := by
    intro x hx
    rcases List.mem_append.1 hx with hm | hm
    · exact h.inv.sig 0 (by omega) x hm
    · exact h.inv.sig 256 (by omega) x hm
  obtain ⟨u, hu⟩ := pends_iff.1 h.pn
  have hlow : ∃ t, lowest (both S 0 0) nevM = t ∧ t ≠ 0 ∧ (t = 9 ∨ t = 19) ∧ pends (both S 0 0) t = true := by
    rcases lowest_spec (both S 0 0) nevM (fun x hx => (hsg x hx).1) with ⟨_, h2⟩ | ⟨x, hm, h1, h2, _⟩
    · have h3 := h2 _ hu
      rw [(hasB_nev (hsg _ hu).1 (hsg _ hu).2).2 hs] at h3
      cases h3
    · refine ⟨x.1, h1, by have := (hsg x hm).1; omega, (hasB_nev (hsg x hm).1 (hsg x hm).2).1 h2, pends_iff.2 ⟨x.2, hm⟩⟩
  obtain ⟨t, ht, ht0, htn, htp⟩ := hlow
  have hn : nextS S 0 = (((t, (takeS S 0 0 t).1, does S 0 t), true), (takeS S 0 0 t).2) := by
    unfold nextS
    rw [show isTh 0 = true by decide, show (0 : Int).toNat = 0 from rfl, hx]
    simp only [Bool.not_true, Bool.false_eq_true, if_false]
    rw [show (0 : Int).toNat = 0 from rfl, mask_left, ht, if_neg ht0]
  refine ⟨t, _, _, _, hn, fun e => by subst e; exact does_nev h.ac hs, fun hne => ?_⟩
  have hi := Inv.nextS h.inv 0
  rw [hn] at hi
  have hls : (takeS S 0 0 t).2.ls = upd S.ls (srcOf S 0 0 t) (cut (S.ls (srcOf S 0 0 t)) t) := rfl
  have hsrc : pends (S.ls (srcOf S 0 0 t)) t = true ∧ (srcOf S 0 0 t = 0 ∨ srcOf S 0 0 t = 256) := by
    unfold srcOf
    cases hp : pends (S.ls 0) t with
    | true => rw [if_pos rfl]; exact ⟨hp, .inl rfl⟩
    | false =>
      rw [if_neg (by simp)]
      refine ⟨?_, .inr rfl⟩
      obtain ⟨y, hy⟩ := pends_iff.1 htp
      rcases List.mem_append.1 hy with hm | hm
      · have := pends_iff.2 ⟨y, hm⟩
        rw [hp] at this
        cases this
      · exact pends_iff.2 ⟨y, hm⟩
  have hless := cut_less hsrc.1
  refine ⟨⟨⟨wn, hx⟩, h.ac, ?_, hi⟩, ?_⟩
  · refine pends_iff.2 ⟨u, ?_⟩
    unfold both at hu ⊢
    rw [hls]
    rcases hsrc.2 with e | e
    · rw [e, upd_same, upd_other _ _ (by omega)]
      rcases List.mem_append.1 hu with hm | hm
      · exact List.mem_append_left _ (cut_keeps hm (fun e => hne e.symm))
      · exact List.mem_append_right _ hm
    · rw [e, upd_other _ _ (by omega), show 256 + 0 = 256 from rfl, upd_same]
      rcases List.mem_append.1 hu with hm | hm
      · exact List.mem_append_left _ hm
      · exact List.mem_append_right _ (cut_keeps hm (fun e => hne e.symm))
  · unfold both
    rw [hls]
    rcases hsrc.2 with e | e
    · rw [e] at hless ⊢
      rw [upd_same, upd_other _ _ (by omega), List.length_append, List.length_append]
      omega
    · rw [e] at hless ⊢
      rw [upd_other _ _ (by omega), show 256 + 0 = 256 from rfl, upd_same, List.length_append, List.length_append]
      omega
/-- The three calls behind the calls. -/
theorem kill_setup {S : St} {m : Nat} (hv : Inv S m) (hm : m ≤ 85) (h5 : Five S) (h9 : Ac9 S) {s : Int} (hs : s = 9 ∨ s = 19) :
    ∃ ok C y M l K, cancelS S 0 = (ok, C) ∧ maskS C 0 2 18446744073709551615 = ((y, 0), M) ∧ killS M 0 0 s 5 = ((l, 0), K) ∧ Inv C 1000 ∧ Inv M 1000 ∧ Lp K s ∧ (both K 0 0).length ≤ 172 := by
  obtain ⟨x, hx, hxp⟩ := h5 0 (by omega)
  obtain ⟨xp, xm, xw, xn⟩ := x
  simp only at hxp
  have hxp : xp = 0 := by simpa using hxp
  subst hxp
  obtain ⟨ok, C, hC, hCtk, hCac⟩ : ∃ ok C, cancelS S 0 = (ok, C) ∧ C.tk 0 = some ⟨0, xm, false, xn⟩ ∧ C.ac = S.ac := by
    unfold cancelS
    rw [show isTh 0 = true by decide, show (0 : Int).toNat = 0 from rfl, hx]
    simp only [Bool.not_true, Bool.false_eq_true, if_false]
    cases xw with
    | true => exact ⟨_, _, rfl, by simp, rfl⟩
    | false => exact ⟨_, _, rfl, hx, rfl⟩
  have iC := hv.cancelS 0
  rw [hC] at iC
  have iC : Inv C m := iC
  obtain ⟨M, hM, hMtk, hMac⟩ : ∃ M, maskS C 0 2 18446744073709551615 = ((xm, 0), M) ∧ M.tk 0 = some ⟨0, mK, false, xn⟩ ∧ M.ac = C.ac := by
    unfold maskS
    rw [show isTh 0 = true by decide, show (0 : Int).toNat = 0 from rfl, hCtk]
    simp only [Bool.not_true, Bool.false_eq_true, if_false]
    rw [if_neg (by omega), newMask_all]
    exact ⟨_, rfl, by simp, rfl⟩
  have iM := iC.maskS 0 2 18446744073709551615
  rw [hM] at iM
  have iM : Inv M m := iM
  have h9M : Ac9 M := fun p => by rw [hMac, hCac]; exact h9 p
  have hig : ignored M 0 s = false := by
    unfold ignored
    rcases hs with rfl | rfl
    · rw [show (9 : Int).toNat = 9 from rfl, (h9M 0).1]; rfl
    · rw [show (19 : Int).toNat = 19 from rfl, (h9M 0).2]; rfl
  have hmem : (0 : Nat) ∈ threads M 0 := mem_threads.2 ⟨by omega, _, hMtk, rfl⟩
  obtain ⟨l, K, hK, hKtk, hKac, hKp⟩ : ∃ l K, killS M 0 0 s 5 = ((l, 0), K) ∧ K.tk = M.tk ∧ K.ac = M.ac ∧ pends (K.ls 0) s = true := by
    unfold killS
    rw [if_neg (by rintro (⟨_, h⟩ | h) <;> (revert h; decide)), if_neg (by omega)]
    dsimp only
    have eto : (if (0 : Int) = -1 then choose M (threads M 0) s else 0) = 0 := if_neg (by omega)
    rw [eto, if_neg (by
      rintro (⟨_, h⟩ | h)
      · exact h hmem
      · rw [h] at hmem; cases hmem), if_neg (by
      rintro ⟨_, h⟩
      unfold waitsFor at h
      rw [show (0 : Int).toNat = 0 from rfl, hMtk] at h
      cases h), show (0 : Int).toNat = 0 from rfl, hig, if_neg (by omega)]
    rw [show slotOf 0 0 = 0 from rfl]
    cases hp : pends ((opposite M 0 s).ls 0) s with
    | true =>
      rw [if_neg (by simp; omega)]
      exact ⟨_, _, rfl, opposite_tk M 0 s, opposite_ac M 0 s, hp⟩
    | false =>
      rw [if_pos ⟨rfl, .inr rfl⟩]
      refine ⟨_, _, rfl, opposite_tk M 0 s, opposite_ac M 0 s, ?_⟩
      dsimp only
      rw [upd_same]
      exact pends_iff.2 ⟨5, by simp⟩
  have iK := iM.killS 0 0 s 5
  rw [hK] at iK
  have iK : Inv K (m + 1) := iK
  refine ⟨ok, C, xm, M, l, K, hC, hM, hK, iC.mono (by omega), iM.mono (by omega), ⟨⟨xn, by rw [hKtk]; exact hMtk⟩, fun p => by rw [hKac]; exact h9M p, ?_, iK.mono (by omega)⟩, ?_⟩
  · obtain ⟨v, hv⟩ := pends_iff.1 hKp
    exact pends_iff.2 ⟨v, List.mem_append_left _ hv⟩
  · unfold both
    rw [List.length_append]
    have := iK.len 0 (by omega)
    have := iK.len 256 (by omega)
    simp only [Nat.add_zero]
    omega
end Go.Proofs.Ytbpihfphoniclaa
