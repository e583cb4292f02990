/- A call of any kind as a step of the table; what it keeps (plain). -/
import Derived.Test.YtbpihfphoniclaaS2
namespace Go.Proofs.Ytbpihfphoniclaa
def callS (S : St) (k th p s n : Int) (b : Nat) (v : Int) : St :=
  if k = 0 then (startS S th p).2 else if k = 1 then (endS S th).2 else if k = 2 then (actionS S p s n).2 else if k = 3 then (maskS S th n b).2
  else if k = 4 then (killS S th p s v).2 else if k = 5 then (waitS S th b).2 else if k = 6 then (nextS S th).2 else if k = 7 then (cancelS S th).2 else S
theorem Inv.callS {S : St} {m : Nat} (h : Inv S m) (k th p s n : Int) (b : Nat) (v : Int) : Inv (callS S k th p s n b v) (m + 1) := by
  unfold Ytbpihfphoniclaa.callS
  split
  · exact (h.startS th p).mono (by omega)
  split
  · exact (h.endS th).mono (by omega)
  split
  · exact (h.actionS p s n).mono (by omega)
  split
  · exact (h.maskS th n b).mono (by omega)
  split
  · exact h.killS th p s v
  split
  · exact (h.waitS th b).mono (by omega)
  split
  · exact (h.nextS th).mono (by omega)
  split
  · exact (h.cancelS th).mono (by omega)
  · exact h.mono (by omega)
/-- Threads stay, with their processes. -/
def Keeps (S S' : St) : Prop := ∀ i x, S.tk i = some x → ∃ y, S'.tk i = some y ∧ y.proc = x.proc
theorem Keeps.refl (S : St) : Keeps S S := fun _ x h => ⟨x, h, rfl⟩
theorem Keeps.of_tk {S S' : St} (h : S'.tk = S.tk) : Keeps S S' := fun _ x hx => ⟨x, by rw [h]; exact hx, rfl⟩
theorem Keeps.up {S : St} {j : Nat} {x : Tk} (hx : S.tk j = some x) (x' : Tk) (hp : x'.proc = x.proc) {S' : St} (h : S'.tk = upd S.tk j (some x')) : Keeps S S' := by
  intro i y hy
  rw [h]
  by_cases e : i = j
  · subst e
    rw [hx] at hy
    cases hy
    exact ⟨x', upd_same _ _ _, hp⟩
  · exact ⟨y, by rw [upd_other _ _ e]; exact hy, rfl⟩
theorem keeps_action (S : St) (p s a : Int) : Keeps S (actionS S p s a).2 := by
  refine Keeps.of_tk ?_
  unfold actionS
  split
  · rfl
  split
  · rfl
  split
  · rfl
  dsimp only
  split <;> rfl
theorem keeps_mask (S : St) (th how : Int) (b : Nat) : Keeps S (maskS S th how b).2 := by
  unfold maskS
  split
  · exact Keeps.refl _
  split
  · exact Keeps.refl _
  split
  · exact Keeps.refl _
  · rename_i x hx
    exact Keeps.up hx { x with mask := newMask x.mask how b } rfl rfl
theorem keeps_cancel (S : St) (th : Int) : Keeps S (cancelS S th).2 := by
  unfold cancelS
  split
  · exact Keeps.refl _
  split
  · exact Keeps.refl _
  · rename_i x hx
    split
    · exact Keeps.up hx { x with waits := false } rfl rfl
    · exact Keeps.refl _
theorem keeps_next (S : St) (th : Int) : Keeps S (nextS S th).2 := by
  refine Keeps.of_tk ?_
  unfold nextS
  split
  · rfl
  split
  · rfl
  · split
    · rfl
    · dsimp only
      split <;> rfl
theorem keeps_wait (S : St) (th : Int) (b : Nat) : Keeps S (waitS S th b).2 := by
  unfold waitS
  split
  · exact Keeps.refl _
  split
  · exact Keeps.refl _
  · rename_i x hx
    split
    · exact Keeps.refl _
    · dsimp only
      split
      · exact Keeps.up hx { x with waits := true, wants := b &&& allM } rfl rfl
      · exact Keeps.of_tk rfl
theorem keeps_kill (S : St) (th p s v : Int) : Keeps S (killS S th p s v).2 := by
  unfold killS
  split
  · exact Keeps.refl _
  split
  · exact Keeps.refl _
  dsimp only
  split
  · exact Keeps.refl _
  obtain ⟨to, hto⟩ : ∃ to, (if th = -1 then choose S (threads S p) s else th) = to := ⟨_, rfl⟩
  rw [hto]
  split
  · rename_i hw
    have h2 := hw.2
    unfold waitsFor at h2
    cases hx : S.tk to.toNat with
    | none => rw [hx] at h2; cases h2
    | some x =>
      refine Keeps.up hx { x with waits := false } rfl ?_
      dsimp only
      rw [opposite_tk, hx]
      rfl
  split
  · exact Keeps.refl _
  split
  · exact Keeps.of_tk (opposite_tk S _ s)
  · exact Keeps.of_tk (opposite_tk S _ s)
theorem keeps_call (S : St) (k th p s n : Int) (b : Nat) (v : Int) (hk : 2 ≤ k) : Keeps S (callS S k th p s n b v) := by
  unfold callS
  rw [if_neg (by omega), if_neg (by omega)]
  split
  · exact keeps_action S p s n
  split
  · exact keeps_mask S th n b
  split
  · exact keeps_kill S th p s v
  split
  · exact keeps_wait S th b
  split
  · exact keeps_next S th
  split
  · exact keeps_cancel S th
  · exact Keeps.refl _
/-- Signal s pends somewhere in the process p. -/
def Pn (S : St) (p : Nat) (s : Int) : Prop := (∃ v, (s, v) ∈ S.ls (256 + p)) ∨ ∃ i, i < 256 ∧ inP S p i = true ∧ ∃ v, (s, v) ∈ S.ls i
def NoB (S : St) : Prop := ∀ p, p < 64 → ¬ (Pn S p 18 ∧ Pn S p 19)
theorem Pn.sub {S S' : St} (ht : ∀ (p i : Nat), i < 256 → inP S' p i = true → inP S p i = true ∨ S'.ls i = []) (hl : ∀ i, i < 320 → ∀ x ∈ S'.ls i, x ∈ S.ls i) {p : Nat} (hp : p < 64) {s : Int} (h : Pn S' p s) : Pn S p s := by
  rcases h with ⟨v, hv⟩ | ⟨i, hi, hin, v, hv⟩
  · exact .inl ⟨v, hl _ (by omega) _ hv⟩
  · rcases ht p i hi hin with h | h
    · exact .inr ⟨i, hi, h, v, hl _ (by omega) _ hv⟩
    · rw [h] at hv; cases hv
theorem NoB.sub {S S' : St} (h : NoB S) (ht : ∀ (p i : Nat), i < 256 → inP S' p i = true → inP S p i = true ∨ S'.ls i = []) (hl : ∀ i, i < 320 → ∀ x ∈ S'.ls i, x ∈ S.ls i) : NoB S' :=
  fun p hp hb => h p hp ⟨hb.1.sub ht hl hp, hb.2.sub ht hl hp⟩
theorem inP_of_tk {S S' : St} (h : S'.tk = S.tk) (p : Int) (i : Nat) : inP S' p i = inP S p i := by unfold inP; rw [h]
theorem inP_up {S S' : St} {j : Nat} {x : Tk} (hx : S.tk j = some x) {x' : Tk} (hp : x'.proc = x.proc) (h : S'.tk = upd S.tk j (some x')) (p : Int) (i : Nat) : inP S' p i = inP S p i := by
  unfold inP
  rw [h]
  by_cases e : i = j
  · subst e; rw [upd_same, hx]; simp [hp]
  · rw [upd_other _ _ e]
theorem NoB.like {S S' : St} (h : NoB S) (ht : ∀ (p : Int) (i : Nat), inP S' p i = inP S p i) (hl : ∀ i, i < 320 → ∀ x ∈ S'.ls i, x ∈ S.ls i) : NoB S' := h.sub (fun p i _ hi => .inl (by rw [← ht]; exact hi)) hl
theorem take_sub (S : St) (th p : Nat) (s : Int) (i : Nat) (x : Pd) (h : x ∈ (takeS S th p s).2.ls i) : x ∈ S.ls i := by
  have h : x ∈ upd S.ls (srcOf S th p s) (cut (S.ls (srcOf S th p s)) s) i := h
  by_cases e : i = srcOf S th p s
  · subst e; rw [upd_same] at h; exact cut_sub h
  · rw [upd_other _ _ e] at h; exact h
theorem noB_action {S : St} (h : NoB S) (p s a : Int) : NoB (actionS S p s a).2 := by
  unfold actionS
  split
  · exact h
  split
  · exact h
  split
  · exact h
  dsimp only
  split
  · exact h.like (fun _ _ => rfl) fun i _ x hx => forget_ls_sub (S := { S with ac := upd S.ac p.toNat (upd (S.ac p.toNat) s.toNat a) }) hx
  · exact h.like (fun _ _ => rfl) fun i _ x hx => hx
theorem noB_mask {S : St} (h : NoB S) (th how : Int) (b : Nat) : NoB (maskS S th how b).2 := by
  unfold maskS
  split
  · exact h
  split
  · exact h
  split
  · exact h
  · rename_i x hx
    exact h.like (inP_up hx (x' := { x with mask := newMask x.mask how b }) rfl rfl) fun i _ x hx => hx
theorem noB_cancel {S : St} (h : NoB S) (th : Int) : NoB (cancelS S th).2 := by
  unfold cancelS
  split
  · exact h
  split
  · exact h
  · rename_i x hx
    split
    · exact h.like (inP_up hx (x' := { x with waits := false }) rfl rfl) fun i _ x hx => hx
    · exact h
theorem noB_next {S : St} (h : NoB S) (th : Int) : NoB (nextS S th).2 := by
  unfold nextS
  split
  · exact h
  split
  · exact h
  · split
    · exact h
    · dsimp only
      split
      · exact h
      · exact h.like (fun _ _ => rfl) fun i _ x hx => take_sub S _ _ _ i x hx
theorem noB_wait {S : St} (h : NoB S) (th : Int) (b : Nat) : NoB (waitS S th b).2 := by
  unfold waitS
  split
  · exact h
  split
  · exact h
  · rename_i x hx
    split
    · exact h
    · dsimp only
      split
      · exact h.like (inP_up hx (x' := { x with waits := true, wants := b &&& allM }) rfl rfl) fun i _ x hx => hx
      · exact h.like (fun _ _ => rfl) fun i _ x hx => take_sub S _ _ _ i x hx
theorem forget_pn {S : St} {p : Nat} (hp : p < 64) {s : Int} : ¬ Pn (forget S p s) p s := by
  rintro (⟨v, hv⟩ | ⟨i, hi, hin, v, hv⟩)
  · simp only [forget] at hv
    rw [if_pos (.inl True.intro)] at hv
    exact without_ne hv rfl
  · simp only [forget] at hv
    rw [if_pos (.inr ⟨hi, hin⟩)] at hv
    exact without_ne hv rfl
theorem forget_sub_pn {S : St} {p q : Nat} (hq : q < 64) {s r : Int} (h : Pn (forget S p s) q r) : Pn S q r := Pn.sub (S := S) (S' := forget S p s) (fun _ _ _ hi => .inl hi) (fun i _ x hx => forget_ls_sub (S := S) (p := p) (s := s) hx) hq h
theorem opposite_sub_pn {S : St} {p q : Nat} (hq : q < 64) {s r : Int} (h : Pn (opposite S p s) q r) : Pn S q r := by
  unfold opposite at h
  split at h
  · exact forget_sub_pn hq h
  · split at h
    · exact forget_sub_pn hq h
    · exact h
theorem noB_push {S : St} (h : NoB S) {p : Nat} (hp : p < 64) (s v : Int) (slot : Nat) (hs : slot = 256 + p ∨ slot < 256 ∧ inP S p slot = true) :
    NoB { opposite S p s with ls := upd (opposite S p s).ls slot ((opposite S p s).ls slot ++ [(s, v)]) } := by
  have key : ∀ q r, q < 64 → Pn { opposite S p s with ls := upd (opposite S p s).ls slot ((opposite S p s).ls slot ++ [(s, v)]) } q r → Pn (opposite S p s) q r ∨ (q = p ∧ r = s) := by
    rintro q r hq (⟨u, hu⟩ | ⟨i, hi, hin, u, hu⟩)
    · have hu : (r, u) ∈ upd (opposite S p s).ls slot ((opposite S p s).ls slot ++ [(s, v)]) (256 + q) := hu
      by_cases e : 256 + q = slot
      · rw [e, upd_same] at hu
        rcases List.mem_append.1 hu with h | h
        · rw [← e] at h; exact .inl (.inl ⟨u, h⟩)
        · have h : r = s ∧ u = v := by simpa using h
          refine .inr ⟨?_, h.1⟩
          rcases hs with h | h
          · omega
          · omega
      · rw [upd_other _ _ e] at hu; exact .inl (.inl ⟨u, hu⟩)
    · have hu : (r, u) ∈ upd (opposite S p s).ls slot ((opposite S p s).ls slot ++ [(s, v)]) i := hu
      have hin' : inP (opposite S p s) q i = true := hin
      by_cases e : i = slot
      · rw [e, upd_same] at hu
        rcases List.mem_append.1 hu with h | h
        · rw [← e] at h; exact .inl (.inr ⟨i, hi, hin', u, h⟩)
        · have h : r = s ∧ u = v := by simpa using h
          refine .inr ⟨?_, h.1⟩
          rcases hs with h | ⟨_, h⟩
          · omega
          · rw [inP_of_tk (opposite_tk S p s), e] at hin'
            obtain ⟨x, hx, hxp⟩ := inP_iff.1 hin'
            obtain ⟨y, hy, hyp⟩ := inP_iff.1 h
            rw [hx] at hy
            cases hy
            omega
      · rw [upd_other _ _ e] at hu; exact .inl (.inr ⟨i, hi, hin', u, hu⟩)
  intro q hq hb
  by_cases h18 : s = 18
  · subst h18
    rcases key q 19 hq hb.2 with h2 | ⟨_, h2⟩
    · rcases key q 18 hq hb.1 with h1 | ⟨rfl, _⟩
      · exact h q hq ⟨opposite_sub_pn hq h1, opposite_sub_pn hq h2⟩
      · rw [show opposite S q 18 = forget S q 19 from rfl] at h2
        exact forget_pn hq h2
    · omega
  · by_cases h19 : s = 19
    · subst h19
      rcases key q 18 hq hb.1 with h1 | ⟨_, h1⟩
      · rcases key q 19 hq hb.2 with h2 | ⟨rfl, _⟩
        · exact h q hq ⟨opposite_sub_pn hq h1, opposite_sub_pn hq h2⟩
        · rw [show opposite S q 19 = forget S q 18 from rfl] at h1
          exact forget_pn hq h1
      · omega
    · rcases key q 18 hq hb.1 with h1 | ⟨_, h1⟩
      · rcases key q 19 hq hb.2 with h2 | ⟨_, h2⟩
        · exact h q hq ⟨opposite_sub_pn hq h1, opposite_sub_pn hq h2⟩
        · omega
      · omega
theorem noB_opposite {S : St} (h : NoB S) (p : Nat) (s : Int) : NoB (opposite S p s) := fun q hq hb => h q hq ⟨opposite_sub_pn hq hb.1, opposite_sub_pn hq hb.2⟩
theorem noB_kill {S : St} (h : NoB S) (th p s v : Int) : NoB (killS S th p s v).2 := by
  unfold killS
  split
  · exact h
  rename_i c1
  split
  · exact h
  dsimp only
  split
  · exact h
  rename_i c3
  have hp : isPr p = true := by
    cases hq : isPr p
    · exact absurd (.inr hq) c1
    · rfl
  obtain ⟨p0, p1⟩ := isPr_iff.1 hp
  obtain ⟨to, hto⟩ : ∃ to, (if th = -1 then choose S (threads S p) s else th) = to := ⟨_, rfl⟩
  rw [hto]
  have hmem : 0 ≤ to → to.toNat ∈ threads S p := by
    intro h0
    by_cases e : th = -1
    · rw [if_pos e] at hto
      rcases choose_in S (threads S p) s with h | ⟨i, hi, h⟩
      · omega
      · rw [← hto, h]; simpa using hi
    · rw [if_neg e] at hto
      subst hto
      exact Decidable.byContradiction fun hn => c3 (.inl ⟨e, hn⟩)
  split
  · rename_i hw
    obtain ⟨hlt, x, hx, _⟩ := mem_threads.1 (hmem hw.1)
    have hxo : (opposite S p.toNat s).tk to.toNat = some x := by rw [opposite_tk]; exact hx
    refine (noB_opposite h p.toNat s).like (inP_up hxo (x' := { x with waits := false }) rfl ?_) fun i _ x hx => hx
    dsimp only
    rw [hxo]
    rfl
  split
  · exact h
  split
  · refine noB_push h (by omega) s v _ ?_
    unfold slotOf
    by_cases h0 : 0 ≤ to
    · rw [if_pos h0]
      obtain ⟨hlt, x, hx, hxp⟩ := mem_threads.1 (hmem h0)
      exact .inr ⟨hlt, inP_iff.2 ⟨x, hx, by omega⟩⟩
    · rw [if_neg h0]
      exact .inl rfl
  · exact noB_opposite h _ s
theorem noB_call {S : St} (h : NoB S) (k th p s n : Int) (b : Nat) (v : Int) (hk : 2 ≤ k) : NoB (callS S k th p s n b v) := by
  unfold callS
  rw [if_neg (by omega), if_neg (by omega)]
  split
  · exact noB_action h p s n
  split
  · exact noB_mask h th n b
  split
  · exact noB_kill h th p s v
  split
  · exact noB_wait h th b
  split
  · exact noB_next h th
  split
  · exact noB_cancel h th
  · exact h
end Go.Proofs.Ytbpihfphoniclaa
