/- What always holds of a table holds behind each call. -/
import Derived.Test.YtbpihfphoniclaaS0
namespace Go.Proofs.Ytbpihfphoniclaa
/-- Only the tasks have turned, and those by what is asked of them. -/
theorem Inv.retask {S S' : St} {n : Nat} (h : Inv S n) (hls : S'.ls = S.ls) (hac : S'.ac = S.ac)
    (ht : ∀ i, i < 256 → ∀ x, S'.tk i = some x → (0 ≤ x.proc ∧ x.proc < 64 ∧ x.mask < 72057594037927936 ∧ x.mask.testBit 8 = false ∧ x.mask.testBit 18 = false ∧ x.wants < 72057594037927936) ∧ (S.ls i = [] ∨ ∃ y, S.tk i = some y ∧ y.proc = x.proc))
    (hd : ∀ i, i < 256 → S'.tk i = none → S.ls i = []) : Inv S' n := by
  refine ⟨by rw [hls]; exact h.sig, by rw [hls]; exact h.len, fun i hi x hx => (ht i hi x hx).1, by rw [hls]; exact hd, ?_, ?_⟩
  · intro i hi x hx y hy
    rw [hls] at hy
    rw [ignored_ac hac]
    rcases (ht i hi x hx).2 with he | ⟨z, hz, hzp⟩
    · rw [he] at hy; cases hy
    · rw [← hzp]
      exact h.ignT i hi z hz y hy
  · intro p hp y hy
    rw [hls] at hy
    rw [ignored_ac hac]
    exact h.ignP p hp y hy
/-- A task is written anew, of the same process. -/
theorem Inv.upTask {S : St} {n : Nat} (h : Inv S n) {i : Nat} {x : Tk} (hx : S.tk i = some x) (x' : Tk) (g : Nat → Int) (hp : x'.proc = x.proc) (hi : i < 256)
    (hm : x'.mask < 72057594037927936 ∧ x'.mask.testBit 8 = false ∧ x'.mask.testBit 18 = false ∧ x'.wants < 72057594037927936) : Inv { S with tk := upd S.tk i (some x'), got := g } n := by
  refine h.retask rfl rfl (fun j hj y hy => ?_) (fun j hj hn => ?_)
  · have hy' : upd S.tk i (some x') j = some y := hy
    by_cases e : j = i
    · subst e
      rw [upd_same] at hy'
      cases hy'
      obtain ⟨a, b, _⟩ := h.task j hj x hx
      exact ⟨⟨by rw [hp]; exact a, by rw [hp]; exact b, hm⟩, .inr ⟨x, hx, hp.symm⟩⟩
    · rw [upd_other _ _ e] at hy'
      exact ⟨h.task j hj y hy', .inr ⟨y, hy', rfl⟩⟩
  · have hn' : upd S.tk i (some x') j = none := hn
    by_cases e : j = i
    · subst e; rw [upd_same] at hn'; cases hn'
    · rw [upd_other _ _ e] at hn'
      exact h.dead j hj hn'
/-- Lists have become shorter. -/
theorem Inv.shrink {S S' : St} {n : Nat} (h : Inv S n) (ht : S'.tk = S.tk) (hac : S'.ac = S.ac) (hl : ∀ i, i < 320 → (∀ x ∈ S'.ls i, x ∈ S.ls i) ∧ (S'.ls i).length ≤ (S.ls i).length) : Inv S' n := by
  refine ⟨fun i hi x hx => h.sig i hi x ((hl i hi).1 x hx), fun i hi => Nat.le_trans (hl i hi).2 (h.len i hi), by rw [ht]; exact h.task, ?_, ?_, ?_⟩
  · intro i hi hn
    rw [ht] at hn
    have := (hl i (by omega)).2
    rw [h.dead i hi hn] at this
    exact List.eq_nil_of_length_eq_zero (by simpa using this)
  · intro i hi x hx y hy
    rw [ht] at hx
    rw [ignored_ac hac]
    exact h.ignT i hi x hx y ((hl i (by omega)).1 y hy)
  · intro p hp y hy
    rw [ignored_ac hac]
    exact h.ignP p hp y ((hl _ (by omega)).1 y hy)
theorem cut_sub {l : List Pd} {s : Int} {x : Pd} (h : x ∈ cut l s) : x ∈ l := List.mem_of_mem_eraseP h
theorem cut_len (l : List Pd) (s : Int) : (cut l s).length ≤ l.length := (List.eraseP_sublist).length_le
theorem Inv.takeS {S : St} {n : Nat} (h : Inv S n) (th p : Nat) (s : Int) : Inv (takeS S th p s).2 n := by
  refine h.shrink rfl rfl fun i hi => ?_
  show (∀ x ∈ upd S.ls (srcOf S th p s) (cut (S.ls (srcOf S th p s)) s) i, x ∈ S.ls i) ∧ (upd S.ls (srcOf S th p s) (cut (S.ls (srcOf S th p s)) s) i).length ≤ (S.ls i).length
  by_cases e : i = srcOf S th p s
  · subst e
    rw [upd_same]
    exact ⟨fun x hx => cut_sub hx, cut_len _ _⟩
  · rw [upd_other _ _ e]
    exact ⟨fun x hx => hx, Nat.le_refl _⟩
theorem Inv.regot {S : St} {n : Nat} (h : Inv S n) (g : Nat → Int) : Inv { S with got := g } n := ⟨h.sig, h.len, h.task, h.dead, h.ignT, h.ignP⟩
theorem Inv.startS {S : St} {n : Nat} (h : Inv S n) (th p : Int) : Inv (startS S th p).2 n := by
  unfold Ytbpihfphoniclaa.startS
  split
  · exact h
  · rename_i c1
    split
    · exact h
    · rename_i c2
      simp only [Bool.or_eq_true, Bool.not_eq_true', not_or, Bool.not_eq_false] at c1
      obtain ⟨p0, p1⟩ := isPr_iff.1 c1.2
      obtain ⟨t0, t1⟩ := isTh_iff.1 c1.1
      have hnone : S.tk th.toNat = none := by
        cases hq : S.tk th.toNat
        · rfl
        · rw [hq] at c2; simp at c2
      refine h.retask rfl rfl (fun j hj y hy => ?_) (fun j hj hn => ?_)
      · have hy' : upd S.tk th.toNat (some ⟨p, 0, false, 0⟩) j = some y := hy
        by_cases e : j = th.toNat
        · subst e
          rw [upd_same] at hy'
          cases hy'
          exact ⟨⟨p0, p1, by dsimp only; decide, by dsimp only; decide, by dsimp only; decide, by dsimp only; decide⟩, .inl (h.dead _ hj hnone)⟩
        · rw [upd_other _ _ e] at hy'
          exact ⟨h.task j hj y hy', .inr ⟨y, hy', rfl⟩⟩
      · have hn' : upd S.tk th.toNat (some ⟨p, 0, false, 0⟩) j = none := hn
        by_cases e : j = th.toNat
        · subst e; rw [upd_same] at hn'; cases hn'
        · rw [upd_other _ _ e] at hn'
          exact h.dead j hj hn'
theorem Inv.gone {S : St} {n : Nat} (h : Inv S n) (i : Nat) (g : Nat → Int) : Inv { S with tk := upd S.tk i none, ls := upd S.ls i [], got := g } n ∨ 256 ≤ i := by
  rcases Nat.lt_or_ge i 256 with hi | hi
  · left
    refine ⟨?_, ?_, ?_, ?_, ?_, ?_⟩
    · intro j hj x hx
      have hx' : x ∈ upd S.ls i [] j := hx
      by_cases e : j = i
      · subst e; rw [upd_same] at hx'; cases hx'
      · rw [upd_other _ _ e] at hx'; exact h.sig j hj x hx'
    · intro j hj
      show (upd S.ls i [] j).length ≤ n
      by_cases e : j = i
      · subst e; rw [upd_same]; simp
      · rw [upd_other _ _ e]; exact h.len j hj
    · intro j hj x hx
      have hx' : upd S.tk i none j = some x := hx
      by_cases e : j = i
      · subst e; rw [upd_same] at hx'; cases hx'
      · rw [upd_other _ _ e] at hx'; exact h.task j hj x hx'
    · intro j hj hn
      show upd S.ls i [] j = []
      by_cases e : j = i
      · subst e; rw [upd_same]
      · rw [upd_other _ _ e]
        have hn' : upd S.tk i none j = none := hn
        rw [upd_other _ _ e] at hn'
        exact h.dead j hj hn'
    · intro j hj x hx y hy
      have hx' : upd S.tk i none j = some x := hx
      have hy' : y ∈ upd S.ls i [] j := hy
      by_cases e : j = i
      · subst e; rw [upd_same] at hx'; cases hx'
      · rw [upd_other _ _ e] at hx' hy'
        exact h.ignT j hj x hx' y hy'
    · intro p hp y hy
      have hy' : y ∈ upd S.ls i [] (256 + p) := hy
      rw [upd_other _ _ (by omega)] at hy'
      exact h.ignP p hp y hy'
  · exact .inr hi
theorem Inv.endS {S : St} {n : Nat} (h : Inv S n) (th : Int) : Inv (endS S th).2 n := by
  unfold Ytbpihfphoniclaa.endS
  cases hth : isTh th with
  | false => exact h
  | true =>
    obtain ⟨t0, t1⟩ := isTh_iff.1 hth
    simp only [Bool.not_true, Bool.false_eq_true, if_false]
    cases hx : S.tk th.toNat with
    | none => exact h
    | some x =>
      obtain ⟨p0, p1, _⟩ := h.task th.toNat (by omega) x hx
      dsimp only
      have h1 := (h.gone th.toNat (upd S.got th.toNat 0)).resolve_right (by omega)
      split
      · rename_i hem
        have hnil := List.isEmpty_iff.1 hem
        obtain ⟨S1, hS1⟩ : ∃ S1 : St, S1 = { S with tk := upd S.tk th.toNat none, ls := upd S.ls th.toNat [], got := upd S.got th.toNat 0 } := ⟨_, rfl⟩
        rw [← hS1] at h1 hnil
        show Inv { tk := upd S.tk th.toNat none, ac := upd S.ac x.proc.toNat (fun _ => 0), ls := upd (upd S.ls th.toNat []) (256 + x.proc.toNat) [], got := upd S.got th.toNat 0 } n
        rw [show upd S.tk th.toNat none = S1.tk by rw [hS1], show S.ac = S1.ac by rw [hS1], show upd S.ls th.toNat [] = S1.ls by rw [hS1], show upd S.got th.toNat 0 = S1.got by rw [hS1]]
        have hno : ∀ i, i < 256 → ∀ y, S1.tk i = some y → y.proc.toNat ≠ x.proc.toNat := by
          intro i hi y hy he
          obtain ⟨q0, q1, _⟩ := h1.task i hi y hy
          have : i ∈ threads S1 x.proc := mem_threads.2 ⟨hi, y, hy, by omega⟩
          rw [hnil] at this
          cases this
        refine ⟨?_, ?_, h1.task, ?_, ?_, ?_⟩
        · intro j hj y hy
          have hy' : y ∈ upd S1.ls (256 + x.proc.toNat) [] j := hy
          by_cases e : j = 256 + x.proc.toNat
          · subst e; rw [upd_same] at hy'; cases hy'
          · rw [upd_other _ _ e] at hy'; exact h1.sig j hj y hy'
        · intro j hj
          show (upd S1.ls (256 + x.proc.toNat) [] j).length ≤ n
          by_cases e : j = 256 + x.proc.toNat
          · subst e; rw [upd_same]; simp
          · rw [upd_other _ _ e]; exact h1.len j hj
        · intro j hj hn
          show upd S1.ls (256 + x.proc.toNat) [] j = []
          rw [upd_other _ _ (by omega)]
          exact h1.dead j hj hn
        · intro j hj y hy z hz
          have hz' : z ∈ upd S1.ls (256 + x.proc.toNat) [] j := hz
          rw [upd_other _ _ (by omega)] at hz'
          have := h1.ignT j hj y hy z hz'
          unfold ignored at this ⊢
          dsimp only
          rw [upd_other _ _ (hno j hj y hy)]
          exact this
        · intro p hp z hz
          have hz' : z ∈ upd S1.ls (256 + x.proc.toNat) [] (256 + p) := hz
          by_cases e : p = x.proc.toNat
          · subst e; rw [upd_same] at hz'; cases hz'
          · rw [upd_other _ _ (by omega)] at hz'
            have := h1.ignP p hp z hz'
            unfold ignored at this ⊢
            dsimp only
            rw [upd_other _ _ e]
            exact this
      · exact h1
theorem Inv.actionS {S : St} {n : Nat} (h : Inv S n) (p s a : Int) : Inv (actionS S p s a).2 n := by
  unfold Ytbpihfphoniclaa.actionS
  cases hp : isPr p with
  | false => exact h
  | true =>
    obtain ⟨p0, p1⟩ := isPr_iff.1 hp
    simp only [Bool.not_true, Bool.false_eq_true, if_false]
    split
    · exact h
    · rename_i c1
      split
      · exact h
      · dsimp only
        have hno : ∀ (q : Nat) (y : Int), 1 ≤ y → (q ≠ p.toNat ∨ y ≠ s) → ignored { S with ac := upd S.ac p.toNat (upd (S.ac p.toNat) s.toNat a) } q y = ignored S q y := by
          intro q y hy hor
          unfold ignored
          dsimp only
          by_cases e : q = p.toNat
          · subst e
            rw [upd_same, upd_other _ _ (by
              rcases hor with h | h
              · exact absurd rfl h
              · omega)]
          · rw [upd_other _ _ e]
        cases hig : ignored { S with ac := upd S.ac p.toNat (upd (S.ac p.toNat) s.toNat a) } p.toNat s with
        | false =>
          simp only [Bool.false_eq_true, if_false]
          refine ⟨h.sig, h.len, h.task, h.dead, ?_, ?_⟩
          · intro i hi x hx y hy
            have hy1 := (h.sig i (by omega) y hy).1
            by_cases e : x.proc.toNat = p.toNat ∧ y.1 = s
            · rw [e.1, e.2]; exact hig
            · rw [hno _ _ hy1 (by
                by_cases e1 : x.proc.toNat = p.toNat
                · exact .inr fun e2 => e ⟨e1, e2⟩
                · exact .inl e1)]
              exact h.ignT i hi x hx y hy
          · intro q hq y hy
            have hy1 := (h.sig _ (by omega) y hy).1
            by_cases e : q = p.toNat ∧ y.1 = s
            · rw [e.1, e.2]; exact hig
            · rw [hno _ _ hy1 (by
                by_cases e1 : q = p.toNat
                · exact .inr fun e2 => e ⟨e1, e2⟩
                · exact .inl e1)]
              exact h.ignP q hq y hy
        | true =>
          simp only [if_true]
          obtain ⟨S1, hS1⟩ : ∃ S1 : St, S1 = { S with ac := upd S.ac p.toNat (upd (S.ac p.toNat) s.toNat a) } := ⟨_, rfl⟩
          rw [← hS1] at hno ⊢
          have hls : S1.ls = S.ls := by rw [hS1]
          have htk : S1.tk = S.tk := by rw [hS1]
          refine ⟨?_, ?_, ?_, ?_, ?_, ?_⟩
          · intro i hi x hx
            have := forget_ls_sub hx
            rw [hls] at this
            exact h.sig i hi x this
          · intro i hi
            have := forget_len S1 p.toNat s i
            rw [hls] at this
            exact Nat.le_trans this (h.len i hi)
          · intro i hi x hx
            rw [forget_tk, htk] at hx
            exact h.task i hi x hx
          · intro i hi hn
            rw [forget_tk, htk] at hn
            have := forget_len S1 p.toNat s i
            rw [hls, h.dead i hi hn] at this
            exact List.eq_nil_of_length_eq_zero (by simpa using this)
          · intro i hi x hx y hy
            rw [forget_tk] at hx
            have hx0 := hx
            rw [htk] at hx
            rw [ignored_ac (forget_ac S1 p.toNat s)]
            have hym := forget_ls_sub hy
            rw [hls] at hym
            have hy1 := (h.sig i (by omega) y hym).1
            obtain ⟨q0, q1, _⟩ := h.task i hi x hx
            by_cases e1 : x.proc.toNat = p.toNat
            · have hne : y.1 ≠ s := by
                simp only [Ytbpihfphoniclaa.forget] at hy
                rw [if_pos (.inr ⟨hi, inP_iff.2 ⟨x, hx0, by omega⟩⟩)] at hy
                exact without_ne hy
              rw [hno _ _ hy1 (.inr hne)]
              exact h.ignT i hi x hx y hym
            · rw [hno _ _ hy1 (.inl e1)]
              exact h.ignT i hi x hx y hym
          · intro q hq y hy
            rw [ignored_ac (forget_ac S1 p.toNat s)]
            have hym := forget_ls_sub hy
            rw [hls] at hym
            have hy1 := (h.sig _ (by omega) y hym).1
            by_cases e1 : q = p.toNat
            · subst e1
              have hne : y.1 ≠ s := by
                simp only [Ytbpihfphoniclaa.forget] at hy
                rw [if_pos (.inl True.intro)] at hy
                exact without_ne hy
              rw [hno _ _ hy1 (.inr hne)]
              exact h.ignP _ hq y hym
            · rw [hno _ _ hy1 (.inl e1)]
              exact h.ignP q hq y hym
theorem newMask_ok (old : Nat) (how : Int) (b : Nat) (ho : old < 72057594037927936) : newMask old how b < 72057594037927936 ∧ (newMask old how b).testBit 8 = false ∧ (newMask old how b).testBit 18 = false := by
  unfold newMask
  dsimp only
  have hs : b &&& allM < 72057594037927936 := Nat.lt_of_le_of_lt Nat.and_le_right (by decide)
  have hm : (if how = 0 then old ||| (b &&& allM) else if how = 1 then old &&& (18446744073709551615 - (b &&& allM)) else (b &&& allM)) < 72057594037927936 := by
    split
    · exact Nat.or_lt_two_pow (n := 56) ho hs
    · split
      · exact Nat.lt_of_le_of_lt Nat.and_le_left ho
      · exact hs
  generalize (if how = 0 then old ||| (b &&& allM) else if how = 1 then old &&& (18446744073709551615 - (b &&& allM)) else (b &&& allM)) = m at hm
  refine ⟨Nat.lt_of_le_of_lt Nat.and_le_left hm, ?_, ?_⟩
  · rw [Nat.testBit_and, show (18446744073709551615 - nevM).testBit 8 = false by decide, Bool.and_false]
  · rw [Nat.testBit_and, show (18446744073709551615 - nevM).testBit 18 = false by decide, Bool.and_false]
theorem Inv.maskS {S : St} {n : Nat} (h : Inv S n) (th how : Int) (b : Nat) : Inv (maskS S th how b).2 n := by
  unfold Ytbpihfphoniclaa.maskS
  cases hth : isTh th with
  | false => exact h
  | true =>
    obtain ⟨t0, t1⟩ := isTh_iff.1 hth
    simp only [Bool.not_true, Bool.false_eq_true, if_false]
    split
    · exact h
    · cases hx : S.tk th.toNat with
      | none => exact h
      | some x =>
        obtain ⟨_, _, hm, _, _, hw⟩ := h.task th.toNat (by omega) x hx
        obtain ⟨m1, m2, m3⟩ := newMask_ok x.mask how b hm
        exact h.upTask hx { x with mask := newMask x.mask how b } S.got rfl (by omega) ⟨m1, m2, m3, hw⟩
theorem Inv.cancelS {S : St} {n : Nat} (h : Inv S n) (th : Int) : Inv (cancelS S th).2 n := by
  unfold Ytbpihfphoniclaa.cancelS
  cases hth : isTh th with
  | false => exact h
  | true =>
    obtain ⟨t0, t1⟩ := isTh_iff.1 hth
    simp only [Bool.not_true, Bool.false_eq_true, if_false]
    cases hx : S.tk th.toNat with
    | none => exact h
    | some x =>
      obtain ⟨_, _, hm, m2, m3, hw⟩ := h.task th.toNat (by omega) x hx
      dsimp only
      split
      · exact h.upTask hx { x with waits := false } S.got rfl (by omega) ⟨hm, m2, m3, hw⟩
      · exact h
theorem Inv.nextS {S : St} {n : Nat} (h : Inv S n) (th : Int) : Inv (nextS S th).2 n := by
  unfold Ytbpihfphoniclaa.nextS
  cases isTh th with
  | false => exact h
  | true =>
    simp only [Bool.not_true, Bool.false_eq_true, if_false]
    cases S.tk th.toNat with
    | none => exact h
    | some x =>
      dsimp only
      split
      · exact h
      · split
        · exact h
        · exact h.takeS _ _ _
theorem Inv.waitS {S : St} {n : Nat} (h : Inv S n) (th : Int) (b : Nat) : Inv (waitS S th b).2 n := by
  unfold Ytbpihfphoniclaa.waitS
  cases hth : isTh th with
  | false => exact h
  | true =>
    obtain ⟨t0, t1⟩ := isTh_iff.1 hth
    simp only [Bool.not_true, Bool.false_eq_true, if_false]
    cases hx : S.tk th.toNat with
    | none => exact h
    | some x =>
      obtain ⟨_, _, hm, m2, m3, hw⟩ := h.task th.toNat (by omega) x hx
      dsimp only
      split
      · exact h
      · split
        · exact h.upTask hx { x with waits := true, wants := b &&& allM } _ rfl (by omega) ⟨hm, m2, m3, Nat.lt_of_le_of_lt Nat.and_le_right (by decide)⟩
        · exact (h.takeS _ _ _).regot _
theorem Inv.push {S : St} {n : Nat} (h : Inv S n) (slot : Nat) (s v : Int) (h1 : 1 ≤ s) (h2 : s ≤ 56) (hs : slot < 256 → ∃ x, S.tk slot = some x ∧ ignored S x.proc.toNat s = false) (hs2 : ∀ p, slot = 256 + p → ignored S p s = false) :
    Inv { S with ls := upd S.ls slot (S.ls slot ++ [(s, v)]) } (n + 1) := by
  refine ⟨?_, ?_, h.task, ?_, ?_, ?_⟩
  · intro i hi x hx
    have hx' : x ∈ upd S.ls slot (S.ls slot ++ [(s, v)]) i := hx
    by_cases e : i = slot
    · subst e
      rw [upd_same] at hx'
      rcases List.mem_append.1 hx' with hm | hm
      · exact h.sig i hi x hm
      · obtain rfl : x = (s, v) := by simpa using hm
        exact ⟨h1, h2⟩
    · rw [upd_other _ _ e] at hx'; exact h.sig i hi x hx'
  · intro i hi
    show (upd S.ls slot (S.ls slot ++ [(s, v)]) i).length ≤ n + 1
    by_cases e : i = slot
    · subst e; rw [upd_same, List.length_append]; have := h.len i hi; simp; omega
    · rw [upd_other _ _ e]; have := h.len i hi; omega
  · intro i hi hn
    show upd S.ls slot (S.ls slot ++ [(s, v)]) i = []
    by_cases e : i = slot
    · subst e
      obtain ⟨x, hx, _⟩ := hs hi
      rw [show S.tk i = none from hn] at hx
      cases hx
    · rw [upd_other _ _ e]; exact h.dead i hi hn
  · intro i hi x hx y hy
    have hy' : y ∈ upd S.ls slot (S.ls slot ++ [(s, v)]) i := hy
    show ignored S x.proc.toNat y.1 = false
    by_cases e : i = slot
    · subst e
      rw [upd_same] at hy'
      rcases List.mem_append.1 hy' with hm | hm
      · exact h.ignT i hi x hx y hm
      · obtain rfl : y = (s, v) := by simpa using hm
        obtain ⟨x2, hx2, hg⟩ := hs hi
        rw [show S.tk i = some x from hx] at hx2
        cases hx2
        exact hg
    · rw [upd_other _ _ e] at hy'; exact h.ignT i hi x hx y hy'
  · intro p hp y hy
    have hy' : y ∈ upd S.ls slot (S.ls slot ++ [(s, v)]) (256 + p) := hy
    show ignored S p y.1 = false
    by_cases e : 256 + p = slot
    · subst e
      rw [upd_same] at hy'
      rcases List.mem_append.1 hy' with hm | hm
      · exact h.ignP p hp y hm
      · obtain rfl : y = (s, v) := by simpa using hm
        exact hs2 p rfl
    · rw [upd_other _ _ e] at hy'; exact h.ignP p hp y hy'
theorem choose_in (S : St) (l : List Nat) (s : Int) : choose S l s = -1 ∨ ∃ i ∈ l, choose S l s = (i : Int) := by
  unfold choose
  split
  · rename_i i h
    exact .inr ⟨i, List.mem_of_find?_eq_some h, rfl⟩
  · split
    · rename_i i h
      exact .inr ⟨i, List.mem_of_find?_eq_some h, rfl⟩
    · exact .inl rfl
theorem Inv.killS {S : St} {n : Nat} (h : Inv S n) (th p s v : Int) : Inv (killS S th p s v).2 (n + 1) := by
  have hn1 : Inv S (n + 1) := h.mono (by omega)
  unfold Ytbpihfphoniclaa.killS
  split
  · exact hn1
  · rename_i c1
    split
    · exact hn1
    · rename_i c2
      dsimp only
      split
      · exact hn1
      · rename_i c3
        have hp : isPr p = true := by
          cases hq : isPr p
          · exact absurd (.inr hq) c1
          · rfl
        obtain ⟨p0, p1⟩ := isPr_iff.1 hp
        obtain ⟨to, hto⟩ : ∃ to, (if th = -1 then choose S (threads S p) s else th) = to := ⟨_, rfl⟩
        rw [hto]
        have hmem : 0 ≤ to → to.toNat ∈ threads S p := by
          intro h0
          by_cases e : th = -1
          · rw [if_pos e] at hto
            rcases choose_in S (threads S p) s with h | ⟨i, hi, h⟩
            · omega
            · rw [← hto, h]; simpa using hi
          · rw [if_neg e] at hto
            subst hto
            exact Decidable.byContradiction fun hn => c3 (.inl ⟨e, hn⟩)
        have hO := h.opposite p.toNat s
        split
        · rename_i hw
          obtain ⟨hlt, x, hx, _⟩ := mem_threads.1 (hmem hw.1)
          obtain ⟨_, _, hm, m2, m3, hwn⟩ := h.task to.toNat hlt x hx
          have hxo : (Ytbpihfphoniclaa.opposite S p.toNat s).tk to.toNat = some x := by rw [opposite_tk]; exact hx
          rw [hxo]
          exact (hO.upTask hxo { x with waits := false } _ rfl hlt ⟨hm, m2, m3, hwn⟩).mono (by omega)
        · split
          · exact hn1
          · split
            · rename_i hg
              have hgo : ignored (Ytbpihfphoniclaa.opposite S p.toNat s) p.toNat s = false := by rw [ignored_ac (opposite_ac S p.toNat s)]; exact hg.1
              refine hO.push (slotOf to p.toNat) s v (by omega) (by omega) (fun hlt => ?_) (fun q hq => ?_)
              · by_cases h0 : 0 ≤ to
                · obtain ⟨_, x, hx, hxp⟩ := mem_threads.1 (hmem h0)
                  refine ⟨x, ?_, by rw [hxp]; exact hgo⟩
                  unfold slotOf
                  rw [if_pos h0, opposite_tk]
                  exact hx
                · unfold slotOf at hlt
                  rw [if_neg h0] at hlt
                  omega
              · by_cases h0 : 0 ≤ to
                · have := (mem_threads.1 (hmem h0)).1
                  unfold slotOf at hq
                  rw [if_pos h0] at hq
                  omega
                · unfold slotOf at hq
                  rw [if_neg h0] at hq
                  obtain rfl : q = p.toNat := by omega
                  exact hgo
            · exact hO.mono (by omega)
end Go.Proofs.Ytbpihfphoniclaa
