import Derived.Test.YtbpihfphoniclaaC7
import Derived.Test.YtbpihfphoniclaaC8
namespace Go.Proofs.Ytbpihfphoniclaa
open Go.RowKit
set_option linter.unusedVariables false
theorem choose_mem (S : St) (l : List Nat) (s : Int) : choose S l s = -1 ∨ ∃ i ∈ l, choose S l s = (i : Int) := by
  unfold choose
  split
  · rename_i i h
    exact .inr ⟨i, List.mem_of_find?_eq_some h, rfl⟩
  · split
    · rename_i i h
      exact .inr ⟨i, List.mem_of_find?_eq_some h, rfl⟩
    · exact .inl rfl
theorem kill_calls {base t : Nat} {L : Lay} {S : St} (th p s v : Int) (w : World) (h : RepL w base t L S) (hin : Inv S 1000) :
    Calls Try.prog 14 #[.pointer (some ⟨t, 0, none⟩), .int .i64 th, .int .i64 p, .int .i64 s, .int .i64 v] w fun e w' => KillPost base t (killS S th p s v) w e w' := by
  unfold killS
  by_cases c1 : (th ≠ -1 ∧ isTh th = false) ∨ isPr p = false
  · rw [if_pos c1]
    exact kill_range th p s v w h c1
  rw [if_neg c1]
  have hp : isPr p = true := by
    cases hq : isPr p
    · exact absurd (.inr hq) c1
    · rfl
  have hth : th = -1 ∨ isTh th = true := by
    by_cases e : th = -1
    · exact .inl e
    · cases hq : isTh th
      · exact absurd (.inl ⟨e, hq⟩) c1
      · exact .inr rfl
  by_cases c2 : s < 1 ∨ 56 < s
  · rw [if_pos c2]
    exact kill_invalid th p s v w h hth hp c2
  rw [if_neg c2]
  have hs1 : ¬ s < 1 := fun h => c2 (.inl h)
  have hs2 : ¬ 56 < s := fun h => c2 (.inr h)
  dsimp only
  by_cases c3 : (th ≠ -1 ∧ th.toNat ∉ threads S p) ∨ threads S p = []
  · rw [if_pos c3]
    exact kill_noproc th p s v w h hth hp hs1 hs2 c3
  rw [if_neg c3]
  have hl : threads S p ≠ [] := fun h => c3 (.inr h)
  obtain ⟨to, hto⟩ : ∃ to, (if th = -1 then choose S (threads S p) s else th) = to := ⟨_, rfl⟩
  rw [hto]
  have hgo : Goes S th p s to := by
    by_cases e : th = -1
    · rw [if_pos e] at hto
      exact .inl ⟨e, hto⟩
    · rw [if_neg e] at hto
      refine .inr ⟨hto, hth.resolve_left e, ?_⟩
      exact Decidable.byContradiction fun hn => c3 (.inl ⟨e, hn⟩)
  by_cases h0 : 0 ≤ to
  · have hmem : to.toNat ∈ threads S p := by
      rcases hgo with ⟨_, hc⟩ | ⟨rfl, _, hm⟩
      · rcases choose_mem S (threads S p) s with h | ⟨i, hi, h⟩
        · omega
        · rw [← hc, h]; simpa using hi
      · exact hm
    obtain ⟨hlt, x, hx, _⟩ := mem_threads.1 hmem
    have h256 : to < 256 := by omega
    by_cases hwk : 0 ≤ to ∧ waitsFor S s to.toNat = true
    · rw [if_pos hwk]
      have hw2 := hwk.2
      unfold waitsFor at hw2
      rw [hx] at hw2
      simp only [Bool.and_eq_true] at hw2
      have := kill_wake th p s v to w h hin hp hs1 hs2 hl hgo h0 h256 x hx hw2.1 hw2.2
      have e1 : ((opposite S p.toNat s).tk to.toNat).map (fun x => ({ x with waits := false } : Tk)) = some { x with waits := false } := by rw [opposite_tk, hx]; rfl
      rw [e1, opposite_tk, opposite_got]
      exact this
    · rw [if_neg hwk]
      have hnw : x.waits = false ∨ hasB x.wants s = false := by
        cases hxw : x.waits
        · exact .inl rfl
        · cases hxs : hasB x.wants s
          · exact .inr rfl
          · exact absurd ⟨h0, by unfold waitsFor; rw [hx]; simp [hxw, hxs]⟩ hwk
      rw [show slotOf to p.toNat = to.toNat by unfold slotOf; rw [if_pos h0]]
      by_cases c4 : ignored S p.toNat s = false ∧ 41 ≤ s ∧ 64 ≤ queued (S.ls to.toNat)
      · rw [if_pos c4]
        rcases hgo with ⟨rfl, hc⟩ | ⟨rfl, ht, hm⟩
        · exact kill_any_again p s v to w h hin hp hs1 hs2 hl hc h0 h256 x hx hnw c4.1 c4.2.1 c4.2.2
        · exact kill_thread_again th p s v w h hin hp hs1 hs2 hl ht hm h0 h256 x hx hnw c4.1 c4.2.1 c4.2.2
      · rw [if_neg c4]
        cases hig : ignored S p.toNat s with
        | true =>
          rw [if_neg (by simp)]
          rcases hgo with ⟨rfl, hc⟩ | ⟨rfl, ht, hm⟩
          · exact kill_any_ign p s v to w h hin hp hs1 hs2 hl hc h0 h256 x hx hnw hig
          · exact kill_thread_ign th p s v w h hin hp hs1 hs2 hl ht hm h0 h256 x hx hnw hig
        | false =>
          by_cases h41 : 41 ≤ s
          · have hnf : ¬ 64 ≤ queued (S.ls to.toNat) := fun hq => c4 ⟨hig, h41, hq⟩
            rw [if_pos ⟨rfl, .inl h41⟩]
            rcases hgo with ⟨rfl, hc⟩ | ⟨rfl, ht, hm⟩
            · exact kill_any_room p s v to w h hin hp hs1 hs2 hl hc h0 h256 x hx hnw hig h41 hnf
            · exact kill_thread_room th p s v w h hin hp hs1 hs2 hl ht hm h0 h256 x hx hnw hig h41 hnf
          · cases hpd : pends ((opposite S p.toNat s).ls to.toNat) s with
            | true =>
              rw [if_neg (by simp [h41])]
              rcases hgo with ⟨rfl, hc⟩ | ⟨rfl, ht, hm⟩
              · exact kill_any_had p s v to w h hin hp hs1 hs2 hl hc h0 h256 x hx hnw hig h41 hpd
              · exact kill_thread_had th p s v w h hin hp hs1 hs2 hl ht hm h0 h256 x hx hnw hig h41 hpd
            | false =>
              rw [if_pos ⟨rfl, .inr rfl⟩]
              rcases hgo with ⟨rfl, hc⟩ | ⟨rfl, ht, hm⟩
              · exact kill_any_new p s v to w h hin hp hs1 hs2 hl hc h0 h256 x hx hnw hig h41 hpd
              · exact kill_thread_new th p s v w h hin hp hs1 hs2 hl ht hm h0 h256 x hx hnw hig h41 hpd
  · have hwk : ¬ (0 ≤ to ∧ waitsFor S s to.toNat = true) := fun h => h0 h.1
    rw [if_neg hwk]
    rw [show slotOf to p.toNat = 256 + p.toNat by unfold slotOf; rw [if_neg h0]]
    obtain ⟨rfl, hc⟩ : th = -1 ∧ choose S (threads S p) s = -1 := by
      rcases hgo with ⟨e, hc⟩ | ⟨rfl, ht, _⟩
      · refine ⟨e, ?_⟩
        rcases choose_mem S (threads S p) s with h | ⟨i, _, h⟩
        · exact h
        · omega
      · have := (isTh_iff.1 ht).1; omega
    by_cases c4 : ignored S p.toNat s = false ∧ 41 ≤ s ∧ 64 ≤ queued (S.ls (256 + p.toNat))
    · rw [if_pos c4]
      exact kill_proc_again p s v w h hin hp hs1 hs2 hl hc c4.1 c4.2.1 c4.2.2
    · rw [if_neg c4]
      cases hig : ignored S p.toNat s with
      | true =>
        rw [if_neg (by simp)]
        exact kill_proc_ign p s v w h hin hp hs1 hs2 hl hc hig
      | false =>
        by_cases h41 : 41 ≤ s
        · have hnf : ¬ 64 ≤ queued (S.ls (256 + p.toNat)) := fun hq => c4 ⟨hig, h41, hq⟩
          rw [if_pos ⟨rfl, .inl h41⟩]
          exact kill_proc_room p s v w h hin hp hs1 hs2 hl hc hig h41 hnf
        · cases hpd : pends ((opposite S p.toNat s).ls (256 + p.toNat)) s with
          | true =>
            rw [if_neg (by simp [h41])]
            exact kill_proc_had p s v w h hin hp hs1 hs2 hl hc hig h41 hpd
          | false =>
            rw [if_pos ⟨rfl, .inr rfl⟩]
            exact kill_proc_new p s v w h hin hp hs1 hs2 hl hc hig h41 hpd
end Go.Proofs.Ytbpihfphoniclaa
