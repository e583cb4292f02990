import Derived.Test.YtbpihfphoniclaaA7
namespace Go.Proofs.Ytbpihfphoniclaa
open Go.RowKit
set_option linter.unusedVariables false
theorem heap4 (w : World) (a b c d : Obj) : ((((w.alloc a).alloc b).alloc c).alloc d).heap[w.heap.size]? = some a ∧ ((((w.alloc a).alloc b).alloc c).alloc d).heap[w.heap.size + 1]? = some b ∧ ((((w.alloc a).alloc b).alloc c).alloc d).heap[w.heap.size + 1 + 1]? = some c ∧ ((((w.alloc a).alloc b).alloc c).alloc d).heap[w.heap.size + 1 + 1 + 1]? = some d ∧ Below w.heap.size w ((((w.alloc a).alloc b).alloc c).alloc d) := by
  have e1 : (w.alloc a).heap.size = w.heap.size + 1 := by simp
  have e2 : ((w.alloc a).alloc b).heap.size = w.heap.size + 1 + 1 := by simp
  have e3 : (((w.alloc a).alloc b).alloc c).heap.size = w.heap.size + 1 + 1 + 1 := by simp
  refine ⟨?_, ?_, ?_, ?_, ?_⟩
  · rw [Below.heap_alloc _ _ _ (by omega), Below.heap_alloc _ _ _ (by omega), Below.heap_alloc _ _ _ (by omega)]; exact heap_alloc_new _ _
  · rw [Below.heap_alloc _ _ _ (by omega), Below.heap_alloc _ _ _ (by omega), ← e1]; exact heap_alloc_new _ _
  · rw [Below.heap_alloc _ _ _ (by omega), ← e2]; exact heap_alloc_new _ _
  · rw [← e3]; exact heap_alloc_new _ _
  · exact ((((Below.refl _ _).alloc (Nat.le_refl _) _).alloc (by omega) _).alloc (by omega) _).alloc (by omega) _
theorem cell0 {w : World} {g : Nat} {v : Value} {cs : Array Value} {e : TypeId} {fr : Nat × Nat} (h : w.heap[g]? = some (.cells cs e fr)) (hv : cs[0]? = some v) : w.cell? ⟨g, 0, none⟩ = some v := by
  rw [cell_of_row _ _ _ _ _ _ h]; exact hv
theorem choose_of {S : St} {l : List Nat} {s r : Int} (h : firstI (wantP true S s) l r) (h0 : 0 ≤ r) : ∃ i, i < l.length ∧ r = (i : Int) ∧ choose S l s = (l.getD i 0 : Nat) := by
  rcases h with ⟨rfl, _⟩ | ⟨i, hi, rfl, hf⟩
  · omega
  · refine ⟨i, hi, rfl, ?_⟩
    have hf' : l.find? (waitsFor S s) = some (l.getD i 0) := hf
    unfold choose
    rw [hf']
theorem choose_of2 {S : St} {l : List Nat} {s r r2 : Int} (h : firstI (wantP true S s) l r) (h0 : r < 0) (h2 : firstI (wantP false S s) l r2) (h3 : 0 ≤ r2) : ∃ i, i < l.length ∧ r2 = (i : Int) ∧ choose S l s = (l.getD i 0 : Nat) := by
  rcases h with ⟨rfl, hn⟩ | ⟨i, hi, rfl, hf⟩
  · have hn' : l.find? (waitsFor S s) = none := by rw [List.find?_eq_none]; intro x hx; have := hn x hx; simpa [wantP] using this
    rcases h2 with ⟨rfl, _⟩ | ⟨i, hi, rfl, hf⟩
    · omega
    · refine ⟨i, hi, rfl, ?_⟩
      have hf' : l.find? (unmasked S s) = some (l.getD i 0) := hf
      unfold choose
      rw [hn', hf']
  · omega
theorem choose_of3 {S : St} {l : List Nat} {s r r2 : Int} (h : firstI (wantP true S s) l r) (h0 : r < 0) (h2 : firstI (wantP false S s) l r2) (h3 : r2 < 0) : choose S l s = -1 := by
  rcases h with ⟨rfl, hn⟩ | ⟨i, hi, rfl, hf⟩
  · have hn' : l.find? (waitsFor S s) = none := by rw [List.find?_eq_none]; intro x hx; have := hn x hx; simpa [wantP] using this
    rcases h2 with ⟨rfl, hn2⟩ | ⟨i, hi, rfl, hf⟩
    · have hn2' : l.find? (unmasked S s) = none := by rw [List.find?_eq_none]; intro x hx; have := hn2 x hx; simpa [wantP] using this
      unfold choose
      rw [hn', hn2']
    · omega
  · omega
set_option maxHeartbeats 1000000 in
set_option maxRecDepth 100000 in
theorem choose_calls {base t : Nat} {L : Lay} {S : St} (v : Value) (l : List Nat) (s : Int) (w : World) (h : RepL w base t L S) (hin : Inv S 1000) (hv : Ns w v l) (hl : l.length ≤ 256) (hall : ∀ i ∈ l, i < 256 ∧ (S.tk i).isSome = true) (h1 : 1 ≤ s) (h2 : s ≤ 56) :
    Calls Try.prog 32 #[.pointer (some ⟨t, 0, none⟩), v, .int .i64 s] w fun e w' => e = .returned (.int .i64 (choose S l s)) ∧ Below w.heap.size w w' := by
  obtain ⟨A, cap, rfl, _, _, hat⟩ := hv.at
  have HAT := Lib.hid hat
  have H := Lib.hid (And.intro h (And.intro hin (And.intro hv hall)))
  clear hat h hin hv hall
  go_enter Try.func32, Try.ntmps32
  go_wp2
  refine wp_loop_rounds 3 ?_
  rw [rounds_succ]
  go_wp2_with fail
  obtain ⟨k1, k2, k3, k4, k5⟩ := heap4 w (.cells #[.pointer (some ⟨t, 0, none⟩)] 25) (.cells #[.int .i64 s] 3) (.cells #[.func (.func 56) #[] #[.pointer (some ⟨w.heap.size + 1, 0, none⟩)], .func (.func 57) #[] #[.pointer (some ⟨w.heap.size + 1, 0, none⟩)]] 115) (.cells #[.func (.func 56) #[] #[.pointer (some ⟨w.heap.size + 1, 0, none⟩)]] 115)
  obtain ⟨W, hW⟩ : ∃ W, ((((w.alloc (.cells #[.pointer (some ⟨t, 0, none⟩)] 25)).alloc (.cells #[.int .i64 s] 3)).alloc (.cells #[.func (.func 56) #[] #[.pointer (some ⟨w.heap.size + 1, 0, none⟩)], .func (.func 57) #[] #[.pointer (some ⟨w.heap.size + 1, 0, none⟩)]] 115)).alloc (.cells #[.func (.func 56) #[] #[.pointer (some ⟨w.heap.size + 1, 0, none⟩)]] 115)) = W := ⟨_, rfl⟩
  have hsz : W.heap.size = w.heap.size + 1 + 1 + 1 + 1 := by rw [← hW]; simp
  rw [hW] at k1 k2 k3 k4 k5 ⊢
  clear hW
  have HK := Lib.hid (And.intro k1 (And.intro k2 (And.intro k3 (And.intro k4 k5))))
  clear k1 k2 k3 k4 k5
  refine (indexF_calls true (.slice A l.length cap) l _ _ _ s W (H.out.1.below HK.out.2.2.2.2) H.out.2.1 (Rw.below H.out.2.2.1 HK.out.2.2.2.2) hl H.out.2.2.2 (cell0 HK.out.2.2.2.1 rfl) (cell0 HK.out.1 rfl) (cell0 HK.out.2.1 rfl) h1 h2).mono ?_
  rintro e w2 ⟨r, rfl, hr, n, rfl⟩
  by_cases h0 : 0 ≤ r
  · obtain ⟨i, hi, rfl, hch⟩ := choose_of hr h0
    obtain ⟨g, rfl, hg, hc⟩ := HAT.out i hi
    have hc2 : (W.drewN n).cell? ⟨g, i, none⟩ = some (.int .i64 (l.getD i 0 : Nat)) := (HK.out.2.2.2.2.cell (p := ⟨g, i, none⟩) hg).trans hc
    have HC := Lib.hid hch
    clear hch hr hc
    generalize l.getD i 0 = z at *
    have hil : (i : Int) < (l.length : Int) := by omega
    go_wp2
    go_ret
    exact ⟨ret_int HC.out.symm, below_drewN HK.out.2.2.2.2 _⟩
  · have h0' : r < 0 := by omega
    have q1 : (W.drewN n).cell? ⟨w.heap.size + 1 + 1, 1, none⟩ = some (.func (.func 57) #[] #[.pointer (some ⟨w.heap.size + 1, 0, none⟩)]) := by
      show W.cell? _ = _
      rw [cell_of_row _ _ _ _ _ _ HK.out.2.2.1]; rfl
    have HR := Lib.hid hr
    clear hr
    go_wp2_with fail
    rw [rounds_succ]
    go_wp2_with fail
    have hbw : Below W.heap.size W ((W.drewN n).alloc (.cells #[.func (.func 57) #[] #[.pointer (some ⟨w.heap.size + 1, 0, none⟩)]] 115)) := (below_drewN (Below.refl _ _) n).alloc (Nat.le_refl _) _
    obtain ⟨W2, hW2⟩ : ∃ W2, (W.drewN n).alloc (.cells #[.func (.func 57) #[] #[.pointer (some ⟨w.heap.size + 1, 0, none⟩)]] 115) = W2 := ⟨_, rfl⟩
    have hnew : W2.heap[w.heap.size + 1 + 1 + 1 + 1]? = some (.cells #[.func (.func 57) #[] #[.pointer (some ⟨w.heap.size + 1, 0, none⟩)]] 115) := by
      rw [← hW2, ← hsz]
      exact heap_alloc_new (W.drewN n) _
    rw [hW2] at hbw ⊢
    clear hW2
    have hb2 : Below w.heap.size w W2 := below_then' HK.out.2.2.2.2 hbw
    have HL := Lib.hid (And.intro ((hbw.block w.heap.size (by omega)).trans HK.out.1) (And.intro ((hbw.block (w.heap.size + 1) (by omega)).trans HK.out.2.1) (And.intro hnew hb2)))
    clear hnew hbw hb2 q1
    refine (indexF_calls false (.slice A l.length cap) l _ _ _ s W2 (H.out.1.below HL.out.2.2.2) H.out.2.1 (Rw.below H.out.2.2.1 HL.out.2.2.2) hl H.out.2.2.2 (cell0 HL.out.2.2.1 rfl) (cell0 HL.out.1 rfl) (cell0 HL.out.2.1 rfl) h1 h2).mono ?_
    rintro e w3 ⟨r2, rfl, hr2, n2, rfl⟩
    by_cases h20 : 0 ≤ r2
    · obtain ⟨i, hi, rfl, hch⟩ := choose_of2 HR.out h0' hr2 h20
      obtain ⟨g, rfl, hg, hc⟩ := HAT.out i hi
      have hc2 : (W2.drewN n2).cell? ⟨g, i, none⟩ = some (.int .i64 (l.getD i 0 : Nat)) := (HL.out.2.2.2.cell (p := ⟨g, i, none⟩) hg).trans hc
      have HC := Lib.hid hch
      clear hch hr2 hc
      generalize l.getD i 0 = z at *
      have hil : (i : Int) < (l.length : Int) := by omega
      go_wp2
      go_ret
      exact ⟨ret_int HC.out.symm, below_drewN HL.out.2.2.2 _⟩
    · have HC := Lib.hid (choose_of3 HR.out h0' hr2 (by omega))
      have h20' : r2 < 0 := by omega
      clear hr2
      go_wp2_with fail
      rw [rounds_succ]
      go_wp2
      go_ret
      exact ⟨ret_int HC.out.symm, below_drewN HL.out.2.2.2 _⟩
end Go.Proofs.Ytbpihfphoniclaa
