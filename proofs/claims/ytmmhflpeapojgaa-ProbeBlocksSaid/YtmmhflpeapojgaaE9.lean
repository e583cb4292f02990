import Derived.Test.YtmmhflpeapojgaaE8
namespace Go.Proofs.Ytmmhflpeapojgaa
set_option linter.unusedVariables false
set_option linter.unusedSimpArgs false
open Go.RowKit Ieee Go.Shelf
attribute [local go_sem] Oper.semAt_some
set_option maxRecDepth 100000 in
set_option maxHeartbeats 1000000 in
theorem powers_bad (A : Option Addr) (c : Nat) (l : List Nat) (w : World) (hl : l.length ≤ 9223372036854775807) (hC : FC w A l) (h1 : scode l ≠ 0) :
    Calls Try.prog 12 #[.slice A l.length c] w fun e w' => PPost l w e w' := by
  have HC := Lib.hid hC
  have HN : Hid (np l = 0) := Lib.hid (by unfold np; rw [if_neg h1])
  clear hC
  generalize hs : scode l = s at *
  have HS := Lib.hid hs
  clear hs
  have hn : (s != 0) = true := by simpa using h1
  have HP : Hid (PPost l w (.returned (.tuple #[.slice none 0 0, .int .i64 s])) w) := Lib.hid ⟨_, by rw [HS.out], by rw [HN.out]; exact ⟨rfl, .inl ⟨rfl, rfl⟩⟩, Below.refl _ _⟩
  refine (callsIn_wide (n := 5)).1 ?_
  refine callsIn_of_wp_marks Try.func12 rfl trivial ?_ rfl
  simp only [Try.ntmps12, List.size_toArray, List.length_cons, List.length_nil, Nat.reduceAdd, Nat.reduceSub, Array.replicate_succ, Array.replicate_zero, List.push_toArray, List.append_toArray, List.nil_append, List.cons_append]
  gi_wp2_with (refine ⟨trivial, ?_⟩; gi_at_call 18; refine (callsIn_wide.2 (samples_calls A c l _ hl HC.out)).mono ?_; rw [HS.out]; rintro e w' ⟨rfl, rfl⟩)
  exact ⟨_, results_tmp2 (p := 2) (q := 3) rfl _ _ _, HP.out⟩
theorem powers_calls (A : Option Addr) (c : Nat) (l : List Nat) (w : World) (hl : l.length ≤ 9223372036854775807) (hC : FC w A l) (hlt : ∀ x ∈ l, x < 4294967296) (hcap : l.length ≤ c) (hcap2 : c ≤ 9223372036854775807) :
    Calls Try.prog 12 #[.slice A l.length c] w fun e w' => PPost l w e w' := by
  by_cases h : scode l = 0
  · exact powers_good A c l w hC hlt h hcap hcap2
  · exact powers_bad A c l w hl hC h
end Go.Proofs.Ytmmhflpeapojgaa
