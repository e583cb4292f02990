/- Expand where no link is met; New. -/
import Derived.Test.YtedoonfegcgmeaaC2
namespace Go.Proofs.Ytedoonfegcgmeaa
open Go.RowKit
set_option linter.unusedVariables false
theorem linked_none (tb lb n : Nat) (mv gv lst : Value) (D : DataW Value) (p : Bs) (f : Bool) (w : World) (ht : TabAt w tb mv gv (.map (some lb)) lst) (hm : MapV w 9 lb n D) (hp : p.length ≤ 900000) (hp0 : p ≠ []) (hl : linkS D f p = none) :
    Calls Try.prog 34 #[.pointer (some ⟨tb, 0, none⟩), str p, .bool f] w fun e w' => e = .returned (.tuple #[.string ⟨#[]⟩, .string ⟨#[]⟩, .bool false]) ∧ Below w.heap.size w w' := by
  have := (callsIn_wide (n := 5)).1 (linked_in tb lb n mv gv lst D p f w ht hm hp hp0)
  unfold linkV at this
  rw [hl] at this
  exact this
theorem ret_str4 (l : Bs) (c : Int) : Ending.returned (Value.tuple #[.string ⟨l.toArray⟩, .int .i64 c]) = .returned (.tuple #[str l, .int .i64 c]) := rfl
set_option maxRecDepth 100000 in
theorem expand_none (tb lb n : Nat) (mv gv lst : Value) (D : DataW Value) (d p q : Bs) (f : Bool) (w : World) (ht : TabAt w tb mv gv (.map (some lb)) lst) (hm : MapV w 9 lb n D) (hj : joinS d p = (q, 0)) (hl : linkS D f q = none) (hq : q.length ≤ 900000) (hq0 : q ≠ []) :
    Calls Try.prog 14 #[.pointer (some ⟨tb, 0, none⟩), str d, str p, .bool f] w fun e w' => e = .returned (.tuple #[str q, .int .i64 0]) ∧ Below w.heap.size w w' := by
  have HJ := Lib.hid (fun W => joinP_calls d p W)
  rw [hj] at HJ
  simp only at HJ
  have HL : Hid (∀ W, Below w.heap.size w W → Calls Try.prog 34 #[.pointer (some ⟨tb, 0, none⟩), str q, .bool f] W fun e w' => e = .returned (.tuple #[.string ⟨#[]⟩, .string ⟨#[]⟩, .bool false]) ∧ Below W.heap.size W w') := Lib.hid fun W hb => linked_none tb lb n mv gv lst D q f W (ht.below hb) (hm.below hb) hq hq0 hl
  clear ht hm hj hl hq hq0
  unfold str at HJ HL ⊢
  go_enter Try.func14, Try.ntmps14
  go_wp2_with (go_at_call 9; refine (HJ.out _).mono ?_; rintro e w1 ⟨rfl, hb⟩; have HB := Lib.hid hb; clear hb)
  go_loopw [10, 11, 12] (fun a b c wr => a = .string ⟨q.toArray⟩ ∧ b = .int .i64 0 ∧ c = .int .i64 0 ∧ wr = w1) (fun _ _ _ _ => 0)
  case atStart => exact ⟨rfl, rfl, rfl, rfl⟩
  case round =>
    obtain ⟨rfl, rfl, rfl, rfl⟩ := hrel
    go_wp2_with (go_at_call 34; refine (HL.out _ HB.out).mono ?_; rintro e w2 ⟨rfl, hb⟩; have HB2 := Lib.hid hb; clear hb)
    go_ret2
    exact ⟨rfl, below_then' HB.out HB2.out⟩
theorem new_calls (w : World) : Calls Try.prog 21 #[] w fun e w' => e = .returned (.pointer (some ⟨w.heap.size + 2, 0, none⟩)) ∧ TabAt w' (w.heap.size + 2) (.slice none 0 0) (.map (some w.heap.size)) (.map (some (w.heap.size + 1))) (.int .i64 0) ∧
    w'.heap[w.heap.size]? = some (.map #[] 0) ∧ w'.heap[w.heap.size + 1]? = some (.map #[] 0) ∧ Below w.heap.size w w' ∧ w'.heap.size = w.heap.size + 3 := by
  have hmm : ∀ (t : TypeId) (w : World), (Instr.makeMap t none).run Try.prog w = .ok (.map (some w.heap.size)) (w.alloc (.map #[] 0)) := fun t w => run_makeMap t w
  go_enter Try.func21, Try.ntmps21
  go_wp2
  refine bodyPost_ret (results_tmp rfl _ _ _) rfl ?_
  refine ⟨rfl, ?_, ?_, ?_, ?_, by simp⟩
  · have := World.alloc_heap_new ((w.alloc (.map #[] 0)).alloc (.map #[] 0)) (.cells #[.slice none 0 0, .map (some w.heap.size), .map (some (w.heap.size + 1)), .int .i64 0] 67)
    rw [World.size_alloc, World.size_alloc] at this
    exact this
  · refine ((((Below.refl (w.alloc (.map #[] 0)).heap.size (w.alloc (.map #[] 0))).alloc (Nat.le_refl _) _).alloc (by simp) _).block _ (by simp)).trans (World.alloc_heap_new w _)
  · refine ((((Below.refl ((w.alloc (.map #[] 0)).alloc (.map #[] 0)).heap.size ((w.alloc (.map #[] 0)).alloc (.map #[] 0))).alloc (Nat.le_refl _) _)).block _ (by simp)).trans ?_
    have := World.alloc_heap_new (w.alloc (.map #[] 0)) (.map #[] 0)
    rw [World.size_alloc] at this
    exact this
  · exact (((Below.refl _ w).alloc (Nat.le_refl _) _).alloc (by simp) _).alloc (by simp; omega) _
end Go.Proofs.Ytedoonfegcgmeaa
