/- Resolve on a table of one mount; Equal of two lists of one candidate. -/
import Derived.Test.YtedoonfegcgmeaaC8
namespace Go.Proofs.Ytedoonfegcgmeaa
open Go.RowKit
set_option linter.unusedVariables false
theorem Ends.const {P : Program} {c : Code} {a : Act} {w : World} {Q : Exit → Act → World → Prop} (T : Act) (F : World → Prop)
    (walk : c.wp P (Ends fun a' w' => a' = T ∧ F w') a w) (imp : ∀ w', F w' → Q .normal T w') : c.wp P Q a w :=
  Code.wp_mono (Ends.imp fun a' w' h => by obtain ⟨rfl, hf⟩ := h; exact imp w' hf) walk
theorem linkS_empty (f : Bool) (p : Bs) : linkS (.map []) f p = none := by
  unfold linkS
  rw [List.find?_eq_none]
  intro x _
  unfold hitB
  simp [Maps.has]
set_option maxRecDepth 100000 in
theorem resolve_one (base tb : Nat) (p0 d p q : Bs) (o m : Int) (gg cap gb lb ib cap2 n : Nat) (w : World) (h : One w base tb p0 o m gg cap gb lb ib cap2 n) (hm : MapV w 9 lb 0 (.map [])) (hj : joinS d p = (q, 0)) (hq : q.length ≤ 900000) (hq0 : q ≠ []) (hp0 : p0.length ≤ 900000)
    (L : List (Int × Bs)) (hL : outL p0 q m (bwd (pfx q) (pfx q).length) = L) (hl : L.length = 1) :
    Calls Try.prog 15 #[.pointer (some ⟨tb, 0, none⟩), str d, str p, .bool true] w fun e w' => ∃ v n0, e = .returned (.tuple #[str q, v, .int .i64 0]) ∧ w.heap.size ≤ n0 ∧ w'.ownsRow n0 51 2 v 1 (candV L) ∧ Below w.heap.size w w' := by
  have HE := Lib.hid (expand_none tb lb 0 _ _ _ (.map []) d p q true w h.tab hm hj (linkS_empty true q) hq hq0)
  have HC : Hid (∀ W, Below w.heap.size w W → Calls Try.prog 36 #[.pointer (some ⟨tb, 0, none⟩), str q] W fun e w' => ∃ v, e = .returned v ∧ (∃ n0, W.heap.size ≤ n0 ∧ w'.ownsRow n0 51 2 v 1 (candV L)) ∧ Below W.heap.size W w') := Lib.hid fun W hb => by
    have := (callsIn_wide (n := 5)).1 (cands_in base tb p0 q o m gg cap gb lb ib cap2 n W (h.keep fun k hk => hb.block k hk) hq hq0 hp0)
    rw [hL, hl] at this
    exact this
  clear h hm hj hq hq0 hp0 hL hl
  unfold str at HE HC ⊢
  go_enter Try.func15, Try.ntmps15
  go_wp2_with (first
    | (go_at_call 14; refine HE.out.mono ?_; rintro e w1 ⟨rfl, hb⟩; have HB := Lib.hid hb; clear hb)
    | (go_at_call 36; refine (HC.out _ HB.out).mono ?_; rintro e w2 ⟨v, rfl, hr, hb⟩; obtain ⟨A, c, rfl⟩ := hr.choose_spec.2.sliced; have HR := Lib.hid (And.intro hr hb); clear hr hb))
  go_ret3
  obtain ⟨⟨n0, h1, h2⟩, h3⟩ := HR.out
  exact ⟨_, n0, rfl, Nat.le_trans HB.out.size h1, h2, below_then' HB.out h3⟩
set_option maxRecDepth 100000 in
theorem equal_one (g g2 c c2 : Nat) (m : Int) (s : Bs) (w : World) (h0 : w.cell? ⟨g, 0, none⟩ = some (.int .i64 m)) (h1 : w.cell? ⟨g, 1, none⟩ = some (.string ⟨s.toArray⟩)) (k0 : w.cell? ⟨g2, 0, none⟩ = some (.int .i64 m)) (k1 : w.cell? ⟨g2, 1, none⟩ = some (.string ⟨s.toArray⟩)) :
    Calls Try.prog 22 #[.slice (some ⟨g, 0, none⟩) 1 c, .slice (some ⟨g2, 0, none⟩) 1 c2] w fun e w' => e = .returned (.bool true) ∧ Below w.heap.size w w' := by
  go_enter Try.func22, Try.ntmps22
  go_wp2
  go_loopw [13] (fun i wr => (i = .int .i64 0 ∧ wr = w) ∨ (i = .int .i64 1 ∧ wr = w.drew)) (fun i _ => (1 - intOf i).toNat)
  case atStart => exact .inl ⟨rfl, rfl⟩
  case round =>
    rcases hrel with ⟨rfl, hwr⟩ | ⟨rfl, rfl⟩
    · obtain rfl : w = wr := hwr.symm
      clear hwr
      go_wp2
      apply Ends.const (F := fun w' => w' = w.drew)
      case walk =>
        go_region
        all_goals exact Ends.mk ⟨rfl, by first | trivial | rfl⟩
      case imp =>
        rintro _ rfl
        go_wp2
        go_roundw
        case rel => exact .inr ⟨rfl, by first | trivial | rfl⟩
        case measure => simp [intOf]
    · go_wp2
      go_ret
      exact ⟨rfl, (Below.refl _ w).drew⟩
end Go.Proofs.Ytedoonfegcgmeaa
