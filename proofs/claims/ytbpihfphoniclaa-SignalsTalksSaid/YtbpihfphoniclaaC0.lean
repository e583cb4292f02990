import Derived.Test.YtbpihfphoniclaaB9
namespace Go.Proofs.Ytbpihfphoniclaa
open Go.RowKit
set_option linter.unusedVariables false
/-- `take` where something is taken. -/
theorem take_some {base t : Nat} {L : Lay} {S : St} (th bb m : Nat) (x : Tk) (w : World) (h : RepL w base t L S) (hin : Inv S 1000) (hi : th < 256) (hx : S.tk th = some x) (hb : L.ptr th = some bb) (hm : m < 18446744073709551616) (hlow : lowest (both S th x.proc.toNat) m ≠ 0) :
    Calls Try.prog 39 #[.pointer (some ⟨t, 0, none⟩), .pointer (some ⟨bb, 0, none⟩), .int .u64 m] w fun e w' =>
      e = .returned (.tuple #[.agg #[.int .i64 (lowest (both S th x.proc.toNat) m), .int .i64 (takeS S th x.proc.toNat (lowest (both S th x.proc.toNat) m)).1], .bool true]) ∧ AfterL base t L (takeS S th x.proc.toNat (lowest (both S th x.proc.toNat) m)).2 w w' := by
  obtain ⟨hp0, hp1, _⟩ := hin.task th hi x hx
  rcases take_ways S th x.proc.toNat m (hin.sig th (by omega)) (hin.sig (256 + x.proc.toNat) (by omega)) with ⟨_, _, h0⟩ | ⟨i, h1, h2, h3, h4, h5, h6⟩ | ⟨k, h1, h2, h3, h4, h5, h6⟩
  · exact absurd h0 hlow
  · rw [h6, h4]
    rcases h3 with h3 | ⟨k, g1, g2, g3⟩
    · exact take_own th bb m x w h hin hi hx hb hm i h1 h2 h3
    · exact take_own2 th bb m x w h hin hi hx hb hm i k h1 g1 h2 g2 g3
  · rw [h6, h4]
    rcases h3 with h3 | ⟨i, g1, g2, g3⟩
    · exact take_other th bb m x w h hin hi hx hb hm k h1 h3 h2
    · exact take_other2 th bb m x w h hin hi hx hb hm i k g1 h1 g2 h2 g3
theorem takeS_tk (S : St) (th p : Nat) (s : Int) : (takeS S th p s).2.tk = S.tk := rfl
theorem takeS_ac (S : St) (th p : Nat) (s : Int) : (takeS S th p s).2.ac = S.ac := rfl
theorem takeS_got (S : St) (th p : Nat) (s : Int) : (takeS S th p s).2.got = S.got := rfl
theorem does_ac {S S' : St} (h : S'.ac = S.ac) (p : Nat) (s : Int) : does S' p s = does S p s := by unfold does; rw [h]
theorem allM_lt (k : Nat) : allM &&& k < 18446744073709551616 := Nat.lt_of_le_of_lt Nat.and_le_left (by decide)
theorem lowest_range {S : St} {n : Nat} (hin : Inv S n) {th p : Nat} (h1 : th < 320) (h2 : 256 + p < 320) (m : Nat) : 0 ≤ lowest (both S th p) m ∧ lowest (both S th p) m ≤ 56 := by
  have hb : ∀ x ∈ both S th p, 1 ≤ x.1 ∧ x.1 ≤ 56 := by
    intro x hx
    rcases List.mem_append.1 hx with h | h
    · exact hin.sig th h1 x h
    · exact hin.sig _ h2 x h
  rcases lowest_spec (both S th p) m (fun x hx => (hb x hx).1) with ⟨h, _⟩ | ⟨z, hz, h, _⟩
  · omega
  · have := hb z hz; omega
end Go.Proofs.Ytbpihfphoniclaa
