/- strings.Cut at a slash. -/
import Derived.Test.YtedoonfegcgmeaaKit
import Derived.Test.YtedoonfegcgmeaaSh
import Derived.Shelf.Strings.Cut
import Derived.IntWalk
namespace Go.Proofs.Ytedoonfegcgmeaa
open Go.RowKit Go.Shelf
set_option linter.unusedVariables false
/-- A string of bytes. -/
def str (l : List UInt8) : Value := .string ⟨l.toArray⟩
set_option maxHeartbeats 1000000 in
theorem slCut_calls (s : ByteArray) (w : World) (hs : s.size ≤ 1000000) :
    Calls Try.prog 58 #[.string s, .string ⟨#[47]⟩] w fun e w' => e = .returned (.tuple #[.string ⟨(Lib.cut s.data.toList [47]).1.toArray⟩, .string ⟨(Lib.cut s.data.toList [47]).2.1.toArray⟩, .bool (Lib.cut s.data.toList [47]).2.2]) ∧ ∃ n, w' = w.drewN n := by
  have HI := Lib.hid (fun w => Try.stringslite_Index_one s 47 w)
  rcases Lib.indexB_cases s ⟨#[47]⟩ with hix | ⟨i, hix, hroom⟩
  · obtain ⟨e1, e2, e3⟩ := Lib.cutB_miss s ⟨#[47]⟩ hix
    have HE := Lib.hid (And.intro e1 (And.intro e2 e3))
    have HX : Hid (Lib.indexByte s.data.toList 47 = -1) := Lib.hid (by rw [← Lib.index_one]; exact hix)
    clear hix e1 e2 e3
    go_enter Try.func58, Try.ntmps58
    go_wp2_with (go_at_call 72; refine (HI.out _).mono ?_; rw [HX.out]; rintro e w' ⟨rfl, rfl⟩)
    go_ret3
    exact ⟨by rw [HE.out.1, HE.out.2.1, HE.out.2.2]; rfl, 0, rfl⟩
  · obtain ⟨e1, e2, e3⟩ := Lib.cutB_hit s ⟨#[47]⟩ i hix
    have HE := Lib.hid (And.intro e1 (And.intro e2 e3))
    have HX : Hid (Lib.indexByte s.data.toList 47 = (i : Int)) := Lib.hid (by rw [← Lib.index_one]; exact hix)
    have h1 : i + 1 ≤ s.size := hroom
    have c1 : (0 : Int) ≤ (i : Int) := by omega
    have c2 : (i : Int) ≤ (s.size : Int) := by omega
    have c3 : (0 : Int) ≤ (i : Int) + 1 := by omega
    have c4 : (i : Int) + 1 ≤ (s.size : Int) := by omega
    have hw : IntKind.i64.wrap ((i : Int) + 1) = (i : Int) + 1 := IntWalk.i64_in _ (by omega)
    have htn : ((i : Int) + 1).toNat = i + 1 := by omega
    clear hix e1 e2 e3 hroom hs h1
    go_enter Try.func58, Try.ntmps58
    go_wp2_with (go_at_call 72; refine (HI.out _).mono ?_; rw [HX.out]; rintro e w' ⟨rfl, rfl⟩)
    go_quiet (fail)
    go_wp2
    go_ret3
    exact ⟨by rw [HE.out.1, HE.out.2.1, HE.out.2.2]; rfl, nq, rfl⟩
theorem cut_calls (s : ByteArray) (w : World) (hs : s.size ≤ 1000000) :
    Calls Try.prog 38 #[.string s, .string ⟨#[47]⟩] w fun e w' => e = .returned (.tuple #[.string ⟨(Lib.cut s.data.toList [47]).1.toArray⟩, .string ⟨(Lib.cut s.data.toList [47]).2.1.toArray⟩, .bool (Lib.cut s.data.toList [47]).2.2]) ∧ ∃ n, w' = w.drewN n := by
  go_enter Try.func38, Try.ntmps38
  go_wp2_with (go_at_call 58; refine (slCut_calls s _ hs).mono ?_; rintro e w' ⟨rfl, n, rfl⟩)
  go_ret3
  exact ⟨rfl, n, rfl⟩
end Go.Proofs.Ytedoonfegcgmeaa
