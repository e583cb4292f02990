import Derived.Test.YtbojagkalbfenaaH2
import Derived.Test.YtbojagkalbfenaaL7
namespace Go.Proofs.Ytbojagkalbfenaa
set_option linter.unusedVariables false
set_option linter.unusedSimpArgs false
open Go.RowKit PIovGather Go.Proofs.YtbojagkalbfenaaW.PrintWords
attribute [local go_sem] ints_get ints_size ints_getElem

def unitsI (n : Int) : Int := if n ≤ 0 then 0 else (n - 1) / 16 + 1
theorem units_calls (n : Int) (h : -9223372036854775808 ≤ n ∧ n ≤ 9223372036854775807) (w : World) : Calls Try.prog 15 #[.int .i64 n] w fun e w' => e = .returned (.int .i64 (unitsI n)) ∧ Below w.heap.size w w' := by
  go_enter Try.func15, Try.ntmps15
  go_wp2
  · go_ret
    exact ⟨by simp [unitsI, *], Below.refl _ _⟩
  · go_ret
    refine ⟨?_, Below.refl _ _⟩
    show Ending.returned (.int .i64 _) = _
    rw [unitsI, if_neg (by omega)]
theorem runits_calls (n : Int) (h : -9223372036854775808 ≤ n ∧ n ≤ 9223372036854775807) (w : World) : Calls Try.prog 16 #[.int .i64 n] w fun e w' => e = .returned (.int .i64 (unitsI n)) ∧ Below w.heap.size w w' := by
  go_enter Try.func16, Try.ntmps16
  go_wp2
  · go_ret
    exact ⟨by simp [unitsI, *], Below.refl _ _⟩
  · rename_i h1 _ _ h2
    go_ret
    refine ⟨?_, Below.refl _ _⟩
    have h3 : n % 16 = 0 := by simpa using h2
    show Ending.returned (.int .i64 (n / 16)) = _
    rw [unitsI, if_neg (by omega), show n / 16 = (n - 1) / 16 + 1 by omega]
  · rename_i h1 h2
    go_ret
    refine ⟨?_, Below.refl _ _⟩
    have h3 : ¬ n % 16 = 0 := by simpa using h2
    show Ending.returned (.int .i64 (n / 16 + 1)) = _
    rw [unitsI, if_neg (by omega), show n / 16 + 1 = (n - 1) / 16 + 1 by omega]

/-- What Header answers. -/
def hdr (ds : List Int) : List Value := if ds.length < 16 then z16 else byts (ds.take 16)
theorem header_calls (A : Option Addr) (cap : Nat) (ds : List Int) (w : World) (hC : Kd.C (Kd.int .u8) w A ds.length ds) (hs : ∀ ad, A = some ad → ad.spot = none) (hc : ds.length ≤ cap) (hm : cap ≤ 9223372036854775807) (h6 : ds.length ≤ 6000) :
    Calls Try.prog 17 #[.slice A ds.length cap] w fun e w' => ∃ v, e = .returned (.tuple #[.agg (hdr ds).toArray, v, .bool (decide (16 ≤ ds.length))]) ∧ w'.ownsRow w.heap.size 5 1 v (ds.drop 16).length (byts (ds.drop 16)) ∧ Below w.heap.size w w' := by
  by_cases h : ds.length < 16
  · refine (header_small A cap ds w h).mono ?_
    rintro e w' ⟨rfl, hb⟩
    refine ⟨.slice none 0 0, by rw [hdr, if_pos h, decide_eq_false (by omega)], ?_, hb⟩
    rw [List.drop_eq_nil_of_le (by omega)]
    exact ⟨rfl, .inl ⟨rfl, rfl⟩⟩
  · obtain ⟨ad, e, _⟩ := hC.2.2 (by omega)
    subst e
    have hsp := hs ad rfl
    obtain ⟨b, o, sp⟩ := ad
    simp only at hsp
    subst hsp
    by_cases h16 : ds.length = 16
    · have := header_eq b o cap ds w hC hc hm h16
      rw [h16]
      refine this.mono ?_
      rintro e w' ⟨rfl, hb⟩
      refine ⟨.slice none 0 0, by rw [hdr, if_neg (by omega)]; rfl, ?_, hb⟩
      rw [List.drop_eq_nil_of_le (by omega)]
      exact ⟨rfl, .inl ⟨rfl, rfl⟩⟩
    · refine (header_big b o cap ds w hC hc hm (by omega) h6).mono ?_
      rintro e w' ⟨v, rfl, ho, hb⟩
      exact ⟨v, by rw [hdr, if_neg h, decide_eq_true (by omega)], by rw [List.length_drop]; exact ho, hb⟩
end Go.Proofs.Ytbojagkalbfenaa
