import Derived.Test.YtbojagkalbfenaasG5
import Derived.Test.YtbojagkalbfenaasL8
namespace Go.Proofs.Ytbojagkalbfenaa
open Go.RowKit PIovSlices Go.Proofs.YtbojagkalbfenaaW.PrintWords

def byts (l : List Int) : List Value := l.map (Value.int .u8)
theorem mem_of_C {w : World} {M : Option Addr} {ms : List Int} (h : Kd.C (Kd.int .u8) w M ms.length ms) : Mem w M (byts ms) := by
  refine ⟨fun j u hj => ?_, fun u hu => ?_⟩
  · obtain ⟨p, hp, rfl⟩ : ∃ p, ms[j]? = some p ∧ Value.int .u8 p = u := by simpa [byts] using hj
    have hlt := (List.getElem?_eq_some_iff.1 hp).1
    obtain ⟨ad, e, hc⟩ := h.2.2 (by omega)
    obtain ⟨c, hl, hK, hcell⟩ := hc j p hp
    obtain rfl : c = [Value.int .u8 p] := hK
    have hq := hcell 0 _ rfl
    have hq' : w.cell? (ad.add j) = some (.int .u8 p) := by simpa [Kd.int, Kd.scalar] using hq
    have hb := World.block_lt_of_cell? _ _ hq'
    exact ⟨ad, e, by rwa [add_block] at hb, hq'⟩
  · obtain ⟨p, _, rfl⟩ := List.mem_map.1 hu
    rfl
theorem C_of_own {w : World} {base : Nat} {v : Value} {ms : List Int} (h : w.ownsRow base 5 1 v ms.length (byts ms)) : ∃ A c, v = .slice A ms.length c ∧ ms.length ≤ c ∧ Kd.C (Kd.int .u8) w A ms.length ms := by
  rcases h.2 with ⟨rfl, h0⟩ | ⟨g, cap, cur, rfl, _, _, hc, hm, _⟩
  · exact ⟨none, 0, by rw [h0], by omega, rfl, by omega, fun hp => by omega⟩
  · refine ⟨_, cap, rfl, hc, rfl, by simp only [maxLen] at hm; omega, fun _ => ⟨_, rfl, fun j p hp => ⟨[.int .u8 p], rfl, rfl, fun i u hi => ?_⟩⟩⟩
    have hlt := (List.getElem?_eq_some_iff.1 hp).1
    match i, hi with
    | 0, hi =>
      cases hi
      have := h.cells (g := g) rfl j (.int .u8 p) (by simp [byts, hp])
      simpa [Kd.int, Kd.scalar] using this
    | i + 1, hi => simp at hi
end Go.Proofs.Ytbojagkalbfenaa
