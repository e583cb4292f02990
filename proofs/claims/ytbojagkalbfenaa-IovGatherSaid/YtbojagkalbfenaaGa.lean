import Derived.Test.YtbojagkalbfenaaG9
namespace Go.Proofs.Ytbojagkalbfenaa
open Go.RowKit PIovGather Go.Proofs.YtbojagkalbfenaaW.PrintWords
attribute [local go_sem] ints_get ints_size ints_getElem

/-- The answer's bytes, as whole numbers. -/
def gout (ms : List Int) (l : List (Int × Int)) (a b : Int) : List Int := if gcode ms.length l a b = 0 then gatherI ms (slicedL l a b) else []
theorem byts_length (ms : List Int) : (byts ms).length = ms.length := by simp [byts]
theorem gres_byts (ms : List Int) (l : List (Int × Int)) (a b : Int) : gres (byts ms) l a b = byts (gout ms l a b) := by
  unfold gres gout
  rw [byts_length]
  split
  · exact gatherL_map ms _ _
  · rfl
theorem gather_byts (M : Option Addr) (ms : List Int) (mc : Nat) (A : Option Addr) (cap : Nat) (l : List S44) (off n : Int) (P0 : Nat → Prop) (w : World) (hC : Kd.C (Kd.int .u8) w M ms.length ms) (hV : Kd.V k44 44 w w.heap.size P0 (.slice A l.length cap) l)
    (hA : ∀ ad, A = some ad → ad.block < w.heap.size) (hml : ms.length ≤ mc) (hmc : mc ≤ 9223372036854775807) :
    Calls Try.prog 12 #[.slice M ms.length mc, .slice A l.length cap, .int .i64 off, .int .i64 n] w fun e w' => ∃ A' c', e = .returned (.tuple #[.slice A' (gout ms (prs l) off n).length c', .int .i64 (gcode ms.length (prs l) off n)]) ∧ (gout ms (prs l) off n).length ≤ c' ∧ Kd.C (Kd.int .u8) w' A' (gout ms (prs l) off n).length (gout ms (prs l) off n) ∧ Below w.heap.size w w' := by
  have := gatherF M (byts ms) mc A cap l off n P0 w (mem_of_C hC) hV hA (by rw [byts_length]; exact hml) hmc
  rw [byts_length, gres_byts] at this
  refine this.mono ?_
  rintro e w' ⟨v, rfl, ho, hb⟩
  rw [byts_length] at ho
  obtain ⟨A', c', rfl, h1, h2⟩ := C_of_own ho
  exact ⟨A', c', rfl, h1, h2, hb⟩
theorem gout_len {ms : List Int} {l : List (Int × Int)} {a b : Int} : (gout ms l a b).length ≤ 65536 := by
  unfold gout
  split
  · rename_i h
    have hw : wth l a b = 0 := by
      unfold gcode at h
      split at h
      · assumption
      · assumption
    obtain ⟨h1, h2, _, _, h5, _⟩ := wth_zero hw
    have hf := fine_sliced (n := b) h1 h2 h5
    have := gatherL_bound (ds := byts ms) (fun x hx => (hf.2 x hx).2.2)
    rw [show byts ms = ms.map (Value.int .u8) from rfl, gatherL_map, List.length_map] at this
    have := hf.1
    omega
  · simp
theorem rg_f (ms : List Int) (l : List S44) (a b : Int) : orpimentref09_Gather.f 70000 ms l a b = some (gout ms (prs l) a b, gcode ms.length (prs l) a b) := by
  rw [rgather_f ms l a b (by omega)]
  unfold gout gcode
  by_cases h : wth (prs l) a b = 0
  · by_cases g : insideB ms.length (slicedL (prs l) a b) = true
    · simp [h, g]
    · simp [h, g]
  · simp [h]
end Go.Proofs.Ytbojagkalbfenaa
