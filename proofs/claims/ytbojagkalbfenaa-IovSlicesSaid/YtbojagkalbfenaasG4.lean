import Derived.Test.YtbojagkalbfenaasG3
namespace Go.Proofs.Ytbojagkalbfenaa
open Go.RowKit PIovSlices Go.Proofs.YtbojagkalbfenaaW.PrintWords
attribute [local go_sem] ints_get ints_size ints_getElem

def l3 : List S44 := [⟨4, 2⟩, ⟨0, 0⟩, ⟨1, 3⟩]
theorem V3 {W : World} {g base : Nat} {t : TypeId} {fr : Nat × Nat} (h : W.heap[g]? = some (.cells #[.int .i64 4, .int .i64 2, .int .i64 0, .int .i64 0, .int .i64 1, .int .i64 3] t fr)) :
    Kd.V k44 44 W base (fun k => k = g) (.slice (some ⟨g, 0, none⟩) l3.length 3) l3 := by
  refine Kd.V_mk (by decide) (fun W' hW' => ⟨rfl, by decide, fun _ => ⟨_, rfl, fun j p hj => ?_⟩⟩)
  have hg := (hW' g rfl (Array.getElem?_eq_some_iff.1 h).1).trans h
  have hc : ∀ i, W'.cell? ⟨g, i, none⟩ = (#[.int .i64 4, .int .i64 2, .int .i64 0, .int .i64 0, .int .i64 1, .int .i64 3] : Array Value)[i]? := fun i => cell_of_row _ _ _ _ _ _ hg
  refine ⟨[.int .i64 p.f0, .int .i64 p.f1], rfl, k44_mk _ _, fun i u hi => ?_⟩
  rw [add_at, hc]
  match j, hj with
  | 0, hj => cases hj; match i, hi with
    | 0, hi => exact hi
    | 1, hi => exact hi
    | i + 2, hi => simp at hi
  | 1, hj => cases hj; match i, hi with
    | 0, hi => exact hi
    | 1, hi => exact hi
    | i + 2, hi => simp at hi
  | 2, hj => cases hj; match i, hi with
    | 0, hi => exact hi
    | 1, hi => exact hi
    | i + 2, hi => simp at hi
  | j + 3, hj => simp [l3] at hj

theorem wth3 : wth (prs l3) 0 5 = 0 := by decide
theorem gcode3 : gcode 8 (prs l3) 0 5 = 0 := by decide
theorem length3 (w : World) (base : Nat) (h : Kd.V k44 44 w w.heap.size (fun k => k = base) (.slice (some ⟨base, 0, none⟩) l3.length 3) l3) : Calls Try.prog 18 #[.slice (some ⟨base, 0, none⟩) 3 3] w fun e w' => e = .returned (.tuple #[.int .i64 5, .int .i64 0]) ∧ Below w.heap.size w w' := by
  refine iov_Length.calls 60 _ _ 3 l3 5 0 w h ?_
  rw [iov_Length.f, check_f l3 (by omega), Option.bind_some, if_pos (by decide), total_f (by rw [← okB_iff]; decide) (by decide) (by omega)]
  rfl
def abc : List Value := [.int .u8 97, .int .u8 98, .int .u8 99, .int .u8 100, .int .u8 101, .int .u8 102, .int .u8 103, .int .u8 104]
theorem mem_abc {W : World} {g : Nat} {t : TypeId} {fr : Nat × Nat} (h : W.heap[g]? = some (.cells #[.int .u8 97, .int .u8 98, .int .u8 99, .int .u8 100, .int .u8 101, .int .u8 102, .int .u8 103, .int .u8 104] t fr)) : Mem W (some ⟨g, 0, none⟩) abc :=
  ⟨fun j u hj => ⟨_, rfl, (Array.getElem?_eq_some_iff.1 h).1, by
    rw [add_at, cell_of_row _ _ _ _ _ _ h]
    simpa [abc] using hj⟩, by decide⟩
theorem gres3 : gres abc (prs l3) 0 5 = [.int .u8 101, .int .u8 102, .int .u8 98, .int .u8 99, .int .u8 100] := by
  unfold gres
  rw [if_pos (by exact gcode3)]
  rfl
theorem gather3 (w : World) (g b : Nat) (hm : Mem w (some ⟨g, 0, none⟩) abc) (h : Kd.V k44 44 w w.heap.size (fun k => k = b) (.slice (some ⟨b, 0, none⟩) l3.length 3) l3) (hb : b < w.heap.size) :
    Calls Try.prog 12 #[.slice (some ⟨g, 0, none⟩) 8 8, .slice (some ⟨b, 0, none⟩) 3 3, .int .i64 0, .int .i64 5] w fun e w' => ∃ v, e = .returned (.tuple #[v, .int .i64 0]) ∧ w'.ownsRow w.heap.size 5 1 v 5 [.int .u8 101, .int .u8 102, .int .u8 98, .int .u8 99, .int .u8 100] ∧ Below w.heap.size w w' := by
  have := gatherF (some ⟨g, 0, none⟩) abc 8 (some ⟨b, 0, none⟩) 3 l3 0 5 _ w hm h (by rintro ad ⟨⟩; exact hb) (by decide) (by decide)
  rw [gres3] at this
  refine this.mono ?_
  rintro e w' ⟨v, rfl, h2, h3⟩
  exact ⟨v, by rw [show gcode abc.length (prs l3) 0 5 = 0 from gcode3], h2, h3⟩
end Go.Proofs.Ytbojagkalbfenaa
