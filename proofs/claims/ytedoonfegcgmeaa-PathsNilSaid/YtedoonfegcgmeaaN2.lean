/- The law PathsNil. -/
import Derived.Test.YtedoonfegcgmeaaN1
namespace Go.Proofs.Ytedoonfegcgmeaa
open Go.RowKit
set_option linter.unusedVariables false
def actc (k : Int) (a b : ByteArray) (n m : Int) (f : Bool) : Array Value := #[.int .u8 k, .string a, .string b, .int .i64 n, .int .i64 m, .bool f]
theorem act_cells {w : World} {B : Nat} {k : Int} {a b : ByteArray} {n m : Int} {f : Bool} (h : w.heap[B]? = some (.cells (actc k a b n m f) 29 (0, 0))) :
    w.cell? ⟨B, 1, none⟩ = some (.string a) ∧ w.cell? ⟨B, 2, none⟩ = some (.string b) ∧ w.cell? ⟨B, 3, none⟩ = some (.int .i64 n) ∧ w.cell? ⟨B, 4, none⟩ = some (.int .i64 m) ∧ w.cell? ⟨B, 5, none⟩ = some (.bool f) :=
  ⟨cell_of_row _ _ _ _ _ _ h, cell_of_row _ _ _ _ _ _ h, cell_of_row _ _ _ _ _ _ h, cell_of_row _ _ _ _ _ _ h, cell_of_row _ _ _ _ _ _ h⟩
set_option maxHeartbeats 4000000 in
set_option maxRecDepth 100000 in
theorem nil_law (k : Int) (a b : ByteArray) (n m : Int) (f : Bool) (w : World) : Calls Try.prog 5 #[.agg (actc k a b n m f)] w fun e w' => e = .returned (.bool true) ∧ Below w.heap.size w w' := by
  have HB0 : Hid (Below w.heap.size w (w.alloc (.cells (actc k a b n m f) 29)) ∧ (w.alloc (.cells (actc k a b n m f) 29)).heap[w.heap.size]? = some (.cells (actc k a b n m f) 29 (0, 0))) := Lib.hid ⟨(Below.refl _ w).alloc (Nat.le_refl _) _, World.alloc_heap_new w _⟩
  obtain ⟨x1, x2, x3, x4, x5⟩ := act_cells HB0.out.2
  have HAW := Lib.hid awake_calls
  unfold Awake at HAW
  go_enter Try.func5, Try.ntmps5
  unfold actc at HB0 x1 x2 x3 x4 x5 ⊢
  go_wp2_with (first
    | (go_at_call 13; refine (nil13 _ rfl _).mono ?_; rintro e w1 ⟨rfl, hb⟩; have HB1 := Lib.hid (And.intro (HB0.out.1.trans (hb.mono (by simp))) ((hb.block _ (by simp)).trans HB0.out.2)); obtain ⟨y1, y2, y3, y4, y5⟩ := act_cells HB1.out.2; clear hb x1 x2 x3 x4 x5)
    | (go_at_call 14; refine (nil14 _ _ _ _).mono ?_; rintro e w2 ⟨rfl, hb⟩; have HB2 := Lib.hid (And.intro (HB1.out.1.trans (hb.mono HB1.out.1.size)) ((hb.block _ (Array.getElem?_eq_some_iff.1 HB1.out.2).1).trans HB1.out.2)); obtain ⟨z1, z2, z3, z4, z5⟩ := act_cells HB2.out.2; clear hb y1 y2 y3 y4 y5)
    | (go_at_call 15; refine (nil15 _ _ _ _).mono ?_; rintro e w3 ⟨rfl, hb⟩; have HB3 := Lib.hid (And.intro (HB2.out.1.trans (hb.mono HB2.out.1.size)) ((hb.block _ (Array.getElem?_eq_some_iff.1 HB2.out.2).1).trans HB2.out.2)); obtain ⟨y1, y2, y3, y4, y5⟩ := act_cells HB3.out.2; clear hb z1 z2 z3 z4 z5)
    | (go_at_call 16; refine (nil16 _ _).mono ?_; rintro e w4 ⟨rfl, hb⟩; have HB4 := Lib.hid (And.intro (HB3.out.1.trans (hb.mono HB3.out.1.size)) ((hb.block _ (Array.getElem?_eq_some_iff.1 HB3.out.2).1).trans HB3.out.2)); clear hb y1 y2 y3 y4 y5)
    | (go_at_call 6; refine (HAW.out _).mono ?_; rintro e w5 ⟨rfl, hb⟩; have HB5 := Lib.hid (And.intro (HB4.out.1.trans (hb.mono HB4.out.1.size)) ((hb.block _ (Array.getElem?_eq_some_iff.1 HB4.out.2).1).trans HB4.out.2)); obtain ⟨z1, z2, z3, z4, z5⟩ := act_cells HB5.out.2; clear hb)
    | (go_at_call 17; refine (nil17 _ _).mono ?_; rintro e w6 ⟨rfl, hb⟩; have HB6 := Lib.hid (And.intro (HB5.out.1.trans (hb.mono HB5.out.1.size)) ((hb.block _ (Array.getElem?_eq_some_iff.1 HB5.out.2).1).trans HB5.out.2)); obtain ⟨y1, y2, y3, y4, y5⟩ := act_cells HB6.out.2; clear hb z1 z2 z3 z4 z5)
    | (go_at_call 18; refine (nil18 _ _ _).mono ?_; rintro e w7 ⟨rfl, hb⟩; have HB7 := Lib.hid (And.intro (HB6.out.1.trans (hb.mono HB6.out.1.size)) ((hb.block _ (Array.getElem?_eq_some_iff.1 HB6.out.2).1).trans HB6.out.2)); obtain ⟨z1, z2, z3, z4, z5⟩ := act_cells HB7.out.2; clear hb y1 y2 y3 y4 y5)
    | (go_at_call 19; refine (nil19 _ _).mono ?_; rintro e w8 ⟨rfl, hb⟩; have HB8 := Lib.hid (And.intro (HB7.out.1.trans (hb.mono HB7.out.1.size)) ((hb.block _ (Array.getElem?_eq_some_iff.1 HB7.out.2).1).trans HB7.out.2)); clear hb z1 z2 z3 z4 z5)
    | (go_at_call 20; refine (nil20 _).mono ?_; rintro e w9 ⟨rfl, hb⟩; have HB9 := Lib.hid (HB8.out.1.trans (hb.mono HB8.out.1.size)); clear hb))
  go_ret
  exact ⟨rfl, HB9.out⟩
end Go.Proofs.Ytedoonfegcgmeaa
