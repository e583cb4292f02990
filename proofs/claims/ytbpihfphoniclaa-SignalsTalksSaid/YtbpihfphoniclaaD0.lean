/- A call of the program by a call's struct (18): its parts. -/
import Derived.Test.YtbpihfphoniclaaC9
import Derived.Test.YtbpihfphoniclaaS2
namespace Go.Proofs.Ytbpihfphoniclaa
open Go.RowKit
set_option linter.unusedVariables false
def opc (k th p s n : Int) (b : Nat) (v : Int) : Array Value := #[.int .i64 k, .int .i64 th, .int .i64 p, .int .i64 s, .int .i64 n, .int .u64 b, .int .i64 v]
def resc (n : Int) (b : Nat) (v : Int) (ok : Bool) (x y z : Int) (wk : Value) (e : Int) : Array Value :=
  #[.int .i64 n, .int .u64 b, .int .i64 v, .bool ok, .int .i64 x, .int .i64 y, .int .i64 z, wk, .int .i64 e]
/-- A world of which Q holds, with the result's box. -/
structure Done (Q : World → Prop) (g : Nat) (X : World) (cs : Array Value) : Prop where
  q : Q X
  row : X.heap[g]? = some (.cells cs 52 (0, 0))
def Free (Q : World → Prop) (g : Nat) : Prop := ∀ X, Ty X g 52 → Q X → ∀ i u, Q (X.setCell ⟨g, i, none⟩ u)
theorem Done.set {Q : World → Prop} {g : Nat} {X : World} {cs : Array Value} (h : Done Q g X cs) (hf : Free Q g) (i : Nat) (u : Value) : Done Q g (X.setCell ⟨g, i, none⟩ u) (cs.setIfInBounds i u) :=
  ⟨hf X ⟨cs, _, h.row⟩ h.q i u, heap_setCell_same _ _ _ _ _ _ h.row⟩
theorem Done.all {Q : World → Prop} {g : Nat} {X : World} {a0 a1 a2 a3 a4 a5 a6 a7 a8 : Value} (h : Done Q g X #[a0, a1, a2, a3, a4, a5, a6, a7, a8]) (hf : Free Q g) (b0 b1 b2 b3 b4 b5 b6 b7 b8 : Value) :
    Done Q g (((((((((X.setCell ⟨g, 0, none⟩ b0).setCell ⟨g, 1, none⟩ b1).setCell ⟨g, 2, none⟩ b2).setCell ⟨g, 3, none⟩ b3).setCell ⟨g, 4, none⟩ b4).setCell ⟨g, 5, none⟩ b5).setCell ⟨g, 6, none⟩ b6).setCell ⟨g, 7, none⟩ b7).setCell ⟨g, 8, none⟩ b8) #[b0, b1, b2, b3, b4, b5, b6, b7, b8] := by
  have := ((((((((h.set hf 0 b0).set hf 1 b1).set hf 2 b2).set hf 3 b3).set hf 4 b4).set hf 5 b5).set hf 6 b6).set hf 7 b7).set hf 8 b8
  simpa using this
theorem Done.nine {Q : World → Prop} {g : Nat} {X : World} {a0 a1 a2 a3 a4 a5 a6 a7 a8 : Value} (h : Done Q g X #[a0, a1, a2, a3, a4, a5, a6, a7, a8]) :
    X.cell? ⟨g, 0, none⟩ = some a0 ∧ X.cell? ⟨g, 1, none⟩ = some a1 ∧ X.cell? ⟨g, 2, none⟩ = some a2 ∧ X.cell? ⟨g, 3, none⟩ = some a3 ∧ X.cell? ⟨g, 4, none⟩ = some a4 ∧ X.cell? ⟨g, 5, none⟩ = some a5 ∧ X.cell? ⟨g, 6, none⟩ = some a6 ∧ X.cell? ⟨g, 7, none⟩ = some a7 ∧ X.cell? ⟨g, 8, none⟩ = some a8 := by
  refine ⟨?_, ?_, ?_, ?_, ?_, ?_, ?_, ?_, ?_⟩ <;> (rw [cell_of_row _ _ _ _ _ _ h.row]; rfl)
theorem After.boxset {base t : Nat} {S : St} {w X : World} (h : After base t S w X) {g : Nat} {e : TypeId} (hg : w.heap.size ≤ g) (hb : base ≤ g) (hty : Ty X g e) (he : e ≠ 77 ∧ e ≠ 80 ∧ e ≠ 94) (i : Nat) (u : Value) : After base t S w (X.setCell ⟨g, i, none⟩ u) := by
  obtain ⟨⟨L, h1⟩, h2⟩ := h
  refine ⟨⟨L, h1.other hty he i u⟩, h2.bel.setCell hb u, fun k o hk ho => ?_⟩
  have := (Array.getElem?_eq_some_iff.1 hk).1
  rw [Below.heap_setCell _ _ _ _ (by show k ≠ g; omega)]
  exact h2.oth k o hk ho
theorem Wk.boxset {X : World} {v : Value} {l : List (Int × Int × Int)} (h : Wk X v l) {g : Nat} {e : TypeId} (hty : Ty X g e) (he : e ≠ 88) (i : Nat) (u : Value) : Wk (X.setCell ⟨g, i, none⟩ u) v l := by
  refine h.kept fun b hb => Below.heap_setCell _ _ _ _ ?_
  obtain ⟨cur, hc⟩ := h.ty b hb
  obtain ⟨cs, fr, hg⟩ := hty
  intro e2
  rw [show b = g from e2, hg] at hc
  cases hc
  exact he rfl
def QL (base t : Nat) (S : St) (w : World) (v : Value) (l : List (Int × Int × Int)) (X : World) : Prop := After base t S w X ∧ Wk X v l
theorem free_live {base t : Nat} {S : St} {w : World} {v : Value} {l : List (Int × Int × Int)} {g : Nat} (hg : w.heap.size ≤ g) (hb : base ≤ g) : Free (QL base t S w v l) g :=
  fun X hty hq i u => ⟨hq.1.boxset hg hb hty (by decide) i u, hq.2.boxset hty (by decide) i u⟩
theorem free_nil {w : World} {g : Nat} (hg : w.heap.size ≤ g) : Free (fun X => Below w.heap.size w X) g := fun X _ hq i u => hq.setCell hg u
/-- What a call of any kind leaves. -/
def CallPost (base t : Nat) (n : Int) (b : Nat) (v : Int) (ok : Bool) (d : Int × Int × Int) (l : List (Int × Int × Int)) (c : Int) (S' : St) (w : World) (e : Ending) (w' : World) : Prop :=
  ∃ wk, e = .returned (.agg (resc n b v ok d.1 d.2.1 d.2.2 wk c)) ∧ Wk w' wk l ∧ After base t S' w w'
theorem heap22 (w : World) (a b : Obj) : Below w.heap.size w ((w.alloc a).alloc b) ∧ ((w.alloc a).alloc b).heap[w.heap.size + 1]? = some b := ⟨(heap2 w a b).2.2, (heap2 w a b).2.1⟩
theorem done0 {base t : Nat} {L : Lay} {S S' : St} {w W X : World} (h : RepL w base t L S) (hb : Below w.heap.size w W) (hw : After base t S' W X) {cs : Array Value} (hr : W.heap[w.heap.size + 1]? = some (.cells cs 52 (0, 0))) {v : Value} {l : List (Int × Int × Int)} (hk : Wk X v l) :
    Done (QL base t S' w v l) (w.heap.size + 1) X cs := by
  refine ⟨⟨hw.pre (Fr.of_below hb h.base_lt), hk⟩, hw.2.oth _ _ hr ?_⟩
  intro e he
  cases he
  decide
theorem Wk.sl {w : World} {v : Value} {l : List (Int × Int × Int)} (h : Wk w v l) : ∃ A m c, v = .slice A m c := by
  obtain ⟨A, c, rfl, _⟩ := Rw.form h
  exact ⟨_, _, _, rfl⟩
theorem Done.alloc {Q : World → Prop} {g : Nat} {X : World} {cs : Array Value} (h : Done Q g X cs) (hq : ∀ X o, Q X → Q (X.alloc o)) (o : Obj) : Done Q g (X.alloc o) cs := ⟨hq X o h.q, keep_alloc h.row o⟩
theorem live_alloc {base t : Nat} {S : St} {w : World} {v : Value} {l : List (Int × Int × Int)} (X : World) (o : Obj) (h : QL base t S w v l X) : QL base t S w v l (X.alloc o) := ⟨h.1.alloc o, h.2.below ((Below.refl _ _).alloc (Nat.le_refl _) o)⟩
theorem nil_alloc {w : World} (X : World) (o : Obj) (h : Below w.heap.size w X) : Below w.heap.size w (X.alloc o) := h.alloc h.size o
theorem donen {w W X : World} (hb : Below w.heap.size w W) (hx : Below W.heap.size W X) {cs : Array Value} (hr : W.heap[w.heap.size + 1]? = some (.cells cs 52 (0, 0))) :
    Done (fun X => Below w.heap.size w X) (w.heap.size + 1) X cs :=
  ⟨hb.trans (hx.mono hb.size), (hx.block _ (Array.getElem?_eq_some_iff.1 hr).1).trans hr⟩
theorem below_eq {W X : World} (h : W = X) : Below W.heap.size W X := h ▸ Below.refl _ _
end Go.Proofs.Ytbpihfphoniclaa
