/- The text of all rights: words. -/
import Derived.Test.YthccppldpfddjaaDoorD1
import Derived.Test.YthccppldpfddjaaDoorStp
import Derived.Lib.ItoaLen
namespace Go.Proofs.YthccppldpfddjaaDoor
open Go.RowKit
set_option linter.unusedVariables false
def domB (d : Nat) : List UInt8 := if d = 0 then [114, 111, 111, 116] else [117, 115, 101, 114]
def letB (b : Bool) (c : UInt8) : List UInt8 := [if b = true then c else 45]
def rngS (p : Rg) : List UInt8 := 32 :: (Lib.itoa p.1 ++ 45 :: Lib.itoa p.2)
def headS (d j : Nat) (r : Rt) : List UInt8 := domB d ++ 32 :: (Lib.itoa (j : Int) ++ 32 :: (letB r.lk 108 ++ letB r.inh 105))
def lineS (S : St) (x : Nat) : List UInt8 := if (S x).eqb (stdR (x / 32)) = true then [] else headS (x / 32) (x % 32) (S x) ++ ((S x).rs.flatMap rngS ++ [10])
def txtK (S : St) (k : Nat) : List UInt8 := (List.range k).flatMap (lineS S)
def textS (S : St) : List UInt8 := txtK S 64
theorem txtK_succ (S : St) (k : Nat) : txtK S (k + 1) = txtK S k ++ lineS S k := by simp [txtK, List.range_succ]
theorem bs_app (a b : List UInt8) : (⟨a.toArray⟩ : ByteArray) ++ ⟨b.toArray⟩ = ⟨(a ++ b).toArray⟩ := by
  apply ByteArray.ext
  simp
theorem itoa_len (n : Int) (h0 : 0 ≤ n) (h1 : n ≤ 1099511627776) : (Lib.itoa n).length ≤ 21 := Lib.itoa_length_le n (by omega) (by omega)
theorem rngS_len (p : Rg) (h : okR p) : (rngS p).length ≤ 44 := by
  obtain ⟨h1, h2, h3⟩ := h
  unfold MX at h3
  have a1 := itoa_len p.1 h1 (by omega)
  have a2 := itoa_len p.2 (by omega) h3
  unfold rngS
  simp
  omega
theorem rngs_len (l : List Rg) (h : okL l) : (l.flatMap rngS).length ≤ 44 * l.length := by
  induction l with
  | nil => simp
  | cons p l ih =>
    have h1 := rngS_len p (h p (by simp))
    have h2 := ih fun q hq => h q (by simp [hq])
    rw [List.flatMap_cons, List.length_append, List.length_cons]
    omega
theorem headS_len (d j : Nat) (r : Rt) (hj : j < 32) : (headS d j r).length ≤ 40 := by
  have a1 := itoa_len (j : Int) (by omega) (by omega)
  have a2 : (domB d).length = 4 := by unfold domB; split <;> rfl
  unfold headS letB
  simp
  omega
theorem lineS_len (S : St) (x : Nat) (h : RtOk (S x)) : (lineS S x).length ≤ 3000 := by
  unfold lineS
  split
  · simp
  · have h1 := headS_len (x / 32) (x % 32) (S x) (by omega)
    have h2 := rngs_len (S x).rs h.1.1
    have h3 := h.2
    rw [List.length_append, List.length_append, List.length_cons, List.length_nil]
    omega
theorem txtK_len (S : St) (h : StOk S) : ∀ k, k ≤ 64 → (txtK S k).length ≤ 3000 * k
  | 0, _ => by simp [txtK]
  | k + 1, hk => by
    have h1 := txtK_len S h k (by omega)
    have h2 := lineS_len S k (h k (by omega))
    rw [txtK_succ, List.length_append]
    omega
/-- The table of powers of ten. -/
def PowAt (w : World) : Prop := Lib.TabIs Tryd.prog w "internal/strconv.uint64pow10" .u64 Lib.pow10Tab
theorem PowAt.below {w w' : World} {B : Nat} (h : PowAt w) (hB : ∀ g, Tryd.prog.globalNamed "internal/strconv.uint64pow10" = some g → g < B) (hb : Below B w w') : PowAt w' := by
  unfold PowAt Lib.TabIs at *
  unfold World.var? at *
  cases hg : Tryd.prog.globalNamed "internal/strconv.uint64pow10" with
  | none => rw [hg] at h; cases h
  | some g =>
    rw [hg] at h
    simp only [Option.bind_some] at h ⊢
    rw [hb.block g (hB g hg)]
    exact h
theorem PowAt.low {w : World} (h : PowAt w) : ∀ g, Tryd.prog.globalNamed "internal/strconv.uint64pow10" = some g → g < w.heap.size := by
  intro g hg
  unfold PowAt Lib.TabIs World.var? at h
  rw [hg] at h
  simp only [Option.bind_some] at h
  cases hh : w.heap[g]? with
  | none => rw [hh] at h; cases h
  | some o => exact (Array.getElem?_eq_some_iff.1 hh).1
/-- The names of the domains. -/
def DomAt (w : World) : Prop := ∀ d, d < 2 → w.cell? ⟨0, d, none⟩ = some (.string ⟨(domB d).toArray⟩)
theorem below_grow (w : World) (k : Nat) (os : Array Obj) : Below w.heap.size w (Sort.grow (w.drewN k) os) := below_of_regrown ⟨⟨w.drawn + k, os⟩, rfl⟩
theorem itoa_calls (n : Int) (h0 : 0 ≤ n) (h1 : n ≤ 1099511627776) (w : World) (hP : PowAt w) : Calls Tryd.prog 41 #[.int .i64 n] w fun e w' => e = .returned (.string ⟨(Lib.itoa n).toArray⟩) ∧ Below w.heap.size w w' := by
  refine (Tryd.strconv_Itoa n (by omega) (by omega) w hP).mono ?_
  rintro e w' ⟨rfl, k, os, rfl⟩
  exact ⟨rfl, below_grow w k os⟩
theorem fmt_calls (n : Int) (h0 : 0 ≤ n) (h1 : n ≤ 1099511627776) (w : World) (hP : PowAt w) : Calls Tryd.prog 43 #[.int .i64 n, .int .i64 10] w fun e w' => e = .returned (.string ⟨(Lib.itoa n).toArray⟩) ∧ Below w.heap.size w w' := by
  refine (Tryd.strconv_FormatInt_10 n (by omega) (by omega) w hP).mono ?_
  rintro e w' ⟨rfl, k, os, rfl⟩
  exact ⟨rfl, below_grow w k os⟩
theorem builder_below {T e B b : Nat} {p : Value} {xs : List Value} {w w' : World} (h : Lib.BuilderAt T e B b p xs w) (hb : Below w.heap.size w w') : Lib.BuilderAt T e B b p xs w' := by
  obtain ⟨hB, v, hk, hown, hne⟩ := h
  refine ⟨hB, v, (hb.block b (Array.getElem?_eq_some_iff.1 hk).1).trans hk, ?_, hne⟩
  rcases hown.2 with ⟨rfl, h2⟩ | ⟨g, cap, cur, rfl, hg, hh, h3⟩
  · exact ⟨hown.1, .inl ⟨rfl, h2⟩⟩
  · exact ⟨hown.1, .inr ⟨g, cap, cur, rfl, hg, (hb.block g (Array.getElem?_eq_some_iff.1 hh).1).trans hh, h3⟩⟩
theorem isBuilder_below {T e B b : Nat} {xs : List Value} {w w' : World} (h : Lib.IsBuilder T e B b xs w) (hb : Below w.heap.size w w') : Lib.IsBuilder T e B b xs w' := h.elim (fun x => .inl (builder_below x hb)) (fun x => .inr (builder_below x hb))
theorem builder_turn {T e B b : Nat} {p : Value} {xs : List Value} {w w' : World} {s : Nat} (h : Lib.BuilderAt T e B b p xs w) (ht : ∀ k, Turn s k w w') : Lib.BuilderAt T e B b p xs w' := by
  obtain ⟨hB, v, hk, hown, hne⟩ := h
  refine ⟨hB, v, (ht (b + 1)).cells hk (by omega), ?_, hne⟩
  rcases hown.2 with ⟨rfl, h2⟩ | ⟨g, cap, cur, rfl, hg, hh, h3⟩
  · exact ⟨hown.1, .inl ⟨rfl, h2⟩⟩
  · exact ⟨hown.1, .inr ⟨g, cap, cur, rfl, hg, (ht (g + 1)).cells hh (by omega), h3⟩⟩
theorem isBuilder_turn {T e B b : Nat} {xs : List Value} {w w' : World} {s : Nat} (h : Lib.IsBuilder T e B b xs w) (ht : ∀ k, Turn s k w w') : Lib.IsBuilder T e B b xs w' := h.elim (fun x => .inl (builder_turn x ht)) (fun x => .inr (builder_turn x ht))
theorem RArr.fr {n : Nat} {T E : TypeId} {A B : World} {t : Nat} {lv : Nat → Value} {S : Nat → Rt} (h : RArr n T E A t lv S) {base : Nat} {L : List TypeId} (hf : Fr base L A B) (h1 : T ∉ L) (h2 : E ∉ L) : RArr n T E B t lv S := by
  obtain ⟨cs, hc, -, -⟩ := h.tab
  exact h.kept ((hf.oth t _ hc (fun e he => by cases he; exact h1)).trans hc.symm) fun k ds fr hk => (hf.oth k _ hk (fun e he => by cases he; exact h2)).trans hk.symm
theorem Fr.keepsO {base : Nat} {L : List TypeId} {A B : World} (h : Fr base L A B) : KeepsOthers A B := ⟨h.size, fun k o hk ho => h.oth k o hk fun e he => by cases o <;> simp [oty, Obj.isCells] at he ho⟩
/-- What the loop of Text keeps. -/
structure TI (w : World) (S : St) (k : Nat) (W : World) : Prop where
  bd : (txtK S k = [] ∧ W.heap[w.heap.size]? = some (.cells #[.pointer none, .slice none 0 0] 83 (0, 0))) ∨ (txtK S k ≠ [] ∧ Lib.IsBuilder 83 5 w.heap.size w.heap.size (Lib.byteCells (txtK S k)) W)
  bel : Below w.heap.size w W
  sz : w.heap.size + 1 < W.heap.size
  bx : ∃ p, W.heap[w.heap.size + 1]? = some (.cells #[p] 127 (0, 0))
theorem TI.turn {w : World} {S : St} {k : Nat} {A B : World} (h : TI w S k A) {s : Nat} (hs : w.heap.size ≤ s) (ht : ∀ b, Turn s b A B) : TI w S k B :=
  ⟨h.bd.imp (fun x => ⟨x.1, (ht (w.heap.size + 1)).cells x.2 (by omega)⟩) (fun x => ⟨x.1, isBuilder_turn x.2 ht⟩), (ht w.heap.size).below h.bel (Nat.le_refl _) (Nat.le_refl _) hs, Nat.lt_of_lt_of_le h.sz (ht 0).size, h.bx.imp fun _ x => (ht (w.heap.size + 2)).cells x (by omega)⟩
theorem TI.below {w : World} {S : St} {k : Nat} {A B : World} (h : TI w S k A) (hb : Below A.heap.size A B) : TI w S k B :=
  ⟨h.bd.imp (fun x => ⟨x.1, (hb.block _ (Array.getElem?_eq_some_iff.1 x.2).1).trans x.2⟩) (fun x => ⟨x.1, isBuilder_below x.2 hb⟩), h.bel.trans (hb.mono h.bel.size), Nat.lt_of_lt_of_le h.sz hb.size, h.bx.imp fun _ x => (hb.block _ h.sz).trans x⟩
theorem TI.isb {w : World} {S : St} {k : Nat} {A : World} (h : TI w S k A) : Lib.IsBuilder 83 5 w.heap.size w.heap.size (Lib.byteCells (txtK S k)) A := by
  rcases h.bd with ⟨h1, h2⟩ | ⟨-, h2⟩
  · rw [h1]
    exact .inl ⟨Nat.le_refl _, _, h2, World.ownsRow_nil _ _ _ _, by simp [Value.ownBlock]⟩
  · exact h2
end Go.Proofs.YthccppldpfddjaaDoor
