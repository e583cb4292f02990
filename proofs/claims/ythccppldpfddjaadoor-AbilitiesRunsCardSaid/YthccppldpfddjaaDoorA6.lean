/- copy of elements of several cells as a law; slices.Insert of one range. -/
import Derived.Test.YthccppldpfddjaaDoorA5
import Derived.Lib.AppendZerosOnto
import Derived.Laws.CopyOwn
import Derived.Laws.Externs
import Derived.Lib.Overlaps
import Derived.Deep.AppendLies
namespace Go.Proofs.YthccppldpfddjaaDoor
open Go.RowKit
set_option linter.unusedVariables false
section
variable {P : Program}
theorem run_copy_row_k (w : World) (dT sT ty elem : TypeId) (g o dLen dCap : Nat) (a : Addr) (sLen sCap : Nat) (cur : Array Value) (t : TypeId) (cs : List Value) (size : Nat)
    (hu : P.underlying dT = some (.slice elem)) (hs : (P.info? elem).map (·.size) = some size)
    (hg : w.heap[g]? = some (.cells cur t (0, 0))) (hn : cs.length = Nat.min sLen dLen * size)
    (hsrc : ∀ j v, cs[j]? = some v → w.cell? (a.add j) = some v) (hfit : o + cs.length ≤ cur.size) (h1 : ∀ v ∈ cs, v.oneCell' = true) :
    (Builtin.copy_ #[dT, sT] ty #[.slice (some ⟨g, o, none⟩) dLen dCap, .slice (some a) sLen sCap]).run P w =
      .ok (goInt (Nat.min sLen dLen)) (w.setRow g (cur.toList.take o ++ cs ++ cur.toList.drop (o + cs.length)).toArray) := by
  have hl := run_loadCells_list (P := P) w a cs hsrc
  have hst := run_storeCells_at P g o t cs 0 cur w hg (by simpa using hfit) h1
  cases hq : P.info? elem with
  | none => simp [hq] at hs
  | some i =>
    have hi : i.size = size := by simpa [hq] using hs
    rw [hn] at hl
    simp [Builtin.copy_, run_underlying hu, Builtin.lenOf, Builtin.firstCells, sizeOf, typeInfo, hq, hi, hl, hst]
theorem step_copy_k {ops : Array Oper} {o : Oper} {a : Act} {w : World} {K : Act → World → Prop} {Q : Exit → Act → World → Prop} {E : Prop} (hgd : o.guard = none) (d s : Operand) (dT sT : TypeId)
    (ho : o.op = .call { callee := .builtin .copy, args := #[d, s], argTypes := #[dT, sT] }) (elem : TypeId) (size : Nat) (hu : P.underlying dT = some (.slice elem)) (hsz : (P.info? elem).map (·.size) = some size)
    (dLen dCap sLen sCap : Nat) (g off : Nat) (ad : Addr) (hd : a.eval d = .slice (some ⟨g, off, none⟩) dLen dCap) (hs : a.eval s = .slice (some ad) sLen sCap)
    (cur : Array Value) (t : TypeId) (hg : w.heap[g]? = some (.cells cur t (0, 0))) (cs : List Value) (hn : cs.length = Nat.min sLen dLen * size)
    (hsrc : ∀ j v, cs[j]? = some v → w.cell? (ad.add j) = some v) (hfit : off + cs.length ≤ cur.size) (h1 : ∀ v ∈ cs, v.oneCell' = true)
    (h : ∀ w', w' = w.setRow g (splice cur.toList off cs).toArray → K (a.put o.dst (goInt (Nat.min sLen dLen))) w') :
    if Region.wanted o (yielded ops a.tmps) = true then Oper.wp P o a w K Q else E := by
  have hw : Region.wanted o (yielded ops a.tmps) = true := by simp [Region.wanted, hgd]
  rw [if_pos hw]
  have hrun := run_copy_row_k (P := P) w dT sT o.type elem g off dLen dCap ad sLen sCap cur t cs size hu hsz hg hn hsrc hfit h1
  unfold Oper.wp
  simp [execOp, ho, resolve, invoke, builtin, hd, hs, hrun, Result.andThen]
  exact h _ (by simp [splice])
theorem wpList_copy_k {w : World} {ops : Array Oper} {rest : List Oper} {o : Oper} {a : Act} {Q : Exit → Act → World → Prop} (hgd : o.guard = none) (d s : Operand) (dT sT : TypeId)
    (ho : o.op = .call { callee := .builtin .copy, args := #[d, s], argTypes := #[dT, sT] }) (elem : TypeId) (size : Nat) (hu : P.underlying dT = some (.slice elem)) (hsz : (P.info? elem).map (·.size) = some size)
    (dLen dCap sLen sCap : Nat) (g off : Nat) (ad : Addr) (hd : a.eval d = .slice (some ⟨g, off, none⟩) dLen dCap) (hs : a.eval s = .slice (some ad) sLen sCap)
    (cur : Array Value) (t : TypeId) (hg : w.heap[g]? = some (.cells cur t (0, 0))) (cs : List Value) (hn : cs.length = Nat.min sLen dLen * size)
    (hsrc : ∀ j v, cs[j]? = some v → w.cell? (ad.add j) = some v) (hfit : off + cs.length ≤ cur.size) (h1 : ∀ v ∈ cs, v.oneCell' = true)
    (h : ∀ w', w' = w.setRow g (splice cur.toList off cs).toArray → wpList P ops Q rest (a.put o.dst (goInt (Nat.min sLen dLen))) w') : wpList P ops Q (o :: rest) a w := by
  refine wpList_plain hgd fun K hK => ?_
  have hrun := run_copy_row_k (P := P) w dT sT o.type elem g off dLen dCap ad sLen sCap cur t cs size hu hsz hg hn hsrc hfit h1
  unfold Oper.wp
  simp [execOp, ho, resolve, invoke, builtin, hd, hs, hrun, Result.andThen]
  exact hK _ _ (h _ (by simp [splice]))
end
theorem splice_two (cur : List Value) (l : List Rg) (r : Rg) (i : Nat) (hi : i ≤ l.length) (hs : (l.length + 1) * 2 ≤ cur.length) (hc : cur.take (l.length * 2) = pcells l) :
    (splice (splice cur ((i + 1) * 2) (pcells (l.drop i))) (i * 2) (pcells [r])).take ((l.length + 1) * 2) = pcells (l.take i ++ r :: l.drop i) ∧
    (splice (splice cur ((i + 1) * 2) (pcells (l.drop i))) (i * 2) (pcells [r])).length = cur.length := by
  have hld : (pcells (l.drop i)).length = (l.length - i) * 2 := by rw [pcells_len, List.length_drop]
  have e1 : cur.take (i * 2) = pcells (l.take i) := by
    rw [pcells_take, ← hc, List.take_take, Nat.min_eq_left (by omega)]
  have hlt : (pcells (l.take i)).length = i * 2 := by rw [pcells_len, List.length_take, Nat.min_eq_left hi]
  have hl1 : (splice cur ((i + 1) * 2) (pcells (l.drop i))).length = cur.length := length_splice _ _ _ (by rw [hld]; omega)
  refine ⟨?_, by rw [length_splice _ _ _ (by rw [hl1]; simp [pcells]; omega), hl1]⟩
  have e2 : (splice cur ((i + 1) * 2) (pcells (l.drop i))).take (i * 2) = pcells (l.take i) := by
    unfold splice
    rw [List.take_append_of_le_length (by rw [List.length_take]; omega), List.take_take, Nat.min_eq_left (by omega), e1]
  have e3 : (splice cur ((i + 1) * 2) (pcells (l.drop i))).drop ((i + 1) * 2) = pcells (l.drop i) ++ cur.drop ((i + 1) * 2 + (pcells (l.drop i)).length) := by
    unfold splice
    rw [List.drop_append_of_le_length (by rw [List.length_take]; omega), List.drop_of_length_le (by rw [List.length_take]; omega)]
    rfl
  have e4 : splice (splice cur ((i + 1) * 2) (pcells (l.drop i))) (i * 2) (pcells [r]) = pcells (l.take i) ++ (pcells [r] ++ (pcells (l.drop i) ++ cur.drop ((i + 1) * 2 + (pcells (l.drop i)).length))) := by
    rw [splice, e2, show i * 2 + (pcells [r]).length = (i + 1) * 2 by simp [pcells]; omega, e3]
  rw [e4]
  have e5 : pcells (l.take i ++ r :: l.drop i) = pcells (l.take i) ++ (pcells [r] ++ pcells (l.drop i)) := by
    rw [pcells_append, show r :: l.drop i = [r] ++ l.drop i from rfl, pcells_append]
  have e6 : (pcells (l.take i) ++ (pcells [r] ++ pcells (l.drop i))).length = (l.length + 1) * 2 := by
    rw [List.length_append, List.length_append, hlt, hld]
    simp [pcells]
    omega
  rw [e5, ← e6, show pcells (l.take i) ++ (pcells [r] ++ (pcells (l.drop i) ++ cur.drop ((i + 1) * 2 + (pcells (l.drop i)).length))) = (pcells (l.take i) ++ (pcells [r] ++ pcells (l.drop i))) ++ cur.drop ((i + 1) * 2 + (pcells (l.drop i)).length) by simp]
  exact List.take_left
end Go.Proofs.YthccppldpfddjaaDoor
