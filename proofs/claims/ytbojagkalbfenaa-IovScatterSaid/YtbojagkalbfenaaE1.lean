import Derived.Test.YtbojagkalbfenaaL6
import Derived.Test.YtbojagkalbfenaaX1
namespace Go.Proofs.Ytbojagkalbfenaa
set_option linter.unusedVariables false
set_option linter.unusedSimpArgs false
open Go.RowKit PIovGather Go.Proofs.YtbojagkalbfenaaW.PrintWords

def fine0 (l : List (Int × Int)) : Prop := l.length ≤ 16 ∧ ∀ x ∈ l, (0 ≤ x.1 ∧ x.1 ≤ 1099511631872) ∧ 0 ≤ x.2 ∧ x.2 ≤ 4096
theorem addrs0_l1 (r : List S44) (hf : fine0 (prs r)) (i : Nat) (hi : i < r.length) : ∀ (c m j : Nat) (out : List Int), j + c = (rd_T44 r i).f1.toNat → out.length + c ≤ 1000000 →
    orpimentref09_addresses.l1 (m + 1 + c) r out i j = orpimentref09_addresses.l0 m r (out ++ seg ((rd_T44 r i).f0 + j) c) ((i + 1 : Nat) : Int)
  | 0, m, j, out, hj, ho => by
    have hd := rd_prs r i hi
    have hl := hf.1
    rw [prs_length] at hl
    have hb := hf.2 ((rd_T44 r i).f0, (rd_T44 r i).f1) (List.mem_of_mem_drop (by rw [hd]; exact List.mem_cons_self))
    simp only at hb
    simp only [Nat.add_zero, orpimentref09_addresses.l1, show (0 : Int) ≤ (i : Int) by omega, show (i : Int) < (r.length : Int) by omega, show ¬ ((j : Int) < (rd_T44 r i).f1) by omega, if_true, if_false, seg, List.append_nil]
    rw [w64 (x := (i : Int) + 1) (by omega) (by omega)]
    rfl
  | c + 1, m, j, out, hj, ho => by
    have hd := rd_prs r i hi
    have hl := hf.1
    rw [prs_length] at hl
    have hb := hf.2 ((rd_T44 r i).f0, (rd_T44 r i).f1) (List.mem_of_mem_drop (by rw [hd]; exact List.mem_cons_self))
    simp only at hb
    have ih := addrs0_l1 r hf i hi c m (j + 1) (out ++ [(rd_T44 r i).f0 + j]) (by omega) (by simp; omega)
    rw [show m + 1 + (c + 1) = (m + 1 + c) + 1 by omega]
    simp only [orpimentref09_addresses.l1, show (0 : Int) ≤ (i : Int) by omega, show (i : Int) < (r.length : Int) by omega, show (j : Int) < (rd_T44 r i).f1 by omega, if_true]
    rw [if_pos (by omega), w64 (x := (j : Int) + 1) (by omega) (by omega), w64 (x := (rd_T44 r i).f0 + (j : Int)) (by omega) (by omega)]
    rw [show ((j + 1 : Nat) : Int) = (j : Int) + 1 by omega] at ih
    rw [ih]
    simp only [seg, List.append_assoc, List.singleton_append]
    rw [show (rd_T44 r i).f0 + ((j : Int) + 1) = (rd_T44 r i).f0 + (j : Int) + 1 by omega]

theorem addrs0_l0 (r : List S44) (hf : fine0 (prs r)) : ∀ (c k i : Nat) (out : List Int), i + c = r.length → 4098 * c < k → out.length ≤ 4096 * i →
    orpimentref09_addresses.l0 k r out i = some (out ++ addrs ((prs r).drop i))
  | 0, k + 1, i, out, hi, _, _ => by
    simp only [orpimentref09_addresses.l0, show ¬ ((i : Int) < (r.length : Int)) by omega, if_false]
    rw [List.drop_eq_nil_of_le (by rw [prs_length]; omega)]
    simp [addrs]
  | c + 1, k + 1, i, out, hi, hk, ho => by
    have hlt : i < r.length := by omega
    have hd := rd_prs r i hlt
    have hl := hf.1
    rw [prs_length] at hl
    have hb := hf.2 ((rd_T44 r i).f0, (rd_T44 r i).f1) (List.mem_of_mem_drop (by rw [hd]; exact List.mem_cons_self))
    simp only at hb
    have h1 := addrs0_l1 r hf i hlt (rd_T44 r i).f1.toNat (k - 1 - (rd_T44 r i).f1.toNat) 0 out (by omega) (by omega)
    rw [show k - 1 - (rd_T44 r i).f1.toNat + 1 + (rd_T44 r i).f1.toNat = k by omega, show ((0 : Nat) : Int) = 0 from rfl, Int.add_zero] at h1
    simp only [orpimentref09_addresses.l0, show (i : Int) < (r.length : Int) by omega, if_true]
    rw [h1, addrs0_l0 r hf c _ (i + 1) _ (by omega) (by omega) (by rw [List.length_append, seg_length]; omega), hd]
    simp [addrs]
theorem addrs0_f {r : List S44} (hf : fine0 (prs r)) {k : Nat} (hk : 70000 ≤ k) : orpimentref09_addresses.f k r = some (addrs (prs r)) := by
  have hl := hf.1
  rw [prs_length] at hl
  have := addrs0_l0 r hf r.length k 0 [] (by omega) (by omega) (by simp)
  simpa [orpimentref09_addresses.f] using this

theorem seg_append (a : Int) : ∀ (c d : Nat), seg a (c + d) = seg a c ++ seg (a + c) d
  | 0, d => by simp [seg]
  | c + 1, d => by
    rw [show c + 1 + d = (c + d) + 1 by omega]
    simp only [seg, List.cons_append]
    rw [seg_append (a + 1) c d, show a + 1 + (c : Int) = a + ((c + 1 : Nat) : Int) by omega]
theorem seg_drop (a : Int) (c k : Nat) (h : k ≤ c) : (seg a c).drop k = seg (a + k) (c - k) := by
  rw [show c = k + (c - k) by omega, seg_append, List.drop_append, List.drop_eq_nil_of_le (by rw [seg_length]; omega), seg_length]
  simp
theorem seg_take (a : Int) (c k : Nat) : (seg a c).take k = seg a (min k c) := by
  rcases Nat.le_total k c with h | h
  · rw [show c = k + (c - k) by omega, seg_append, List.take_append, seg_length, Nat.min_eq_left (by omega), List.take_of_length_le (by rw [seg_length]; omega)]
    simp
  · rw [List.take_of_length_le (by rw [seg_length]; exact h), Nat.min_eq_right h]
/-- The addresses of a slice's bytes. -/
theorem addrs_sliced : ∀ (l : List (Int × Int)) (off m : Int), (∀ p ∈ l, 0 ≤ p.2) → 0 ≤ off → 0 ≤ m → addrs (slicedL l off m) = ((addrs l).drop off.toNat).take m.toNat
  | [], off, m, _, _, _ => by simp [slicedL, addrs]
  | p :: r, off, m, h, h0, h1 => by
    have hp := h p List.mem_cons_self
    have hr : ∀ q ∈ r, 0 ≤ q.2 := fun q hq => h q (List.mem_cons_of_mem _ hq)
    have hc : addrs (p :: r) = seg p.1 p.2.toNat ++ addrs r := by simp [addrs]
    simp only [slicedL]
    rw [hc]
    split
    · rw [show m.toNat = 0 by omega]; simp [addrs]
    · split
      · have hz : (seg p.1 p.2.toNat).drop off.toNat = [] := List.drop_eq_nil_of_le (by rw [seg_length]; omega)
        rw [addrs_sliced r (off - p.2) m hr (by omega) h1, List.drop_append, seg_length, hz, List.nil_append]
        congr 2
        omega
      · have ih := addrs_sliced r 0 (m - min (p.2 - off) m) hr (by omega) (by omega)
        rw [show addrs ((p.1 + off, min (p.2 - off) m) :: slicedL r 0 (m - min (p.2 - off) m)) = seg (p.1 + off) (min (p.2 - off) m).toNat ++ addrs (slicedL r 0 (m - min (p.2 - off) m)) by simp [addrs], ih]
        rw [List.drop_append, seg_length, seg_drop _ _ _ (by omega), show off.toNat - p.2.toNat = 0 by omega, List.drop_zero, List.take_append, seg_take, seg_length, Int.toNat_zero, List.drop_zero]
        rw [show p.1 + ((off.toNat : Nat) : Int) = p.1 + off by omega, show min m.toNat (p.2.toNat - off.toNat) = (min (p.2 - off) m).toNat by omega]
        congr 2
        omega
/-- One byte after the other. -/
def setL : List Value → List Int → List Value → List Value
  | ms, a :: ss, d :: ds => setL (ms.set a.toNat d) ss ds
  | ms, _, _ => ms
theorem setL_length : ∀ (ss : List Int) (ms ds : List Value), (setL ms ss ds).length = ms.length
  | [], ms, ds => by simp [setL]
  | a :: ss, ms, [] => by simp [setL]
  | a :: ss, ms, d :: ds => by simp only [setL]; rw [setL_length ss]; simp
theorem wr_cons (ms : List Value) (p : Nat) (d : Value) (vs : List Value) (h : p < ms.length) : wr (ms.set p d) (p + 1) vs = wr ms p (d :: vs) := by
  have h1 : (ms.set p d).take (p + 1) = ms.take p ++ [d] := by
    rw [List.take_succ_eq_append_getElem (by simpa using h), List.take_set, List.set_eq_of_length_le (by simp; omega)]
    simp
  have h2 : (ms.set p d).drop (p + 1 + vs.length) = ms.drop (p + 1 + vs.length) := by
    rw [List.drop_set_of_lt (by omega)]
  simp only [wr, h1, h2, List.append_assoc, List.cons_append, List.nil_append, List.length_cons]
  congr 4
  omega
theorem setL_seg : ∀ (c : Nat) (a : Int) (ms ds : List Value) (rest : List Int), 0 ≤ a → a + c ≤ ms.length → c ≤ ds.length → setL ms (seg a c ++ rest) ds = setL (wr ms a.toNat (ds.take c)) rest (ds.drop c)
  | 0, a, ms, ds, rest, _, _, _ => by simp [seg, wr]
  | c + 1, a, ms, [], rest, _, _, h => by simp at h
  | c + 1, a, ms, d :: ds, rest, h0, h1, h2 => by
    simp only [seg, List.cons_append, setL, List.take_succ_cons, List.drop_succ_cons]
    rw [setL_seg c (a + 1) _ ds rest (by omega) (by simp; omega) (by simpa using h2), show (a + 1).toNat = a.toNat + 1 by omega, wr_cons _ _ _ _ (by omega)]
theorem setL_scat : ∀ (xs : List (Int × Int)) (ms ds : List Value), (∀ x ∈ xs, 0 ≤ x.1 ∧ 1 ≤ x.2) → insideB ms.length xs = true → sumL xs ≤ ds.length → setL ms (addrs xs) ds = (scat (ms, ds) xs).1
  | [], ms, ds, _, _, _ => by simp [addrs, setL, scat]
  | x :: r, ms, ds, h, hin, hs => by
    have hx := h x List.mem_cons_self
    have hr : ∀ y ∈ r, 0 ≤ y.1 ∧ 1 ≤ y.2 := fun y hy => h y (List.mem_cons_of_mem _ hy)
    have hn := sumL_nonneg (l := r) (fun y hy => (hr y hy).2)
    simp only [insideB, List.all_cons, Bool.and_eq_true, decide_eq_true_eq] at hin
    simp only [sumL] at hs
    have hw : (wr ms x.1.toNat (ds.take x.2.toNat)).length = ms.length := wr_length (by rw [List.length_take]; omega)
    rw [show addrs (x :: r) = seg x.1 x.2.toNat ++ addrs r by simp [addrs], setL_seg _ _ _ _ _ hx.1 (by omega) (by omega)]
    rw [setL_scat r _ _ hr (by rw [hw]; exact hin.2) (by rw [List.length_drop]; omega)]
    simp [scat, scatS]
end Go.Proofs.Ytbojagkalbfenaa
