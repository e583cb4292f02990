import Derived.Test.YtbojagkalbfenaaL4
import Derived.Test.YtbojagkalbfenaaG1
namespace Go.Proofs.Ytbojagkalbfenaa
set_option linter.unusedSimpArgs false
open Go.RowKit PIovGather Go.Proofs.YtbojagkalbfenaaW.PrintWords

def seg (a : Int) : Nat → List Int
  | 0 => []
  | c + 1 => a :: seg (a + 1) c
theorem seg_length (a : Int) (c : Nat) : (seg a c).length = c := by
  induction c generalizing a with
  | zero => rfl
  | succ c ih => simp [seg, ih]
def addrs (l : List (Int × Int)) : List Int := l.flatMap fun x => seg x.1 x.2.toNat
/-- What a reference's list of parts may be. -/
def fine (l : List (Int × Int)) : Prop := l.length ≤ 16 ∧ ∀ x ∈ l, (0 ≤ x.1 ∧ x.1 ≤ 1099511631872) ∧ 1 ≤ x.2 ∧ x.2 ≤ 4096
theorem fine_sliced {l : List (Int × Int)} (h : okP l) (hl : l.length ≤ 16) {off n : Int} (h0 : 0 ≤ off) : fine (slicedL l off n) :=
  ⟨Nat.le_trans (slicedL_length l off n) hl, slicedL_mem h h0⟩

theorem addrs_l1 (r : List S44) (hf : fine (prs r)) (i : Nat) (hi : i < r.length) : ∀ (c m j : Nat) (out : List Int), j + c = (rd_T44 r i).f1.toNat → out.length + c ≤ 1000000 →
    orpimentref09_addresses.l1 (m + 1 + c) r out i j = orpimentref09_addresses.l0 m r (out ++ seg ((rd_T44 r i).f0 + j) c) ((i + 1 : Nat) : Int)
  | 0, m, j, out, hj, ho => by
    have hd := rd_prs r i hi
    have hl := hf.1
    rw [prs_length] at hl
    have hb := hf.2 ((rd_T44 r i).f0, (rd_T44 r i).f1) (List.mem_of_mem_drop (by rw [hd]; exact List.mem_cons_self))
    simp only at hb
    simp only [Nat.add_zero, orpimentref09_addresses.l1, show (0 : Int) ≤ (i : Int) by omega, show (i : Int) < (r.length : Int) by omega, show ¬ ((j : Int) < (rd_T44 r i).f1) by omega, if_true, if_false, seg, List.append_nil]
    rw [w64 (x := (i : Int) + 1) (by omega) (by omega)]
    rfl
  | c + 1, m, j, out, hj, ho => by
    have hd := rd_prs r i hi
    have hl := hf.1
    rw [prs_length] at hl
    have hb := hf.2 ((rd_T44 r i).f0, (rd_T44 r i).f1) (List.mem_of_mem_drop (by rw [hd]; exact List.mem_cons_self))
    simp only at hb
    have ih := addrs_l1 r hf i hi c m (j + 1) (out ++ [(rd_T44 r i).f0 + j]) (by omega) (by simp; omega)
    rw [show m + 1 + (c + 1) = (m + 1 + c) + 1 by omega]
    simp only [orpimentref09_addresses.l1, show (0 : Int) ≤ (i : Int) by omega, show (i : Int) < (r.length : Int) by omega, show (j : Int) < (rd_T44 r i).f1 by omega, if_true]
    rw [if_pos (by omega), w64 (x := (j : Int) + 1) (by omega) (by omega), w64 (x := (rd_T44 r i).f0 + (j : Int)) (by omega) (by omega)]
    rw [show ((j + 1 : Nat) : Int) = (j : Int) + 1 by omega] at ih
    rw [ih]
    simp only [seg, List.append_assoc, List.singleton_append]
    rw [show (rd_T44 r i).f0 + ((j : Int) + 1) = (rd_T44 r i).f0 + (j : Int) + 1 by omega]

theorem addrs_l0 (r : List S44) (hf : fine (prs r)) : ∀ (c k i : Nat) (out : List Int), i + c = r.length → 4098 * c < k → out.length ≤ 4096 * i →
    orpimentref09_addresses.l0 k r out i = some (out ++ addrs ((prs r).drop i))
  | 0, k + 1, i, out, hi, _, _ => by
    simp only [orpimentref09_addresses.l0, show ¬ ((i : Int) < (r.length : Int)) by omega, if_false]
    rw [List.drop_eq_nil_of_le (by rw [prs_length]; omega)]
    simp [addrs]
  | c + 1, k + 1, i, out, hi, hk, ho => by
    have hlt : i < r.length := by omega
    have hd := rd_prs r i hlt
    have hl := hf.1
    rw [prs_length] at hl
    have hb := hf.2 ((rd_T44 r i).f0, (rd_T44 r i).f1) (List.mem_of_mem_drop (by rw [hd]; exact List.mem_cons_self))
    simp only at hb
    have h1 := addrs_l1 r hf i hlt (rd_T44 r i).f1.toNat (k - 1 - (rd_T44 r i).f1.toNat) 0 out (by omega) (by omega)
    rw [show k - 1 - (rd_T44 r i).f1.toNat + 1 + (rd_T44 r i).f1.toNat = k by omega, show ((0 : Nat) : Int) = 0 from rfl, Int.add_zero] at h1
    simp only [orpimentref09_addresses.l0, show (i : Int) < (r.length : Int) by omega, if_true]
    rw [h1, addrs_l0 r hf c _ (i + 1) _ (by omega) (by omega) (by rw [List.length_append, seg_length]; omega), hd]
    simp [addrs]
theorem addrs_f {r : List S44} (hf : fine (prs r)) {k : Nat} (hk : 70000 ≤ k) : orpimentref09_addresses.f k r = some (addrs (prs r)) := by
  have hl := hf.1
  rw [prs_length] at hl
  have := addrs_l0 r hf r.length k 0 [] (by omega) (by omega) (by simp)
  simpa [orpimentref09_addresses.f] using this
end Go.Proofs.Ytbojagkalbfenaa
