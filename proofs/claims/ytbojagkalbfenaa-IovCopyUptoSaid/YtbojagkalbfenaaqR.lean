import Derived.Test.YtbojagkalbfenaaqL
import Derived.Test.YtbojagkalbfenaaqG
import Derived.Lib.SlBytesConst
import Derived.StillTailTactics
import Derived.Test.YtbojagkalbfenaaqA
import Derived.WalkSpells
import Derived.Deep.RegionHeld3
namespace Go.Proofs.Ytbojagkalbfenaa
set_option linter.unusedVariables false
set_option linter.unusedSimpArgs false
open Go.RowKit PIovGather Go.Proofs.YtbojagkalbfenaaW.PrintWords

def fine0 (l : List (Int × Int)) : Prop := l.length ≤ 16 ∧ ∀ x ∈ l, (0 ≤ x.1 ∧ x.1 ≤ 1099511631872) ∧ 0 ≤ x.2 ∧ x.2 ≤ 4096
theorem addrs0_l1 (r : List S44) (hf : fine0 (prs r)) (i : Nat) (hi : i < r.length) : ∀ (c m j : Nat) (out : List Int), j + c = (rd_T44 r i).f1.toNat → out.length + c ≤ 1000000 →
    orpimentref09_addresses.l1 (m + 1 + c) r out i j = orpimentref09_addresses.l0 m r (out ++ seg ((rd_T44 r i).f0 + j) c) ((i + 1 : Nat) : Int)
  | 0, m, j, out, hj, ho => by
    have hd := rd_prs r i hi
    have hl := hf.1
    rw [prs_length] at hl
    have hb := hf.2 ((rd_T44 r i).f0, (rd_T44 r i).f1) (List.mem_of_mem_drop (by rw [hd]; exact List.mem_cons_self))
    simp only at hb
    simp only [Nat.add_zero, orpimentref09_addresses.l1, show (0 : Int) ≤ (i : Int) by omega, show (i : Int) < (r.length : Int) by omega, show ¬ ((j : Int) < (rd_T44 r i).f1) by omega, if_true, if_false, seg, List.append_nil]
    rw [w64 (x := (i : Int) + 1) (by omega) (by omega)]
    rfl
  | c + 1, m, j, out, hj, ho => by
    have hd := rd_prs r i hi
    have hl := hf.1
    rw [prs_length] at hl
    have hb := hf.2 ((rd_T44 r i).f0, (rd_T44 r i).f1) (List.mem_of_mem_drop (by rw [hd]; exact List.mem_cons_self))
    simp only at hb
    have ih := addrs0_l1 r hf i hi c m (j + 1) (out ++ [(rd_T44 r i).f0 + j]) (by omega) (by simp; omega)
    rw [show m + 1 + (c + 1) = (m + 1 + c) + 1 by omega]
    simp only [orpimentref09_addresses.l1, show (0 : Int) ≤ (i : Int) by omega, show (i : Int) < (r.length : Int) by omega, show (j : Int) < (rd_T44 r i).f1 by omega, if_true]
    rw [if_pos (by omega), w64 (x := (j : Int) + 1) (by omega) (by omega), w64 (x := (rd_T44 r i).f0 + (j : Int)) (by omega) (by omega)]
    rw [show ((j + 1 : Nat) : Int) = (j : Int) + 1 by omega] at ih
    rw [ih]
    simp only [seg, List.append_assoc, List.singleton_append]
    rw [show (rd_T44 r i).f0 + ((j : Int) + 1) = (rd_T44 r i).f0 + (j : Int) + 1 by omega]

theorem addrs0_l0 (r : List S44) (hf : fine0 (prs r)) : ∀ (c k i : Nat) (out : List Int), i + c = r.length → 4098 * c < k → out.length ≤ 4096 * i →
    orpimentref09_addresses.l0 k r out i = some (out ++ addrs ((prs r).drop i))
  | 0, k + 1, i, out, hi, _, _ => by
    simp only [orpimentref09_addresses.l0, show ¬ ((i : Int) < (r.length : Int)) by omega, if_false]
    rw [List.drop_eq_nil_of_le (by rw [prs_length]; omega)]
    simp [addrs]
  | c + 1, k + 1, i, out, hi, hk, ho => by
    have hlt : i < r.length := by omega
    have hd := rd_prs r i hlt
    have hl := hf.1
    rw [prs_length] at hl
    have hb := hf.2 ((rd_T44 r i).f0, (rd_T44 r i).f1) (List.mem_of_mem_drop (by rw [hd]; exact List.mem_cons_self))
    simp only at hb
    have h1 := addrs0_l1 r hf i hlt (rd_T44 r i).f1.toNat (k - 1 - (rd_T44 r i).f1.toNat) 0 out (by omega) (by omega)
    rw [show k - 1 - (rd_T44 r i).f1.toNat + 1 + (rd_T44 r i).f1.toNat = k by omega, show ((0 : Nat) : Int) = 0 from rfl, Int.add_zero] at h1
    simp only [orpimentref09_addresses.l0, show (i : Int) < (r.length : Int) by omega, if_true]
    rw [h1, addrs0_l0 r hf c _ (i + 1) _ (by omega) (by omega) (by rw [List.length_append, seg_length]; omega), hd]
    simp [addrs]
theorem addrs0_f {r : List S44} (hf : fine0 (prs r)) {k : Nat} (hk : 70000 ≤ k) : orpimentref09_addresses.f k r = some (addrs (prs r)) := by
  have hl := hf.1
  rw [prs_length] at hl
  have := addrs0_l0 r hf r.length k 0 [] (by omega) (by omega) (by simp)
  simpa [orpimentref09_addresses.f] using this

theorem seg_append (a : Int) : ∀ (c d : Nat), seg a (c + d) = seg a c ++ seg (a + c) d
  | 0, d => by simp [seg]
  | c + 1, d => by
    rw [show c + 1 + d = (c + d) + 1 by omega]
    simp only [seg, List.cons_append]
    rw [seg_append (a + 1) c d, show a + 1 + (c : Int) = a + ((c + 1 : Nat) : Int) by omega]
theorem seg_drop (a : Int) (c k : Nat) (h : k ≤ c) : (seg a c).drop k = seg (a + k) (c - k) := by
  rw [show c = k + (c - k) by omega, seg_append, List.drop_append, List.drop_eq_nil_of_le (by rw [seg_length]; omega), seg_length]
  simp
theorem seg_take (a : Int) (c k : Nat) : (seg a c).take k = seg a (min k c) := by
  rcases Nat.le_total k c with h | h
  · rw [show c = k + (c - k) by omega, seg_append, List.take_append, seg_length, Nat.min_eq_left (by omega), List.take_of_length_le (by rw [seg_length]; omega)]
    simp
  · rw [List.take_of_length_le (by rw [seg_length]; exact h), Nat.min_eq_right h]
/-- The addresses of a slice's bytes. -/
theorem addrs_sliced : ∀ (l : List (Int × Int)) (off m : Int), (∀ p ∈ l, 0 ≤ p.2) → 0 ≤ off → 0 ≤ m → addrs (slicedL l off m) = ((addrs l).drop off.toNat).take m.toNat
  | [], off, m, _, _, _ => by simp [slicedL, addrs]
  | p :: r, off, m, h, h0, h1 => by
    have hp := h p List.mem_cons_self
    have hr : ∀ q ∈ r, 0 ≤ q.2 := fun q hq => h q (List.mem_cons_of_mem _ hq)
    have hc : addrs (p :: r) = seg p.1 p.2.toNat ++ addrs r := by simp [addrs]
    simp only [slicedL]
    rw [hc]
    split
    · rw [show m.toNat = 0 by omega]; simp [addrs]
    · split
      · have hz : (seg p.1 p.2.toNat).drop off.toNat = [] := List.drop_eq_nil_of_le (by rw [seg_length]; omega)
        rw [addrs_sliced r (off - p.2) m hr (by omega) h1, List.drop_append, seg_length, hz, List.nil_append]
        congr 2
        omega
      · have ih := addrs_sliced r 0 (m - min (p.2 - off) m) hr (by omega) (by omega)
        rw [show addrs ((p.1 + off, min (p.2 - off) m) :: slicedL r 0 (m - min (p.2 - off) m)) = seg (p.1 + off) (min (p.2 - off) m).toNat ++ addrs (slicedL r 0 (m - min (p.2 - off) m)) by simp [addrs], ih]
        rw [List.drop_append, seg_length, seg_drop _ _ _ (by omega), show off.toNat - p.2.toNat = 0 by omega, List.drop_zero, List.take_append, seg_take, seg_length, Int.toNat_zero, List.drop_zero]
        rw [show p.1 + ((off.toNat : Nat) : Int) = p.1 + off by omega, show min m.toNat (p.2.toNat - off.toNat) = (min (p.2 - off) m).toNat by omega]
        congr 2
        omega
/-- One byte after the other. -/
def setL : List Value → List Int → List Value → List Value
  | ms, a :: ss, d :: ds => setL (ms.set a.toNat d) ss ds
  | ms, _, _ => ms
theorem setL_length : ∀ (ss : List Int) (ms ds : List Value), (setL ms ss ds).length = ms.length
  | [], ms, ds => by simp [setL]
  | a :: ss, ms, [] => by simp [setL]
  | a :: ss, ms, d :: ds => by simp only [setL]; rw [setL_length ss]; simp
theorem wr_cons (ms : List Value) (p : Nat) (d : Value) (vs : List Value) (h : p < ms.length) : wr (ms.set p d) (p + 1) vs = wr ms p (d :: vs) := by
  have h1 : (ms.set p d).take (p + 1) = ms.take p ++ [d] := by
    rw [List.take_succ_eq_append_getElem (by simpa using h), List.take_set, List.set_eq_of_length_le (by simp; omega)]
    simp
  have h2 : (ms.set p d).drop (p + 1 + vs.length) = ms.drop (p + 1 + vs.length) := by
    rw [List.drop_set_of_lt (by omega)]
  simp only [wr, h1, h2, List.append_assoc, List.cons_append, List.nil_append, List.length_cons]
  congr 4
  omega
theorem setL_seg : ∀ (c : Nat) (a : Int) (ms ds : List Value) (rest : List Int), 0 ≤ a → a + c ≤ ms.length → c ≤ ds.length → setL ms (seg a c ++ rest) ds = setL (wr ms a.toNat (ds.take c)) rest (ds.drop c)
  | 0, a, ms, ds, rest, _, _, _ => by simp [seg, wr]
  | c + 1, a, ms, [], rest, _, _, h => by simp at h
  | c + 1, a, ms, d :: ds, rest, h0, h1, h2 => by
    simp only [seg, List.cons_append, setL, List.take_succ_cons, List.drop_succ_cons]
    rw [setL_seg c (a + 1) _ ds rest (by omega) (by simp; omega) (by simpa using h2), show (a + 1).toNat = a.toNat + 1 by omega, wr_cons _ _ _ _ (by omega)]
theorem setL_scat : ∀ (xs : List (Int × Int)) (ms ds : List Value), (∀ x ∈ xs, 0 ≤ x.1 ∧ 1 ≤ x.2) → insideB ms.length xs = true → sumL xs ≤ ds.length → setL ms (addrs xs) ds = (scat (ms, ds) xs).1
  | [], ms, ds, _, _, _ => by simp [addrs, setL, scat]
  | x :: r, ms, ds, h, hin, hs => by
    have hx := h x List.mem_cons_self
    have hr : ∀ y ∈ r, 0 ≤ y.1 ∧ 1 ≤ y.2 := fun y hy => h y (List.mem_cons_of_mem _ hy)
    have hn := sumL_nonneg (l := r) (fun y hy => (hr y hy).2)
    simp only [insideB, List.all_cons, Bool.and_eq_true, decide_eq_true_eq] at hin
    simp only [sumL] at hs
    have hw : (wr ms x.1.toNat (ds.take x.2.toNat)).length = ms.length := wr_length (by rw [List.length_take]; omega)
    rw [show addrs (x :: r) = seg x.1 x.2.toNat ++ addrs r by simp [addrs], setL_seg _ _ _ _ _ hx.1 (by omega) (by omega)]
    rw [setL_scat r _ _ hr (by rw [hw]; exact hin.2) (by rw [List.length_drop]; omega)]
    simp [scat, scatS]
end Go.Proofs.Ytbojagkalbfenaa
namespace Go.Proofs.Ytbojagkalbfenaa
open Go.RowKit PIovGather Go.Proofs.YtbojagkalbfenaaW.PrintWords
attribute [local go_sem] ints_get ints_size ints_getElem

def l3 : List S44 := [⟨4, 2⟩, ⟨0, 0⟩, ⟨1, 3⟩]
theorem V3 {W : World} {g base : Nat} {t : TypeId} {fr : Nat × Nat} (h : W.heap[g]? = some (.cells #[.int .i64 4, .int .i64 2, .int .i64 0, .int .i64 0, .int .i64 1, .int .i64 3] t fr)) :
    Kd.V k44 44 W base (fun k => k = g) (.slice (some ⟨g, 0, none⟩) l3.length 3) l3 := by
  refine Kd.V_mk (by decide) (fun W' hW' => ⟨rfl, by decide, fun _ => ⟨_, rfl, fun j p hj => ?_⟩⟩)
  have hg := (hW' g rfl (Array.getElem?_eq_some_iff.1 h).1).trans h
  have hc : ∀ i, W'.cell? ⟨g, i, none⟩ = (#[.int .i64 4, .int .i64 2, .int .i64 0, .int .i64 0, .int .i64 1, .int .i64 3] : Array Value)[i]? := fun i => cell_of_row _ _ _ _ _ _ hg
  refine ⟨[.int .i64 p.f0, .int .i64 p.f1], rfl, k44_mk _ _, fun i u hi => ?_⟩
  rw [add_at, hc]
  match j, hj with
  | 0, hj => cases hj; match i, hi with
    | 0, hi => exact hi
    | 1, hi => exact hi
    | i + 2, hi => simp at hi
  | 1, hj => cases hj; match i, hi with
    | 0, hi => exact hi
    | 1, hi => exact hi
    | i + 2, hi => simp at hi
  | 2, hj => cases hj; match i, hi with
    | 0, hi => exact hi
    | 1, hi => exact hi
    | i + 2, hi => simp at hi
  | j + 3, hj => simp [l3] at hj

theorem wth3 : wth (prs l3) 0 5 = 0 := by decide
theorem gcode3 : gcode 8 (prs l3) 0 5 = 0 := by decide
theorem length3 (w : World) (base : Nat) (h : Kd.V k44 44 w w.heap.size (fun k => k = base) (.slice (some ⟨base, 0, none⟩) l3.length 3) l3) : Calls Try.prog 18 #[.slice (some ⟨base, 0, none⟩) 3 3] w fun e w' => e = .returned (.tuple #[.int .i64 5, .int .i64 0]) ∧ Below w.heap.size w w' := by
  refine iov_Length.calls 60 _ _ 3 l3 5 0 w h ?_
  rw [iov_Length.f, check_f l3 (by omega), Option.bind_some, if_pos (by decide), total_f (by rw [← okB_iff]; decide) (by decide) (by omega)]
  rfl
def abc : List Value := [.int .u8 97, .int .u8 98, .int .u8 99, .int .u8 100, .int .u8 101, .int .u8 102, .int .u8 103, .int .u8 104]
theorem mem_abc {W : World} {g : Nat} {t : TypeId} {fr : Nat × Nat} (h : W.heap[g]? = some (.cells #[.int .u8 97, .int .u8 98, .int .u8 99, .int .u8 100, .int .u8 101, .int .u8 102, .int .u8 103, .int .u8 104] t fr)) : Mem W (some ⟨g, 0, none⟩) abc :=
  ⟨fun j u hj => ⟨_, rfl, (Array.getElem?_eq_some_iff.1 h).1, by
    rw [add_at, cell_of_row _ _ _ _ _ _ h]
    simpa [abc] using hj⟩, by decide⟩
theorem gres3 : gres abc (prs l3) 0 5 = [.int .u8 101, .int .u8 102, .int .u8 98, .int .u8 99, .int .u8 100] := by
  unfold gres
  rw [if_pos (by exact gcode3)]
  rfl
theorem gather3 (w : World) (g b : Nat) (hm : Mem w (some ⟨g, 0, none⟩) abc) (h : Kd.V k44 44 w w.heap.size (fun k => k = b) (.slice (some ⟨b, 0, none⟩) l3.length 3) l3) (hb : b < w.heap.size) :
    Calls Try.prog 12 #[.slice (some ⟨g, 0, none⟩) 8 8, .slice (some ⟨b, 0, none⟩) 3 3, .int .i64 0, .int .i64 5] w fun e w' => ∃ v, e = .returned (.tuple #[v, .int .i64 0]) ∧ w'.ownsRow w.heap.size 5 1 v 5 [.int .u8 101, .int .u8 102, .int .u8 98, .int .u8 99, .int .u8 100] ∧ Below w.heap.size w w' := by
  have := gatherF (some ⟨g, 0, none⟩) abc 8 (some ⟨b, 0, none⟩) 3 l3 0 5 _ w hm h (by rintro ad ⟨⟩; exact hb) (by decide) (by decide)
  rw [gres3] at this
  refine this.mono ?_
  rintro e w' ⟨v, rfl, h2, h3⟩
  exact ⟨v, by rw [show gcode abc.length (prs l3) 0 5 = 0 from gcode3], h2, h3⟩
end Go.Proofs.Ytbojagkalbfenaa
namespace Go.Proofs.Ytbojagkalbfenaa
open Go.RowKit PIovGather Go.Proofs.YtbojagkalbfenaaW.PrintWords
attribute [local go_sem] ints_get ints_size ints_getElem
theorem heap_kept {w w1 : World} {g : Nat} {o : Obj} (h : w.heap[g]? = some o) (hb : Below w.heap.size w w1) : w1.heap[g]? = some o :=
  (hb.block g (Array.getElem?_eq_some_iff.1 h).1).trans h

theorem str5 : strOfNums [101, 102, 98, 99, 100] = ⟨#[101, 102, 98, 99, 100]⟩ := by rfl
theorem conv_row {W : World} {base g cap : Nat} (h : W.ownsRow base 5 1 (.slice (some ⟨g, 0, none⟩) 5 cap) 5 [.int .u8 101, .int .u8 102, .int .u8 98, .int .u8 99, .int .u8 100]) :
    (convert 22 9 (.slice (some ⟨g, 0, none⟩) 5 cap)).run Try.prog W = .ok (.string ⟨#[101, 102, 98, 99, 100]⟩) W := by
  rw [← str5]
  refine run_convert_bytes_arg (P := Try.prog) W 22 5 Try.underlying22 Try.underlying5 g 0 5 cap [101, 102, 98, 99, 100] rfl (fun i hi => ?_) 9 Try.underlying9
  have := h.cells (g := g) rfl i (.int .u8 (([101, 102, 98, 99, 100] : List Int).getD i 0)) (by match i, hi with | 0, _ => rfl | 1, _ => rfl | 2, _ => rfl | 3, _ => rfl | 4, _ => rfl)
  rwa [add_at] at this
set_option maxRecDepth 100000 in
theorem awake_calls (w : World) : Calls Try.prog 11 #[] w fun e w' => e = .returned (.bool true) ∧ Below w.heap.size w w' := by
  go_enter Try.func11, Try.ntmps11
  have h0 := heap_alloc_new w (.cells #[.int .i64 4, .int .i64 2, .int .i64 0, .int .i64 0, .int .i64 1, .int .i64 3] 44)
  have hs : w.heap.size < (w.alloc (.cells #[.int .i64 4, .int .i64 2, .int .i64 0, .int .i64 0, .int .i64 1, .int .i64 3] 44)).heap.size := by simp
  have HB := Lib.hid ((Below.refl w.heap.size w).alloc (Nat.le_refl _) (.cells #[.int .i64 4, .int .i64 2, .int .i64 0, .int .i64 0, .int .i64 1, .int .i64 3] 44))
  have HF := Lib.hid h0
  clear h0
  go_wp2_with (first
    | (go_at_call 18; refine (length3 _ _ (V3 HF.out)).mono ?_; rintro e w1 ⟨rfl, hb1⟩; have HF1 := Lib.hid (heap_kept HF.out hb1); replace HB := Lib.hid (below_then' HB.out hb1); have hs1 := Nat.lt_of_lt_of_le hs hb1.size; have hcv := Lib.run_convert_bytes_const (P := Try.prog) w1 22 5 #[.int .u8 97, .int .u8 98, .int .u8 99, .int .u8 100, .int .u8 101, .int .u8 102, .int .u8 103, .int .u8 104] 8 8 Try.underlying22 Try.underlying5; clear hb1)
    | (go_at_call 12; refine (gather3 _ _ _ (mem_abc (heap_alloc_new _ _)) (V3 (by rw [Below.heap_alloc _ _ _ (by omega)]; exact HF1.out)) (by simp; omega)).mono ?_; rintro e w2 ⟨v, rfl, ho, hb2⟩; obtain ⟨g', cap', rfl⟩ := ownsRow_pos ho (by omega); have hcs := conv_row ho; replace HB := Lib.hid (below_then' (HB.out.alloc HB.out.size _) hb2); clear hb2))
  go_ret
  exact ⟨rfl, HB.out⟩
end Go.Proofs.Ytbojagkalbfenaa
namespace Go.Proofs.Ytbojagkalbfenaa
open Go.RowKit PIovGather Go.Proofs.YtbojagkalbfenaaW.PrintWords

def byts (l : List Int) : List Value := l.map (Value.int .u8)
theorem mem_of_C {w : World} {M : Option Addr} {ms : List Int} (h : Kd.C (Kd.int .u8) w M ms.length ms) : Mem w M (byts ms) := by
  refine ⟨fun j u hj => ?_, fun u hu => ?_⟩
  · obtain ⟨p, hp, rfl⟩ : ∃ p, ms[j]? = some p ∧ Value.int .u8 p = u := by simpa [byts] using hj
    have hlt := (List.getElem?_eq_some_iff.1 hp).1
    obtain ⟨ad, e, hc⟩ := h.2.2 (by omega)
    obtain ⟨c, hl, hK, hcell⟩ := hc j p hp
    obtain rfl : c = [Value.int .u8 p] := hK
    have hq := hcell 0 _ rfl
    have hq' : w.cell? (ad.add j) = some (.int .u8 p) := by simpa [Kd.int, Kd.scalar] using hq
    have hb := World.block_lt_of_cell? _ _ hq'
    exact ⟨ad, e, by rwa [add_block] at hb, hq'⟩
  · obtain ⟨p, _, rfl⟩ := List.mem_map.1 hu
    rfl
theorem C_of_own {w : World} {base : Nat} {v : Value} {ms : List Int} (h : w.ownsRow base 5 1 v ms.length (byts ms)) : ∃ A c, v = .slice A ms.length c ∧ ms.length ≤ c ∧ Kd.C (Kd.int .u8) w A ms.length ms := by
  rcases h.2 with ⟨rfl, h0⟩ | ⟨g, cap, cur, rfl, _, _, hc, hm, _⟩
  · exact ⟨none, 0, by rw [h0], by omega, rfl, by omega, fun hp => by omega⟩
  · refine ⟨_, cap, rfl, hc, rfl, by simp only [maxLen] at hm; omega, fun _ => ⟨_, rfl, fun j p hp => ⟨[.int .u8 p], rfl, rfl, fun i u hi => ?_⟩⟩⟩
    have hlt := (List.getElem?_eq_some_iff.1 hp).1
    match i, hi with
    | 0, hi =>
      cases hi
      have := h.cells (g := g) rfl j (.int .u8 p) (by simp [byts, hp])
      simpa [Kd.int, Kd.scalar] using this
    | i + 1, hi => simp at hi
end Go.Proofs.Ytbojagkalbfenaa
namespace Go.Proofs.Ytbojagkalbfenaa
set_option linter.unusedVariables false
set_option linter.unusedSimpArgs false
open Go.RowKit PIovGather Go.Proofs.YtbojagkalbfenaaW.PrintWords
attribute [local go_sem] ints_get ints_size ints_getElem

theorem results_tmp3 {fn : Func} {p q r : Tmp} (h : fn.results = #[.tmp p, .tmp q, .tmp r]) (tmps : Array Value) (P : Program) (w : World) : (results fn tmps).run P w = .ok (.tuple #[tmps.getD p undef, tmps.getD q undef, tmps.getD r undef]) w := by
  simp [results, h]
theorem setL_snoc : ∀ (ss : List Int) (ms ds : List Value) (k : Nat) (hk : k < ss.length) (hd : k < ds.length), setL ms (ss.take (k + 1)) ds = (setL ms (ss.take k) ds).set (ss[k]'hk).toNat (ds[k]'hd)
  | a :: ss, ms, d :: ds, 0, _, _ => by simp [setL]
  | a :: ss, ms, d :: ds, k + 1, hk, hd => by
    simp only [List.take_succ_cons, setL, List.getElem_cons_succ]
    exact setL_snoc ss _ ds k (by simpa using hk) (by simpa using hd)
theorem addrs_len : ∀ {l : List (Int × Int)}, (∀ p ∈ l, 0 ≤ p.2) → ((addrs l).length : Int) = sumL l
  | [], _ => by simp [addrs, sumL]
  | p :: r, h => by
    have ih := addrs_len (l := r) (fun q hq => h q (List.mem_cons_of_mem _ hq))
    have hp := h p List.mem_cons_self
    simp only [addrs, List.flatMap_cons, List.length_append, seg_length, sumL] at ih ⊢
    omega
theorem addrs_all {n : Nat} {xs : List (Int × Int)} (h : ∀ x ∈ xs, 0 ≤ x.1 ∧ 1 ≤ x.2) (hin : insideB n xs = true) : ∀ a ∈ addrs xs, 0 ≤ a ∧ a < n := by
  have h1 := addrs_inside n xs (fun x hx => (h x hx).2)
  rw [hin, List.all_eq_true] at h1
  intro a ha
  refine ⟨?_, by simpa using h1 a ha⟩
  obtain ⟨x, hx, hy⟩ := List.mem_flatMap.1 ha
  have := seg_mem _ _ a hy
  have := (h x hx).1
  omega
theorem scode_def (nm dl : Nat) (l : List S44) (off : Int) : scode nm dl l off = if chk (prs l) = 0 then (if off < 0 ∨ sumL (prs l) < off then 34 else if insideB nm (slicedL (prs l) off (sN l off dl)) = true then 0 else 11) else chk (prs l) := by
  unfold scode wth
  by_cases h : chk (prs l) = 0
  · rw [if_pos h, if_pos h]
    by_cases g : off < 0 ∨ sumL (prs l) < off
    · rw [if_pos (show off < 0 ∨ (0 : Int) < 0 ∨ sumL (prs l) < off ∨ sumL (prs l) - off < 0 by omega), if_pos g, if_neg (by decide)]
    · rw [if_neg (show ¬ (off < 0 ∨ (0 : Int) < 0 ∨ sumL (prs l) < off ∨ sumL (prs l) - off < 0) by omega), if_neg g, if_pos rfl]
  · rw [if_neg h, if_neg h, if_neg h]

/-- append([]byte{}, bytes...): whatever the bytes' slice is. -/
theorem wpList_append_bytes {ops : Array Oper} {rest : List Oper} {o : Oper} {a : Act} {W : World} {Q : Exit → Act → World → Prop} (hgd : o.guard = none) (s x : Operand)
    (ho : o.op = .call { callee := .builtin .append, args := #[s, x], argTypes := #[22, 22] }) (g : Nat) (hs : a.eval s = .slice (some ⟨g, 0, none⟩) 0 0) (M : Option Addr) (mc : Nat) (ms : List Value) (n : Nat) (hx : a.eval x = .slice M n mc) (hn : n = ms.length)
    (hrow : W.ownsRow g 5 1 (.slice (some ⟨g, 0, none⟩) 0 0) 0 []) (hm : Mem W M ms) (hl : ms.length ≤ 1099511627776) (hg : g ≤ W.heap.size)
    (h : ∀ v' w', w'.ownsRow g 5 1 v' ms.length ms → Below g W w' → wpList Try.prog ops Q rest (a.put o.dst v') w') : wpList Try.prog ops Q (o :: rest) a W := by
  subst hn
  obtain ⟨i0, hi0, hz0, hz1, hz2⟩ := info_parts (P := Try.prog) (e := 5) (z := .int .u8 0) (size := 1) (bytes := 1) (by kernel_rfl)
  by_cases h0 : ms = []
  · subst h0
    refine wpList_plain hgd fun K hK => ?_
    have := hK _ _ (h _ _ hrow (Below.refl _ _))
    unfold Oper.wp
    cases M <;> simp [execOp, ho, resolve, invoke, builtin, hs, hx, Builtin.append, run_underlying Try.underlying22, Result.andThen] <;> exact this
  · obtain ⟨ad, rfl⟩ : ∃ ad, M = some ad := by
      obtain ⟨ad, e, _⟩ := hm.cell 0 (ms[0]'(List.length_pos_iff.2 h0)) (List.getElem?_eq_getElem _)
      exact ⟨ad, e⟩
    refine wpList_append_own _ hgd s x 22 ho g 5 i0 (.int .u8 0) 1 1 Try.underlying22 hi0 hz0 hz1 hz2 rfl (by omega) _ 0 [] hs hrow ad ms.length mc ms hx (by omega) (fun j u hj => by obtain ⟨ad', e, hlt, hc⟩ := hm.cell j u hj; cases e; exact hc) hm.one (by simp only [maxLen]; omega) (by omega) hg ?_
    intro v' w2 hown hgrow _
    exact h v' w2 (by simpa using hown) ((Below.refl _ _).grown hgrow hg (fun k hk => by cases hk; exact Nat.le_refl _))
/-- inside of addresses. -/
theorem inside_at {W : World} {M A : Option Addr} {mc n c : Nat} {ms ss : List Int} {r : Bool} (hM : Kd.C (Kd.int .u8) W M ms.length ms) (hmc : ms.length ≤ mc) (hA : Kd.C (Kd.int .i64) W A n ss) (hc : n ≤ c) (h : orpimentref09_inside.f 70000 ms ss = some r) :
    Calls Try.prog 37 #[.slice M ms.length mc, .slice A n c] W fun e w' => e = .returned (.bool r) ∧ Below W.heap.size W w' := by
  have hn := hA.1
  subst hn
  exact (orpimentref09_inside.calls 70000 M mc ms A c ss r W hM hmc hA hc h).mono (by rintro e w' ⟨rfl, hd⟩; exact ⟨rfl, hd.below⟩)

theorem drop64 {W : World} {A : Option Addr} {aa : List Int} {o c : Nat} (h : Kd.C (Kd.int .i64) W A aa.length aa) (ho : o ≤ aa.length) (hc : aa.length ≤ c) : Kd.C (Kd.int .i64) W (if c = o then A else A.map (fun x => x.add o)) (aa.drop o).length (aa.drop o) := by
  have := Kd.C_drop h ho hc
  rwa [show o * (Kd.int .i64).sz = o from Nat.mul_one o] at this
theorem cv64 {W : World} {A B : Option Addr} {n : Nat} {xs : List Int} (h : Kd.C (Kd.int .i64) W B n xs) (e : A = B) : Kd.C (Kd.int .i64) W A n xs := e ▸ h
theorem ats_of {W : World} {A : Option Addr} {aa ss : List Int} {o k n : Nat} (h : Kd.C (Kd.int .i64) W A (aa.drop o).length (aa.drop o)) (hx : ss = (aa.drop o).take k) (hn : n = min k (aa.length - o)) : Kd.C (Kd.int .i64) W A n ss := by
  have h1 := Kd.C_take (m := min k (aa.length - o)) h (by rw [List.length_drop]; omega)
  have e : (aa.drop o).take (min k (aa.length - o)) = ss := by
    rw [hx]
    rcases Nat.le_total k (aa.length - o) with hk | hk
    · rw [Nat.min_eq_left hk]
    · rw [Nat.min_eq_right hk, List.take_of_length_le (by rw [List.length_drop]; omega), List.take_of_length_le (by rw [List.length_drop]; omega)]
  rw [e] at h1
  rwa [show ss.length = n by rw [hn, hx, List.length_take, List.length_drop]] at h1
theorem own_set' {w : World} {base : Nat} {e : TypeId} {size n g cap : Nat} {xs : List Value} (h : w.ownsRow base e size (.slice (some ⟨g, 0, none⟩) n cap) n xs) (j : Nat) (hj : j < n * size) (u : Value) :
    (w.setCell ⟨g, j, none⟩ u).ownsRow base e size (.slice (some ⟨g, 0, none⟩) n cap) n (xs.set j u) := by
  obtain ⟨h1, h2⟩ := h
  refine ⟨by rw [List.length_set]; exact h1, ?_⟩
  rcases h2 with ⟨h2, _⟩ | ⟨g', cap', cur, he, hb, hh, hn, hm, hs, ht⟩
  · cases h2
  · injection he with ha _ hc
    injection ha with ha
    injection ha with hg
    subst hg; subst hc
    refine .inr ⟨g, cap, cur.setIfInBounds j u, rfl, hb, blk_set hh j u, hn, hm, by rw [Array.size_setIfInBounds]; exact hs, ?_⟩
    rw [Array.toList_setIfInBounds, List.take_set, ht]
/-- inside of addresses, the addresses kept. -/
theorem inside_at2 {W : World} {M A : Option Addr} {mc n c : Nat} {ms ss : List Int} {r : Bool} (hM : Kd.C (Kd.int .u8) W M ms.length ms) (hmc : ms.length ≤ mc) (hA : Kd.C (Kd.int .i64) W A n ss) (hc : n ≤ c) (h : orpimentref09_inside.f 70000 ms ss = some r) :
    Calls Try.prog 37 #[.slice M ms.length mc, .slice A n c] W fun e w' => e = .returned (.bool r) ∧ Below W.heap.size W w' ∧ Kd.C (Kd.int .i64) w' A n ss := by
  exact (inside_at hM hmc hA hc h).mono (by rintro e w' ⟨rfl, hd⟩; exact ⟨rfl, hd, Kd.C_below hA hd⟩)
theorem ownsRow_slice {W : World} {base : Nat} {e : TypeId} {size n : Nat} {v : Value} {xs : List Value} (h : W.ownsRow base e size v n xs) : ∃ A c, v = .slice A n c := by
  rcases h.2 with ⟨rfl, rfl⟩ | ⟨g, c, _, rfl, _⟩
  · exact ⟨_, _, rfl⟩
  · exact ⟨_, _, rfl⟩
theorem setL_at {ms ds : List Value} {ss : List Int} {k : Nat} (hk : k < ss.length) (hd : k < ds.length) : setL ms (ss.take (k + 1)) ds = (setL ms (ss.take k) ds).set (rd ss k).toNat (ds[k]'hd) := by
  rw [setL_snoc ss ms ds k hk hd]
  congr 2
  simp [rd, rdOf, List.getD_eq_getElem?_getD, List.getElem?_eq_getElem hk]
theorem setL_cut : ∀ (ss : List Int) (ms ds : List Value) (k : Nat), ss.length ≤ k → setL ms ss (ds.take k) = setL ms ss ds
  | [], ms, ds, k, _ => by simp [setL]
  | a :: ss, ms, [], k, _ => by simp
  | a :: ss, ms, d :: ds, 0, h => by simp at h
  | a :: ss, ms, d :: ds, k + 1, h => by
    simp only [List.take_succ_cons, setL]
    exact setL_cut ss _ ds k (by simpa using h)
/-- What the reference's Scattered answers. -/
def SPost (ms ds : List Int) (l : List S44) (off : Int) (w : World) (e : Ending) (w' : World) : Prop :=
  ∃ v, e = .returned (.tuple #[v, .int .i64 (snum ms.length ds.length l off), .int .i64 (scode ms.length ds.length l off)]) ∧
      (scode ms.length ds.length l off = 0 → w'.ownsRow w.heap.size 5 1 v ms.length (smem (byts ms) (byts ds) l off)) ∧ Below w.heap.size w w'
theorem SPost.bad {ms ds : List Int} {l : List S44} {off : Int} {w w' : World} {e : Ending} {c : Int} (v : Value) (hc : scode ms.length ds.length l off = c) (h0 : c ≠ 0) (he : e = .returned (.tuple #[v, .int .i64 0, .int .i64 c])) (hb : Below w.heap.size w w') : SPost ms ds l off w e w' := by
  have hs : snum ms.length ds.length l off = 0 := by unfold snum; rw [if_neg (by rw [hc]; exact h0)]
  exact ⟨v, by rw [hs, hc]; exact he, fun h => absurd (hc ▸ h) h0, hb⟩
theorem SPost.good {ms ds : List Int} {l : List S44} {off : Int} {w w' : World} {e : Ending} (v : Value) (hc : scode ms.length ds.length l off = 0) (he : e = .returned (.tuple #[v, .int .i64 (sN l off ds.length), .int .i64 0])) (ho : w'.ownsRow w.heap.size 5 1 v ms.length (smem (byts ms) (byts ds) l off)) (hb : Below w.heap.size w w') : SPost ms ds l off w e w' := by
  have hs : snum ms.length ds.length l off = sN l off ds.length := if_pos hc
  exact ⟨v, by rw [hs, hc]; exact he, fun _ => ho, hb⟩
set_option maxHeartbeats 2000000 in
set_option maxRecDepth 100000 in
theorem scattered_calls (M : Option Addr) (mc : Nat) (ms : List Int) (A : Option Addr) (cap : Nat) (l : List S44) (off : Int) (D : Option Addr) (dcap : Nat) (ds : List Int) (w : World)
    (hM : Kd.C (Kd.int .u8) w M ms.length ms) (hmc : ms.length ≤ mc) (hm6 : ms.length ≤ 1000000) (hL : Kd.C k44 w A l.length l) (hcap : l.length ≤ cap) (hD : Kd.C (Kd.int .u8) w D ds.length ds) (hdc : ds.length ≤ dcap) (hd6 : ds.length ≤ 1000000) :
    Calls Try.prog 27 #[.slice M ms.length mc, .slice A l.length cap, .int .i64 off, .slice D ds.length dcap] w fun e w' => SPost ms ds l off w e w' := by
  have HM := Lib.hid hM
  have HL := Lib.hid hL
  have HD := Lib.hid hD
  have HB := Lib.hid (Below.refl w.heap.size w)
  clear hM hL hD
  have hrl := rlen_f l (k := 60) (by omega)
  go_enter Try.func27, Try.ntmps27
  by_cases hck : chk (prs l) = 0
  · rw [if_pos hck, hck] at hrl
    obtain ⟨h1, h2, h3, h4⟩ := chk_zero hck
    by_cases ho : off < 0 ∨ sumL (prs l) < off
    · have hc : scode ms.length ds.length l off = 34 := by rw [scode_def, if_pos hck, if_pos ho]
      have HC := Lib.hid hc
      clear hc
      have HRL := Lib.hid hrl
      clear hrl h1
      rcases ho with ho | ho
      all_goals
        go_wp2_with (first
          | (go_at_call 19; refine (orpimentref09_Length.calls 60 A cap l _ _ _ (Kd.C_below HL.out HB.out) hcap HRL.out).mono ?_; rintro e w1 ⟨rfl, hd⟩; replace HB := Lib.hid (below_then' HB.out hd); clear hd))
      all_goals exact bodyPost_ret (results_tmp3 rfl _ _ _) rfl (SPost.bad _ HC.out (by decide) rfl HB.out)
    · have h0 : 0 ≤ off := by omega
      have hos : off ≤ sumL (prs l) := by omega
      have hN0 : 0 ≤ sN l off ds.length := by unfold sN; split <;> omega
      have hlen : ((addrs (prs l)).length : Int) = sumL (prs l) := addrs_len (fun p hp => (h1 p hp).2.1)
      have hats := addrs_sliced (prs l) off (sN l off ds.length) (fun p hp => (h1 p hp).2.1) h0 hN0
      have hfin := fine_sliced (n := sN l off ds.length) h1 h2 h0
      have haf := addrs0_f (r := l) ⟨h2, fun x hx => ⟨by have := (h1 x hx).1; omega, (h1 x hx).2⟩⟩ (k := 70000) (by omega)
      have hrin := rinside_f hfin ms (k := 70000) (by omega)
      have HRL := Lib.hid (And.intro hrl (And.intro haf hrin))
      have HX := Lib.hid (And.intro hats (And.intro hfin h1))
      clear hrl haf hrin hats hfin h1
      have hoi : off ≤ ((addrs (prs l)).length : Int) := by omega
      have hon : off.toNat ≤ (addrs (prs l)).length := by omega
      have hri := HRL.out.2.2
      replace HRL := Lib.hid (And.intro HRL.out.1 HRL.out.2.1)
      by_cases hgt : (ds.length : Int) < sumL (prs l) - off
      · have hNd : sN l off ds.length = ds.length := by unfold sN; rw [if_neg (by omega)]
        have hgt2 : ¬ ((((addrs (prs l)).length - off.toNat : Nat) : Int) ≤ (ds.length : Int)) := by omega
        by_cases hin : insideB ms.length (slicedL (prs l) off (sN l off ds.length)) = true
        · have hc : scode ms.length ds.length l off = 0 := by rw [scode_def, if_pos hck, if_neg (by omega), if_pos hin]
          have HC := Lib.hid hc
          rw [hin] at hri
          have HRI := Lib.hid hri
          have hset := setL_scat (slicedL (prs l) off (sN l off ds.length)) (byts ms) ((byts ds).take (sN l off ds.length).toNat) (fun x hx => ⟨(HX.out.2.1.2 x hx).1.1, (HX.out.2.1.2 x hx).2.1⟩) (by simpa [byts] using hin) (by have := sumL_slicedL (prs l) off (sN l off ds.length) hN0; simp [byts]; omega)
          have hal := addrs_all (fun x hx => ⟨(HX.out.2.1.2 x hx).1.1, (HX.out.2.1.2 x hx).2.1⟩) hin
          have HSET := Lib.hid (And.intro hset hal)
          clear hri hin hc hset hal
          obtain ⟨ss, hss⟩ : ∃ ss, ss = addrs (slicedL (prs l) off (sN l off ds.length)) := ⟨_, rfl⟩
          rw [← hss] at HSET HRI
          have HXS : Hid (ss = ((addrs (prs l)).drop off.toNat).take (sN l off ds.length).toNat) := by rw [hss]; exact Lib.hid HX.out.1
          clear hss
          go_wp2_with (first
            | (go_at_call 19; refine (orpimentref09_Length.calls 60 A cap l _ _ _ (Kd.C_below HL.out HB.out) hcap HRL.out.1).mono ?_; rintro e w1 ⟨rfl, hd⟩; replace HB := Lib.hid (below_then' HB.out hd); clear hd)
            | (go_at_call 36; refine (orpimentref09_addresses.calls 70000 A cap l _ _ (Kd.C_below HL.out HB.out) hcap HRL.out.2).mono ?_; rintro e w2 ⟨v5, rfl, hR, hd⟩; obtain ⟨A5, c5, rfl⟩ := Kd.R_slice hR; obtain ⟨_, hc5, h5⟩ := Kd.R_reads' hR; have H6 := Lib.hid (drop64 (o := off.toNat) (c := c5) h5 hon hc5); replace HB := Lib.hid (below_then' HB.out hd); clear hd hR h5)
            | (go_at_call 37; refine (inside_at2 (Kd.C_below HM.out HB.out) hmc (ats_of (aa := addrs (prs l)) (o := off.toNat) (k := (sN l off ds.length).toNat) (cv64 H6.out (by split <;> first | rfl | omega | contradiction)) HXS.out (by omega)) (by omega) HRI.out).mono ?_; rintro e w3 ⟨rfl, hd, hat⟩; replace HB := Lib.hid (below_then' HB.out hd); have HAT := Lib.hid hat; clear hd hat)
            | (at_builtin; go_loud (refine wpList_append_bytes rfl (.tmp 48) (.tmp 49) rfl w3.heap.size rfl M mc (byts ms) _ rfl (by simp [byts]) ⟨rfl, .inr ⟨w3.heap.size, 0, #[], rfl, Nat.le_refl _, heap_alloc_new w3 _, Nat.le_refl _, by simp [maxLen], rfl, rfl⟩⟩ ((mem_of_C (Kd.C_below HM.out HB.out)).below ((Below.refl _ _).alloc (Nat.le_refl _) _)) (by simp [byts]; omega) (by simp) ?_; intro v7 w7 ho7 hb7; replace hb7 : Below w3.heap.size w3 w7 := ((Below.refl _ _).alloc (Nat.le_refl _) _).trans hb7; rw [show (byts ms).length = ms.length by simp [byts]] at ho7; obtain ⟨A7, c7, rfl⟩ := ownsRow_slice ho7; have H7 := Lib.hid (And.intro ho7 hb7); clear ho7 hb7)))
          all_goals
            have hat0 := HAT.out
            (first | rw [if_pos ‹c5 = off.toNat›] at hat0 | rw [if_neg ‹¬ c5 = off.toNat›] at hat0 | skip)
            replace HAT := Lib.hid hat0
            clear hat0
            have hn6 : ss.length = ds.length := HAT.out.1
            have hK : (ss.length : Int) = sN l off ds.length := by omega
            by_cases hz : ss.length = 0
            · go_loopw [15] (fun i wr => ∃ k : Nat, k ≤ ss.length ∧ i = .int .i64 k ∧ Hid (wr.ownsRow w3.heap.size 5 1 (.slice A7 ms.length c7) ms.length (setL (byts ms) (ss.take k) (byts ds)) ∧ Below w3.heap.size w3 wr)) (fun i _ => ((ss.length : Int) - intOf i).toNat)
              case atStart => exact ⟨0, by omega, rfl, Lib.hid (by simpa [setL] using H7.out)⟩
              case round =>
                obtain ⟨k, hk, rfl, hi⟩ := hrel
                have hke : k = ss.length := by omega
                subst hke
                have hkn : ¬ ((ss.length : Int) < ((ds.length : Nat) : Int)) := by omega
                have hfin2 : setL (byts ms) (ss.take ss.length) (byts ds) = smem (byts ms) (byts ds) l off := by
                  rw [List.take_length, ← setL_cut ss (byts ms) (byts ds) (sN l off ds.length).toNat (by omega), HSET.out.1]
                  unfold smem
                  rw [show (byts ms).length = ms.length by simp [byts], show (byts ds).length = ds.length by simp [byts], if_pos HC.out]
                have HF := Lib.hid hfin2
                clear hfin2
                go_wp2
                exact bodyPost_ret (results_tmp3 rfl _ _ _) rfl (SPost.good _ HC.out (by rw [show sN l off ds.length = ((ds.length : Nat) : Int) by omega]; rfl) (by have h := hi.out.1; rw [HF.out] at h; exact owns_mono h HB.out.size) (below_then' HB.out hi.out.2))
            · first
                | (exfalso; omega)
                | (
                    obtain ⟨a5', e5, _⟩ := Kd.at_int HAT.out 0 (by omega) (by omega)
                    rcases A5 with _ | a5
                    · simp at e5
                    obtain ⟨dD, eD, _⟩ := Kd.at_int HD.out 0 (by omega) (by omega)
                    rcases D with _ | dd
                    · cases eD
                    have hms0 := HSET.out.2 (rd ss 0) (by simp [rd, rdOf, List.getD_eq_getElem?_getD, List.getElem?_eq_getElem (show 0 < ss.length by omega)])
                    obtain ⟨g7, c8, hv⟩ := ownsRow_pos H7.out.1 (by omega)
                    injection hv with hv1 _ hv3
                    subst hv1
                    subst hv3
                    clear e5 eD hms0
                    (try simp only [Option.map_some, Function.comp_apply] at HAT ⊢)
                    go_loopw [15] (fun i wr => ∃ k : Nat, k ≤ ss.length ∧ i = .int .i64 k ∧ Hid (wr.ownsRow w3.heap.size 5 1 (.slice (some ⟨g7, 0, none⟩) ms.length c7) ms.length (setL (byts ms) (ss.take k) (byts ds)) ∧ Below w3.heap.size w3 wr)) (fun i _ => ((ss.length : Int) - intOf i).toNat)
                    case atStart => exact ⟨0, by omega, rfl, Lib.hid (by simpa [setL] using H7.out)⟩
                    case round =>
                      obtain ⟨k, hk, rfl, hi⟩ := hrel
                      by_cases hlt : k < ss.length
                      · have hkd : k < ds.length := by omega
                        obtain ⟨ad6, e6, hc6⟩ := Kd.at_int (Kd.C_below HAT.out hi.out.2) (k : Int) (by omega) (by omega)
                        obtain ⟨adD, eD, hcD⟩ := Kd.at_int (Kd.C_below HD.out (below_then' HB.out hi.out.2)) (k : Int) (by omega) (by omega)
                        simp only [Option.map_some, Option.some.injEq, Function.comp_apply] at e6
                        subst e6
                        cases eD
                        have hab := HSET.out.2 (rd ss k) (by simp [rd, rdOf, List.getD_eq_getElem?_getD, List.getElem?_eq_getElem hlt])
                        have hsl := setL_length (ss.take k) (byts ms) (byts ds)
                        have hco := hi.out.1.cells (g := g7) rfl (rd ss k).toNat _ (List.getElem?_eq_getElem (by rw [hsl]; simp [byts]; omega))
                        rw [add_at, Nat.zero_add] at hco
                        have hfo := own_frozen' (g := g7) hi.out.1 (rd ss k).toNat
                        have hss1 := setL_at (ms := byts ms) (ds := byts ds) hlt (by simpa [byts] using hkd)
                        have hdk : (byts ds)[k]'(by simpa [byts] using hkd) = .int .u8 (rd ds k) := by simp [byts, rd, rdOf, List.getD_eq_getElem?_getD, List.getElem?_eq_getElem hkd]
                        rw [hdk] at hss1
                        have HS1 := Lib.hid hss1
                        generalize (setL (byts ms) (ss.take k) (byts ds))[(rd ss k).toNat]'_ = uold at hco
                        generalize rd ss k = aa6 at hc6 hab hco hfo HS1
                        generalize rd ds k = bb6 at hcD HS1
                        have hkz : (0 : Int) ≤ (k : Int) := by omega
                        have hkn : (k : Int) < ((ds.length : Nat) : Int) := by omega
                        have hkdI : (k : Int) < (ds.length : Int) := by omega
                        clear hss1 hsl hdk
                        rw [Int.toNat_natCast] at hc6 hcD
                        go_wp2
                        refine wp_region_still_tail 10 (by kernel_rfl) (by kernel_rfl) ?_
                        simp only [List.take_succ_cons, List.take_zero, List.drop_succ_cons, List.drop_zero]
                        iterate 10 ((with_reducible refine wpStill_step (fun K hK => ?_)); have HK := Lib.hid hK; clear hK; go_simp; (with_reducible refine HK.out _ ?_); clear HK K)
                        (with_reducible refine wpStill_nil ?_)
                        go_wp2
                        go_roundw
                        case rel => exact ⟨k + 1, by omega, by go_num, Lib.hid ⟨by rw [HS1.out]; exact own_set' (w := wr) hi.out.1 _ (by omega) _, (hi.out.2.setCell (p := ⟨g7, aa6.toNat, none⟩) (own_base' hi.out.1 g7 rfl) _).drew⟩⟩
                        case measure => simp [intOf]; omega
                      · have hke : k = ss.length := by omega
                        subst hke
                        have hkn : ¬ ((ss.length : Int) < ((ds.length : Nat) : Int)) := by omega
                        have hfin2 : setL (byts ms) (ss.take ss.length) (byts ds) = smem (byts ms) (byts ds) l off := by
                         rw [List.take_length, ← setL_cut ss (byts ms) (byts ds) (sN l off ds.length).toNat (by omega), HSET.out.1]
                         unfold smem
                         rw [show (byts ms).length = ms.length by simp [byts], show (byts ds).length = ds.length by simp [byts], if_pos HC.out]
                        have HF := Lib.hid hfin2
                        clear hfin2
                        go_wp2
                        exact bodyPost_ret (results_tmp3 rfl _ _ _) rfl (SPost.good _ HC.out (by rw [show sN l off ds.length = ((ds.length : Nat) : Int) by omega]; rfl) (by have h := hi.out.1; rw [HF.out] at h; exact owns_mono h HB.out.size) (below_then' HB.out hi.out.2)))
        · have hin' : insideB ms.length (slicedL (prs l) off (sN l off ds.length)) = false := by simpa using hin
          have hc : scode ms.length ds.length l off = 11 := by rw [scode_def, if_pos hck, if_neg (by omega), if_neg hin]
          have HC := Lib.hid hc
          clear hc
          rw [hin'] at hri
          have HRI := Lib.hid hri
          clear hri hin hin'
          go_wp2_with (first
            | (go_at_call 19; refine (orpimentref09_Length.calls 60 A cap l _ _ _ (Kd.C_below HL.out HB.out) hcap HRL.out.1).mono ?_; rintro e w1 ⟨rfl, hd⟩; replace HB := Lib.hid (below_then' HB.out hd); clear hd)
            | (go_at_call 36; refine (orpimentref09_addresses.calls 70000 A cap l _ _ (Kd.C_below HL.out HB.out) hcap HRL.out.2).mono ?_; rintro e w2 ⟨v5, rfl, hR, hd⟩; obtain ⟨A5, c5, rfl⟩ := Kd.R_slice hR; obtain ⟨_, hc5, h5⟩ := Kd.R_reads' hR; have H6 := Lib.hid (drop64 (o := off.toNat) (c := c5) h5 hon hc5); replace HB := Lib.hid (below_then' HB.out hd); clear hd hR h5)
            | (go_at_call 37; refine (inside_at (Kd.C_below HM.out HB.out) hmc (ats_of (aa := addrs (prs l)) (o := off.toNat) (k := (sN l off ds.length).toNat) (cv64 H6.out (by split <;> first | rfl | omega | contradiction)) HX.out.1 (by omega)) (by omega) HRI.out).mono ?_; rintro e w3 ⟨rfl, hd⟩; replace HB := Lib.hid (below_then' HB.out hd); clear hd))
          all_goals exact bodyPost_ret (results_tmp3 rfl _ _ _) rfl (SPost.bad _ HC.out (by decide) rfl HB.out)
      · have hNd : sN l off ds.length = sumL (prs l) - off := by unfold sN; split <;> omega
        by_cases hin : insideB ms.length (slicedL (prs l) off (sN l off ds.length)) = true
        · have hc : scode ms.length ds.length l off = 0 := by rw [scode_def, if_pos hck, if_neg (by omega), if_pos hin]
          have HC := Lib.hid hc
          rw [hin] at hri
          have HRI := Lib.hid hri
          have hset := setL_scat (slicedL (prs l) off (sN l off ds.length)) (byts ms) ((byts ds).take (sN l off ds.length).toNat) (fun x hx => ⟨(HX.out.2.1.2 x hx).1.1, (HX.out.2.1.2 x hx).2.1⟩) (by simpa [byts] using hin) (by have := sumL_slicedL (prs l) off (sN l off ds.length) hN0; simp [byts]; omega)
          have hal := addrs_all (fun x hx => ⟨(HX.out.2.1.2 x hx).1.1, (HX.out.2.1.2 x hx).2.1⟩) hin
          have HSET := Lib.hid (And.intro hset hal)
          clear hri hin hc hset hal
          obtain ⟨ss, hss⟩ : ∃ ss, ss = addrs (slicedL (prs l) off (sN l off ds.length)) := ⟨_, rfl⟩
          rw [← hss] at HSET HRI
          have HXS : Hid (ss = ((addrs (prs l)).drop off.toNat).take (sN l off ds.length).toNat) := by rw [hss]; exact Lib.hid HX.out.1
          clear hss
          go_wp2_with (first
            | (go_at_call 19; refine (orpimentref09_Length.calls 60 A cap l _ _ _ (Kd.C_below HL.out HB.out) hcap HRL.out.1).mono ?_; rintro e w1 ⟨rfl, hd⟩; replace HB := Lib.hid (below_then' HB.out hd); clear hd)
            | (go_at_call 36; refine (orpimentref09_addresses.calls 70000 A cap l _ _ (Kd.C_below HL.out HB.out) hcap HRL.out.2).mono ?_; rintro e w2 ⟨v5, rfl, hR, hd⟩; obtain ⟨A5, c5, rfl⟩ := Kd.R_slice hR; obtain ⟨_, hc5, h5⟩ := Kd.R_reads' hR; have H6 := Lib.hid (drop64 (o := off.toNat) (c := c5) h5 hon hc5); replace HB := Lib.hid (below_then' HB.out hd); clear hd hR h5)
            | (go_at_call 37; refine (inside_at2 (Kd.C_below HM.out HB.out) hmc (ats_of (aa := addrs (prs l)) (o := off.toNat) (k := (sN l off ds.length).toNat) (cv64 H6.out (by split <;> first | rfl | omega | contradiction)) HXS.out (by omega)) (by omega) HRI.out).mono ?_; rintro e w3 ⟨rfl, hd, hat⟩; replace HB := Lib.hid (below_then' HB.out hd); have HAT := Lib.hid hat; clear hd hat)
            | (at_builtin; go_loud (refine wpList_append_bytes rfl (.tmp 48) (.tmp 49) rfl w3.heap.size rfl M mc (byts ms) _ rfl (by simp [byts]) ⟨rfl, .inr ⟨w3.heap.size, 0, #[], rfl, Nat.le_refl _, heap_alloc_new w3 _, Nat.le_refl _, by simp [maxLen], rfl, rfl⟩⟩ ((mem_of_C (Kd.C_below HM.out HB.out)).below ((Below.refl _ _).alloc (Nat.le_refl _) _)) (by simp [byts]; omega) (by simp) ?_; intro v7 w7 ho7 hb7; replace hb7 : Below w3.heap.size w3 w7 := ((Below.refl _ _).alloc (Nat.le_refl _) _).trans hb7; rw [show (byts ms).length = ms.length by simp [byts]] at ho7; obtain ⟨A7, c7, rfl⟩ := ownsRow_slice ho7; have H7 := Lib.hid (And.intro ho7 hb7); clear ho7 hb7)))
          all_goals
            have hat0 := HAT.out
            (first | rw [if_pos ‹c5 = off.toNat›] at hat0 | rw [if_neg ‹¬ c5 = off.toNat›] at hat0 | skip)
            replace HAT := Lib.hid hat0
            clear hat0
            have hn6 : ss.length = ((addrs (prs l)).length - off.toNat) := HAT.out.1
            have hK : (ss.length : Int) = sN l off ds.length := by omega
            by_cases hz : ss.length = 0
            · go_loopw [15] (fun i wr => ∃ k : Nat, k ≤ ss.length ∧ i = .int .i64 k ∧ Hid (wr.ownsRow w3.heap.size 5 1 (.slice A7 ms.length c7) ms.length (setL (byts ms) (ss.take k) (byts ds)) ∧ Below w3.heap.size w3 wr)) (fun i _ => ((ss.length : Int) - intOf i).toNat)
              case atStart => exact ⟨0, by omega, rfl, Lib.hid (by simpa [setL] using H7.out)⟩
              case round =>
                obtain ⟨k, hk, rfl, hi⟩ := hrel
                have hke : k = ss.length := by omega
                subst hke
                have hkn : ¬ ((ss.length : Int) < ((((addrs (prs l)).length - off.toNat) : Nat) : Int)) := by omega
                have hfin2 : setL (byts ms) (ss.take ss.length) (byts ds) = smem (byts ms) (byts ds) l off := by
                  rw [List.take_length, ← setL_cut ss (byts ms) (byts ds) (sN l off ds.length).toNat (by omega), HSET.out.1]
                  unfold smem
                  rw [show (byts ms).length = ms.length by simp [byts], show (byts ds).length = ds.length by simp [byts], if_pos HC.out]
                have HF := Lib.hid hfin2
                clear hfin2
                go_wp2
                exact bodyPost_ret (results_tmp3 rfl _ _ _) rfl (SPost.good _ HC.out (by rw [show sN l off ds.length = ((((addrs (prs l)).length - off.toNat) : Nat) : Int) by omega]; rfl) (by have h := hi.out.1; rw [HF.out] at h; exact owns_mono h HB.out.size) (below_then' HB.out hi.out.2))
            · first
                | (exfalso; omega)
                | (
                    obtain ⟨a5', e5, _⟩ := Kd.at_int HAT.out 0 (by omega) (by omega)
                    rcases A5 with _ | a5
                    · simp at e5
                    obtain ⟨dD, eD, _⟩ := Kd.at_int HD.out 0 (by omega) (by omega)
                    rcases D with _ | dd
                    · cases eD
                    have hms0 := HSET.out.2 (rd ss 0) (by simp [rd, rdOf, List.getD_eq_getElem?_getD, List.getElem?_eq_getElem (show 0 < ss.length by omega)])
                    obtain ⟨g7, c8, hv⟩ := ownsRow_pos H7.out.1 (by omega)
                    injection hv with hv1 _ hv3
                    subst hv1
                    subst hv3
                    clear e5 eD hms0
                    (try simp only [Option.map_some, Function.comp_apply] at HAT ⊢)
                    go_loopw [15] (fun i wr => ∃ k : Nat, k ≤ ss.length ∧ i = .int .i64 k ∧ Hid (wr.ownsRow w3.heap.size 5 1 (.slice (some ⟨g7, 0, none⟩) ms.length c7) ms.length (setL (byts ms) (ss.take k) (byts ds)) ∧ Below w3.heap.size w3 wr)) (fun i _ => ((ss.length : Int) - intOf i).toNat)
                    case atStart => exact ⟨0, by omega, rfl, Lib.hid (by simpa [setL] using H7.out)⟩
                    case round =>
                      obtain ⟨k, hk, rfl, hi⟩ := hrel
                      by_cases hlt : k < ss.length
                      · have hkd : k < ds.length := by omega
                        obtain ⟨ad6, e6, hc6⟩ := Kd.at_int (Kd.C_below HAT.out hi.out.2) (k : Int) (by omega) (by omega)
                        obtain ⟨adD, eD, hcD⟩ := Kd.at_int (Kd.C_below HD.out (below_then' HB.out hi.out.2)) (k : Int) (by omega) (by omega)
                        simp only [Option.map_some, Option.some.injEq, Function.comp_apply] at e6
                        subst e6
                        cases eD
                        have hab := HSET.out.2 (rd ss k) (by simp [rd, rdOf, List.getD_eq_getElem?_getD, List.getElem?_eq_getElem hlt])
                        have hsl := setL_length (ss.take k) (byts ms) (byts ds)
                        have hco := hi.out.1.cells (g := g7) rfl (rd ss k).toNat _ (List.getElem?_eq_getElem (by rw [hsl]; simp [byts]; omega))
                        rw [add_at, Nat.zero_add] at hco
                        have hfo := own_frozen' (g := g7) hi.out.1 (rd ss k).toNat
                        have hss1 := setL_at (ms := byts ms) (ds := byts ds) hlt (by simpa [byts] using hkd)
                        have hdk : (byts ds)[k]'(by simpa [byts] using hkd) = .int .u8 (rd ds k) := by simp [byts, rd, rdOf, List.getD_eq_getElem?_getD, List.getElem?_eq_getElem hkd]
                        rw [hdk] at hss1
                        have HS1 := Lib.hid hss1
                        generalize (setL (byts ms) (ss.take k) (byts ds))[(rd ss k).toNat]'_ = uold at hco
                        generalize rd ss k = aa6 at hc6 hab hco hfo HS1
                        generalize rd ds k = bb6 at hcD HS1
                        have hkz : (0 : Int) ≤ (k : Int) := by omega
                        have hkn : (k : Int) < ((((addrs (prs l)).length - off.toNat) : Nat) : Int) := by omega
                        have hkdI : (k : Int) < (ds.length : Int) := by omega
                        clear hss1 hsl hdk
                        rw [Int.toNat_natCast] at hc6 hcD
                        go_wp2
                        refine wp_region_still_tail 10 (by kernel_rfl) (by kernel_rfl) ?_
                        simp only [List.take_succ_cons, List.take_zero, List.drop_succ_cons, List.drop_zero]
                        iterate 10 ((with_reducible refine wpStill_step (fun K hK => ?_)); have HK := Lib.hid hK; clear hK; go_simp; (with_reducible refine HK.out _ ?_); clear HK K)
                        (with_reducible refine wpStill_nil ?_)
                        go_wp2
                        go_roundw
                        case rel => exact ⟨k + 1, by omega, by go_num, Lib.hid ⟨by rw [HS1.out]; exact own_set' (w := wr) hi.out.1 _ (by omega) _, (hi.out.2.setCell (p := ⟨g7, aa6.toNat, none⟩) (own_base' hi.out.1 g7 rfl) _).drew⟩⟩
                        case measure => simp [intOf]; omega
                      · have hke : k = ss.length := by omega
                        subst hke
                        have hkn : ¬ ((ss.length : Int) < ((((addrs (prs l)).length - off.toNat) : Nat) : Int)) := by omega
                        have hfin2 : setL (byts ms) (ss.take ss.length) (byts ds) = smem (byts ms) (byts ds) l off := by
                         rw [List.take_length, ← setL_cut ss (byts ms) (byts ds) (sN l off ds.length).toNat (by omega), HSET.out.1]
                         unfold smem
                         rw [show (byts ms).length = ms.length by simp [byts], show (byts ds).length = ds.length by simp [byts], if_pos HC.out]
                        have HF := Lib.hid hfin2
                        clear hfin2
                        go_wp2
                        exact bodyPost_ret (results_tmp3 rfl _ _ _) rfl (SPost.good _ HC.out (by rw [show sN l off ds.length = ((((addrs (prs l)).length - off.toNat) : Nat) : Int) by omega]; rfl) (by have h := hi.out.1; rw [HF.out] at h; exact owns_mono h HB.out.size) (below_then' HB.out hi.out.2)))
        · have hin' : insideB ms.length (slicedL (prs l) off (sN l off ds.length)) = false := by simpa using hin
          have hc : scode ms.length ds.length l off = 11 := by rw [scode_def, if_pos hck, if_neg (by omega), if_neg hin]
          have HC := Lib.hid hc
          clear hc
          rw [hin'] at hri
          have HRI := Lib.hid hri
          clear hri hin hin'
          go_wp2_with (first
            | (go_at_call 19; refine (orpimentref09_Length.calls 60 A cap l _ _ _ (Kd.C_below HL.out HB.out) hcap HRL.out.1).mono ?_; rintro e w1 ⟨rfl, hd⟩; replace HB := Lib.hid (below_then' HB.out hd); clear hd)
            | (go_at_call 36; refine (orpimentref09_addresses.calls 70000 A cap l _ _ (Kd.C_below HL.out HB.out) hcap HRL.out.2).mono ?_; rintro e w2 ⟨v5, rfl, hR, hd⟩; obtain ⟨A5, c5, rfl⟩ := Kd.R_slice hR; obtain ⟨_, hc5, h5⟩ := Kd.R_reads' hR; have H6 := Lib.hid (drop64 (o := off.toNat) (c := c5) h5 hon hc5); replace HB := Lib.hid (below_then' HB.out hd); clear hd hR h5)
            | (go_at_call 37; refine (inside_at (Kd.C_below HM.out HB.out) hmc (ats_of (aa := addrs (prs l)) (o := off.toNat) (k := (sN l off ds.length).toNat) (cv64 H6.out (by split <;> first | rfl | omega | contradiction)) HX.out.1 (by omega)) (by omega) HRI.out).mono ?_; rintro e w3 ⟨rfl, hd⟩; replace HB := Lib.hid (below_then' HB.out hd); clear hd))
          all_goals exact bodyPost_ret (results_tmp3 rfl _ _ _) rfl (SPost.bad _ HC.out (by decide) rfl HB.out)
  · have hc : scode ms.length ds.length l off = chk (prs l) := by rw [scode_def, if_neg hck]
    have HC := Lib.hid hc
    clear hc
    rw [if_neg hck] at hrl
    go_wp2_with (first
      | (go_at_call 19; refine (orpimentref09_Length.calls 60 A cap l _ _ _ (Kd.C_below HL.out HB.out) hcap hrl).mono ?_; rintro e w1 ⟨rfl, hd⟩; replace HB := Lib.hid (below_then' HB.out hd); clear hd))
    exact bodyPost_ret (results_tmp3 rfl _ _ _) rfl (SPost.bad _ HC.out hck rfl HB.out)
end Go.Proofs.Ytbojagkalbfenaa
namespace Go.Proofs.Ytbojagkalbfenaa
open Go.RowKit PIovGather Go.Proofs.YtbojagkalbfenaaW.PrintWords
attribute [local go_sem] ints_get ints_size ints_getElem

/-- A row of one slice of bytes. -/
theorem C_one {w : World} {g : Nat} {M : Option Addr} {ms : List Int} {mc : Nat} {t : TypeId} {fr : Nat × Nat} (h : w.heap[g]? = some (.cells #[.slice M ms.length mc] t fr)) (hmc : ms.length ≤ mc) (hC : Kd.C (Kd.int .u8) w M ms.length ms) :
    Kd.C (Kd.slice 5 (Kd.int .u8)) w (some ⟨g, 0, none⟩) ([ms] : List (List Int)).length [ms] := by
  refine ⟨rfl, by simp, fun _ => ⟨_, rfl, fun j p hj => ?_⟩⟩
  match j, hj with
  | 0, hj =>
    cases hj
    refine ⟨[.slice M ms.length mc], rfl, ⟨M, mc, rfl, hmc, hC⟩, fun i u hi => ?_⟩
    match i, hi with
    | 0, hi =>
      cases hi
      rw [add_at, cell_of_row _ _ _ _ _ _ h]
      rfl
    | i + 1, hi => simp at hi
  | j + 1, hj => simp at hj
end Go.Proofs.Ytbojagkalbfenaa
namespace Go.Proofs.Ytbojagkalbfenaa
open Go.RowKit PIovGather Go.Proofs.YtbojagkalbfenaaW.PrintWords
attribute [local go_sem] ints_get ints_size ints_getElem

set_option maxHeartbeats 1000000 in
set_option maxRecDepth 100000 in
theorem law_big (M A : Option Addr) (ms : List Int) (l : List S44) (mc ac : Nat) (a b : Int) (w : World) (hC : Kd.C (Kd.int .u8) w M ms.length ms) (hmc : ms.length ≤ mc) (hl : Kd.C k44 w A l.length l) (hac : l.length ≤ ac) (hsm : smallB l.length ms.length = false) :
    Calls Try.prog 3 #[.slice M ms.length mc, .slice A l.length ac, .agg #[.int .i64 a, .int .i64 b]] w fun e w' => e = .returned (.bool true) ∧ Below w.heap.size w w' := by
  have HC := Lib.hid hC
  have HL := Lib.hid hl
  clear hC hl
  go_enter Try.func3, Try.ntmps3
  have hb0 : Below w.heap.size w ((w.alloc (.cells #[.int .i64 a, .int .i64 b] 24)).alloc (.cells #[.slice M ms.length mc] 22)) := ((Below.refl _ _).alloc (Nat.le_refl _) _).alloc (by simp) _
  have hh := heap_alloc_new (w.alloc (.cells #[.int .i64 a, .int .i64 b] 24)) (.cells #[.slice M ms.length mc] 22)
  have hz : (w.alloc (.cells #[.int .i64 a, .int .i64 b] 24)).heap.size = w.heap.size + 1 := by simp
  rw [hz] at hh
  have HH := Lib.hid hh
  have HB := Lib.hid hb0
  clear hh hb0
  go_wp2_with (first
    | (go_at_call 10; refine (orpimentlaw09_small.calls 3 A ac l (some ⟨w.heap.size + 1, 0, none⟩) 1 [ms] false _ (Kd.C_below HL.out HB.out) hac (C_one HH.out hmc (Kd.C_below HC.out HB.out)) (by simp) (by rw [small_f l ms (by omega), hsm])).mono ?_; rintro e w1 ⟨rfl, hd⟩; replace HB := Lib.hid (below_then' HB.out hd.below); clear hd)
    | (go_at_call 11; refine (awake_calls _).mono ?_; rintro e w2 ⟨rfl, hb⟩; replace HB := Lib.hid (below_then' HB.out hb); clear hb))
  go_ret
  exact ⟨rfl, HB.out⟩
end Go.Proofs.Ytbojagkalbfenaa
namespace Go.Proofs.Ytbojagkalbfenaa
open Go.RowKit PIovGather Go.Proofs.YtbojagkalbfenaaW.PrintWords
attribute [local go_sem] ints_get ints_size ints_getElem

/-- The answer's bytes, as whole numbers. -/
def gout (ms : List Int) (l : List (Int × Int)) (a b : Int) : List Int := if gcode ms.length l a b = 0 then gatherI ms (slicedL l a b) else []
theorem byts_length (ms : List Int) : (byts ms).length = ms.length := by simp [byts]
theorem gres_byts (ms : List Int) (l : List (Int × Int)) (a b : Int) : gres (byts ms) l a b = byts (gout ms l a b) := by
  unfold gres gout
  rw [byts_length]
  split
  · exact gatherL_map ms _ _
  · rfl
theorem gather_byts (M : Option Addr) (ms : List Int) (mc : Nat) (A : Option Addr) (cap : Nat) (l : List S44) (off n : Int) (P0 : Nat → Prop) (w : World) (hC : Kd.C (Kd.int .u8) w M ms.length ms) (hV : Kd.V k44 44 w w.heap.size P0 (.slice A l.length cap) l)
    (hA : ∀ ad, A = some ad → ad.block < w.heap.size) (hml : ms.length ≤ mc) (hmc : mc ≤ 9223372036854775807) :
    Calls Try.prog 12 #[.slice M ms.length mc, .slice A l.length cap, .int .i64 off, .int .i64 n] w fun e w' => ∃ A' c', e = .returned (.tuple #[.slice A' (gout ms (prs l) off n).length c', .int .i64 (gcode ms.length (prs l) off n)]) ∧ (gout ms (prs l) off n).length ≤ c' ∧ Kd.C (Kd.int .u8) w' A' (gout ms (prs l) off n).length (gout ms (prs l) off n) ∧ Below w.heap.size w w' := by
  have := gatherF M (byts ms) mc A cap l off n P0 w (mem_of_C hC) hV hA (by rw [byts_length]; exact hml) hmc
  rw [byts_length, gres_byts] at this
  refine this.mono ?_
  rintro e w' ⟨v, rfl, ho, hb⟩
  rw [byts_length] at ho
  obtain ⟨A', c', rfl, h1, h2⟩ := C_of_own ho
  exact ⟨A', c', rfl, h1, h2, hb⟩
theorem gout_len {ms : List Int} {l : List (Int × Int)} {a b : Int} : (gout ms l a b).length ≤ 65536 := by
  unfold gout
  split
  · rename_i h
    have hw : wth l a b = 0 := by
      unfold gcode at h
      split at h
      · assumption
      · assumption
    obtain ⟨h1, h2, _, _, h5, _⟩ := wth_zero hw
    have hf := fine_sliced (n := b) h1 h2 h5
    have := gatherL_bound (ds := byts ms) (fun x hx => (hf.2 x hx).2.2)
    rw [show byts ms = ms.map (Value.int .u8) from rfl, gatherL_map, List.length_map] at this
    have := hf.1
    omega
  · simp
theorem rg_f (ms : List Int) (l : List S44) (a b : Int) : orpimentref09_Gather.f 70000 ms l a b = some (gout ms (prs l) a b, gcode ms.length (prs l) a b) := by
  rw [rgather_f ms l a b (by omega)]
  unfold gout gcode
  by_cases h : wth (prs l) a b = 0
  · by_cases g : insideB ms.length (slicedL (prs l) a b) = true
    · simp [h, g]
    · simp [h, g]
  · simp [h]
end Go.Proofs.Ytbojagkalbfenaa
namespace Go.Proofs.Ytbojagkalbfenaa
set_option linter.unusedVariables false
set_option linter.unusedSimpArgs false
open Go.RowKit
attribute [local go_sem] Oper.semAt_some ints_get ints_size ints_getElem

set_option maxHeartbeats 1000000 in
set_option maxRecDepth 100000 in
/-- slices.Clone of bytes. -/
theorem clone_calls (A : Option Addr) (cap : Nat) (ds : List Value) (w : World) (hm : Mem w A ds) (h0 : A = none → ds = [] ∧ cap = 0) (hb : ds.length ≤ 1099511627776) :
    Calls Try.prog 25 #[.slice A ds.length cap] w fun e w' => ∃ v, e = .returned v ∧ w'.ownsRow w.heap.size 5 1 v ds.length ds ∧ Below w.heap.size w w' := by
  cases A with
  | none =>
    obtain ⟨rfl, rfl⟩ := h0 rfl
    have heq : ∀ W, (binOp .eql 22 (.slice none 0 0) (.slice none 0 0)).run Try.prog W = .ok (.bool true) W := fun W => run_eql_nil_slice W 22 5 none 0 0 0 0 Try.underlying22
    go_enter Try.func25, Try.ntmps25
    go_wp2
    go_ret
    exact ⟨_, rfl, ⟨rfl, .inl ⟨rfl, rfl⟩⟩, Below.refl _ _⟩
  | some ad =>
    have heq : ∀ W, (binOp .eql 22 (.slice (some ad) ds.length cap) (.slice none 0 0)).run Try.prog W = .ok (.bool false) W := fun W => Lib.run_eql_slice_nil W 22 5 (some ad) ds.length cap 0 0 Try.underlying22
    have HM := Lib.hid hm
    clear hm h0
    go_enter Try.func25, Try.ntmps25
    obtain ⟨i0, hi0, hz0, hz1, hz2⟩ := info_parts (P := Try.prog) (e := 5) (z := .int .u8 0) (size := 1) (bytes := 1) (by kernel_rfl)
    have HI0 := Lib.hid hi0
    have HZZ := Lib.hid (And.intro hz0 (And.intro hz1 hz2))
    clear hi0 hz0 hz1 hz2
    have hrow : (w.alloc (.cells #[] 5)).ownsRow w.heap.size 5 1 (.slice (some ⟨w.heap.size, 0, none⟩) 0 0) 0 [] :=
      ⟨rfl, .inr ⟨w.heap.size, 0, #[], rfl, Nat.le_refl _, heap_alloc_new w _, Nat.le_refl _, by simp [maxLen], rfl, rfl⟩⟩
    go_wp2_with (at_builtin; go_loud (refine wpList_append_own _ rfl (.tmp 5) (.tmp 6) 22 rfl w.heap.size 5 i0 (.int .u8 0) 1 1 Try.underlying22 HI0.out HZZ.out.1 HZZ.out.2.1 HZZ.out.2.2 rfl (by omega) _ 0 [] rfl hrow ad ds.length cap ds rfl (by omega) (fun j u hj => by obtain ⟨ad', e, hlt, hc⟩ := HM.out.cell j u hj; cases e; rw [World.cell?_alloc_lt _ _ _ (World.block_lt_of_cell? _ _ hc)]; exact hc) HM.out.one (by simp only [maxLen]; omega) (by omega) (by simp) ?_; intro v' w2 hown hgrow _))
    go_ret
    refine ⟨v', rfl, by simpa using hown, ((Below.refl _ _).alloc (Nat.le_refl _) _).grown hgrow (by simp) (fun k hk => by cases hk; exact Nat.le_refl _)⟩
end Go.Proofs.Ytbojagkalbfenaa
namespace Go.Proofs.Ytbojagkalbfenaa
set_option linter.unusedVariables false
set_option linter.unusedSimpArgs false
open Go.RowKit PIovGather Go.Proofs.YtbojagkalbfenaaW.PrintWords
attribute [local go_sem] ints_get ints_size ints_getElem

/-- small's answer, for two memories. -/
def smallB2 (nl nm nd : Nat) : Bool := decide (wrap64 (wrap64 ((nl : Int) + wrap64 ((nm : Int) / 100)) + wrap64 ((nd : Int) / 100)) ≤ 60)
theorem small2_f (l : List S44) (m d : List Int) {k : Nat} (hk : 4 ≤ k) : orpimentlaw09_small.f k l [m, d] = some (smallB2 l.length m.length d.length) := by
  obtain ⟨q, rfl⟩ : ∃ q, k = q + 1 + 1 + 1 := ⟨k - 3, by omega⟩
  have hw1 : wrap64 1 = 1 := by unfold wrap64; omega
  have hw2 : wrap64 2 = 2 := by unfold wrap64; omega
  simp [orpimentlaw09_small.f, orpimentlaw09_small.l0, hw1, hw2, rd_L1, smallB2]
theorem small2_cases {nl nm nd : Nat} (h : smallB2 nl nm nd = true) (h0 : nl ≤ 8796093022208) (h1 : nm ≤ 9223372036854775807) (h2 : nd ≤ 9223372036854775807) : nl ≤ 60 ∧ nm ≤ 6100 ∧ nd ≤ 6100 := by
  simp only [smallB2, decide_eq_true_eq] at h
  unfold wrap64 at h
  omega
/-- A row of two slices of bytes. -/
theorem C_two {w : World} {g : Nat} {M D : Option Addr} {ms ds : List Int} {mc dc : Nat} {t : TypeId} {fr : Nat × Nat} (h : w.heap[g]? = some (.cells #[.slice M ms.length mc, .slice D ds.length dc] t fr)) (hmc : ms.length ≤ mc) (hdc : ds.length ≤ dc) (hC : Kd.C (Kd.int .u8) w M ms.length ms) (hD : Kd.C (Kd.int .u8) w D ds.length ds) :
    Kd.C (Kd.slice 5 (Kd.int .u8)) w (some ⟨g, 0, none⟩) ([ms, ds] : List (List Int)).length [ms, ds] := by
  refine ⟨rfl, by simp, fun _ => ⟨_, rfl, fun j p hj => ?_⟩⟩
  match j, hj with
  | 0, hj =>
    cases hj
    refine ⟨[.slice M ms.length mc], rfl, ⟨M, mc, rfl, hmc, hC⟩, fun i u hi => ?_⟩
    match i, hi with
    | 0, hi =>
      cases hi
      rw [add_at, cell_of_row _ _ _ _ _ _ h]
      rfl
    | i + 1, hi => simp at hi
  | 1, hj =>
    cases hj
    refine ⟨[.slice D ds.length dc], rfl, ⟨D, dc, rfl, hdc, hD⟩, fun i u hi => ?_⟩
    match i, hi with
    | 0, hi =>
      cases hi
      rw [add_at, cell_of_row _ _ _ _ _ _ h]
      rfl
    | i + 1, hi => simp at hi
  | j + 2, hj => simp at hj

/-- Bytes stay bytes. -/
def Bs (l : List Value) : Prop := ∀ u ∈ l, ∃ p, u = Value.int .u8 p
theorem Bs_byts (l : List Int) : Bs (byts l) := fun u hu => by
  obtain ⟨p, _, rfl⟩ := List.mem_map.1 hu
  exact ⟨p, rfl⟩
theorem Bs_scat : ∀ (xs : List (Int × Int)) (ms ds : List Value), Bs ms → Bs ds → Bs (scat (ms, ds) xs).1
  | [], ms, ds, h, _ => h
  | x :: r, ms, ds, h, hd => by
    have h1 : Bs (wr ms x.1.toNat (ds.take x.2.toNat)) := fun u hu => by
      simp only [wr, List.mem_append] at hu
      rcases hu with (hu | hu) | hu
      · exact h u (List.mem_of_mem_take hu)
      · exact hd u (List.mem_of_mem_take hu)
      · exact h u (List.mem_of_mem_drop hu)
    have := Bs_scat r _ (ds.drop x.2.toNat) h1 (fun u hu => hd u (List.mem_of_mem_drop hu))
    simpa [scat, scatS] using this
theorem Bs_list : ∀ {l : List Value}, Bs l → ∃ x : List Int, l = byts x
  | [], _ => ⟨[], rfl⟩
  | u :: r, h => by
    obtain ⟨p, rfl⟩ := h u List.mem_cons_self
    obtain ⟨x, rfl⟩ := Bs_list (l := r) (fun v hv => h v (List.mem_cons_of_mem _ hv))
    exact ⟨p :: x, rfl⟩
theorem smem_byts (ms ds : List Int) (l : List S44) (off : Int) : ∃ x : List Int, smem (byts ms) (byts ds) l off = byts x := by
  refine Bs_list ?_
  unfold smem
  split
  · exact Bs_scat _ _ _ (Bs_byts ms) (fun u hu => Bs_byts ds u (List.mem_of_mem_take hu))
  · exact Bs_byts ms
theorem C_of_mrow {W : World} {base : Nat} {row : Option Nat} {V : Option Addr} {n vc : Nat} {x : List Int} (h : MRow W base row (.slice V n vc) n (byts x)) (hv : n ≤ vc) : Kd.C (Kd.int .u8) W V n x := by
  have hl := h.length
  rcases h with ⟨h1, _, h2⟩ | ⟨_, h2⟩
  · have : x = [] := by simpa [byts] using h2
    subst this
    subst h1
    exact ⟨rfl, by simp, fun h => absurd h (by omega)⟩
  · have hx : x.length = n := by simpa [byts] using hl
    subst hx
    obtain ⟨A, c, e, _, hC⟩ := C_of_own h2
    injection e with e1 _ _
    subst e1
    exact hC
/-- slices.Equal of two lists of bytes that are the same. -/
theorem equal_same {W : World} {A B : Option Addr} {ca cb : Nat} {l : List Int} {n m : Nat} (ha : Kd.C (Kd.int .u8) W A n l) (hb : Kd.C (Kd.int .u8) W B m l) (hca : n ≤ ca) (hcb : m ≤ cb) (hl : l.length ≤ 1000000) :
    Calls Try.prog 14 #[.slice A n ca, .slice B m cb] W fun e w' => e = .returned (.bool true) ∧ Below W.heap.size W w' := by
  have hn := ha.1
  have hm := hb.1
  subst hn; subst hm
  refine (slices_Equal_byte_byte.calls 1000002 A ca l B cb l true W ha hca hb hcb (by rw [equal_f l l hl (by omega)]; simp)).mono ?_
  rintro e w' ⟨rfl, hd⟩
  exact ⟨rfl, hd.below⟩
/-- slices.Clone of bytes: an own slice. -/
theorem clone_b (A : Option Addr) (cap : Nat) (ds : List Int) (w : World) (hC : Kd.C (Kd.int .u8) w A ds.length ds) (h0 : A = none → ds.length = 0 ∧ cap = 0) (hl : ds.length ≤ 6100) :
    Calls Try.prog 25 #[.slice A ds.length cap] w fun e w' => ∃ V vc, e = .returned (.slice V ds.length vc) ∧ ds.length ≤ vc ∧ vc ≤ 9223372036854775807 ∧ w'.ownsRow w.heap.size 5 1 (.slice V ds.length vc) ds.length (byts ds) ∧ Below w.heap.size w w' := by
  have hb : (byts ds).length = ds.length := by simp [byts]
  have := clone_calls A cap (byts ds) w (mem_of_C hC) (fun h => ⟨by have := (h0 h).1; simp [byts]; exact List.length_eq_zero_iff.1 this, (h0 h).2⟩) (by rw [hb]; omega)
  rw [hb] at this
  refine this.mono ?_
  rintro e w' ⟨v, rfl, ho, hd⟩
  obtain ⟨V, vc, rfl⟩ := ownsRow_slice ho
  refine ⟨V, vc, rfl, ?_, ?_, ho, hd⟩
  · rcases ho.2 with ⟨h, h'⟩ | ⟨_, _, _, h, _, _, h1, _⟩
    · omega
    · injection h with _ _ h3; omega
  · rcases ho.2 with ⟨h, h'⟩ | ⟨_, _, _, h, _, _, _, h1, _⟩
    · injection h with _ _ h3; omega
    · injection h with _ _ h3; simp only [maxLen] at h1; omega
end Go.Proofs.Ytbojagkalbfenaa
namespace Go.Proofs.Ytbojagkalbfenaa
set_option linter.unusedVariables false
set_option linter.unusedSimpArgs false
open Go.RowKit PIovGather Go.Proofs.YtbojagkalbfenaaW.PrintWords
attribute [local go_sem] ints_get ints_size ints_getElem

theorem arr2' {w : World} {g : Nat} {x y : Value} {t : TypeId} {fr : Nat × Nat} (h : w.heap[g]? = some (.cells #[x, y] t fr)) : w.cell? ⟨g, 0, none⟩ = some x ∧ w.cell? ⟨g, 1, none⟩ = some y := by
  constructor <;> (rw [cell_of_row _ _ _ _ _ _ h]; rfl)
theorem scatter_b (A : Option Addr) (cap : Nat) (l : List S44) (off : Int) (V : Option Addr) (vc base : Nat) (ms : List Int) (D : Option Addr) (dcap : Nat) (ds : List Int) (P0 : Nat → Prop) (w : World)
    (hrow : w.ownsRow base 5 1 (.slice V ms.length vc) ms.length (byts ms)) (hmem : Kd.C (Kd.int .u8) w D ds.length ds) (hdc : ds.length ≤ dcap) (hdm : dcap ≤ 9223372036854775807) (hD : ∀ ad, D = some ad → ad.block < w.heap.size ∧ some ad.block ≠ (Value.slice V ms.length vc).ownBlock)
    (hV : Kd.V k44 44 w w.heap.size P0 (.slice A l.length cap) l) (hA : ∀ ad, A = some ad → ad.block < w.heap.size ∧ some ad.block ≠ (Value.slice V ms.length vc).ownBlock) (hdl : ds.length ≤ 6100) (hn : ms.length ≤ 6100) :
    Calls Try.prog 26 #[.slice V ms.length vc, .slice A l.length cap, .int .i64 off, .slice D ds.length dcap] w fun e w' => e = .returned (.tuple #[.int .i64 (snum ms.length ds.length l off), .int .i64 (scode ms.length ds.length l off)]) ∧ MRow w' base (Value.slice V ms.length vc).ownBlock (.slice V ms.length vc) ms.length (smem (byts ms) (byts ds) l off) ∧ w.grownBy w' (Value.slice V ms.length vc).ownBlock := by
  have hb : (byts ds).length = ds.length := by simp [byts]
  have := scatterF A cap l off V vc base ms.length (Value.slice V ms.length vc).ownBlock (byts ms) D dcap (byts ds) P0 w (.inr ⟨rfl, hrow⟩) (mem_of_C hmem) (by rw [hb]; exact hdc) hdm hD hV hA (by rw [hb]; omega) (by omega)
  rw [hb] at this
  exact this
theorem own_block {W : World} {base : Nat} {n c : Nat} {V : Option Addr} {xs : List Value} (h : W.ownsRow base 5 1 (.slice V n c) n xs) : ∀ ad, V = some ad → base ≤ ad.block ∧ ad.block < W.heap.size := fun ad e => by
  subst e
  exact ⟨own_base' h ad.block rfl, own_lt' h ad.block rfl⟩
set_option maxHeartbeats 2000000 in
set_option maxRecDepth 100000 in
theorem scatter_law (M A : Option Addr) (ms : List Int) (l : List S44) (mc ac : Nat) (off : Int) (D : Option Addr) (dc : Nat) (ds : List Int) (P0 : Nat → Prop) (w : World) (hC : Kd.C (Kd.int .u8) w M ms.length ms) (hmc : ms.length ≤ mc) (hmx : mc ≤ 9223372036854775807) (hM0 : M = none → ms.length = 0 ∧ mc = 0)
    (hV : Kd.V k44 44 w w.heap.size P0 (.slice A l.length ac) l) (hA : ∀ ad, A = some ad → ad.block < w.heap.size) (hlz : l.length ≤ 8796093022208)
    (hD : Kd.C (Kd.int .u8) w D ds.length ds) (hdc : ds.length ≤ dc) (hdx : dc ≤ 9223372036854775807) (hD0 : D = none → ds.length = 0 ∧ dc = 0) :
    Calls Try.prog 6 #[.slice M ms.length mc, .slice A l.length ac, .agg #[.int .i64 off, .slice D ds.length dc]] w fun e w' => e = .returned (.bool true) ∧ Below w.heap.size w w' := by
  have hac := (Kd.V_reads' hV).2.1
  have HC := Lib.hid hC
  have HV := Lib.hid hV
  have HL := Lib.hid (Kd.V_reads' hV).2.2
  have HA := Lib.hid hA
  have HD := Lib.hid hD
  have HM0 := Lib.hid hM0
  have HD0 := Lib.hid hD0
  clear hC hV hA hD hM0 hD0
  go_enter Try.func6, Try.ntmps6
  have HB := Lib.hid (((Below.refl w.heap.size w).alloc (Nat.le_refl _) (.cells #[.int .i64 off, .slice D ds.length dc] 47)).alloc (by simp) (.cells #[.slice M ms.length mc, .slice D ds.length dc] 22))
  have HX : Hid (((w.alloc (.cells #[.int .i64 off, .slice D ds.length dc] 47)).alloc (.cells #[.slice M ms.length mc, .slice D ds.length dc] 22)).heap[w.heap.size]? = some (.cells #[.int .i64 off, .slice D ds.length dc] 47 (0, 0))) := Lib.hid (by rw [Below.heap_alloc _ _ _ (by simp)]; exact heap_alloc_new w _)
  have HS : Hid (((w.alloc (.cells #[.int .i64 off, .slice D ds.length dc] 47)).alloc (.cells #[.slice M ms.length mc, .slice D ds.length dc] 22)).heap[w.heap.size + 1]? = some (.cells #[.slice M ms.length mc, .slice D ds.length dc] 22 (0, 0))) := Lib.hid (by have := heap_alloc_new (w.alloc (.cells #[.int .i64 off, .slice D ds.length dc] 47)) (.cells #[.slice M ms.length mc, .slice D ds.length dc] 22); simpa using this)
  cases hsm : smallB2 l.length ms.length ds.length with
  | false =>
    go_wp2_with (first
      | (go_at_call 10; refine (orpimentlaw09_small.calls 4 A ac l (some ⟨w.heap.size + 1, 0, none⟩) 2 [ms, ds] false _ (Kd.C_below HL.out HB.out) hac (C_two HS.out hmc hdc (Kd.C_below HC.out HB.out) (Kd.C_below HD.out HB.out)) (by simp) (by rw [small2_f l ms ds (by omega), hsm])).mono ?_; rintro e w1 ⟨rfl, hd⟩; replace HB := Lib.hid (below_then' HB.out hd.below); clear hd)
      | (go_at_call 11; refine (awake_calls _).mono ?_; rintro e w9 ⟨rfl, hb⟩; replace HB := Lib.hid (below_then' HB.out hb); clear hb))
    go_ret
    exact ⟨rfl, HB.out⟩
  | true =>
    obtain ⟨hn60, hm61, hd61⟩ := small2_cases hsm hlz (by omega) (by omega)
    go_wp2_with (first
      | (go_at_call 10; refine (orpimentlaw09_small.calls 4 A ac l (some ⟨w.heap.size + 1, 0, none⟩) 2 [ms, ds] true _ (Kd.C_below HL.out HB.out) hac (C_two HS.out hmc hdc (Kd.C_below HC.out HB.out) (Kd.C_below HD.out HB.out)) (by simp) (by rw [small2_f l ms ds (by omega), hsm])).mono ?_; rintro e w1 ⟨rfl, hd⟩; replace HB := Lib.hid (below_then' HB.out hd.below); replace HX := Lib.hid (heap_kept HX.out hd.below); clear hd)
      | (go_at_call 25; refine (clone_b M mc ms _ (Kd.C_below HC.out HB.out) HM0.out hm61).mono ?_; rintro e w2 ⟨V, vc, rfl, hvc, hvx, ho, hd⟩; have HO := Lib.hid ho; have hlt1 := (Array.getElem?_eq_some_iff.1 HX.out).1; have HW := Lib.hid hd; replace HX := Lib.hid (heap_kept HX.out hd); replace HB := Lib.hid (below_then' HB.out hd); clear hd ho))
    obtain ⟨hx0, hx1⟩ := arr2' HX.out
    obtain ⟨sn, hsn⟩ : ∃ sn, snum ms.length ds.length l off = sn := ⟨_, rfl⟩
    obtain ⟨sc, hsc⟩ : ∃ sc, scode ms.length ds.length l off = sc := ⟨_, rfl⟩
    have HSN := Lib.hid (And.intro hsn hsc)
    clear hsn hsc
    have hob := own_block HO.out
    have HOB := Lib.hid hob
    clear hob
    go_region_held3 (fun w' => w'.cell? ⟨w.heap.size, 0, none⟩ = some (.int .i64 off) ∧ w'.cell? ⟨w.heap.size, 1, none⟩ = some (.slice D ds.length dc))
      (first | go_keep | exact ⟨hy0, hy1⟩ | exact ⟨hz0, hz1⟩)
      (first
        | (go_at_call 25; refine (clone_b D dc ds _ (Kd.C_below HD.out HB.out.drew) HD0.out hd61).mono ?_; rintro e w4 ⟨V2, vc2, rfl, hvc2, hvx2, ho2, hd2⟩; have hX4 := heap_kept (w := w2) HX.out ((show Below w2.heap.size w2 w2.drew from (Below.refl _ _).drew).trans hd2); obtain ⟨hy0, hy1⟩ := arr2' hX4; have HO2 := Lib.hid ho2; have HX4 := Lib.hid hX4; have HD4 := Lib.hid ((show Below w2.heap.size w2 w2.drew from (Below.refl _ _).drew).trans hd2); clear ho2 hX4 hd2)
        | (go_at_call 26; refine (scatter_b A ac l off V vc w1.heap.size ms V2 vc2 ds P0 _ (own_move HO.out (fun k hk => HD4.out.block k (own_lt' HO.out k hk))) (C_of_mrow (.inr ⟨rfl, HO2.out⟩) hvc2) hvc2 hvx2 (fun ad e => ⟨(own_block HO2.out ad e).2, fun e' => by have h1 := (own_block HO2.out ad e).1; have h2 := own_lt' HO.out ad.block e'.symm; simp at h1; omega⟩) (Kd.V_map (Kd.V_below HV.out (below_then' HB.out HD4.out)) (fun _ h => h)) (fun ad e => ⟨Nat.lt_of_lt_of_le (HA.out ad e) (below_then' HB.out HD4.out).size, fun e' => by have h1 := own_base' HO.out ad.block e'.symm; have h2 := HA.out ad e; omega⟩) hd61 hm61).mono ?_; rw [HSN.out.1, HSN.out.2]; rintro e w5 ⟨rfl, hr5, hg5⟩; have hB5 := (below_then' HB.out HD4.out).grown hg5 (below_then' HB.out HD4.out).size (fun k hk => by have h1 := own_base' HO.out k hk; omega); have hX5 := (hg5.block w.heap.size (Array.getElem?_eq_some_iff.1 HX4.out).1 (fun e' => by have h1 := own_base' HO.out w.heap.size e'.symm; omega)).trans HX4.out; obtain ⟨hz0, hz1⟩ := arr2' hX5; have H5 := Lib.hid (And.intro hr5 (And.intro hB5 hX5)); clear hr5 hg5 hB5 hX5))
    clear hx0 hx1
    by_cases hcode : sc = 0
    · subst hcode
      obtain ⟨x, hx⟩ := smem_byts ms ds l off
      have hr5 := H5.out.1
      rw [hx] at hr5
      have hxl : x.length ≤ 1000000 := by have := hr5.length; simp [byts] at this; omega
      have h5 := C_of_mrow hr5 hvc
      have HV5 := Lib.hid h5
      have HXX := Lib.hid hx
      clear hr5 h5 hx
      go_wp2_with (first
        | (go_at_call 27; refine (scattered_calls M mc ms A ac l off D dc ds _ (Kd.C_below HC.out H5.out.2.1) hmc (by omega) (Kd.C_below HL.out H5.out.2.1) hac (Kd.C_below HD.out H5.out.2.1) hdc (by omega)).mono ?_; intro e w6 hsp; obtain ⟨v6, he, hg6, hd6⟩ := hsp; rw [HSN.out.1, HSN.out.2] at he; subst he; have hg7 := hg6 HSN.out.2; rw [HXX.out, show ms.length = x.length from HV5.out.1.symm] at hg7; obtain ⟨A6, c6, rfl, hc6, h6⟩ := C_of_own hg7; have H6 := Lib.hid h6; have HB6 := Lib.hid (below_then' H5.out.2.1 hd6); have HD6 := Lib.hid hd6; clear hg6 hg7 hd6 h6)
        | (go_at_call 14; refine (equal_same (Kd.C_below HV5.out HD6.out) H6.out hvc hc6 hxl).mono ?_; rintro e w8 ⟨rfl, hd⟩; replace HB6 := Lib.hid (below_then' HB6.out hd); clear hd)
        | (go_at_call 11; refine (awake_calls _).mono ?_; rintro e w9 ⟨rfl, hb⟩; replace HB6 := Lib.hid (below_then' HB6.out hb); clear hb))
      go_ret
      exact ⟨rfl, HB6.out⟩
    · have hsn0 : sn = 0 := by rw [← HSN.out.1]; unfold snum; rw [if_neg (by rw [HSN.out.2]; exact hcode)]
      subst hsn0
      have hr5 := H5.out.1
      rw [show smem (byts ms) (byts ds) l off = byts ms by unfold smem; rw [show (byts ms).length = ms.length by simp [byts], show (byts ds).length = ds.length by simp [byts], if_neg (by rw [HSN.out.2]; exact hcode)]] at hr5
      have HV5 := Lib.hid (C_of_mrow hr5 hvc)
      clear hr5
      have hscb : (sc == 0) = false := by simpa using hcode
      go_wp2_with (first
        | (go_at_call 27; refine (scattered_calls M mc ms A ac l off D dc ds _ (Kd.C_below HC.out H5.out.2.1) hmc (by omega) (Kd.C_below HL.out H5.out.2.1) hac (Kd.C_below HD.out H5.out.2.1) hdc (by omega)).mono ?_; intro e w6 hsp; obtain ⟨v6, he, hg6, hd6⟩ := hsp; rw [HSN.out.1, HSN.out.2] at he; subst he; have HB6 := Lib.hid (below_then' H5.out.2.1 hd6); have HD6 := Lib.hid hd6; clear hg6 hd6)
        | (go_at_call 14; refine (equal_same (Kd.C_below HV5.out HD6.out) (Kd.C_below HC.out HB6.out) hvc hmc (by omega)).mono ?_; rintro e w8 ⟨rfl, hd⟩; replace HB6 := Lib.hid (below_then' HB6.out hd); clear hd)
        | (go_at_call 11; refine (awake_calls _).mono ?_; rintro e w9 ⟨rfl, hb⟩; replace HB6 := Lib.hid (below_then' HB6.out hb); clear hb))
      go_ret
      exact ⟨rfl, HB6.out⟩
end Go.Proofs.Ytbojagkalbfenaa
