/- How arguments that came in are read: memories (slices of bytes), lists of parts, and pairs of numbers. -/
import Derived.Test.YtbojagkalbfenaaR1
import Derived.Test.YtbojagkalbfenaaC1
import Derived.Test.YtbojagkalbfenaaG5
import Derived.Test.YtbojagkalbfenaaL7
import Derived.Deep.RegionHeld3
import Derived.Deep.Strs
import Derived.OpenShut
import Derived.WideShapes
import Derived.SizedLaws
import Derived.Deep.Slices
namespace Go.Proofs.Ytbojagkalbfenaa
set_option linter.unusedVariables false
set_option linter.unusedSimpArgs false
open Go.RowKit PIovGather Go.Proofs.YtbojagkalbfenaaW.PrintWords
attribute [local go_sem] ints_get ints_size ints_getElem

/-- small's answer, for two memories. -/
def smallB2 (nl nm nd : Nat) : Bool := decide (wrap64 (wrap64 ((nl : Int) + wrap64 ((nm : Int) / 100)) + wrap64 ((nd : Int) / 100)) ≤ 60)
theorem small2_f (l : List S44) (m d : List Int) {k : Nat} (hk : 4 ≤ k) : orpimentlaw09_small.f k l [m, d] = some (smallB2 l.length m.length d.length) := by
  obtain ⟨q, rfl⟩ : ∃ q, k = q + 1 + 1 + 1 := ⟨k - 3, by omega⟩
  have hw1 : wrap64 1 = 1 := by unfold wrap64; omega
  have hw2 : wrap64 2 = 2 := by unfold wrap64; omega
  simp [orpimentlaw09_small.f, orpimentlaw09_small.l0, hw1, hw2, rd_L1, smallB2]
theorem small2_cases {nl nm nd : Nat} (h : smallB2 nl nm nd = true) (h0 : nl ≤ 8796093022208) (h1 : nm ≤ 9223372036854775807) (h2 : nd ≤ 9223372036854775807) : nl ≤ 60 ∧ nm ≤ 6100 ∧ nd ≤ 6100 := by
  simp only [smallB2, decide_eq_true_eq] at h
  unfold wrap64 at h
  omega
/-- A row of two slices of bytes. -/
theorem C_two {w : World} {g : Nat} {M D : Option Addr} {ms ds : List Int} {mc dc : Nat} {t : TypeId} {fr : Nat × Nat} (h : w.heap[g]? = some (.cells #[.slice M ms.length mc, .slice D ds.length dc] t fr)) (hmc : ms.length ≤ mc) (hdc : ds.length ≤ dc) (hC : Kd.C (Kd.int .u8) w M ms.length ms) (hD : Kd.C (Kd.int .u8) w D ds.length ds) :
    Kd.C (Kd.slice 5 (Kd.int .u8)) w (some ⟨g, 0, none⟩) ([ms, ds] : List (List Int)).length [ms, ds] := by
  refine ⟨rfl, by simp, fun _ => ⟨_, rfl, fun j p hj => ?_⟩⟩
  match j, hj with
  | 0, hj =>
    cases hj
    refine ⟨[.slice M ms.length mc], rfl, ⟨M, mc, rfl, hmc, hC⟩, fun i u hi => ?_⟩
    match i, hi with
    | 0, hi =>
      cases hi
      rw [add_at, cell_of_row _ _ _ _ _ _ h]
      rfl
    | i + 1, hi => simp at hi
  | 1, hj =>
    cases hj
    refine ⟨[.slice D ds.length dc], rfl, ⟨D, dc, rfl, hdc, hD⟩, fun i u hi => ?_⟩
    match i, hi with
    | 0, hi =>
      cases hi
      rw [add_at, cell_of_row _ _ _ _ _ _ h]
      rfl
    | i + 1, hi => simp at hi
  | j + 2, hj => simp at hj

/-- Bytes stay bytes. -/
def Bs (l : List Value) : Prop := ∀ u ∈ l, ∃ p, u = Value.int .u8 p
theorem Bs_byts (l : List Int) : Bs (byts l) := fun u hu => by
  obtain ⟨p, _, rfl⟩ := List.mem_map.1 hu
  exact ⟨p, rfl⟩
theorem Bs_scat : ∀ (xs : List (Int × Int)) (ms ds : List Value), Bs ms → Bs ds → Bs (scat (ms, ds) xs).1
  | [], ms, ds, h, _ => h
  | x :: r, ms, ds, h, hd => by
    have h1 : Bs (wr ms x.1.toNat (ds.take x.2.toNat)) := fun u hu => by
      simp only [wr, List.mem_append] at hu
      rcases hu with (hu | hu) | hu
      · exact h u (List.mem_of_mem_take hu)
      · exact hd u (List.mem_of_mem_take hu)
      · exact h u (List.mem_of_mem_drop hu)
    have := Bs_scat r _ (ds.drop x.2.toNat) h1 (fun u hu => hd u (List.mem_of_mem_drop hu))
    simpa [scat, scatS] using this
theorem Bs_list : ∀ {l : List Value}, Bs l → ∃ x : List Int, l = byts x
  | [], _ => ⟨[], rfl⟩
  | u :: r, h => by
    obtain ⟨p, rfl⟩ := h u List.mem_cons_self
    obtain ⟨x, rfl⟩ := Bs_list (l := r) (fun v hv => h v (List.mem_cons_of_mem _ hv))
    exact ⟨p :: x, rfl⟩
theorem smem_byts (ms ds : List Int) (l : List S44) (off : Int) : ∃ x : List Int, smem (byts ms) (byts ds) l off = byts x := by
  refine Bs_list ?_
  unfold smem
  split
  · exact Bs_scat _ _ _ (Bs_byts ms) (fun u hu => Bs_byts ds u (List.mem_of_mem_take hu))
  · exact Bs_byts ms
theorem C_of_mrow {W : World} {base : Nat} {row : Option Nat} {V : Option Addr} {n vc : Nat} {x : List Int} (h : MRow W base row (.slice V n vc) n (byts x)) (hv : n ≤ vc) : Kd.C (Kd.int .u8) W V n x := by
  have hl := h.length
  rcases h with ⟨h1, _, h2⟩ | ⟨_, h2⟩
  · have : x = [] := by simpa [byts] using h2
    subst this
    subst h1
    exact ⟨rfl, by simp, fun h => absurd h (by omega)⟩
  · have hx : x.length = n := by simpa [byts] using hl
    subst hx
    obtain ⟨A, c, e, _, hC⟩ := C_of_own h2
    injection e with e1 _ _
    subst e1
    exact hC
/-- slices.Equal of two lists of bytes that are the same. -/
theorem equal_same {W : World} {A B : Option Addr} {ca cb : Nat} {l : List Int} {n m : Nat} (ha : Kd.C (Kd.int .u8) W A n l) (hb : Kd.C (Kd.int .u8) W B m l) (hca : n ≤ ca) (hcb : m ≤ cb) (hl : l.length ≤ 1000000) :
    Calls Try.prog 14 #[.slice A n ca, .slice B m cb] W fun e w' => e = .returned (.bool true) ∧ Below W.heap.size W w' := by
  have hn := ha.1
  have hm := hb.1
  subst hn; subst hm
  refine (slices_Equal_byte_byte.calls 1000002 A ca l B cb l true W ha hca hb hcb (by rw [equal_f l l hl (by omega)]; simp)).mono ?_
  rintro e w' ⟨rfl, hd⟩
  exact ⟨rfl, hd.below⟩
/-- slices.Clone of bytes: an own slice. -/
theorem clone_b (A : Option Addr) (cap : Nat) (ds : List Int) (w : World) (hC : Kd.C (Kd.int .u8) w A ds.length ds) (h0 : A = none → ds.length = 0 ∧ cap = 0) (hl : ds.length ≤ 6100) :
    Calls Try.prog 25 #[.slice A ds.length cap] w fun e w' => ∃ V vc, e = .returned (.slice V ds.length vc) ∧ ds.length ≤ vc ∧ vc ≤ 9223372036854775807 ∧ w'.ownsRow w.heap.size 5 1 (.slice V ds.length vc) ds.length (byts ds) ∧ Below w.heap.size w w' := by
  have hb : (byts ds).length = ds.length := by simp [byts]
  have := clone_calls A cap (byts ds) w (mem_of_C hC) (fun h => ⟨by have := (h0 h).1; simp [byts]; exact List.length_eq_zero_iff.1 this, (h0 h).2⟩) (by rw [hb]; omega)
  rw [hb] at this
  refine this.mono ?_
  rintro e w' ⟨v, rfl, ho, hd⟩
  obtain ⟨V, vc, rfl⟩ := ownsRow_slice ho
  refine ⟨V, vc, rfl, ?_, ?_, ho, hd⟩
  · rcases ho.2 with ⟨h, h'⟩ | ⟨_, _, _, h, _, _, h1, _⟩
    · omega
    · injection h with _ _ h3; omega
  · rcases ho.2 with ⟨h, h'⟩ | ⟨_, _, _, h, _, _, _, h1, _⟩
    · injection h with _ _ h3; omega
    · injection h with _ _ h3; simp only [maxLen] at h1; omega
end Go.Proofs.Ytbojagkalbfenaa
namespace Go.Proofs.Ytbojagkalbfenaa
set_option linter.unusedVariables false
set_option linter.unusedSimpArgs false
open Go.RowKit PIovGather Go.Proofs.YtbojagkalbfenaaW.PrintWords
attribute [local go_sem] ints_get ints_size ints_getElem

theorem arr2' {w : World} {g : Nat} {x y : Value} {t : TypeId} {fr : Nat × Nat} (h : w.heap[g]? = some (.cells #[x, y] t fr)) : w.cell? ⟨g, 0, none⟩ = some x ∧ w.cell? ⟨g, 1, none⟩ = some y := by
  constructor <;> (rw [cell_of_row _ _ _ _ _ _ h]; rfl)
theorem scatter_b (A : Option Addr) (cap : Nat) (l : List S44) (off : Int) (V : Option Addr) (vc base : Nat) (ms : List Int) (D : Option Addr) (dcap : Nat) (ds : List Int) (P0 : Nat → Prop) (w : World)
    (hrow : w.ownsRow base 5 1 (.slice V ms.length vc) ms.length (byts ms)) (hmem : Kd.C (Kd.int .u8) w D ds.length ds) (hdc : ds.length ≤ dcap) (hdm : dcap ≤ 9223372036854775807) (hD : ∀ ad, D = some ad → ad.block < w.heap.size ∧ some ad.block ≠ (Value.slice V ms.length vc).ownBlock)
    (hV : Kd.V k44 44 w w.heap.size P0 (.slice A l.length cap) l) (hA : ∀ ad, A = some ad → ad.block < w.heap.size ∧ some ad.block ≠ (Value.slice V ms.length vc).ownBlock) (hdl : ds.length ≤ 6100) (hn : ms.length ≤ 6100) :
    Calls Try.prog 26 #[.slice V ms.length vc, .slice A l.length cap, .int .i64 off, .slice D ds.length dcap] w fun e w' => e = .returned (.tuple #[.int .i64 (snum ms.length ds.length l off), .int .i64 (scode ms.length ds.length l off)]) ∧ MRow w' base (Value.slice V ms.length vc).ownBlock (.slice V ms.length vc) ms.length (smem (byts ms) (byts ds) l off) ∧ w.grownBy w' (Value.slice V ms.length vc).ownBlock := by
  have hb : (byts ds).length = ds.length := by simp [byts]
  have := scatterF A cap l off V vc base ms.length (Value.slice V ms.length vc).ownBlock (byts ms) D dcap (byts ds) P0 w (.inr ⟨rfl, hrow⟩) (mem_of_C hmem) (by rw [hb]; exact hdc) hdm hD hV hA (by rw [hb]; omega) (by omega)
  rw [hb] at this
  exact this
theorem own_block {W : World} {base : Nat} {n c : Nat} {V : Option Addr} {xs : List Value} (h : W.ownsRow base 5 1 (.slice V n c) n xs) : ∀ ad, V = some ad → base ≤ ad.block ∧ ad.block < W.heap.size := fun ad e => by
  subst e
  exact ⟨own_base' h ad.block rfl, own_lt' h ad.block rfl⟩
set_option maxHeartbeats 2000000 in
set_option maxRecDepth 100000 in
theorem scatter_law (M A : Option Addr) (ms : List Int) (l : List S44) (mc ac : Nat) (off : Int) (D : Option Addr) (dc : Nat) (ds : List Int) (P0 : Nat → Prop) (w : World) (hC : Kd.C (Kd.int .u8) w M ms.length ms) (hmc : ms.length ≤ mc) (hmx : mc ≤ 9223372036854775807) (hM0 : M = none → ms.length = 0 ∧ mc = 0)
    (hV : Kd.V k44 44 w w.heap.size P0 (.slice A l.length ac) l) (hA : ∀ ad, A = some ad → ad.block < w.heap.size) (hlz : l.length ≤ 8796093022208)
    (hD : Kd.C (Kd.int .u8) w D ds.length ds) (hdc : ds.length ≤ dc) (hdx : dc ≤ 9223372036854775807) (hD0 : D = none → ds.length = 0 ∧ dc = 0) :
    Calls Try.prog 6 #[.slice M ms.length mc, .slice A l.length ac, .agg #[.int .i64 off, .slice D ds.length dc]] w fun e w' => e = .returned (.bool true) ∧ Below w.heap.size w w' := by
  have hac := (Kd.V_reads' hV).2.1
  have HC := Lib.hid hC
  have HV := Lib.hid hV
  have HL := Lib.hid (Kd.V_reads' hV).2.2
  have HA := Lib.hid hA
  have HD := Lib.hid hD
  have HM0 := Lib.hid hM0
  have HD0 := Lib.hid hD0
  clear hC hV hA hD hM0 hD0
  go_enter Try.func6, Try.ntmps6
  have HB := Lib.hid (((Below.refl w.heap.size w).alloc (Nat.le_refl _) (.cells #[.int .i64 off, .slice D ds.length dc] 47)).alloc (by simp) (.cells #[.slice M ms.length mc, .slice D ds.length dc] 22))
  have HX : Hid (((w.alloc (.cells #[.int .i64 off, .slice D ds.length dc] 47)).alloc (.cells #[.slice M ms.length mc, .slice D ds.length dc] 22)).heap[w.heap.size]? = some (.cells #[.int .i64 off, .slice D ds.length dc] 47 (0, 0))) := Lib.hid (by rw [Below.heap_alloc _ _ _ (by simp)]; exact heap_alloc_new w _)
  have HS : Hid (((w.alloc (.cells #[.int .i64 off, .slice D ds.length dc] 47)).alloc (.cells #[.slice M ms.length mc, .slice D ds.length dc] 22)).heap[w.heap.size + 1]? = some (.cells #[.slice M ms.length mc, .slice D ds.length dc] 22 (0, 0))) := Lib.hid (by have := heap_alloc_new (w.alloc (.cells #[.int .i64 off, .slice D ds.length dc] 47)) (.cells #[.slice M ms.length mc, .slice D ds.length dc] 22); simpa using this)
  cases hsm : smallB2 l.length ms.length ds.length with
  | false =>
    go_wp2_with (first
      | (go_at_call 10; refine (orpimentlaw09_small.calls 4 A ac l (some ⟨w.heap.size + 1, 0, none⟩) 2 [ms, ds] false _ (Kd.C_below HL.out HB.out) hac (C_two HS.out hmc hdc (Kd.C_below HC.out HB.out) (Kd.C_below HD.out HB.out)) (by simp) (by rw [small2_f l ms ds (by omega), hsm])).mono ?_; rintro e w1 ⟨rfl, hd⟩; replace HB := Lib.hid (below_then' HB.out hd.below); clear hd)
      | (go_at_call 11; refine (awake_calls _).mono ?_; rintro e w9 ⟨rfl, hb⟩; replace HB := Lib.hid (below_then' HB.out hb); clear hb))
    go_ret
    exact ⟨rfl, HB.out⟩
  | true =>
    obtain ⟨hn60, hm61, hd61⟩ := small2_cases hsm hlz (by omega) (by omega)
    go_wp2_with (first
      | (go_at_call 10; refine (orpimentlaw09_small.calls 4 A ac l (some ⟨w.heap.size + 1, 0, none⟩) 2 [ms, ds] true _ (Kd.C_below HL.out HB.out) hac (C_two HS.out hmc hdc (Kd.C_below HC.out HB.out) (Kd.C_below HD.out HB.out)) (by simp) (by rw [small2_f l ms ds (by omega), hsm])).mono ?_; rintro e w1 ⟨rfl, hd⟩; replace HB := Lib.hid (below_then' HB.out hd.below); replace HX := Lib.hid (heap_kept HX.out hd.below); clear hd)
      | (go_at_call 25; refine (clone_b M mc ms _ (Kd.C_below HC.out HB.out) HM0.out hm61).mono ?_; rintro e w2 ⟨V, vc, rfl, hvc, hvx, ho, hd⟩; have HO := Lib.hid ho; have hlt1 := (Array.getElem?_eq_some_iff.1 HX.out).1; have HW := Lib.hid hd; replace HX := Lib.hid (heap_kept HX.out hd); replace HB := Lib.hid (below_then' HB.out hd); clear hd ho))
    obtain ⟨hx0, hx1⟩ := arr2' HX.out
    obtain ⟨sn, hsn⟩ : ∃ sn, snum ms.length ds.length l off = sn := ⟨_, rfl⟩
    obtain ⟨sc, hsc⟩ : ∃ sc, scode ms.length ds.length l off = sc := ⟨_, rfl⟩
    have HSN := Lib.hid (And.intro hsn hsc)
    clear hsn hsc
    have hob := own_block HO.out
    have HOB := Lib.hid hob
    clear hob
    go_region_held3 (fun w' => w'.cell? ⟨w.heap.size, 0, none⟩ = some (.int .i64 off) ∧ w'.cell? ⟨w.heap.size, 1, none⟩ = some (.slice D ds.length dc))
      (first | go_keep | exact ⟨hy0, hy1⟩ | exact ⟨hz0, hz1⟩)
      (first
        | (go_at_call 25; refine (clone_b D dc ds _ (Kd.C_below HD.out HB.out.drew) HD0.out hd61).mono ?_; rintro e w4 ⟨V2, vc2, rfl, hvc2, hvx2, ho2, hd2⟩; have hX4 := heap_kept (w := w2) HX.out ((show Below w2.heap.size w2 w2.drew from (Below.refl _ _).drew).trans hd2); obtain ⟨hy0, hy1⟩ := arr2' hX4; have HO2 := Lib.hid ho2; have HX4 := Lib.hid hX4; have HD4 := Lib.hid ((show Below w2.heap.size w2 w2.drew from (Below.refl _ _).drew).trans hd2); clear ho2 hX4 hd2)
        | (go_at_call 26; refine (scatter_b A ac l off V vc w1.heap.size ms V2 vc2 ds P0 _ (own_move HO.out (fun k hk => HD4.out.block k (own_lt' HO.out k hk))) (C_of_mrow (.inr ⟨rfl, HO2.out⟩) hvc2) hvc2 hvx2 (fun ad e => ⟨(own_block HO2.out ad e).2, fun e' => by have h1 := (own_block HO2.out ad e).1; have h2 := own_lt' HO.out ad.block e'.symm; simp at h1; omega⟩) (Kd.V_map (Kd.V_below HV.out (below_then' HB.out HD4.out)) (fun _ h => h)) (fun ad e => ⟨Nat.lt_of_lt_of_le (HA.out ad e) (below_then' HB.out HD4.out).size, fun e' => by have h1 := own_base' HO.out ad.block e'.symm; have h2 := HA.out ad e; omega⟩) hd61 hm61).mono ?_; rw [HSN.out.1, HSN.out.2]; rintro e w5 ⟨rfl, hr5, hg5⟩; have hB5 := (below_then' HB.out HD4.out).grown hg5 (below_then' HB.out HD4.out).size (fun k hk => by have h1 := own_base' HO.out k hk; omega); have hX5 := (hg5.block w.heap.size (Array.getElem?_eq_some_iff.1 HX4.out).1 (fun e' => by have h1 := own_base' HO.out w.heap.size e'.symm; omega)).trans HX4.out; obtain ⟨hz0, hz1⟩ := arr2' hX5; have H5 := Lib.hid (And.intro hr5 (And.intro hB5 hX5)); clear hr5 hg5 hB5 hX5))
    clear hx0 hx1
    by_cases hcode : sc = 0
    · subst hcode
      obtain ⟨x, hx⟩ := smem_byts ms ds l off
      have hr5 := H5.out.1
      rw [hx] at hr5
      have hxl : x.length ≤ 1000000 := by have := hr5.length; simp [byts] at this; omega
      have h5 := C_of_mrow hr5 hvc
      have HV5 := Lib.hid h5
      have HXX := Lib.hid hx
      clear hr5 h5 hx
      go_wp2_with (first
        | (go_at_call 27; refine (scattered_calls M mc ms A ac l off D dc ds _ (Kd.C_below HC.out H5.out.2.1) hmc (by omega) (Kd.C_below HL.out H5.out.2.1) hac (Kd.C_below HD.out H5.out.2.1) hdc (by omega)).mono ?_; intro e w6 hsp; obtain ⟨v6, he, hg6, hd6⟩ := hsp; rw [HSN.out.1, HSN.out.2] at he; subst he; have hg7 := hg6 HSN.out.2; rw [HXX.out, show ms.length = x.length from HV5.out.1.symm] at hg7; obtain ⟨A6, c6, rfl, hc6, h6⟩ := C_of_own hg7; have H6 := Lib.hid h6; have HB6 := Lib.hid (below_then' H5.out.2.1 hd6); have HD6 := Lib.hid hd6; clear hg6 hg7 hd6 h6)
        | (go_at_call 14; refine (equal_same (Kd.C_below HV5.out HD6.out) H6.out hvc hc6 hxl).mono ?_; rintro e w8 ⟨rfl, hd⟩; replace HB6 := Lib.hid (below_then' HB6.out hd); clear hd)
        | (go_at_call 11; refine (awake_calls _).mono ?_; rintro e w9 ⟨rfl, hb⟩; replace HB6 := Lib.hid (below_then' HB6.out hb); clear hb))
      go_ret
      exact ⟨rfl, HB6.out⟩
    · have hsn0 : sn = 0 := by rw [← HSN.out.1]; unfold snum; rw [if_neg (by rw [HSN.out.2]; exact hcode)]
      subst hsn0
      have hr5 := H5.out.1
      rw [show smem (byts ms) (byts ds) l off = byts ms by unfold smem; rw [show (byts ms).length = ms.length by simp [byts], show (byts ds).length = ds.length by simp [byts], if_neg (by rw [HSN.out.2]; exact hcode)]] at hr5
      have HV5 := Lib.hid (C_of_mrow hr5 hvc)
      clear hr5
      have hscb : (sc == 0) = false := by simpa using hcode
      go_wp2_with (first
        | (go_at_call 27; refine (scattered_calls M mc ms A ac l off D dc ds _ (Kd.C_below HC.out H5.out.2.1) hmc (by omega) (Kd.C_below HL.out H5.out.2.1) hac (Kd.C_below HD.out H5.out.2.1) hdc (by omega)).mono ?_; intro e w6 hsp; obtain ⟨v6, he, hg6, hd6⟩ := hsp; rw [HSN.out.1, HSN.out.2] at he; subst he; have HB6 := Lib.hid (below_then' H5.out.2.1 hd6); have HD6 := Lib.hid hd6; clear hg6 hd6)
        | (go_at_call 14; refine (equal_same (Kd.C_below HV5.out HD6.out) (Kd.C_below HC.out HB6.out) hvc hmc (by omega)).mono ?_; rintro e w8 ⟨rfl, hd⟩; replace HB6 := Lib.hid (below_then' HB6.out hd); clear hd)
        | (go_at_call 11; refine (awake_calls _).mono ?_; rintro e w9 ⟨rfl, hb⟩; replace HB6 := Lib.hid (below_then' HB6.out hb); clear hb))
      go_ret
      exact ⟨rfl, HB6.out⟩
end Go.Proofs.Ytbojagkalbfenaa
namespace Go.Proofs.Ytbojagkalbfenaa
open Go.RowKit Go.WideShapes Go.ChangeShapes Go.Deep PIovGather Go.Proofs.YtbojagkalbfenaaW.PrintWords
section
variable {H : Type} {enc : TypeId × Value → H} {P : Program} {w : World} {base : Nat} {spare : Nat → Bool} {held : Bool}
theorem cells_of {a : Addr} {n : Nat} {cs : List Value} (h : w.cells? base a n = some cs) : cs.length = n ∧ ∀ q, q < n → w.cell? (a.add q) = cs[q]? := by
  unfold World.cells? at h
  split at h
  · have hl := mapM_some_length h
    rw [List.length_range] at hl
    exact ⟨hl, fun q hq => mapM_some_get h q q (by simp [hq])⟩
  · simp at h

/-- A slice that came in, whatever its elements: its shape, its reach, and each element's cells with their reading. -/
theorem open_rows {r : Reach} {b0 : Nat} {ts : List TypeId} {ds : List (DataW H)} {j : Nat} {t e : TypeId} {m B : Nat} {v : Value} {d : DataW H} {p : List MemPlace} (hu : P.underlying t = some (.slice e)) (hm : P.cellsOf e = m) (hB : P.bytesOf e = B)
    (ht : ts[j]? = some t) (hd : ds[j]? = some d) (hsz : (DataW.weightsEach P ts ds).all (· ≤ reachBytes) = true)
    (hv : Value.okWide P w r b0 t v) (h : DataW.Trod enc P w base spare held t v d p) :
    ∃ A len cap, v = .slice A len cap ∧ len ≤ cap ∧ cap ≤ maxLen ∧ len * B ≤ 140737488351232 ∧ (A = none → len = 0 ∧ cap = 0) ∧ ∀ i, i < len → ∃ ad cs fuel y, A = some ad ∧ cs.length = m ∧ (∀ q, q < m → w.cell? (ad.add (i * m + q)) = cs[q]?) ∧ DataW.trod enc P w base spare held fuel e cs = some y := by
  obtain ⟨A, len, cap, rfl⟩ := okWide_slice hu hv
  obtain ⟨fuel, hf⟩ := h
  refine ⟨A, len, cap, rfl, ?_⟩
  rcases open_slice hu hf with ⟨hcs, _⟩ | ⟨a, len', cap', m', n, D, Pl, hcs, _, hl, hml, hm', hx, hi⟩
  · simp [Value.cells] at hcs
    obtain ⟨rfl, rfl, rfl⟩ := hcs
    exact ⟨Nat.le_refl _, by simp [maxLen], by simp, fun _ => ⟨rfl, rfl⟩, fun i hi => by omega⟩
  · simp [Value.cells] at hcs
    obtain ⟨rfl, rfl, rfl⟩ := hcs
    obtain ⟨hx, _⟩ := Prod.mk.inj hx
    subst hx
    have z := sized_slice hsz ht hd hu
    rw [hB] at z
    simp only [List.length_map, List.length_range] at z
    have hlm : len ≤ m' := by rw [hm']; split <;> omega
    refine ⟨hl, hml, Nat.le_trans (Nat.mul_le_mul_right _ (by omega)) z, fun h => (by cases h), fun i hil => ?_⟩
    obtain ⟨cs', hc', ht'⟩ := hi i (by omega)
    rw [hm] at hc'
    obtain ⟨h1, h2⟩ := cells_of hc'
    exact ⟨a, cs', n, _, rfl, h1, fun q hq => by rw [← Deep.add_add]; exact h2 q hq, ht'⟩
theorem slice_block {r : Reach} {b0 : Nat} {t e : TypeId} {a : Addr} {n c : Nat} (hu : P.underlying t = some (.slice e)) (hv : Value.okWide P w r b0 t (.slice (some a) n c)) : a.block < w.heap.size := by
  simp only [Value.okWide, hu, Cell.okWide, Cell.ok] at hv
  obtain ⟨_, _, _, _, row, cells, hs, _⟩ := hv
  unfold World.shape? at hs
  by_cases h : a.block < w.heap.size
  · exact h
  · rw [Array.getElem?_eq_none (by omega)] at hs
    cases hs
end
theorem open22 {H : Type} {enc : TypeId × Value → H} {w : World} {base : Nat} {spare : Nat → Bool} {held : Bool} {r : Reach} {b0 : Nat} {ts : List TypeId} {ds : List (DataW H)} {j t : Nat} {v : Value} {d : DataW H} {p : List MemPlace}
    (htt : t = 22) (ht : ts[j]? = some t) (hd : ds[j]? = some d) (hsz : (DataW.weightsEach Try.prog ts ds).all (· ≤ reachBytes) = true)
    (hv : Value.okWide Try.prog w r b0 22 v) (h : DataW.Trod enc Try.prog w base spare held 22 v d p) :
    ∃ (A : Option Addr) (cap : Nat) (ms : List Int), v = .slice A ms.length cap ∧ Kd.C (Kd.int .u8) w A ms.length ms ∧ ms.length ≤ cap ∧ cap ≤ 9223372036854775807 ∧ (A = none → ms.length = 0 ∧ cap = 0) := by
  subst htt
  obtain ⟨A, len, cap, rfl, hl, hm, hz, hnil, hi⟩ := open_rows (m := 1) (B := 1) Try.underlying22 (by kernel_rfl) (by kernel_rfl) ht hd hsz hv h
  have hc : ∀ i, i < len → ∃ q : Int, ∃ ad, A = some ad ∧ w.cell? (ad.add i) = some (.int .u8 q) := by
    intro i hil
    obtain ⟨ad, cs, fuel, y, rfl, hl, hcell, hy⟩ := hi i hil
    obtain ⟨a, rfl, _⟩ := DataW.trod_int Try.underlying5 hy
    exact ⟨a, ad, rfl, by simpa using hcell 0 (by omega)⟩
  obtain ⟨f, hf⟩ := Deep.choose_lt hc
  refine ⟨A, cap, (List.range len).map f, by simp, ⟨rfl, by simp; simp only [maxLen] at hm; omega, fun hp => ?_⟩, by simpa using hl, by simp only [maxLen] at hm; omega, fun e => by simpa using hnil e⟩
  simp only [List.length_map, List.length_range] at hp
  obtain ⟨ad, rfl, _⟩ := hf 0 hp
  refine ⟨ad, rfl, fun j p hj => ⟨[.int .u8 p], rfl, rfl, fun i u hu => ?_⟩⟩
  match i, hu with
  | 0, hu =>
    cases hu
    have hjl : j < len := by
      have := (List.getElem?_eq_some_iff.1 hj).1
      simpa using this
    obtain ⟨ad2, e, h2⟩ := hf j hjl
    cases e
    obtain rfl : f j = p := by simpa [hjl] using hj
    simpa [Kd.int, Kd.scalar] using h2
  | i + 1, hu => simp at hu
theorem pairs_kept {w w1 : World} {A : Option Addr} {l : List (Int × Int)} (h : Pairs w A l) (hb : ∀ k, k < w.heap.size → w1.heap[k]? = w.heap[k]?) : Pairs w1 A l := by
  intro i hi
  obtain ⟨ad, e, h1, h2⟩ := h i hi
  exact ⟨ad, e, (World.cell?_of_block (w := w) (hb _ (World.block_lt_of_cell? _ _ h1))).trans h1, (World.cell?_of_block (w := w) (hb _ (World.block_lt_of_cell? _ _ h2))).trans h2⟩
theorem C_of_pairs {w : World} {A : Option Addr} {l : List S44} (hl : l.length ≤ 9223372036854775807) (h : Pairs w A (prs l)) : Kd.C k44 w A l.length l := by
  refine ⟨rfl, hl, fun hp => ?_⟩
  obtain ⟨ad, e, _⟩ := h 0 (by rw [prs_length]; exact hp)
  refine ⟨ad, e, fun j p hj => ⟨[.int .i64 p.f0, .int .i64 p.f1], rfl, k44_mk w p, fun i u hu => ?_⟩⟩
  have hjl := (List.getElem?_eq_some_iff.1 hj).1
  obtain ⟨ad2, e2, h1, h2⟩ := h j (by rw [prs_length]; exact hjl)
  rw [e] at e2
  cases e2
  have hg : (prs l).getD j (0, 0) = (p.f0, p.f1) := by simp [prs, List.getD_eq_getElem?_getD, hj]
  rw [hg] at h1 h2
  show w.cell? (ad.add (j * 2 + i)) = some u
  match i, hu with
  | 0, hu => cases hu; exact h1
  | 1, hu =>
    cases hu
    rw [show ad.add (j * 2 + 1) = ⟨(ad.add (j * 2)).block, (ad.add (j * 2)).off + 1, none⟩ by rw [← Deep.add_add]; unfold Addr.add; simp]
    exact h2
  | i + 2, hu => simp at hu
theorem V_of_pairs {w : World} {b : Nat} {A : Option Addr} {l : List S44} {c : Nat} (hc : l.length ≤ c) (hl : l.length ≤ 9223372036854775807) (h : Pairs w A (prs l)) : Kd.V k44 44 w b (fun k => k < w.heap.size) (.slice A l.length c) l := by
  refine Kd.V_mk hc (fun W' hW' => C_of_pairs hl (pairs_kept h ?_))
  intro i hi
  exact hW' i hi hi
theorem open23 {H : Type} {enc : TypeId × Value → H} {w : World} {base : Nat} {spare : Nat → Bool} {held : Bool} {r : Reach} {b0 : Nat} {ts : List TypeId} {ds : List (DataW H)} {j t : Nat} {v : Value} {d : DataW H} {p : List MemPlace}
    (htt : t = 23) (ht : ts[j]? = some t) (hd : ds[j]? = some d) (hsz : (DataW.weightsEach Try.prog ts ds).all (· ≤ reachBytes) = true)
    (hv : Value.okWide Try.prog w r b0 23 v) (h : DataW.Trod enc Try.prog w base spare held 23 v d p) :
    ∃ (A : Option Addr) (cap : Nat) (l : List S44), v = .slice A l.length cap ∧ Kd.V k44 44 w w.heap.size (fun k => k < w.heap.size) (.slice A l.length cap) l ∧ (∀ ad, A = some ad → ad.block < w.heap.size) ∧ l.length * 16 ≤ 140737488351232 := by
  subst htt
  obtain ⟨A, len, cap, rfl, hl, _, hz, _, hi⟩ := open_rows (m := 2) (B := 16) Try.underlying23 (by kernel_rfl) (by kernel_rfl) ht hd hsz hv h
  have hc : ∀ i, i < len → ∃ q : S44, ∃ ad, A = some ad ∧ w.cell? (ad.add (i * 2)) = some (.int .i64 q.f0) ∧ w.cell? ⟨(ad.add (i * 2)).block, (ad.add (i * 2)).off + 1, none⟩ = some (.int .i64 q.f1) := by
    intro i hil
    obtain ⟨ad, cs, fuel, y, rfl, hl, hcell, hy⟩ := hi i hil
    obtain ⟨y0, y1, m, _, _, g0, g1⟩ := trod_struct2 Try.underlying44 hy
    obtain ⟨a, ea, _⟩ := DataW.trod_int Try.underlying2 g0
    obtain ⟨b, eb, _⟩ := DataW.trod_int Try.underlying2 g1
    rw [show Try.prog.cellsOf 2 = 1 by kernel_rfl] at ea eb
    match cs, hl with
    | [c0, c1], _ =>
      simp at ea eb
      subst ea eb
      have h0 := hcell 0 (by omega)
      have h1 := hcell 1 (by omega)
      refine ⟨⟨a, b⟩, ad, rfl, by simpa using h0, ?_⟩
      rw [← Deep.add_add] at h1
      have e2 : (ad.add (i * 2)).add 1 = ⟨(ad.add (i * 2)).block, (ad.add (i * 2)).off + 1, none⟩ := by unfold Addr.add; simp
      rw [e2] at h1
      simpa using h1
  haveI : Inhabited S44 := ⟨z44⟩
  obtain ⟨f, hf⟩ := Deep.choose_lt hc
  have hp : Pairs w A (prs ((List.range len).map f)) := by
    intro i hil
    rw [prs_length] at hil
    simp only [List.length_map, List.length_range] at hil
    have := hf i hil
    simpa [prs, List.getD_eq_getElem?_getD, hil] using this
  refine ⟨A, cap, (List.range len).map f, by simp, V_of_pairs (by simpa using hl) (by simp; omega) hp, ?_, by simpa using hz⟩
  rintro ad rfl
  exact slice_block Try.underlying23 hv
/-- A slice of bytes inside a struct that came in. -/
theorem bytes_of_trod {H : Type} {enc : TypeId × Value → H} {w : World} {base : Nat} {spare : Nat → Bool} {held : Bool} {fuel : Nat} {cs : List Value} {x : DataW H × List MemPlace} (hf : DataW.trod enc Try.prog w base spare held fuel 22 cs = some x) :
    ∃ (A : Option Addr) (cap : Nat) (ms : List Int), cs = [.slice A ms.length cap] ∧ Kd.C (Kd.int .u8) w A ms.length ms ∧ ms.length ≤ cap ∧ cap ≤ 9223372036854775807 ∧ (A = none → ms.length = 0 ∧ cap = 0) := by
  rcases open_slice Try.underlying22 hf with ⟨hcs, _⟩ | ⟨a, len, cap, m', n, D, Pl, hcs, _, hl, hml, hm', hx, hi⟩
  · exact ⟨none, 0, [], hcs, ⟨rfl, by simp, fun h => by simp at h⟩, by simp, by omega, fun _ => ⟨rfl, rfl⟩⟩
  · have hlm : len ≤ m' := by rw [hm']; split <;> omega
    have hc : ∀ i, i < len → ∃ q : Int, w.cell? (a.add i) = some (.int .u8 q) := by
      intro i hil
      obtain ⟨cs', hc', ht'⟩ := hi i (by omega)
      rw [show Try.prog.cellsOf 5 = 1 by kernel_rfl] at hc'
      obtain ⟨h1, h2⟩ := cells_of hc'
      obtain ⟨q, rfl, _⟩ := DataW.trod_int Try.underlying5 ht'
      have h3 := h2 0 (by omega)
      rw [add_plus] at h3
      exact ⟨q, by simpa using h3⟩
    obtain ⟨f, hf'⟩ := Deep.choose_lt hc
    simp only [maxLen] at hml
    refine ⟨some a, cap, (List.range len).map f, by simpa using hcs, ⟨rfl, by simp; omega, fun hp => ⟨a, rfl, fun j p hj => ⟨[.int .u8 p], rfl, rfl, fun i u hu => ?_⟩⟩⟩, by simpa using hl, by omega, fun h => by cases h⟩
    match i, hu with
    | 0, hu =>
      cases hu
      have hjl : j < len := by
        have := (List.getElem?_eq_some_iff.1 hj).1
        simpa using this
      have h2 := hf' j hjl
      obtain rfl : f j = p := by simpa [hjl] using hj
      simpa [Kd.int, Kd.scalar] using h2
    | i + 1, hu => simp at hu
theorem open47 {H : Type} {enc : TypeId × Value → H} {w : World} {base : Nat} {spare : Nat → Bool} {held : Bool} {r : Reach} {b0 : Nat} {v : Value} {d : DataW H} {p : List MemPlace}
    (hv : Value.okWide Try.prog w r b0 47 v) (h : DataW.Trod enc Try.prog w base spare held 47 v d p) : ∃ (off : Int) (D : Option Addr) (dc : Nat) (ds : List Int), v = .agg #[.int .i64 off, .slice D ds.length dc] ∧ Kd.C (Kd.int .u8) w D ds.length ds ∧ ds.length ≤ dc ∧ dc ≤ 9223372036854775807 ∧ (D = none → ds.length = 0 ∧ dc = 0) := by
  obtain ⟨cs, rfl, hsz⟩ := okWide_struct Try.underlying47 hv
  obtain ⟨fuel, hf⟩ := h
  obtain ⟨y0, y1, m, _, hl, g0, g1⟩ := trod_struct2 Try.underlying47 hf
  obtain ⟨a, ea, _⟩ := DataW.trod_int Try.underlying2 g0
  obtain ⟨A, cap, ms, eb, h1, h2, h3, h4⟩ := bytes_of_trod g1
  rw [show Try.prog.cellsOf 2 = 1 by kernel_rfl] at ea
  rw [show Try.prog.cellsOf 22 = 1 by kernel_rfl] at eb
  have hcl : cs.toList.length = 2 := by rw [show (2 : Nat) = Try.prog.cellsOf 47 by kernel_rfl]; exact hl
  refine ⟨a, A, cap, ms, ?_, h1, h2, h3, h4⟩
  congr 1
  simp only [Value.cells] at ea eb
  have e3 : cs.toList = [.int .i64 a, .slice A ms.length cap] := by
    generalize cs.toList = L at *
    match L, hcl with
    | [x, y], _ =>
      simp at ea eb
      rw [ea, eb]
  rw [← Array.toArray_toList (xs := cs), e3]
theorem scatter_row (A0 : Option Addr) (cap0 : Nat) (ms0 : List Int) (A1 : Option Addr) (cap1 : Nat) (l1 : List S44) (a2 : Int) (D2 : Option Addr) (dc2 : Nat) (ds2 : List Int) (w : World) (c0 : Kd.C (Kd.int .u8) w A0 ms0.length ms0) (hc0 : ms0.length ≤ cap0) (hm0 : cap0 ≤ 9223372036854775807) (hn0 : A0 = none → ms0.length = 0 ∧ cap0 = 0)
    (v1 : Kd.V k44 44 w w.heap.size (fun k => k < w.heap.size) (.slice A1 l1.length cap1) l1) (hA1 : ∀ ad, A1 = some ad → ad.block < w.heap.size) (hz1 : l1.length * 16 ≤ 140737488351232) (c2 : Kd.C (Kd.int .u8) w D2 ds2.length ds2) (hc2 : ds2.length ≤ dc2) (hm2 : dc2 ≤ 9223372036854775807) (hn2 : D2 = none → ds2.length = 0 ∧ dc2 = 0) :
    Calls Try.prog 6 #[.slice A0 ms0.length cap0, .slice A1 l1.length cap1, .agg #[.int .i64 a2, .slice D2 ds2.length dc2]] w fun e w' => e = .returned (.bool true) ∧ Below w.heap.size w w' :=
  scatter_law A0 A1 ms0 l1 cap0 cap1 a2 D2 dc2 ds2 _ w c0 hc0 hm0 hn0 v1 hA1 (by omega) c2 hc2 hm2 hn2
end Go.Proofs.Ytbojagkalbfenaa
