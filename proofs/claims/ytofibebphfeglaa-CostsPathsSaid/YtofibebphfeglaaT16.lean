import Derived.Test.YtofibebphfeglaaT15
import Derived.Deep.RegionHeld3
import Derived.Deep.AppendLies
namespace Go.Proofs.Ytofibebphfeglaa
open Go.RowKit
attribute [local go_sem] ints_get ints_size ints_getElem

def pcells (l : List (Int × Int)) : List Value := l.flatMap fun p => [.int .i64 p.1, .int .i64 p.2]
theorem pcells_len (l : List (Int × Int)) : (pcells l).length = l.length * 2 := by
  induction l with
  | nil => rfl
  | cons p l ih => simp only [pcells, List.flatMap_cons, List.length_append, List.length_cons, List.length_nil] at ih ⊢; rw [ih]; omega
theorem pcells_get (l : List (Int × Int)) (i : Nat) (h : i < l.length) : (pcells l)[i * 2]? = some (.int .i64 (l.getD i (0, 0)).1) ∧ (pcells l)[i * 2 + 1]? = some (.int .i64 (l.getD i (0, 0)).2) := by
  induction l generalizing i with
  | nil => simp at h
  | cons p l ih =>
    cases i with
    | zero => simp [pcells]
    | succ i =>
      have := ih i (by simpa using h)
      simp only [pcells, List.flatMap_cons] at this ⊢
      rw [show (i + 1) * 2 = (i * 2) + 2 by omega, show (i * 2) + 2 + 1 = (i * 2 + 1) + 2 by omega]
      simpa using this
theorem pcells_snoc (l : List (Int × Int)) (k : Nat) (h : k < l.length) : pcells (l.take (k + 1)) = pcells (l.take k) ++ [.int .i64 (l.getD k (0, 0)).1, .int .i64 (l.getD k (0, 0)).2] := by
  unfold pcells
  rw [List.take_succ_eq_append_getElem h, List.flatMap_append, List.flatMap_singleton, List.getD_eq_getElem?_getD, List.getElem?_eq_getElem h]
  rfl
theorem own_pairs {w : World} {base n : Nat} {e : TypeId} {v : Value} {l : List (Int × Int)} (h : w.ownsRow base e 2 v n (pcells l)) : ∃ A c, v = .slice A n c ∧ Pairs w A l := by
  have hl : l.length = n := by have := h.1; rw [pcells_len] at this; omega
  rcases Nat.eq_zero_or_pos n with h0 | h0
  · have hnil : l = [] := List.eq_nil_of_length_eq_zero (by omega)
    subst hnil
    rcases h.2 with ⟨rfl, h1⟩ | ⟨g, cap, cur, rfl, _⟩
    · exact ⟨none, 0, by rw [h1], fun i hi => absurd hi (by simp)⟩
    · exact ⟨_, cap, rfl, fun i hi => absurd hi (by simp)⟩
  · obtain ⟨g, cap, rfl, _, _⟩ := h.form h0
    refine ⟨_, cap, rfl, fun i hi => ⟨_, rfl, ?_, ?_⟩⟩
    · exact h.cells (g := g) rfl _ _ (pcells_get l i hi).1
    · have := h.cells (g := g) rfl _ _ (pcells_get l i hi).2
      rw [add_at] at this ⊢
      exact this

theorem own_ne {w : World} {base n : Nat} {e : TypeId} {size : Nat} {v : Value} {xs : List Value} (h : w.ownsRow base e size v n xs) {b : Nat} (hb : b < base) : v.ownBlock ≠ some b := by
  intro he
  have := own_base' h b he
  omega
theorem info49 : (Try.prog.info? 49).map (fun i => (i.zero, i.size, i.bytes)) = some (some (.agg (ints [0, 0])), 2, 16) := by kernel_rfl

set_option maxHeartbeats 1000000 in
set_option maxRecDepth 100000 in
theorem paths_law (s c : Int) (l : List Int) (hl : l.length = 24) (A : Option Addr) (cap : Nat) (cs : List (Int × Int)) (w : World) (hp : Pairs w A cs) (hlen : cs.length * 16 ≤ 140737488351232) (hn : cs.length ≤ 60 ∨ (60 < cs.length ∧ 1000 < cs.length)) :
    Calls Try.prog 6 #[.agg (ints (s :: c :: l)), .slice A cs.length cap] w fun e w' => e = .returned (.bool true) ∧ Below w.heap.size w w' := by
  have H := Lib.hid hl
  clear hl
  have HF := Lib.hid (heap_alloc_new w (.cells (ints (s :: c :: l)) 24))
  have HW := Lib.hid ((Below.refl w.heap.size w).alloc (Nat.le_refl _) (.cells (ints (s :: c :: l)) 24))
  have HP := Lib.hid (hp.below HW.out)
  clear hp
  rcases hn with hn | ⟨hn, hn2⟩
  all_goals
    go_enter Try.func6, Try.ntmps6
    go_wp2
    go_loopw [5, 6] (fun v i wr => ∃ k : Nat, k ≤ cs.length ∧ i = .int .i64 k ∧ Hid (wr.ownsRow (w.alloc (.cells (ints (s :: c :: l)) 24)).heap.size 49 2 v k (pcells (cs.take k)) ∧ Below (w.alloc (.cells (ints (s :: c :: l)) 24)).heap.size (w.alloc (.cells (ints (s :: c :: l)) 24)) wr)) (fun _ i _ => cs.length - (intOf i).toNat)
    case atStart => exact ⟨0, by omega, rfl, Lib.hid ⟨⟨rfl, .inl ⟨rfl, rfl⟩⟩, Below.refl _ _⟩⟩
    case round =>
      obtain ⟨k, hk, rfl, hi⟩ := hrel
      by_cases hlt : k < cs.length
      · obtain ⟨ad, rfl, hx, hy⟩ := (HP.out.below hi.out.2) k hlt
        obtain ⟨x, hxe⟩ : ∃ x, x = (cs.getD k (0, 0)).1 := ⟨_, rfl⟩
        obtain ⟨y, hye⟩ : ∃ y, y = (cs.getD k (0, 0)).2 := ⟨_, rfl⟩
        rw [← hxe] at hx
        rw [← hye] at hy
        have HX := Lib.hid hxe
        have HY := Lib.hid hye
        clear hxe hye
        go_wp2_with fail
        have hown := hi.out.1
        have hbl := hi.out.2
        have hlow : ad.block < (w.alloc (.cells (ints (s :: c :: l)) 24)).heap.size := by
          obtain ⟨ad', e', h1, _⟩ := HP.out k hlt
          cases e'
          have := World.block_lt_of_cell? _ _ h1
          have e2 : (ad.add (k * 2)).block = ad.block := by unfold Addr.add; split <;> rfl
          omega
        have agx := own_ne hown hlow
        have HOW := Lib.hid (And.intro hown (And.intro hbl agx))
        obtain ⟨i0, hi0, hz0, hz1, hz2⟩ := info_parts info49
        have HI0 := Lib.hid hi0
        have HZZ := Lib.hid (And.intro hz0 (And.intro hz1 hz2))
        have h63 : k + 1 ≤ maxLen := by unfold maxLen; omega
        have HMX := Lib.hid h63
        have hbq : (ad.add (k * 2)).block = ad.block := by unfold Addr.add; split <;> rfl
        have HBQ := Lib.hid hbq
        clear hi hown hbl agx hi0 hz0 hz1 hz2 h63 hbq hlow
        go_region_held3 (fun w' => w'.cell? (ad.add (k * 2)) = some (.int .i64 x) ∧ w'.cell? ⟨(ad.add (k * 2)).block, (ad.add (k * 2)).off + 1, none⟩ = some (.int .i64 y))
          (first
            | go_keep
            | (go_split_ands
               refine ⟨?_, ?_⟩
               · (rw [hgrow.cell_far _ (by simp; have := World.block_lt_of_cell? _ _ hx; omega) (by rw [HBQ.out]; exact Ne.symm HOW.out.2.2)]; assumption)
               · (rw [hgrow.cell_far _ (by simp; have := World.block_lt_of_cell? _ _ hx; omega) (by rw [HBQ.out]; exact Ne.symm HOW.out.2.2)]; assumption)))
          ((refine step_append_lies _ (by rfl) _ _ _ (by rfl) _ 49 i0 _ 2 16 Try.underlying46 HI0.out HZZ.out.1 HZZ.out.2.1 HZZ.out.2.2 rfl (by omega) _ k _ (by rfl) ((HOW.out.1.alloc _).drew)
              ⟨wr.heap.size, 0, none⟩ 1 1 [.int .i64 x, .int .i64 y] (by rfl) (by rfl) (World.news_of_block (cs := #[.int .i64 x, .int .i64 y]) (t := 49) (fr := (0, 0)) (heap_alloc_new wr _)) (by simp [Value.oneCell'])
              (by omega) HMX.out (by omega) (by have := HOW.out.2.1.size; simp at this ⊢; omega) (wr.heap.size + 1) (by simp) ?_; intro gg cap w2 hown1 hgrow hat hlt'))
        have hb2 := ((HOW.out.2.1.alloc HOW.out.2.1.size (.cells #[.int .i64 x, .int .i64 y] 49)).drew).grown hgrow (by have := HOW.out.2.1.size; simp at this ⊢; omega) (fun q hq => own_base' HOW.out.1 q hq)
        rw [HX.out, HY.out, ← pcells_snoc _ _ hlt] at hown1
        have HI := Lib.hid (And.intro hown1 hb2)
        clear hown1 hb2 hgrow hat hlt'
        go_wp2
        go_roundw
        case rel => exact ⟨k + 1, by omega, by go_num, HI⟩
        case measure => simp [intOf]; omega
      · obtain rfl : k = cs.length := by omega
        obtain ⟨hown, hb⟩ := hi.out
        rw [List.take_length] at hown
        obtain ⟨B, cb, rfl, hpb⟩ := own_pairs hown
        replace HF := Lib.hid (heap_kept HF.out hb)
        have HPA := Lib.hid (HP.out.below hb)
        have HPB := Lib.hid hpb
        replace HW := Lib.hid (below_then' HW.out hb)
        clear hown hb hpb hi
        go_wp2_with (first
          | ((with_reducible change wpList _ _ _ (⟨_, .load 24 (.tmp 2), _, _, _, _⟩ :: _) _ _); refine wpList_load_cells rfl 24 (.tmp 2) rfl ⟨w.heap.size, 0, none⟩ rfl (ints (s :: c :: l)) _ (cells_of_heap HF.out) Try.underlying24 rfl size24 (by rw [ints_size]; simp only [List.length_cons, H.out]) ?_)
          | (go_at_call 21; refine (path_calls s c l H.out _ _ cs _ HPA.out (by omega)).mono ?_; rintro e w2 ⟨rfl, hb2⟩; replace HF := Lib.hid (heap_kept HF.out hb2); replace HPB := Lib.hid (HPB.out.below hb2); replace HW := Lib.hid (below_then' HW.out hb2); clear hb2)
          | (go_at_call 9; refine (from_calls s c l H.out _).mono ?_; rintro e w3 ⟨rfl, hb3⟩; replace HF := Lib.hid (heap_kept HF.out hb3); replace HPB := Lib.hid (HPB.out.below hb3); replace HW := Lib.hid (below_then' HW.out hb3); clear hb3)
          | (go_at_call 22; refine (rpath_calls s c l H.out _ _ cs _ HPB.out (by omega)).mono ?_; rintro e w4 ⟨rfl, hb4⟩; replace HW := Lib.hid (below_then' HW.out hb4); clear hb4)
          | (go_at_call 14; refine (awake_calls _).mono ?_; rintro e w5 ⟨rfl, hb5⟩; replace HW := Lib.hid (below_then' HW.out hb5); clear hb5))
        go_ret
        exact ⟨rfl, HW.out⟩

set_option maxRecDepth 100000 in
theorem paths_early (s c : Int) (l : List Int) (A : Option Addr) (cap n : Nat) (w : World) (hn : 60 < n ∧ n ≤ 1000) :
    Calls Try.prog 6 #[.agg (ints (s :: c :: l)), .slice A n cap] w fun e w' => e = .returned (.bool true) ∧ Below w.heap.size w w' := by
  obtain ⟨h1, h2⟩ := hn
  have HW := Lib.hid ((Below.refl w.heap.size w).alloc (Nat.le_refl _) (.cells (ints (s :: c :: l)) 24))
  go_enter Try.func6, Try.ntmps6
  go_wp2_with (go_at_call 14; refine (awake_calls _).mono ?_; rintro e w2 ⟨rfl, hb2⟩)
  go_ret
  exact ⟨rfl, below_then' HW.out hb2⟩

theorem paths_all (s0 c0 : Int) (l0 : List Int) (A1 : Option Addr) (cap1 : Nat) (cs1 : List (Int × Int)) (w : World) (hl0 : l0.length = 24) (hp1 : Pairs w A1 cs1) (hz1 : cs1.length * 16 ≤ 140737488351232) :
    Calls Try.prog 6 #[.agg (ints (s0 :: c0 :: l0)), .slice A1 cs1.length cap1] w fun e w' => e = .returned (.bool true) ∧ Below w.heap.size w w' := by
  by_cases hn : 60 < cs1.length ∧ cs1.length ≤ 1000
  · exact paths_early s0 c0 l0 A1 cap1 cs1.length w hn
  · exact paths_law s0 c0 l0 hl0 A1 cap1 cs1 w hp1 hz1 (by omega)
end Go.Proofs.Ytofibebphfeglaa
