/- Text of the program. -/
import Derived.Test.YtofibebphfeglaaDoorX1
namespace Go.Proofs.YtofibebphfeglaaDoor
open Go.RowKit
set_option linter.unusedVariables false
attribute [local go_sem] ints_get ints_size ints_getElem
variable {P : Program}
/-- A value of an array of strings is indexed. -/
theorem run_index_strs (w : World) (T E : TypeId) (n : Nat) (l : List (List UInt8)) (i : Int) (hl : l.length = n) (h0 : 0 ≤ i) (h1 : i < n) (hT : P.underlying T = some (.array n E)) (hE : P.underlying E = some .string) (hs : (P.info? E).map (·.size) = some 1) :
    (Instr.index T (.agg (strs l)) (.int .i64 i)).run P w = .ok (.string (bs (l.getD i.toNat []))) w := by
  have hlt : i.toNat < l.length := by omega
  cases hq : P.info? E with
  | none => simp [hq] at hs
  | some u =>
    have hu : u.size = 1 := by simpa [hq] using hs
    have hagg : (isAgg E).run P w = .ok false w := by
      unfold isAgg
      rw [Sem.run_bind, run_underlying hE w]
      rfl
    have hg : (strs l)[i.toNat]? = some (.string (bs (l.getD i.toNat []))) := by
      unfold strs
      simp [List.getD_eq_getElem?_getD, List.getElem?_eq_getElem hlt]
    simp [Instr.index, asIntOf, run_underlying hT, h0, h1, part, sizeOf, typeInfo, hq, hu, hagg, hg]
theorem size49 : (Tryd.prog.info? 49).map (·.size) = some 26 := by kernel_rfl
theorem size9 : (Tryd.prog.info? 9).map (·.size) = some 1 := by kernel_rfl
theorem builder_below {T e B b : Nat} {p : Value} {xs : List Value} {w w' : World} (h : Lib.BuilderAt T e B b p xs w) (hb : Below w.heap.size w w') : Lib.BuilderAt T e B b p xs w' := by
  obtain ⟨hB, v, hk, hown, hne⟩ := h
  refine ⟨hB, v, (hb.block b (Array.getElem?_eq_some_iff.1 hk).1).trans hk, ?_, hne⟩
  rcases hown.2 with ⟨rfl, h2⟩ | ⟨g, cap, cur, rfl, hg, hh, h3⟩
  · exact ⟨hown.1, .inl ⟨rfl, h2⟩⟩
  · exact ⟨hown.1, .inr ⟨g, cap, cur, rfl, hg, (hb.block g (Array.getElem?_eq_some_iff.1 hh).1).trans hh, h3⟩⟩
theorem isBuilder_below {T e B b : Nat} {xs : List Value} {w w' : World} (h : Lib.IsBuilder T e B b xs w) (hb : Below w.heap.size w w') : Lib.IsBuilder T e B b xs w' := h.elim (fun x => .inl (builder_below x hb)) (fun x => .inr (builder_below x hb))
def bstr (l : List UInt8) : Value := .string ⟨l.toArray⟩
/-- The line of a value. -/
def lineS (T : List Int) (i : Nat) : List UInt8 := lab.getD i [] ++ 32 :: (dec (T.getD i 0) ++ [10])
def txtK (T : List Int) (k : Nat) : List UInt8 := (List.range k).flatMap (lineS T)
def textS (s c : Int) (l : List Int) : List UInt8 := txtK (s :: c :: l) 26
theorem txtK_succ (T : List Int) (k : Nat) : txtK T (k + 1) = txtK T k ++ lineS T k := by simp [txtK, List.range_succ]
/-- The table of powers of ten. -/
def PowAt (w : World) : Prop := Lib.TabIs Tryd.prog w "internal/strconv.uint64pow10" .u64 Lib.pow10Tab
theorem names_load {w : World} (h : NamesAt w) : ∀ j v, (strs lab)[j]? = some v → w.cell? ((⟨0, 0, none⟩ : Addr).add j) = some v := by
  intro j v hj
  have hl : lab.length = 26 := by decide
  have hj2 : j < 26 := by
    have := (Array.getElem?_eq_some_iff.1 hj).1
    simp [strs, hl] at this
    exact this
  rw [add_at, Nat.zero_add, h j hj2]
  rw [← hj]
  unfold strs
  simp [List.getD_eq_getElem?_getD, List.getElem?_eq_getElem (show j < lab.length by omega)]
theorem PowAt.below {w w' : World} (h : PowAt w) (hb : Below w.heap.size w w') : PowAt w' := by
  unfold PowAt Lib.TabIs at *
  unfold World.var? at *
  cases hg : Tryd.prog.globalNamed "internal/strconv.uint64pow10" with
  | none => rw [hg] at h; cases h
  | some g =>
    rw [hg] at h
    simp only [Option.bind_some] at h ⊢
    cases hh : w.heap[g]? with
    | none => rw [hh] at h; cases h
    | some o =>
      rw [hb.block g (Array.getElem?_eq_some_iff.1 hh).1, hh]
      rw [hh] at h
      exact h
theorem lineS_len (T : List Int) (i : Nat) (h0 : 0 ≤ T.getD i 0) (h1 : T.getD i 0 ≤ 1000) : (lineS T i).length ≤ 2000 := by
  have h2 : (lab.getD i []).length ≤ 20 := by
    rcases Nat.lt_or_ge i 26 with h | h
    · have : ∀ i, i < 26 → (lab.getD i []).length ≤ 20 := by decide
      exact this i h
    · rw [List.getD_eq_getElem?_getD, List.getElem?_eq_none (by show lab.length ≤ i; rw [show lab.length = 26 by decide]; exact h)]
      simp
  have h3 : (dec (T.getD i 0)).length ≤ (T.getD i 0).toNat + 1 := decDigits_len _
  unfold lineS
  rw [List.length_append, List.length_cons, List.length_append, List.length_cons, List.length_nil]
  omega
theorem below_grow (w : World) (k : Nat) (os : Array Obj) : Below w.heap.size w (Sort.grow (w.drewN k) os) := below_of_regrown ⟨⟨w.drawn + k, os⟩, rfl⟩
theorem fmt_calls (n : Int) (h0 : 0 ≤ n) (h1 : n ≤ 1000000) (w : World) (hP : PowAt w) : Calls Tryd.prog 23 #[.int .i64 n, .int .i64 10] w fun e w' => e = .returned (.string ⟨(dec n).toArray⟩) ∧ Below w.heap.size w w' := by
  refine (Tryd.strconv_FormatInt_10 n (by omega) (by omega) w hP).mono ?_
  rintro e w' ⟨rfl, k, os, rfl⟩
  refine ⟨?_, below_grow w k os⟩
  unfold Lib.itoa dec
  rw [if_neg (by omega)]
theorem getT {s c : Int} {l : List Int} (hl : l.length = 24) (hok : okT s c l = true) (k : Nat) (hk : k < 26) : 0 ≤ (s :: c :: l).getD k 0 ∧ (s :: c :: l).getD k 0 ≤ 1000 := by
  obtain ⟨⟨h1, h2⟩, h3, h4⟩ := okT_c hok
  match k, hk with
  | 0, _ => exact ⟨by show 0 ≤ s; omega, by show s ≤ 1000; omega⟩
  | 1, _ => exact ⟨by show 0 ≤ c; omega, by show c ≤ 1000; omega⟩
  | k + 2, hk =>
    have := okT_l hok k (by omega)
    show 0 ≤ l.getD k 0 ∧ l.getD k 0 ≤ 1000
    omega
theorem txtK_len {s c : Int} {l : List Int} (hl : l.length = 24) (hok : okT s c l = true) : ∀ k, k ≤ 26 → (txtK (s :: c :: l) k).length ≤ 2000 * k
  | 0, _ => by simp [txtK]
  | k + 1, hk => by
    have h1 := txtK_len hl hok k (by omega)
    obtain ⟨h2, h3⟩ := getT hl hok k (by omega)
    have h4 := lineS_len (s :: c :: l) k h2 h3
    rw [txtK_succ, List.length_append]
    omega
theorem size4 (a d : List UInt8) : (((⟨a.toArray⟩ : ByteArray) ++ ⟨#[32]⟩ ++ ⟨d.toArray⟩) ++ ⟨#[10]⟩).size = a.length + d.length + 2 := by
  rw [show (⟨#[32]⟩ : ByteArray) = ⟨[32].toArray⟩ from rfl, show (⟨#[10]⟩ : ByteArray) = ⟨[10].toArray⟩ from rfl, bs_app, bs_app, bs_app]
  show ((((a ++ [32]) ++ d) ++ [10]).toArray).size = _
  simp
  omega
theorem line_str (nm0 : List UInt8) (n : Int) (T : List Int) (k : Nat) (h1 : lab.getD k [] = nm0) (h2 : T.getD k 0 = n) (xs : List UInt8) : Lib.byteCells xs ++ Lib.strCells (((⟨nm0.toArray⟩ : ByteArray) ++ ⟨#[32]⟩ ++ ⟨(dec n).toArray⟩) ++ ⟨#[10]⟩) = Lib.byteCells (xs ++ lineS T k) := by
  rw [Lib.strCells_eq, ← Lib.byteCells_append]
  unfold lineS
  rw [h1, h2]
  simp
/-- What the loop of Text keeps. -/
structure TI (w : World) (b B k : Nat) (T : List Int) (wr : World) : Prop where
  bd : Lib.IsBuilder 56 5 B b (Lib.byteCells (txtK T k)) wr
  bel : Below B w wr
  sz : B ≤ w.heap.size
set_option maxHeartbeats 2000000 in
set_option maxRecDepth 100000 in
theorem text_calls (s c : Int) (l : List Int) (hl : l.length = 24) (w : World) (hN : NamesAt w) (hP : PowAt w) :
    Calls Tryd.prog 11 #[.agg (ints (s :: c :: l))] w fun e w' => e = .returned (.tuple #[if okT s c l = true then bstr (textS s c l) else bstr [], .int .i64 (chk s c l)]) ∧ Below w.heap.size w w' := by
  have H := Lib.hid hl
  have HNP := Lib.hid (And.intro hN hP)
  have HB0 := Lib.hid ((Below.refl w.heap.size w).alloc (Nat.le_refl _) (.cells (ints (s :: c :: l)) 28))
  clear hl hN hP
  cases hok : okT s c l with
  | false =>
    have HE := Lib.hid (chk_f hok)
    rw [HE.out]
    simp only [Bool.false_eq_true, if_false]
    clear hok
    go_enter Tryd.func11, Tryd.ntmps11
    go_wp2_with (first
      | (refine wpList_load_cells rfl 28 (.tmp 1) rfl ⟨w.heap.size, 0, none⟩ rfl (ints (s :: c :: l)) _ (cells_new w _ _ 28 0 rfl) Tryd.underlying28 rfl size28 (by rw [ints_size]; simp only [List.length_cons, H.out]) ?_)
      | (go_at_call 21; refine (check_calls s c l H.out _).mono ?_; rw [HE.out]; rintro e w1 ⟨rfl, hb⟩; have HB := Lib.hid hb; clear hb))
    go_ret2
    exact ⟨rfl, HB0.out.trans (HB.out.mono (by simp))⟩
  | true =>
    have HE := Lib.hid (chk_t hok)
    have HOK := Lib.hid hok
    rw [HE.out]
    simp only [if_true]
    clear hok
    go_enter Tryd.func11, Tryd.ntmps11
    go_wp2_with (first
      | (refine wpList_load_cells rfl 28 (.tmp 1) rfl ⟨w.heap.size, 0, none⟩ rfl (ints (s :: c :: l)) _ (cells_new w _ _ 28 0 rfl) Tryd.underlying28 rfl size28 (by rw [ints_size]; simp only [List.length_cons, H.out]) ?_)
      | (go_at_call 21; refine (check_calls s c l H.out _).mono ?_; rw [HE.out]; rintro e w1 ⟨rfl, hb⟩; have HB := Lib.hid (And.intro (HB0.out.trans (hb.mono (by simp))) (heap_kept (heap_alloc_new w _) hb)); have HN1 : Hid (NamesAt (w1.alloc (.cells #[.pointer none, .slice none 0 0] 56))) := Lib.hid (HNP.out.1.below ((HB.out.1).alloc HB.out.1.size _)); clear hb)
      | (refine wpList_load_cells rfl 49 (.global 0) rfl ⟨0, 0, none⟩ rfl (strs lab) _ (names_load HN1.out) Tryd.underlying49 rfl size49 (by simp [strs]; decide) ?_))
    have hT0 : TI w1 w1.heap.size w1.heap.size 0 (s :: c :: l) (w1.alloc (.cells #[.pointer none, .slice none 0 0] 56)) := by
      refine ⟨.inl ⟨Nat.le_refl _, _, heap_alloc_new w1 _, World.ownsRow_nil _ _ _ _, by simp [Value.ownBlock]⟩, (Below.refl _ w1).alloc (Nat.le_refl _) _, Nat.le_refl _⟩
    have HT := Lib.hid (And.intro (getT H.out HOK.out) (txtK_len H.out HOK.out))
    go_loopw [11] (fun i wr => ∃ k : Nat, k ≤ 26 ∧ i = .int .i64 k ∧ Hid (TI w1 w1.heap.size w1.heap.size k (s :: c :: l) wr)) (fun i _ => 26 - (intOf i).toNat)
    case atStart => exact ⟨0, by omega, rfl, Lib.hid hT0⟩
    case round =>
      obtain ⟨k, hk, rfl, HI⟩ := hrel
      clear hT0
      by_cases hlt : k < 26
      · have hlt' : (k : Int) < 26 := by omega
        have hidx := fun W => run_index_strs (P := Tryd.prog) W 49 9 26 lab k (by decide) (by omega) hlt' Tryd.underlying49 Tryd.underlying9 size9
        have hnl : (lab.getD k []).length ≤ 20 := by
          have : ∀ i, i < 26 → (lab.getD i []).length ≤ 20 := by decide
          exact this k hlt
        have hcell : wr.cell? ⟨w.heap.size, k, none⟩ = some (.int .i64 ((s :: c :: l).getD k 0)) := by
          have h1 : wr.heap[w.heap.size]? = some (.cells (ints (s :: c :: l)) 28) := (HI.out.bel.block _ (by have := (Array.getElem?_eq_some_iff.1 HB.out.2).1; exact this)).trans HB.out.2
          exact ints_cell h1 k (by simp [H.out]; omega)
        obtain ⟨h0, h1⟩ := HT.out.1 k hlt
        have HK := Lib.hid (And.intro hlt (HT.out.2 k (by omega)))
        have HPW := Lib.hid ((HNP.out.2.below HB.out.1).below (HI.out.bel.mono (Nat.le_refl _)))
        have hln := fun nm0 n h1 h2 xs => line_str nm0 n (s :: c :: l) k h1 h2 xs
        have hts := txtK_succ (s :: c :: l) k
        have HLN := Lib.hid (And.intro hln hts)
        clear hln hts hlt
        rw [show (k : Int).toNat = k by simp] at hidx
        generalize hnm : lab.getD k [] = nm0 at *
        generalize hn : (s :: c :: l).getD k 0 = n at *
        have hdl := dec_len h0 (by omega)
        have HNM := Lib.hid (And.intro hnm hn)
        clear hnm hn
        unfold bs at hidx
        go_wp2_with (first
          | (go_at_call 24; refine (value_calls w.heap.size k HK.out.1 _).mono ?_; rintro e w2 ⟨rfl, rfl⟩)
          | (go_at_call 23; refine (fmt_calls n h0 (by omega) _ HPW.out).mono ?_; rintro e w2 ⟨rfl, hb⟩; have HB2 := Lib.hid hb; clear hb)
          | (go_at_call 22; refine (writeString_calls w1.heap.size w1.heap.size _ _ _ (isBuilder_below HI.out.bd HB2.out) ?hlen (Nat.le_trans HI.out.bel.size HB2.out.size)).mono ?_))
        case hlen =>
          have := HK.out.2
          rw [Lib.byteCells_length, size4]
          omega
        rintro e w3 ⟨rfl, hbd, hb3⟩
        have HB3 := Lib.hid (And.intro hbd hb3)
        clear hbd hb3
        go_wp2
        go_roundw
        case rel =>
          refine ⟨k + 1, by have := HK.out.1; omega, by go_num, Lib.hid ⟨.inr ?_, (HI.out.bel.trans (HB2.out.mono HI.out.bel.size)).trans HB3.out.2, Nat.le_refl _⟩⟩
          have h4 := HB3.out.1
          rw [HLN.out.1 nm0 n rfl rfl, ← HLN.out.2] at h4
          exact h4
        case measure => simp [intOf]; omega
      · obtain rfl : k = 26 := by omega
        have hne : txtK (s :: c :: l) 26 ≠ [] := by
          rw [txtK_succ]
          unfold lineS
          simp
        go_wp2_with (go_at_call 25; refine (Tryd.Builder_String w1.heap.size w1.heap.size _ _ HI.out.bd hne).mono ?_; rintro e w2 ⟨rfl, hb⟩; have HB2 := Lib.hid hb; clear hb)
        go_ret2
        exact ⟨rfl, HB.out.1.trans ((HI.out.bel.trans HB2.out).mono HB.out.1.size)⟩
end Go.Proofs.YtofibebphfeglaaDoor
