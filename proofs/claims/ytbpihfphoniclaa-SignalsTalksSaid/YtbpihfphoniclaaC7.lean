import Derived.Test.YtbpihfphoniclaaC6
namespace Go.Proofs.Ytbpihfphoniclaa
open Go.RowKit
set_option linter.unusedVariables false
set_option maxHeartbeats 4000000 in
set_option maxRecDepth 100000 in
theorem kill_thread_ign {base t : Nat} {L : Lay} {S : St} (th p s v : Int) (w : World) (h : RepL w base t L S) (hin : Inv S 1000) (hp : isPr p = true) (hs : ¬ s < 1) (hs2 : ¬ 56 < s) (hl : threads S p ≠ []) (hth : isTh th = true) (hmem : th.toNat ∈ threads S p) (h0 : 0 ≤ th) (h1 : th < 256) (x : Tk) (hx : S.tk th.toNat = some x) (hnw : x.waits = false ∨ hasB x.wants s = false)
    (hig : ignored S p.toNat s = true) :
    Calls Try.prog 14 #[.pointer (some ⟨t, 0, none⟩), .int .i64 th, .int .i64 p, .int .i64 s, .int .i64 v] w fun e w' =>
      KillPost base t (([], 0), opposite S p.toNat s) w e w' := by
  obtain ⟨p0, p1⟩ := isPr_iff.1 hp
  have HP := Lib.hid hp
  have hb0 : Below w.heap.size w (w.alloc (.cells #[.int .i64 s] 3)) := (Below.refl _ _).alloc (Nat.le_refl _) _
  have hn0 : (w.alloc (.cells #[.int .i64 s] 3)).heap[w.heap.size]? = some (.cells #[.int .i64 s] 3 (0, 0)) := heap_alloc_new w _
  have H := Lib.hid (And.intro h (And.intro hb0 (And.intro hin hn0)))
  have HLN := Lib.hid (threads_len S p)
  have HIG := Lib.hid hig
  have HALL : Hid (∀ i ∈ threads S p, i < 256 ∧ (S.tk i).isSome = true) := Lib.hid fun i hi => by
    obtain ⟨h1, y, h2, _⟩ := mem_threads.1 hi
    exact ⟨h1, by rw [h2]; rfl⟩
  have hll : ((threads S p).length == 0) = false := by
    cases hq : threads S p with
    | nil => exact absurd hq hl
    | cons a l => simp
  obtain ⟨_, _, _, _, _, hwn⟩ := hin.task th.toNat (by omega) x hx
  have HX := Lib.hid hx
  have HWN := Lib.hid hwn
  clear h hp hl hb0 hn0 hin hig hx hwn
  have hmemb : Hid ((threads S p).any (fun y => th == (y : Int)) = true) := Lib.hid (by rw [any_mem (isTh_iff.1 hth).1]; simpa using hmem)
  have HTH := Lib.hid hth
  have b1 : (th != -1) = true := by simp; omega
  have b2 : (th == -1) = false := by simp; omega
  clear hmem hth
  have hnw2 : x.waits = false ∨ (x.waits = true ∧ hasB x.wants s = false) := by
    cases hxw : x.waits
    · exact .inl rfl
    · rcases hnw with h | h
      · rw [hxw] at h; cases h
      · exact .inr ⟨rfl, h⟩
  clear hnw
  rcases hnw2 with hnw | hnw
  all_goals
    have HNW := Lib.hid hnw
    go_enter Try.func14, Try.ntmps14
    go_wp2_with (first
      | (go_at_call 27; refine (thread_calls th _).mono ?_; rw [HTH.out]; rintro e w' ⟨rfl, rfl⟩)
      | (go_at_call 28; refine (process_calls p _).mono ?_; rw [HP.out]; rintro e w' ⟨rfl, rfl⟩)
      | (go_at_call 30; refine (threads_calls p _ (H.out.1.below H.out.2.1)).mono ?_; rintro e w3 ⟨v2, rfl, hown, hb2⟩; have HN : Hid (Ns w3 v2 (threads S p)) := Lib.hid (Rw.of_own hown); have HB3 := Lib.hid (below_then' H.out.2.1 hb2); have HC3 := Lib.hid ((hb2.block w.heap.size (by simp)).trans H.out.2.2.2); have hcs2 := cell0 HC3.out rfl; clear hown hb2; obtain ⟨A2, c2, rfl, _⟩ := HN.out.at)
      | (go_at_call 31; refine (contains_calls _ (threads S p) th _ HN.out HLN.out).mono ?_; rw [hmemb.out]; rintro e w' ⟨rfl, rfl⟩))
    clear hcs2
    have htw := H.out.1.lt
    have hR3 := H.out.1.below HB3.out
    obtain ⟨bb, hpb, hbb, hbl, hbc, hcp⟩ := hR3.task_cell (i := th.toNat) (by omega) HX.out
    have hbw : bb < w.heap.size := H.out.1.ptr_lt (by omega) HX.out hpb
    have c3 : w3.cell? ⟨bb, 3, none⟩ = some (.bool x.waits) := by rw [cell_of_row _ _ _ _ _ _ hbc]; rfl
    have c4 : w3.cell? ⟨bb, 4, none⟩ = some (.int .u64 x.wants) := by rw [cell_of_row _ _ _ _ _ _ hbc]; rfl
    have cb := cell0 HC3.out rfl
    have HR3 := Lib.hid hR3
    have HPB := Lib.hid hpb
    clear hR3 hpb hbc
    first
      | (rw [HNW.out] at c3
         clear hnw
         go_quiet (fail))
      | (rw [HNW.out.1] at c3
         clear hnw
         go_quiet ((go_at_call 33; exact Calls.quiet_of_same (has_same x.wants s _ false HNW.out.2 (Nat.lt_trans HWN.out (by decide)) (by omega) (by omega)))))
    have HRd := Lib.hid (HR3.out.drewN nq)
    have HCd : Hid ((w3.drewN nq).heap[w.heap.size]? = some (.cells #[.int .i64 s] 3 (0, 0))) := Lib.hid HC3.out
    have HBd := Lib.hid (below_drewN HB3.out nq)
    generalize w3.drewN nq = w4 at *
    have cb4 := cell0 HCd.out rfl
    clear c3 c4 hcp cb
    obtain ⟨b4, hb4, _, hbl4, hbc4, hcp4⟩ := HRd.out.task_cell (i := th.toNat) (by omega) HX.out
    rw [HPB.out] at hb4
    cases hb4
    have cl4 : w4.cell? ⟨bb, 2, none⟩ = some (L.lv th.toNat) := by rw [cell_of_row _ _ _ _ _ _ hbc4]; rfl
    have hr4 := HRd.out.row th.toNat (by omega)
    obtain ⟨A4, cap4, e4, _⟩ := hr4.at
    rw [e4] at cl4 hr4
    have HR4 := Lib.hid hr4
    have hsb : s < 57 := by omega
    have hsa : 0 ≤ s := by omega
    clear hr4 e4 hbc4
    go_wp2_with (first
      | ((with_reducible change Calls Try.prog 35 _ w4 _); refine (ignored_calls p s w4 HRd.out p0 p1 hsa hsb).mono ?_; rw [HIG.out]; rintro e w' ⟨rfl, rfl⟩)
      | (go_at_call 34; refine (opposite_calls p s w4 HRd.out H.out.2.2.1 p0 p1).mono ?_; rintro e w6 ⟨rfl, ⟨L6, hR6, hP6⟩, hF6⟩; have hc6 := hF6.oth w.heap.size _ HCd.out (fun e he => by simp [oty] at he; subst he; decide); have HC6 := Lib.hid hc6; have cb6 := cell0 hc6 rfl; have HR6 := Lib.hid (And.intro hR6 (And.intro hF6 hP6)); obtain ⟨b6, hb6, _, hbl6, hbc6, hcp6⟩ := hR6.task_cell (i := th.toNat) (by omega) (x := x) (by rw [opposite_tk]; exact HX.out); (rw [hP6, HPB.out] at hb6; cases hb6); have cl6 : w6.cell? ⟨bb, 2, none⟩ = some (L6.lv th.toNat) := (by rw [cell_of_row _ _ _ _ _ _ hbc6]; rfl); have fl6 := frozen_of_cells hbc6 2; have hr6 := hR6.row th.toNat (by omega); obtain ⟨A6, cap6, e6, hca6, hcb6, _⟩ := hr6.at; (rw [e6] at cl6 hr6); have HE6 := Lib.hid (And.intro e6 hr6); have HIG6 : Hid (ignored (opposite S p.toNat s) p.toNat s = true) := Lib.hid (by rw [ignored_ac (opposite_ac S p.toNat s)]; exact HIG.out); clear hR6 hF6 hP6 hc6 e6 hr6 hbc6 cb4; skip)
      | (go_at_call 35; refine (ignored_calls p s w6 HR6.out.1 p0 p1 hsa hsb).mono ?_; rw [HIG6.out]; rintro e w' ⟨rfl, rfl⟩))
    go_ret2
    exact killPost_err (After.pre ⟨⟨L6, HR6.out.1⟩, HR6.out.2.1⟩ (Fr.of_below HBd.out H.out.1.base_lt))
set_option maxHeartbeats 4000000 in
set_option maxRecDepth 100000 in
theorem kill_thread_again {base t : Nat} {L : Lay} {S : St} (th p s v : Int) (w : World) (h : RepL w base t L S) (hin : Inv S 1000) (hp : isPr p = true) (hs : ¬ s < 1) (hs2 : ¬ 56 < s) (hl : threads S p ≠ []) (hth : isTh th = true) (hmem : th.toNat ∈ threads S p) (h0 : 0 ≤ th) (h1 : th < 256) (x : Tk) (hx : S.tk th.toNat = some x) (hnw : x.waits = false ∨ hasB x.wants s = false)
    (hig : ignored S p.toNat s = false) (h41 : 41 ≤ s) (hfull : 64 ≤ queued (S.ls th.toNat)) :
    Calls Try.prog 14 #[.pointer (some ⟨t, 0, none⟩), .int .i64 th, .int .i64 p, .int .i64 s, .int .i64 v] w fun e w' =>
      KillPost base t (([], 2), S) w e w' := by
  obtain ⟨p0, p1⟩ := isPr_iff.1 hp
  have HP := Lib.hid hp
  have hb0 : Below w.heap.size w (w.alloc (.cells #[.int .i64 s] 3)) := (Below.refl _ _).alloc (Nat.le_refl _) _
  have hn0 : (w.alloc (.cells #[.int .i64 s] 3)).heap[w.heap.size]? = some (.cells #[.int .i64 s] 3 (0, 0)) := heap_alloc_new w _
  have H := Lib.hid (And.intro h (And.intro hb0 (And.intro hin hn0)))
  have HLN := Lib.hid (threads_len S p)
  have HIG := Lib.hid hig
  have HALL : Hid (∀ i ∈ threads S p, i < 256 ∧ (S.tk i).isSome = true) := Lib.hid fun i hi => by
    obtain ⟨h1, y, h2, _⟩ := mem_threads.1 hi
    exact ⟨h1, by rw [h2]; rfl⟩
  have hll : ((threads S p).length == 0) = false := by
    cases hq : threads S p with
    | nil => exact absurd hq hl
    | cons a l => simp
  obtain ⟨_, _, _, _, _, hwn⟩ := hin.task th.toNat (by omega) x hx
  have HX := Lib.hid hx
  have HWN := Lib.hid hwn
  have HFULL : Hid (decide ((64 : Int) ≤ (queued (S.ls th.toNat) : Int)) = true) := Lib.hid (decide_eq_true (by omega))
  clear hfull
  clear h hp hl hb0 hn0 hin hig hx hwn
  have hmemb : Hid ((threads S p).any (fun y => th == (y : Int)) = true) := Lib.hid (by rw [any_mem (isTh_iff.1 hth).1]; simpa using hmem)
  have HTH := Lib.hid hth
  have b1 : (th != -1) = true := by simp; omega
  have b2 : (th == -1) = false := by simp; omega
  clear hmem hth
  have hnw2 : x.waits = false ∨ (x.waits = true ∧ hasB x.wants s = false) := by
    cases hxw : x.waits
    · exact .inl rfl
    · rcases hnw with h | h
      · rw [hxw] at h; cases h
      · exact .inr ⟨rfl, h⟩
  clear hnw
  rcases hnw2 with hnw | hnw
  all_goals
    have HNW := Lib.hid hnw
    go_enter Try.func14, Try.ntmps14
    go_wp2_with (first
      | (go_at_call 27; refine (thread_calls th _).mono ?_; rw [HTH.out]; rintro e w' ⟨rfl, rfl⟩)
      | (go_at_call 28; refine (process_calls p _).mono ?_; rw [HP.out]; rintro e w' ⟨rfl, rfl⟩)
      | (go_at_call 30; refine (threads_calls p _ (H.out.1.below H.out.2.1)).mono ?_; rintro e w3 ⟨v2, rfl, hown, hb2⟩; have HN : Hid (Ns w3 v2 (threads S p)) := Lib.hid (Rw.of_own hown); have HB3 := Lib.hid (below_then' H.out.2.1 hb2); have HC3 := Lib.hid ((hb2.block w.heap.size (by simp)).trans H.out.2.2.2); have hcs2 := cell0 HC3.out rfl; clear hown hb2; obtain ⟨A2, c2, rfl, _⟩ := HN.out.at)
      | (go_at_call 31; refine (contains_calls _ (threads S p) th _ HN.out HLN.out).mono ?_; rw [hmemb.out]; rintro e w' ⟨rfl, rfl⟩))
    clear hcs2
    have htw := H.out.1.lt
    have hR3 := H.out.1.below HB3.out
    obtain ⟨bb, hpb, hbb, hbl, hbc, hcp⟩ := hR3.task_cell (i := th.toNat) (by omega) HX.out
    have hbw : bb < w.heap.size := H.out.1.ptr_lt (by omega) HX.out hpb
    have c3 : w3.cell? ⟨bb, 3, none⟩ = some (.bool x.waits) := by rw [cell_of_row _ _ _ _ _ _ hbc]; rfl
    have c4 : w3.cell? ⟨bb, 4, none⟩ = some (.int .u64 x.wants) := by rw [cell_of_row _ _ _ _ _ _ hbc]; rfl
    have cb := cell0 HC3.out rfl
    have HR3 := Lib.hid hR3
    have HPB := Lib.hid hpb
    clear hR3 hpb hbc
    first
      | (rw [HNW.out] at c3
         clear hnw
         go_quiet (fail))
      | (rw [HNW.out.1] at c3
         clear hnw
         go_quiet ((go_at_call 33; exact Calls.quiet_of_same (has_same x.wants s _ false HNW.out.2 (Nat.lt_trans HWN.out (by decide)) (by omega) (by omega)))))
    have HRd := Lib.hid (HR3.out.drewN nq)
    have HCd : Hid ((w3.drewN nq).heap[w.heap.size]? = some (.cells #[.int .i64 s] 3 (0, 0))) := Lib.hid HC3.out
    have HBd := Lib.hid (below_drewN HB3.out nq)
    generalize w3.drewN nq = w4 at *
    have cb4 := cell0 HCd.out rfl
    clear c3 c4 hcp cb
    obtain ⟨b4, hb4, _, hbl4, hbc4, hcp4⟩ := HRd.out.task_cell (i := th.toNat) (by omega) HX.out
    rw [HPB.out] at hb4
    cases hb4
    have cl4 : w4.cell? ⟨bb, 2, none⟩ = some (L.lv th.toNat) := by rw [cell_of_row _ _ _ _ _ _ hbc4]; rfl
    have hr4 := HRd.out.row th.toNat (by omega)
    obtain ⟨A4, cap4, e4, _⟩ := hr4.at
    rw [e4] at cl4 hr4
    have HR4 := Lib.hid hr4
    have hsb : s < 57 := by omega
    have hsa : 0 ≤ s := by omega
    clear hr4 e4 hbc4
    go_wp2_with (first
      | (go_at_call 35; refine (ignored_calls p s w4 HRd.out p0 p1 hsa hsb).mono ?_; rw [HIG.out]; rintro e w' ⟨rfl, rfl⟩)
      | (go_at_call 36; refine (queued_calls _ (S.ls th.toNat) w4 HR4.out (H.out.2.2.1.len th.toNat (by omega))).mono ?_; rintro e w5 ⟨rfl, hd5⟩; have HQF := HFULL.out; have HR5 := Lib.hid (HRd.out.below hd5); have HC5 := Lib.hid ((hd5.block w.heap.size (Array.getElem?_eq_some_iff.1 HCd.out).1).trans HCd.out); have HB5 := Lib.hid (below_then' HBd.out hd5); have cb5 := cell0 HC5.out rfl; clear hd5))
    go_ret2
    exact killPost_err (After.below H.out.1 HB5.out)
set_option maxHeartbeats 4000000 in
set_option maxRecDepth 100000 in
theorem kill_thread_room {base t : Nat} {L : Lay} {S : St} (th p s v : Int) (w : World) (h : RepL w base t L S) (hin : Inv S 1000) (hp : isPr p = true) (hs : ¬ s < 1) (hs2 : ¬ 56 < s) (hl : threads S p ≠ []) (hth : isTh th = true) (hmem : th.toNat ∈ threads S p) (h0 : 0 ≤ th) (h1 : th < 256) (x : Tk) (hx : S.tk th.toNat = some x) (hnw : x.waits = false ∨ hasB x.wants s = false)
    (hig : ignored S p.toNat s = false) (h41 : 41 ≤ s) (hfull : ¬ 64 ≤ queued (S.ls th.toNat)) :
    Calls Try.prog 14 #[.pointer (some ⟨t, 0, none⟩), .int .i64 th, .int .i64 p, .int .i64 s, .int .i64 v] w fun e w' =>
      KillPost base t (([], 0), { opposite S p.toNat s with ls := upd (opposite S p.toNat s).ls th.toNat ((opposite S p.toNat s).ls th.toNat ++ [(s, v)]) }) w e w' := by
  obtain ⟨p0, p1⟩ := isPr_iff.1 hp
  have HP := Lib.hid hp
  have hb0 : Below w.heap.size w (w.alloc (.cells #[.int .i64 s] 3)) := (Below.refl _ _).alloc (Nat.le_refl _) _
  have hn0 : (w.alloc (.cells #[.int .i64 s] 3)).heap[w.heap.size]? = some (.cells #[.int .i64 s] 3 (0, 0)) := heap_alloc_new w _
  have H := Lib.hid (And.intro h (And.intro hb0 (And.intro hin hn0)))
  have HLN := Lib.hid (threads_len S p)
  have HIG := Lib.hid hig
  have HALL : Hid (∀ i ∈ threads S p, i < 256 ∧ (S.tk i).isSome = true) := Lib.hid fun i hi => by
    obtain ⟨h1, y, h2, _⟩ := mem_threads.1 hi
    exact ⟨h1, by rw [h2]; rfl⟩
  have hll : ((threads S p).length == 0) = false := by
    cases hq : threads S p with
    | nil => exact absurd hq hl
    | cons a l => simp
  obtain ⟨_, _, _, _, _, hwn⟩ := hin.task th.toNat (by omega) x hx
  have HX := Lib.hid hx
  have HWN := Lib.hid hwn
  have HFULL : Hid (decide ((64 : Int) ≤ (queued (S.ls th.toNat) : Int)) = false) := Lib.hid (decide_eq_false (by omega))
  clear hfull
  clear h hp hl hb0 hn0 hin hig hx hwn
  have hmemb : Hid ((threads S p).any (fun y => th == (y : Int)) = true) := Lib.hid (by rw [any_mem (isTh_iff.1 hth).1]; simpa using hmem)
  have HTH := Lib.hid hth
  have b1 : (th != -1) = true := by simp; omega
  have b2 : (th == -1) = false := by simp; omega
  clear hmem hth
  have hnw2 : x.waits = false ∨ (x.waits = true ∧ hasB x.wants s = false) := by
    cases hxw : x.waits
    · exact .inl rfl
    · rcases hnw with h | h
      · rw [hxw] at h; cases h
      · exact .inr ⟨rfl, h⟩
  clear hnw
  rcases hnw2 with hnw | hnw
  all_goals
    have HNW := Lib.hid hnw
    go_enter Try.func14, Try.ntmps14
    go_wp2_with (first
      | (go_at_call 27; refine (thread_calls th _).mono ?_; rw [HTH.out]; rintro e w' ⟨rfl, rfl⟩)
      | (go_at_call 28; refine (process_calls p _).mono ?_; rw [HP.out]; rintro e w' ⟨rfl, rfl⟩)
      | (go_at_call 30; refine (threads_calls p _ (H.out.1.below H.out.2.1)).mono ?_; rintro e w3 ⟨v2, rfl, hown, hb2⟩; have HN : Hid (Ns w3 v2 (threads S p)) := Lib.hid (Rw.of_own hown); have HB3 := Lib.hid (below_then' H.out.2.1 hb2); have HC3 := Lib.hid ((hb2.block w.heap.size (by simp)).trans H.out.2.2.2); have hcs2 := cell0 HC3.out rfl; clear hown hb2; obtain ⟨A2, c2, rfl, _⟩ := HN.out.at)
      | (go_at_call 31; refine (contains_calls _ (threads S p) th _ HN.out HLN.out).mono ?_; rw [hmemb.out]; rintro e w' ⟨rfl, rfl⟩))
    clear hcs2
    have htw := H.out.1.lt
    have hR3 := H.out.1.below HB3.out
    obtain ⟨bb, hpb, hbb, hbl, hbc, hcp⟩ := hR3.task_cell (i := th.toNat) (by omega) HX.out
    have hbw : bb < w.heap.size := H.out.1.ptr_lt (by omega) HX.out hpb
    have c3 : w3.cell? ⟨bb, 3, none⟩ = some (.bool x.waits) := by rw [cell_of_row _ _ _ _ _ _ hbc]; rfl
    have c4 : w3.cell? ⟨bb, 4, none⟩ = some (.int .u64 x.wants) := by rw [cell_of_row _ _ _ _ _ _ hbc]; rfl
    have cb := cell0 HC3.out rfl
    have HR3 := Lib.hid hR3
    have HPB := Lib.hid hpb
    clear hR3 hpb hbc
    first
      | (rw [HNW.out] at c3
         clear hnw
         go_quiet (fail))
      | (rw [HNW.out.1] at c3
         clear hnw
         go_quiet ((go_at_call 33; exact Calls.quiet_of_same (has_same x.wants s _ false HNW.out.2 (Nat.lt_trans HWN.out (by decide)) (by omega) (by omega)))))
    have HRd := Lib.hid (HR3.out.drewN nq)
    have HCd : Hid ((w3.drewN nq).heap[w.heap.size]? = some (.cells #[.int .i64 s] 3 (0, 0))) := Lib.hid HC3.out
    have HBd := Lib.hid (below_drewN HB3.out nq)
    generalize w3.drewN nq = w4 at *
    have cb4 := cell0 HCd.out rfl
    clear c3 c4 hcp cb
    obtain ⟨b4, hb4, _, hbl4, hbc4, hcp4⟩ := HRd.out.task_cell (i := th.toNat) (by omega) HX.out
    rw [HPB.out] at hb4
    cases hb4
    have cl4 : w4.cell? ⟨bb, 2, none⟩ = some (L.lv th.toNat) := by rw [cell_of_row _ _ _ _ _ _ hbc4]; rfl
    have hr4 := HRd.out.row th.toNat (by omega)
    obtain ⟨A4, cap4, e4, _⟩ := hr4.at
    rw [e4] at cl4 hr4
    have HR4 := Lib.hid hr4
    have hsb : s < 57 := by omega
    have hsa : 0 ≤ s := by omega
    clear hr4 e4 hbc4
    go_wp2_with (first
      | ((with_reducible change Calls Try.prog 35 _ w4 _); refine (ignored_calls p s w4 HRd.out p0 p1 hsa hsb).mono ?_; rw [HIG.out]; rintro e w' ⟨rfl, rfl⟩)
      | (go_at_call 36; refine (queued_calls _ (S.ls th.toNat) w4 HR4.out (H.out.2.2.1.len th.toNat (by omega))).mono ?_; rintro e w5 ⟨rfl, hd5⟩; have HQF := HFULL.out; have HR5 := Lib.hid (HRd.out.below hd5); have HC5 := Lib.hid ((hd5.block w.heap.size (Array.getElem?_eq_some_iff.1 HCd.out).1).trans HCd.out); have HB5 := Lib.hid (below_then' HBd.out hd5); have cb5 := cell0 HC5.out rfl; clear hd5)
      | (go_at_call 34; refine (opposite_calls p s w5 HR5.out H.out.2.2.1 p0 p1).mono ?_; rintro e w6 ⟨rfl, ⟨L6, hR6, hP6⟩, hF6⟩; have hc6 := hF6.oth w.heap.size _ HC5.out (fun e he => by simp [oty] at he; subst he; decide); have HC6 := Lib.hid hc6; have cb6 := cell0 hc6 rfl; have HR6 := Lib.hid (And.intro hR6 (And.intro hF6 hP6)); obtain ⟨b6, hb6, _, hbl6, hbc6, hcp6⟩ := hR6.task_cell (i := th.toNat) (by omega) (x := x) (by rw [opposite_tk]; exact HX.out); (rw [hP6, HPB.out] at hb6; cases hb6); have cl6 : w6.cell? ⟨bb, 2, none⟩ = some (L6.lv th.toNat) := (by rw [cell_of_row _ _ _ _ _ _ hbc6]; rfl); have fl6 := frozen_of_cells hbc6 2; have hr6 := hR6.row th.toNat (by omega); obtain ⟨A6, cap6, e6, hca6, hcb6, _⟩ := hr6.at; (rw [e6] at cl6 hr6); have HE6 := Lib.hid (And.intro e6 hr6); have HIG6 : Hid (ignored (opposite S p.toNat s) p.toNat s = false) := Lib.hid (by rw [ignored_ac (opposite_ac S p.toNat s)]; exact HIG.out); clear hR6 hF6 hP6 hc6 e6 hr6 hbc6 cb4 cb5; skip)
      | (go_at_call 35; refine (ignored_calls p s w6 HR6.out.1 p0 p1 hsa hsb).mono ?_; rw [HIG6.out]; rintro e w' ⟨rfl, rfl⟩))
    have HD7 : Hid (Below w6.heap.size w6 w6) := Lib.hid (Below.refl _ _)
    have cl7 := cl6
    have fl7 := fl6
    have cb7 := cb6
    clear cl6 fl6 cb6
    have HR7 := Lib.hid (HR6.out.1.below HD7.out)
    have hl7 : bb < w6.heap.size := Nat.lt_of_lt_of_le hbl6 HD7.out.size
    have hcl7 := World.block_lt_of_cell? _ _ cb7
    obtain ⟨i0, hi0, hz0, hz1, hz2⟩ := info_parts info94
    have HINF := Lib.hid (And.intro hi0 (And.intro hz0 (And.intro hz1 hz2)))
    have HLN6 := Lib.hid ((H.out.2.2.1.opposite p.toNat s).len th.toNat (by omega))
    have HR7L : Hid (Rw w6 94 2 (.slice A6 ((opposite S p.toNat s).ls th.toNat).length cap6) ((opposite S p.toNat s).ls th.toNat).length (pcells ((opposite S p.toNat s).ls th.toNat))) := Lib.hid (Rw.below HE6.out.2 HD7.out)
    have HNEW : Hid ((w6.alloc (.cells #[.int .i64 s, .int .i64 v] 94)).heap[w6.heap.size]? = some (.cells #[.int .i64 s, .int .i64 v] 94 (0, 0))) := Lib.hid (heap_alloc_new w6 _)
    have HBA : Hid (Below w6.heap.size w6 (w6.alloc (.cells #[.int .i64 s, .int .i64 v] 94)).drew) := Lib.hid ((Below.refl _ _).alloc (Nat.le_refl _) _).drew
    clear hi0 hz0 hz1 hz2
    go_region_law (first
      | (refine step_append_rw _ (by rfl) (.tmp 165) (.tmp 169) 71 (by rfl) 94 i0 (.agg #[.int .i64 0, .int .i64 0]) 2 16 Try.underlying71 HINF.out.1 HINF.out.2.1 HINF.out.2.2.1 HINF.out.2.2.2 rfl (by decide) (.slice A6 ((opposite S p.toNat s).ls th.toNat).length cap6) _ (pcells ((opposite S p.toNat s).ls th.toNat)) (by rfl) (Rw.below HR7L.out HBA.out)
          (some ⟨w6.heap.size, 0, none⟩) 1 1 [.int .i64 s, .int .i64 v] (by rfl) rfl (fun ad had j u hu => by cases had; exact World.news_of_block (w := (w6.alloc (.cells #[.int .i64 s, .int .i64 v] 94)).drew) HNEW.out j u hu) (fun h => by cases h) (by simp [Value.oneCell']) (by have := HLN6.out; unfold maxLen; omega) (by have := HLN6.out; omega) ?_
         intro v8 w8 hr8 hg8 ho8 _
         have hlen8 : ((opposite S p.toNat s).ls th.toNat).length + 1 = ((opposite S p.toNat s).ls th.toNat ++ [(s, v)]).length := (by rw [List.length_append]; rfl)
         rw [show pcells ((opposite S p.toNat s).ls th.toNat) ++ [.int .i64 s, .int .i64 v] = pcells ((opposite S p.toNat s).ls th.toNat ++ [(s, v)]) by rw [pcells_append]; rfl, hlen8] at hr8
         have hL8 : Ls w8 94 v8 ((opposite S p.toNat s).ls th.toNat ++ [(s, v)]) := hr8
         obtain ⟨A8, c8, hv8, _⟩ := hL8.at
         obtain ⟨n8, hn8⟩ : ∃ n8, ((opposite S p.toNat s).ls th.toNat ++ [(s, v)]).length = n8 := ⟨_, rfl⟩
         rw [hn8] at hv8
         subst hv8
         have hfar : ∀ g, (Value.slice A6 ((opposite S p.toNat s).ls th.toNat).length cap6).ownBlock = some g → g ≠ bb := (fun g hg => HR7.out.row_ne (i := th.toNat) (by omega) (by rw [HE6.out.1]; exact hg) (.inr (HR7.out.task_ty (i := th.toNat) (by omega) (by rw [opposite_tk]; exact HX.out) (by rw [HR6.out.2.2]; exact HPB.out))))
         have hc8 := (hg8.cell_far ⟨bb, 2, none⟩ (by show bb < (w6.alloc _).heap.size; simp; omega) (fun e => hfar _ e.symm rfl)).trans ((HBA.out.cell (p := ⟨bb, 2, none⟩) hl7).trans cl7)
         have hf8 := (hg8.frozen_far ⟨bb, 2, none⟩ (by show bb < (w6.alloc _).heap.size; simp; omega) (fun e => hfar _ e.symm rfl)).trans ((HBA.out.frozen (p := ⟨bb, 2, none⟩) hl7).trans fl7)
         have H8 := Lib.hid (And.intro hL8 (And.intro hg8 ho8))
         clear hr8 hg8 ho8 hlen8 hL8 hn8 hfar))
    all_goals
      have hpush := (push_after (HR7.out.below HBA.out) (slot := th.toNat) (by omega) (by rw [HE6.out.1]; exact H8.out.2.1) H8.out.1 (fun g hg => H8.out.2.2.elim (fun h => .inl (by rw [HE6.out.1]; exact h.symm.trans hg)) (fun h => .inr (by rw [hg] at h; cases h; exact Nat.le_refl _)))).1 bb x (by omega) (by rw [HR6.out.2.2]; exact HPB.out) (by rw [opposite_tk]; exact HX.out)
      have HPU := Lib.hid (After.pre hpush ((((Fr.of_below HB5.out H.out.1.base_lt).trans HR6.out.2.1).trans (Fr.of_below HD7.out HR6.out.1.base_lt)).trans (Fr.of_below HBA.out HR7.out.base_lt)))
      clear hpush
      go_wp2
      go_ret2
      exact killPost_err HPU.out
set_option maxHeartbeats 4000000 in
set_option maxRecDepth 100000 in
theorem kill_thread_had {base t : Nat} {L : Lay} {S : St} (th p s v : Int) (w : World) (h : RepL w base t L S) (hin : Inv S 1000) (hp : isPr p = true) (hs : ¬ s < 1) (hs2 : ¬ 56 < s) (hl : threads S p ≠ []) (hth : isTh th = true) (hmem : th.toNat ∈ threads S p) (h0 : 0 ≤ th) (h1 : th < 256) (x : Tk) (hx : S.tk th.toNat = some x) (hnw : x.waits = false ∨ hasB x.wants s = false)
    (hig : ignored S p.toNat s = false) (h41 : ¬ 41 ≤ s) (hpd : pends ((opposite S p.toNat s).ls th.toNat) s = true) :
    Calls Try.prog 14 #[.pointer (some ⟨t, 0, none⟩), .int .i64 th, .int .i64 p, .int .i64 s, .int .i64 v] w fun e w' =>
      KillPost base t (([], 0), opposite S p.toNat s) w e w' := by
  obtain ⟨p0, p1⟩ := isPr_iff.1 hp
  have HP := Lib.hid hp
  have hb0 : Below w.heap.size w (w.alloc (.cells #[.int .i64 s] 3)) := (Below.refl _ _).alloc (Nat.le_refl _) _
  have hn0 : (w.alloc (.cells #[.int .i64 s] 3)).heap[w.heap.size]? = some (.cells #[.int .i64 s] 3 (0, 0)) := heap_alloc_new w _
  have H := Lib.hid (And.intro h (And.intro hb0 (And.intro hin hn0)))
  have HLN := Lib.hid (threads_len S p)
  have HIG := Lib.hid hig
  have HALL : Hid (∀ i ∈ threads S p, i < 256 ∧ (S.tk i).isSome = true) := Lib.hid fun i hi => by
    obtain ⟨h1, y, h2, _⟩ := mem_threads.1 hi
    exact ⟨h1, by rw [h2]; rfl⟩
  have hll : ((threads S p).length == 0) = false := by
    cases hq : threads S p with
    | nil => exact absurd hq hl
    | cons a l => simp
  obtain ⟨_, _, _, _, _, hwn⟩ := hin.task th.toNat (by omega) x hx
  have HX := Lib.hid hx
  have HWN := Lib.hid hwn
  have HPD := Lib.hid hpd
  clear hpd
  clear h hp hl hb0 hn0 hin hig hx hwn
  have hmemb : Hid ((threads S p).any (fun y => th == (y : Int)) = true) := Lib.hid (by rw [any_mem (isTh_iff.1 hth).1]; simpa using hmem)
  have HTH := Lib.hid hth
  have b1 : (th != -1) = true := by simp; omega
  have b2 : (th == -1) = false := by simp; omega
  clear hmem hth
  have hnw2 : x.waits = false ∨ (x.waits = true ∧ hasB x.wants s = false) := by
    cases hxw : x.waits
    · exact .inl rfl
    · rcases hnw with h | h
      · rw [hxw] at h; cases h
      · exact .inr ⟨rfl, h⟩
  clear hnw
  rcases hnw2 with hnw | hnw
  all_goals
    have HNW := Lib.hid hnw
    go_enter Try.func14, Try.ntmps14
    go_wp2_with (first
      | (go_at_call 27; refine (thread_calls th _).mono ?_; rw [HTH.out]; rintro e w' ⟨rfl, rfl⟩)
      | (go_at_call 28; refine (process_calls p _).mono ?_; rw [HP.out]; rintro e w' ⟨rfl, rfl⟩)
      | (go_at_call 30; refine (threads_calls p _ (H.out.1.below H.out.2.1)).mono ?_; rintro e w3 ⟨v2, rfl, hown, hb2⟩; have HN : Hid (Ns w3 v2 (threads S p)) := Lib.hid (Rw.of_own hown); have HB3 := Lib.hid (below_then' H.out.2.1 hb2); have HC3 := Lib.hid ((hb2.block w.heap.size (by simp)).trans H.out.2.2.2); have hcs2 := cell0 HC3.out rfl; clear hown hb2; obtain ⟨A2, c2, rfl, _⟩ := HN.out.at)
      | (go_at_call 31; refine (contains_calls _ (threads S p) th _ HN.out HLN.out).mono ?_; rw [hmemb.out]; rintro e w' ⟨rfl, rfl⟩))
    clear hcs2
    have htw := H.out.1.lt
    have hR3 := H.out.1.below HB3.out
    obtain ⟨bb, hpb, hbb, hbl, hbc, hcp⟩ := hR3.task_cell (i := th.toNat) (by omega) HX.out
    have hbw : bb < w.heap.size := H.out.1.ptr_lt (by omega) HX.out hpb
    have c3 : w3.cell? ⟨bb, 3, none⟩ = some (.bool x.waits) := by rw [cell_of_row _ _ _ _ _ _ hbc]; rfl
    have c4 : w3.cell? ⟨bb, 4, none⟩ = some (.int .u64 x.wants) := by rw [cell_of_row _ _ _ _ _ _ hbc]; rfl
    have cb := cell0 HC3.out rfl
    have HR3 := Lib.hid hR3
    have HPB := Lib.hid hpb
    clear hR3 hpb hbc
    first
      | (rw [HNW.out] at c3
         clear hnw
         go_quiet (fail))
      | (rw [HNW.out.1] at c3
         clear hnw
         go_quiet ((go_at_call 33; exact Calls.quiet_of_same (has_same x.wants s _ false HNW.out.2 (Nat.lt_trans HWN.out (by decide)) (by omega) (by omega)))))
    have HRd := Lib.hid (HR3.out.drewN nq)
    have HCd : Hid ((w3.drewN nq).heap[w.heap.size]? = some (.cells #[.int .i64 s] 3 (0, 0))) := Lib.hid HC3.out
    have HBd := Lib.hid (below_drewN HB3.out nq)
    generalize w3.drewN nq = w4 at *
    have cb4 := cell0 HCd.out rfl
    clear c3 c4 hcp cb
    obtain ⟨b4, hb4, _, hbl4, hbc4, hcp4⟩ := HRd.out.task_cell (i := th.toNat) (by omega) HX.out
    rw [HPB.out] at hb4
    cases hb4
    have cl4 : w4.cell? ⟨bb, 2, none⟩ = some (L.lv th.toNat) := by rw [cell_of_row _ _ _ _ _ _ hbc4]; rfl
    have hr4 := HRd.out.row th.toNat (by omega)
    obtain ⟨A4, cap4, e4, _⟩ := hr4.at
    rw [e4] at cl4 hr4
    have HR4 := Lib.hid hr4
    have hsb : s < 57 := by omega
    have hsa : 0 ≤ s := by omega
    clear hr4 e4 hbc4
    go_wp2_with (first
      | ((with_reducible change Calls Try.prog 35 _ w4 _); refine (ignored_calls p s w4 HRd.out p0 p1 hsa hsb).mono ?_; rw [HIG.out]; rintro e w' ⟨rfl, rfl⟩)
      | (go_at_call 34; refine (opposite_calls p s w4 HRd.out H.out.2.2.1 p0 p1).mono ?_; rintro e w6 ⟨rfl, ⟨L6, hR6, hP6⟩, hF6⟩; have hc6 := hF6.oth w.heap.size _ HCd.out (fun e he => by simp [oty] at he; subst he; decide); have HC6 := Lib.hid hc6; have cb6 := cell0 hc6 rfl; have HR6 := Lib.hid (And.intro hR6 (And.intro hF6 hP6)); obtain ⟨b6, hb6, _, hbl6, hbc6, hcp6⟩ := hR6.task_cell (i := th.toNat) (by omega) (x := x) (by rw [opposite_tk]; exact HX.out); (rw [hP6, HPB.out] at hb6; cases hb6); have cl6 : w6.cell? ⟨bb, 2, none⟩ = some (L6.lv th.toNat) := (by rw [cell_of_row _ _ _ _ _ _ hbc6]; rfl); have fl6 := frozen_of_cells hbc6 2; have hr6 := hR6.row th.toNat (by omega); obtain ⟨A6, cap6, e6, hca6, hcb6, _⟩ := hr6.at; (rw [e6] at cl6 hr6); have HE6 := Lib.hid (And.intro e6 hr6); have HIG6 : Hid (ignored (opposite S p.toNat s) p.toNat s = false) := Lib.hid (by rw [ignored_ac (opposite_ac S p.toNat s)]; exact HIG.out); clear hR6 hF6 hP6 hc6 e6 hr6 hbc6 cb4; skip)
      | (go_at_call 35; refine (ignored_calls p s w6 HR6.out.1 p0 p1 hsa hsb).mono ?_; rw [HIG6.out]; rintro e w' ⟨rfl, rfl⟩)
      | (go_at_call 37; refine (containsP_calls _ ((opposite S p.toNat s).ls th.toNat) s w.heap.size w6 HE6.out.2 ((H.out.2.2.1.opposite p.toNat s).len th.toNat (by omega)) cb6).mono ?_; rw [HPD.out]; rintro e w7 ⟨rfl, hd7⟩; have HD7 := Lib.hid hd7; have cb7 := cell0 ((hd7.block w.heap.size (Array.getElem?_eq_some_iff.1 HC6.out).1).trans HC6.out) rfl; have cl7 := (hd7.cell (p := ⟨bb, 2, none⟩) hbl6).trans cl6; have fl7 := (hd7.frozen (p := ⟨bb, 2, none⟩) hbl6).trans fl6; clear hd7))
    go_ret2
    exact killPost_err (After.pre ⟨⟨L6, HR6.out.1.below HD7.out⟩, HR6.out.2.1.trans (Fr.of_below HD7.out HR6.out.1.base_lt)⟩ (Fr.of_below HBd.out H.out.1.base_lt))
set_option maxHeartbeats 4000000 in
set_option maxRecDepth 100000 in
theorem kill_thread_new {base t : Nat} {L : Lay} {S : St} (th p s v : Int) (w : World) (h : RepL w base t L S) (hin : Inv S 1000) (hp : isPr p = true) (hs : ¬ s < 1) (hs2 : ¬ 56 < s) (hl : threads S p ≠ []) (hth : isTh th = true) (hmem : th.toNat ∈ threads S p) (h0 : 0 ≤ th) (h1 : th < 256) (x : Tk) (hx : S.tk th.toNat = some x) (hnw : x.waits = false ∨ hasB x.wants s = false)
    (hig : ignored S p.toNat s = false) (h41 : ¬ 41 ≤ s) (hpd : pends ((opposite S p.toNat s).ls th.toNat) s = false) :
    Calls Try.prog 14 #[.pointer (some ⟨t, 0, none⟩), .int .i64 th, .int .i64 p, .int .i64 s, .int .i64 v] w fun e w' =>
      KillPost base t (([], 0), { opposite S p.toNat s with ls := upd (opposite S p.toNat s).ls th.toNat ((opposite S p.toNat s).ls th.toNat ++ [(s, v)]) }) w e w' := by
  obtain ⟨p0, p1⟩ := isPr_iff.1 hp
  have HP := Lib.hid hp
  have hb0 : Below w.heap.size w (w.alloc (.cells #[.int .i64 s] 3)) := (Below.refl _ _).alloc (Nat.le_refl _) _
  have hn0 : (w.alloc (.cells #[.int .i64 s] 3)).heap[w.heap.size]? = some (.cells #[.int .i64 s] 3 (0, 0)) := heap_alloc_new w _
  have H := Lib.hid (And.intro h (And.intro hb0 (And.intro hin hn0)))
  have HLN := Lib.hid (threads_len S p)
  have HIG := Lib.hid hig
  have HALL : Hid (∀ i ∈ threads S p, i < 256 ∧ (S.tk i).isSome = true) := Lib.hid fun i hi => by
    obtain ⟨h1, y, h2, _⟩ := mem_threads.1 hi
    exact ⟨h1, by rw [h2]; rfl⟩
  have hll : ((threads S p).length == 0) = false := by
    cases hq : threads S p with
    | nil => exact absurd hq hl
    | cons a l => simp
  obtain ⟨_, _, _, _, _, hwn⟩ := hin.task th.toNat (by omega) x hx
  have HX := Lib.hid hx
  have HWN := Lib.hid hwn
  have HPD := Lib.hid hpd
  clear hpd
  clear h hp hl hb0 hn0 hin hig hx hwn
  have hmemb : Hid ((threads S p).any (fun y => th == (y : Int)) = true) := Lib.hid (by rw [any_mem (isTh_iff.1 hth).1]; simpa using hmem)
  have HTH := Lib.hid hth
  have b1 : (th != -1) = true := by simp; omega
  have b2 : (th == -1) = false := by simp; omega
  clear hmem hth
  have hnw2 : x.waits = false ∨ (x.waits = true ∧ hasB x.wants s = false) := by
    cases hxw : x.waits
    · exact .inl rfl
    · rcases hnw with h | h
      · rw [hxw] at h; cases h
      · exact .inr ⟨rfl, h⟩
  clear hnw
  rcases hnw2 with hnw | hnw
  all_goals
    have HNW := Lib.hid hnw
    go_enter Try.func14, Try.ntmps14
    go_wp2_with (first
      | (go_at_call 27; refine (thread_calls th _).mono ?_; rw [HTH.out]; rintro e w' ⟨rfl, rfl⟩)
      | (go_at_call 28; refine (process_calls p _).mono ?_; rw [HP.out]; rintro e w' ⟨rfl, rfl⟩)
      | (go_at_call 30; refine (threads_calls p _ (H.out.1.below H.out.2.1)).mono ?_; rintro e w3 ⟨v2, rfl, hown, hb2⟩; have HN : Hid (Ns w3 v2 (threads S p)) := Lib.hid (Rw.of_own hown); have HB3 := Lib.hid (below_then' H.out.2.1 hb2); have HC3 := Lib.hid ((hb2.block w.heap.size (by simp)).trans H.out.2.2.2); have hcs2 := cell0 HC3.out rfl; clear hown hb2; obtain ⟨A2, c2, rfl, _⟩ := HN.out.at)
      | (go_at_call 31; refine (contains_calls _ (threads S p) th _ HN.out HLN.out).mono ?_; rw [hmemb.out]; rintro e w' ⟨rfl, rfl⟩))
    clear hcs2
    have htw := H.out.1.lt
    have hR3 := H.out.1.below HB3.out
    obtain ⟨bb, hpb, hbb, hbl, hbc, hcp⟩ := hR3.task_cell (i := th.toNat) (by omega) HX.out
    have hbw : bb < w.heap.size := H.out.1.ptr_lt (by omega) HX.out hpb
    have c3 : w3.cell? ⟨bb, 3, none⟩ = some (.bool x.waits) := by rw [cell_of_row _ _ _ _ _ _ hbc]; rfl
    have c4 : w3.cell? ⟨bb, 4, none⟩ = some (.int .u64 x.wants) := by rw [cell_of_row _ _ _ _ _ _ hbc]; rfl
    have cb := cell0 HC3.out rfl
    have HR3 := Lib.hid hR3
    have HPB := Lib.hid hpb
    clear hR3 hpb hbc
    first
      | (rw [HNW.out] at c3
         clear hnw
         go_quiet (fail))
      | (rw [HNW.out.1] at c3
         clear hnw
         go_quiet ((go_at_call 33; exact Calls.quiet_of_same (has_same x.wants s _ false HNW.out.2 (Nat.lt_trans HWN.out (by decide)) (by omega) (by omega)))))
    have HRd := Lib.hid (HR3.out.drewN nq)
    have HCd : Hid ((w3.drewN nq).heap[w.heap.size]? = some (.cells #[.int .i64 s] 3 (0, 0))) := Lib.hid HC3.out
    have HBd := Lib.hid (below_drewN HB3.out nq)
    generalize w3.drewN nq = w4 at *
    have cb4 := cell0 HCd.out rfl
    clear c3 c4 hcp cb
    obtain ⟨b4, hb4, _, hbl4, hbc4, hcp4⟩ := HRd.out.task_cell (i := th.toNat) (by omega) HX.out
    rw [HPB.out] at hb4
    cases hb4
    have cl4 : w4.cell? ⟨bb, 2, none⟩ = some (L.lv th.toNat) := by rw [cell_of_row _ _ _ _ _ _ hbc4]; rfl
    have hr4 := HRd.out.row th.toNat (by omega)
    obtain ⟨A4, cap4, e4, _⟩ := hr4.at
    rw [e4] at cl4 hr4
    have HR4 := Lib.hid hr4
    have hsb : s < 57 := by omega
    have hsa : 0 ≤ s := by omega
    clear hr4 e4 hbc4
    go_wp2_with (first
      | ((with_reducible change Calls Try.prog 35 _ w4 _); refine (ignored_calls p s w4 HRd.out p0 p1 hsa hsb).mono ?_; rw [HIG.out]; rintro e w' ⟨rfl, rfl⟩)
      | (go_at_call 34; refine (opposite_calls p s w4 HRd.out H.out.2.2.1 p0 p1).mono ?_; rintro e w6 ⟨rfl, ⟨L6, hR6, hP6⟩, hF6⟩; have hc6 := hF6.oth w.heap.size _ HCd.out (fun e he => by simp [oty] at he; subst he; decide); have HC6 := Lib.hid hc6; have cb6 := cell0 hc6 rfl; have HR6 := Lib.hid (And.intro hR6 (And.intro hF6 hP6)); obtain ⟨b6, hb6, _, hbl6, hbc6, hcp6⟩ := hR6.task_cell (i := th.toNat) (by omega) (x := x) (by rw [opposite_tk]; exact HX.out); (rw [hP6, HPB.out] at hb6; cases hb6); have cl6 : w6.cell? ⟨bb, 2, none⟩ = some (L6.lv th.toNat) := (by rw [cell_of_row _ _ _ _ _ _ hbc6]; rfl); have fl6 := frozen_of_cells hbc6 2; have hr6 := hR6.row th.toNat (by omega); obtain ⟨A6, cap6, e6, hca6, hcb6, _⟩ := hr6.at; (rw [e6] at cl6 hr6); have HE6 := Lib.hid (And.intro e6 hr6); have HIG6 : Hid (ignored (opposite S p.toNat s) p.toNat s = false) := Lib.hid (by rw [ignored_ac (opposite_ac S p.toNat s)]; exact HIG.out); clear hR6 hF6 hP6 hc6 e6 hr6 hbc6 cb4; skip)
      | (go_at_call 35; refine (ignored_calls p s w6 HR6.out.1 p0 p1 hsa hsb).mono ?_; rw [HIG6.out]; rintro e w' ⟨rfl, rfl⟩)
      | (go_at_call 37; refine (containsP_calls _ ((opposite S p.toNat s).ls th.toNat) s w.heap.size w6 HE6.out.2 ((H.out.2.2.1.opposite p.toNat s).len th.toNat (by omega)) cb6).mono ?_; rw [HPD.out]; rintro e w7 ⟨rfl, hd7⟩; have HD7 := Lib.hid hd7; have cb7 := cell0 ((hd7.block w.heap.size (Array.getElem?_eq_some_iff.1 HC6.out).1).trans HC6.out) rfl; have cl7 := (hd7.cell (p := ⟨bb, 2, none⟩) hbl6).trans cl6; have fl7 := (hd7.frozen (p := ⟨bb, 2, none⟩) hbl6).trans fl6; clear hd7))
    clear cl6 fl6 cb6
    have HR7 := Lib.hid (HR6.out.1.below HD7.out)
    have hl7 : bb < w7.heap.size := Nat.lt_of_lt_of_le hbl6 HD7.out.size
    have hcl7 := World.block_lt_of_cell? _ _ cb7
    obtain ⟨i0, hi0, hz0, hz1, hz2⟩ := info_parts info94
    have HINF := Lib.hid (And.intro hi0 (And.intro hz0 (And.intro hz1 hz2)))
    have HLN6 := Lib.hid ((H.out.2.2.1.opposite p.toNat s).len th.toNat (by omega))
    have HR7L : Hid (Rw w7 94 2 (.slice A6 ((opposite S p.toNat s).ls th.toNat).length cap6) ((opposite S p.toNat s).ls th.toNat).length (pcells ((opposite S p.toNat s).ls th.toNat))) := Lib.hid (Rw.below HE6.out.2 HD7.out)
    have HNEW : Hid ((w7.alloc (.cells #[.int .i64 s, .int .i64 v] 94)).heap[w7.heap.size]? = some (.cells #[.int .i64 s, .int .i64 v] 94 (0, 0))) := Lib.hid (heap_alloc_new w7 _)
    have HBA : Hid (Below w7.heap.size w7 (w7.alloc (.cells #[.int .i64 s, .int .i64 v] 94)).drew) := Lib.hid ((Below.refl _ _).alloc (Nat.le_refl _) _).drew
    clear hi0 hz0 hz1 hz2
    go_region_law (first
      | (refine step_append_rw _ (by rfl) (.tmp 165) (.tmp 169) 71 (by rfl) 94 i0 (.agg #[.int .i64 0, .int .i64 0]) 2 16 Try.underlying71 HINF.out.1 HINF.out.2.1 HINF.out.2.2.1 HINF.out.2.2.2 rfl (by decide) (.slice A6 ((opposite S p.toNat s).ls th.toNat).length cap6) _ (pcells ((opposite S p.toNat s).ls th.toNat)) (by rfl) (Rw.below HR7L.out HBA.out)
          (some ⟨w7.heap.size, 0, none⟩) 1 1 [.int .i64 s, .int .i64 v] (by rfl) rfl (fun ad had j u hu => by cases had; exact World.news_of_block (w := (w7.alloc (.cells #[.int .i64 s, .int .i64 v] 94)).drew) HNEW.out j u hu) (fun h => by cases h) (by simp [Value.oneCell']) (by have := HLN6.out; unfold maxLen; omega) (by have := HLN6.out; omega) ?_
         intro v8 w8 hr8 hg8 ho8 _
         have hlen8 : ((opposite S p.toNat s).ls th.toNat).length + 1 = ((opposite S p.toNat s).ls th.toNat ++ [(s, v)]).length := (by rw [List.length_append]; rfl)
         rw [show pcells ((opposite S p.toNat s).ls th.toNat) ++ [.int .i64 s, .int .i64 v] = pcells ((opposite S p.toNat s).ls th.toNat ++ [(s, v)]) by rw [pcells_append]; rfl, hlen8] at hr8
         have hL8 : Ls w8 94 v8 ((opposite S p.toNat s).ls th.toNat ++ [(s, v)]) := hr8
         obtain ⟨A8, c8, hv8, _⟩ := hL8.at
         obtain ⟨n8, hn8⟩ : ∃ n8, ((opposite S p.toNat s).ls th.toNat ++ [(s, v)]).length = n8 := ⟨_, rfl⟩
         rw [hn8] at hv8
         subst hv8
         have hfar : ∀ g, (Value.slice A6 ((opposite S p.toNat s).ls th.toNat).length cap6).ownBlock = some g → g ≠ bb := (fun g hg => HR7.out.row_ne (i := th.toNat) (by omega) (by rw [HE6.out.1]; exact hg) (.inr (HR7.out.task_ty (i := th.toNat) (by omega) (by rw [opposite_tk]; exact HX.out) (by rw [HR6.out.2.2]; exact HPB.out))))
         have hc8 := (hg8.cell_far ⟨bb, 2, none⟩ (by show bb < (w7.alloc _).heap.size; simp; omega) (fun e => hfar _ e.symm rfl)).trans ((HBA.out.cell (p := ⟨bb, 2, none⟩) hl7).trans cl7)
         have hf8 := (hg8.frozen_far ⟨bb, 2, none⟩ (by show bb < (w7.alloc _).heap.size; simp; omega) (fun e => hfar _ e.symm rfl)).trans ((HBA.out.frozen (p := ⟨bb, 2, none⟩) hl7).trans fl7)
         have H8 := Lib.hid (And.intro hL8 (And.intro hg8 ho8))
         clear hr8 hg8 ho8 hlen8 hL8 hn8 hfar))
    all_goals
      have hpush := (push_after (HR7.out.below HBA.out) (slot := th.toNat) (by omega) (by rw [HE6.out.1]; exact H8.out.2.1) H8.out.1 (fun g hg => H8.out.2.2.elim (fun h => .inl (by rw [HE6.out.1]; exact h.symm.trans hg)) (fun h => .inr (by rw [hg] at h; cases h; exact Nat.le_refl _)))).1 bb x (by omega) (by rw [HR6.out.2.2]; exact HPB.out) (by rw [opposite_tk]; exact HX.out)
      have HPU := Lib.hid (After.pre hpush ((((Fr.of_below HBd.out H.out.1.base_lt).trans HR6.out.2.1).trans (Fr.of_below HD7.out HR6.out.1.base_lt)).trans (Fr.of_below HBA.out HR7.out.base_lt)))
      clear hpush
      go_wp2
      go_ret2
      exact killPost_err HPU.out
end Go.Proofs.Ytbpihfphoniclaa
