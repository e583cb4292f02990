import Derived.Test.YtbpihfphoniclaaC5
import Derived.Deep.AppendLies
namespace Go.Proofs.Ytbpihfphoniclaa
open Go.RowKit
set_option linter.unusedVariables false
/-- A signal is appended. -/
theorem push_after {W w8 : World} {base t : Nat} {L : Lay} {S : St} (h : RepL W base t L S) {slot : Nat} (hs : slot < 320) (hg : W.grownBy w8 (L.lv slot).ownBlock) {v8 : Value} {l' : List Pd} (hr : Ls w8 94 v8 l') (ho : ∀ g, v8.ownBlock = some g → (L.lv slot).ownBlock = some g ∨ W.heap.size ≤ g) :
    (∀ b x, slot < 256 → L.ptr slot = some b → S.tk slot = some x → After base t { S with ls := upd S.ls slot l' } W (w8.setCell ⟨b, 2, none⟩ v8)) ∧
    (∀ p j, slot = 256 + p → j = 256 + p * 58 + 57 → After base t { S with ls := upd S.ls slot l' } W (w8.setCell ⟨t, j, none⟩ v8)) := by
  have hset := h.setLs hs hg hr ho
  have f1 : Fr base TS W w8 := Fr.grown hg h.base_lt fun k hk => ⟨h.rb slot hs k hk, fun o hoo => by
    obtain ⟨cur, hc⟩ := (h.row slot hs).ty k hk
    rw [hc] at hoo
    cases hoo
    exact ⟨94, rfl, by decide⟩⟩
  have same : ∀ (k : Nat) (cs : Array Value) (e : TypeId) (fr : Nat × Nat), W.heap[k]? = some (.cells cs e fr) → e ≠ 94 → w8.heap[k]? = W.heap[k]? := by
    intro k cs e fr hk he
    refine hg.block k (Array.getElem?_eq_some_iff.1 hk).1 ?_
    intro e2
    obtain ⟨cur, hc⟩ := (h.row slot hs).ty k e2.symm
    rw [hk] at hc
    cases hc
    exact he rfl
  refine ⟨fun b x hlt hb hx => ⟨⟨_, hset.1 hlt b x hb hx⟩, f1.trans ?_⟩, fun p j hp hj => ⟨⟨_, hset.2 p j hp hj⟩, f1.trans ?_⟩⟩
  · obtain ⟨b', h1, h2, h3⟩ := h.task slot hlt x hx
    rw [hb] at h1
    cases h1
    refine Fr.setCell h2 fun o ho' => ?_
    rw [show w8.heap[b]? = W.heap[b]? from same b _ 80 _ h3 (by decide), h3] at ho'
    cases ho'
    exact ⟨80, rfl, by decide⟩
  · refine Fr.setCell h.bt fun o ho' => ?_
    obtain ⟨cs, h1, _⟩ := h.tab
    rw [show w8.heap[t]? = W.heap[t]? from same t _ 77 _ h1 (by decide), h1] at ho'
    cases ho'
    exact ⟨77, rfl, by decide⟩
theorem RepL.tab_ty77 {w : World} {base t : Nat} {L : Lay} {S : St} (h : RepL w base t L S) : Ty w t 77 := by
  obtain ⟨cs, h1, _⟩ := h.tab
  exact ⟨cs, _, h1⟩
theorem RepL.task_ty {w : World} {base t : Nat} {L : Lay} {S : St} (h : RepL w base t L S) {i : Nat} (hi : i < 256) {x : Tk} (hx : S.tk i = some x) {b : Nat} (hb : L.ptr i = some b) : Ty w b 80 := by
  obtain ⟨b', h1, _, h3⟩ := h.task i hi x hx
  rw [hb] at h1
  cases h1
  exact ⟨_, _, h3⟩
theorem RepL.row_ne {w : World} {base t : Nat} {L : Lay} {S : St} (h : RepL w base t L S) {i : Nat} (hi : i < 320) {g b : Nat} (hg : (L.lv i).ownBlock = some g) (hb : Ty w b 77 ∨ Ty w b 80) : g ≠ b := by
  rintro rfl
  obtain ⟨cur, hc⟩ := (h.row i hi).ty g hg
  rcases hb with ⟨cs, fr, hb⟩ | ⟨cs, fr, hb⟩
  · rw [hc] at hb; cases hb
  · rw [hc] at hb; cases hb
set_option maxHeartbeats 4000000 in
set_option maxRecDepth 100000 in
theorem kill_proc_ign {base t : Nat} {L : Lay} {S : St} (p s v : Int) (w : World) (h : RepL w base t L S) (hin : Inv S 1000) (hp : isPr p = true) (hs : ¬ s < 1) (hs2 : ¬ 56 < s) (hl : threads S p ≠ []) (hch : choose S (threads S p) s = -1)
    (hig : ignored S p.toNat s = true) :
    Calls Try.prog 14 #[.pointer (some ⟨t, 0, none⟩), .int .i64 (-1), .int .i64 p, .int .i64 s, .int .i64 v] w fun e w' =>
      KillPost base t (([], 0), opposite S p.toNat s) w e w' := by
  obtain ⟨p0, p1⟩ := isPr_iff.1 hp
  have HP := Lib.hid hp
  have hb0 : Below w.heap.size w (w.alloc (.cells #[.int .i64 s] 3)) := (Below.refl _ _).alloc (Nat.le_refl _) _
  have hn0 : (w.alloc (.cells #[.int .i64 s] 3)).heap[w.heap.size]? = some (.cells #[.int .i64 s] 3 (0, 0)) := heap_alloc_new w _
  have H := Lib.hid (And.intro h (And.intro hb0 (And.intro hin hn0)))
  have HLN := Lib.hid (threads_len S p)
  have HIG := Lib.hid hig
  have HALL : Hid (∀ i ∈ threads S p, i < 256 ∧ (S.tk i).isSome = true) := Lib.hid fun i hi => by
    obtain ⟨h1, y, h2, _⟩ := mem_threads.1 hi
    exact ⟨h1, by rw [h2]; rfl⟩
  have hll : ((threads S p).length == 0) = false := by
    cases hq : threads S p with
    | nil => exact absurd hq hl
    | cons a l => simp
  clear h hp hl hb0 hn0 hin hig
  have HCH := Lib.hid hch
  clear hch
  skip
  go_enter Try.func14, Try.ntmps14
  go_wp2_with (first
    | (go_at_call 28; refine (process_calls p _).mono ?_; rw [HP.out]; rintro e w' ⟨rfl, rfl⟩)
    | (go_at_call 30; refine (threads_calls p _ (H.out.1.below H.out.2.1)).mono ?_; rintro e w2 ⟨v2, rfl, hown, hb2⟩; have HN : Hid (Ns w2 v2 (threads S p)) := Lib.hid (Rw.of_own hown); have HB2 := Lib.hid (below_then' H.out.2.1 hb2); have HC2 := Lib.hid ((hb2.block w.heap.size (by simp)).trans H.out.2.2.2); have hcs2 := cell0 HC2.out rfl; clear hown hb2; obtain ⟨A2, c2, rfl, _⟩ := HN.out.at)
    | (go_at_call 32; refine (choose_calls _ (threads S p) s _ (H.out.1.below HB2.out) H.out.2.2.1 HN.out HLN.out HALL.out (by omega) (by omega)).mono ?_; rw [HCH.out]; rintro e w3 ⟨rfl, hb3⟩; have HB3 := Lib.hid (below_then' HB2.out hb3); have HC3 := Lib.hid ((hb3.block w.heap.size (Array.getElem?_eq_some_iff.1 HC2.out).1).trans HC2.out); clear hb3 hcs2))
  have htw := H.out.1.lt
  have hR3 := H.out.1.below HB3.out
  have HR3 := Lib.hid hR3
  have cb := cell0 HC3.out rfl
  clear hR3
  go_quiet (fail)
  have HRd := Lib.hid (HR3.out.drewN nq)
  have HCd : Hid ((w3.drewN nq).heap[w.heap.size]? = some (.cells #[.int .i64 s] 3 (0, 0))) := Lib.hid HC3.out
  have HBd := Lib.hid (below_drewN HB3.out nq)
  generalize w3.drewN nq = w4 at *
  have cb4 := cell0 HCd.out rfl
  clear cb
  have cl4 : w4.cell? ⟨t, 256 + p.toNat * 58 + 57, none⟩ = some (L.lv (256 + p.toNat)) := by
    rw [HRd.out.cellT _ (by omega), tcell_lv L S p.toNat _ (by omega) rfl]
  have hr4 := HRd.out.row (256 + p.toNat) (by omega)
  obtain ⟨A4, cap4, e4, _⟩ := hr4.at
  rw [e4] at cl4 hr4
  have HR4 := Lib.hid hr4
  have hsb : s < 57 := by omega
  have hsa : 0 ≤ s := by omega
  clear hr4 e4
  go_wp2_with (first
    | ((with_reducible change Calls Try.prog 35 _ w4 _); refine (ignored_calls p s w4 HRd.out p0 p1 hsa hsb).mono ?_; rw [HIG.out]; rintro e w' ⟨rfl, rfl⟩)
    | (go_at_call 34; refine (opposite_calls p s w4 HRd.out H.out.2.2.1 p0 p1).mono ?_; rintro e w6 ⟨rfl, ⟨L6, hR6, hP6⟩, hF6⟩; have hc6 := hF6.oth w.heap.size _ HCd.out (fun e he => by simp [oty] at he; subst he; decide); have HC6 := Lib.hid hc6; have cb6 := cell0 hc6 rfl; have HR6 := Lib.hid (And.intro hR6 (And.intro hF6 hP6)); have cl6 : w6.cell? ⟨t, 256 + p.toNat * 58 + 57, none⟩ = some (L6.lv (256 + p.toNat)) := (by rw [hR6.cellT _ (by omega), tcell_lv L6 _ p.toNat _ (by omega) rfl]); have fl6 := hR6.frozenT (256 + p.toNat * 58 + 57); have hbl6 := hR6.lt; have hr6 := hR6.row (256 + p.toNat) (by omega); obtain ⟨A6, cap6, e6, hca6, hcb6, _⟩ := hr6.at; (rw [e6] at cl6 hr6); have HE6 := Lib.hid (And.intro e6 hr6); have HIG6 : Hid (ignored (opposite S p.toNat s) p.toNat s = true) := Lib.hid (by rw [ignored_ac (opposite_ac S p.toNat s)]; exact HIG.out); clear hR6 hF6 hP6 hc6 e6 hr6 cb4; skip)
    | (go_at_call 35; refine (ignored_calls p s w6 HR6.out.1 p0 p1 hsa hsb).mono ?_; rw [HIG6.out]; rintro e w' ⟨rfl, rfl⟩))
  go_ret2
  exact killPost_err (After.pre ⟨⟨L6, HR6.out.1⟩, HR6.out.2.1⟩ (Fr.of_below HBd.out H.out.1.base_lt))
set_option maxHeartbeats 4000000 in
set_option maxRecDepth 100000 in
theorem kill_proc_again {base t : Nat} {L : Lay} {S : St} (p s v : Int) (w : World) (h : RepL w base t L S) (hin : Inv S 1000) (hp : isPr p = true) (hs : ¬ s < 1) (hs2 : ¬ 56 < s) (hl : threads S p ≠ []) (hch : choose S (threads S p) s = -1)
    (hig : ignored S p.toNat s = false) (h41 : 41 ≤ s) (hfull : 64 ≤ queued (S.ls (256 + p.toNat))) :
    Calls Try.prog 14 #[.pointer (some ⟨t, 0, none⟩), .int .i64 (-1), .int .i64 p, .int .i64 s, .int .i64 v] w fun e w' =>
      KillPost base t (([], 2), S) w e w' := by
  obtain ⟨p0, p1⟩ := isPr_iff.1 hp
  have HP := Lib.hid hp
  have hb0 : Below w.heap.size w (w.alloc (.cells #[.int .i64 s] 3)) := (Below.refl _ _).alloc (Nat.le_refl _) _
  have hn0 : (w.alloc (.cells #[.int .i64 s] 3)).heap[w.heap.size]? = some (.cells #[.int .i64 s] 3 (0, 0)) := heap_alloc_new w _
  have H := Lib.hid (And.intro h (And.intro hb0 (And.intro hin hn0)))
  have HLN := Lib.hid (threads_len S p)
  have HIG := Lib.hid hig
  have HALL : Hid (∀ i ∈ threads S p, i < 256 ∧ (S.tk i).isSome = true) := Lib.hid fun i hi => by
    obtain ⟨h1, y, h2, _⟩ := mem_threads.1 hi
    exact ⟨h1, by rw [h2]; rfl⟩
  have hll : ((threads S p).length == 0) = false := by
    cases hq : threads S p with
    | nil => exact absurd hq hl
    | cons a l => simp
  have HFULL : Hid (decide ((64 : Int) ≤ (queued (S.ls (256 + p.toNat)) : Int)) = true) := Lib.hid (decide_eq_true (by omega))
  clear hfull
  clear h hp hl hb0 hn0 hin hig
  have HCH := Lib.hid hch
  clear hch
  skip
  go_enter Try.func14, Try.ntmps14
  go_wp2_with (first
    | (go_at_call 28; refine (process_calls p _).mono ?_; rw [HP.out]; rintro e w' ⟨rfl, rfl⟩)
    | (go_at_call 30; refine (threads_calls p _ (H.out.1.below H.out.2.1)).mono ?_; rintro e w2 ⟨v2, rfl, hown, hb2⟩; have HN : Hid (Ns w2 v2 (threads S p)) := Lib.hid (Rw.of_own hown); have HB2 := Lib.hid (below_then' H.out.2.1 hb2); have HC2 := Lib.hid ((hb2.block w.heap.size (by simp)).trans H.out.2.2.2); have hcs2 := cell0 HC2.out rfl; clear hown hb2; obtain ⟨A2, c2, rfl, _⟩ := HN.out.at)
    | (go_at_call 32; refine (choose_calls _ (threads S p) s _ (H.out.1.below HB2.out) H.out.2.2.1 HN.out HLN.out HALL.out (by omega) (by omega)).mono ?_; rw [HCH.out]; rintro e w3 ⟨rfl, hb3⟩; have HB3 := Lib.hid (below_then' HB2.out hb3); have HC3 := Lib.hid ((hb3.block w.heap.size (Array.getElem?_eq_some_iff.1 HC2.out).1).trans HC2.out); clear hb3 hcs2))
  have htw := H.out.1.lt
  have hR3 := H.out.1.below HB3.out
  have HR3 := Lib.hid hR3
  have cb := cell0 HC3.out rfl
  clear hR3
  go_quiet (fail)
  have HRd := Lib.hid (HR3.out.drewN nq)
  have HCd : Hid ((w3.drewN nq).heap[w.heap.size]? = some (.cells #[.int .i64 s] 3 (0, 0))) := Lib.hid HC3.out
  have HBd := Lib.hid (below_drewN HB3.out nq)
  generalize w3.drewN nq = w4 at *
  have cb4 := cell0 HCd.out rfl
  clear cb
  have cl4 : w4.cell? ⟨t, 256 + p.toNat * 58 + 57, none⟩ = some (L.lv (256 + p.toNat)) := by
    rw [HRd.out.cellT _ (by omega), tcell_lv L S p.toNat _ (by omega) rfl]
  have hr4 := HRd.out.row (256 + p.toNat) (by omega)
  obtain ⟨A4, cap4, e4, _⟩ := hr4.at
  rw [e4] at cl4 hr4
  have HR4 := Lib.hid hr4
  have hsb : s < 57 := by omega
  have hsa : 0 ≤ s := by omega
  clear hr4 e4
  go_wp2_with (first
    | (go_at_call 35; refine (ignored_calls p s w4 HRd.out p0 p1 hsa hsb).mono ?_; rw [HIG.out]; rintro e w' ⟨rfl, rfl⟩)
    | (go_at_call 36; refine (queued_calls _ (S.ls (256 + p.toNat)) w4 HR4.out (H.out.2.2.1.len (256 + p.toNat) (by omega))).mono ?_; rintro e w5 ⟨rfl, hd5⟩; have HQF := HFULL.out; have HR5 := Lib.hid (HRd.out.below hd5); have HC5 := Lib.hid ((hd5.block w.heap.size (Array.getElem?_eq_some_iff.1 HCd.out).1).trans HCd.out); have HB5 := Lib.hid (below_then' HBd.out hd5); have cb5 := cell0 HC5.out rfl; clear hd5))
  go_ret2
  exact killPost_err (After.below H.out.1 HB5.out)
set_option maxHeartbeats 4000000 in
set_option maxRecDepth 100000 in
theorem kill_proc_room {base t : Nat} {L : Lay} {S : St} (p s v : Int) (w : World) (h : RepL w base t L S) (hin : Inv S 1000) (hp : isPr p = true) (hs : ¬ s < 1) (hs2 : ¬ 56 < s) (hl : threads S p ≠ []) (hch : choose S (threads S p) s = -1)
    (hig : ignored S p.toNat s = false) (h41 : 41 ≤ s) (hfull : ¬ 64 ≤ queued (S.ls (256 + p.toNat))) :
    Calls Try.prog 14 #[.pointer (some ⟨t, 0, none⟩), .int .i64 (-1), .int .i64 p, .int .i64 s, .int .i64 v] w fun e w' =>
      KillPost base t (([], 0), { opposite S p.toNat s with ls := upd (opposite S p.toNat s).ls (256 + p.toNat) ((opposite S p.toNat s).ls (256 + p.toNat) ++ [(s, v)]) }) w e w' := by
  obtain ⟨p0, p1⟩ := isPr_iff.1 hp
  have HP := Lib.hid hp
  have hb0 : Below w.heap.size w (w.alloc (.cells #[.int .i64 s] 3)) := (Below.refl _ _).alloc (Nat.le_refl _) _
  have hn0 : (w.alloc (.cells #[.int .i64 s] 3)).heap[w.heap.size]? = some (.cells #[.int .i64 s] 3 (0, 0)) := heap_alloc_new w _
  have H := Lib.hid (And.intro h (And.intro hb0 (And.intro hin hn0)))
  have HLN := Lib.hid (threads_len S p)
  have HIG := Lib.hid hig
  have HALL : Hid (∀ i ∈ threads S p, i < 256 ∧ (S.tk i).isSome = true) := Lib.hid fun i hi => by
    obtain ⟨h1, y, h2, _⟩ := mem_threads.1 hi
    exact ⟨h1, by rw [h2]; rfl⟩
  have hll : ((threads S p).length == 0) = false := by
    cases hq : threads S p with
    | nil => exact absurd hq hl
    | cons a l => simp
  have HFULL : Hid (decide ((64 : Int) ≤ (queued (S.ls (256 + p.toNat)) : Int)) = false) := Lib.hid (decide_eq_false (by omega))
  clear hfull
  clear h hp hl hb0 hn0 hin hig
  have HCH := Lib.hid hch
  clear hch
  skip
  go_enter Try.func14, Try.ntmps14
  go_wp2_with (first
    | (go_at_call 28; refine (process_calls p _).mono ?_; rw [HP.out]; rintro e w' ⟨rfl, rfl⟩)
    | (go_at_call 30; refine (threads_calls p _ (H.out.1.below H.out.2.1)).mono ?_; rintro e w2 ⟨v2, rfl, hown, hb2⟩; have HN : Hid (Ns w2 v2 (threads S p)) := Lib.hid (Rw.of_own hown); have HB2 := Lib.hid (below_then' H.out.2.1 hb2); have HC2 := Lib.hid ((hb2.block w.heap.size (by simp)).trans H.out.2.2.2); have hcs2 := cell0 HC2.out rfl; clear hown hb2; obtain ⟨A2, c2, rfl, _⟩ := HN.out.at)
    | (go_at_call 32; refine (choose_calls _ (threads S p) s _ (H.out.1.below HB2.out) H.out.2.2.1 HN.out HLN.out HALL.out (by omega) (by omega)).mono ?_; rw [HCH.out]; rintro e w3 ⟨rfl, hb3⟩; have HB3 := Lib.hid (below_then' HB2.out hb3); have HC3 := Lib.hid ((hb3.block w.heap.size (Array.getElem?_eq_some_iff.1 HC2.out).1).trans HC2.out); clear hb3 hcs2))
  have htw := H.out.1.lt
  have hR3 := H.out.1.below HB3.out
  have HR3 := Lib.hid hR3
  have cb := cell0 HC3.out rfl
  clear hR3
  go_quiet (fail)
  have HRd := Lib.hid (HR3.out.drewN nq)
  have HCd : Hid ((w3.drewN nq).heap[w.heap.size]? = some (.cells #[.int .i64 s] 3 (0, 0))) := Lib.hid HC3.out
  have HBd := Lib.hid (below_drewN HB3.out nq)
  generalize w3.drewN nq = w4 at *
  have cb4 := cell0 HCd.out rfl
  clear cb
  have cl4 : w4.cell? ⟨t, 256 + p.toNat * 58 + 57, none⟩ = some (L.lv (256 + p.toNat)) := by
    rw [HRd.out.cellT _ (by omega), tcell_lv L S p.toNat _ (by omega) rfl]
  have hr4 := HRd.out.row (256 + p.toNat) (by omega)
  obtain ⟨A4, cap4, e4, _⟩ := hr4.at
  rw [e4] at cl4 hr4
  have HR4 := Lib.hid hr4
  have hsb : s < 57 := by omega
  have hsa : 0 ≤ s := by omega
  clear hr4 e4
  go_wp2_with (first
    | ((with_reducible change Calls Try.prog 35 _ w4 _); refine (ignored_calls p s w4 HRd.out p0 p1 hsa hsb).mono ?_; rw [HIG.out]; rintro e w' ⟨rfl, rfl⟩)
    | (go_at_call 36; refine (queued_calls _ (S.ls (256 + p.toNat)) w4 HR4.out (H.out.2.2.1.len (256 + p.toNat) (by omega))).mono ?_; rintro e w5 ⟨rfl, hd5⟩; have HQF := HFULL.out; have HR5 := Lib.hid (HRd.out.below hd5); have HC5 := Lib.hid ((hd5.block w.heap.size (Array.getElem?_eq_some_iff.1 HCd.out).1).trans HCd.out); have HB5 := Lib.hid (below_then' HBd.out hd5); have cb5 := cell0 HC5.out rfl; clear hd5)
    | (go_at_call 34; refine (opposite_calls p s w5 HR5.out H.out.2.2.1 p0 p1).mono ?_; rintro e w6 ⟨rfl, ⟨L6, hR6, hP6⟩, hF6⟩; have hc6 := hF6.oth w.heap.size _ HC5.out (fun e he => by simp [oty] at he; subst he; decide); have HC6 := Lib.hid hc6; have cb6 := cell0 hc6 rfl; have HR6 := Lib.hid (And.intro hR6 (And.intro hF6 hP6)); have cl6 : w6.cell? ⟨t, 256 + p.toNat * 58 + 57, none⟩ = some (L6.lv (256 + p.toNat)) := (by rw [hR6.cellT _ (by omega), tcell_lv L6 _ p.toNat _ (by omega) rfl]); have fl6 := hR6.frozenT (256 + p.toNat * 58 + 57); have hbl6 := hR6.lt; have hr6 := hR6.row (256 + p.toNat) (by omega); obtain ⟨A6, cap6, e6, hca6, hcb6, _⟩ := hr6.at; (rw [e6] at cl6 hr6); have HE6 := Lib.hid (And.intro e6 hr6); have HIG6 : Hid (ignored (opposite S p.toNat s) p.toNat s = false) := Lib.hid (by rw [ignored_ac (opposite_ac S p.toNat s)]; exact HIG.out); clear hR6 hF6 hP6 hc6 e6 hr6 cb4 cb5; skip)
    | (go_at_call 35; refine (ignored_calls p s w6 HR6.out.1 p0 p1 hsa hsb).mono ?_; rw [HIG6.out]; rintro e w' ⟨rfl, rfl⟩))
  have HD7 : Hid (Below w6.heap.size w6 w6) := Lib.hid (Below.refl _ _)
  have cl7 := cl6
  have fl7 := fl6
  have cb7 := cb6
  clear cl6 fl6 cb6
  have HR7 := Lib.hid (HR6.out.1.below HD7.out)
  have hl7 : t < w6.heap.size := Nat.lt_of_lt_of_le hbl6 HD7.out.size
  have hcl7 := World.block_lt_of_cell? _ _ cb7
  obtain ⟨i0, hi0, hz0, hz1, hz2⟩ := info_parts info94
  have HINF := Lib.hid (And.intro hi0 (And.intro hz0 (And.intro hz1 hz2)))
  have HLN6 := Lib.hid ((H.out.2.2.1.opposite p.toNat s).len (256 + p.toNat) (by omega))
  have HR7L : Hid (Rw w6 94 2 (.slice A6 ((opposite S p.toNat s).ls (256 + p.toNat)).length cap6) ((opposite S p.toNat s).ls (256 + p.toNat)).length (pcells ((opposite S p.toNat s).ls (256 + p.toNat)))) := Lib.hid (Rw.below HE6.out.2 HD7.out)
  have HNEW : Hid ((w6.alloc (.cells #[.int .i64 s, .int .i64 v] 94)).heap[w6.heap.size]? = some (.cells #[.int .i64 s, .int .i64 v] 94 (0, 0))) := Lib.hid (heap_alloc_new w6 _)
  have HBA : Hid (Below w6.heap.size w6 (w6.alloc (.cells #[.int .i64 s, .int .i64 v] 94)).drew) := Lib.hid ((Below.refl _ _).alloc (Nat.le_refl _) _).drew
  clear hi0 hz0 hz1 hz2
  go_region_law (first
    | (refine step_append_rw _ (by rfl) (.tmp 165) (.tmp 169) 71 (by rfl) 94 i0 (.agg #[.int .i64 0, .int .i64 0]) 2 16 Try.underlying71 HINF.out.1 HINF.out.2.1 HINF.out.2.2.1 HINF.out.2.2.2 rfl (by decide) (.slice A6 ((opposite S p.toNat s).ls (256 + p.toNat)).length cap6) _ (pcells ((opposite S p.toNat s).ls (256 + p.toNat))) (by rfl) (Rw.below HR7L.out HBA.out)
        (some ⟨w6.heap.size, 0, none⟩) 1 1 [.int .i64 s, .int .i64 v] (by rfl) rfl (fun ad had j u hu => by cases had; exact World.news_of_block (w := (w6.alloc (.cells #[.int .i64 s, .int .i64 v] 94)).drew) HNEW.out j u hu) (fun h => by cases h) (by simp [Value.oneCell']) (by have := HLN6.out; unfold maxLen; omega) (by have := HLN6.out; omega) ?_
       intro v8 w8 hr8 hg8 ho8 _
       have hlen8 : ((opposite S p.toNat s).ls (256 + p.toNat)).length + 1 = ((opposite S p.toNat s).ls (256 + p.toNat) ++ [(s, v)]).length := (by rw [List.length_append]; rfl)
       rw [show pcells ((opposite S p.toNat s).ls (256 + p.toNat)) ++ [.int .i64 s, .int .i64 v] = pcells ((opposite S p.toNat s).ls (256 + p.toNat) ++ [(s, v)]) by rw [pcells_append]; rfl, hlen8] at hr8
       have hL8 : Ls w8 94 v8 ((opposite S p.toNat s).ls (256 + p.toNat) ++ [(s, v)]) := hr8
       obtain ⟨A8, c8, hv8, _⟩ := hL8.at
       obtain ⟨n8, hn8⟩ : ∃ n8, ((opposite S p.toNat s).ls (256 + p.toNat) ++ [(s, v)]).length = n8 := ⟨_, rfl⟩
       rw [hn8] at hv8
       subst hv8
       have hfar : ∀ g, (Value.slice A6 ((opposite S p.toNat s).ls (256 + p.toNat)).length cap6).ownBlock = some g → g ≠ t := (fun g hg => HR7.out.row_ne (i := (256 + p.toNat)) (by omega) (by rw [HE6.out.1]; exact hg) (.inl HR7.out.tab_ty77))
       have hc8 := (hg8.cell_far ⟨t, 256 + p.toNat * 58 + 57, none⟩ (by show t < (w6.alloc _).heap.size; simp; omega) (fun e => hfar _ e.symm rfl)).trans ((HBA.out.cell (p := ⟨t, 256 + p.toNat * 58 + 57, none⟩) hl7).trans cl7)
       have hf8 := (hg8.frozen_far ⟨t, 256 + p.toNat * 58 + 57, none⟩ (by show t < (w6.alloc _).heap.size; simp; omega) (fun e => hfar _ e.symm rfl)).trans ((HBA.out.frozen (p := ⟨t, 256 + p.toNat * 58 + 57, none⟩) hl7).trans fl7)
       have H8 := Lib.hid (And.intro hL8 (And.intro hg8 ho8))
       clear hr8 hg8 ho8 hlen8 hL8 hn8 hfar))
  all_goals
    have hpush := (push_after (HR7.out.below HBA.out) (slot := (256 + p.toNat)) (by omega) (by rw [HE6.out.1]; exact H8.out.2.1) H8.out.1 (fun g hg => H8.out.2.2.elim (fun h => .inl (by rw [HE6.out.1]; exact h.symm.trans hg)) (fun h => .inr (by rw [hg] at h; cases h; exact Nat.le_refl _)))).2 p.toNat (256 + p.toNat * 58 + 57) rfl rfl
    have HPU := Lib.hid (After.pre hpush ((((Fr.of_below HB5.out H.out.1.base_lt).trans HR6.out.2.1).trans (Fr.of_below HD7.out HR6.out.1.base_lt)).trans (Fr.of_below HBA.out HR7.out.base_lt)))
    clear hpush
    go_wp2
    go_ret2
    exact killPost_err HPU.out
set_option maxHeartbeats 4000000 in
set_option maxRecDepth 100000 in
theorem kill_proc_had {base t : Nat} {L : Lay} {S : St} (p s v : Int) (w : World) (h : RepL w base t L S) (hin : Inv S 1000) (hp : isPr p = true) (hs : ¬ s < 1) (hs2 : ¬ 56 < s) (hl : threads S p ≠ []) (hch : choose S (threads S p) s = -1)
    (hig : ignored S p.toNat s = false) (h41 : ¬ 41 ≤ s) (hpd : pends ((opposite S p.toNat s).ls (256 + p.toNat)) s = true) :
    Calls Try.prog 14 #[.pointer (some ⟨t, 0, none⟩), .int .i64 (-1), .int .i64 p, .int .i64 s, .int .i64 v] w fun e w' =>
      KillPost base t (([], 0), opposite S p.toNat s) w e w' := by
  obtain ⟨p0, p1⟩ := isPr_iff.1 hp
  have HP := Lib.hid hp
  have hb0 : Below w.heap.size w (w.alloc (.cells #[.int .i64 s] 3)) := (Below.refl _ _).alloc (Nat.le_refl _) _
  have hn0 : (w.alloc (.cells #[.int .i64 s] 3)).heap[w.heap.size]? = some (.cells #[.int .i64 s] 3 (0, 0)) := heap_alloc_new w _
  have H := Lib.hid (And.intro h (And.intro hb0 (And.intro hin hn0)))
  have HLN := Lib.hid (threads_len S p)
  have HIG := Lib.hid hig
  have HALL : Hid (∀ i ∈ threads S p, i < 256 ∧ (S.tk i).isSome = true) := Lib.hid fun i hi => by
    obtain ⟨h1, y, h2, _⟩ := mem_threads.1 hi
    exact ⟨h1, by rw [h2]; rfl⟩
  have hll : ((threads S p).length == 0) = false := by
    cases hq : threads S p with
    | nil => exact absurd hq hl
    | cons a l => simp
  have HPD := Lib.hid hpd
  clear hpd
  clear h hp hl hb0 hn0 hin hig
  have HCH := Lib.hid hch
  clear hch
  skip
  go_enter Try.func14, Try.ntmps14
  go_wp2_with (first
    | (go_at_call 28; refine (process_calls p _).mono ?_; rw [HP.out]; rintro e w' ⟨rfl, rfl⟩)
    | (go_at_call 30; refine (threads_calls p _ (H.out.1.below H.out.2.1)).mono ?_; rintro e w2 ⟨v2, rfl, hown, hb2⟩; have HN : Hid (Ns w2 v2 (threads S p)) := Lib.hid (Rw.of_own hown); have HB2 := Lib.hid (below_then' H.out.2.1 hb2); have HC2 := Lib.hid ((hb2.block w.heap.size (by simp)).trans H.out.2.2.2); have hcs2 := cell0 HC2.out rfl; clear hown hb2; obtain ⟨A2, c2, rfl, _⟩ := HN.out.at)
    | (go_at_call 32; refine (choose_calls _ (threads S p) s _ (H.out.1.below HB2.out) H.out.2.2.1 HN.out HLN.out HALL.out (by omega) (by omega)).mono ?_; rw [HCH.out]; rintro e w3 ⟨rfl, hb3⟩; have HB3 := Lib.hid (below_then' HB2.out hb3); have HC3 := Lib.hid ((hb3.block w.heap.size (Array.getElem?_eq_some_iff.1 HC2.out).1).trans HC2.out); clear hb3 hcs2))
  have htw := H.out.1.lt
  have hR3 := H.out.1.below HB3.out
  have HR3 := Lib.hid hR3
  have cb := cell0 HC3.out rfl
  clear hR3
  go_quiet (fail)
  have HRd := Lib.hid (HR3.out.drewN nq)
  have HCd : Hid ((w3.drewN nq).heap[w.heap.size]? = some (.cells #[.int .i64 s] 3 (0, 0))) := Lib.hid HC3.out
  have HBd := Lib.hid (below_drewN HB3.out nq)
  generalize w3.drewN nq = w4 at *
  have cb4 := cell0 HCd.out rfl
  clear cb
  have cl4 : w4.cell? ⟨t, 256 + p.toNat * 58 + 57, none⟩ = some (L.lv (256 + p.toNat)) := by
    rw [HRd.out.cellT _ (by omega), tcell_lv L S p.toNat _ (by omega) rfl]
  have hr4 := HRd.out.row (256 + p.toNat) (by omega)
  obtain ⟨A4, cap4, e4, _⟩ := hr4.at
  rw [e4] at cl4 hr4
  have HR4 := Lib.hid hr4
  have hsb : s < 57 := by omega
  have hsa : 0 ≤ s := by omega
  clear hr4 e4
  go_wp2_with (first
    | ((with_reducible change Calls Try.prog 35 _ w4 _); refine (ignored_calls p s w4 HRd.out p0 p1 hsa hsb).mono ?_; rw [HIG.out]; rintro e w' ⟨rfl, rfl⟩)
    | (go_at_call 34; refine (opposite_calls p s w4 HRd.out H.out.2.2.1 p0 p1).mono ?_; rintro e w6 ⟨rfl, ⟨L6, hR6, hP6⟩, hF6⟩; have hc6 := hF6.oth w.heap.size _ HCd.out (fun e he => by simp [oty] at he; subst he; decide); have HC6 := Lib.hid hc6; have cb6 := cell0 hc6 rfl; have HR6 := Lib.hid (And.intro hR6 (And.intro hF6 hP6)); have cl6 : w6.cell? ⟨t, 256 + p.toNat * 58 + 57, none⟩ = some (L6.lv (256 + p.toNat)) := (by rw [hR6.cellT _ (by omega), tcell_lv L6 _ p.toNat _ (by omega) rfl]); have fl6 := hR6.frozenT (256 + p.toNat * 58 + 57); have hbl6 := hR6.lt; have hr6 := hR6.row (256 + p.toNat) (by omega); obtain ⟨A6, cap6, e6, hca6, hcb6, _⟩ := hr6.at; (rw [e6] at cl6 hr6); have HE6 := Lib.hid (And.intro e6 hr6); have HIG6 : Hid (ignored (opposite S p.toNat s) p.toNat s = false) := Lib.hid (by rw [ignored_ac (opposite_ac S p.toNat s)]; exact HIG.out); clear hR6 hF6 hP6 hc6 e6 hr6 cb4; skip)
    | (go_at_call 35; refine (ignored_calls p s w6 HR6.out.1 p0 p1 hsa hsb).mono ?_; rw [HIG6.out]; rintro e w' ⟨rfl, rfl⟩)
    | (go_at_call 37; refine (containsP_calls _ ((opposite S p.toNat s).ls (256 + p.toNat)) s w.heap.size w6 HE6.out.2 ((H.out.2.2.1.opposite p.toNat s).len (256 + p.toNat) (by omega)) cb6).mono ?_; rw [HPD.out]; rintro e w7 ⟨rfl, hd7⟩; have HD7 := Lib.hid hd7; have cb7 := cell0 ((hd7.block w.heap.size (Array.getElem?_eq_some_iff.1 HC6.out).1).trans HC6.out) rfl; have cl7 := (hd7.cell (p := ⟨t, 256 + p.toNat * 58 + 57, none⟩) hbl6).trans cl6; have fl7 := (hd7.frozen (p := ⟨t, 256 + p.toNat * 58 + 57, none⟩) hbl6).trans fl6; clear hd7))
  go_ret2
  exact killPost_err (After.pre ⟨⟨L6, HR6.out.1.below HD7.out⟩, HR6.out.2.1.trans (Fr.of_below HD7.out HR6.out.1.base_lt)⟩ (Fr.of_below HBd.out H.out.1.base_lt))
set_option maxHeartbeats 4000000 in
set_option maxRecDepth 100000 in
theorem kill_proc_new {base t : Nat} {L : Lay} {S : St} (p s v : Int) (w : World) (h : RepL w base t L S) (hin : Inv S 1000) (hp : isPr p = true) (hs : ¬ s < 1) (hs2 : ¬ 56 < s) (hl : threads S p ≠ []) (hch : choose S (threads S p) s = -1)
    (hig : ignored S p.toNat s = false) (h41 : ¬ 41 ≤ s) (hpd : pends ((opposite S p.toNat s).ls (256 + p.toNat)) s = false) :
    Calls Try.prog 14 #[.pointer (some ⟨t, 0, none⟩), .int .i64 (-1), .int .i64 p, .int .i64 s, .int .i64 v] w fun e w' =>
      KillPost base t (([], 0), { opposite S p.toNat s with ls := upd (opposite S p.toNat s).ls (256 + p.toNat) ((opposite S p.toNat s).ls (256 + p.toNat) ++ [(s, v)]) }) w e w' := by
  obtain ⟨p0, p1⟩ := isPr_iff.1 hp
  have HP := Lib.hid hp
  have hb0 : Below w.heap.size w (w.alloc (.cells #[.int .i64 s] 3)) := (Below.refl _ _).alloc (Nat.le_refl _) _
  have hn0 : (w.alloc (.cells #[.int .i64 s] 3)).heap[w.heap.size]? = some (.cells #[.int .i64 s] 3 (0, 0)) := heap_alloc_new w _
  have H := Lib.hid (And.intro h (And.intro hb0 (And.intro hin hn0)))
  have HLN := Lib.hid (threads_len S p)
  have HIG := Lib.hid hig
  have HALL : Hid (∀ i ∈ threads S p, i < 256 ∧ (S.tk i).isSome = true) := Lib.hid fun i hi => by
    obtain ⟨h1, y, h2, _⟩ := mem_threads.1 hi
    exact ⟨h1, by rw [h2]; rfl⟩
  have hll : ((threads S p).length == 0) = false := by
    cases hq : threads S p with
    | nil => exact absurd hq hl
    | cons a l => simp
  have HPD := Lib.hid hpd
  clear hpd
  clear h hp hl hb0 hn0 hin hig
  have HCH := Lib.hid hch
  clear hch
  skip
  go_enter Try.func14, Try.ntmps14
  go_wp2_with (first
    | (go_at_call 28; refine (process_calls p _).mono ?_; rw [HP.out]; rintro e w' ⟨rfl, rfl⟩)
    | (go_at_call 30; refine (threads_calls p _ (H.out.1.below H.out.2.1)).mono ?_; rintro e w2 ⟨v2, rfl, hown, hb2⟩; have HN : Hid (Ns w2 v2 (threads S p)) := Lib.hid (Rw.of_own hown); have HB2 := Lib.hid (below_then' H.out.2.1 hb2); have HC2 := Lib.hid ((hb2.block w.heap.size (by simp)).trans H.out.2.2.2); have hcs2 := cell0 HC2.out rfl; clear hown hb2; obtain ⟨A2, c2, rfl, _⟩ := HN.out.at)
    | (go_at_call 32; refine (choose_calls _ (threads S p) s _ (H.out.1.below HB2.out) H.out.2.2.1 HN.out HLN.out HALL.out (by omega) (by omega)).mono ?_; rw [HCH.out]; rintro e w3 ⟨rfl, hb3⟩; have HB3 := Lib.hid (below_then' HB2.out hb3); have HC3 := Lib.hid ((hb3.block w.heap.size (Array.getElem?_eq_some_iff.1 HC2.out).1).trans HC2.out); clear hb3 hcs2))
  have htw := H.out.1.lt
  have hR3 := H.out.1.below HB3.out
  have HR3 := Lib.hid hR3
  have cb := cell0 HC3.out rfl
  clear hR3
  go_quiet (fail)
  have HRd := Lib.hid (HR3.out.drewN nq)
  have HCd : Hid ((w3.drewN nq).heap[w.heap.size]? = some (.cells #[.int .i64 s] 3 (0, 0))) := Lib.hid HC3.out
  have HBd := Lib.hid (below_drewN HB3.out nq)
  generalize w3.drewN nq = w4 at *
  have cb4 := cell0 HCd.out rfl
  clear cb
  have cl4 : w4.cell? ⟨t, 256 + p.toNat * 58 + 57, none⟩ = some (L.lv (256 + p.toNat)) := by
    rw [HRd.out.cellT _ (by omega), tcell_lv L S p.toNat _ (by omega) rfl]
  have hr4 := HRd.out.row (256 + p.toNat) (by omega)
  obtain ⟨A4, cap4, e4, _⟩ := hr4.at
  rw [e4] at cl4 hr4
  have HR4 := Lib.hid hr4
  have hsb : s < 57 := by omega
  have hsa : 0 ≤ s := by omega
  clear hr4 e4
  go_wp2_with (first
    | ((with_reducible change Calls Try.prog 35 _ w4 _); refine (ignored_calls p s w4 HRd.out p0 p1 hsa hsb).mono ?_; rw [HIG.out]; rintro e w' ⟨rfl, rfl⟩)
    | (go_at_call 34; refine (opposite_calls p s w4 HRd.out H.out.2.2.1 p0 p1).mono ?_; rintro e w6 ⟨rfl, ⟨L6, hR6, hP6⟩, hF6⟩; have hc6 := hF6.oth w.heap.size _ HCd.out (fun e he => by simp [oty] at he; subst he; decide); have HC6 := Lib.hid hc6; have cb6 := cell0 hc6 rfl; have HR6 := Lib.hid (And.intro hR6 (And.intro hF6 hP6)); have cl6 : w6.cell? ⟨t, 256 + p.toNat * 58 + 57, none⟩ = some (L6.lv (256 + p.toNat)) := (by rw [hR6.cellT _ (by omega), tcell_lv L6 _ p.toNat _ (by omega) rfl]); have fl6 := hR6.frozenT (256 + p.toNat * 58 + 57); have hbl6 := hR6.lt; have hr6 := hR6.row (256 + p.toNat) (by omega); obtain ⟨A6, cap6, e6, hca6, hcb6, _⟩ := hr6.at; (rw [e6] at cl6 hr6); have HE6 := Lib.hid (And.intro e6 hr6); have HIG6 : Hid (ignored (opposite S p.toNat s) p.toNat s = false) := Lib.hid (by rw [ignored_ac (opposite_ac S p.toNat s)]; exact HIG.out); clear hR6 hF6 hP6 hc6 e6 hr6 cb4; skip)
    | (go_at_call 35; refine (ignored_calls p s w6 HR6.out.1 p0 p1 hsa hsb).mono ?_; rw [HIG6.out]; rintro e w' ⟨rfl, rfl⟩)
    | (go_at_call 37; refine (containsP_calls _ ((opposite S p.toNat s).ls (256 + p.toNat)) s w.heap.size w6 HE6.out.2 ((H.out.2.2.1.opposite p.toNat s).len (256 + p.toNat) (by omega)) cb6).mono ?_; rw [HPD.out]; rintro e w7 ⟨rfl, hd7⟩; have HD7 := Lib.hid hd7; have cb7 := cell0 ((hd7.block w.heap.size (Array.getElem?_eq_some_iff.1 HC6.out).1).trans HC6.out) rfl; have cl7 := (hd7.cell (p := ⟨t, 256 + p.toNat * 58 + 57, none⟩) hbl6).trans cl6; have fl7 := (hd7.frozen (p := ⟨t, 256 + p.toNat * 58 + 57, none⟩) hbl6).trans fl6; clear hd7))
  clear cl6 fl6 cb6
  have HR7 := Lib.hid (HR6.out.1.below HD7.out)
  have hl7 : t < w7.heap.size := Nat.lt_of_lt_of_le hbl6 HD7.out.size
  have hcl7 := World.block_lt_of_cell? _ _ cb7
  obtain ⟨i0, hi0, hz0, hz1, hz2⟩ := info_parts info94
  have HINF := Lib.hid (And.intro hi0 (And.intro hz0 (And.intro hz1 hz2)))
  have HLN6 := Lib.hid ((H.out.2.2.1.opposite p.toNat s).len (256 + p.toNat) (by omega))
  have HR7L : Hid (Rw w7 94 2 (.slice A6 ((opposite S p.toNat s).ls (256 + p.toNat)).length cap6) ((opposite S p.toNat s).ls (256 + p.toNat)).length (pcells ((opposite S p.toNat s).ls (256 + p.toNat)))) := Lib.hid (Rw.below HE6.out.2 HD7.out)
  have HNEW : Hid ((w7.alloc (.cells #[.int .i64 s, .int .i64 v] 94)).heap[w7.heap.size]? = some (.cells #[.int .i64 s, .int .i64 v] 94 (0, 0))) := Lib.hid (heap_alloc_new w7 _)
  have HBA : Hid (Below w7.heap.size w7 (w7.alloc (.cells #[.int .i64 s, .int .i64 v] 94)).drew) := Lib.hid ((Below.refl _ _).alloc (Nat.le_refl _) _).drew
  clear hi0 hz0 hz1 hz2
  go_region_law (first
    | (refine step_append_rw _ (by rfl) (.tmp 165) (.tmp 169) 71 (by rfl) 94 i0 (.agg #[.int .i64 0, .int .i64 0]) 2 16 Try.underlying71 HINF.out.1 HINF.out.2.1 HINF.out.2.2.1 HINF.out.2.2.2 rfl (by decide) (.slice A6 ((opposite S p.toNat s).ls (256 + p.toNat)).length cap6) _ (pcells ((opposite S p.toNat s).ls (256 + p.toNat))) (by rfl) (Rw.below HR7L.out HBA.out)
        (some ⟨w7.heap.size, 0, none⟩) 1 1 [.int .i64 s, .int .i64 v] (by rfl) rfl (fun ad had j u hu => by cases had; exact World.news_of_block (w := (w7.alloc (.cells #[.int .i64 s, .int .i64 v] 94)).drew) HNEW.out j u hu) (fun h => by cases h) (by simp [Value.oneCell']) (by have := HLN6.out; unfold maxLen; omega) (by have := HLN6.out; omega) ?_
       intro v8 w8 hr8 hg8 ho8 _
       have hlen8 : ((opposite S p.toNat s).ls (256 + p.toNat)).length + 1 = ((opposite S p.toNat s).ls (256 + p.toNat) ++ [(s, v)]).length := (by rw [List.length_append]; rfl)
       rw [show pcells ((opposite S p.toNat s).ls (256 + p.toNat)) ++ [.int .i64 s, .int .i64 v] = pcells ((opposite S p.toNat s).ls (256 + p.toNat) ++ [(s, v)]) by rw [pcells_append]; rfl, hlen8] at hr8
       have hL8 : Ls w8 94 v8 ((opposite S p.toNat s).ls (256 + p.toNat) ++ [(s, v)]) := hr8
       obtain ⟨A8, c8, hv8, _⟩ := hL8.at
       obtain ⟨n8, hn8⟩ : ∃ n8, ((opposite S p.toNat s).ls (256 + p.toNat) ++ [(s, v)]).length = n8 := ⟨_, rfl⟩
       rw [hn8] at hv8
       subst hv8
       have hfar : ∀ g, (Value.slice A6 ((opposite S p.toNat s).ls (256 + p.toNat)).length cap6).ownBlock = some g → g ≠ t := (fun g hg => HR7.out.row_ne (i := (256 + p.toNat)) (by omega) (by rw [HE6.out.1]; exact hg) (.inl HR7.out.tab_ty77))
       have hc8 := (hg8.cell_far ⟨t, 256 + p.toNat * 58 + 57, none⟩ (by show t < (w7.alloc _).heap.size; simp; omega) (fun e => hfar _ e.symm rfl)).trans ((HBA.out.cell (p := ⟨t, 256 + p.toNat * 58 + 57, none⟩) hl7).trans cl7)
       have hf8 := (hg8.frozen_far ⟨t, 256 + p.toNat * 58 + 57, none⟩ (by show t < (w7.alloc _).heap.size; simp; omega) (fun e => hfar _ e.symm rfl)).trans ((HBA.out.frozen (p := ⟨t, 256 + p.toNat * 58 + 57, none⟩) hl7).trans fl7)
       have H8 := Lib.hid (And.intro hL8 (And.intro hg8 ho8))
       clear hr8 hg8 ho8 hlen8 hL8 hn8 hfar))
  all_goals
    have hpush := (push_after (HR7.out.below HBA.out) (slot := (256 + p.toNat)) (by omega) (by rw [HE6.out.1]; exact H8.out.2.1) H8.out.1 (fun g hg => H8.out.2.2.elim (fun h => .inl (by rw [HE6.out.1]; exact h.symm.trans hg)) (fun h => .inr (by rw [hg] at h; cases h; exact Nat.le_refl _)))).2 p.toNat (256 + p.toNat * 58 + 57) rfl rfl
    have HPU := Lib.hid (After.pre hpush ((((Fr.of_below HBd.out H.out.1.base_lt).trans HR6.out.2.1).trans (Fr.of_below HD7.out HR6.out.1.base_lt)).trans (Fr.of_below HBA.out HR7.out.base_lt)))
    clear hpush
    go_wp2
    go_ret2
    exact killPost_err HPU.out
end Go.Proofs.Ytbpihfphoniclaa
