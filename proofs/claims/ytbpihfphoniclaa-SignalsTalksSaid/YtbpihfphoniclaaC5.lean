import Derived.Test.YtbpihfphoniclaaC4
namespace Go.Proofs.Ytbpihfphoniclaa
open Go.RowKit
set_option linter.unusedVariables false
/-- Whom a signal goes to. -/
def Goes (S : St) (th p s to : Int) : Prop := (th = -1 ∧ choose S (threads S p) s = to) ∨ (th = to ∧ isTh th = true ∧ th.toNat ∈ threads S p)
theorem wk_of {w : World} {g : Nat} {a b c : Int} (h : w.heap[g]? = some (.cells #[.int .i64 a, .int .i64 b, .int .i64 c] 88 (0, 0))) : Wk w (.slice (some ⟨g, 0, none⟩) 1 1) [(a, b, c)] :=
  ⟨rfl, .inr ⟨g, 1, _, rfl, h, Nat.le_refl _, by simp [maxLen], by simp, by simp [wcells]⟩⟩
theorem alloc_new_at {X : World} {n : Nat} (h : X.heap.size = n) (o : Obj) : (X.alloc o).heap[n]? = some o := by
  subst h
  exact heap_alloc_new X o
theorem Wk.heap {w w' : World} {v : Value} {l : List (Int × Int × Int)} (h : Wk w v l) (hh : w'.heap = w.heap) : Wk w' v l := Rw.kept h fun g _ => by rw [hh]
theorem RepL.ptr_lt {w : World} {base t : Nat} {L : Lay} {S : St} (h : RepL w base t L S) {i : Nat} (hi : i < 256) {x : Tk} (hx : S.tk i = some x) {b : Nat} (hb : L.ptr i = some b) : b < w.heap.size := by
  obtain ⟨b', h1, _, h3⟩ := h.task i hi x hx
  rw [hb] at h1
  cases h1
  exact (Array.getElem?_eq_some_iff.1 h3).1
/-- A thread is woken. -/
theorem wake_after {w : World} {base t : Nat} {L : Lay} {S : St} {p : Nat} {s : Int} (h : RepL w base t L (opposite S p s)) {i : Nat} (hi : i < 256) {x : Tk} (hx : (opposite S p s).tk i = some x) {b : Nat} (hb : L.ptr i = some b) (n : Int) :
    After base t { opposite S p s with tk := upd S.tk i (some { x with waits := false }), got := upd S.got i n } w ((w.setCell ⟨b, 3, none⟩ (.bool false)).setCell ⟨t, 3968 + i, none⟩ (.int .i64 n)) := by
  have h1 := h.setTk hi hx hb 3 (.bool false) { x with waits := false } (by simp [kcells])
  have h2 := h1.setGot i (3968 + i) hi rfl n
  refine ⟨⟨L, ?_⟩, (h.frB hi hx hb _ _).trans (h1.frT _ _)⟩
  have e1 := opposite_tk S p s
  have e2 := opposite_got S p s
  simp only at h2
  rw [e1, e2] at h2
  exact h2
set_option maxHeartbeats 4000000 in
set_option maxRecDepth 100000 in
theorem kill_wake {base t : Nat} {L : Lay} {S : St} (th p s v to : Int) (w : World) (h : RepL w base t L S) (hin : Inv S 1000) (hp : isPr p = true) (hs : ¬ s < 1) (hs2 : ¬ 56 < s) (hl : threads S p ≠ []) (hgo : Goes S th p s to)
    (h0 : 0 ≤ to) (h1 : to < 256) (x : Tk) (hx : S.tk to.toNat = some x) (hw : x.waits = true) (hh : hasB x.wants s = true) :
    Calls Try.prog 14 #[.pointer (some ⟨t, 0, none⟩), .int .i64 th, .int .i64 p, .int .i64 s, .int .i64 v] w fun e w' =>
      KillPost base t (([(to, 0, v)], 0), { opposite S p.toNat s with tk := upd S.tk to.toNat (some { x with waits := false }), got := upd S.got to.toNat s }) w e w' := by
  obtain ⟨p0, p1⟩ := isPr_iff.1 hp
  have HP := Lib.hid hp
  have hb0 : Below w.heap.size w (w.alloc (.cells #[.int .i64 s] 3)) := (Below.refl _ _).alloc (Nat.le_refl _) _
  have hn0 : (w.alloc (.cells #[.int .i64 s] 3)).heap[w.heap.size]? = some (.cells #[.int .i64 s] 3 (0, 0)) := heap_alloc_new w _
  obtain ⟨_, _, _, _, _, hwn⟩ := hin.task to.toNat (by omega) x hx
  have H := Lib.hid (And.intro h (And.intro hb0 (And.intro hin hn0)))
  have HX := Lib.hid hx
  have HHB := Lib.hid hh
  have HWN := Lib.hid hwn
  have HLN := Lib.hid (threads_len S p)
  have HALL : Hid (∀ i ∈ threads S p, i < 256 ∧ (S.tk i).isSome = true) := Lib.hid fun i hi => by
    obtain ⟨h1, y, h2, _⟩ := mem_threads.1 hi
    exact ⟨h1, by rw [h2]; rfl⟩
  have hll : ((threads S p).length == 0) = false := by
    cases hq : threads S p with
    | nil => exact absurd hq hl
    | cons a l => simp
  have hlp : threads S p ≠ [] := hl
  clear h hp hl hb0 hn0 hin hx hh hwn
  rcases hgo with ⟨rfl, hch⟩ | ⟨rfl, hth, hmem⟩
  · have HCH := Lib.hid hch
    clear hch
    go_enter Try.func14, Try.ntmps14
    go_wp2_with (first
      | (go_at_call 28; refine (process_calls p _).mono ?_; rw [HP.out]; rintro e w' ⟨rfl, rfl⟩)
      | (go_at_call 30; refine (threads_calls p _ (H.out.1.below H.out.2.1)).mono ?_; rintro e w2 ⟨v2, rfl, hown, hb2⟩; have HN : Hid (Ns w2 v2 (threads S p)) := Lib.hid (Rw.of_own hown); have HB2 := Lib.hid (below_then' H.out.2.1 hb2); have HC2 := Lib.hid ((hb2.block w.heap.size (by simp)).trans H.out.2.2.2); have hcs2 := cell0 HC2.out rfl; clear hown hb2; obtain ⟨A2, c2, rfl, _⟩ := HN.out.at)
      | (go_at_call 32; refine (choose_calls _ (threads S p) s _ (H.out.1.below HB2.out) H.out.2.2.1 HN.out HLN.out HALL.out (by omega) (by omega)).mono ?_; rw [HCH.out]; rintro e w3 ⟨rfl, hb3⟩; have HB3 := Lib.hid (below_then' HB2.out hb3); have HC3 := Lib.hid ((hb3.block w.heap.size (Array.getElem?_eq_some_iff.1 HC2.out).1).trans HC2.out); clear hb3 hcs2))
    have hR3 := H.out.1.below HB3.out
    obtain ⟨bb, hpb, hbb, hbl, hbc, hcp⟩ := hR3.task_cell (i := to.toNat) (by omega) HX.out
    have hbw : bb < w.heap.size := H.out.1.ptr_lt (by omega) HX.out hpb
    have htw := H.out.1.lt
    have c3 : w3.cell? ⟨bb, 3, none⟩ = some (.bool x.waits) := by rw [cell_of_row _ _ _ _ _ _ hbc]; rfl
    have c4 : w3.cell? ⟨bb, 4, none⟩ = some (.int .u64 x.wants) := by rw [cell_of_row _ _ _ _ _ _ hbc]; rfl
    have cb := cell0 HC3.out rfl
    have HR3 := Lib.hid hR3
    have HPB := Lib.hid hpb
    rw [hw] at c3
    clear hR3 hpb hbc
    go_quiet ((go_at_call 33; exact Calls.quiet_of_same (has_same x.wants s _ true HHB.out (Nat.lt_trans HWN.out (by decide)) (by omega) (by omega))))
    have HRd := Lib.hid (HR3.out.drewN nq)
    have HCd : Hid ((w3.drewN nq).heap[w.heap.size]? = some (.cells #[.int .i64 s] 3 (0, 0))) := Lib.hid HC3.out
    have HBd := Lib.hid (below_drewN HB3.out nq)
    generalize w3.drewN nq = w4 at *
    have cb4 := cell0 HCd.out rfl
    clear c3 c4 cb hcp
    go_wp2_with (go_at_call 34; refine (opposite_calls p s _ HRd.out H.out.2.2.1 p0 p1).mono ?_; rintro e w5 ⟨rfl, ⟨L5, hR5, hP5⟩, hF5⟩; obtain ⟨b5, hb5, _, hbl5, hbc5, hcp5⟩ := hR5.task_cell (i := to.toNat) (by omega) (x := x) (by rw [opposite_tk]; exact HX.out); (rw [hP5, HPB.out] at hb5; cases hb5); have hc5 := hF5.oth w.heap.size _ HCd.out (fun e he => by simp [oty] at he; subst he; decide); have HC5 := Lib.hid hc5; have hcs5 := cell0 hc5 rfl; have c3 : w5.cell? ⟨bb, 3, none⟩ = some (.bool x.waits) := (by rw [cell_of_row _ _ _ _ _ _ hbc5]; rfl); have f3 := frozen_of_cells hbc5 3; have HR5 := Lib.hid (And.intro hR5 (And.intro hF5 (And.intro (show (opposite S p.toNat s).tk to.toNat = some x by rw [opposite_tk]; exact HX.out) (show L5.ptr to.toNat = some bb by rw [hP5]; exact HPB.out)))); have g1 := hR5.cellT (3968 + to.toNat) (by omega); have g2 := hR5.frozenT (3968 + to.toNat); have hne5 := hR5.ne_tab hbc5 (by decide); have hts5 := hR5.lt; clear hR5 hF5 hP5 hbc5 hc5 cb4)
    rw [tcell_got L5 _ to.toNat _ rfl] at g1
    have ne1 : bb ≠ w.heap.size := by omega
    have ne2 : ¬ w.heap.size = bb := by omega
    have ne3 : bb ≠ t := hne5
    have ne4 : ¬ t = bb := fun h => hne5 h.symm
    have ne5 : t ≠ w.heap.size := by omega
    have ne6 : ¬ w.heap.size = t := by omega
    have hWA := wake_after HR5.out.1 (show to.toNat < 256 by omega) HR5.out.2.2.1 HR5.out.2.2.2 s
    have HWA := Lib.hid (After.pre hWA ((Fr.of_below HBd.out H.out.1.base_lt).trans HR5.out.2.1))
    clear hWA
    go_region
    go_wp2
    go_ret2
    refine ⟨_, rfl, ?_, ?_⟩
    · exact Wk.heap (w := World.alloc ((w5.setCell ⟨bb, 3, none⟩ (.bool false)).setCell ⟨t, 3968 + to.toNat, none⟩ (.int .i64 s)) _) (wk_of (alloc_new_at (by simp [World.setCell]) _)) rfl
    exact After.heap (After.alloc HWA.out _) rfl rfl rfl rfl
  · have hmemb : Hid ((threads S p).any (fun y => th == (y : Int)) = true) := Lib.hid (by rw [any_mem (isTh_iff.1 hth).1]; simpa using hmem)
    have HTH := Lib.hid hth
    have b1 : (th != -1) = true := by simp; omega
    have b2 : (th == -1) = false := by simp; omega
    clear hmem hth
    go_enter Try.func14, Try.ntmps14
    go_wp2_with (first
      | (go_at_call 27; refine (thread_calls th _).mono ?_; rw [HTH.out]; rintro e w' ⟨rfl, rfl⟩)
      | (go_at_call 28; refine (process_calls p _).mono ?_; rw [HP.out]; rintro e w' ⟨rfl, rfl⟩)
      | (go_at_call 30; refine (threads_calls p _ (H.out.1.below H.out.2.1)).mono ?_; rintro e w3 ⟨v2, rfl, hown, hb2⟩; have HN : Hid (Ns w3 v2 (threads S p)) := Lib.hid (Rw.of_own hown); have HB3 := Lib.hid (below_then' H.out.2.1 hb2); have HC3 := Lib.hid ((hb2.block w.heap.size (by simp)).trans H.out.2.2.2); have hcs2 := cell0 HC3.out rfl; clear hown hb2; obtain ⟨A2, c2, rfl, _⟩ := HN.out.at)
      | (go_at_call 31; refine (contains_calls _ (threads S p) th _ HN.out HLN.out).mono ?_; rw [hmemb.out]; rintro e w' ⟨rfl, rfl⟩))
    clear hcs2
    have hR3 := H.out.1.below HB3.out
    obtain ⟨bb, hpb, hbb, hbl, hbc, hcp⟩ := hR3.task_cell (i := th.toNat) (by omega) HX.out
    have hbw : bb < w.heap.size := H.out.1.ptr_lt (by omega) HX.out hpb
    have htw := H.out.1.lt
    have c3 : w3.cell? ⟨bb, 3, none⟩ = some (.bool x.waits) := by rw [cell_of_row _ _ _ _ _ _ hbc]; rfl
    have c4 : w3.cell? ⟨bb, 4, none⟩ = some (.int .u64 x.wants) := by rw [cell_of_row _ _ _ _ _ _ hbc]; rfl
    have cb := cell0 HC3.out rfl
    have HR3 := Lib.hid hR3
    have HPB := Lib.hid hpb
    rw [hw] at c3
    clear hR3 hpb hbc
    go_quiet ((go_at_call 33; exact Calls.quiet_of_same (has_same x.wants s _ true HHB.out (Nat.lt_trans HWN.out (by decide)) (by omega) (by omega))))
    have HRd := Lib.hid (HR3.out.drewN nq)
    have HCd : Hid ((w3.drewN nq).heap[w.heap.size]? = some (.cells #[.int .i64 s] 3 (0, 0))) := Lib.hid HC3.out
    have HBd := Lib.hid (below_drewN HB3.out nq)
    generalize w3.drewN nq = w4 at *
    have cb4 := cell0 HCd.out rfl
    clear c3 c4 cb hcp
    go_wp2_with (go_at_call 34; refine (opposite_calls p s _ HRd.out H.out.2.2.1 p0 p1).mono ?_; rintro e w5 ⟨rfl, ⟨L5, hR5, hP5⟩, hF5⟩; obtain ⟨b5, hb5, _, hbl5, hbc5, hcp5⟩ := hR5.task_cell (i := th.toNat) (by omega) (x := x) (by rw [opposite_tk]; exact HX.out); (rw [hP5, HPB.out] at hb5; cases hb5); have hc5 := hF5.oth w.heap.size _ HCd.out (fun e he => by simp [oty] at he; subst he; decide); have HC5 := Lib.hid hc5; have hcs5 := cell0 hc5 rfl; have c3 : w5.cell? ⟨bb, 3, none⟩ = some (.bool x.waits) := (by rw [cell_of_row _ _ _ _ _ _ hbc5]; rfl); have f3 := frozen_of_cells hbc5 3; have HR5 := Lib.hid (And.intro hR5 (And.intro hF5 (And.intro (show (opposite S p.toNat s).tk th.toNat = some x by rw [opposite_tk]; exact HX.out) (show L5.ptr th.toNat = some bb by rw [hP5]; exact HPB.out)))); have g1 := hR5.cellT (3968 + th.toNat) (by omega); have g2 := hR5.frozenT (3968 + th.toNat); have hne5 := hR5.ne_tab hbc5 (by decide); have hts5 := hR5.lt; clear hR5 hF5 hP5 hbc5 hc5 cb4)
    rw [tcell_got L5 _ th.toNat _ rfl] at g1
    have ne1 : bb ≠ w.heap.size := by omega
    have ne2 : ¬ w.heap.size = bb := by omega
    have ne3 : bb ≠ t := hne5
    have ne4 : ¬ t = bb := fun h => hne5 h.symm
    have ne5 : t ≠ w.heap.size := by omega
    have ne6 : ¬ w.heap.size = t := by omega
    have hWA := wake_after HR5.out.1 (show th.toNat < 256 by omega) HR5.out.2.2.1 HR5.out.2.2.2 s
    have HWA := Lib.hid (After.pre hWA ((Fr.of_below HBd.out H.out.1.base_lt).trans HR5.out.2.1))
    clear hWA
    go_region
    go_wp2
    go_ret2
    refine ⟨_, rfl, ?_, ?_⟩
    · exact Wk.heap (w := World.alloc ((w5.setCell ⟨bb, 3, none⟩ (.bool false)).setCell ⟨t, 3968 + th.toNat, none⟩ (.int .i64 s)) _) (wk_of (alloc_new_at (by simp [World.setCell]) _)) rfl
    exact After.heap (After.alloc HWA.out _) rfl rfl rfl rfl
end Go.Proofs.Ytbpihfphoniclaa
