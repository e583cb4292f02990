import Derived.Test.YtbpihfphoniclaaB2
import Derived.Deep.RegionHeld3
namespace Go.Proofs.Ytbpihfphoniclaa
open Go.RowKit
set_option linter.unusedVariables false
theorem cancel_nil (th : Int) (w : World) : Calls Try.prog 20 #[.pointer none, .int .i64 th] w fun e w' => e = .returned (.bool false) ∧ w = w' := by
  go_enter Try.func20, Try.ntmps20
  go_wp2_with (go_at_call 29; refine (started_nil th _).mono ?_; rintro e w' ⟨rfl, rfl⟩)
  go_ret
  exact ⟨rfl, rfl⟩
set_option maxRecDepth 100000 in
theorem cancel_calls {base t : Nat} {L : Lay} {S : St} (th : Int) (w : World) (h : RepL w base t L S) :
    Calls Try.prog 20 #[.pointer (some ⟨t, 0, none⟩), .int .i64 th] w fun e w' => e = .returned (.bool (cancelS S th).1) ∧ After base t (cancelS S th).2 w w' := by
  have HA := Lib.hid (After.refl h)
  have H := Lib.hid h
  clear h
  cases hth : isTh th with
  | false =>
    rw [show cancelS S th = (false, S) by simp [cancelS, hth]]
    have HST := Lib.hid (started_bad (base := base) (t := t) (L := L) (S := S) th w hth)
    clear hth
    go_enter Try.func20, Try.ntmps20
    go_wp2_with (go_at_call 29; refine HST.out.mono ?_; rintro e w' ⟨rfl, rfl⟩)
    go_ret
    exact ⟨rfl, HA.out⟩
  | true =>
    obtain ⟨t0, t1⟩ := isTh_iff.1 hth
    have HST := Lib.hid (started_calls th w H.out hth)
    cases hx : S.tk th.toNat with
    | none =>
      rw [show cancelS S th = (false, S) by simp [cancelS, hth, hx]]
      have HP := Lib.hid (H.out.idle th.toNat (by omega) hx).1
      have HX := Lib.hid hx
      clear hth hx
      go_enter Try.func20, Try.ntmps20
      go_wp2_with (go_at_call 29; refine HST.out.mono ?_; rw [HP.out, HX.out]; rintro e w' ⟨rfl, rfl⟩)
      go_ret
      exact ⟨rfl, HA.out⟩
    | some x =>
      obtain ⟨bb, hpb, _, hbl, hbc, hc⟩ := H.out.task_cell (show th.toNat < 256 by omega) hx
      have HX := Lib.hid hx
      have HPB := Lib.hid hpb
      have c3 : w.cell? ⟨bb, 3, none⟩ = some (.bool x.waits) := by rw [cell_of_row _ _ _ _ _ _ hbc]; rfl
      have f3 : w.frozen? ⟨bb, 3, none⟩ = false := frozen_of_cells hbc 3
      cases hw : x.waits with
      | false =>
        rw [show cancelS S th = (false, S) by simp [cancelS, hth, hx, hw]]
        rw [hw] at c3
        clear hth hx hbc hpb hw
        go_enter Try.func20, Try.ntmps20
        go_wp2_with (go_at_call 29; refine HST.out.mono ?_; rw [HPB.out, HX.out]; simp only [pv, Option.map_some, Option.isSome_some, if_true]; rintro e w' ⟨rfl, rfl⟩)
        go_ret
        exact ⟨rfl, HA.out⟩
      | true =>
        rw [show cancelS S th = (true, { S with tk := upd S.tk th.toNat (some { x with waits := false }) }) by simp [cancelS, hth, hx, hw]]
        rw [hw] at c3
        clear hth hx hbc hpb hw
        have HR := Lib.hid (H.out.setTk (show th.toNat < 256 by omega) HX.out HPB.out 3 (.bool false) { x with waits := false } (by simp [kcells]))
        have HF := Lib.hid (H.out.frB (show th.toNat < 256 by omega) HX.out HPB.out 3 (.bool false))
        go_enter Try.func20, Try.ntmps20
        go_wp2_with (go_at_call 29; refine HST.out.mono ?_; rw [HPB.out, HX.out]; simp only [pv, Option.map_some, Option.isSome_some, if_true]; rintro e w' ⟨rfl, rfl⟩)
        go_ret
        exact ⟨rfl, ⟨_, HR.out⟩, HF.out⟩
theorem orOf_snoc (l : List Pd) (x : Pd) : orOf (l ++ [x]) = orOf l ||| 2 ^ (x.1 - 1).toNat := by simp [orOf]
theorem orOf_lt (l : List Pd) (h : ∀ x ∈ l, 1 ≤ x.1 ∧ x.1 ≤ 56) : orOf l < 72057594037927936 := by
  have key : ∀ (l : List Pd) (a : Nat), (∀ x ∈ l, 1 ≤ x.1 ∧ x.1 ≤ 56) → a < 72057594037927936 → l.foldl (fun m x => m ||| 2 ^ (x.1 - 1).toNat) a < 72057594037927936 := by
    intro l
    induction l with
    | nil => intro a _ ha; exact ha
    | cons x l ih =>
      intro a hl ha
      refine ih _ (fun y hy => hl y (List.mem_cons_of_mem _ hy)) (or_lt56 ha ?_)
      have := hl x (List.mem_cons_self)
      exact Nat.lt_of_le_of_lt (Nat.pow_le_pow_right (by omega) (show (x.1 - 1).toNat ≤ 55 by omega)) (by decide)
  exact key l 0 h (by decide)
theorem pow_u64 (k : Nat) (hk : k ≤ 63) : IntKind.u64.wrap (2 ^ k) = ((2 ^ k : Nat) : Int) := by
  have h : (2 : Nat) ^ k < 18446744073709551616 := Nat.lt_of_le_of_lt (Nat.pow_le_pow_right (by omega) hk) (by decide)
  have e : ((2 : Int) ^ k) = ((2 ^ k : Nat) : Int) := by simp
  rw [IntKind.wrap_u64, e]
  generalize (2 : Nat) ^ k = q at h
  omega
theorem or_pow (m k : Nat) (hk : k ≤ 63) (hm : m < 18446744073709551616) : bits .or .u64 (m : Int) (IntKind.u64.wrap (2 ^ k)) = ((m ||| 2 ^ k : Nat) : Int) := by
  rw [pow_u64 k hk]
  exact u64_or_nat m (2 ^ k) hm (Nat.lt_of_le_of_lt (Nat.pow_le_pow_right (by omega) hk) (by decide))
def pre2 (a b : List Pd) (k : Nat) : List Pd := if k = 0 then [] else if k = 1 then a else a ++ b
theorem pend_nil (th : Int) (w : World) : Calls Try.prog 21 #[.pointer none, .int .i64 th] w fun e w' => e = .returned (.tuple #[.int .u64 0, .int .i64 35]) ∧ w = w' := by
  go_enter Try.func21, Try.ntmps21
  go_wp2_with (go_at_call 29; refine (started_nil th _).mono ?_; rintro e w' ⟨rfl, rfl⟩)
  go_ret2
  exact ⟨rfl, rfl⟩
theorem pend_bad {base t : Nat} {L : Lay} {S : St} (th : Int) (w : World) (h : RepL w base t L S) (hbad : (isTh th = false ∨ S.tk th.toNat = none)) :
    Calls Try.prog 21 #[.pointer (some ⟨t, 0, none⟩), .int .i64 th] w fun e w' => e = .returned (.tuple #[.int .u64 (pendingS S th).1, .int .i64 (pendingS S th).2]) ∧ w = w' := by
  cases hth : isTh th with
  | false =>
    rw [show pendingS S th = (0, 34) by simp [pendingS, hth]]
    have HST := Lib.hid (started_bad (base := base) (t := t) (L := L) (S := S) th w hth)
    clear hth hbad
    go_enter Try.func21, Try.ntmps21
    go_wp2_with (go_at_call 29; refine HST.out.mono ?_; rintro e w' ⟨rfl, rfl⟩)
    go_ret2
    exact ⟨rfl, rfl⟩
  | true =>
    have hx : S.tk th.toNat = none := by
      rcases hbad with hb | hb
      · rw [hth] at hb; cases hb
      · exact hb
    obtain ⟨t0, t1⟩ := isTh_iff.1 hth
    have HST := Lib.hid (started_calls th w h hth)
    rw [show pendingS S th = (0, 24) by simp [pendingS, hth, hx]]
    have HP := Lib.hid (h.idle th.toNat (by omega) hx).1
    have HX := Lib.hid hx
    clear hth hx hbad h
    go_enter Try.func21, Try.ntmps21
    go_wp2_with (go_at_call 29; refine HST.out.mono ?_; rw [HP.out, HX.out]; rintro e w' ⟨rfl, rfl⟩)
    go_ret2
    exact ⟨rfl, rfl⟩
set_option maxHeartbeats 1000000 in
set_option maxRecDepth 100000 in
theorem pend_calls {base t : Nat} {L : Lay} {S : St} (th : Int) (w : World) (h : RepL w base t L S) (hin : Inv S 1000) :
    Calls Try.prog 21 #[.pointer (some ⟨t, 0, none⟩), .int .i64 th] w fun e w' => e = .returned (.tuple #[.int .u64 (pendingS S th).1, .int .i64 (pendingS S th).2]) ∧ Below w.heap.size w w' := by
  cases hth : isTh th with
  | false => exact (pend_bad th w h (.inl hth)).mono fun e w' ⟨h1, h2⟩ => ⟨h1, h2 ▸ Below.refl _ _⟩
  | true =>
    obtain ⟨t0, t1⟩ := isTh_iff.1 hth
    cases hx : S.tk th.toNat with
    | none => exact (pend_bad th w h (.inr hx)).mono fun e w' ⟨h1, h2⟩ => ⟨h1, h2 ▸ Below.refl _ _⟩
    | some x =>
      rw [show pendingS S th = (orOf (both S th.toNat x.proc.toNat), 0) by simp [pendingS, hth, hx]]
      have HST := Lib.hid (started_calls th w h hth)
      obtain ⟨bb, hpb, _, hbl, hbc, hc⟩ := h.task_cell (show th.toNat < 256 by omega) hx
      obtain ⟨hp0, hp1, _⟩ := hin.task th.toNat (by omega) x hx
      have HX := Lib.hid hx
      have HPB := Lib.hid hpb
      have c0 : w.cell? ⟨bb, 0, none⟩ = some (.int .i64 x.proc) := by rw [cell_of_row _ _ _ _ _ _ hbc]; rfl
      have c2 : w.cell? ⟨bb, 2, none⟩ = some (L.lv th.toNat) := by rw [cell_of_row _ _ _ _ _ _ hbc]; rfl
      have cp : w.cell? ⟨t, 256 + x.proc.toNat * 58 + 57, none⟩ = some (L.lv (256 + x.proc.toNat)) := by
        rw [h.cellT _ (by omega), tcell_lv L S x.proc.toNat _ (by omega) rfl]
      obtain ⟨A1, cap1, e1, _, _, _, hat1⟩ := (h.row th.toNat (by omega)).at
      obtain ⟨A2, cap2, e2, _, _, _, hat2⟩ := (h.row (256 + x.proc.toNat) (by omega)).at
      have HS1 := Lib.hid (hin.sig th.toNat (by omega))
      have HS2 := Lib.hid (hin.sig (256 + x.proc.toNat) (by omega))
      have HL1 := hin.len th.toNat (by omega)
      have HL2 := hin.len (256 + x.proc.toNat) (by omega)
      unfold both
      rw [e1] at c2
      rw [e2] at cp
      generalize S.ls th.toNat = l1 at *
      generalize S.ls (256 + x.proc.toNat) = l2 at *
      have HAT1 := Lib.hid hat1
      have HAT2 := Lib.hid hat2
      clear hth hx hpb hbc h hin hat1 hat2 e1 e2
      go_enter Try.func21, Try.ntmps21
      go_wp2_with (go_at_call 29; refine HST.out.mono ?_; rw [HPB.out, HX.out]; simp only [pv, Option.map_some, Option.isSome_some, if_true]; rintro e w' ⟨rfl, rfl⟩)
      go_region_held3 (fun w' => w'.cell? ⟨bb, 2, none⟩ = some (.slice A1 l1.length cap1) ∧ w'.cell? ⟨bb, 0, none⟩ = some (.int .i64 x.proc) ∧ w'.cell? ⟨t, 256 + x.proc.toNat * 58 + 57, none⟩ = some (.slice A2 l2.length cap2)) (go_keep) ((first | fail))
      go_wp2
      obtain ⟨W0, hW0⟩ : ∃ W0, (w.alloc (.cells #[.slice A1 l1.length cap1, .slice A2 l2.length cap2] 71)).drew = W0 := ⟨_, rfl⟩
      have hnew : W0.heap[w.heap.size]? = some (.cells #[.slice A1 l1.length cap1, .slice A2 l2.length cap2] 71) := by rw [← hW0]; exact heap_alloc_new w _
      have hb0 : Below w.heap.size w W0 := by rw [← hW0]; exact ((Below.refl _ _).alloc (Nat.le_refl _) _).drew
      have hlt0 : w.heap.size < W0.heap.size := by rw [← hW0]; show w.heap.size < (w.alloc _).heap.size; simp
      rw [hW0]
      have HW := Lib.hid (And.intro hnew hb0)
      clear hW0 hnew hb0 c0 c2 cp
      go_loopw [8, 38] (fun s i wr => ∃ k : Nat, k ≤ 2 ∧ i = .int .i64 k ∧ s = .int .u64 (orOf (pre2 l1 l2 k) : Nat) ∧ Hid (Below W0.heap.size W0 wr)) (fun _ i _ => 2 - (intOf i).toNat)
      case atStart => exact ⟨0, by omega, rfl, rfl, Lib.hid (Below.refl _ _)⟩
      case round =>
        obtain ⟨k, hk, rfl, rfl, HB⟩ := hrel
        by_cases hlt : k < 2
        · obtain ⟨A, cap, l, hcell, hat, hsig, hlen, hpre⟩ : ∃ A cap l, wr.cell? ⟨w.heap.size, k, none⟩ = some (.slice A l.length cap) ∧ (∀ k, k < l.length → ∃ g, A = some ⟨g, 0, none⟩ ∧ g < w.heap.size ∧ w.cell? ⟨g, k * 2, none⟩ = some (.int .i64 (l.getD k (0, 0)).1) ∧ w.cell? ⟨g, k * 2 + 1, none⟩ = some (.int .i64 (l.getD k (0, 0)).2)) ∧ (∀ x ∈ l, 1 ≤ x.1 ∧ x.1 ≤ 56) ∧ l.length ≤ 1000 ∧ pre2 l1 l2 (k + 1) = pre2 l1 l2 k ++ l := by
            have hcc : ∀ v, (#[.slice A1 l1.length cap1, .slice A2 l2.length cap2] : Array Value)[k]? = some v → wr.cell? ⟨w.heap.size, k, none⟩ = some v := fun v hv => by
              rw [HB.out.cell (p := ⟨w.heap.size, k, none⟩) hlt0, cell_of_row _ _ _ _ _ _ HW.out.1]
              exact hv
            rcases (by omega : k = 0 ∨ k = 1) with rfl | rfl
            · exact ⟨A1, cap1, l1, hcc _ rfl, HAT1.out, HS1.out, HL1, by simp [pre2]⟩
            · exact ⟨A2, cap2, l2, hcc _ rfl, HAT2.out, HS2.out, HL2, by simp [pre2]⟩
          have HPRE := Lib.hid hpre
          have HAT := Lib.hid hat
          have HSIG := Lib.hid hsig
          have hlt' : (k : Int) < 2 := by omega
          have hk0 : (0 : Int) ≤ (k : Int) := by omega
          obtain ⟨p0, hp0'⟩ : ∃ p0, p0 = pre2 l1 l2 k := ⟨_, rfl⟩
          have HPB2 : Hid (∀ x ∈ p0, 1 ≤ x.1 ∧ x.1 ≤ 56) := Lib.hid (by
            rw [hp0']
            intro x hx
            rcases (by omega : k = 0 ∨ k = 1) with rfl | rfl
            · simp [pre2] at hx
            · exact HS1.out x (by simpa [pre2] using hx))
          rw [← hp0']
          rw [← hp0'] at HPRE
          clear hat hsig hpre hp0'
          obtain ⟨wo, rfl⟩ : ∃ wo : World, wo = wr := ⟨_, rfl⟩
          go_wp2
          go_loopw [8, 44] (fun s i wi => ∃ j : Nat, j ≤ l.length ∧ i = .int .i64 j ∧ s = .int .u64 (orOf (p0 ++ l.take j) : Nat) ∧ Hid (Below W0.heap.size W0 wi)) (fun _ i _ => l.length - (intOf i).toNat)
          case atStart => exact ⟨0, by omega, rfl, by simp, HB⟩
          case round =>
            obtain ⟨j, hj, rfl, rfl, HJ⟩ := hrel
            by_cases hjl : j < l.length
            · obtain ⟨g, rfl, hg, hc0, hc1⟩ := HAT.out j hjl
              obtain ⟨hy0, hy1⟩ := HSIG.out _ (show l.getD j (0, 0) ∈ l by rw [List.getD_eq_getElem?_getD, List.getElem?_eq_getElem hjl]; exact List.getElem_mem hjl)
              have hsn : orOf (p0 ++ l.take (j + 1)) = orOf (p0 ++ l.take j) ||| 2 ^ ((l.getD j (0, 0)).1 - 1).toNat := by
                rw [List.take_succ_eq_append_getElem hjl, ← List.append_assoc, orOf_snoc, List.getD_eq_getElem?_getD, List.getElem?_eq_getElem hjl]
                rfl
              have hbd : orOf (p0 ++ l.take j) < 72057594037927936 := orOf_lt _ (fun x hx => by
                rcases List.mem_append.1 hx with h | h
                · exact HPB2.out x h
                · exact HSIG.out x (List.mem_of_mem_take h))
              have HSN := Lib.hid (And.intro hsn hbd)
              generalize l.getD j (0, 0) = y at *
              generalize orOf (p0 ++ l.take j) = m at *
              obtain ⟨y1, y2⟩ := y
              have hb2 : Below w.heap.size w wr := below_then' HW.out.2 HJ.out
              have HCE := Lib.hid (pair_cells ((hb2.cell (p := ⟨g, j * 2, none⟩) hg).trans hc0) ((hb2.cell (p := ⟨g, j * 2 + 1, none⟩) hg).trans hc1))
              have hlj : (j : Int) < (l.length : Int) := by omega
              have hjs := HJ.out.size
              clear hc0 hc1 hsn hbd hb2
              go_wp2_with ((with_reducible change wpList _ _ _ (⟨_, .load 94 (.tmp 46), _, _, _, _⟩ :: _) _ _); refine wpList_load_cells (by rfl) 94 (.tmp 46) rfl ⟨g, j * 2, none⟩ rfl #[.int .i64 y1, .int .i64 y2] _ HCE.out Try.underlying94 rfl (n := 2) (by kernel_rfl) rfl ?_)
              go_roundw
              case rel =>
                refine ⟨j + 1, by omega, by go_num, ?_, Lib.hid (HJ.out.alloc hjs _)⟩
                rw [HSN.out.1, show (y1 - 1).toNat = y1.toNat - 1 by omega, or_pow m (y1.toNat - 1) (by omega) (by have := HSN.out.2; omega)]
              case measure => simp [intOf]; omega
            · obtain rfl : j = l.length := by omega
              have hge : ¬ ((l.length : Int) < (l.length : Int)) := by omega
              rw [List.take_length, ← HPRE.out]
              go_wp2
              go_roundw
              case rel => exact ⟨k + 1, by omega, by go_num, rfl, HJ⟩
              case measure => simp [intOf]; omega
        · obtain rfl : k = 2 := by omega
          go_wp2
          go_ret2
          exact ⟨rfl, below_then' HW.out.2 HB.out⟩
end Go.Proofs.Ytbpihfphoniclaa
