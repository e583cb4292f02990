import Derived.Test.YtbpihfphoniclaaC1
namespace Go.Proofs.Ytbpihfphoniclaa
open Go.RowKit
set_option linter.unusedVariables false
theorem results_tmp4 {fn : Func} {p q r s : Tmp} (h : fn.results = #[.tmp p, .tmp q, .tmp r, .tmp s]) (tmps : Array Value) (P : Program) (w : World) :
    (results fn tmps).run P w = .ok (.tuple #[tmps.getD p undef, tmps.getD q undef, tmps.getD r undef, tmps.getD s undef]) w := by
  simp only [results, h]
  simp [Sem.run_bind, Result.andThen]
theorem After.alloc {base t : Nat} {S : St} {w X : World} (h : After base t S w X) (o : Obj) : After base t S w (X.alloc o) := by
  obtain ⟨⟨L, h1⟩, h2⟩ := h
  have hb : Below X.heap.size X (X.alloc o) := (Below.refl _ _).alloc (Nat.le_refl _) o
  exact ⟨⟨L, h1.below hb⟩, h2.trans (Fr.of_below hb h1.base_lt)⟩
theorem After.pre {base t : Nat} {S : St} {w0 w X : World} (h : After base t S w X) (hf : Fr base TS w0 w) : After base t S w0 X := ⟨h.1, hf.trans h.2⟩
theorem After.heap {base t : Nat} {S : St} {w X Y : World} (h : After base t S w X) (h0 : Y.heap = X.heap) (h1 : Y.os = X.os) (h2 : Y.tape = X.tape) (h3 : Y.output = X.output) : After base t S w Y := by
  obtain ⟨⟨L, g1⟩, g2⟩ := h
  exact ⟨⟨L, g1.heap h0⟩, g2.trans (Fr.of_heap h0 h1 h2 h3)⟩
theorem wait_nil (th : Int) (b : Nat) (w : World) : Calls Try.prog 43 #[.pointer none, .int .i64 th, .int .u64 b] w fun e w' => e = .returned (.tuple #[.int .i64 0, .int .i64 0, .bool false, .int .i64 35]) ∧ w = w' := by
  go_enter Try.func43, Try.ntmps43
  go_wp2_with (go_at_call 29; refine (started_nil th _).mono ?_; rintro e w' ⟨rfl, rfl⟩)
  exact bodyPost_ret (results_tmp4 rfl _ _ _) rfl ⟨rfl, rfl⟩
theorem wait_bad {base t : Nat} {L : Lay} {S : St} (th : Int) (b : Nat) (w : World) (h : RepL w base t L S) (hbad : (isTh th = false ∨ S.tk th.toNat = none)) :
    Calls Try.prog 43 #[.pointer (some ⟨t, 0, none⟩), .int .i64 th, .int .u64 b] w fun e w' => e = .returned (.tuple #[.int .i64 (waitS S th b).1.1, .int .i64 (waitS S th b).1.2.1, .bool (waitS S th b).1.2.2.1, .int .i64 (waitS S th b).1.2.2.2]) ∧ After base t (waitS S th b).2 w w' := by
  have HA := Lib.hid (After.refl h)
  cases hth : isTh th with
  | false =>
    rw [show waitS S th b = ((0, 0, false, 34), S) by simp [waitS, hth]]
    have HST := Lib.hid (started_bad (base := base) (t := t) (L := L) (S := S) th w hth)
    clear hth hbad h
    go_enter Try.func43, Try.ntmps43
    go_wp2_with (go_at_call 29; refine HST.out.mono ?_; rintro e w' ⟨rfl, rfl⟩)
    exact bodyPost_ret (results_tmp4 rfl _ _ _) rfl ⟨rfl, HA.out⟩
  | true =>
    have hx : S.tk th.toNat = none := by
      rcases hbad with hb | hb
      · rw [hth] at hb; cases hb
      · exact hb
    obtain ⟨t0, t1⟩ := isTh_iff.1 hth
    have HST := Lib.hid (started_calls th w h hth)
    rw [show waitS S th b = ((0, 0, false, 24), S) by simp [waitS, hth, hx]]
    have HP := Lib.hid (h.idle th.toNat (by omega) hx).1
    have HX := Lib.hid hx
    clear hth hx hbad h
    go_enter Try.func43, Try.ntmps43
    go_wp2_with (go_at_call 29; refine HST.out.mono ?_; rw [HP.out, HX.out]; rintro e w' ⟨rfl, rfl⟩)
    exact bodyPost_ret (results_tmp4 rfl _ _ _) rfl ⟨rfl, HA.out⟩
/-- A thread begins to wait. -/
theorem wait_after {w : World} {base t : Nat} {L : Lay} {S : St} (h : RepL w base t L S) {i : Nat} (hi : i < 256) {x : Tk} (hx : S.tk i = some x) {b : Nat} (hb : L.ptr i = some b) (m : Nat) :
    After base t { S with tk := upd S.tk i (some { x with waits := true, wants := m }), got := upd S.got i 0 } w (((w.setCell ⟨b, 3, none⟩ (.bool true)).setCell ⟨b, 4, none⟩ (.int .u64 m)).setCell ⟨t, 3968 + i, none⟩ (.int .i64 0)) := by
  have h1 := h.setTk hi hx hb 3 (.bool true) { x with waits := true } (by simp [kcells])
  have hx1 : (upd S.tk i (some { x with waits := true })) i = some { x with waits := true } := upd_same _ _ _
  have h2 := h1.setTk hi hx1 hb 4 (.int .u64 m) { x with waits := true, wants := m } (by simp [kcells])
  have h3 := h2.setGot i (3968 + i) hi rfl 0
  refine ⟨⟨L, ?_⟩, ((h.frB hi hx hb _ _).trans (h1.frB hi hx1 hb _ _)).trans (h2.frT _ _)⟩
  have e := upd_upd S.tk i (some { x with waits := true }) (some { x with waits := true, wants := m })
  simp only at h3
  rw [e] at h3
  exact h3
set_option maxHeartbeats 1000000 in
set_option maxRecDepth 100000 in
theorem wait_some {base t : Nat} {L : Lay} {S : St} (th : Int) (b : Nat) (w : World) (h : RepL w base t L S) (hin : Inv S 1000) (hbl : b < 18446744073709551616) (hth : isTh th = true) (x : Tk) (hx : S.tk th.toNat = some x) :
    Calls Try.prog 43 #[.pointer (some ⟨t, 0, none⟩), .int .i64 th, .int .u64 b] w fun e w' => e = .returned (.tuple #[.int .i64 (waitS S th b).1.1, .int .i64 (waitS S th b).1.2.1, .bool (waitS S th b).1.2.2.1, .int .i64 (waitS S th b).1.2.2.2]) ∧ After base t (waitS S th b).2 w w' := by
  obtain ⟨t0, t1⟩ := isTh_iff.1 hth
  have HST := Lib.hid (started_calls th w h hth)
  obtain ⟨bb, hpb, _, hbl2, hbc, hc⟩ := h.task_cell (show th.toNat < 256 by omega) hx
  obtain ⟨hp0, hp1, hm, _, _, _⟩ := hin.task th.toNat (by omega) x hx
  have c3 : w.cell? ⟨bb, 3, none⟩ = some (.bool x.waits) := by rw [cell_of_row _ _ _ _ _ _ hbc]; rfl
  have HX := Lib.hid hx
  have HPB := Lib.hid hpb
  have H1 := Lib.hid (And.intro h (And.intro hin h.base_lt))
  cases hw : x.waits with
  | true =>
    rw [show waitS S th b = ((0, 0, false, 35), S) by simp [waitS, hth, hx, hw]]
    rw [hw] at c3
    clear hth hx hpb hbc h hin hw
    go_enter Try.func43, Try.ntmps43
    go_wp2_with (go_at_call 29; refine HST.out.mono ?_; rw [HPB.out, HX.out]; simp only [pv, Option.map_some, Option.isSome_some, if_true]; rintro e w' ⟨rfl, rfl⟩)
    exact bodyPost_ret (results_tmp4 rfl _ _ _) rfl ⟨rfl, After.refl H1.out.1⟩
  | false =>
    have e1 : bits .and .u64 (b : Int) 72057594037927935 = ((b &&& allM : Nat) : Int) := u64_and_nat b allM hbl (by decide)
    have hml : b &&& allM < 18446744073709551616 := by have := andAll_lt b; omega
    rw [hw] at c3
    have HTN := Lib.hid (take_none th.toNat bb (b &&& allM) x w h hin (by omega) hx hpb hml)
    have HTS := Lib.hid (take_some th.toNat bb (b &&& allM) x w h hin (by omega) hx hpb hml)
    have HNX : Hid (waitS S th b = if lowest (both S th.toNat x.proc.toNat) (b &&& allM) = 0 then ((0, 0, true, 0), { S with tk := upd S.tk th.toNat (some { x with waits := true, wants := b &&& allM }), got := upd S.got th.toNat 0 }) else ((lowest (both S th.toNat x.proc.toNat) (b &&& allM), (takeS S th.toNat x.proc.toNat (lowest (both S th.toNat x.proc.toNat) (b &&& allM))).1, false, 0), { (takeS S th.toNat x.proc.toNat (lowest (both S th.toNat x.proc.toNat) (b &&& allM))).2 with got := upd S.got th.toNat (lowest (both S th.toNat x.proc.toNat) (b &&& allM)) })) := Lib.hid (by simp [waitS, hth, hx, hw])
    generalize b &&& allM = mm at *
    obtain ⟨sg, hsg⟩ : ∃ sg, lowest (both S th.toNat x.proc.toNat) mm = sg := ⟨_, rfl⟩
    rw [hsg] at HTN HTS HNX
    have hgt := takeS_got S th.toNat x.proc.toNat sg
    generalize takeS S th.toNat x.proc.toNat sg = rr at *
    obtain ⟨vl, S2⟩ := rr
    simp only at hgt HTS HNX
    rw [HNX.out]
    have H2 := Lib.hid hgt
    clear hth hx hpb hbc h hin hw hsg hgt HNX hm hbl
    by_cases hlow : sg = 0
    · rw [if_pos hlow]
      have HT := Lib.hid (HTN.out hlow)
      clear HTN HTS hlow
      go_enter Try.func43, Try.ntmps43
      go_wp2_with fail
      refine HST.out.mono ?_
      rw [HPB.out, HX.out]
      simp only [pv, Option.map_some, Option.isSome_some, if_true]
      rintro e w' ⟨rfl, rfl⟩
      go_wp2_with fail
      refine HT.out.mono ?_
      rintro e w2 ⟨rfl, hd⟩
      have hR2 := H1.out.1.below hd
      obtain ⟨b2, hb2, _, hbl3, hbc2, _⟩ := hR2.task_cell (show th.toNat < 256 by omega) HX.out
      rw [HPB.out] at hb2
      cases hb2
      have c3' : w2.cell? ⟨bb, 3, none⟩ = some (.bool x.waits) := by rw [cell_of_row _ _ _ _ _ _ hbc2]; rfl
      have c4' : w2.cell? ⟨bb, 4, none⟩ = some (.int .u64 x.wants) := by rw [cell_of_row _ _ _ _ _ _ hbc2]; rfl
      have f3' := frozen_of_cells hbc2 3
      have f4' := frozen_of_cells hbc2 4
      have g1 := hR2.cellT (3968 + th.toNat) (by omega)
      rw [tcell_got L S th.toNat _ rfl] at g1
      have g2 := hR2.frozenT (3968 + th.toNat)
      have htl := hR2.lt
      have HR2 := Lib.hid (And.intro hR2 hd)
      have hF := wait_after hR2 (show th.toNat < 256 by omega) HX.out HPB.out mm
      have HF := Lib.hid hF
      clear hR2 hd hbc2 hF
      go_wp2
      exact bodyPost_ret (results_tmp4 rfl _ _ _) rfl ⟨rfl, After.alloc (After.pre HF.out (Fr.of_below HR2.out.2 H1.out.2.2)) _⟩
    · rw [if_neg hlow]
      have HT := Lib.hid (HTS.out hlow)
      clear HTN HTS hlow
      go_enter Try.func43, Try.ntmps43
      go_wp2_with fail
      refine HST.out.mono ?_
      rw [HPB.out, HX.out]
      simp only [pv, Option.map_some, Option.isSome_some, if_true]
      rintro e w' ⟨rfl, rfl⟩
      go_wp2_with fail
      refine HT.out.mono ?_
      rintro e w2 ⟨rfl, ⟨L2, hR2, hP2⟩, hF2⟩
      have g1 := hR2.cellT (3968 + th.toNat) (by omega)
      rw [tcell_got L2 S2 th.toNat _ rfl] at g1
      have g2 := hR2.frozenT (3968 + th.toNat)
      have htl := hR2.lt
      have HR2 := Lib.hid (And.intro hR2 hF2)
      have hb3 : Below w2.heap.size w2 (w2.alloc (.cells #[.int .i64 sg, .int .i64 vl] 94)) := (Below.refl _ _).alloc (Nat.le_refl _) _
      have hR3 := hR2.below hb3
      have hR4 := hR3.setGot th.toNat (3968 + th.toNat) (by omega) rfl sg
      have HF : Hid (After base t { S2 with got := upd S.got th.toNat sg } w ((w2.alloc (.cells #[.int .i64 sg, .int .i64 vl] 94)).setCell ⟨t, 3968 + th.toNat, none⟩ (.int .i64 sg))) := Lib.hid (by
        rw [← H2.out]
        exact ⟨⟨L2, hR4⟩, (hF2.trans (Fr.of_below hb3 hR2.base_lt)).trans (hR3.frT _ _)⟩)
      rw [World.setCell_alloc_past _ _ _ _ htl] at HF
      clear hR2 hP2 hF2 hR3 hR4 hb3
      go_wp2
      go_region
      go_wp2
      go_quiet (fail)
      go_wp2
      exact bodyPost_ret (results_tmp4 rfl _ _ _) rfl ⟨rfl, After.heap HF.out rfl rfl rfl rfl⟩
theorem wait_calls {base t : Nat} {L : Lay} {S : St} (th : Int) (b : Nat) (w : World) (h : RepL w base t L S) (hin : Inv S 1000) (hbl : b < 18446744073709551616) :
    Calls Try.prog 43 #[.pointer (some ⟨t, 0, none⟩), .int .i64 th, .int .u64 b] w fun e w' => e = .returned (.tuple #[.int .i64 (waitS S th b).1.1, .int .i64 (waitS S th b).1.2.1, .bool (waitS S th b).1.2.2.1, .int .i64 (waitS S th b).1.2.2.2]) ∧ After base t (waitS S th b).2 w w' := by
  cases hth : isTh th with
  | false => exact wait_bad th b w h (.inl hth)
  | true =>
    cases hx : S.tk th.toNat with
    | none => exact wait_bad th b w h (.inr hx)
    | some x => exact wait_some th b w h hin hbl hth x hx
end Go.Proofs.Ytbpihfphoniclaa
