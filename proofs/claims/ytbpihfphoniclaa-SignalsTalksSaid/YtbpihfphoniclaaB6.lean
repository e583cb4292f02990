import Derived.Test.YtbpihfphoniclaaB5
import Derived.Deep.MidRow
namespace Go.Proofs.Ytbpihfphoniclaa
open Go.RowKit
set_option linter.unusedVariables false
theorem end_nil (th : Int) (w : World) : Calls Try.prog 42 #[.pointer none, .int .i64 th] w fun e w' => e = .returned (.int .i64 35) ∧ w = w' := by
  go_enter Try.func42, Try.ntmps42
  go_wp2_with (go_at_call 29; refine (started_nil th _).mono ?_; rintro e w' ⟨rfl, rfl⟩)
  go_ret
  exact ⟨rfl, rfl⟩
theorem end_bad {base t : Nat} {L : Lay} {S : St} (th : Int) (w : World) (h : RepL w base t L S) (hbad : (isTh th = false ∨ S.tk th.toNat = none)) :
    Calls Try.prog 42 #[.pointer (some ⟨t, 0, none⟩), .int .i64 th] w fun e w' => e = .returned (.int .i64 (endS S th).1) ∧ After base t (endS S th).2 w w' := by
  have HA := Lib.hid (After.refl h)
  cases hth : isTh th with
  | false =>
    rw [show endS S th = (34, S) by simp [endS, hth]]
    have HST := Lib.hid (started_bad (base := base) (t := t) (L := L) (S := S) th w hth)
    clear hth hbad h
    go_enter Try.func42, Try.ntmps42
    go_wp2_with (go_at_call 29; refine HST.out.mono ?_; rintro e w' ⟨rfl, rfl⟩)
    go_ret
    exact ⟨rfl, HA.out⟩
  | true =>
    have hx : S.tk th.toNat = none := by
      rcases hbad with hb | hb
      · rw [hth] at hb; cases hb
      · exact hb
    obtain ⟨t0, t1⟩ := isTh_iff.1 hth
    have HST := Lib.hid (started_calls th w h hth)
    rw [show endS S th = (24, S) by simp [endS, hth, hx]]
    have HP := Lib.hid (h.idle th.toNat (by omega) hx).1
    have HX := Lib.hid hx
    clear hth hx hbad h
    go_enter Try.func42, Try.ntmps42
    go_wp2_with (go_at_call 29; refine HST.out.mono ?_; rw [HP.out, HX.out]; rintro e w' ⟨rfl, rfl⟩)
    go_ret
    exact ⟨rfl, HA.out⟩
def z58 : Array Value := ((List.replicate 57 (Value.int .i64 0)) ++ [Value.slice none 0 0]).toArray
theorem built73 : Try.prog.built 73 [] = some z58 := by kernel_rfl
theorem size73 : (Try.prog.info? 73).map (·.size) = some 58 := by kernel_rfl
theorem z58_size : z58.size = 58 := by decide
theorem z58_one : z58.all (·.oneCell') = true := by kernel_rfl
theorem z58_get (j : Nat) (h : j < 58) : z58.toList[j]? = some (if j < 57 then .int .i64 0 else .slice none 0 0) := by
  have e : z58.toList = List.replicate 57 (Value.int .i64 0) ++ [Value.slice none 0 0] := rfl
  rw [e]
  by_cases h1 : j < 57
  · rw [if_pos h1, List.getElem?_append_left (by rw [List.length_replicate]; exact h1), List.getElem?_replicate, if_pos h1]
  · obtain rfl : j = 57 := by omega
    rfl
theorem setCells_row {g : Nat} {e : TypeId} : ∀ (vs : List Value) (o : Nat) (w : World) (cs : Array Value), w.heap[g]? = some (.cells cs e (0, 0)) → ∃ cs', (w.setCells g o vs).heap[g]? = some (.cells cs' e (0, 0)) ∧ cs'.size = cs.size
  | [], o, w, cs, h => ⟨cs, h, rfl⟩
  | v :: r, o, w, cs, h => by
    obtain ⟨cs', h1, h2⟩ := setCells_row r (o + 1) (w.setCell ⟨g, o, none⟩ v) _ (heap_setCell_same w g o cs e v h)
    exact ⟨cs', h1, by rw [h2]; simp⟩
theorem setCells_else {g : Nat} : ∀ (vs : List Value) (o : Nat) (w : World) (k : Nat), k ≠ g → (w.setCells g o vs).heap[k]? = w.heap[k]?
  | [], _, _, _, _ => rfl
  | v :: r, o, w, k, h => (setCells_else r (o + 1) (w.setCell ⟨g, o, none⟩ v) k h).trans (Below.heap_setCell w ⟨g, o, none⟩ v k h)
theorem setCells_os (g : Nat) : ∀ (vs : List Value) (o : Nat) (w : World), (w.setCells g o vs).os = w.os ∧ (w.setCells g o vs).tape = w.tape ∧ (w.setCells g o vs).output = w.output ∧ (w.setCells g o vs).heap.size = w.heap.size
  | [], _, _ => ⟨rfl, rfl, rfl, rfl⟩
  | v :: r, o, w => by
    obtain ⟨h1, h2, h3, h4⟩ := setCells_os g r (o + 1) (w.setCell ⟨g, o, none⟩ v)
    exact ⟨h1, h2, h3, by rw [World.setCells, h4]; simp [World.setCell]⟩
theorem there_tab {w : World} {base t : Nat} {L : Lay} {S : St} (h : RepL w base t L S) (o n : Nat) (hn : o + n ≤ 4224) : w.there t o n := fun j hj => ⟨by rw [h.cellT (o + j) (by omega)]; rfl, h.frozenT (o + j)⟩
theorem wipe_after {w : World} {base t : Nat} {L : Lay} {S : St} (h : RepL w base t L S) {p : Nat} (hp : p < 64) : After base t { S with ac := upd S.ac p (fun _ => 0), ls := upd S.ls (256 + p) [] } w (w.setCells t (256 + p * 58) z58.toList) := by
  obtain ⟨cs, h1, h2, h3⟩ := h.tab
  obtain ⟨cs', h4, h5⟩ := setCells_row z58.toList (256 + p * 58) w cs h1
  have hth := there_tab h (256 + p * 58) 58 (by omega)
  have hlen : z58.toList.length = 58 := by decide
  have hc : ∀ j, cs'[j]? = (w.setCells t (256 + p * 58) z58.toList).cell? ⟨t, j, none⟩ := fun j => by rw [cell_of_row _ _ _ _ _ _ h4]
  have hin := World.rangeAt_setCells_same w t (256 + p * 58) z58.toList (by rw [hlen]; exact hth)
  obtain ⟨o1, o2, o3, o4⟩ := setCells_os t z58.toList (256 + p * 58) w
  refine ⟨⟨_, h.wipe hp (fun k hk => setCells_else _ _ _ _ hk) h4 (by omega) ?_⟩, ⟨⟨o1, o2, o3, by omega, fun k hk => setCells_else _ _ _ _ (by have := h.bt; omega)⟩, fun k o hk ho => ?_⟩⟩
  · intro j hj
    rw [hc]
    by_cases c1 : 256 + p * 58 ≤ j ∧ j < 256 + p * 58 + 58
    · have := hin (j - (256 + p * 58)) _ (z58_get (j - (256 + p * 58)) (by omega))
      rw [show 256 + p * 58 + (j - (256 + p * 58)) = j by omega] at this
      rw [this]
      by_cases c2 : j < 256 + p * 58 + 57
      · rw [if_pos (by omega), if_pos (by omega)]
      · rw [if_neg (by omega), if_neg (by omega), if_pos (by omega)]
    · rw [if_neg (by omega), if_neg (by omega)]
      have hold : w.rangeAt t j [tcell L S j] := by
        intro q v hq
        match q, hq with
        | 0, hq => cases hq; exact h.cellT j hj
        | q + 1, hq => simp at hq
      exact World.rangeAt_setCells_apart hold t (256 + p * 58) z58.toList (by rw [hlen]; simp; omega) 0 _ rfl
  · have hne : k ≠ t := by
      rintro rfl
      obtain ⟨e, he, hm⟩ := h.tab_ty o hk
      exact ho e he hm
    rw [setCells_else _ _ _ _ hne]
    exact hk
set_option maxHeartbeats 1000000 in
set_option maxRecDepth 100000 in
theorem end_calls {base t : Nat} {L : Lay} {S : St} (th : Int) (w : World) (h : RepL w base t L S) (hin : Inv S 1000) :
    Calls Try.prog 42 #[.pointer (some ⟨t, 0, none⟩), .int .i64 th] w fun e w' => e = .returned (.int .i64 (endS S th).1) ∧ After base t (endS S th).2 w w' := by
  cases hth : isTh th with
  | false => exact end_bad th w h (.inl hth)
  | true =>
    obtain ⟨t0, t1⟩ := isTh_iff.1 hth
    cases hx : S.tk th.toNat with
    | none => exact end_bad th w h (.inr hx)
    | some x =>
      have HST := Lib.hid (started_calls th w h hth)
      obtain ⟨bb, hpb, _, hbl, hbc, hc⟩ := h.task_cell (show th.toNat < 256 by omega) hx
      obtain ⟨hp0, hp1, _⟩ := hin.task th.toNat (by omega) x hx
      have hne := h.ne_tab hbc (by decide)
      have HX := Lib.hid hx
      have HPB := Lib.hid hpb
      have c0 : w.cell? ⟨bb, 0, none⟩ = some (.int .i64 x.proc) := by rw [cell_of_row _ _ _ _ _ _ hbc]; rfl
      have f1 := h.frozenT th.toNat
      have f2 := h.frozenT (3968 + th.toNat)
      have c2 := h.cellT (3968 + th.toNat) (by omega)
      rw [tcell_got L S th.toNat _ rfl] at c2
      have H := Lib.hid (And.intro h hin)
      rw [show endS S th = if (threads { S with tk := upd S.tk th.toNat none, ls := upd S.ls th.toNat [], got := upd S.got th.toNat 0 } x.proc).isEmpty then (0, { S with tk := upd S.tk th.toNat none, ls := upd (upd S.ls th.toNat []) (256 + x.proc.toNat) [], got := upd S.got th.toNat 0, ac := upd S.ac x.proc.toNat (fun _ => 0) }) else (0, { S with tk := upd S.tk th.toNat none, ls := upd S.ls th.toNat [], got := upd S.got th.toNat 0 }) by simp [endS, hth, hx]]
      obtain ⟨S1, hS1⟩ : ∃ S1 : St, ({ S with tk := upd S.tk th.toNat none, ls := upd S.ls th.toNat [], got := upd S.got th.toNat 0 } : St) = S1 := ⟨_, rfl⟩
      rw [show ({ S with tk := upd S.tk th.toNat none, ls := upd (upd S.ls th.toNat []) (256 + x.proc.toNat) [], got := upd S.got th.toNat 0, ac := upd S.ac x.proc.toNat (fun _ => 0) } : St) = { S1 with ac := upd S1.ac x.proc.toNat (fun _ => 0), ls := upd S1.ls (256 + x.proc.toNat) [] } by rw [← hS1]]
      rw [hS1]
      have HS1 := Lib.hid hS1
      clear h hin hx hpb hbc hth hS1
      cases hem : (threads S1 x.proc).isEmpty
      all_goals
        rw [apply_ite Prod.fst, apply_ite Prod.snd]
        first
          | rw [if_pos rfl, if_pos rfl]
          | rw [if_neg Bool.false_ne_true, if_neg Bool.false_ne_true]
        have HEM := Lib.hid hem
        clear hem
        go_enter Try.func42, Try.ntmps42
        go_wp2_with (go_at_call 29; refine HST.out.mono ?_; rw [HPB.out, HX.out]; simp only [pv, Option.map_some, Option.isSome_some, if_true]; rintro e w' ⟨rfl, rfl⟩)
        go_region
        have hA1 := H.out.1.gone (show th.toNat < 256 by omega)
        have hA2 := hA1.setGot th.toNat (3968 + th.toNat) (by omega) rfl 0
        have hF := (H.out.1.frT th.toNat (.pointer none)).trans (hA1.frT (3968 + th.toNat) (.int .i64 0))
        have cb1 : ((w.setCell ⟨t, th.toNat, none⟩ (.pointer none)).setCell ⟨t, 3968 + th.toNat, none⟩ (.int .i64 0)).drew.cell? ⟨bb, 0, none⟩ = some (.int .i64 x.proc) := by
          exact (World.cell?_of_block (w := w) (w' := ((w.setCell ⟨t, th.toNat, none⟩ (.pointer none)).setCell ⟨t, 3968 + th.toNat, none⟩ (.int .i64 0)).drew) (a := ⟨bb, 0, none⟩) ((Below.heap_setCell (w.setCell ⟨t, th.toNat, none⟩ (.pointer none)) ⟨t, 3968 + th.toNat, none⟩ _ bb hne).trans (Below.heap_setCell w ⟨t, th.toNat, none⟩ _ bb hne))).trans c0
        have hA3 := hA2.heap (w' := ((w.setCell ⟨t, th.toNat, none⟩ (.pointer none)).setCell ⟨t, 3968 + th.toNat, none⟩ (.int .i64 0)).drew) rfl
        have hF3 : Fr base TS w (((w.setCell ⟨t, th.toNat, none⟩ (.pointer none)).setCell ⟨t, 3968 + th.toNat, none⟩ (.int .i64 0)).drew) := hF.trans (Fr.of_heap rfl rfl rfl rfl)
        clear hA1 hA2 hF c0 f1 f2 c2 hc
        generalize ((w.setCell ⟨t, th.toNat, none⟩ (.pointer none)).setCell ⟨t, 3968 + th.toNat, none⟩ (.int .i64 0)).drew = W1 at *
        have HR1 := Lib.hid hA3
        have HF1 := Lib.hid hF3
        rw [HS1.out] at HR1
        clear hA3 hF3
        have cbb := World.block_lt_of_cell? _ _ cb1
      · go_wp2_with (go_at_call 30; refine (threads_calls x.proc W1 HR1.out).mono ?_; rintro e w2 ⟨v2, rfl, hown, hb2⟩; have HN : Hid (Ns w2 v2 (threads S1 x.proc)) := Lib.hid (Rw.of_own hown); have HB2 := Lib.hid hb2; clear hown hb2; obtain ⟨A2, c2, rfl, _⟩ := HN.out.at; have hl0 : ((threads S1 x.proc).length == 0) = false := (by have := HEM.out; cases hq : threads S1 x.proc <;> simp_all))
        go_ret
        exact ⟨rfl, ⟨_, HR1.out.below HB2.out⟩, HF1.out.trans (Fr.of_below HB2.out HR1.out.base_lt)⟩
      · have hl0 : threads S1 x.proc = [] := List.isEmpty_iff.1 HEM.out
        have hfb := HR1.out.frozenT
        have hcb := HR1.out.cellT
        have htl := HR1.out.lt
        go_wp2_with (go_at_call 30; refine (threads_calls x.proc W1 HR1.out).mono ?_; rw [hl0]; rintro e w2 ⟨v2, rfl, hown, hb2⟩; have HN : Hid (Ns w2 v2 []) := Lib.hid (Rw.of_own hown); have HB2 := Lib.hid hb2; clear hown hb2; obtain ⟨A2, c2, rfl, _⟩ := HN.out.at)
        have cb2 := (HB2.out.cell (p := ⟨bb, 0, none⟩) cbb).trans cb1
        have hb73 := built73
        have hpn : (x.proc : Int) < 64 := hp1
        go_still_tail 9, (by kernel_rfl)
        have hR2 := (HR1.out.below HB2.out).heap (w' := w2.drew) rfl
        refine wpList_store_mid rfl 73 (.tmp 42) (.tmp 39) rfl t (256 + x.proc.toNat * 58) z58 rfl rfl (by rw [z58_size]; exact there_tab hR2 _ _ (by omega)) (by rw [z58_size]; exact size73) z58_one ?_
        have hA := wipe_after hR2 (show x.proc.toNat < 64 by omega)
        have HA := Lib.hid hA
        clear hA hR2 hb73
        go_wp2
        go_ret
        exact ⟨rfl, HA.out.1, (HF1.out.trans ((Fr.of_below HB2.out HR1.out.base_lt).trans (Fr.of_heap (w' := w2.drew) rfl rfl rfl rfl))).trans HA.out.2⟩
end Go.Proofs.Ytbpihfphoniclaa
