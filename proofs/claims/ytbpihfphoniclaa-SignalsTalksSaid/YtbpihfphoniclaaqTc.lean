/- The reference's Kill: where nothing is sent. -/
import Derived.Test.YtbpihfphoniclaaqTb
import Derived.Test.YtbpihfphoniclaaC5
namespace Go.Proofs.Ytbpihfphoniclaa
open Go.RowKit
set_option linter.unusedVariables false
theorem empty_rw (X : World) : Rw (X.alloc (.cells #[] 127)) 127 2 (.slice (some ⟨X.heap.size, 0, none⟩) 0 0) 0 [] :=
  ⟨rfl, .inr ⟨X.heap.size, 0, #[], rfl, heap_alloc_new X _, Nat.le_refl _, Nat.zero_le _, Nat.zero_le _, rfl⟩⟩
theorem src_cells {X : World} {A : Option Addr} {n c : Nat} {l : List Pd} (h : Rw X 127 2 (.slice A n c) l.length (pcells l)) : ∀ ad, A = some ad → ∀ j u, (pcells l)[j]? = some u → X.cell? (ad.add j) = some u := by
  intro ad had j u hu
  obtain ⟨A', c', e, _, _, _, hf⟩ := h.form
  cases e
  obtain ⟨g, rfl, _, hg⟩ := hf ad had
  rw [add_at, Nat.zero_add]
  exact hg j u hu
theorem src_none {X : World} {A : Option Addr} {n c : Nat} {l : List Pd} (h : Rw X 127 2 (.slice A n c) l.length (pcells l)) : A = none → n = 0 := by
  intro hA
  obtain ⟨A', c', e, _, _, hn, _⟩ := h.form
  cases e
  exact (hn hA).1
theorem first_append {X w5 : World} {v5 : Value} {l : List Pd} (hr : Rw w5 127 2 v5 (0 + l.length) ([] ++ pcells l)) (hg : (X.alloc (.cells #[] 127)).grownBy w5 (Value.ownBlock (.slice (some ⟨X.heap.size, 0, none⟩) 0 0)))
    (ho : v5.ownBlock = Value.ownBlock (.slice (some ⟨X.heap.size, 0, none⟩) 0 0) ∨ v5.ownBlock = some (X.alloc (.cells #[] 127)).heap.size) : Fresh X v5 l w5 := by
  rw [Nat.zero_add, List.nil_append] at hr
  have hb : Below X.heap.size X (X.alloc (.cells #[] 127)) := (Below.refl _ _).alloc (Nat.le_refl _) _
  refine ⟨hr, hb.grown hg hb.size (fun g h => ?_), fun g h => ?_⟩
  · cases h; exact Nat.le_refl _
  · rcases ho with e | e
    · rw [e] at h; cases h; exact Nat.le_refl _
    · rw [e] at h; cases h; simp
theorem second_append {X w5 w6 : World} {A : Option Addr} {c : Nat} {v6 a b : Value} {x y : Int} {l : List Pd} (hf : Fresh X (.slice A l.length c) l w5) (hr : Rw w6 127 2 v6 (l.length + 1) (pcells l ++ [.int .i64 x, .int .i64 y])) (hg : (w5.alloc (.cells #[a, b] 127)).grownBy w6 (Value.ownBlock (.slice A l.length c)))
    (ho : v6.ownBlock = Value.ownBlock (.slice A l.length c) ∨ v6.ownBlock = some (w5.alloc (.cells #[a, b] 127)).heap.size) : Fresh X v6 (l ++ [(x, y)]) w6 := by
  have hb := hf.2.1.alloc hf.2.1.size (.cells #[a, b] 127)
  refine ⟨?_, hb.grown hg hb.size (fun g h => hf.2.2 g h), fun g h => ?_⟩
  · unfold Ls
    rw [List.length_append, pcells_append]
    exact hr
  · rcases ho with e | e
    · rw [e] at h; exact hf.2.2 g h
    · rw [e] at h; cases h
      have := hf.2.1.size
      simp; omega
def RKillPost (t : Nat) (r : (List (Int × Int × Int) × Int) × St) (w : World) (e : Ending) (w' : World) : Prop :=
  ∃ v, e = .returned (.tuple #[v, .int .i64 r.1.2]) ∧ Wk w' v r.1.1 ∧ RAfter t r.2 w w'
theorem wk_empty (X : World) : Wk (X.alloc (.cells #[] 88)) (.slice (some ⟨X.heap.size, 0, none⟩) 0 0) [] :=
  ⟨rfl, .inr ⟨X.heap.size, 0, #[], rfl, heap_alloc_new X _, Nat.le_refl _, Nat.zero_le _, Nat.zero_le _, rfl⟩⟩
theorem wk_emptyg (X : World) (g : Nat) (h : X.heap.size = g) : Wk (X.alloc (.cells #[] 88)) (.slice (some ⟨g, 0, none⟩) 0 0) [] := by
  subst h
  exact wk_empty X
theorem Fresh.slice {X w6 : World} {v6 : Value} {l : List Pd} (h : Fresh X v6 l w6) : ∃ A n c, v6 = .slice A n c := by
  obtain ⟨A, c, e, _⟩ := h.1.at
  exact ⟨A, _, c, e⟩
theorem RAfter.alloc {w X : World} {t : Nat} {S : St} (h : RAfter t S w X) (o : Obj) : RAfter t S w (X.alloc o) := by
  obtain ⟨⟨L, h1⟩, h2⟩ := h
  have hb : Below X.heap.size X (X.alloc o) := (Below.refl _ _).alloc (Nat.le_refl _) o
  exact ⟨⟨L, h1.below hb⟩, h2.trans (grown_below hb)⟩
theorem RAfter.then {w X Y : World} {t : Nat} {S S' : St} (h : w.grownBy X (some t)) (h2 : RAfter t S' X Y) : RAfter t S' w Y := ⟨h2.1, h.trans h2.2⟩
theorem slotT {W : World} {t : Nat} {L : RLay} {S : St} (h : RRepL W t L S) {i : Nat} (hi : i < 256) :
    ∃ A c, W.cell? ⟨t, i * 7 + 3, none⟩ = some (.slice A (S.ls i).length c) ∧ W.frozen? ⟨t, i * 7 + 3, none⟩ = false ∧ Ls W 127 (.slice A (S.ls i).length c) (S.ls i) := by
  obtain ⟨A, c, e, _⟩ := (h.row i (by omega)).at
  have c3 : W.cell? ⟨t, i * 7 + 3, none⟩ = some (L.lv i) := h.cell_task i 3 hi (by omega)
  have hr := h.row i (by omega)
  rw [e] at c3 hr
  exact ⟨A, c, c3, h.frozenR _, hr⟩
theorem slotP {W : World} {t : Nat} {L : RLay} {S : St} (h : RRepL W t L S) {p : Nat} (hp : p < 64) :
    ∃ A c, W.cell? ⟨t, 1792 + p * 58, none⟩ = some (.slice A (S.ls (256 + p)).length c) ∧ W.frozen? ⟨t, 1792 + p * 58, none⟩ = false ∧ Ls W 127 (.slice A (S.ls (256 + p)).length c) (S.ls (256 + p)) := by
  obtain ⟨A, c, e, _⟩ := (h.row (256 + p) (by omega)).at
  have c3 := h.cell_list p hp
  have hr := h.row (256 + p) (by omega)
  rw [e] at c3 hr
  exact ⟨A, c, c3, h.frozenR _, hr⟩
theorem has_true {S : St} {p : Int} (hl : threads S p ≠ []) : (!(threads S p).isEmpty) = true := by
  cases hq : threads S p with
  | nil => exact absurd hq hl
  | cons a l => rfl
theorem sg_true {s : Int} (hs : ¬ s < 1) (hs2 : ¬ 56 < s) : isSg s = true := by unfold isSg; simp; omega
set_option maxRecDepth 100000 in
theorem rkill_range {t : Nat} {L : RLay} {S : St} (th p s v : Int) (w : World) (h : RRepL w t L S) (hbad : (th ≠ -1 ∧ isTh th = false) ∨ isPr p = false) :
    Calls Try.prog 49 #[.pointer (some ⟨t, 0, none⟩), .int .i64 th, .int .i64 p, .int .i64 s, .int .i64 v] w fun e w' => RKillPost t (([], 34), S) w e w' := by
  have HA := Lib.hid (RAfter.refl h)
  have hc : (th ≠ -1 ∧ isTh th = false) ∨ (th = -1 ∧ isPr p = false) ∨ (th ≠ -1 ∧ isTh th = true ∧ isPr p = false) := by
    by_cases e : th = -1
    · rcases hbad with h | h
      · exact absurd e h.1
      · exact .inr (.inl ⟨e, h⟩)
    · cases hq : isTh th
      · exact .inl ⟨e, rfl⟩
      · rcases hbad with h | h
        · rw [hq] at h; cases h.2
        · exact .inr (.inr ⟨e, rfl, h⟩)
  clear hbad h
  rcases hc with ⟨e, h1⟩ | ⟨rfl, h1⟩ | ⟨e, h0, h1⟩
  · have b1 : (th != -1) = true := by simpa using e
    have H1 := Lib.hid h1
    clear h1 e
    go_enter Try.func49, Try.ntmps49
    go_wp2_with (go_at_call 63; refine (rthread_calls th _).mono ?_; rw [H1.out]; rintro e w' ⟨rfl, rfl⟩)
    go_ret2
    exact ⟨_, rfl, wk_nil _, HA.out⟩
  · have H1 := Lib.hid h1
    clear h1
    go_enter Try.func49, Try.ntmps49
    go_wp2_with (go_at_call 64; refine (rprocess_calls p _).mono ?_; rw [H1.out]; rintro e w' ⟨rfl, rfl⟩)
    go_ret2
    exact ⟨_, rfl, wk_nil _, HA.out⟩
  · have b1 : (th != -1) = true := by simpa using e
    have H1 := Lib.hid h1
    have H0 := Lib.hid h0
    clear h1 h0 e
    go_enter Try.func49, Try.ntmps49
    go_wp2_with (first
      | (go_at_call 63; refine (rthread_calls th _).mono ?_; rw [H0.out]; rintro e w' ⟨rfl, rfl⟩)
      | (go_at_call 64; refine (rprocess_calls p _).mono ?_; rw [H1.out]; rintro e w' ⟨rfl, rfl⟩))
    go_ret2
    exact ⟨_, rfl, wk_nil _, HA.out⟩
set_option maxRecDepth 100000 in
theorem rkill_invalid {t : Nat} {L : RLay} {S : St} (th p s v : Int) (w : World) (h : RRepL w t L S) (hth : th = -1 ∨ isTh th = true) (hp : isPr p = true) (hs : s < 1 ∨ 56 < s) :
    Calls Try.prog 49 #[.pointer (some ⟨t, 0, none⟩), .int .i64 th, .int .i64 p, .int .i64 s, .int .i64 v] w fun e w' => RKillPost t (([], 14), S) w e w' := by
  have HA := Lib.hid (RAfter.refl h)
  have HP := Lib.hid hp
  have HSG : Hid (isSg s = false) := Lib.hid (by unfold isSg; simp; omega)
  clear h hp hs
  rcases hth with rfl | hth
  · go_enter Try.func49, Try.ntmps49
    go_wp2_with (first
      | (go_at_call 64; refine (rprocess_calls p _).mono ?_; rw [HP.out]; rintro e w' ⟨rfl, rfl⟩)
      | (go_at_call 66; refine (rsignal_calls s _).mono ?_; rw [HSG.out]; rintro e w' ⟨rfl, rfl⟩))
    go_ret2
    exact ⟨_, rfl, wk_nil _, HA.out⟩
  · have b1 : (th != -1) = true := by have := (isTh_iff.1 hth).1; simp; omega
    have H0 := Lib.hid hth
    clear hth
    go_enter Try.func49, Try.ntmps49
    go_wp2_with (first
      | (go_at_call 63; refine (rthread_calls th _).mono ?_; rw [H0.out]; rintro e w' ⟨rfl, rfl⟩)
      | (go_at_call 64; refine (rprocess_calls p _).mono ?_; rw [HP.out]; rintro e w' ⟨rfl, rfl⟩)
      | (go_at_call 66; refine (rsignal_calls s _).mono ?_; rw [HSG.out]; rintro e w' ⟨rfl, rfl⟩))
    go_ret2
    exact ⟨_, rfl, wk_nil _, HA.out⟩
set_option maxRecDepth 100000 in
theorem rkill_noproc {t : Nat} {L : RLay} {S : St} (th p s v : Int) (w : World) (h : RRepL w t L S) (hth : th = -1 ∨ isTh th = true) (hp : isPr p = true) (hs : ¬ s < 1) (hs2 : ¬ 56 < s) (hbad : (th ≠ -1 ∧ th.toNat ∉ threads S p) ∨ threads S p = []) :
    Calls Try.prog 49 #[.pointer (some ⟨t, 0, none⟩), .int .i64 th, .int .i64 p, .int .i64 s, .int .i64 v] w fun e w' => RKillPost t (([], 24), S) w e w' := by
  have HA := Lib.hid (RAfter.refl h)
  have HP := Lib.hid hp
  have HSG := Lib.hid (sg_true hs hs2)
  clear hp hs hs2
  rcases hth with rfl | hth
  · have hl : threads S p = [] := by
      rcases hbad with h | h
      · exact absurd rfl h.1
      · exact h
    have HAS := rhas_calls p w h
    rw [hl] at HAS
    have HAS := Lib.hid HAS
    clear h hl hbad
    go_enter Try.func49, Try.ntmps49
    go_wp2_with (first
      | (go_at_call 64; refine (rprocess_calls p _).mono ?_; rw [HP.out]; rintro e w' ⟨rfl, rfl⟩)
      | (go_at_call 66; refine (rsignal_calls s _).mono ?_; rw [HSG.out]; rintro e w' ⟨rfl, rfl⟩)
      | (go_at_call 65; refine HAS.out.mono ?_; rintro e w' ⟨rfl, rfl⟩))
    go_ret2
    exact ⟨_, rfl, wk_nil _, HA.out⟩
  · obtain ⟨t0, t1⟩ := isTh_iff.1 hth
    have b1 : (th != -1) = true := by simp; omega
    have b2 : (th == -1) = false := by simp; omega
    have hno : th.toNat ∉ threads S p := by
      rcases hbad with h | h
      · exact h.2
      · rw [h]; simp
    have H0 := Lib.hid hth
    have c0 : w.cell? ⟨t, th.toNat * 7, none⟩ = some (.bool (S.tk th.toNat).isSome) := h.cell_task th.toNat 0 (by omega) (by omega)
    have c1 : w.cell? ⟨t, th.toNat * 7 + 1, none⟩ = some (.int .i64 (match S.tk th.toNat with | some x => x.proc | none => 0)) := h.cell_task th.toNat 1 (by omega) (by omega)
    cases hx : S.tk th.toNat with
    | none =>
      rw [hx] at c0 c1
      have c0' : w.cell? ⟨t, th.toNat * 7, none⟩ = some (.bool false) := c0
      clear h hth hbad hno hx c0 c1
      go_enter Try.func49, Try.ntmps49
      go_wp2_with (first
        | (go_at_call 63; refine (rthread_calls th _).mono ?_; rw [H0.out]; rintro e w' ⟨rfl, rfl⟩)
        | (go_at_call 64; refine (rprocess_calls p _).mono ?_; rw [HP.out]; rintro e w' ⟨rfl, rfl⟩)
        | (go_at_call 66; refine (rsignal_calls s _).mono ?_; rw [HSG.out]; rintro e w' ⟨rfl, rfl⟩))
      go_ret2
      exact ⟨_, rfl, wk_nil _, HA.out⟩
    | some x =>
      rw [hx] at c0 c1
      have c0' : w.cell? ⟨t, th.toNat * 7, none⟩ = some (.bool true) := c0
      have c1' : w.cell? ⟨t, th.toNat * 7 + 1, none⟩ = some (.int .i64 x.proc) := c1
      have hpb : (x.proc != p) = true := by
        simp only [bne_iff_ne, ne_eq]
        intro e
        exact hno (mem_threads.2 ⟨by omega, x, hx, e⟩)
      clear h hth hbad hno hx c0 c1
      go_enter Try.func49, Try.ntmps49
      go_wp2_with (first
        | (go_at_call 63; refine (rthread_calls th _).mono ?_; rw [H0.out]; rintro e w' ⟨rfl, rfl⟩)
        | (go_at_call 64; refine (rprocess_calls p _).mono ?_; rw [HP.out]; rintro e w' ⟨rfl, rfl⟩)
        | (go_at_call 66; refine (rsignal_calls s _).mono ?_; rw [HSG.out]; rintro e w' ⟨rfl, rfl⟩))
      go_ret2
      exact ⟨_, rfl, wk_nil _, HA.out⟩
end Go.Proofs.Ytbpihfphoniclaa
namespace Go.Proofs.Ytbpihfphoniclaa
open Go.RowKit
set_option linter.unusedVariables false
set_option maxHeartbeats 4000000 in
set_option maxRecDepth 100000 in
theorem rkill_any_wake {t : Nat} {L : RLay} {S : St} (p s v to : Int) (w : World) (h : RRepL w t L S) (hin : Inv S 1000) (hp : isPr p = true) (hs : ¬ s < 1) (hs2 : ¬ 56 < s) (hl : threads S p ≠ []) (hch : choose S (threads S p) s = to) (hm : to.toNat ∈ threads S p) (h0 : 0 ≤ to) (h1 : to < 256) (x : Tk) (hx : S.tk to.toNat = some x)
    (hxw : x.waits = true) (hxs : hasB x.wants s = true) :
    Calls Try.prog 49 #[.pointer (some ⟨t, 0, none⟩), .int .i64 (-1), .int .i64 p, .int .i64 s, .int .i64 v] w fun e w' =>
      RKillPost t (([(to, 0, v)], 0), { opposite S p.toNat s with tk := upd S.tk to.toNat (some { x with waits := false }), got := upd S.got to.toNat s }) w e w' := by
  obtain ⟨p0, p1⟩ := isPr_iff.1 hp
  have HP := Lib.hid hp
  have HSG := Lib.hid (sg_true hs hs2)
  have H := Lib.hid (And.intro h hin)
  have htl := h.lt
  have HLN := Lib.hid hin.len
  have HBIT : Hid (∀ W : World, Calls Try.prog 69 #[.int .i64 s] W fun e w' => e = .returned (.int .u64 ((2 ^ (s - 1).toNat : Nat) : Int)) ∧ w' = W) := Lib.hid fun W => rbit_same s W (by omega) (by omega)
  have HIG : Hid (∀ (W : World) (L' : RLay) (S' : St), RRepL W t L' S' → S'.ac = S.ac → Calls Try.prog 67 #[.pointer (some ⟨t, 0, none⟩), .int .i64 p, .int .i64 s] W fun e w' => e = .returned (.bool (ignored S p.toNat s)) ∧ W = w') := Lib.hid fun W L' S' h' ha => by
    rw [← ignored_ac ha]
    exact rignored_calls p s W h' hp (by omega) (by omega)
  obtain ⟨hset, hwn⟩ := h.sets to.toNat (by omega)
  have hlt2 : 2 ^ (s - 1).toNat < 18446744073709551616 := Nat.lt_of_lt_of_le (Nat.pow_lt_pow_right (by omega) (show (s - 1).toNat < 64 by omega)) (by decide)
  have hand : bits .and .u64 ((L.set to.toNat : Nat) : Int) ((2 ^ (s - 1).toNat : Nat) : Int) = ((L.set to.toNat &&& 2 ^ (s - 1).toNat : Nat) : Int) := u64_and_nat _ _ hset hlt2
  have hzb : (((L.set to.toNat &&& 2 ^ (s - 1).toNat : Nat) : Int) != 0) = (L.set to.toNat).testBit (s - 1).toNat := and_pow _ _
  generalize (L.set to.toNat &&& 2 ^ (s - 1).toNat) = z at *
  generalize ((2 ^ (s - 1).toNat : Nat) : Int) = bt at *
  have HF : Hid (∀ W, Below w.heap.size w W → W.cell? ⟨t, to.toNat * 7 + 4, none⟩ = some (.bool x.waits) ∧ W.cell? ⟨t, to.toNat * 7 + 5, none⟩ = some (.int .u64 ((L.set to.toNat : Nat) : Int)) ∧ RRepL W t L S) := Lib.hid fun W hB => by
    have hW := h.below hB
    refine ⟨?_, hW.cell_task to.toNat 5 (by omega) (by omega), hW⟩
    have c4 := hW.cell_task to.toNat 4 (by omega) (by omega)
    unfold rtask at c4
    rw [hx] at c4
    exact c4
  have HAS := rhas_calls p w h
  rw [has_true hl] at HAS
  have HAS := Lib.hid HAS
  have HRC := rreceiver_calls p s w h hin (by omega) (by omega)
  rw [hch] at HRC
  have HRC := Lib.hid HRC
  have hz : ((z : Int) != 0) = true := by rw [hzb, ← has_and _ (by omega) (by omega), hwn x hx hxw, hxs]
  rw [hxw] at HF
  have HX := Lib.hid hx
  have HXP : Hid (x.proc = p) := Lib.hid (by
    obtain ⟨_, y, hy, hyp⟩ := mem_threads.1 hm
    rw [hx] at hy
    cases hy
    exact hyp)
  clear h hin hp hl hzb hset hwn hlt2 hxw hxs hx hm hch
  have hs3 : s = 18 ∨ s = 19 ∨ (¬ s = 18 ∧ ¬ s = 19) := by omega
  have HWK : Hid (∀ (W : World) (L' : RLay), RRepL W t L' (opposite S p.toNat s) → w.grownBy W (some t) → W.frozen? ⟨t, to.toNat * 7 + 4, none⟩ = false ∧ W.frozen? ⟨t, to.toNat * 7 + 5, none⟩ = false ∧ W.frozen? ⟨t, to.toNat * 7 + 6, none⟩ = false ∧
      W.cell? ⟨t, to.toNat * 7 + 4, none⟩ = some (rtask L' (opposite S p.toNat s) to.toNat 4) ∧ W.cell? ⟨t, to.toNat * 7 + 5, none⟩ = some (rtask L' (opposite S p.toNat s) to.toNat 5) ∧ W.cell? ⟨t, to.toNat * 7 + 6, none⟩ = some (rtask L' (opposite S p.toNat s) to.toNat 6) ∧
      RAfter t { opposite S p.toNat s with tk := upd S.tk to.toNat (some { x with waits := false }), got := upd S.got to.toNat s } w ((((W.setCell ⟨t, to.toNat * 7 + 4, none⟩ (.bool false)).setCell ⟨t, to.toNat * 7 + 5, none⟩ (.int .u64 0)).setCell ⟨t, to.toNat * 7 + 6, none⟩ (.int .i64 s)).drew)) := Lib.hid fun W L' hr hg => by
    refine ⟨hr.frozenR _, hr.frozenR _, hr.frozenR _, hr.cell_task _ 4 (by omega) (by omega), hr.cell_task _ 5 (by omega) (by omega), hr.cell_task _ 6 (by omega) (by omega), ?_⟩
    have h2 := (hr.put_wait2 (show to.toNat < 256 by omega) (x := x) (by rw [opposite_tk]; exact HX.out) false 0 x.wants (by omega) (fun h => by cases h)).put_got (show to.toNat < 256 by omega) s
    rw [opposite_tk, opposite_got] at h2
    exact ⟨⟨_, h2.drew⟩, hg.trans ((((grown_set _ _ _ _).trans (grown_set _ _ _ _)).trans (grown_set _ _ _ _)).trans (grown_drew _ _))⟩
  have HOP : Hid ((s = 18 → opposite S p.toNat s = forget S p.toNat 19) ∧ (s = 19 → opposite S p.toNat s = forget S p.toNat 18) ∧ (¬ s = 18 → ¬ s = 19 → opposite S p.toNat s = S)) := Lib.hid ⟨fun e => by unfold opposite; rw [if_pos e], fun e => by unfold opposite; rw [if_neg (by omega), if_pos e], fun e1 e2 => by unfold opposite; rw [if_neg e1, if_neg e2]⟩
  generalize opposite S p.toNat s = S1 at *
  go_enter Try.func49, Try.ntmps49
  go_wp2_with (first
    | (go_at_call 64; refine (rprocess_calls p _).mono ?_; rw [HP.out]; rintro e w' ⟨rfl, rfl⟩)
    | (go_at_call 66; refine (rsignal_calls s _).mono ?_; rw [HSG.out]; rintro e w' ⟨rfl, rfl⟩)
    | (go_at_call 65; refine HAS.out.mono ?_; rintro e w' ⟨rfl, rfl⟩)
    | (go_at_call 70; refine HRC.out.mono ?_; rintro e w1 ⟨rfl, hb1⟩; have HB1 := Lib.hid hb1; clear hb1; obtain ⟨k4, k5, -⟩ := HF.out _ HB1.out))
  (with_reducible refine wp_region_quiet_lit (by kernel_rfl) (by kernel_rfl) ?_)
  repeat (first
    | ((with_reducible refine wpQuiet_step (fun K hK => ?_)); have HK := Lib.hid hK; clear hK; go_simp; first
        | ((with_reducible refine HK.out _ ?_); clear HK K)
        | (apply Exists.intro; refine ⟨fun _ => ?_, HK.out _ ?_⟩; (go_at_call 69; exact Calls.quiet_of_same (HBIT.out _)); clear HK K)))
  refine wpQuiet_nil ?_
  intro _ hw'
  obtain ⟨nq, hw''⟩ := hw'
  subst hw''
  have HB2 := Lib.hid (below_drewN HB1.out nq)
  obtain ⟨-, -, hr2⟩ := HF.out _ HB2.out
  have HR2 := Lib.hid hr2
  clear hr2 k4 k5
  generalize w1.drewN nq = w2 at *
  have hthn : (0 : Int) ≤ to := h0
  have HA3 := Lib.hid (And.intro HR2.out (grown_below (t := t) HB2.out))
  rcases hs3 with rfl | rfl | ⟨n18, n19⟩
  all_goals
    first
      | have HO := Lib.hid (HOP.out.1 rfl)
      | have HO := Lib.hid (HOP.out.2.1 rfl)
      | (have HO := Lib.hid (HOP.out.2.2 n18 n19); have b18 : (s == 18) = false := by simpa using n18)
    try (have b19 : (s == 19) = false := by simpa using n19)
    try (have HX : S1 = S := HO.out; subst HX)
    go_wp2_with (first
      | (go_at_call 68; refine (rdiscard_calls p _ _ HR2.out HLN.out p0 p1).mono ?_; rw [← HO.out]; rintro e w3 ⟨rfl, ⟨L3, h3⟩, hg3⟩; replace HA3 := Lib.hid (And.intro h3 ((grown_below HB2.out).trans hg3)); clear h3 hg3))
    obtain ⟨f4, f5, f6, q4, q5, q6, hwa⟩ := HWK.out _ _ HA3.out.1 HA3.out.2
    have HWA := Lib.hid hwa
    clear hwa
    go_region
    go_wp2
    go_ret2
    exact ⟨_, rfl, wk_of (alloc_new_at (by simp [World.setCell]) _), RAfter.alloc HWA.out _⟩
end Go.Proofs.Ytbpihfphoniclaa
namespace Go.Proofs.Ytbpihfphoniclaa
open Go.RowKit
set_option linter.unusedVariables false
set_option maxHeartbeats 4000000 in
set_option maxRecDepth 100000 in
theorem rkill_thread_wake {t : Nat} {L : RLay} {S : St} (to p s v : Int) (w : World) (h : RRepL w t L S) (hin : Inv S 1000) (hp : isPr p = true) (hs : ¬ s < 1) (hs2 : ¬ 56 < s) (hl : threads S p ≠ []) (hm : to.toNat ∈ threads S p) (h0 : 0 ≤ to) (h1 : to < 256) (x : Tk) (hx : S.tk to.toNat = some x)
    (hxw : x.waits = true) (hxs : hasB x.wants s = true) :
    Calls Try.prog 49 #[.pointer (some ⟨t, 0, none⟩), .int .i64 to, .int .i64 p, .int .i64 s, .int .i64 v] w fun e w' =>
      RKillPost t (([(to, 0, v)], 0), { opposite S p.toNat s with tk := upd S.tk to.toNat (some { x with waits := false }), got := upd S.got to.toNat s }) w e w' := by
  obtain ⟨p0, p1⟩ := isPr_iff.1 hp
  have HP := Lib.hid hp
  have HSG := Lib.hid (sg_true hs hs2)
  have H := Lib.hid (And.intro h hin)
  have htl := h.lt
  have HLN := Lib.hid hin.len
  have HBIT : Hid (∀ W : World, Calls Try.prog 69 #[.int .i64 s] W fun e w' => e = .returned (.int .u64 ((2 ^ (s - 1).toNat : Nat) : Int)) ∧ w' = W) := Lib.hid fun W => rbit_same s W (by omega) (by omega)
  have HIG : Hid (∀ (W : World) (L' : RLay) (S' : St), RRepL W t L' S' → S'.ac = S.ac → Calls Try.prog 67 #[.pointer (some ⟨t, 0, none⟩), .int .i64 p, .int .i64 s] W fun e w' => e = .returned (.bool (ignored S p.toNat s)) ∧ W = w') := Lib.hid fun W L' S' h' ha => by
    rw [← ignored_ac ha]
    exact rignored_calls p s W h' hp (by omega) (by omega)
  obtain ⟨hset, hwn⟩ := h.sets to.toNat (by omega)
  have hlt2 : 2 ^ (s - 1).toNat < 18446744073709551616 := Nat.lt_of_lt_of_le (Nat.pow_lt_pow_right (by omega) (show (s - 1).toNat < 64 by omega)) (by decide)
  have hand : bits .and .u64 ((L.set to.toNat : Nat) : Int) ((2 ^ (s - 1).toNat : Nat) : Int) = ((L.set to.toNat &&& 2 ^ (s - 1).toNat : Nat) : Int) := u64_and_nat _ _ hset hlt2
  have hzb : (((L.set to.toNat &&& 2 ^ (s - 1).toNat : Nat) : Int) != 0) = (L.set to.toNat).testBit (s - 1).toNat := and_pow _ _
  generalize (L.set to.toNat &&& 2 ^ (s - 1).toNat) = z at *
  generalize ((2 ^ (s - 1).toNat : Nat) : Int) = bt at *
  have HF : Hid (∀ W, Below w.heap.size w W → W.cell? ⟨t, to.toNat * 7 + 4, none⟩ = some (.bool x.waits) ∧ W.cell? ⟨t, to.toNat * 7 + 5, none⟩ = some (.int .u64 ((L.set to.toNat : Nat) : Int)) ∧ RRepL W t L S) := Lib.hid fun W hB => by
    have hW := h.below hB
    refine ⟨?_, hW.cell_task to.toNat 5 (by omega) (by omega), hW⟩
    have c4 := hW.cell_task to.toNat 4 (by omega) (by omega)
    unfold rtask at c4
    rw [hx] at c4
    exact c4
  have hthb : isTh to = true := isTh_iff.2 ⟨h0, h1⟩
  have HTH := Lib.hid hthb
  have b1 : (to != -1) = true := by simp; omega
  have b2 : (to == -1) = false := by simp; omega
  have c0 : w.cell? ⟨t, to.toNat * 7, none⟩ = some (.bool (S.tk to.toNat).isSome) := h.cell_task to.toNat 0 (by omega) (by omega)
  have c1 : w.cell? ⟨t, to.toNat * 7 + 1, none⟩ = some (.int .i64 (match S.tk to.toNat with | some x => x.proc | none => 0)) := h.cell_task to.toNat 1 (by omega) (by omega)
  rw [hx] at c0 c1
  have c0' : w.cell? ⟨t, to.toNat * 7, none⟩ = some (.bool true) := c0
  have c1' : w.cell? ⟨t, to.toNat * 7 + 1, none⟩ = some (.int .i64 x.proc) := c1
  have hpb : (x.proc != p) = false := by
    obtain ⟨_, y, hy, hyp⟩ := mem_threads.1 hm
    rw [hx] at hy
    cases hy
    simpa using hyp
  clear hthb c0 c1
  have hz : ((z : Int) != 0) = true := by rw [hzb, ← has_and _ (by omega) (by omega), hwn x hx hxw, hxs]
  rw [hxw] at HF
  have HX := Lib.hid hx
  have HXP : Hid (x.proc = p) := Lib.hid (by
    obtain ⟨_, y, hy, hyp⟩ := mem_threads.1 hm
    rw [hx] at hy
    cases hy
    exact hyp)
  clear h hin hp hl hzb hset hwn hlt2 hxw hxs hx hm
  have hs3 : s = 18 ∨ s = 19 ∨ (¬ s = 18 ∧ ¬ s = 19) := by omega
  have HWK : Hid (∀ (W : World) (L' : RLay), RRepL W t L' (opposite S p.toNat s) → w.grownBy W (some t) → W.frozen? ⟨t, to.toNat * 7 + 4, none⟩ = false ∧ W.frozen? ⟨t, to.toNat * 7 + 5, none⟩ = false ∧ W.frozen? ⟨t, to.toNat * 7 + 6, none⟩ = false ∧
      W.cell? ⟨t, to.toNat * 7 + 4, none⟩ = some (rtask L' (opposite S p.toNat s) to.toNat 4) ∧ W.cell? ⟨t, to.toNat * 7 + 5, none⟩ = some (rtask L' (opposite S p.toNat s) to.toNat 5) ∧ W.cell? ⟨t, to.toNat * 7 + 6, none⟩ = some (rtask L' (opposite S p.toNat s) to.toNat 6) ∧
      RAfter t { opposite S p.toNat s with tk := upd S.tk to.toNat (some { x with waits := false }), got := upd S.got to.toNat s } w ((((W.setCell ⟨t, to.toNat * 7 + 4, none⟩ (.bool false)).setCell ⟨t, to.toNat * 7 + 5, none⟩ (.int .u64 0)).setCell ⟨t, to.toNat * 7 + 6, none⟩ (.int .i64 s)).drew)) := Lib.hid fun W L' hr hg => by
    refine ⟨hr.frozenR _, hr.frozenR _, hr.frozenR _, hr.cell_task _ 4 (by omega) (by omega), hr.cell_task _ 5 (by omega) (by omega), hr.cell_task _ 6 (by omega) (by omega), ?_⟩
    have h2 := (hr.put_wait2 (show to.toNat < 256 by omega) (x := x) (by rw [opposite_tk]; exact HX.out) false 0 x.wants (by omega) (fun h => by cases h)).put_got (show to.toNat < 256 by omega) s
    rw [opposite_tk, opposite_got] at h2
    exact ⟨⟨_, h2.drew⟩, hg.trans ((((grown_set _ _ _ _).trans (grown_set _ _ _ _)).trans (grown_set _ _ _ _)).trans (grown_drew _ _))⟩
  have HOP : Hid ((s = 18 → opposite S p.toNat s = forget S p.toNat 19) ∧ (s = 19 → opposite S p.toNat s = forget S p.toNat 18) ∧ (¬ s = 18 → ¬ s = 19 → opposite S p.toNat s = S)) := Lib.hid ⟨fun e => by unfold opposite; rw [if_pos e], fun e => by unfold opposite; rw [if_neg (by omega), if_pos e], fun e1 e2 => by unfold opposite; rw [if_neg e1, if_neg e2]⟩
  generalize opposite S p.toNat s = S1 at *
  go_enter Try.func49, Try.ntmps49
  have HB1 := Lib.hid (Below.refl w.heap.size w)
  obtain ⟨k4, k5, -⟩ := HF.out _ HB1.out
  go_wp2_with (first
    | (go_at_call 63; refine (rthread_calls to _).mono ?_; rw [HTH.out]; rintro e w' ⟨rfl, rfl⟩)
    | (go_at_call 64; refine (rprocess_calls p _).mono ?_; rw [HP.out]; rintro e w' ⟨rfl, rfl⟩)
    | (go_at_call 66; refine (rsignal_calls s _).mono ?_; rw [HSG.out]; rintro e w' ⟨rfl, rfl⟩))
  (with_reducible refine wp_region_quiet_lit (by kernel_rfl) (by kernel_rfl) ?_)
  repeat (first
    | ((with_reducible refine wpQuiet_step (fun K hK => ?_)); have HK := Lib.hid hK; clear hK; go_simp; first
        | ((with_reducible refine HK.out _ ?_); clear HK K)
        | (apply Exists.intro; refine ⟨fun _ => ?_, HK.out _ ?_⟩; (go_at_call 69; exact Calls.quiet_of_same (HBIT.out _)); clear HK K)))
  refine wpQuiet_nil ?_
  intro _ hw'
  obtain ⟨nq, hw''⟩ := hw'
  subst hw''
  have HB2 := Lib.hid (below_drewN HB1.out nq)
  obtain ⟨-, -, hr2⟩ := HF.out _ HB2.out
  have HR2 := Lib.hid hr2
  clear hr2 k4 k5
  generalize w.drewN nq = w2 at *
  have hthn : (0 : Int) ≤ to := h0
  have HA3 := Lib.hid (And.intro HR2.out (grown_below (t := t) HB2.out))
  rcases hs3 with rfl | rfl | ⟨n18, n19⟩
  all_goals
    first
      | have HO := Lib.hid (HOP.out.1 rfl)
      | have HO := Lib.hid (HOP.out.2.1 rfl)
      | (have HO := Lib.hid (HOP.out.2.2 n18 n19); have b18 : (s == 18) = false := by simpa using n18)
    try (have b19 : (s == 19) = false := by simpa using n19)
    try (have HX : S1 = S := HO.out; subst HX)
    go_wp2_with (first
      | (go_at_call 68; refine (rdiscard_calls p _ _ HR2.out HLN.out p0 p1).mono ?_; rw [← HO.out]; rintro e w3 ⟨rfl, ⟨L3, h3⟩, hg3⟩; replace HA3 := Lib.hid (And.intro h3 ((grown_below HB2.out).trans hg3)); clear h3 hg3))
    obtain ⟨f4, f5, f6, q4, q5, q6, hwa⟩ := HWK.out _ _ HA3.out.1 HA3.out.2
    have HWA := Lib.hid hwa
    clear hwa
    go_region
    go_wp2
    go_ret2
    exact ⟨_, rfl, wk_of (alloc_new_at (by simp [World.setCell]) _), RAfter.alloc HWA.out _⟩
end Go.Proofs.Ytbpihfphoniclaa
