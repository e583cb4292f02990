import Derived.Test.YtbojagkalbfenaaE1
import Derived.Test.YtbojagkalbfenaaD1
import Derived.Test.YtbojagkalbfenaaG7
import Derived.StillTailTactics
namespace Go.Proofs.Ytbojagkalbfenaa
set_option linter.unusedVariables false
set_option linter.unusedSimpArgs false
open Go.RowKit PIovGather Go.Proofs.YtbojagkalbfenaaW.PrintWords
attribute [local go_sem] ints_get ints_size ints_getElem

theorem results_tmp3 {fn : Func} {p q r : Tmp} (h : fn.results = #[.tmp p, .tmp q, .tmp r]) (tmps : Array Value) (P : Program) (w : World) : (results fn tmps).run P w = .ok (.tuple #[tmps.getD p undef, tmps.getD q undef, tmps.getD r undef]) w := by
  simp [results, h]
theorem setL_snoc : ∀ (ss : List Int) (ms ds : List Value) (k : Nat) (hk : k < ss.length) (hd : k < ds.length), setL ms (ss.take (k + 1)) ds = (setL ms (ss.take k) ds).set (ss[k]'hk).toNat (ds[k]'hd)
  | a :: ss, ms, d :: ds, 0, _, _ => by simp [setL]
  | a :: ss, ms, d :: ds, k + 1, hk, hd => by
    simp only [List.take_succ_cons, setL, List.getElem_cons_succ]
    exact setL_snoc ss _ ds k (by simpa using hk) (by simpa using hd)
theorem addrs_len : ∀ {l : List (Int × Int)}, (∀ p ∈ l, 0 ≤ p.2) → ((addrs l).length : Int) = sumL l
  | [], _ => by simp [addrs, sumL]
  | p :: r, h => by
    have ih := addrs_len (l := r) (fun q hq => h q (List.mem_cons_of_mem _ hq))
    have hp := h p List.mem_cons_self
    simp only [addrs, List.flatMap_cons, List.length_append, seg_length, sumL] at ih ⊢
    omega
theorem addrs_all {n : Nat} {xs : List (Int × Int)} (h : ∀ x ∈ xs, 0 ≤ x.1 ∧ 1 ≤ x.2) (hin : insideB n xs = true) : ∀ a ∈ addrs xs, 0 ≤ a ∧ a < n := by
  have h1 := addrs_inside n xs (fun x hx => (h x hx).2)
  rw [hin, List.all_eq_true] at h1
  intro a ha
  refine ⟨?_, by simpa using h1 a ha⟩
  obtain ⟨x, hx, hy⟩ := List.mem_flatMap.1 ha
  have := seg_mem _ _ a hy
  have := (h x hx).1
  omega
theorem scode_def (nm dl : Nat) (l : List S44) (off : Int) : scode nm dl l off = if chk (prs l) = 0 then (if off < 0 ∨ sumL (prs l) < off then 34 else if insideB nm (slicedL (prs l) off (sN l off dl)) = true then 0 else 11) else chk (prs l) := by
  unfold scode wth
  by_cases h : chk (prs l) = 0
  · rw [if_pos h, if_pos h]
    by_cases g : off < 0 ∨ sumL (prs l) < off
    · rw [if_pos (show off < 0 ∨ (0 : Int) < 0 ∨ sumL (prs l) < off ∨ sumL (prs l) - off < 0 by omega), if_pos g, if_neg (by decide)]
    · rw [if_neg (show ¬ (off < 0 ∨ (0 : Int) < 0 ∨ sumL (prs l) < off ∨ sumL (prs l) - off < 0) by omega), if_neg g, if_pos rfl]
  · rw [if_neg h, if_neg h, if_neg h]

/-- append([]byte{}, bytes...): whatever the bytes' slice is. -/
theorem wpList_append_bytes {ops : Array Oper} {rest : List Oper} {o : Oper} {a : Act} {W : World} {Q : Exit → Act → World → Prop} (hgd : o.guard = none) (s x : Operand)
    (ho : o.op = .call { callee := .builtin .append, args := #[s, x], argTypes := #[22, 22] }) (g : Nat) (hs : a.eval s = .slice (some ⟨g, 0, none⟩) 0 0) (M : Option Addr) (mc : Nat) (ms : List Value) (n : Nat) (hx : a.eval x = .slice M n mc) (hn : n = ms.length)
    (hrow : W.ownsRow g 5 1 (.slice (some ⟨g, 0, none⟩) 0 0) 0 []) (hm : Mem W M ms) (hl : ms.length ≤ 1099511627776) (hg : g ≤ W.heap.size)
    (h : ∀ v' w', w'.ownsRow g 5 1 v' ms.length ms → Below g W w' → wpList Try.prog ops Q rest (a.put o.dst v') w') : wpList Try.prog ops Q (o :: rest) a W := by
  subst hn
  obtain ⟨i0, hi0, hz0, hz1, hz2⟩ := info_parts (P := Try.prog) (e := 5) (z := .int .u8 0) (size := 1) (bytes := 1) (by kernel_rfl)
  by_cases h0 : ms = []
  · subst h0
    refine wpList_plain hgd fun K hK => ?_
    have := hK _ _ (h _ _ hrow (Below.refl _ _))
    unfold Oper.wp
    cases M <;> simp [execOp, ho, resolve, invoke, builtin, hs, hx, Builtin.append, run_underlying Try.underlying22, Result.andThen] <;> exact this
  · obtain ⟨ad, rfl⟩ : ∃ ad, M = some ad := by
      obtain ⟨ad, e, _⟩ := hm.cell 0 (ms[0]'(List.length_pos_iff.2 h0)) (List.getElem?_eq_getElem _)
      exact ⟨ad, e⟩
    refine wpList_append_own _ hgd s x 22 ho g 5 i0 (.int .u8 0) 1 1 Try.underlying22 hi0 hz0 hz1 hz2 rfl (by omega) _ 0 [] hs hrow ad ms.length mc ms hx (by omega) (fun j u hj => by obtain ⟨ad', e, hlt, hc⟩ := hm.cell j u hj; cases e; exact hc) hm.one (by simp only [maxLen]; omega) (by omega) hg ?_
    intro v' w2 hown hgrow _
    exact h v' w2 (by simpa using hown) ((Below.refl _ _).grown hgrow hg (fun k hk => by cases hk; exact Nat.le_refl _))
/-- inside of addresses. -/
theorem inside_at {W : World} {M A : Option Addr} {mc n c : Nat} {ms ss : List Int} {r : Bool} (hM : Kd.C (Kd.int .u8) W M ms.length ms) (hmc : ms.length ≤ mc) (hA : Kd.C (Kd.int .i64) W A n ss) (hc : n ≤ c) (h : orpimentref09_inside.f 70000 ms ss = some r) :
    Calls Try.prog 37 #[.slice M ms.length mc, .slice A n c] W fun e w' => e = .returned (.bool r) ∧ Below W.heap.size W w' := by
  have hn := hA.1
  subst hn
  exact (orpimentref09_inside.calls 70000 M mc ms A c ss r W hM hmc hA hc h).mono (by rintro e w' ⟨rfl, hd⟩; exact ⟨rfl, hd.below⟩)

theorem drop64 {W : World} {A : Option Addr} {aa : List Int} {o c : Nat} (h : Kd.C (Kd.int .i64) W A aa.length aa) (ho : o ≤ aa.length) (hc : aa.length ≤ c) : Kd.C (Kd.int .i64) W (if c = o then A else A.map (fun x => x.add o)) (aa.drop o).length (aa.drop o) := by
  have := Kd.C_drop h ho hc
  rwa [show o * (Kd.int .i64).sz = o from Nat.mul_one o] at this
theorem cv64 {W : World} {A B : Option Addr} {n : Nat} {xs : List Int} (h : Kd.C (Kd.int .i64) W B n xs) (e : A = B) : Kd.C (Kd.int .i64) W A n xs := e ▸ h
theorem ats_of {W : World} {A : Option Addr} {aa ss : List Int} {o k n : Nat} (h : Kd.C (Kd.int .i64) W A (aa.drop o).length (aa.drop o)) (hx : ss = (aa.drop o).take k) (hn : n = min k (aa.length - o)) : Kd.C (Kd.int .i64) W A n ss := by
  have h1 := Kd.C_take (m := min k (aa.length - o)) h (by rw [List.length_drop]; omega)
  have e : (aa.drop o).take (min k (aa.length - o)) = ss := by
    rw [hx]
    rcases Nat.le_total k (aa.length - o) with hk | hk
    · rw [Nat.min_eq_left hk]
    · rw [Nat.min_eq_right hk, List.take_of_length_le (by rw [List.length_drop]; omega), List.take_of_length_le (by rw [List.length_drop]; omega)]
  rw [e] at h1
  rwa [show ss.length = n by rw [hn, hx, List.length_take, List.length_drop]] at h1
theorem own_set' {w : World} {base : Nat} {e : TypeId} {size n g cap : Nat} {xs : List Value} (h : w.ownsRow base e size (.slice (some ⟨g, 0, none⟩) n cap) n xs) (j : Nat) (hj : j < n * size) (u : Value) :
    (w.setCell ⟨g, j, none⟩ u).ownsRow base e size (.slice (some ⟨g, 0, none⟩) n cap) n (xs.set j u) := by
  obtain ⟨h1, h2⟩ := h
  refine ⟨by rw [List.length_set]; exact h1, ?_⟩
  rcases h2 with ⟨h2, _⟩ | ⟨g', cap', cur, he, hb, hh, hn, hm, hs, ht⟩
  · cases h2
  · injection he with ha _ hc
    injection ha with ha
    injection ha with hg
    subst hg; subst hc
    refine .inr ⟨g, cap, cur.setIfInBounds j u, rfl, hb, blk_set hh j u, hn, hm, by rw [Array.size_setIfInBounds]; exact hs, ?_⟩
    rw [Array.toList_setIfInBounds, List.take_set, ht]
/-- inside of addresses, the addresses kept. -/
theorem inside_at2 {W : World} {M A : Option Addr} {mc n c : Nat} {ms ss : List Int} {r : Bool} (hM : Kd.C (Kd.int .u8) W M ms.length ms) (hmc : ms.length ≤ mc) (hA : Kd.C (Kd.int .i64) W A n ss) (hc : n ≤ c) (h : orpimentref09_inside.f 70000 ms ss = some r) :
    Calls Try.prog 37 #[.slice M ms.length mc, .slice A n c] W fun e w' => e = .returned (.bool r) ∧ Below W.heap.size W w' ∧ Kd.C (Kd.int .i64) w' A n ss := by
  exact (inside_at hM hmc hA hc h).mono (by rintro e w' ⟨rfl, hd⟩; exact ⟨rfl, hd, Kd.C_below hA hd⟩)
theorem ownsRow_slice {W : World} {base : Nat} {e : TypeId} {size n : Nat} {v : Value} {xs : List Value} (h : W.ownsRow base e size v n xs) : ∃ A c, v = .slice A n c := by
  rcases h.2 with ⟨rfl, rfl⟩ | ⟨g, c, _, rfl, _⟩
  · exact ⟨_, _, rfl⟩
  · exact ⟨_, _, rfl⟩
theorem setL_at {ms ds : List Value} {ss : List Int} {k : Nat} (hk : k < ss.length) (hd : k < ds.length) : setL ms (ss.take (k + 1)) ds = (setL ms (ss.take k) ds).set (rd ss k).toNat (ds[k]'hd) := by
  rw [setL_snoc ss ms ds k hk hd]
  congr 2
  simp [rd, rdOf, List.getD_eq_getElem?_getD, List.getElem?_eq_getElem hk]
theorem setL_cut : ∀ (ss : List Int) (ms ds : List Value) (k : Nat), ss.length ≤ k → setL ms ss (ds.take k) = setL ms ss ds
  | [], ms, ds, k, _ => by simp [setL]
  | a :: ss, ms, [], k, _ => by simp
  | a :: ss, ms, d :: ds, 0, h => by simp at h
  | a :: ss, ms, d :: ds, k + 1, h => by
    simp only [List.take_succ_cons, setL]
    exact setL_cut ss _ ds k (by simpa using h)
/-- What the reference's Scattered answers. -/
def SPost (ms ds : List Int) (l : List S44) (off : Int) (w : World) (e : Ending) (w' : World) : Prop :=
  ∃ v, e = .returned (.tuple #[v, .int .i64 (snum ms.length ds.length l off), .int .i64 (scode ms.length ds.length l off)]) ∧
      (scode ms.length ds.length l off = 0 → w'.ownsRow w.heap.size 5 1 v ms.length (smem (byts ms) (byts ds) l off)) ∧ Below w.heap.size w w'
theorem SPost.bad {ms ds : List Int} {l : List S44} {off : Int} {w w' : World} {e : Ending} {c : Int} (v : Value) (hc : scode ms.length ds.length l off = c) (h0 : c ≠ 0) (he : e = .returned (.tuple #[v, .int .i64 0, .int .i64 c])) (hb : Below w.heap.size w w') : SPost ms ds l off w e w' := by
  have hs : snum ms.length ds.length l off = 0 := by unfold snum; rw [if_neg (by rw [hc]; exact h0)]
  exact ⟨v, by rw [hs, hc]; exact he, fun h => absurd (hc ▸ h) h0, hb⟩
theorem SPost.good {ms ds : List Int} {l : List S44} {off : Int} {w w' : World} {e : Ending} (v : Value) (hc : scode ms.length ds.length l off = 0) (he : e = .returned (.tuple #[v, .int .i64 (sN l off ds.length), .int .i64 0])) (ho : w'.ownsRow w.heap.size 5 1 v ms.length (smem (byts ms) (byts ds) l off)) (hb : Below w.heap.size w w') : SPost ms ds l off w e w' := by
  have hs : snum ms.length ds.length l off = sN l off ds.length := if_pos hc
  exact ⟨v, by rw [hs, hc]; exact he, fun _ => ho, hb⟩
set_option maxHeartbeats 2000000 in
set_option maxRecDepth 100000 in
theorem scattered_calls (M : Option Addr) (mc : Nat) (ms : List Int) (A : Option Addr) (cap : Nat) (l : List S44) (off : Int) (D : Option Addr) (dcap : Nat) (ds : List Int) (w : World)
    (hM : Kd.C (Kd.int .u8) w M ms.length ms) (hmc : ms.length ≤ mc) (hm6 : ms.length ≤ 1000000) (hL : Kd.C k44 w A l.length l) (hcap : l.length ≤ cap) (hD : Kd.C (Kd.int .u8) w D ds.length ds) (hdc : ds.length ≤ dcap) (hd6 : ds.length ≤ 1000000) :
    Calls Try.prog 27 #[.slice M ms.length mc, .slice A l.length cap, .int .i64 off, .slice D ds.length dcap] w fun e w' => SPost ms ds l off w e w' := by
  have HM := Lib.hid hM
  have HL := Lib.hid hL
  have HD := Lib.hid hD
  have HB := Lib.hid (Below.refl w.heap.size w)
  clear hM hL hD
  have hrl := rlen_f l (k := 60) (by omega)
  go_enter Try.func27, Try.ntmps27
  by_cases hck : chk (prs l) = 0
  · rw [if_pos hck, hck] at hrl
    obtain ⟨h1, h2, h3, h4⟩ := chk_zero hck
    by_cases ho : off < 0 ∨ sumL (prs l) < off
    · have hc : scode ms.length ds.length l off = 34 := by rw [scode_def, if_pos hck, if_pos ho]
      have HC := Lib.hid hc
      clear hc
      have HRL := Lib.hid hrl
      clear hrl h1
      rcases ho with ho | ho
      all_goals
        go_wp2_with (first
          | (go_at_call 19; refine (orpimentref09_Length.calls 60 A cap l _ _ _ (Kd.C_below HL.out HB.out) hcap HRL.out).mono ?_; rintro e w1 ⟨rfl, hd⟩; replace HB := Lib.hid (below_then' HB.out hd); clear hd))
      all_goals exact bodyPost_ret (results_tmp3 rfl _ _ _) rfl (SPost.bad _ HC.out (by decide) rfl HB.out)
    · have h0 : 0 ≤ off := by omega
      have hos : off ≤ sumL (prs l) := by omega
      have hN0 : 0 ≤ sN l off ds.length := by unfold sN; split <;> omega
      have hlen : ((addrs (prs l)).length : Int) = sumL (prs l) := addrs_len (fun p hp => (h1 p hp).2.1)
      have hats := addrs_sliced (prs l) off (sN l off ds.length) (fun p hp => (h1 p hp).2.1) h0 hN0
      have hfin := fine_sliced (n := sN l off ds.length) h1 h2 h0
      have haf := addrs0_f (r := l) ⟨h2, fun x hx => ⟨by have := (h1 x hx).1; omega, (h1 x hx).2⟩⟩ (k := 70000) (by omega)
      have hrin := rinside_f hfin ms (k := 70000) (by omega)
      have HRL := Lib.hid (And.intro hrl (And.intro haf hrin))
      have HX := Lib.hid (And.intro hats (And.intro hfin h1))
      clear hrl haf hrin hats hfin h1
      have hoi : off ≤ ((addrs (prs l)).length : Int) := by omega
      have hon : off.toNat ≤ (addrs (prs l)).length := by omega
      have hri := HRL.out.2.2
      replace HRL := Lib.hid (And.intro HRL.out.1 HRL.out.2.1)
      by_cases hgt : (ds.length : Int) < sumL (prs l) - off
      · have hNd : sN l off ds.length = ds.length := by unfold sN; rw [if_neg (by omega)]
        have hgt2 : ¬ ((((addrs (prs l)).length - off.toNat : Nat) : Int) ≤ (ds.length : Int)) := by omega
        by_cases hin : insideB ms.length (slicedL (prs l) off (sN l off ds.length)) = true
        · have hc : scode ms.length ds.length l off = 0 := by rw [scode_def, if_pos hck, if_neg (by omega), if_pos hin]
          have HC := Lib.hid hc
          rw [hin] at hri
          have HRI := Lib.hid hri
          have hset := setL_scat (slicedL (prs l) off (sN l off ds.length)) (byts ms) ((byts ds).take (sN l off ds.length).toNat) (fun x hx => ⟨(HX.out.2.1.2 x hx).1.1, (HX.out.2.1.2 x hx).2.1⟩) (by simpa [byts] using hin) (by have := sumL_slicedL (prs l) off (sN l off ds.length) hN0; simp [byts]; omega)
          have hal := addrs_all (fun x hx => ⟨(HX.out.2.1.2 x hx).1.1, (HX.out.2.1.2 x hx).2.1⟩) hin
          have HSET := Lib.hid (And.intro hset hal)
          clear hri hin hc hset hal
          obtain ⟨ss, hss⟩ : ∃ ss, ss = addrs (slicedL (prs l) off (sN l off ds.length)) := ⟨_, rfl⟩
          rw [← hss] at HSET HRI
          have HXS : Hid (ss = ((addrs (prs l)).drop off.toNat).take (sN l off ds.length).toNat) := by rw [hss]; exact Lib.hid HX.out.1
          clear hss
          go_wp2_with (first
            | (go_at_call 19; refine (orpimentref09_Length.calls 60 A cap l _ _ _ (Kd.C_below HL.out HB.out) hcap HRL.out.1).mono ?_; rintro e w1 ⟨rfl, hd⟩; replace HB := Lib.hid (below_then' HB.out hd); clear hd)
            | (go_at_call 36; refine (orpimentref09_addresses.calls 70000 A cap l _ _ (Kd.C_below HL.out HB.out) hcap HRL.out.2).mono ?_; rintro e w2 ⟨v5, rfl, hR, hd⟩; obtain ⟨A5, c5, rfl⟩ := Kd.R_slice hR; obtain ⟨_, hc5, h5⟩ := Kd.R_reads' hR; have H6 := Lib.hid (drop64 (o := off.toNat) (c := c5) h5 hon hc5); replace HB := Lib.hid (below_then' HB.out hd); clear hd hR h5)
            | (go_at_call 37; refine (inside_at2 (Kd.C_below HM.out HB.out) hmc (ats_of (aa := addrs (prs l)) (o := off.toNat) (k := (sN l off ds.length).toNat) (cv64 H6.out (by split <;> first | rfl | omega | contradiction)) HXS.out (by omega)) (by omega) HRI.out).mono ?_; rintro e w3 ⟨rfl, hd, hat⟩; replace HB := Lib.hid (below_then' HB.out hd); have HAT := Lib.hid hat; clear hd hat)
            | (at_builtin; go_loud (refine wpList_append_bytes rfl (.tmp 48) (.tmp 49) rfl w3.heap.size rfl M mc (byts ms) _ rfl (by simp [byts]) ⟨rfl, .inr ⟨w3.heap.size, 0, #[], rfl, Nat.le_refl _, heap_alloc_new w3 _, Nat.le_refl _, by simp [maxLen], rfl, rfl⟩⟩ ((mem_of_C (Kd.C_below HM.out HB.out)).below ((Below.refl _ _).alloc (Nat.le_refl _) _)) (by simp [byts]; omega) (by simp) ?_; intro v7 w7 ho7 hb7; replace hb7 : Below w3.heap.size w3 w7 := ((Below.refl _ _).alloc (Nat.le_refl _) _).trans hb7; rw [show (byts ms).length = ms.length by simp [byts]] at ho7; obtain ⟨A7, c7, rfl⟩ := ownsRow_slice ho7; have H7 := Lib.hid (And.intro ho7 hb7); clear ho7 hb7)))
          all_goals
            have hat0 := HAT.out
            (first | rw [if_pos ‹c5 = off.toNat›] at hat0 | rw [if_neg ‹¬ c5 = off.toNat›] at hat0 | skip)
            replace HAT := Lib.hid hat0
            clear hat0
            have hn6 : ss.length = ds.length := HAT.out.1
            have hK : (ss.length : Int) = sN l off ds.length := by omega
            by_cases hz : ss.length = 0
            · go_loopw [15] (fun i wr => ∃ k : Nat, k ≤ ss.length ∧ i = .int .i64 k ∧ Hid (wr.ownsRow w3.heap.size 5 1 (.slice A7 ms.length c7) ms.length (setL (byts ms) (ss.take k) (byts ds)) ∧ Below w3.heap.size w3 wr)) (fun i _ => ((ss.length : Int) - intOf i).toNat)
              case atStart => exact ⟨0, by omega, rfl, Lib.hid (by simpa [setL] using H7.out)⟩
              case round =>
                obtain ⟨k, hk, rfl, hi⟩ := hrel
                have hke : k = ss.length := by omega
                subst hke
                have hkn : ¬ ((ss.length : Int) < ((ds.length : Nat) : Int)) := by omega
                have hfin2 : setL (byts ms) (ss.take ss.length) (byts ds) = smem (byts ms) (byts ds) l off := by
                  rw [List.take_length, ← setL_cut ss (byts ms) (byts ds) (sN l off ds.length).toNat (by omega), HSET.out.1]
                  unfold smem
                  rw [show (byts ms).length = ms.length by simp [byts], show (byts ds).length = ds.length by simp [byts], if_pos HC.out]
                have HF := Lib.hid hfin2
                clear hfin2
                go_wp2
                exact bodyPost_ret (results_tmp3 rfl _ _ _) rfl (SPost.good _ HC.out (by rw [show sN l off ds.length = ((ds.length : Nat) : Int) by omega]; rfl) (by have h := hi.out.1; rw [HF.out] at h; exact owns_mono h HB.out.size) (below_then' HB.out hi.out.2))
            · first
                | (exfalso; omega)
                | (
                    obtain ⟨a5', e5, _⟩ := Kd.at_int HAT.out 0 (by omega) (by omega)
                    rcases A5 with _ | a5
                    · simp at e5
                    obtain ⟨dD, eD, _⟩ := Kd.at_int HD.out 0 (by omega) (by omega)
                    rcases D with _ | dd
                    · cases eD
                    have hms0 := HSET.out.2 (rd ss 0) (by simp [rd, rdOf, List.getD_eq_getElem?_getD, List.getElem?_eq_getElem (show 0 < ss.length by omega)])
                    obtain ⟨g7, c8, hv⟩ := ownsRow_pos H7.out.1 (by omega)
                    injection hv with hv1 _ hv3
                    subst hv1
                    subst hv3
                    clear e5 eD hms0
                    (try simp only [Option.map_some, Function.comp_apply] at HAT ⊢)
                    go_loopw [15] (fun i wr => ∃ k : Nat, k ≤ ss.length ∧ i = .int .i64 k ∧ Hid (wr.ownsRow w3.heap.size 5 1 (.slice (some ⟨g7, 0, none⟩) ms.length c7) ms.length (setL (byts ms) (ss.take k) (byts ds)) ∧ Below w3.heap.size w3 wr)) (fun i _ => ((ss.length : Int) - intOf i).toNat)
                    case atStart => exact ⟨0, by omega, rfl, Lib.hid (by simpa [setL] using H7.out)⟩
                    case round =>
                      obtain ⟨k, hk, rfl, hi⟩ := hrel
                      by_cases hlt : k < ss.length
                      · have hkd : k < ds.length := by omega
                        obtain ⟨ad6, e6, hc6⟩ := Kd.at_int (Kd.C_below HAT.out hi.out.2) (k : Int) (by omega) (by omega)
                        obtain ⟨adD, eD, hcD⟩ := Kd.at_int (Kd.C_below HD.out (below_then' HB.out hi.out.2)) (k : Int) (by omega) (by omega)
                        simp only [Option.map_some, Option.some.injEq, Function.comp_apply] at e6
                        subst e6
                        cases eD
                        have hab := HSET.out.2 (rd ss k) (by simp [rd, rdOf, List.getD_eq_getElem?_getD, List.getElem?_eq_getElem hlt])
                        have hsl := setL_length (ss.take k) (byts ms) (byts ds)
                        have hco := hi.out.1.cells (g := g7) rfl (rd ss k).toNat _ (List.getElem?_eq_getElem (by rw [hsl]; simp [byts]; omega))
                        rw [add_at, Nat.zero_add] at hco
                        have hfo := own_frozen' (g := g7) hi.out.1 (rd ss k).toNat
                        have hss1 := setL_at (ms := byts ms) (ds := byts ds) hlt (by simpa [byts] using hkd)
                        have hdk : (byts ds)[k]'(by simpa [byts] using hkd) = .int .u8 (rd ds k) := by simp [byts, rd, rdOf, List.getD_eq_getElem?_getD, List.getElem?_eq_getElem hkd]
                        rw [hdk] at hss1
                        have HS1 := Lib.hid hss1
                        generalize (setL (byts ms) (ss.take k) (byts ds))[(rd ss k).toNat]'_ = uold at hco
                        generalize rd ss k = aa6 at hc6 hab hco hfo HS1
                        generalize rd ds k = bb6 at hcD HS1
                        have hkz : (0 : Int) ≤ (k : Int) := by omega
                        have hkn : (k : Int) < ((ds.length : Nat) : Int) := by omega
                        have hkdI : (k : Int) < (ds.length : Int) := by omega
                        clear hss1 hsl hdk
                        rw [Int.toNat_natCast] at hc6 hcD
                        go_wp2
                        refine wp_region_still_tail 10 (by kernel_rfl) (by kernel_rfl) ?_
                        simp only [List.take_succ_cons, List.take_zero, List.drop_succ_cons, List.drop_zero]
                        iterate 10 ((with_reducible refine wpStill_step (fun K hK => ?_)); have HK := Lib.hid hK; clear hK; go_simp; (with_reducible refine HK.out _ ?_); clear HK K)
                        (with_reducible refine wpStill_nil ?_)
                        go_wp2
                        go_roundw
                        case rel => exact ⟨k + 1, by omega, by go_num, Lib.hid ⟨by rw [HS1.out]; exact own_set' (w := wr) hi.out.1 _ (by omega) _, (hi.out.2.setCell (p := ⟨g7, aa6.toNat, none⟩) (own_base' hi.out.1 g7 rfl) _).drew⟩⟩
                        case measure => simp [intOf]; omega
                      · have hke : k = ss.length := by omega
                        subst hke
                        have hkn : ¬ ((ss.length : Int) < ((ds.length : Nat) : Int)) := by omega
                        have hfin2 : setL (byts ms) (ss.take ss.length) (byts ds) = smem (byts ms) (byts ds) l off := by
                         rw [List.take_length, ← setL_cut ss (byts ms) (byts ds) (sN l off ds.length).toNat (by omega), HSET.out.1]
                         unfold smem
                         rw [show (byts ms).length = ms.length by simp [byts], show (byts ds).length = ds.length by simp [byts], if_pos HC.out]
                        have HF := Lib.hid hfin2
                        clear hfin2
                        go_wp2
                        exact bodyPost_ret (results_tmp3 rfl _ _ _) rfl (SPost.good _ HC.out (by rw [show sN l off ds.length = ((ds.length : Nat) : Int) by omega]; rfl) (by have h := hi.out.1; rw [HF.out] at h; exact owns_mono h HB.out.size) (below_then' HB.out hi.out.2)))
        · have hin' : insideB ms.length (slicedL (prs l) off (sN l off ds.length)) = false := by simpa using hin
          have hc : scode ms.length ds.length l off = 11 := by rw [scode_def, if_pos hck, if_neg (by omega), if_neg hin]
          have HC := Lib.hid hc
          clear hc
          rw [hin'] at hri
          have HRI := Lib.hid hri
          clear hri hin hin'
          go_wp2_with (first
            | (go_at_call 19; refine (orpimentref09_Length.calls 60 A cap l _ _ _ (Kd.C_below HL.out HB.out) hcap HRL.out.1).mono ?_; rintro e w1 ⟨rfl, hd⟩; replace HB := Lib.hid (below_then' HB.out hd); clear hd)
            | (go_at_call 36; refine (orpimentref09_addresses.calls 70000 A cap l _ _ (Kd.C_below HL.out HB.out) hcap HRL.out.2).mono ?_; rintro e w2 ⟨v5, rfl, hR, hd⟩; obtain ⟨A5, c5, rfl⟩ := Kd.R_slice hR; obtain ⟨_, hc5, h5⟩ := Kd.R_reads' hR; have H6 := Lib.hid (drop64 (o := off.toNat) (c := c5) h5 hon hc5); replace HB := Lib.hid (below_then' HB.out hd); clear hd hR h5)
            | (go_at_call 37; refine (inside_at (Kd.C_below HM.out HB.out) hmc (ats_of (aa := addrs (prs l)) (o := off.toNat) (k := (sN l off ds.length).toNat) (cv64 H6.out (by split <;> first | rfl | omega | contradiction)) HX.out.1 (by omega)) (by omega) HRI.out).mono ?_; rintro e w3 ⟨rfl, hd⟩; replace HB := Lib.hid (below_then' HB.out hd); clear hd))
          all_goals exact bodyPost_ret (results_tmp3 rfl _ _ _) rfl (SPost.bad _ HC.out (by decide) rfl HB.out)
      · have hNd : sN l off ds.length = sumL (prs l) - off := by unfold sN; split <;> omega
        by_cases hin : insideB ms.length (slicedL (prs l) off (sN l off ds.length)) = true
        · have hc : scode ms.length ds.length l off = 0 := by rw [scode_def, if_pos hck, if_neg (by omega), if_pos hin]
          have HC := Lib.hid hc
          rw [hin] at hri
          have HRI := Lib.hid hri
          have hset := setL_scat (slicedL (prs l) off (sN l off ds.length)) (byts ms) ((byts ds).take (sN l off ds.length).toNat) (fun x hx => ⟨(HX.out.2.1.2 x hx).1.1, (HX.out.2.1.2 x hx).2.1⟩) (by simpa [byts] using hin) (by have := sumL_slicedL (prs l) off (sN l off ds.length) hN0; simp [byts]; omega)
          have hal := addrs_all (fun x hx => ⟨(HX.out.2.1.2 x hx).1.1, (HX.out.2.1.2 x hx).2.1⟩) hin
          have HSET := Lib.hid (And.intro hset hal)
          clear hri hin hc hset hal
          obtain ⟨ss, hss⟩ : ∃ ss, ss = addrs (slicedL (prs l) off (sN l off ds.length)) := ⟨_, rfl⟩
          rw [← hss] at HSET HRI
          have HXS : Hid (ss = ((addrs (prs l)).drop off.toNat).take (sN l off ds.length).toNat) := by rw [hss]; exact Lib.hid HX.out.1
          clear hss
          go_wp2_with (first
            | (go_at_call 19; refine (orpimentref09_Length.calls 60 A cap l _ _ _ (Kd.C_below HL.out HB.out) hcap HRL.out.1).mono ?_; rintro e w1 ⟨rfl, hd⟩; replace HB := Lib.hid (below_then' HB.out hd); clear hd)
            | (go_at_call 36; refine (orpimentref09_addresses.calls 70000 A cap l _ _ (Kd.C_below HL.out HB.out) hcap HRL.out.2).mono ?_; rintro e w2 ⟨v5, rfl, hR, hd⟩; obtain ⟨A5, c5, rfl⟩ := Kd.R_slice hR; obtain ⟨_, hc5, h5⟩ := Kd.R_reads' hR; have H6 := Lib.hid (drop64 (o := off.toNat) (c := c5) h5 hon hc5); replace HB := Lib.hid (below_then' HB.out hd); clear hd hR h5)
            | (go_at_call 37; refine (inside_at2 (Kd.C_below HM.out HB.out) hmc (ats_of (aa := addrs (prs l)) (o := off.toNat) (k := (sN l off ds.length).toNat) (cv64 H6.out (by split <;> first | rfl | omega | contradiction)) HXS.out (by omega)) (by omega) HRI.out).mono ?_; rintro e w3 ⟨rfl, hd, hat⟩; replace HB := Lib.hid (below_then' HB.out hd); have HAT := Lib.hid hat; clear hd hat)
            | (at_builtin; go_loud (refine wpList_append_bytes rfl (.tmp 48) (.tmp 49) rfl w3.heap.size rfl M mc (byts ms) _ rfl (by simp [byts]) ⟨rfl, .inr ⟨w3.heap.size, 0, #[], rfl, Nat.le_refl _, heap_alloc_new w3 _, Nat.le_refl _, by simp [maxLen], rfl, rfl⟩⟩ ((mem_of_C (Kd.C_below HM.out HB.out)).below ((Below.refl _ _).alloc (Nat.le_refl _) _)) (by simp [byts]; omega) (by simp) ?_; intro v7 w7 ho7 hb7; replace hb7 : Below w3.heap.size w3 w7 := ((Below.refl _ _).alloc (Nat.le_refl _) _).trans hb7; rw [show (byts ms).length = ms.length by simp [byts]] at ho7; obtain ⟨A7, c7, rfl⟩ := ownsRow_slice ho7; have H7 := Lib.hid (And.intro ho7 hb7); clear ho7 hb7)))
          all_goals
            have hat0 := HAT.out
            (first | rw [if_pos ‹c5 = off.toNat›] at hat0 | rw [if_neg ‹¬ c5 = off.toNat›] at hat0 | skip)
            replace HAT := Lib.hid hat0
            clear hat0
            have hn6 : ss.length = ((addrs (prs l)).length - off.toNat) := HAT.out.1
            have hK : (ss.length : Int) = sN l off ds.length := by omega
            by_cases hz : ss.length = 0
            · go_loopw [15] (fun i wr => ∃ k : Nat, k ≤ ss.length ∧ i = .int .i64 k ∧ Hid (wr.ownsRow w3.heap.size 5 1 (.slice A7 ms.length c7) ms.length (setL (byts ms) (ss.take k) (byts ds)) ∧ Below w3.heap.size w3 wr)) (fun i _ => ((ss.length : Int) - intOf i).toNat)
              case atStart => exact ⟨0, by omega, rfl, Lib.hid (by simpa [setL] using H7.out)⟩
              case round =>
                obtain ⟨k, hk, rfl, hi⟩ := hrel
                have hke : k = ss.length := by omega
                subst hke
                have hkn : ¬ ((ss.length : Int) < ((((addrs (prs l)).length - off.toNat) : Nat) : Int)) := by omega
                have hfin2 : setL (byts ms) (ss.take ss.length) (byts ds) = smem (byts ms) (byts ds) l off := by
                  rw [List.take_length, ← setL_cut ss (byts ms) (byts ds) (sN l off ds.length).toNat (by omega), HSET.out.1]
                  unfold smem
                  rw [show (byts ms).length = ms.length by simp [byts], show (byts ds).length = ds.length by simp [byts], if_pos HC.out]
                have HF := Lib.hid hfin2
                clear hfin2
                go_wp2
                exact bodyPost_ret (results_tmp3 rfl _ _ _) rfl (SPost.good _ HC.out (by rw [show sN l off ds.length = ((((addrs (prs l)).length - off.toNat) : Nat) : Int) by omega]; rfl) (by have h := hi.out.1; rw [HF.out] at h; exact owns_mono h HB.out.size) (below_then' HB.out hi.out.2))
            · first
                | (exfalso; omega)
                | (
                    obtain ⟨a5', e5, _⟩ := Kd.at_int HAT.out 0 (by omega) (by omega)
                    rcases A5 with _ | a5
                    · simp at e5
                    obtain ⟨dD, eD, _⟩ := Kd.at_int HD.out 0 (by omega) (by omega)
                    rcases D with _ | dd
                    · cases eD
                    have hms0 := HSET.out.2 (rd ss 0) (by simp [rd, rdOf, List.getD_eq_getElem?_getD, List.getElem?_eq_getElem (show 0 < ss.length by omega)])
                    obtain ⟨g7, c8, hv⟩ := ownsRow_pos H7.out.1 (by omega)
                    injection hv with hv1 _ hv3
                    subst hv1
                    subst hv3
                    clear e5 eD hms0
                    (try simp only [Option.map_some, Function.comp_apply] at HAT ⊢)
                    go_loopw [15] (fun i wr => ∃ k : Nat, k ≤ ss.length ∧ i = .int .i64 k ∧ Hid (wr.ownsRow w3.heap.size 5 1 (.slice (some ⟨g7, 0, none⟩) ms.length c7) ms.length (setL (byts ms) (ss.take k) (byts ds)) ∧ Below w3.heap.size w3 wr)) (fun i _ => ((ss.length : Int) - intOf i).toNat)
                    case atStart => exact ⟨0, by omega, rfl, Lib.hid (by simpa [setL] using H7.out)⟩
                    case round =>
                      obtain ⟨k, hk, rfl, hi⟩ := hrel
                      by_cases hlt : k < ss.length
                      · have hkd : k < ds.length := by omega
                        obtain ⟨ad6, e6, hc6⟩ := Kd.at_int (Kd.C_below HAT.out hi.out.2) (k : Int) (by omega) (by omega)
                        obtain ⟨adD, eD, hcD⟩ := Kd.at_int (Kd.C_below HD.out (below_then' HB.out hi.out.2)) (k : Int) (by omega) (by omega)
                        simp only [Option.map_some, Option.some.injEq, Function.comp_apply] at e6
                        subst e6
                        cases eD
                        have hab := HSET.out.2 (rd ss k) (by simp [rd, rdOf, List.getD_eq_getElem?_getD, List.getElem?_eq_getElem hlt])
                        have hsl := setL_length (ss.take k) (byts ms) (byts ds)
                        have hco := hi.out.1.cells (g := g7) rfl (rd ss k).toNat _ (List.getElem?_eq_getElem (by rw [hsl]; simp [byts]; omega))
                        rw [add_at, Nat.zero_add] at hco
                        have hfo := own_frozen' (g := g7) hi.out.1 (rd ss k).toNat
                        have hss1 := setL_at (ms := byts ms) (ds := byts ds) hlt (by simpa [byts] using hkd)
                        have hdk : (byts ds)[k]'(by simpa [byts] using hkd) = .int .u8 (rd ds k) := by simp [byts, rd, rdOf, List.getD_eq_getElem?_getD, List.getElem?_eq_getElem hkd]
                        rw [hdk] at hss1
                        have HS1 := Lib.hid hss1
                        generalize (setL (byts ms) (ss.take k) (byts ds))[(rd ss k).toNat]'_ = uold at hco
                        generalize rd ss k = aa6 at hc6 hab hco hfo HS1
                        generalize rd ds k = bb6 at hcD HS1
                        have hkz : (0 : Int) ≤ (k : Int) := by omega
                        have hkn : (k : Int) < ((((addrs (prs l)).length - off.toNat) : Nat) : Int) := by omega
                        have hkdI : (k : Int) < (ds.length : Int) := by omega
                        clear hss1 hsl hdk
                        rw [Int.toNat_natCast] at hc6 hcD
                        go_wp2
                        refine wp_region_still_tail 10 (by kernel_rfl) (by kernel_rfl) ?_
                        simp only [List.take_succ_cons, List.take_zero, List.drop_succ_cons, List.drop_zero]
                        iterate 10 ((with_reducible refine wpStill_step (fun K hK => ?_)); have HK := Lib.hid hK; clear hK; go_simp; (with_reducible refine HK.out _ ?_); clear HK K)
                        (with_reducible refine wpStill_nil ?_)
                        go_wp2
                        go_roundw
                        case rel => exact ⟨k + 1, by omega, by go_num, Lib.hid ⟨by rw [HS1.out]; exact own_set' (w := wr) hi.out.1 _ (by omega) _, (hi.out.2.setCell (p := ⟨g7, aa6.toNat, none⟩) (own_base' hi.out.1 g7 rfl) _).drew⟩⟩
                        case measure => simp [intOf]; omega
                      · have hke : k = ss.length := by omega
                        subst hke
                        have hkn : ¬ ((ss.length : Int) < ((((addrs (prs l)).length - off.toNat) : Nat) : Int)) := by omega
                        have hfin2 : setL (byts ms) (ss.take ss.length) (byts ds) = smem (byts ms) (byts ds) l off := by
                         rw [List.take_length, ← setL_cut ss (byts ms) (byts ds) (sN l off ds.length).toNat (by omega), HSET.out.1]
                         unfold smem
                         rw [show (byts ms).length = ms.length by simp [byts], show (byts ds).length = ds.length by simp [byts], if_pos HC.out]
                        have HF := Lib.hid hfin2
                        clear hfin2
                        go_wp2
                        exact bodyPost_ret (results_tmp3 rfl _ _ _) rfl (SPost.good _ HC.out (by rw [show sN l off ds.length = ((((addrs (prs l)).length - off.toNat) : Nat) : Int) by omega]; rfl) (by have h := hi.out.1; rw [HF.out] at h; exact owns_mono h HB.out.size) (below_then' HB.out hi.out.2)))
        · have hin' : insideB ms.length (slicedL (prs l) off (sN l off ds.length)) = false := by simpa using hin
          have hc : scode ms.length ds.length l off = 11 := by rw [scode_def, if_pos hck, if_neg (by omega), if_neg hin]
          have HC := Lib.hid hc
          clear hc
          rw [hin'] at hri
          have HRI := Lib.hid hri
          clear hri hin hin'
          go_wp2_with (first
            | (go_at_call 19; refine (orpimentref09_Length.calls 60 A cap l _ _ _ (Kd.C_below HL.out HB.out) hcap HRL.out.1).mono ?_; rintro e w1 ⟨rfl, hd⟩; replace HB := Lib.hid (below_then' HB.out hd); clear hd)
            | (go_at_call 36; refine (orpimentref09_addresses.calls 70000 A cap l _ _ (Kd.C_below HL.out HB.out) hcap HRL.out.2).mono ?_; rintro e w2 ⟨v5, rfl, hR, hd⟩; obtain ⟨A5, c5, rfl⟩ := Kd.R_slice hR; obtain ⟨_, hc5, h5⟩ := Kd.R_reads' hR; have H6 := Lib.hid (drop64 (o := off.toNat) (c := c5) h5 hon hc5); replace HB := Lib.hid (below_then' HB.out hd); clear hd hR h5)
            | (go_at_call 37; refine (inside_at (Kd.C_below HM.out HB.out) hmc (ats_of (aa := addrs (prs l)) (o := off.toNat) (k := (sN l off ds.length).toNat) (cv64 H6.out (by split <;> first | rfl | omega | contradiction)) HX.out.1 (by omega)) (by omega) HRI.out).mono ?_; rintro e w3 ⟨rfl, hd⟩; replace HB := Lib.hid (below_then' HB.out hd); clear hd))
          all_goals exact bodyPost_ret (results_tmp3 rfl _ _ _) rfl (SPost.bad _ HC.out (by decide) rfl HB.out)
  · have hc : scode ms.length ds.length l off = chk (prs l) := by rw [scode_def, if_neg hck]
    have HC := Lib.hid hc
    clear hc
    rw [if_neg hck] at hrl
    go_wp2_with (first
      | (go_at_call 19; refine (orpimentref09_Length.calls 60 A cap l _ _ _ (Kd.C_below HL.out HB.out) hcap hrl).mono ?_; rintro e w1 ⟨rfl, hd⟩; replace HB := Lib.hid (below_then' HB.out hd); clear hd))
    exact bodyPost_ret (results_tmp3 rfl _ _ _) rfl (SPost.bad _ HC.out hck rfl HB.out)
end Go.Proofs.Ytbojagkalbfenaa
