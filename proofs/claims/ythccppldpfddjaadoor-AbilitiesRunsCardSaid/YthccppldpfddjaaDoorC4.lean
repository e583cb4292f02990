/- Apply (11). -/
import Derived.Test.YthccppldpfddjaaDoorC3
namespace Go.Proofs.YthccppldpfddjaaDoor
open Go.RowKit
set_option linter.unusedVariables false
def ocells (l : List OpA) : List Value := l.flatMap fun o => [.int .i64 o.kind, .int .i64 o.ab, .int .i64 o.dom, .int .i64 o.lo, .int .i64 o.hi]
theorem ocells_len (l : List OpA) : (ocells l).length = l.length * 5 := by
  induction l with
  | nil => rfl
  | cons p l ih => simp only [ocells, List.flatMap_cons, List.length_append, List.length_cons, List.length_nil] at ih ⊢; rw [ih]; omega
theorem ocells_append (a b : List OpA) : ocells (a ++ b) = ocells a ++ ocells b := by simp [ocells]
theorem ocells_one (l : List OpA) : ∀ u ∈ ocells l, u.oneCell' = true := by
  intro u hu
  simp only [ocells, List.mem_flatMap] at hu
  obtain ⟨p, -, hp⟩ := hu
  simp at hp
  rcases hp with rfl | rfl | rfl | rfl | rfl <;> rfl
theorem ocells_get (l : List OpA) (i : Nat) (h : i < l.length) : (ocells l)[i * 5]? = some (.int .i64 l[i].kind) ∧ (ocells l)[i * 5 + 1]? = some (.int .i64 l[i].ab) ∧ (ocells l)[i * 5 + 2]? = some (.int .i64 l[i].dom) ∧ (ocells l)[i * 5 + 3]? = some (.int .i64 l[i].lo) ∧ (ocells l)[i * 5 + 4]? = some (.int .i64 l[i].hi) := by
  induction l generalizing i with
  | nil => simp at h
  | cons p l ih =>
    cases i with
    | zero => simp [ocells]
    | succ i =>
      have := ih i (by simpa using h)
      simp only [ocells, List.flatMap_cons] at this ⊢
      rw [show (i + 1) * 5 = (i * 5) + 5 by omega, show (i * 5) + 5 + 1 = (i * 5 + 1) + 5 by omega, show (i * 5) + 5 + 2 = (i * 5 + 2) + 5 by omega, show (i * 5) + 5 + 3 = (i * 5 + 3) + 5 by omega, show (i * 5) + 5 + 4 = (i * 5 + 4) + 5 by omega]
      simpa using this
/-- A slice of operations. -/
def Os (w : World) (v : Value) (l : List OpA) : Prop := Rw w 35 5 v l.length (ocells l)
theorem Os.at {w : World} {v : Value} {l : List OpA} (h : Os w v l) {A : Option Addr} {n c : Nat} (hv : v = .slice A n c) {k : Nat} (hk : k < l.length) :
    ∃ g, A = some ⟨g, 0, none⟩ ∧ w.cell? ⟨g, k * 5, none⟩ = some (.int .i64 l[k].kind) ∧ w.cell? ⟨g, k * 5 + 1, none⟩ = some (.int .i64 l[k].ab) ∧ w.cell? ⟨g, k * 5 + 2, none⟩ = some (.int .i64 l[k].dom) ∧ w.cell? ⟨g, k * 5 + 3, none⟩ = some (.int .i64 l[k].lo) ∧ w.cell? ⟨g, k * 5 + 4, none⟩ = some (.int .i64 l[k].hi) := by
  subst hv
  obtain ⟨h1, h2⟩ := h
  rcases h2 with ⟨h2, h3⟩ | ⟨g, cap, cur, h2, h3, r⟩
  · omega
  · cases h2
    have hc := Rw.cells (w := w) (e := 35) (size := 5) (v := .slice (some ⟨g, 0, none⟩) l.length c) (n := l.length) (xs := ocells l) ⟨h1, .inr ⟨g, c, cur, rfl, h3, r⟩⟩ (g := g) rfl
    obtain ⟨p1, p2, p3, p4, p5⟩ := ocells_get l k hk
    have g1 := hc _ _ p1
    have g2 := hc _ _ p2
    have g3 := hc _ _ p3
    have g4 := hc _ _ p4
    have g5 := hc _ _ p5
    rw [add_at, Nat.zero_add] at g1 g2 g3 g4 g5
    exact ⟨g, rfl, g1, g2, g3, g4, g5⟩
theorem Os.below {w w' : World} {v : Value} {l : List OpA} (h : Os w v l) (hb : Below w.heap.size w w') : Os w' v l := Rw.below h hb
theorem runC_append (S : St) (a b : List OpA) : runC S (a ++ b) = if runC S a = 0 then runC (runS S a) b else runC S a := by
  induction a generalizing S with
  | nil => simp [runC, runS]
  | cons o a ih =>
    by_cases h : codeS S o = 0
    · simp [runC, runS, h, ih]
    · simp [runC, runS, h]
theorem runS_append (S : St) (a b : List OpA) : runS S (a ++ b) = if runC S a = 0 then runS (runS S a) b else runS S a := by
  induction a generalizing S with
  | nil => simp [runC, runS]
  | cons o a ih =>
    by_cases h : codeS S o = 0
    · simp [runC, runS, h, ih]
    · simp [runC, runS, h]
theorem run_next {S : St} {l : List OpA} {k : Nat} (hk : k < l.length) (h0 : runC S (l.take k) = 0) :
    runC S (l.take (k + 1)) = codeS (runS S (l.take k)) l[k] ∧ runS S (l.take (k + 1)) = stepS (runS S (l.take k)) l[k] := by
  rw [List.take_succ_eq_append_getElem hk, runC_append, runS_append, if_pos h0, if_pos h0]
  constructor
  · simp only [runC]
    by_cases h : codeS (runS S (l.take k)) l[k] = 0
    · rw [if_pos h, h]
    · rw [if_neg h]
  · simp only [runS, stepS]
theorem run_stop {S : St} {l : List OpA} {k : Nat} (h : runC S (l.take k) ≠ 0) : runC S l = runC S (l.take k) := by
  conv => lhs; rw [← List.take_append_drop k l]
  rw [runC_append, if_neg h]
theorem RArr.copy {n : Nat} {T E : TypeId} {w : World} {t u : Nat} {lv : Nat → Value} {S : Nat → Rt} (h : RArr n T E w t lv S) (hTE : T ≠ E) (hn : t ≠ u) {cs old : Array Value} (hc : w.heap[t]? = some (.cells cs T (0, 0))) (ho : w.heap[u]? = some (.cells old T (0, 0))) :
    RArr n T E (w.setRow u cs) u lv S := by
  obtain ⟨⟨cs', h1, h2, h3⟩, h4⟩ := h
  rw [hc] at h1
  cases h1
  refine ⟨⟨cs, setRow_heap _ _ _ _ _ _ ho, h2, h3⟩, fun i hi => Rw.kept (h4 i hi) fun g hg => setRow_other _ _ _ _ ?_⟩
  rintro rfl
  obtain ⟨cur, hc'⟩ := Rw.ty (h4 i hi) g hg
  rw [ho] at hc'
  cases hc'
  exact hTE rfl
theorem RArr.one {n : Nat} {T E : TypeId} {w : World} {t : Nat} {lv : Nat → Value} {S : Nat → Rt} (h : RArr n T E w t lv S) {cs : Array Value} (hc : w.heap[t]? = some (.cells cs T (0, 0))) : cs.size = n * 3 ∧ cs.all (·.oneCell') = true := by
  obtain ⟨⟨cs', h1, h2, h3⟩, h4⟩ := h
  rw [hc] at h1
  cases h1
  refine ⟨h2, ?_⟩
  rw [Array.all_eq_true]
  intro j hj
  have := h3 j (by omega)
  rw [Array.getElem?_eq_getElem hj] at this
  rw [Option.some.inj this]
  unfold rcell
  obtain ⟨A, cap, hv, -⟩ := Rw.form (h4 (j / 3) (by omega))
  split
  · rw [hv]; rfl
  · split <;> rfl
theorem size77 : (Tryd.prog.info? 77).map (·.size) = some 192 := by kernel_rfl
set_option maxHeartbeats 4000000 in
set_option maxRecDepth 100000 in
theorem set_apply_calls (b : Nat) (lv : Nat → Value) (S : St) (v : Value) (l : List OpA) (w : World) (hE : EffAt w) (h : RArr 64 77 43 w b lv S) (hS : StOk S) (hv : Os w v l) :
    Calls Tryd.prog 11 #[.pointer (some ⟨b, 0, none⟩), v] w fun e w' => e = .returned (.int .i64 (applyC S l)) ∧ ∃ lv', RArr 64 77 43 w' b lv' (applyS S l) ∧ w.grownBy w' (some b) := by
  obtain ⟨A, cap, rfl, -, -, -, -⟩ := Rw.form hv
  by_cases hlen : 200 < l.length
  · have hl : (200 : Int) < (l.length : Int) := by omega
    have HC := Lib.hid (show applyC S l = 18 from by unfold applyC; rw [if_pos hlen])
    have HA := Lib.hid h
    clear h hS hv hE hlen
    go_enter Tryd.func11, Tryd.ntmps11
    go_wp2
    go_ret
    refine ⟨by rw [HC.out]; rfl, lv, ?_, grown_of_below' (Below.refl _ _) _⟩
    rw [show applyS S l = S from by unfold applyS; rw [HC.out, if_neg (by decide)]]
    exact HA.out
  · have hl : (l.length : Int) ≤ 200 := by omega
    have HC := Lib.hid (show applyC S l = runC S l from by unfold applyC; rw [if_neg hlen])
    have HA := Lib.hid (And.intro h (And.intro hS (And.intro hv hE)))
    have HCP := Lib.hid (set_copy_calls b lv S w h hS)
    clear h hS hv hE hlen
    go_enter Tryd.func11, Tryd.ntmps11
    go_wp2_with (go_at_call 22; refine HCP.out.mono ?_; rintro e w1 ⟨cb, rfl, h1, ⟨lv1, h2⟩, h3⟩; have HW1 := Lib.hid (And.intro h1 (And.intro h2 h3)); clear h1 h2 h3)
    go_loopw [18] (fun i wr => ∃ k : Nat, k ≤ l.length ∧ i = .int .i64 k ∧ Hid (runC S (l.take k) = 0) ∧ Hid (∃ lv', RArr 64 77 43 wr cb lv' (runS S (l.take k))) ∧ Hid (Below w.heap.size w wr)) (fun i _ => l.length - (intOf i).toNat)
    case atStart => exact ⟨0, by omega, rfl, Lib.hid rfl, Lib.hid ⟨lv1, HW1.out.2.1⟩, Lib.hid HW1.out.2.2⟩
    case round =>
      obtain ⟨k, hk, rfl, H0, HR, HB⟩ := hrel
      by_cases hlt : k < l.length
      · have hlt' : (k : Int) < (l.length : Int) := by omega
        obtain ⟨g, rfl, q0, q1, q2, q3, q4⟩ := Os.at (HA.out.2.2.1.below HB.out) rfl hlt
        have HN := Lib.hid (run_next (S := S) hlt H0.out)
        have HSo := Lib.hid (runS_ok (l.take k) HA.out.2.1)
        have HAp := Lib.hid (fun W (hW : Below wr.heap.size wr W) => by
          obtain ⟨lv', h1⟩ := HR.out
          exact apply_calls l[k] cb lv' _ W (HA.out.2.2.2.below (HB.out.trans (hW.mono HB.out.size))) (h1.below hW) HSo.out)
        generalize l[k] = o at *
        obtain ⟨ok, oa, od, ol, oh⟩ := o
        unfold opA at HAp
        simp only at q0 q1 q2 q3 q4 HAp
        go_wp2
        obtain ⟨W3, hW3⟩ : ∃ W3, W3 = wr.alloc (.cells #[.int .i64 ok, .int .i64 oa, .int .i64 od, .int .i64 ol, .int .i64 oh] 35) := ⟨_, rfl⟩
        have HB3 := Lib.hid (show Below wr.heap.size wr W3 from by rw [hW3]; exact (Below.refl _ _).alloc (Nat.le_refl _) _)
        have e3 := heap_alloc_new wr (.cells #[.int .i64 ok, .int .i64 oa, .int .i64 od, .int .i64 ol, .int .i64 oh] 35)
        rw [← hW3] at e3 ⊢
        obtain ⟨e0, e1, e2, e3, e4⟩ := five_cells e3
        clear hW3 q0 q1 q2 q3 q4
        have HAq := Lib.hid (HAp.out W3.drew ((Below.drew (Below.refl _ W3) |> fun h => HB3.out.trans (h.mono HB3.out.size))))
        by_cases hcode : codeS (runS S (l.take k)) ⟨ok, oa, od, ol, oh⟩ = 0
        · have HZ := Lib.hid hcode
          rw [hcode] at HAq
          clear hcode
          go_still_tail 4, (by kernel_rfl)
          change wpList _ _ _ _ _ W3.drew
          go_wp2_with (go_at_call 37; refine HAq.out.mono ?_; rintro e w4 ⟨rfl, lv4, h4, h5⟩; have H4 := Lib.hid (And.intro h4 h5); clear h4 h5)
          go_roundw
          case rel =>
            have HBW := (HB.out.trans ((HB3.out.trans ((Below.drew (Below.refl _ W3)).mono HB3.out.size)).mono HB.out.size)).grown H4.out.2 (by have := HB.out.size; have := HB3.out.size; simpa using Nat.le_trans HB.out.size HB3.out.size) (fun j hj => by cases hj; exact Nat.le_of_lt HW1.out.1)
            exact ⟨k + 1, by omega, by go_num, Lib.hid (HN.out.1.trans HZ.out), Lib.hid ⟨lv4, by rw [HN.out.2]; exact H4.out.1⟩, Lib.hid HBW⟩
          case measure => simp [intOf]; omega
        · have HZ := Lib.hid hcode
          have hcn : (codeS (runS S (l.take k)) ⟨ok, oa, od, ol, oh⟩ != 0) = true := by simpa using hcode
          clear hcode
          go_still_tail 4, (by kernel_rfl)
          change wpList _ _ _ _ _ W3.drew
          go_wp2_with (go_at_call 37; refine HAq.out.mono ?_; rintro e w4 ⟨rfl, lv4, h4, h5⟩; have H4 := Lib.hid (And.intro h4 h5); clear h4 h5)
          go_ret
          have HBW := (HB.out.trans ((HB3.out.trans ((Below.drew (Below.refl _ W3)).mono HB3.out.size)).mono HB.out.size)).grown H4.out.2 (by have := HB.out.size; have := HB3.out.size; simpa using Nat.le_trans HB.out.size HB3.out.size) (fun j hj => by cases hj; exact Nat.le_of_lt HW1.out.1)
          have hcl : applyC S l = codeS (runS S (l.take k)) ⟨ok, oa, od, ol, oh⟩ := HC.out.trans ((run_stop (by rw [HN.out.1]; exact HZ.out)).trans HN.out.1)
          refine ⟨by rw [hcl]; rfl, lv, ?_, grown_of_below' HBW _⟩
          rw [show applyS S l = S from by unfold applyS; rw [hcl, if_neg HZ.out]]
          exact HA.out.1.below HBW
      · obtain rfl : k = l.length := by omega
        rw [List.take_length] at H0 HR
        obtain ⟨lv2, hr2⟩ := HR.out
        obtain ⟨cs, hcs, -, -⟩ := hr2.tab
        have h6 := HA.out.1.below HB.out
        obtain ⟨old, hold, hos, -⟩ := h6.tab
        obtain ⟨hz, h1c⟩ := hr2.one hcs
        have HLD := Lib.hid (show ∀ j v, cs[j]? = some v → wr.cell? ((⟨cb, 0, none⟩ : Addr).add j) = some v from fun j v hj => by rw [add_at, cell_of_row _ _ _ _ _ _ hcs, Nat.zero_add]; exact hj)
        have HFR := Lib.hid (hr2.copy (by decide) (u := b) (by rintro rfl; have := HA.out.1.lt; have := HW1.out.1; omega) hcs hold)
        have HCS := Lib.hid (And.intro hcs (And.intro hold (And.intro hos (And.intro hz h1c))))
        clear hr2 hcs h6 hold hos hz h1c
        go_wp2_with (first
          | ((with_reducible change wpList _ _ _ (⟨_, .load 77 _, _, _, _, _⟩ :: _) _ _); refine wpList_load_cells rfl 77 (.tmp 33) rfl ⟨cb, 0, none⟩ rfl cs _ HLD.out Tryd.underlying77 rfl size77 (by rw [HCS.out.2.2.2.1]) ?_)
          | ((with_reducible change wpList _ _ _ (⟨_, .store 77 _ _, _, _, _, _⟩ :: _) _ _); refine wpList_store_row rfl 77 (.tmp 35) (.tmp 34) rfl b cs rfl rfl 77 old HCS.out.2.1 (by rw [HCS.out.2.2.2.1]; exact size77) (by rw [HCS.out.2.2.1, HCS.out.2.2.2.1]) HCS.out.2.2.2.2 ?_))
        go_ret
        refine ⟨by rw [HC.out, H0.out]; rfl, lv2, ?_, ?_⟩
        · rw [show applyS S l = runS S l from by unfold applyS; rw [HC.out, H0.out, if_pos rfl]]
          exact HFR.out
        · exact ⟨HB.out.os, HB.out.tape, HB.out.output, Nat.le_trans HB.out.size (by simp), fun k hk hne => (setRow_other _ _ _ _ (by rintro rfl; exact hne rfl)).trans (HB.out.block k hk)⟩
end Go.Proofs.YthccppldpfddjaaDoor
