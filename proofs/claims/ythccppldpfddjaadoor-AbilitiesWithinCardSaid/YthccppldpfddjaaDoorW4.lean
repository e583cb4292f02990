/- The program's Within (18). -/
import Derived.Test.YthccppldpfddjaaDoorqT
import Derived.Test.YthccppldpfddjaaDoorD3
namespace Go.Proofs.YthccppldpfddjaaDoor
open Go.RowKit
set_option linter.unusedVariables false
attribute [local go_sem] Oper.semAt_some
theorem results_cell_box {fn : Func} {p : Tmp} {ty : TypeId} (h : fn.results = #[.cell p ty]) (tmps : Array Value) (P : Program) (w : World) (a : Addr) (v : Value) (d : TypeDesc) (hp : tmps.getD p undef = .pointer (some a)) (hc : w.cell? a = some v)
    (hu : P.underlying ty = some d) (hd : (match d with | .struct _ | .array _ _ => true | _ => false) = false) : (results fn tmps).run P w = .ok v w := by
  have hp' : tmps[p]?.getD undef = .pointer (some a) := by simpa using hp
  have hagg : (isAgg ty).run P w = .ok false w := by
    unfold isAgg
    rw [Sem.run_bind, run_underlying hu w]
    cases d <;> simp_all
  simp [results, h, hp', asAddr, loadVar, Sem.run_bind, hagg, hc]
def oneW (S T : St) (i : Nat) : Bool := (S i).rs.all fun x => (T i).rs.any (hasR x)
def wthK (S T : St) (k : Nat) : Bool := (List.range k).all (oneW S T)
theorem wthK_all (S T : St) : wthK S T 64 = wthB S T := rfl
theorem wthK_next {S T : St} {k : Nat} (h : wthK S T k = true) (h1 : oneW S T k = true) : wthK S T (k + 1) = true := by
  unfold wthK at *
  rw [List.range_succ, List.all_append, h, Bool.true_and]
  simp [h1]
theorem wthK_stop {S T : St} {k : Nat} (hk : k < 64) (h1 : oneW S T k = false) : wthB S T = false := by
  rw [← wthK_all, Bool.eq_false_iff]
  intro h
  have := List.all_eq_true.1 h k (by simpa using hk)
  rw [h1] at this
  cases this
/-- What the loop of Within keeps. -/
structure WL (w : World) (c : Nat) (S T : St) (k : Nat) (W : World) : Prop where
  bel : Below w.heap.size w W
  b0 : Boxed W w.heap.size 24 (.pointer (some ⟨c, 0, none⟩))
  b1 : Boxed W (w.heap.size + 1) 4 (.bool false)
  sz : w.heap.size + 2 < W.heap.size
  ok : wthK S T k = true
theorem WL.turn {w : World} {c : Nat} {S T : St} {k : Nat} {A B : World} (h : WL w c S T k A) {s : Nat} (hs : w.heap.size ≤ s) (ht : ∀ b, Turn s b A B) : WL w c S T k B :=
  ⟨(ht w.heap.size).below h.bel (Nat.le_refl _) (Nat.le_refl _) hs, (ht (w.heap.size + 1)).boxed h.b0 (by omega), (ht (w.heap.size + 2)).boxed h.b1 (by omega), Nat.lt_of_lt_of_le h.sz (ht 0).size, h.ok⟩
theorem WL.below {w : World} {c : Nat} {S T : St} {k : Nat} {A B : World} (h : WL w c S T k A) (hb : Below A.heap.size A B) : WL w c S T k B :=
  ⟨h.bel.trans (hb.mono h.bel.size), (hb.block _ h.b0.lt).trans h.b0, (hb.block _ h.b1.lt).trans h.b1, Nat.lt_of_lt_of_le h.sz hb.size, h.ok⟩
/-- What it leaves where it stops. -/
structure WX (w : World) (S T : St) (W : World) : Prop where
  bel : Below w.heap.size w W
  b1 : Boxed W (w.heap.size + 1) 4 (.bool false)
  no : wthB S T = false
theorem WX.turn {w : World} {S T : St} {A B : World} (h : WX w S T A) {s : Nat} (hs : w.heap.size ≤ s) (ht : ∀ b, Turn s b A B) : WX w S T B :=
  ⟨(ht w.heap.size).below h.bel (Nat.le_refl _) (Nat.le_refl _) hs, (ht (w.heap.size + 2)).boxed h.b1 (by omega), h.no⟩
set_option maxHeartbeats 16000000 in
set_option maxRecDepth 100000 in
theorem within_in (b c : Nat) (lv lu : Nat → Value) (S T : St) (w : World) (h : RArr 64 77 43 w b lv S) (hS : StOk S) (hu : RArr 64 77 43 w c lu T) (hT : StOk T) :
    CallsIn Fence.wide 5 Tryd.prog 18 #[.pointer (some ⟨b, 0, none⟩), .pointer (some ⟨c, 0, none⟩)] w fun e w' => e = .returned (.bool (wthB S T)) ∧ Below w.heap.size w w' := by
  have HA := Lib.hid (And.intro h (And.intro hS (And.intro hu hT)))
  have HP := Lib.hid (allof_calls (.pointer (some ⟨b, 0, none⟩)) ⟨_, rfl⟩)
  clear h hS hu hT
  refine callsIn_of_wp_marks Tryd.func18 rfl trivial ?_ rfl
  simp only [Tryd.ntmps18, List.size_toArray, List.length_cons, List.length_nil, Nat.reduceAdd, Nat.reduceSub, Array.replicate_succ, Array.replicate_zero, List.push_toArray, List.append_toArray, List.nil_append, List.cons_append]
  gi_wp2_with (refine ⟨trivial, ?_⟩; gi_at_call 38; refine (callsIn_wide.2 (HP.out _)).mono ?_; rintro e w2 ⟨rfl, rfl⟩)
  obtain ⟨W1, hW1⟩ : ∃ W1, ((w.alloc (.cells #[.pointer (some ⟨c, 0, none⟩)] 24)).alloc (.cells #[.bool false] 4)).alloc (.cells #[.pointer (some ⟨b, 0, none⟩)] 127) = W1 := ⟨_, rfl⟩
  have hs1 : W1.heap.size = w.heap.size + 3 := by rw [← hW1]; simp
  have hbx : Boxed W1 (w.heap.size + 2) 127 (.pointer (some ⟨b, 0, none⟩)) := by
    rw [← hW1]
    have := Boxed.new ((w.alloc (.cells #[.pointer (some ⟨c, 0, none⟩)] 24)).alloc (.cells #[.bool false] 4)) 127 (.pointer (some ⟨b, 0, none⟩))
    simpa using this
  have hD0 : WL w c S T 0 W1 := by
    refine ⟨?_, ?_, ?_, by omega, rfl⟩
    · rw [← hW1]; exact (((Below.refl _ w).alloc (Nat.le_refl _) _).alloc (by simp) _).alloc (by simp; omega) _
    · rw [← hW1]; exact ((Boxed.new w 24 _).alloc _).alloc _
    · rw [← hW1]
      have := (Boxed.new (w.alloc (.cells #[.pointer (some ⟨c, 0, none⟩)] 24)) 4 (.bool false)).alloc (.cells #[.pointer (some ⟨b, 0, none⟩)] 127)
      simpa using this
  rw [hW1]
  have HS1 := Lib.hid (And.intro hs1 hbx)
  have HD0 := Lib.hid hD0
  clear hs1 hbx hD0 hW1
  refine wpIn_rangeFunc_B (α := Nat) rfl (by omega) (gf := 62) rfl trivial (enters_of Tryd.func62 (by kernel_rfl) rfl) (all_seq (w.heap.size + 2) b W1 HS1.out.2) (fun h k => h.trans k)
    (fun W l o o' h1 h2 h3 _ => keepB_put (by have := HS1.out; omega)) (Below.refl _ _) (by intro k hk; exact hk.elim) (fun _ => rfl)
    (fun pre W => WL w c S T pre.length W)
    (fun cd _ W => cd = .ret ∧ WX w S T W)
    (fun s A B row hs hg hr => WL.turn hs (s := W1.heap.size) (by have := HS1.out; omega) fun b => Turn.of_own hg hr)
    (fun s A B hs hb => WL.turn hs (s := W1.heap.size) (by have := HS1.out; omega) fun b => Turn.of_but' hb)
    (fun cd s A B row hs hg hr => ⟨hs.1, WX.turn hs.2 (s := W1.heap.size) (by have := HS1.out; omega) fun b => Turn.of_own hg hr⟩)
    HD0.out
    (fun pre x a₁ W => WL w c S T pre.length W ∧ ∃ b6, W.heap[b6]? = some (.cells #[.int .i64 ((x / 32 : Nat) : Int), .int .i64 ((x % 32 : Nat) : Int)] 87 (0, 0)) ∧
      a₁ = { tmps := #[.pointer (some ⟨b, 0, none⟩), .pointer (some ⟨c, 0, none⟩), undef, .pointer (some ⟨w.heap.size, 0, none⟩), .pointer (some ⟨w.heap.size + 1, 0, none⟩), .pointer (some ⟨b6, 0, none⟩), .pointer (some ⟨b, x * 3, none⟩), undef, undef,
        .pointer (some ⟨b, 0, none⟩), .bool false, .bool false, .pointer (some ⟨c, 0, none⟩), .bool false, .bool false, .pointer (some ⟨b, 0, none⟩), .pointer (some ⟨b, 0, none⟩), .pointer (some ⟨b, 0, none⟩), .func (.func 62) #[] #[.pointer (some ⟨w.heap.size + 2, 0, none⟩)],
        .agg #[.int .i64 ((x / 32 : Nat) : Int), .int .i64 ((x % 32 : Nat) : Int)], .pointer (some ⟨b, x * 3, none⟩), undef, undef, undef, undef, undef, undef, undef, undef, undef, undef, undef, undef, undef, undef, undef, undef, undef, undef, undef, undef, undef, undef, undef, undef], defers := [] })
    ?hAx
    ?assign ?body ?done ?stop
  case hAx =>
    rintro pre x a₁ s A B row ⟨h3, b6, h4, h5⟩ hg hr
    have t : ∀ b, Turn W1.heap.size b A B := fun b => Turn.of_own hg hr
    exact ⟨h3.turn (by have := HS1.out; omega) t, b6, (t (b6 + 1)).cells h4 (by omega), h5⟩
  case assign =>
    intro l pre x W K hI hal hK
    unfold encI
    have hbe := hI.below ((Below.refl _ W).alloc (Nat.le_refl _) (Obj.cells #[.int .i64 ((x / 32 : Nat) : Int), .int .i64 ((x % 32 : Nat) : Int)] 87))
    have hsz := hI.sz
    generalize x / 32 = d at *
    generalize x % 32 = j at *
    gi_wp2
    exact hK _ _ (KeepsOthers.alloc W _) (keepB_below ((Below.refl _ _).alloc (Nat.le_refl _) _) hsz) ⟨hbe, _, heap_alloc_new W _, rfl⟩
  case body =>
    rintro l pre x a₁ W ⟨hx, rfl⟩ ⟨hI, b6, h6, rfl⟩
    rw [List.length_range] at hI
    have HI := Lib.hid (And.intro hI h6)
    have ho : x / 32 * 96 + x % 32 * 3 = x * 3 := by omega
    have hd2 : ((x / 32 : Nat) : Int) < 2 := by omega
    have hj2 : ((x % 32 : Nat) : Int) < 32 := by omega
    have HR := Lib.hid (HA.out.1.below hI.bel)
    have HU := Lib.hid (HA.out.2.2.1.below hI.bel)
    obtain ⟨A1, cp1, hv1, -, -, -, -⟩ := Rw.form (HR.out.row x hx)
    obtain ⟨A2, cp2, hv2, -, -, -, -⟩ := Rw.form (HU.out.row x hx)
    have HF2 := Lib.hid (show ∀ w', Below W.heap.size W w' → w'.cell? ⟨w.heap.size, 0, none⟩ = some (.pointer (some ⟨c, 0, none⟩)) ∧ w'.cell? ⟨b6, 0, none⟩ = some (.int .i64 ((x / 32 : Nat) : Int)) ∧ w'.cell? ⟨b6, 1, none⟩ = some (.int .i64 ((x % 32 : Nat) : Int)) ∧
        w'.cell? ⟨b, x * 3, none⟩ = some (.slice A1 (S x).rs.length cp1) ∧ w'.cell? ⟨c, x * 3, none⟩ = some (.slice A2 (T x).rs.length cp2) ∧ Ls w' 43 (.slice A1 (S x).rs.length cp1) (S x).rs ∧ Ls w' 43 (.slice A2 (T x).rs.length cp2) (T x).rs from fun w' hw => by
      have e6 := (hw.block b6 (Array.getElem?_eq_some_iff.1 HI.out.2).1).trans HI.out.2
      obtain ⟨q0, -, -⟩ := (HR.out.below hw).three hx
      obtain ⟨p0, -, -⟩ := (HU.out.below hw).three hx
      have q1 := (HR.out.below hw).row x hx
      have p1 := (HU.out.below hw).row x hx
      rw [hv1] at q0 q1
      rw [hv2] at p0 p1
      exact ⟨(HI.out.1.below hw).b0.cell, by rw [cell_of_row _ _ _ _ _ _ e6]; rfl, by rw [cell_of_row _ _ _ _ _ _ e6]; rfl, q0, p0, q1, p1⟩)
    obtain ⟨u1, u2, u3, u4, u5, -, -⟩ := HF2.out W (Below.refl _ _)
    have HX := Lib.hid (And.intro hx (And.intro (HA.out.2.1 x hx).2 (HA.out.2.2.2 x hx).2))
    have HO := Lib.hid (show oneW S T x = (S x).rs.all fun r => (T x).rs.any (hasR r) from rfl)
    have ho2 : x / 32 * 96 + x % 32 * 3 = x * 3 := ho
    have HOO := Lib.hid ho
    clear hI h6 hv1 hv2 ho hx
    generalize x / 32 = d at *
    generalize x % 32 = j at *
    generalize hSx : (S x).rs = rs at *
    generalize hTx : (T x).rs = ts at *
    clear hSx hTx
    gi_wp2
    gi_loopw [26] (fun i wr => ∃ k : Nat, k ≤ rs.length ∧ i = .int .i64 k ∧ Hid (Below W.heap.size W wr) ∧ Hid ((rs.take k).all (fun r => ts.any (hasR r)) = true)) (fun i _ => rs.length - (intOf i).toNat)
    case atStart => exact ⟨0, by omega, rfl, Lib.hid (Below.refl _ _), Lib.hid rfl⟩
    case round =>
      clear u1 u2 u3 u4 u5
      obtain ⟨k, hk, rfl, HB, HT⟩ := hrel
      by_cases hlt : k < rs.length
      · have hlt' : (k : Int) < (rs.length : Int) := by omega
        have hk6 : (k : Int) ≤ 50 := by have := HX.out.2.1; omega
        obtain ⟨u1, u2, u3, u4, u5, u6, u7⟩ := HF2.out wr HB.out
        obtain ⟨g, rfl, hg, q1, q2⟩ := Ls.at u6 rfl hlt
        have HTk := Lib.hid (show (rs.take (k + 1)).all (fun r => ts.any (hasR r)) = ts.any (hasR rs[k]) from by rw [List.take_succ_eq_append_getElem hlt, List.all_append, HT.out]; simp)
        have HTn := Lib.hid (show ts.any (hasR rs[k]) = false → rs.all (fun r => ts.any (hasR r)) = false from fun h => by
          rw [Bool.eq_false_iff]
          intro h9
          have := List.all_eq_true.1 h9 rs[k] (List.getElem_mem hlt)
          rw [h] at this
          cases this)
        clear u6 u7 u4
        generalize rs[k] = r at *
        obtain ⟨y1, y2⟩ := r
        simp only at q1 q2
        gi_wp2
        have HX3 := Lib.hid (heap_alloc_new wr (.cells #[.int .i64 y1, .int .i64 y2] 43))
        have HB3 := Lib.hid (HB.out.alloc HB.out.size (.cells #[.int .i64 y1, .int .i64 y2] 43))
        clear u1 u2 u3 u5 q1 q2
        generalize wr.alloc (.cells #[.int .i64 y1, .int .i64 y2] 43) = W3 at *
        cases hX : ts.any (hasR (y1, y2))
        · have HNo := Lib.hid (HTn.out hX)
          apply EndsIn.const (G := fun w' => Below W.heap.size W w')
          case walk =>
            have HF7 := Lib.hid (fun w' (hw : Below W3.heap.size W3 w') => HF2.out w' (HB3.out.trans (hw.mono HB3.out.size)))
            refine wpIn_round_mid 13 [0, 1, 2, 3, 4, 5, 6, 7, 8, 9, 10, 11] [12] (fun w' => Below W3.heap.size W3 w')
              [.pointer (some ⟨c, 0, none⟩), .pointer (some ⟨b6, 0, none⟩), .int .i64 d, .pointer (some ⟨b6, 1, none⟩), .int .i64 j, .pointer (some ⟨c, 0, none⟩), .pointer (some ⟨c, 0, none⟩), .pointer (some ⟨c, d * 96, none⟩), .pointer (some ⟨c, x * 3, none⟩), .pointer (some ⟨c, x * 3, none⟩), .slice A2 ts.length cp2, .func (.func 55) #[] #[.pointer (some ⟨wr.heap.size, 0, none⟩)]]
              Ends.stays (by rfl) (by kernel_rfl) (by kernel_rfl) (fun _ _ _ _ _ h => h) (Below.drew (Below.refl _ _)) ?heads ?_
            case heads =>
              have hmf : ∀ (fn : Fn) (first cap : Array Value) (w : World), (Instr.makeFunc fn first cap).run Tryd.prog w = .ok (.func fn first cap) w := fun _ _ _ _ => rfl
              refine ⟨.inl ⟨rfl, fun w' hw => ?_⟩, .inl ⟨rfl, fun w' hw => ?_⟩, .inl ⟨rfl, fun w' hw => ?_⟩, .inl ⟨rfl, fun w' hw => ?_⟩, .inl ⟨rfl, fun w' hw => ?_⟩, .inl ⟨rfl, fun w' hw => ?_⟩, .inl ⟨rfl, fun w' hw => ?_⟩, .inl ⟨rfl, fun w' hw => ?_⟩, .inl ⟨rfl, fun w' hw => ?_⟩, .inl ⟨rfl, fun w' hw => ?_⟩, .inl ⟨rfl, fun w' hw => ?_⟩, .inl ⟨rfl, fun w' hw => ?_⟩, trivial⟩ <;>
                (obtain ⟨f1, f2, f3, f4, f5, f6, f7⟩ := HF7.out w' hw; show (execOp _ _).run Tryd.prog w' = _; go_simp)
            simp only [List.drop_succ_cons, List.drop_zero, putIdx, Act.put, List.getElem?_cons_zero, List.getElem?_cons_succ, List.setIfInBounds_toArray, List.set_cons_zero, List.set_cons_succ]
            refine wpMids_cons rfl fun K hK => ?_
            refine if_wanted rfl (step_call 54 _ _ rfl (fun _ _ => rfl) [.slice A2 ts.length cp2, .func (.func 55) #[] #[.pointer (some ⟨wr.heap.size, 0, none⟩)]] rfl (contains_calls _ ts (hasR (y1, y2)) 55 _ (enters_of Tryd.func55 (by kernel_rfl) rfl) W3.drew (HF7.out _ (Below.drew (Below.refl _ _))).2.2.2.2.2.2 (by have := HX.out.2.2; omega) (pred55 wr.heap.size y1 y2 W3.drew HX3.out)) ?_)
            rintro e w5 ⟨he, h2⟩
            rw [hX] at he
            subst he
            refine ⟨_, rfl, hK _ _ ((Below.drew (Below.refl _ _)).trans h2) ?_⟩
            have HB5 := Lib.hid (HB3.out.trans (((Below.drew (Below.refl _ _)).trans h2).mono HB3.out.size))
            clear h2 hK K
            try simp only [Act.put, List.setIfInBounds_toArray, List.set_cons_zero, List.set_cons_succ]
            refine wpMids_nil ?_
            go_wp2
            exact Ends.mk ⟨rfl, HB5.out⟩
          case imp =>
            intro w5 h5
            have HL5 := Lib.hid (HI.out.1.below h5)
            have hcr := HL5.out.b1.cell
            have hfr := HL5.out.b1.frozen
            have HB5 := Lib.hid h5
            clear h5
            gi_wp2
            exact ⟨(keepsO_below HB5.out).trans (KeepsOthers.setCell _ _ _), rfl, HL5.out.bel.setCell (by simp) _, HL5.out.b1.set _, wthK_stop HX.out.1 (HO.out.trans HNo.out)⟩
        · have HYes := Lib.hid (HTk.out.trans hX)
          apply EndsIn.const (G := fun w' => Below W.heap.size W w')
          case walk =>
            have HF7 := Lib.hid (fun w' (hw : Below W3.heap.size W3 w') => HF2.out w' (HB3.out.trans (hw.mono HB3.out.size)))
            refine wpIn_round_mid 13 [0, 1, 2, 3, 4, 5, 6, 7, 8, 9, 10, 11] [12] (fun w' => Below W3.heap.size W3 w')
              [.pointer (some ⟨c, 0, none⟩), .pointer (some ⟨b6, 0, none⟩), .int .i64 d, .pointer (some ⟨b6, 1, none⟩), .int .i64 j, .pointer (some ⟨c, 0, none⟩), .pointer (some ⟨c, 0, none⟩), .pointer (some ⟨c, d * 96, none⟩), .pointer (some ⟨c, x * 3, none⟩), .pointer (some ⟨c, x * 3, none⟩), .slice A2 ts.length cp2, .func (.func 55) #[] #[.pointer (some ⟨wr.heap.size, 0, none⟩)]]
              Ends.stays (by rfl) (by kernel_rfl) (by kernel_rfl) (fun _ _ _ _ _ h => h) (Below.drew (Below.refl _ _)) ?heads ?_
            case heads =>
              have hmf : ∀ (fn : Fn) (first cap : Array Value) (w : World), (Instr.makeFunc fn first cap).run Tryd.prog w = .ok (.func fn first cap) w := fun _ _ _ _ => rfl
              refine ⟨.inl ⟨rfl, fun w' hw => ?_⟩, .inl ⟨rfl, fun w' hw => ?_⟩, .inl ⟨rfl, fun w' hw => ?_⟩, .inl ⟨rfl, fun w' hw => ?_⟩, .inl ⟨rfl, fun w' hw => ?_⟩, .inl ⟨rfl, fun w' hw => ?_⟩, .inl ⟨rfl, fun w' hw => ?_⟩, .inl ⟨rfl, fun w' hw => ?_⟩, .inl ⟨rfl, fun w' hw => ?_⟩, .inl ⟨rfl, fun w' hw => ?_⟩, .inl ⟨rfl, fun w' hw => ?_⟩, .inl ⟨rfl, fun w' hw => ?_⟩, trivial⟩ <;>
                (obtain ⟨f1, f2, f3, f4, f5, f6, f7⟩ := HF7.out w' hw; show (execOp _ _).run Tryd.prog w' = _; go_simp)
            simp only [List.drop_succ_cons, List.drop_zero, putIdx, Act.put, List.getElem?_cons_zero, List.getElem?_cons_succ, List.setIfInBounds_toArray, List.set_cons_zero, List.set_cons_succ]
            refine wpMids_cons rfl fun K hK => ?_
            refine if_wanted rfl (step_call 54 _ _ rfl (fun _ _ => rfl) [.slice A2 ts.length cp2, .func (.func 55) #[] #[.pointer (some ⟨wr.heap.size, 0, none⟩)]] rfl (contains_calls _ ts (hasR (y1, y2)) 55 _ (enters_of Tryd.func55 (by kernel_rfl) rfl) W3.drew (HF7.out _ (Below.drew (Below.refl _ _))).2.2.2.2.2.2 (by have := HX.out.2.2; omega) (pred55 wr.heap.size y1 y2 W3.drew HX3.out)) ?_)
            rintro e w5 ⟨he, h2⟩
            rw [hX] at he
            subst he
            refine ⟨_, rfl, hK _ _ ((Below.drew (Below.refl _ _)).trans h2) ?_⟩
            have HB5 := Lib.hid (HB3.out.trans (((Below.drew (Below.refl _ _)).trans h2).mono HB3.out.size))
            clear h2 hK K
            try simp only [Act.put, List.setIfInBounds_toArray, List.set_cons_zero, List.set_cons_succ]
            refine wpMids_nil ?_
            go_wp2
            exact Ends.mk ⟨rfl, HB5.out⟩
          case imp =>
            intro w5 h5
            have HB5 := Lib.hid h5
            clear h5
            gi_wp2
            go_roundw
            case rel => exact ⟨k + 1, by omega, by go_num, HB5, HYes⟩
            case measure => simp [intOf]; omega
      · obtain rfl : k = rs.length := by omega
        rw [List.take_length] at HT
        gi_wp2
        exact ⟨keepsO_below HB.out, keepB_below HB.out HI.out.1.sz, by
          show WL _ _ _ _ (List.length _) _
          rw [List.length_append, List.length_range]
          have h9 := HI.out.1.below HB.out
          exact ⟨h9.bel, h9.b0, h9.b1, h9.sz, wthK_next h9.ok (HO.out.trans HT.out)⟩⟩
  case done =>
    rintro D xs W hD rfl hI hK
    rw [List.length_range] at hI
    have hcr := hI.b1.cell
    have hfr := hI.b1.frozen
    have HI := Lib.hid (And.intro hI hK)
    clear hI hK
    gi_wp2
    refine ⟨by simp, .inl ⟨_, _, rfl, run_takeDeferred ((KeepsOthers.setCell _ _ _).same D _ HI.out.2 rfl), ?_⟩⟩
    have hs := HS1.out.1
    exact ⟨_, results_cell_box rfl _ _ _ ⟨w.heap.size + 1, 0, none⟩ (.bool true) _ rfl (by rw [World.cell?_of_block (w := W.setCell ⟨w.heap.size + 1, 0, none⟩ (.bool true)) (World.putObj_heap_other (by simp; omega))]; exact (HI.out.1.b1.set _).cell) Tryd.underlying4 rfl,
      by rw [← wthK_all, HI.out.1.ok], (HI.out.1.bel.setCell (by simp) _).trans (belowK_b (w := w) (Nat.le_refl _) _ D _ _ (by omega) ((KeepsOthers.setCell _ _ _).same D _ HI.out.2 rfl) rfl rfl)⟩
  case stop =>
    rintro D cd pre W hD hpre ⟨rfl, h2⟩ hK
    have HI := Lib.hid (And.intro h2 hK)
    clear h2 hK
    gi_wp2
    have hs := HS1.out.1
    refine ⟨by simp, .inl ⟨_, _, rfl, run_takeDeferred HI.out.2, ?_⟩⟩
    exact ⟨_, results_cell_box rfl _ _ _ ⟨w.heap.size + 1, 0, none⟩ (.bool false) _ rfl (by rw [World.cell?_of_block (w := W) (World.putObj_heap_other (by simp; omega))]; exact HI.out.1.b1.cell) Tryd.underlying4 rfl,
      by rw [HI.out.1.no], HI.out.1.bel.trans (belowK_b (w := w) (Nat.le_refl _) _ D _ _ (by omega) HI.out.2 rfl rfl)⟩
end Go.Proofs.YthccppldpfddjaaDoor
