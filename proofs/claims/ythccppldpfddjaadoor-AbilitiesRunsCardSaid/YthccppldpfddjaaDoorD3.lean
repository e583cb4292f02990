/- The text of all rights (13). -/
import Derived.Test.YthccppldpfddjaaDoorD4
namespace Go.Proofs.YthccppldpfddjaaDoor
open Go.RowKit
set_option linter.unusedVariables false
attribute [local go_sem] Oper.semAt_some
theorem let_calls (b : Bool) (c : UInt8) (w : World) : Calls Tryd.prog 42 #[.bool b, .string ⟨#[c]⟩] w fun e w' => e = .returned (.string ⟨(letB b c).toArray⟩) ∧ w' = w := by
  refine (letter_calls b ⟨#[c]⟩ w).mono ?_
  rintro e w' ⟨rfl, rfl⟩
  cases b <;> exact ⟨rfl, rfl⟩
theorem TI.skip {w : World} {S : St} {k : Nat} {A : World} (h : TI w S k A) (hl : lineS S k = []) : TI w S (k + 1) A := by
  have e : txtK S (k + 1) = txtK S k := by rw [txtK_succ, hl, List.append_nil]
  exact ⟨by rw [e]; exact h.bd, h.bel, h.sz, h.bx⟩
theorem EndsIn.const {F : Fence} {n : Nat} {P : Program} {c : Code} {a : Act} {w : World} {Q : Exit → Act → World → Prop} (T : Act) (G : World → Prop)
    (walk : c.wpIn F n P (Ends fun a' w' => a' = T ∧ G w') a w) (imp : ∀ w', G w' → Q .normal T w') : c.wpIn F n P Q a w :=
  wpIn_mono walk (Ends.imp fun a' w' h => by obtain ⟨rfl, hf⟩ := h; exact imp w' hf)
set_option maxHeartbeats 8000000 in
set_option maxRecDepth 100000 in
theorem text_in (b : Nat) (lv : Nat → Value) (S : St) (w : World) (h : RArr 64 77 43 w b lv S) (hS : StOk S) (hD : DomAt w) (hP : PowAt w) :
    CallsIn Fence.wide 5 Tryd.prog 13 #[.pointer (some ⟨b, 0, none⟩)] w fun e w' => e = .returned (.string ⟨(textS S).toArray⟩) ∧ Below w.heap.size w w' := by
  have HA := Lib.hid (And.intro h (And.intro hS (And.intro hD hP)))
  have HP := Lib.hid (allof_calls (.pointer (some ⟨b, 0, none⟩)) ⟨_, rfl⟩)
  have h0w : 0 < w.heap.size := by have := h.lt; omega
  clear h hS hD hP
  refine callsIn_of_wp_marks Tryd.func13 rfl trivial ?_ rfl
  simp only [Tryd.ntmps13, List.size_toArray, List.length_cons, List.length_nil, Nat.reduceAdd, Nat.reduceSub, Array.replicate_succ, Array.replicate_zero, List.push_toArray, List.append_toArray, List.nil_append, List.cons_append]
  gi_wp2_with (refine ⟨trivial, ?_⟩; gi_at_call 38; refine (callsIn_wide.2 (HP.out _)).mono ?_; rintro e w2 ⟨rfl, rfl⟩)
  obtain ⟨W1, hW1⟩ : ∃ W1, (w.alloc (.cells #[.pointer none, .slice none 0 0] 83)).alloc (.cells #[.pointer (some ⟨b, 0, none⟩)] 127) = W1 := ⟨_, rfl⟩
  have hs1 : W1.heap.size = w.heap.size + 2 := by rw [← hW1]; simp
  have hbx : Boxed W1 (w.heap.size + 1) 127 (.pointer (some ⟨b, 0, none⟩)) := by
    rw [← hW1]
    have := Boxed.new (w.alloc (.cells #[.pointer none, .slice none 0 0] 83)) 127 (.pointer (some ⟨b, 0, none⟩))
    simpa using this
  have hT0 : TI w S 0 W1 := by
    refine ⟨?_, by rw [← hW1]; exact ((Below.refl _ _).alloc (Nat.le_refl _) _).alloc (by simp) _, by omega, _, hbx⟩
    rw [← hW1]
    exact .inl ⟨rfl, (Below.heap_alloc _ _ _ (by simp)).trans (heap_alloc_new w _)⟩
  rw [hW1]
  have HS1 := Lib.hid (And.intro hs1 hbx)
  have HT0 := Lib.hid hT0
  clear hs1 hbx hT0 hW1
  refine wpIn_rangeFunc_B (α := Nat) rfl (by omega) (gf := 62) rfl trivial (enters_of Tryd.func62 (by kernel_rfl) rfl) (all_seq (w.heap.size + 1) b W1 HS1.out.2) (fun h k => h.trans k)
    (fun W l o o' h1 h2 h3 _ => keepB_put (by have := HS1.out; omega)) (Below.refl _ _) (by intro k hk; exact hk.elim) (fun _ => rfl)
    (fun pre W => TI w S pre.length W)
    (fun _ _ _ => False)
    (fun s A B row hs hg hr => TI.turn hs (s := W1.heap.size) (by have := HS1.out; omega) fun b => Turn.of_own hg hr)
    (fun s A B hs hb => TI.turn hs (s := W1.heap.size) (by have := HS1.out; omega) fun b => Turn.of_but' hb)
    (fun c s A B row hs hg hr => hs)
    HT0.out
    (fun pre x a₁ W => TI w S pre.length W ∧ ∃ b6, W.heap[b6]? = some (.cells #[.int .i64 ((x / 32 : Nat) : Int), .int .i64 ((x % 32 : Nat) : Int)] 87 (0, 0)) ∧
      a₁ = { tmps := #[.pointer (some ⟨b, 0, none⟩), undef, .string ⟨#[]⟩, .pointer (some ⟨w.heap.size, 0, none⟩), .pointer (some ⟨b6, 0, none⟩), .pointer (some ⟨b, x * 3, none⟩), undef, undef, .pointer (some ⟨b, 0, none⟩), .bool false, .pointer (some ⟨b, 0, none⟩), .pointer (some ⟨b, 0, none⟩), .pointer (some ⟨b, 0, none⟩), .func (.func 62) #[] #[.pointer (some ⟨w.heap.size + 1, 0, none⟩)],
        .agg #[.int .i64 ((x / 32 : Nat) : Int), .int .i64 ((x % 32 : Nat) : Int)], .pointer (some ⟨b, x * 3, none⟩), undef, undef, undef, undef, undef, undef, undef, undef, undef, undef, undef, undef, undef, undef, undef, undef, undef, undef, undef, undef, undef, undef, undef, undef, undef, undef, undef, undef, undef, undef, undef, undef, undef, undef, undef, undef, undef, undef, undef, undef, undef, undef, undef, undef, undef, undef, undef, undef, undef, undef, undef, undef], defers := [] })
    ?hAx
    ?assign ?body ?done ?stop
  case hAx =>
    rintro pre x a₁ s A B row ⟨h3, b6, h4, h5⟩ hg hr
    have t : ∀ b, Turn W1.heap.size b A B := fun b => Turn.of_own hg hr
    exact ⟨h3.turn (by have := HS1.out; omega) t, b6, (t (b6 + 1)).cells h4 (by omega), h5⟩
  case assign =>
    intro l pre x W K hI hal hK
    unfold encI
    have hbe := hI.below ((Below.refl _ W).alloc (Nat.le_refl _) (Obj.cells #[.int .i64 ((x / 32 : Nat) : Int), .int .i64 ((x % 32 : Nat) : Int)] 87))
    have hsz := hI.sz
    generalize x / 32 = d at *
    generalize x % 32 = j at *
    gi_wp2
    exact hK _ _ (KeepsOthers.alloc W _) (keepB_below ((Below.refl _ _).alloc (Nat.le_refl _) _) hsz) ⟨hbe, _, heap_alloc_new W _, rfl⟩
  case body =>
    rintro l pre x a₁ W ⟨hx, rfl⟩ ⟨hI, b6, h6, rfl⟩
    rw [List.length_range] at hI
    have hd2 : x / 32 < 2 := by omega
    have hj2 : x % 32 < 32 := by omega
    have HI := Lib.hid (And.intro hI (And.intro h6 (And.intro hx (And.intro hd2 hj2))))
    have HR := Lib.hid (HA.out.1.below hI.bel)
    obtain ⟨A1, cp1, hv1, -, -, -, -⟩ := Rw.form (HR.out.row x hx)
    have HLn := Lib.hid (And.intro (show Fr w.heap.size [83, 5] W W from Fr.refl _ _ _) (show (lineS S x) = if (S x).eqb (stdR (x / 32)) = true then [] else headS (x / 32) (x % 32) (S x) ++ ((S x).rs.flatMap rngS ++ [10]) from rfl))
    have HFB := Lib.hid (show ∀ w', Fr w.heap.size [83, 5] W w' → w'.cell? ⟨b6, 0, none⟩ = some (.int .i64 ((x / 32 : Nat) : Int)) ∧ w'.cell? ⟨b6, 1, none⟩ = some (.int .i64 ((x % 32 : Nat) : Int)) ∧
        w'.cell? ⟨b, x * 3, none⟩ = some (.slice A1 (S x).rs.length cp1) ∧ w'.cell? ⟨b, x * 3 + 1, none⟩ = some (.bool (S x).lk) ∧ w'.cell? ⟨b, x * 3 + 2, none⟩ = some (.bool (S x).inh) ∧ w'.cell? ⟨0, x / 32, none⟩ = some (.string ⟨(domB (x / 32)).toArray⟩) ∧
        (PowAt w' ∧ Ls w' 43 (.slice A1 (S x).rs.length cp1) (S x).rs) from fun w' hw => by
      have e6 := hw.oth b6 _ HI.out.2.1 (fun e he => by cases he; decide)
      have hR' := HR.out.fr hw (by decide) (by decide)
      obtain ⟨q0, q1, q2⟩ := hR'.three hx
      rw [hv1] at q0
      have hbw := HI.out.1.bel.trans hw.bel
      have hrow := hR'.row x hx
      rw [hv1] at hrow
      exact ⟨by rw [cell_of_row _ _ _ _ _ _ e6]; rfl, by rw [cell_of_row _ _ _ _ _ _ e6]; rfl, q0, q1, q2, (World.cell?_of_block (hbw.block 0 h0w)).trans (HA.out.2.2.1 _ hd2), HA.out.2.2.2.below HA.out.2.2.2.low hbw, hrow⟩)
    have HX := Lib.hid (And.intro (HA.out.2.1 x hx) (txtK_len S HA.out.2.1 x (by omega)))
    have HTK := Lib.hid (txtK_succ S x)
    clear hI h6 hv1 hx hd2 hj2
    generalize x / 32 = d at *
    generalize x % 32 = j at *
    have HST := Lib.hid (standard_calls d)
    gi_wp2
    apply EndsIn.splitV (G := fun v w3 => (∃ vs, v = .agg (rv vs (stdR d))) ∧ Below W.heap.size W w3)
    case walk =>
      have HF7 := Lib.hid (fun w' (hw : Below W.heap.size W w') => HFB.out w' (Fr.of_below hw (HI.out.1.bel.size)))
      refine wpIn_round_steps 6 [(true, 0), (true, 1), (true, 2), (true, 3), (true, 4), (false, 5)] (fun w' => Below W.heap.size W w') Ends.stays (by rfl) (by kernel_rfl) (by kernel_rfl) (fun _ _ _ _ _ h => h) (Below.drew (Below.refl _ _)) ?_
      refine steps_head rfl (.pointer (some ⟨b, x * 3, none⟩)) (.inl ⟨rfl, fun w' hw => ?_⟩) ?_
      focus
        obtain ⟨f1, f2, f3, f4, f5, f6, f7⟩ := HF7.out w' hw
        show (execOp _ _).run Tryd.prog w' = _
        go_simp
        try omega
      try simp only [Act.put, List.setIfInBounds_toArray, List.set_cons_zero, List.set_cons_succ]
      refine steps_head rfl (.pointer (some ⟨b, x * 3, none⟩)) (.inl ⟨rfl, fun w' hw => ?_⟩) ?_
      focus
        obtain ⟨f1, f2, f3, f4, f5, f6, f7⟩ := HF7.out w' hw
        show (execOp _ _).run Tryd.prog w' = _
        go_simp
        try omega
      try simp only [Act.put, List.setIfInBounds_toArray, List.set_cons_zero, List.set_cons_succ]
      refine steps_head rfl (.agg #[.slice A1 (S x).rs.length cp1, .bool (S x).lk, .bool (S x).inh]) (.inl ⟨rfl, fun w' hw => ?_⟩) ?_
      focus
        obtain ⟨f1, f2, f3, f4, f5, f6, f7⟩ := HF7.out w' hw
        show (execOp _ _).run Tryd.prog w' = _
        go_simp
        try omega
      try simp only [Act.put, List.setIfInBounds_toArray, List.set_cons_zero, List.set_cons_succ]
      refine steps_head rfl (.pointer (some ⟨b6, 0, none⟩)) (.inl ⟨rfl, fun w' hw => ?_⟩) ?_
      focus
        obtain ⟨f1, f2, f3, f4, f5, f6, f7⟩ := HF7.out w' hw
        show (execOp _ _).run Tryd.prog w' = _
        go_simp
        try omega
      try simp only [Act.put, List.setIfInBounds_toArray, List.set_cons_zero, List.set_cons_succ]
      refine steps_head rfl (.int .i64 d) (.inl ⟨rfl, fun w' hw => ?_⟩) ?_
      focus
        obtain ⟨f1, f2, f3, f4, f5, f6, f7⟩ := HF7.out w' hw
        show (execOp _ _).run Tryd.prog w' = _
        go_simp
        try omega
      try simp only [Act.put, List.setIfInBounds_toArray, List.set_cons_zero, List.set_cons_succ]
      refine steps_mid rfl fun K hK => ?_
      refine if_wanted rfl (step_call 36 _ _ rfl (fun _ _ => rfl) [.int .i64 d] rfl (HST.out _) ?_)
      rintro e w3 ⟨vs, rfl, hs1, hs2⟩
      have HB3 := Lib.hid (show Below W.heap.size W w3 from (Below.drew (Below.refl _ _)).trans (hs2.mono (Below.drew (Below.refl W.heap.size W)).size))
      refine ⟨_, rfl, hK _ _ HB3.out ?_⟩
      try simp only [Act.put, List.setIfInBounds_toArray, List.set_cons_zero, List.set_cons_succ]
      refine steps_nil ?_
      have HEq := Lib.hid (equal_calls (.slice A1 (S x).rs.length cp1) vs (S x) (stdR d) w3 (HF7.out w3 HB3.out).2.2.2.2.2.2.2 hs1 (by have := HX.out.1.2; omega))
      unfold rv at HEq ⊢
      clear hs1 hs2 hK K
      go_wp2_with (go_at_call 39; refine HEq.out.mono ?_; rintro e w4 ⟨rfl, h4⟩; have H4 := Lib.hid (HB3.out.trans (h4.mono HB3.out.size)); clear h4)
      generalize hV : Value.agg #[vs, Value.bool (stdR d).lk, Value.bool (stdR d).inh] = V
      apply Ends.mk
      exact ⟨V, rfl, ⟨vs, hV.symm⟩, H4.out⟩
    case imp =>
      rintro v w3 ⟨⟨vs, rfl⟩, hb3⟩
      have HB3 := Lib.hid hb3
      clear hb3
      unfold rv
      cases hq : (S x).eqb (stdR d)
      · rw [hq] at HLn
        simp only [Bool.false_eq_true, if_false] at HLn
        clear hq
        gi_wp2
        have HF8 := Lib.hid (fun w' (hw : Below W.heap.size W w') => HFB.out w' (Fr.of_below hw (HI.out.1.bel.size)))
        have hdi : (d : Int) < 2 := by have := HI.out.2.2.2.1; omega
        have hl1 : (domB d).length = 4 := by unfold domB; split <;> rfl
        have hl2 : (Lib.itoa (j : Int)).length ≤ 21 := itoa_len (j : Int) (by omega) (by have := HI.out.2.2.2.2; omega)
        have hl3 : (letB (S x).lk 108).length = 1 := rfl
        have hl4 : (letB (S x).inh 105).length = 1 := rfl
        have HLx := Lib.hid (let_calls (S x).lk 108)
        have HLi := Lib.hid (let_calls (S x).inh 105)
        apply EndsIn.const (G := fun w6 => Lib.BuilderAt 83 5 w.heap.size w.heap.size (.pointer (some ⟨w.heap.size, 0, none⟩)) (Lib.byteCells (txtK S x ++ headS d j (S x))) w6 ∧ Fr w.heap.size [83, 5] W w6)
        case walk =>
          refine wpIn_round_steps 22 [(true, 0), (true, 1), (true, 2), (true, 3), (true, 4), (true, 5), (true, 6), (true, 10), (true, 11), (true, 12), (true, 13), (true, 16), (true, 17), (true, 18), (true, 19), (false, 7), (true, 8), (true, 9), (false, 14), (true, 15), (false, 20), (true, 21)] (fun w' => Below W.heap.size W w') Ends.stays (by rfl) (by kernel_rfl) (by kernel_rfl) (fun _ _ _ _ _ h => h) (Below.drew HB3.out) ?_
          refine steps_head rfl (.pointer (some ⟨b6, 0, none⟩)) (.inl ⟨rfl, fun w' hw => ?_⟩) ?_
          focus
            obtain ⟨f1, f2, f3, f4, f5, f6, f7⟩ := HF8.out w' hw
            show (execOp _ _).run Tryd.prog w' = _
            go_simp
            try omega
          try simp only [Act.put, List.setIfInBounds_toArray, List.set_cons_zero, List.set_cons_succ]
          refine steps_head rfl (.int .i64 d) (.inl ⟨rfl, fun w' hw => ?_⟩) ?_
          focus
            obtain ⟨f1, f2, f3, f4, f5, f6, f7⟩ := HF8.out w' hw
            show (execOp _ _).run Tryd.prog w' = _
            go_simp
            try omega
          try simp only [Act.put, List.setIfInBounds_toArray, List.set_cons_zero, List.set_cons_succ]
          refine steps_head rfl (.pointer (some ⟨0, d, none⟩)) (.inl ⟨rfl, fun w' hw => ?_⟩) ?_
          focus
            obtain ⟨f1, f2, f3, f4, f5, f6, f7⟩ := HF8.out w' hw
            show (execOp _ _).run Tryd.prog w' = _
            go_simp
            try omega
          try simp only [Act.put, List.setIfInBounds_toArray, List.set_cons_zero, List.set_cons_succ]
          refine steps_head rfl (.string ⟨(domB d).toArray⟩) (.inl ⟨rfl, fun w' hw => ?_⟩) ?_
          focus
            obtain ⟨f1, f2, f3, f4, f5, f6, f7⟩ := HF8.out w' hw
            show (execOp _ _).run Tryd.prog w' = _
            go_simp
            try omega
          try simp only [Act.put, List.setIfInBounds_toArray, List.set_cons_zero, List.set_cons_succ]
          refine steps_head rfl (.string (⟨(domB d).toArray⟩ ++ ⟨#[32]⟩)) (.inl ⟨rfl, fun w' hw => ?_⟩) ?_
          focus
            obtain ⟨f1, f2, f3, f4, f5, f6, f7⟩ := HF8.out w' hw
            show (execOp _ _).run Tryd.prog w' = _
            go_simp
            try omega
          try simp only [Act.put, List.setIfInBounds_toArray, List.set_cons_zero, List.set_cons_succ]
          refine steps_head rfl (.pointer (some ⟨b6, 1, none⟩)) (.inl ⟨rfl, fun w' hw => ?_⟩) ?_
          focus
            obtain ⟨f1, f2, f3, f4, f5, f6, f7⟩ := HF8.out w' hw
            show (execOp _ _).run Tryd.prog w' = _
            go_simp
            try omega
          try simp only [Act.put, List.setIfInBounds_toArray, List.set_cons_zero, List.set_cons_succ]
          refine steps_head rfl (.int .i64 j) (.inl ⟨rfl, fun w' hw => ?_⟩) ?_
          focus
            obtain ⟨f1, f2, f3, f4, f5, f6, f7⟩ := HF8.out w' hw
            show (execOp _ _).run Tryd.prog w' = _
            go_simp
            try omega
          try simp only [Act.put, List.setIfInBounds_toArray, List.set_cons_zero, List.set_cons_succ]
          refine steps_head rfl (.pointer (some ⟨b, x * 3, none⟩)) (.inl ⟨rfl, fun w' hw => ?_⟩) ?_
          focus
            obtain ⟨f1, f2, f3, f4, f5, f6, f7⟩ := HF8.out w' hw
            show (execOp _ _).run Tryd.prog w' = _
            go_simp
            try omega
          try simp only [Act.put, List.setIfInBounds_toArray, List.set_cons_zero, List.set_cons_succ]
          refine steps_head rfl (.pointer (some ⟨b, x * 3, none⟩)) (.inl ⟨rfl, fun w' hw => ?_⟩) ?_
          focus
            obtain ⟨f1, f2, f3, f4, f5, f6, f7⟩ := HF8.out w' hw
            show (execOp _ _).run Tryd.prog w' = _
            go_simp
            try omega
          try simp only [Act.put, List.setIfInBounds_toArray, List.set_cons_zero, List.set_cons_succ]
          refine steps_head rfl (.pointer (some ⟨b, x * 3 + 1, none⟩)) (.inl ⟨rfl, fun w' hw => ?_⟩) ?_
          focus
            obtain ⟨f1, f2, f3, f4, f5, f6, f7⟩ := HF8.out w' hw
            show (execOp _ _).run Tryd.prog w' = _
            go_simp
            try omega
          try simp only [Act.put, List.setIfInBounds_toArray, List.set_cons_zero, List.set_cons_succ]
          refine steps_head rfl (.bool (S x).lk) (.inl ⟨rfl, fun w' hw => ?_⟩) ?_
          focus
            obtain ⟨f1, f2, f3, f4, f5, f6, f7⟩ := HF8.out w' hw
            show (execOp _ _).run Tryd.prog w' = _
            go_simp
            try omega
          try simp only [Act.put, List.setIfInBounds_toArray, List.set_cons_zero, List.set_cons_succ]
          refine steps_head rfl (.pointer (some ⟨b, x * 3, none⟩)) (.inl ⟨rfl, fun w' hw => ?_⟩) ?_
          focus
            obtain ⟨f1, f2, f3, f4, f5, f6, f7⟩ := HF8.out w' hw
            show (execOp _ _).run Tryd.prog w' = _
            go_simp
            try omega
          try simp only [Act.put, List.setIfInBounds_toArray, List.set_cons_zero, List.set_cons_succ]
          refine steps_head rfl (.pointer (some ⟨b, x * 3, none⟩)) (.inl ⟨rfl, fun w' hw => ?_⟩) ?_
          focus
            obtain ⟨f1, f2, f3, f4, f5, f6, f7⟩ := HF8.out w' hw
            show (execOp _ _).run Tryd.prog w' = _
            go_simp
            try omega
          try simp only [Act.put, List.setIfInBounds_toArray, List.set_cons_zero, List.set_cons_succ]
          refine steps_head rfl (.pointer (some ⟨b, x * 3 + 2, none⟩)) (.inl ⟨rfl, fun w' hw => ?_⟩) ?_
          focus
            obtain ⟨f1, f2, f3, f4, f5, f6, f7⟩ := HF8.out w' hw
            show (execOp _ _).run Tryd.prog w' = _
            go_simp
            try omega
          try simp only [Act.put, List.setIfInBounds_toArray, List.set_cons_zero, List.set_cons_succ]
          refine steps_head rfl (.bool (S x).inh) (.inl ⟨rfl, fun w' hw => ?_⟩) ?_
          focus
            obtain ⟨f1, f2, f3, f4, f5, f6, f7⟩ := HF8.out w' hw
            show (execOp _ _).run Tryd.prog w' = _
            go_simp
            try omega
          try simp only [Act.put, List.setIfInBounds_toArray, List.set_cons_zero, List.set_cons_succ]
          refine steps_mid rfl fun K hK => ?_
          refine if_wanted rfl (step_call 41 _ _ rfl (fun _ _ => rfl) [.int .i64 j] rfl (itoa_calls (j : Int) (by omega) (by have := HI.out.2.2.2.2; omega) _ (HF8.out _ (Below.drew HB3.out)).2.2.2.2.2.2.1) ?_)
          rintro e w5 ⟨rfl, hs2⟩
          have HB5 := Lib.hid (show Below W.heap.size W w5 from (Below.drew HB3.out).trans (hs2.mono (Below.drew HB3.out).size))
          refine ⟨_, rfl, hK _ _ HB5.out ?_⟩
          clear hK K hs2
          try simp only [Act.put, List.setIfInBounds_toArray, List.set_cons_zero, List.set_cons_succ]
          refine steps_head rfl (.string (⟨(domB d).toArray⟩ ++ ⟨#[32]⟩ ++ ⟨(Lib.itoa (j : Int)).toArray⟩)) (.inl ⟨rfl, fun w' hw => ?_⟩) ?_
          focus
            obtain ⟨f1, f2, f3, f4, f5, f6, f7⟩ := HF8.out w' hw
            show (execOp _ _).run Tryd.prog w' = _
            go_simp
            try omega
          try simp only [Act.put, List.setIfInBounds_toArray, List.set_cons_zero, List.set_cons_succ]
          refine steps_head rfl (.string (⟨(domB d).toArray⟩ ++ ⟨#[32]⟩ ++ ⟨(Lib.itoa (j : Int)).toArray⟩ ++ ⟨#[32]⟩)) (.inl ⟨rfl, fun w' hw => ?_⟩) ?_
          focus
            obtain ⟨f1, f2, f3, f4, f5, f6, f7⟩ := HF8.out w' hw
            show (execOp _ _).run Tryd.prog w' = _
            go_simp
            try omega
          try simp only [Act.put, List.setIfInBounds_toArray, List.set_cons_zero, List.set_cons_succ]
          refine steps_mid rfl fun K hK => ?_
          refine if_wanted rfl (step_call 42 _ _ rfl (fun _ _ => rfl) [.bool (S x).lk, .string ⟨#[108]⟩] rfl (HLx.out w5) ?_)
          rintro e w5' ⟨rfl, rfl⟩
          refine ⟨_, rfl, hK _ _ HB5.out ?_⟩
          clear hK K
          try simp only [Act.put, List.setIfInBounds_toArray, List.set_cons_zero, List.set_cons_succ]
          refine steps_head rfl (.string (⟨(domB d).toArray⟩ ++ ⟨#[32]⟩ ++ ⟨(Lib.itoa (j : Int)).toArray⟩ ++ ⟨#[32]⟩ ++ ⟨(letB (S x).lk 108).toArray⟩)) (.inl ⟨rfl, fun w' hw => ?_⟩) ?_
          focus
            obtain ⟨f1, f2, f3, f4, f5, f6, f7⟩ := HF8.out w' hw
            show (execOp _ _).run Tryd.prog w' = _
            go_simp
            try omega
          try simp only [Act.put, List.setIfInBounds_toArray, List.set_cons_zero, List.set_cons_succ]
          refine steps_mid rfl fun K hK => ?_
          refine if_wanted rfl (step_call 42 _ _ rfl (fun _ _ => rfl) [.bool (S x).inh, .string ⟨#[105]⟩] rfl (HLi.out _) ?_)
          rintro e w5'' ⟨rfl, rfl⟩
          refine ⟨_, rfl, hK _ _ HB5.out ?_⟩
          clear hK K
          try simp only [Act.put, List.setIfInBounds_toArray, List.set_cons_zero, List.set_cons_succ]
          refine steps_head rfl (.string (⟨(domB d).toArray⟩ ++ ⟨#[32]⟩ ++ ⟨(Lib.itoa (j : Int)).toArray⟩ ++ ⟨#[32]⟩ ++ ⟨(letB (S x).lk 108).toArray⟩ ++ ⟨(letB (S x).inh 105).toArray⟩)) (.inl ⟨rfl, fun w' hw => ?_⟩) ?_
          focus
            obtain ⟨f1, f2, f3, f4, f5, f6, f7⟩ := HF8.out w' hw
            show (execOp _ _).run Tryd.prog w' = _
            go_simp
            try omega
          try simp only [Act.put, List.setIfInBounds_toArray, List.set_cons_zero, List.set_cons_succ]
          refine steps_nil ?_
          have hhd : (⟨(domB d).toArray⟩ ++ ⟨#[32]⟩ ++ ⟨(Lib.itoa (j : Int)).toArray⟩ ++ ⟨#[32]⟩ ++ ⟨(letB (S x).lk 108).toArray⟩ ++ ⟨(letB (S x).inh 105).toArray⟩ : ByteArray) = ⟨(headS d j (S x)).toArray⟩ := by
            rw [show (⟨#[32]⟩ : ByteArray) = ⟨[32].toArray⟩ from rfl, bs_app, bs_app, bs_app, bs_app, bs_app]
            unfold headS
            simp
          rw [hhd]
          clear hhd
          have HWS := Lib.hid (writeString_calls w.heap.size w.heap.size (Lib.byteCells (txtK S x)) ⟨(headS d j (S x)).toArray⟩ w5'' (TI.below HI.out.1 HB5.out).isb (by have h1 := HX.out.2; have h2 := headS_len d j (S x) HI.out.2.2.2.2; rw [Lib.byteCells_length]; show _ + (headS d j (S x)).toArray.size ≤ _; rw [List.size_toArray]; have := HI.out.2.2.1; omega) (Nat.le_trans HI.out.1.bel.size HB5.out.size))
          go_wp2_with (go_at_call 40; refine HWS.out.mono ?_; rintro e w6 ⟨rfl, h6, h7⟩; have H6 := Lib.hid (And.intro h6 h7); clear h6 h7)
          apply Ends.mk
          refine ⟨rfl, ?_, (Fr.of_below HB5.out HI.out.1.bel.size).trans H6.out.2⟩
          have h9 := H6.out.1
          rw [Lib.strCells_eq, ← Lib.byteCells_append] at h9
          exact h9
        case imp =>
          intro w6 h6
          have H6 := Lib.hid h6
          clear h6
          obtain ⟨f1, f2, f3, f4, f5, f6, f7, f8⟩ := HFB.out w6 H6.out.2
          have hrl : ((S x).rs.length : Int) ≤ 50 := by have := HX.out.1.2; omega
          clear f1 f2 f6 f7 f8
          gi_wp2
          gi_loopw [51] (fun i wr => ∃ k : Nat, k ≤ (S x).rs.length ∧ i = .int .i64 k ∧ Hid (Lib.BuilderAt 83 5 w.heap.size w.heap.size (.pointer (some ⟨w.heap.size, 0, none⟩)) (Lib.byteCells (txtK S x ++ headS d j (S x) ++ ((S x).rs.take k).flatMap rngS)) wr ∧ Fr w.heap.size [83, 5] W wr)) (fun i _ => (S x).rs.length - (intOf i).toNat)
          case atStart => exact ⟨0, by omega, rfl, Lib.hid ⟨by simpa using H6.out.1, H6.out.2⟩⟩
          case round =>
            obtain ⟨k, hk, rfl, HW⟩ := hrel
            clear f3 f4 f5
            obtain ⟨-, -, -, -, -, -, f7, f8⟩ := HFB.out wr HW.out.2
            by_cases hlt : k < (S x).rs.length
            · have hlt' : (k : Int) < ((S x).rs.length : Int) := by omega
              have hok := HX.out.1.1.1 _ (List.getElem_mem hlt)
              have HTk := Lib.hid (show ((S x).rs.take (k + 1)).flatMap rngS = ((S x).rs.take k).flatMap rngS ++ rngS (S x).rs[k] from by rw [List.take_succ_eq_append_getElem hlt, List.flatMap_append]; simp)
              have HLK := Lib.hid (show (((S x).rs.take k).flatMap rngS).length ≤ 44 * 50 from by have h1 := rngs_len ((S x).rs.take k) (fun q hq => HX.out.1.1.1 q (List.mem_of_mem_take hq)); rw [List.length_take] at h1; have := HX.out.1.2; omega)
              obtain ⟨g, rfl, hg, q1, q2⟩ := Ls.at f8 rfl hlt
              have HP7 := Lib.hid f7
              clear f7 f8 hg
              generalize (S x).rs[k] = pr at *
              obtain ⟨ra, rb⟩ := pr
              simp only at q1 q2
              have HOK := Lib.hid (show (0 : Int) ≤ ra ∧ ra ≤ rb ∧ rb ≤ 1099511627776 from hok)
              clear hok
              gi_wp2
              obtain ⟨W3, hW3⟩ : ∃ W3, W3 = wr.alloc (.cells #[.int .i64 ra, .int .i64 rb] 43) := ⟨_, rfl⟩
              have HB3' := Lib.hid (show Below wr.heap.size wr W3 from by rw [hW3]; exact (Below.refl _ _).alloc (Nat.le_refl _) _)
              have e3 := heap_alloc_new wr (.cells #[.int .i64 ra, .int .i64 rb] 43)
              rw [← hW3] at e3 ⊢
              clear hW3 q1 q2
              have HE3 := Lib.hid e3
              clear e3
              have HF12 := Lib.hid (show ∀ w', Below W3.heap.size W3 w' → w'.cell? ⟨wr.heap.size, 0, none⟩ = some (.int .i64 ra) ∧ w'.cell? ⟨wr.heap.size, 1, none⟩ = some (.int .i64 rb) ∧ True ∧ True ∧ True ∧ True ∧ PowAt w' from fun w' hw => by
                have e6 := (hw.block _ (Array.getElem?_eq_some_iff.1 HE3.out).1).trans HE3.out
                refine ⟨by rw [cell_of_row _ _ _ _ _ _ e6]; rfl, by rw [cell_of_row _ _ _ _ _ _ e6]; rfl, trivial, trivial, trivial, trivial, ?_⟩
                exact HP7.out.below HP7.out.low (HB3'.out.trans (hw.mono HB3'.out.size)))
              have hl2 : (Lib.itoa ra).length ≤ 21 := itoa_len ra HOK.out.1 (by have := HOK.out; omega)
              have hl3 : (Lib.itoa rb).length ≤ 21 := itoa_len rb (by have := HOK.out; omega) HOK.out.2.2
              apply EndsIn.const (G := fun w7 => Lib.BuilderAt 83 5 w.heap.size w.heap.size (.pointer (some ⟨w.heap.size, 0, none⟩)) (Lib.byteCells (txtK S x ++ headS d j (S x) ++ ((S x).rs.take (k + 1)).flatMap rngS)) w7 ∧ Fr w.heap.size [83, 5] W w7)
              case walk =>
                refine wpIn_round_steps 9 [(true, 0), (true, 1), (true, 5), (true, 6), (false, 2), (true, 3), (true, 4), (false, 7), (true, 8)] (fun w' => Below W3.heap.size W3 w') Ends.stays (by rfl) (by kernel_rfl) (by kernel_rfl) (fun _ _ _ _ _ h => h) (Below.drew (Below.refl _ _)) ?_
                refine steps_head rfl (.pointer (some ⟨wr.heap.size, 0, none⟩)) (.inl ⟨rfl, fun w' hw => ?_⟩) ?_
                focus
                  obtain ⟨f1, f2, f3, f4, f5, f6, f7⟩ := HF12.out w' hw
                  show (execOp _ _).run Tryd.prog w' = _
                  go_simp
                  try omega
                try simp only [Act.put, List.setIfInBounds_toArray, List.set_cons_zero, List.set_cons_succ]
                refine steps_head rfl (.int .i64 ra) (.inl ⟨rfl, fun w' hw => ?_⟩) ?_
                focus
                  obtain ⟨f1, f2, f3, f4, f5, f6, f7⟩ := HF12.out w' hw
                  show (execOp _ _).run Tryd.prog w' = _
                  go_simp
                  try omega
                try simp only [Act.put, List.setIfInBounds_toArray, List.set_cons_zero, List.set_cons_succ]
                refine steps_head rfl (.pointer (some ⟨wr.heap.size, 1, none⟩)) (.inl ⟨rfl, fun w' hw => ?_⟩) ?_
                focus
                  obtain ⟨f1, f2, f3, f4, f5, f6, f7⟩ := HF12.out w' hw
                  show (execOp _ _).run Tryd.prog w' = _
                  go_simp
                  try omega
                try simp only [Act.put, List.setIfInBounds_toArray, List.set_cons_zero, List.set_cons_succ]
                refine steps_head rfl (.int .i64 rb) (.inl ⟨rfl, fun w' hw => ?_⟩) ?_
                focus
                  obtain ⟨f1, f2, f3, f4, f5, f6, f7⟩ := HF12.out w' hw
                  show (execOp _ _).run Tryd.prog w' = _
                  go_simp
                  try omega
                try simp only [Act.put, List.setIfInBounds_toArray, List.set_cons_zero, List.set_cons_succ]
                refine steps_mid rfl fun K hK => ?_
                refine if_wanted rfl (step_call 43 _ _ rfl (fun _ _ => rfl) [.int .i64 ra, .int .i64 10] rfl (fmt_calls ra HOK.out.1 (by have := HOK.out; omega) _ (HF12.out _ (Below.drew (Below.refl _ _))).2.2.2.2.2.2) ?_)
                rintro e w5 ⟨rfl, hs2⟩
                have HB5 := Lib.hid (show Below W3.heap.size W3 w5 from (Below.drew (Below.refl _ _)).trans (hs2.mono (Below.drew (Below.refl W3.heap.size W3)).size))
                refine ⟨_, rfl, hK _ _ HB5.out ?_⟩
                clear hK K hs2
                try simp only [Act.put, List.setIfInBounds_toArray, List.set_cons_zero, List.set_cons_succ]
                refine steps_head rfl (.string (⟨#[32]⟩ ++ ⟨(Lib.itoa ra).toArray⟩)) (.inl ⟨rfl, fun w' hw => ?_⟩) ?_
                focus
                  obtain ⟨f1, f2, f3, f4, f5, f6, f7⟩ := HF12.out w' hw
                  show (execOp _ _).run Tryd.prog w' = _
                  go_simp
                  try omega
                try simp only [Act.put, List.setIfInBounds_toArray, List.set_cons_zero, List.set_cons_succ]
                refine steps_head rfl (.string (⟨#[32]⟩ ++ ⟨(Lib.itoa ra).toArray⟩ ++ ⟨#[45]⟩)) (.inl ⟨rfl, fun w' hw => ?_⟩) ?_
                focus
                  obtain ⟨f1, f2, f3, f4, f5, f6, f7⟩ := HF12.out w' hw
                  show (execOp _ _).run Tryd.prog w' = _
                  go_simp
                  try omega
                try simp only [Act.put, List.setIfInBounds_toArray, List.set_cons_zero, List.set_cons_succ]
                refine steps_mid rfl fun K hK => ?_
                refine if_wanted rfl (step_call 43 _ _ rfl (fun _ _ => rfl) [.int .i64 rb, .int .i64 10] rfl (fmt_calls rb (by have := HOK.out; omega) HOK.out.2.2 _ (HF12.out _ HB5.out).2.2.2.2.2.2) ?_)
                rintro e w7 ⟨rfl, hs2⟩
                have HB7 := Lib.hid (show Below W3.heap.size W3 w7 from HB5.out.trans (hs2.mono HB5.out.size))
                refine ⟨_, rfl, hK _ _ HB7.out ?_⟩
                clear hK K hs2
                try simp only [Act.put, List.setIfInBounds_toArray, List.set_cons_zero, List.set_cons_succ]
                refine steps_head rfl (.string (⟨#[32]⟩ ++ ⟨(Lib.itoa ra).toArray⟩ ++ ⟨#[45]⟩ ++ ⟨(Lib.itoa rb).toArray⟩)) (.inl ⟨rfl, fun w' hw => ?_⟩) ?_
                focus
                  obtain ⟨f1, f2, f3, f4, f5, f6, f7⟩ := HF12.out w' hw
                  show (execOp _ _).run Tryd.prog w' = _
                  go_simp
                  try omega
                try simp only [Act.put, List.setIfInBounds_toArray, List.set_cons_zero, List.set_cons_succ]
                refine steps_nil ?_
                have hhd : (⟨#[32]⟩ ++ ⟨(Lib.itoa ra).toArray⟩ ++ ⟨#[45]⟩ ++ ⟨(Lib.itoa rb).toArray⟩ : ByteArray) = ⟨(rngS (ra, rb)).toArray⟩ := by
                  rw [show (⟨#[32]⟩ : ByteArray) = ⟨[32].toArray⟩ from rfl, show (⟨#[45]⟩ : ByteArray) = ⟨[45].toArray⟩ from rfl, bs_app, bs_app, bs_app]
                  unfold rngS
                  simp
                rw [hhd]
                clear hhd
                have HWS := Lib.hid (writeString_calls w.heap.size w.heap.size (Lib.byteCells (txtK S x ++ headS d j (S x) ++ ((S x).rs.take k).flatMap rngS)) ⟨(rngS (ra, rb)).toArray⟩ w7 (.inr (builder_below HW.out.1 (HB3'.out.trans (HB7.out.mono HB3'.out.size)))) (by
                  have h1 := HX.out.2
                  have h2 := headS_len d j (S x) HI.out.2.2.2.2
                  have h3 := HLK.out
                  have h4 := rngS_len (ra, rb) HOK.out
                  have h5 := HI.out.2.2.1
                  rw [Lib.byteCells_length, List.length_append, List.length_append]
                  show _ + (rngS (ra, rb)).toArray.size ≤ _
                  rw [List.size_toArray]
                  omega) (Nat.le_trans (Nat.le_trans (HI.out.1.bel.trans HW.out.2.bel).size HB3'.out.size) HB7.out.size))
                go_wp2_with (go_at_call 40; refine HWS.out.mono ?_; rintro e w8 ⟨rfl, h6, h7⟩; have H8 := Lib.hid (And.intro h6 h7); clear h6 h7)
                apply Ends.mk
                refine ⟨rfl, ?_, (HW.out.2.trans (Fr.of_below (HB3'.out.trans (HB7.out.mono HB3'.out.size)) (HI.out.1.bel.trans HW.out.2.bel).size)).trans H8.out.2⟩
                have h9 := H8.out.1
                rw [Lib.strCells_eq, ← Lib.byteCells_append] at h9
                rw [HTk.out, ← List.append_assoc]
                exact h9
              case imp =>
                intro w7 h7
                have H7 := Lib.hid h7
                clear h7
                gi_wp2
                go_roundw
                case rel => exact ⟨k + 1, by omega, by go_num, H7⟩
                case measure => simp [intOf]; omega
            · obtain rfl : k = (S x).rs.length := by omega
              rw [List.take_length] at HW
              have HWB := Lib.hid (writeByte_calls w.heap.size w.heap.size (Lib.byteCells (txtK S x ++ headS d j (S x) ++ (S x).rs.flatMap rngS)) 10 wr (.inr HW.out.1) (by
                  have h1 := HX.out.2
                  have h2 := headS_len d j (S x) HI.out.2.2.2.2
                  have h3 := rngs_len (S x).rs HX.out.1.1.1
                  have h4 := HX.out.1.2
                  have h5 := HI.out.2.2.1
                  rw [Lib.byteCells_length, List.length_append, List.length_append]
                  omega) (HI.out.1.bel.trans HW.out.2.bel).size)
              gi_wp2_with (refine ⟨trivial, ?_⟩; gi_at_call 44; refine (callsIn_round HWB.out).mono ?_; rintro e w8 ⟨rfl, h6, h7⟩; have H8 := Lib.hid (And.intro h6 h7); clear h6 h7)
              have hfr := HW.out.2.trans H8.out.2
              have hk8 : KeepB (w.heap.size + 1) W w8 := by
                obtain ⟨p, hp⟩ := HI.out.1.bx
                exact ⟨hfr.size, (hfr.oth _ _ hp (fun e he => by cases he; decide)).trans hp.symm⟩
              refine ⟨hfr.keepsO, hk8, ?_⟩
              show TI _ _ (List.length _) _
              rw [List.length_append, List.length_range]
              have h9 := H8.out.1
              refine ⟨.inr ⟨?_, .inr ?_⟩, HI.out.1.bel.trans hfr.bel, Nat.lt_of_lt_of_le HI.out.1.sz hfr.size, HI.out.1.bx.imp fun _ hp => hfr.oth _ _ hp (fun e he => by cases he; decide)⟩
              · rw [show x + [x].length = x + 1 from rfl, HTK.out, HLn.out.2]
                simp
              · rw [show x + [x].length = x + 1 from rfl, HTK.out, HLn.out.2]
                have e : Lib.byteCells (txtK S x ++ headS d j (S x) ++ (S x).rs.flatMap rngS) ++ [Value.int .u8 10] = Lib.byteCells (txtK S x ++ (headS d j (S x) ++ ((S x).rs.flatMap rngS ++ [10]))) := by
                  simp [Lib.byteCells]
                rw [e] at h9
                exact h9
      · rw [hq] at HLn
        simp only [if_true] at HLn
        clear hq
        gi_wp2
        exact ⟨keepsO_below HB3.out, ⟨HB3.out.size, HB3.out.block _ HI.out.1.sz⟩, by show TI _ _ (List.length _) _; rw [List.length_append, List.length_range]; exact TI.skip (TI.below HI.out.1 HB3.out) HLn.out.2⟩
  case done =>
    rintro D xs W hD rfl hI hK
    rw [List.length_range] at hI
    have HI := Lib.hid (And.intro hI hK)
    have HST : Hid (Calls Tryd.prog 45 #[.pointer (some ⟨w.heap.size, 0, none⟩)] W fun e w' => e = .returned (.string ⟨(txtK S 64).toArray⟩) ∧ Fr w.heap.size [83, 5] W w') := by
      rcases hI.bd with ⟨h1, h2⟩ | ⟨h1, h2⟩
      · rw [h1]
        exact Lib.hid (string_nil w.heap.size w.heap.size _ W h2)
      · exact Lib.hid (string_calls w.heap.size w.heap.size _ W h2 h1)
    clear hI hK
    gi_wp2_with (refine ⟨trivial, ?_⟩; gi_at_call 45; refine (callsIn_wide.2 HST.out).mono ?_; rintro e w3 ⟨rfl, h3⟩; have H3 := Lib.hid h3; clear h3)
    have hD3 := H3.out.oth D _ HI.out.2 (fun e he => by cases he)
    refine ⟨by simp, .inl ⟨_, _, rfl, run_takeDeferred hD3, ?_⟩⟩
    exact ⟨_, results_tmp rfl _ _ _, rfl, (HI.out.1.bel.trans H3.out.bel).trans (belowK_b (w := w) (Nat.le_refl _) _ D _ _ (by have := HS1.out; omega) hD3 rfl rfl)⟩
  case stop =>
    intro D c pre W hD hpre h hK
    exact h.elim
end Go.Proofs.YthccppldpfddjaaDoor
