import Derived.Test.YtmmhflpeapojgaaB4
namespace Go.Proofs.Ytmmhflpeapojgaa
set_option linter.unusedVariables false
set_option linter.unusedSimpArgs false
open Go.RowKit Ieee
attribute [local go_sem] ints_get ints_size ints_getElem

/-- A row of floats. -/
def flts (l : List Nat) : List Value := l.map (fun x => Value.float .f32 x)
/-- The first k of every f-th sample. -/
def downK (f : Nat) (l : List Nat) (k : Nat) : List Nat := (List.range k).map (fun j => F fmt (smpN (l.getD (f * j) 0)))
theorem downK_succ (f : Nat) (l : List Nat) (k : Nat) : flts (downK f l (k + 1)) = flts (downK f l k) ++ [.float .f32 (F fmt (smpN (l.getD (f * k) 0)))] := by simp [flts, downK, List.range_succ]
theorem downK_len (f : Nat) (l : List Nat) (k : Nat) : (downK f l k).length = k := by simp [downK]
def dcode (l : List Nat) (f : Int) : Int := if scode l ≠ 0 then scode l else if f < 1 ∨ 4096 < f then 34 else 0
def dlist (l : List Nat) (f : Int) : List Nat := if dcode l f = 0 then downK f.toNat l ((l.length + f.toNat - 1) / f.toNat) else []
theorem count_of {f n k : Nat} (hf : 1 ≤ f) (h1 : f * k < n + f) (h2 : n ≤ f * k) : (n + f - 1) / f = k := by
  apply Nat.div_eq_of_lt_le
  · rw [Nat.mul_comm]; omega
  · rw [Nat.mul_comm, Nat.mul_succ]; omega
theorem info27 : (Try.prog.info? 27).map (fun i => (i.zero, i.size, i.bytes)) = some (some (.float .f32 0), 1, 4) := by kernel_rfl
theorem le_mul {f : Nat} (h : 1 ≤ f) (k : Nat) : k ≤ f * k := by have := Nat.mul_le_mul_right k h; omega
def DPost (l : List Nat) (f : Int) (w : World) (e : Ending) (w' : World) : Prop :=
  ∃ v, e = .returned (.tuple #[v, .int .i64 (dcode l f)]) ∧ w'.ownsRow w.heap.size 27 1 v (dlist l f).length (flts (dlist l f)) ∧ Below w.heap.size w w'
theorem DPost.bad {l : List Nat} {f c : Int} {w w' : World} (h : dcode l f = c) (h0 : c ≠ 0) (hb : Below w.heap.size w w') : DPost l f w (.returned (.tuple #[.slice none 0 0, .int .i64 c])) w' := by
  refine ⟨_, by rw [h], ?_, hb⟩
  have e : dlist l f = [] := by unfold dlist; rw [if_neg (by rw [h]; exact h0)]
  rw [e]
  exact ⟨rfl, .inl ⟨rfl, rfl⟩⟩
theorem scode_good {l : List Nat} (h : scode l = 0) : l.length ≤ 4096 ∧ l.all sampleB = true := by
  unfold scode at h
  split at h
  · simp at h
  · split at h
    · exact ⟨by omega, by assumption⟩
    · simp at h
theorem down_elem {l : List Nat} (ha : l.all sampleB = true) (hlt : ∀ x ∈ l, x < 4294967296) {i : Nat} (hi : i < l.length) : sampleB (l.getD i 0) = true ∧ plusW (l.getD i 0) = F fmt (smpN (l.getD i 0)) ∧ -2048 ≤ smpN (l.getD i 0) ∧ smpN (l.getD i 0) ≤ 2047 := by
  have hm : l.getD i 0 ∈ l := by rw [List.getD_eq_getElem?_getD, List.getElem?_eq_getElem hi]; exact List.getElem_mem hi
  have h1 := List.all_eq_true.1 ha _ hm
  obtain ⟨hv, h2, h3⟩ := sample_V h1
  exact ⟨h1, plusW_G (sample_G h1 (hlt _ hm)) (small_of (by omega)), h2, h3⟩
set_option maxRecDepth 100000 in
theorem down_bad (A : Option Addr) (c : Nat) (l : List Nat) (f : Int) (w : World) (hl : l.length ≤ 9223372036854775807) (hC : FC w A l) (hbad : dcode l f ≠ 0) :
    Calls Try.prog 14 #[.slice A l.length c, .int .i64 f] w fun e w' => DPost l f w e w' := by
  have HC := Lib.hid hC
  clear hC
  by_cases h1 : scode l = 0
  · have h2 : f < 1 ∨ 4096 < f := by
      unfold dcode at hbad
      rw [if_neg (by simpa using h1)] at hbad
      by_cases h : f < 1 ∨ 4096 < f
      · exact h
      · rw [if_neg h] at hbad; exact absurd rfl hbad
    have HD : Hid (dcode l f = 34) := Lib.hid (by unfold dcode; rw [if_neg (by simpa using h1), if_pos h2])
    have HS := Lib.hid h1
    clear h1 hbad
    rcases (by omega : f < 1 ∨ (1 ≤ f ∧ 4096 < f)) with h | ⟨h, h3⟩
    all_goals
      clear h2
      go_enter Try.func14, Try.ntmps14
      go_wp2_with (go_at_call 18; refine (samples_calls A c l _ hl HC.out).mono ?_; rw [HS.out]; rintro e w' ⟨rfl, rfl⟩)
      go_ret2
      exact DPost.bad HD.out (by decide) (Below.refl _ _)
  · have HD : Hid (dcode l f = scode l) := Lib.hid (by unfold dcode; rw [if_pos h1])
    clear hbad
    generalize hs : scode l = s at *
    have HS := Lib.hid hs
    clear hs
    have hn : (s != 0) = true := by simpa using h1
    have H1 := Lib.hid h1
    clear h1
    go_enter Try.func14, Try.ntmps14
    go_wp2_with (go_at_call 18; refine (samples_calls A c l _ hl HC.out).mono ?_; rw [HS.out]; rintro e w' ⟨rfl, rfl⟩)
    have h1 := H1.out
    go_wp2
    go_ret2
    exact DPost.bad HD.out H1.out (Below.refl _ _)
set_option maxRecDepth 100000 in
theorem down_good (A : Option Addr) (c : Nat) (l : List Nat) (f : Nat) (w : World) (hC : FC w A l) (hlt : ∀ x ∈ l, x < 4294967296) (hs : scode l = 0) (hf : 1 ≤ f) (hf2 : f ≤ 4096) :
    Calls Try.prog 14 #[.slice A l.length c, .int .i64 (f : Int)] w fun e w' => DPost l f w e w' := by
  obtain ⟨hl, ha⟩ := scode_good hs
  have HC := Lib.hid hC
  have HA := Lib.hid (And.intro ha hlt)
  have HS := Lib.hid hs
  have hd : dcode l f = 0 := by unfold dcode; rw [if_neg (by simpa using hs), if_neg (by omega)]
  have HD := Lib.hid hd
  have HL : Hid (∀ k, f * k < l.length + f → l.length ≤ f * k → dlist l f = downK f l k) := Lib.hid (by
    intro k h1 h2
    unfold dlist
    rw [if_pos hd, Int.toNat_natCast, count_of hf h1 h2])
  clear hC hlt hs ha hd
  have e1 : ¬ (f : Int) < 1 := by omega
  have e2 : ¬ (4096 : Int) < (f : Int) := by omega
  go_enter Try.func14, Try.ntmps14
  go_wp2_with (go_at_call 18; refine (samples_calls A c l _ (by omega) HC.out).mono ?_; rw [HS.out]; rintro e w' ⟨rfl, rfl⟩)
  go_loopw [7, 8] (fun v m wr => ∃ k : Nat, f * k < l.length + f ∧ m = .int .i64 ((f * k : Nat) : Int) ∧ wr.ownsRow w.heap.size 27 1 v k (flts (downK f l k)) ∧ Below w.heap.size w wr) (fun _ m _ => (l.length + f) - (intOf m).toNat)
  case atStart => exact ⟨0, by omega, by simp, ⟨by simp [flts, downK], .inl ⟨rfl, rfl⟩⟩, Below.refl _ _⟩
  case round =>
    obtain ⟨k, hk, rfl, hown, hb⟩ := hrel
    have hkl := le_mul hf k
    have hms : f * (k + 1) = f * k + f := Nat.mul_succ f k
    have HN : Hid (f * (k + 1) = f * k + f) := Lib.hid hms
    clear hms
    by_cases hlt : f * k < l.length
    · obtain ⟨ad, rfl, hc⟩ := (HC.out.below hb) (f * k) hlt
      obtain ⟨q1, q2, q3, q4⟩ := down_elem HA.out.1 HA.out.2 hlt
      have HX := Lib.hid (downK_succ f l k)
      generalize hi : f * k = i at hlt hc q1 q2 q3 q4 hk hkl HN HX ⊢
      clear hi
      have hlt' : (i : Int) < (l.length : Int) := by omega
      have HQ := Lib.hid q2
      generalize l.getD i 0 = x at *
      clear q1 q2 q3 q4
      go_wp2_with (first
        | (go_at_call 23; refine (plus_calls x _).mono ?_; rw [HQ.out]; rintro e w' ⟨rfl, rfl⟩)
        | (at_builtin; refine wpList_append_1 rfl (.tmp 27) (.tmp 33) 22 27 rfl (.float .f32 0) 1 4 Try.underlying22 info27 rfl (by decide) w w.heap.size k _ (flts (downK f l k)) rfl hown hb [.float .f32 (F fmt (smpN x))] (by first | rfl | simp [Act.eval, Act.put]) rfl (by simp [Value.oneCell']) (by unfold maxLen; omega) (by omega) hb.size ?_; intro v' w2 hown2 hb2; replace hown2 : w2.ownsRow w.heap.size 27 1 v' (k + 1) (flts (downK f l (k + 1))) := (by (rw [HX.out]; exact hown2))))
      go_roundw
      case rel => exact ⟨k + 1, by rw [HN.out]; omega, by rw [HN.out]; go_num, hown2, hb2⟩
      case measure => simp [intOf]; omega
    · have hge : ¬ ((f * k : Nat) : Int) < (l.length : Int) := by omega
      have HZ := Lib.hid (HL.out k hk (by omega))
      generalize f * k = i at hlt hk hkl HN hge ⊢
      go_wp2
      go_ret2
      exact ⟨_, by rw [HD.out]; rfl, by rw [HZ.out, downK_len]; exact hown, hb⟩
set_option maxRecDepth 100000 in
theorem rdown_bad (A : Option Addr) (c : Nat) (l : List Nat) (f : Int) (w : World) (hl : l.length ≤ 9223372036854775807) (hC : FC w A l) (hbad : dcode l f ≠ 0) :
    Calls Try.prog 15 #[.slice A l.length c, .int .i64 f] w fun e w' => DPost l f w e w' := by
  have HC := Lib.hid hC
  clear hC
  by_cases h1 : scode l = 0
  · have h2 : f < 1 ∨ 4096 < f := by
      unfold dcode at hbad
      rw [if_neg (by simpa using h1)] at hbad
      by_cases h : f < 1 ∨ 4096 < f
      · exact h
      · rw [if_neg h] at hbad; exact absurd rfl hbad
    have HD : Hid (dcode l f = 34) := Lib.hid (by unfold dcode; rw [if_neg (by simpa using h1), if_pos h2])
    have HS := Lib.hid h1
    clear h1 hbad
    rcases (by omega : f < 1 ∨ (1 ≤ f ∧ 4096 < f)) with h | ⟨h, h3⟩
    all_goals
      clear h2
      go_enter Try.func15, Try.ntmps15
      go_wp2_with (go_at_call 19; refine (rsamples_calls A c l _ hl HC.out).mono ?_; rw [HS.out]; rintro e w' ⟨rfl, rfl⟩)
      go_ret2
      exact DPost.bad HD.out (by decide) (Below.refl _ _)
  · have HD : Hid (dcode l f = scode l) := Lib.hid (by unfold dcode; rw [if_pos h1])
    clear hbad
    generalize hs : scode l = s at *
    have HS := Lib.hid hs
    clear hs
    have hn : (s != 0) = true := by simpa using h1
    have H1 := Lib.hid h1
    clear h1
    go_enter Try.func15, Try.ntmps15
    go_wp2_with (go_at_call 19; refine (rsamples_calls A c l _ hl HC.out).mono ?_; rw [HS.out]; rintro e w' ⟨rfl, rfl⟩)
    have h1 := H1.out
    go_wp2
    go_ret2
    exact DPost.bad HD.out H1.out (Below.refl _ _)
set_option maxRecDepth 100000 in
theorem rdown_good (A : Option Addr) (c : Nat) (l : List Nat) (f : Nat) (w : World) (hC : FC w A l) (hlt : ∀ x ∈ l, x < 4294967296) (hs : scode l = 0) (hf : 1 ≤ f) (hf2 : f ≤ 4096) :
    Calls Try.prog 15 #[.slice A l.length c, .int .i64 (f : Int)] w fun e w' => DPost l f w e w' := by
  obtain ⟨hl, ha⟩ := scode_good hs
  have HC := Lib.hid hC
  have HA := Lib.hid (And.intro ha hlt)
  have HS := Lib.hid hs
  have hd : dcode l f = 0 := by unfold dcode; rw [if_neg (by simpa using hs), if_neg (by omega)]
  have HD := Lib.hid hd
  have HL : Hid (∀ k, f * k < l.length + f → l.length ≤ f * k → dlist l f = downK f l k) := Lib.hid (by
    intro k h1 h2
    unfold dlist
    rw [if_pos hd, Int.toNat_natCast, count_of hf h1 h2])
  clear hC hlt hs ha hd
  have e1 : ¬ (f : Int) < 1 := by omega
  have e2 : ¬ (4096 : Int) < (f : Int) := by omega
  go_enter Try.func15, Try.ntmps15
  go_wp2_with (go_at_call 19; refine (rsamples_calls A c l _ (by omega) HC.out).mono ?_; rw [HS.out]; rintro e w' ⟨rfl, rfl⟩)
  go_loopw [7, 8] (fun v m wr => ∃ k : Nat, f * k < l.length + f ∧ m = .int .i64 ((f * k : Nat) : Int) ∧ wr.ownsRow w.heap.size 27 1 v k (flts (downK f l k)) ∧ Below w.heap.size w wr) (fun _ m _ => (l.length + f) - (intOf m).toNat)
  case atStart => exact ⟨0, by omega, by simp, ⟨by simp [flts, downK], .inl ⟨rfl, rfl⟩⟩, Below.refl _ _⟩
  case round =>
    obtain ⟨k, hk, rfl, hown, hb⟩ := hrel
    have hkl := le_mul hf k
    have hms : f * (k + 1) = f * k + f := Nat.mul_succ f k
    have HN : Hid (f * (k + 1) = f * k + f) := Lib.hid hms
    clear hms
    by_cases hlt : f * k < l.length
    · obtain ⟨ad, rfl, hc⟩ := (HC.out.below hb) (f * k) hlt
      obtain ⟨q1, q2, q3, q4⟩ := down_elem HA.out.1 HA.out.2 hlt
      have HX := Lib.hid (downK_succ f l k)
      generalize hi : f * k = i at hlt hc q1 q2 q3 q4 hk hkl HN HX ⊢
      clear hi
      have hlt' : (i : Int) < (l.length : Int) := by omega
      generalize l.getD i 0 = x at *
      clear q1 q2 q3 q4
      go_wp2_with (first
        | (go_at_call 26; refine (rsample_calls x _).mono ?_; rintro e w' ⟨rfl, rfl⟩)
        | (at_builtin; refine wpList_append_1 rfl (.tmp 37) (.tmp 40) 22 27 rfl (.float .f32 0) 1 4 Try.underlying22 info27 rfl (by decide) w w.heap.size k _ (flts (downK f l k)) rfl hown hb [.float .f32 (floatOfInt .f32 (smpN x))] (by first | rfl | simp [Act.eval, Act.put]) rfl (by simp [Value.oneCell']) (by unfold maxLen; omega) (by omega) hb.size ?_; intro v' w2 hown2 hb2; replace hown2 : w2.ownsRow w.heap.size 27 1 v' (k + 1) (flts (downK f l (k + 1))) := (by (rw [HX.out]; exact hown2))))
      go_roundw
      case rel => exact ⟨k + 1, by rw [HN.out]; omega, by rw [HN.out]; go_num, hown2, hb2⟩
      case measure => simp [intOf]; omega
    · have hge : ¬ ((f * k : Nat) : Int) < (l.length : Int) := by omega
      have HZ := Lib.hid (HL.out k hk (by omega))
      generalize f * k = i at hlt hk hkl HN hge ⊢
      go_wp2
      go_ret2
      exact ⟨_, by rw [HD.out]; rfl, by rw [HZ.out, downK_len]; exact hown, hb⟩

theorem down_calls (A : Option Addr) (c : Nat) (l : List Nat) (f : Int) (w : World) (hl : l.length ≤ 9223372036854775807) (hC : FC w A l) (hlt : ∀ x ∈ l, x < 4294967296) :
    Calls Try.prog 14 #[.slice A l.length c, .int .i64 f] w fun e w' => DPost l f w e w' := by
  by_cases h : dcode l f = 0
  · have h1 : scode l = 0 := by
      unfold dcode at h
      split at h
      · contradiction
      · rename_i h1; simpa using h1
    have h2 : 1 ≤ f ∧ f ≤ 4096 := by
      unfold dcode at h
      rw [if_neg (by simpa using h1)] at h
      split at h
      · simp at h
      · omega
    obtain ⟨n, rfl⟩ : ∃ n : Nat, f = n := ⟨f.toNat, by omega⟩
    exact down_good A c l n w hC hlt h1 (by omega) (by omega)
  · exact down_bad A c l f w hl hC h

theorem rdown_calls (A : Option Addr) (c : Nat) (l : List Nat) (f : Int) (w : World) (hl : l.length ≤ 9223372036854775807) (hC : FC w A l) (hlt : ∀ x ∈ l, x < 4294967296) :
    Calls Try.prog 15 #[.slice A l.length c, .int .i64 f] w fun e w' => DPost l f w e w' := by
  by_cases h : dcode l f = 0
  · have h1 : scode l = 0 := by
      unfold dcode at h
      split at h
      · contradiction
      · rename_i h1; simpa using h1
    have h2 : 1 ≤ f ∧ f ≤ 4096 := by
      unfold dcode at h
      rw [if_neg (by simpa using h1)] at h
      split at h
      · simp at h
      · omega
    obtain ⟨n, rfl⟩ : ∃ n : Nat, f = n := ⟨f.toNat, by omega⟩
    exact rdown_good A c l n w hC hlt h1 (by omega) (by omega)
  · exact rdown_bad A c l f w hl hC h
end Go.Proofs.Ytmmhflpeapojgaa
