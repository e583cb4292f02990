import Derived.Test.YtbojagkalbfenaaG7
import Derived.Test.YtbojagkalbfenaaHeld
import Derived.Deep.AppendLies
import Derived.Deep.MidRow
import Derived.Laws.Cover3
namespace Go.Proofs.Ytbojagkalbfenaa
set_option linter.unusedVariables false
set_option linter.unusedSimpArgs false
open Go.RowKit PIovGather Go.Proofs.YtbojagkalbfenaaW.PrintWords
attribute [local go_sem] ints_get ints_size ints_getElem

theorem results_cell_two {P : Program} {fn : Func} {p q r : Tmp} {ty : TypeId} (h : fn.results = #[.cell p ty, .tmp q, .tmp r]) (tmps : Array Value) (w : World) (g : Nat) (cs : List Value) (d : TypeDesc)
    (hp : tmps.getD p undef = .pointer (some ⟨g, 0, none⟩)) (hc : w.rangeAt g 0 cs) (hu : P.underlying ty = some d) (hd : d.isRow = true) (hi : (P.info? ty).map (·.size) = some cs.length) :
    (results fn tmps).run P w = .ok (.tuple #[.agg cs.toArray, tmps.getD q undef, tmps.getD r undef]) w := by
  have hp' : tmps[p]?.getD undef = .pointer (some ⟨g, 0, none⟩) := by simpa using hp
  simp [results, h, hp', asAddr, run_loadVar_mid w g 0 ty cs d hc hu hd hi]
theorem rangeAt_grown {w w1 : World} {b o : Nat} {cs : List Value} {row : Option Nat} (h : w.rangeAt b o cs) (hg : w.grownBy w1 row) (hne : some b ≠ row) : w1.rangeAt b o cs := by
  intro j v hj
  have hc := h j v hj
  have := hg.block b (World.block_lt_of_cell? _ _ hc) hne
  simpa [World.cell?, this] using hc
theorem rangeAt_byts {w : World} {b o k m : Nat} {ds : List Int} (h : Kd.C (Kd.int .u8) w (some ⟨b, o, none⟩) ds.length ds) : w.rangeAt b (o + k) ((byts (ds.drop k)).take m) := by
  intro j v hj
  have hj' : (byts ds)[k + j]? = some v := by
    rw [List.getElem?_take] at hj
    split at hj
    · simpa [byts] using hj
    · cases hj
  obtain ⟨ad, e, _, hc⟩ := (mem_of_C h).cell _ _ hj'
  cases e
  rw [add_at] at hc
  rwa [Nat.add_assoc]
theorem step_store_mid {P : Program} {ops : Array Oper} {o : Oper} {a : Act} {w : World} {K : Act → World → Prop} {Q : Exit → Act → World → Prop} {E : Prop} (hgd : o.guard = none) (ty : TypeId) (x y : Operand) (ho : o.op = .store ty x y)
    (b p : Nat) (cells : Array Value) (hx : a.eval x = .pointer (some ⟨b, p, none⟩)) (hy : a.eval y = .agg cells)
    (ht : w.there b p cells.size) (hi : (P.info? ty).map (·.size) = some cells.size) (h1 : cells.all (·.oneCell') = true)
    (h : K (a.put o.dst undef) (w.setCells b p cells.toList)) : if Region.wanted o (yielded ops a.tmps) = true then Oper.wp P o a w K Q else E := by
  rw [if_pos (by simp [Region.wanted, hgd])]
  exact wp_store_mid ty x y ho b p cells hx hy ht hi h1 h
theorem there_row {w : World} {g : Nat} {cs : Array Value} {t : TypeId} (h : w.heap[g]? = some (.cells cs t (0, 0))) {n : Nat} (hn : n ≤ cs.size) : w.there g 0 n := by
  intro j hj
  refine ⟨?_, ?_⟩
  · rw [cell_of_row _ _ _ _ _ _ h]; simp; omega
  · simp [World.frozen?, h]
theorem rangeAt_far {w : World} {b o g k : Nat} {cs vs : List Value} (h : w.rangeAt b o cs) (hne : b ≠ g) : (w.setCells g k vs).rangeAt b o cs := by
  intro j v hj
  have hc := h j v hj
  simpa [World.cell?, setCells_far vs k b hne] using hc
theorem below_setCells {base g k : Nat} {w W : World} {vs : List Value} (h : Below base w W) (hg : base ≤ g) : Below base w (W.setCells g k vs) := by
  obtain ⟨h1, h2, h3, h4⟩ := setCells_same g vs k W
  exact ⟨h1.trans h.os, h2.trans h.tape, h3.trans h.output, by rw [h4]; exact h.size, fun i hi => (setCells_far vs k i (by omega)).trans (h.block i hi)⟩
theorem byts_one (l : List Int) : (byts l).toArray.all (·.oneCell') = true := by
  simp [byts, Value.oneCell']
theorem rangeAt_new (w : World) (cs : List Value) (t : TypeId) : (w.alloc (.cells cs.toArray t)).rangeAt w.heap.size 0 cs := by
  intro j v hj
  rw [cell_of_row _ _ _ _ _ _ (heap_alloc_new w (.cells cs.toArray t))]
  simpa using hj
def z16 : List Value := List.replicate 16 (.int .u8 0)
set_option maxHeartbeats 100000 in
set_option maxRecDepth 100000 in
theorem header_big (b o cap : Nat) (ds : List Int) (w : World) (hC : Kd.C (Kd.int .u8) w (some ⟨b, o, none⟩) ds.length ds) (hc : ds.length ≤ cap) (hm : cap ≤ 9223372036854775807) (h16 : 16 < ds.length) (h6 : ds.length ≤ 6000) :
    Calls Try.prog 17 #[.slice (some ⟨b, o, none⟩) ds.length cap] w fun e w' => ∃ v, e = .returned (.tuple #[.agg (byts (ds.take 16)).toArray, v, .bool true]) ∧ w'.ownsRow w.heap.size 5 1 v (ds.length - 16) (byts (ds.drop 16)) ∧ Below w.heap.size w w' := by
  have hr : w.rangeAt b o (byts (ds.take 16)) := by
    have := rangeAt_byts (k := 0) (m := 16) hC
    simpa [byts, List.map_take] using this
  have HC := Lib.hid hC
  have HR := Lib.hid hr
  clear hC hr
  go_enter Try.func17, Try.ntmps17
  obtain ⟨i0, hi0, hz0, hz1, hz2⟩ := info_parts (P := Try.prog) (e := 5) (z := .int .u8 0) (size := 1) (bytes := 1) (by kernel_rfl)
  have HI0 := Lib.hid hi0
  have HZZ := Lib.hid (And.intro hz0 (And.intro hz1 hz2))
  clear hi0 hz0 hz1 hz2
  go_wp2
  have hu := Try.underlying33
  have hi : (Try.prog.info? 33).map (·.size) = some (byts (ds.take 16)).length := by
    rw [show (byts (ds.take 16)).length = 16 by simp [byts]; omega]; kernel_rfl
  have harr : ∀ W, (Instr.arrayAt 33 (.slice (some ⟨b, o, none⟩) ds.length cap)).run Try.prog W = .ok (.pointer (some ⟨b, o, none⟩)) W := fun W => run_arrayAt W 33 5 16 _ ds.length cap Try.underlying33 (by omega)
  have hcap : ¬ cap = 16 := by omega
  have hone : ∀ v ∈ byts (ds.take 16), v.oneCell' = true := fun v hv => by obtain ⟨p, _, rfl⟩ := List.mem_map.1 hv; rfl
  have hlen : (byts (ds.take 16)).length = 16 := by simp [byts]; omega
  have hbw : b < w.heap.size := by
    have := World.block_lt_of_cell? _ _ (HR.out 0 _ (List.getElem?_eq_getElem (by simp [byts]; omega)))
    exact this
  have hr1 : (w.alloc (.cells z16.toArray 33)).rangeAt b o (byts (ds.take 16)) := fun j v hj => by
    have := HR.out j v hj
    rw [World.cell?_alloc_lt _ _ _ (World.block_lt_of_cell? _ _ this)]; exact this
  refine wp_region_heads 5 (fun w' => w'.rangeAt b o (byts (ds.take 16))) [.slice (some ⟨b, o, none⟩) ds.length cap, .pointer (some ⟨b, o, none⟩), .agg (byts (ds.take 16)).toArray, .slice (some ⟨b, o, none⟩) ds.length cap, .slice (some (Addr.add ⟨b, o, none⟩ 16)) (ds.length - 16) (cap - 16)] (by kernel_rfl) (by kernel_rfl) (fun c d v a w h => by cases d <;> exact h) ((World.rangeAt_drew _ _ _ _).2 hr1) ?heads ?_
  case heads =>
    simp only [List.take_succ_cons, List.take_zero]
    refine ⟨.inl ⟨rfl, fun w _ => ?_⟩, .inl ⟨rfl, fun w _ => ?_⟩, yieldsIf_load_mid (by rfl) _ _ rfl b o rfl _ _ (fun w hw => hw) hu rfl hi, .inl ⟨rfl, fun w _ => ?_⟩, .inl ⟨rfl, fun w _ => ?_⟩, trivial⟩ <;> (show (execOp _ _).run Try.prog w = _; go_simp)
  simp only [List.take_succ_cons, List.take_zero, List.drop_succ_cons, List.drop_zero, putAll, Act.put, List.setIfInBounds_toArray, List.set_cons_zero, List.set_cons_succ]
  refine wpListS_cons fun K hK => ?_
  refine step_append_lies _ (by rfl) _ _ _ (by rfl) w.heap.size 5 i0 _ 1 1 Try.underlying22 HI0.out HZZ.out.1 HZZ.out.2.1 HZZ.out.2.2 rfl (by omega) _ 0 [] (by rfl) ⟨rfl, .inl ⟨rfl, rfl⟩⟩ _ _ _ (byts (ds.drop 16)) (by rfl) (by simp [byts]) ?c1 ?c2 (by omega) (by simp only [maxLen]; omega) ?c3 (by simp) (w.heap.size + 1) (by simp) ?_
  case c1 =>
    intro j u hj
    have hj' : (byts ds)[16 + j]? = some u := by simpa [byts] using hj
    obtain ⟨ad, e, _, h2⟩ := (mem_of_C HC.out).cell _ _ hj'
    cases e
    rw [add_plus]
    have h3 : (w.alloc (.cells z16.toArray 33)).drew.cell? (Addr.add ⟨b, o, none⟩ (16 + j)) = some u := by
      rw [World.cell?_drew, World.cell?_alloc_lt _ _ _ (World.block_lt_of_cell? _ _ h2)]
      exact h2
    exact h3
  case c2 => exact fun u hu => by obtain ⟨p, _, rfl⟩ := List.mem_map.1 hu; rfl
  case c3 => omega
  intro gg cp w2 hown1 hgrow hat hlt'
  have hz2 := (hgrow.block w.heap.size (by simp) (by simp [Value.ownBlock])).trans (heap_alloc_new w _)
  have hr2 : w2.rangeAt b o (byts (ds.take 16)) := rangeAt_grown ((World.rangeAt_drew _ _ _ _).2 hr1) hgrow (by simp [Value.ownBlock])
  refine hK _ _ hr2 (wpListS_cons fun K2 hK2 => ?_)
  clear hK K
  refine step_store_mid (by rfl) _ _ _ (by rfl) w.heap.size 0 (byts (ds.take 16)).toArray (by rfl) (by rfl) (there_row hz2 (by simp [hlen])) (by rw [List.size_toArray]; exact hi) (byts_one _) ?_
  have hr3 := rangeAt_far (g := w.heap.size) (k := 0) (vs := byts (ds.take 16)) hr2 (by omega)
  refine hK2 _ _ hr3 ?_
  simp only [Act.put, List.setIfInBounds_toArray, List.set_cons_zero, List.set_cons_succ]
  refine wpListS_yields _ [.slice (some ⟨gg, 0, none⟩) (0 + (ds.length - 16)) cp, .bool true] _ _ hr3 ⟨.inl ⟨rfl, fun w _ => ?_⟩, .inl ⟨rfl, fun w _ => ?_⟩, trivial⟩ ?_
  · show (execOp _ _).run Try.prog w = _; go_simp
  · show (execOp _ _).run Try.prog w = _; go_simp
  simp only [putAll, Act.put, List.setIfInBounds_toArray, List.set_cons_zero, List.set_cons_succ]
  clear hK2 K2
  go_wp2
  have hgg : gg = w.heap.size + 1 := by
    rcases hat with h | h
    · simp [Value.ownBlock] at h
    · exact h
  refine bodyPost_ret (results_cell_two rfl _ _ w.heap.size (byts (ds.take 16)) _ rfl (World.rangeAt_setCells_same _ _ _ _ (there_row hz2 (by simp [hlen]))) hu rfl hi) rfl ⟨_, rfl, ?_, below_setCells ?_ (Nat.le_refl _)⟩
  · rw [List.nil_append, Nat.zero_add] at hown1
    rw [Nat.zero_add]
    exact own_move hown1 (fun k hk => setCells_far _ _ k (by simp [Value.ownBlock] at hk; omega))
  · exact ((Below.refl _ _).alloc (Nat.le_refl _) _).drew.grown hgrow (by simp) (fun k hk => by simp [Value.ownBlock] at hk)
end Go.Proofs.Ytbojagkalbfenaa
