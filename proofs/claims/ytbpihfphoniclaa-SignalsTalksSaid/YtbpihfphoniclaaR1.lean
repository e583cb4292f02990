/- How a table of signals lies in memory. -/
import Derived.Test.YtbpihfphoniclaaS0
import Derived.Test.YtbpihfphoniclaaR0
namespace Go.Proofs.Ytbpihfphoniclaa
open Go.RowKit
def pcells (l : List Pd) : List Value := l.flatMap fun p => [.int .i64 p.1, .int .i64 p.2]
theorem pcells_len (l : List Pd) : (pcells l).length = l.length * 2 := by
  induction l with
  | nil => rfl
  | cons p l ih => simp only [pcells, List.flatMap_cons, List.length_append, List.length_cons, List.length_nil] at ih ⊢; rw [ih]; omega
theorem pcells_get (l : List Pd) (i : Nat) (h : i < l.length) : (pcells l)[i * 2]? = some (.int .i64 (l.getD i (0, 0)).1) ∧ (pcells l)[i * 2 + 1]? = some (.int .i64 (l.getD i (0, 0)).2) := by
  induction l generalizing i with
  | nil => simp at h
  | cons p l ih =>
    cases i with
    | zero => simp [pcells]
    | succ i =>
      have := ih i (by simpa using h)
      simp only [pcells, List.flatMap_cons] at this ⊢
      rw [show (i + 1) * 2 = (i * 2) + 2 by omega, show (i * 2) + 2 + 1 = (i * 2 + 1) + 2 by omega]
      simpa using this
theorem pcells_append (a b : List Pd) : pcells (a ++ b) = pcells a ++ pcells b := by simp [pcells]
theorem pcells_one (l : List Pd) : ∀ u ∈ pcells l, u.oneCell' = true := by
  intro u hu
  simp only [pcells, List.mem_flatMap] at hu
  obtain ⟨p, -, hp⟩ := hu
  simp at hp
  rcases hp with rfl | rfl <;> rfl
theorem pcells_take (l : List Pd) (k : Nat) : pcells (l.take k) = (pcells l).take (k * 2) := by
  rcases Nat.lt_or_ge l.length k with h | h
  · rw [List.take_of_length_le (by omega), List.take_of_length_le (by rw [pcells_len]; omega)]
  · have e : pcells l = pcells (l.take k) ++ pcells (l.drop k) := by rw [← pcells_append, List.take_append_drop]
    have e2 : k * 2 = (pcells (l.take k)).length := by rw [pcells_len, List.length_take, Nat.min_eq_left h]
    rw [e, e2, List.take_left]
theorem pcells_drop (l : List Pd) (k : Nat) : pcells (l.drop k) = (pcells l).drop (k * 2) := by
  rcases Nat.lt_or_ge l.length k with h | h
  · rw [List.drop_of_length_le (by omega), List.drop_of_length_le (by rw [pcells_len]; omega)]; rfl
  · have e : pcells l = pcells (l.take k) ++ pcells (l.drop k) := by rw [← pcells_append, List.take_append_drop]
    have e2 : k * 2 = (pcells (l.take k)).length := by rw [pcells_len, List.length_take, Nat.min_eq_left h]
    rw [e, e2, List.drop_left]
/-- A slice of pairs. -/
def Ls (w : World) (e : TypeId) (v : Value) (l : List Pd) : Prop := Rw w e 2 v l.length (pcells l)
theorem ls_nil (w : World) (e : TypeId) : Ls w e (.slice none 0 0) [] := rw_nil w e 2

def oty : Obj → Option TypeId
  | .cells _ e _ => some e
  | _ => none
/-- What a call leaves as it was: all below `base`, and all blocks whose elements are of no type of T. -/
structure Fr (base : Nat) (T : List TypeId) (w w' : World) : Prop where
  bel : Below base w w'
  oth : ∀ (k : Nat) (o : Obj), w.heap[k]? = some o → (∀ e, oty o = some e → e ∉ T) → w'.heap[k]? = some o
theorem Fr.refl (base : Nat) (T : List TypeId) (w : World) : Fr base T w w := ⟨Below.refl _ _, fun _ _ h _ => h⟩
theorem Fr.trans {base : Nat} {T : List TypeId} {a b c : World} (h : Fr base T a b) (k : Fr base T b c) : Fr base T a c :=
  ⟨h.bel.trans k.bel, fun i o hi ho => k.oth i o (h.oth i o hi ho) ho⟩
theorem Fr.of_below {base : Nat} {T : List TypeId} {w w' : World} (h : Below w.heap.size w w') (hb : base ≤ w.heap.size) : Fr base T w w' :=
  ⟨h.mono hb, fun k o hk _ => by rw [h.block k (Array.getElem?_eq_some_iff.1 hk).1]; exact hk⟩
theorem Fr.mono {base base' : Nat} {T T' : List TypeId} {w w' : World} (h : Fr base T w w') (hb : base' ≤ base) (hT : ∀ e ∈ T, e ∈ T') : Fr base' T' w w' :=
  ⟨h.bel.mono hb, fun k o hk ho => h.oth k o hk (fun e he hm => ho e he (hT e hm))⟩
theorem Fr.size {base : Nat} {T : List TypeId} {w w' : World} (h : Fr base T w w') : w.heap.size ≤ w'.heap.size := h.bel.size
theorem Fr.setCell {base : Nat} {T : List TypeId} {w : World} {a : Addr} {u : Value} (hb : base ≤ a.block) (ht : ∀ o, w.heap[a.block]? = some o → ∃ e, oty o = some e ∧ e ∈ T) : Fr base T w (w.setCell a u) := by
  refine ⟨(Below.refl _ _).setCell hb u, fun k o hk ho => ?_⟩
  have hne : k ≠ a.block := by
    rintro rfl
    obtain ⟨e, he, hm⟩ := ht o hk
    exact ho e he hm
  rw [Below.heap_setCell _ _ _ _ hne]
  exact hk
theorem Fr.grown {base : Nat} {T : List TypeId} {w w' : World} {row : Option Nat} (hg : w.grownBy w' row) (hb : base ≤ w.heap.size) (hr : ∀ k, row = some k → base ≤ k ∧ ∀ o, w.heap[k]? = some o → ∃ e, oty o = some e ∧ e ∈ T) : Fr base T w w' := by
  refine ⟨(Below.refl _ _).grown hg hb (fun k hk => (hr k hk).1), fun k o hk ho => ?_⟩
  have hne : some k ≠ row := by
    intro h
    obtain ⟨e, he, hm⟩ := (hr k h.symm).2 o hk
    exact ho e he hm
  rw [hg.block k (Array.getElem?_eq_some_iff.1 hk).1 hne]
  exact hk
theorem Fr.of_heap {base : Nat} {T : List TypeId} {w w' : World} (h : w'.heap = w.heap) (h1 : w'.os = w.os) (h2 : w'.tape = w.tape) (h3 : w'.output = w.output) : Fr base T w w' :=
  ⟨⟨h1, h2, h3, by rw [h]; exact Nat.le_refl _, fun k _ => by rw [h]⟩, fun k o hk _ => by rw [h]; exact hk⟩

/-- Where things lie: the blocks of the threads, the slices of the lists. -/
structure Lay where
  ptr : Nat → Option Nat
  lv : Nat → Value
def pv (o : Option Nat) : Value := .pointer (o.map fun b => ⟨b, 0, none⟩)
def tcell (L : Lay) (S : St) (i : Nat) : Value :=
  if i < 256 then pv (L.ptr i)
  else if i < 3968 then (if (i - 256) % 58 < 57 then .int .i64 (S.ac ((i - 256) / 58) ((i - 256) % 58)) else L.lv (256 + (i - 256) / 58))
  else .int .i64 (S.got (i - 3968))
def kcells (x : Tk) (v : Value) : Array Value := #[.int .i64 x.proc, .int .u64 x.mask, v, .bool x.waits, .int .u64 x.wants]
structure RepL (w : World) (base t : Nat) (L : Lay) (S : St) : Prop where
  tab : ∃ cs, w.heap[t]? = some (.cells cs 77 (0, 0)) ∧ cs.size = 4224 ∧ ∀ i, i < 4224 → cs[i]? = some (tcell L S i)
  bt : base ≤ t
  idle : ∀ i, i < 256 → S.tk i = none → L.ptr i = none ∧ L.lv i = .slice none 0 0
  task : ∀ i, i < 256 → ∀ x, S.tk i = some x → ∃ b, L.ptr i = some b ∧ base ≤ b ∧ w.heap[b]? = some (.cells (kcells x (L.lv i)) 80 (0, 0))
  inj : ∀ i j b, i < 256 → j < 256 → L.ptr i = some b → L.ptr j = some b → i = j
  row : ∀ i, i < 320 → Ls w 94 (L.lv i) (S.ls i)
  rb : ∀ i, i < 320 → ∀ g, (L.lv i).ownBlock = some g → base ≤ g
  own : ∀ i j g, i < 320 → j < 320 → (L.lv i).ownBlock = some g → (L.lv j).ownBlock = some g → i = j
def Rep (w : World) (base t : Nat) (S : St) : Prop := ∃ L, RepL w base t L S
section
variable {w : World} {base t : Nat} {L : Lay} {S : St}
theorem RepL.kept {w' : World} (h : RepL w base t L S) (hk : ∀ (k : Nat) (cs : Array Value) (e : TypeId) (fr : Nat × Nat), w.heap[k]? = some (.cells cs e fr) → e = 77 ∨ e = 80 ∨ e = 94 → w'.heap[k]? = w.heap[k]?) : RepL w' base t L S := by
  obtain ⟨⟨cs, h1, h2, h3⟩, hbt, hn, ht, hi, hr, hrb, ho⟩ := h
  refine ⟨⟨cs, (hk t cs 77 _ h1 (.inl rfl)).trans h1, h2, h3⟩, hbt, hn, ?_, hi, ?_, hrb, ho⟩
  · intro i hi' x hx
    obtain ⟨b, h4, h5, h6⟩ := ht i hi' x hx
    exact ⟨b, h4, h5, (hk b _ 80 _ h6 (.inr (.inl rfl))).trans h6⟩
  · intro i hi'
    refine (hr i hi').kept fun g hg => ?_
    obtain ⟨cur, hc⟩ := (hr i hi').ty g hg
    exact hk g cur 94 _ hc (.inr (.inr rfl))
theorem RepL.lt (h : RepL w base t L S) : t < w.heap.size := by
  obtain ⟨cs, h1, _⟩ := h.tab
  exact (Array.getElem?_eq_some_iff.1 h1).1
theorem RepL.base_lt (h : RepL w base t L S) : base ≤ w.heap.size := by have := h.lt; have := h.bt; omega
theorem RepL.below {w' : World} (h : RepL w base t L S) (hb : Below w.heap.size w w') : RepL w' base t L S :=
  h.kept fun k cs e fr hk _ => hb.block k (Array.getElem?_eq_some_iff.1 hk).1
theorem RepL.heap {w' : World} (h : RepL w base t L S) (hb : w'.heap = w.heap) : RepL w' base t L S := h.kept fun k cs e fr hk _ => by rw [hb]
theorem RepL.fr {w' : World} {base' : Nat} {T : List TypeId} (h : RepL w base t L S) (hf : Fr base' T w w') (hT : 77 ∉ T ∧ 80 ∉ T ∧ 94 ∉ T) : RepL w' base t L S :=
  h.kept fun k cs e fr hk he => by
    rw [hk]
    refine hf.oth k _ hk fun e' he' => ?_
    simp [oty] at he'
    subst he'
    rcases he with rfl | rfl | rfl
    · exact hT.1
    · exact hT.2.1
    · exact hT.2.2
theorem RepL.cellT (h : RepL w base t L S) (i : Nat) (hi : i < 4224) : w.cell? ⟨t, i, none⟩ = some (tcell L S i) := by
  obtain ⟨cs, h1, _, h3⟩ := h.tab
  rw [cell_of_row _ _ _ _ _ _ h1]
  exact h3 i hi
theorem frozen_of_cells {w : World} {g : Nat} {cs : Array Value} {e : TypeId} (h : w.heap[g]? = some (.cells cs e (0, 0))) (i : Nat) : w.frozen? ⟨g, i, none⟩ = false := by simp [World.frozen?, h]
theorem RepL.frozenT (h : RepL w base t L S) (i : Nat) : w.frozen? ⟨t, i, none⟩ = false := by
  obtain ⟨cs, h1, _, _⟩ := h.tab
  exact frozen_of_cells h1 i
theorem tcell_ptr (L : Lay) (S : St) (i : Nat) (h : i < 256) : tcell L S i = pv (L.ptr i) := by simp [tcell, h]
theorem tcell_got (L : Lay) (S : St) (i j : Nat) (h : j = 3968 + i) : tcell L S j = .int .i64 (S.got i) := by
  subst h
  unfold tcell
  rw [if_neg (by omega), if_neg (by omega), Nat.add_sub_cancel_left]
theorem tcell_ac (L : Lay) (S : St) (p k j : Nat) (hp : p < 64) (hk : k < 57) (h : j = 256 + p * 58 + k) : tcell L S j = .int .i64 (S.ac p k) := by
  subst h
  have e1 : (256 + p * 58 + k - 256) % 58 = k := by omega
  have e2 : (256 + p * 58 + k - 256) / 58 = p := by omega
  unfold tcell
  rw [if_neg (by omega), if_pos (by omega), if_pos (by omega), e1, e2]
theorem tcell_lv (L : Lay) (S : St) (p j : Nat) (hp : p < 64) (h : j = 256 + p * 58 + 57) : tcell L S j = L.lv (256 + p) := by
  subst h
  have e2 : (256 + p * 58 + 57 - 256) / 58 = p := by omega
  unfold tcell
  rw [if_neg (by omega), if_pos (by omega), if_neg (by omega), e2]
theorem RepL.task_cell (h : RepL w base t L S) {i : Nat} (hi : i < 256) {x : Tk} (hx : S.tk i = some x) : ∃ b, L.ptr i = some b ∧ base ≤ b ∧ b < w.heap.size ∧ w.heap[b]? = some (.cells (kcells x (L.lv i)) 80 (0, 0)) ∧ w.cell? ⟨t, i, none⟩ = some (.pointer (some ⟨b, 0, none⟩)) := by
  obtain ⟨b, h1, h2, h3⟩ := h.task i hi x hx
  refine ⟨b, h1, h2, (Array.getElem?_eq_some_iff.1 h3).1, h3, ?_⟩
  rw [h.cellT i (by omega), tcell_ptr _ _ _ hi, h1]
  rfl
theorem RepL.none_cell (h : RepL w base t L S) {i : Nat} (hi : i < 256) (hx : S.tk i = none) : w.cell? ⟨t, i, none⟩ = some (.pointer none) := by
  rw [h.cellT i (by omega), tcell_ptr _ _ _ hi, (h.idle i hi hx).1]
  rfl

/-- The cells behind a store into the table's block. -/
theorem tab_set {w : World} {t : Nat} {cs : Array Value} (h1 : w.heap[t]? = some (.cells cs 77 (0, 0))) (h2 : cs.size = 4224) {f f' : Nat → Value} (h3 : ∀ i, i < 4224 → cs[i]? = some (f i)) (i : Nat) (v : Value) (hc : ∀ j, j < 4224 → f' j = if j = i then v else f j) :
    ∃ cs', (w.setCell ⟨t, i, none⟩ v).heap[t]? = some (.cells cs' 77 (0, 0)) ∧ cs'.size = 4224 ∧ ∀ j, j < 4224 → cs'[j]? = some (f' j) := by
  refine ⟨_, heap_setCell_same w t i _ 77 v h1, by simpa using h2, fun j hj => ?_⟩
  rw [Array.getElem?_setIfInBounds, hc j hj]
  by_cases hij : j = i
  · subst hij
    rw [if_pos rfl, if_pos rfl, if_pos (by omega)]
  · rw [if_neg (fun e => hij e.symm), if_neg hij]
    exact h3 j hj
theorem RepL.ne_tab (h : RepL w base t L S) {k : Nat} {cs : Array Value} {e : TypeId} {fr : Nat × Nat} (hk : w.heap[k]? = some (.cells cs e fr)) (he : e ≠ 77) : k ≠ t := by
  rintro rfl
  obtain ⟨cs', h1, _⟩ := h.tab
  rw [hk] at h1
  cases h1
  exact he rfl
/-- A number in the table is written. -/
theorem RepL.setT {S' : St} (h : RepL w base t L S) (i : Nat) (v : Value) (hc : ∀ j, j < 4224 → tcell L S' j = if j = i then v else tcell L S j) (ht : S'.tk = S.tk) (hl : S'.ls = S.ls) : RepL (w.setCell ⟨t, i, none⟩ v) base t L S' := by
  obtain ⟨cs, h1, h2, h3⟩ := h.tab
  refine ⟨tab_set h1 h2 h3 i v hc, h.bt, by rw [ht]; exact h.idle, ?_, h.inj, ?_, h.rb, h.own⟩
  · intro i' hi' x hx
    rw [ht] at hx
    obtain ⟨b, h4, h5, h6⟩ := h.task i' hi' x hx
    refine ⟨b, h4, h5, ?_⟩
    rw [Below.heap_setCell _ _ _ _ (h.ne_tab h6 (by decide))]
    exact h6
  · intro i' hi'
    rw [hl]
    refine (h.row i' hi').kept fun g hg => ?_
    obtain ⟨cur, hcur⟩ := (h.row i' hi').ty g hg
    exact Below.heap_setCell _ _ _ _ (h.ne_tab hcur (by decide))
theorem RepL.setGot (h : RepL w base t L S) (i j : Nat) (hi : i < 256) (hj : j = 3968 + i) (n : Int) : RepL (w.setCell ⟨t, j, none⟩ (.int .i64 n)) base t L { S with got := upd S.got i n } := by
  subst hj
  refine h.setT _ _ (fun j hj => ?_) rfl rfl
  by_cases e : j = 3968 + i
  · rw [if_pos e, tcell_got _ _ i j e]; simp
  · rw [if_neg e]
    unfold tcell
    split
    · rfl
    · split
      · rfl
      · dsimp only
        rw [upd_other _ _ (by omega)]
theorem RepL.setAc (h : RepL w base t L S) (p k j : Nat) (hp : p < 64) (hk : k < 57) (hj : j = 256 + p * 58 + k) (n : Int) : RepL (w.setCell ⟨t, j, none⟩ (.int .i64 n)) base t L { S with ac := upd S.ac p (upd (S.ac p) k n) } := by
  subst hj
  refine h.setT _ _ (fun j hj => ?_) rfl rfl
  by_cases e : j = 256 + p * 58 + k
  · rw [if_pos e, tcell_ac _ _ p k j hp hk e]; simp
  · rw [if_neg e]
    unfold tcell
    split
    · rfl
    · split
      · split
        · have hor : (j - 256) / 58 ≠ p ∨ (j - 256) % 58 ≠ k := by omega
          dsimp only
          by_cases e2 : (j - 256) / 58 = p
          · rw [e2, upd_same, upd_other _ _ (by omega)]
          · rw [upd_other _ _ e2]
        · rfl
      · rfl
/-- A field of a thread is written. -/
theorem RepL.setTk (h : RepL w base t L S) {i : Nat} (hi : i < 256) {x : Tk} (hx : S.tk i = some x) {b : Nat} (hb : L.ptr i = some b) (k : Nat) (v : Value) (x' : Tk) (hc : (kcells x (L.lv i)).setIfInBounds k v = kcells x' (L.lv i)) :
    RepL (w.setCell ⟨b, k, none⟩ v) base t L { S with tk := upd S.tk i (some x') } := by
  obtain ⟨b', h1, h2, h3⟩ := h.task i hi x hx
  rw [hb] at h1
  cases h1
  obtain ⟨cs, t1, t2, t3⟩ := h.tab
  have hne := h.ne_tab h3 (by decide)
  refine ⟨⟨cs, by rw [Below.heap_setCell _ _ _ _ (Ne.symm hne)]; exact t1, t2, t3⟩, h.bt, ?_, ?_, h.inj, ?_, h.rb, h.own⟩
  · intro i' hi' hn
    by_cases e : i' = i
    · subst e; simp at hn
    · have hn := (upd_other S.tk (some x') e).symm.trans hn
      exact h.idle i' hi' hn
  · intro i' hi' y hy
    by_cases e : i' = i
    · subst e
      simp at hy
      subst hy
      refine ⟨b, hb, h2, ?_⟩
      rw [heap_setCell_same w b k _ 80 v h3, hc]
    · have hy := (upd_other S.tk (some x') e).symm.trans hy
      obtain ⟨b2, h4, h5, h6⟩ := h.task i' hi' y hy
      refine ⟨b2, h4, h5, ?_⟩
      rw [Below.heap_setCell _ _ _ _ (fun e2 => e (h.inj i' i b hi' hi (by rw [h4, show b2 = b from e2]) hb))]
      exact h6
  · intro i' hi'
    refine (h.row i' hi').kept fun g hg => ?_
    obtain ⟨cur, hcur⟩ := (h.row i' hi').ty g hg
    refine Below.heap_setCell _ _ _ _ ?_
    rintro rfl
    have hcur : w.heap[g]? = some (.cells cur 94 (0, 0)) := hcur
    rw [h3] at hcur
    cases hcur
/-- A list is written: a row has grown, and its slice is stored. -/
theorem RepL.setLs (h : RepL w base t L S) {i : Nat} (hi : i < 320) {w1 : World} (hg : w.grownBy w1 (L.lv i).ownBlock) {v' : Value} {l' : List Pd} (hr : Ls w1 94 v' l') (ho : ∀ g, v'.ownBlock = some g → (L.lv i).ownBlock = some g ∨ w.heap.size ≤ g) :
    ((hlt : i < 256) → ∀ b x, L.ptr i = some b → S.tk i = some x → RepL (w1.setCell ⟨b, 2, none⟩ v') base t { L with lv := upd L.lv i v' } { S with ls := upd S.ls i l' }) ∧
    (∀ p j, i = 256 + p → j = 256 + p * 58 + 57 → RepL (w1.setCell ⟨t, j, none⟩ v') base t { L with lv := upd L.lv i v' } { S with ls := upd S.ls i l' }) := by
  have hown : ∀ (k : Nat) (cs : Array Value) (e : TypeId) (fr : Nat × Nat), w.heap[k]? = some (.cells cs e fr) → e ≠ 94 → w1.heap[k]? = w.heap[k]? := by
    intro k cs e fr hk he
    refine hg.block k (Array.getElem?_eq_some_iff.1 hk).1 ?_
    intro e2
    obtain ⟨cur, hc⟩ := (h.row i hi).ty k e2.symm
    rw [hk] at hc
    cases hc
    exact he rfl
  obtain ⟨cs, t1, t2, t3⟩ := h.tab
  have t1' := (hown t cs 77 _ t1 (by decide)).trans t1
  have rows : ∀ (a : Addr) (hty : ∀ cs fr, w1.heap[a.block]? ≠ some (.cells cs 94 fr)) j, j < 320 → Ls (w1.setCell a v') 94 ((upd L.lv i v') j) ((upd S.ls i l') j) := by
    intro a hty j hj
    by_cases e : j = i
    · subst e
      rw [upd_same, upd_same]
      refine hr.kept fun g hg' => ?_
      obtain ⟨cur, hc⟩ := hr.ty g hg'
      refine Below.heap_setCell _ _ _ _ ?_
      rintro rfl
      exact hty _ _ hc
    · rw [upd_other _ _ e, upd_other _ _ e]
      refine (h.row j hj).kept fun g hg' => ?_
      obtain ⟨cur, hc⟩ := (h.row j hj).ty g hg'
      have e1 : w1.heap[g]? = w.heap[g]? := hg.block g (Array.getElem?_eq_some_iff.1 hc).1 (fun e2 => e (h.own j i g hj hi hg' e2.symm))
      rw [← e1]
      refine Below.heap_setCell _ _ _ _ ?_
      rintro rfl
      exact hty _ _ (e1.trans hc)
  have rbs : ∀ j, j < 320 → ∀ g, ((upd L.lv i v') j).ownBlock = some g → base ≤ g := by
    intro j hj g hg'
    by_cases e : j = i
    · subst e
      rw [upd_same] at hg'
      rcases ho g hg' with h1 | h1
      · exact h.rb j hj g h1
      · have := h.base_lt; omega
    · rw [upd_other _ _ e] at hg'
      exact h.rb j hj g hg'
  have owns : ∀ j k g, j < 320 → k < 320 → ((upd L.lv i v') j).ownBlock = some g → ((upd L.lv i v') k).ownBlock = some g → j = k := by
    have one : ∀ k g, k < 320 → k ≠ i → v'.ownBlock = some g → (L.lv k).ownBlock = some g → False := by
      intro k g hk hne h1 h2
      rcases ho g h1 with h3 | h3
      · exact hne (h.own k i g hk hi h2 h3)
      · have := (h.row k hk).lt g h2
        omega
    intro j k g hj hk h1 h2
    by_cases e : j = i
    · subst e
      by_cases e2 : k = j
      · exact e2.symm
      · rw [upd_same] at h1
        rw [upd_other _ _ e2] at h2
        exact (one k g hk e2 h1 h2).elim
    · rw [upd_other _ _ e] at h1
      by_cases e2 : k = i
      · subst e2
        rw [upd_same] at h2
        exact (one j g hj e h2 h1).elim
      · rw [upd_other _ _ e2] at h2
        exact h.own j k g hj hk h1 h2
  refine ⟨fun hlt b x hb hx => ?_, fun p j hp hj => ?_⟩
  · obtain ⟨b', h1, h2, h3⟩ := h.task i hlt x hx
    rw [hb] at h1
    cases h1
    have h3' := (hown b _ 80 _ h3 (by decide)).trans h3
    have hne := h.ne_tab h3 (by decide)
    refine ⟨⟨cs, ?_, t2, fun j hj => ?_⟩, h.bt, ?_, ?_, h.inj, rows _ (fun cs fr => by rw [h3']; intro hh; cases hh), rbs, owns⟩
    · rw [Below.heap_setCell _ _ _ _ (Ne.symm hne)]; exact t1'
    · rw [t3 j hj]
      unfold tcell
      split
      · rfl
      · split
        · split
          · rfl
          · dsimp only
            rw [upd_other _ _ (by omega)]
        · rfl
    · intro i' hi' hn
      obtain ⟨n1, n2⟩ := h.idle i' hi' hn
      refine ⟨n1, ?_⟩
      show (upd L.lv i v') i' = _
      rw [upd_other _ _ (fun e => by subst e; rw [show S.tk i' = some x from hx] at hn; cases hn)]
      exact n2
    · intro i' hi' y hy
      have hy' : S.tk i' = some y := hy
      by_cases e : i' = i
      · subst e
        rw [hx] at hy'
        cases hy'
        refine ⟨b, hb, h2, ?_⟩
        rw [heap_setCell_same w1 b 2 _ 80 v' h3']
        simp [kcells]
      · obtain ⟨b2, h4, h5, h6⟩ := h.task i' hi' y hy'
        refine ⟨b2, h4, h5, ?_⟩
        rw [Below.heap_setCell _ _ _ _ (fun e2 => e (h.inj i' i b hi' hlt (by rw [h4, show b2 = b from e2]) hb))]
        dsimp only
        rw [upd_other _ _ e]
        exact (hown b2 _ 80 _ h6 (by decide)).trans h6
  · have hp64 : p < 64 := by omega
    subst hp hj
    have hcell : ∀ j, j < 4224 → tcell { L with lv := upd L.lv (256 + p) v' } { S with ls := upd S.ls (256 + p) l' } j = if j = 256 + p * 58 + 57 then v' else tcell L S j := by
      intro j hj
      by_cases e : j = 256 + p * 58 + 57
      · rw [if_pos e, tcell_lv _ _ p j hp64 e]
        exact upd_same _ _ _
      · rw [if_neg e]
        unfold tcell
        split
        · rfl
        · split
          · split
            · rfl
            · dsimp only
              rw [upd_other _ _ (by omega)]
          · rfl
    refine ⟨tab_set t1' t2 t3 _ v' hcell, h.bt, ?_, ?_, h.inj, rows _ (fun cs fr => by rw [t1']; intro hh; cases hh), rbs, owns⟩
    · intro i' hi' hn
      obtain ⟨n1, n2⟩ := h.idle i' hi' hn
      refine ⟨n1, ?_⟩
      show (upd L.lv (256 + p) v') i' = _
      rw [upd_other _ _ (by omega)]
      exact n2
    · intro i' hi' y hy
      obtain ⟨b2, h4, h5, h6⟩ := h.task i' hi' y hy
      refine ⟨b2, h4, h5, ?_⟩
      have e6 := (hown b2 _ 80 _ h6 (by decide)).trans h6
      rw [Below.heap_setCell _ _ _ _ (fun e2 => by rw [show b2 = t from e2, t1'] at e6; cases e6)]
      dsimp only
      rw [upd_other _ _ (by omega)]
      exact e6
/-- A thread is started: its new block is stored. -/
theorem RepL.start (h : RepL w base t L S) {i : Nat} (hi : i < 256) (hx : S.tk i = none) (x : Tk) {w1 : World} (hb1 : Below w.heap.size w w1) {b : Nat} (hb : w.heap.size ≤ b) (hcell : w1.heap[b]? = some (.cells (kcells x (.slice none 0 0)) 80 (0, 0))) :
    RepL (w1.setCell ⟨t, i, none⟩ (.pointer (some ⟨b, 0, none⟩))) base t { L with ptr := upd L.ptr i (some b) } { S with tk := upd S.tk i (some x) } := by
  have h1 := h.below hb1
  obtain ⟨cs, t1, t2, t3⟩ := h1.tab
  have hfresh : ∀ j, j < 256 → L.ptr j ≠ some b := by
    intro j hj hp
    cases hs : S.tk j with
    | none => rw [(h.idle j hj hs).1] at hp; cases hp
    | some y =>
      obtain ⟨b2, h4, _, h6⟩ := h.task j hj y hs
      rw [hp] at h4
      cases h4
      have := (Array.getElem?_eq_some_iff.1 h6).1
      omega
  have hbl := h.base_lt
  refine ⟨tab_set t1 t2 t3 i _ (fun j hj => ?_), h.bt, ?_, ?_, ?_, ?_, h.rb, h.own⟩
  · by_cases e : j = i
    · rw [if_pos e, tcell_ptr _ _ _ (by omega)]
      subst e
      show pv (upd L.ptr j (some b) j) = _
      rw [upd_same]
      rfl
    · rw [if_neg e]
      unfold tcell
      split
      · show pv (upd L.ptr i (some b) j) = _
        rw [upd_other _ _ e]
      · rfl
  · intro i' hi' hn
    by_cases e : i' = i
    · subst e; simp at hn
    · have hn := (upd_other S.tk (some x) e).symm.trans hn
      obtain ⟨n1, n2⟩ := h.idle i' hi' hn
      exact ⟨(upd_other _ _ e).trans n1, n2⟩
  · intro i' hi' y hy
    by_cases e : i' = i
    · subst e
      simp at hy
      subst hy
      refine ⟨b, upd_same _ _ _, by omega, ?_⟩
      rw [Below.heap_setCell _ _ _ _ (by have := h.lt; simp; omega), hcell, (h.idle i' hi hx).2]
    · have hy := (upd_other S.tk (some x) e).symm.trans hy
      obtain ⟨b2, h4, h5, h6⟩ := h1.task i' hi' y hy
      refine ⟨b2, (upd_other _ _ e).trans h4, h5, ?_⟩
      rw [Below.heap_setCell _ _ _ _ (h1.ne_tab h6 (by decide))]
      exact h6
  · intro j k c hj hk e1 e2
    have e1' : upd L.ptr i (some b) j = some c := e1
    have e2' : upd L.ptr i (some b) k = some c := e2
    by_cases ej : j = i
    · subst ej
      rw [upd_same] at e1'
      cases e1'
      by_cases ek : k = j
      · exact ek.symm
      · rw [upd_other _ _ ek] at e2'
        exact (hfresh k hk e2').elim
    · rw [upd_other _ _ ej] at e1'
      by_cases ek : k = i
      · subst ek
        rw [upd_same] at e2'
        cases e2'
        exact (hfresh j hj e1').elim
      · rw [upd_other _ _ ek] at e2'
        exact h.inj j k c hj hk e1' e2'
  · intro i' hi'
    refine (h1.row i' hi').kept fun g hg => ?_
    obtain ⟨cur, hcur⟩ := (h1.row i' hi').ty g hg
    exact Below.heap_setCell _ _ _ _ (h1.ne_tab hcur (by decide))
/-- A thread is ended: its pointer is nil. -/
theorem RepL.gone (h : RepL w base t L S) {i : Nat} (hi : i < 256) :
    RepL (w.setCell ⟨t, i, none⟩ (.pointer none)) base t { ptr := upd L.ptr i none, lv := upd L.lv i (.slice none 0 0) } { S with tk := upd S.tk i none, ls := upd S.ls i [] } := by
  obtain ⟨cs, t1, t2, t3⟩ := h.tab
  refine ⟨tab_set t1 t2 t3 i _ (fun j hj => ?_), h.bt, ?_, ?_, ?_, ?_, ?_, ?_⟩
  · by_cases e : j = i
    · rw [if_pos e, tcell_ptr _ _ _ (by omega)]
      subst e
      show pv (upd L.ptr j none j) = _
      rw [upd_same]
      rfl
    · rw [if_neg e]
      unfold tcell
      split
      · show pv (upd L.ptr i none j) = _
        rw [upd_other _ _ e]
      · split
        · split
          · rfl
          · dsimp only
            rw [upd_other _ _ (by omega)]
        · rfl
  · intro i' hi' hn
    by_cases e : i' = i
    · subst e; exact ⟨upd_same _ _ _, upd_same _ _ _⟩
    · have hn := (upd_other S.tk none e).symm.trans hn
      obtain ⟨n1, n2⟩ := h.idle i' hi' hn
      exact ⟨(upd_other _ _ e).trans n1, (upd_other _ _ e).trans n2⟩
  · intro i' hi' y hy
    by_cases e : i' = i
    · subst e; simp at hy
    · have hy := (upd_other S.tk none e).symm.trans hy
      obtain ⟨b2, h4, h5, h6⟩ := h.task i' hi' y hy
      refine ⟨b2, (upd_other _ _ e).trans h4, h5, ?_⟩
      rw [Below.heap_setCell _ _ _ _ (h.ne_tab h6 (by decide))]
      dsimp only
      rw [upd_other _ _ e]
      exact h6
  · intro j k c hj hk e1 e2
    have e1' : upd L.ptr i none j = some c := e1
    have e2' : upd L.ptr i none k = some c := e2
    by_cases ej : j = i
    · subst ej; rw [upd_same] at e1'; cases e1'
    · by_cases ek : k = i
      · subst ek; rw [upd_same] at e2'; cases e2'
      · rw [upd_other _ _ ej] at e1'
        rw [upd_other _ _ ek] at e2'
        exact h.inj j k c hj hk e1' e2'
  · intro i' hi'
    by_cases e : i' = i
    · subst e
      show Ls _ 94 (upd L.lv i' (.slice none 0 0) i') (upd S.ls i' [] i')
      rw [upd_same, upd_same]
      exact ls_nil _ _
    · show Ls _ 94 (upd L.lv i (.slice none 0 0) i') (upd S.ls i [] i')
      rw [upd_other _ _ e, upd_other _ _ e]
      refine (h.row i' hi').kept fun g hg => ?_
      obtain ⟨cur, hcur⟩ := (h.row i' hi').ty g hg
      exact Below.heap_setCell _ _ _ _ (h.ne_tab hcur (by decide))
  · intro i' hi' g hg
    have hg' : (upd L.lv i (.slice none 0 0) i').ownBlock = some g := hg
    by_cases e : i' = i
    · subst e; rw [upd_same] at hg'; cases hg'
    · rw [upd_other _ _ e] at hg'
      exact h.rb i' hi' g hg'
  · intro j k g hj hk e1 e2
    have e1' : (upd L.lv i (.slice none 0 0) j).ownBlock = some g := e1
    have e2' : (upd L.lv i (.slice none 0 0) k).ownBlock = some g := e2
    by_cases ej : j = i
    · subst ej; rw [upd_same] at e1'; cases e1'
    · by_cases ek : k = i
      · subst ek; rw [upd_same] at e2'; cases e2'
      · rw [upd_other _ _ ej] at e1'
        rw [upd_other _ _ ek] at e2'
        exact h.own j k g hj hk e1' e2'
/-- A process is forgotten: its cells in the table are zero. -/
theorem RepL.wipe (h : RepL w base t L S) {p : Nat} (hp : p < 64) {w1 : World} {cs' : Array Value} (hw : ∀ k, k ≠ t → w1.heap[k]? = w.heap[k]?) (h1 : w1.heap[t]? = some (.cells cs' 77 (0, 0))) (h2 : cs'.size = 4224)
    (h3 : ∀ j, j < 4224 → cs'[j]? = if 256 + p * 58 ≤ j ∧ j < 256 + p * 58 + 57 then some (.int .i64 0) else if j = 256 + p * 58 + 57 then some (.slice none 0 0) else some (tcell L S j)) :
    RepL w1 base t { L with lv := upd L.lv (256 + p) (.slice none 0 0) } { S with ac := upd S.ac p (fun _ => 0), ls := upd S.ls (256 + p) [] } := by
  refine ⟨⟨cs', h1, h2, fun j hj => ?_⟩, h.bt, ?_, ?_, h.inj, ?_, ?_, ?_⟩
  · rw [h3 j hj]
    unfold tcell
    by_cases c1 : j < 256
    · rw [if_neg (by omega), if_neg (by omega), if_pos c1, if_pos c1]
    · by_cases c2 : j < 3968
      · rw [if_neg c1, if_neg c1, if_pos c2, if_pos c2]
        by_cases c3 : (j - 256) % 58 < 57
        · rw [if_pos c3, if_pos c3]
          by_cases c4 : (j - 256) / 58 = p
          · rw [if_pos (by omega), c4]
            dsimp only
            rw [upd_same]
          · rw [if_neg (by omega), if_neg (by omega)]
            dsimp only
            rw [upd_other _ _ c4]
        · rw [if_neg c3, if_neg c3, if_neg (by omega)]
          by_cases c4 : (j - 256) / 58 = p
          · rw [if_pos (by omega), c4]
            dsimp only
            rw [upd_same]
          · rw [if_neg (by omega)]
            dsimp only
            rw [upd_other _ _ (by omega)]
      · rw [if_neg (by omega), if_neg (by omega), if_neg c1, if_neg c1, if_neg c2, if_neg c2]
  · intro i' hi' hn
    obtain ⟨n1, n2⟩ := h.idle i' hi' hn
    exact ⟨n1, (upd_other _ _ (by omega)).trans n2⟩
  · intro i' hi' y hy
    obtain ⟨b2, h4, h5, h6⟩ := h.task i' hi' y hy
    refine ⟨b2, h4, h5, ?_⟩
    rw [hw b2 (h.ne_tab h6 (by decide))]
    dsimp only
    rw [upd_other _ _ (by omega)]
    exact h6
  · intro i' hi'
    by_cases e : i' = 256 + p
    · subst e
      show Ls _ 94 (upd L.lv (256 + p) (.slice none 0 0) (256 + p)) (upd S.ls (256 + p) [] (256 + p))
      rw [upd_same, upd_same]
      exact ls_nil _ _
    · show Ls _ 94 (upd L.lv (256 + p) (.slice none 0 0) i') (upd S.ls (256 + p) [] i')
      rw [upd_other _ _ e, upd_other _ _ e]
      refine (h.row i' hi').kept fun g hg => ?_
      obtain ⟨cur, hcur⟩ := (h.row i' hi').ty g hg
      exact hw g (h.ne_tab hcur (by decide))
  · intro i' hi' g hg
    have hg' : (upd L.lv (256 + p) (.slice none 0 0) i').ownBlock = some g := hg
    by_cases e : i' = 256 + p
    · subst e; rw [upd_same] at hg'; cases hg'
    · rw [upd_other _ _ e] at hg'
      exact h.rb i' hi' g hg'
  · intro j k g hj hk e1 e2
    have e1' : (upd L.lv (256 + p) (.slice none 0 0) j).ownBlock = some g := e1
    have e2' : (upd L.lv (256 + p) (.slice none 0 0) k).ownBlock = some g := e2
    by_cases ej : j = 256 + p
    · subst ej; rw [upd_same] at e1'; cases e1'
    · by_cases ek : k = 256 + p
      · subst ek; rw [upd_same] at e2'; cases e2'
      · rw [upd_other _ _ ej] at e1'
        rw [upd_other _ _ ek] at e2'
        exact h.own j k g hj hk e1' e2'
end
end Go.Proofs.Ytbpihfphoniclaa
