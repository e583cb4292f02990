/- The plain words of layer 12: a table of signals as a state, and each call as a function on it. No program in sight. -/
namespace Go.Proofs.Ytbpihfphoniclaa
abbrev Pd := Int × Int
structure Tk where
  proc : Int
  mask : Nat
  waits : Bool
  wants : Nat
/-- A table: its threads, its actions, its lists (of thread i: i; of process p: 256 + p), what was got. -/
structure St where
  tk : Nat → Option Tk
  ac : Nat → Nat → Int
  ls : Nat → List Pd
  got : Nat → Int
def upd {α : Type} (f : Nat → α) (i : Nat) (v : α) : Nat → α := fun j => if j = i then v else f j
@[simp] theorem upd_same {α : Type} (f : Nat → α) (i : Nat) (v : α) : upd f i v i = v := by simp [upd]
theorem upd_other {α : Type} (f : Nat → α) {i j : Nat} (v : α) (h : j ≠ i) : upd f i v j = f j := by simp [upd, h]
def S0 : St := { tk := fun _ => none, ac := fun _ _ => 0, ls := fun _ => [], got := fun _ => 0 }
def isTh (n : Int) : Bool := decide (0 ≤ n) && decide (n < 256)
def isPr (n : Int) : Bool := decide (0 ≤ n) && decide (n < 64)
def hasB (m : Nat) (s : Int) : Bool := m.testBit (s - 1).toNat
def allM : Nat := 72057594037927935
def nevM : Nat := 262400
def without (l : List Pd) (s : Int) : List Pd := l.filter fun x => !(x.1 == s)
def inP (S : St) (p : Int) (i : Nat) : Bool := match S.tk i with | some x => x.proc == p | none => false
def threads (S : St) (p : Int) : List Nat := (List.range 256).filter (inP S p)
def ignored (S : St) (p : Nat) (s : Int) : Bool := (S.ac p s.toNat == 1) || ((S.ac p s.toNat == 0) && (s == 17))
def forget (S : St) (p : Nat) (s : Int) : St := { S with ls := fun i => if i = 256 + p ∨ (i < 256 ∧ inP S p i = true) then without (S.ls i) s else S.ls i }
def opposite (S : St) (p : Nat) (s : Int) : St := if s = 18 then forget S p 19 else if s = 19 then forget S p 18 else S
def queued (l : List Pd) : Nat := (l.filter fun x => decide (41 ≤ x.1)).length
def pends (l : List Pd) (s : Int) : Bool := l.any fun x => x.1 == s
def startS (S : St) (th p : Int) : Int × St :=
  if !isTh th || !isPr p then (34, S) else if (S.tk th.toNat).isSome then (38, S)
  else (0, { S with tk := upd S.tk th.toNat (some ⟨p, 0, false, 0⟩), got := upd S.got th.toNat 0 })
def endS (S : St) (th : Int) : Int × St :=
  if !isTh th then (34, S) else match S.tk th.toNat with
  | none => (24, S)
  | some x =>
    let S1 : St := { S with tk := upd S.tk th.toNat none, ls := upd S.ls th.toNat [], got := upd S.got th.toNat 0 }
    if (threads S1 x.proc).isEmpty then (0, { S1 with ac := upd S1.ac x.proc.toNat (fun _ => 0), ls := upd S1.ls (256 + x.proc.toNat) [] }) else (0, S1)
def actionS (S : St) (p s a : Int) : (Int × Int) × St :=
  if !isPr p then ((0, 34), S) else if s < 1 ∨ 56 < s ∨ a < 0 ∨ 2 < a then ((0, 14), S) else if s = 9 ∨ s = 19 then ((0, 32), S)
  else
    let S1 : St := { S with ac := upd S.ac p.toNat (upd (S.ac p.toNat) s.toNat a) }
    ((S.ac p.toNat s.toNat, 0), if ignored S1 p.toNat s then forget S1 p.toNat s else S1)
def newMask (old : Nat) (how : Int) (b : Nat) : Nat :=
  let s := b &&& allM
  let m := if how = 0 then old ||| s else if how = 1 then old &&& (18446744073709551615 - s) else s
  m &&& (18446744073709551615 - nevM)
def maskS (S : St) (th how : Int) (b : Nat) : (Nat × Int) × St :=
  if !isTh th then ((0, 34), S) else if how < 0 ∨ 2 < how then ((0, 14), S) else match S.tk th.toNat with
  | none => ((0, 24), S)
  | some x => ((x.mask, 0), { S with tk := upd S.tk th.toNat (some { x with mask := newMask x.mask how b }) })
def waitsFor (S : St) (s : Int) (i : Nat) : Bool := match S.tk i with | some x => x.waits && hasB x.wants s | none => false
def unmasked (S : St) (s : Int) (i : Nat) : Bool := match S.tk i with | some x => !hasB x.mask s | none => false
def choose (S : St) (l : List Nat) (s : Int) : Int :=
  match l.find? (waitsFor S s) with
  | some i => i
  | none => match l.find? (unmasked S s) with
    | some i => i
    | none => -1
/-- The list that a signal goes to. -/
def slotOf (to : Int) (p : Nat) : Nat := if 0 ≤ to then to.toNat else 256 + p
def killS (S : St) (th p s v : Int) : (List (Int × Int × Int) × Int) × St :=
  if (th ≠ -1 ∧ isTh th = false) ∨ isPr p = false then (([], 34), S) else if s < 1 ∨ 56 < s then (([], 14), S)
  else
    let l := threads S p
    if (th ≠ -1 ∧ th.toNat ∉ l) ∨ l = [] then (([], 24), S)
    else
      let to := if th = -1 then choose S l s else th
      if 0 ≤ to ∧ waitsFor S s to.toNat = true then
        let S1 := opposite S p.toNat s
        (([(to, 0, v)], 0), { S1 with tk := upd S1.tk to.toNat ((S1.tk to.toNat).map fun x => { x with waits := false }), got := upd S1.got to.toNat s })
      else if ignored S p.toNat s = false ∧ 41 ≤ s ∧ 64 ≤ queued (S.ls (slotOf to p.toNat)) then (([], 2), S)
      else
        let S1 := opposite S p.toNat s
        if ignored S p.toNat s = false ∧ (41 ≤ s ∨ pends (S1.ls (slotOf to p.toNat)) s = false) then (([], 0), { S1 with ls := upd S1.ls (slotOf to p.toNat) (S1.ls (slotOf to p.toNat) ++ [(s, v)]) })
        else (([], 0), S1)
/-- The least signal of a list that is in a set, or 0. -/
def lowest (l : List Pd) (m : Nat) : Int := l.foldl (fun a x => if hasB m x.1 && (a == 0 || decide (x.1 < a)) then x.1 else a) 0
def cut (l : List Pd) (s : Int) : List Pd := l.eraseP fun x => x.1 == s
def valOf (l : List Pd) (s : Int) : Int := ((l.find? fun x => x.1 == s).getD (0, 0)).2
def srcOf (S : St) (th : Nat) (p : Nat) (s : Int) : Nat := if pends (S.ls th) s then th else 256 + p
def takeS (S : St) (th p : Nat) (s : Int) : Int × St :=
  (valOf (S.ls (srcOf S th p s)) s, { S with ls := upd S.ls (srcOf S th p s) (cut (S.ls (srcOf S th p s)) s) })
def does (S : St) (p : Nat) (s : Int) : Int :=
  if S.ac p s.toNat = 2 then 1 else if S.ac p s.toNat = 1 then 5 else if s = 19 then 3 else if s = 18 then 4 else if s = 17 then 5 else 2
def both (S : St) (th p : Nat) : List Pd := S.ls th ++ S.ls (256 + p)
def nextS (S : St) (th : Int) : ((Int × Int × Int) × Bool) × St :=
  if !isTh th then (((0, 0, 0), false), S) else match S.tk th.toNat with
  | none => (((0, 0, 0), false), S)
  | some x =>
    if x.waits then (((0, 0, 0), false), S)
    else
      let s := lowest (both S th.toNat x.proc.toNat) (allM &&& (18446744073709551615 - x.mask))
      if s = 0 then (((0, 0, 0), false), S)
      else (((s, (takeS S th.toNat x.proc.toNat s).1, does S x.proc.toNat s), true), (takeS S th.toNat x.proc.toNat s).2)
def waitS (S : St) (th : Int) (b : Nat) : (Int × Int × Bool × Int) × St :=
  if !isTh th then ((0, 0, false, 34), S) else match S.tk th.toNat with
  | none => ((0, 0, false, 24), S)
  | some x =>
    if x.waits then ((0, 0, false, 35), S)
    else
      let s := lowest (both S th.toNat x.proc.toNat) (b &&& allM)
      if s = 0 then ((0, 0, true, 0), { S with tk := upd S.tk th.toNat (some { x with waits := true, wants := b &&& allM }), got := upd S.got th.toNat 0 })
      else ((s, (takeS S th.toNat x.proc.toNat s).1, false, 0), { (takeS S th.toNat x.proc.toNat s).2 with got := upd S.got th.toNat s })
def gotS (S : St) (th : Int) : Int := if !isTh th then 0 else S.got th.toNat
def orOf (l : List Pd) : Nat := l.foldl (fun m x => m ||| 2 ^ (x.1 - 1).toNat) 0
def pendingS (S : St) (th : Int) : Nat × Int :=
  if !isTh th then (0, 34) else match S.tk th.toNat with
  | none => (0, 24)
  | some x => (orOf (both S th.toNat x.proc.toNat), 0)
def cancelS (S : St) (th : Int) : Bool × St :=
  if !isTh th then (false, S) else match S.tk th.toNat with
  | none => (false, S)
  | some x => if x.waits then (true, { S with tk := upd S.tk th.toNat (some { x with waits := false }) }) else (false, S)

/-- What always holds of a table; n bounds the lengths of its lists. -/
structure Inv (S : St) (n : Nat) : Prop where
  sig : ∀ i, i < 320 → ∀ x ∈ S.ls i, 1 ≤ x.1 ∧ x.1 ≤ 56
  len : ∀ i, i < 320 → (S.ls i).length ≤ n
  task : ∀ i, i < 256 → ∀ x, S.tk i = some x → 0 ≤ x.proc ∧ x.proc < 64 ∧ x.mask < 72057594037927936 ∧ x.mask.testBit 8 = false ∧ x.mask.testBit 18 = false ∧ x.wants < 72057594037927936
  dead : ∀ i, i < 256 → S.tk i = none → S.ls i = []
  ignT : ∀ i, i < 256 → ∀ x, S.tk i = some x → ∀ y ∈ S.ls i, ignored S x.proc.toNat y.1 = false
  ignP : ∀ p, p < 64 → ∀ y ∈ S.ls (256 + p), ignored S p y.1 = false
theorem Inv.mono {S : St} {n m : Nat} (h : Inv S n) (hm : n ≤ m) : Inv S m := ⟨h.sig, fun i hi => Nat.le_trans (h.len i hi) hm, h.task, h.dead, h.ignT, h.ignP⟩
theorem inv0 : Inv S0 0 := by
  refine ⟨?_, ?_, ?_, ?_, ?_, ?_⟩ <;> simp [S0]
theorem without_mem {l : List Pd} {s : Int} {x : Pd} (h : x ∈ without l s) : x ∈ l := (List.mem_filter.1 h).1
theorem without_ne {l : List Pd} {s : Int} {x : Pd} (h : x ∈ without l s) : x.1 ≠ s := by
  have := (List.mem_filter.1 h).2
  simpa using this
theorem without_len (l : List Pd) (s : Int) : (without l s).length ≤ l.length := List.length_filter_le _ _
theorem inP_iff {S : St} {p : Int} {i : Nat} : inP S p i = true ↔ ∃ x, S.tk i = some x ∧ x.proc = p := by
  unfold inP
  cases h : S.tk i with
  | none => simp
  | some x => simp
theorem mem_threads {S : St} {p : Int} {i : Nat} : i ∈ threads S p ↔ i < 256 ∧ ∃ x, S.tk i = some x ∧ x.proc = p := by
  unfold threads
  rw [List.mem_filter, inP_iff]
  simp
theorem forget_tk (S : St) (p : Nat) (s : Int) : (forget S p s).tk = S.tk := rfl
theorem forget_ac (S : St) (p : Nat) (s : Int) : (forget S p s).ac = S.ac := rfl
theorem forget_ls_sub {S : St} {p : Nat} {s : Int} {i : Nat} {x : Pd} (h : x ∈ (forget S p s).ls i) : x ∈ S.ls i := by
  simp only [forget] at h
  split at h
  · exact without_mem h
  · exact h
theorem forget_len (S : St) (p : Nat) (s : Int) (i : Nat) : ((forget S p s).ls i).length ≤ (S.ls i).length := by
  simp only [forget]
  split
  · exact without_len _ _
  · exact Nat.le_refl _
theorem ignored_ac {S S' : St} (h : S'.ac = S.ac) (p : Nat) (s : Int) : ignored S' p s = ignored S p s := by unfold ignored; rw [h]
theorem Inv.forget {S : St} {n : Nat} (h : Inv S n) (p : Nat) (s : Int) : Inv (forget S p s) n := by
  refine ⟨fun i hi x hx => h.sig i hi x (forget_ls_sub hx), fun i hi => Nat.le_trans (forget_len S p s i) (h.len i hi), h.task, ?_, ?_, ?_⟩
  · intro i hi hn
    have := h.dead i hi hn
    have h2 := forget_len S p s i
    rw [this] at h2
    exact List.eq_nil_of_length_eq_zero (by simpa using h2)
  · intro i hi x hx y hy
    rw [ignored_ac (forget_ac S p s)]
    exact h.ignT i hi x hx y (forget_ls_sub hy)
  · intro q hq y hy
    rw [ignored_ac (forget_ac S p s)]
    exact h.ignP q hq y (forget_ls_sub hy)
theorem Inv.opposite {S : St} {n : Nat} (h : Inv S n) (p : Nat) (s : Int) : Inv (opposite S p s) n := by
  unfold Ytbpihfphoniclaa.opposite
  split
  · exact h.forget p 19
  · split
    · exact h.forget p 18
    · exact h
theorem opposite_tk (S : St) (p : Nat) (s : Int) : (opposite S p s).tk = S.tk := by
  unfold opposite
  split
  · rfl
  · split <;> rfl
theorem opposite_ac (S : St) (p : Nat) (s : Int) : (opposite S p s).ac = S.ac := by
  unfold opposite
  split
  · rfl
  · split <;> rfl
theorem opposite_got (S : St) (p : Nat) (s : Int) : (opposite S p s).got = S.got := by
  unfold opposite
  split
  · rfl
  · split <;> rfl
theorem opposite_sub {S : St} {p : Nat} {s : Int} {i : Nat} {x : Pd} (h : x ∈ (opposite S p s).ls i) : x ∈ S.ls i := by
  unfold opposite at h
  split at h
  · exact forget_ls_sub h
  · split at h
    · exact forget_ls_sub h
    · exact h
theorem isTh_iff {n : Int} : isTh n = true ↔ 0 ≤ n ∧ n < 256 := by simp [isTh]
theorem isPr_iff {n : Int} : isPr n = true ↔ 0 ≤ n ∧ n < 64 := by simp [isPr]
end Go.Proofs.Ytbpihfphoniclaa
