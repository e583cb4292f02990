import Derived.Test.YtbpihfphoniclaaB6
import Derived.Test.YtbpihfphoniclaaS1
import Derived.Laws.ResultCell
namespace Go.Proofs.Ytbpihfphoniclaa
open Go.RowKit
set_option linter.unusedVariables false
/-- A struct in a variable and a plain value are handed back. -/
theorem results_agg {P : Program} {fn : Func} {p q : Tmp} {ty : TypeId} (h : fn.results = #[.cell p ty, .tmp q]) (tmps : Array Value) (w : World) (a : Addr) (cs : Array Value) (d : TypeDesc) (hp : tmps.getD p undef = .pointer (some a)) (hc : ∀ j v, cs[j]? = some v → w.cell? (a.add j) = some v)
    (hu : P.underlying ty = some d) (hd : (match d with | .struct _ | .array _ _ => true | _ => false) = true) {n : Nat} (hi : (P.info? ty).map (·.size) = some n) (hn : cs.size = n) :
    (results fn tmps).run P w = .ok (.tuple #[.agg cs, tmps.getD q undef]) w := by
  rw [results_cell_tmp h, hp]
  simp only [asAddr, Sem.run_pure, Result.andThen_ok, run_loadVar_cells w a ty cs d hc hu hd hi hn]
theorem two_cells {w : World} {g : Nat} {a b : Value} {e : TypeId} {fr : Nat × Nat} (h : w.heap[g]? = some (.cells #[a, b] e fr)) : w.cell? ⟨g, 0, none⟩ = some a ∧ w.cell? ⟨g, 1, none⟩ = some b := by
  constructor <;> (rw [cell_of_row _ _ _ _ _ _ h]; rfl)
theorem two_set {w : World} {g : Nat} {a b : Value} {e : TypeId} (h : w.heap[g]? = some (.cells #[a, b] e (0, 0))) (u v : Value) : ((w.setCell ⟨g, 0, none⟩ u).setCell ⟨g, 1, none⟩ v).heap[g]? = some (.cells #[u, v] e (0, 0)) := by
  rw [heap_setCell_same _ _ _ _ _ _ (heap_setCell_same w g 0 _ e u h)]
  simp
theorem cells_of_heap {w : World} {g : Nat} {cs : Array Value} {t : TypeId} {fr : Nat × Nat} (h : w.heap[g]? = some (.cells cs t fr)) : ∀ j v, cs[j]? = some v → w.cell? ((⟨g, 0, none⟩ : Addr).add j) = some v := fun j v hv => by
  rw [add_at, cell_of_row _ _ _ _ _ _ h]
  simpa using hv
set_option maxHeartbeats 1000000 in
set_option maxRecDepth 100000 in
theorem take_none {base t : Nat} {L : Lay} {S : St} (th bb m : Nat) (x : Tk) (w : World) (h : RepL w base t L S) (hin : Inv S 1000) (hi : th < 256) (hx : S.tk th = some x) (hb : L.ptr th = some bb) (hm : m < 18446744073709551616) (hlow : lowest (both S th x.proc.toNat) m = 0) :
    Calls Try.prog 39 #[.pointer (some ⟨t, 0, none⟩), .pointer (some ⟨bb, 0, none⟩), .int .u64 m] w fun e w' => e = .returned (.tuple #[.agg #[.int .i64 0, .int .i64 0], .bool false]) ∧ Below w.heap.size w w' := by
  obtain ⟨b', hb', _, hbl, hbc, hc⟩ := h.task_cell hi hx
  rw [hb] at hb'
  cases hb'
  obtain ⟨hp0, hp1, _⟩ := hin.task th hi x hx
  have c0 : w.cell? ⟨bb, 0, none⟩ = some (.int .i64 x.proc) := by rw [cell_of_row _ _ _ _ _ _ hbc]; rfl
  have c2 : w.cell? ⟨bb, 2, none⟩ = some (L.lv th) := by rw [cell_of_row _ _ _ _ _ _ hbc]; rfl
  have cp : w.cell? ⟨t, 256 + x.proc.toNat * 58 + 57, none⟩ = some (L.lv (256 + x.proc.toNat)) := by
    rw [h.cellT _ (by omega), tcell_lv L S x.proc.toNat _ (by omega) rfl]
  have hr1 := h.row th (by omega)
  have hr2 := h.row (256 + x.proc.toNat) (by omega)
  have hs1 := hin.sig th (by omega)
  have hs2 := hin.sig (256 + x.proc.toNat) (by omega)
  have hl1 := hin.len th (by omega)
  have hl2 := hin.len (256 + x.proc.toNat) (by omega)
  have htl := h.lt
  rcases take_ways S th x.proc.toNat m hs1 hs2 with ⟨k1, k2, _⟩ | ⟨i, _, _, _, _, hne, _⟩ | ⟨k, _, _, _, _, hne, _⟩
  · obtain ⟨A1, cap1, e1, _⟩ := hr1.at
    obtain ⟨A2, cap2, e2, _⟩ := hr2.at
    rw [e1] at c2 hr1
    rw [e2] at cp hr2
    generalize S.ls th = l1 at *
    generalize S.ls (256 + x.proc.toNat) = l2 at *
    have H1 := Lib.hid (And.intro hr1 (And.intro hl1 (And.intro hs1 k1)))
    have H2 := Lib.hid (And.intro hr2 (And.intro hl2 (And.intro hs2 k2)))
    have hpn : x.proc < 64 := hp1
    clear h hin hx hb hbc hc hr1 hr2 hs1 hs2 hl1 hl2 k1 k2 e1 e2 hlow
    go_enter Try.func39, Try.ntmps39
    go_wp2
    go_quiet (fail)
    have HB1 : Hid (∀ n, Below w.heap.size w ((w.alloc (.cells #[.int .i64 0, .int .i64 0] 94)).drewN n) ∧ ((w.alloc (.cells #[.int .i64 0, .int .i64 0] 94)).drewN n).heap[w.heap.size]? = some (.cells #[.int .i64 0, .int .i64 0] 94 (0, 0))) := Lib.hid fun n => ⟨below_drewN ((Below.refl _ _).alloc (Nat.le_refl _) _) n, heap_alloc_new w _⟩
    go_wp2_with fail
    refine (first_calls _ l1 m _ (Rw.below H1.out.1 (HB1.out _).1) H1.out.2.1 H1.out.2.2.1 hm).mono ?_
    rw [H1.out.2.2.2]
    rintro e w2 ⟨rfl, hd⟩
    have HB2 := Lib.hid (below_then' (HB1.out _).1 hd)
    have HC2 : Hid (w2.heap[w.heap.size]? = some (.cells #[.int .i64 0, .int .i64 0] 94 (0, 0))) := Lib.hid ((hd.block w.heap.size (Array.getElem?_eq_some_iff.1 (HB1.out _).2).1).trans (HB1.out _).2)
    have cp2 := (HB2.out.cell (p := ⟨t, 256 + x.proc.toNat * 58 + 57, none⟩) htl).trans cp
    clear hd
    go_wp2_with fail
    refine (first_calls _ l2 m _ (Rw.below H2.out.1 HB2.out) H2.out.2.1 H2.out.2.2.1 hm).mono ?_
    rw [H2.out.2.2.2]
    rintro e w3 ⟨rfl, hd⟩
    have HB3 := Lib.hid (below_then' HB2.out hd)
    have hc3 := (hd.block w.heap.size (Array.getElem?_eq_some_iff.1 HC2.out).1).trans HC2.out
    obtain ⟨z0, z1⟩ := two_cells hc3
    have y0 := frozen_of_cells hc3 0
    have y1 := frozen_of_cells hc3 1
    have HC3 := Lib.hid hc3
    clear hd hc3
    go_wp2
    go_quiet (fail)
    go_wp2
    refine bodyPost_ret (results_agg rfl _ _ ⟨w.heap.size, 0, none⟩ #[.int .i64 0, .int .i64 0] _ rfl (cells_of_heap (two_set (w := w3.drewN _) HC3.out _ _)) Try.underlying94 rfl (n := 2) (by kernel_rfl) rfl) rfl ⟨rfl, ?_⟩
    exact ((below_drewN HB3.out _).setCell (Nat.le_refl _) _).setCell (Nat.le_refl _) _
  · exact absurd hlow hne
  · exact absurd hlow hne
end Go.Proofs.Ytbpihfphoniclaa
