/-
  Walks of CRC-32: square makes the matrix twice. No condition.
-/
import Derived.Test.YtejbhbjfcagaiaaW4
namespace Go.Proofs.Ytejbhbjfcagaiaa
open Go.RowKit Go.Sl Go.Bv

/-- a matrix as a list of cells -/
def ml (ms : List (BitVec 32)) : List Value := ms.map fun m => Value.int .u32 (u32 m)
theorem range_of {u : World} {g : Nat} {ms : List (BitVec 32)} {e : TypeId} (h : u.heap[g]? = some (.cells (mv ms) e (0, 0))) : u.rangeAt g 0 (ml ms) := by
  intro j v hv
  rw [cell_of_row _ _ _ _ _ _ h, Nat.zero_add]
  simpa [mv, ml] using hv
theorem range_kept {u u' : World} {g : Nat} {cs : List Value} (h : u.rangeAt g 0 cs) (hb : Below u.heap.size u u') (hg : g < u.heap.size) : u'.rangeAt g 0 cs := fun j v hv => by
  rw [hb.cell (by exact hg)]; exact h j v hv

theorem range_set {u : World} {g : Nat} {cs : List Value} (h : u.rangeAt g 0 cs) {a : Addr} (ha : g ≠ a.block) (v : Value) : (u.setCell a v).rangeAt g 0 cs := fun j x hx => by
  rw [World.cell?_of_block (w := u) (heap_setCell_other _ _ _ _ (by exact ha))]; exact h j x hx

set_option maxHeartbeats 1000000 in
theorem square_any (ms : List (BitVec 32)) (f : BitVec 32 → BitVec 32) (hm : Mat ms f) (w : World) :
    Calls Try.prog 21 #[.agg (mv ms)] w fun e w' => ∃ ns, e = .returned (.agg (mv ns)) ∧ Mat ns (fun x => f (f x)) ∧ Below w.heap.size w w' := by
  have HM := Lib.hid hm
  clear hm
  go_enter Try.func21, Try.ntmps21
  go_wp2_with fail
  go_loopw [4, 5] (fun _ i wr => ∃ (k : Nat) (cur z : Array Value) (e0 e1 e2 : TypeId), k ≤ 32 ∧ i = .int .i64 k ∧ wr.heap[w.heap.size]? = some (.cells (mv ms) e0 (0, 0)) ∧ wr.heap[w.heap.size + 2]? = some (.cells cur e1 (0, 0)) ∧ wr.heap[w.heap.size + 1]? = some (.cells z e2 (0, 0)) ∧
      Hid (cur.size = 32 ∧ z.size = 32 ∧ ∀ j, j < k → cur[j]? = some (.int .u32 (u32 (f (f (1#32 <<< j)))))) ∧ Below w.heap.size w wr) (fun _ i _ => 32 - (intOf i).toNat)
  case atStart =>
    exact ⟨0, _, _, _, _, _, by omega, rfl, heap3_0 _ _ _ _, heap3_2 _ _ _ _, heap3_1 _ _ _ _, ⟨rfl, rfl, fun j hj => absurd hj (by omega)⟩, ((below_alloc2 _ _ _).alloc (by simp; omega) _)⟩
  case round =>
    obtain ⟨k, cur, z, e0, e1, e2, hk, rfl, h0, h1, h2, H3, hbel⟩ := hrel
    by_cases hlt : k < 32
    · have hsome : (wr.cell? ⟨w.heap.size + 2, k, none⟩).isSome = true := by
        rw [cell_of_row _ _ _ _ _ _ h1]; simp [H3.out.1, hlt]
      obtain ⟨x, hcell⟩ := Option.isSome_iff_exists.1 hsome
      have hfr := frozen_of_row wr (w.heap.size + 2) k _ _ h1
      have hm : wr.cell? ⟨w.heap.size, k, none⟩ = some (.int .u32 (u32 (f (1#32 <<< k)))) := by
        rw [cell_of_row _ _ _ _ _ _ h0, mv_get ms k (by rw [HM.out.len]; exact hlt), ← HM.out.row k hlt]
        simp [List.getD, HM.out.len, hlt]
      have hsz : w.heap.size + 3 ≤ wr.heap.size := by
        have := (Array.getElem?_eq_some_iff.1 h1).1; omega
      have hlt0 : w.heap.size < wr.heap.size := by omega
      have hlt2 : w.heap.size + 2 < wr.heap.size := by omega
      have H1 := Lib.hid h1
      have H2 := Lib.hid h2
      have H0 := Lib.hid h0
      clear h1 h2 h0
      have hrg := range_of H0.out
      have hu44 := Try.underlying44
      have hi44 : (Try.prog.info? 44).map (·.size) = some (ml ms).length := by rw [info44, ml, List.length_map, HM.out.len]
      have hld : ∀ u : World, u.rangeAt w.heap.size 0 (ml ms) → (Instr.loadAt 44 (.pointer (some ⟨w.heap.size, 0, none⟩))).run Try.prog u = .ok (.agg (ml ms).toArray) u := fun u hu => run_loadAt_mid u _ _ 44 (ml ms) _ hu hu44 rfl hi44
      have htm : ∀ u : World, Calls Try.prog 20 #[.agg (ml ms).toArray, .int .u32 (u32 (f (1#32 <<< k)))] u fun e w' => e = .returned (.int .u32 (u32 (f (f (1#32 <<< k))))) ∧ Below u.heap.size u w' := fun u => by
        have := times_any ms HM.out.len (f (1#32 <<< k)) u
        rw [HM.out.mtx_all] at this
        exact this
      have HT := Lib.hid htm
      clear htm
      go_wp2_with fail
      go_region_held3 (fun u => u.rangeAt w.heap.size 0 (ml ms) ∧ u.cell? ⟨w.heap.size, k, none⟩ = some (.int .u32 (u32 (f (1#32 <<< k)))) ∧ u.cell? ⟨w.heap.size + 2, k, none⟩ = some (cellNow u ⟨w.heap.size + 2, k, none⟩) ∧ u.frozen? ⟨w.heap.size + 2, k, none⟩ = false ∧ wr.heap.size ≤ u.heap.size)
        (first
          | exact ⟨hrg, hm, now_of hsome, hfr, Nat.le_refl _⟩
          | exact ⟨range_kept (u := wr.drew) hrg hb1 hlt0, (hb1.cell hlt0).trans hm, now_kept (u := wr.drew) hcell hb1 hlt2, (hb1.frozen hlt2).trans hfr, hb1.size⟩
          | (go_split_ands; refine ⟨?_, ?_, ?_, ?_, ?_⟩ <;> assumption)
          | (go_split_ands
             refine ⟨range_set (by assumption) (by show w.heap.size ≠ w.heap.size + 1 + 1; omega) _, ?_, now_set (by assumption), ?_, ?_⟩
             · (rw [World.cell?_setCell_other _ _ _ _ (by simp)]; assumption)
             · (rw [World.frozen?_setCell]; assumption)
             · (rw [World.size_setCell]; assumption)))
        (first | (go_at_call 20; refine (HT.out _).mono ?_; rintro e w' ⟨rfl, hb1⟩))
      go_wp2_with fail
      have hb2 := (below_undrew hb1).mono (show wr.heap.size ≤ wr.drew.heap.size from Nat.le_refl _)
      have E1 := (hb2.block _ hlt2).trans H1.out
      have E0 := (hb2.block _ hlt0).trans H0.out
      have E2 := (hb2.block (w.heap.size + 1) (by omega)).trans H2.out
      go_roundw
      case rel =>
        refine ⟨k + 1, _, z, e0, e1, e2, by omega, by go_num, ?_, heap_setCell_same _ _ _ _ _ _ E1, ?_, ⟨?_, H3.out.2.1, ?_⟩, (hbel.trans (hb2.mono (by omega))).setCell (by show w.heap.size ≤ w.heap.size + 1 + 1; omega) _⟩
        · rw [heap_setCell_other _ _ _ _ (by show w.heap.size ≠ w.heap.size + 1 + 1; omega)]; exact E0
        · rw [heap_setCell_other _ _ _ _ (by show w.heap.size + 1 ≠ w.heap.size + 1 + 1; omega)]; exact E2
        · simp [H3.out.1]
        · exact row_set (f := fun j => .int .u32 (u32 (f (f (1#32 <<< j))))) hlt H3.out.1 H3.out.2.2
      case measure => simp [intOf]; omega
    · have H1 := Lib.hid h1
      have H2 := Lib.hid h2
      clear h1 h2 h0
      obtain rfl : k = 32 := by omega
      obtain rfl := mv_of H3.out.1 H3.out.2.2
      have hsz : (mv (List.map (fun j => f (f (1#32 <<< j))) (List.range 32))).size = 32 := by simp [mv]
      have HS := Lib.hid hsz
      clear hsz
      have hmm := mat_of (HM.out.lin.comp HM.out.lin)
      generalize (List.range 32).map (fun j => f (f (1#32 <<< j))) = ns at *
      have HN := Lib.hid hmm
      clear hmm
      go_wp2_with (first
        | (refine wpList_load_row rfl 44 _ rfl (w.heap.size + 2) rfl _ _ _ _ H1.out Try.underlying44 rfl (by rw [info44, HS.out]) ?_)
        | (refine wpList_storeRow rfl rfl 44 _ _ rfl (w.heap.size + 1) rfl (mv ns) rfl _ _ H2.out (by rw [H3.out.2.1, HS.out]) (by rw [info44, HS.out]) (mv_one _) ?_))
      refine bodyPost_ret (results_cell_row rfl _ _ (w.heap.size + 1) _ _ _ _ rfl (setRow_heap _ _ _ _ _ _ H2.out) Try.underlying44 rfl (by rw [info44, HS.out])) rfl ⟨ns, rfl, HN.out, below_setRow hbel (by omega) _⟩
end Go.Proofs.Ytejbhbjfcagaiaa
