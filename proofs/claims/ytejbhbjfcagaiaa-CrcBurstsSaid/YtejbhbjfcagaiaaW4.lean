/-
  Walks of CRC-32: nought makes the matrix of a byte of 0. No condition.
-/
import Derived.Test.YtejbhbjfcagaiaaW3
import Derived.Deep.RegionHeld3
namespace Go.Proofs.Ytejbhbjfcagaiaa
open Go.RowKit Go.Sl Go.Bv

theorem info44 : (Try.prog.info? 44).map (·.size) = some 32 := by kernel_rfl

theorem mv_of {cur : Array Value} {f : Nat → BitVec 32} (hs : cur.size = 32) (h : ∀ j, j < 32 → cur[j]? = some (.int .u32 (u32 (f j)))) : cur = mv ((List.range 32).map f) := by
  apply Array.ext
  · simp [mv, hs]
  · intro i h1 h2
    have h3 := h i (by omega)
    rw [Array.getElem?_eq_getElem h1] at h3
    rw [Option.some.inj h3]
    simp [mv]
theorem mv_one (ms : List (BitVec 32)) : ∀ u ∈ (mv ms).toList, u.oneCell' = true := by
  intro u hu
  simp [mv] at hu
  obtain ⟨m, _, rfl⟩ := hu
  rfl
theorem mat_of {f : BitVec 32 → BitVec 32} (h : Lin f) : Mat ((List.range 32).map fun j => f (1#32 <<< j)) f :=
  ⟨h, by simp, fun k hk => by simp [List.getD, hk]⟩

theorem shl_one (k : Nat) : (2 ^ k % 4294967296 : Int) = u32 (1#32 <<< k) := by
  unfold u32
  rw [BitVec.toNat_shiftLeft, Nat.shiftLeft_eq]
  simp

/-- a row is set -/
theorem row_set {cur : Array Value} {f : Nat → Value} {k : Nat} (hk : k < 32) (hs : cur.size = 32) (h : ∀ j, j < k → cur[j]? = some (f j)) : ∀ j, j < k + 1 → (cur.setIfInBounds k (f k))[j]? = some (f j) := by
  intro j hj
  by_cases e : j = k
  · subst e; simp [hs, hk]
  · rw [Array.getElem?_setIfInBounds_ne (by omega)]; exact h j (by omega)

set_option maxHeartbeats 1000000 in
theorem nought_any (w : World) :
    Calls Try.prog 19 #[] w fun e w' => ∃ ms, e = .returned (.agg (mv ms)) ∧ Mat ms (sbn 8) ∧ Below w.heap.size w w' := by
  go_enter Try.func19, Try.ntmps19
  go_wp2_with fail
  go_loopw [2, 3, 4] (fun _ _ i wr => ∃ (k : Nat) (cur z : Array Value) (e0 e1 : TypeId), k ≤ 32 ∧ i = .int .i64 k ∧ wr.heap[w.heap.size + 1]? = some (.cells cur e1 (0, 0)) ∧ wr.heap[w.heap.size]? = some (.cells z e0 (0, 0)) ∧
      Hid (cur.size = 32 ∧ z.size = 32 ∧ ∀ j, j < k → cur[j]? = some (.int .u32 (u32 (sbn 8 (1#32 <<< j))))) ∧ Below w.heap.size w wr) (fun _ _ i _ => 32 - (intOf i).toNat)
  case atStart =>
    exact ⟨0, _, _, _, _, by omega, rfl, heap_alloc2_new _ _ _, heap_alloc2_old _ _ _, ⟨rfl, rfl, fun j hj => absurd hj (by omega)⟩, below_alloc2 _ _ _⟩
  case round =>
    obtain ⟨k, cur, z, e0, e1, hk, rfl, h1, h2, H3, hbel⟩ := hrel
    by_cases hlt : k < 32
    · have hcell : (wr.cell? ⟨w.heap.size + 1, k, none⟩).isSome := by
        rw [cell_of_row _ _ _ _ _ _ h1]; simp [H3.out.1, hlt]
      obtain ⟨x, hcell⟩ := Option.isSome_iff_exists.1 hcell
      have hfr := frozen_of_row wr (w.heap.size + 1) k _ _ h1
      have H1 := Lib.hid h1
      have H2 := Lib.hid h2
      clear h1 h2
      have hk2 := shl_one k
      have h255 := and255 (1#32 <<< k)
      have h8 := shr8 (1#32 <<< k)
      have hx := fun a => bxor a ((1#32 <<< k) >>> 8)
      go_wp2_with (go_at_call 22; go_must (refine (step_any _ _).mono ?_; rintro e w' ⟨rfl, rfl⟩))
      go_roundw
      case rel =>
        refine ⟨k + 1, _, z, e0, e1, by omega, by go_num, heap_setCell_same _ _ _ _ _ _ H1.out, ?_, ⟨?_, H3.out.2.1, ?_⟩, hbel.setCell (by simp) _⟩
        · rw [heap_setCell_other _ _ _ _ (by simp)]; exact H2.out
        · simp [H3.out.1]
        · rw [tb0]
          refine row_set (f := fun j => .int .u32 (u32 (sbn 8 (1#32 <<< j)))) hlt H3.out.1 ?_
          exact H3.out.2.2
      case measure => simp [intOf]; omega
    · have H1 := Lib.hid h1
      have H2 := Lib.hid h2
      clear h1 h2
      obtain rfl : k = 32 := by omega
      obtain rfl := mv_of H3.out.1 H3.out.2.2
      have hsz : (mv (List.map (fun j => sbn 8 (1#32 <<< j)) (List.range 32))).size = 32 := by simp [mv]
      have HS := Lib.hid hsz
      clear hsz
      have hm := mat_of (lin_sbn 8)
      generalize (List.range 32).map (fun j => sbn 8 (1#32 <<< j)) = ms at *
      have HM := Lib.hid hm
      clear hm
      go_wp2_with (first
        | (refine wpList_load_row rfl 44 _ rfl (w.heap.size + 1) rfl _ _ _ _ H1.out Try.underlying44 rfl (by rw [info44, HS.out]) ?_)
        | (refine wpList_storeRow rfl rfl 44 _ _ rfl w.heap.size rfl (mv ms) rfl _ _ H2.out (by rw [H3.out.2.1, HS.out]) (by rw [info44, HS.out]) (mv_one _) ?_))
      refine bodyPost_ret (results_cell_row rfl _ _ w.heap.size _ _ _ _ rfl (setRow_heap _ _ _ _ _ _ H2.out) Try.underlying44 rfl (by rw [info44, HS.out])) rfl ⟨ms, rfl, HM.out, below_setRow hbel (Nat.le_refl _) _⟩
end Go.Proofs.Ytejbhbjfcagaiaa
