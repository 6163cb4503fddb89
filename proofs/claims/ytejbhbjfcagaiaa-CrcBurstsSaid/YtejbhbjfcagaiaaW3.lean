/-
  Walks of CRC-32: matrices of bits: times, square, nought, Join. No condition.
-/
import Derived.Test.YtejbhbjfcagaiaaW2
namespace Go.Proofs.Ytejbhbjfcagaiaa
open Go.RowKit Go.Sl Go.Bv

/-- a matrix as cells -/
def mv (ms : List (BitVec 32)) : Array Value := (ms.map fun m => Value.int .u32 (u32 m)).toArray
theorem mv_size (ms : List (BitVec 32)) : (mv ms).size = ms.length := by simp [mv]
theorem mv_get (ms : List (BitVec 32)) (k : Nat) (h : k < ms.length) : (mv ms)[k]? = some (.int .u32 (u32 ms[k])) := by simp [mv, h]

set_option maxHeartbeats 400000 in
theorem times_any (ms : List (BitVec 32)) (hms : ms.length = 32) (c : BitVec 32) (w : World) :
    Calls Try.prog 20 #[.agg (mv ms), .int .u32 (u32 c)] w fun e w' => e = .returned (.int .u32 (u32 (mtx ms c 32))) ∧ Below w.heap.size w w' := by
  have HM := Lib.hid hms
  clear hms
  go_enter Try.func20, Try.ntmps20
  go_wp2_with fail
  go_loop [5, 6, 7] (fun o _ i => ∃ k : Nat, k ≤ 32 ∧ i = .int .i64 k ∧ o = .int .u32 (u32 (mtx ms c k))) (fun _ _ i => 32 - (intOf i).toNat)
  case atStart => exact ⟨0, by omega, rfl, rfl⟩
  case round =>
    obtain ⟨k, hk, rfl, rfl⟩ := hrel
    by_cases hlt : k < 32
    · have hcell : (w.alloc (.cells (mv ms) 44)).cell? ⟨w.heap.size, k, none⟩ = some (.int .u32 (u32 (ms.getD k 0#32))) := by
        rw [cell_of_row _ _ _ _ _ _ (heap_alloc_new w _), mv_get ms k (by rw [HM.out]; exact hlt)]
        simp [List.getD, HM.out, hlt]
      have ht := tst c k
      have HT := Lib.hid ht
      clear ht
      cases hb : c.getLsbD k
      all_goals
        have HB := Lib.hid hb
        clear hb
        have ht : (bits .and .u32 (u32 c / 2 ^ k) 1 == 1) = c.getLsbD k := HT.out
        rw [HB.out] at ht
        go_wp2_with fail
        go_round
        case rel => exact ⟨k + 1, by omega, by go_num, by rw [mtx, HB.out]; first | rfl | (rw [bxor]; rfl)⟩
        case measure => simp [intOf]; omega
    · go_wp2_with fail
      go_ret
      exact ⟨ret_u32 (by rw [show k = 32 by omega]), (Below.refl _ _).alloc (Nat.le_refl _) _⟩
end Go.Proofs.Ytejbhbjfcagaiaa
