/-
  Walks of layer 21: sizes, Check, and the reference's sizes, Check. No condition.
-/
import Derived.Test.YtdlmdjhnigbfpaaProg
import Derived.Test.YtdlmdjhnigbfpaaSl
import Derived.Test.YtdlmdjhnigbfpaaP1
import Derived.Deep.QuietTactic
import Derived.BigQuiet
namespace Go.Proofs.Ytdlmdjhnigbfpaa
open Go.RowKit Go.Sl Go.Scr

theorem ret_bool {a b : Bool} (h : a = b) : Ending.returned (.bool a) = .returned (.bool b) := by rw [h]
theorem ret_int {a b : Int} (h : a = b) : Ending.returned (.int .i64 a) = .returned (.int .i64 b) := by rw [h]
theorem cells31 : Try.prog.cellsOf 31 = 2 := by kernel_rfl
theorem some31 : (Try.prog.info? 31).isSome = true := by kernel_rfl

def ePair (p : Int × Int) : List Value := [.int .i64 p.1, .int .i64 p.2]
theorem len_ePair (p : Int × Int) : (ePair p).length = 2 := rfl

set_option maxHeartbeats 400000 in
theorem sizes_any (n m : Int) (w : World) : Calls Try.prog 27 #[.int .i64 n, .int .i64 m] w fun e w' => e = .returned (.bool (sz n m)) ∧ w = w' := by
  go_enter Try.func27, Try.ntmps27
  go_wp2_with fail
  all_goals
    go_ret
    exact ⟨ret_bool (by unfold sz; first | exact (decide_eq_false (by omega)).symm | (rw [Bool.eq_iff_iff]; simp only [decide_eq_true_eq]; omega)), rfl⟩

set_option maxHeartbeats 400000 in
theorem rsizes_any (n m : Int) (w : World) : Calls Try.prog 28 #[.int .i64 n, .int .i64 m] w fun e w' => e = .returned (.bool (sz n m)) ∧ w = w' := by
  go_enter Try.func28, Try.ntmps28
  go_wp2_with fail
  all_goals
    go_ret
    exact ⟨ret_bool (by unfold sz; first | exact (decide_eq_false (by omega)).symm | (rw [Bool.eq_iff_iff]; simp only [decide_eq_true_eq]; omega)), rfl⟩

theorem pair_set {w : World} {g : Nat} {a b x y : Value} {e : TypeId} (h : w.heap[g]? = some (.cells #[a, b] e (0, 0))) : ((w.setCell ⟨g, 0, none⟩ x).setCell ⟨g, 1, none⟩ y).heap[g]? = some (.cells #[x, y] e (0, 0)) :=
  heap_setCell_same _ _ _ _ _ _ (heap_setCell_same _ _ _ _ _ _ h)

set_option maxHeartbeats 1000000 in
theorem check_any (n m : Int) (v : Value) (l : List (Int × Int)) (w : World) (hv : Sl ePair 2 w v l) :
    Calls Try.prog 11 #[.int .i64 n, .int .i64 m, v] w fun e w' => e = .returned (.int .i64 (chk n m l)) ∧ Below w.heap.size w w' := by
  have hlen := hv.run_len (P := Try.prog) Try.underlying23
  have hmax := hv.len_le
  cases hs : sz n m with
  | false =>
    have hz : ∀ u, Calls Try.prog 27 #[.int .i64 n, .int .i64 m] u fun e w' => e = .returned (.bool false) ∧ u = w' := fun u => hs ▸ sizes_any n m u
    have HZ := Lib.hid hz
    clear hz
    go_enter Try.func11, Try.ntmps11
    go_wp2_with (go_at_call 27; go_must (refine (HZ.out _).mono ?_; rintro e w' ⟨rfl, rfl⟩))
    go_ret
    exact ⟨ret_int (by simp [chk, hs]), Below.refl _ _⟩
  | true =>
    have hz : ∀ u, Calls Try.prog 27 #[.int .i64 n, .int .i64 m] u fun e w' => e = .returned (.bool true) ∧ u = w' := fun u => hs ▸ sizes_any n m u
    have HZ := Lib.hid hz
    have HS := Lib.hid hs
    clear hz hs
    go_enter Try.func11, Try.ntmps11
    go_wp2_with (go_at_call 27; go_must (refine (HZ.out _).mono ?_; rintro e w' ⟨rfl, rfl⟩))
    go_loopw [9, 17] (fun _ i wr => ∃ (k : Nat) (a b : Int), k ≤ l.length ∧ i = .int .i64 k ∧ wr.heap[w.heap.size]? = some (.cells #[.int .i64 a, .int .i64 b] 31 (0, 0)) ∧ Hid (okF n m (-1) (-1) l = okF n m a b (l.drop k)) ∧ Below w.heap.size w wr) (fun _ i _ => l.length - (intOf i).toNat)
    case atStart => exact ⟨0, -1, -1, by omega, rfl, heap_alloc_new _ _, Lib.hid rfl, (Below.refl _ _).alloc (Nat.le_refl _) _⟩
    case round =>
      obtain ⟨k, a, b, hk, rfl, h1, H2, hbel⟩ := hrel
      by_cases hlt : k < l.length
      · obtain ⟨b0, o, hb0, hix, hc⟩ := (hv.ext hbel).at (P := Try.prog) Try.underlying23 cells31 some31 hlt
        have hc0 := hc 0 (by omega)
        have hc1 := hc 1 (by omega)
        simp only [ePair, List.getElem?_cons_zero, List.getElem?_cons_succ, Nat.add_zero] at hc0 hc1
        obtain ⟨x, y, hxy⟩ : ∃ x y, l[k] = (x, y) := ⟨_, _, rfl⟩
        rw [hxy] at hc0 hc1
        have HX := Lib.hid hxy
        clear hxy hc
        have hsz : w.heap.size < wr.heap.size := (Array.getElem?_eq_some_iff.1 h1).1
        have hl0 : wr.cell? ⟨w.heap.size, 0, none⟩ = some (.int .i64 a) := by simp [World.cell?, h1]
        have hl1 : wr.cell? ⟨w.heap.size, 1, none⟩ = some (.int .i64 b) := by simp [World.cell?, h1]
        have hf0 : wr.frozen? ⟨w.heap.size, 0, none⟩ = false := by simp [World.frozen?, h1]
        have hf1 : wr.frozen? ⟨w.heap.size, 1, none⟩ = false := by simp [World.frozen?, h1]
        have H1 := Lib.hid h1
        clear h1
        go_wp2_with fail
        all_goals first
          | (go_ret; exact ⟨ret_int (by rw [chk, if_pos HS.out, H2.out, drop_at l hlt, HX.out, okF, if_pos (show x ≤ a ∨ y ≤ b ∨ n ≤ x ∨ m ≤ y by omega)]; try rfl), hbel.alloc hbel.size _⟩)
          | (go_roundw
             case rel => exact ⟨k + 1, x, y, by omega, by go_num, (Below.heap_alloc _ _ _ (by simpa using hsz)).trans (pair_set H1.out), Lib.hid (by rw [H2.out, drop_at l hlt, HX.out, okF, if_neg (show ¬ (x ≤ a ∨ y ≤ b ∨ n ≤ x ∨ m ≤ y) by omega)]), ((hbel.setCell (Nat.le_refl _) _).setCell (Nat.le_refl _) _).alloc (by simpa using hbel.size) _⟩
             case measure => simp [intOf]; omega)
      · go_wp2_with fail
        go_ret
        exact ⟨ret_int (by rw [chk, if_pos HS.out, H2.out, List.drop_eq_nil_of_le (by omega), okF]; try rfl), hbel⟩
end Go.Proofs.Ytdlmdjhnigbfpaa
