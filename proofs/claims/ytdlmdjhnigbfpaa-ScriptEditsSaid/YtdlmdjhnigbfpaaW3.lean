/-
  Walks of layer 21: Hunks. No condition.
-/
import Derived.Test.YtdlmdjhnigbfpaaW2
namespace Go.Proofs.Ytdlmdjhnigbfpaa
open Go.RowKit Go.Sl Go.Scr

/-- pairs that are not right -/
theorem hunks_no (n m : Int) (v : Value) (l : List (Int × Int)) (w : World) (hv : Sl ePair 2 w v l) (hc : chk n m l = 12) :
    Calls Try.prog 13 #[.int .i64 n, .int .i64 m, v] w fun e w' => e = .returned (.tuple #[.slice none 0 0, .int .i64 12]) ∧ Below w.heap.size w w' := by
  have hz := check_any n m v l w hv
  rw [hc] at hz
  have HZ := Lib.hid hz
  clear hz hc
  go_enter Try.func13, Try.ntmps13
  go_wp2_with (go_at_call 11; go_must (refine HZ.out.mono ?_; rintro e w1 ⟨rfl, hb⟩))
  go_ret2
  exact ⟨rfl, hb⟩

set_option maxHeartbeats 1000000 in
theorem hunks_any (n m : Int) (v : Value) (l : List (Int × Int)) (w : World) (hv : Sl ePair 2 w v l) (hc : chk n m l = 0) :
    Calls Try.prog 13 #[.int .i64 n, .int .i64 m, v] w fun e w' => ∃ r, e = .returned (.tuple #[r, .int .i64 0]) ∧ Own eHunk 4 w.heap.size 69 w' r (hunks n m l) ∧ Below w.heap.size w w' := by
  have hlen := hv.run_len (P := Try.prog) Try.underlying23
  have hmax := hv.len_le
  obtain ⟨hsz, hok⟩ := chk_zero hc
  have hbn := sz_bound hsz
  have hll := okF_len (show (-1 : Int) < n by omega) hok
  have hpb := fun p hp => okF_bound hok p hp
  have HPB := Lib.hid hpb
  have hz := check_any n m v l w hv
  rw [hc] at hz
  have HZ := Lib.hid hz
  clear hz hc hsz hok hpb
  have hmf : ∀ (fn : Fn) (first cap : Array Value) (w : World), (Instr.makeFunc fn first cap).run Try.prog w = .ok (.func fn first cap) w := fun _ _ _ _ => rfl
  go_enter Try.func13, Try.ntmps13
  go_wp2_with (go_at_call 11; go_must (refine HZ.out.mono ?_; rintro e w1 ⟨rfl, hb⟩))
  have HB := Lib.hid hb
  have hG := hb.size
  clear hb
  go_loopw [13, 24, 30] (fun _ i _ wr => ∃ (k : Nat) (a b : Int) (o : Value) (acc : List (Int × Int × Int × Int)), k ≤ l.length ∧ i = .int .i64 k ∧ 0 ≤ a ∧ a ≤ 801 ∧ 0 ≤ b ∧ b ≤ 801 ∧ acc.length ≤ k ∧ Hid (hunks n m l = acc ++ hk a b (l.drop k ++ [(n, m)])) ∧
      Hid (wr.heap[w1.heap.size + 1]? = some (.cells #[.int .i64 a, .int .i64 b] 31 (0, 0)) ∧ wr.heap[w1.heap.size]? = some (.cells #[o] 33 (0, 0)) ∧ Own eHunk 4 (w1.heap.size + 2) 69 wr o acc) ∧ Hid (Below w1.heap.size w1 wr) ∧ w1.heap.size + 2 ≤ wr.heap.size) (fun _ i _ _ => l.length - (intOf i).toNat)
  case atStart =>
    exact ⟨0, 0, 0, .slice none 0 0, [], by omega, rfl, by omega, by omega, by omega, by omega, by simp, Lib.hid rfl, Lib.hid ⟨heap_alloc2_new _ _ _, heap_alloc2_old _ _ _, Own.nil _ _ _ _ _⟩, Lib.hid (((Below.refl _ _).alloc (Nat.le_refl _) _).alloc (by simp) _), by simp⟩
  case round =>
    obtain ⟨k, a, b, o, acc, hk, rfl, ha1, ha2, hb1, hb2, hacc, H1, H2, H3, hsz2⟩ := hrel
    by_cases hlt : k < l.length
    · have hvr := hv.ext (HB.out.trans (H3.out.mono hG))
      obtain ⟨b0, o0, hb0, hix, hc⟩ := hvr.at (P := Try.prog) Try.underlying23 cells31 some31 hlt
      have hc0 := hc 0 (by omega)
      have hc1 := hc 1 (by omega)
      simp only [ePair, List.getElem?_cons_zero, List.getElem?_cons_succ, Nat.add_zero] at hc0 hc1
      have hp := HPB.out l[k] (List.getElem_mem hlt)
      obtain ⟨x, y, hxy⟩ : ∃ x y, l[k] = (x, y) := ⟨_, _, rfl⟩
      rw [hxy] at hc0 hc1 hp
      have HX := Lib.hid hxy
      clear hxy hc hvr
      simp only at hp
      go_wp2_with (go_at_call 29; go_must (refine (upto_any x y a b (w1.heap.size + 1) w1.heap.size (w1.heap.size + 2) o acc _ (by omega) (by omega) (by omega) (by omega) (heap_keep H2.out.1) (heap_keep H2.out.2.1) (by omega) (by omega) (by omega) (by simp; omega) (H2.out.2.2.alloc _) (by omega)).mono ?_; rintro e w2 ⟨rfl, hu⟩))
      have HU := Lib.hid hu
      obtain ⟨v2, hv2, hown2⟩ := hu.out
      have hbl := hu.below w1.heap.size (by omega) (Nat.le_refl _) (by omega)
      go_roundw
      case rel =>
        refine ⟨k + 1, x + 1, y + 1, v2, _, by omega, by go_num, by omega, by omega, by omega, by omega, ?_, Lib.hid ?_, Lib.hid ⟨hu.at_, hv2, hown2⟩, Lib.hid ((H3.out.alloc (by omega) _).trans hbl), ?_⟩
        · rw [List.length_append]; split <;> simp <;> omega
        · rw [H1.out, drop_at l hlt, HX.out, List.cons_append, Scr.hk, List.append_assoc]
        · have := hbl.size; simp at this; omega
      case measure => simp [intOf]; omega
    · obtain rfl : k = l.length := by omega
      go_wp2_with (go_at_call 29; go_must (refine (upto_any n m a b (w1.heap.size + 1) w1.heap.size (w1.heap.size + 2) o acc _ (by omega) (by omega) (by omega) (by omega) H2.out.1 H2.out.2.1 (by omega) (by omega) (by omega) hsz2 H2.out.2.2 (by omega)).mono ?_; rintro e w2 ⟨rfl, hu⟩; have HU := Lib.hid hu; obtain ⟨v2, hv2, hown2⟩ := hu.out; obtain ⟨_, d4, d5⟩ := one_cells hv2; have HV2 := Lib.hid (And.intro hv2 hown2); clear hv2 hown2 hu))
      go_ret2
      refine ⟨_, rfl, ?_, HB.out.trans ((H3.out.trans (HU.out.below w1.heap.size (by omega) (Nat.le_refl _) (by omega))).mono hG)⟩
      rw [H1.out, List.drop_eq_nil_of_le (Nat.le_refl _), List.nil_append, Scr.hk, Scr.hk, List.append_nil]
      exact HV2.out.2.mono (by omega)
end Go.Proofs.Ytdlmdjhnigbfpaa
