/-
  Walks of CRC-32: Join and the reference's Join. No condition.
-/
import Derived.Test.YtejbhbjfcagaiaaW5
namespace Go.Proofs.Ytejbhbjfcagaiaa
open Go.RowKit Go.Sl Go.Bv

theorem tr_zero (c : BitVec 32) : tr c (byte 0) = sbn 8 c := by
  unfold tr byte; simp

set_option maxHeartbeats 400000 in
theorem rjoin_any (a b : BitVec 32) (n : Nat) (hn : n ≤ 65536) (w : World) :
    Calls Try.prog 16 #[.int .u32 (u32 a), .int .u32 (u32 b), .int .i64 n] w fun e w' => e = .returned (.int .u32 (u32 (times n (sbn 8) a ^^^ b))) ∧ w = w' := by
  have H0 : Hid ((0 : Int) = ((0 : UInt8).toNat : Int)) := Lib.hid rfl
  go_enter Try.func16, Try.ntmps16
  go_wp2_with fail
  go_loop [0, 7] (fun x i => ∃ k : Nat, k ≤ n ∧ i = .int .i64 k ∧ x = .int .u32 (u32 (times k (sbn 8) a))) (fun _ i => n - (intOf i).toNat)
  case atStart => exact ⟨0, by omega, rfl, rfl⟩
  case round =>
    obtain ⟨k, hk, rfl, rfl⟩ := hrel
    by_cases hlt : k < n
    · go_wp2_with (go_at_call 18; go_must (rw [H0.out]; refine (rtake_any _ _ _).mono ?_; rintro e w' ⟨rfl, rfl⟩))
      go_round
      case rel => exact ⟨k + 1, by omega, by go_num, by rw [tr_zero, times_out]⟩
      case measure => simp [intOf]; omega
    · obtain rfl : k = n := by omega
      have hx := bxor (times k (sbn 8) a) b
      go_wp2_with fail
      go_ret
      exact ⟨rfl, rfl⟩

/-- a length that may not be -/
theorem join_no (a b : BitVec 32) (n : Int) (hn : n < 0 ∨ 65536 < n) (w : World) :
    Calls Try.prog 15 #[.int .u32 (u32 a), .int .u32 (u32 b), .int .i64 n] w fun e w' => e = .returned (.tuple #[.int .u32 0, .int .i64 2]) ∧ w = w' := by
  rcases hn with hn | hn
  · go_enter Try.func15, Try.ntmps15
    go_wp2_with fail
    go_ret2
    exact ⟨rfl, rfl⟩
  · have h0 : ¬ n < 0 := by omega
    go_enter Try.func15, Try.ntmps15
    go_wp2_with fail
    go_ret2
    exact ⟨rfl, rfl⟩

theorem odd_i64 (r : Nat) (h : r ≤ 65536) : (bits .and .i64 (r : Int) 1 == 1) = decide (r % 2 = 1) := by
  have h1 := (bits_nat .i64 62 (by decide) (fun n h0 h1 => by rw [IntKind.wrap_i64]; omega) r 1 (by omega) (by decide)).1
  have h2 : ((1 : Nat) : Int) = 1 := rfl
  rw [h2] at h1
  rw [h1, Nat.and_one_is_mod]
  rw [Bool.eq_iff_iff]; simp; omega

theorem ret_pair {a b : BitVec 32} {n : Int} (h : a = b) : Ending.returned (.tuple #[.int .u32 (u32 a), .int .i64 n]) = .returned (.tuple #[.int .u32 (u32 b), .int .i64 n]) := by rw [h]

set_option maxHeartbeats 1000000 in
theorem join_any (a b : BitVec 32) (n : Nat) (hn : n ≤ 65536) (w : World) :
    Calls Try.prog 15 #[.int .u32 (u32 a), .int .u32 (u32 b), .int .i64 n] w fun e w' => e = .returned (.tuple #[.int .u32 (u32 (times n (sbn 8) a ^^^ b)), .int .i64 0]) ∧ Below w.heap.size w w' := by
  go_enter Try.func15, Try.ntmps15
  go_wp2_with (first
    | (go_at_call 19; go_must (refine (nought_any _).mono ?_; rintro e w1 ⟨ms, rfl, hm, hb⟩; have HM := Lib.hid hm; clear hm))
    | (refine wpList_storeRow rfl rfl 44 _ _ rfl _ rfl (mv ms) rfl _ _ (heap_alloc_new _ _) (by rw [mv_size, HM.out.len]; rfl) (by rw [info44, mv_size, HM.out.len]) (mv_one _) ?_))
  have HB := Lib.hid hb
  go_loopw [0, 2, 8] (fun x i m wr => ∃ (r g : Nat) (y : BitVec 32) (f : BitVec 32 → BitVec 32) (ns : List (BitVec 32)) (e : TypeId), r ≤ 65536 ∧ i = .int .i64 r ∧ x = .int .u32 (u32 y) ∧ m = .pointer (some ⟨g, 0, none⟩) ∧
      Hid (wr.heap[g]? = some (.cells (mv ns) e (0, 0))) ∧ Hid (Mat ns f ∧ times r f y = times n (sbn 8) a) ∧ w.heap.size ≤ g ∧ Below w.heap.size w wr) (fun _ i _ _ => (intOf i).toNat)
  case atStart =>
    exact ⟨n, _, a, _, ms, _, hn, rfl, rfl, rfl, setRow_heap _ _ _ _ _ _ (heap_alloc_new _ _), ⟨HM.out, rfl⟩, hb.size, below_setRow (hb.alloc hb.size _) hb.size _⟩
  case round =>
    obtain ⟨r, g, y, f, ns, e, hr, rfl, rfl, rfl, H1, H2, hg, hbel⟩ := hrel
    by_cases hlt : 0 < r
    · have hgl : g < wr.heap.size := (Array.getElem?_eq_some_iff.1 H1.out).1
      have hpar := odd_i64 r hr
      have HBel := Lib.hid hbel
      cases hp : decide (r % 2 = 1)
      all_goals
        rw [hp] at hpar
        have HP := Lib.hid (times_half f r y)
        have HQ := Lib.hid hp
        clear hp
        go_wp2_with (first
          | (go_at_call 20; go_must (refine (times_any ns H2.out.1.len y _).mono ?_; rintro e w2 ⟨rfl, hb2⟩; have H1 := Lib.hid ((hb2.block g (by assumption)).trans H1.out); have HBel := Lib.hid (HBel.out.trans (hb2.mono HBel.out.size)); have hgl := Nat.lt_of_lt_of_le hgl hb2.size))
          | (go_at_call 21; go_must (refine (square_any ns f H2.out.1 _).mono ?_; rintro e w3 ⟨ns2, rfl, hm2, hb3⟩; have H1 := Lib.hid ((hb3.block g (by assumption)).trans H1.out); have HN := Lib.hid hm2; have HBel := Lib.hid (HBel.out.trans (hb3.mono HBel.out.size)); clear hm2))
          | (refine wpList_load_row rfl 44 _ rfl g rfl _ _ _ _ H1.out Try.underlying44 rfl (by rw [info44, mv_size, H2.out.1.len]) ?_)
          | (refine wpList_load_row rfl 44 _ rfl g rfl _ _ _ _ (setRow_heap _ _ _ _ _ _ H1.out) Try.underlying44 rfl (by rw [info44, mv_size, HN.out.len]) ?_)
          | (refine wpList_storeRow rfl rfl 44 _ _ rfl g rfl (mv ns2) rfl _ _ H1.out (by rw [mv_size, mv_size, HN.out.len, H2.out.1.len]) (by rw [info44, mv_size, HN.out.len]) (mv_one _) ?_)
          | (refine wpList_storeRow rfl rfl 44 _ _ rfl _ rfl (mv ns2) rfl _ _ (heap_new_at (by simp)) (by rw [mv_size, HN.out.len]; rfl) (by rw [info44, mv_size, HN.out.len]) (mv_one _) ?_))
        go_roundw
        case rel =>
          refine ⟨r / 2, _, _, (fun x => f (f x)), ns2, 44, by omega, by go_num, rfl, rfl, Lib.hid (setRow_heap _ _ _ _ _ _ (heap_new_at (by simp))), Lib.hid ⟨HN.out, ?_⟩, ?_, ?_⟩
          · have hp := HQ.out
            simp only [decide_eq_true_eq, decide_eq_false_iff_not] at hp
            rw [← H2.out.2, HP.out]
            first
              | (rw [if_pos hp, H2.out.1.mtx_all])
              | (rw [if_neg hp])
          · exact HBel.out.size
          · exact below_setRow ((below_setRow HBel.out hg _).alloc (by simp; exact HBel.out.size) _) HBel.out.size _
        case measure => simp [intOf]; omega
    · obtain rfl : r = 0 := by omega
      have hx := bxor y b
      go_wp2_with fail
      go_ret2
      exact ⟨ret_pair (by rw [← H2.out.2]; rfl), hbel⟩
end Go.Proofs.Ytejbhbjfcagaiaa
