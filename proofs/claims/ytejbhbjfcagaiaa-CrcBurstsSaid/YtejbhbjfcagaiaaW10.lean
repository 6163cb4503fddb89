/-
  Walks of CRC-32: the law CrcBursts, and Same. No condition.
-/
import Derived.Test.YtejbhbjfcagaiaaW9
import Derived.Test.YtejbhbjfcagaiaaStr
namespace Go.Proofs.Ytejbhbjfcagaiaa
open Go.RowKit Go.Sl Go.Bv

theorem bstr_list (l : List UInt8) : (bstr l).toList = l := by rw [Go.ByteArray.toList_eq]; rfl

theorem same_any (v1 v2 : Value) (l1 l2 : List UInt8) (w : World) (h1 : Sl eByte 1 w v1 l1) (h2 : Sl eByte 1 w v2 l2) :
    Calls Try.prog 14 #[v1, v2] w fun e w' => e = .returned (.bool (decide (l1 = l2))) ∧ w = w' := by
  have c1 := h1.run_string (P := Try.prog) Try.underlying24 Try.underlying5 Try.underlying9
  have c2 := h2.run_string (P := Try.prog) Try.underlying24 Try.underlying5 Try.underlying9
  go_enter Try.func14, Try.ntmps14
  go_wp2_with fail
  go_ret
  exact ⟨ret_bool (by rw [bstr_list, bstr_list, Bool.eq_iff_iff]; simp), rfl⟩
theorem same_self (v1 v2 : Value) (l : List UInt8) (w : World) (h1 : Sl eByte 1 w v1 l) (h2 : Sl eByte 1 w v2 l) :
    Calls Try.prog 14 #[v1, v2] w fun e w' => e = .returned (.bool true) ∧ w = w' := by
  refine (same_any v1 v2 l l w h1 h2).mono ?_
  rintro e w' ⟨rfl, rfl⟩
  exact ⟨by simp, rfl⟩

theorem of_fresh {w0 : World} {n : Nat} {v : Value} {l : List UInt8} {x : BitVec 32} (hx : Hid (more 0#32 l = x)) (h : Sl eByte 1 w0 v l) (hn : n = w0.heap.size) :
    Calls Try.prog 8 #[.slice (some ⟨n, 0, none⟩) 1 1] (w0.alloc (.cells #[v] 24)) fun e w' => e = .returned (.int .u32 (u32 x)) ∧ w' = w0.alloc (.cells #[v] 24) := by
  have hs : Sls eByte 1 (w0.alloc (.cells [v].toArray 24)) (.slice (some ⟨n, 0, none⟩) 1 1) [v] [l] :=
    Sls.fresh hn rfl (by simp [maxLen]) (fun k h1 h2 => by
      obtain rfl : k = 0 := by simpa using h1
      exact h)
  refine (of_any _ _ _ _ hs).mono ?_
  rintro e w' ⟨rfl, rfl⟩
  exact ⟨by rw [← hx.out]; simp, rfl⟩


theorem own_empty (w : World) : Own eByte 1 w.heap.size 5 (w.alloc (.cells #[] 5)) (.slice (some ⟨w.heap.size, 0, none⟩) 0 0) [] := Own.fresh0 eByte 1 w 5 rfl

set_option maxHeartbeats 1000000 in
theorem bursts_long (v : Value) (l : List UInt8) (n : Int) (turn : BitVec 32) (w : World) (hv : Sl eByte 1 w v l) (hl : 2000 < l.length) :
    Calls Try.prog 4 #[v, .int .i64 n, .int .u32 (u32 turn)] w fun e w' => e = .returned (.bool true) ∧ Below w.heap.size w w' := by
  have hlen := hv.run_len (P := Try.prog) Try.underlying24
  go_enter Try.func4, Try.ntmps4
  go_wp2_with (go_at_call 7; go_must (refine (works_any _).mono ?_; rintro e w' ⟨rfl, hb⟩))
  go_ret
  exact ⟨rfl, hb⟩

set_option maxHeartbeats 1000000 in
theorem bursts_no (v : Value) (l : List UInt8) (n : Int) (turn : BitVec 32) (w : World) (hv : Sl eByte 1 w v l) (hl : l.length ≤ 2000) (hno : n < 0 ∨ 8 * (l.length : Int) < n + 32) (hn : n ≤ 9223372036854775807) :
    Calls Try.prog 4 #[v, .int .i64 n, .int .u32 (u32 turn)] w fun e w' => e = .returned (.bool true) ∧ Below w.heap.size w w' := by
  have hlen := hv.run_len (P := Try.prog) Try.underlying24
  have HB := Lib.hid fun v' w' (h : Sl eByte 1 w' v' l) => burst_no v' l n turn w' h hno hn
  have HR := Lib.hid fun v' w' (h : Sl eByte 1 w' v' l) => rburst_no v' l n turn w' h hno hn
  clear hno hn
  go_enter Try.func4, Try.ntmps4
  go_wp2_with (first
    | (at_builtin; go_must (refine wpList_append rfl _ _ _ rfl (.int .u8 0) 1 Try.underlying24 info5 rfl (by omega) len_eByte one_eByte _ _ _ _ rfl (own_empty w) rfl (hv.ext ((Below.refl _ _).alloc (Nat.le_refl _) _)) (by simp only [maxLen, List.length_nil]; omega) (by simp only [List.length_nil]; omega) (by simp) ?_; intro v' w1 hown1 _ hb1; have HO := Lib.hid (List.nil_append l ▸ hown1.sl len_eByte); have HB1 := Lib.hid (((Below.refl w.heap.size w).alloc (Nat.le_refl _) _).trans hb1); clear hown1 hb1))
    | (go_at_call 12; go_must (refine (HB.out _ _ HO.out).mono ?_; rintro e w' ⟨rfl, rfl⟩))
    | (go_at_call 13; go_must (refine (HR.out _ _ (hv.ext HB1.out)).mono ?_; rintro e w' ⟨rfl, rfl⟩))
    | (go_at_call 14; ((with_reducible refine (same_self (.slice none 0 0) (.slice none 0 0) [] _ (Sl.nil _ _ _) (Sl.nil _ _ _)).mono ?_); rintro e w' ⟨rfl, rfl⟩))
    | (go_at_call 14; go_must (refine (same_self _ _ l _ HO.out (hv.ext HB1.out)).mono ?_; rintro e w' ⟨rfl, rfl⟩))
    | (go_at_call 7; go_must (refine (works_any _).mono ?_; rintro e w' ⟨rfl, hb⟩)))
  go_ret
  exact ⟨rfl, HB1.out.trans (hb.mono HB1.out.size)⟩

set_option maxHeartbeats 1000000 in
theorem bursts_yes (v : Value) (l : List UInt8) (a : Nat) (turn : BitVec 32) (w : World) (hv : Sl eByte 1 w v l) (hl : l.length ≤ 2000) (hyes : a + 32 ≤ 8 * l.length) (b : Bool) (x y : BitVec 32)
    (hb : (u32 x == u32 y) = b) (ht : (u32 turn == 0) = b) (HX : Hid (more 0#32 (turned l a turn 32) = x)) (HY : Hid (more 0#32 l = y)) :
    Calls Try.prog 4 #[v, .int .i64 a, .int .u32 (u32 turn)] w fun e w' => e = .returned (.bool true) ∧ Below w.heap.size w w' := by
  have hlen := hv.run_len (P := Try.prog) Try.underlying24
  obtain ⟨a1, n1, c1, rfl⟩ := hv.isSlice
  have HB := Lib.hid fun v' w' (h : Sl eByte 1 w' v' l) => burst_yes v' l a turn w' h hyes hl
  have HR := Lib.hid fun v' w' (h : Sl eByte 1 w' v' l) => rburst_yes v' l a turn w' h hyes hl
  clear hyes
  generalize turned l a turn 32 = t at *
  go_enter Try.func4, Try.ntmps4
  go_wp2_with (first
    | (at_builtin; go_must (refine wpList_append rfl _ _ _ rfl (.int .u8 0) 1 Try.underlying24 info5 rfl (by omega) len_eByte one_eByte _ _ _ _ rfl (own_empty w) rfl (hv.ext ((Below.refl _ _).alloc (Nat.le_refl _) _)) (by simp only [maxLen, List.length_nil]; omega) (by simp only [List.length_nil]; omega) (by simp) ?_; intro v' w1 hown1 _ hb1; have HO := Lib.hid (List.nil_append l ▸ hown1.sl len_eByte); have HB1 := Lib.hid (((Below.refl w.heap.size w).alloc (Nat.le_refl _) _).trans hb1); clear hown1 hb1))
    | (go_at_call 12; go_must (refine (HB.out _ _ HO.out).mono ?_; rintro e w2 ⟨vx, rfl, hox, hb2⟩; have HO := Lib.hid (HO.out.ext hb2); obtain ⟨ax, nx, cx, rfl⟩ := hox.isSlice; have HOX := Lib.hid (hox.sl len_eByte); have HB1 := Lib.hid (HB1.out.trans (hb2.mono HB1.out.size)); clear hb2 hox))
    | (go_at_call 13; go_must (refine (HR.out _ _ (hv.ext HB1.out)).mono ?_; rintro e w2 ⟨vy, rfl, hox, hb2⟩; have HO := Lib.hid (HO.out.ext hb2); have HOX := Lib.hid (HOX.out.ext hb2); have HOY := Lib.hid (hox.sl len_eByte); have HB1 := Lib.hid (HB1.out.trans (hb2.mono HB1.out.size)); clear hb2 hox))
    | (go_at_call 14; have _g := HOY.out; go_must (refine (same_self _ _ t _ HOX.out HOY.out).mono ?_; rintro e w' ⟨rfl, rfl⟩; clear HOY))
    | (go_at_call 14; go_must (refine (same_self _ _ l _ HO.out (hv.ext HB1.out)).mono ?_; rintro e w' ⟨rfl, rfl⟩; have H14 := Lib.hid True.intro))
    | (go_at_call 8; have _g := H14.out; go_must (refine (of_fresh HX HOX.out rfl).mono ?_; rintro e w' ⟨rfl, rfl⟩; have HB1 := Lib.hid (HB1.out.alloc HB1.out.size (.cells #[.slice ax nx cx] 24)); clear H14))
    | (go_at_call 8; go_must (refine (of_fresh HY (hv.ext HB1.out) (by simp)).mono ?_; rintro e w' ⟨rfl, rfl⟩; have HB1 := Lib.hid (HB1.out.alloc HB1.out.size (.cells #[.slice a1 n1 c1] 24))))
    | (go_at_call 7; go_must (refine (works_any _).mono ?_; rintro e w' ⟨rfl, hb⟩)))
  go_ret
  exact ⟨rfl, HB1.out.trans (hb.mono HB1.out.size)⟩

theorem u32_zero (t : BitVec 32) : (u32 t == 0) = decide (t = 0#32) := by
  rw [Bool.eq_iff_iff]
  simp only [beq_iff_eq, decide_eq_true_eq, u32]
  constructor
  · intro h; apply BitVec.eq_of_toNat_eq; simp; omega
  · rintro rfl; rfl
theorem u32_same (s t : BitVec 32) : (u32 s == u32 t) = decide (s = t) := by
  rw [Bool.eq_iff_iff]
  simp only [beq_iff_eq, decide_eq_true_eq, u32]
  constructor
  · intro h; apply BitVec.eq_of_toNat_eq; omega
  · rintro rfl; rfl

theorem bursts_any (v : Value) (l : List UInt8) (n : Int) (turn : BitVec 32) (w : World) (hv : Sl eByte 1 w v l) (hn : n ≤ 9223372036854775807) :
    Calls Try.prog 4 #[v, .int .i64 n, .int .u32 (u32 turn)] w fun e w' => e = .returned (.bool true) ∧ Below w.heap.size w w' := by
  by_cases hl : 2000 < l.length
  · exact bursts_long v l n turn w hv hl
  · by_cases hno : n < 0 ∨ 8 * (l.length : Int) < n + 32
    · exact bursts_no v l n turn w hv (by omega) hno hn
    · obtain ⟨a, rfl⟩ := Int.eq_ofNat_of_zero_le (show 0 ≤ n by omega)
      refine bursts_yes v l a turn w hv (by omega) (by omega) (decide (turn = 0#32)) _ _ ?_ (u32_zero turn) (Lib.hid rfl) (Lib.hid rfl)
      rw [u32_same, decide_eq_decide]
      exact more_turned 0#32 l a turn (by omega)

theorem wf_le {n : Int} (h : (Lit.int .i64 n).wf = true) : n ≤ 9223372036854775807 := by
  have h2 : IntKind.i64.max = 9223372036854775807 := rfl
  simp only [Lit.wf, Bool.and_eq_true, decide_eq_true_eq] at h
  omega
end Go.Proofs.Ytejbhbjfcagaiaa
