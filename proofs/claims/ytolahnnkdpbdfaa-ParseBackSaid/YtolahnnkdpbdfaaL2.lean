/-
  Walks of layer 27: bytes, and how many of them a text begins with. No condition.
-/
import Derived.Test.YtolahnnkdpbdfaaProg
import Derived.Test.YtolahnnkdpbdfaaBs
import Derived.Test.YtolahnnkdpbdfaaL1
import Derived.Deep.DeepCutAuto
import Derived.Deep.QuietTactic
import Derived.BigQuiet
namespace Go.Proofs.Ytolahnnkdpbdfaa
open Go.RowKit Go.Sl

theorem ret_bool {a b : Bool} (h : a = b) : Ending.returned (.bool a) = .returned (.bool b) := by rw [h]
theorem ret_int {a b : Int} (h : a = b) : Ending.returned (.int .i64 a) = .returned (.int .i64 b) := by rw [h]

theorem letter_any (c : UInt8) (w : World) : Calls Try.prog 83 #[.int .u8 (c.toNat : Nat)] w fun e w' => e = .returned (.bool (Lex.letter c)) ∧ w = w' := by
  go_enter Try.func83, Try.ntmps83
  go_wp2_with fail
  all_goals
    go_ret
    exact ⟨ret_bool (by unfold Lex.letter; rw [Bool.eq_iff_iff]; simp only [Bool.or_eq_true, decide_eq_true_eq, eq_self, true_iff, false_iff, Bool.false_eq_true]; omega), rfl⟩
theorem digit_any (c : UInt8) (w : World) : Calls Try.prog 36 #[.int .u8 (c.toNat : Nat)] w fun e w' => e = .returned (.bool (Lex.digit c)) ∧ w = w' := by
  go_enter Try.func36, Try.ntmps36
  go_wp2_with fail
  all_goals
    go_ret
    exact ⟨ret_bool (by unfold Lex.digit; rw [Bool.eq_iff_iff]; simp only [decide_eq_true_eq, false_iff, Bool.false_eq_true]; omega), rfl⟩
theorem dot_any (c : UInt8) (w : World) : Calls Try.prog 60 #[.int .u8 (c.toNat : Nat)] w fun e w' => e = .returned (.bool (Lex.isDot c)) ∧ w = w' := by
  go_enter Try.func60, Try.ntmps60
  go_wp2_with fail
  all_goals
    go_ret
    exact ⟨ret_bool (by unfold Lex.isDot; rw [Bool.eq_iff_iff]; simp only [beq_iff_eq, decide_eq_true_eq]; omega), rfl⟩
theorem gap_any (c : UInt8) (w : World) : Calls Try.prog 62 #[.int .u8 (c.toNat : Nat)] w fun e w' => e = .returned (.bool (Lex.isGap c)) ∧ w = w' := by
  go_enter Try.func62, Try.ntmps62
  go_wp2_with fail
  all_goals
    go_ret
    exact ⟨ret_bool (by unfold Lex.isGap; rw [Bool.eq_iff_iff]; simp only [beq_iff_eq, decide_eq_true_eq]; omega), rfl⟩
theorem in_any (c : UInt8) (w : World) : Calls Try.prog 82 #[.int .u8 (c.toNat : Nat)] w fun e w' => e = .returned (.bool (Lex.inW c)) ∧ w = w' := by
  cases hl : Lex.letter c with
  | true =>
    have HL := Lib.hid (fun u => hl ▸ letter_any c u)
    have HI := Lib.hid (show Lex.inW c = true by unfold Lex.inW; simp [hl])
    clear hl
    go_enter Try.func82, Try.ntmps82
    go_wp2_with (go_at_call 83; go_must (refine (HL.out _).mono ?_; rintro e w' ⟨rfl, rfl⟩))
    go_ret
    exact ⟨ret_bool HI.out.symm, rfl⟩
  | false =>
    have HL := Lib.hid (fun u => hl ▸ letter_any c u)
    have HlL := Lib.hid hl
    cases hd : Lex.digit c with
    | true =>
      have HD := Lib.hid (fun u => hd ▸ digit_any c u)
      have HI := Lib.hid (show Lex.inW c = true by unfold Lex.inW; simp [hd])
      clear hl hd
      go_enter Try.func82, Try.ntmps82
      go_wp2_with (first | (go_at_call 83; go_must (refine (HL.out _).mono ?_; rintro e w' ⟨rfl, rfl⟩)) | (go_at_call 36; go_must (refine (HD.out _).mono ?_; rintro e w' ⟨rfl, rfl⟩)))
      go_ret
      exact ⟨ret_bool HI.out.symm, rfl⟩
    | false =>
      have HD := Lib.hid (fun u => hd ▸ digit_any c u)
      have HdD := Lib.hid hd
      clear hl hd
      go_enter Try.func82, Try.ntmps82
      go_wp2_with (first | (go_at_call 83; go_must (refine (HL.out _).mono ?_; rintro e w' ⟨rfl, rfl⟩)) | (go_at_call 36; go_must (refine (HD.out _).mono ?_; rintro e w' ⟨rfl, rfl⟩)))
      all_goals
        go_ret
        exact ⟨ret_bool (by unfold Lex.inW; rw [HlL.out, HdD.out, Bool.eq_iff_iff]; simp only [Bool.or_eq_true, beq_iff_eq, decide_eq_true_eq, eq_self, true_iff, Bool.false_eq_true, false_or]; omega), rfl⟩


set_option maxHeartbeats 400000 in
theorem while_letter (l : List UInt8) (n : Nat) (hn : Lex.whileN Lex.letter l = n) (w : World) (hl : l.length ≤ 9223372036854775807) : Calls Try.prog 35 #[.string (bstr l), .func (.func 83) #[] #[]] w fun e w' => e = .returned (.int .i64 (n : Nat)) ∧ w = w' := by
  have HR := Lib.hid hn
  clear hn
  go_enter Try.func35, Try.ntmps35
  go_wp2_with fail
  go_loop [5] (fun i => ∃ (k : Nat), k ≤ l.length ∧ i = .int .i64 k ∧ Hid (Lex.whileN Lex.letter l = k + Lex.whileN Lex.letter (l.drop k))) (fun i => l.length - (intOf i).toNat)
  case atStart => exact ⟨0, by omega, rfl, Lib.hid (by simp)⟩
  case round =>
    obtain ⟨k, hk, rfl, HT⟩ := hrel
    by_cases hlt : k < l.length
    · cases hp : Lex.letter l[k] with
      | true =>
        have HP := Lib.hid (fun u => hp ▸ letter_any l[k] u)
        have HN : Hid (Lex.whileN Lex.letter l = (k + 1) + Lex.whileN Lex.letter (l.drop (k + 1))) := Lib.hid (by rw [HT.out, Lex.whileN_step hlt hp]; omega)
        clear hp
        go_wp2_with (go_at_call 83; go_must (refine (HP.out _).mono ?_; rintro e w' ⟨rfl, rfl⟩))
        go_round
        case rel => exact ⟨k + 1, by omega, by go_num, HN⟩
        case measure => simp [intOf]; omega
      | false =>
        have HP := Lib.hid (fun u => hp ▸ letter_any l[k] u)
        have HN : Hid (n = k) := Lib.hid (by rw [← HR.out, HT.out, Lex.whileN_stop hlt hp]; rfl)
        clear hp
        go_wp2_with (go_at_call 83; go_must (refine (HP.out _).mono ?_; rintro e w' ⟨rfl, rfl⟩))
        go_ret
        exact ⟨ret_int (by rw [HN.out]), rfl⟩
    · have HN : Hid (n = k) := Lib.hid (by rw [← HR.out, HT.out, List.drop_eq_nil_of_le (by omega)]; rfl)
      go_wp2_with fail
      go_ret
      exact ⟨ret_int (by rw [HN.out]), rfl⟩

set_option maxHeartbeats 400000 in
theorem while_digit (l : List UInt8) (n : Nat) (hn : Lex.whileN Lex.digit l = n) (w : World) (hl : l.length ≤ 9223372036854775807) : Calls Try.prog 35 #[.string (bstr l), .func (.func 36) #[] #[]] w fun e w' => e = .returned (.int .i64 (n : Nat)) ∧ w = w' := by
  have HR := Lib.hid hn
  clear hn
  go_enter Try.func35, Try.ntmps35
  go_wp2_with fail
  go_loop [5] (fun i => ∃ (k : Nat), k ≤ l.length ∧ i = .int .i64 k ∧ Hid (Lex.whileN Lex.digit l = k + Lex.whileN Lex.digit (l.drop k))) (fun i => l.length - (intOf i).toNat)
  case atStart => exact ⟨0, by omega, rfl, Lib.hid (by simp)⟩
  case round =>
    obtain ⟨k, hk, rfl, HT⟩ := hrel
    by_cases hlt : k < l.length
    · cases hp : Lex.digit l[k] with
      | true =>
        have HP := Lib.hid (fun u => hp ▸ digit_any l[k] u)
        have HN : Hid (Lex.whileN Lex.digit l = (k + 1) + Lex.whileN Lex.digit (l.drop (k + 1))) := Lib.hid (by rw [HT.out, Lex.whileN_step hlt hp]; omega)
        clear hp
        go_wp2_with (go_at_call 36; go_must (refine (HP.out _).mono ?_; rintro e w' ⟨rfl, rfl⟩))
        go_round
        case rel => exact ⟨k + 1, by omega, by go_num, HN⟩
        case measure => simp [intOf]; omega
      | false =>
        have HP := Lib.hid (fun u => hp ▸ digit_any l[k] u)
        have HN : Hid (n = k) := Lib.hid (by rw [← HR.out, HT.out, Lex.whileN_stop hlt hp]; rfl)
        clear hp
        go_wp2_with (go_at_call 36; go_must (refine (HP.out _).mono ?_; rintro e w' ⟨rfl, rfl⟩))
        go_ret
        exact ⟨ret_int (by rw [HN.out]), rfl⟩
    · have HN : Hid (n = k) := Lib.hid (by rw [← HR.out, HT.out, List.drop_eq_nil_of_le (by omega)]; rfl)
      go_wp2_with fail
      go_ret
      exact ⟨ret_int (by rw [HN.out]), rfl⟩

set_option maxHeartbeats 400000 in
theorem while_dot (l : List UInt8) (n : Nat) (hn : Lex.whileN Lex.isDot l = n) (w : World) (hl : l.length ≤ 9223372036854775807) : Calls Try.prog 35 #[.string (bstr l), .func (.func 60) #[] #[]] w fun e w' => e = .returned (.int .i64 (n : Nat)) ∧ w = w' := by
  have HR := Lib.hid hn
  clear hn
  go_enter Try.func35, Try.ntmps35
  go_wp2_with fail
  go_loop [5] (fun i => ∃ (k : Nat), k ≤ l.length ∧ i = .int .i64 k ∧ Hid (Lex.whileN Lex.isDot l = k + Lex.whileN Lex.isDot (l.drop k))) (fun i => l.length - (intOf i).toNat)
  case atStart => exact ⟨0, by omega, rfl, Lib.hid (by simp)⟩
  case round =>
    obtain ⟨k, hk, rfl, HT⟩ := hrel
    by_cases hlt : k < l.length
    · cases hp : Lex.isDot l[k] with
      | true =>
        have HP := Lib.hid (fun u => hp ▸ dot_any l[k] u)
        have HN : Hid (Lex.whileN Lex.isDot l = (k + 1) + Lex.whileN Lex.isDot (l.drop (k + 1))) := Lib.hid (by rw [HT.out, Lex.whileN_step hlt hp]; omega)
        clear hp
        go_wp2_with (go_at_call 60; go_must (refine (HP.out _).mono ?_; rintro e w' ⟨rfl, rfl⟩))
        go_round
        case rel => exact ⟨k + 1, by omega, by go_num, HN⟩
        case measure => simp [intOf]; omega
      | false =>
        have HP := Lib.hid (fun u => hp ▸ dot_any l[k] u)
        have HN : Hid (n = k) := Lib.hid (by rw [← HR.out, HT.out, Lex.whileN_stop hlt hp]; rfl)
        clear hp
        go_wp2_with (go_at_call 60; go_must (refine (HP.out _).mono ?_; rintro e w' ⟨rfl, rfl⟩))
        go_ret
        exact ⟨ret_int (by rw [HN.out]), rfl⟩
    · have HN : Hid (n = k) := Lib.hid (by rw [← HR.out, HT.out, List.drop_eq_nil_of_le (by omega)]; rfl)
      go_wp2_with fail
      go_ret
      exact ⟨ret_int (by rw [HN.out]), rfl⟩

set_option maxHeartbeats 400000 in
theorem while_gap (l : List UInt8) (n : Nat) (hn : Lex.whileN Lex.isGap l = n) (w : World) (hl : l.length ≤ 9223372036854775807) : Calls Try.prog 35 #[.string (bstr l), .func (.func 62) #[] #[]] w fun e w' => e = .returned (.int .i64 (n : Nat)) ∧ w = w' := by
  have HR := Lib.hid hn
  clear hn
  go_enter Try.func35, Try.ntmps35
  go_wp2_with fail
  go_loop [5] (fun i => ∃ (k : Nat), k ≤ l.length ∧ i = .int .i64 k ∧ Hid (Lex.whileN Lex.isGap l = k + Lex.whileN Lex.isGap (l.drop k))) (fun i => l.length - (intOf i).toNat)
  case atStart => exact ⟨0, by omega, rfl, Lib.hid (by simp)⟩
  case round =>
    obtain ⟨k, hk, rfl, HT⟩ := hrel
    by_cases hlt : k < l.length
    · cases hp : Lex.isGap l[k] with
      | true =>
        have HP := Lib.hid (fun u => hp ▸ gap_any l[k] u)
        have HN : Hid (Lex.whileN Lex.isGap l = (k + 1) + Lex.whileN Lex.isGap (l.drop (k + 1))) := Lib.hid (by rw [HT.out, Lex.whileN_step hlt hp]; omega)
        clear hp
        go_wp2_with (go_at_call 62; go_must (refine (HP.out _).mono ?_; rintro e w' ⟨rfl, rfl⟩))
        go_round
        case rel => exact ⟨k + 1, by omega, by go_num, HN⟩
        case measure => simp [intOf]; omega
      | false =>
        have HP := Lib.hid (fun u => hp ▸ gap_any l[k] u)
        have HN : Hid (n = k) := Lib.hid (by rw [← HR.out, HT.out, Lex.whileN_stop hlt hp]; rfl)
        clear hp
        go_wp2_with (go_at_call 62; go_must (refine (HP.out _).mono ?_; rintro e w' ⟨rfl, rfl⟩))
        go_ret
        exact ⟨ret_int (by rw [HN.out]), rfl⟩
    · have HN : Hid (n = k) := Lib.hid (by rw [← HR.out, HT.out, List.drop_eq_nil_of_le (by omega)]; rfl)
      go_wp2_with fail
      go_ret
      exact ⟨ret_int (by rw [HN.out]), rfl⟩
end Go.Proofs.Ytolahnnkdpbdfaa
