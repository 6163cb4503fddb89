/-
  Layer 34: of a session that is none (nil, or that no call made) each method tells nothing. No condition besides what the arguments are.
-/
import Derived.Test.YtcpmnocknpalfaaT9
namespace Go.Proofs.Ytcpmnocknpalfaa
open Go.RowKit Go.Sl Go.B64 Go.Bis
set_option linter.unusedVariables false

/-- no session: nil, or one that no call made -/
def Dd (w : World) (p : Value) : Prop := p = .pointer none ∨ ∃ sb, p = .pointer (some ⟨sb, 0, none⟩) ∧ sb < w.heap.size ∧ w.cell? ⟨sb, 0, none⟩ = some (.slice none 0 0)
theorem Dd.ext {w w' : World} {p : Value} (h : Dd w p) (hb : Below w.heap.size w w') : Dd w' p := by
  rcases h with h | ⟨sb, h1, h2, h3⟩
  · exact .inl h
  · exact .inr ⟨sb, h1, Nat.lt_of_lt_of_le h2 hb.size, (hb.cell (p := ⟨sb, 0, none⟩) h2).trans h3⟩
theorem dd_any {w : World} {p : Value} (h : Dd w p) : Calls Try.prog 81 #[p] w fun e w' => e = .returned (.bool true) ∧ w = w' := by
  rcases h with rfl | ⟨sb, rfl, -, h3⟩
  · exact (dead_nil w).mono fun e w' h => ⟨h.1, h.2.symm⟩
  · exact (dead_zero h3).mono fun e w' h => ⟨h.1, h.2.symm⟩

set_option maxHeartbeats 1000000 in
theorem next_dd {w : World} {p : Value} (h : Dd w p) : Calls Try.prog 38 #[p] w fun e w' => e = .returned (.tuple #[.int .i64 0, .bool false]) ∧ w = w' := by
  have HD := Lib.hid (dd_any h)
  clear h
  go_enter Try.func38, Try.ntmps38
  go_wp2_with fail
  refine HD.out.mono ?_
  rintro e w1 ⟨rfl, rfl⟩
  go_wp2_with fail
  go_ret2
  exact ⟨rfl, rfl⟩

set_option maxHeartbeats 1000000 in
theorem ask_dd {w : World} {p : Value} (h : Dd w p) (n : Int) : Calls Try.prog 86 #[p, .int .i64 n] w fun e w' => e = .returned (.int .i64 1) ∧ w = w' := by
  have HD := Lib.hid (dd_any h)
  clear h
  go_enter Try.func86, Try.ntmps86
  go_wp2_with fail
  refine HD.out.mono ?_
  rintro e w1 ⟨rfl, rfl⟩
  go_wp2_with fail
  go_ret
  exact ⟨rfl, rfl⟩

set_option maxHeartbeats 1000000 in
theorem good_dd {w : World} {p : Value} (h : Dd w p) (n : Int) : Calls Try.prog 53 #[p, .int .i64 n] w fun e w' => e = .returned (.int .i64 1) ∧ w = w' := by
  have HD := Lib.hid (ask_dd h n)
  clear h
  go_enter Try.func53, Try.ntmps53
  go_wp2_with fail
  refine HD.out.mono ?_
  rintro e w1 ⟨rfl, rfl⟩
  go_wp2_with fail
  go_ret
  exact ⟨rfl, rfl⟩

set_option maxHeartbeats 1000000 in
theorem bad_dd {w : World} {p : Value} (h : Dd w p) (n : Int) : Calls Try.prog 54 #[p, .int .i64 n] w fun e w' => e = .returned (.int .i64 1) ∧ w = w' := by
  have HD := Lib.hid (ask_dd h n)
  clear h
  go_enter Try.func54, Try.ntmps54
  go_wp2_with fail
  refine HD.out.mono ?_
  rintro e w1 ⟨rfl, rfl⟩
  go_wp2_with fail
  go_ret
  exact ⟨rfl, rfl⟩

set_option maxHeartbeats 1000000 in
theorem skip_dd {w : World} {p : Value} (h : Dd w p) (n : Int) : Calls Try.prog 55 #[p, .int .i64 n] w fun e w' => e = .returned (.int .i64 1) ∧ w = w' := by
  have HD := Lib.hid (ask_dd h n)
  clear h
  go_enter Try.func55, Try.ntmps55
  go_wp2_with fail
  refine HD.out.mono ?_
  rintro e w1 ⟨rfl, rfl⟩
  go_wp2_with fail
  go_ret
  exact ⟨rfl, rfl⟩

set_option maxHeartbeats 1000000 in
theorem reset_dd {w : World} {p : Value} (h : Dd w p) : Calls Try.prog 48 #[p] w fun e w' => e = .returned (.int .i64 1) ∧ w = w' := by
  have HD := Lib.hid (dd_any h)
  clear h
  go_enter Try.func48, Try.ntmps48
  go_wp2_with fail
  refine HD.out.mono ?_
  rintro e w1 ⟨rfl, rfl⟩
  go_wp2_with fail
  go_ret
  exact ⟨rfl, rfl⟩

set_option maxHeartbeats 1000000 in
theorem worst_dd {w : World} {p : Value} (h : Dd w p) : Calls Try.prog 43 #[p] w fun e w' => e = .returned (.int .i64 0) ∧ w = w' := by
  have HD := Lib.hid (dd_any h)
  clear h
  go_enter Try.func43, Try.ntmps43
  go_wp2_with fail
  refine HD.out.mono ?_
  rintro e w1 ⟨rfl, rfl⟩
  go_wp2_with fail
  go_ret
  exact ⟨rfl, rfl⟩

set_option maxHeartbeats 1000000 in
theorem weight_dd {w : World} {p : Value} (h : Dd w p) (n : Int) : Calls Try.prog 45 #[p, .int .i64 n] w fun e w' => e = .returned (.int .i64 0) ∧ w = w' := by
  have HD := Lib.hid (dd_any h)
  clear h
  go_enter Try.func45, Try.ntmps45
  go_wp2_with fail
  refine HD.out.mono ?_
  rintro e w1 ⟨rfl, rfl⟩
  go_wp2_with fail
  go_ret
  exact ⟨rfl, rfl⟩

set_option maxHeartbeats 1000000 in
theorem ans_dd {w : World} {p : Value} (h : Dd w p) : Calls Try.prog 56 #[p] w fun e w' => e = .returned (.int .i64 0) ∧ w = w' := by
  have HD := Lib.hid (dd_any h)
  clear h
  go_enter Try.func56, Try.ntmps56
  go_wp2_with fail
  refine HD.out.mono ?_
  rintro e w1 ⟨rfl, rfl⟩
  go_wp2_with fail
  go_ret
  exact ⟨rfl, rfl⟩

set_option maxHeartbeats 1000000 in
theorem cand_dd {w : World} {p : Value} (h : Dd w p) : Calls Try.prog 41 #[p] w fun e w' => e = .returned (.slice none 0 0) ∧ w = w' := by
  have HD := Lib.hid (dd_any h)
  clear h
  go_enter Try.func41, Try.ntmps41
  go_wp2_with fail
  refine HD.out.mono ?_
  rintro e w1 ⟨rfl, rfl⟩
  go_wp2_with fail
  go_ret
  exact ⟨rfl, rfl⟩

set_option maxHeartbeats 1000000 in
theorem skipped_dd {w : World} {p : Value} (h : Dd w p) : Calls Try.prog 42 #[p] w fun e w' => e = .returned (.slice none 0 0) ∧ w = w' := by
  have HD := Lib.hid (dd_any h)
  clear h
  go_enter Try.func42, Try.ntmps42
  go_wp2_with fail
  refine HD.out.mono ?_
  rintro e w1 ⟨rfl, rfl⟩
  go_wp2_with fail
  go_ret
  exact ⟨rfl, rfl⟩
end Go.Proofs.Ytcpmnocknpalfaa
