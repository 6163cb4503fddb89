/-
  Walks of CRC-32: what step, take, More, Of and the references More, Of compute. No condition.
-/
import Derived.Test.YtejbhbjfcagaiaaProg
import Derived.Test.YtejbhbjfcagaiaaSl
import Derived.Test.YtejbhbjfcagaiaaBv
namespace Go.Proofs.Ytejbhbjfcagaiaa
open Go.RowKit Go.Sl Go.Bv



theorem cells5 : Try.prog.cellsOf 5 = 1 := by kernel_rfl
theorem some5 : (Try.prog.info? 5).isSome = true := by kernel_rfl
theorem cells24 : Try.prog.cellsOf 24 = 1 := by kernel_rfl
theorem some24 : (Try.prog.info? 24).isSome = true := by kernel_rfl

theorem ret_u32 {a b : BitVec 32} (h : a = b) : Ending.returned (.int .u32 (u32 a)) = .returned (.int .u32 (u32 b)) := by rw [h]

set_option maxHeartbeats 400000 in
theorem step_any (c : BitVec 32) (w : World) :
    Calls Try.prog 22 #[.int .u32 (u32 c)] w fun e w' => e = .returned (.int .u32 (u32 (sbn 8 c))) ∧ w = w' := by
  go_enter Try.func22, Try.ntmps22
  go_wp2_with fail
  go_loop [0, 3, 4] (fun c0 _ i => ∃ k : Nat, k ≤ 8 ∧ i = .int .i64 k ∧ c0 = .int .u32 (u32 (sbn k c))) (fun _ _ i => 8 - (intOf i).toNat)
  case atStart => exact ⟨0, by omega, rfl, rfl⟩
  case round =>
    obtain ⟨k, hk, rfl, rfl⟩ := hrel
    by_cases hlt : k < 8
    · go_wp2_with fail
      go_round
      case rel => exact ⟨k + 1, by omega, by go_num, by rw [sb_walk]; rfl⟩
      case measure => simp [intOf]; omega
    · go_wp2_with fail
      go_ret
      exact ⟨ret_u32 (by rw [show k = 8 by omega]), rfl⟩

set_option maxHeartbeats 400000 in
theorem rtake_any (c : BitVec 32) (b : UInt8) (w : World) :
    Calls Try.prog 18 #[.int .u32 (u32 c), .int .u8 (b.toNat : Int)] w fun e w' => e = .returned (.int .u32 (u32 (tr c (byte b)))) ∧ w = w' := by
  have hby := byte_conv
  have hx := bxor
  go_enter Try.func18, Try.ntmps18
  go_wp2_with fail
  go_loop [0, 5] (fun c0 i => ∃ k : Nat, k ≤ 8 ∧ i = .int .i64 k ∧ c0 = .int .u32 (u32 (sbn k (c ^^^ byte b)))) (fun _ i => 8 - (intOf i).toNat)
  case atStart => exact ⟨0, by omega, rfl, rfl⟩
  case round =>
    obtain ⟨k, hk, rfl, rfl⟩ := hrel
    have hr := (u32_lt (sbn k (c ^^^ byte b))).1
    by_cases hlt : k < 8
    · have hm := mod2_eq (sbn k (c ^^^ byte b))
      cases hb : (sbn k (c ^^^ byte b)).getLsbD 0
      · have E1 := Lib.hid (sb_even _ hb)
        rw [hb] at hm
        clear hby hx hb
        go_wp2_with fail
        go_round
        case rel => exact ⟨k + 1, by omega, by go_num, by rw [E1.out]; rfl⟩
        case measure => simp [intOf]; omega
      · have E1 := Lib.hid (sb_odd _ hb)
        rw [hb] at hm
        clear hby hx hb
        go_wp2_with fail
        go_round
        case rel => exact ⟨k + 1, by omega, by go_num, by rw [E1.out]; rfl⟩
        case measure => simp [intOf]; omega
    · clear hr hby hx
      go_wp2_with fail
      go_ret
      exact ⟨ret_u32 (by rw [show k = 8 by omega]; rfl), rfl⟩

set_option maxHeartbeats 400000 in
theorem take_any (c : BitVec 32) (w : World) (v : Value) (l : List UInt8) (hv : Sl eByte 1 w v l) :
    Calls Try.prog 17 #[.int .u32 (u32 c), v] w fun e w' => e = .returned (.int .u32 (u32 (tk c l))) ∧ w = w' := by
  have hlen := hv.run_len (P := Try.prog) Try.underlying24
  have hmax := hv.len_le
  have hby := byte_conv
  have hx := bxor
  have h2 := and255
  have h8 := shr8
  go_enter Try.func17, Try.ntmps17
  go_wp2_with fail
  go_loop [0, 6, 9] (fun c0 _ i => ∃ k : Nat, k ≤ l.length ∧ i = .int .i64 k ∧ c0 = .int .u32 (u32 (tk c (l.take k)))) (fun _ _ i => l.length - (intOf i).toNat)
  case atStart => exact ⟨0, by omega, rfl, rfl⟩
  case round =>
    obtain ⟨k, hk, rfl, rfl⟩ := hrel
    by_cases hlt : k < l.length
    · have hix := hv.run_index (P := Try.prog) Try.underlying24 cells5 some5 hlt
      have hcell := hv.cell (by omega) hlt
      simp only [eByte, List.getElem?_cons_zero] at hcell
      go_wp2_with (go_at_call 22; refine (step_any _ _).mono ?_; rintro e w' ⟨rfl, rfl⟩)
      go_round
      case rel => exact ⟨k + 1, by omega, by go_num, by rw [tk_take _ _ _ hlt, ← tb_eq]; rfl⟩
      case measure => simp [intOf]; omega
    · go_wp2_with fail
      go_ret
      exact ⟨ret_u32 (by rw [List.take_of_length_le (by omega)]), rfl⟩

set_option maxHeartbeats 400000 in
theorem more_any (c : BitVec 32) (w : World) (v : Value) (l : List UInt8) (hv : Sl eByte 1 w v l) :
    Calls Try.prog 10 #[.int .u32 (u32 c), v] w fun e w' => e = .returned (.int .u32 (u32 (more c l))) ∧ w = w' := by
  go_enter Try.func10, Try.ntmps10
  go_wp2_with (first | (go_at_call 17; refine (take_any _ _ _ _ hv).mono ?_; rintro e w' ⟨rfl, rfl⟩) | (refine wpList_not32 rfl _ _ rfl _ rfl ?_))
  go_ret
  exact ⟨rfl, rfl⟩

set_option maxHeartbeats 400000 in
theorem rmore_any (c : BitVec 32) (w : World) (v : Value) (l : List UInt8) (hv : Sl eByte 1 w v l) :
    Calls Try.prog 11 #[.int .u32 (u32 c), v] w fun e w' => e = .returned (.int .u32 (u32 (more c l))) ∧ w = w' := by
  have hlen := hv.run_len (P := Try.prog) Try.underlying24
  have hmax := hv.len_le
  go_enter Try.func11, Try.ntmps11
  go_wp2_with (refine wpList_not32 rfl _ _ rfl _ rfl ?_)
  go_loop [0, 5] (fun c0 i => ∃ k : Nat, k ≤ l.length ∧ i = .int .i64 k ∧ c0 = .int .u32 (u32 (tk (~~~ c) (l.take k)))) (fun _ i => l.length - (intOf i).toNat)
  case atStart => exact ⟨0, by omega, rfl, rfl⟩
  case round =>
    obtain ⟨k, hk, rfl, rfl⟩ := hrel
    by_cases hlt : k < l.length
    · have hix := hv.run_index (P := Try.prog) Try.underlying24 cells5 some5 hlt
      have hcell := hv.cell (by omega) hlt
      simp only [eByte, List.getElem?_cons_zero] at hcell
      go_wp2_with (go_at_call 18; refine (rtake_any _ _ _).mono ?_; rintro e w' ⟨rfl, rfl⟩)
      go_round
      case rel => exact ⟨k + 1, by omega, by go_num, by rw [tk_take _ _ _ hlt]⟩
      case measure => simp [intOf]; omega
    · go_wp2_with (refine wpList_not32 rfl _ _ rfl _ rfl ?_)
      go_ret
      exact ⟨ret_u32 (by rw [List.take_of_length_le (by omega)]; rfl), rfl⟩

set_option maxHeartbeats 400000 in
theorem rof_any (w : World) (v : Value) (l : List UInt8) (hv : Sl eByte 1 w v l) :
    Calls Try.prog 9 #[v] w fun e w' => e = .returned (.int .u32 (u32 (more 0#32 l))) ∧ w = w' := by
  have h0 : (0 : Int) = u32 0#32 := rfl
  have H0 := Lib.hid h0
  clear h0
  go_enter Try.func9, Try.ntmps9
  go_wp2_with (go_at_call 11; rw [H0.out]; refine (rmore_any _ _ _ _ hv).mono ?_; rintro e w' ⟨rfl, rfl⟩)
  go_ret
  exact ⟨rfl, rfl⟩

theorem flat_take {α : Type} (ls : List (List α)) (k : Nat) (h : k < ls.length) : (ls.take (k + 1)).flatten = (ls.take k).flatten ++ ls[k] := by
  rw [List.take_succ_eq_append_getElem h]; simp only [List.flatten_append, List.flatten_cons, List.flatten_nil, List.append_nil]

set_option maxHeartbeats 400000 in
theorem of_any (w : World) (v : Value) (vs : List Value) (ls : List (List UInt8)) (hv : Sls eByte 1 w v vs ls) :
    Calls Try.prog 8 #[v] w fun e w' => e = .returned (.int .u32 (u32 (more 0#32 ls.flatten))) ∧ w = w' := by
  have hlen := hv.outer.run_len (P := Try.prog) Try.underlying22
  have hmax := hv.outer.len_le
  have hl := hv.len
  have HL := Lib.hid hl
  clear hl
  go_enter Try.func8, Try.ntmps8
  go_wp2_with fail
  go_loop [3, 5, 8] (fun c0 _ i => ∃ k : Nat, k ≤ vs.length ∧ i = .int .i64 k ∧ c0 = .int .u32 (u32 (more 0#32 (ls.take k).flatten))) (fun _ _ i => vs.length - (intOf i).toNat)
  case atStart => exact ⟨0, by omega, rfl, by simp [more_nil]; rfl⟩
  case round =>
    obtain ⟨k, hk, rfl, rfl⟩ := hrel
    by_cases hlt : k < vs.length
    · have hix := hv.outer.run_index (P := Try.prog) Try.underlying22 cells24 some24 hlt
      have hcell := hv.outer.cell (by omega) hlt
      have hin := hv.inner k hlt (by rw [← HL.out]; exact hlt)
      simp only [eVal, List.getElem?_cons_zero] at hcell
      go_wp2_with (go_at_call 10; refine (more_any _ _ _ _ hin).mono ?_; rintro e w' ⟨rfl, rfl⟩)
      go_round
      case rel => exact ⟨k + 1, by omega, by go_num, by rw [flat_take _ _ (by rw [← HL.out]; exact hlt), more_append]⟩
      case measure => simp [intOf]; omega
    · go_wp2_with fail
      go_ret
      exact ⟨ret_u32 (by rw [List.take_of_length_le (by rw [← HL.out]; omega)]), rfl⟩
end Go.Proofs.Ytejbhbjfcagaiaa
