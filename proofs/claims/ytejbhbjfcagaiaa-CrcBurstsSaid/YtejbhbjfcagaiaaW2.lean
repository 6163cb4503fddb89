/-
  Walks of CRC-32: works, and the law CrcSums at values that read as lists of bytes. No condition.
-/
import Derived.Test.YtejbhbjfcagaiaaW1
import Derived.Lib.SlBytesConst
namespace Go.Proofs.Ytejbhbjfcagaiaa
open Go.RowKit Go.Sl Go.Bv
def nine : List UInt8 := [49, 50, 51, 52, 53, 54, 55, 56, 57]
theorem nine_sum : more 0#32 nine = 0xcbf43926#32 := by decide +kernel


theorem below_alloc2 (w : World) (o o' : Obj) : Below w.heap.size w ((w.alloc o).alloc o') := ((Below.refl _ _).alloc (Nat.le_refl _) o).alloc (by simp) o'

theorem nine_at (w : World) : Sls eByte 1 ((w.alloc (.cells #[.int .u8 49, .int .u8 50, .int .u8 51, .int .u8 52, .int .u8 53, .int .u8 54, .int .u8 55, .int .u8 56, .int .u8 57] 5 (9, 10))).alloc (.cells #[.slice (some ⟨w.heap.size, 0, none⟩) 9 9] 24))
    (.slice (some ⟨w.heap.size + 1, 0, none⟩) 1 1) [.slice (some ⟨w.heap.size, 0, none⟩) 9 9] [nine] := by
  refine ⟨Sl.of_block len_eVal (cs := #[.slice (some ⟨w.heap.size, 0, none⟩) 9 9]) (e := 24) (fr := (0, 0)) ?_ rfl rfl (by omega) (by simp [maxLen]), rfl, ?_⟩
  · have := heap_alloc_new (w.alloc (.cells #[.int .u8 49, .int .u8 50, .int .u8 51, .int .u8 52, .int .u8 53, .int .u8 54, .int .u8 55, .int .u8 56, .int .u8 57] 5 (9, 10))) (.cells #[.slice (some ⟨w.heap.size, 0, none⟩) 9 9] 24)
    simpa using this
  · intro k h h'
    simp at h
    subst h
    refine Sl.of_block len_eByte (cs := #[.int .u8 49, .int .u8 50, .int .u8 51, .int .u8 52, .int .u8 53, .int .u8 54, .int .u8 55, .int .u8 56, .int .u8 57]) (e := 5) (fr := (9, 10)) ?_ rfl rfl (by omega) (by simp [maxLen])
    rw [Below.heap_alloc _ _ _ (by simp)]
    exact heap_alloc_new _ _

theorem ret_bool {a b : Bool} (h : a = b) : Ending.returned (.bool a) = .returned (.bool b) := by rw [h]

set_option maxHeartbeats 400000 in
theorem works_any (w : World) :
    Calls Try.prog 7 #[] w fun e w' => e = .returned (.bool true) ∧ Below w.heap.size w w' := by
  have hcv := fun (w : World) (C : Array Value) (n c : Nat) => Lib.run_convert_bytes_const (P := Try.prog) w 24 5 C n c Try.underlying24 Try.underlying5
  go_enter Try.func7, Try.ntmps7
  go_wp2_with (go_at_call 8; refine (of_any _ _ _ _ (nine_at w)).mono ?_; rintro e w' ⟨rfl, rfl⟩)
  go_ret
  exact ⟨ret_bool (by rw [nine_sum]; rfl), below_alloc2 _ _ _⟩

theorem info5 : (Try.prog.info? 5).map (fun i => (i.zero, i.size, i.bytes)) = some (some (.int .u8 0), 1, 1) := by kernel_rfl



set_option maxHeartbeats 1000000 in
theorem sums_any (w : World) (v : Value) (vs : List Value) (ls : List (List UInt8)) (c : BitVec 32) (hv : Sls eByte 1 w v vs ls) :
    Calls Try.prog 3 #[v, .int .u32 (u32 c)] w fun e w' => e = .returned (.bool true) ∧ Below w.heap.size w w' := by
  have hlen := hv.outer.run_len (P := Try.prog) Try.underlying22
  have hmax := hv.outer.len_le
  have HL := Lib.hid hv.len
  go_enter Try.func3, Try.ntmps3
  go_wp2_with fail
  go_loopw [4, 5, 6] (fun _ a i wr => ∃ (k : Nat) (pre : List UInt8), k ≤ vs.length ∧ i = .int .i64 k ∧ Own eByte 1 w.heap.size 5 wr a pre ∧ pre.length ≤ 2000 ∧ Below w.heap.size w wr ∧ Hid (pre = (ls.take k).flatten)) (fun _ _ i _ => vs.length - (intOf i).toNat)
  case atStart => exact ⟨0, [], by omega, rfl, Own.nil _ _ _ _ _, by simp, Below.refl _ _, rfl⟩
  case round =>
    obtain ⟨k, pre, hk, rfl, hown, h2000, hbel, HP⟩ := hrel
    have hal := (hown.sl len_eByte).run_len (P := Try.prog) Try.underlying24
    have hsz := hbel.size
    by_cases hlt : k < vs.length
    · have hkl : k < ls.length := by rw [← HL.out]; exact hlt
      have hout := hv.outer.ext hbel
      have hin := (hv.inner k hlt hkl).ext hbel
      have hix := hout.run_index (P := Try.prog) Try.underlying22 cells24 some24 hlt
      have hcell := hout.cell (by omega) hlt
      simp only [eVal, List.getElem?_cons_zero] at hcell
      obtain ⟨x, HX⟩ : ∃ x, Hid (x = ls[k]) := ⟨_, Lib.hid rfl⟩
      rw [← HX.out] at hin
      have hil := hin.run_len (P := Try.prog) Try.underlying24
      have hm2 := hin.len_le
      go_wp2_with (first
        | (go_at_call 7; refine (works_any _).mono ?_; rintro e w' ⟨rfl, hb⟩)
        | (at_builtin; go_must (refine wpList_append rfl _ _ _ rfl (.int .u8 0) 1 Try.underlying24 info5 rfl (by omega) len_eByte one_eByte _ _ _ _ rfl hown rfl hin (by simp only [maxLen]; omega) (by omega) hsz ?_; intro v' w1 hown1 _ hb1)))
      · go_ret
        exact ⟨rfl, hbel.trans (hb.mono hsz)⟩
      · have hx2 : (x.length : Int) ≤ 2000 - pre.length := by assumption
        go_roundw
        case rel => exact ⟨k + 1, pre ++ x, by omega, by go_num, hown1, by rw [List.length_append]; omega, hbel.trans hb1, by rw [HP.out, HX.out]; exact (flat_take _ _ hkl).symm⟩
        case measure => simp [intOf]; omega
    · have hrun := hown.sl len_eByte
      have hv' : Sls eByte 1 wr v vs ls := hv.ext hbel
      obtain rfl : k = vs.length := by omega
      have hpre : pre = ls.flatten := by rw [HP.out, HL.out, List.take_length]
      have hof : Calls Try.prog 8 #[v] wr fun e w' => e = .returned (.int .u32 (u32 (more 0#32 pre))) ∧ wr = w' := by rw [hpre]; exact of_any _ _ _ _ hv'
      clear hpre HP
      go_wp2_with (first
        | (go_at_call 8; go_must (refine hof.mono ?_; rintro e w' ⟨rfl, rfl⟩))
        | (go_at_call 9; go_must (refine (rof_any _ _ _ hrun).mono ?_; rintro e w' ⟨rfl, rfl⟩))
        | (go_at_call 10; go_must (refine (more_any _ _ _ _ hrun).mono ?_; rintro e w' ⟨rfl, rfl⟩))
        | (go_at_call 11; go_must (refine (rmore_any _ _ _ _ hrun).mono ?_; rintro e w' ⟨rfl, rfl⟩))
        | (go_at_call 7; go_must (refine (works_any _).mono ?_; rintro e w' ⟨rfl, hb⟩)))
      go_ret
      exact ⟨rfl, hbel.trans (hb.mono hsz)⟩
end Go.Proofs.Ytejbhbjfcagaiaa
