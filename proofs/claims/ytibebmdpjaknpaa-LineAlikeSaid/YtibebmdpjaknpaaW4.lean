/-
  Layer 20: are two lists one: of numbers, of lines, of bytes. No condition besides what the arguments are.
-/
import Derived.Test.YtibebmdpjaknpaaW2
import Derived.Deep.QuietTactic
import Derived.BigQuiet
namespace Go.Proofs.Ytibebmdpjaknpaa
open Go.RowKit Go.Sl
set_option linter.unusedVariables false

theorem ret_bool {a b : Bool} (h : a = b) : Ending.returned (.bool a) = .returned (.bool b) := by rw [h]
theorem ret_int {k : IntKind} {a b : Int} (h : a = b) : Ending.returned (.int k a) = .returned (.int k b) := by rw [h]
theorem cells3 : Try.prog.cellsOf 3 = 1 := by kernel_rfl
theorem some3 : (Try.prog.info? 3).isSome = true := by kernel_rfl
theorem cells9 : Try.prog.cellsOf 9 = 1 := by kernel_rfl
theorem some9 : (Try.prog.info? 9).isSome = true := by kernel_rfl
theorem info3 : (Try.prog.info? 3).map (fun i => (i.zero, i.size, i.bytes)) = some (some (.int .i64 0), 1, 8) := by kernel_rfl

set_option maxHeartbeats 400000 in
theorem same_any (v1 v2 : Value) (l1 l2 : List Int) (w : World) (h1 : Sl eInt 1 w v1 l1) (h2 : Sl eInt 1 w v2 l2) :
    Calls Try.prog 9 #[v1, v2] w fun e w' => e = .returned (.bool (decide (l1 = l2))) ∧ ∃ n, w' = w.drewN n := by
  have hlen1 := h1.run_len (P := Try.prog) Try.underlying24
  have hlen2 := h2.run_len (P := Try.prog) Try.underlying24
  have hmax := h1.len_le
  have hmax2 := h2.len_le
  by_cases hl : l1.length = l2.length
  · rw [← hl] at hlen2
    have HL := Lib.hid hl
    clear hl hmax2
    go_enter Try.func9, Try.ntmps9
    go_wp2_with fail
    go_loopw [5] (fun i wr => ∃ (k : Nat), k ≤ l1.length ∧ i = .int .i64 k ∧ Hid (l1.take k = l2.take k) ∧ ∃ n, Hid (wr = w.drewN n)) (fun i _ => l1.length - (intOf i).toNat)
    case atStart => exact ⟨0, by omega, rfl, Lib.hid rfl, 0, Lib.hid rfl⟩
    case round =>
      obtain ⟨k, hk, rfl, HT, n, HW⟩ := hrel
      obtain rfl := HW.out
      clear HW
      by_cases hlt : k < l1.length
      · have hlt2 : k < l2.length := by rw [← HL.out]; exact hlt
        obtain ⟨b1, o1, hb1, hix1, hc1⟩ := h1.at (P := Try.prog) Try.underlying24 cells3 some3 hlt
        obtain ⟨b2, o2, hb2, hix2, hc2⟩ := h2.at (P := Try.prog) Try.underlying24 cells3 some3 hlt2
        have e1 := hc1 0 (by omega)
        have e2 := hc2 0 (by omega)
        simp only [eInt, List.getElem?_cons_zero, Nat.add_zero] at e1 e2
        obtain ⟨x, HX⟩ : ∃ x, Hid (l1[k] = x) := ⟨_, Lib.hid rfl⟩
        obtain ⟨y, HY⟩ : ∃ y, Hid (l2[k] = y) := ⟨_, Lib.hid rfl⟩
        rw [HX.out] at e1
        rw [HY.out] at e2
        clear hc1 hc2
        by_cases hxy : x = y
        · have hb : (x != y) = false := by simp [hxy]
          have HXY := Lib.hid hxy
          clear hxy
          go_wp2_with fail
          go_quiet (fail)
          go_wp2_with fail
          go_roundw
          case rel => exact ⟨k + 1, by omega, by go_num, Lib.hid (by rw [List.take_succ_eq_append_getElem hlt, List.take_succ_eq_append_getElem hlt2, HX.out, HY.out, HT.out, HXY.out]), _, Lib.hid rfl⟩
          case measure => simp [intOf]; omega
        · have hb : (x != y) = true := by simp [hxy]
          have HN := Lib.hid (show ¬ l1 = l2 from fun e => by subst e; exact hxy (HX.out.symm.trans HY.out))
          clear hxy
          go_wp2_with fail
          go_quiet (fail)
          go_wp2_with fail
          go_ret
          exact ⟨ret_bool (decide_eq_false HN.out).symm, _, World.drewN_drewN _ _ _⟩
      · go_wp2_with fail
        go_ret
        refine ⟨ret_bool (decide_eq_true ?_).symm, _, rfl⟩
        have := HT.out
        rwa [List.take_of_length_le (by omega), List.take_of_length_le (by rw [← HL.out]; omega)] at this
  · have hb : ((l1.length : Int) == l2.length) = false := by simpa using (fun h => hl (by omega) : ¬ (l1.length : Int) = l2.length)
    have hb2 : (l1.length == l2.length) = false := by simpa using hl
    have HN := Lib.hid (show ¬ l1 = l2 from fun e => hl (by rw [e]))
    clear hl
    go_enter Try.func9, Try.ntmps9
    go_wp2_with fail
    go_ret
    exact ⟨ret_bool (decide_eq_false HN.out).symm, 0, rfl⟩


set_option maxHeartbeats 400000 in
theorem sameS_any (v1 v2 : Value) (l1 l2 : List (List UInt8)) (w : World) (h1 : Sl eL 1 w v1 l1) (h2 : Sl eL 1 w v2 l2) :
    Calls Try.prog 14 #[v1, v2] w fun e w' => e = .returned (.bool (decide (l1 = l2))) ∧ ∃ n, w' = w.drewN n := by
  have hlen1 := h1.run_len (P := Try.prog) Try.underlying22
  have hlen2 := h2.run_len (P := Try.prog) Try.underlying22
  have hmax := h1.len_le
  have hmax2 := h2.len_le
  by_cases hl : l1.length = l2.length
  · rw [← hl] at hlen2
    have HL := Lib.hid hl
    clear hl hmax2
    go_enter Try.func14, Try.ntmps14
    go_wp2_with fail
    go_loopw [5] (fun i wr => ∃ (k : Nat), k ≤ l1.length ∧ i = .int .i64 k ∧ Hid (l1.take k = l2.take k) ∧ ∃ n, Hid (wr = w.drewN n)) (fun i _ => l1.length - (intOf i).toNat)
    case atStart => exact ⟨0, by omega, rfl, Lib.hid rfl, 0, Lib.hid rfl⟩
    case round =>
      obtain ⟨k, hk, rfl, HT, n, HW⟩ := hrel
      obtain rfl := HW.out
      clear HW
      by_cases hlt : k < l1.length
      · have hlt2 : k < l2.length := by rw [← HL.out]; exact hlt
        obtain ⟨b1, o1, hb1, hix1, hc1⟩ := h1.at (P := Try.prog) Try.underlying22 cells9 some9 hlt
        obtain ⟨b2, o2, hb2, hix2, hc2⟩ := h2.at (P := Try.prog) Try.underlying22 cells9 some9 hlt2
        have e1 := hc1 0 (by omega)
        have e2 := hc2 0 (by omega)
        simp only [eL, List.getElem?_cons_zero, Nat.add_zero] at e1 e2
        obtain ⟨x, HX⟩ : ∃ x, Hid (l1[k] = x) := ⟨_, Lib.hid rfl⟩
        obtain ⟨y, HY⟩ : ∃ y, Hid (l2[k] = y) := ⟨_, Lib.hid rfl⟩
        rw [HX.out] at e1
        rw [HY.out] at e2
        clear hc1 hc2
        by_cases hxy : x = y
        · have hb : (x == y) = true := by simp [hxy]
          have HXY := Lib.hid hxy
          clear hxy
          go_wp2_with fail
          go_quiet (fail)
          go_wp2_with fail
          go_roundw
          case rel => exact ⟨k + 1, by omega, by go_num, Lib.hid (by rw [List.take_succ_eq_append_getElem hlt, List.take_succ_eq_append_getElem hlt2, HX.out, HY.out, HT.out, HXY.out]), _, Lib.hid rfl⟩
          case measure => simp [intOf]; omega
        · have hb : (x == y) = false := by simp [hxy]
          have HN := Lib.hid (show ¬ l1 = l2 from fun e => by subst e; exact hxy (HX.out.symm.trans HY.out))
          clear hxy
          go_wp2_with fail
          go_quiet (fail)
          go_wp2_with fail
          go_ret
          exact ⟨ret_bool (decide_eq_false HN.out).symm, _, World.drewN_drewN _ _ _⟩
      · go_wp2_with fail
        go_ret
        refine ⟨ret_bool (decide_eq_true ?_).symm, _, rfl⟩
        have := HT.out
        rwa [List.take_of_length_le (by omega), List.take_of_length_le (by rw [← HL.out]; omega)] at this
  · have hb : ((l1.length : Int) == l2.length) = false := by simpa using (fun h => hl (by omega) : ¬ (l1.length : Int) = l2.length)
    have hb2 : (l1.length == l2.length) = false := by simpa using hl
    have HN := Lib.hid (show ¬ l1 = l2 from fun e => hl (by rw [e]))
    clear hl
    go_enter Try.func14, Try.ntmps14
    go_wp2_with fail
    go_ret
    exact ⟨ret_bool (decide_eq_false HN.out).symm, 0, rfl⟩


set_option maxHeartbeats 400000 in
theorem sameB_any (v1 v2 : Value) (l1 l2 : List UInt8) (w : World) (h1 : Sl eByte 1 w v1 l1) (h2 : Sl eByte 1 w v2 l2) :
    Calls Try.prog 15 #[v1, v2] w fun e w' => e = .returned (.bool (decide (l1 = l2))) ∧ w = w' := by
  have hc1 := h1.run_string (P := Try.prog) Try.underlying31 Try.underlying5 Try.underlying9
  have hc2 := h2.run_string (P := Try.prog) Try.underlying31 Try.underlying5 Try.underlying9
  have hb : (l1 == l2) = decide (l1 = l2) := by
    rw [Bool.eq_iff_iff, beq_iff_eq, decide_eq_true_iff]
  go_enter Try.func15, Try.ntmps15
  go_wp2_with fail
  go_ret
  exact ⟨rfl, rfl⟩
end Go.Proofs.Ytibebmdpjaknpaa
