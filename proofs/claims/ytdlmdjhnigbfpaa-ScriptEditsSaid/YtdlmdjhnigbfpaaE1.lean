/-
  Walks of layer 21: lists of strings that are one; texts that are long. No condition.
-/
import Derived.Test.YtdlmdjhnigbfpaaW4
import Derived.Test.YtdlmdjhnigbfpaaRow
import Derived.Test.YtdlmdjhnigbfpaaSub
import Derived.Outline
namespace Go.Proofs.Ytdlmdjhnigbfpaa
open Go.RowKit Go.Sl Go.Scr

theorem cells9 : Try.prog.cellsOf 9 = 1 := by kernel_rfl
theorem some9 : (Try.prog.info? 9).isSome = true := by kernel_rfl
theorem elem47 : Try.prog.elem 47 = 9 := by kernel_rfl
theorem info9 : (Try.prog.info? 9).map (fun i => (i.zero, i.size, i.bytes)) = some (some (.string .empty), 1, 16) := by kernel_rfl

theorem str_eq (x y : ByteArray) : (x.toList == y.toList) = decide (x = y) := by
  rw [Go.ByteArray.toList_eq, Go.ByteArray.toList_eq, Bool.eq_iff_iff]
  simp only [beq_iff_eq, decide_eq_true_eq]
  constructor
  · intro h
    cases x; cases y
    simp only [Array.toList_inj] at h
    rw [h]
  · rintro rfl; rfl


set_option maxHeartbeats 400000 in
theorem strs_same (v1 v2 : Value) (l1 l2 : List ByteArray) (w : World) (h1 : Sl eStr 1 w v1 l1) (h2 : Sl eStr 1 w v2 l2) :
    Calls Try.prog 22 #[v1, v2] w fun e w' => e = .returned (.bool (decide (l1 = l2))) ∧ ∃ n, w' = w.drewN n := by
  have hlen1 := h1.run_len (P := Try.prog) Try.underlying47
  have hlen2 := h2.run_len (P := Try.prog) Try.underlying47
  have hmax := h1.len_le
  have hmax2 := h2.len_le
  by_cases hl : l1.length = l2.length
  · rw [← hl] at hlen2
    have HL := Lib.hid hl
    clear hl hmax2
    go_enter Try.func22, Try.ntmps22
    go_wp2_with fail
    go_loopw [5] (fun i wr => ∃ (k : Nat), k ≤ l1.length ∧ i = .int .i64 k ∧ Hid (l1.take k = l2.take k) ∧ ∃ n, Hid (wr = w.drewN n)) (fun i _ => l1.length - (intOf i).toNat)
    case atStart => exact ⟨0, by omega, rfl, Lib.hid rfl, 0, Lib.hid rfl⟩
    case round =>
      obtain ⟨k, hk, rfl, HT, n, HW⟩ := hrel
      obtain rfl := HW.out
      clear HW
      by_cases hlt : k < l1.length
      · have hlt2 : k < l2.length := by rw [← HL.out]; exact hlt
        obtain ⟨b1, o1, hb1, hix1, hc1⟩ := h1.at (P := Try.prog) Try.underlying47 cells9 some9 hlt
        obtain ⟨b2, o2, hb2, hix2, hc2⟩ := h2.at (P := Try.prog) Try.underlying47 cells9 some9 hlt2
        have e1 := hc1 0 (by omega)
        have e2 := hc2 0 (by omega)
        simp only [eStr, List.getElem?_cons_zero, Nat.add_zero] at e1 e2
        obtain ⟨x, HX⟩ : ∃ x, Hid (l1[k] = x) := ⟨_, Lib.hid rfl⟩
        obtain ⟨y, HY⟩ : ∃ y, Hid (l2[k] = y) := ⟨_, Lib.hid rfl⟩
        rw [HX.out] at e1
        rw [HY.out] at e2
        clear hc1 hc2
        by_cases hxy : x = y
        · have hb : (x.toList == y.toList) = true := by rw [str_eq]; simpa using hxy
          have HXY := Lib.hid hxy
          clear hxy
          go_wp2_with fail
          go_quiet (fail)
          go_wp2_with fail
          go_roundw
          case rel => exact ⟨k + 1, by omega, by go_num, Lib.hid (by rw [List.take_succ_eq_append_getElem hlt, List.take_succ_eq_append_getElem hlt2, HX.out, HY.out, HT.out, HXY.out]), _, Lib.hid rfl⟩
          case measure => simp [intOf]; omega
        · have hb : (x.toList == y.toList) = false := by rw [str_eq]; simpa using hxy
          have HN := Lib.hid (show ¬ l1 = l2 from fun e => by subst e; exact hxy (HX.out.symm.trans HY.out))
          clear hxy
          go_wp2_with fail
          go_quiet (fail)
          go_wp2_with fail
          go_ret
          exact ⟨ret_bool (decide_eq_false HN.out).symm, _, World.drewN_drewN _ _ _⟩
      · go_wp2_with fail
        go_ret
        refine ⟨ret_bool (decide_eq_true ?_).symm, _, rfl⟩
        have := HT.out
        rwa [List.take_of_length_le (by omega), List.take_of_length_le (by rw [← HL.out]; omega)] at this
  · have hb : ((l1.length : Int) == l2.length) = false := by simpa using (fun h => hl (by omega) : ¬ (l1.length : Int) = l2.length)
    have hb2 : (l1.length == l2.length) = false := by simpa using hl
    have HN := Lib.hid (show ¬ l1 = l2 from fun e => hl (by rw [e]))
    clear hl
    go_enter Try.func22, Try.ntmps22
    go_wp2_with fail
    go_ret
    exact ⟨ret_bool (decide_eq_false HN.out).symm, 0, rfl⟩

set_option maxHeartbeats 400000 in
theorem strs_equal (v1 v2 : Value) (l1 l2 : List ByteArray) (w : World) (h1 : Sl eStr 1 w v1 l1) (h2 : Sl eStr 1 w v2 l2) :
    Calls Try.prog 30 #[v1, v2] w fun e w' => e = .returned (.bool (decide (l1 = l2))) ∧ ∃ n, w' = w.drewN n := by
  have hlen1 := h1.run_len (P := Try.prog) Try.underlying47
  have hlen2 := h2.run_len (P := Try.prog) Try.underlying47
  have hmax := h1.len_le
  have hmax2 := h2.len_le
  by_cases hl : l1.length = l2.length
  · rw [← hl] at hlen2
    have HL := Lib.hid hl
    clear hl hmax2
    go_enter Try.func30, Try.ntmps30
    go_wp2_with fail
    go_loopw [13] (fun i wr => ∃ (k : Nat), k ≤ l1.length ∧ i = .int .i64 k ∧ Hid (l1.take k = l2.take k) ∧ ∃ n, Hid (wr = w.drewN n)) (fun i _ => l1.length - (intOf i).toNat)
    case atStart => exact ⟨0, by omega, rfl, Lib.hid rfl, 0, Lib.hid rfl⟩
    case round =>
      obtain ⟨k, hk, rfl, HT, n, HW⟩ := hrel
      obtain rfl := HW.out
      clear HW
      by_cases hlt : k < l1.length
      · have hlt2 : k < l2.length := by rw [← HL.out]; exact hlt
        obtain ⟨b1, o1, hb1, hix1, hc1⟩ := h1.at (P := Try.prog) Try.underlying47 cells9 some9 hlt
        obtain ⟨b2, o2, hb2, hix2, hc2⟩ := h2.at (P := Try.prog) Try.underlying47 cells9 some9 hlt2
        have e1 := hc1 0 (by omega)
        have e2 := hc2 0 (by omega)
        simp only [eStr, List.getElem?_cons_zero, Nat.add_zero] at e1 e2
        obtain ⟨x, HX⟩ : ∃ x, Hid (l1[k] = x) := ⟨_, Lib.hid rfl⟩
        obtain ⟨y, HY⟩ : ∃ y, Hid (l2[k] = y) := ⟨_, Lib.hid rfl⟩
        rw [HX.out] at e1
        rw [HY.out] at e2
        clear hc1 hc2
        by_cases hxy : x = y
        · have hb : (x.toList == y.toList) = true := by rw [str_eq]; simpa using hxy
          have HXY := Lib.hid hxy
          clear hxy
          go_wp2_with fail
          go_quiet (fail)
          go_wp2_with fail
          go_roundw
          case rel => exact ⟨k + 1, by omega, by go_num, Lib.hid (by rw [List.take_succ_eq_append_getElem hlt, List.take_succ_eq_append_getElem hlt2, HX.out, HY.out, HT.out, HXY.out]), _, Lib.hid rfl⟩
          case measure => simp [intOf]; omega
        · have hb : (x.toList == y.toList) = false := by rw [str_eq]; simpa using hxy
          have HN := Lib.hid (show ¬ l1 = l2 from fun e => by subst e; exact hxy (HX.out.symm.trans HY.out))
          clear hxy
          go_wp2_with fail
          go_quiet (fail)
          go_wp2_with fail
          go_ret
          exact ⟨ret_bool (decide_eq_false HN.out).symm, _, World.drewN_drewN _ _ _⟩
      · go_wp2_with fail
        go_ret
        refine ⟨ret_bool (decide_eq_true ?_).symm, _, rfl⟩
        have := HT.out
        rwa [List.take_of_length_le (by omega), List.take_of_length_le (by rw [← HL.out]; omega)] at this
  · have hb : ((l1.length : Int) == l2.length) = false := by simpa using (fun h => hl (by omega) : ¬ (l1.length : Int) = l2.length)
    have hb2 : (l1.length == l2.length) = false := by simpa using hl
    have HN := Lib.hid (show ¬ l1 = l2 from fun e => hl (by rw [e]))
    clear hl
    go_enter Try.func30, Try.ntmps30
    go_wp2_with fail
    go_ret
    exact ⟨ret_bool (decide_eq_false HN.out).symm, 0, rfl⟩

/-- one text alone -/
theorem long_any (w : World) (v : Value) (l : List ByteArray) (g : Nat) (h : Sl eStr 1 w v l) (hg : w.heap[g]? = some (.cells #[v] 47 (0, 0))) :
    Calls Try.prog 19 #[.slice (some ⟨g, 0, none⟩) 1 1] w fun e w' => e = .returned (.bool (decide (200 < l.length))) ∧ w = w' := by
  have hlen1 := h.run_len (P := Try.prog) Try.underlying47
  obtain ⟨_, c0, _⟩ := one_cells hg
  clear hg
  go_enter Try.func19, Try.ntmps19
  go_wp2_with fail
  go_loop [3] (fun i => ∃ (k : Nat), k ≤ 1 ∧ i = .int .i64 k ∧ (k = 1 → l.length ≤ 200)) (fun i => 1 - (intOf i).toNat)
  case atStart => exact ⟨0, by omega, rfl, by omega⟩
  case round =>
    obtain ⟨k, hk, rfl, hl⟩ := hrel
    by_cases h0 : k = 0
    · subst h0
      by_cases hlong : 200 < l.length
      · go_wp2_with fail
        go_ret
        exact ⟨ret_bool (by simp), rfl⟩
      · have hlong2 : (l.length : Int) ≤ 200 := by omega
        go_wp2_with fail
        go_round
        case rel => exact ⟨1, by omega, rfl, fun _ => by omega⟩
        case measure => simp [intOf]
    · obtain rfl : k = 1 := by omega
      have hle := hl rfl
      clear hl
      go_wp2_with fail
      go_ret
      exact ⟨ret_bool (decide_eq_false (by omega)).symm, rfl⟩
end Go.Proofs.Ytdlmdjhnigbfpaa
