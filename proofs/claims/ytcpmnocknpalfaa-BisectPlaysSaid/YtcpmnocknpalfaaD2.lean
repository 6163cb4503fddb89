/-
  Walks of layer 14: Same, Index, Contains. No condition.
-/
import Derived.Test.YtcpmnocknpalfaaD1
namespace Go.Proofs.Ytcpmnocknpalfaa
open Go.RowKit Go.Sl

set_option maxHeartbeats 400000 in
theorem same_any (v1 v2 : Value) (l1 l2 : List Int) (w : World) (h1 : Sl eInt 1 w v1 l1) (h2 : Sl eInt 1 w v2 l2) :
    Calls Try.prog 18 #[v1, v2] w fun e w' => e = .returned (.bool (decide (l1 = l2))) ∧ ∃ n, w' = w.drewN n := by
  have hlen1 := h1.run_len (P := Try.prog) Try.underlying23
  have hlen2 := h2.run_len (P := Try.prog) Try.underlying23
  have hmax := h1.len_le
  have hmax2 := h2.len_le
  by_cases hl : l1.length = l2.length
  · rw [← hl] at hlen2
    have HL := Lib.hid hl
    clear hl hmax2
    go_enter Try.func18, Try.ntmps18
    go_wp2_with fail
    go_loopw [5] (fun i wr => ∃ (k : Nat), k ≤ l1.length ∧ i = .int .i64 k ∧ Hid (l1.take k = l2.take k) ∧ ∃ n, Hid (wr = w.drewN n)) (fun i _ => l1.length - (intOf i).toNat)
    case atStart => exact ⟨0, by omega, rfl, Lib.hid rfl, 0, Lib.hid rfl⟩
    case round =>
      obtain ⟨k, hk, rfl, HT, n, HW⟩ := hrel
      obtain rfl := HW.out
      clear HW
      by_cases hlt : k < l1.length
      · have hlt2 : k < l2.length := by rw [← HL.out]; exact hlt
        obtain ⟨b1, o1, hb1, hix1, hc1⟩ := h1.at (P := Try.prog) Try.underlying23 cells3 some3 hlt
        obtain ⟨b2, o2, hb2, hix2, hc2⟩ := h2.at (P := Try.prog) Try.underlying23 cells3 some3 hlt2
        have e1 := hc1 0 (by omega)
        have e2 := hc2 0 (by omega)
        simp only [eInt, List.getElem?_cons_zero, Nat.add_zero] at e1 e2
        obtain ⟨x, HX⟩ : ∃ x, Hid (l1[k] = x) := ⟨_, Lib.hid rfl⟩
        obtain ⟨y, HY⟩ : ∃ y, Hid (l2[k] = y) := ⟨_, Lib.hid rfl⟩
        rw [HX.out] at e1
        rw [HY.out] at e2
        clear hc1 hc2
        by_cases hxy : x = y
        · have hb : (x != y) = false := by simp [hxy]
          have HXY := Lib.hid hxy
          clear hxy
          go_wp2_with fail
          go_quiet (fail)
          go_wp2_with fail
          go_roundw
          case rel => exact ⟨k + 1, by omega, by go_num, Lib.hid (by rw [List.take_succ_eq_append_getElem hlt, List.take_succ_eq_append_getElem hlt2, HX.out, HY.out, HT.out, HXY.out]), _, Lib.hid rfl⟩
          case measure => simp [intOf]; omega
        · have hb : (x != y) = true := by simp [hxy]
          have HN := Lib.hid (show ¬ l1 = l2 from fun e => by subst e; exact hxy (HX.out.symm.trans HY.out))
          clear hxy
          go_wp2_with fail
          go_quiet (fail)
          go_wp2_with fail
          go_ret
          exact ⟨ret_bool (decide_eq_false HN.out).symm, _, World.drewN_drewN _ _ _⟩
      · go_wp2_with fail
        go_ret
        refine ⟨ret_bool (decide_eq_true ?_).symm, _, rfl⟩
        have := HT.out
        rwa [List.take_of_length_le (by omega), List.take_of_length_le (by rw [← HL.out]; omega)] at this
  · have hb : ((l1.length : Int) == l2.length) = false := by simpa using (fun h => hl (by omega) : ¬ (l1.length : Int) = l2.length)
    have hb2 : (l1.length == l2.length) = false := by simpa using hl
    have HN := Lib.hid (show ¬ l1 = l2 from fun e => hl (by rw [e]))
    clear hl
    go_enter Try.func18, Try.ntmps18
    go_wp2_with fail
    go_ret
    exact ⟨ret_bool (decide_eq_false HN.out).symm, 0, rfl⟩

theorem mem_take_succ {l : List Int} {k : Nat} {x : Int} (hk : k < l.length) (h : x ∉ l.take k) (hne : l[k] ≠ x) : x ∉ l.take (k + 1) := by
  rw [List.take_succ_eq_append_getElem hk, List.mem_append, List.mem_singleton]
  rintro (h1 | h1)
  · exact h h1
  · exact hne h1.symm

set_option maxHeartbeats 400000 in
theorem index_any (v : Value) (l : List Int) (x : Int) (w : World) (h : Sl eInt 1 w v l) :
    Calls Try.prog 102 #[v, .int .i64 x] w fun e w' => ∃ i : Int, e = .returned (.int .i64 i) ∧ (x ∈ l ↔ 0 ≤ i) ∧ w = w' := by
  have hlen := h.run_len (P := Try.prog) Try.underlying23
  have hmax := h.len_le
  go_enter Try.func102, Try.ntmps102
  go_wp2_with fail
  go_loop [8] (fun i => ∃ (k : Nat), k ≤ l.length ∧ i = .int .i64 k ∧ Hid (x ∉ l.take k)) (fun i => l.length - (intOf i).toNat)
  case atStart => exact ⟨0, by omega, rfl, Lib.hid (by simp)⟩
  case round =>
    obtain ⟨k, hk, rfl, HT⟩ := hrel
    by_cases hlt : k < l.length
    · obtain ⟨b1, o1, hb1, hix1, hc1⟩ := h.at (P := Try.prog) Try.underlying23 cells3 some3 hlt
      have e1 := hc1 0 (by omega)
      simp only [eInt, List.getElem?_cons_zero, Nat.add_zero] at e1
      obtain ⟨y, HY⟩ : ∃ y, Hid (l[k] = y) := ⟨_, Lib.hid rfl⟩
      rw [HY.out] at e1
      clear hc1
      by_cases hxy : x = y
      · have hb : (x == y) = true := by simp [hxy]
        have HM : Hid (x ∈ l) := Lib.hid (by rw [hxy, ← HY.out]; exact List.getElem_mem hlt)
        clear hxy
        go_wp2_with fail
        go_ret
        exact ⟨_, rfl, ⟨fun _ => by omega, fun _ => HM.out⟩, rfl⟩
      · have hb : (x == y) = false := by simp [hxy]
        have HN := Lib.hid (mem_take_succ hlt HT.out (by rw [HY.out]; exact fun e => hxy e.symm))
        clear hxy
        go_wp2_with fail
        go_round
        case rel => exact ⟨k + 1, by omega, by go_num, HN⟩
        case measure => simp [intOf]; omega
    · have HM : Hid (x ∉ l) := Lib.hid (by have := HT.out; rwa [List.take_of_length_le (by omega)] at this)
      go_wp2_with fail
      go_ret
      exact ⟨_, rfl, ⟨fun h => absurd h HM.out, fun h => by omega⟩, rfl⟩
theorem contains_any (v : Value) (l : List Int) (x : Int) (t : Bool) (ht : decide (x ∈ l) = t) (w : World) (h : Sl eInt 1 w v l) :
    Calls Try.prog 75 #[v, .int .i64 x] w fun e w' => e = .returned (.bool t) ∧ w = w' := by
  have HI := Lib.hid (index_any v l x w h)
  have HT := Lib.hid ht
  clear ht
  go_enter Try.func75, Try.ntmps75
  go_wp2_with (go_at_call 102; go_must (refine HI.out.mono ?_; rintro e w' ⟨i, rfl, hi, rfl⟩; have HZ : Hid (t = decide (0 ≤ i)) := Lib.hid (by rw [← HT.out, decide_eq_decide]; exact hi); clear hi))
  all_goals
    go_ret
    exact ⟨ret_bool (by rw [HZ.out]), rfl⟩
end Go.Proofs.Ytcpmnocknpalfaa
