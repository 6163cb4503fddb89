/-
  Walks of layer 21: works, the reference's Check, Same, SameHunks. No condition.
-/
import Derived.Test.YtdlmdjhnigbfpaaW3
import Derived.StillTailTactics
namespace Go.Proofs.Ytdlmdjhnigbfpaa
open Go.RowKit Go.Sl Go.Scr

theorem cells69 : Try.prog.cellsOf 69 = 4 := by kernel_rfl
theorem some69 : (Try.prog.info? 69).isSome = true := by kernel_rfl

theorem hunks33 : hunks 3 3 [(0, 0), (2, 2)] = [(1, 1, 1, 1)] := by decide +kernel

set_option maxHeartbeats 400000 in
theorem works_any (w : World) : Calls Try.prog 8 #[] w fun e w' => e = .returned (.bool true) ∧ Below w.heap.size w w' := by
  have hs : ∀ u : World, Sl ePair 2 (u.alloc (.cells #[.int .i64 0, .int .i64 0, .int .i64 2, .int .i64 2] 31)) (.slice (some ⟨u.heap.size, 0, none⟩) 2 2) [(0, 0), (2, 2)] := fun u => Sl.fresh len_ePair rfl rfl rfl (by simp [maxLen])
  have hh := hunks_any 3 3 _ _ _ (hs w) (by decide +kernel)
  rw [hunks33] at hh
  have HH := Lib.hid hh
  clear hh hs
  go_enter Try.func8, Try.ntmps8
  go_wp2_with (go_at_call 13; go_must (refine HH.out.mono ?_; rintro e w1 ⟨r, rfl, hown, hb⟩; have HB := Lib.hid hb; have hs := hown.sl len_eHunk; have hlen := hs.run_len (P := Try.prog) Try.underlying33; obtain ⟨b0, o0, hb0, hix, hc⟩ := hs.at (P := Try.prog) Try.underlying33 cells69 some69 (k := 0) (by simp); have hc0 := hc 0 (by omega); have hc1 := hc 1 (by omega); have hc2 := hc 2 (by omega); have hc3 := hc 3 (by omega); simp only [eHunk, List.getElem_cons_zero, List.getElem?_cons_zero, List.getElem?_cons_succ, Nat.add_zero] at hc0 hc1 hc2 hc3; simp only [List.length_cons, List.length_nil] at hlen; have hix' : ∀ u, (Instr.indexAt 33 r (.int .i64 0)).run Try.prog u = .ok (.pointer (some ⟨b0, o0, none⟩)) u := fun u => hix .i64 u; clear hc hs hown hb hix))
  go_ret
  exact ⟨rfl, ((Below.refl _ _).alloc (Nat.le_refl _) _).trans (HB.out.mono (by simp))⟩

theorem below_drewN' (B : Nat) (w : World) (n : Nat) : Below B w (w.drewN n) := ⟨rfl, rfl, rfl, Nat.le_refl _, fun _ _ => rfl⟩

set_option maxHeartbeats 400000 in
theorem same_any (v1 v2 : Value) (l1 l2 : List (Int × Int)) (w : World) (h1 : Sl ePair 2 w v1 l1) (h2 : Sl ePair 2 w v2 l2) (hl : l1.length = l2.length) :
    Calls Try.prog 18 #[v1, v2] w fun e w' => e = .returned (.bool (decide (l1 = l2))) ∧ Below w.heap.size w w' := by
  have hlen1 := h1.run_len (P := Try.prog) Try.underlying23
  have hlen2 := h2.run_len (P := Try.prog) Try.underlying23
  have hmax := h1.len_le
  rw [← hl] at hlen2
  have HL := Lib.hid hl
  clear hl
  go_enter Try.func18, Try.ntmps18
  go_wp2_with fail
  go_loopw [5] (fun i wr => ∃ (k : Nat), k ≤ l1.length ∧ i = .int .i64 k ∧ Hid (l1.take k = l2.take k) ∧ Hid (Below w.heap.size w wr)) (fun i _ => l1.length - (intOf i).toNat)
  case atStart => exact ⟨0, by omega, rfl, Lib.hid rfl, Lib.hid (Below.refl _ _)⟩
  case round =>
    obtain ⟨k, hk, rfl, HT, HB⟩ := hrel
    by_cases hlt : k < l1.length
    · have hlt2 : k < l2.length := by rw [← HL.out]; exact hlt
      obtain ⟨b1, o1, hb1, hix1, hc1⟩ := (h1.ext HB.out).at (P := Try.prog) Try.underlying23 cells31 some31 hlt
      obtain ⟨b2, o2, hb2, hix2, hc2⟩ := (h2.ext HB.out).at (P := Try.prog) Try.underlying23 cells31 some31 hlt2
      obtain ⟨x, y, hxy⟩ : ∃ x y, l1[k] = (x, y) := ⟨_, _, rfl⟩
      obtain ⟨x', y', hxy'⟩ : ∃ x y, l2[k] = (x, y) := ⟨_, _, rfl⟩
      rw [hxy] at hc1
      rw [hxy'] at hc2
      have e1 := hc1 0 (by omega)
      have e2 := hc1 1 (by omega)
      have e3 := hc2 0 (by omega)
      have e4 := hc2 1 (by omega)
      simp only [ePair, List.getElem?_cons_zero, List.getElem?_cons_succ, Nat.add_zero] at e1 e2 e3 e4
      have HX := Lib.hid hxy
      have HX' := Lib.hid hxy'
      clear hxy hxy' hc1 hc2
      by_cases hx : x = x'
      · subst hx
        by_cases hy : y = y'
        · subst hy
          go_wp2_with fail
          go_quiet (fail)
          go_wp2_with fail
          go_roundw
          case rel => exact ⟨k + 1, by omega, by go_num, Lib.hid (by rw [List.take_succ_eq_append_getElem hlt, List.take_succ_eq_append_getElem hlt2, HX.out, HX'.out, HT.out]), Lib.hid (HB.out.trans (below_drewN' _ _ _))⟩
          case measure => simp [intOf]; omega
        · have HN := Lib.hid (show ¬ l1 = l2 from fun e => by subst e; rw [HX.out] at HX'; exact hy (Prod.mk.inj HX'.out).2)
          go_wp2_with fail
          go_quiet (fail)
          go_wp2_with fail
          go_ret
          exact ⟨ret_bool (decide_eq_false HN.out).symm, HB.out.trans (below_drewN' _ _ _)⟩
      · have HN := Lib.hid (show ¬ l1 = l2 from fun e => by subst e; rw [HX.out] at HX'; exact hx (Prod.mk.inj HX'.out).1)
        go_wp2_with fail
        go_quiet (fail)
        go_wp2_with fail
        go_ret
        exact ⟨ret_bool (decide_eq_false HN.out).symm, HB.out.trans (below_drewN' _ _ _)⟩
    · go_wp2_with fail
      go_ret
      refine ⟨ret_bool (decide_eq_true ?_).symm, HB.out⟩
      have := HT.out
      rwa [List.take_of_length_le (by omega), List.take_of_length_le (by rw [← HL.out]; omega)] at this
set_option maxHeartbeats 400000 in
theorem samehunks_any (v1 v2 : Value) (l1 l2 : List (Int × Int × Int × Int)) (w : World) (h1 : Sl eHunk 4 w v1 l1) (h2 : Sl eHunk 4 w v2 l2) (hl : l1.length = l2.length) :
    Calls Try.prog 14 #[v1, v2] w fun e w' => e = .returned (.bool (decide (l1 = l2))) ∧ Below w.heap.size w w' := by
  have hlen1 := h1.run_len (P := Try.prog) Try.underlying33
  have hlen2 := h2.run_len (P := Try.prog) Try.underlying33
  have hmax := h1.len_le
  rw [← hl] at hlen2
  have HL := Lib.hid hl
  clear hl
  go_enter Try.func14, Try.ntmps14
  go_wp2_with fail
  go_loopw [5] (fun i wr => ∃ (k : Nat), k ≤ l1.length ∧ i = .int .i64 k ∧ Hid (l1.take k = l2.take k) ∧ Hid (Below w.heap.size w wr)) (fun i _ => l1.length - (intOf i).toNat)
  case atStart => exact ⟨0, by omega, rfl, Lib.hid rfl, Lib.hid (Below.refl _ _)⟩
  case round =>
    obtain ⟨k, hk, rfl, HT, HB⟩ := hrel
    by_cases hlt : k < l1.length
    · have hlt2 : k < l2.length := by rw [← HL.out]; exact hlt
      obtain ⟨b1, o1, hb1, hix1, hc1⟩ := (h1.ext HB.out).at (P := Try.prog) Try.underlying33 cells69 some69 hlt
      obtain ⟨b2, o2, hb2, hix2, hc2⟩ := (h2.ext HB.out).at (P := Try.prog) Try.underlying33 cells69 some69 hlt2
      obtain ⟨x, y, z, u, hxy⟩ : ∃ x y z u, l1[k] = (x, y, z, u) := ⟨_, _, _, _, rfl⟩
      obtain ⟨x', y', z', u', hxy'⟩ : ∃ x y z u, l2[k] = (x, y, z, u) := ⟨_, _, _, _, rfl⟩
      rw [hxy] at hc1
      rw [hxy'] at hc2
      have e1 := hc1 0 (by omega)
      have e2 := hc1 1 (by omega)
      have e3 := hc2 0 (by omega)
      have e4 := hc2 1 (by omega)
      have e5 := hc1 2 (by omega)
      have e6 := hc1 3 (by omega)
      have e7 := hc2 2 (by omega)
      have e8 := hc2 3 (by omega)
      simp only [eHunk, List.getElem?_cons_zero, List.getElem?_cons_succ, Nat.add_zero] at e1 e2 e3 e4 e5 e6 e7 e8
      have HX := Lib.hid hxy
      have HX' := Lib.hid hxy'
      clear hxy hxy' hc1 hc2
      by_cases hx : x = x'
      · subst hx
        by_cases hy : y = y'
        · subst hy
          by_cases hz : z = z'
          · subst hz
            by_cases hu : u = u'
            · subst hu
              go_wp2_with fail
              go_quiet (fail)
              go_wp2_with fail
              go_roundw
              case rel => exact ⟨k + 1, by omega, by go_num, Lib.hid (by rw [List.take_succ_eq_append_getElem hlt, List.take_succ_eq_append_getElem hlt2, HX.out, HX'.out, HT.out]), Lib.hid (HB.out.trans (below_drewN' _ _ _))⟩
              case measure => simp [intOf]; omega
            · have HN := Lib.hid (show ¬ l1 = l2 from fun e => by subst e; rw [HX.out] at HX'; have := HX'.out; simp only [Prod.mk.injEq] at this; omega)
              go_wp2_with fail
              go_quiet (fail)
              go_wp2_with fail
              go_ret
              exact ⟨ret_bool (decide_eq_false HN.out).symm, HB.out.trans (below_drewN' _ _ _)⟩
          · have HN := Lib.hid (show ¬ l1 = l2 from fun e => by subst e; rw [HX.out] at HX'; have := HX'.out; simp only [Prod.mk.injEq] at this; omega)
            go_wp2_with fail
            go_quiet (fail)
            go_wp2_with fail
            go_ret
            exact ⟨ret_bool (decide_eq_false HN.out).symm, HB.out.trans (below_drewN' _ _ _)⟩
        · have HN := Lib.hid (show ¬ l1 = l2 from fun e => by subst e; rw [HX.out] at HX'; have := HX'.out; simp only [Prod.mk.injEq] at this; omega)
          go_wp2_with fail
          go_quiet (fail)
          go_wp2_with fail
          go_ret
          exact ⟨ret_bool (decide_eq_false HN.out).symm, HB.out.trans (below_drewN' _ _ _)⟩
      · have HN := Lib.hid (show ¬ l1 = l2 from fun e => by subst e; rw [HX.out] at HX'; have := HX'.out; simp only [Prod.mk.injEq] at this; omega)
        go_wp2_with fail
        go_quiet (fail)
        go_wp2_with fail
        go_ret
        exact ⟨ret_bool (decide_eq_false HN.out).symm, HB.out.trans (below_drewN' _ _ _)⟩
    · go_wp2_with fail
      go_ret
      refine ⟨ret_bool (decide_eq_true ?_).symm, HB.out⟩
      have := HT.out
      rwa [List.take_of_length_le (by omega), List.take_of_length_le (by rw [← HL.out]; omega)] at this
end Go.Proofs.Ytdlmdjhnigbfpaa
