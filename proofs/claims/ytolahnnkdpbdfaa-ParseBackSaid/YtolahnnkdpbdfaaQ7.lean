/-
  Walks of layer 27: Same, the law's. No condition.
-/
import Derived.Test.YtolahnnkdpbdfaaQ6

namespace Go.Proofs.Ytolahnnkdpbdfaa
open Go.RowKit Go.Sl

theorem cells38 : Try.prog.cellsOf 38 = 3 := by kernel_rfl
theorem some38 : (Try.prog.info? 38).isSome = true := by kernel_rfl
theorem int_is {a b : Nat} (h : a = b) : ((a : Int) == (b : Int)) = true := by simp [h]
theorem int_not {a b : Nat} (h : a ≠ b) : ((a : Int) == (b : Int)) = false := by rw [beq_eq_false_iff_ne]; omega

set_option maxRecDepth 100000 in
set_option maxHeartbeats 2000000 in
theorem same_any (v1 v2 : Value) (l1 l2 : List Lex.Tok) (w : World) (h1 : Sl eTok 3 w v1 l1) (h2 : Sl eTok 3 w v2 l2) :
    Calls Try.prog 15 #[v1, v2] w fun e w' => e = .returned (.bool (decide (l1 = l2))) ∧ ∃ n, w' = w.drewN n := by
  have hlen1 := h1.run_len (P := Try.prog) Try.underlying23
  have hlen2 := h2.run_len (P := Try.prog) Try.underlying27
  have hmax := h1.len_le
  have hmax2 := h2.len_le
  by_cases hl : l1.length = l2.length
  · rw [← hl] at hlen2
    have HL := Lib.hid hl
    clear hl hmax2
    go_enter Try.func15, Try.ntmps15
    go_wp2_with fail
    go_loopw [5] (fun i wr => ∃ (k : Nat), k ≤ l1.length ∧ i = .int .i64 k ∧ Hid (l1.take k = l2.take k) ∧ ∃ n, Hid (wr = w.drewN n)) (fun i _ => l1.length - (intOf i).toNat)
    case atStart => exact ⟨0, by omega, rfl, Lib.hid rfl, 0, Lib.hid rfl⟩
    case round =>
      obtain ⟨k, hk, rfl, HT, n, HW⟩ := hrel
      obtain rfl := HW.out
      clear HW
      by_cases hlt : k < l1.length
      · have hlt2 : k < l2.length := by rw [← HL.out]; exact hlt
        obtain ⟨b1, o1, hb1, hix1, hc1⟩ := h1.at (P := Try.prog) Try.underlying23 cells33 some33 hlt
        obtain ⟨b2, o2, hb2, hix2, hc2⟩ := h2.at (P := Try.prog) Try.underlying27 cells38 some38 hlt2
        have e10 := hc1 0 (by omega)
        have e11 := hc1 1 (by omega)
        have e12 := hc1 2 (by omega)
        have e20 := hc2 0 (by omega)
        have e21 := hc2 1 (by omega)
        have e22 := hc2 2 (by omega)
        obtain ⟨⟨k1, s1, p1⟩, HX⟩ : ∃ x, Hid (l1[k] = x) := ⟨_, Lib.hid rfl⟩
        obtain ⟨⟨k2, s2, p2⟩, HY⟩ : ∃ y, Hid (l2[k] = y) := ⟨_, Lib.hid rfl⟩
        rw [HX.out] at e10 e11 e12
        rw [HY.out] at e20 e21 e22
        simp only [eTok, List.getElem?_cons_zero, List.getElem?_cons_succ, Nat.add_zero] at e10 e11 e12 e20 e21 e22
        clear hc1 hc2
        have HNE : Hid (¬ ((k1, s1, p1) = (k2, s2, p2)) → ¬ l1 = l2) := Lib.hid fun hn e => by subst e; exact hn (HX.out.symm.trans HY.out)
        by_cases hk12 : k1 = k2
        · have d0 : ((k1 : Int) != (k2 : Int)) = false := by rw [bne, int_is hk12]; rfl
          by_cases hs12 : s1 = s2
          · have d1 : (s1 == s2) = true := beq_iff_eq.2 hs12
            by_cases hp12 : p1 = p2
            · have d2 : ((p1 : Int) != (p2 : Int)) = false := by rw [bne, int_is hp12]; rfl
              have HZ : Hid (l1.take (k + 1) = l2.take (k + 1)) := Lib.hid (by rw [List.take_succ_eq_append_getElem hlt, List.take_succ_eq_append_getElem hlt2, HX.out, HY.out, HT.out, hk12, hs12, hp12])
              clear hk12 hs12 hp12
              go_wp2_with fail
              go_quiet (fail)
              go_wp2_with fail
              go_roundw
              case rel => exact ⟨k + 1, by omega, by go_num, HZ, _, Lib.hid rfl⟩
              case measure => simp [intOf]; omega
            · have d2 : ((p1 : Int) != (p2 : Int)) = true := by rw [bne, int_not hp12]; rfl
              have HN := Lib.hid (HNE.out (by simp [hp12]))
              clear hk12 hs12 hp12
              go_wp2_with fail
              go_quiet (fail)
              go_wp2_with fail
              go_ret
              exact ⟨ret_bool (decide_eq_false HN.out).symm, _, World.drewN_drewN _ _ _⟩
          · have d1 : (s1 == s2) = false := beq_eq_false_iff_ne.2 hs12
            have HN := Lib.hid (HNE.out (by simp [hs12]))
            clear hk12 hs12
            go_wp2_with fail
            go_quiet (fail)
            go_wp2_with fail
            go_ret
            exact ⟨ret_bool (decide_eq_false HN.out).symm, _, World.drewN_drewN _ _ _⟩
        · have d0 : ((k1 : Int) != (k2 : Int)) = true := by rw [bne, int_not hk12]; rfl
          have HN := Lib.hid (HNE.out (by simp [hk12]))
          clear hk12
          go_wp2_with fail
          go_quiet (fail)
          go_wp2_with fail
          go_ret
          exact ⟨ret_bool (decide_eq_false HN.out).symm, _, World.drewN_drewN _ _ _⟩
      · go_wp2_with fail
        go_ret
        refine ⟨ret_bool (decide_eq_true ?_).symm, _, rfl⟩
        have := HT.out
        rwa [List.take_of_length_le (by omega), List.take_of_length_le (by rw [← HL.out]; omega)] at this
  · have hb : ((l1.length : Int) == l2.length) = false := by simpa using (fun h => hl (by omega) : ¬ (l1.length : Int) = l2.length)
    have hb2 : (l1.length == l2.length) = false := by simpa using hl
    have HN := Lib.hid (show ¬ l1 = l2 from fun e => hl (by rw [e]))
    clear hl
    go_enter Try.func15, Try.ntmps15
    go_wp2_with fail
    go_ret
    exact ⟨ret_bool (decide_eq_false HN.out).symm, 0, rfl⟩
end Go.Proofs.Ytolahnnkdpbdfaa
