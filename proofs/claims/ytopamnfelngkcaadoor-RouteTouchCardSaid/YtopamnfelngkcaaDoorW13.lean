/-
  Layer 5: the law RouteHolds. No condition besides what the arguments are.
-/
import Derived.Test.YtopamnfelngkcaaDoorP7
namespace Go.Proofs.YtopamnfelngkcaaDoor
open Go.RowKit Go.Sl Go.Route
set_option linter.unusedVariables false

theorem len_take {ps : List Wd} {k : Nat} (h : k < ps.length) (ht : ∀ p ∈ ps.take k, p.length ≤ 300) (hx : ps[k].length ≤ 300) : ∀ p ∈ ps.take (k + 1), p.length ≤ 300 := by
  intro p hp
  rw [List.take_succ_eq_append_getElem h, List.mem_append] at hp
  rcases hp with hp | hp
  · exact ht p hp
  · rw [List.mem_singleton] at hp; subst hp; exact hx

set_option maxRecDepth 100000 in
set_option maxHeartbeats 4000000 in
theorem routeHolds_any (v : Value) (ps : List Wd) (s t : Wd) (w : World) (hv : Sl eL 1 w v ps) (hp : ∀ p ∈ ps, p.length ≤ 9223372036854775807) (hs : s.length ≤ 9223372036854775807) (ht : t.length ≤ 9223372036854775807) (hm : Ml w) :
    Calls Tryd.prog 6 #[v, .string (bstr s), .string (bstr t)] w fun e w' => e = .returned (.bool true) ∧ Below w.heap.size w w' := by
  have hlen := hv.run_len (P := Tryd.prog) Tryd.underlying22
  have hpl := hv.len_le
  have HV := Lib.hid hv
  have HM := Lib.hid hm
  have HP := Lib.hid hp
  clear hm hv hp
  have HB0 : Hid (Below w.heap.size w w) := Lib.hid (Below.refl _ _)
  by_cases h1 : 300 < s.length
  · have HL := Lib.hid (long_yes w hs h1)
    go_enter Tryd.func6, Tryd.ntmps6
    go_wp2_with fail
    refine HL.out.mono ?_
    rintro e w' ⟨rfl, rfl⟩
    go_wp2_with fail
    refine (works_any w (HM.out.ext HB0.out)).mono ?_
    rintro e w9 ⟨rfl, hb⟩
    have HW9 := Lib.hid (below_then HB0.out hb)
    clear hb
    go_wp2_with fail
    go_ret
    exact ⟨rfl, HW9.out⟩
  have HL := Lib.hid (long_no w hs h1)
  by_cases h2 : 300 < t.length
  · have HL2 := Lib.hid (long_yes w ht h2)
    go_enter Tryd.func6, Tryd.ntmps6
    go_wp2_with fail
    refine HL.out.mono ?_
    rintro e w' ⟨rfl, rfl⟩
    go_wp2_with fail
    refine HL2.out.mono ?_
    rintro e w' ⟨rfl, rfl⟩
    go_wp2_with fail
    refine (works_any w (HM.out.ext HB0.out)).mono ?_
    rintro e w9 ⟨rfl, hb⟩
    have HW9 := Lib.hid (below_then HB0.out hb)
    clear hb
    go_wp2_with fail
    go_ret
    exact ⟨rfl, HW9.out⟩
  have HL2 := Lib.hid (long_no w ht h2)
  by_cases h3 : 8 < ps.length
  · have d1 : decide ((8 : Int) < ps.length) = true := decide_eq_true (by omega)
    have d1' : decide (8 < ps.length) = true := decide_eq_true (by omega)
    go_enter Tryd.func6, Tryd.ntmps6
    go_wp2_with fail
    refine HL.out.mono ?_
    rintro e w' ⟨rfl, rfl⟩
    go_wp2_with fail
    refine HL2.out.mono ?_
    rintro e w' ⟨rfl, rfl⟩
    go_wp2_with fail
    refine (works_any w (HM.out.ext HB0.out)).mono ?_
    rintro e w9 ⟨rfl, hb⟩
    have HW9 := Lib.hid (below_then HB0.out hb)
    clear hb
    go_wp2_with fail
    go_ret
    exact ⟨rfl, HW9.out⟩
  have d1 : decide ((8 : Int) < ps.length) = false := decide_eq_false (by omega)
  have d1' : decide (8 < ps.length) = false := decide_eq_false (by omega)
  go_enter Tryd.func6, Tryd.ntmps6
  go_wp2_with fail
  refine HL.out.mono ?_
  rintro e w' ⟨rfl, rfl⟩
  go_wp2_with fail
  refine HL2.out.mono ?_
  rintro e w' ⟨rfl, rfl⟩
  go_wp2_with fail
  go_loop [7] (fun i => ∃ (k : Nat), i = .int .i64 k ∧ k ≤ ps.length ∧ Hid (∀ p ∈ ps.take k, p.length ≤ 300)) (fun i => ps.length - (intOf i).toNat)
  case atStart => exact ⟨0, rfl, by omega, Lib.hid (by simp)⟩
  case round =>
    obtain ⟨k, rfl, hk, HT⟩ := hrel
    by_cases hlt : k < ps.length
    · obtain ⟨b2, o2, hb2, hix2, hc2⟩ := HV.out.at (P := Tryd.prog) Tryd.underlying22 cells9 some9 hlt
      have e1 := hc2 0 (by omega)
      simp only [eL, List.getElem?_cons_zero, Nat.add_zero] at e1
      obtain ⟨x, HX⟩ : ∃ x, Hid (ps[k] = x) := ⟨_, Lib.hid rfl⟩
      have hxl := HP.out ps[k] (List.getElem_mem hlt)
      rw [HX.out] at e1 hxl
      clear hc2
      by_cases hx : 300 < x.length
      · have HLx := Lib.hid (long_yes w hxl hx)
        go_wp2_with fail
        refine HLx.out.mono ?_
        rintro e w' ⟨rfl, rfl⟩
        go_wp2_with fail
        refine (works_any w (HM.out.ext HB0.out)).mono ?_
        rintro e w9 ⟨rfl, hb⟩
        have HW9 := Lib.hid (below_then HB0.out hb)
        clear hb
        go_wp2_with fail
        go_ret
        exact ⟨rfl, HW9.out⟩
      · have HLx := Lib.hid (long_no w hxl hx)
        have HT2 := Lib.hid (len_take hlt HT.out (by rw [HX.out]; omega))
        go_wp2_with (go_at_call 15; go_must (refine HLx.out.mono ?_; rintro e w' ⟨rfl, rfl⟩))
        go_round
        case rel => exact ⟨k + 1, by go_num, by omega, HT2⟩
        case measure => simp [intOf]; omega
    · have hall := HT.out
      rw [List.take_of_length_le (by omega)] at hall
      have HA := Lib.hid hall
      clear hall
      have hI := in_any v ps s w HV.out (by omega) HA.out (by omega) HM.out
      cases hin : inP ps s with
      | false =>
        rw [hin] at hI
        clear hin
        go_wp2_with fail
        refine hI.mono ?_
        rintro e w1 ⟨rfl, hb⟩
        have HW1 := Lib.hid hb
        clear hb hI
        go_wp2_with fail
        refine (works_any w1 (HM.out.ext HW1.out)).mono ?_
        rintro e w9 ⟨rfl, hb⟩
        have HW9 := Lib.hid (below_then HW1.out hb)
        clear hb
        go_wp2_with fail
        go_ret
        exact ⟨rfl, HW9.out⟩
      | true =>
        rw [hin] at hI
        have HIn := Lib.hid hin
        have HRs := Lib.hid (in_rgt hin)
        clear hin
        obtain ⟨J, HJ⟩ : ∃ J, Hid (jn s t = J) := ⟨_, Lib.hid rfl⟩
        have hJl : J.length ≤ 1000 := by rw [← HJ.out]; unfold jn; split; (· omega); simp only [List.length_append, List.length_cons]; omega
        obtain ⟨D, HD⟩ : ∃ D, Hid (dirOf s = D) := ⟨_, Lib.hid rfl⟩
        have hDl : D.length ≤ s.length := by rw [← HD.out]; simp only [dirOf, List.length_take]; omega
        have HAb : Hid (Above s D) := Lib.hid (by rw [← HD.out]; exact above_start HRs.out)
        go_wp2_with fail
        refine hI.mono ?_
        rintro e w1 ⟨rfl, hb⟩
        have HW1 := Lib.hid hb
        clear hb hI
        go_wp2_with fail
        refine (rjoin_any s t w1 (by omega) (by omega)).mono ?_
        rintro e w' ⟨rfl, rfl⟩
        rw [HJ.out]
        go_wp2_with fail
        have hRJ := rright_any J w1 (by omega)
        cases hrj : rgt J with
        | false =>
          rw [hrj] at hRJ
          clear hrj
          refine hRJ.mono ?_
          rintro e w3 ⟨rfl, hb⟩
          have HW3 := Lib.hid (below_then HW1.out hb)
          clear hb hRJ
          go_wp2_with fail
          refine (rdir_any s w3 (by omega)).mono ?_
          rintro e w' ⟨rfl, rfl⟩
          rw [HD.out]
          go_wp2_with fail
          go_loopw [9] (fun dv wr => ∃ d : Wd, dv = .string (bstr d) ∧ d.length ≤ s.length ∧ Hid (Above s d) ∧ Hid (Below w.heap.size w wr)) (fun dv _ => strLen dv)
          case atStart => exact ⟨D, rfl, hDl, HAb, HW3⟩
          case round =>
            obtain ⟨d, rfl, hdl, HAd, HWr⟩ := hrel
            by_cases hd : d = []
            · subst hd
              have HTc : Hid (touchB ps [] = true) := Lib.hid (in_touch HIn.out (Or.inl rfl))
              go_wp2_with fail
              refine (touch_any v ps [] wr (HV.out.ext HWr.out) (by omega) HA.out (by simp) (HM.out.ext HWr.out)).mono ?_
              rintro e w5 ⟨rfl, hb⟩
              rw [HTc.out]
              have HW5 := Lib.hid (below_then HWr.out hb)
              clear hb
              go_wp2_with fail
              refine (works_any w5 (HM.out.ext HW5.out)).mono ?_
              rintro e w9 ⟨rfl, hb⟩
              have HW9 := Lib.hid (below_then HW5.out hb)
              clear hb
              go_wp2_with fail
              go_ret
              exact ⟨rfl, HW9.out⟩
            · have HTc : Hid (touchB ps d = true) := Lib.hid (in_touch HIn.out HAd.out)
              have q1 : d.isEmpty = false := by simpa using hd
              have q2 : (d == []) = false := by simpa using hd
              obtain ⟨D2, HD2⟩ : ∃ D, Hid (dirOf d = D) := ⟨_, Lib.hid rfl⟩
              have hDl2 : D2.length < d.length := by rw [← HD2.out]; exact dir_lt hd
              have HA2 : Hid (Above s D2) := Lib.hid (by
                rw [← HD2.out]
                rcases HAd.out with h0 | ⟨hrd, v, hv⟩
                · exact absurd h0 hd
                · exact above_step hrd hv)
              go_wp2_with fail
              refine (touch_any v ps d wr (HV.out.ext HWr.out) (by omega) HA.out (by omega) (HM.out.ext HWr.out)).mono ?_
              rintro e w5 ⟨rfl, hb⟩
              rw [HTc.out]
              have HW5 := Lib.hid (below_then HWr.out hb)
              clear hb
              go_wp2_with fail
              refine (rdir_any d w5 (by omega)).mono ?_
              rintro e w' ⟨rfl, rfl⟩
              rw [HD2.out]
              go_wp2_with fail
              go_roundw
              case rel => exact ⟨D2, rfl, by omega, HA2, HW5⟩
              case measure => simp only [strLen_bstr]; omega
        | true =>
          rw [hrj] at hRJ
          have HRJ := Lib.hid hrj
          have hJ2 : J.length ≤ 120 := by
            rcases Nat.lt_or_ge 120 J.length with h | h
            · rw [rgt_over h] at hrj; cases hrj
            · exact h
          clear hrj
          have HIJ : Hid (inP ps J = true) := Lib.hid (by rw [← HJ.out]; exact in_more HIn.out (by rw [HJ.out]; exact HRJ.out))
          refine hRJ.mono ?_
          rintro e w2 ⟨rfl, hb⟩
          have HW2 := Lib.hid (below_then HW1.out hb)
          clear hb hRJ
          go_wp2_with fail
          refine (in_any v ps J w2 (HV.out.ext HW2.out) (by omega) HA.out (by omega) (HM.out.ext HW2.out)).mono ?_
          rintro e w3 ⟨rfl, hb⟩
          rw [HIJ.out]
          have HW3 := Lib.hid (below_then HW2.out hb)
          clear hb
          go_wp2_with fail
          refine (rdir_any s w3 (by omega)).mono ?_
          rintro e w' ⟨rfl, rfl⟩
          rw [HD.out]
          go_wp2_with fail
          go_loopw [9] (fun dv wr => ∃ d : Wd, dv = .string (bstr d) ∧ d.length ≤ s.length ∧ Hid (Above s d) ∧ Hid (Below w.heap.size w wr)) (fun dv _ => strLen dv)
          case atStart => exact ⟨D, rfl, hDl, HAb, HW3⟩
          case round =>
            obtain ⟨d, rfl, hdl, HAd, HWr⟩ := hrel
            by_cases hd : d = []
            · subst hd
              have HTc : Hid (touchB ps [] = true) := Lib.hid (in_touch HIn.out (Or.inl rfl))
              go_wp2_with fail
              refine (touch_any v ps [] wr (HV.out.ext HWr.out) (by omega) HA.out (by simp) (HM.out.ext HWr.out)).mono ?_
              rintro e w5 ⟨rfl, hb⟩
              rw [HTc.out]
              have HW5 := Lib.hid (below_then HWr.out hb)
              clear hb
              go_wp2_with fail
              refine (works_any w5 (HM.out.ext HW5.out)).mono ?_
              rintro e w9 ⟨rfl, hb⟩
              have HW9 := Lib.hid (below_then HW5.out hb)
              clear hb
              go_wp2_with fail
              go_ret
              exact ⟨rfl, HW9.out⟩
            · have HTc : Hid (touchB ps d = true) := Lib.hid (in_touch HIn.out HAd.out)
              have q1 : d.isEmpty = false := by simpa using hd
              have q2 : (d == []) = false := by simpa using hd
              obtain ⟨D2, HD2⟩ : ∃ D, Hid (dirOf d = D) := ⟨_, Lib.hid rfl⟩
              have hDl2 : D2.length < d.length := by rw [← HD2.out]; exact dir_lt hd
              have HA2 : Hid (Above s D2) := Lib.hid (by
                rw [← HD2.out]
                rcases HAd.out with h0 | ⟨hrd, v, hv⟩
                · exact absurd h0 hd
                · exact above_step hrd hv)
              go_wp2_with fail
              refine (touch_any v ps d wr (HV.out.ext HWr.out) (by omega) HA.out (by omega) (HM.out.ext HWr.out)).mono ?_
              rintro e w5 ⟨rfl, hb⟩
              rw [HTc.out]
              have HW5 := Lib.hid (below_then HWr.out hb)
              clear hb
              go_wp2_with fail
              refine (rdir_any d w5 (by omega)).mono ?_
              rintro e w' ⟨rfl, rfl⟩
              rw [HD2.out]
              go_wp2_with fail
              go_roundw
              case rel => exact ⟨D2, rfl, by omega, HA2, HW5⟩
              case measure => simp only [strLen_bstr]; omega
end Go.Proofs.YtopamnfelngkcaaDoor
