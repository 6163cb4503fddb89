/-
  Layer 5: the document's Touch; the law RouteTouch. No condition besides what the arguments are.
-/
import Derived.Test.YtopamnfelngkcaaDoorW19
namespace Go.Proofs.YtopamnfelngkcaaDoor
open Go.RowKit Go.Sl Go.Route
set_option linter.unusedVariables false

set_option maxRecDepth 100000 in
set_option maxHeartbeats 2000000 in
theorem rtouch_any (v : Value) (ps : List Wd) (s : Wd) (w : World) (hv : Sl eL 1 w v ps) (hn : ps.length ≤ 100) (hp : ∀ p ∈ ps, p.length ≤ 300) (hs : s.length ≤ 300) :
    Calls Tryd.prog 19 #[v, .string (bstr s)] w fun e w' => e = .returned (.bool (touchB ps s)) ∧ Below w.heap.size w w' := by
  have hlen := hv.run_len (P := Tryd.prog) Tryd.underlying22
  have HV := Lib.hid hv
  have HL := Lib.hid hp
  clear hv hp
  go_enter Tryd.func19, Tryd.ntmps19
  go_wp2_with fail
  go_loopw [5] (fun i wr => ∃ (k : Nat), i = .int .i64 k ∧ k ≤ ps.length ∧ Hid ((ps.take k).any (fun p => tch p s) = false) ∧ Hid (Below w.heap.size w wr)) (fun i _ => ps.length - (intOf i).toNat)
  case atStart => exact ⟨0, rfl, by omega, Lib.hid rfl, Lib.hid (Below.refl _ _)⟩
  case round =>
    obtain ⟨k, rfl, hk, HT, HW⟩ := hrel
    by_cases hlt : k < ps.length
    · obtain ⟨b2, o2, hb2, hix2, hc2⟩ := HV.out.atB HW.out (P := Tryd.prog) Tryd.underlying22 cells9 some9 hlt
      have e1 := hc2 0 (by omega)
      simp only [eL, List.getElem?_cons_zero, Nat.add_zero] at e1
      have HI : Hid (touchB ps s = ps.any fun p => tch p s) := Lib.hid (if_neg (fun e => by subst e; simp at hlt))
      obtain ⟨x, HX⟩ : ∃ x, Hid (ps[k] = x) := ⟨_, Lib.hid rfl⟩
      have hxl := HL.out ps[k] (List.getElem_mem hlt)
      rw [HX.out] at e1 hxl
      have hF := rtouches_any x s wr hxl hs
      clear hc2
      cases hf : tch x s with
      | true =>
        rw [hf] at hF
        have HF := Lib.hid hF
        have HZ : Hid (true = touchB ps s) := Lib.hid (by rw [HI.out, any_yes hlt (by rw [HX.out]; exact hf)])
        clear hf hF
        go_wp2_with (go_at_call 66; go_must (refine HF.out.mono ?_; rintro e w1 ⟨rfl, hb⟩; have HB := Lib.hid (below_then HW.out hb); clear hb))
        go_ret
        exact ⟨ret_bool HZ.out, HB.out⟩
      | false =>
        rw [hf] at hF
        have HF := Lib.hid hF
        have HT2 := Lib.hid (any_take hlt HT.out (by rw [HX.out]; exact hf))
        clear hf hF
        go_wp2_with (go_at_call 66; go_must (refine HF.out.mono ?_; rintro e w1 ⟨rfl, hb⟩; have HB := Lib.hid (below_then HW.out hb); clear hb))
        go_roundw
        case rel => exact ⟨k + 1, by go_num, by omega, HT2, HB⟩
        case measure => simp [intOf]; omega
    · by_cases h0 : ps = []
      · have HZ : Hid (true = touchB ps s) := Lib.hid (if_pos h0).symm
        have q1 : ((ps.length : Int) == 0) = true := by rw [h0]; rfl
        have q2 : (ps.length == 0) = true := by rw [h0]; rfl
        go_wp2_with fail
        go_ret
        exact ⟨ret_bool HZ.out, HW.out⟩
      · have HZ : Hid (false = touchB ps s) := Lib.hid (by have := HT.out; rw [List.take_of_length_le (by omega)] at this; rw [touchB, if_neg h0, this])
        have hl0 : ps.length ≠ 0 := fun e => h0 (List.eq_nil_of_length_eq_zero e)
        have q1 : ((ps.length : Int) == 0) = false := by rw [beq_eq_false_iff_ne]; omega
        have q2 : (ps.length == 0) = false := by rw [beq_eq_false_iff_ne]; omega
        go_wp2_with fail
        go_ret
        exact ⟨ret_bool HZ.out, HW.out⟩

set_option maxRecDepth 100000 in
set_option maxHeartbeats 4000000 in
theorem routeTouch_any (v : Value) (ps : List Wd) (s : Wd) (w : World) (hv : Sl eL 1 w v ps) (hp : ∀ p ∈ ps, p.length ≤ 9223372036854775807) (hs : s.length ≤ 9223372036854775807) (hm : Ml w) :
    Calls Tryd.prog 3 #[v, .string (bstr s)] w fun e w' => e = .returned (.bool true) ∧ Below w.heap.size w w' := by
  have hlen := hv.run_len (P := Tryd.prog) Tryd.underlying22
  have hpl := hv.len_le
  have HV := Lib.hid hv
  have HM := Lib.hid hm
  have HP := Lib.hid hp
  clear hm hv hp
  by_cases h1 : 300 < s.length
  · have HL := Lib.hid (long_yes w hs h1)
    go_enter Tryd.func3, Tryd.ntmps3
    go_wp2_with fail
    refine HL.out.mono ?_
    rintro e w' ⟨rfl, rfl⟩
    go_wp2_with fail
    refine (works_any w HM.out).mono ?_
    rintro e w9 ⟨rfl, hb⟩
    have HW9 := Lib.hid hb
    clear hb
    go_wp2_with fail
    go_ret
    exact ⟨rfl, HW9.out⟩
  have HL := Lib.hid (long_no w hs h1)
  by_cases h3 : 8 < ps.length
  · have d1 : decide ((8 : Int) < ps.length) = true := decide_eq_true (by omega)
    have d1' : decide (8 < ps.length) = true := decide_eq_true (by omega)
    go_enter Tryd.func3, Tryd.ntmps3
    go_wp2_with fail
    refine HL.out.mono ?_
    rintro e w' ⟨rfl, rfl⟩
    go_wp2_with fail
    refine (works_any w HM.out).mono ?_
    rintro e w9 ⟨rfl, hb⟩
    have HW9 := Lib.hid hb
    clear hb
    go_wp2_with fail
    go_ret
    exact ⟨rfl, HW9.out⟩
  have d1 : decide ((8 : Int) < ps.length) = false := decide_eq_false (by omega)
  have d1' : decide (8 < ps.length) = false := decide_eq_false (by omega)
  obtain ⟨n, HN⟩ : ∃ n, Hid ((parts s).length = n) := ⟨_, Lib.hid rfl⟩
  by_cases h4 : 8 < n
  · have d2 : decide ((8 : Int) < n) = true := decide_eq_true (by omega)
    have d2' : decide (8 < n) = true := decide_eq_true (by omega)
    go_enter Tryd.func3, Tryd.ntmps3
    go_wp2_with fail
    refine HL.out.mono ?_
    rintro e w' ⟨rfl, rfl⟩
    go_wp2_with fail
    refine (rparts_any s w (by omega)).mono ?_
    rintro e w1 ⟨dv, rfl, hs1, hb⟩
    have hlen1 := hs1.run_len (P := Tryd.prog) Tryd.underlying22
    have HW1 := Lib.hid hb
    clear hs1 hb
    rw [HN.out] at hlen1
    go_wp2_with fail
    refine (works_any w1 (HM.out.ext HW1.out)).mono ?_
    rintro e w9 ⟨rfl, hb⟩
    have HW9 := Lib.hid (below_then HW1.out hb)
    clear hb
    go_wp2_with fail
    go_ret
    exact ⟨rfl, HW9.out⟩
  have d2 : decide ((8 : Int) < n) = false := decide_eq_false (by omega)
  have d2' : decide (8 < n) = false := decide_eq_false (by omega)
  go_enter Tryd.func3, Tryd.ntmps3
  go_wp2_with fail
  refine HL.out.mono ?_
  rintro e w' ⟨rfl, rfl⟩
  go_wp2_with fail
  refine (rparts_any s w (by omega)).mono ?_
  rintro e w1 ⟨dv, rfl, hs1, hb⟩
  have hlen1 := hs1.run_len (P := Tryd.prog) Tryd.underlying22
  have HW1 := Lib.hid hb
  clear hs1 hb
  rw [HN.out] at hlen1
  go_wp2_with fail
  go_loopw [5] (fun i wr => ∃ (k : Nat), i = .int .i64 k ∧ k ≤ ps.length ∧ Hid (∀ p ∈ ps.take k, p.length ≤ 300) ∧ Hid (Below w.heap.size w wr)) (fun i _ => ps.length - (intOf i).toNat)
  case atStart => exact ⟨0, rfl, by omega, Lib.hid (by simp), HW1⟩
  case round =>
    obtain ⟨k, rfl, hk, HT, HW⟩ := hrel
    by_cases hlt : k < ps.length
    · obtain ⟨b2, o2, hb2, hix2, hc2⟩ := HV.out.atB HW.out (P := Tryd.prog) Tryd.underlying22 cells9 some9 hlt
      have e1 := hc2 0 (by omega)
      simp only [eL, List.getElem?_cons_zero, Nat.add_zero] at e1
      obtain ⟨x, HX⟩ : ∃ x, Hid (ps[k] = x) := ⟨_, Lib.hid rfl⟩
      have hxl := HP.out ps[k] (List.getElem_mem hlt)
      rw [HX.out] at e1 hxl
      clear hc2
      have hb2r : b2 < wr.heap.size := by have := HW.out.size; omega
      by_cases hx : 300 < x.length
      · have HLx := Lib.hid (long_yes wr hxl hx)
        go_wp2_with fail
        refine HLx.out.mono ?_
        rintro e w' ⟨rfl, rfl⟩
        go_wp2_with fail
        refine (works_any wr (HM.out.ext HW.out)).mono ?_
        rintro e w9 ⟨rfl, hb⟩
        have HW9 := Lib.hid (below_then HW.out hb)
        clear hb
        go_wp2_with fail
        go_ret
        exact ⟨rfl, HW9.out⟩
      · have HLx := Lib.hid (long_no wr hxl hx)
        have HT2 := Lib.hid (len_take hlt HT.out (by rw [HX.out]; omega))
        go_wp2_with fail
        refine HLx.out.mono ?_
        rintro e w' ⟨rfl, rfl⟩
        go_wp2_with fail
        go_roundw
        case rel => exact ⟨k + 1, by go_num, by omega, HT2, HW⟩
        case measure => simp [intOf]; omega
    · have hall := HT.out
      rw [List.take_of_length_le (by omega)] at hall
      have HA := Lib.hid hall
      clear hall
      obtain ⟨I, HI⟩ : ∃ I, Hid (touchB ps s = I) := ⟨_, Lib.hid rfl⟩
      have b1 : (I == I) = true := by simp
      go_wp2_with fail
      refine (touch_any v ps s wr (HV.out.ext HW.out) (by omega) HA.out (by omega) (HM.out.ext HW.out)).mono ?_
      rintro e wa ⟨rfl, hb⟩
      rw [HI.out]
      have HWa := Lib.hid (below_then HW.out hb)
      clear hb
      go_wp2_with fail
      refine (rtouch_any v ps s wa (HV.out.ext HWa.out) (by omega) HA.out (by omega)).mono ?_
      rintro e w2 ⟨rfl, hb⟩
      rw [HI.out]
      have HW2 := Lib.hid (below_then HWa.out hb)
      clear hb
      go_wp2_with fail
      refine (works_any w2 (HM.out.ext HW2.out)).mono ?_
      rintro e w9 ⟨rfl, hb⟩
      have HW9 := Lib.hid (below_then HW2.out hb)
      clear hb
      go_wp2_with fail
      go_ret
      exact ⟨rfl, HW9.out⟩
end Go.Proofs.YtopamnfelngkcaaDoor
