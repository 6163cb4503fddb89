/-
  Layer 5: the document's In; the law RouteFits. No condition besides what the arguments are.
-/
import Derived.Test.YtopamnfelngkcaaDoorW17
import Derived.Test.YtopamnfelngkcaaDoorW13
namespace Go.Proofs.YtopamnfelngkcaaDoor
open Go.RowKit Go.Sl Go.Route
set_option linter.unusedVariables false

set_option maxRecDepth 100000 in
set_option maxHeartbeats 2000000 in
theorem rin_any (v : Value) (ps : List Wd) (s : Wd) (w : World) (hv : Sl eL 1 w v ps) (hn : ps.length ≤ 100) (hp : ∀ p ∈ ps, p.length ≤ 300) (hs : s.length ≤ 300) :
    Calls Tryd.prog 33 #[v, .string (bstr s)] w fun e w' => e = .returned (.bool (inP ps s)) ∧ Below w.heap.size w w' := by
  have hlen := hv.run_len (P := Tryd.prog) Tryd.underlying22
  have HV := Lib.hid hv
  have HL := Lib.hid hp
  clear hv hp
  go_enter Tryd.func33, Tryd.ntmps33
  go_wp2_with fail
  go_loopw [5] (fun i wr => ∃ (k : Nat), i = .int .i64 k ∧ k ≤ ps.length ∧ Hid ((ps.take k).any (fun p => fits p s) = false) ∧ Hid (Below w.heap.size w wr)) (fun i _ => ps.length - (intOf i).toNat)
  case atStart => exact ⟨0, rfl, by omega, Lib.hid rfl, Lib.hid (Below.refl _ _)⟩
  case round =>
    obtain ⟨k, rfl, hk, HT, HW⟩ := hrel
    by_cases hlt : k < ps.length
    · obtain ⟨b2, o2, hb2, hix2, hc2⟩ := HV.out.atB HW.out (P := Tryd.prog) Tryd.underlying22 cells9 some9 hlt
      have e1 := hc2 0 (by omega)
      simp only [eL, List.getElem?_cons_zero, Nat.add_zero] at e1
      have HI : Hid (inP ps s = ps.any fun p => fits p s) := Lib.hid (if_neg (fun e => by subst e; simp at hlt))
      obtain ⟨x, HX⟩ : ∃ x, Hid (ps[k] = x) := ⟨_, Lib.hid rfl⟩
      have hxl := HL.out ps[k] (List.getElem_mem hlt)
      rw [HX.out] at e1 hxl
      have hF := rfits_any x s wr hxl hs
      clear hc2
      cases hf : fits x s with
      | true =>
        rw [hf] at hF
        have HF := Lib.hid hF
        have HZ : Hid (true = inP ps s) := Lib.hid (by rw [HI.out, any_yes hlt (by rw [HX.out]; exact hf)])
        clear hf hF
        go_wp2_with (go_at_call 31; go_must (refine HF.out.mono ?_; rintro e w1 ⟨rfl, hb⟩; have HB := Lib.hid (below_then HW.out hb); clear hb))
        go_ret
        exact ⟨ret_bool HZ.out, HB.out⟩
      | false =>
        rw [hf] at hF
        have HF := Lib.hid hF
        have HT2 := Lib.hid (any_take hlt HT.out (by rw [HX.out]; exact hf))
        clear hf hF
        go_wp2_with (go_at_call 31; go_must (refine HF.out.mono ?_; rintro e w1 ⟨rfl, hb⟩; have HB := Lib.hid (below_then HW.out hb); clear hb))
        go_roundw
        case rel => exact ⟨k + 1, by go_num, by omega, HT2, HB⟩
        case measure => simp [intOf]; omega
    · by_cases h0 : ps = []
      · have HZ : Hid (rgt s = inP ps s) := Lib.hid (if_pos h0).symm
        have q1 : ((ps.length : Int) == 0) = true := by rw [h0]; rfl
        have q2 : (ps.length == 0) = true := by rw [h0]; rfl
        go_wp2_with fail
        refine (rright_any s wr (by omega)).mono ?_
        rintro e w1 ⟨rfl, hb⟩
        have HB := Lib.hid (below_then HW.out hb)
        clear hb
        go_wp2_with fail
        go_ret
        exact ⟨ret_bool HZ.out, HB.out⟩
      · have HZ : Hid (false = inP ps s) := Lib.hid (by have := HT.out; rw [List.take_of_length_le (by omega)] at this; rw [inP, if_neg h0, this])
        have hl0 : ps.length ≠ 0 := fun e => h0 (List.eq_nil_of_length_eq_zero e)
        have q1 : ((ps.length : Int) == 0) = false := by rw [beq_eq_false_iff_ne]; omega
        have q2 : (ps.length == 0) = false := by rw [beq_eq_false_iff_ne]; omega
        go_wp2_with fail
        go_ret
        exact ⟨ret_bool HZ.out, HW.out⟩

set_option maxRecDepth 100000 in
set_option maxHeartbeats 4000000 in
theorem routeFits_any (v : Value) (ps : List Wd) (s : Wd) (w : World) (hv : Sl eL 1 w v ps) (hp : ∀ p ∈ ps, p.length ≤ 9223372036854775807) (hs : s.length ≤ 9223372036854775807) (hm : Ml w) :
    Calls Tryd.prog 5 #[v, .string (bstr s)] w fun e w' => e = .returned (.bool true) ∧ Below w.heap.size w w' := by
  have hlen := hv.run_len (P := Tryd.prog) Tryd.underlying22
  have hpl := hv.len_le
  have HV := Lib.hid hv
  have HM := Lib.hid hm
  have HP := Lib.hid hp
  clear hm hv hp
  by_cases h1 : 300 < s.length
  · have HL := Lib.hid (long_yes w hs h1)
    go_enter Tryd.func5, Tryd.ntmps5
    go_wp2_with fail
    refine HL.out.mono ?_
    rintro e w' ⟨rfl, rfl⟩
    go_wp2_with fail
    refine (works_any w HM.out).mono ?_
    rintro e w9 ⟨rfl, hb⟩
    have HW9 := Lib.hid hb
    clear hb
    go_wp2_with fail
    go_ret
    exact ⟨rfl, HW9.out⟩
  have HL := Lib.hid (long_no w hs h1)
  by_cases h3 : 8 < ps.length
  · have d1 : decide ((8 : Int) < ps.length) = true := decide_eq_true (by omega)
    have d1' : decide (8 < ps.length) = true := decide_eq_true (by omega)
    go_enter Tryd.func5, Tryd.ntmps5
    go_wp2_with fail
    refine HL.out.mono ?_
    rintro e w' ⟨rfl, rfl⟩
    go_wp2_with fail
    refine (works_any w HM.out).mono ?_
    rintro e w9 ⟨rfl, hb⟩
    have HW9 := Lib.hid hb
    clear hb
    go_wp2_with fail
    go_ret
    exact ⟨rfl, HW9.out⟩
  have d1 : decide ((8 : Int) < ps.length) = false := decide_eq_false (by omega)
  have d1' : decide (8 < ps.length) = false := decide_eq_false (by omega)
  go_enter Tryd.func5, Tryd.ntmps5
  go_wp2_with fail
  refine HL.out.mono ?_
  rintro e w' ⟨rfl, rfl⟩
  go_wp2_with fail
  go_loopw [5] (fun i wr => ∃ (k : Nat), i = .int .i64 k ∧ k ≤ ps.length ∧ Hid (∀ p ∈ ps.take k, p.length ≤ 300) ∧ Hid (Below w.heap.size w wr)) (fun i _ => ps.length - (intOf i).toNat)
  case atStart => exact ⟨0, rfl, by omega, Lib.hid (by simp), Lib.hid (Below.refl _ _)⟩
  case round =>
    obtain ⟨k, rfl, hk, HT, HW⟩ := hrel
    by_cases hlt : k < ps.length
    · obtain ⟨b2, o2, hb2, hix2, hc2⟩ := HV.out.atB HW.out (P := Tryd.prog) Tryd.underlying22 cells9 some9 hlt
      have e1 := hc2 0 (by omega)
      simp only [eL, List.getElem?_cons_zero, Nat.add_zero] at e1
      obtain ⟨x, HX⟩ : ∃ x, Hid (ps[k] = x) := ⟨_, Lib.hid rfl⟩
      have hxl := HP.out ps[k] (List.getElem_mem hlt)
      rw [HX.out] at e1 hxl
      clear hc2
      have hb2r : b2 < wr.heap.size := by have := HW.out.size; omega
      by_cases hx : 300 < x.length
      · have HLx := Lib.hid (long_yes wr hxl hx)
        go_wp2_with fail
        refine HLx.out.mono ?_
        rintro e w' ⟨rfl, rfl⟩
        go_wp2_with fail
        refine (works_any wr (HM.out.ext HW.out)).mono ?_
        rintro e w9 ⟨rfl, hb⟩
        have HW9 := Lib.hid (below_then HW.out hb)
        clear hb
        go_wp2_with fail
        go_ret
        exact ⟨rfl, HW9.out⟩
      · have HLx := Lib.hid (long_no wr hxl hx)
        have HT2 := Lib.hid (len_take hlt HT.out (by rw [HX.out]; omega))
        obtain ⟨F, hF⟩ : ∃ F, fits x s = F := ⟨_, rfl⟩
        have HB0 : Hid (Below wr.heap.size wr wr) := Lib.hid (Below.refl _ _)
        have HC30 : Hid (∀ u, Below wr.heap.size wr u → Calls Tryd.prog 30 #[.string (bstr x), .string (bstr s)] u fun e w' => e = .returned (.bool F) ∧ Below wr.heap.size wr w') :=
          Lib.hid (fun u hu => (fits_any x s u (by omega) (by omega) ((HM.out.ext HW.out).ext hu)).mono fun e w' ⟨h1, h2⟩ => ⟨by rw [h1, hF], below_then hu h2⟩)
        have HC31 : Hid (∀ u, Below wr.heap.size wr u → Calls Tryd.prog 31 #[.string (bstr x), .string (bstr s)] u fun e w' => e = .returned (.bool F) ∧ Below wr.heap.size wr w') :=
          Lib.hid (fun u hu => (rfits_any x s u (by omega) (by omega)).mono fun e w' ⟨h1, h2⟩ => ⟨by rw [h1, hF], below_then hu h2⟩)
        have b1 : (F != F) = false := by simp
        clear hF
        go_wp2_with fail
        refine HLx.out.mono ?_
        rintro e w' ⟨rfl, rfl⟩
        go_wp2_with fail
        go_region_held3 (fun u => u.cell? ⟨b2, o2, none⟩ = some (.string (bstr x)))
          (first | exact e1 | exact (HB3.out.cell (p := ⟨b2, o2, none⟩) hb2r).trans e1 | exact (HB4.out.cell (p := ⟨b2, o2, none⟩) hb2r).trans e1)
          (first | (go_at_call 30; go_must (refine (HC30.out _ ?_).mono ?_; (first | exact HB0.out | exact below_drewN HB0.out _ | exact Below.drew HB0.out); rintro e w3 ⟨rfl, hb⟩; have HB3 := Lib.hid hb; clear hb)) | (go_at_call 31; go_must (refine (HC31.out _ ?_).mono ?_; exact HB3.out; rintro e w4 ⟨rfl, hb⟩; have HB4 := Lib.hid hb; clear hb)))
        all_goals
          have HW4 := Lib.hid (below_then HW.out HB4.out)
          go_wp2_with fail
          go_roundw
          case rel => exact ⟨k + 1, by go_num, by omega, HT2, HW4⟩
          case measure => simp [intOf]; omega
    · have hall := HT.out
      rw [List.take_of_length_le (by omega)] at hall
      have HA := Lib.hid hall
      clear hall
      obtain ⟨I, HI⟩ : ∃ I, Hid (inP ps s = I) := ⟨_, Lib.hid rfl⟩
      have b1 : (I == I) = true := by simp
      go_wp2_with fail
      refine (in_any v ps s wr (HV.out.ext HW.out) (by omega) HA.out (by omega) (HM.out.ext HW.out)).mono ?_
      rintro e w1 ⟨rfl, hb⟩
      rw [HI.out]
      have HW1 := Lib.hid (below_then HW.out hb)
      clear hb
      go_wp2_with fail
      refine (rin_any v ps s w1 (HV.out.ext HW1.out) (by omega) HA.out (by omega)).mono ?_
      rintro e w2 ⟨rfl, hb⟩
      rw [HI.out]
      have HW2 := Lib.hid (below_then HW1.out hb)
      clear hb
      go_wp2_with fail
      refine (works_any w2 (HM.out.ext HW2.out)).mono ?_
      rintro e w9 ⟨rfl, hb⟩
      have HW9 := Lib.hid (below_then HW2.out hb)
      clear hb
      go_wp2_with fail
      go_ret
      exact ⟨rfl, HW9.out⟩
end Go.Proofs.YtopamnfelngkcaaDoor
