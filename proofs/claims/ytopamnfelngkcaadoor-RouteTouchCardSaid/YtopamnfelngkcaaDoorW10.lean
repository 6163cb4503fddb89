/-
  Layer 5: does a pattern fit a path; is a path in patterns; may something under a directory be. No condition besides what the arguments are.
-/
import Derived.Test.YtopamnfelngkcaaDoorW9
namespace Go.Proofs.YtopamnfelngkcaaDoor
open Go.RowKit Go.Sl Go.Route
set_option linter.unusedVariables false

def fits (p s : Wd) : Bool := pat p && rgt s && fitsP (parts p) (parts s)
def inP (ps : List Wd) (s : Wd) : Bool := if ps = [] then rgt s else ps.any fun p => fits p s
def tch (p d : Wd) : Bool := pat p && touchP (parts p) (parts d)
def touchB (ps : List Wd) (d : Wd) : Bool := if ps = [] then true else ps.any fun p => tch p d
theorem pat_ne {p : Wd} (h : pat p = true) : p ≠ [] := by
  rintro rfl; revert h; decide
theorem parts_ne {p : Wd} (h : p ≠ []) : parts p ≠ [] := by
  have := parts_pos h
  intro e; rw [e] at this; simp at this

set_option maxRecDepth 100000 in
set_option maxHeartbeats 1000000 in
theorem fits_any (p s : Wd) (w : World) (hp : p.length ≤ 300) (hs : s.length ≤ 300) (hm : Ml w) :
    Calls Tryd.prog 30 #[.string (bstr p), .string (bstr s)] w fun e w' => e = .returned (.bool (fits p s)) ∧ Below w.heap.size w w' := by
  have HM := Lib.hid hm
  have HF : Hid (fits p s = (pat p && rgt s && fitsP (parts p) (parts s))) := Lib.hid rfl
  clear hm
  go_enter Tryd.func30, Tryd.ntmps30
  go_wp2_with fail
  refine (pattern_any p w (by omega) HM.out).mono ?_
  rintro e w1 ⟨rfl, hb⟩
  have HW1 := Lib.hid hb
  clear hb
  cases h1 : pat p with
  | false =>
    have HZ : Hid (false = fits p s) := Lib.hid (by rw [HF.out, h1]; rfl)
    clear h1
    go_wp2_with fail
    go_ret
    exact ⟨ret_bool HZ.out, HW1.out⟩
  | true =>
    have HP1 := Lib.hid h1
    clear h1
    go_wp2_with fail
    refine (right_any s w1 (by omega) (HM.out.ext HW1.out)).mono ?_
    rintro e w2 ⟨rfl, hb⟩
    have HW2 := Lib.hid (below_then HW1.out hb)
    clear hb
    cases h2 : rgt s with
    | false =>
      have HZ : Hid (false = fits p s) := Lib.hid (by rw [HF.out, h2, HP1.out]; rfl)
      clear h2
      go_wp2_with fail
      go_ret
      exact ⟨ret_bool HZ.out, HW2.out⟩
    | true =>
      have HZ : Hid ((runP (parts p) (parts s)).1 = fits p s) := Lib.hid (by rw [HF.out, h2, HP1.out, run_fits]; rfl)
      clear h2
      go_wp2_with fail
      refine (parts_any p w2 (by omega) (HM.out.ext HW2.out)).mono ?_
      rintro e w3 ⟨v3, rfl, hs3, hb⟩
      have HS3 := Lib.hid hs3
      have HW3 := Lib.hid (below_then HW2.out hb)
      clear hs3 hb
      go_wp2_with fail
      refine (parts_any s w3 (by omega) (HM.out.ext HW3.out)).mono ?_
      rintro e w4 ⟨v4, rfl, hs4, hb⟩
      have HS4 := Lib.hid hs4
      have HS3' := Lib.hid (HS3.out.ext hb)
      have HW4 := Lib.hid (below_then HW3.out hb)
      clear hs4 hb
      go_wp2_with fail
      refine (run_any v3 v4 _ _ w4 HS3'.out HS4.out (by have := parts_len_le p; omega) (by have := parts_len_le s; omega) (fun q hq => by have := parts_mem_len hq; omega) (fun q hq => by have := parts_mem_len hq; omega)).mono ?_
      rintro e w5 ⟨rfl, hb⟩
      have HW5 := Lib.hid (below_then HW4.out hb)
      clear hb
      go_wp2_with fail
      go_ret
      exact ⟨ret_bool HZ.out, HW5.out⟩

theorem any_take {α : Type} {f : α → Bool} {l : List α} {k : Nat} (h : k < l.length) (ht : (l.take k).any f = false) (hx : f l[k] = false) : (l.take (k + 1)).any f = false := by
  rw [List.take_succ_eq_append_getElem h, List.any_append, ht]; simp [hx]
theorem any_yes {α : Type} {f : α → Bool} {l : List α} {k : Nat} (h : k < l.length) (hx : f l[k] = true) : l.any f = true := List.any_eq_true.2 ⟨l[k], List.getElem_mem h, hx⟩

set_option maxRecDepth 100000 in
set_option maxHeartbeats 1000000 in
theorem in_any (v : Value) (ps : List Wd) (s : Wd) (w : World) (hv : Sl eL 1 w v ps) (hn : ps.length ≤ 100) (hp : ∀ p ∈ ps, p.length ≤ 300) (hs : s.length ≤ 300) (hm : Ml w) :
    Calls Tryd.prog 32 #[v, .string (bstr s)] w fun e w' => e = .returned (.bool (inP ps s)) ∧ Below w.heap.size w w' := by
  have hlen := hv.run_len (P := Tryd.prog) Tryd.underlying22
  have HV := Lib.hid hv
  have HM := Lib.hid hm
  have HL := Lib.hid hp
  clear hv hm hp
  by_cases h0 : ps = []
  · subst h0
    have HR := Lib.hid (right_any s w (by omega) HM.out)
    go_enter Tryd.func32, Tryd.ntmps32
    go_wp2_with (go_at_call 22; go_must (refine HR.out.mono ?_; rintro e w1 ⟨rfl, hb⟩; have HB := Lib.hid hb; clear hb))
    go_ret
    exact ⟨ret_bool (if_pos rfl).symm, HB.out⟩
  have hl0 : ps.length ≠ 0 := fun e => h0 (List.eq_nil_of_length_eq_zero e)
  have q1 : (ps.length == 0) = false := by simpa using hl0
  have q2 : ((ps.length : Int) == 0) = false := by rw [beq_eq_false_iff_ne]; omega
  have q3 : ¬ ps = [] := h0
  have HI : Hid (inP ps s = ps.any fun p => fits p s) := Lib.hid (if_neg h0)
  clear h0 hl0
  go_enter Tryd.func32, Tryd.ntmps32
  go_wp2_with fail
  go_loopw [14] (fun i wr => ∃ (k : Nat), i = .int .i64 k ∧ k ≤ ps.length ∧ Hid ((ps.take k).any (fun p => fits p s) = false) ∧ Hid (Below w.heap.size w wr)) (fun i _ => ps.length - (intOf i).toNat)
  case atStart => exact ⟨0, rfl, by omega, Lib.hid rfl, Lib.hid (Below.refl _ _)⟩
  case round =>
    obtain ⟨k, rfl, hk, HT, HW⟩ := hrel
    by_cases hlt : k < ps.length
    · obtain ⟨b2, o2, hb2, hix2, hc2⟩ := HV.out.atB HW.out (P := Tryd.prog) Tryd.underlying22 cells9 some9 hlt
      have e1 := hc2 0 (by omega)
      simp only [eL, List.getElem?_cons_zero, Nat.add_zero] at e1
      obtain ⟨x, HX⟩ : ∃ x, Hid (ps[k] = x) := ⟨_, Lib.hid rfl⟩
      have hxl := HL.out ps[k] (List.getElem_mem hlt)
      rw [HX.out] at e1 hxl
      have hF := fits_any x s wr hxl hs (HM.out.ext HW.out)
      clear hc2
      cases hf : fits x s with
      | true =>
        rw [hf] at hF
        have HF := Lib.hid hF
        have HZ : Hid (true = inP ps s) := Lib.hid (by rw [HI.out, any_yes hlt (by rw [HX.out]; exact hf)])
        clear hf hF
        go_wp2_with (go_at_call 30; go_must (refine HF.out.mono ?_; rintro e w1 ⟨rfl, hb⟩; have HB := Lib.hid (below_then HW.out hb); clear hb))
        go_ret
        exact ⟨ret_bool HZ.out, HB.out⟩
      | false =>
        rw [hf] at hF
        have HF := Lib.hid hF
        have HT2 := Lib.hid (any_take hlt HT.out (by rw [HX.out]; exact hf))
        clear hf hF
        go_wp2_with (go_at_call 30; go_must (refine HF.out.mono ?_; rintro e w1 ⟨rfl, hb⟩; have HB := Lib.hid (below_then HW.out hb); clear hb))
        go_roundw
        case rel => exact ⟨k + 1, by go_num, by omega, HT2, HB⟩
        case measure => simp [intOf]; omega
    · have HZ : Hid (false = inP ps s) := Lib.hid (by have := HT.out; rw [List.take_of_length_le (by omega)] at this; rw [HI.out, this])
      go_wp2_with fail
      go_ret
      exact ⟨ret_bool HZ.out, HW.out⟩

set_option maxRecDepth 100000 in
set_option maxHeartbeats 2000000 in
theorem touch_any (v : Value) (ps : List Wd) (d : Wd) (w : World) (hv : Sl eL 1 w v ps) (hn : ps.length ≤ 100) (hp : ∀ p ∈ ps, p.length ≤ 300) (hd : d.length ≤ 300) (hm : Ml w) :
    Calls Tryd.prog 18 #[v, .string (bstr d)] w fun e w' => e = .returned (.bool (touchB ps d)) ∧ Below w.heap.size w w' := by
  have hlen := hv.run_len (P := Tryd.prog) Tryd.underlying22
  have HV := Lib.hid hv
  have HM := Lib.hid hm
  have HL := Lib.hid hp
  clear hv hm hp
  by_cases h0 : ps = []
  · subst h0
    go_enter Tryd.func18, Tryd.ntmps18
    go_wp2_with fail
    go_ret
    exact ⟨ret_bool (if_pos rfl).symm, Below.refl _ _⟩
  have hl0 : ps.length ≠ 0 := fun e => h0 (List.eq_nil_of_length_eq_zero e)
  have q1 : (ps.length == 0) = false := by simpa using hl0
  have q2 : ((ps.length : Int) == 0) = false := by rw [beq_eq_false_iff_ne]; omega
  have q3 : ¬ ps = [] := h0
  have HI : Hid (touchB ps d = ps.any fun p => tch p d) := Lib.hid (if_neg h0)
  clear h0 hl0
  go_enter Tryd.func18, Tryd.ntmps18
  go_wp2_with fail
  refine (parts_any d w (by omega) HM.out).mono ?_
  rintro e w0 ⟨dv, rfl, hds, hb⟩
  have HDS := Lib.hid hds
  have HW0 := Lib.hid hb
  clear hds hb
  go_wp2_with fail
  go_loopw [17] (fun i wr => ∃ (k : Nat), i = .int .i64 k ∧ k ≤ ps.length ∧ Hid ((ps.take k).any (fun p => tch p d) = false) ∧ Hid (Below w.heap.size w wr) ∧ Hid (Sl eL 1 wr dv (parts d))) (fun i _ => ps.length - (intOf i).toNat)
  case atStart => exact ⟨0, rfl, by omega, Lib.hid rfl, HW0, HDS⟩
  case round =>
    obtain ⟨k, rfl, hk, HT, HW, HD⟩ := hrel
    by_cases hlt : k < ps.length
    · obtain ⟨b2, o2, hb2, hix2, hc2⟩ := HV.out.atB HW.out (P := Tryd.prog) Tryd.underlying22 cells9 some9 hlt
      have e1 := hc2 0 (by omega)
      simp only [eL, List.getElem?_cons_zero, Nat.add_zero] at e1
      obtain ⟨x, HX⟩ : ∃ x, Hid (ps[k] = x) := ⟨_, Lib.hid rfl⟩
      have hxl := HL.out ps[k] (List.getElem_mem hlt)
      rw [HX.out] at e1 hxl
      have hP := pattern_any x wr (by omega) (HM.out.ext HW.out)
      clear hc2
      cases hpt : pat x with
      | false =>
        rw [hpt] at hP
        have HP := Lib.hid hP
        have HT2 := Lib.hid (any_take hlt HT.out (by rw [HX.out]; unfold tch; rw [hpt]; rfl))
        clear hpt hP
        go_wp2_with (go_at_call 24; go_must (refine HP.out.mono ?_; rintro e w1 ⟨rfl, hb⟩; have HB := Lib.hid (below_then HW.out hb); have HD2 := Lib.hid (HD.out.ext hb); clear hb))
        go_roundw
        case rel => exact ⟨k + 1, by go_num, by omega, HT2, HB, HD2⟩
        case measure => simp [intOf]; omega
      | true =>
        rw [hpt] at hP
        have HTc : Hid (tch x d = (runP (parts x) (parts d)).2) := Lib.hid (by unfold tch; rw [hpt, run_touch (parts_ne (pat_ne hpt))]; rfl)
        clear hpt
        go_wp2_with fail
        refine hP.mono ?_
        rintro e w1 ⟨rfl, hb⟩
        have HB1 := Lib.hid (below_then HW.out hb)
        have HD1 := Lib.hid (HD.out.ext hb)
        clear hb hP
        go_wp2_with fail
        refine (parts_any x w1 (by omega) (HM.out.ext HB1.out)).mono ?_
        rintro e w2 ⟨xv, rfl, hxs, hb⟩
        have HXS := Lib.hid hxs
        have HB2 := Lib.hid (below_then HB1.out hb)
        have HD2 := Lib.hid (HD1.out.ext hb)
        clear hb hxs
        have hR := run_any xv dv _ _ w2 HXS.out HD2.out (by have := parts_len_le x; omega) (by have := parts_len_le d; omega) (fun q hq => by have := parts_mem_len hq; omega) (fun q hq => by have := parts_mem_len hq; omega)
        cases hr : (runP (parts x) (parts d)).2 with
        | true =>
          rw [hr] at hR
          have HZ : Hid (true = touchB ps d) := Lib.hid (by rw [HI.out, any_yes hlt (by rw [HX.out, HTc.out, hr])])
          clear hr
          go_wp2_with fail
          refine hR.mono ?_
          rintro e w3 ⟨rfl, hb⟩
          have HB3 := Lib.hid (below_then HB2.out hb)
          clear hb hR
          go_wp2_with fail
          go_ret
          exact ⟨ret_bool HZ.out, HB3.out⟩
        | false =>
          rw [hr] at hR
          have HT2 := Lib.hid (any_take hlt HT.out (by rw [HX.out, HTc.out, hr]))
          clear hr
          go_wp2_with fail
          refine hR.mono ?_
          rintro e w3 ⟨rfl, hb⟩
          have HB3 := Lib.hid (below_then HB2.out hb)
          have HD3 := Lib.hid (HD2.out.ext hb)
          clear hb hR
          go_wp2_with fail
          go_roundw
          case rel => exact ⟨k + 1, by go_num, by omega, HT2, HB3, HD3⟩
          case measure => simp [intOf]; omega
    · have HZ : Hid (false = touchB ps d) := Lib.hid (by have := HT.out; rw [List.take_of_length_le (by omega)] at this; rw [HI.out, this])
      go_wp2_with fail
      go_ret
      exact ⟨ret_bool HZ.out, HW.out⟩
end Go.Proofs.YtopamnfelngkcaaDoor
