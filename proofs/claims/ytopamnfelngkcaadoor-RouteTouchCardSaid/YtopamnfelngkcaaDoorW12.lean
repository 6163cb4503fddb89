/-
  Layer 5: the law RouteBack. No condition besides what the arguments are.
-/
import Derived.Test.YtopamnfelngkcaaDoorW11
import Derived.Test.YtopamnfelngkcaaDoorP5
namespace Go.Proofs.YtopamnfelngkcaaDoor
open Go.RowKit Go.Sl Go.Route
set_option linter.unusedVariables false

def strLen : Value → Nat
  | .string b => b.size
  | _ => 0
theorem strLen_bstr (l : List UInt8) : strLen (.string (bstr l)) = l.length := by simp [strLen, bstr_size]

set_option maxRecDepth 100000 in
theorem rright_over (l : List UInt8) (w : World) (hl : l.length ≤ 9223372036854775807) (h1 : 120 < l.length) :
    Calls Tryd.prog 23 #[.string (bstr l)] w fun e w' => e = .returned (.bool false) ∧ Below w.heap.size w w' := by
  have d1 : decide ((120 : Int) < l.length) = true := decide_eq_true (by omega)
  go_enter Tryd.func23, Tryd.ntmps23
  go_wp2_with fail
  go_ret
  exact ⟨rfl, Below.refl _ _⟩
set_option maxRecDepth 100000 in
theorem right_over (l : List UInt8) (w : World) (hl : l.length ≤ 9223372036854775807) (h1 : 120 < l.length) :
    Calls Tryd.prog 22 #[.string (bstr l)] w fun e w' => e = .returned (.bool false) ∧ Below w.heap.size w w' := by
  have q0 : (l.length == 0) = false := by rw [beq_eq_false_iff_ne]; omega
  have q0' : ((l.length : Int) == 0) = false := by rw [beq_eq_false_iff_ne]; omega
  have q0'' : ¬ l = [] := fun e => by subst e; simp at h1
  have d1 : decide ((120 : Int) < l.length) = true := decide_eq_true (by omega)
  go_enter Tryd.func22, Tryd.ntmps22
  go_wp2_with fail
  go_ret
  exact ⟨rfl, Below.refl _ _⟩
theorem rgt_over {l : List UInt8} (h : 120 < l.length) : rgt l = false := by
  unfold rgt; rw [decide_eq_false (show ¬ l.length ≤ 120 by omega)]; simp
theorem rright_all (l : List UInt8) (w : World) (hl : l.length ≤ 9223372036854775807) :
    Calls Tryd.prog 23 #[.string (bstr l)] w fun e w' => e = .returned (.bool (rgt l)) ∧ Below w.heap.size w w' := by
  by_cases h : 120 < l.length
  · rw [rgt_over h]; exact rright_over l w hl h
  · exact rright_any l w (by omega)
theorem right_all (l : List UInt8) (w : World) (hl : l.length ≤ 9223372036854775807) (hm : Ml w) :
    Calls Tryd.prog 22 #[.string (bstr l)] w fun e w' => e = .returned (.bool (rgt l)) ∧ Below w.heap.size w w' := by
  by_cases h : 120 < l.length
  · rw [rgt_over h]; exact right_over l w hl h
  · exact right_any l w (by omega) hm

set_option maxRecDepth 100000 in
set_option maxHeartbeats 2000000 in
theorem routeBack_any (s : Wd) (w : World) (hs : s.length ≤ 9223372036854775807) (hm : Ml w) :
    Calls Tryd.prog 8 #[.string (bstr s)] w fun e w' => e = .returned (.bool true) ∧ Below w.heap.size w w' := by
  have HM := Lib.hid hm
  clear hm
  have HC := Lib.hid (rright_all s w hs)
  by_cases hr : rgt s = true
  · have hl : s.length ≤ 120 := by
      rcases Nat.lt_or_ge 120 s.length with h | h
      · rw [rgt_over h] at hr; cases hr
      · exact h
    rw [hr] at HC
    have HR := Lib.hid hr
    obtain ⟨D, HD⟩ : ∃ D, Hid (dirOf s = D) := ⟨_, Lib.hid rfl⟩
    obtain ⟨E, HE⟩ : ∃ E, Hid (baseOf s = E) := ⟨_, Lib.hid rfl⟩
    have HJ : Hid (jn D E = s) := Lib.hid (by rw [← HD.out, ← HE.out]; exact jn_back hr)
    have HN : Hid (nam E = true) := Lib.hid (by rw [← HE.out]; exact nam_base hr)
    have hDl : D.length ≤ s.length := by rw [← HD.out]; simp only [dirOf, List.length_take]; omega
    have hEl : E.length ≤ s.length := by rw [← HE.out]; simp only [baseOf, List.length_drop]; omega
    have HA : Hid (Above s D) := Lib.hid (by rw [← HD.out]; exact above_start hr)
    have b1 : (s == s) = true := by simp
    clear hr
    go_enter Tryd.func8, Tryd.ntmps8
    go_wp2_with fail
    refine HC.out.mono ?_
    rintro e w1 ⟨rfl, hb⟩
    have HW1 := Lib.hid hb
    clear hb
    go_wp2_with fail
    refine (dir_any s w1 (by omega)).mono ?_
    rintro e w' ⟨rfl, rfl⟩
    rw [HD.out]
    go_wp2_with fail
    refine (base_any s w1 (by omega)).mono ?_
    rintro e w' ⟨rfl, rfl⟩
    rw [HE.out]
    go_wp2_with fail
    refine (join_any D E w1 (by omega) (by omega)).mono ?_
    rintro e w' ⟨rfl, rfl⟩
    rw [HJ.out]
    go_wp2_with fail
    refine (base_any s w1 (by omega)).mono ?_
    rintro e w' ⟨rfl, rfl⟩
    rw [HE.out]
    go_wp2_with fail
    refine (name_any E w1 (by omega)).mono ?_
    rintro e w' ⟨rfl, rfl⟩
    rw [HN.out]
    go_wp2_with fail
    refine (dir_any s w1 (by omega)).mono ?_
    rintro e w' ⟨rfl, rfl⟩
    rw [HD.out]
    go_wp2_with fail
    go_loopw [3] (fun dv wr => ∃ d : Wd, dv = .string (bstr d) ∧ d.length ≤ s.length ∧ Hid (Above s d) ∧ Hid (Below w.heap.size w wr)) (fun dv _ => strLen dv)
    case atStart => exact ⟨D, rfl, hDl, HA, HW1⟩
    case round =>
      obtain ⟨d, rfl, hdl, HAd, HWr⟩ := hrel
      by_cases hd : d = []
      · subst hd
        go_wp2_with fail
        refine (right_any s wr (by omega) (HM.out.ext HWr.out)).mono ?_
        rintro e w2 ⟨rfl, hb⟩
        rw [HR.out]
        have HW2 := Lib.hid (below_then HWr.out hb)
        clear hb
        go_wp2_with fail
        refine (under_any s [] w2 (by omega) (by simp)).mono ?_
        rintro e w' ⟨rfl, rfl⟩
        rw [und_nil]
        go_wp2_with fail
        refine (under_any s s w2 (by omega) (by omega)).mono ?_
        rintro e w' ⟨rfl, rfl⟩
        rw [und_self]
        go_wp2_with fail
        refine (works_any w2 (HM.out.ext HW2.out)).mono ?_
        rintro e w3 ⟨rfl, hb⟩
        have HW3 := Lib.hid (below_then HW2.out hb)
        clear hb
        go_wp2_with fail
        go_ret
        exact ⟨rfl, HW3.out⟩
      · have hab := HAd.out
        rcases hab with h0 | ⟨hrd, v, hv⟩
        · exact absurd h0 hd
        obtain ⟨hu, hlt⟩ := above_und hv
        have HU := Lib.hid hu
        have HRd := Lib.hid hrd
        have q1 : d.isEmpty = false := by simpa using hd
        have q2 : (d == []) = false := by simpa using hd
        have d2 : decide ((s.length : Int) ≤ d.length) = false := decide_eq_false (by omega)
        have d3 : decide (s.length ≤ d.length) = false := decide_eq_false (by omega)
        obtain ⟨D2, HD2⟩ : ∃ D, Hid (dirOf d = D) := ⟨_, Lib.hid rfl⟩
        have hDl2 : D2.length < d.length := by rw [← HD2.out]; exact dir_lt hd
        have HA2 : Hid (Above s D2) := Lib.hid (by rw [← HD2.out]; exact above_step hrd hv)
        clear hu hrd hv
        go_wp2_with fail
        refine (under_any s d wr (by omega) (by omega)).mono ?_
        rintro e w' ⟨rfl, rfl⟩
        rw [HU.out]
        go_wp2_with fail
        refine (right_any d wr (by omega) (HM.out.ext HWr.out)).mono ?_
        rintro e w2 ⟨rfl, hb⟩
        rw [HRd.out]
        have HW2 := Lib.hid (below_then HWr.out hb)
        clear hb
        go_wp2_with fail
        refine (dir_any d w2 (by omega)).mono ?_
        rintro e w' ⟨rfl, rfl⟩
        rw [HD2.out]
        go_wp2_with fail
        go_roundw
        case rel => exact ⟨D2, rfl, by omega, HA2, HW2⟩
        case measure => simp only [strLen_bstr]; omega
  · have hr' : rgt s = false := by simpa using hr
    rw [hr'] at HC
    have HR := Lib.hid hr'
    clear hr hr'
    go_enter Tryd.func8, Tryd.ntmps8
    go_wp2_with fail
    refine HC.out.mono ?_
    rintro e w1 ⟨rfl, hb⟩
    have HW1 := Lib.hid hb
    clear hb
    go_wp2_with fail
    refine (right_all s w1 hs (HM.out.ext HW1.out)).mono ?_
    rintro e w2 ⟨rfl, hb⟩
    rw [HR.out]
    have HW2 := Lib.hid (below_then HW1.out hb)
    clear hb
    go_wp2_with fail
    refine (works_any w2 (HM.out.ext HW2.out)).mono ?_
    rintro e w3 ⟨rfl, hb⟩
    have HW3 := Lib.hid (below_then HW2.out hb)
    clear hb
    go_wp2_with fail
    go_ret
    exact ⟨rfl, HW3.out⟩
end Go.Proofs.YtopamnfelngkcaaDoor
