/-
  Layer 5: the laws' own patterns; RouteRight and RouteParts: what the program answers, the document's. No condition besides what the arguments are.
-/
import Derived.Test.YtopamnfelngkcaaDoorW10
namespace Go.Proofs.YtopamnfelngkcaaDoor
open Go.RowKit Go.Sl Go.Route
set_option linter.unusedVariables false

def kP : Wd := [115, 114, 99, 47, 42, 46, 103, 111]
def kA : Wd := [115, 114, 99, 47, 97, 46, 103, 111]
def kB : Wd := [100, 111, 99, 47, 97, 46, 103, 111]
def kD : Wd := [115, 114, 99]
theorem k1 : fits kP kA = true := by decide +kernel
theorem k2 : fits kP kB = false := by decide +kernel
theorem k3 : touchB [kP] kD = true := by decide +kernel

set_option maxRecDepth 100000 in
set_option maxHeartbeats 1000000 in
theorem works_any (w : World) (hm : Ml w) : Calls Tryd.prog 17 #[] w fun e w' => e = .returned (.bool true) ∧ Below w.heap.size w w' := by
  have HM := Lib.hid hm
  clear hm
  go_enter Tryd.func17, Tryd.ntmps17
  go_wp2_with fail
  refine (fits_any kP kA w (by decide) (by decide) HM.out).mono ?_
  rintro e w1 ⟨rfl, hb⟩
  rw [k1]
  have HW1 := Lib.hid hb
  clear hb
  go_wp2_with fail
  refine (fits_any kP kB w1 (by decide) (by decide) (HM.out.ext HW1.out)).mono ?_
  rintro e w2 ⟨rfl, hb⟩
  rw [k2]
  have HW2 := Lib.hid (below_then HW1.out hb)
  clear hb
  have HS : Hid (Sl eL 1 (w2.alloc (.cells #[.string (bstr kP)] 9)) (.slice (some ⟨w2.heap.size, 0, none⟩) 1 1) [kP]) := Lib.hid (Sl.fresh len_eL rfl rfl rfl (by simp [maxLen]))
  have HW3 := Lib.hid (HW2.out.alloc HW2.out.size (.cells #[.string (bstr kP)] 9))
  go_wp2_with fail
  refine (touch_any _ [kP] kD _ HS.out (by decide) (by decide) (by decide) (HM.out.ext HW3.out)).mono ?_
  rintro e w4 ⟨rfl, hb⟩
  rw [k3]
  have HW4 := Lib.hid (below_then HW3.out hb)
  clear hb
  go_wp2_with fail
  go_ret
  exact ⟨rfl, HW4.out⟩

theorem long_any (l : Wd) (w : World) (hl : l.length ≤ 9223372036854775807) : Calls Tryd.prog 15 #[.string (bstr l)] w fun e w' => e = .returned (.bool (decide (300 < l.length))) ∧ w = w' := by
  by_cases h : 300 < l.length
  · have d1 : decide ((300 : Int) < l.length) = true := decide_eq_true (by omega)
    have HZ := Lib.hid (decide_eq_true h)
    go_enter Tryd.func15, Tryd.ntmps15
    go_wp2_with fail
    go_ret
    exact ⟨ret_bool HZ.out.symm, rfl⟩
  · have d1 : decide ((300 : Int) < l.length) = false := decide_eq_false (by omega)
    have HZ := Lib.hid (decide_eq_false h)
    go_enter Tryd.func15, Tryd.ntmps15
    go_wp2_with fail
    go_ret
    exact ⟨ret_bool HZ.out.symm, rfl⟩
theorem long_yes {l : Wd} (w : World) (hl : l.length ≤ 9223372036854775807) (h : 300 < l.length) : Calls Tryd.prog 15 #[.string (bstr l)] w fun e w' => e = .returned (.bool true) ∧ w = w' := by
  have := long_any l w hl; rwa [decide_eq_true h] at this
theorem long_no {l : Wd} (w : World) (hl : l.length ≤ 9223372036854775807) (h : ¬ 300 < l.length) : Calls Tryd.prog 15 #[.string (bstr l)] w fun e w' => e = .returned (.bool false) ∧ w = w' := by
  have := long_any l w hl; rwa [decide_eq_false h] at this
theorem sameS_yes (v1 v2 : Value) (l : List Wd) (w : World) (h1 : Sl eL 1 w v1 l) (h2 : Sl eL 1 w v2 l) :
    Calls Tryd.prog 26 #[v1, v2] w fun e w' => e = .returned (.bool true) ∧ Below w.heap.size w w' :=
  (sameS_any v1 v2 l l w h1 h2).mono fun e w' ⟨h1, n, h2⟩ => ⟨by rw [h1]; simp, by rw [h2]; exact below_drewN (Below.refl _ _) n⟩

set_option maxRecDepth 100000 in
set_option maxHeartbeats 2000000 in
theorem routeRight_any (s t : Wd) (w : World) (hs : s.length ≤ 9223372036854775807) (ht : t.length ≤ 9223372036854775807) (hm : Ml w) :
    Calls Tryd.prog 4 #[.string (bstr s), .string (bstr t)] w fun e w' => e = .returned (.bool true) ∧ Below w.heap.size w w' := by
  have HM := Lib.hid hm
  clear hm
  by_cases h1 : 300 < s.length
  · have HL := Lib.hid (long_yes w hs h1)
    have HK := Lib.hid (works_any w HM.out)
    go_enter Tryd.func4, Tryd.ntmps4
    go_wp2_with (first | (go_at_call 15; go_must (refine HL.out.mono ?_; rintro e w' ⟨rfl, rfl⟩)) | (go_at_call 17; go_must (refine HK.out.mono ?_; rintro e w1 ⟨rfl, hb⟩; have HB := Lib.hid hb; clear hb)))
    go_ret
    exact ⟨rfl, HB.out⟩
  by_cases h2 : 300 < t.length
  · have HL := Lib.hid (long_no w hs h1)
    have HL2 := Lib.hid (long_yes w ht h2)
    go_enter Tryd.func4, Tryd.ntmps4
    go_wp2_with fail
    refine HL.out.mono ?_
    rintro e w' ⟨rfl, rfl⟩
    go_wp2_with fail
    refine HL2.out.mono ?_
    rintro e w' ⟨rfl, rfl⟩
    go_wp2_with fail
    refine (works_any w HM.out).mono ?_
    rintro e w1 ⟨rfl, hb⟩
    have HB := Lib.hid hb
    clear hb
    go_wp2_with fail
    go_ret
    exact ⟨rfl, HB.out⟩
  have HL := Lib.hid (long_no w hs h1)
  have HL2 := Lib.hid (long_no w ht h2)
  obtain ⟨N, HN⟩ : ∃ N, Hid (nam s = N) := ⟨_, Lib.hid rfl⟩
  obtain ⟨R, HR⟩ : ∃ R, Hid (rgt s = R) := ⟨_, Lib.hid rfl⟩
  obtain ⟨T, HT⟩ : ∃ T, Hid (pat s = T) := ⟨_, Lib.hid rfl⟩
  have b1 : (N != N) = false := by simp
  have b2 : (R != R) = false := by simp
  have b3 : (T != T) = false := by simp
  have b4 : (jn s t == jn s t) = true := by simp
  go_enter Tryd.func4, Tryd.ntmps4
  go_wp2_with fail
  refine HL.out.mono ?_
  rintro e w' ⟨rfl, rfl⟩
  go_wp2_with fail
  refine HL2.out.mono ?_
  rintro e w' ⟨rfl, rfl⟩
  go_wp2_with fail
  refine (name_any s w hs).mono ?_
  rintro e w' ⟨rfl, rfl⟩
  rw [HN.out]
  go_wp2_with fail
  refine (rname_any s w (by omega)).mono ?_
  rintro e w1 ⟨rfl, hb⟩
  rw [HN.out]
  have HW1 := Lib.hid hb
  clear hb
  go_wp2_with fail
  refine (right_any s w1 (by omega) (HM.out.ext HW1.out)).mono ?_
  rintro e w2 ⟨rfl, hb⟩
  rw [HR.out]
  have HW2 := Lib.hid (below_then HW1.out hb)
  clear hb
  go_wp2_with fail
  refine (rright_any s w2 (by omega)).mono ?_
  rintro e w3 ⟨rfl, hb⟩
  rw [HR.out]
  have HW3 := Lib.hid (below_then HW2.out hb)
  clear hb
  go_wp2_with fail
  refine (pattern_any s w3 (by omega) (HM.out.ext HW3.out)).mono ?_
  rintro e w4 ⟨rfl, hb⟩
  rw [HT.out]
  have HW4 := Lib.hid (below_then HW3.out hb)
  clear hb
  go_wp2_with fail
  refine (rpat_any s w4 (by omega)).mono ?_
  rintro e w5 ⟨rfl, hb⟩
  rw [HT.out]
  have HW5 := Lib.hid (below_then HW4.out hb)
  clear hb
  go_wp2_with fail
  refine (parts_any s w5 (by omega) (HM.out.ext HW5.out)).mono ?_
  rintro e w6 ⟨v6, rfl, h6, hb⟩
  have HS6 := Lib.hid h6
  have HW6 := Lib.hid (below_then HW5.out hb)
  clear hb h6
  go_wp2_with fail
  refine (rparts_any s w6 (by omega)).mono ?_
  rintro e w7 ⟨v7, rfl, h7, hb⟩
  have HS7 := Lib.hid h7
  have HS6' := Lib.hid (HS6.out.ext hb)
  have HW7 := Lib.hid (below_then HW6.out hb)
  clear hb h7
  go_wp2_with fail
  refine (sameS_yes v6 v7 _ w7 HS6'.out HS7.out).mono ?_
  rintro e w8 ⟨rfl, hb⟩
  have HW8 := Lib.hid (below_then HW7.out hb)
  clear hb
  go_wp2_with fail
  refine (join_any s t w8 (by omega) (by omega)).mono ?_
  rintro e w' ⟨rfl, rfl⟩
  go_wp2_with fail
  refine (rjoin_any s t w8 (by omega) (by omega)).mono ?_
  rintro e w' ⟨rfl, rfl⟩
  go_wp2_with fail
  refine (works_any w8 (HM.out.ext HW8.out)).mono ?_
  rintro e w9 ⟨rfl, hb⟩
  have HW9 := Lib.hid (below_then HW8.out hb)
  clear hb
  go_wp2_with fail
  go_ret
  exact ⟨rfl, HW9.out⟩

set_option maxRecDepth 100000 in
set_option maxHeartbeats 2000000 in
theorem routeParts_any (s t : Wd) (w : World) (hs : s.length ≤ 9223372036854775807) (ht : t.length ≤ 9223372036854775807) (hm : Ml w) :
    Calls Tryd.prog 7 #[.string (bstr s), .string (bstr t)] w fun e w' => e = .returned (.bool true) ∧ Below w.heap.size w w' := by
  have HM := Lib.hid hm
  clear hm
  by_cases h1 : 300 < s.length
  · have HL := Lib.hid (long_yes w hs h1)
    have HK := Lib.hid (works_any w HM.out)
    go_enter Tryd.func7, Tryd.ntmps7
    go_wp2_with (first | (go_at_call 15; go_must (refine HL.out.mono ?_; rintro e w' ⟨rfl, rfl⟩)) | (go_at_call 17; go_must (refine HK.out.mono ?_; rintro e w1 ⟨rfl, hb⟩; have HB := Lib.hid hb; clear hb)))
    go_ret
    exact ⟨rfl, HB.out⟩
  by_cases h2 : 300 < t.length
  · have HL := Lib.hid (long_no w hs h1)
    have HL2 := Lib.hid (long_yes w ht h2)
    go_enter Tryd.func7, Tryd.ntmps7
    go_wp2_with fail
    refine HL.out.mono ?_
    rintro e w' ⟨rfl, rfl⟩
    go_wp2_with fail
    refine HL2.out.mono ?_
    rintro e w' ⟨rfl, rfl⟩
    go_wp2_with fail
    refine (works_any w HM.out).mono ?_
    rintro e w1 ⟨rfl, hb⟩
    have HB := Lib.hid hb
    clear hb
    go_wp2_with fail
    go_ret
    exact ⟨rfl, HB.out⟩
  have HL := Lib.hid (long_no w hs h1)
  have HL2 := Lib.hid (long_no w ht h2)
  obtain ⟨U, HU⟩ : ∃ U, Hid (und s t = U) := ⟨_, Lib.hid rfl⟩
  obtain ⟨D, HD⟩ : ∃ D, Hid (dirOf s = D) := ⟨_, Lib.hid rfl⟩
  obtain ⟨E, HE⟩ : ∃ E, Hid (baseOf s = E) := ⟨_, Lib.hid rfl⟩
  have b1 : (U == U) = true := by simp
  have b2 : (D == D) = true := by simp
  have b3 : (E == E) = true := by simp
  go_enter Tryd.func7, Tryd.ntmps7
  go_wp2_with fail
  refine HL.out.mono ?_
  rintro e w' ⟨rfl, rfl⟩
  go_wp2_with fail
  refine HL2.out.mono ?_
  rintro e w' ⟨rfl, rfl⟩
  go_wp2_with fail
  refine (dir_any s w (by omega)).mono ?_
  rintro e w' ⟨rfl, rfl⟩
  rw [HD.out]
  go_wp2_with fail
  refine (rdir_any s w (by omega)).mono ?_
  rintro e w' ⟨rfl, rfl⟩
  rw [HD.out]
  go_wp2_with fail
  refine (base_any s w (by omega)).mono ?_
  rintro e w' ⟨rfl, rfl⟩
  rw [HE.out]
  go_wp2_with fail
  refine (rbase_any s w (by omega)).mono ?_
  rintro e w' ⟨rfl, rfl⟩
  rw [HE.out]
  go_wp2_with fail
  refine (under_any s t w (by omega) (by omega)).mono ?_
  rintro e w' ⟨rfl, rfl⟩
  rw [HU.out]
  go_wp2_with fail
  refine (runder_any s t w (by omega) (by omega)).mono ?_
  rintro e w' ⟨rfl, rfl⟩
  rw [HU.out]
  go_wp2_with fail
  refine (works_any w HM.out).mono ?_
  rintro e w9 ⟨rfl, hb⟩
  have HW9 := Lib.hid hb
  clear hb
  go_wp2_with fail
  go_ret
  exact ⟨rfl, HW9.out⟩
end Go.Proofs.YtopamnfelngkcaaDoor
