/-
  Layer 12: RefsPuts. No condition besides what the arguments are.
-/
import Derived.Test.YtopamnfelngkcaaDoorR13
namespace Go.Proofs.YtopamnfelngkcaaDoor.Rf
open Go.Proofs Go.RowKit Go.Shelf Go.Sl Go.Route Go.Refs
set_option linter.unusedVariables false

theorem sameB_any (v1 v2 : Value) (l1 l2 : List UInt8) (b : Bool) (hb : (l1 == l2) = b) (w : World) (h1 : Sl eByte 1 w v1 l1) (h2 : Sl eByte 1 w v2 l2) :
    Calls Tryd.prog 56 #[v1, v2] w fun e w' => e = .returned (.bool b) ∧ w = w' := by
  have c1 := h1.run_string (P := Tryd.prog) Tryd.underlying34 Tryd.underlying5 Tryd.underlying9
  have c2 := h2.run_string (P := Tryd.prog) Tryd.underlying34 Tryd.underlying5 Tryd.underlying9
  clear h1 h2
  go_enter Tryd.func56, Tryd.ntmps56
  go_wp2_with fail
  go_ret
  exact ⟨rfl, rfl⟩

set_option maxRecDepth 100000 in
set_option maxHeartbeats 2000000 in
theorem refsPuts_any (v : Value) (l : List Go.Sl.Rf) (w : World) (hv : Sl eRf 33 w v l) (hl : ∀ r ∈ l, r.nm.length ≤ 9223372036854775807) (hm : Ml w) :
    Calls Tryd.prog 11 #[v] w fun e w' => e = .returned (.bool true) ∧ Below w.heap.size w w' := by
  have hlen := hv.run_len (P := Tryd.prog) Tryd.underlying37
  have hmax := hv.len_le
  have HV := Lib.hid hv
  have HL := Lib.hid hl
  have HMl := Lib.hid hm
  clear hv hl hm
  by_cases h80 : 80 < l.length
  · have d1 : decide ((80 : Int) < l.length) = true := decide_eq_true (by omega)
    go_enter Tryd.func11, Tryd.ntmps11
    go_wp2_with fail
    refine (works12_any w HMl.out).mono ?_
    rintro e w2 ⟨rfl, hb⟩
    have HB := Lib.hid hb
    clear hb
    go_wp2_with fail
    go_ret
    exact ⟨rfl, HB.out⟩
  have d1 : decide ((80 : Int) < l.length) = false := decide_eq_false (by omega)
  obtain ⟨T, hT⟩ : ∃ T, Hid ((putF l).1 = T) := ⟨_, Lib.hid rfl⟩
  obtain ⟨t, ht⟩ : ∃ t, Hid ((putF l).2 = t) := ⟨_, Lib.hid rfl⟩
  obtain ⟨c, hc⟩ : ∃ c, Hid (chk l = c) := ⟨_, Lib.hid rfl⟩
  go_enter Tryd.func11, Tryd.ntmps11
  go_wp2_with fail
  refine (put_any v l w HV.out HL.out HMl.out).mono ?_
  rintro e w1 ⟨b1, rfl, hs1, hb⟩
  rw [hT.out] at hs1
  rw [ht.out]
  have HS1 := Lib.hid hs1
  have HW1 := Lib.hid hb
  clear hb hs1
  go_wp2_with fail
  refine (rput_any v l w1 (HV.out.ext HW1.out) HL.out).mono ?_
  rintro e w2 ⟨b2, rfl, hs2, hb⟩
  rw [hT.out] at hs2
  rw [ht.out]
  have HS2 := Lib.hid hs2
  have HS12 := Lib.hid (HS1.out.ext hb)
  have HW2 := Lib.hid (bthen HW1.out hb)
  clear hb hs2
  go_wp2_with fail
  refine (sameB_any b1 b2 T T true (by simp) w2 HS12.out HS2.out).mono ?_
  rintro e w3 ⟨rfl, rfl⟩
  go_wp2_with fail
  refine (check_any v l w2 (HV.out.ext HW2.out) HL.out (HMl.out.ext HW2.out)).mono ?_
  rintro e w4 ⟨rfl, hb⟩
  rw [hc.out]
  have HW4 := Lib.hid (bthen HW2.out hb)
  clear hb
  go_wp2_with fail
  refine (rcheck_any v l w4 (HV.out.ext HW4.out) HL.out).mono ?_
  rintro e w5 ⟨rfl, hb⟩
  rw [hc.out]
  have HW5 := Lib.hid (bthen HW4.out hb)
  clear hb
  go_wp2_with fail
  refine (works12_any w5 (HMl.out.ext HW5.out)).mono ?_
  rintro e w6 ⟨rfl, hb⟩
  have HW6 := Lib.hid (bthen HW5.out hb)
  clear hb
  go_wp2_with fail
  go_ret
  exact ⟨rfl, HW6.out⟩
end Go.Proofs.YtopamnfelngkcaaDoor.Rf
