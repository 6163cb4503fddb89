/-
  LineEnds: what the program answers, the document's. No condition besides what the arguments are.
-/
import Derived.Test.YtibebmdpjaknpaaDoorW16
namespace Go.Proofs.YtibebmdpjaknpaaDoor
open Go.RowKit Go.Sl
set_option linter.unusedVariables false

theorem below_then {w w1 w2 : World} (h : Below w.heap.size w w1) (h2 : Below w1.heap.size w1 w2) : Below w.heap.size w w2 := h.trans (h2.mono h.size)

set_option maxRecDepth 100000 in
set_option maxHeartbeats 1000000 in
theorem works_after (w : World) (va vb : Value) (a b : List Int) (l : List UInt8) (ha : Sl eInt 1 w va a) (hb : Sl eInt 1 w vb b) (hl : l.length ≤ 9223372036854775807) (h : 2000 < a.length ∨ 2000 < b.length ∨ 2000 < l.length) :
    Calls Tryd.prog 3 #[va, vb, .string (bstr l)] w fun e w' => e = .returned (.bool true) ∧ Below w.heap.size w w' := by
  have hlen := ha.run_len (P := Tryd.prog) Tryd.underlying22
  have hlen2 := hb.run_len (P := Tryd.prog) Tryd.underlying22
  have hmax := ha.len_le
  have hmax2 := hb.len_le
  clear ha hb
  by_cases h1 : 2000 < a.length
  · have d1 : decide ((2000 : Int) < a.length) = true := decide_eq_true (by omega)
    clear h
    go_enter Tryd.func3, Tryd.ntmps3
    go_wp2_with fail
    refine (works_any w).mono ?_
    rintro e w1 ⟨rfl, hb⟩
    have HW := Lib.hid hb
    clear hb
    go_wp2_with fail
    go_ret
    exact ⟨rfl, HW.out⟩
  · have d1 : decide ((2000 : Int) < a.length) = false := decide_eq_false (by omega)
    by_cases h2 : 2000 < b.length
    · have d2 : decide ((2000 : Int) < b.length) = true := decide_eq_true (by omega)
      clear h
      go_enter Tryd.func3, Tryd.ntmps3
      go_wp2_with fail
      refine (works_any w).mono ?_
      rintro e w1 ⟨rfl, hb⟩
      have HW := Lib.hid hb
      clear hb
      go_wp2_with fail
      go_ret
      exact ⟨rfl, HW.out⟩
    · have d2 : decide ((2000 : Int) < b.length) = false := decide_eq_false (by omega)
      have d3 : decide ((2000 : Int) < l.length) = true := decide_eq_true (by omega)
      clear h
      go_enter Tryd.func3, Tryd.ntmps3
      go_wp2_with fail
      refine (works_any w).mono ?_
      rintro e w1 ⟨rfl, hb⟩
      have HW := Lib.hid hb
      clear hb
      go_wp2_with fail
      go_ret
      exact ⟨rfl, HW.out⟩

set_option maxRecDepth 100000 in
set_option maxHeartbeats 1000000 in
theorem lineEnds_any (va vb : Value) (a b : List Int) (l : List UInt8) (w : World) (ha : Sl eInt 1 w va a) (hb : Sl eInt 1 w vb b) (hl : l.length ≤ 9223372036854775807) :
    Calls Tryd.prog 3 #[va, vb, .string (bstr l)] w fun e w' => e = .returned (.bool true) ∧ Below w.heap.size w w' := by
  by_cases h : 2000 < a.length ∨ 2000 < b.length ∨ 2000 < l.length
  · exact works_after w va vb a b l ha hb hl h
  have hlen := ha.run_len (P := Tryd.prog) Tryd.underlying22
  have hlen2 := hb.run_len (P := Tryd.prog) Tryd.underlying22
  have d1 : decide ((2000 : Int) < a.length) = false := decide_eq_false (by omega)
  have d2 : decide ((2000 : Int) < b.length) = false := decide_eq_false (by omega)
  have d3 : decide ((2000 : Int) < l.length) = false := decide_eq_false (by omega)
  have HA := Lib.hid ha
  have HB := Lib.hid hb
  clear ha hb h
  go_enter Tryd.func3, Tryd.ntmps3
  go_wp2_with fail
  refine (ends_any va vb a b w HA.out HB.out).mono ?_
  rintro e w1 ⟨x, y, rfl, hx, n, rfl⟩
  have HX := Lib.hid hx
  clear hx
  go_wp2_with fail
  refine (rends_any va vb a b (w.drewN n) ⟨HA.out.shp⟩ ⟨HB.out.shp⟩).mono ?_
  rintro e w2 ⟨x', y', rfl, hx, n2, rfl⟩
  obtain ⟨rfl, rfl⟩ := ends_one HX.out hx
  have HW := Lib.hid (below_drewN (Below.refl w.heap.size w) (n + n2))
  clear hx
  have f1 : ((x : Int) == x) = true := by simp
  have f2 : ((y : Int) == y) = true := by simp
  go_wp2_with fail
  refine (bare_any l _ hl).mono ?_
  rintro e w3 ⟨rfl, hb⟩
  have HW3 := Lib.hid (below_then HW.out hb)
  clear hb
  go_wp2_with fail
  refine (rbare_any l _ hl).mono ?_
  rintro e w4 ⟨rfl, rfl⟩
  have f3 : (bare l == bare l) = true := by simp
  go_wp2_with fail
  refine (works_any _).mono ?_
  rintro e w5 ⟨rfl, hb⟩
  have HW5 := Lib.hid (below_then HW3.out hb)
  clear hb
  go_wp2_with fail
  go_ret
  exact ⟨rfl, HW5.out⟩
end Go.Proofs.YtibebmdpjaknpaaDoor
