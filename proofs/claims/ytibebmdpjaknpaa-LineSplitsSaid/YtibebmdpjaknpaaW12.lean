/-
  LineSplits: what the program answers, the document's. No condition besides what the argument is.
-/
import Derived.Test.YtibebmdpjaknpaaW3
import Derived.Test.YtibebmdpjaknpaaW5
import Derived.Test.YtibebmdpjaknpaaW11
namespace Go.Proofs.Ytibebmdpjaknpaa
open Go.RowKit Go.Sl
set_option linter.unusedVariables false

theorem sameS_yes (v1 v2 : Value) (l : List (List UInt8)) (w : World) (h1 : Sl eL 1 w v1 l) (h2 : Sl eL 1 w v2 l) :
    Calls Try.prog 14 #[v1, v2] w fun e w' => e = .returned (.bool true) ∧ Below w.heap.size w w' :=
  (sameS_any v1 v2 l l w h1 h2).mono fun e w' ⟨h1, n, h2⟩ => ⟨by rw [h1]; simp, by rw [h2]; exact below_drewN (Below.refl _ _) n⟩
theorem sameB_yes (v1 v2 : Value) (l : List UInt8) (w : World) (h1 : Sl eByte 1 w v1 l) (h2 : Sl eByte 1 w v2 l) :
    Calls Try.prog 15 #[v1, v2] w fun e w' => e = .returned (.bool true) ∧ w = w' :=
  (sameB_any v1 v2 l l w h1 h2).mono fun e w' ⟨h1, h2⟩ => ⟨by rw [h1]; simp, h2⟩

set_option maxRecDepth 100000 in
set_option maxHeartbeats 1000000 in
theorem lineSplits_any (v : Value) (l : List UInt8) (w : World) (h : Sl eByte 1 w v l) :
    Calls Try.prog 5 #[v] w fun e w' => e = .returned (.bool true) ∧ Below w.heap.size w w' := by
  have hlen := h.run_len (P := Try.prog) Try.underlying31
  have hmax := h.len_le
  have HA := Lib.hid h
  clear h
  by_cases h1 : 3000 < l.length
  · have d1 : decide ((3000 : Int) < l.length) = true := decide_eq_true (by omega)
    go_enter Try.func5, Try.ntmps5
    go_wp2_with fail
    refine (works_any w).mono ?_
    rintro e w1 ⟨rfl, hb⟩
    have HW := Lib.hid hb
    clear hb
    go_wp2_with fail
    go_ret
    exact ⟨rfl, HW.out⟩
  · have d1 : decide ((3000 : Int) < l.length) = false := decide_eq_false (by omega)
    have hll := Line.len_lines l
    obtain ⟨M, HM⟩ : ∃ M, Hid (Line.lines l = M) := ⟨_, Lib.hid rfl⟩
    have HF := Lib.hid (Line.flat_lines l)
    obtain ⟨C, HCf⟩ : ∃ C, Hid (fitN l = C) := ⟨_, Lib.hid rfl⟩
    rw [HM.out] at hll HF
    have hC := HCf.out
    unfold fitN at hC
    rw [HM.out] at hC
    obtain ⟨Y, HY⟩ : ∃ Y, Hid (bin l = Y) := ⟨_, Lib.hid rfl⟩
    have hYY : (Y != Y) = false := by simp
    have HLM := Lib.hid hll
    have HCC := Lib.hid hC
    clear hll hC
    go_enter Try.func5, Try.ntmps5
    go_wp2_with fail
    refine (split_any v l w HA.out (by omega)).mono ?_
    rintro e w1 ⟨x, rfl, hx, hb⟩
    rw [HM.out] at hx
    have HX := Lib.hid (hx.sl len_eL)
    have HW1 := Lib.hid hb
    clear hx hb
    go_wp2_with fail
    refine (rsplit_any v l w1 (HA.out.ext HW1.out) (by omega)).mono ?_
    rintro e w2 ⟨y, rfl, hy, hb⟩
    rw [HM.out] at hy
    have HY2 := Lib.hid (hy.sl len_eL)
    have HX2 := Lib.hid (HX.out.ext hb)
    have HW2 := Lib.hid (below_then' HW1.out hb)
    clear hy hb
    go_wp2_with fail
    refine (fit_any v l w2 (HA.out.ext HW2.out)).mono ?_
    rintro e w3 ⟨rfl, hb⟩
    rw [HCf.out]
    have HY3 := Lib.hid (HY2.out.ext hb)
    have HX3 := Lib.hid (HX2.out.ext hb)
    have HW3 := Lib.hid (below_then' HW2.out hb)
    clear hb
    go_wp2_with fail
    refine (sameS_yes x y _ w3 HX3.out HY3.out).mono ?_
    rintro e w4 ⟨rfl, hb⟩
    have HY4 := Lib.hid (HY3.out.ext hb)
    have HX4 := Lib.hid (HX3.out.ext hb)
    have HW4 := Lib.hid (below_then' HW3.out hb)
    clear hb
    go_wp2_with fail
    refine (join_any x _ w4 HX4.out (by have := HLM.out; omega) (by rw [HF.out]; omega)).mono ?_
    rintro e w5 ⟨z, rfl, hz, hb⟩
    rw [HF.out] at hz
    have HZ := Lib.hid hz
    have hly := (HY4.out.ext hb).run_len (P := Try.prog) Try.underlying22
    have HW5 := Lib.hid (below_then' HW4.out hb)
    clear hz hb
    go_wp2_with fail
    refine (sameB_yes z v l w5 HZ.out (HA.out.ext HW5.out)).mono ?_
    rintro e w6 ⟨rfl, rfl⟩
    go_wp2_with fail
    refine (binary_any v l w5 (HA.out.ext HW5.out)).mono ?_
    rintro e w6 ⟨rfl, rfl⟩
    rw [HY.out]
    go_wp2_with fail
    refine (rbinary_any v l w5 (HA.out.ext HW5.out)).mono ?_
    rintro e w6 ⟨rfl, rfl⟩
    rw [HY.out]
    by_cases hq : M.length ≤ 400
    · have d4 : decide ((M.length : Int) ≤ 400) = true := decide_eq_true (by omega)
      obtain rfl : C = 0 := by have := HCC.out; rw [if_pos hq] at this; exact this.symm
      clear hq
      go_wp2_with fail
      refine (works_any w5).mono ?_
      rintro e w7 ⟨rfl, hb⟩
      have HW7 := Lib.hid (below_then' HW5.out hb)
      clear hb
      go_wp2_with fail
      go_ret
      exact ⟨rfl, HW7.out⟩
    · have d4 : decide ((M.length : Int) ≤ 400) = false := decide_eq_false (by omega)
      obtain rfl : C = 3 := by have := HCC.out; rw [if_neg hq] at this; exact this.symm
      clear hq
      go_wp2_with fail
      refine (works_any w5).mono ?_
      rintro e w7 ⟨rfl, hb⟩
      have HW7 := Lib.hid (below_then' HW5.out hb)
      clear hb
      go_wp2_with fail
      go_ret
      exact ⟨rfl, HW7.out⟩
end Go.Proofs.Ytibebmdpjaknpaa
