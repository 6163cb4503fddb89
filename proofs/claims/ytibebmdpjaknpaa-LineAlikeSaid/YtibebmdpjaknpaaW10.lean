/-
  LineNumbers: what the program answers, the document's. No condition besides what the arguments are.
-/
import Derived.Test.YtibebmdpjaknpaaW6
import Derived.Test.YtibebmdpjaknpaaW8
import Derived.Test.YtibebmdpjaknpaaW9
namespace Go.Proofs.Ytibebmdpjaknpaa
open Go.RowKit Go.Sl
set_option linter.unusedVariables false

theorem below_then {w w1 w2 : World} (h : Below w.heap.size w w1) (h2 : Below w1.heap.size w1 w2) : Below w.heap.size w w2 := h.trans (h2.mono h.size)
theorem same_yes (v1 v2 : Value) (l : List Int) (w : World) (h1 : Sl eInt 1 w v1 l) (h2 : Sl eInt 1 w v2 l) :
    Calls Try.prog 9 #[v1, v2] w fun e w' => e = .returned (.bool true) ∧ Below w.heap.size w w' :=
  (same_any v1 v2 l l w h1 h2).mono fun e w' ⟨h1, n, h2⟩ => ⟨by rw [h1]; simp, by rw [h2]; exact below_drewN (Below.refl _ _) n⟩

set_option maxRecDepth 100000 in
set_option maxHeartbeats 1000000 in
theorem lineNumbers_any (va vb : Value) (a b : List (List UInt8)) (w : World) (ha : Sl eL 1 w va a) (hb : Sl eL 1 w vb b) (sa : ∀ s ∈ a, (bstr s).size ≤ maxLen) (sb : ∀ s ∈ b, (bstr s).size ≤ maxLen) :
    Calls Try.prog 3 #[va, vb] w fun e w' => e = .returned (.bool true) ∧ Below w.heap.size w w' := by
  have hlen := ha.run_len (P := Try.prog) Try.underlying22
  have hlen2 := hb.run_len (P := Try.prog) Try.underlying22
  have hmax := ha.len_le
  have hmax2 := hb.len_le
  have HA := Lib.hid ha
  have HB := Lib.hid hb
  have HSa := Lib.hid sa
  have HSb := Lib.hid sb
  clear ha hb sa sb
  by_cases h1 : 200 < a.length
  · have d1 : decide ((200 : Int) < a.length) = true := decide_eq_true (by omega)
    go_enter Try.func3, Try.ntmps3
    go_wp2_with fail
    refine (works_any w).mono ?_
    rintro e w1 ⟨rfl, hb⟩
    have HW := Lib.hid hb
    clear hb
    go_wp2_with fail
    go_ret
    exact ⟨rfl, HW.out⟩
  · have d1 : decide ((200 : Int) < a.length) = false := decide_eq_false (by omega)
    by_cases h2 : 200 < b.length
    · have d2 : decide ((200 : Int) < b.length) = true := decide_eq_true (by omega)
      go_enter Try.func3, Try.ntmps3
      go_wp2_with fail
      refine (works_any w).mono ?_
      rintro e w1 ⟨rfl, hb⟩
      have HW := Lib.hid hb
      clear hb
      go_wp2_with fail
      go_ret
      exact ⟨rfl, HW.out⟩
    · have d2 : decide ((200 : Int) < b.length) = false := decide_eq_false (by omega)
      go_enter Try.func3, Try.ntmps3
      go_wp2_with fail
      refine (numbers_any va vb a b w HA.out HB.out (by omega) (by omega) HSa.out HSb.out).mono ?_
      rintro e w1 ⟨x, y, rfl, hx, hy, hb⟩
      have HX := Lib.hid (hx.sl len_eInt)
      have HY := Lib.hid (hy.sl len_eInt)
      have HW1 := Lib.hid hb
      clear hx hy hb
      go_wp2_with fail
      refine (rnums_any va vb a b w1 (HA.out.ext HW1.out) (HB.out.ext HW1.out) (by omega) (by omega)).mono ?_
      rintro e w2 ⟨p, q, rfl, hx, hy, hb⟩
      have HP := Lib.hid (hx.sl len_eInt)
      have HQ := Lib.hid (hy.sl len_eInt)
      have HX2 := Lib.hid (HX.out.ext hb)
      have HY2 := Lib.hid (HY.out.ext hb)
      have HW2 := Lib.hid (below_then HW1.out hb)
      clear hx hy hb
      go_wp2_with fail
      refine (same_yes x p _ w2 HX2.out HP.out).mono ?_
      rintro e w3 ⟨rfl, hb⟩
      have HY3 := Lib.hid (HY2.out.ext hb)
      have HQ3 := Lib.hid (HQ.out.ext hb)
      have HW3 := Lib.hid (below_then HW2.out hb)
      clear hb
      go_wp2_with fail
      refine (same_yes y q _ w3 HY3.out HQ3.out).mono ?_
      rintro e w4 ⟨rfl, hb⟩
      have HW4 := Lib.hid (below_then HW3.out hb)
      clear hb
      go_wp2_with fail
      refine (works_any w4).mono ?_
      rintro e w5 ⟨rfl, hb⟩
      have HW5 := Lib.hid (below_then HW4.out hb)
      clear hb
      go_wp2_with fail
      go_ret
      exact ⟨rfl, HW5.out⟩

/-- a list of strings, told by their bytes -/
theorem sl_map {α β : Type} {en : α → List Value} {en' : β → List Value} {s : Nat} {w : World} {v : Value} {l : List α} (f : α → β) (he : ∀ x, en x = en' (f x)) (h : Sl en s w v l) : Sl en' s w v (l.map f) := by
  obtain ⟨ao, cap, hv, h1, h2, h0, h3⟩ := h.shp
  refine ⟨ao, cap, by rw [List.length_map]; exact hv, by rw [List.length_map]; exact h1, h2, h0, ?_⟩
  rcases h3 with rfl | ⟨b, off, h4, h5, h6⟩
  · exact .inl rfl
  · refine .inr ⟨b, off, h4, h5, fun k hk j hj => ?_⟩
    rw [List.length_map] at hk
    rw [h6 k hk j hj, List.getElem_map, he]
theorem strs_lines {w : World} {v : Value} {l : List ByteArray} (h : Sl eStr 1 w v l) (hs : ∀ s ∈ l, s.size ≤ maxLen) : Sl eL 1 w v (l.map fun s => s.data.toList) ∧ ∀ s ∈ l.map (fun s => s.data.toList), (bstr s).size ≤ maxLen := by
  have hb : ∀ s : ByteArray, bstr s.data.toList = s := fun s => by cases s; simp [bstr]
  refine ⟨sl_map _ (fun s => by simp [eStr, eL, hb]) h, fun s hs' => ?_⟩
  obtain ⟨t, ht, rfl⟩ := List.mem_map.1 hs'
  rw [hb]; exact hs t ht
end Go.Proofs.Ytibebmdpjaknpaa
