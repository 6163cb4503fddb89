/-
  Layer 16: the document's Paths. No condition besides what the arguments are.
-/
import Derived.Test.YtopamnfelngkcaaDoorBP6
import Derived.Test.YtopamnfelngkcaaDoorBW12
import Derived.Test.YtopamnfelngkcaaDoorW5
namespace Go.Proofs.YtopamnfelngkcaaDoor.Bm
open Go.Proofs Go.RowKit Go.Shelf Go.Sl Go.Bl Go.Route
set_option linter.unusedVariables false

set_option maxRecDepth 100000 in
set_option maxHeartbeats 1000000 in
theorem rpaths_any (v : Value) (L : List Str) (w : World) (hv : Sl eL 1 w v L) (hL : L.length ≤ 260) (hl : ∀ x ∈ L, x.length ≤ 200) (hm : Ml w) :
    Calls Tryd.prog 43 #[v] w fun e w' => ∃ (ov : Value) (T : List Str), e = .returned ov ∧ Un (pths L) T ∧ Sl.Own eL 1 w.heap.size 9 w' ov T ∧ Below w.heap.size w w' := by
  have hlen := hv.run_len (P := Tryd.prog) Tryd.underlying22
  have HV := Lib.hid hv
  have HL := Lib.hid hl
  have HMl := Lib.hid hm
  have hpl := pths_len hl
  have HPm := Lib.hid (fun x => pths_mem (x := x) hl)
  obtain ⟨PS, hPS⟩ : ∃ PS, Hid (pths L = PS) := ⟨_, Lib.hid rfl⟩
  rw [hPS.out] at hpl
  clear hv hl hm
  go_enter Tryd.func43, Tryd.ntmps43
  go_wp2_with fail
  go_loopw [3, 4] (fun s3 i wr => ∃ (k : Nat) (X : List Str), i = .int .i64 k ∧ k ≤ L.length ∧ Hid (pths (L.take k) = X) ∧ Hid (Sl.Own eL 1 w.heap.size 9 wr s3 X) ∧ Hid (Below w.heap.size w wr)) (fun _ i _ => L.length - (intOf i).toNat)
  case atStart => exact ⟨0, [], rfl, by omega, Lib.hid rfl, Lib.hid (Sl.Own.nil _ _ _ _ _), Lib.hid (Below.refl _ _)⟩
  case round =>
    obtain ⟨wo, rfl⟩ : ∃ u : World, u = wr := ⟨_, rfl⟩
    obtain ⟨k, X, rfl, hk, HX, HO, HW⟩ := hrel
    by_cases hlt : k < L.length
    · have d2 : decide ((k : Int) < (L.length : Int)) = true := decide_eq_true (by omega)
      obtain ⟨b5, o5, hb5, hix, hcell⟩ := HV.out.atB HW.out (P := Tryd.prog) Tryd.underlying22 cells9 some9 hlt
      have e1 := hcell 0 (by omega)
      obtain ⟨x, hx⟩ : ∃ x, Hid (L[k] = x) := ⟨_, Lib.hid rfl⟩
      simp only [eL, List.getElem?_cons_zero, Nat.add_zero] at e1
      rw [hx.out] at e1
      have hxl : x.length ≤ 200 := HL.out _ (by rw [← hx.out]; exact List.getElem_mem hlt)
      have HT : Hid (pths (L.take (k + 1)) = X ++ (if rgt x then ups x else [])) := Lib.hid (by rw [List.take_succ_eq_append_getElem hlt, pths_snoc, hx.out, HX.out])
      have HR := Lib.hid (rright_any x wo (by omega))
      clear hcell
      go_wp2_with fail
      refine HR.out.mono ?_
      rintro e w2 ⟨rfl, hb⟩
      have HW2 := Lib.hid (bthen HW.out hb)
      have HO2 := Lib.hid (HO.out.ext hb)
      clear hb HR
      obtain ⟨b7, o7, hb7, hix7, hcell7⟩ := HV.out.atB HW2.out (P := Tryd.prog) Tryd.underlying22 cells9 some9 hlt
      have e7 := hcell7 0 (by omega)
      simp only [eL, List.getElem?_cons_zero, Nat.add_zero] at e7
      rw [hx.out] at e7
      clear hcell7 hix e1 hb5
      cases hr : rgt x with
      | false =>
        have HT2 : Hid (pths (L.take (k + 1)) = X) := Lib.hid (by rw [HT.out, hr]; simp)
        clear HT hr
        go_wp2_with fail
        go_roundw
        case rel => exact ⟨k + 1, X, by go_num, by omega, HT2, HO2, HW2⟩
        case measure => simp [intOf]; omega
      | true =>
        have HT2 : Hid (pths (L.take (k + 1)) = X ++ ups x) := Lib.hid (by rw [HT.out, hr]; simp)
        have hXl : Hid (X.length ≤ 200 * k) := Lib.hid (by
          have := pths_len (L := L.take k) (fun y hy => HL.out y (List.mem_of_mem_take hy))
          rw [HX.out, List.length_take] at this; omega)
        clear HT hr
        go_wp2_with fail
        go_loopw [3, 5] (fun s3 s5 wr => ∃ (Y : List Str) (y : Str), s5 = .string (bstr y) ∧ Hid (Y ++ ups y = X ++ ups x) ∧ y.length ≤ 200 ∧ Hid (Y.length + y.length ≤ X.length + x.length) ∧ Hid (Sl.Own eL 1 w.heap.size 9 wr s3 Y) ∧ Hid (Below w.heap.size w wr)) (fun _ s5 _ => match s5 with | .string b => b.size | _ => 0)
        case atStart => exact ⟨X, x, rfl, Lib.hid rfl, by omega, Lib.hid (by omega), HO2, HW2⟩
        case round =>
          obtain ⟨wc, rfl⟩ : ∃ u : World, u = wr := ⟨_, rfl⟩
          obtain ⟨Y, y, rfl, HY, hyl, hYl, HO3, HW3⟩ := hrel
          by_cases hy : y = []
          · subst hy
            have HY2 : Hid (pths (L.take (k + 1)) = Y) := Lib.hid (by rw [HT2.out, ← HY.out, ups_nil, List.append_nil])
            go_wp2_with fail
            go_roundw
            case rel => exact ⟨k + 1, Y, by go_num, by omega, HY2, HO3, HW3⟩
            case measure => simp [intOf]; omega
          · have hYm : Y.length ≤ 100000 := by have := hYl.out; have := hXl.out; omega
            have hdl := dir_lt hy
            have HY2 : Hid ((Y ++ [y]) ++ ups (dirOf y) = X ++ ups x) := Lib.hid (by rw [← HY.out, ups_cons hy]; simp)
            have hYl2 : Hid ((Y ++ [y]).length + (dirOf y).length ≤ X.length + x.length) := Lib.hid (by have := hYl.out; rw [List.length_append, List.length_singleton]; omega)
            have hne : (y == ([] : List UInt8)) = false := by simpa using hy
            go_wp2_with (first
              | (go_at_call 34; have _g := HO4.out; go_must (refine (rdir_any y _ (by omega)).mono ?_; rintro e w7 ⟨rfl, rfl⟩))
              | (at_builtin; go_must (refine wpList_append1 rfl (en := eL) (s := 1) (base := w.heap.size) (e := 9) _ _ 22 rfl (.string .empty) 16 Tryd.underlying22 info9 rfl (by decide) len_eL one_eL _ _ Y y rfl (HO3.out.alloc _) rfl (Sl.fresh len_eL rfl rfl rfl (by simp [maxLen])) (by simp only [maxLen]; omega) (by omega) (by have := HW3.out.size; simp; omega) ?_; intro ov' w6 hown hgr hbel hblk; have HO4 := Lib.hid hown; have HW4 := Lib.hid ((HW3.out.alloc HW3.out.size _).trans hbel); clear hown hgr hbel hblk)))
            go_roundw
            case rel => exact ⟨Y ++ [y], dirOf y, rfl, HY2, by omega, hYl2, HO4, HW4⟩
            case measure => simp [bstr_size]; omega
    · obtain rfl : k = L.length := by omega
      have d2 : decide ((L.length : Int) < (L.length : Int)) = false := decide_eq_false (by omega)
      have HX2 : Hid (X = PS) := Lib.hid (by rw [← HX.out, List.take_length, hPS.out])
      obtain rfl := HX2.out
      have HU := Lib.hid (runlike_any _ X wo (HO.out.sl len_eL) (by omega))
      go_wp2_with fail
      refine HU.out.mono ?_
      rintro e w3 ⟨ov, T, rfl, hun, hown, hb⟩
      have HUn := Lib.hid hun
      have HOw := Lib.hid hown
      have HB := Lib.hid hb
      clear hun hown hb
      go_wp2_with fail
      go_ret
      exact ⟨_, T, rfl, by rw [hPS.out]; exact HUn.out, HOw.out.mono HW.out.size, bthen HW.out HB.out⟩
end Go.Proofs.YtopamnfelngkcaaDoor.Bm
