/-
  BloomMakes: what the program makes, the document's. No condition besides what the arguments are.
-/
import Derived.Test.YtopamnfelngkcaaW14
import Derived.Test.YtopamnfelngkcaaW15
import Derived.Test.YtopamnfelngkcaaStr
namespace Go.Proofs.Ytopamnfelngkcaa
open Go.Proofs Go.RowKit Go.Shelf Go.Sl Go.Bl
set_option linter.unusedVariables false

set_option maxRecDepth 100000 in
theorem same_any (v1 v2 : Value) (l1 l2 : List UInt8) (w : World) (h1 : Sl eByte 1 w v1 l1) (h2 : Sl eByte 1 w v2 l2) : Calls Try.prog 12 #[v1, v2] w fun e w' => e = .returned (.bool (decide (l1 = l2))) ∧ w = w' := by
  have hc1 := h1.run_string (P := Try.prog) Try.underlying28 Try.underlying5 Try.underlying9
  have hc2 := h2.run_string (P := Try.prog) Try.underlying28 Try.underlying5 Try.underlying9
  have hb : (l1 == l2) = decide (l1 = l2) := by
    rw [Bool.eq_iff_iff, beq_iff_eq, decide_eq_true_iff]
  go_enter Try.func12, Try.ntmps12
  go_wp2_with fail
  go_ret
  exact ⟨rfl, rfl⟩

theorem same_yes (v1 v2 : Value) (l : List UInt8) (w : World) (h1 : Sl eByte 1 w v1 l) (h2 : Sl eByte 1 w v2 l) :
    Calls Try.prog 12 #[v1, v2] w fun e w' => e = .returned (.bool true) ∧ w = w' :=
  (same_any v1 v2 l l w h1 h2).mono fun e w' ⟨h1, h2⟩ => ⟨by rw [h1]; simp, h2⟩

set_option maxRecDepth 100000 in
set_option maxHeartbeats 1000000 in
theorem bloomMakes_any (v : Value) (L : List Str) (w : World) (hv : Sl eL 1 w v L) (hl : ∀ x ∈ L, x.length ≤ 9223372036854775807) :
    Calls Try.prog 4 #[v] w fun e w' => e = .returned (.bool true) ∧ Below w.heap.size w w' := by
  have hlen := hv.run_len (P := Try.prog) Try.underlying26
  have HV := Lib.hid hv
  have HL := Lib.hid (large_any v L w hv hl)
  clear hv
  cases hlg : largeF L with
  | true =>
    rw [hlg] at HL
    go_enter Try.func4, Try.ntmps4
    go_wp2_with fail
    refine HL.out.mono ?_
    rintro e w1 ⟨rfl, rfl⟩
    clear HL
    go_wp2_with fail
    refine (works_any w).mono ?_
    rintro e w1 ⟨rfl, hb⟩
    have HW := Lib.hid hb
    clear hb
    go_wp2_with fail
    go_ret
    exact ⟨rfl, HW.out⟩
  | false =>
    obtain ⟨hL1, hL2⟩ := largeF_no hlg
    rw [hlg] at HL
    have HX : Hid (∀ x ∈ L, x.length ≤ 100000) := Lib.hid (fun x hx => by have := hL2 x hx; omega)
    clear hL2 hl hlg
    go_enter Try.func4, Try.ntmps4
    go_wp2_with fail
    refine HL.out.mono ?_
    rintro e w1 ⟨rfl, rfl⟩
    clear HL
    go_wp2_with fail
    go_loopw [3, 4] (fun s3 s4 wr => ∃ (k : Nat) (i : Int) (R : List Str), s4 = .int .i64 i ∧ Hid (i = (k : Int) - 1) ∧ k ≤ L.length ∧ Hid (R = (L.drop k).reverse) ∧ R.length ≤ 260 ∧ Hid (Sl.Own eL 1 w.heap.size 9 wr s3 R) ∧ Hid (Below w.heap.size w wr)) (fun _ s4 _ => (intOf s4 + 1).toNat)
    case atStart => exact ⟨L.length, _, [], rfl, Lib.hid (by omega), by omega, Lib.hid (by simp), by simp, Lib.hid (Sl.Own.nil _ _ _ _ _), Lib.hid (Below.refl _ _)⟩
    case round =>
      obtain ⟨wo, rfl⟩ : ∃ u : World, u = wr := ⟨_, rfl⟩
      obtain ⟨k, i, R, rfl, hi, hk, hR, hRl, HO, HW⟩ := hrel
      by_cases hk0 : k = 0
      · have d1 : decide (0 ≤ i) = false := decide_eq_false (by have := hi.out; omega)
        have hRm : Hid (∀ x, x ∈ R ↔ x ∈ L) := Lib.hid (fun x => by rw [hR.out, hk0, List.drop_zero, List.mem_reverse])
        have HRs := Lib.hid (HO.out.sl len_eL)
        clear hi hk0
        go_wp2_with fail
        refine (rmake_any v L wo (HV.out.ext HW.out) (by omega) HX.out).mono ?_
        rintro e w2 ⟨v2, T, f, rfl, hun, hmk, hown, hb⟩
        have HU := Lib.hid hun
        have HM := Lib.hid hmk
        have hfl := hmk.len
        have HF := Lib.hid (hown.sl len_eByte)
        have HW2 := Lib.hid (bthen HW.out hb)
        have HR2 := Lib.hid (HRs.out.ext hb)
        clear hun hmk hown hb
        go_wp2_with fail
        refine (make_any v L w2 (HV.out.ext HW2.out) (by omega) HX.out).mono ?_
        rintro e w3 ⟨v3, T3, f3, rfl, hun, hmk, hown, hb⟩
        obtain rfl := hun.uniq HU.out
        obtain rfl := hmk.uniq HM.out
        have HF3 := Lib.hid (hown.sl len_eByte)
        have HF2 := Lib.hid (HF.out.ext hb)
        have HW3 := Lib.hid (bthen HW2.out hb)
        have HR3 := Lib.hid (HR2.out.ext hb)
        clear hun hmk hown hb
        go_wp2_with fail
        refine (same_yes v3 v2 _ w3 HF3.out HF2.out).mono ?_
        rintro e w4 ⟨rfl, rfl⟩
        go_wp2_with fail
        refine (make_any _ R w3 HR3.out (by omega) (fun x hx => HX.out x ((hRm.out x).1 hx))).mono ?_
        rintro e w5 ⟨v5, T5, f5, rfl, hun, hmk, hown, hb⟩
        obtain rfl := (hun.congr hRm.out).uniq HU.out
        obtain rfl := hmk.uniq HM.out
        have HF5 := Lib.hid (hown.sl len_eByte)
        have HF6 := Lib.hid (HF2.out.ext hb)
        have HW5 := Lib.hid (bthen HW3.out hb)
        clear hun hmk hown hb
        go_wp2_with fail
        refine (same_yes v5 v2 _ w5 HF5.out HF6.out).mono ?_
        rintro e w6 ⟨rfl, rfl⟩
        go_wp2_with fail
        refine (works_any w5).mono ?_
        rintro e w7 ⟨rfl, hb⟩
        have HW7 := Lib.hid (bthen HW5.out hb)
        clear hb
        go_wp2_with fail
        go_ret
        exact ⟨rfl, HW7.out⟩
      · obtain ⟨j, rfl⟩ : ∃ j, k = j + 1 := ⟨k - 1, by omega⟩
        have hij : i = (j : Int) := by have := hi.out; omega
        subst hij
        have d1 : decide (0 ≤ (j : Int)) = true := decide_eq_true (by omega)
        have hjl : j < L.length := by omega
        obtain ⟨b5, o5, hb5, hix, hcell⟩ := HV.out.atB HW.out (P := Try.prog) Try.underlying26 cells9 some9 hjl
        have e1 := hcell 0 (by omega)
        obtain ⟨x, hx⟩ : ∃ x, Hid (L[j] = x) := ⟨_, Lib.hid rfl⟩
        simp only [eL, List.getElem?_cons_zero, Nat.add_zero] at e1
        rw [hx.out] at e1
        have hR2 : Hid (R ++ [x] = (L.drop j).reverse) := Lib.hid (by rw [hR.out, List.drop_eq_getElem_cons hjl, hx.out]; simp)
        have hRl2 : R.length + 1 ≤ 260 := by
          have := congrArg List.length hR2.out
          rw [List.length_append, List.length_reverse, List.length_drop] at this
          simp at this
          omega
        clear hcell hk0
        go_wp2_with (at_builtin; go_must (refine wpList_append1 rfl (en := eL) (s := 1) (base := w.heap.size) (e := 9) _ _ 26 rfl (.string .empty) 16 Try.underlying26 info9 rfl (by decide) len_eL one_eL _ _ R x rfl (HO.out.alloc _) rfl (Sl.fresh len_eL rfl rfl rfl (by simp [maxLen])) (by simp only [maxLen]; omega) (by omega) (by have := HW.out.size; simp; omega) ?_; intro ov' w6 hown hgr hbel hblk; have HO2 := Lib.hid hown; have HW2 := Lib.hid ((HW.out.alloc HW.out.size _).trans hbel); clear hown hgr hbel hblk))
        go_roundw
        case rel => exact ⟨j, (j : Int) - 1, R ++ [x], by go_num, Lib.hid rfl, by omega, hR2, by simp; omega, HO2, HW2⟩
        case measure => simp [intOf]
end Go.Proofs.Ytopamnfelngkcaa
