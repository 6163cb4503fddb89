/-
  BloomPaths: every right path of a change, and what lies above it, may be in the filter of its paths. No condition besides what the arguments are.
-/
import Derived.Test.YtopamnfelngkcaaDoorBX13
import Derived.Test.YtopamnfelngkcaaDoorBX14
import Derived.Test.YtopamnfelngkcaaDoorBW14
namespace Go.Proofs.YtopamnfelngkcaaDoor.Bm
open Go.Proofs Go.RowKit Go.Shelf Go.Sl Go.Bl Go.Route
set_option linter.unusedVariables false

set_option maxRecDepth 100000 in
set_option maxHeartbeats 1000000 in
theorem bloomPaths_any (v : Value) (L : List Str) (w : World) (hv : Sl eL 1 w v L) (hl : ∀ x ∈ L, x.length ≤ 9223372036854775807) (hm : Ml w) :
    Calls Tryd.prog 9 #[v] w fun e w' => e = .returned (.bool true) ∧ Below w.heap.size w w' := by
  have hlen := hv.run_len (P := Tryd.prog) Tryd.underlying22
  have HV := Lib.hid hv
  have HMl := Lib.hid hm
  have HL := Lib.hid (large_any v L w hv hl)
  clear hv hm
  cases hlg : largeF L with
  | true =>
    rw [hlg] at HL
    go_enter Tryd.func9, Tryd.ntmps9
    go_wp2_with fail
    refine HL.out.mono ?_
    rintro e w1 ⟨rfl, rfl⟩
    clear HL
    go_wp2_with fail
    refine (works_any w).mono ?_
    rintro e w1 ⟨rfl, hb⟩
    have HW := Lib.hid hb
    clear hb
    go_wp2_with fail
    go_ret
    exact ⟨rfl, HW.out⟩
  | false =>
    obtain ⟨hL1, hL2⟩ := largeF_no hlg
    rw [hlg] at HL
    have HX := Lib.hid hL2
    have HPl := Lib.hid (pths_len hL2)
    have HPm := Lib.hid (fun x => pths_mem (x := x) hL2)
    clear hL2 hl hlg
    go_enter Tryd.func9, Tryd.ntmps9
    go_wp2_with fail
    refine HL.out.mono ?_
    rintro e w1 ⟨rfl, rfl⟩
    clear HL
    go_wp2_with fail
    refine (paths_any v L w HV.out hL1 HX.out HMl.out).mono ?_
    rintro e w2 ⟨v2, T, rfl, hun, hown, hb⟩
    have HU := Lib.hid hun
    have HT := Lib.hid (hown.sl len_eL)
    have HW2 := Lib.hid hb
    clear hun hown hb
    go_wp2_with fail
    refine (rpaths_any v L w2 (HV.out.ext HW2.out) hL1 HX.out (HMl.out.ext HW2.out)).mono ?_
    rintro e w3 ⟨v3, T3, rfl, hun, hown, hb⟩
    obtain rfl := hun.uniq HU.out
    have HT3 := Lib.hid (hown.sl len_eL)
    have HT2 := Lib.hid (HT.out.ext hb)
    have HW3 := Lib.hid (bthen HW2.out hb)
    clear hun hown hb
    go_wp2_with fail
    refine (sameS_any v2 v3 T3 T3 w3 HT2.out HT3.out).mono ?_
    rintro e w4 ⟨rfl, n4, rfl⟩
    have h44 : decide (T3 = T3) = true := decide_eq_true rfl
    rw [h44]
    have HB4 : Hid (Below w3.heap.size w3 (w3.drewN n4)) := Lib.hid (below_drewN (Below.refl _ _) n4)
    have HW4 := Lib.hid (bthen HW3.out HB4.out)
    have HT4 := Lib.hid (HT2.out.ext HB4.out)
    obtain ⟨w4, hw4⟩ : ∃ u, u = w3.drewN n4 := ⟨_, rfl⟩
    rw [← hw4] at HW4 HT4 ⊢
    clear hw4 HB4
    have hTl : T3.length ≤ 100000 := by have := HU.out.len; have := HPl.out; omega
    go_wp2_with fail
    refine (make_any v2 T3 w4 HT4.out hTl (fun x hx => by have := HPm.out x ((HU.out.2 x).1 hx); omega)).mono ?_
    rintro e w5 ⟨fv, T5, f, rfl, hun, hmk, hown, hb⟩
    have HF := Lib.hid (hown.sl len_eByte)
    have HH : Hid (∀ x ∈ pths L, hasF f x = true) := Lib.hid (fun x hx => hmk.has ((hun.2 x).2 ((HU.out.2 x).2 hx)))
    have hf := hmk.len
    have HW5 := Lib.hid (bthen HW4.out hb)
    clear hun hmk hown hb
    go_wp2_with fail
    go_loopw [5] (fun i wr => ∃ (k : Nat), i = .int .i64 k ∧ k ≤ L.length ∧ Hid (Below w5.heap.size w5 wr)) (fun i _ => L.length - (intOf i).toNat)
    case atStart => exact ⟨0, rfl, by omega, Lib.hid (Below.refl _ _)⟩
    case round =>
      obtain ⟨wo, rfl⟩ : ∃ u : World, u = wr := ⟨_, rfl⟩
      obtain ⟨k, rfl, hk, HW⟩ := hrel
      have HWr := Lib.hid (bthen HW5.out HW.out)
      by_cases hlt : k < L.length
      · have d3 : decide ((k : Int) < (L.length : Int)) = true := decide_eq_true (by omega)
        obtain ⟨b5, o5, hb5, hix, hcell⟩ := HV.out.atB HWr.out (P := Tryd.prog) Tryd.underlying22 cells9 some9 hlt
        have e1 := hcell 0 (by omega)
        obtain ⟨x, hx⟩ : ∃ x, Hid (L[k] = x) := ⟨_, Lib.hid rfl⟩
        simp only [eL, List.getElem?_cons_zero, Nat.add_zero] at e1
        rw [hx.out] at e1
        have hxm : Hid (x ∈ L) := Lib.hid (by rw [← hx.out]; exact List.getElem_mem hlt)
        have hxl : x.length ≤ 200 := HX.out x hxm.out
        have HR := Lib.hid (rright_any x wo (by omega))
        clear hcell
        go_wp2_with fail
        refine HR.out.mono ?_
        rintro e w6 ⟨rfl, hb⟩
        have HW6 := Lib.hid (bthen HW.out hb)
        have HWr6 := Lib.hid (bthen HWr.out hb)
        clear hb HR
        obtain ⟨b7, o7, hb7, hix7, hcell7⟩ := HV.out.atB HWr6.out (P := Tryd.prog) Tryd.underlying22 cells9 some9 hlt
        have e7 := hcell7 0 (by omega)
        simp only [eL, List.getElem?_cons_zero, Nat.add_zero] at e7
        rw [hx.out] at e7
        clear hcell7 hix e1 hb5
        cases hr : rgt x with
        | false =>
          go_wp2_with fail
          go_roundw
          case rel => exact ⟨k + 1, by go_num, by omega, HW6⟩
          case measure => simp [intOf]; omega
        | true =>
          have HIn : Hid (∀ z ∈ ups x, z ∈ pths L) := Lib.hid (fun z hz => mem_pths hxm.out hr hz)
          clear hr
          go_wp2_with fail
          go_loopw [6] (fun s6 wr => ∃ (y : Str), s6 = .string (bstr y) ∧ y.length ≤ 200 ∧ Hid (∀ z ∈ ups y, z ∈ pths L) ∧ Hid (Below w5.heap.size w5 wr)) (fun s6 _ => match s6 with | .string b => b.size | _ => 0)
          case atStart => exact ⟨x, rfl, hxl, HIn, HW6⟩
          case round =>
            obtain ⟨wc, rfl⟩ : ∃ u : World, u = wr := ⟨_, rfl⟩
            obtain ⟨y, rfl, hyl, HY, HWc⟩ := hrel
            by_cases hy : y = []
            · subst hy
              go_wp2_with fail
              go_roundw
              case rel => exact ⟨k + 1, by go_num, by omega, HWc⟩
              case measure => simp [intOf]; omega
            · have hdl := dir_lt hy
              have hne : (y == ([] : List UInt8)) = false := by simpa using hy
              have HY2 : Hid (∀ z ∈ ups (dirOf y), z ∈ pths L) := Lib.hid (fun z hz => HY.out z (by rw [ups_cons hy]; exact List.mem_cons_of_mem _ hz))
              have HA := Lib.hid (has_any fv f y wc (HF.out.ext HWc.out) hf (by omega))
              rw [HH.out y (HY.out y (by rw [ups_cons hy]; exact List.mem_cons_self))] at HA
              go_wp2_with fail
              refine HA.out.mono ?_
              rintro e w7 ⟨rfl, hb⟩
              have HW7 := Lib.hid (bthen HWc.out hb)
              clear hb HA
              go_wp2_with fail
              refine (rdir_any y w7 (by omega)).mono ?_
              rintro e w8 ⟨rfl, rfl⟩
              go_wp2_with fail
              go_roundw
              case rel => exact ⟨dirOf y, rfl, by omega, HY2, HW7⟩
              case measure => simp [bstr_size]; omega
      · obtain rfl : k = L.length := by omega
        have d3 : decide ((L.length : Int) < (L.length : Int)) = false := decide_eq_false (by omega)
        go_wp2_with fail
        refine (works_any wo).mono ?_
        rintro e w9 ⟨rfl, hb⟩
        have HW9 := Lib.hid (bthen HWr.out hb)
        clear hb
        go_wp2_with fail
        go_ret
        exact ⟨rfl, HW9.out⟩
end Go.Proofs.YtopamnfelngkcaaDoor.Bm
