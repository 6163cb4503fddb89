/-
  Layer 12: Get. No condition besides what the arguments are.
-/
import Derived.Test.YtopamnfelngkcaaDoorRP4
import Derived.WalkMore
namespace Go.Proofs.YtopamnfelngkcaaDoor.Rf
open Go.Proofs Go.RowKit Go.Shelf Go.Sl Go.Route Go.Refs
set_option linter.unusedVariables false

theorem cut_any (c : UInt8) (l : List UInt8) (hl : l.length ≤ 100000) (w : World) (hm : Ml w) : Calls Tryd.prog 85 #[.string (bstr l), .string (bstr [c])] w fun e w' => e = .returned (.tuple #[.string (bstr (Lib.cut l [c]).1), .string (bstr (Lib.cut l [c]).2.1), .bool (Lib.cut l [c]).2.2]) ∧ Below w.heap.size w w' := by
  obtain ⟨m, hm⟩ := hm
  refine (Tryd.strings_Cut (bstr l) (bstr [c]) m w (by rw [bstr_size]; omega) hm).mono ?_
  rintro e w' ⟨rfl, n, rfl⟩
  exact ⟨rfl, below_drewN (Below.refl _ _) n⟩

/-- what the loop over lines keeps -/
def GI (b : List UInt8) (X : List Go.Sl.Rf) (r : List UInt8) : Prop := getG b = (getG r).map (X ++ ·) ∧ X.length + r.length ≤ b.length
theorem GI.step {b : List UInt8} {X : List Go.Sl.Rf} {s : List UInt8} (h : GI b X s) (h0 : s ≠ []) (h2 : (upto 10 s).length < s.length) {r : Go.Sl.Rf} (h3 : lineR (upto 10 s) = some r) : GI b (X ++ [r]) (s.drop ((upto 10 s).length + 1)) := by
  obtain ⟨h4, h5⟩ := h
  refine ⟨?_, by rw [List.length_append, List.length_singleton, List.length_drop]; omega⟩
  rw [h4, getG_cons h0 h2 h3]
  cases getG (s.drop ((upto 10 s).length + 1)) <;> simp
theorem GI.none {b : List UInt8} {X : List Go.Sl.Rf} {s : List UInt8} (h : GI b X s) (hn : getG s = none) : getF b = ([], 12) := by
  unfold getF; rw [h.1, hn]; rfl
theorem GI.done {b : List UInt8} {X : List Go.Sl.Rf} (h : GI b X []) : getG b = some X := by
  rw [h.1, getG_nil]; simp
theorem getF_some {b : List UInt8} {X : List Go.Sl.Rf} (h : getG b = some X) : getF b = if chk X = 0 then (X, 0) else ([], chk X) := by
  unfold getF; rw [h]

theorem cut_len (c : UInt8) (l : List UInt8) : (Lib.cut l [c]).1.length ≤ l.length ∧ (Lib.cut l [c]).2.1.length ≤ l.length := by
  by_cases h : (upto c l).length < l.length
  · rw [cut_hit h]; exact ⟨upto_le _ _, by simp only [List.length_drop]; omega⟩
  · rw [cut_miss h]; exact ⟨Nat.le_refl _, by simp⟩
theorem round_hit {r : List UInt8} (h1 : (Lib.cut r [10]).2.2 = true) (h2 : (Lib.cut (Lib.cut r [10]).1 [32]).2.2 = true) (h3 : (readF (Lib.cut (Lib.cut r [10]).1 [32]).1).2 = 0) :
    (upto 10 r).length < r.length ∧ lineR (upto 10 r) = some ⟨(Lib.cut (Lib.cut r [10]).1 [32]).2.1, (readF (Lib.cut (Lib.cut r [10]).1 [32]).1).1⟩ ∧ (Lib.cut r [10]).2.1 = r.drop ((upto 10 r).length + 1) := by
  by_cases h : (upto 10 r).length < r.length
  · rw [cut_hit h] at h2 h3 ⊢
    simp only at h2 h3 ⊢
    refine ⟨h, ?_, trivial⟩
    by_cases h4 : (upto 32 (upto 10 r)).length < (upto 10 r).length
    · rw [cut_hit h4] at h3 ⊢
      simp only at h3 ⊢
      rw [line_prog, if_pos ⟨h4, h3⟩]
    · rw [cut_miss h4] at h2; cases h2
  · rw [cut_miss h] at h1; cases h1
theorem round_miss {r : List UInt8} (h0 : r ≠ []) (hn : ¬ ((Lib.cut r [10]).2.2 = true ∧ (Lib.cut (Lib.cut r [10]).1 [32]).2.2 = true ∧ (readF (Lib.cut (Lib.cut r [10]).1 [32]).1).2 = 0)) : getG r = none := by
  by_cases h : (upto 10 r).length < r.length
  · refine getG_bad h0 ?_
    rw [cut_hit h] at hn
    simp only at hn
    rw [line_prog, if_neg]
    rintro ⟨h4, h5⟩
    rw [cut_hit h4] at hn
    exact hn (by simpa using h5)
  · exact getG_open h0 h

set_option maxRecDepth 100000 in
set_option maxHeartbeats 2000000 in
theorem get_any (v : Value) (b : List UInt8) (w : World) (hv : Sl eByte 1 w v b) (hb : b.length ≤ 100000) (hm : Ml w) :
    Calls Tryd.prog 59 #[v] w fun e w' => ∃ ov, e = .returned (.tuple #[ov, .int .i64 (getF b).2]) ∧ Sl eRf 33 w' ov (getF b).1 ∧ Below w.heap.size w w' := by
  have hcv := hv.run_string (P := Tryd.prog) Tryd.underlying34 Tryd.underlying5 Tryd.underlying9
  have HMl := Lib.hid hm
  have c1 : (⟨#[10]⟩ : ByteArray) = bstr [10] := rfl
  have c2 : (⟨#[32]⟩ : ByteArray) = bstr [32] := rfl
  clear hv hm
  go_enter Tryd.func59, Tryd.ntmps59
  go_wp2_with fail
  go_step3
  go_wp2_with fail
  go_step3
  go_wp2_with fail
  go_loopw [4, 5] (fun s4 s5 wr => ∃ (X : List Go.Sl.Rf) (r : List UInt8), s5 = .string (bstr r) ∧ Hid (GI b X r) ∧ Hid (Sl.Own eRf 33 w.heap.size 43 wr s4 X) ∧ Hid (Below w.heap.size w wr)) (fun _ s5 _ => match s5 with | .string s => s.size | _ => 0)
  case atStart => exact ⟨[], b, rfl, Lib.hid ⟨by simp, by simp⟩, Lib.hid (Sl.Own.nil _ _ _ _ _), Lib.hid (Below.refl _ _)⟩
  case round =>
    obtain ⟨wo, rfl⟩ : ∃ u : World, u = wr := ⟨_, rfl⟩
    obtain ⟨X, r, rfl, HI, HO, HW⟩ := hrel
    have hbl := HI.out.2
    by_cases h0 : r = []
    · subst h0
      have HD := Lib.hid HI.out.done
      have HN := Lib.hid (getG_len _ _ _ (Nat.le_refl _) HD.out)
      have HF := Lib.hid (getF_some HD.out)
      obtain ⟨c, hc⟩ : ∃ c, Hid (chk X = c) := ⟨_, Lib.hid rfl⟩
      have HC := Lib.hid (check_any u4 X wo (HO.out.sl len_eRf) (fun x hx => by have := HN.out.2 x hx; omega) (HMl.out.ext HW.out))
      rw [hc.out] at HC HF
      go_wp2_with fail
      refine HC.out.mono ?_
      rintro e w2 ⟨rfl, hb2⟩
      have HW2 := Lib.hid (bthen HW.out hb2)
      have HO2 := Lib.hid (HO.out.ext hb2)
      clear hb2 HC
      by_cases hc0 : c = 0
      · subst hc0
        have HF2 : Hid (getF b = (X, 0)) := Lib.hid (by rw [HF.out, if_pos rfl])
        go_wp2_with fail
        rw [Exit.noGoto_ret]; go_ret2
        rw [HF2.out]
        exact ⟨_, rfl, HO2.out.sl len_eRf, HW2.out⟩
      · have hne : (c == 0) = false := by rw [beq_eq_false_iff_ne]; exact hc0
        have HF2 : Hid (getF b = ([], c)) := Lib.hid (by rw [HF.out, if_neg hc0])
        go_wp2_with fail
        rw [Exit.noGoto_ret]; go_ret2
        rw [HF2.out]
        exact ⟨_, rfl, Sl.nil _ _ _, HW2.out⟩
    · have hne : (r == ([] : List UInt8)) = false := by simpa using h0
      have hne2 : r.isEmpty = false := by simpa using h0
      have H0 := Lib.hid h0
      have HC1 := Lib.hid (cut_any 10 r (by omega) wo (HMl.out.ext HW.out))
      have HRH := Lib.hid (round_hit (r := r))
      have HRM := Lib.hid (round_miss (r := r) h0)
      obtain ⟨hLl, hMl⟩ := cut_len 10 r
      obtain ⟨L, hL⟩ : ∃ x, Hid ((Lib.cut r [10]).1 = x) := ⟨_, Lib.hid rfl⟩
      obtain ⟨M, hM⟩ : ∃ x, Hid ((Lib.cut r [10]).2.1 = x) := ⟨_, Lib.hid rfl⟩
      obtain ⟨t1, ht1⟩ : ∃ x, Hid ((Lib.cut r [10]).2.2 = x) := ⟨_, Lib.hid rfl⟩
      rw [hL.out, hM.out, ht1.out] at HC1 HRH
      rw [hL.out, ht1.out] at HRM
      rw [hL.out] at hLl
      rw [hM.out] at hMl
      obtain ⟨hdl, hnl⟩ := cut_len 32 L
      obtain ⟨d, hd⟩ : ∃ x, Hid ((Lib.cut L [32]).1 = x) := ⟨_, Lib.hid rfl⟩
      obtain ⟨nm, hnm⟩ : ∃ x, Hid ((Lib.cut L [32]).2.1 = x) := ⟨_, Lib.hid rfl⟩
      obtain ⟨t2, ht2⟩ : ∃ x, Hid ((Lib.cut L [32]).2.2 = x) := ⟨_, Lib.hid rfl⟩
      rw [hd.out, hnm.out, ht2.out] at HRH
      rw [hd.out, ht2.out] at HRM
      rw [hd.out] at hdl
      rw [hnm.out] at hnl
      obtain ⟨i, hi⟩ : ∃ x, Hid ((readF d).1 = x) := ⟨_, Lib.hid rfl⟩
      obtain ⟨c, hc⟩ : ∃ x, Hid ((readF d).2 = x) := ⟨_, Lib.hid rfl⟩
      rw [hi.out, hc.out] at HRH
      rw [hc.out] at HRM
      clear h0
      go_wp2_with fail
      refine HC1.out.mono ?_
      rintro e w1 ⟨rfl, hb1⟩
      have HW1 := Lib.hid (bthen HW.out hb1)
      have HO1 := Lib.hid (HO.out.ext hb1)
      have HC2 := Lib.hid (cut_any 32 L (by omega) w1 (HMl.out.ext HW1.out))
      rw [hd.out, hnm.out, ht2.out] at HC2
      clear hb1 HC1
      go_wp2_with fail
      refine HC2.out.mono ?_
      rintro e w2 ⟨rfl, hb2⟩
      have HW2 := Lib.hid (bthen HW1.out hb2)
      have HO2 := Lib.hid (HO1.out.ext hb2)
      have HC3 := Lib.hid (read_any d (by omega) w2)
      rw [hi.out, hc.out] at HC3
      clear hb2 HC2
      go_wp2_with fail
      refine HC3.out.mono ?_
      rintro e w3 ⟨rfl, hb3⟩
      have HW3 := Lib.hid (bthen HW2.out hb3)
      have HO3 := Lib.hid (HO2.out.ext hb3)
      clear hb3 HC3
      have HA : Hid (t1 = true ∧ t2 = true ∧ c = 0 → GI b (X ++ [⟨nm, i⟩]) M) := Lib.hid (by
        rintro ⟨h1, h2, h3⟩
        obtain ⟨g1, g2, g3⟩ := HRH.out h1 h2 h3
        rw [g3]; exact HI.out.step H0.out g1 g2)
      have HZ : Hid (¬ (t1 = true ∧ t2 = true ∧ c = 0) → getF b = ([], 12)) := Lib.hid (fun h => HI.out.none (HRM.out h))
      have HX : Hid (t1 = true ∧ t2 = true ∧ c = 0 → M.length < r.length) := Lib.hid (by
        rintro ⟨h1, h2, h3⟩
        obtain ⟨g1, g2, g3⟩ := HRH.out h1 h2 h3
        rw [g3, List.length_drop]; omega)
      have HO4 : Hid (Sl.Own eRf 33 w.heap.size 43 (w3.alloc (.cells (eId i).toArray 39)) u4 X) := Lib.hid (HO3.out.alloc _)
      have HW4 : Hid (Below w.heap.size w (w3.alloc (.cells (eId i).toArray 39))) := Lib.hid (HW3.out.alloc HW3.out.size _)
      have HN : Hid ((w3.alloc (.cells (eId i).toArray 39)).heap[w3.heap.size]? = some (.cells (eId i).toArray 39 (0, 0))) := Lib.hid (heap_alloc_new _ _)
      have HR : Hid ((w3.alloc (.cells (eId i).toArray 39)).rangeAt w3.heap.size 0 (eId i)) := Lib.hid (range_of_heap (cs := (eId i).toArray) HN.out)
      clear HRH HRM ht1 ht2 hc hi hd hnm hL hM
      cases t1 with
      | false =>
        have HF := Lib.hid (HZ.out (by simp))
        clear HA HZ HX
        go_wp2_with (refine new39 rfl rfl rfl _ _ rfl rfl i rfl rfl ?_)
        rw [Exit.noGoto_ret]; go_ret2
        rw [HF.out]
        exact ⟨_, rfl, Sl.nil _ _ _, HW4.out⟩
      | true =>
        cases t2 with
        | false =>
          have HF := Lib.hid (HZ.out (by simp))
          clear HA HZ HX
          go_wp2_with (refine new39 rfl rfl rfl _ _ rfl rfl i rfl rfl ?_)
          rw [Exit.noGoto_ret]; go_ret2
          rw [HF.out]
          exact ⟨_, rfl, Sl.nil _ _ _, HW4.out⟩
        | true =>
          by_cases hc0 : c = 0
          · subst hc0
            have HA2 := Lib.hid (HA.out ⟨rfl, rfl, rfl⟩)
            have hml := HX.out ⟨rfl, rfl, rfl⟩
            obtain ⟨x, hx⟩ : ∃ x : Go.Sl.Rf, Hid (⟨nm, i⟩ = x) := ⟨_, Lib.hid rfl⟩
            rw [hx.out] at HA2
            clear HA HZ HX
            go_wp2_with (first
              | refine new39 rfl rfl rfl _ _ rfl rfl i rfl rfl ?_
              | refine ld39 rfl _ rfl _ _ rfl i HR.out ?_
              | (refine bd43 rfl _ _ rfl nm i rfl rfl ?_; rw [hx.out])
              | refine one43 rfl _ rfl x rfl ?_
              | (at_builtin; go_must (refine wpList_append1 rfl (en := eRf) (s := 33) (base := w.heap.size) (e := 43) _ _ 37 rfl (vRf zRf) 48 Tryd.underlying37 info43 (size_eRf _) (by decide) len_eRf one_eRf _ _ X x rfl (HO4.out.alloc _) rfl (sl_new x) (by simp only [maxLen]; omega) (by omega) (by have := HW4.out.size; simp at this ⊢; omega) ?_; intro ov' w6 hown hgr hbel hblk; have HO5 := Lib.hid hown; have HW5 := Lib.hid ((HW4.out.alloc HW4.out.size _).trans hbel); clear hown hgr hbel hblk)))
            go_roundw
            case rel => exact ⟨X ++ [x], M, rfl, HA2, HO5, HW5⟩
            case measure => simp [bstr_size]; omega
          · have hne3 : (c == 0) = false := by rw [beq_eq_false_iff_ne]; exact hc0
            have HF := Lib.hid (HZ.out (by simp [hc0]))
            clear HA HZ HX
            go_wp2_with (refine new39 rfl rfl rfl _ _ rfl rfl i rfl rfl ?_)
            rw [Exit.noGoto_ret]; go_ret2
            rw [HF.out]
            exact ⟨_, rfl, Sl.nil _ _ _, HW4.out⟩
end Go.Proofs.YtopamnfelngkcaaDoor.Rf
