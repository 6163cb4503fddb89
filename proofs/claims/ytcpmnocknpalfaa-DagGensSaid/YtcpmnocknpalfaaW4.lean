/-
  DagRanges: what the program answers, the document's. No condition.
-/
import Derived.Test.YtcpmnocknpalfaaW3
import Derived.Test.YtcpmnocknpalfaaStr
namespace Go.Proofs.Ytcpmnocknpalfaa
open Go.RowKit Go.Sl
set_option linter.unusedVariables false

theorem sls2 {w : World} {v1 v2 : Value} {l m : List Int} (h1 : Sl eInt 1 w v1 l) (h2 : Sl eInt 1 w v2 m) : Sls eInt 1 (w.alloc (.cells #[v1, v2] 23)) (.slice (some ⟨w.heap.size, 0, none⟩) 2 2) [v1, v2] [l, m] :=
  Sls.fresh (vs := [v1, v2]) (ls := [l, m]) rfl rfl (by simp [maxLen]) (fun k a b => by
    have hk : k < 2 := a
    obtain rfl | rfl : k = 0 ∨ k = 1 := by omega
    · exact h1
    · exact h2)
theorem sls1 {w : World} {v1 : Value} {l : List Int} (h1 : Sl eInt 1 w v1 l) : Sls eInt 1 (w.alloc (.cells #[v1] 23)) (.slice (some ⟨w.heap.size, 0, none⟩) 1 1) [v1] [l] :=
  Sls.fresh (vs := [v1]) (ls := [l]) rfl rfl (by simp [maxLen]) (fun k a b => by
    have hk : k < 1 := a
    obtain rfl : k = 0 := by omega
    exact h1)
theorem below_alloc (w : World) (o : Obj) : Below w.heap.size w (w.alloc o) := (Below.refl _ _).alloc (Nat.le_refl _) _
theorem below_then {w w1 w2 : World} (h : Below w.heap.size w w1) (h2 : Below w1.heap.size w1 w2) : Below w.heap.size w w2 := h.trans (h2.mono h.size)

set_option maxRecDepth 100000 in
set_option maxHeartbeats 1000000 in
theorem dagRanges_any (gv v1 v2 : Value) (w : World) (es : List (SlV × Int)) (g : List Nd) (l m : List Int) (hG : Gr w gv es g) (h1 : Sl eInt 1 w v1 l) (h2 : Sl eInt 1 w v2 m) :
    Calls Try.prog 6 #[gv, v1, v2] w fun e w' => e = .returned (.bool true) ∧ Below w.heap.size w w' := by
  obtain ⟨za, zn, zc, rfl⟩ := h1.isSlice
  obtain ⟨ya, yn, yc, rfl⟩ := h2.isSlice
  have HG := Lib.hid hG
  have H1 := Lib.hid h1
  have H2 := Lib.hid h2
  have hnil := len_nil_run w
  have HA0 := Lib.hid (below_alloc w (.cells #[.slice za zn zc, .slice ya yn yc] 23))
  by_cases hbig : ∃ x ∈ [l, m], 100 < x.length
  · have HBg := Lib.hid (big_any _ _ _ true (decide_eq_true hbig) _ (sls2 h1 h2))
    clear hbig h1 h2 hG
    go_enter Try.func6, Try.ntmps6
    go_wp2_with fail
    refine HBg.out.mono ?_
    rintro e w' ⟨rfl, rfl⟩
    go_wp2_with fail
    refine (works_any _).mono ?_
    rintro e w1 ⟨rfl, hb⟩
    have HB1 := Lib.hid (below_then HA0.out hb)
    clear hb
    go_wp2_with fail
    go_ret
    exact ⟨rfl, HB1.out⟩
  · have HBg := Lib.hid (big_any _ _ _ false (decide_eq_false hbig) _ (sls2 h1 h2))
    have hl1 : l.length ≤ 100 := by
      apply Classical.byContradiction
      intro hc
      exact hbig ⟨l, by simp, by omega⟩
    have hl2 : m.length ≤ 100 := by
      apply Classical.byContradiction
      intro hc
      exact hbig ⟨m, by simp, by omega⟩
    obtain ⟨cL, hcL⟩ : ∃ c, Dag.nodes g l = c := ⟨_, rfl⟩
    obtain ⟨cE, hcE⟩ : ∃ c, Dag.nodes g (l ++ m) = c := ⟨_, rfl⟩
    have hap := Dag.nodes_append g l m
    rw [hcL, hcE] at hap
    have HCL := Lib.hid hcL
    have HCE := Lib.hid hcE
    clear hbig h1 h2 hG
    by_cases hE : cE = 0
    · have hL0 : cL = 0 := by
        apply Classical.byContradiction
        intro hc
        rw [if_neg hc] at hap; omega
      have hM0 : Dag.nodes g m = 0 := by rw [if_pos hL0] at hap; omega
      have HgL := Lib.hid (Dag.nodes_zero (hcL.trans hL0))
      have HgM := Lib.hid (Dag.nodes_zero hM0)
      subst hE hL0
      clear hap hcL hcE hM0
      go_enter Try.func6, Try.ntmps6
      go_wp2_with fail
      refine (HBg.out).mono ?_
      rintro e w' ⟨rfl, rfl⟩
      go_wp2_with fail
      refine (range_ok _ _ _ _ es g l m HgL.out.1 HgL.out.2 HgM.out.2 (HG.out.ext HA0.out) (H1.out.ext HA0.out) (H2.out.ext HA0.out)).mono ?_
      rintro e w1 ⟨x1, rfl, ho, hb⟩
      have HO1 := Lib.hid (ho.sl len_eInt)
      have HW1 := Lib.hid (below_then HA0.out hb)
      clear hb
      clear ho
      go_wp2_with fail
      refine (heads_ok _ _ _ es g l HgL.out.1 HgL.out.2 (HG.out.ext HW1.out) (H1.out.ext HW1.out)).mono ?_
      rintro e w2 ⟨x2, rfl, ho, hb⟩
      have HO2 := Lib.hid (ho.sl len_eInt)
      have HO1b := Lib.hid (HO1.out.ext hb)
      have HW2 := Lib.hid (below_then HW1.out hb)
      clear hb
      clear ho
      obtain ⟨w3, hw3⟩ : ∃ w3, w3 = w2 := ⟨_, rfl⟩
      have HW3 := HW2
      rw [← hw3] at HW3 ⊢
      subst hw3
      go_wp2_with (first
        | (at_builtin; have _g := HO6.out; go_must (refine wpList_append rfl (en := eInt) (s := 1) (base := w3.heap.size) (e := 3) _ _ 23 rfl (.int .i64 0) 8 Try.underlying23 info3 rfl (by decide) len_eInt one_eInt v6 _ _ m rfl HO6.out rfl (H2.out.ext HW6.out) (by simp only [maxLen, List.length_append, List.length_nil]; omega) (by simp only [List.length_append, List.length_nil]; omega) HBb6.out.size ?_; intro v7 w7 hown hgr hbel; have HO7 := Lib.hid hown; have HW7 := Lib.hid (HW6.out.trans (hbel.mono HW3.out.size)); have HBb7 := Lib.hid (HBb6.out.trans hbel); clear hown hgr hbel))
        | (at_builtin; go_must (refine wpList_append rfl (en := eInt) (s := 1) (base := w3.heap.size) (e := 3) _ _ 23 rfl (.int .i64 0) 8 Try.underlying23 info3 rfl (by decide) len_eInt one_eInt _ _ [] l rfl (Own.fresh0 eInt 1 w3 3 rfl) rfl (H1.out.ext (below_then HW3.out (below_alloc _ _))) (by simp only [maxLen, List.length_nil]; omega) (by simp only [List.length_nil]; omega) (by simp) ?_; intro v6 w6 hown hgr hbel; have HO6 := Lib.hid hown; have HBb6 := Lib.hid ((below_alloc w3 (.cells #[] 3)).trans hbel); have HW6 := Lib.hid (below_then HW3.out HBb6.out); clear hown hgr hbel)))
      have HS7 := Lib.hid (HO7.out.sl len_eInt)
      simp only [List.nil_append] at HS7
      go_wp2_with fail
      refine (rnodes_any _ _ _ es g (l ++ m) 0 HCE.out (HG.out.ext HW7.out) HS7.out).mono ?_
      rintro e w8 ⟨rfl, hb⟩
      have HB8 := Lib.hid (below_then HBb7.out hb)
      have HW8 := Lib.hid (below_then HW7.out hb)
      clear hb
      go_wp2_with fail
      refine (rnodes_any _ _ _ es g l 0 HCL.out (HG.out.ext HW8.out) (H1.out.ext HW8.out)).mono ?_
      rintro e w9 ⟨rfl, hb⟩
      have HB9 := Lib.hid (below_then HB8.out hb)
      have HW9 := Lib.hid (below_then HW8.out hb)
      clear hb
      go_wp2_with fail
      refine (rrange_any _ _ _ _ es g l m HgL.out.1 HgL.out.2 HgM.out.2 (HG.out.ext HW9.out) (H1.out.ext HW9.out) (H2.out.ext HW9.out)).mono ?_
      rintro e w10 ⟨x10, rfl, ho, hb⟩
      have HO10 := Lib.hid (ho.sl len_eInt)
      have HB10 := Lib.hid (below_then HB9.out hb)
      have HW10 := Lib.hid (below_then HW9.out hb)
      clear hb
      clear ho
      go_wp2_with fail
      refine (same_b x1 x10 _ _ true (by simp) _ (HO1b.out.ext HB10.out) HO10.out).mono ?_
      rintro e w11 ⟨rfl, hb⟩
      have HB11 := Lib.hid (below_then HB10.out hb)
      have HW11 := Lib.hid (below_then HW10.out hb)
      clear hb
      go_wp2_with fail
      refine (rheads_any _ _ _ es g l HgL.out.1 HgL.out.2 (HG.out.ext HW11.out) (H1.out.ext HW11.out)).mono ?_
      rintro e w12 ⟨x12, rfl, ho, hb⟩
      have HO12 := Lib.hid (ho.sl len_eInt)
      have HB12 := Lib.hid (below_then HB11.out hb)
      have HW12 := Lib.hid (below_then HW11.out hb)
      clear hb
      clear ho
      go_wp2_with fail
      refine (same_b x2 x12 _ _ true (by simp) _ (HO2.out.ext HB12.out) HO12.out).mono ?_
      rintro e w13 ⟨rfl, hb⟩
      have HW13 := Lib.hid (below_then HW12.out hb)
      clear hb
      go_wp2_with fail
      refine (works_any _).mono ?_
      rintro e w14 ⟨rfl, hb⟩
      have HW14 := Lib.hid (below_then HW13.out hb)
      clear hb
      go_wp2_with fail
      go_ret
      exact ⟨rfl, HW14.out⟩
    · by_cases hL : cL = 0
      · have hM0 : Dag.nodes g m = cE := by rw [if_pos hL] at hap; omega
        have HgL := Lib.hid (Dag.nodes_zero (hcL.trans hL))
        have HM := Lib.hid hM0
        have HE0 := Lib.hid hE
        have d1 : ((cE : Int) != 0) = true := by simp; omega
        have d2 : (cE != 0) = true := by simp; omega
        have d3 : ((cE : Int) == 0) = false := by simp; omega
        have d4 : (cE == 0) = false := by simp; omega
        subst hL
        clear hap hcL hcE hM0 hE
        go_enter Try.func6, Try.ntmps6
        go_wp2_with fail
        refine (HBg.out).mono ?_
        rintro e w' ⟨rfl, rfl⟩
        go_wp2_with fail
        refine (range_bad2 _ _ _ _ es g l m cE HCL.out HM.out HE0.out (HG.out.ext HA0.out) (H1.out.ext HA0.out) (H2.out.ext HA0.out)).mono ?_
        rintro e w1 ⟨rfl, hb⟩
        have HW1 := Lib.hid (below_then HA0.out hb)
        clear hb
        go_wp2_with fail
        refine (heads_ok _ _ _ es g l HgL.out.1 HgL.out.2 (HG.out.ext HW1.out) (H1.out.ext HW1.out)).mono ?_
        rintro e w2 ⟨x2, rfl, ho, hb⟩
        have HO2 := Lib.hid (ho.sl len_eInt)
        have HW2 := Lib.hid (below_then HW1.out hb)
        clear hb
        clear ho
        obtain ⟨w3, hw3⟩ : ∃ w3, w3 = w2 := ⟨_, rfl⟩
        have HW3 := HW2
        rw [← hw3] at HW3 ⊢
        subst hw3
        go_wp2_with (first
          | (at_builtin; have _g := HO6.out; go_must (refine wpList_append rfl (en := eInt) (s := 1) (base := w3.heap.size) (e := 3) _ _ 23 rfl (.int .i64 0) 8 Try.underlying23 info3 rfl (by decide) len_eInt one_eInt v6 _ _ m rfl HO6.out rfl (H2.out.ext HW6.out) (by simp only [maxLen, List.length_append, List.length_nil]; omega) (by simp only [List.length_append, List.length_nil]; omega) HBb6.out.size ?_; intro v7 w7 hown hgr hbel; have HO7 := Lib.hid hown; have HW7 := Lib.hid (HW6.out.trans (hbel.mono HW3.out.size)); have HBb7 := Lib.hid (HBb6.out.trans hbel); clear hown hgr hbel))
          | (at_builtin; go_must (refine wpList_append rfl (en := eInt) (s := 1) (base := w3.heap.size) (e := 3) _ _ 23 rfl (.int .i64 0) 8 Try.underlying23 info3 rfl (by decide) len_eInt one_eInt _ _ [] l rfl (Own.fresh0 eInt 1 w3 3 rfl) rfl (H1.out.ext (below_then HW3.out (below_alloc _ _))) (by simp only [maxLen, List.length_nil]; omega) (by simp only [List.length_nil]; omega) (by simp) ?_; intro v6 w6 hown hgr hbel; have HO6 := Lib.hid hown; have HBb6 := Lib.hid ((below_alloc w3 (.cells #[] 3)).trans hbel); have HW6 := Lib.hid (below_then HW3.out HBb6.out); clear hown hgr hbel)))
        have HS7 := Lib.hid (HO7.out.sl len_eInt)
        simp only [List.nil_append] at HS7
        go_wp2_with fail
        refine (rnodes_any _ _ _ es g (l ++ m) cE HCE.out (HG.out.ext HW7.out) HS7.out).mono ?_
        rintro e w8 ⟨rfl, hb⟩
        have HB8 := Lib.hid (below_then HBb7.out hb)
        have HW8 := Lib.hid (below_then HW7.out hb)
        clear hb
        go_wp2_with fail
        refine (rnodes_any _ _ _ es g l 0 HCL.out (HG.out.ext HW8.out) (H1.out.ext HW8.out)).mono ?_
        rintro e w9 ⟨rfl, hb⟩
        have HB9 := Lib.hid (below_then HB8.out hb)
        have HW9 := Lib.hid (below_then HW8.out hb)
        clear hb
        go_wp2_with fail
        refine (rheads_any _ _ _ es g l HgL.out.1 HgL.out.2 (HG.out.ext HW9.out) (H1.out.ext HW9.out)).mono ?_
        rintro e w10 ⟨x10, rfl, ho, hb⟩
        have HO10 := Lib.hid (ho.sl len_eInt)
        have HB10 := Lib.hid (below_then HB9.out hb)
        have HW10 := Lib.hid (below_then HW9.out hb)
        clear hb
        clear ho
        go_wp2_with fail
        refine (same_b x2 x10 _ _ true (by simp) _ (HO2.out.ext HB10.out) HO10.out).mono ?_
        rintro e w11 ⟨rfl, hb⟩
        have HW11 := Lib.hid (below_then HW10.out hb)
        clear hb
        go_wp2_with fail
        refine (works_any _).mono ?_
        rintro e w12 ⟨rfl, hb⟩
        have HW12 := Lib.hid (below_then HW11.out hb)
        clear hb
        go_wp2_with fail
        go_ret
        exact ⟨rfl, HW12.out⟩
      · have hEL : cE = cL := by rw [if_neg hL] at hap; exact hap
        have HL0 := Lib.hid hL
        have d1 : ((cL : Int) != 0) = true := by simp; omega
        have d2 : (cL != 0) = true := by simp; omega
        have d3 : ((cL : Int) == 0) = false := by simp; omega
        have d4 : (cL == 0) = false := by simp; omega
        subst hEL
        clear hap hcL hcE hE hL
        go_enter Try.func6, Try.ntmps6
        go_wp2_with fail
        refine (HBg.out).mono ?_
        rintro e w' ⟨rfl, rfl⟩
        go_wp2_with fail
        refine (range_bad1 _ _ _ _ es g l cE HCL.out HL0.out (HG.out.ext HA0.out) (H1.out.ext HA0.out)).mono ?_
        rintro e w1 ⟨rfl, hb⟩
        have HW1 := Lib.hid (below_then HA0.out hb)
        clear hb
        go_wp2_with fail
        refine (heads_bad _ _ _ es g l cE HCL.out HL0.out (HG.out.ext HW1.out) (H1.out.ext HW1.out)).mono ?_
        rintro e w2 ⟨rfl, hb⟩
        have HW2 := Lib.hid (below_then HW1.out hb)
        clear hb
        obtain ⟨w3, hw3⟩ : ∃ w3, w3 = w2 := ⟨_, rfl⟩
        have HW3 := HW2
        rw [← hw3] at HW3 ⊢
        subst hw3
        go_wp2_with (first
          | (at_builtin; have _g := HO6.out; go_must (refine wpList_append rfl (en := eInt) (s := 1) (base := w3.heap.size) (e := 3) _ _ 23 rfl (.int .i64 0) 8 Try.underlying23 info3 rfl (by decide) len_eInt one_eInt v6 _ _ m rfl HO6.out rfl (H2.out.ext HW6.out) (by simp only [maxLen, List.length_append, List.length_nil]; omega) (by simp only [List.length_append, List.length_nil]; omega) HBb6.out.size ?_; intro v7 w7 hown hgr hbel; have HO7 := Lib.hid hown; have HW7 := Lib.hid (HW6.out.trans (hbel.mono HW3.out.size)); have HBb7 := Lib.hid (HBb6.out.trans hbel); clear hown hgr hbel))
          | (at_builtin; go_must (refine wpList_append rfl (en := eInt) (s := 1) (base := w3.heap.size) (e := 3) _ _ 23 rfl (.int .i64 0) 8 Try.underlying23 info3 rfl (by decide) len_eInt one_eInt _ _ [] l rfl (Own.fresh0 eInt 1 w3 3 rfl) rfl (H1.out.ext (below_then HW3.out (below_alloc _ _))) (by simp only [maxLen, List.length_nil]; omega) (by simp only [List.length_nil]; omega) (by simp) ?_; intro v6 w6 hown hgr hbel; have HO6 := Lib.hid hown; have HBb6 := Lib.hid ((below_alloc w3 (.cells #[] 3)).trans hbel); have HW6 := Lib.hid (below_then HW3.out HBb6.out); clear hown hgr hbel)))
        have HS7 := Lib.hid (HO7.out.sl len_eInt)
        simp only [List.nil_append] at HS7
        go_wp2_with fail
        refine (rnodes_any _ _ _ es g (l ++ m) cE HCE.out (HG.out.ext HW7.out) HS7.out).mono ?_
        rintro e w8 ⟨rfl, hb⟩
        have HB8 := Lib.hid (below_then HBb7.out hb)
        have HW8 := Lib.hid (below_then HW7.out hb)
        clear hb
        go_wp2_with fail
        refine (rnodes_any _ _ _ es g l cE HCL.out (HG.out.ext HW8.out) (H1.out.ext HW8.out)).mono ?_
        rintro e w9 ⟨rfl, hb⟩
        have HB9 := Lib.hid (below_then HB8.out hb)
        have HW9 := Lib.hid (below_then HW8.out hb)
        clear hb
        go_wp2_with fail
        refine (works_any _).mono ?_
        rintro e w10 ⟨rfl, hb⟩
        have HW10 := Lib.hid (below_then HW9.out hb)
        clear hb
        go_wp2_with fail
        go_ret
        exact ⟨rfl, HW10.out⟩
end Go.Proofs.Ytcpmnocknpalfaa
