/-
  Layer 15: the laws Plain and Authors, walked. No condition besides what the arguments are.
-/
import Derived.Test.YtcpmnocknpalfaaUA
namespace Go.Proofs.Ytcpmnocknpalfaa
open Go.RowKit Go.Sl
set_option linter.unusedVariables false

theorem own_zero (w : World) (base : Nat) (hb : base ≤ w.heap.size) : Sl.Own eInt 1 base 3 (w.alloc (.cells #[] 3)) (.slice (some ⟨w.heap.size, 0, none⟩) 0 0) [] :=
  ⟨rfl, .inr ⟨_, 0, #[], rfl, hb, heap_alloc_new _ _, Nat.le_refl _, by simp [maxLen], rfl, rfl⟩⟩
theorem sl_nil (w : World) : Sl eInt 1 w (.slice none 0 0) [] := Sl.nil _ _ _

set_option maxRecDepth 100000 in
set_option maxHeartbeats 1000000 in
theorem times_big (gv : Value) (w : World) (es : List (SlV × Int)) (g : List Nd) (hgl : g.length ≤ 4398046511104) (hG : Gr w gv es g) :
    Calls Try.prog 61 #[gv] w fun e w' => ∃ v, e = .returned v ∧ Sl.Own eInt 1 w.heap.size 3 w' v (g.map (·.2)) ∧ Below w.heap.size w w' := by
  have hix0 := hG.run_len
  go_enter Try.func61, Try.ntmps61
  go_wp2_with fail
  go_loopw [3, 4] (fun v i wr => ∃ (n : Nat), i = .int .i64 n ∧ n ≤ g.length ∧ Hid (Sl.Own eInt 1 w.heap.size 3 wr v ((g.take n).map (·.2))) ∧ Hid (Below w.heap.size w wr)) (fun _ i _ => g.length - (intOf i).toNat)
  case atStart => exact ⟨0, rfl, by omega, Lib.hid (Sl.Own.nil _ _ _ _ _), Lib.hid (Below.refl _ _)⟩
  case round =>
    obtain ⟨n, rfl, hn, HO, HW⟩ := hrel
    by_cases hlt : n < g.length
    · obtain ⟨b, o, hb1, hix, P, T, a1, n1, k1, HX, HLn, q0, q1, hs1, hm1⟩ := hG.at HW.out hlt
      have HT : Hid ((g.take (n + 1)).map (·.2) = (g.take n).map (·.2) ++ [T]) := Lib.hid (by rw [List.take_succ_eq_append_getElem hlt, List.map_append, HX.out]; rfl)
      have HLl : Hid (((g.take n).map (·.2)).length = n) := Lib.hid (by simp; omega)
      have hsz := HW.out.size
      go_wp2_with (at_builtin; go_must (refine wpList_append1 rfl (en := eInt) (s := 1) (base := w.heap.size) (e := 3) _ _ 23 rfl (.int .i64 0) 8 Try.underlying23 info3 rfl (by decide) len_eInt one_eInt u3 _ _ T rfl (HO.out.alloc _) rfl (Sl.fresh len_eInt rfl rfl rfl (by simp [maxLen])) (by rw [HLl.out]; simp only [maxLen]; omega) (by rw [HLl.out]; omega) (by simp; omega) ?_; intro ov' w6 hown hgr hbel hblk; have HO2 := Lib.hid hown; have HW2 := Lib.hid ((HW.out.alloc HW.out.size _).trans hbel); clear hown hgr hbel hblk))
      go_roundw
      case rel => exact ⟨n + 1, by go_num, by omega, Lib.hid (by rw [HT.out]; exact HO2.out), HW2⟩
      case measure => simp [intOf]; omega
    · have HE : Hid (Sl.Own eInt 1 w.heap.size 3 wr u3 (g.map (·.2))) := Lib.hid (by have := HO.out; rwa [List.take_of_length_le (by omega)] at this)
      go_wp2_with fail
      go_ret
      exact ⟨_, rfl, HE.out, HW.out⟩

set_option maxRecDepth 100000 in
set_option maxHeartbeats 1000000 in
theorem orderPlain_any (gv v : Value) (w : World) (es : List (SlV × Int)) (g : List Nd) (l : List Int) (hG : Gr w gv es g) (h : Sl eInt 1 w v l) :
    Calls Try.prog 14 #[gv, v] w fun e w' => e = .returned (.bool true) ∧ Below w.heap.size w w' := by
  have hlen := h.run_len (P := Try.prog) Try.underlying23
  have HW := Lib.hid oworks_any
  by_cases hbig : 200 < l.length
  · have d0 : decide ((200 : Int) < (l.length : Int)) = true := by simp; omega
    clear hbig
    go_enter Try.func14, Try.ntmps14
    go_wp2_with fail
    refine (HW.out w).mono ?_
    rintro e w1 ⟨rfl, hb1⟩
    have HB1 := Lib.hid hb1
    clear hb1
    go_wp2_with fail
    go_ret
    exact ⟨rfl, HB1.out⟩
  · have d0 : decide ((200 : Int) < (l.length : Int)) = false := by simp; omega
    have hl2 : l.length ≤ 200 := by omega
    have HO0 := Lib.hid (own_zero w w.heap.size (Nat.le_refl _))
    have HS0 := Lib.hid (h.ext (bel_alloc w (.cells #[] 3)))
    clear hbig
    by_cases h0 : Dag.nodes g l = 0
    · obtain ⟨hg, hl⟩ := nodes_zero h0
      have HG := Lib.hid hg
      have HL := Lib.hid hl
      have HZ := Lib.hid h0
      clear h0 hl
      go_enter Try.func14, Try.ntmps14
      go_wp2_with (at_builtin; go_must (refine wpList_append rfl (en := eInt) (s := 1) (base := w.heap.size) (e := 3) _ _ 23 rfl (.int .i64 0) 8 Try.underlying23 info3 rfl (by decide) len_eInt one_eInt (.slice (some ⟨w.heap.size, 0, none⟩) 0 0) v [] l rfl HO0.out rfl HS0.out (by simp only [maxLen, List.length_nil]; omega) (by simp only [List.length_nil]; omega) (by simp) ?_; intro ov w1 hown hgr hbel; have HO1 := Lib.hid (Sl.Own.sl hown len_eInt); have HB1 := Lib.hid ((bel_alloc w (.cells #[] 3)).trans hbel); clear hown hgr hbel))
      rw [List.nil_append] at HO1
      refine (plain_ok gv ov w1 es g l HG.out HL.out (by omega) (hG.ext HB1.out) HO1.out).mono ?_
      rintro e w2 ⟨v1, rfl, ho, hb2⟩
      have HO2 := Lib.hid (ho.sl len_eInt)
      have HB2 := Lib.hid (bel_then HB1.out hb2)
      have HOv := Lib.hid (HO1.out.ext hb2)
      clear ho hb2
      go_wp2_with fail
      refine (asked_any gv v w2 es g l 0 HZ.out (hG.ext HB2.out) (h.ext HB2.out)).mono ?_
      rintro e w3 ⟨rfl, hb3⟩
      have HB3 := Lib.hid (bel_then HB2.out hb3)
      have HOv3 := Lib.hid (HOv.out.ext hb3)
      have HO3 := Lib.hid (HO2.out.ext hb3)
      clear hb3
      have HSa := Lib.hid (same_b ov v l l true (by simp) w3 HOv3.out (h.ext HB3.out))
      go_wp2_with fail
      refine HSa.out.mono ?_
      rintro e w4 ⟨rfl, hb4⟩
      have HB4 := Lib.hid (bel_then HB3.out hb4)
      have HO4 := Lib.hid (HO3.out.ext hb4)
      clear hb4
      go_wp2_with fail
      refine (rplain_any gv v w4 es g l HG.out HL.out (hG.ext HB4.out) (h.ext HB4.out)).mono ?_
      rintro e w5 ⟨v3, rfl, ho, hb5⟩
      have HO5 := Lib.hid (ho.sl len_eInt)
      have HB5 := Lib.hid (bel_then HB4.out hb5)
      have HSb := Lib.hid (same_b v1 v3 _ _ true (by simp [plainL]) w5 (HO4.out.ext hb5) HO5.out)
      clear ho hb5
      go_wp2_with fail
      refine HSb.out.mono ?_
      rintro e w6 ⟨rfl, hb6⟩
      have HB6 := Lib.hid (bel_then HB5.out hb6)
      clear hb6
      go_wp2_with fail
      refine (HW.out w6).mono ?_
      rintro e w7 ⟨rfl, hb7⟩
      have HB7 := Lib.hid (bel_then HB6.out hb7)
      clear hb7
      go_wp2_with fail
      go_ret
      exact ⟨rfl, HB7.out⟩
    · obtain ⟨c, hc⟩ : ∃ c, Dag.nodes g l = c := ⟨_, rfl⟩
      rw [hc] at h0
      have HZ := Lib.hid hc
      have HN := Lib.hid h0
      have hn := nat_ne h0
      have hn2 : (c != 0) = true := by simp [h0]
      clear h0 hc
      go_enter Try.func14, Try.ntmps14
      go_wp2_with (at_builtin; go_must (refine wpList_append rfl (en := eInt) (s := 1) (base := w.heap.size) (e := 3) _ _ 23 rfl (.int .i64 0) 8 Try.underlying23 info3 rfl (by decide) len_eInt one_eInt (.slice (some ⟨w.heap.size, 0, none⟩) 0 0) v [] l rfl HO0.out rfl HS0.out (by simp only [maxLen, List.length_nil]; omega) (by simp only [List.length_nil]; omega) (by simp) ?_; intro ov w1 hown hgr hbel; have HO1 := Lib.hid (Sl.Own.sl hown len_eInt); have HB1 := Lib.hid ((bel_alloc w (.cells #[] 3)).trans hbel); clear hown hgr hbel))
      rw [List.nil_append] at HO1
      refine (plain_bad gv ov w1 es g l c HZ.out HN.out (hG.ext HB1.out) HO1.out).mono ?_
      rintro e w2 ⟨rfl, hb2⟩
      have HB2 := Lib.hid (bel_then HB1.out hb2)
      have HOv := Lib.hid (HO1.out.ext hb2)
      clear hb2
      go_wp2_with fail
      refine (asked_any gv v w2 es g l c HZ.out (hG.ext HB2.out) (h.ext HB2.out)).mono ?_
      rintro e w3 ⟨rfl, hb3⟩
      have HB3 := Lib.hid (bel_then HB2.out hb3)
      have HOv3 := Lib.hid (HOv.out.ext hb3)
      clear hb3
      have HSa := Lib.hid (same_b ov v l l true (by simp) w3 HOv3.out (h.ext HB3.out))
      go_wp2_with fail
      refine HSa.out.mono ?_
      rintro e w4 ⟨rfl, hb4⟩
      have HB4 := Lib.hid (bel_then HB3.out hb4)
      clear hb4
      go_wp2_with fail
      refine (HW.out w4).mono ?_
      rintro e w5 ⟨rfl, hb5⟩
      have HB5 := Lib.hid (bel_then HB4.out hb5)
      clear hb5
      go_wp2_with fail
      go_ret
      exact ⟨rfl, HB5.out⟩


set_option maxRecDepth 100000 in
set_option maxHeartbeats 1000000 in
theorem orderAuthors_any (gv v bv : Value) (w : World) (es : List (SlV × Int)) (g : List Nd) (l bl : List Int) (hG : Gr w gv es g) (h : Sl eInt 1 w v l) (hb : Sl eInt 1 w bv bl) (hgb : g.length ≤ 4398046511104) :
    Calls Try.prog 13 #[gv, v, bv] w fun e w' => e = .returned (.bool true) ∧ Below w.heap.size w w' := by
  have hlen := h.run_len (P := Try.prog) Try.underlying23
  have hlb := hb.run_len (P := Try.prog) Try.underlying23
  have hix0 := hG.run_len
  have HW := Lib.hid oworks_any
  have HGb := Lib.hid hgb
  clear hgb
  by_cases hbig : 200 < l.length ∨ 200 < bl.length
  · by_cases hb1 : 200 < l.length
    all_goals
      first
        | have d0 : decide ((200 : Int) < (l.length : Int)) = true := by simp; omega
        | (have d0 : decide ((200 : Int) < (l.length : Int)) = false := by simp; omega
           have d1 : decide ((200 : Int) < (bl.length : Int)) = true := by simp; omega)
      clear hbig hb1
      go_enter Try.func13, Try.ntmps13
      go_wp2_with fail
      refine (HW.out w).mono ?_
      rintro e w1 ⟨rfl, hb1⟩
      have HB1 := Lib.hid hb1
      clear hb1
      go_wp2_with fail
      go_ret
      exact ⟨rfl, HB1.out⟩
  · have d0 : decide ((200 : Int) < (l.length : Int)) = false := by simp; omega
    have d1 : decide ((200 : Int) < (bl.length : Int)) = false := by simp; omega
    clear hbig
    by_cases h0 : Dag.nodes g l = 0
    · obtain ⟨hg, hl⟩ := nodes_zero h0
      have HG := Lib.hid hg
      have HL := Lib.hid hl
      have HZ := Lib.hid h0
      clear h0 hl hg
      by_cases hbl : bl.length = g.length
      · have HBl := Lib.hid hbl
        have hne : ((bl.length : Int) != (g.length : Int)) = false := by simp [hbl]
        have hne2 : (bl.length != g.length) = false := by simp [hbl]
        clear hbl
        go_enter Try.func13, Try.ntmps13
        go_wp2_with fail
        refine (author_ok gv v bv w es g l bl HG.out HL.out HBl.out hG h hb).mono ?_
        rintro e w1 ⟨v1, rfl, ho, hb1⟩
        have HO1 := Lib.hid (ho.sl len_eInt)
        have HB1 := Lib.hid hb1
        clear ho hb1
        go_wp2_with fail
        refine (asked_any gv v w1 es g l 0 HZ.out (hG.ext HB1.out) (h.ext HB1.out)).mono ?_
        rintro e w2 ⟨rfl, hb2⟩
        have HB2 := Lib.hid (bel_then HB1.out hb2)
        have HO2 := Lib.hid (HO1.out.ext hb2)
        clear hb2
        go_wp2_with fail
        refine (rdate_any gv v bv w2 es g l bl HG.out HL.out HBl.out (hG.ext HB2.out) (h.ext HB2.out) (hb.ext HB2.out)).mono ?_
        rintro e w3 ⟨v3, rfl, ho, hb3⟩
        have HO3 := Lib.hid (ho.sl len_eInt)
        have HB3 := Lib.hid (bel_then HB2.out hb3)
        have HSa := Lib.hid (same_b v1 v3 _ _ true (by simp [dateL]) w3 (HO2.out.ext hb3) HO3.out)
        clear ho hb3
        go_wp2_with fail
        refine HSa.out.mono ?_
        rintro e w4 ⟨rfl, hb4⟩
        have HB4 := Lib.hid (bel_then HB3.out hb4)
        clear hb4
        go_wp2_with fail
        refine (times_big gv w4 es g HGb.out (hG.ext HB4.out)).mono ?_
        rintro e w5 ⟨tv, rfl, ho, hb5⟩
        have HT := Lib.hid (ho.sl len_eInt)
        have HB5 := Lib.hid (bel_then HB4.out hb5)
        clear ho hb5
        go_wp2_with fail
        refine (author_ok gv v tv w5 es g l (g.map (·.2)) HG.out HL.out (by simp) (hG.ext HB5.out) (h.ext HB5.out) HT.out).mono ?_
        rintro e w6 ⟨v6, rfl, ho, hb6⟩
        have HO6 := Lib.hid (ho.sl len_eInt)
        have HB6 := Lib.hid (bel_then HB5.out hb6)
        clear ho hb6
        go_wp2_with fail
        refine (date_ok gv v w6 es g l HG.out HL.out (hG.ext HB6.out) (h.ext HB6.out)).mono ?_
        rintro e w7 ⟨v7, rfl, ho, hb7⟩
        have HB7 := Lib.hid (bel_then HB6.out hb7)
        have HSb := Lib.hid (same_b v6 v7 _ _ true (by simp) w7 (HO6.out.ext hb7) (ho.sl len_eInt))
        clear ho hb7
        go_wp2_with fail
        refine HSb.out.mono ?_
        rintro e w8 ⟨rfl, hb8⟩
        have HB8 := Lib.hid (bel_then HB7.out hb8)
        clear hb8
        go_wp2_with fail
        refine (HW.out w8).mono ?_
        rintro e w9 ⟨rfl, hb9⟩
        have HB9 := Lib.hid (bel_then HB8.out hb9)
        clear hb9
        go_wp2_with fail
        go_ret
        exact ⟨rfl, HB9.out⟩
      · have HBl := Lib.hid hbl
        have hne : ((bl.length : Int) != (g.length : Int)) = true := by simp; omega
        have hne2 : (bl.length != g.length) = true := by simp [hbl]
        clear hbl
        go_enter Try.func13, Try.ntmps13
        go_wp2_with fail
        refine (author_len gv v bv w es g l bl HZ.out HBl.out hG h hb).mono ?_
        rintro e w1 ⟨rfl, hb1⟩
        have HB1 := Lib.hid hb1
        clear hb1
        go_wp2_with fail
        refine (asked_any gv v w1 es g l 0 HZ.out (hG.ext HB1.out) (h.ext HB1.out)).mono ?_
        rintro e w2 ⟨rfl, hb2⟩
        have HB2 := Lib.hid (bel_then HB1.out hb2)
        have HB4 := HB2
        obtain ⟨w4, hw4⟩ : ∃ w4, w4 = w2 := ⟨_, rfl⟩
        subst hw4
        clear hb2
        go_wp2_with fail
        refine (times_big gv w4 es g HGb.out (hG.ext HB4.out)).mono ?_
        rintro e w5 ⟨tv, rfl, ho, hb5⟩
        have HT := Lib.hid (ho.sl len_eInt)
        have HB5 := Lib.hid (bel_then HB4.out hb5)
        clear ho hb5
        go_wp2_with fail
        refine (author_ok gv v tv w5 es g l (g.map (·.2)) HG.out HL.out (by simp) (hG.ext HB5.out) (h.ext HB5.out) HT.out).mono ?_
        rintro e w6 ⟨v6, rfl, ho, hb6⟩
        have HO6 := Lib.hid (ho.sl len_eInt)
        have HB6 := Lib.hid (bel_then HB5.out hb6)
        clear ho hb6
        go_wp2_with fail
        refine (date_ok gv v w6 es g l HG.out HL.out (hG.ext HB6.out) (h.ext HB6.out)).mono ?_
        rintro e w7 ⟨v7, rfl, ho, hb7⟩
        have HB7 := Lib.hid (bel_then HB6.out hb7)
        have HSb := Lib.hid (same_b v6 v7 _ _ true (by simp) w7 (HO6.out.ext hb7) (ho.sl len_eInt))
        clear ho hb7
        go_wp2_with fail
        refine HSb.out.mono ?_
        rintro e w8 ⟨rfl, hb8⟩
        have HB8 := Lib.hid (bel_then HB7.out hb8)
        clear hb8
        go_wp2_with fail
        refine (HW.out w8).mono ?_
        rintro e w9 ⟨rfl, hb9⟩
        have HB9 := Lib.hid (bel_then HB8.out hb9)
        clear hb9
        go_wp2_with fail
        go_ret
        exact ⟨rfl, HB9.out⟩
    · obtain ⟨c, hc⟩ : ∃ c, Dag.nodes g l = c := ⟨_, rfl⟩
      rw [hc] at h0
      have HZ := Lib.hid hc
      have HN := Lib.hid h0
      have hn := nat_ne h0
      have hn2 : (c != 0) = true := by simp [h0]
      have hn3 : (c == 0) = false := by simp [h0]
      have hn4 : ((c : Int) == 0) = false := by simp [h0]
      clear h0 hc
      go_enter Try.func13, Try.ntmps13
      go_wp2_with fail
      refine (author_bad gv v bv w es g l bl c HZ.out HN.out hG h hb).mono ?_
      rintro e w1 ⟨rfl, hb1⟩
      have HB1 := Lib.hid hb1
      clear hb1
      go_wp2_with fail
      refine (asked_any gv v w1 es g l c HZ.out (hG.ext HB1.out) (h.ext HB1.out)).mono ?_
      rintro e w2 ⟨rfl, hb2⟩
      have HB2 := Lib.hid (bel_then HB1.out hb2)
      have HB4 := HB2
      obtain ⟨w4, hw4⟩ : ∃ w4, w4 = w2 := ⟨_, rfl⟩
      subst hw4
      clear hb2
      go_wp2_with fail
      refine (times_big gv w4 es g HGb.out (hG.ext HB4.out)).mono ?_
      rintro e w5 ⟨tv, rfl, ho, hb5⟩
      have HT := Lib.hid (ho.sl len_eInt)
      have HB5 := Lib.hid (bel_then HB4.out hb5)
      clear ho hb5
      go_wp2_with fail
      refine (author_bad gv v tv w5 es g l (g.map (·.2)) c HZ.out HN.out (hG.ext HB5.out) (h.ext HB5.out) HT.out).mono ?_
      rintro e w6 ⟨rfl, hb6⟩
      have HB6 := Lib.hid (bel_then HB5.out hb6)
      clear hb6
      go_wp2_with fail
      refine (date_bad gv v w6 es g l c HZ.out HN.out (hG.ext HB6.out) (h.ext HB6.out)).mono ?_
      rintro e w7 ⟨rfl, hb7⟩
      have HB7 := Lib.hid (bel_then HB6.out hb7)
      have HSb := Lib.hid (same_b (.slice none 0 0) (.slice none 0 0) [] [] true (by simp) w7 (sl_nil _) (sl_nil _))
      clear hb7
      go_wp2_with fail
      refine HSb.out.mono ?_
      rintro e w8 ⟨rfl, hb8⟩
      have HB8 := Lib.hid (bel_then HB7.out hb8)
      clear hb8
      go_wp2_with fail
      refine (HW.out w8).mono ?_
      rintro e w9 ⟨rfl, hb9⟩
      have HB9 := Lib.hid (bel_then HB8.out hb9)
      clear hb9
      go_wp2_with fail
      go_ret
      exact ⟨rfl, HB9.out⟩
end Go.Proofs.Ytcpmnocknpalfaa
