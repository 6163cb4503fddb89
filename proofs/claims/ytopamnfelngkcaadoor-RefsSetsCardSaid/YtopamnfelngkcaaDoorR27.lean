/-
  Layer 12: the document's Set and Drop. No condition besides what the arguments are.
-/
import Derived.Test.YtopamnfelngkcaaDoorR26
namespace Go.Proofs.YtopamnfelngkcaaDoor.Rf
open Go.Proofs Go.RowKit Go.Shelf Go.Sl Go.Route Go.Refs
set_option linter.unusedVariables false

set_option maxRecDepth 100000 in
set_option maxHeartbeats 2000000 in
theorem rset_any (v : Value) (l : List Go.Sl.Rf) (n : List UInt8) (i : Idb) (w : World) (hv : Sl eRf 33 w v l) (hl : ∀ r ∈ l, r.nm.length ≤ 9223372036854775807) (hn : n.length ≤ 9223372036854775807) :
    Calls Tryd.prog 62 #[v, .string (bstr n), vId i] w fun e w' => ∃ ov, e = .returned (.tuple #[ov, .int .i64 (setF l n i).2]) ∧ Sl eRf 33 w' ov (setF l n i).1 ∧ Below w.heap.size w w' := by
  obtain ⟨w1, hw1⟩ : ∃ u, Hid (u = w.alloc (.cells (eId i).toArray 39)) := ⟨_, Lib.hid rfl⟩
  have HI : Hid (w1.heap[w.heap.size]? = some (.cells (eId i).toArray 39 (0, 0))) := Lib.hid (by rw [hw1.out]; exact heap_alloc_new _ _)
  have HB : Hid (Below w.heap.size w w1) := Lib.hid (by rw [hw1.out]; exact (Below.refl _ _).alloc (Nat.le_refl _) _)
  have hs1 : w1.heap.size = w.heap.size + 1 := by rw [hw1.out]; simp
  have HL := Lib.hid hl
  have HV1 := Lib.hid (hv.ext HB.out)
  obtain ⟨c, hc⟩ : ∃ c, Hid (chk l = c) := ⟨_, Lib.hid rfl⟩
  have HC := Lib.hid (rcheck_any v l w1 HV1.out HL.out)
  rw [hc.out] at HC
  clear hv hl
  go_enter Tryd.func62, Tryd.ntmps62
  go_wp2_with fail
  rw [← hw1.out]
  refine HC.out.mono ?_
  rintro e w2 ⟨rfl, hb2⟩
  have HB2 := Lib.hid (bthen HB.out hb2)
  have HV2 := Lib.hid (HV1.out.ext hb2)
  have HI2 : Hid (w2.heap[w.heap.size]? = some (.cells (eId i).toArray 39 (0, 0))) := Lib.hid ((hb2.block _ (by omega)).trans HI.out)
  clear hb2 HC
  by_cases hc0 : c = 0
  · subst hc0
    cases hr : rgt n with
    | false =>
      have HF : Hid (setF l n i = ([], 15)) := Lib.hid (by unfold setF; rw [if_neg (by rw [hc.out]; simp), if_pos hr])
      go_wp2_with fail
      refine (rright_all n w2 hn).mono ?_
      rintro e w3 ⟨rfl, hb3⟩
      rw [hr]
      have HB3 := Lib.hid (bthen HB2.out hb3)
      clear hb3 hr
      go_wp2_with fail
      go_ret2
      rw [HF.out]
      exact ⟨_, rfl, Sl.nil _ _ _, HB3.out⟩
    | true =>
      obtain ⟨hlen, _, hsort⟩ := chk_ok hc.out
      have HD := Lib.hid (set_doc (i := i) hc.out hr)
      have HP := Lib.hid (pos_wo hsort (n := n))
      have hwl : (woF l n).length ≤ 64 := Nat.le_trans (wo_len l n) hlen
      obtain ⟨W, hW⟩ : ∃ W, Hid (woF l n = W) := ⟨_, Lib.hid rfl⟩
      rw [hW.out] at HD HP hwl
      go_wp2_with fail
      refine (rright_all n w2 hn).mono ?_
      rintro e w3 ⟨rfl, hb3⟩
      rw [hr]
      have HB3 := Lib.hid (bthen HB2.out hb3)
      have HV3 := Lib.hid (HV2.out.ext hb3)
      have HI3 : Hid (w3.heap[w.heap.size]? = some (.cells (eId i).toArray 39 (0, 0))) := Lib.hid ((hb3.block _ (Array.getElem?_eq_some_iff.1 HI2.out).1).trans HI2.out)
      clear hb3 hr hsort
      go_wp2_with fail
      refine (without_any v l n w3 HV3.out (by omega)).mono ?_
      rintro e w5 ⟨ov, rfl, ho, hb5⟩
      rw [hW.out] at ho
      have HB5 := Lib.hid (bthen HB3.out hb5)
      have HI5 : Hid (w5.heap[w.heap.size]? = some (.cells (eId i).toArray 39 (0, 0))) := Lib.hid ((hb5.block _ (Array.getElem?_eq_some_iff.1 HI3.out).1).trans HI3.out)
      have HO := Lib.hid (ho.sl len_eRf)
      have hlen5 := HO.out.run_len (P := Tryd.prog) Tryd.underlying37
      clear hb5 ho
      by_cases h64 : W.length = 64
      · have HF : Hid (setF l n i = ([], 5)) := Lib.hid (by rw [HD.out, if_pos h64])
        have d64 : ((W.length : Int) == 64) = true := by rw [h64]; rfl
        go_wp2_with fail
        go_ret2
        rw [HF.out]
        exact ⟨_, rfl, Sl.nil _ _ _, HB5.out⟩
      · have HF : Hid (setF l n i = (W.take (pos l n) ++ ⟨n, i⟩ :: W.drop (pos l n), 0)) := Lib.hid (by rw [HD.out, if_neg h64])
        have d64 : ((W.length : Int) == 64) = false := by rw [beq_eq_false_iff_ne]; omega
        have d65 : ¬ (W.length : Int) = 64 := by omega
        clear HD
        go_wp2_with fail
        go_loopw [10] (fun s10 wr => ∃ (j : Nat), s10 = .int .i64 j ∧ j ≤ W.length ∧ Hid (∀ t, t < j → ∀ h : t < W.length, W[t].nm < n) ∧ Hid (Below w5.heap.size w5 wr)) (fun s10 _ => W.length - (intOf s10).toNat)
        case atStart => exact ⟨0, rfl, by omega, Lib.hid (fun t ht => by omega), Lib.hid (Below.refl _ _)⟩
        case round =>
          obtain ⟨wo, rfl⟩ : ∃ u : World, u = wr := ⟨_, rfl⟩
          obtain ⟨j, rfl, hj, HJ, HW⟩ := hrel
          have hfin : (∀ h : j < W.length, ¬ W[j].nm < n) → Hid (setF l n i = (W.take j ++ ⟨n, i⟩ :: W.drop j, 0)) := fun h => Lib.hid (by
            rw [HF.out, ← HP.out, pos_eq W n j hj HJ.out h])
          by_cases hlt : j < W.length
          · have d2 : decide ((j : Int) < (W.length : Int)) = true := decide_eq_true (by omega)
            obtain ⟨b5, o5, hb5, hix, hr⟩ := HO.out.rangeB len_eRf HW.out (P := Tryd.prog) Tryd.underlying37 cells43 some43 hlt
            obtain ⟨x, hx⟩ : ∃ x, Hid (W[j] = x) := ⟨_, Lib.hid rfl⟩
            rw [hx.out] at hr
            have e0 := range_nm hr
            obtain ⟨t, ht⟩ : ∃ t, Op.bytesLess x.nm n = t := ⟨_, rfl⟩
            clear hr
            cases t with
            | true =>
              have hlt3 : x.nm < n := by rw [Go.Proofs.bytesLess_eq] at ht; exact of_decide_eq_true ht
              have HJ2 : Hid (∀ t, t < j + 1 → ∀ h : t < W.length, W[t].nm < n) := Lib.hid (fun t ht h => by
                by_cases e : t = j
                · subst e; rw [hx.out]; exact hlt3
                · exact HJ.out t (by omega) h)
              clear hlt3 hfin
              go_wp2_with fail
              go_roundw
              case rel => exact ⟨j + 1, by go_num, by omega, HJ2, HW⟩
              case measure => simp [intOf]; omega
            | false =>
              have HF2 := hfin (fun h => by rw [hx.out]; rw [Go.Proofs.bytesLess_eq] at ht; exact of_decide_eq_false ht)
              clear hfin
              obtain ⟨vu, hu1, -, hu3⟩ := HO.out.upto (P := Tryd.prog) Tryd.underlying37 elem37 cells43 some43 (hi' := j) hj
              obtain ⟨vf, hf1, -, hf3⟩ := HO.out.from (P := Tryd.prog) Tryd.underlying37 elem37 cells43 some43 (lo := j) hj
              have SU := Lib.hid hu3
              have SF := Lib.hid hf3
              have hlt5 : w.heap.size < w5.heap.size := (Array.getElem?_eq_some_iff.1 HI5.out).1
              obtain ⟨x, hx9⟩ : ∃ x : Go.Sl.Rf, Hid (⟨n, i⟩ = x) := ⟨_, Lib.hid rfl⟩
              rw [hx9.out] at HF2
              have htl : (W.take j).length ≤ 64 := by rw [List.length_take]; omega
              have hdl : (W.drop j).length ≤ 64 := by rw [List.length_drop]; omega
              obtain ⟨A, hA⟩ : ∃ A, Hid (W.take j = A) := ⟨_, Lib.hid rfl⟩
              obtain ⟨D, hD⟩ : ∃ D, Hid (W.drop j = D) := ⟨_, Lib.hid rfl⟩
              rw [hA.out] at SU htl HF2
              rw [hD.out] at SF hdl HF2
              clear hu3 hf3
              go_wp2_with (first
                | (at_builtin; refine wpList_append rfl (en := eRf) (s := 33) (base := w5.heap.size) (e := 43) _ _ 37 rfl (vRf zRf) 48 Tryd.underlying37 info43 (size_eRf _) (by decide) len_eRf one_eRf (.slice none 0 0) vu [] A rfl (Sl.Own.nil _ _ _ _ _) rfl (SU.out.ext HW.out) (by simp only [maxLen, List.length_nil]; omega) (by simp only [List.length_nil]; omega) HW.out.size ?_; intro ov1 w6 hown hgr hbel; have HO6 := Lib.hid hown; have HW6 := Lib.hid (HW.out.trans hbel); clear hown hgr hbel)
                | refine ld39 rfl _ rfl _ _ rfl i (range_of_heap (cs := (eId i).toArray) ((HW6.out.block _ hlt5).trans HI5.out)) ?_
                | (refine bd43 rfl _ _ rfl n i rfl rfl ?_; rw [hx9.out])
                | refine one43 rfl _ rfl x rfl ?_
                | (at_builtin; refine wpList_append1 rfl (en := eRf) (s := 33) (base := w5.heap.size) (e := 43) _ _ 37 rfl (vRf zRf) 48 Tryd.underlying37 info43 (size_eRf _) (by decide) len_eRf one_eRf _ _ A x rfl (HO6.out.alloc _) rfl (sl_new x) (by simp only [maxLen]; omega) (by omega) (by have := HW6.out.size; simp at this ⊢; omega) ?_; intro ov2 w7 hown hgr hbel hblk; have HO7 := Lib.hid hown; have HW7 := Lib.hid ((HW6.out.alloc HW6.out.size _).trans hbel); clear hown hgr hbel hblk)
                | (at_builtin; refine wpList_append rfl (en := eRf) (s := 33) (base := w5.heap.size) (e := 43) _ _ 37 rfl (vRf zRf) 48 Tryd.underlying37 info43 (size_eRf _) (by decide) len_eRf one_eRf ov2 vf (A ++ [x]) D rfl HO7.out rfl (SF.out.ext HW7.out) (by simp only [maxLen, List.length_append, List.length_cons, List.length_nil]; omega) (by simp only [List.length_append, List.length_cons, List.length_nil]; omega) HW7.out.size ?_; intro ov3 w8 hown hgr hbel; have HO8 := Lib.hid hown; have HW8 := Lib.hid (HW7.out.trans hbel); clear hown hgr hbel))
              go_ret2
              rw [HF2.out]
              refine ⟨_, rfl, ?_, bthen HB5.out HW8.out⟩
              have := HO8.out.sl len_eRf
              rwa [List.append_assoc, List.singleton_append] at this
          · obtain rfl : j = W.length := by omega
            have HF2 := hfin (fun h => absurd h hlt)
            have d2 : decide ((W.length : Int) < (W.length : Int)) = false := decide_eq_false (by omega)
            clear hfin
            obtain ⟨vu, hu1, -, hu3⟩ := HO.out.upto (P := Tryd.prog) Tryd.underlying37 elem37 cells43 some43 (hi' := W.length) hj
            obtain ⟨vf, hf1, -, hf3⟩ := HO.out.from (P := Tryd.prog) Tryd.underlying37 elem37 cells43 some43 (lo := W.length) hj
            have SU := Lib.hid hu3
            have SF := Lib.hid hf3
            have hlt5 : w.heap.size < w5.heap.size := (Array.getElem?_eq_some_iff.1 HI5.out).1
            obtain ⟨x, hx9⟩ : ∃ x : Go.Sl.Rf, Hid (⟨n, i⟩ = x) := ⟨_, Lib.hid rfl⟩
            rw [hx9.out] at HF2
            have htl : (W.take W.length).length ≤ 64 := by rw [List.length_take]; omega
            have hdl : (W.drop W.length).length ≤ 64 := by rw [List.length_drop]; omega
            obtain ⟨A, hA⟩ : ∃ A, Hid (W.take W.length = A) := ⟨_, Lib.hid rfl⟩
            obtain ⟨D, hD⟩ : ∃ D, Hid (W.drop W.length = D) := ⟨_, Lib.hid rfl⟩
            rw [hA.out] at SU htl HF2
            rw [hD.out] at SF hdl HF2
            clear hu3 hf3
            go_wp2_with (first
              | (at_builtin; refine wpList_append rfl (en := eRf) (s := 33) (base := w5.heap.size) (e := 43) _ _ 37 rfl (vRf zRf) 48 Tryd.underlying37 info43 (size_eRf _) (by decide) len_eRf one_eRf (.slice none 0 0) vu [] A rfl (Sl.Own.nil _ _ _ _ _) rfl (SU.out.ext HW.out) (by simp only [maxLen, List.length_nil]; omega) (by simp only [List.length_nil]; omega) HW.out.size ?_; intro ov1 w6 hown hgr hbel; have HO6 := Lib.hid hown; have HW6 := Lib.hid (HW.out.trans hbel); clear hown hgr hbel)
              | refine ld39 rfl _ rfl _ _ rfl i (range_of_heap (cs := (eId i).toArray) ((HW6.out.block _ hlt5).trans HI5.out)) ?_
              | (refine bd43 rfl _ _ rfl n i rfl rfl ?_; rw [hx9.out])
              | refine one43 rfl _ rfl x rfl ?_
              | (at_builtin; refine wpList_append1 rfl (en := eRf) (s := 33) (base := w5.heap.size) (e := 43) _ _ 37 rfl (vRf zRf) 48 Tryd.underlying37 info43 (size_eRf _) (by decide) len_eRf one_eRf _ _ A x rfl (HO6.out.alloc _) rfl (sl_new x) (by simp only [maxLen]; omega) (by omega) (by have := HW6.out.size; simp at this ⊢; omega) ?_; intro ov2 w7 hown hgr hbel hblk; have HO7 := Lib.hid hown; have HW7 := Lib.hid ((HW6.out.alloc HW6.out.size _).trans hbel); clear hown hgr hbel hblk)
              | (at_builtin; refine wpList_append rfl (en := eRf) (s := 33) (base := w5.heap.size) (e := 43) _ _ 37 rfl (vRf zRf) 48 Tryd.underlying37 info43 (size_eRf _) (by decide) len_eRf one_eRf ov2 vf (A ++ [x]) D rfl HO7.out rfl (SF.out.ext HW7.out) (by simp only [maxLen, List.length_append, List.length_cons, List.length_nil]; omega) (by simp only [List.length_append, List.length_cons, List.length_nil]; omega) HW7.out.size ?_; intro ov3 w8 hown hgr hbel; have HO8 := Lib.hid hown; have HW8 := Lib.hid (HW7.out.trans hbel); clear hown hgr hbel))
            go_ret2
            rw [HF2.out]
            refine ⟨_, rfl, ?_, bthen HB5.out HW8.out⟩
            have := HO8.out.sl len_eRf
            rwa [List.append_assoc, List.singleton_append] at this
  · have HF : Hid (setF l n i = ([], c)) := Lib.hid (by unfold setF; rw [if_pos (by rw [hc.out]; exact hc0), hc.out])
    have hne : (c == 0) = false := by rw [beq_eq_false_iff_ne]; exact hc0
    go_wp2_with fail
    go_ret2
    rw [HF.out]
    exact ⟨_, rfl, Sl.nil _ _ _, HB2.out⟩
end Go.Proofs.YtopamnfelngkcaaDoor.Rf
