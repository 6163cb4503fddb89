/-
  Layer 12: the document's Drop, and RefsSets. No condition besides what the arguments are.
-/
import Derived.Test.YtopamnfelngkcaaDoorR27
namespace Go.Refs
open Go.Sl Go.Route
theorem setF_names {l : List Rf} {n : List UInt8} {i : Idb} {B : Nat} (hl : ∀ r ∈ l, r.nm.length ≤ B) (hn : n.length ≤ B) : ∀ r ∈ (setF l n i).1, r.nm.length ≤ B := by
  unfold setF
  split
  · intro r hr; cases hr
  split
  · intro r hr; cases hr
  split
  · intro r hr
    rcases List.mem_or_eq_of_mem_set hr with h | h
    · exact hl r h
    · rw [h]; exact hn
  split
  · intro r hr; cases hr
  · intro r hr
    rcases List.mem_append.1 hr with h | h
    · exact hl r (List.mem_of_mem_take h)
    · rcases List.mem_cons.1 h with h | h
      · rw [h]; exact hn
      · exact hl r (List.mem_of_mem_drop h)
end Go.Refs
namespace Go.Proofs.YtopamnfelngkcaaDoor.Rf
open Go.Proofs Go.RowKit Go.Shelf Go.Sl Go.Route Go.Refs
set_option linter.unusedVariables false

set_option maxRecDepth 100000 in
set_option maxHeartbeats 2000000 in
theorem rdrop_any (v : Value) (l : List Go.Sl.Rf) (n : List UInt8) (w : World) (hv : Sl eRf 33 w v l) (hl : ∀ r ∈ l, r.nm.length ≤ 9223372036854775807) :
    Calls Tryd.prog 64 #[v, .string (bstr n)] w fun e w' => ∃ ov, e = .returned (.tuple #[ov, .int .i64 (dropF l n).2]) ∧ Sl eRf 33 w' ov (dropF l n).1 ∧ Below w.heap.size w w' := by
  have HL := Lib.hid hl
  have HV := Lib.hid hv
  obtain ⟨c, hc⟩ : ∃ c, Hid (chk l = c) := ⟨_, Lib.hid rfl⟩
  have HC := Lib.hid (rcheck_any v l w HV.out HL.out)
  rw [hc.out] at HC
  clear hv hl
  go_enter Tryd.func64, Tryd.ntmps64
  go_wp2_with fail
  refine HC.out.mono ?_
  rintro e w2 ⟨rfl, hb2⟩
  have HB2 := Lib.hid hb2
  have HV2 := Lib.hid (HV.out.ext hb2)
  clear hb2 HC
  by_cases hc0 : c = 0
  · subst hc0
    obtain ⟨hlen, _, hsort⟩ := chk_ok hc.out
    have HD := Lib.hid (drop_doc (n := n) hc.out)
    have HFi := Lib.hid (rfind_any v l n w2 HV2.out)
    rw [find_hit hsort] at HFi
    obtain ⟨t, ht⟩ : ∃ t, Hid (hit l n = t) := ⟨_, Lib.hid rfl⟩
    obtain ⟨i, hi⟩ : ∃ t, Hid ((findF l n).1 = t) := ⟨_, Lib.hid rfl⟩
    rw [ht.out, hi.out] at HFi
    rw [ht.out] at HD
    clear hsort
    go_wp2_with fail
    refine HFi.out.mono ?_
    rintro e w4 ⟨rfl, hb4⟩
    have HB4 := Lib.hid (bthen HB2.out hb4)
    have HV4 := Lib.hid (HV2.out.ext hb4)
    have HV5 : Hid (Sl eRf 33 (w4.alloc (.cells (eId i).toArray 39)) v l) := Lib.hid (HV4.out.ext ((Below.refl _ _).alloc (Nat.le_refl _) _))
    have HB5 : Hid (Below w.heap.size w (w4.alloc (.cells (eId i).toArray 39))) := Lib.hid (HB4.out.alloc HB4.out.size _)
    clear hb4 HFi
    cases t with
    | true =>
      have HF : Hid (dropF l n = (woF l n, 0)) := Lib.hid (by rw [HD.out, if_pos rfl])
      go_wp2_with (refine new39 rfl rfl rfl _ _ rfl rfl i rfl rfl ?_)
      refine (without_any v l n _ HV5.out (by omega)).mono ?_
      rintro e w6 ⟨ov6, rfl, ho6, hb6⟩
      have HO6 := Lib.hid ho6
      have HB6 := Lib.hid (bthen HB5.out hb6)
      clear ho6 hb6
      go_wp2_with fail
      go_ret2
      rw [HF.out]
      exact ⟨_, rfl, HO6.out.sl len_eRf, HB6.out⟩
    | false =>
      have HF : Hid (dropF l n = ([], 35)) := Lib.hid (by rw [HD.out]; rfl)
      go_wp2_with (refine new39 rfl rfl rfl _ _ rfl rfl i rfl rfl ?_)
      go_ret2
      rw [HF.out]
      exact ⟨_, rfl, Sl.nil _ _ _, HB5.out⟩
  · have HF : Hid (dropF l n = ([], c)) := Lib.hid (by unfold dropF; rw [if_pos (by rw [hc.out]; exact hc0), hc.out])
    have hne : (c == 0) = false := by rw [beq_eq_false_iff_ne]; exact hc0
    go_wp2_with fail
    go_ret2
    rw [HF.out]
    exact ⟨_, rfl, Sl.nil _ _ _, HB2.out⟩

theorem same_all (v1 v2 : Value) (l : List Go.Sl.Rf) (w : World) (h1 : Sl eRf 33 w v1 l) (h2 : Sl eRf 33 w v2 l) :
    Calls Tryd.prog 51 #[v1, v2] w fun e w' => e = .returned (.bool true) ∧ Below w.heap.size w w' := by
  have := same_any v1 v2 l l w h1 h2
  rwa [show decide (l = l) = true by simp] at this

set_option maxRecDepth 100000 in
set_option maxHeartbeats 2000000 in
theorem refsSets_any (v : Value) (l : List Go.Sl.Rf) (n : List UInt8) (i : Idb) (w : World) (hv : Sl eRf 33 w v l) (hl : ∀ r ∈ l, r.nm.length ≤ 9223372036854775807) (hn : n.length ≤ 9223372036854775807) (hm : Ml w) :
    Calls Tryd.prog 13 #[v, .string (bstr n), vId i] w fun e w' => e = .returned (.bool true) ∧ Below w.heap.size w w' := by
  obtain ⟨w1, hw1⟩ : ∃ u, Hid (u = w.alloc (.cells (eId i).toArray 39)) := ⟨_, Lib.hid rfl⟩
  have HI : Hid (w1.heap[w.heap.size]? = some (.cells (eId i).toArray 39 (0, 0))) := Lib.hid (by rw [hw1.out]; exact heap_alloc_new _ _)
  have HB : Hid (Below w.heap.size w w1) := Lib.hid (by rw [hw1.out]; exact (Below.refl _ _).alloc (Nat.le_refl _) _)
  have hs1 : w1.heap.size = w.heap.size + 1 := by rw [hw1.out]; simp
  have hlen := hv.run_len (P := Tryd.prog) Tryd.underlying37
  have HL := Lib.hid hl
  have HV1 := Lib.hid (hv.ext HB.out)
  have HM1 := Lib.hid (hm.ext HB.out)
  have hmax := hv.len_le
  clear hv hl hm
  by_cases h80 : 80 < l.length
  · have d1 : decide ((80 : Int) < l.length) = true := decide_eq_true (by omega)
    go_enter Tryd.func13, Tryd.ntmps13
    go_wp2_with fail
    rw [← hw1.out]
    refine (works12_any w1 HM1.out).mono ?_
    rintro e w2 ⟨rfl, hb⟩
    have HB2 := Lib.hid (bthen HB.out hb)
    clear hb
    go_wp2_with fail
    go_ret
    exact ⟨rfl, HB2.out⟩
  have d1 : decide ((80 : Int) < l.length) = false := decide_eq_false (by omega)
  have s43 := sz43
  have hl80 : l.length ≤ 80 := by omega
  obtain ⟨X, hX⟩ : ∃ X, Hid ((setF l n i).1 = X) := ⟨_, Lib.hid rfl⟩
  obtain ⟨c, hc⟩ : ∃ X, Hid ((setF l n i).2 = X) := ⟨_, Lib.hid rfl⟩
  obtain ⟨Y, hY⟩ : ∃ X, Hid ((dropF l n).1 = X) := ⟨_, Lib.hid rfl⟩
  obtain ⟨d, hd⟩ : ∃ X, Hid ((dropF l n).2 = X) := ⟨_, Lib.hid rfl⟩
  have HMa : Hid (Sl.Own eRf 33 w1.heap.size 43 ((w.alloc (.cells (eId i).toArray 39)).alloc (.cells #[] 43)) (.slice (some ⟨w.heap.size + 1, 0, none⟩) 0 0) []) := Lib.hid (by
    have := made0 w1
    rw [hs1] at this ⊢
    rw [hw1.out] at this
    exact this)
  have HVa : Hid (Sl eRf 33 ((w.alloc (.cells (eId i).toArray 39)).alloc (.cells #[] 43)) v l) := Lib.hid (by rw [← hw1.out]; exact HV1.out.ext ((Below.refl _ _).alloc (Nat.le_refl _) _))
  have HBa : Hid (Below w1.heap.size w1 ((w.alloc (.cells (eId i).toArray 39)).alloc (.cells #[] 43))) := Lib.hid (by rw [← hw1.out]; exact (Below.refl _ _).alloc (Nat.le_refl _) _)
  clear h80
  go_enter Tryd.func13, Tryd.ntmps13
  go_wp2_with (first
    | (at_builtin; go_must (refine wpList_append rfl (en := eRf) (s := 33) (base := w1.heap.size) (e := 43) _ _ 37 rfl (vRf zRf) 48 Tryd.underlying37 info43 (size_eRf _) (by decide) len_eRf one_eRf _ _ [] l rfl HMa.out rfl HVa.out (by simp only [maxLen, List.length_nil]; omega) (by simp only [List.length_nil]; omega) HBa.out.size ?_; intro ov' w6 hown hgr hbel; have HO := Lib.hid (hown.sl len_eRf); have HW := Lib.hid (HBa.out.trans hbel); have HI6 : Hid (w6.heap[w.heap.size]? = some (.cells (eId i).toArray 39 (0, 0))) := Lib.hid ((HW.out.block _ (by omega)).trans HI.out); have HR6 : Hid (w6.rangeAt w.heap.size 0 (eId i)) := Lib.hid (range_of_heap (cs := (eId i).toArray) HI6.out); clear hown hgr hbel))
    | refine ld39 rfl _ rfl _ _ rfl i HR6.out ?_)
  have HVa1 := Lib.hid (HV1.out.ext HW.out)
  have HLi := HL
  refine (set_any ov' l n i w6 HO.out HL.out hn (HM1.out.ext HW.out)).mono ?_
  rintro e w7 ⟨v7, rfl, hs7, hb7⟩
  rw [hX.out] at hs7
  rw [hc.out]
  have HS7 := Lib.hid hs7
  have HW7 := Lib.hid (bthen HW.out hb7)
  have HO7 := Lib.hid (HO.out.ext hb7)
  have HI7 : Hid (w7.heap[w.heap.size]? = some (.cells (eId i).toArray 39 (0, 0))) := Lib.hid ((HW7.out.block _ (by omega)).trans HI.out)
  have HR7 : Hid (w7.rangeAt w.heap.size 0 (eId i)) := Lib.hid (range_of_heap (cs := (eId i).toArray) HI7.out)
  clear hs7 hb7
  go_wp2_with (refine ld39 rfl _ rfl _ _ rfl i HR7.out ?_)
  refine (rset_any v l n i w7 (HV1.out.ext HW7.out) HL.out hn).mono ?_
  rintro e w8 ⟨v8, rfl, hs8, hb8⟩
  rw [hX.out] at hs8
  rw [hc.out]
  have HS8 := Lib.hid hs8
  have HS78 := Lib.hid (HS7.out.ext hb8)
  have HW8 := Lib.hid (bthen HW7.out hb8)
  have HO8 := Lib.hid (HO7.out.ext hb8)
  clear hs8 hb8
  go_wp2_with fail
  refine (drop_any ov' l n w8 HO8.out HL.out hn (HM1.out.ext HW8.out)).mono ?_
  rintro e w9 ⟨v9, rfl, hs9, hb9⟩
  rw [hY.out] at hs9
  rw [hd.out]
  have HS9 := Lib.hid hs9
  have HS89 := Lib.hid (HS8.out.ext hb9)
  have HS79 := Lib.hid (HS78.out.ext hb9)
  have HW9 := Lib.hid (bthen HW8.out hb9)
  have HO9 := Lib.hid (HO8.out.ext hb9)
  clear hs9 hb9
  go_wp2_with fail
  refine (rdrop_any v l n w9 (HV1.out.ext HW9.out) HL.out).mono ?_
  rintro e w10 ⟨v10, rfl, hs10, hb10⟩
  rw [hY.out] at hs10
  rw [hd.out]
  have HS10 := Lib.hid hs10
  have HS9a := Lib.hid (HS9.out.ext hb10)
  have HS8a := Lib.hid (HS89.out.ext hb10)
  have HS7a := Lib.hid (HS79.out.ext hb10)
  have HW10 := Lib.hid (bthen HW9.out hb10)
  have HO10 := Lib.hid (HO9.out.ext hb10)
  clear hs10 hb10
  go_wp2_with fail
  refine (same_all v7 v8 X w10 HS7a.out HS8a.out).mono ?_
  rintro e w11 ⟨rfl, hb11⟩
  have HS10b := Lib.hid (HS10.out.ext hb11)
  have HS9b := Lib.hid (HS9a.out.ext hb11)
  have HW11 := Lib.hid (bthen HW10.out hb11)
  have HO11 := Lib.hid (HO10.out.ext hb11)
  clear hb11
  go_wp2_with fail
  refine (same_all v9 v10 Y w11 HS9b.out HS10b.out).mono ?_
  rintro e w12 ⟨rfl, hb12⟩
  have HW12 := Lib.hid (bthen HW11.out hb12)
  have HO12 := Lib.hid (HO11.out.ext hb12)
  clear hb12
  go_wp2_with fail
  refine (same_all ov' v l w12 HO12.out (HV1.out.ext HW12.out)).mono ?_
  rintro e w13 ⟨rfl, hb13⟩
  have HW13 := Lib.hid (bthen HW12.out hb13)
  clear hb13
  go_wp2_with fail
  refine (works12_any w13 (HM1.out.ext HW13.out)).mono ?_
  rintro e w14 ⟨rfl, hb14⟩
  have HW14 := Lib.hid (bthen HB.out (bthen HW13.out hb14))
  clear hb14
  go_wp2_with fail
  go_ret
  exact ⟨rfl, HW14.out⟩
end Go.Proofs.YtopamnfelngkcaaDoor.Rf
