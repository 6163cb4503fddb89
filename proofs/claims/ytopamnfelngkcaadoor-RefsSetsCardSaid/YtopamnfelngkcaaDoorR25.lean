/-
  Layer 12: Set and Drop. No condition besides what the arguments are.
-/
import Derived.Test.YtopamnfelngkcaaDoorRP5
namespace Go.Refs
open Go.Sl Go.Route
theorem over_in {α : Type} {c vs : List α} {o m : Nat} (h : o + vs.length ≤ m) (hm : m ≤ c.length) : (over c o vs).take m = over (c.take m) o vs := by
  unfold over
  rw [List.take_take, show min o m = o by omega, List.append_assoc, List.append_assoc, List.take_append, List.take_of_length_le (by rw [List.length_take]; omega), List.take_append, List.length_take, show min o c.length = o by omega, List.take_of_length_le (l := vs) (by omega), List.drop_take]
  congr 3; omega
end Go.Refs
namespace Go.Proofs.YtopamnfelngkcaaDoor.Rf
open Go.Proofs Go.RowKit Go.Shelf Go.Sl Go.Route Go.Refs
set_option linter.unusedVariables false

theorem below_cells {B b : Nat} {a : World} (hb : B ≤ b) : ∀ (vs : List Value) (o : Nat) (w : World), Below B a w → Below B a (w.setCells b o vs)
  | [], _, _, h => h
  | v :: r, o, w, h => below_cells hb r (o + 1) _ (h.setCell (p := ⟨b, o, none⟩) hb v)
theorem set_flat {l : List Go.Sl.Rf} {k : Nat} (hk : k < l.length) (i : Idb) : over (l.flatMap eRf) (k * 33 + 1) (eId i) = (l.set k ⟨l[k].nm, i⟩).flatMap eRf := by
  have e1 : (l.flatMap eRf).drop (k * 33) = eRf l[k] ++ (l.drop (k + 1)).flatMap eRf := by rw [flat_drop len_eRf, List.drop_eq_getElem_cons hk, List.flatMap_cons]
  have e2 : (l.flatMap eRf).drop (k * 33 + 1 + (eId i).length) = (l.drop (k + 1)).flatMap eRf := by rw [len_eId, show k * 33 + 1 + 32 = (k + 1) * 33 by omega, flat_drop len_eRf]
  unfold over
  rw [e2, take_two, e1, flat_take len_eRf, List.set_eq_take_append_cons_drop, if_pos hk, List.flatMap_append, List.flatMap_cons]
  simp [eRf]
theorem idx37 {g n cap k : Nat} (hk : k < n) (ik : IntKind) (u : World) : (Instr.indexAt 37 (.slice (some ⟨g, 0, none⟩) n cap) (.int ik (k : Int))).run Tryd.prog u = .ok (.pointer (some ⟨g, k * 33, none⟩)) u := by
  have h1 : (k : Int) < n := by omega
  simp [Instr.indexAt, run_underlying Tryd.underlying37, asIntOf, sz43, hk]
  rw [Addr.add_lit]; simp
theorem own_set {base g cap : Nat} {cur : Array Value} {w : World} {l : List Go.Sl.Rf} {k : Nat} (hk : k < l.length) (i : Idb) (hb : base ≤ g) (hg : w.heap[g]? = some (.cells cur 43 (0, 0))) (hc : l.length ≤ cap) (hm : cap ≤ maxLen) (hs : cur.size = cap * 33) (ht : cur.toList.take (l.length * 33) = l.flatMap eRf) :
    Sl.Own eRf 33 base 43 (w.setCells g (k * 33 + 1) (eId i)) (.slice (some ⟨g, 0, none⟩) l.length cap) (l.set k ⟨l[k].nm, i⟩) := by
  have hfit : k * 33 + 1 + (eId i).length ≤ cur.size := by rw [len_eId, hs]; omega
  have hcl : cur.toList.length = cap * 33 := by simpa using hs
  refine own_row (cur := (over cur.toList (k * 33 + 1) (eId i)).toArray) hb ?_ (by simp) hc hm ?_ ?_
  · rw [setCells_row g 43 _ _ cur w hg hfit]; exact setRow_heap w g cur _ 43 (0, 0) hg
  · simp only [List.size_toArray]; rw [over_len (by simpa using hfit), hcl]
  · simp only []
    rw [over_in (by rw [len_eId]; omega) (by rw [hcl]; omega), ht, set_flat hk]

set_option maxRecDepth 100000 in
set_option maxHeartbeats 2000000 in
theorem set_any (v : Value) (l : List Go.Sl.Rf) (n : List UInt8) (i : Idb) (w : World) (hv : Sl eRf 33 w v l) (hl : ∀ r ∈ l, r.nm.length ≤ 9223372036854775807) (hn : n.length ≤ 9223372036854775807) (hm : Ml w) :
    Calls Tryd.prog 61 #[v, .string (bstr n), vId i] w fun e w' => ∃ ov, e = .returned (.tuple #[ov, .int .i64 (setF l n i).2]) ∧ Sl eRf 33 w' ov (setF l n i).1 ∧ Below w.heap.size w w' := by
  obtain ⟨w1, hw1⟩ : ∃ u, Hid (u = w.alloc (.cells (eId i).toArray 39)) := ⟨_, Lib.hid rfl⟩
  have HI : Hid (w1.heap[w.heap.size]? = some (.cells (eId i).toArray 39 (0, 0))) := Lib.hid (by rw [hw1.out]; exact heap_alloc_new _ _)
  have HB : Hid (Below w.heap.size w w1) := Lib.hid (by rw [hw1.out]; exact (Below.refl _ _).alloc (Nat.le_refl _) _)
  have hs1 : w1.heap.size = w.heap.size + 1 := by rw [hw1.out]; simp
  have HL := Lib.hid hl
  have HV1 := Lib.hid (hv.ext HB.out)
  have HM1 := Lib.hid (hm.ext HB.out)
  obtain ⟨c, hc⟩ : ∃ c, Hid (chk l = c) := ⟨_, Lib.hid rfl⟩
  have HC := Lib.hid (check_any v l w1 HV1.out HL.out HM1.out)
  rw [hc.out] at HC
  clear hv hl hm
  go_enter Tryd.func61, Tryd.ntmps61
  go_wp2_with fail
  rw [← hw1.out]
  refine HC.out.mono ?_
  rintro e w2 ⟨rfl, hb2⟩
  have HB2 := Lib.hid (bthen HB.out hb2)
  have HV2 := Lib.hid (HV1.out.ext hb2)
  have HM2 := Lib.hid (HM1.out.ext hb2)
  have HI2 : Hid (w2.heap[w.heap.size]? = some (.cells (eId i).toArray 39 (0, 0))) := Lib.hid ((hb2.block _ (by omega)).trans HI.out)
  clear hb2 HC
  by_cases hc0 : c = 0
  · subst hc0
    cases hr : rgt n with
    | false =>
      have HF : Hid (setF l n i = ([], 15)) := Lib.hid (by unfold setF; rw [if_neg (by rw [hc.out]; simp), if_pos hr])
      go_wp2_with fail
      refine (right_all n w2 hn HM2.out).mono ?_
      rintro e w3 ⟨rfl, hb3⟩
      rw [hr]
      have HB3 := Lib.hid (bthen HB2.out hb3)
      clear hb3 hr
      go_wp2_with fail
      go_ret2
      rw [HF.out]
      exact ⟨_, rfl, Sl.nil _ _ _, HB3.out⟩
    | true =>
      obtain ⟨hlen, _, hsort⟩ := chk_ok hc.out
      have HSo := Lib.hid hsort
      obtain ⟨k, hk⟩ : ∃ k, Hid (pos l n = k) := ⟨_, Lib.hid rfl⟩
      have hkl : k ≤ l.length := by rw [← hk.out]; exact pos_le l n
      clear hsort
      go_wp2_with fail
      refine (right_all n w2 hn HM2.out).mono ?_
      rintro e w3 ⟨rfl, hb3⟩
      rw [hr]
      have HB3 := Lib.hid (bthen HB2.out hb3)
      have HV3 := Lib.hid (HV2.out.ext hb3)
      have hs3 := hb3.size
      have hs2 := HB2.out.size
      have HI3 : Hid (w3.heap[w.heap.size]? = some (.cells (eId i).toArray 39 (0, 0))) := Lib.hid ((hb3.block _ (Array.getElem?_eq_some_iff.1 HI2.out).1).trans HI2.out)
      have HR := Lib.hid hr
      clear hb3 hr
      go_wp2_with (refine bd43n rfl _ rfl n rfl ?_)
      have HSe := Lib.hid (search_any v l ⟨n, zId⟩ w3 HV3.out HSo.out (by omega))
      simp only [] at HSe
      rw [hk.out] at HSe
      obtain ⟨t, ht⟩ : ∃ t, Hid (hit l n = t) := ⟨_, Lib.hid rfl⟩
      rw [ht.out] at HSe
      refine HSe.out.mono ?_
      rintro e w4 ⟨rfl, hb4⟩
      have HB4 := Lib.hid (bthen HB3.out hb4)
      have HV4 := Lib.hid (HV3.out.ext hb4)
      have HI4 : Hid (w4.heap[w.heap.size]? = some (.cells (eId i).toArray 39 (0, 0))) := Lib.hid ((hb4.block _ (Array.getElem?_eq_some_iff.1 HI3.out).1).trans HI3.out)
      clear hb4 HSe
      go_wp2_with fail
      refine (clone_any v l w4 HV4.out (by omega)).mono ?_
      rintro e w5 ⟨ov, rfl, ho, hb5⟩
      have HB5 := Lib.hid (bthen HB4.out hb5)
      have HI5 : Hid (w5.heap[w.heap.size]? = some (.cells (eId i).toArray 39 (0, 0))) := Lib.hid ((hb5.block _ (Array.getElem?_eq_some_iff.1 HI4.out).1).trans HI4.out)
      have HR5 : Hid (w5.rangeAt w.heap.size 0 (eId i)) := Lib.hid (range_of_heap (cs := (eId i).toArray) HI5.out)
      have HO := Lib.hid (ho.mono HB4.out.size)
      clear hb5 ho
      cases t with
      | true =>
        obtain ⟨hp, he⟩ := hit_at ht.out
        have hp2 : k < l.length := by rw [← hk.out]; exact hp
        have he2 : (l[k]'hp2).nm = n := by rw [← he]; congr 2; exact hk.out.symm
        have HF : Hid (setF l n i = (l.set k ⟨(l[k]'hp2).nm, i⟩, 0)) := Lib.hid (by unfold setF; rw [if_neg (by rw [hc.out]; simp), if_neg (by rw [HR.out]; simp), if_pos ht.out, hk.out, he2])
        obtain ⟨g, cap, cur, rfl, g1, g2, g3, g4, g5⟩ := HO.out.block (by rintro rfl; simp at hp2)
        have g6 : cap ≤ maxLen := by
          rcases HO.out.2 with ⟨h, _⟩ | ⟨g', cap', cur', h, _, _, _, h6, _⟩
          · cases h
          · simp at h; rw [h.2]; exact h6
        have HG := Lib.hid g2
        have HS := Lib.hid (own_set hp2 i g1 g2 g3 g6 g4 g5)
        have hth : w5.there g (k * 33 + 1) (eId i).toArray.size := fun j hj => by
          have hj2 : k * 33 + 1 + j < cur.size := by rw [size_eId] at hj; omega
          exact ⟨by simp [World.cell?, HG.out, hj2], by simp [World.frozen?, HG.out]⟩
        have HTh := Lib.hid hth
        obtain ⟨V, hV⟩ : ∃ V, Hid (Value.slice (some ⟨g, 0, none⟩) l.length cap = V) := ⟨_, Lib.hid rfl⟩
        have hix : ∀ (ik : IntKind) (u : World), (Instr.indexAt 37 V (.int ik (k : Int))).run Tryd.prog u = .ok (.pointer (some ⟨g, k * 33, none⟩)) u := fun ik u => by rw [← hV.out]; exact idx37 hp2 ik u
        rw [hV.out] at HS ⊢
        clear hp he he2 g2 g5 g4 hth
        go_wp2_with (first
          | refine ld39 rfl _ rfl _ _ rfl i HR5.out ?_
          | refine wpList_store_mid rfl 39 _ _ rfl g (k * 33 + 1) (eId i).toArray rfl rfl HTh.out (by rw [size39, size_eId]) (all_oneCell_toArray (one_eId i)) ?_)
        go_ret2
        rw [HF.out]
        exact ⟨_, rfl, HS.out.sl len_eRf, below_cells g1 _ _ _ HB5.out⟩
      | false =>
        have hnl : l.length ≠ 64 → Hid (setF l n i = (l.take k ++ ⟨n, i⟩ :: l.drop k, 0)) := fun h => Lib.hid (by unfold setF; rw [if_neg (by rw [hc.out]; simp), if_neg (by rw [HR.out]; simp), if_neg (by rw [ht.out]; simp), if_neg h, hk.out])
        have hlen5 := (HO.out.sl len_eRf).run_len (P := Tryd.prog) Tryd.underlying37
        by_cases h64 : l.length = 64
        · have HF : Hid (setF l n i = ([], 5)) := Lib.hid (by unfold setF; rw [if_neg (by rw [hc.out]; simp), if_neg (by rw [HR.out]; simp), if_neg (by rw [ht.out]; simp), if_pos h64])
          have d64 : ((l.length : Int) == 64) = true := by rw [h64]; rfl
          clear hnl
          go_wp2_with fail
          go_ret2
          rw [HF.out]
          exact ⟨_, rfl, Sl.nil _ _ _, HB5.out⟩
        · have HF := hnl h64
          have d64 : ((l.length : Int) == 64) = false := by rw [beq_eq_false_iff_ne]; omega
          have d65 : ¬ (l.length : Int) = 64 := by omega
          obtain ⟨x, hx⟩ : ∃ x : Go.Sl.Rf, Hid (⟨n, i⟩ = x) := ⟨_, Lib.hid rfl⟩
          rw [hx.out] at HF
          clear hnl h64
          go_wp2_with (first
            | refine ld39 rfl _ rfl _ _ rfl i HR5.out ?_
            | (refine bd43 rfl _ _ rfl n i rfl rfl ?_; rw [hx.out])
            | refine one43 rfl _ rfl x rfl ?_)
          refine (insert_any ov k w5.heap.size l x _ w.heap.size (by have := HB5.out.size; simp; omega) (HO.out.alloc _) (by omega) hkl (heap_alloc_new _ _) (HO.out.ne (.inr (Nat.le_refl _)))).mono ?_
          rintro e w6 ⟨ov6, rfl, ho6, hb6⟩
          have HO6 := Lib.hid ho6
          have HB6 := Lib.hid ((HB5.out.alloc HB5.out.size _).trans hb6)
          clear ho6 hb6
          go_wp2_with fail
          go_ret2
          rw [HF.out]
          exact ⟨_, rfl, HO6.out.sl len_eRf, HB6.out⟩
  · have HF : Hid (setF l n i = ([], c)) := Lib.hid (by unfold setF; rw [if_pos (by rw [hc.out]; exact hc0), hc.out])
    have hne : (c == 0) = false := by rw [beq_eq_false_iff_ne]; exact hc0
    go_wp2_with fail
    go_ret2
    rw [HF.out]
    exact ⟨_, rfl, Sl.nil _ _ _, HB2.out⟩

set_option maxRecDepth 100000 in
set_option maxHeartbeats 2000000 in
theorem drop_any (v : Value) (l : List Go.Sl.Rf) (n : List UInt8) (w : World) (hv : Sl eRf 33 w v l) (hl : ∀ r ∈ l, r.nm.length ≤ 9223372036854775807) (hn : n.length ≤ 9223372036854775807) (hm : Ml w) :
    Calls Tryd.prog 63 #[v, .string (bstr n)] w fun e w' => ∃ ov, e = .returned (.tuple #[ov, .int .i64 (dropF l n).2]) ∧ Sl eRf 33 w' ov (dropF l n).1 ∧ Below w.heap.size w w' := by
  have HL := Lib.hid hl
  have HV := Lib.hid hv
  have HM := Lib.hid hm
  obtain ⟨c, hc⟩ : ∃ c, Hid (chk l = c) := ⟨_, Lib.hid rfl⟩
  have HC := Lib.hid (check_any v l w HV.out HL.out HM.out)
  rw [hc.out] at HC
  clear hv hl hm
  go_enter Tryd.func63, Tryd.ntmps63
  go_wp2_with fail
  refine HC.out.mono ?_
  rintro e w2 ⟨rfl, hb2⟩
  have HB2 := Lib.hid hb2
  have HV2 := Lib.hid (HV.out.ext hb2)
  clear hb2 HC
  by_cases hc0 : c = 0
  · subst hc0
    obtain ⟨hlen, _, hsort⟩ := chk_ok hc.out
    have HSo := Lib.hid hsort
    obtain ⟨k, hk⟩ : ∃ k, Hid (pos l n = k) := ⟨_, Lib.hid rfl⟩
    have hkl : k ≤ l.length := by rw [← hk.out]; exact pos_le l n
    clear hsort
    have HSe := Lib.hid (search_any v l ⟨n, zId⟩ w2 HV2.out HSo.out (by omega))
    simp only [] at HSe
    rw [hk.out] at HSe
    obtain ⟨t, ht⟩ : ∃ t, Hid (hit l n = t) := ⟨_, Lib.hid rfl⟩
    rw [ht.out] at HSe
    go_wp2_with (refine bd43n rfl _ rfl n rfl ?_)
    refine HSe.out.mono ?_
    rintro e w4 ⟨rfl, hb4⟩
    have HB4 := Lib.hid (bthen HB2.out hb4)
    have HV4 := Lib.hid (HV2.out.ext hb4)
    clear hb4 HSe
    cases t with
    | true =>
      have hp2 : k < l.length := by rw [← hk.out]; exact (hit_at ht.out).1
      have HF : Hid (dropF l n = (l.take k ++ l.drop (k + 1), 0)) := Lib.hid (by unfold dropF; rw [if_neg (by rw [hc.out]; simp), if_pos ht.out, hk.out])
      go_wp2_with fail
      refine (clone_any v l w4 HV4.out (by omega)).mono ?_
      rintro e w5 ⟨ov, rfl, ho, hb5⟩
      have HB5 := Lib.hid (bthen HB4.out hb5)
      have HO := Lib.hid (ho.mono HB4.out.size)
      clear hb5 ho
      go_wp2_with fail
      refine (delete_any ov k l w5 w.heap.size HO.out hp2).mono ?_
      rintro e w6 ⟨ov6, rfl, ho6, hb6⟩
      have HO6 := Lib.hid ho6
      have HB6 := Lib.hid (HB5.out.trans hb6)
      clear ho6 hb6
      go_wp2_with fail
      go_ret2
      rw [HF.out]
      exact ⟨_, rfl, HO6.out.sl len_eRf, HB6.out⟩
    | false =>
      have HF : Hid (dropF l n = ([], 35)) := Lib.hid (by unfold dropF; rw [if_neg (by rw [hc.out]; simp), if_neg (by rw [ht.out]; simp)])
      go_wp2_with fail
      go_ret2
      rw [HF.out]
      exact ⟨_, rfl, Sl.nil _ _ _, HB4.out⟩
  · have HF : Hid (dropF l n = ([], c)) := Lib.hid (by unfold dropF; rw [if_pos (by rw [hc.out]; exact hc0), hc.out])
    have hne : (c == 0) = false := by rw [beq_eq_false_iff_ne]; exact hc0
    go_wp2_with fail
    go_ret2
    rw [HF.out]
    exact ⟨_, rfl, Sl.nil _ _ _, HB2.out⟩
end Go.Proofs.YtopamnfelngkcaaDoor.Rf
