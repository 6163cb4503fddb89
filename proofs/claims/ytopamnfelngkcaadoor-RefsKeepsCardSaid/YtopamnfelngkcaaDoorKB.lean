/-
  Layer 12: a ref set, a ref dropped, in plain Lean. No program is named here.
  Layer 12: Set and Drop. No condition besides what the arguments are.
  Layer 12: the document's without, Set and Drop. No condition besides what the arguments are.
  Layer 12: the document's Set and Drop. No condition besides what the arguments are.
  Layer 12: the document's Drop, and RefsSets. No condition besides what the arguments are.
-/
import Derived.Test.YtopamnfelngkcaaDoorKA
import Derived.Test.YtopamnfelngkcaaDoorR3
namespace Go.Refs
open Go.Sl Go.Route
/-- what Set gives: the table and an error's number -/
def setF (l : List Rf) (n : List UInt8) (i : Idb) : List Rf × Int :=
  if chk l ≠ 0 then ([], chk l) else if rgt n = false then ([], 15) else
  if hit l n then (l.set (pos l n) ⟨n, i⟩, 0) else if l.length = 64 then ([], 5) else (l.take (pos l n) ++ ⟨n, i⟩ :: l.drop (pos l n), 0)
/-- what Drop gives -/
def dropF (l : List Rf) (n : List UInt8) : List Rf × Int :=
  if chk l ≠ 0 then ([], chk l) else if hit l n then (l.take (pos l n) ++ l.drop (pos l n + 1), 0) else ([], 35)
/-- the table without a name -/
def woF (l : List Rf) (n : List UInt8) : List Rf := l.filter (fun r => decide (r.nm ≠ n))

theorem hit_at {l : List Rf} {n : List UInt8} (h : hit l n = true) : ∃ hp : pos l n < l.length, l[pos l n].nm = n := by
  unfold hit at h
  cases e : l[pos l n]? with
  | none => rw [e] at h; cases h
  | some r =>
    rw [e] at h
    obtain ⟨hp, er⟩ := List.getElem?_eq_some_iff.1 e
    exact ⟨hp, by rw [er]; exact of_decide_eq_true h⟩
theorem hit_no {l : List Rf} {n : List UInt8} (h : hit l n = false) (hp : pos l n < l.length) : l[pos l n].nm ≠ n := by
  rw [hit_of rfl hp] at h
  exact of_decide_eq_false h
theorem above_pos {l : List Rf} (hs : (nms l).Pairwise (· < ·)) {n : List UInt8} {t : Nat} (h : pos l n < t) (ht : t < l.length) : n < l[t].nm := by
  have h1 := rise_lt hs h ht
  have h2 := at_pos l n (by omega)
  rcases List.le_iff_lt_or_eq.1 (List.not_lt.1 h2) with h3 | h3
  · exact List.lt_trans h3 h1
  · rw [h3]; exact h1
theorem take_pos {l : List Rf} {n : List UInt8} : ∀ r ∈ l.take (pos l n), r.nm < n := fun r hr => by
  obtain ⟨k, hk, rfl⟩ := List.getElem_of_mem hr
  rw [List.getElem_take]
  rw [List.length_take] at hk
  exact below_pos l n k (by omega) (by omega)
theorem drop_pos {l : List Rf} (hs : (nms l).Pairwise (· < ·)) {n : List UInt8} : ∀ r ∈ l.drop (pos l n + 1), n < r.nm := fun r hr => by
  obtain ⟨k, hk, rfl⟩ := List.getElem_of_mem hr
  rw [List.getElem_drop]
  rw [List.length_drop] at hk
  exact above_pos hs (by omega) (by omega)
theorem drop_pos' {l : List Rf} (hs : (nms l).Pairwise (· < ·)) {n : List UInt8} (hn : hit l n = false) : ∀ r ∈ l.drop (pos l n), n < r.nm := fun r hr => by
  by_cases hp : pos l n < l.length
  · rw [List.drop_eq_getElem_cons hp] at hr
    rcases List.mem_cons.1 hr with rfl | hr
    · rcases List.le_iff_lt_or_eq.1 (List.not_lt.1 (at_pos l n hp)) with h3 | h3
      · exact h3
      · exact absurd h3.symm (hit_no hn hp)
    · exact drop_pos hs r hr
  · rw [List.drop_of_length_le (by omega)] at hr; cases hr
theorem nm_ne_lt {a b : List UInt8} (h : a < b) : decide (a ≠ b) = true := decide_eq_true (lt_ne h)
theorem nm_ne_gt {a b : List UInt8} (h : b < a) : decide (a ≠ b) = true := decide_eq_true (fun e => lt_ne h e.symm)
theorem wo_hit {l : List Rf} (hs : (nms l).Pairwise (· < ·)) {n : List UInt8} (h : hit l n = true) : woF l n = l.take (pos l n) ++ l.drop (pos l n + 1) := by
  obtain ⟨hp, he⟩ := hit_at h
  unfold woF
  conv => lhs; rw [← List.take_append_drop (pos l n) l]
  rw [List.filter_append, List.drop_eq_getElem_cons hp, List.filter_cons, if_neg (by rw [he]; simp), List.filter_eq_self.2 (fun r hr => nm_ne_lt (take_pos r hr)), List.filter_eq_self.2 (fun r hr => nm_ne_gt (drop_pos hs r hr))]
theorem wo_no {l : List Rf} (hs : (nms l).Pairwise (· < ·)) {n : List UInt8} (h : hit l n = false) : woF l n = l := by
  unfold woF
  refine List.filter_eq_self.2 (fun r hr => ?_)
  rw [← List.take_append_drop (pos l n) l] at hr
  rcases List.mem_append.1 hr with hr | hr
  · exact nm_ne_lt (take_pos r hr)
  · exact nm_ne_gt (drop_pos' hs h r hr)
theorem pos_app {a b : List Rf} {n : List UInt8} (h1 : ∀ r ∈ a, r.nm < n) (h2 : ∀ r ∈ b, n < r.nm) : pos (a ++ b) n = a.length := by
  refine pos_eq _ _ _ (by simp) (fun t ht h => ?_) (fun h hlt => ?_)
  · rw [List.getElem_append_left ht]; exact h1 _ (List.getElem_mem ht)
  · rw [List.getElem_append_right (Nat.le_refl _)] at hlt
    exact List.lt_asymm hlt (h2 _ (List.getElem_mem _))
/-- where a name stands in the table without it -/
theorem pos_wo {l : List Rf} (hs : (nms l).Pairwise (· < ·)) {n : List UInt8} : pos (woF l n) n = pos l n := by
  cases h : hit l n with
  | true =>
    rw [wo_hit hs h, pos_app take_pos (drop_pos hs), List.length_take]
    have := pos_le l n; omega
  | false => rw [wo_no hs h]
theorem wo_len (l : List Rf) (n : List UInt8) : (woF l n).length ≤ l.length := List.length_filter_le _ _
theorem wo_parts {l : List Rf} (hs : (nms l).Pairwise (· < ·)) {n : List UInt8} : (woF l n).take (pos l n) = l.take (pos l n) ∧ (woF l n).drop (pos l n) = if hit l n then l.drop (pos l n + 1) else l.drop (pos l n) := by
  have hp := pos_le l n
  have e : (l.take (pos l n)).length = pos l n := by rw [List.length_take]; omega
  cases h : hit l n with
  | true =>
    rw [wo_hit hs h]
    exact ⟨by rw [List.take_left' e], by rw [List.drop_left' e]; rfl⟩
  | false =>
    rw [wo_no hs h]
    exact ⟨rfl, rfl⟩
/-- Set as the document has it -/
theorem set_doc {l : List Rf} {n : List UInt8} {i : Idb} (h0 : chk l = 0) (hr : rgt n = true) : setF l n i = if (woF l n).length = 64 then ([], 5) else ((woF l n).take (pos l n) ++ ⟨n, i⟩ :: (woF l n).drop (pos l n), 0) := by
  obtain ⟨hl, _, hs⟩ := chk_ok h0
  obtain ⟨e1, e2⟩ := wo_parts hs (n := n)
  unfold setF
  rw [if_neg (by rw [h0]; simp), if_neg (by rw [hr]; simp)]
  cases h : hit l n with
  | true =>
    obtain ⟨hp, he⟩ := hit_at h
    have hw : (woF l n).length = l.length - 1 := by rw [wo_hit hs h, List.length_append, List.length_take, List.length_drop]; omega
    rw [if_pos rfl, if_neg (by omega), e1, e2, h, if_pos rfl]
    rw [List.set_eq_take_append_cons_drop, if_pos hp]
  | false =>
    rw [e1, e2, h, wo_no hs h]
    simp
/-- Drop as the document has it -/
theorem drop_doc {l : List Rf} {n : List UInt8} (h0 : chk l = 0) : dropF l n = if hit l n then (woF l n, 0) else ([], 35) := by
  obtain ⟨hl, _, hs⟩ := chk_ok h0
  unfold dropF
  rw [if_neg (by rw [h0]; simp)]
  cases h : hit l n with
  | true => rw [if_pos rfl, if_pos rfl, wo_hit hs h]
  | false => rfl
end Go.Refs

namespace Go.Refs
open Go.Sl Go.Route
theorem over_in {α : Type} {c vs : List α} {o m : Nat} (h : o + vs.length ≤ m) (hm : m ≤ c.length) : (over c o vs).take m = over (c.take m) o vs := by
  unfold over
  rw [List.take_take, show min o m = o by omega, List.append_assoc, List.append_assoc, List.take_append, List.take_of_length_le (by rw [List.length_take]; omega), List.take_append, List.length_take, show min o c.length = o by omega, List.take_of_length_le (l := vs) (by omega), List.drop_take]
  congr 3; omega
end Go.Refs
namespace Go.Proofs.YtopamnfelngkcaaDoor.Rf
open Go.Proofs Go.RowKit Go.Shelf Go.Sl Go.Route Go.Refs
set_option linter.unusedVariables false

theorem below_cells {B b : Nat} {a : World} (hb : B ≤ b) : ∀ (vs : List Value) (o : Nat) (w : World), Below B a w → Below B a (w.setCells b o vs)
  | [], _, _, h => h
  | v :: r, o, w, h => below_cells hb r (o + 1) _ (h.setCell (p := ⟨b, o, none⟩) hb v)
theorem set_flat {l : List Go.Sl.Rf} {k : Nat} (hk : k < l.length) (i : Idb) : over (l.flatMap eRf) (k * 33 + 1) (eId i) = (l.set k ⟨l[k].nm, i⟩).flatMap eRf := by
  have e1 : (l.flatMap eRf).drop (k * 33) = eRf l[k] ++ (l.drop (k + 1)).flatMap eRf := by rw [flat_drop len_eRf, List.drop_eq_getElem_cons hk, List.flatMap_cons]
  have e2 : (l.flatMap eRf).drop (k * 33 + 1 + (eId i).length) = (l.drop (k + 1)).flatMap eRf := by rw [len_eId, show k * 33 + 1 + 32 = (k + 1) * 33 by omega, flat_drop len_eRf]
  unfold over
  rw [e2, take_two, e1, flat_take len_eRf, List.set_eq_take_append_cons_drop, if_pos hk, List.flatMap_append, List.flatMap_cons]
  simp [eRf]
theorem idx37 {g n cap k : Nat} (hk : k < n) (ik : IntKind) (u : World) : (Instr.indexAt 37 (.slice (some ⟨g, 0, none⟩) n cap) (.int ik (k : Int))).run Tryd.prog u = .ok (.pointer (some ⟨g, k * 33, none⟩)) u := by
  have h1 : (k : Int) < n := by omega
  simp [Instr.indexAt, run_underlying Tryd.underlying37, asIntOf, sz43, hk]
  rw [Addr.add_lit]; simp
theorem own_set {base g cap : Nat} {cur : Array Value} {w : World} {l : List Go.Sl.Rf} {k : Nat} (hk : k < l.length) (i : Idb) (hb : base ≤ g) (hg : w.heap[g]? = some (.cells cur 43 (0, 0))) (hc : l.length ≤ cap) (hm : cap ≤ maxLen) (hs : cur.size = cap * 33) (ht : cur.toList.take (l.length * 33) = l.flatMap eRf) :
    Sl.Own eRf 33 base 43 (w.setCells g (k * 33 + 1) (eId i)) (.slice (some ⟨g, 0, none⟩) l.length cap) (l.set k ⟨l[k].nm, i⟩) := by
  have hfit : k * 33 + 1 + (eId i).length ≤ cur.size := by rw [len_eId, hs]; omega
  have hcl : cur.toList.length = cap * 33 := by simpa using hs
  refine own_row (cur := (over cur.toList (k * 33 + 1) (eId i)).toArray) hb ?_ (by simp) hc hm ?_ ?_
  · rw [setCells_row g 43 _ _ cur w hg hfit]; exact setRow_heap w g cur _ 43 (0, 0) hg
  · simp only [List.size_toArray]; rw [over_len (by simpa using hfit), hcl]
  · simp only []
    rw [over_in (by rw [len_eId]; omega) (by rw [hcl]; omega), ht, set_flat hk]

set_option maxRecDepth 100000 in
set_option maxHeartbeats 2000000 in
theorem set_any (v : Value) (l : List Go.Sl.Rf) (n : List UInt8) (i : Idb) (w : World) (hv : Sl eRf 33 w v l) (hl : ∀ r ∈ l, r.nm.length ≤ 9223372036854775807) (hn : n.length ≤ 9223372036854775807) (hm : Ml w) :
    Calls Tryd.prog 61 #[v, .string (bstr n), vId i] w fun e w' => ∃ ov, e = .returned (.tuple #[ov, .int .i64 (setF l n i).2]) ∧ Sl eRf 33 w' ov (setF l n i).1 ∧ Below w.heap.size w w' := by
  obtain ⟨w1, hw1⟩ : ∃ u, Hid (u = w.alloc (.cells (eId i).toArray 39)) := ⟨_, Lib.hid rfl⟩
  have HI : Hid (w1.heap[w.heap.size]? = some (.cells (eId i).toArray 39 (0, 0))) := Lib.hid (by rw [hw1.out]; exact heap_alloc_new _ _)
  have HB : Hid (Below w.heap.size w w1) := Lib.hid (by rw [hw1.out]; exact (Below.refl _ _).alloc (Nat.le_refl _) _)
  have hs1 : w1.heap.size = w.heap.size + 1 := by rw [hw1.out]; simp
  have HL := Lib.hid hl
  have HV1 := Lib.hid (hv.ext HB.out)
  have HM1 := Lib.hid (hm.ext HB.out)
  obtain ⟨c, hc⟩ : ∃ c, Hid (chk l = c) := ⟨_, Lib.hid rfl⟩
  have HC := Lib.hid (check_any v l w1 HV1.out HL.out HM1.out)
  rw [hc.out] at HC
  clear hv hl hm
  go_enter Tryd.func61, Tryd.ntmps61
  go_wp2_with fail
  rw [← hw1.out]
  refine HC.out.mono ?_
  rintro e w2 ⟨rfl, hb2⟩
  have HB2 := Lib.hid (bthen HB.out hb2)
  have HV2 := Lib.hid (HV1.out.ext hb2)
  have HM2 := Lib.hid (HM1.out.ext hb2)
  have HI2 : Hid (w2.heap[w.heap.size]? = some (.cells (eId i).toArray 39 (0, 0))) := Lib.hid ((hb2.block _ (by omega)).trans HI.out)
  clear hb2 HC
  by_cases hc0 : c = 0
  · subst hc0
    cases hr : rgt n with
    | false =>
      have HF : Hid (setF l n i = ([], 15)) := Lib.hid (by unfold setF; rw [if_neg (by rw [hc.out]; simp), if_pos hr])
      go_wp2_with fail
      refine (right_all n w2 hn HM2.out).mono ?_
      rintro e w3 ⟨rfl, hb3⟩
      rw [hr]
      have HB3 := Lib.hid (bthen HB2.out hb3)
      clear hb3 hr
      go_wp2_with fail
      go_ret2
      rw [HF.out]
      exact ⟨_, rfl, Sl.nil _ _ _, HB3.out⟩
    | true =>
      obtain ⟨hlen, _, hsort⟩ := chk_ok hc.out
      have HSo := Lib.hid hsort
      obtain ⟨k, hk⟩ : ∃ k, Hid (pos l n = k) := ⟨_, Lib.hid rfl⟩
      have hkl : k ≤ l.length := by rw [← hk.out]; exact pos_le l n
      clear hsort
      go_wp2_with fail
      refine (right_all n w2 hn HM2.out).mono ?_
      rintro e w3 ⟨rfl, hb3⟩
      rw [hr]
      have HB3 := Lib.hid (bthen HB2.out hb3)
      have HV3 := Lib.hid (HV2.out.ext hb3)
      have hs3 := hb3.size
      have hs2 := HB2.out.size
      have HI3 : Hid (w3.heap[w.heap.size]? = some (.cells (eId i).toArray 39 (0, 0))) := Lib.hid ((hb3.block _ (Array.getElem?_eq_some_iff.1 HI2.out).1).trans HI2.out)
      have HR := Lib.hid hr
      clear hb3 hr
      go_wp2_with (refine bd43n rfl _ rfl n rfl ?_)
      have HSe := Lib.hid (search_any v l ⟨n, zId⟩ w3 HV3.out HSo.out (by omega))
      simp only [] at HSe
      rw [hk.out] at HSe
      obtain ⟨t, ht⟩ : ∃ t, Hid (hit l n = t) := ⟨_, Lib.hid rfl⟩
      rw [ht.out] at HSe
      refine HSe.out.mono ?_
      rintro e w4 ⟨rfl, hb4⟩
      have HB4 := Lib.hid (bthen HB3.out hb4)
      have HV4 := Lib.hid (HV3.out.ext hb4)
      have HI4 : Hid (w4.heap[w.heap.size]? = some (.cells (eId i).toArray 39 (0, 0))) := Lib.hid ((hb4.block _ (Array.getElem?_eq_some_iff.1 HI3.out).1).trans HI3.out)
      clear hb4 HSe
      go_wp2_with fail
      refine (clone_any v l w4 HV4.out (by omega)).mono ?_
      rintro e w5 ⟨ov, rfl, ho, hb5⟩
      have HB5 := Lib.hid (bthen HB4.out hb5)
      have HI5 : Hid (w5.heap[w.heap.size]? = some (.cells (eId i).toArray 39 (0, 0))) := Lib.hid ((hb5.block _ (Array.getElem?_eq_some_iff.1 HI4.out).1).trans HI4.out)
      have HR5 : Hid (w5.rangeAt w.heap.size 0 (eId i)) := Lib.hid (range_of_heap (cs := (eId i).toArray) HI5.out)
      have HO := Lib.hid (ho.mono HB4.out.size)
      clear hb5 ho
      cases t with
      | true =>
        obtain ⟨hp, he⟩ := hit_at ht.out
        have hp2 : k < l.length := by rw [← hk.out]; exact hp
        have he2 : (l[k]'hp2).nm = n := by rw [← he]; congr 2; exact hk.out.symm
        have HF : Hid (setF l n i = (l.set k ⟨(l[k]'hp2).nm, i⟩, 0)) := Lib.hid (by unfold setF; rw [if_neg (by rw [hc.out]; simp), if_neg (by rw [HR.out]; simp), if_pos ht.out, hk.out, he2])
        obtain ⟨g, cap, cur, rfl, g1, g2, g3, g4, g5⟩ := HO.out.block (by rintro rfl; simp at hp2)
        have g6 : cap ≤ maxLen := by
          rcases HO.out.2 with ⟨h, _⟩ | ⟨g', cap', cur', h, _, _, _, h6, _⟩
          · cases h
          · simp at h; rw [h.2]; exact h6
        have HG := Lib.hid g2
        have HS := Lib.hid (own_set hp2 i g1 g2 g3 g6 g4 g5)
        have hth : w5.there g (k * 33 + 1) (eId i).toArray.size := fun j hj => by
          have hj2 : k * 33 + 1 + j < cur.size := by rw [size_eId] at hj; omega
          exact ⟨by simp [World.cell?, HG.out, hj2], by simp [World.frozen?, HG.out]⟩
        have HTh := Lib.hid hth
        obtain ⟨V, hV⟩ : ∃ V, Hid (Value.slice (some ⟨g, 0, none⟩) l.length cap = V) := ⟨_, Lib.hid rfl⟩
        have hix : ∀ (ik : IntKind) (u : World), (Instr.indexAt 37 V (.int ik (k : Int))).run Tryd.prog u = .ok (.pointer (some ⟨g, k * 33, none⟩)) u := fun ik u => by rw [← hV.out]; exact idx37 hp2 ik u
        rw [hV.out] at HS ⊢
        clear hp he he2 g2 g5 g4 hth
        go_wp2_with (first
          | refine ld39 rfl _ rfl _ _ rfl i HR5.out ?_
          | refine wpList_store_mid rfl 39 _ _ rfl g (k * 33 + 1) (eId i).toArray rfl rfl HTh.out (by rw [size39, size_eId]) (all_oneCell_toArray (one_eId i)) ?_)
        go_ret2
        rw [HF.out]
        exact ⟨_, rfl, HS.out.sl len_eRf, below_cells g1 _ _ _ HB5.out⟩
      | false =>
        have hnl : l.length ≠ 64 → Hid (setF l n i = (l.take k ++ ⟨n, i⟩ :: l.drop k, 0)) := fun h => Lib.hid (by unfold setF; rw [if_neg (by rw [hc.out]; simp), if_neg (by rw [HR.out]; simp), if_neg (by rw [ht.out]; simp), if_neg h, hk.out])
        have hlen5 := (HO.out.sl len_eRf).run_len (P := Tryd.prog) Tryd.underlying37
        by_cases h64 : l.length = 64
        · have HF : Hid (setF l n i = ([], 5)) := Lib.hid (by unfold setF; rw [if_neg (by rw [hc.out]; simp), if_neg (by rw [HR.out]; simp), if_neg (by rw [ht.out]; simp), if_pos h64])
          have d64 : ((l.length : Int) == 64) = true := by rw [h64]; rfl
          clear hnl
          go_wp2_with fail
          go_ret2
          rw [HF.out]
          exact ⟨_, rfl, Sl.nil _ _ _, HB5.out⟩
        · have HF := hnl h64
          have d64 : ((l.length : Int) == 64) = false := by rw [beq_eq_false_iff_ne]; omega
          have d65 : ¬ (l.length : Int) = 64 := by omega
          obtain ⟨x, hx⟩ : ∃ x : Go.Sl.Rf, Hid (⟨n, i⟩ = x) := ⟨_, Lib.hid rfl⟩
          rw [hx.out] at HF
          clear hnl h64
          go_wp2_with (first
            | refine ld39 rfl _ rfl _ _ rfl i HR5.out ?_
            | (refine bd43 rfl _ _ rfl n i rfl rfl ?_; rw [hx.out])
            | refine one43 rfl _ rfl x rfl ?_)
          refine (insert_any ov k w5.heap.size l x _ w.heap.size (by have := HB5.out.size; simp; omega) (HO.out.alloc _) (by omega) hkl (heap_alloc_new _ _) (HO.out.ne (.inr (Nat.le_refl _)))).mono ?_
          rintro e w6 ⟨ov6, rfl, ho6, hb6⟩
          have HO6 := Lib.hid ho6
          have HB6 := Lib.hid ((HB5.out.alloc HB5.out.size _).trans hb6)
          clear ho6 hb6
          go_wp2_with fail
          go_ret2
          rw [HF.out]
          exact ⟨_, rfl, HO6.out.sl len_eRf, HB6.out⟩
  · have HF : Hid (setF l n i = ([], c)) := Lib.hid (by unfold setF; rw [if_pos (by rw [hc.out]; exact hc0), hc.out])
    have hne : (c == 0) = false := by rw [beq_eq_false_iff_ne]; exact hc0
    go_wp2_with fail
    go_ret2
    rw [HF.out]
    exact ⟨_, rfl, Sl.nil _ _ _, HB2.out⟩

set_option maxRecDepth 100000 in
set_option maxHeartbeats 2000000 in
theorem drop_any (v : Value) (l : List Go.Sl.Rf) (n : List UInt8) (w : World) (hv : Sl eRf 33 w v l) (hl : ∀ r ∈ l, r.nm.length ≤ 9223372036854775807) (hn : n.length ≤ 9223372036854775807) (hm : Ml w) :
    Calls Tryd.prog 63 #[v, .string (bstr n)] w fun e w' => ∃ ov, e = .returned (.tuple #[ov, .int .i64 (dropF l n).2]) ∧ Sl eRf 33 w' ov (dropF l n).1 ∧ Below w.heap.size w w' := by
  have HL := Lib.hid hl
  have HV := Lib.hid hv
  have HM := Lib.hid hm
  obtain ⟨c, hc⟩ : ∃ c, Hid (chk l = c) := ⟨_, Lib.hid rfl⟩
  have HC := Lib.hid (check_any v l w HV.out HL.out HM.out)
  rw [hc.out] at HC
  clear hv hl hm
  go_enter Tryd.func63, Tryd.ntmps63
  go_wp2_with fail
  refine HC.out.mono ?_
  rintro e w2 ⟨rfl, hb2⟩
  have HB2 := Lib.hid hb2
  have HV2 := Lib.hid (HV.out.ext hb2)
  clear hb2 HC
  by_cases hc0 : c = 0
  · subst hc0
    obtain ⟨hlen, _, hsort⟩ := chk_ok hc.out
    have HSo := Lib.hid hsort
    obtain ⟨k, hk⟩ : ∃ k, Hid (pos l n = k) := ⟨_, Lib.hid rfl⟩
    have hkl : k ≤ l.length := by rw [← hk.out]; exact pos_le l n
    clear hsort
    have HSe := Lib.hid (search_any v l ⟨n, zId⟩ w2 HV2.out HSo.out (by omega))
    simp only [] at HSe
    rw [hk.out] at HSe
    obtain ⟨t, ht⟩ : ∃ t, Hid (hit l n = t) := ⟨_, Lib.hid rfl⟩
    rw [ht.out] at HSe
    go_wp2_with (refine bd43n rfl _ rfl n rfl ?_)
    refine HSe.out.mono ?_
    rintro e w4 ⟨rfl, hb4⟩
    have HB4 := Lib.hid (bthen HB2.out hb4)
    have HV4 := Lib.hid (HV2.out.ext hb4)
    clear hb4 HSe
    cases t with
    | true =>
      have hp2 : k < l.length := by rw [← hk.out]; exact (hit_at ht.out).1
      have HF : Hid (dropF l n = (l.take k ++ l.drop (k + 1), 0)) := Lib.hid (by unfold dropF; rw [if_neg (by rw [hc.out]; simp), if_pos ht.out, hk.out])
      go_wp2_with fail
      refine (clone_any v l w4 HV4.out (by omega)).mono ?_
      rintro e w5 ⟨ov, rfl, ho, hb5⟩
      have HB5 := Lib.hid (bthen HB4.out hb5)
      have HO := Lib.hid (ho.mono HB4.out.size)
      clear hb5 ho
      go_wp2_with fail
      refine (delete_any ov k l w5 w.heap.size HO.out hp2).mono ?_
      rintro e w6 ⟨ov6, rfl, ho6, hb6⟩
      have HO6 := Lib.hid ho6
      have HB6 := Lib.hid (HB5.out.trans hb6)
      clear ho6 hb6
      go_wp2_with fail
      go_ret2
      rw [HF.out]
      exact ⟨_, rfl, HO6.out.sl len_eRf, HB6.out⟩
    | false =>
      have HF : Hid (dropF l n = ([], 35)) := Lib.hid (by unfold dropF; rw [if_neg (by rw [hc.out]; simp), if_neg (by rw [ht.out]; simp)])
      go_wp2_with fail
      go_ret2
      rw [HF.out]
      exact ⟨_, rfl, Sl.nil _ _ _, HB4.out⟩
  · have HF : Hid (dropF l n = ([], c)) := Lib.hid (by unfold dropF; rw [if_pos (by rw [hc.out]; exact hc0), hc.out])
    have hne : (c == 0) = false := by rw [beq_eq_false_iff_ne]; exact hc0
    go_wp2_with fail
    go_ret2
    rw [HF.out]
    exact ⟨_, rfl, Sl.nil _ _ _, HB2.out⟩
end Go.Proofs.YtopamnfelngkcaaDoor.Rf

namespace Go.Refs
open Go.Sl Go.Route Go.Proofs.YtopamnfelngkcaaDoor.Rf
theorem find_none {l : List Rf} {n : List UInt8} (h : ∀ r ∈ l, r.nm ≠ n) : findF l n = (zId, false) := by
  induction l with
  | nil => rfl
  | cons r l ih => rw [findF, if_neg (h r (by simp))]; exact ih (fun x hx => h x (by simp [hx]))
theorem find_at {a b : List Rf} {n : List UInt8} {r : Rf} (h : ∀ x ∈ a, x.nm ≠ n) (hr : r.nm = n) : findF (a ++ r :: b) n = (r.id, true) := by
  induction a with
  | nil => rw [List.nil_append, findF, if_pos hr]
  | cons x a ih => rw [List.cons_append, findF, if_neg (h x (by simp))]; exact ih (fun y hy => h y (by simp [hy]))
theorem find_hit {l : List Rf} (hs : (nms l).Pairwise (· < ·)) (n : List UInt8) : (findF l n).2 = hit l n := by
  cases h : hit l n with
  | true =>
    obtain ⟨hp, he⟩ := hit_at h
    have := find_at (a := l.take (pos l n)) (b := l.drop (pos l n + 1)) (n := n) (fun x hx => lt_ne (take_pos x hx)) he
    rw [← List.drop_eq_getElem_cons hp, List.take_append_drop] at this
    rw [this]
  | false =>
    rw [find_none]
    intro r hr
    rw [← List.take_append_drop (pos l n) l] at hr
    rcases List.mem_append.1 hr with hr | hr
    · exact lt_ne (take_pos r hr)
    · exact fun e => lt_ne (drop_pos' hs h r hr) e.symm
theorem wo_take (l : List Rf) (n : List UInt8) {k : Nat} (h : k < l.length) : woF (l.take (k + 1)) n = woF (l.take k) n ++ (if l[k].nm = n then [] else [l[k]]) := by
  unfold woF
  rw [List.take_succ_eq_append_getElem h, List.filter_append]
  by_cases c : l[k].nm = n
  · rw [if_pos c]; simp [c]
  · rw [if_neg c]; simp [c]
end Go.Refs
namespace Go.Proofs.YtopamnfelngkcaaDoor.Rf
open Go.Proofs Go.RowKit Go.Shelf Go.Sl Go.Route Go.Refs
set_option linter.unusedVariables false

set_option maxRecDepth 100000 in
set_option maxHeartbeats 2000000 in
theorem without_any (v : Value) (l : List Go.Sl.Rf) (n : List UInt8) (w : World) (hv : Sl eRf 33 w v l) (hL : l.length ≤ 100000) :
    Calls Tryd.prog 91 #[v, .string (bstr n)] w fun e w' => ∃ ov, e = .returned ov ∧ Sl.Own eRf 33 w.heap.size 43 w' ov (woF l n) ∧ Below w.heap.size w w' := by
  have hlen := hv.run_len (P := Tryd.prog) Tryd.underlying37
  have HV := Lib.hid hv
  clear hv
  go_enter Tryd.func91, Tryd.ntmps91
  go_wp2_with fail
  go_loopw [5, 6] (fun s5 i wr => ∃ (k : Nat) (X : List Go.Sl.Rf), i = .int .i64 k ∧ k ≤ l.length ∧ Hid (woF (l.take k) n = X) ∧ Hid (Sl.Own eRf 33 w.heap.size 43 wr s5 X) ∧ Hid (Below w.heap.size w wr)) (fun _ i _ => l.length - (intOf i).toNat)
  case atStart => exact ⟨0, [], rfl, by omega, Lib.hid rfl, Lib.hid (Sl.Own.nil _ _ _ _ _), Lib.hid (Below.refl _ _)⟩
  case round =>
    obtain ⟨wo, rfl⟩ : ∃ u : World, u = wr := ⟨_, rfl⟩
    obtain ⟨k, X, rfl, hk, HX, HO, HW⟩ := hrel
    by_cases hlt : k < l.length
    · have d2 : decide ((k : Int) < (l.length : Int)) = true := decide_eq_true (by omega)
      obtain ⟨b5, o5, hb5, hix, hr⟩ := HV.out.rangeB len_eRf HW.out (P := Tryd.prog) Tryd.underlying37 cells43 some43 hlt
      obtain ⟨x, hx⟩ : ∃ x, Hid (l[k] = x) := ⟨_, Lib.hid rfl⟩
      rw [hx.out] at hr
      have HR := Lib.hid hr
      have e0 := range_nm hr
      have hXl : X.length ≤ k := by rw [← HX.out]; exact Nat.le_trans (wo_len _ _) (by rw [List.length_take]; omega)
      have HX2 : Hid (woF (l.take (k + 1)) n = X ++ (if x.nm = n then [] else [x])) := Lib.hid (by rw [wo_take l n hlt, HX.out, hx.out])
      clear hr HX
      by_cases hu : x.nm = n
      · have hd : (x.nm == n) = true := by simpa using hu
        have HX3 : Hid (woF (l.take (k + 1)) n = X) := Lib.hid (by rw [HX2.out, if_pos hu]; simp)
        clear hu
        go_wp2_with fail
        go_roundw
        case rel => exact ⟨k + 1, X, by go_num, by omega, HX3, HO, HW⟩
        case measure => simp [intOf]; omega
      · have hd : (x.nm == n) = false := by simpa using hu
        have HX3 : Hid (woF (l.take (k + 1)) n = X ++ [x]) := Lib.hid (by rw [HX2.out, if_neg hu])
        clear hu
        go_wp2_with (first
          | refine one43 rfl _ rfl x rfl ?_
          | refine ld43 rfl _ rfl _ _ rfl x HR.out ?_
          | (at_builtin; go_must (refine wpList_append1 rfl (en := eRf) (s := 33) (base := w.heap.size) (e := 43) _ _ 37 rfl (vRf zRf) 48 Tryd.underlying37 info43 (size_eRf _) (by decide) len_eRf one_eRf _ _ X x rfl (HO.out.alloc _) rfl (sl_new x) (by simp only [maxLen]; omega) (by omega) (by have := HW.out.size; simp at this ⊢; omega) ?_; intro ov' w6 hown hgr hbel hblk; have HO4 := Lib.hid hown; have HW4 := Lib.hid ((HW.out.alloc HW.out.size _).trans hbel); clear hown hgr hbel hblk)))
        go_roundw
        case rel => exact ⟨k + 1, X ++ [x], by go_num, by omega, HX3, HO4, HW4⟩
        case measure => simp [intOf]; omega
    · obtain rfl : k = l.length := by omega
      have d2 : decide ((l.length : Int) < (l.length : Int)) = false := decide_eq_false (by omega)
      go_wp2_with fail
      go_ret
      refine ⟨_, rfl, ?_, HW.out⟩
      have := HO.out
      rwa [← HX.out, List.take_length] at this
end Go.Proofs.YtopamnfelngkcaaDoor.Rf

namespace Go.Proofs.YtopamnfelngkcaaDoor.Rf
open Go.Proofs Go.RowKit Go.Shelf Go.Sl Go.Route Go.Refs
set_option linter.unusedVariables false

set_option maxRecDepth 100000 in
set_option maxHeartbeats 2000000 in
theorem rset_any (v : Value) (l : List Go.Sl.Rf) (n : List UInt8) (i : Idb) (w : World) (hv : Sl eRf 33 w v l) (hl : ∀ r ∈ l, r.nm.length ≤ 9223372036854775807) (hn : n.length ≤ 9223372036854775807) :
    Calls Tryd.prog 62 #[v, .string (bstr n), vId i] w fun e w' => ∃ ov, e = .returned (.tuple #[ov, .int .i64 (setF l n i).2]) ∧ Sl eRf 33 w' ov (setF l n i).1 ∧ Below w.heap.size w w' := by
  obtain ⟨w1, hw1⟩ : ∃ u, Hid (u = w.alloc (.cells (eId i).toArray 39)) := ⟨_, Lib.hid rfl⟩
  have HI : Hid (w1.heap[w.heap.size]? = some (.cells (eId i).toArray 39 (0, 0))) := Lib.hid (by rw [hw1.out]; exact heap_alloc_new _ _)
  have HB : Hid (Below w.heap.size w w1) := Lib.hid (by rw [hw1.out]; exact (Below.refl _ _).alloc (Nat.le_refl _) _)
  have hs1 : w1.heap.size = w.heap.size + 1 := by rw [hw1.out]; simp
  have HL := Lib.hid hl
  have HV1 := Lib.hid (hv.ext HB.out)
  obtain ⟨c, hc⟩ : ∃ c, Hid (chk l = c) := ⟨_, Lib.hid rfl⟩
  have HC := Lib.hid (rcheck_any v l w1 HV1.out HL.out)
  rw [hc.out] at HC
  clear hv hl
  go_enter Tryd.func62, Tryd.ntmps62
  go_wp2_with fail
  rw [← hw1.out]
  refine HC.out.mono ?_
  rintro e w2 ⟨rfl, hb2⟩
  have HB2 := Lib.hid (bthen HB.out hb2)
  have HV2 := Lib.hid (HV1.out.ext hb2)
  have HI2 : Hid (w2.heap[w.heap.size]? = some (.cells (eId i).toArray 39 (0, 0))) := Lib.hid ((hb2.block _ (by omega)).trans HI.out)
  clear hb2 HC
  by_cases hc0 : c = 0
  · subst hc0
    cases hr : rgt n with
    | false =>
      have HF : Hid (setF l n i = ([], 15)) := Lib.hid (by unfold setF; rw [if_neg (by rw [hc.out]; simp), if_pos hr])
      go_wp2_with fail
      refine (rright_all n w2 hn).mono ?_
      rintro e w3 ⟨rfl, hb3⟩
      rw [hr]
      have HB3 := Lib.hid (bthen HB2.out hb3)
      clear hb3 hr
      go_wp2_with fail
      go_ret2
      rw [HF.out]
      exact ⟨_, rfl, Sl.nil _ _ _, HB3.out⟩
    | true =>
      obtain ⟨hlen, _, hsort⟩ := chk_ok hc.out
      have HD := Lib.hid (set_doc (i := i) hc.out hr)
      have HP := Lib.hid (pos_wo hsort (n := n))
      have hwl : (woF l n).length ≤ 64 := Nat.le_trans (wo_len l n) hlen
      obtain ⟨W, hW⟩ : ∃ W, Hid (woF l n = W) := ⟨_, Lib.hid rfl⟩
      rw [hW.out] at HD HP hwl
      go_wp2_with fail
      refine (rright_all n w2 hn).mono ?_
      rintro e w3 ⟨rfl, hb3⟩
      rw [hr]
      have HB3 := Lib.hid (bthen HB2.out hb3)
      have HV3 := Lib.hid (HV2.out.ext hb3)
      have HI3 : Hid (w3.heap[w.heap.size]? = some (.cells (eId i).toArray 39 (0, 0))) := Lib.hid ((hb3.block _ (Array.getElem?_eq_some_iff.1 HI2.out).1).trans HI2.out)
      clear hb3 hr hsort
      go_wp2_with fail
      refine (without_any v l n w3 HV3.out (by omega)).mono ?_
      rintro e w5 ⟨ov, rfl, ho, hb5⟩
      rw [hW.out] at ho
      have HB5 := Lib.hid (bthen HB3.out hb5)
      have HI5 : Hid (w5.heap[w.heap.size]? = some (.cells (eId i).toArray 39 (0, 0))) := Lib.hid ((hb5.block _ (Array.getElem?_eq_some_iff.1 HI3.out).1).trans HI3.out)
      have HO := Lib.hid (ho.sl len_eRf)
      have hlen5 := HO.out.run_len (P := Tryd.prog) Tryd.underlying37
      clear hb5 ho
      by_cases h64 : W.length = 64
      · have HF : Hid (setF l n i = ([], 5)) := Lib.hid (by rw [HD.out, if_pos h64])
        have d64 : ((W.length : Int) == 64) = true := by rw [h64]; rfl
        go_wp2_with fail
        go_ret2
        rw [HF.out]
        exact ⟨_, rfl, Sl.nil _ _ _, HB5.out⟩
      · have HF : Hid (setF l n i = (W.take (pos l n) ++ ⟨n, i⟩ :: W.drop (pos l n), 0)) := Lib.hid (by rw [HD.out, if_neg h64])
        have d64 : ((W.length : Int) == 64) = false := by rw [beq_eq_false_iff_ne]; omega
        have d65 : ¬ (W.length : Int) = 64 := by omega
        clear HD
        go_wp2_with fail
        go_loopw [10] (fun s10 wr => ∃ (j : Nat), s10 = .int .i64 j ∧ j ≤ W.length ∧ Hid (∀ t, t < j → ∀ h : t < W.length, W[t].nm < n) ∧ Hid (Below w5.heap.size w5 wr)) (fun s10 _ => W.length - (intOf s10).toNat)
        case atStart => exact ⟨0, rfl, by omega, Lib.hid (fun t ht => by omega), Lib.hid (Below.refl _ _)⟩
        case round =>
          obtain ⟨wo, rfl⟩ : ∃ u : World, u = wr := ⟨_, rfl⟩
          obtain ⟨j, rfl, hj, HJ, HW⟩ := hrel
          have hfin : (∀ h : j < W.length, ¬ W[j].nm < n) → Hid (setF l n i = (W.take j ++ ⟨n, i⟩ :: W.drop j, 0)) := fun h => Lib.hid (by
            rw [HF.out, ← HP.out, pos_eq W n j hj HJ.out h])
          by_cases hlt : j < W.length
          · have d2 : decide ((j : Int) < (W.length : Int)) = true := decide_eq_true (by omega)
            obtain ⟨b5, o5, hb5, hix, hr⟩ := HO.out.rangeB len_eRf HW.out (P := Tryd.prog) Tryd.underlying37 cells43 some43 hlt
            obtain ⟨x, hx⟩ : ∃ x, Hid (W[j] = x) := ⟨_, Lib.hid rfl⟩
            rw [hx.out] at hr
            have e0 := range_nm hr
            obtain ⟨t, ht⟩ : ∃ t, Op.bytesLess x.nm n = t := ⟨_, rfl⟩
            clear hr
            cases t with
            | true =>
              have hlt3 : x.nm < n := by rw [Go.Proofs.bytesLess_eq] at ht; exact of_decide_eq_true ht
              have HJ2 : Hid (∀ t, t < j + 1 → ∀ h : t < W.length, W[t].nm < n) := Lib.hid (fun t ht h => by
                by_cases e : t = j
                · subst e; rw [hx.out]; exact hlt3
                · exact HJ.out t (by omega) h)
              clear hlt3 hfin
              go_wp2_with fail
              go_roundw
              case rel => exact ⟨j + 1, by go_num, by omega, HJ2, HW⟩
              case measure => simp [intOf]; omega
            | false =>
              have HF2 := hfin (fun h => by rw [hx.out]; rw [Go.Proofs.bytesLess_eq] at ht; exact of_decide_eq_false ht)
              clear hfin
              obtain ⟨vu, hu1, -, hu3⟩ := HO.out.upto (P := Tryd.prog) Tryd.underlying37 elem37 cells43 some43 (hi' := j) hj
              obtain ⟨vf, hf1, -, hf3⟩ := HO.out.from (P := Tryd.prog) Tryd.underlying37 elem37 cells43 some43 (lo := j) hj
              have SU := Lib.hid hu3
              have SF := Lib.hid hf3
              have hlt5 : w.heap.size < w5.heap.size := (Array.getElem?_eq_some_iff.1 HI5.out).1
              obtain ⟨x, hx9⟩ : ∃ x : Go.Sl.Rf, Hid (⟨n, i⟩ = x) := ⟨_, Lib.hid rfl⟩
              rw [hx9.out] at HF2
              have htl : (W.take j).length ≤ 64 := by rw [List.length_take]; omega
              have hdl : (W.drop j).length ≤ 64 := by rw [List.length_drop]; omega
              obtain ⟨A, hA⟩ : ∃ A, Hid (W.take j = A) := ⟨_, Lib.hid rfl⟩
              obtain ⟨D, hD⟩ : ∃ D, Hid (W.drop j = D) := ⟨_, Lib.hid rfl⟩
              rw [hA.out] at SU htl HF2
              rw [hD.out] at SF hdl HF2
              clear hu3 hf3
              go_wp2_with (first
                | (at_builtin; refine wpList_append rfl (en := eRf) (s := 33) (base := w5.heap.size) (e := 43) _ _ 37 rfl (vRf zRf) 48 Tryd.underlying37 info43 (size_eRf _) (by decide) len_eRf one_eRf (.slice none 0 0) vu [] A rfl (Sl.Own.nil _ _ _ _ _) rfl (SU.out.ext HW.out) (by simp only [maxLen, List.length_nil]; omega) (by simp only [List.length_nil]; omega) HW.out.size ?_; intro ov1 w6 hown hgr hbel; have HO6 := Lib.hid hown; have HW6 := Lib.hid (HW.out.trans hbel); clear hown hgr hbel)
                | refine ld39 rfl _ rfl _ _ rfl i (range_of_heap (cs := (eId i).toArray) ((HW6.out.block _ hlt5).trans HI5.out)) ?_
                | (refine bd43 rfl _ _ rfl n i rfl rfl ?_; rw [hx9.out])
                | refine one43 rfl _ rfl x rfl ?_
                | (at_builtin; refine wpList_append1 rfl (en := eRf) (s := 33) (base := w5.heap.size) (e := 43) _ _ 37 rfl (vRf zRf) 48 Tryd.underlying37 info43 (size_eRf _) (by decide) len_eRf one_eRf _ _ A x rfl (HO6.out.alloc _) rfl (sl_new x) (by simp only [maxLen]; omega) (by omega) (by have := HW6.out.size; simp at this ⊢; omega) ?_; intro ov2 w7 hown hgr hbel hblk; have HO7 := Lib.hid hown; have HW7 := Lib.hid ((HW6.out.alloc HW6.out.size _).trans hbel); clear hown hgr hbel hblk)
                | (at_builtin; refine wpList_append rfl (en := eRf) (s := 33) (base := w5.heap.size) (e := 43) _ _ 37 rfl (vRf zRf) 48 Tryd.underlying37 info43 (size_eRf _) (by decide) len_eRf one_eRf ov2 vf (A ++ [x]) D rfl HO7.out rfl (SF.out.ext HW7.out) (by simp only [maxLen, List.length_append, List.length_cons, List.length_nil]; omega) (by simp only [List.length_append, List.length_cons, List.length_nil]; omega) HW7.out.size ?_; intro ov3 w8 hown hgr hbel; have HO8 := Lib.hid hown; have HW8 := Lib.hid (HW7.out.trans hbel); clear hown hgr hbel))
              go_ret2
              rw [HF2.out]
              refine ⟨_, rfl, ?_, bthen HB5.out HW8.out⟩
              have := HO8.out.sl len_eRf
              rwa [List.append_assoc, List.singleton_append] at this
          · obtain rfl : j = W.length := by omega
            have HF2 := hfin (fun h => absurd h hlt)
            have d2 : decide ((W.length : Int) < (W.length : Int)) = false := decide_eq_false (by omega)
            clear hfin
            obtain ⟨vu, hu1, -, hu3⟩ := HO.out.upto (P := Tryd.prog) Tryd.underlying37 elem37 cells43 some43 (hi' := W.length) hj
            obtain ⟨vf, hf1, -, hf3⟩ := HO.out.from (P := Tryd.prog) Tryd.underlying37 elem37 cells43 some43 (lo := W.length) hj
            have SU := Lib.hid hu3
            have SF := Lib.hid hf3
            have hlt5 : w.heap.size < w5.heap.size := (Array.getElem?_eq_some_iff.1 HI5.out).1
            obtain ⟨x, hx9⟩ : ∃ x : Go.Sl.Rf, Hid (⟨n, i⟩ = x) := ⟨_, Lib.hid rfl⟩
            rw [hx9.out] at HF2
            have htl : (W.take W.length).length ≤ 64 := by rw [List.length_take]; omega
            have hdl : (W.drop W.length).length ≤ 64 := by rw [List.length_drop]; omega
            obtain ⟨A, hA⟩ : ∃ A, Hid (W.take W.length = A) := ⟨_, Lib.hid rfl⟩
            obtain ⟨D, hD⟩ : ∃ D, Hid (W.drop W.length = D) := ⟨_, Lib.hid rfl⟩
            rw [hA.out] at SU htl HF2
            rw [hD.out] at SF hdl HF2
            clear hu3 hf3
            go_wp2_with (first
              | (at_builtin; refine wpList_append rfl (en := eRf) (s := 33) (base := w5.heap.size) (e := 43) _ _ 37 rfl (vRf zRf) 48 Tryd.underlying37 info43 (size_eRf _) (by decide) len_eRf one_eRf (.slice none 0 0) vu [] A rfl (Sl.Own.nil _ _ _ _ _) rfl (SU.out.ext HW.out) (by simp only [maxLen, List.length_nil]; omega) (by simp only [List.length_nil]; omega) HW.out.size ?_; intro ov1 w6 hown hgr hbel; have HO6 := Lib.hid hown; have HW6 := Lib.hid (HW.out.trans hbel); clear hown hgr hbel)
              | refine ld39 rfl _ rfl _ _ rfl i (range_of_heap (cs := (eId i).toArray) ((HW6.out.block _ hlt5).trans HI5.out)) ?_
              | (refine bd43 rfl _ _ rfl n i rfl rfl ?_; rw [hx9.out])
              | refine one43 rfl _ rfl x rfl ?_
              | (at_builtin; refine wpList_append1 rfl (en := eRf) (s := 33) (base := w5.heap.size) (e := 43) _ _ 37 rfl (vRf zRf) 48 Tryd.underlying37 info43 (size_eRf _) (by decide) len_eRf one_eRf _ _ A x rfl (HO6.out.alloc _) rfl (sl_new x) (by simp only [maxLen]; omega) (by omega) (by have := HW6.out.size; simp at this ⊢; omega) ?_; intro ov2 w7 hown hgr hbel hblk; have HO7 := Lib.hid hown; have HW7 := Lib.hid ((HW6.out.alloc HW6.out.size _).trans hbel); clear hown hgr hbel hblk)
              | (at_builtin; refine wpList_append rfl (en := eRf) (s := 33) (base := w5.heap.size) (e := 43) _ _ 37 rfl (vRf zRf) 48 Tryd.underlying37 info43 (size_eRf _) (by decide) len_eRf one_eRf ov2 vf (A ++ [x]) D rfl HO7.out rfl (SF.out.ext HW7.out) (by simp only [maxLen, List.length_append, List.length_cons, List.length_nil]; omega) (by simp only [List.length_append, List.length_cons, List.length_nil]; omega) HW7.out.size ?_; intro ov3 w8 hown hgr hbel; have HO8 := Lib.hid hown; have HW8 := Lib.hid (HW7.out.trans hbel); clear hown hgr hbel))
            go_ret2
            rw [HF2.out]
            refine ⟨_, rfl, ?_, bthen HB5.out HW8.out⟩
            have := HO8.out.sl len_eRf
            rwa [List.append_assoc, List.singleton_append] at this
  · have HF : Hid (setF l n i = ([], c)) := Lib.hid (by unfold setF; rw [if_pos (by rw [hc.out]; exact hc0), hc.out])
    have hne : (c == 0) = false := by rw [beq_eq_false_iff_ne]; exact hc0
    go_wp2_with fail
    go_ret2
    rw [HF.out]
    exact ⟨_, rfl, Sl.nil _ _ _, HB2.out⟩
end Go.Proofs.YtopamnfelngkcaaDoor.Rf

namespace Go.Refs
open Go.Sl Go.Route
theorem setF_names {l : List Rf} {n : List UInt8} {i : Idb} {B : Nat} (hl : ∀ r ∈ l, r.nm.length ≤ B) (hn : n.length ≤ B) : ∀ r ∈ (setF l n i).1, r.nm.length ≤ B := by
  unfold setF
  split
  · intro r hr; cases hr
  split
  · intro r hr; cases hr
  split
  · intro r hr
    rcases List.mem_or_eq_of_mem_set hr with h | h
    · exact hl r h
    · rw [h]; exact hn
  split
  · intro r hr; cases hr
  · intro r hr
    rcases List.mem_append.1 hr with h | h
    · exact hl r (List.mem_of_mem_take h)
    · rcases List.mem_cons.1 h with h | h
      · rw [h]; exact hn
      · exact hl r (List.mem_of_mem_drop h)
end Go.Refs
namespace Go.Proofs.YtopamnfelngkcaaDoor.Rf
open Go.Proofs Go.RowKit Go.Shelf Go.Sl Go.Route Go.Refs
set_option linter.unusedVariables false

set_option maxRecDepth 100000 in
set_option maxHeartbeats 2000000 in
theorem rdrop_any (v : Value) (l : List Go.Sl.Rf) (n : List UInt8) (w : World) (hv : Sl eRf 33 w v l) (hl : ∀ r ∈ l, r.nm.length ≤ 9223372036854775807) :
    Calls Tryd.prog 64 #[v, .string (bstr n)] w fun e w' => ∃ ov, e = .returned (.tuple #[ov, .int .i64 (dropF l n).2]) ∧ Sl eRf 33 w' ov (dropF l n).1 ∧ Below w.heap.size w w' := by
  have HL := Lib.hid hl
  have HV := Lib.hid hv
  obtain ⟨c, hc⟩ : ∃ c, Hid (chk l = c) := ⟨_, Lib.hid rfl⟩
  have HC := Lib.hid (rcheck_any v l w HV.out HL.out)
  rw [hc.out] at HC
  clear hv hl
  go_enter Tryd.func64, Tryd.ntmps64
  go_wp2_with fail
  refine HC.out.mono ?_
  rintro e w2 ⟨rfl, hb2⟩
  have HB2 := Lib.hid hb2
  have HV2 := Lib.hid (HV.out.ext hb2)
  clear hb2 HC
  by_cases hc0 : c = 0
  · subst hc0
    obtain ⟨hlen, _, hsort⟩ := chk_ok hc.out
    have HD := Lib.hid (drop_doc (n := n) hc.out)
    have HFi := Lib.hid (rfind_any v l n w2 HV2.out)
    rw [find_hit hsort] at HFi
    obtain ⟨t, ht⟩ : ∃ t, Hid (hit l n = t) := ⟨_, Lib.hid rfl⟩
    obtain ⟨i, hi⟩ : ∃ t, Hid ((findF l n).1 = t) := ⟨_, Lib.hid rfl⟩
    rw [ht.out, hi.out] at HFi
    rw [ht.out] at HD
    clear hsort
    go_wp2_with fail
    refine HFi.out.mono ?_
    rintro e w4 ⟨rfl, hb4⟩
    have HB4 := Lib.hid (bthen HB2.out hb4)
    have HV4 := Lib.hid (HV2.out.ext hb4)
    have HV5 : Hid (Sl eRf 33 (w4.alloc (.cells (eId i).toArray 39)) v l) := Lib.hid (HV4.out.ext ((Below.refl _ _).alloc (Nat.le_refl _) _))
    have HB5 : Hid (Below w.heap.size w (w4.alloc (.cells (eId i).toArray 39))) := Lib.hid (HB4.out.alloc HB4.out.size _)
    clear hb4 HFi
    cases t with
    | true =>
      have HF : Hid (dropF l n = (woF l n, 0)) := Lib.hid (by rw [HD.out, if_pos rfl])
      go_wp2_with (refine new39 rfl rfl rfl _ _ rfl rfl i rfl rfl ?_)
      refine (without_any v l n _ HV5.out (by omega)).mono ?_
      rintro e w6 ⟨ov6, rfl, ho6, hb6⟩
      have HO6 := Lib.hid ho6
      have HB6 := Lib.hid (bthen HB5.out hb6)
      clear ho6 hb6
      go_wp2_with fail
      go_ret2
      rw [HF.out]
      exact ⟨_, rfl, HO6.out.sl len_eRf, HB6.out⟩
    | false =>
      have HF : Hid (dropF l n = ([], 35)) := Lib.hid (by rw [HD.out]; rfl)
      go_wp2_with (refine new39 rfl rfl rfl _ _ rfl rfl i rfl rfl ?_)
      go_ret2
      rw [HF.out]
      exact ⟨_, rfl, Sl.nil _ _ _, HB5.out⟩
  · have HF : Hid (dropF l n = ([], c)) := Lib.hid (by unfold dropF; rw [if_pos (by rw [hc.out]; exact hc0), hc.out])
    have hne : (c == 0) = false := by rw [beq_eq_false_iff_ne]; exact hc0
    go_wp2_with fail
    go_ret2
    rw [HF.out]
    exact ⟨_, rfl, Sl.nil _ _ _, HB2.out⟩

theorem same_all (v1 v2 : Value) (l : List Go.Sl.Rf) (w : World) (h1 : Sl eRf 33 w v1 l) (h2 : Sl eRf 33 w v2 l) :
    Calls Tryd.prog 51 #[v1, v2] w fun e w' => e = .returned (.bool true) ∧ Below w.heap.size w w' := by
  have := same_any v1 v2 l l w h1 h2
  rwa [show decide (l = l) = true by simp] at this

set_option maxRecDepth 100000 in
set_option maxHeartbeats 2000000 in
theorem refsSets_any (v : Value) (l : List Go.Sl.Rf) (n : List UInt8) (i : Idb) (w : World) (hv : Sl eRf 33 w v l) (hl : ∀ r ∈ l, r.nm.length ≤ 9223372036854775807) (hn : n.length ≤ 9223372036854775807) (hm : Ml w) :
    Calls Tryd.prog 13 #[v, .string (bstr n), vId i] w fun e w' => e = .returned (.bool true) ∧ Below w.heap.size w w' := by
  obtain ⟨w1, hw1⟩ : ∃ u, Hid (u = w.alloc (.cells (eId i).toArray 39)) := ⟨_, Lib.hid rfl⟩
  have HI : Hid (w1.heap[w.heap.size]? = some (.cells (eId i).toArray 39 (0, 0))) := Lib.hid (by rw [hw1.out]; exact heap_alloc_new _ _)
  have HB : Hid (Below w.heap.size w w1) := Lib.hid (by rw [hw1.out]; exact (Below.refl _ _).alloc (Nat.le_refl _) _)
  have hs1 : w1.heap.size = w.heap.size + 1 := by rw [hw1.out]; simp
  have hlen := hv.run_len (P := Tryd.prog) Tryd.underlying37
  have HL := Lib.hid hl
  have HV1 := Lib.hid (hv.ext HB.out)
  have HM1 := Lib.hid (hm.ext HB.out)
  have hmax := hv.len_le
  clear hv hl hm
  by_cases h80 : 80 < l.length
  · have d1 : decide ((80 : Int) < l.length) = true := decide_eq_true (by omega)
    go_enter Tryd.func13, Tryd.ntmps13
    go_wp2_with fail
    rw [← hw1.out]
    refine (works12_any w1 HM1.out).mono ?_
    rintro e w2 ⟨rfl, hb⟩
    have HB2 := Lib.hid (bthen HB.out hb)
    clear hb
    go_wp2_with fail
    go_ret
    exact ⟨rfl, HB2.out⟩
  have d1 : decide ((80 : Int) < l.length) = false := decide_eq_false (by omega)
  have s43 := sz43
  have hl80 : l.length ≤ 80 := by omega
  obtain ⟨X, hX⟩ : ∃ X, Hid ((setF l n i).1 = X) := ⟨_, Lib.hid rfl⟩
  obtain ⟨c, hc⟩ : ∃ X, Hid ((setF l n i).2 = X) := ⟨_, Lib.hid rfl⟩
  obtain ⟨Y, hY⟩ : ∃ X, Hid ((dropF l n).1 = X) := ⟨_, Lib.hid rfl⟩
  obtain ⟨d, hd⟩ : ∃ X, Hid ((dropF l n).2 = X) := ⟨_, Lib.hid rfl⟩
  have HMa : Hid (Sl.Own eRf 33 w1.heap.size 43 ((w.alloc (.cells (eId i).toArray 39)).alloc (.cells #[] 43)) (.slice (some ⟨w.heap.size + 1, 0, none⟩) 0 0) []) := Lib.hid (by
    have := made0 w1
    rw [hs1] at this ⊢
    rw [hw1.out] at this
    exact this)
  have HVa : Hid (Sl eRf 33 ((w.alloc (.cells (eId i).toArray 39)).alloc (.cells #[] 43)) v l) := Lib.hid (by rw [← hw1.out]; exact HV1.out.ext ((Below.refl _ _).alloc (Nat.le_refl _) _))
  have HBa : Hid (Below w1.heap.size w1 ((w.alloc (.cells (eId i).toArray 39)).alloc (.cells #[] 43))) := Lib.hid (by rw [← hw1.out]; exact (Below.refl _ _).alloc (Nat.le_refl _) _)
  clear h80
  go_enter Tryd.func13, Tryd.ntmps13
  go_wp2_with (first
    | (at_builtin; go_must (refine wpList_append rfl (en := eRf) (s := 33) (base := w1.heap.size) (e := 43) _ _ 37 rfl (vRf zRf) 48 Tryd.underlying37 info43 (size_eRf _) (by decide) len_eRf one_eRf _ _ [] l rfl HMa.out rfl HVa.out (by simp only [maxLen, List.length_nil]; omega) (by simp only [List.length_nil]; omega) HBa.out.size ?_; intro ov' w6 hown hgr hbel; have HO := Lib.hid (hown.sl len_eRf); have HW := Lib.hid (HBa.out.trans hbel); have HI6 : Hid (w6.heap[w.heap.size]? = some (.cells (eId i).toArray 39 (0, 0))) := Lib.hid ((HW.out.block _ (by omega)).trans HI.out); have HR6 : Hid (w6.rangeAt w.heap.size 0 (eId i)) := Lib.hid (range_of_heap (cs := (eId i).toArray) HI6.out); clear hown hgr hbel))
    | refine ld39 rfl _ rfl _ _ rfl i HR6.out ?_)
  have HVa1 := Lib.hid (HV1.out.ext HW.out)
  have HLi := HL
  refine (set_any ov' l n i w6 HO.out HL.out hn (HM1.out.ext HW.out)).mono ?_
  rintro e w7 ⟨v7, rfl, hs7, hb7⟩
  rw [hX.out] at hs7
  rw [hc.out]
  have HS7 := Lib.hid hs7
  have HW7 := Lib.hid (bthen HW.out hb7)
  have HO7 := Lib.hid (HO.out.ext hb7)
  have HI7 : Hid (w7.heap[w.heap.size]? = some (.cells (eId i).toArray 39 (0, 0))) := Lib.hid ((HW7.out.block _ (by omega)).trans HI.out)
  have HR7 : Hid (w7.rangeAt w.heap.size 0 (eId i)) := Lib.hid (range_of_heap (cs := (eId i).toArray) HI7.out)
  clear hs7 hb7
  go_wp2_with (refine ld39 rfl _ rfl _ _ rfl i HR7.out ?_)
  refine (rset_any v l n i w7 (HV1.out.ext HW7.out) HL.out hn).mono ?_
  rintro e w8 ⟨v8, rfl, hs8, hb8⟩
  rw [hX.out] at hs8
  rw [hc.out]
  have HS8 := Lib.hid hs8
  have HS78 := Lib.hid (HS7.out.ext hb8)
  have HW8 := Lib.hid (bthen HW7.out hb8)
  have HO8 := Lib.hid (HO7.out.ext hb8)
  clear hs8 hb8
  go_wp2_with fail
  refine (drop_any ov' l n w8 HO8.out HL.out hn (HM1.out.ext HW8.out)).mono ?_
  rintro e w9 ⟨v9, rfl, hs9, hb9⟩
  rw [hY.out] at hs9
  rw [hd.out]
  have HS9 := Lib.hid hs9
  have HS89 := Lib.hid (HS8.out.ext hb9)
  have HS79 := Lib.hid (HS78.out.ext hb9)
  have HW9 := Lib.hid (bthen HW8.out hb9)
  have HO9 := Lib.hid (HO8.out.ext hb9)
  clear hs9 hb9
  go_wp2_with fail
  refine (rdrop_any v l n w9 (HV1.out.ext HW9.out) HL.out).mono ?_
  rintro e w10 ⟨v10, rfl, hs10, hb10⟩
  rw [hY.out] at hs10
  rw [hd.out]
  have HS10 := Lib.hid hs10
  have HS9a := Lib.hid (HS9.out.ext hb10)
  have HS8a := Lib.hid (HS89.out.ext hb10)
  have HS7a := Lib.hid (HS79.out.ext hb10)
  have HW10 := Lib.hid (bthen HW9.out hb10)
  have HO10 := Lib.hid (HO9.out.ext hb10)
  clear hs10 hb10
  go_wp2_with fail
  refine (same_all v7 v8 X w10 HS7a.out HS8a.out).mono ?_
  rintro e w11 ⟨rfl, hb11⟩
  have HS10b := Lib.hid (HS10.out.ext hb11)
  have HS9b := Lib.hid (HS9a.out.ext hb11)
  have HW11 := Lib.hid (bthen HW10.out hb11)
  have HO11 := Lib.hid (HO10.out.ext hb11)
  clear hb11
  go_wp2_with fail
  refine (same_all v9 v10 Y w11 HS9b.out HS10b.out).mono ?_
  rintro e w12 ⟨rfl, hb12⟩
  have HW12 := Lib.hid (bthen HW11.out hb12)
  have HO12 := Lib.hid (HO11.out.ext hb12)
  clear hb12
  go_wp2_with fail
  refine (same_all ov' v l w12 HO12.out (HV1.out.ext HW12.out)).mono ?_
  rintro e w13 ⟨rfl, hb13⟩
  have HW13 := Lib.hid (bthen HW12.out hb13)
  clear hb13
  go_wp2_with fail
  refine (works12_any w13 (HM1.out.ext HW13.out)).mono ?_
  rintro e w14 ⟨rfl, hb14⟩
  have HW14 := Lib.hid (bthen HB.out (bthen HW13.out hb14))
  clear hb14
  go_wp2_with fail
  go_ret
  exact ⟨rfl, HW14.out⟩
end Go.Proofs.YtopamnfelngkcaaDoor.Rf
