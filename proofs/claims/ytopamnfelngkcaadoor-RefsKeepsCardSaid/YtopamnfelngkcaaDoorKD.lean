/-
  Layer 12: what Set, Put, Get, Find and Drop leave, in plain Lean; and RefsKeeps. No condition besides what the arguments are.
  Layer 12: RefsKeeps. No condition besides what the arguments are.
-/
import Derived.Test.YtopamnfelngkcaaDoorKB
import Derived.Test.YtopamnfelngkcaaDoorR19
namespace Go.Refs
open Go.Sl Go.Route Go.Proofs.YtopamnfelngkcaaDoor.Rf
theorem spl_vis : ∀ (l now : List UInt8), (∀ p ∈ spl now l, vis p = true) → ∀ x ∈ now ++ l, x = 47 ∨ 33 ≤ x.toNat := by
  intro l
  induction l with
  | nil =>
    intro now h x hx
    have h1 := h now (by simp [spl])
    unfold vis at h1
    rw [List.all_eq_true] at h1
    rw [List.append_nil] at hx
    have := h1 x hx
    simp only [Bool.and_eq_true, decide_eq_true_eq] at this
    exact .inr this.1
  | cons c l ih =>
    intro now h x hx
    unfold spl at h
    by_cases hc : c = 47
    · rw [if_pos hc] at h
      have h1 := h now (by simp)
      unfold vis at h1
      rw [List.all_eq_true] at h1
      rcases List.mem_append.1 hx with hx | hx
      · have := h1 x hx
        simp only [Bool.and_eq_true, decide_eq_true_eq] at this
        exact .inr this.1
      · rcases List.mem_cons.1 hx with hx | hx
        · exact .inl (hx.trans hc)
        · exact ih [] (fun p hp => h p (by simp [hp])) x (by simpa using hx)
    · rw [if_neg hc] at h
      exact ih (now ++ [c]) h x (by simpa using hx)
theorem rgt_ten {l : List UInt8} (h : rgt l = true) : ∀ x ∈ l, x ≠ 10 := by
  intro x hx
  unfold rgt parts at h
  rw [if_neg (by rintro rfl; cases hx)] at h
  simp only [Bool.and_eq_true, decide_eq_true_eq, List.all_eq_true] at h
  have := spl_vis l [] (fun p hp => by
    have h1 := h.1.2 p hp
    unfold nam at h1
    simp only [Bool.and_eq_true] at h1
    exact h1.1.1.1.2) x (by simpa using hx)
  rintro rfl
  rcases this with h1 | h1
  · cases h1
  · revert h1; decide
/-- what Set gives may be a table -/
theorem set_chk {l : List Rf} {n : List UInt8} {i : Idb} (h : (setF l n i).2 = 0) : chk (setF l n i).1 = 0 ∧ chk l = 0 ∧ rgt n = true := by
  by_cases h0 : chk l = 0
  · cases hr : rgt n with
    | true =>
      obtain ⟨hl, hn, hs⟩ := chk_ok h0
      rw [set_doc h0 hr] at h ⊢
      by_cases h64 : (woF l n).length = 64
      · rw [if_pos h64] at h; simp at h
      · rw [if_neg h64]
        refine ⟨?_, h0, rfl⟩
        obtain ⟨e1, e2⟩ := wo_parts hs (n := n)
        have hwl := wo_len l n
        have hlt : ∀ r ∈ (woF l n).take (pos l n), r.nm < n := by rw [e1]; exact take_pos
        have hgt : ∀ r ∈ (woF l n).drop (pos l n), n < r.nm := by
          rw [e2]
          cases hh : hit l n with
          | true => rw [if_pos rfl]; exact drop_pos hs
          | false => rw [if_neg (by simp)]; exact drop_pos' hs hh
        have hsub : List.Sublist (woF l n) l := List.filter_sublist
        refine chk_mk ?_ ?_ ?_
        · simp only [List.length_append, List.length_cons, List.length_take, List.length_drop]; omega
        · intro r hr'
          rcases List.mem_append.1 hr' with h1 | h1
          · exact hn r (hsub.mem (List.mem_of_mem_take h1))
          · rcases List.mem_cons.1 h1 with h1 | h1
            · rw [h1]; exact hr
            · exact hn r (hsub.mem (List.mem_of_mem_drop h1))
        · unfold nms at hs ⊢
          rw [List.map_append, List.map_cons, List.pairwise_append]
          have hw : ((woF l n).map (·.nm)).Pairwise (· < ·) := hs.sublist (hsub.map _)
          refine ⟨hw.sublist ((List.take_sublist _ _).map _), ?_, ?_⟩
          · rw [List.pairwise_cons]
            refine ⟨fun a ha => ?_, hw.sublist ((List.drop_sublist _ _).map _)⟩
            obtain ⟨r, hr', rfl⟩ := List.mem_map.1 ha
            exact hgt r hr'
          · intro a ha b hb
            obtain ⟨r, hr', rfl⟩ := List.mem_map.1 ha
            rcases List.mem_cons.1 hb with rfl | hb
            · exact hlt r hr'
            · obtain ⟨q, hq, rfl⟩ := List.mem_map.1 hb
              exact List.lt_trans (hlt r hr') (hgt q hq)
    | false =>
      unfold setF at h; rw [if_neg (by rw [h0]; simp), if_pos hr] at h; simp at h
  · unfold setF at h; rw [if_pos h0] at h; exact absurd h h0
/-- the table Set gives, its parts -/
theorem set_parts {l : List Rf} {n : List UInt8} {i : Idb} (h : (setF l n i).2 = 0) : ∃ a b : List Rf, (setF l n i).1 = a ++ ⟨n, i⟩ :: b ∧ woF l n = a ++ b ∧ (∀ r ∈ a, r.nm < n) ∧ (∀ r ∈ b, n < r.nm) := by
  obtain ⟨_, h0, hr⟩ := set_chk h
  obtain ⟨hl, hn, hs⟩ := chk_ok h0
  rw [set_doc h0 hr] at h ⊢
  by_cases h64 : (woF l n).length = 64
  · rw [if_pos h64] at h; simp at h
  · rw [if_neg h64]
    obtain ⟨e1, e2⟩ := wo_parts hs (n := n)
    refine ⟨_, _, rfl, (List.take_append_drop _ _).symm, by rw [e1]; exact take_pos, ?_⟩
    rw [e2]
    cases hh : hit l n with
    | true => rw [if_pos rfl]; exact drop_pos hs
    | false => rw [if_neg (by simp)]; exact drop_pos' hs hh
theorem set_none {l : List Rf} {n : List UInt8} {i : Idb} (h : (setF l n i).2 ≠ 0) : (setF l n i).1 = [] := by
  unfold setF at h ⊢
  split
  · rfl
  split
  · rfl
  split
  · rename_i h1 h2 h3; rw [if_neg h1, if_neg h2, if_pos h3] at h; simp at h
  split
  · rfl
  · rename_i h1 h2 h3 h4; rw [if_neg h1, if_neg h2, if_neg h3, if_neg h4] at h; simp at h
/-- what was put is got -/
theorem get_put {l : List Rf} (h : chk l = 0) : putF l = (textF l, 0) ∧ getF (textF l) = (l, 0) := by
  obtain ⟨_, hn, _⟩ := chk_ok h
  refine ⟨by unfold putF; rw [if_pos h], ?_⟩
  rw [getF_some (getG_of l (fun r hr x hx => rgt_ten (hn r hr) x hx)), if_pos h]
theorem find_wo {l : List Rf} {n m : List UInt8} (hm : m ≠ n) : findF (woF l n) m = findF l m := by
  unfold woF
  induction l with
  | nil => rfl
  | cons r l ih =>
    rw [List.filter_cons]
    by_cases h : r.nm = n
    · rw [if_neg (by simp [h]), ih, findF, if_neg (by rw [h]; exact fun e => hm e.symm)]
    · rw [if_pos (by simp [h]), findF, findF, ih]
theorem find_app {a b : List Rf} {x : Rf} {m : List UInt8} (hm : x.nm ≠ m) : findF (a ++ x :: b) m = findF (a ++ b) m := by
  induction a with
  | nil => rw [List.nil_append, List.nil_append, findF, if_neg hm]
  | cons r a ih => rw [List.cons_append, List.cons_append, findF, findF, ih]
theorem find_set {l : List Rf} {n : List UInt8} {i : Idb} (h : (setF l n i).2 = 0) : findF (setF l n i).1 n = (i, true) ∧ ∀ m, m ≠ n → findF (setF l n i).1 m = findF l m := by
  obtain ⟨a, b, e1, e2, h1, h2⟩ := set_parts h
  rw [e1]
  refine ⟨find_at (fun x hx => lt_ne (h1 x hx)) rfl, fun m hm => ?_⟩
  rw [find_app (fun e => hm e.symm), ← e2, find_wo hm]
theorem find_self {l : List Rf} (hs : (nms l).Pairwise (· < ·)) {k : Nat} (hk : k < l.length) : findF l l[k].nm = (l[k].id, true) := by
  have := find_at (a := l.take k) (b := l.drop (k + 1)) (r := l[k]) (n := l[k].nm) (fun x hx => by
    obtain ⟨j, hj, rfl⟩ := List.getElem_of_mem hx
    rw [List.getElem_take]
    rw [List.length_take] at hj
    exact lt_ne (rise_lt hs (by omega) hk)) rfl
  rwa [← List.drop_eq_getElem_cons hk, List.take_append_drop] at this
/-- what Drop leaves of what Set gave -/
theorem drop_set {l : List Rf} {n : List UInt8} {i : Idb} (h : (setF l n i).2 = 0) : dropF (setF l n i).1 n = (woF l n, 0) ∧ (findF (woF l n) n).2 = false ∧ (woF l n).length + 1 = (setF l n i).1.length := by
  obtain ⟨h0, _, _⟩ := set_chk h
  obtain ⟨_, _, hs⟩ := chk_ok h0
  obtain ⟨a, b, e1, e2, h1, h2⟩ := set_parts h
  have hw : woF (setF l n i).1 n = woF l n := by
    rw [e1, e2]
    unfold woF
    rw [List.filter_append, List.filter_cons, if_neg (by simp), List.filter_eq_self.2 (fun r hr => nm_ne_lt (h1 r hr)), List.filter_eq_self.2 (fun r hr => nm_ne_gt (h2 r hr))]
  have hh : hit (setF l n i).1 n = true := by rw [← find_hit hs, (find_set h).1]
  refine ⟨by rw [drop_doc h0, if_pos hh, hw], ?_, by rw [e1, e2]; simp; omega⟩
  rw [find_none]
  intro r hr
  unfold woF at hr
  simpa using (List.mem_filter.1 hr).2
end Go.Refs

namespace Go.Proofs.YtopamnfelngkcaaDoor.Rf
open Go.Proofs Go.RowKit Go.Shelf Go.Sl Go.Route Go.Refs
set_option linter.unusedVariables false

theorem exec_neq39 {o : Oper} {a : Act} {w : World} (x y : Operand) (t : TypeId) (ho : o.op = .binOp .neq 39 x y t) (i : Idb) (hx : a.eval x = vId i) (hy : a.eval y = vId i) : (execOp a.eval o).run Tryd.prog w = .ok (.value (.bool false)) w := by
  have h1 := run_eqGuard_agg (P := Tryd.prog) w .neq 39 x y (eId i).toArray (eId i).toArray (by kernel_rfl)
  have h2 := run_neq_id (P := Tryd.prog) w Tryd.underlying39 Tryd.underlying5 Tryd.sizeOf5 i i
  unfold execOp
  simp only [ho, hx, hy, Sem.run_bind, h1, h2, Result.andThen_ok, Sem.run_pure]
  simp

set_option maxRecDepth 100000 in
set_option maxHeartbeats 4000000 in
theorem refsKeeps_any (v : Value) (l : List Go.Sl.Rf) (n : List UInt8) (i : Idb) (w : World) (hv : Sl eRf 33 w v l) (hl : ∀ r ∈ l, r.nm.length ≤ 9223372036854775807) (hn : n.length ≤ 9223372036854775807) (hm : Ml w) :
    Calls Tryd.prog 14 #[v, .string (bstr n), vId i] w fun e w' => e = .returned (.bool true) ∧ Below w.heap.size w w' := by
  obtain ⟨w1, hw1⟩ : ∃ u, Hid (u = w.alloc (.cells (eId i).toArray 39)) := ⟨_, Lib.hid rfl⟩
  have HI : Hid (w1.heap[w.heap.size]? = some (.cells (eId i).toArray 39 (0, 0))) := Lib.hid (by rw [hw1.out]; exact heap_alloc_new _ _)
  have HR1 : Hid ((w.alloc (.cells (eId i).toArray 39)).rangeAt w.heap.size 0 (eId i)) := Lib.hid (range_of_heap (cs := (eId i).toArray) (heap_alloc_new _ _))
  have HB : Hid (Below w.heap.size w w1) := Lib.hid (by rw [hw1.out]; exact (Below.refl _ _).alloc (Nat.le_refl _) _)
  have hs1 : w1.heap.size = w.heap.size + 1 := by rw [hw1.out]; simp
  have hlen := hv.run_len (P := Tryd.prog) Tryd.underlying37
  have HL := Lib.hid hl
  have HV1 := Lib.hid (hv.ext HB.out)
  have HM1 := Lib.hid (hm.ext HB.out)
  have hmax := hv.len_le
  clear hv hl hm
  by_cases h80 : 80 < l.length
  · have d1 : decide ((80 : Int) < l.length) = true := decide_eq_true (by omega)
    go_enter Tryd.func14, Tryd.ntmps14
    go_wp2_with fail
    rw [← hw1.out]
    refine (works12_any w1 HM1.out).mono ?_
    rintro e w2 ⟨rfl, hb⟩
    have HB2 := Lib.hid (bthen HB.out hb)
    clear hb
    go_wp2_with fail
    go_ret
    exact ⟨rfl, HB2.out⟩
  have d1 : decide ((80 : Int) < l.length) = false := decide_eq_false (by omega)
  have HSN := Lib.hid (set_none (l := l) (n := n) (i := i))
  have HSC := Lib.hid (set_chk (l := l) (n := n) (i := i))
  have HFS := Lib.hid (find_set (l := l) (n := n) (i := i))
  have HDS := Lib.hid (drop_set (l := l) (n := n) (i := i))
  have HXL := Lib.hid (setF_names (i := i) HL.out hn)
  obtain ⟨X, hX⟩ : ∃ X, Hid ((setF l n i).1 = X) := ⟨_, Lib.hid rfl⟩
  obtain ⟨c, hc⟩ : ∃ X, Hid ((setF l n i).2 = X) := ⟨_, Lib.hid rfl⟩
  rw [hX.out] at HXL HSC HFS HDS HSN
  rw [hc.out] at HSC HFS HDS HSN
  clear h80
  go_enter Tryd.func14, Tryd.ntmps14
  go_wp2_with (refine ld39 rfl _ rfl _ _ rfl i HR1.out ?_)
  rw [← hw1.out]
  refine (set_any v l n i w1 HV1.out HL.out hn HM1.out).mono ?_
  rintro e w2 ⟨v2, rfl, hs2, hb2⟩
  rw [hX.out] at hs2
  rw [hc.out]
  have HS2 := Lib.hid hs2
  have HB2 := Lib.hid (bthen HB.out hb2)
  have HW2 := Lib.hid hb2
  have hlen2 := hs2.run_len (P := Tryd.prog) Tryd.underlying37
  clear hs2 hb2
  by_cases hc0 : c = 0
  · subst hc0
    obtain ⟨hkX, hkl, hrn⟩ := HSC.out rfl
    obtain ⟨hf1, hf2⟩ := HFS.out rfl
    obtain ⟨hd1, hd2, hd3⟩ := HDS.out rfl
    obtain ⟨hgp, hgg⟩ := get_put hkX
    obtain ⟨hX64, hXr, hXs⟩ := chk_ok hkX
    obtain ⟨hl64, hlr, hls⟩ := chk_ok hkl
    have htl : (textF X).length ≤ 100000 := Nat.le_trans (textF_len X (fun r hr => rgt_len (hXr r hr))) (by omega)
    have HF1 := Lib.hid hf1
    have HF2 : Hid (∀ k, ∀ h : k < l.length, l[k].nm ≠ n → findF X l[k].nm = (l[k].id, true)) := Lib.hid (fun k h hne => by rw [hf2 _ hne, find_self hls h])
    have HD1 := Lib.hid hd1
    have HD2 := Lib.hid hd2
    have HGP := Lib.hid hgp
    have HGG := Lib.hid hgg
    obtain ⟨T, hT⟩ : ∃ T, Hid (textF X = T) := ⟨_, Lib.hid rfl⟩
    rw [hT.out] at HGP HGG htl
    obtain ⟨Y, hY⟩ : ∃ T, Hid (woF l n = T) := ⟨_, Lib.hid rfl⟩
    rw [hY.out] at HD1 HD2 hd3
    clear hkX hkl hrn hf1 hf2 hd1 hd2 hgp hgg hXr hlr hXs hls HSC HFS HDS HSN
    go_wp2_with fail
    refine (put_any v2 X w2 HS2.out HXL.out (HM1.out.ext HW2.out)).mono ?_
    rintro e w3 ⟨v3, rfl, hs3, hb3⟩
    rw [HGP.out] at hs3 ⊢
    have HS3 := Lib.hid hs3
    have HW3 := Lib.hid (bthen HW2.out hb3)
    have HS23 := Lib.hid (HS2.out.ext hb3)
    clear hs3 hb3
    go_wp2_with fail
    refine (get_any v3 T w3 HS3.out htl (HM1.out.ext HW3.out)).mono ?_
    rintro e w4 ⟨v4, rfl, hs4, hb4⟩
    rw [HGG.out] at hs4 ⊢
    have HS4 := Lib.hid hs4
    have HW4 := Lib.hid (bthen HW3.out hb4)
    have HS24 := Lib.hid (HS23.out.ext hb4)
    clear hs4 hb4
    go_wp2_with fail
    refine (find_any v4 X n w4 HS4.out).mono ?_
    rintro e w5 ⟨rfl, hb5⟩
    rw [HF1.out]
    have HW5 := Lib.hid (bthen HW4.out hb5)
    have HS25 := Lib.hid (HS24.out.ext hb5)
    have HS45 := Lib.hid (HS4.out.ext hb5)
    clear hb5
    obtain ⟨w6, hw6⟩ : ∃ u, Hid (u = w5.alloc (.cells (eId i).toArray 39)) := ⟨_, Lib.hid rfl⟩
    have hb6 : Below w5.heap.size w5 w6 := by rw [hw6.out]; exact (Below.refl _ _).alloc (Nat.le_refl _) _
    have HI6 : Hid (w6.heap[w5.heap.size]? = some (.cells (eId i).toArray 39 (0, 0))) := Lib.hid (by rw [hw6.out]; exact heap_alloc_new _ _)
    have HW6 := Lib.hid (bthen HW5.out hb6)
    have HS26 := Lib.hid (HS25.out.ext hb6)
    have HS46 := Lib.hid (HS45.out.ext hb6)
    clear hb6
    go_wp2_with (refine new39 rfl rfl rfl _ _ rfl rfl i rfl rfl ?_; rw [← hw6.out])
    refine (same_all v2 v4 X w6 HS26.out HS46.out).mono ?_
    rintro e w7 ⟨rfl, hb7⟩
    have HW7 := Lib.hid (bthen HW6.out hb7)
    have HS27 := Lib.hid (HS26.out.ext hb7)
    have HR7a : Hid (w7.rangeAt w5.heap.size 0 (eId i)) := Lib.hid (range_of_heap (cs := (eId i).toArray) ((hb7.block _ (Array.getElem?_eq_some_iff.1 HI6.out).1).trans HI6.out))
    have HR7b : Hid (w7.rangeAt w.heap.size 0 (eId i)) := Lib.hid (range_of_heap (cs := (eId i).toArray) ((HW7.out.block _ (by omega)).trans HI.out))
    clear hb7
    go_wp2_with (first
      | refine wpList_exec (exec_ld39 _ rfl _ _ rfl i HR7a.out) (by rfl) ?_
      | refine wpList_exec (exec_ld39 _ rfl _ _ rfl i HR7b.out) (by rfl) ?_
      | refine wpList_exec (exec_neq39 _ _ _ rfl i rfl rfl) (by rfl) ?_)
    have HVw7 := Lib.hid (HV1.out.ext HW7.out)
    go_loopw [15] (fun s15 wr => ∃ (j : Nat), s15 = .int .i64 j ∧ j ≤ l.length ∧ Hid (Below w7.heap.size w7 wr)) (fun s15 _ => l.length - (intOf s15).toNat)
    case atStart => exact ⟨0, rfl, by omega, Lib.hid (Below.refl _ _)⟩
    case round =>
      obtain ⟨wo, rfl⟩ : ∃ u : World, u = wr := ⟨_, rfl⟩
      obtain ⟨j, rfl, hj, HJ⟩ := hrel
      by_cases hlt : j < l.length
      · have d2 : decide ((j : Int) < (l.length : Int)) = true := decide_eq_true (by omega)
        obtain ⟨b5, o5, hb5, hix, hr⟩ := HVw7.out.rangeB len_eRf HJ.out (P := Tryd.prog) Tryd.underlying37 cells43 some43 hlt
        obtain ⟨x, hx⟩ : ∃ x, Hid (l[j] = x) := ⟨_, Lib.hid rfl⟩
        have HF3 := Lib.hid (HF2.out j hlt)
        rw [hx.out] at hr HF3
        have e0 := range_nm hr
        have HRx := Lib.hid hr
        have HFi := Lib.hid (find_any v2 X x.nm wo (HS27.out.ext HJ.out))
        obtain ⟨i3, hi3⟩ : ∃ t, Hid ((findF X x.nm).1 = t) := ⟨_, Lib.hid rfl⟩
        obtain ⟨t3, ht3⟩ : ∃ t, Hid ((findF X x.nm).2 = t) := ⟨_, Lib.hid rfl⟩
        rw [hi3.out, ht3.out] at HFi
        clear hr
        go_wp2_with fail
        refine HFi.out.mono ?_
        rintro e w8 ⟨rfl, hb8⟩
        have HJ8 := Lib.hid (bthen HJ.out hb8)
        have HRx8 : Hid (w8.rangeAt b5 o5 (eRf x)) := Lib.hid (rangeAt_below HRx.out hb8 (by have := HJ.out.size; omega))
        clear hb8 HFi e0
        have HJ9 : Hid (Below w7.heap.size w7 (w8.alloc (.cells (eId i3).toArray 39))) := Lib.hid (HJ8.out.alloc HJ8.out.size _)
        have HRx9 : Hid ((w8.alloc (.cells (eId i3).toArray 39)).rangeAt b5 o5 (eRf x)) := Lib.hid (World.rangeAt_alloc HRx8.out _)
        have HRi : Hid ((w8.alloc (.cells (eId i3).toArray 39)).rangeAt w8.heap.size 0 (eId i3)) := Lib.hid (range_of_heap (cs := (eId i3).toArray) (heap_alloc_new _ _))
        by_cases hq : x.nm = n
        · have hd : (x.nm == n) = true := by simpa using hq
          have e9 := range_nm HRx9.out
          clear hq
          go_wp2_with (refine new39 rfl rfl rfl _ _ rfl rfl i3 rfl rfl ?_)
          go_quiet (fail)
          go_wp2_with fail
          go_roundw
          case rel => exact ⟨j + 1, by go_num, by omega, Lib.hid (below_drewN HJ9.out _)⟩
          case measure => simp [intOf]; omega
        · have hd : (x.nm == n) = false := by simpa using hq
          have e3 := HF3.out hq
          have hix3 : i3 = x.id := by rw [← hi3.out, e3]
          have htt : t3 = true := by rw [← ht3.out, e3]
          subst hix3 htt
          clear hq e3
          go_wp2_with (refine new39 rfl rfl rfl _ _ rfl rfl x.id rfl rfl ?_)
          refine wp_region_held_drew (S := fun u => u.rangeAt b5 o5 (eRf x) ∧ u.rangeAt w8.heap.size 0 (eId x.id) ∧ Below w7.heap.size w7 u) (by kernel_rfl) ⟨HRx9.out, HRi.out, below_drewN HJ9.out 1⟩ (fun hHeld => ?_)
          refine wpAnyH_take (i := 0) (oi := { dst := some 94, op := Op.move (Operand.tmp 0), type := 37, pos := "law.go:83", after := #[], guard := none }) (v := ?_) rfl (by kernel_rfl) (by kernel_rfl) (by kernel_rfl) (fun _ _ _ h => h) (Or.inl ⟨by rfl, ?_⟩) (by assumption) ?_
          rotate_left
          · intro u hSu; (try dsimp only at hSu); (go_simp <;> with_reducible rfl)
          try simp only [Act.put, List.setIfInBounds_toArray, List.set_cons_zero, List.set_cons_succ]
          refine wpAnyH_take (i := 1) (oi := { dst := some 95, op := Op.move (Operand.tmp 15), type := 3, pos := "law.go:83", after := #[], guard := none }) (v := ?_) rfl (by kernel_rfl) (by kernel_rfl) (by kernel_rfl) (fun _ _ _ h => h) (Or.inl ⟨by rfl, ?_⟩) (by assumption) ?_
          rotate_left
          · intro u hSu; (try dsimp only at hSu); (go_simp <;> with_reducible rfl)
          try simp only [Act.put, List.setIfInBounds_toArray, List.set_cons_zero, List.set_cons_succ]
          refine wpAnyH_take (i := 2) (oi := { dst := some 96, op := Op.indexAddr 37 (Operand.tmp 94) (Operand.tmp 95), type := 0, pos := "law.go:83", after := #[{ on := 0, ground := Ground.data }, { on := 1, ground := Ground.data }], guard := none }) (v := ?_) rfl (by kernel_rfl) (by kernel_rfl) (by kernel_rfl) (fun _ _ _ h => h) (Or.inl ⟨by rfl, ?_⟩) (by assumption) ?_
          rotate_left
          · intro u hSu; (try dsimp only at hSu); (go_simp <;> with_reducible rfl)
          try simp only [Act.put, List.setIfInBounds_toArray, List.set_cons_zero, List.set_cons_succ]
          refine wpAnyH_take (i := 3) (oi := { dst := some 97, op := Op.fieldAddr 43 (Operand.tmp 96) 0, type := 0, pos := "law.go:83", after := #[{ on := 2, ground := Ground.data }], guard := none }) (v := ?_) rfl (by kernel_rfl) (by kernel_rfl) (by kernel_rfl) (fun _ _ _ h => h) (Or.inl ⟨by rfl, ?_⟩) (by assumption) ?_
          rotate_left
          · intro u hSu; (try dsimp only at hSu); (go_simp <;> with_reducible rfl)
          try simp only [Act.put, List.setIfInBounds_toArray, List.set_cons_zero, List.set_cons_succ]
          refine wpAnyH_take (i := 4) (oi := { dst := some 98, op := Op.load 9 (Operand.tmp 97), type := 9, pos := "law.go:83", after := #[{ on := 3, ground := Ground.data }], guard := none }) (v := .string (bstr x.nm)) rfl (by kernel_rfl) (by kernel_rfl) (by kernel_rfl) (fun _ _ _ h => h) (Or.inl ⟨by rfl, ?_⟩) (by assumption) ?_
          · intro u hSu; have e9 := range_nm hSu.1; go_simp
          try simp only [Act.put, List.setIfInBounds_toArray, List.set_cons_zero, List.set_cons_succ]
          refine wpAnyH_take (i := 5) (oi := { dst := some 99, op := Op.move (Operand.tmp 1), type := 9, pos := "law.go:83", after := #[], guard := none }) (v := ?_) rfl (by kernel_rfl) (by kernel_rfl) (by kernel_rfl) (fun _ _ _ h => h) (Or.inl ⟨by rfl, ?_⟩) (by assumption) ?_
          rotate_left
          · intro u hSu; (try dsimp only at hSu); (go_simp <;> with_reducible rfl)
          try simp only [Act.put, List.setIfInBounds_toArray, List.set_cons_zero, List.set_cons_succ]
          refine wpAnyH_take (i := 6) (oi := { dst := some 100, op := Op.binOp BinOp.neq 9 (Operand.tmp 98) (Operand.tmp 99) 9, type := 4, pos := "law.go:83", after := #[{ on := 4, ground := Ground.data }, { on := 5, ground := Ground.data }], guard := none }) (v := ?_) rfl (by kernel_rfl) (by kernel_rfl) (by kernel_rfl) (fun _ _ _ h => h) (Or.inl ⟨by rfl, ?_⟩) (by assumption) ?_
          rotate_left
          · intro u hSu; (try dsimp only at hSu); (go_simp <;> with_reducible rfl)
          try simp only [Act.put, List.setIfInBounds_toArray, List.set_cons_zero, List.set_cons_succ]
          refine wpAnyH_take (i := 7) (oi := { dst := some 101, op := Op.move (Operand.tmp 100), type := 4, pos := "law.go:83", after := #[{ on := 6, ground := Ground.data }], guard := none }) (v := ?_) rfl (by kernel_rfl) (by kernel_rfl) (by kernel_rfl) (fun _ _ _ h => h) (Or.inl ⟨by rfl, ?_⟩) (by assumption) ?_
          rotate_left
          · intro u hSu; (try dsimp only at hSu); (go_simp <;> with_reducible rfl)
          try simp only [Act.put, List.setIfInBounds_toArray, List.set_cons_zero, List.set_cons_succ]
          refine wpAnyH_take (i := 8) (oi := { dst := some 102, op := Op.move (Operand.tmp 17), type := 4, pos := "law.go:83", after := #[{ on := 7, ground := Ground.guard }], guard := some (7, true) }) (v := ?_) rfl (by kernel_rfl) (by kernel_rfl) (by kernel_rfl) (fun _ _ _ h => h) (Or.inl ⟨by rfl, ?_⟩) (by assumption) ?_
          rotate_left
          · intro u hSu; (try dsimp only at hSu); (go_simp <;> with_reducible rfl)
          try simp only [Act.put, List.setIfInBounds_toArray, List.set_cons_zero, List.set_cons_succ]
          refine wpAnyH_take (i := 9) (oi := { dst := some 103, op := Op.unOp UnOp.not 4 (Operand.tmp 102), type := 4, pos := "law.go:83", after := #[{ on := 8, ground := Ground.data }, { on := 7, ground := Ground.guard }], guard := some (7, true) }) (v := ?_) rfl (by kernel_rfl) (by kernel_rfl) (by kernel_rfl) (fun _ _ _ h => h) (Or.inl ⟨by rfl, ?_⟩) (by assumption) ?_
          rotate_left
          · intro u hSu; (try dsimp only at hSu); (go_simp <;> with_reducible rfl)
          try simp only [Act.put, List.setIfInBounds_toArray, List.set_cons_zero, List.set_cons_succ]
          refine wpAnyH_take (i := 10) (oi := { dst := some 104, op := Op.move (Operand.tmp 103), type := 4, pos := "law.go:83", after := #[{ on := 9, ground := Ground.data }, { on := 7, ground := Ground.chain }, { on := 7, ground := Ground.guard }], guard := some (7, true) }) (v := ?_) rfl (by kernel_rfl) (by kernel_rfl) (by kernel_rfl) (fun _ _ _ h => h) (Or.inl ⟨by rfl, ?_⟩) (by assumption) ?_
          rotate_left
          · intro u hSu; (try dsimp only at hSu); (go_simp <;> with_reducible rfl)
          try simp only [Act.put, List.setIfInBounds_toArray, List.set_cons_zero, List.set_cons_succ]
          refine wpAnyH_take (i := 11) (oi := { dst := some 105, op := Op.load 39 (Operand.tmp 16), type := 39, pos := "law.go:83", after := #[{ on := 10, ground := Ground.guard }], guard := some (10, false) }) (v := .agg (eId x.id).toArray) rfl (by kernel_rfl) (by kernel_rfl) (by kernel_rfl) (fun _ _ _ h => h) (yieldsIf_load_mid (by rfl) 39 _ rfl w8.heap.size 0 (by rfl) (eId x.id) _ (fun u hSu => hSu.2.1) Tryd.underlying39 rfl (by rw [size39, len_eId])) (by assumption) ?_
          try simp only [Act.put, List.setIfInBounds_toArray, List.set_cons_zero, List.set_cons_succ]
          refine wpAnyH_take (i := 12) (oi := { dst := some 106, op := Op.move (Operand.tmp 0), type := 37, pos := "law.go:83", after := #[{ on := 10, ground := Ground.guard }], guard := some (10, false) }) (v := ?_) rfl (by kernel_rfl) (by kernel_rfl) (by kernel_rfl) (fun _ _ _ h => h) (Or.inl ⟨by rfl, ?_⟩) (by assumption) ?_
          rotate_left
          · intro u hSu; (try dsimp only at hSu); (go_simp <;> with_reducible rfl)
          try simp only [Act.put, List.setIfInBounds_toArray, List.set_cons_zero, List.set_cons_succ]
          refine wpAnyH_take (i := 13) (oi := { dst := some 107, op := Op.move (Operand.tmp 15), type := 3, pos := "law.go:83", after := #[{ on := 10, ground := Ground.guard }], guard := some (10, false) }) (v := ?_) rfl (by kernel_rfl) (by kernel_rfl) (by kernel_rfl) (fun _ _ _ h => h) (Or.inl ⟨by rfl, ?_⟩) (by assumption) ?_
          rotate_left
          · intro u hSu; (try dsimp only at hSu); (go_simp <;> with_reducible rfl)
          try simp only [Act.put, List.setIfInBounds_toArray, List.set_cons_zero, List.set_cons_succ]
          refine wpAnyH_take (i := 14) (oi := { dst := some 108, op := Op.indexAddr 37 (Operand.tmp 106) (Operand.tmp 107), type := 0, pos := "law.go:83", after := #[{ on := 12, ground := Ground.data }, { on := 13, ground := Ground.data }, { on := 10, ground := Ground.guard }], guard := some (10, false) }) (v := ?_) rfl (by kernel_rfl) (by kernel_rfl) (by kernel_rfl) (fun _ _ _ h => h) (Or.inl ⟨by rfl, ?_⟩) (by assumption) ?_
          rotate_left
          · intro u hSu; (try dsimp only at hSu); (go_simp <;> with_reducible rfl)
          try simp only [Act.put, List.setIfInBounds_toArray, List.set_cons_zero, List.set_cons_succ]
          refine wpAnyH_take (i := 15) (oi := { dst := some 109, op := Op.fieldAddr 43 (Operand.tmp 108) 1, type := 0, pos := "law.go:83", after := #[{ on := 14, ground := Ground.data }, { on := 10, ground := Ground.guard }], guard := some (10, false) }) (v := ?_) rfl (by kernel_rfl) (by kernel_rfl) (by kernel_rfl) (fun _ _ _ h => h) (Or.inl ⟨by rfl, ?_⟩) (by assumption) ?_
          rotate_left
          · intro u hSu; (try dsimp only at hSu); (go_simp <;> with_reducible rfl)
          try simp only [Act.put, List.setIfInBounds_toArray, List.set_cons_zero, List.set_cons_succ]
          refine wpAnyH_take (i := 16) (oi := { dst := some 110, op := Op.load 39 (Operand.tmp 109), type := 39, pos := "law.go:83", after := #[{ on := 15, ground := Ground.data }, { on := 10, ground := Ground.guard }], guard := some (10, false) }) (v := .agg (eId x.id).toArray) rfl (by kernel_rfl) (by kernel_rfl) (by kernel_rfl) (fun _ _ _ h => h) (yieldsIf_load_mid (by rfl) 39 _ rfl b5 (o5 + 1) (by rfl) (eId x.id) _ (fun u hSu => range_id hSu.1) Tryd.underlying39 rfl (by rw [size39, len_eId])) (by assumption) ?_
          try simp only [Act.put, List.setIfInBounds_toArray, List.set_cons_zero, List.set_cons_succ]
          refine wpAnyH_take (i := 17) (oi := { dst := some 111, op := Op.binOp BinOp.neq 39 (Operand.tmp 105) (Operand.tmp 110) 39, type := 4, pos := "law.go:83", after := #[{ on := 11, ground := Ground.data }, { on := 16, ground := Ground.data }, { on := 10, ground := Ground.guard }], guard := some (10, false) }) (v := .bool false) rfl (by kernel_rfl) (by kernel_rfl) (by kernel_rfl) (fun _ _ _ h => h) (Or.inl ⟨by rfl, fun u hSu => exec_neq39 _ _ _ rfl x.id rfl rfl⟩) (by assumption) ?_
          try simp only [Act.put, List.setIfInBounds_toArray, List.set_cons_zero, List.set_cons_succ]
          refine wpAnyH_take (i := 18) (oi := { dst := some 112, op := Op.pick (Operand.tmp 104) (Operand.const (Value.bool true)) (Operand.tmp 111), type := 4, pos := "law.go:83", after := #[{ on := 10, ground := Ground.data }, { on := 17, ground := Ground.data }, { on := 7, ground := Ground.guard }], guard := some (7, true) }) (v := ?_) rfl (by kernel_rfl) (by kernel_rfl) (by kernel_rfl) (fun _ _ _ h => h) (Or.inl ⟨by rfl, ?_⟩) (by assumption) ?_
          rotate_left
          · intro u hSu; (try dsimp only at hSu); (go_simp <;> with_reducible rfl)
          try simp only [Act.put, List.setIfInBounds_toArray, List.set_cons_zero, List.set_cons_succ]
          refine wpAnyH_take (i := 19) (oi := { dst := some 113, op := Op.pick (Operand.tmp 101) (Operand.tmp 112) (Operand.const (Value.bool false)), type := 4, pos := "law.go:83", after := #[{ on := 7, ground := Ground.data }, { on := 18, ground := Ground.data }], guard := none }) (v := ?_) rfl (by kernel_rfl) (by kernel_rfl) (by kernel_rfl) (fun _ _ _ h => h) (Or.inl ⟨by rfl, ?_⟩) (by assumption) ?_
          rotate_left
          · intro u hSu; (try dsimp only at hSu); (go_simp <;> with_reducible rfl)
          try simp only [Act.put, List.setIfInBounds_toArray, List.set_cons_zero, List.set_cons_succ]
          refine wpAnyH_done (by kernel_rfl) ?_ _
          have HJ5 := Lib.hid hHeld.2.2
          clear hHeld
          go_wp2_with fail
          go_roundw
          case rel => exact ⟨j + 1, by go_num, by omega, HJ5⟩
          case measure => simp [intOf]; omega
      · obtain rfl : j = l.length := by omega
        have d2 : decide ((l.length : Int) < (l.length : Int)) = false := decide_eq_false (by omega)
        go_wp2_with fail
        refine (drop_any v2 X n wo (HS27.out.ext HJ.out) HXL.out hn (HM1.out.ext (bthen HW7.out HJ.out))).mono ?_
        rintro e w8 ⟨v8, rfl, hs8, hb8⟩
        rw [HD1.out] at hs8 ⊢
        have HS8 := Lib.hid hs8
        have HW8 := Lib.hid (bthen HW7.out (bthen HJ.out hb8))
        have hlen8 := hs8.run_len (P := Tryd.prog) Tryd.underlying37
        have HFi := Lib.hid (find_any v8 Y n w8 hs8)
        rw [HD2.out] at HFi
        obtain ⟨i3, hi3⟩ : ∃ t, Hid ((findF Y n).1 = t) := ⟨_, Lib.hid rfl⟩
        rw [hi3.out] at HFi
        have hXz : (X.length : Int) - 1 = (Y.length : Int) := by omega
        have hwz : IntKind.i64.wrap (Y.length : Int) = (Y.length : Int) := by rw [IntKind.wrap_i64]; omega
        clear hs8 hb8
        go_wp2_with fail
        refine HFi.out.mono ?_
        rintro e w9 ⟨rfl, hb9⟩
        have HW9 : Hid (Below w1.heap.size w1 (w9.alloc (.cells (eId i3).toArray 39))) := Lib.hid ((bthen HW8.out hb9).alloc (bthen HW8.out hb9).size _)
        clear hb9 HFi
        go_wp2_with (refine new39 rfl rfl rfl _ _ rfl rfl i3 rfl rfl ?_)
        refine (works12_any _ (HM1.out.ext HW9.out)).mono ?_
        rintro e w10 ⟨rfl, hb10⟩
        have HW10 := Lib.hid (bthen HB.out (bthen HW9.out hb10))
        clear hb10
        go_wp2_with fail
        go_ret
        exact ⟨rfl, HW10.out⟩
  · have hne : (c == 0) = false := by rw [beq_eq_false_iff_ne]; exact hc0
    obtain rfl := HSN.out hc0
    go_wp2_with fail
    refine (works12_any w2 (HM1.out.ext HW2.out)).mono ?_
    rintro e w3 ⟨rfl, hb3⟩
    have HB3 := Lib.hid (bthen HB2.out hb3)
    clear hb3
    go_wp2_with fail
    go_ret
    exact ⟨rfl, HB3.out⟩
end Go.Proofs.YtopamnfelngkcaaDoor.Rf
