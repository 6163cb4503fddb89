/-
  Layer 12: the document's without, Set and Drop. No condition besides what the arguments are.
-/
import Derived.Test.YtopamnfelngkcaaDoorR25
namespace Go.Refs
open Go.Sl Go.Route Go.Proofs.YtopamnfelngkcaaDoor.Rf
theorem find_none {l : List Rf} {n : List UInt8} (h : ∀ r ∈ l, r.nm ≠ n) : findF l n = (zId, false) := by
  induction l with
  | nil => rfl
  | cons r l ih => rw [findF, if_neg (h r (by simp))]; exact ih (fun x hx => h x (by simp [hx]))
theorem find_at {a b : List Rf} {n : List UInt8} {r : Rf} (h : ∀ x ∈ a, x.nm ≠ n) (hr : r.nm = n) : findF (a ++ r :: b) n = (r.id, true) := by
  induction a with
  | nil => rw [List.nil_append, findF, if_pos hr]
  | cons x a ih => rw [List.cons_append, findF, if_neg (h x (by simp))]; exact ih (fun y hy => h y (by simp [hy]))
theorem find_hit {l : List Rf} (hs : (nms l).Pairwise (· < ·)) (n : List UInt8) : (findF l n).2 = hit l n := by
  cases h : hit l n with
  | true =>
    obtain ⟨hp, he⟩ := hit_at h
    have := find_at (a := l.take (pos l n)) (b := l.drop (pos l n + 1)) (n := n) (fun x hx => lt_ne (take_pos x hx)) he
    rw [← List.drop_eq_getElem_cons hp, List.take_append_drop] at this
    rw [this]
  | false =>
    rw [find_none]
    intro r hr
    rw [← List.take_append_drop (pos l n) l] at hr
    rcases List.mem_append.1 hr with hr | hr
    · exact lt_ne (take_pos r hr)
    · exact fun e => lt_ne (drop_pos' hs h r hr) e.symm
theorem wo_take (l : List Rf) (n : List UInt8) {k : Nat} (h : k < l.length) : woF (l.take (k + 1)) n = woF (l.take k) n ++ (if l[k].nm = n then [] else [l[k]]) := by
  unfold woF
  rw [List.take_succ_eq_append_getElem h, List.filter_append]
  by_cases c : l[k].nm = n
  · rw [if_pos c]; simp [c]
  · rw [if_neg c]; simp [c]
end Go.Refs
namespace Go.Proofs.YtopamnfelngkcaaDoor.Rf
open Go.Proofs Go.RowKit Go.Shelf Go.Sl Go.Route Go.Refs
set_option linter.unusedVariables false

set_option maxRecDepth 100000 in
set_option maxHeartbeats 2000000 in
theorem without_any (v : Value) (l : List Go.Sl.Rf) (n : List UInt8) (w : World) (hv : Sl eRf 33 w v l) (hL : l.length ≤ 100000) :
    Calls Tryd.prog 91 #[v, .string (bstr n)] w fun e w' => ∃ ov, e = .returned ov ∧ Sl.Own eRf 33 w.heap.size 43 w' ov (woF l n) ∧ Below w.heap.size w w' := by
  have hlen := hv.run_len (P := Tryd.prog) Tryd.underlying37
  have HV := Lib.hid hv
  clear hv
  go_enter Tryd.func91, Tryd.ntmps91
  go_wp2_with fail
  go_loopw [5, 6] (fun s5 i wr => ∃ (k : Nat) (X : List Go.Sl.Rf), i = .int .i64 k ∧ k ≤ l.length ∧ Hid (woF (l.take k) n = X) ∧ Hid (Sl.Own eRf 33 w.heap.size 43 wr s5 X) ∧ Hid (Below w.heap.size w wr)) (fun _ i _ => l.length - (intOf i).toNat)
  case atStart => exact ⟨0, [], rfl, by omega, Lib.hid rfl, Lib.hid (Sl.Own.nil _ _ _ _ _), Lib.hid (Below.refl _ _)⟩
  case round =>
    obtain ⟨wo, rfl⟩ : ∃ u : World, u = wr := ⟨_, rfl⟩
    obtain ⟨k, X, rfl, hk, HX, HO, HW⟩ := hrel
    by_cases hlt : k < l.length
    · have d2 : decide ((k : Int) < (l.length : Int)) = true := decide_eq_true (by omega)
      obtain ⟨b5, o5, hb5, hix, hr⟩ := HV.out.rangeB len_eRf HW.out (P := Tryd.prog) Tryd.underlying37 cells43 some43 hlt
      obtain ⟨x, hx⟩ : ∃ x, Hid (l[k] = x) := ⟨_, Lib.hid rfl⟩
      rw [hx.out] at hr
      have HR := Lib.hid hr
      have e0 := range_nm hr
      have hXl : X.length ≤ k := by rw [← HX.out]; exact Nat.le_trans (wo_len _ _) (by rw [List.length_take]; omega)
      have HX2 : Hid (woF (l.take (k + 1)) n = X ++ (if x.nm = n then [] else [x])) := Lib.hid (by rw [wo_take l n hlt, HX.out, hx.out])
      clear hr HX
      by_cases hu : x.nm = n
      · have hd : (x.nm == n) = true := by simpa using hu
        have HX3 : Hid (woF (l.take (k + 1)) n = X) := Lib.hid (by rw [HX2.out, if_pos hu]; simp)
        clear hu
        go_wp2_with fail
        go_roundw
        case rel => exact ⟨k + 1, X, by go_num, by omega, HX3, HO, HW⟩
        case measure => simp [intOf]; omega
      · have hd : (x.nm == n) = false := by simpa using hu
        have HX3 : Hid (woF (l.take (k + 1)) n = X ++ [x]) := Lib.hid (by rw [HX2.out, if_neg hu])
        clear hu
        go_wp2_with (first
          | refine one43 rfl _ rfl x rfl ?_
          | refine ld43 rfl _ rfl _ _ rfl x HR.out ?_
          | (at_builtin; go_must (refine wpList_append1 rfl (en := eRf) (s := 33) (base := w.heap.size) (e := 43) _ _ 37 rfl (vRf zRf) 48 Tryd.underlying37 info43 (size_eRf _) (by decide) len_eRf one_eRf _ _ X x rfl (HO.out.alloc _) rfl (sl_new x) (by simp only [maxLen]; omega) (by omega) (by have := HW.out.size; simp at this ⊢; omega) ?_; intro ov' w6 hown hgr hbel hblk; have HO4 := Lib.hid hown; have HW4 := Lib.hid ((HW.out.alloc HW.out.size _).trans hbel); clear hown hgr hbel hblk)))
        go_roundw
        case rel => exact ⟨k + 1, X ++ [x], by go_num, by omega, HX3, HO4, HW4⟩
        case measure => simp [intOf]; omega
    · obtain rfl : k = l.length := by omega
      have d2 : decide ((l.length : Int) < (l.length : Int)) = false := decide_eq_false (by omega)
      go_wp2_with fail
      go_ret
      refine ⟨_, rfl, ?_, HW.out⟩
      have := HO.out
      rwa [← HX.out, List.take_length] at this
end Go.Proofs.YtopamnfelngkcaaDoor.Rf
