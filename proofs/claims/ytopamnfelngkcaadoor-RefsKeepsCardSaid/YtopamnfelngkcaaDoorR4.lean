/-
  Layer 12: the functions of layer 5 at texts of any length; lists of refs compared, and those under a directory. No condition besides what the arguments are.
-/
import Derived.Test.YtopamnfelngkcaaDoorR1
import Derived.Test.YtopamnfelngkcaaDoorRP1
namespace Go.Proofs.YtopamnfelngkcaaDoor.Rf
open Go.Proofs Go.RowKit Go.Shelf Go.Sl Go.Route Go.Refs
set_option linter.unusedVariables false

theorem right_all (l : List UInt8) (w : World) (hl : l.length ≤ 9223372036854775807) (hm : Ml w) :
    Calls Tryd.prog 22 #[.string (bstr l)] w fun e w' => e = .returned (.bool (rgt l)) ∧ Below w.heap.size w w' := by
  by_cases h1 : 120 < l.length
  · have q0 : (l.length == 0) = false := by rw [beq_eq_false_iff_ne]; omega
    have q0' : ((l.length : Int) == 0) = false := by rw [beq_eq_false_iff_ne]; omega
    have q0'' : ¬ l = [] := fun e => by rw [e] at h1; simp at h1
    have d1 : decide ((120 : Int) < l.length) = true := decide_eq_true (by omega)
    have HZ : Hid (false = rgt l) := Lib.hid (by unfold rgt; rw [decide_eq_false (show ¬ l.length ≤ 120 by omega)]; simp)
    go_enter Tryd.func22, Tryd.ntmps22
    go_wp2_with fail
    go_ret
    exact ⟨ret_bool HZ.out, Below.refl _ _⟩
  · exact right_any l w (by omega) hm
theorem rright_all (l : List UInt8) (w : World) (hl : l.length ≤ 9223372036854775807) :
    Calls Tryd.prog 23 #[.string (bstr l)] w fun e w' => e = .returned (.bool (rgt l)) ∧ Below w.heap.size w w' := by
  by_cases h1 : 120 < l.length
  · have d1 : decide ((120 : Int) < l.length) = true := decide_eq_true (by omega)
    have HZ : Hid (false = rgt l) := Lib.hid (by unfold rgt; rw [decide_eq_false (show ¬ l.length ≤ 120 by omega)]; simp)
    go_enter Tryd.func23, Tryd.ntmps23
    go_wp2_with fail
    go_ret
    exact ⟨ret_bool HZ.out, Below.refl _ _⟩
  · exact rright_any l w (by omega)

set_option maxRecDepth 100000 in
set_option maxHeartbeats 1000000 in
theorem under_all (s d : List UInt8) (w : World) (hs : s.length ≤ 9223372036854775807) (hd : d.length ≤ 9223372036854775807) :
    Calls Tryd.prog 38 #[.string (bstr s), .string (bstr d)] w fun e w' => e = .returned (.bool (und s d)) ∧ w = w' := by
  by_cases h0 : d = []
  · subst h0
    have HZ := Lib.hid (und_nil s)
    go_enter Tryd.func38, Tryd.ntmps38
    go_wp2_with fail
    go_ret
    exact ⟨ret_bool HZ.out.symm, rfl⟩
  have q0 : (d == []) = false := by simpa using h0
  have q0' : d.isEmpty = false := by simpa using h0
  by_cases h1 : s = d
  · subst h1
    have HZ := Lib.hid (und_self s)
    have q1 : (s == s) = true := by simp
    clear h0
    go_enter Tryd.func38, Tryd.ntmps38
    go_wp2_with fail
    go_ret
    exact ⟨ret_bool HZ.out.symm, rfl⟩
  have q1 : (s == d) = false := by simpa using h1
  have HU := Lib.hid (und_of h0 h1)
  clear h0 h1
  by_cases h2 : d.length < s.length
  · have d2 : decide (d.length < s.length) = true := decide_eq_true h2
    rw [d2] at HU
    by_cases h3 : s.take d.length = d
    · have q3 : (s.take d.length == d) = true := by simpa using h3
      rw [decide_eq_true h3] at HU
      by_cases h4 : s[d.length] = 47
      · have c1 : ((s[d.length].toNat : Int) == 47) = true := by rw [h4]; rfl
        have c2 : (s[d.length].toNat : Int) = 47 := by rw [h4]; rfl
        have HZ : Hid (true = und s d) := Lib.hid (by rw [HU.out, List.getElem?_eq_getElem h2, h4]; rfl)
        clear h3 h4
        go_enter Tryd.func38, Tryd.ntmps38
        go_wp2_with fail
        go_ret
        exact ⟨ret_bool HZ.out, rfl⟩
      · have hne : ¬ (s[d.length].toNat : Int) = 47 := fun e => h4 (UInt8.toNat_inj.1 (by show s[d.length].toNat = 47; omega))
        have c1 : ((s[d.length].toNat : Int) == 47) = false := by rw [beq_eq_false_iff_ne]; exact hne
        have HZ : Hid (false = und s d) := Lib.hid (by
          rw [HU.out, List.getElem?_eq_getElem h2, decide_eq_false (show ¬ some s[d.length] = some 47 from fun e => h4 (Option.some.inj e))]; rfl)
        clear h3 h4
        go_enter Tryd.func38, Tryd.ntmps38
        go_wp2_with fail
        go_ret
        exact ⟨ret_bool HZ.out, rfl⟩
    · have q3 : (s.take d.length == d) = false := by simpa using h3
      have HZ : Hid (false = und s d) := Lib.hid (by rw [HU.out, decide_eq_false h3]; rfl)
      clear h3
      go_enter Tryd.func38, Tryd.ntmps38
      go_wp2_with fail
      go_ret
      exact ⟨ret_bool HZ.out, rfl⟩
  · have d2 : decide (d.length < s.length) = false := decide_eq_false h2
    have HZ : Hid (false = und s d) := Lib.hid (by rw [HU.out, d2]; rfl)
    go_enter Tryd.func38, Tryd.ntmps38
    go_wp2_with fail
    go_ret
    exact ⟨ret_bool HZ.out, rfl⟩

set_option maxRecDepth 100000 in
set_option maxHeartbeats 1000000 in
theorem runder_all (s d : List UInt8) (w : World) (hs : s.length ≤ 9223372036854775807) (hd : d.length ≤ 9223372036854775807) :
    Calls Tryd.prog 39 #[.string (bstr s), .string (bstr d)] w fun e w' => e = .returned (.bool (und s d)) ∧ w = w' := by
  by_cases h0 : d = []
  · subst h0
    have HZ := Lib.hid (und_nil s)
    go_enter Tryd.func39, Tryd.ntmps39
    go_wp2_with fail
    go_ret
    exact ⟨ret_bool HZ.out.symm, rfl⟩
  have q0 : (d == []) = false := by simpa using h0
  have q0' : d.isEmpty = false := by simpa using h0
  by_cases h1 : s = d
  · subst h1
    have HZ := Lib.hid (und_self s)
    have q1 : (s == s) = true := by simp
    clear h0
    go_enter Tryd.func39, Tryd.ntmps39
    go_wp2_with fail
    go_ret
    exact ⟨ret_bool HZ.out.symm, rfl⟩
  have q1 : (s == d) = false := by simpa using h1
  have HU := Lib.hid (und_of h0 h1)
  clear h0 h1
  by_cases h2 : d.length < s.length
  · have d2 : decide (d.length < s.length) = true := decide_eq_true h2
    rw [d2] at HU
    have hiff : (s.take (d.length + 1) = d ++ [47]) ↔ (s.take d.length = d ∧ s[d.length]? = some 47) := by
      rw [List.take_succ_eq_append_getElem h2, List.getElem?_eq_getElem h2]
      constructor
      · intro e
        obtain ⟨e1, e2⟩ := List.append_inj e (by rw [List.length_take]; omega)
        exact ⟨e1, by simpa using e2⟩
      · rintro ⟨e1, e2⟩
        rw [e1, Option.some.inj e2]
    have HZ : Hid ((s.take (d.length + 1) == d ++ [47]) = und s d) := Lib.hid (by
      rw [HU.out, Bool.eq_iff_iff, beq_iff_eq, hiff, Bool.true_and, Bool.and_eq_true, decide_eq_true_iff, decide_eq_true_iff])
    have c1 : (⟨#[47]⟩ : ByteArray) = bstr [47] := rfl
    clear hiff
    go_enter Tryd.func39, Tryd.ntmps39
    go_wp2_with fail
    go_ret
    exact ⟨ret_bool HZ.out, rfl⟩
  · have d2 : decide (d.length < s.length) = false := decide_eq_false h2
    have HZ : Hid (false = und s d) := Lib.hid (by rw [HU.out, d2]; rfl)
    go_enter Tryd.func39, Tryd.ntmps39
    go_wp2_with fail
    go_ret
    exact ⟨ret_bool HZ.out, rfl⟩


/-- the refs under a directory -/
def undF (l : List Go.Sl.Rf) (d : List UInt8) : List Go.Sl.Rf := l.filter (fun r => und r.nm d)
theorem undF_take (l : List Go.Sl.Rf) (d : List UInt8) {k : Nat} (h : k < l.length) : undF (l.take (k + 1)) d = undF (l.take k) d ++ (if und l[k].nm d then [l[k]] else []) := by
  rw [List.take_succ_eq_append_getElem h, undF, undF, List.filter_append]
  by_cases c : und l[k].nm d = true <;> simp [c]
theorem undF_len (l : List Go.Sl.Rf) (d : List UInt8) (k : Nat) : (undF (l.take k) d).length ≤ k := by
  have := List.length_filter_le (fun r : Go.Sl.Rf => und r.nm d) (l.take k)
  rw [List.length_take] at this
  unfold undF; omega

section
variable {ops : Array Oper} {rest : List Oper} {o : Oper} {a : Act} {w : World} {Q : Exit → Act → World → Prop}
theorem one43 (hg : o.guard = none) (x : Operand) (ho : o.op = .buildSlice 37 1 #[(0, x)]) (r : Go.Sl.Rf) (hx : a.eval x = vRf r)
    (h : wpList Tryd.prog ops Q rest (a.put o.dst (.slice (some ⟨w.heap.size, 0, none⟩) 1 1)) (w.alloc (.cells (eRf r).toArray 43))) : wpList Tryd.prog ops Q (o :: rest) a w :=
  wpList_buildSlice1 hg 37 43 x ho _ hx Tryd.underlying37 (vRf zRf) (by rw [zero43, size_eRf]) (by rw [size_eRf]; omega) (by rw [size_eRf]; omega) h
theorem sl_new (r : Go.Sl.Rf) : Sl eRf 33 (w.alloc (.cells (eRf r).toArray 43)) (.slice (some ⟨w.heap.size, 0, none⟩) 1 1) [r] := Sl.fresh len_eRf rfl (by simp) rfl (by simp [maxLen])
end

set_option maxRecDepth 100000 in
set_option maxHeartbeats 1000000 in
theorem unders_any (v : Value) (l : List Go.Sl.Rf) (d : List UInt8) (w : World) (hv : Sl eRf 33 w v l) (hL : l.length ≤ 100000) (hl : ∀ r ∈ l, r.nm.length ≤ 9223372036854775807) (hd : d.length ≤ 9223372036854775807) :
    Calls Tryd.prog 52 #[v, .string (bstr d)] w fun e w' => ∃ ov, e = .returned ov ∧ Sl.Own eRf 33 w.heap.size 43 w' ov (undF l d) ∧ Below w.heap.size w w' := by
  have hlen := hv.run_len (P := Tryd.prog) Tryd.underlying37
  have HV := Lib.hid hv
  have HL := Lib.hid hl
  clear hv hl
  go_enter Tryd.func52, Tryd.ntmps52
  go_wp2_with fail
  go_loopw [5, 10] (fun s5 i wr => ∃ (k : Nat) (X : List Go.Sl.Rf), i = .int .i64 k ∧ k ≤ l.length ∧ Hid (undF (l.take k) d = X) ∧ Hid (Sl.Own eRf 33 w.heap.size 43 wr s5 X) ∧ Hid (Below w.heap.size w wr)) (fun _ i _ => l.length - (intOf i).toNat)
  case atStart => exact ⟨0, [], rfl, by omega, Lib.hid rfl, Lib.hid (Sl.Own.nil _ _ _ _ _), Lib.hid (Below.refl _ _)⟩
  case round =>
    obtain ⟨wo, rfl⟩ : ∃ u : World, u = wr := ⟨_, rfl⟩
    obtain ⟨k, X, rfl, hk, HX, HO, HW⟩ := hrel
    by_cases hlt : k < l.length
    · have d2 : decide ((k : Int) < (l.length : Int)) = true := decide_eq_true (by omega)
      obtain ⟨b5, o5, hb5, hix, hr⟩ := HV.out.rangeB len_eRf HW.out (P := Tryd.prog) Tryd.underlying37 cells43 some43 hlt
      obtain ⟨x, hx⟩ : ∃ x, Hid (l[k] = x) := ⟨_, Lib.hid rfl⟩
      rw [hx.out] at hr
      have HR := Lib.hid hr
      have hxl : x.nm.length ≤ 9223372036854775807 := HL.out x (by rw [← hx.out]; exact List.getElem_mem hlt)
      have hXl : X.length ≤ k := by rw [← HX.out]; exact undF_len l d k
      have HX2 : Hid (undF (l.take (k + 1)) d = X ++ (if und x.nm d then [x] else [])) := Lib.hid (by rw [undF_take l d hlt, HX.out, hx.out])
      have HN : Hid ((wo.alloc (.cells (eRf x).toArray 43)).heap[wo.heap.size]? = some (.cells (eRf x).toArray 43 (0, 0))) := Lib.hid (heap_alloc_new _ _)
      have e0 : (wo.alloc (.cells (eRf x).toArray 43)).cell? ⟨wo.heap.size, 0, none⟩ = some (.string (bstr x.nm)) := range_nm (r := x) (range_of_heap HN.out)
      have HR2 : Hid ((wo.alloc (.cells (eRf x).toArray 43)).rangeAt wo.heap.size 0 (eRf x)) := Lib.hid (range_of_heap (cs := (eRf x).toArray) HN.out)
      have HWa : Hid (Below w.heap.size w (wo.alloc (.cells (eRf x).toArray 43))) := Lib.hid (HW.out.alloc HW.out.size _)
      have HOa : Hid (Sl.Own eRf 33 w.heap.size 43 (wo.alloc (.cells (eRf x).toArray 43)) u5 X) := Lib.hid (HO.out.alloc _)
      clear hr HX
      cases hu : und x.nm d with
      | false =>
        have HX3 : Hid (undF (l.take (k + 1)) d = X) := Lib.hid (by rw [HX2.out, hu]; simp)
        have HC := Lib.hid (under_all x.nm d (wo.alloc (.cells (eRf x).toArray 43)) hxl hd)
        rw [hu] at HC
        clear hu
        go_wp2_with (first
          | refine ld43 rfl _ rfl _ _ rfl x HR.out ?_
          | refine new43 rfl rfl rfl _ _ rfl rfl x rfl rfl ?_
          | (go_at_call 38; go_must (refine HC.out.mono ?_; rintro e w2 ⟨rfl, rfl⟩)))
        go_roundw
        case rel => exact ⟨k + 1, X, by go_num, by omega, HX3, HOa, HWa⟩
        case measure => simp [intOf]; omega
      | true =>
        have HX3 : Hid (undF (l.take (k + 1)) d = X ++ [x]) := Lib.hid (by rw [HX2.out, hu]; simp)
        have HC := Lib.hid (under_all x.nm d (wo.alloc (.cells (eRf x).toArray 43)) hxl hd)
        rw [hu] at HC
        clear hu
        go_wp2_with (first
          | refine new43 rfl rfl rfl _ _ rfl rfl x rfl rfl ?_
          | (go_at_call 38; go_must (refine HC.out.mono ?_; rintro e w2 ⟨rfl, rfl⟩))
          | refine one43 rfl _ rfl x rfl ?_
          | refine ld43 rfl _ rfl _ _ rfl x HR.out ?_
          | refine ld43 rfl _ rfl _ _ rfl x HR2.out ?_
          | (at_builtin; go_must (refine wpList_append1 rfl (en := eRf) (s := 33) (base := w.heap.size) (e := 43) _ _ 37 rfl (vRf zRf) 48 Tryd.underlying37 info43 (size_eRf _) (by decide) len_eRf one_eRf _ _ X x rfl (HOa.out.alloc _) rfl (sl_new x) (by simp only [maxLen]; omega) (by omega) (by have := HWa.out.size; simp at this ⊢; omega) ?_; intro ov' w6 hown hgr hbel hblk; have HO4 := Lib.hid hown; have HW4 := Lib.hid ((HWa.out.alloc HWa.out.size _).trans hbel); clear hown hgr hbel hblk)))
        go_roundw
        case rel => exact ⟨k + 1, X ++ [x], by go_num, by omega, HX3, HO4, HW4⟩
        case measure => simp [intOf]; omega
    · obtain rfl : k = l.length := by omega
      have d2 : decide ((l.length : Int) < (l.length : Int)) = false := decide_eq_false (by omega)
      go_wp2_with fail
      go_ret
      refine ⟨_, rfl, ?_, HW.out⟩
      have := HO.out
      rwa [← HX.out, List.take_length] at this

set_option maxRecDepth 100000 in
set_option maxHeartbeats 1000000 in
theorem runders_any (v : Value) (l : List Go.Sl.Rf) (d : List UInt8) (w : World) (hv : Sl eRf 33 w v l) (hL : l.length ≤ 100000) (hl : ∀ r ∈ l, r.nm.length ≤ 9223372036854775807) (hd : d.length ≤ 9223372036854775807) :
    Calls Tryd.prog 53 #[v, .string (bstr d)] w fun e w' => ∃ ov, e = .returned ov ∧ Sl.Own eRf 33 w.heap.size 43 w' ov (undF l d) ∧ Below w.heap.size w w' := by
  have hlen := hv.run_len (P := Tryd.prog) Tryd.underlying37
  have HV := Lib.hid hv
  have HL := Lib.hid hl
  clear hv hl
  go_enter Tryd.func53, Tryd.ntmps53
  go_wp2_with fail
  go_loopw [5, 6] (fun s5 i wr => ∃ (k : Nat) (X : List Go.Sl.Rf), i = .int .i64 k ∧ k ≤ l.length ∧ Hid (undF (l.take k) d = X) ∧ Hid (Sl.Own eRf 33 w.heap.size 43 wr s5 X) ∧ Hid (Below w.heap.size w wr)) (fun _ i _ => l.length - (intOf i).toNat)
  case atStart => exact ⟨0, [], rfl, by omega, Lib.hid rfl, Lib.hid (Sl.Own.nil _ _ _ _ _), Lib.hid (Below.refl _ _)⟩
  case round =>
    obtain ⟨wo, rfl⟩ : ∃ u : World, u = wr := ⟨_, rfl⟩
    obtain ⟨k, X, rfl, hk, HX, HO, HW⟩ := hrel
    by_cases hlt : k < l.length
    · have d2 : decide ((k : Int) < (l.length : Int)) = true := decide_eq_true (by omega)
      obtain ⟨b5, o5, hb5, hix, hr⟩ := HV.out.rangeB len_eRf HW.out (P := Tryd.prog) Tryd.underlying37 cells43 some43 hlt
      obtain ⟨x, hx⟩ : ∃ x, Hid (l[k] = x) := ⟨_, Lib.hid rfl⟩
      rw [hx.out] at hr
      have HR := Lib.hid hr
      have e0 := range_nm hr
      have hxl : x.nm.length ≤ 9223372036854775807 := HL.out x (by rw [← hx.out]; exact List.getElem_mem hlt)
      have hXl : X.length ≤ k := by rw [← HX.out]; exact undF_len l d k
      have HX2 : Hid (undF (l.take (k + 1)) d = X ++ (if und x.nm d then [x] else [])) := Lib.hid (by rw [undF_take l d hlt, HX.out, hx.out])
      clear hr HX
      cases hu : und x.nm d with
      | false =>
        have HX3 : Hid (undF (l.take (k + 1)) d = X) := Lib.hid (by rw [HX2.out, hu]; simp)
        have HC := Lib.hid (runder_all x.nm d wo hxl hd)
        rw [hu] at HC
        clear hu
        go_wp2_with (go_at_call 39; go_must (refine HC.out.mono ?_; rintro e w2 ⟨rfl, rfl⟩))
        go_roundw
        case rel => exact ⟨k + 1, X, by go_num, by omega, HX3, HO, HW⟩
        case measure => simp [intOf]; omega
      | true =>
        have HX3 : Hid (undF (l.take (k + 1)) d = X ++ [x]) := Lib.hid (by rw [HX2.out, hu]; simp)
        have HC := Lib.hid (runder_all x.nm d wo hxl hd)
        rw [hu] at HC
        clear hu
        go_wp2_with (first
          | (go_at_call 39; go_must (refine HC.out.mono ?_; rintro e w2 ⟨rfl, rfl⟩))
          | refine one43 rfl _ rfl x rfl ?_
          | refine ld43 rfl _ rfl _ _ rfl x HR.out ?_
          | (at_builtin; go_must (refine wpList_append1 rfl (en := eRf) (s := 33) (base := w.heap.size) (e := 43) _ _ 37 rfl (vRf zRf) 48 Tryd.underlying37 info43 (size_eRf _) (by decide) len_eRf one_eRf _ _ X x rfl (HO.out.alloc _) rfl (sl_new x) (by simp only [maxLen]; omega) (by omega) (by have := HW.out.size; simp at this ⊢; omega) ?_; intro ov' w6 hown hgr hbel hblk; have HO4 := Lib.hid hown; have HW4 := Lib.hid ((HW.out.alloc HW.out.size _).trans hbel); clear hown hgr hbel hblk)))
        go_roundw
        case rel => exact ⟨k + 1, X ++ [x], by go_num, by omega, HX3, HO4, HW4⟩
        case measure => simp [intOf]; omega
    · obtain rfl : k = l.length := by omega
      have d2 : decide ((l.length : Int) < (l.length : Int)) = false := decide_eq_false (by omega)
      go_wp2_with fail
      go_ret
      refine ⟨_, rfl, ?_, HW.out⟩
      have := HO.out
      rwa [← HX.out, List.take_length] at this
end Go.Proofs.YtopamnfelngkcaaDoor.Rf
