/-
  Layer 12: RefsFinds. No condition besides what the arguments are.
-/
import Derived.Test.YtopamnfelngkcaaDoorR9
namespace Go.Proofs.YtopamnfelngkcaaDoor.Rf
open Go.Proofs Go.RowKit Go.Shelf Go.Sl Go.Route Go.Refs
set_option linter.unusedVariables false

section
variable {ops : Array Oper} {rest : List Oper} {o : Oper} {a : Act} {w : World} {Q : Exit → Act → World → Prop}
/-- an operation whose run is known, under a guard or none -/
theorem wpList_exec {v : Value} (hr : (execOp a.eval o).run Tryd.prog w = .ok (.value v) w) (hw : Region.wanted o (yielded ops a.tmps) = true)
    (h : wpList Tryd.prog ops Q rest (a.put o.dst v) w) : wpList Tryd.prog ops Q (o :: rest) a w :=
  wpList_step fun K hK => by
    rw [if_pos hw]
    unfold Oper.wp
    rw [hr]
    exact hK _ _ h
theorem exec_ld39 (x : Operand) (ho : o.op = .load 39 x) (b f : Nat) (hx : a.eval x = .pointer (some ⟨b, f, none⟩)) (i : Idb) (hc : w.rangeAt b f (eId i)) : (execOp a.eval o).run Tryd.prog w = .ok (.value (vId i)) w := by
  have h := run_loadVar_mid (P := Tryd.prog) w b f 39 (eId i) _ hc Tryd.underlying39 rfl (by rw [size39, len_eId])
  unfold execOp
  simp only [ho, hx, Instr.loadAt, Instr.sureAddr, Sem.run_bind, Sem.run_pure, Result.andThen_ok, h]
theorem exec_ld43 (x : Operand) (ho : o.op = .load 43 x) (b f : Nat) (hx : a.eval x = .pointer (some ⟨b, f, none⟩)) (r : Go.Sl.Rf) (hc : w.rangeAt b f (eRf r)) : (execOp a.eval o).run Tryd.prog w = .ok (.value (vRf r)) w := by
  have h := run_loadVar_mid (P := Tryd.prog) w b f 43 (eRf r) _ hc Tryd.underlying43 rfl (by rw [size43, len_eRf])
  unfold execOp
  simp only [ho, hx, Instr.loadAt, Instr.sureAddr, Sem.run_bind, Sem.run_pure, Result.andThen_ok, h]
theorem exec_eql39 (x y : Operand) (t : TypeId) (ho : o.op = .binOp .eql 39 x y t) (i : Idb) (hx : a.eval x = vId i) (hy : a.eval y = vId i) : (execOp a.eval o).run Tryd.prog w = .ok (.value (.bool true)) w := by
  have h1 := run_eqGuard_agg (P := Tryd.prog) w .eql 39 x y (eId i).toArray (eId i).toArray (by kernel_rfl)
  have h2 := run_eql_id (P := Tryd.prog) w Tryd.underlying39 Tryd.underlying5 Tryd.sizeOf5 i i
  unfold execOp
  simp only [ho, hx, hy, Sem.run_bind, h1, h2, Result.andThen_ok, Sem.run_pure]
  simp
theorem exec_eql43 (x y : Operand) (t : TypeId) (ho : o.op = .binOp .eql 43 x y t) (r : Go.Sl.Rf) (hx : a.eval x = vRf r) (hy : a.eval y = vRf r) : (execOp a.eval o).run Tryd.prog w = .ok (.value (.bool true)) w := by
  have h1 := run_eqGuard_agg (P := Tryd.prog) w .eql 43 x y (eRf r).toArray (eRf r).toArray (by kernel_rfl)
  have h2 := run_eql_struct (P := Tryd.prog) w 43 (eRf r).toArray (eRf r).toArray
  have h3 := eqIn43 w r r
  simp only [vRf] at h3
  rw [h3] at h2
  unfold execOp
  simp only [ho, hx, hy, Sem.run_bind, h1, h2, Result.andThen_ok, Sem.run_pure]
  simp
theorem exec_bd39 {x : Operand} (ho : o.op = .build 39 #[(0, x)]) {n : Int} {i : Idb} (hx : a.eval x = .int .u8 n) (hr : (Instr.build 39 #[(0, .int .u8 n)]).run Tryd.prog w = .ok (vId i) w) : (execOp a.eval o).run Tryd.prog w = .ok (.value (vId i)) w := by
  unfold execOp
  simp only [ho, Sem.run_bind, List.map_toArray, List.map_cons, List.map_nil, hx, hr, Result.andThen_ok, Sem.run_pure]
end

def id1 : Idb := ⟨1 :: List.replicate 31 0, by simp⟩
def id2 : Idb := ⟨2 :: List.replicate 31 0, by simp⟩
theorem build39_1 (w : World) : (Instr.build 39 #[(0, .int .u8 1)]).run Tryd.prog w = .ok (vId id1) w := by kernel_rfl
theorem build39_2 (w : World) : (Instr.build 39 #[(0, .int .u8 2)]).run Tryd.prog w = .ok (vId id2) w := by kernel_rfl
def sMain : List UInt8 := [109, 97, 105, 110]
def refsW : List Go.Sl.Rf := [⟨heads ++ sMain, id1⟩, ⟨tags ++ sMain, id2⟩]
theorem chkW : chk refsW = 0 := by decide +kernel
theorem resW : resF refsW sMain = (⟨heads ++ sMain, id1⟩, 0) := by decide +kernel

/-- `[]T{x, y}` -/
theorem wpList_two43 {ops : Array Oper} {rest : List Oper} {o : Oper} {a : Act} {w : World} {Q : Exit → Act → World → Prop} (hg : o.guard = none) (x y : Operand) (ho : o.op = .buildSlice 37 2 #[(0, x), (1, y)]) (r q : Go.Sl.Rf) (hx : a.eval x = vRf r) (hy : a.eval y = vRf q)
    (h : wpList Tryd.prog ops Q rest (a.put o.dst (.slice (some ⟨w.heap.size, 0, none⟩) 2 2)) (w.alloc (.cells (eRf r ++ eRf q).toArray 43))) : wpList Tryd.prog ops Q (o :: rest) a w := by
  obtain ⟨hz1, hz2⟩ := zero_of_info zero43
  obtain ⟨Z, hZ⟩ : ∃ Z, (eRf zRf).toArray = Z := ⟨_, rfl⟩
  have hz3 : ∀ w, (zeroValue 43).run Tryd.prog w = .ok (.agg Z) w := fun w => by rw [hz1 w, ← hZ]
  have hZs : Z.size = 33 := by rw [← hZ]; exact size_eRf _
  have hsz : ∀ w, (sizeOf 43).run Tryd.prog w = .ok 33 w := fun w => by
    obtain ⟨i, hi1, hi2⟩ := Option.map_eq_some_iff.1 size43
    simp [sizeOf, typeInfo, hi1, hi2]
  have hf : Instr.fill (fun i => some (i * 33, 33)) ((Array.range (2 * 33)).map (Z[· % Z.size]!)) [(0, vRf r), (1, vRf q)] = some (eRf r ++ eRf q).toArray := by
    obtain ⟨D, hD⟩ : ∃ D, ((Array.range (2 * 33)).map (Z[· % Z.size]!)) = D := ⟨_, rfl⟩
    have hDs : D.size = 66 := by rw [← hD]; simp
    rw [hD]
    obtain ⟨c1, a1, a2, a3⟩ := fill_step (fun i => some (i * 33, 33)) D 0 (vRf r) [(1, vRf q)] 0 33 rfl (size_eRf r) (by omega)
    obtain ⟨c2, b1, b2, b3⟩ := fill_step (fun i => some (i * 33, 33)) c1 1 (vRf q) [] 33 33 rfl (size_eRf q) (by omega)
    rw [a3, b3, Instr.fill]
    refine congrArg some ?_
    apply Array.ext_getElem?
    intro k
    rw [b2 k, a2 k, a1, hDs]
    simp only [Value.cells, List.getElem?_toArray]
    have l1 := len_eRf r
    have l2 := len_eRf q
    by_cases c1 : k < 33
    · rw [if_neg (by omega), if_pos (by omega), List.getElem?_append_left (by omega)]; simp
    · by_cases c2 : k < 66
      · rw [if_pos (by omega), List.getElem?_append_right (by omega), l1]
      · rw [if_neg (by omega), if_neg (by omega), Array.getElem?_eq_none (by omega), List.getElem?_eq_none (by rw [List.length_append]; omega)]
  refine wpList_plain hg fun K hK => ?_
  unfold Oper.wp execOp
  have hf2 : Instr.fill (fun i => some (i * 33, 33)) ((Array.range (2 * 33)).map (Z[· % Z.size]!)) [(0, Value.agg (eRf r).toArray), (1, Value.agg (eRf q).toArray)] = some (eRf r ++ eRf q).toArray := hf
  have hn : ¬ (2 * 33 > 2 ^ 24) := by decide
  have hn0 : ¬ (2 * 33 = 0) := by decide
  simp only [ho, Instr.buildSlice, Sem.run_bind, run_underlying Tryd.underlying37, Result.andThen_ok, hsz, Sem.run_ite, hn, hn0, if_false, Sem.run_pure, hz3, newRow, run_newObj, List.map_toArray, List.map_cons, List.map_nil, hx, hy, Value.cells, hf2]
  exact hK _ _ h
theorem sl_two {w : World} (r q : Go.Sl.Rf) : Sl eRf 33 (w.alloc (.cells (eRf r ++ eRf q).toArray 43)) (.slice (some ⟨w.heap.size, 0, none⟩) 2 2) [r, q] := Sl.fresh len_eRf rfl (by simp) rfl (by simp [maxLen])

set_option maxRecDepth 100000 in
set_option maxHeartbeats 1000000 in
theorem works12_any (w : World) (hm : Ml w) : Calls Tryd.prog 46 #[] w fun e w' => e = .returned (.bool true) ∧ Below w.heap.size w w' := by
  have HMl := Lib.hid hm
  have c1 : (⟨#[104, 101, 97, 100, 115, 47, 109, 97, 105, 110]⟩ : ByteArray) = bstr (heads ++ sMain) := rfl
  have c2 : (⟨#[116, 97, 103, 115, 47, 109, 97, 105, 110]⟩ : ByteArray) = bstr (tags ++ sMain) := rfl
  have c3 : (⟨#[109, 97, 105, 110]⟩ : ByteArray) = bstr sMain := rfl
  clear hm
  go_enter Tryd.func46, Tryd.ntmps46
  go_wp2_with (first
    | refine wpList_exec (exec_bd39 rfl rfl (build39_1 _)) (by rfl) ?_
    | refine wpList_exec (exec_bd39 rfl rfl (build39_2 _)) (by rfl) ?_
    | refine bd43 rfl _ _ rfl (heads ++ sMain) id1 rfl rfl ?_
    | refine bd43 rfl _ _ rfl (tags ++ sMain) id2 rfl rfl ?_
    | refine wpList_two43 rfl _ _ rfl ⟨heads ++ sMain, id1⟩ ⟨tags ++ sMain, id2⟩ rfl rfl ?_)
  refine (resolve_any _ refsW sMain _ (sl_two _ _) (fun r hr => by simp [refsW] at hr; rcases hr with rfl | rfl <;> decide) (by decide) (HMl.out.ext ((Below.refl _ _).alloc (Nat.le_refl _) _))).mono ?_
  rintro e w2 ⟨rfl, hb⟩
  rw [resW]
  have HW2 : Hid (Below w.heap.size w w2) := Lib.hid (((Below.refl _ w).alloc (Nat.le_refl _) _).trans (hb.mono (by simp)))
  have HN : Hid ((w2.alloc (.cells (eRf ⟨heads ++ sMain, id1⟩).toArray 43)).heap[w2.heap.size]? = some (.cells (eRf ⟨heads ++ sMain, id1⟩).toArray 43 (0, 0))) := Lib.hid (heap_alloc_new _ _)
  have e0 : (w2.alloc (.cells (eRf ⟨heads ++ sMain, id1⟩).toArray 43)).cell? ⟨w2.heap.size, 0, none⟩ = some (.string (bstr (heads ++ sMain))) := range_nm (r := ⟨heads ++ sMain, id1⟩) (range_of_heap HN.out)
  have HI : Hid ((w2.alloc (.cells (eRf ⟨heads ++ sMain, id1⟩).toArray 43)).rangeAt w2.heap.size 1 (eId id1)) := Lib.hid (range_tail HN.out)
  clear hb c2 c3
  go_wp2_with (first
    | refine new43 rfl rfl rfl _ _ rfl rfl ⟨heads ++ sMain, id1⟩ rfl rfl ?_
    | refine wpList_exec (exec_ld39 _ rfl _ _ rfl id1 HI.out) (by rfl) ?_
    | refine wpList_exec (exec_bd39 rfl rfl (build39_1 _)) (by rfl) ?_
    | refine wpList_exec (exec_eql39 _ _ _ rfl id1 rfl rfl) (by rfl) ?_)
  go_ret
  exact ⟨rfl, HW2.out.alloc HW2.out.size _⟩

set_option maxRecDepth 100000 in
set_option maxHeartbeats 2000000 in
theorem refsFinds_any (v : Value) (l : List Go.Sl.Rf) (s d : List UInt8) (w : World) (hv : Sl eRf 33 w v l) (hl : ∀ r ∈ l, r.nm.length ≤ 9223372036854775807) (hs : s.length ≤ 9223372036854775000) (hd : d.length ≤ 9223372036854775807) (hm : Ml w) :
    Calls Tryd.prog 10 #[v, .string (bstr s), .string (bstr d)] w fun e w' => e = .returned (.bool true) ∧ Below w.heap.size w w' := by
  have hlen := hv.run_len (P := Tryd.prog) Tryd.underlying37
  have hmax := hv.len_le
  have HV := Lib.hid hv
  have HL := Lib.hid hl
  have HMl := Lib.hid hm
  clear hv hl hm
  by_cases h80 : 80 < l.length
  · have d1 : decide ((80 : Int) < l.length) = true := decide_eq_true (by omega)
    go_enter Tryd.func10, Tryd.ntmps10
    go_wp2_with fail
    refine (works12_any w HMl.out).mono ?_
    rintro e w2 ⟨rfl, hb⟩
    have HB := Lib.hid hb
    clear hb
    go_wp2_with fail
    go_ret
    exact ⟨rfl, HB.out⟩
  have d1 : decide ((80 : Int) < l.length) = false := decide_eq_false (by omega)
  obtain ⟨i, hi⟩ : ∃ i, Hid ((findF l s).1 = i) := ⟨_, Lib.hid rfl⟩
  obtain ⟨t, ht⟩ : ∃ t, Hid ((findF l s).2 = t) := ⟨_, Lib.hid rfl⟩
  obtain ⟨r, hr⟩ : ∃ r, Hid ((resF l s).1 = r) := ⟨_, Lib.hid rfl⟩
  obtain ⟨c, hc⟩ : ∃ c, Hid ((resF l s).2 = c) := ⟨_, Lib.hid rfl⟩
  go_enter Tryd.func10, Tryd.ntmps10
  go_wp2_with fail
  refine (find_any v l s w HV.out).mono ?_
  rintro e w1 ⟨rfl, hb⟩
  rw [hi.out, ht.out]
  obtain ⟨u1, hu1⟩ : ∃ u, Hid (u = w1.alloc (.cells (eId i).toArray 39)) := ⟨_, Lib.hid rfl⟩
  have HN1 : Hid (u1.rangeAt w1.heap.size 0 (eId i)) := Lib.hid (by rw [hu1.out]; exact range_of_heap (cs := (eId i).toArray) (heap_alloc_new _ _))
  have HW1 : Hid (Below w.heap.size w u1) := Lib.hid (by rw [hu1.out]; exact hb.alloc hb.size _)
  have hs1 : u1.heap.size = w1.heap.size + 1 := by rw [hu1.out]; simp
  clear hb
  go_wp2_with (first
    | (refine new39 rfl rfl rfl _ _ rfl rfl i rfl rfl ?_; rw [← hu1.out]))
  clear hu1
  refine (rfind_any v l s u1 (HV.out.ext HW1.out)).mono ?_
  rintro e w2 ⟨rfl, hb⟩
  rw [hi.out, ht.out]
  obtain ⟨u2, hu2⟩ : ∃ u, Hid (u = w2.alloc (.cells (eId i).toArray 39)) := ⟨_, Lib.hid rfl⟩
  have HB2 : Hid (Below u1.heap.size u1 u2) := Lib.hid (by rw [hu2.out]; exact hb.alloc hb.size _)
  have HN2 : Hid (u2.rangeAt w2.heap.size 0 (eId i)) := Lib.hid (by rw [hu2.out]; exact range_of_heap (cs := (eId i).toArray) (heap_alloc_new _ _))
  have HW2 := Lib.hid (bthen HW1.out HB2.out)
  have hs2 : u2.heap.size = w2.heap.size + 1 := by rw [hu2.out]; simp
  clear hb
  go_wp2_with (first
    | (refine new39 rfl rfl rfl _ _ rfl rfl i rfl rfl ?_; rw [← hu2.out]))
  clear hu2
  refine (resolve_any v l s u2 (HV.out.ext HW2.out) HL.out hs (HMl.out.ext HW2.out)).mono ?_
  rintro e w3 ⟨rfl, hb⟩
  rw [hr.out, hc.out]
  obtain ⟨u3, hu3⟩ : ∃ u, Hid (u = w3.alloc (.cells (eRf r).toArray 43)) := ⟨_, Lib.hid rfl⟩
  have HB3 : Hid (Below u2.heap.size u2 u3) := Lib.hid (by rw [hu3.out]; exact hb.alloc hb.size _)
  have HN3 : Hid (u3.rangeAt w3.heap.size 0 (eRf r)) := Lib.hid (by rw [hu3.out]; exact range_of_heap (cs := (eRf r).toArray) (heap_alloc_new _ _))
  have HW3 := Lib.hid (bthen HW2.out HB3.out)
  have hs3 : u3.heap.size = w3.heap.size + 1 := by rw [hu3.out]; simp
  clear hb
  go_wp2_with (first
    | (refine new43 rfl rfl rfl _ _ rfl rfl r rfl rfl ?_; rw [← hu3.out]))
  clear hu3
  refine (rresolve_any v l s u3 (HV.out.ext HW3.out) HL.out hs).mono ?_
  rintro e w4 ⟨rfl, hb⟩
  rw [hr.out, hc.out]
  obtain ⟨u4, hu4⟩ : ∃ u, Hid (u = w4.alloc (.cells (eRf r).toArray 43)) := ⟨_, Lib.hid rfl⟩
  have HB4 : Hid (Below u3.heap.size u3 u4) := Lib.hid (by rw [hu4.out]; exact hb.alloc hb.size _)
  have HN4 : Hid (u4.rangeAt w4.heap.size 0 (eRf r)) := Lib.hid (by rw [hu4.out]; exact range_of_heap (cs := (eRf r).toArray) (heap_alloc_new _ _))
  have HW4 := Lib.hid (bthen HW3.out HB4.out)
  clear hb
  have z2 := HB2.out.size
  have z3 := HB3.out.size
  have z4 := HB4.out.size
  have R1 : Hid (u4.rangeAt w1.heap.size 0 (eId i)) := Lib.hid (rangeAt_below (B := u3.heap.size) (rangeAt_below (B := u2.heap.size) (rangeAt_below (B := u1.heap.size) HN1.out HB2.out (by omega)) HB3.out (by omega)) HB4.out (by omega))
  have R2 : Hid (u4.rangeAt w2.heap.size 0 (eId i)) := Lib.hid (rangeAt_below (B := u3.heap.size) (rangeAt_below (B := u2.heap.size) HN2.out HB3.out (by omega)) HB4.out (by omega))
  have R3 : Hid (u4.rangeAt w3.heap.size 0 (eRf r)) := Lib.hid (rangeAt_below (B := u3.heap.size) HN3.out HB4.out (by omega))
  have HC5 := Lib.hid (unders_any v l d u4 (HV.out.ext HW4.out) (by omega) HL.out hd)
  clear z2 z3 z4 hs1 hs2 hs3
  go_wp2_with (first
    | (refine new43 rfl rfl rfl _ _ rfl rfl r rfl rfl ?_; rw [← hu4.out])
    | refine wpList_exec (exec_ld39 _ rfl _ _ rfl i R1.out) (by rfl) ?_
    | refine wpList_exec (exec_ld39 _ rfl _ _ rfl i R2.out) (by rfl) ?_
    | refine wpList_exec (exec_ld43 _ rfl _ _ rfl r R3.out) (by rfl) ?_
    | refine wpList_exec (exec_ld43 _ rfl _ _ rfl r HN4.out) (by rfl) ?_
    | refine wpList_exec (exec_eql39 _ _ _ rfl i rfl rfl) (by rfl) ?_
    | refine wpList_exec (exec_eql43 _ _ _ rfl r rfl rfl) (by rfl) ?_)
  refine HC5.out.mono ?_
  rintro e w5 ⟨o5, rfl, hown5, hb5⟩
  have HO5 := Lib.hid (hown5.sl len_eRf)
  have HW5 := Lib.hid (bthen HW4.out hb5)
  clear hown5 hb5
  go_wp2_with fail
  refine (runders_any v l d w5 (HV.out.ext HW5.out) (by omega) HL.out hd).mono ?_
  rintro e w6 ⟨o6, rfl, hown6, hb6⟩
  have HO6 := Lib.hid (hown6.sl len_eRf)
  have HO56 := Lib.hid (HO5.out.ext hb6)
  have HW6 := Lib.hid (bthen HW5.out hb6)
  clear hown6 hb6
  go_wp2_with fail
  refine (same_any o5 o6 _ _ w6 HO56.out HO6.out).mono ?_
  rintro e w7 ⟨rfl, hb7⟩
  have h77 : decide (undF l d = undF l d) = true := decide_eq_true rfl
  rw [h77]
  have HW7 := Lib.hid (bthen HW6.out hb7)
  clear hb7 h77
  go_wp2_with fail
  refine (works12_any w7 (HMl.out.ext HW7.out)).mono ?_
  rintro e w8 ⟨rfl, hb8⟩
  have HW8 := Lib.hid (bthen HW7.out hb8)
  clear hb8
  go_wp2_with fail
  go_ret
  exact ⟨rfl, HW8.out⟩
end Go.Proofs.YtopamnfelngkcaaDoor.Rf
