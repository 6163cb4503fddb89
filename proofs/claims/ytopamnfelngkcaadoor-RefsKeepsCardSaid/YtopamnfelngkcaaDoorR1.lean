/-
  Layer 12: a ref by its name. No condition besides what the arguments are.
-/
import Derived.WalkKit
import Derived.BigQuiet
import Derived.Test.YtopamnfelngkcaaDoorAr
import Derived.Test.YtopamnfelngkcaaDoorW5
namespace Go.Proofs.YtopamnfelngkcaaDoor.Rf
open Go.Proofs Go.RowKit Go.Shelf Go.Sl Go.Route
set_option linter.unusedVariables false

theorem bthen {w w1 w2 : World} (h : Below w.heap.size w w1) (h2 : Below w1.heap.size w1 w2) : Below w.heap.size w w2 := h.trans (h2.mono h.size)
theorem cells43 : Tryd.prog.cellsOf 43 = 33 := by kernel_rfl
theorem some43 : (Tryd.prog.info? 43).isSome = true := by kernel_rfl
theorem zero43 : (Tryd.prog.info? 43).map (fun i => (i.zero, i.size)) = some (some (vRf zRf), 33) := by kernel_rfl
theorem zero39 : (Tryd.prog.info? 39).map (fun i => (i.zero, i.size)) = some (some (vId zId), 32) := by kernel_rfl
theorem size43 : (Tryd.prog.info? 43).map (·.size) = some 33 := by kernel_rfl
theorem size39 : (Tryd.prog.info? 39).map (·.size) = some 32 := by kernel_rfl
theorem info43 : (Tryd.prog.info? 43).map (fun i => (i.zero, i.size, i.bytes)) = some (some (vRf zRf), 33, 48) := by kernel_rfl
theorem build39 (w : World) : (Instr.build 39 #[]).run Tryd.prog w = .ok (vId zId) w := by kernel_rfl
theorem build43 (w : World) : (Instr.build 43 #[]).run Tryd.prog w = .ok (vRf zRf) w := by kernel_rfl

section
variable {ops : Array Oper} {rest : List Oper} {o o' : Oper} {a : Act} {w : World} {Q : Exit → Act → World → Prop}
theorem ld43 (hg : o.guard = none) (x : Operand) (ho : o.op = .load 43 x) (b f : Nat) (hx : a.eval x = .pointer (some ⟨b, f, none⟩)) (r : Rf) (hc : w.rangeAt b f (eRf r))
    (h : wpList Tryd.prog ops Q rest (a.put o.dst (vRf r)) w) : wpList Tryd.prog ops Q (o :: rest) a w :=
  wpList_load_mid hg 43 x ho b f hx (eRf r) _ hc Tryd.underlying43 rfl (by rw [size43, len_eRf]) h
theorem ld39 (hg : o.guard = none) (x : Operand) (ho : o.op = .load 39 x) (b f : Nat) (hx : a.eval x = .pointer (some ⟨b, f, none⟩)) (i : Idb) (hc : w.rangeAt b f (eId i))
    (h : wpList Tryd.prog ops Q rest (a.put o.dst (vId i)) w) : wpList Tryd.prog ops Q (o :: rest) a w :=
  wpList_load_mid hg 39 x ho b f hx (eId i) _ hc Tryd.underlying39 rfl (by rw [size39, len_eId]) h
theorem new43 (hg : o.guard = none) (hg' : o'.guard = none) (hd : o'.dst = none) (x y : Operand) (ho : o.op = .alloc 43) (ho' : o'.op = .store 43 x y) (r : Rf)
    (hx : (a.put o.dst (.pointer (some ⟨w.heap.size, 0, none⟩))).eval x = .pointer (some ⟨w.heap.size, 0, none⟩))
    (hy : (a.put o.dst (.pointer (some ⟨w.heap.size, 0, none⟩))).eval y = vRf r)
    (h : wpList Tryd.prog ops Q rest (a.put o.dst (.pointer (some ⟨w.heap.size, 0, none⟩))) (w.alloc (.cells (eRf r).toArray 43))) : wpList Tryd.prog ops Q (o :: o' :: rest) a w :=
  wpList_allocStore hg hg' hd 43 x y ho ho' _ hx hy (vRf zRf) (by rw [zero43, size_eRf]) (by rw [size_eRf]; exact size_eRf _) (one_eRf r) h
theorem new39 (hg : o.guard = none) (hg' : o'.guard = none) (hd : o'.dst = none) (x y : Operand) (ho : o.op = .alloc 39) (ho' : o'.op = .store 39 x y) (i : Idb)
    (hx : (a.put o.dst (.pointer (some ⟨w.heap.size, 0, none⟩))).eval x = .pointer (some ⟨w.heap.size, 0, none⟩))
    (hy : (a.put o.dst (.pointer (some ⟨w.heap.size, 0, none⟩))).eval y = vId i)
    (h : wpList Tryd.prog ops Q rest (a.put o.dst (.pointer (some ⟨w.heap.size, 0, none⟩))) (w.alloc (.cells (eId i).toArray 39))) : wpList Tryd.prog ops Q (o :: o' :: rest) a w :=
  wpList_allocStore hg hg' hd 39 x y ho ho' _ hx hy (vId zId) (by rw [zero39, size_eId]) (by rw [size_eId]; exact size_eId _) (one_eId i) h
theorem al43 (hg : o.guard = none) (ho : o.op = .alloc 43)
    (h : wpList Tryd.prog ops Q rest (a.put o.dst (.pointer (some ⟨w.heap.size, 0, none⟩))) (w.alloc (.cells (eRf zRf).toArray 43))) : wpList Tryd.prog ops Q (o :: rest) a w :=
  wpList_allocZ hg 43 ho (vRf zRf) 33 zero43 _ rfl h
theorem al39 (hg : o.guard = none) (ho : o.op = .alloc 39)
    (h : wpList Tryd.prog ops Q rest (a.put o.dst (.pointer (some ⟨w.heap.size, 0, none⟩))) (w.alloc (.cells (eId zId).toArray 39))) : wpList Tryd.prog ops Q (o :: rest) a w :=
  wpList_allocZ hg 39 ho (vId zId) 32 zero39 _ rfl h
theorem st43 (hg : o.guard = none) (hd : o.dst = none) (x y : Operand) (ho : o.op = .store 43 x y) (g : Nat) (hx : a.eval x = .pointer (some ⟨g, 0, none⟩)) (r q : Rf) (hy : a.eval y = vRf r) (hb : w.heap[g]? = some (.cells (eRf q).toArray 43 (0, 0)))
    (h : wpList Tryd.prog ops Q rest a (w.setRow g (eRf r).toArray)) : wpList Tryd.prog ops Q (o :: rest) a w :=
  wpList_storeRow hg hd 43 x y ho g hx _ hy 43 _ hb (by rw [size_eRf, size_eRf]) (by rw [size43, size_eRf]) (one_eRf r) h
theorem st39 (hg : o.guard = none) (hd : o.dst = none) (x y : Operand) (ho : o.op = .store 39 x y) (g : Nat) (hx : a.eval x = .pointer (some ⟨g, 0, none⟩)) (i j : Idb) (hy : a.eval y = vId i) (hb : w.heap[g]? = some (.cells (eId j).toArray 39 (0, 0)))
    (h : wpList Tryd.prog ops Q rest a (w.setRow g (eId i).toArray)) : wpList Tryd.prog ops Q (o :: rest) a w :=
  wpList_storeRow hg hd 39 x y ho g hx _ hy 39 _ hb (by rw [size_eId, size_eId]) (by rw [size39, size_eId]) (one_eId i) h
end

/-- the id of the first ref with a name -/
def findF : List Rf → List UInt8 → Idb × Bool
  | [], _ => (zId, false)
  | r :: l, n => if r.nm = n then (r.id, true) else findF l n
theorem findF_drop (l : List Rf) (n : List UInt8) {k : Nat} (h : k < l.length) : findF (l.drop k) n = if l[k].nm = n then (l[k].id, true) else findF (l.drop (k + 1)) n := by
  rw [List.drop_eq_getElem_cons h, findF]

set_option maxRecDepth 100000 in
set_option maxHeartbeats 1000000 in
theorem find_any (v : Value) (l : List Rf) (n : List UInt8) (w : World) (hv : Sl eRf 33 w v l) :
    Calls Tryd.prog 47 #[v, .string (bstr n)] w fun e w' => e = .returned (.tuple #[vId (findF l n).1, .bool (findF l n).2]) ∧ Below w.heap.size w w' := by
  have hlen := hv.run_len (P := Tryd.prog) Tryd.underlying37
  have HV := Lib.hid hv
  have hll := hv.len_le
  clear hv
  go_enter Tryd.func47, Tryd.ntmps47
  go_wp2_with (first | refine al39 rfl rfl ?_)
  obtain ⟨w1, hw1⟩ : ∃ u, Hid (u = w.alloc (.cells (eId zId).toArray 39)) := ⟨_, Lib.hid rfl⟩
  have hs1 : w1.heap.size = w.heap.size + 1 := by rw [hw1.out]; simp
  have HG : Hid (w1.heap[w.heap.size]? = some (.cells (eId zId).toArray 39 (0, 0))) := Lib.hid (by rw [hw1.out]; exact heap_alloc_new _ _)
  have HB1 : Hid (Below w.heap.size w w1) := Lib.hid (by rw [hw1.out]; exact (Below.refl _ _).alloc (Nat.le_refl _) _)
  rw [← hw1.out]
  clear hw1
  go_loopw [10] (fun i wr => ∃ k : Nat, i = .int .i64 k ∧ k ≤ l.length ∧ Hid (findF l n = findF (l.drop k) n) ∧ Hid (Below w1.heap.size w1 wr)) (fun i _ => l.length - (intOf i).toNat)
  case atStart => exact ⟨0, rfl, by omega, Lib.hid rfl, Lib.hid (Below.refl _ _)⟩
  case round =>
    obtain ⟨wo, rfl⟩ : ∃ u : World, u = wr := ⟨_, rfl⟩
    obtain ⟨k, rfl, hk, HF, HW⟩ := hrel
    have HWw := Lib.hid (bthen HB1.out HW.out)
    have HG2 : Hid (wo.heap[w.heap.size]? = some (.cells (eId zId).toArray 39 (0, 0))) := Lib.hid ((HW.out.block _ (by omega)).trans HG.out)
    by_cases hlt : k < l.length
    · have d2 : decide ((k : Int) < (l.length : Int)) = true := decide_eq_true (by omega)
      obtain ⟨b5, o5, hb5, hix, hr⟩ := HV.out.rangeB len_eRf HWw.out (P := Tryd.prog) Tryd.underlying37 cells43 some43 hlt
      obtain ⟨x, hx⟩ : ∃ x, Hid (l[k] = x) := ⟨_, Lib.hid rfl⟩
      rw [hx.out] at hr
      have HR := Lib.hid hr
      have HF2 : Hid (findF l n = if x.nm = n then (x.id, true) else findF (l.drop (k + 1)) n) := Lib.hid (by rw [HF.out, findF_drop l n hlt, hx.out])
      have HN : Hid ((wo.alloc (.cells (eRf x).toArray 43)).heap[wo.heap.size]? = some (.cells (eRf x).toArray 43 (0, 0))) := Lib.hid (heap_alloc_new _ _)
      have e0 : (wo.alloc (.cells (eRf x).toArray 43)).cell? ⟨wo.heap.size, 0, none⟩ = some (.string (bstr x.nm)) := range_nm (r := x) (range_of_heap HN.out)
      have HI : Hid ((wo.alloc (.cells (eRf x).toArray 43)).rangeAt wo.heap.size 1 (eId x.id)) := Lib.hid (range_tail HN.out)
      have HG3 : Hid ((wo.alloc (.cells (eRf x).toArray 43)).heap[w.heap.size]? = some (.cells (eId zId).toArray 39 (0, 0))) := Lib.hid (heap_keep HG2.out)
      clear hr HF
      by_cases hn : x.nm = n
      · have hd : (x.nm == n) = true := by simpa using hn
        have HF3 : Hid (findF l n = (x.id, true)) := Lib.hid (by rw [HF2.out, if_pos hn])
        clear hn
        go_wp2_with (first
          | refine ld43 rfl _ rfl _ _ rfl x HR.out ?_
          | refine new43 rfl rfl rfl _ _ rfl rfl x rfl rfl ?_
          | refine ld39 rfl _ rfl _ _ rfl x.id HI.out ?_
          | refine st39 rfl rfl _ _ rfl w.heap.size rfl x.id zId rfl HG3.out ?_)
        refine bodyPost_ret (results_row_tmp rfl _ w.heap.size 39 _ (0, 0) _ rfl (setRow_heap _ _ _ _ _ _ HG3.out) Tryd.underlying39 rfl (by rw [size39, size_eId])) rfl ?_
        rw [HF3.out]
        exact ⟨rfl, below_setRow (HWw.out.alloc HWw.out.size _) (Nat.le_refl _) _⟩
      · have hd : (x.nm == n) = false := by simpa using hn
        have HF3 : Hid (findF l n = findF (l.drop (k + 1)) n) := Lib.hid (by rw [HF2.out, if_neg hn])
        clear hn
        go_wp2_with (first
          | refine ld43 rfl _ rfl _ _ rfl x HR.out ?_
          | refine new43 rfl rfl rfl _ _ rfl rfl x rfl rfl ?_)
        go_roundw
        case rel => exact ⟨k + 1, by go_num, by omega, HF3, Lib.hid (HW.out.alloc HW.out.size _)⟩
        case measure => simp [intOf]; omega
    · obtain rfl : k = l.length := by omega
      have d2 : decide ((l.length : Int) < (l.length : Int)) = false := decide_eq_false (by omega)
      have HF3 : Hid (findF l n = (zId, false)) := Lib.hid (by rw [HF.out, List.drop_length]; rfl)
      have hb := build39
      clear HF
      go_wp2_with (first | refine st39 rfl rfl _ _ rfl w.heap.size rfl zId zId rfl HG2.out ?_)
      refine bodyPost_ret (results_row_tmp rfl _ w.heap.size 39 _ (0, 0) _ rfl (setRow_heap _ _ _ _ _ _ HG2.out) Tryd.underlying39 rfl (by rw [size39, size_eId])) rfl ?_
      rw [HF3.out]
      exact ⟨rfl, below_setRow HWw.out (Nat.le_refl _) _⟩

set_option maxRecDepth 100000 in
set_option maxHeartbeats 1000000 in
theorem rfind_any (v : Value) (l : List Rf) (n : List UInt8) (w : World) (hv : Sl eRf 33 w v l) :
    Calls Tryd.prog 48 #[v, .string (bstr n)] w fun e w' => e = .returned (.tuple #[vId (findF l n).1, .bool (findF l n).2]) ∧ Below w.heap.size w w' := by
  have hlen := hv.run_len (P := Tryd.prog) Tryd.underlying37
  have HV := Lib.hid hv
  have hll := hv.len_le
  clear hv
  go_enter Tryd.func48, Tryd.ntmps48
  go_wp2_with (first | refine al39 rfl rfl ?_)
  obtain ⟨w1, hw1⟩ : ∃ u, Hid (u = w.alloc (.cells (eId zId).toArray 39)) := ⟨_, Lib.hid rfl⟩
  have hs1 : w1.heap.size = w.heap.size + 1 := by rw [hw1.out]; simp
  have HG2 : Hid (w1.heap[w.heap.size]? = some (.cells (eId zId).toArray 39 (0, 0))) := Lib.hid (by rw [hw1.out]; exact heap_alloc_new _ _)
  have HWw : Hid (Below w.heap.size w w1) := Lib.hid (by rw [hw1.out]; exact (Below.refl _ _).alloc (Nat.le_refl _) _)
  rw [← hw1.out]
  clear hw1
  go_loopw [6] (fun i wr => wr = w1 ∧ ∃ k : Nat, i = .int .i64 k ∧ k ≤ l.length ∧ Hid (findF l n = findF (l.drop k) n)) (fun i _ => l.length - (intOf i).toNat)
  case atStart => exact ⟨rfl, 0, rfl, by omega, Lib.hid rfl⟩
  case round =>
    obtain ⟨rfl, k, rfl, hk, HF⟩ := hrel
    by_cases hlt : k < l.length
    · have d2 : decide ((k : Int) < (l.length : Int)) = true := decide_eq_true (by omega)
      obtain ⟨b5, o5, hb5, hix, hr⟩ := HV.out.rangeB len_eRf HWw.out (P := Tryd.prog) Tryd.underlying37 cells43 some43 hlt
      obtain ⟨x, hx⟩ : ∃ x, Hid (l[k] = x) := ⟨_, Lib.hid rfl⟩
      rw [hx.out] at hr
      have e0 := range_nm hr
      have HI := Lib.hid (range_id hr)
      have HF2 : Hid (findF l n = if x.nm = n then (x.id, true) else findF (l.drop (k + 1)) n) := Lib.hid (by rw [HF.out, findF_drop l n hlt, hx.out])
      clear hr HF
      by_cases hn : x.nm = n
      · have hd : (x.nm == n) = true := by simpa using hn
        have HF3 : Hid (findF l n = (x.id, true)) := Lib.hid (by rw [HF2.out, if_pos hn])
        clear hn
        go_wp2_with (first
          | refine ld39 rfl _ rfl _ _ rfl x.id HI.out ?_
          | refine st39 rfl rfl _ _ rfl w.heap.size rfl x.id zId rfl HG2.out ?_)
        refine bodyPost_ret (results_row_tmp rfl _ w.heap.size 39 _ (0, 0) _ rfl (setRow_heap _ _ _ _ _ _ HG2.out) Tryd.underlying39 rfl (by rw [size39, size_eId])) rfl ?_
        rw [HF3.out]
        exact ⟨rfl, below_setRow HWw.out (Nat.le_refl _) _⟩
      · have hd : (x.nm == n) = false := by simpa using hn
        have HF3 : Hid (findF l n = findF (l.drop (k + 1)) n) := Lib.hid (by rw [HF2.out, if_neg hn])
        clear hn
        go_wp2_with fail
        go_roundw
        case rel => exact ⟨trivial, k + 1, by go_num, by omega, HF3⟩
        case measure => simp [intOf]; omega
    · obtain rfl : k = l.length := by omega
      have d2 : decide ((l.length : Int) < (l.length : Int)) = false := decide_eq_false (by omega)
      have HF3 : Hid (findF l n = (zId, false)) := Lib.hid (by rw [HF.out, List.drop_length]; rfl)
      have hb := build39
      clear HF
      go_wp2_with (first | refine st39 rfl rfl _ _ rfl w.heap.size rfl zId zId rfl HG2.out ?_)
      refine bodyPost_ret (results_row_tmp rfl _ w.heap.size 39 _ (0, 0) _ rfl (setRow_heap _ _ _ _ _ _ HG2.out) Tryd.underlying39 rfl (by rw [size39, size_eId])) rfl ?_
      rw [HF3.out]
      exact ⟨rfl, below_setRow HWw.out (Nat.le_refl _) _⟩
end Go.Proofs.YtopamnfelngkcaaDoor.Rf
