/-
  Layer 12: the ref that a word means. No condition besides what the arguments are.
-/
import Derived.Test.YtopamnfelngkcaaDoorR6
namespace Go.Proofs.YtopamnfelngkcaaDoor.Rf
open Go.Proofs Go.RowKit Go.Shelf Go.Sl Go.Route Go.Refs
set_option linter.unusedVariables false

/-- the first of names that a table has -/
def firstF (l : List Go.Sl.Rf) : List (List UInt8) → Go.Sl.Rf × Bool
  | [] => (zRf, false)
  | n :: ns => if (findF l n).2 then (⟨n, (findF l n).1⟩, true) else firstF l ns
def heads : List UInt8 := [104, 101, 97, 100, 115, 47]
def tags : List UInt8 := [116, 97, 103, 115, 47]
/-- the ref that a word means; an error's number -/
def resF (l : List Go.Sl.Rf) (s : List UInt8) : Go.Sl.Rf × Int :=
  if chk l = 0 then (if (firstF l [s, heads ++ s, tags ++ s]).2 then ((firstF l [s, heads ++ s, tags ++ s]).1, 0) else (zRf, 35)) else (zRf, chk l)
theorem firstF_drop (l : List Go.Sl.Rf) (ns : List (List UInt8)) {k : Nat} (h : k < ns.length) : firstF l (ns.drop k) = if (findF l ns[k]).2 then (⟨ns[k], (findF l ns[k]).1⟩, true) else firstF l (ns.drop (k + 1)) := by
  rw [List.drop_eq_getElem_cons h, firstF]

theorem build43s (n : List UInt8) (i : Idb) (w : World) : (Instr.build 43 #[(0, .string (bstr n)), (1, vId i)]).run Tryd.prog w = .ok (vRf ⟨n, i⟩) w := by
  have := run_build2 (P := Tryd.prog) 43 9 39 #[fNm, fId] Tryd.underlying43 fNm fId rfl rfl rfl rfl rfl (bstr n) (eId i).toArray (by kernel_rfl) (by rw [size39, size_eId]) (vRf zRf) (by rw [zero43, size_eId]) (by rw [size_eId]; exact size_eRf _) w
  rw [← vRf_build]
  exact this

theorem fill1 (z : Array Value) (s : ByteArray) (cs : List Value) (hz : z.toList = .string .empty :: cs) : Instr.fill (#[(0, 1), (1, 32)][·]?) z [(0, .string s)] = some ((Value.string s :: cs).toArray) := by
  have hsz : z.size = cs.length + 1 := by rw [← Array.length_toList, hz]; rfl
  obtain ⟨c1, a1, a2, a3⟩ := fill_step (#[(0, 1), (1, 32)][·]?) z 0 (.string s) [] 0 1 rfl rfl (by omega)
  rw [a3, Instr.fill]
  congr 1
  apply Array.ext_getElem?
  intro k
  rw [a2 k]
  rcases Nat.eq_zero_or_pos k with rfl | hk
  · rw [if_pos (by omega)]; simp [Value.cells]
  · rw [if_neg (by omega)]
    obtain ⟨m, rfl⟩ : ∃ m, k = m + 1 := ⟨k - 1, by omega⟩
    rw [← Array.getElem?_toList, hz]; simp
theorem build43n (n : List UInt8) (w : World) : (Instr.build 43 #[(0, .string (bstr n))]).run Tryd.prog w = .ok (vRf ⟨n, zId⟩) w := by
  obtain ⟨hz1, _⟩ := zero_of_info zero43
  obtain ⟨i1, hi1, hj1⟩ := Option.map_eq_some_iff.1 size39
  obtain ⟨i0, hi0, hj0⟩ := Option.map_eq_some_iff.1 (show (Tryd.prog.info? 9).map (·.size) = some 1 by kernel_rfl)
  obtain ⟨C, hC⟩ : ∃ C, eId zId = C := ⟨_, rfl⟩
  obtain ⟨Z, hZ⟩ : ∃ Z, (eRf zRf).toArray = Z := ⟨_, rfl⟩
  have hz2 : ∀ w, (zeroValue 43).run Tryd.prog w = .ok (.agg Z) w := fun w => by rw [hz1 w, ← hZ]
  have hf := fill1 Z (bstr n) C (by rw [← hZ]; unfold eRf; rw [show (zRf.id) = zId from rfl, hC]; rfl)
  have hf2 : Instr.fill (fun x => [(0, 1), (1, 32)][x]?) Z [(0, .string (bstr n))] = some ((Value.string (bstr n) :: C).toArray) := by
    rw [← hf]; exact congrArg (fun f => Instr.fill f Z [(0, .string (bstr n))]) (funext fun x => by simp)
  have hr : vRf ⟨n, zId⟩ = .agg (Value.string (bstr n) :: C).toArray := by unfold vRf eRf; rw [hC]
  rw [hr]
  clear hr hC hZ hz1 hf
  simp [Instr.build, hz2, run_underlying Tryd.underlying43, sizeOf, typeInfo, hi0, hi1, hj0, hj1, hf2, Value.cells]

section
variable {ops : Array Oper} {rest : List Oper} {o o' : Oper} {a : Act} {w : World} {Q : Exit → Act → World → Prop}
theorem bd_run {t : TypeId} {ps : Array (Nat × Operand)} {v : Value} (hg : o.guard = none) (ho : o.op = .build t ps) (hr : (Instr.build t (ps.map fun (i, x) => (i, a.eval x))).run Tryd.prog w = .ok v w)
    (h : wpList Tryd.prog ops Q rest (a.put o.dst v) w) : wpList Tryd.prog ops Q (o :: rest) a w := by
  refine wpList_plain hg fun K hK => ?_
  unfold Oper.wp execOp
  simp only [ho, Sem.run_bind, hr, Result.andThen_ok, Sem.run_pure]
  exact hK _ _ h
theorem bd43 (hg : o.guard = none) (x y : Operand) (ho : o.op = .build 43 #[(0, x), (1, y)]) (n : List UInt8) (i : Idb) (hx : a.eval x = .string (bstr n)) (hy : a.eval y = vId i)
    (h : wpList Tryd.prog ops Q rest (a.put o.dst (vRf ⟨n, i⟩)) w) : wpList Tryd.prog ops Q (o :: rest) a w :=
  bd_run hg ho (by simp only [List.map_toArray, List.map_cons, List.map_nil, hx, hy]; exact build43s n i w) h
theorem bd43n (hg : o.guard = none) (x : Operand) (ho : o.op = .build 43 #[(0, x)]) (n : List UInt8) (hx : a.eval x = .string (bstr n))
    (h : wpList Tryd.prog ops Q rest (a.put o.dst (vRf ⟨n, zId⟩)) w) : wpList Tryd.prog ops Q (o :: rest) a w :=
  bd_run hg ho (by simp only [List.map_toArray, List.map_cons, List.map_nil, hx]; exact build43n n w) h
theorem bd43z (hg : o.guard = none) (ho : o.op = .build 43 #[]) (h : wpList Tryd.prog ops Q rest (a.put o.dst (vRf zRf)) w) : wpList Tryd.prog ops Q (o :: rest) a w :=
  bd_run hg ho (by simp only [List.map_toArray, List.map_nil]; exact build43 w) h
theorem bd39z (hg : o.guard = none) (ho : o.op = .build 39 #[]) (h : wpList Tryd.prog ops Q rest (a.put o.dst (vId zId)) w) : wpList Tryd.prog ops Q (o :: rest) a w :=
  bd_run hg ho (by simp only [List.map_toArray, List.map_nil]; exact build39 w) h
end

set_option maxRecDepth 100000 in
set_option maxHeartbeats 1000000 in
theorem first_any (v nv : Value) (l : List Go.Sl.Rf) (ns : List (List UInt8)) (w : World) (hv : Sl eRf 33 w v l) (hn : Sl eL 1 w nv ns) :
    Calls Tryd.prog 78 #[v, nv] w fun e w' => e = .returned (.tuple #[vRf (firstF l ns).1, .bool (firstF l ns).2]) ∧ Below w.heap.size w w' := by
  have hlen := hn.run_len (P := Tryd.prog) Tryd.underlying22
  have hll := hn.len_le
  have HV := Lib.hid hv
  have HNs := Lib.hid hn
  clear hv hn
  go_enter Tryd.func78, Tryd.ntmps78
  go_wp2_with (first | refine al43 rfl rfl ?_)
  obtain ⟨w1, hw1⟩ : ∃ u, Hid (u = w.alloc (.cells (eRf zRf).toArray 43)) := ⟨_, Lib.hid rfl⟩
  have hs1 : w1.heap.size = w.heap.size + 1 := by rw [hw1.out]; simp
  have HG : Hid (w1.heap[w.heap.size]? = some (.cells (eRf zRf).toArray 43 (0, 0))) := Lib.hid (by rw [hw1.out]; exact heap_alloc_new _ _)
  have HB1 : Hid (Below w.heap.size w w1) := Lib.hid (by rw [hw1.out]; exact (Below.refl _ _).alloc (Nat.le_refl _) _)
  rw [← hw1.out]
  clear hw1
  go_loopw [12] (fun i wr => ∃ k : Nat, i = .int .i64 k ∧ k ≤ ns.length ∧ Hid (firstF l ns = firstF l (ns.drop k)) ∧ Hid (Below w1.heap.size w1 wr)) (fun i _ => ns.length - (intOf i).toNat)
  case atStart => exact ⟨0, rfl, by omega, Lib.hid rfl, Lib.hid (Below.refl _ _)⟩
  case round =>
    obtain ⟨wo, rfl⟩ : ∃ u : World, u = wr := ⟨_, rfl⟩
    obtain ⟨k, rfl, hk, HF, HW⟩ := hrel
    have HWw := Lib.hid (bthen HB1.out HW.out)
    by_cases hlt : k < ns.length
    · have d2 : decide ((k : Int) < (ns.length : Int)) = true := decide_eq_true (by omega)
      obtain ⟨b5, o5, hb5, hix, hcell⟩ := HNs.out.atB HWw.out (P := Tryd.prog) Tryd.underlying22 cells9 some9 hlt
      have e1 := hcell 0 (by omega)
      obtain ⟨x, hx⟩ : ∃ x, Hid (ns[k] = x) := ⟨_, Lib.hid rfl⟩
      simp only [eL, List.getElem?_cons_zero, Nat.add_zero] at e1
      rw [hx.out] at e1
      obtain ⟨i, hi⟩ : ∃ i, Hid ((findF l x).1 = i) := ⟨_, Lib.hid rfl⟩
      obtain ⟨t, ht⟩ : ∃ t, Hid ((findF l x).2 = t) := ⟨_, Lib.hid rfl⟩
      have HF2 : Hid (firstF l ns = if t then (⟨x, i⟩, true) else firstF l (ns.drop (k + 1))) := Lib.hid (by rw [HF.out, firstF_drop l ns hlt, hx.out, hi.out, ht.out])
      have HC := Lib.hid (find_any v l x wo (HV.out.ext HWw.out))
      rw [hi.out, ht.out] at HC
      clear hcell HF
      go_wp2_with fail
      refine HC.out.mono ?_
      rintro e w2 ⟨rfl, hb⟩
      have HW2 := Lib.hid (bthen HW.out hb)
      have HG2 : Hid (w2.heap[w.heap.size]? = some (.cells (eRf zRf).toArray 43 (0, 0))) := Lib.hid ((HW2.out.block _ (by omega)).trans HG.out)
      have HN : Hid ((w2.alloc (.cells (eId i).toArray 39)).heap[w2.heap.size]? = some (.cells (eId i).toArray 39 (0, 0))) := Lib.hid (heap_alloc_new _ _)
      have HI : Hid ((w2.alloc (.cells (eId i).toArray 39)).rangeAt w2.heap.size 0 (eId i)) := Lib.hid (range_of_heap (cs := (eId i).toArray) HN.out)
      have HG3 : Hid ((w2.alloc (.cells (eId i).toArray 39)).heap[w.heap.size]? = some (.cells (eRf zRf).toArray 43 (0, 0))) := Lib.hid (heap_keep HG2.out)
      clear hb hix e1 HC
      cases t with
      | true =>
        have HF3 : Hid (firstF l ns = (⟨x, i⟩, true)) := Lib.hid (by rw [HF2.out, if_pos rfl])
        go_wp2_with (first
          | refine new39 rfl rfl rfl _ _ rfl rfl i rfl rfl ?_
          | refine ld39 rfl _ rfl _ _ rfl i HI.out ?_
          | refine bd43 rfl _ _ rfl x i rfl rfl ?_
          | refine st43 rfl rfl _ _ rfl w.heap.size rfl ⟨x, i⟩ zRf rfl HG3.out ?_)
        refine bodyPost_ret (results_row_tmp rfl _ w.heap.size 43 _ (0, 0) _ rfl (setRow_heap _ _ _ _ _ _ HG3.out) Tryd.underlying43 rfl (by rw [size43, size_eRf])) rfl ?_
        rw [HF3.out]
        exact ⟨rfl, below_setRow ((bthen HB1.out HW2.out).alloc (bthen HB1.out HW2.out).size _) (Nat.le_refl _) _⟩
      | false =>
        have HF3 : Hid (firstF l ns = firstF l (ns.drop (k + 1))) := Lib.hid (by rw [HF2.out]; rfl)
        go_wp2_with (first
          | refine new39 rfl rfl rfl _ _ rfl rfl i rfl rfl ?_)
        go_roundw
        case rel => exact ⟨k + 1, by go_num, by omega, HF3, Lib.hid (HW2.out.alloc HW2.out.size _)⟩
        case measure => simp [intOf]; omega
    · obtain rfl : k = ns.length := by omega
      have d2 : decide ((ns.length : Int) < (ns.length : Int)) = false := decide_eq_false (by omega)
      have HF3 : Hid (firstF l ns = (zRf, false)) := Lib.hid (by rw [HF.out, List.drop_length]; rfl)
      have HG2 : Hid (wo.heap[w.heap.size]? = some (.cells (eRf zRf).toArray 43 (0, 0))) := Lib.hid ((HW.out.block _ (by omega)).trans HG.out)
      have hb := build43
      clear HF
      go_wp2_with (first | refine st43 rfl rfl _ _ rfl w.heap.size rfl zRf zRf rfl HG2.out ?_)
      refine bodyPost_ret (results_row_tmp rfl _ w.heap.size 43 _ (0, 0) _ rfl (setRow_heap _ _ _ _ _ _ HG2.out) Tryd.underlying43 rfl (by rw [size43, size_eRf])) rfl ?_
      rw [HF3.out]
      exact ⟨rfl, below_setRow HWw.out (Nat.le_refl _) _⟩
end Go.Proofs.YtopamnfelngkcaaDoor.Rf
