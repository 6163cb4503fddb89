/-
  Values of many cells (arrays, structs), made, loaded, stored and returned whole. No program is named here.
-/
import Derived.Test.YtopamnfelngkcaaDoorBs
import Derived.Deep.MidRow
import Derived.Deep.WholeRow
import Derived.Laws.ResultCell
import Derived.Stop.BytesEq
namespace Go.Sl
open Go.RowKit

section
variable {P : Program} {ops : Array Oper} {rest : List Oper} {o o' : Oper} {a : Act} {w : World} {Q : Exit → Act → World → Prop}

/-- a variable of its own that is laid and at once filled -/
theorem wpList_allocStore (hg : o.guard = none) (hg' : o'.guard = none) (hd : o'.dst = none) (t : TypeId) (x y : Operand) (ho : o.op = .alloc t) (ho' : o'.op = .store t x y) (cs : Array Value)
    (hx : (a.put o.dst (.pointer (some ⟨w.heap.size, 0, none⟩))).eval x = .pointer (some ⟨w.heap.size, 0, none⟩))
    (hy : (a.put o.dst (.pointer (some ⟨w.heap.size, 0, none⟩))).eval y = .agg cs)
    (z : Value) (hz : (P.info? t).map (fun i => (i.zero, i.size)) = some (some z, cs.size)) (hzs : z.cells.size = cs.size) (h1 : ∀ u ∈ cs.toList, u.oneCell' = true)
    (h : wpList P ops Q rest (a.put o.dst (.pointer (some ⟨w.heap.size, 0, none⟩))) (w.alloc (.cells cs t))) : wpList P ops Q (o :: o' :: rest) a w := by
  obtain ⟨hz1, hz2⟩ := zero_of_info hz
  refine wpList_plain hg fun K hK => ?_
  unfold Oper.wp execOp
  simp only [ho, Instr.alloc, Sem.run_bind, hz1, Result.andThen_ok, newVar, newRow, Sem.run_pure, run_newObj]
  refine hK _ _ ?_
  have e2 : ({ w with heap := w.heap.push (.cells z.cells t) } : World) = w.alloc (.cells z.cells t) := rfl
  rw [e2]
  refine wpList_storeRow hg' hd t x y ho' w.heap.size hx cs hy t z.cells (heap_alloc_new w _) hzs (by simpa using hz2) h1 ?_
  rw [World.setRow_alloc_new]
  exact h

/-- a variable of its own, at zero -/
theorem wpList_allocZ (hg : o.guard = none) (t : TypeId) (ho : o.op = .alloc t) (z : Value) (n : Nat) (hz : (P.info? t).map (fun i => (i.zero, i.size)) = some (some z, n)) (cs : Array Value) (hzs : z.cells = cs)
    (h : wpList P ops Q rest (a.put o.dst (.pointer (some ⟨w.heap.size, 0, none⟩))) (w.alloc (.cells cs t))) : wpList P ops Q (o :: rest) a w := by
  obtain ⟨hz1, hz2⟩ := zero_of_info hz
  subst hzs
  refine wpList_plain hg fun K hK => ?_
  unfold Oper.wp execOp
  simp only [ho, Instr.alloc, Sem.run_bind, hz1, Result.andThen_ok, newVar, newRow, Sem.run_pure, run_newObj]
  exact hK _ _ h

/-- a whole value out of a block of its own -/
theorem range_of_heap {b : Nat} {cs : Array Value} {t : TypeId} {fr : Nat × Nat} (h : w.heap[b]? = some (.cells cs t fr)) : w.rangeAt b 0 cs.toList := fun j v hv => by
  rw [cell_of_row w b (0 + j) cs t fr h, Nat.zero_add]
  simpa using hv
/-- .. and a part of it -/
theorem range_tail {b : Nat} {x : Value} {cs : List Value} {t : TypeId} {fr : Nat × Nat} (h : w.heap[b]? = some (.cells (x :: cs).toArray t fr)) : w.rangeAt b 1 cs := fun j v hv => by
  rw [cell_of_row w b (1 + j) _ t fr h]
  simpa [Nat.add_comm 1 j] using hv

/-! ### results -/
theorem results_row_tmp {fn : Func} {p u : Tmp} {ty : TypeId} (h : fn.results = #[.cell p ty, .tmp u]) (tmps : Array Value) (g : Nat) (t : TypeId) (cs : Array Value) (fr : Nat × Nat) (d : TypeDesc)
    (hp : tmps.getD p undef = .pointer (some ⟨g, 0, none⟩)) (hg : w.heap[g]? = some (.cells cs t fr))
    (hu : P.underlying ty = some d) (hd : (match d with | .struct _ | .array _ _ => true | _ => false) = true) (hi : (P.info? ty).map (·.size) = some cs.size) :
    (results fn tmps).run P w = .ok (.tuple #[.agg cs, tmps.getD u undef]) w := by
  rw [results_cell_tmp h tmps P w, hp]
  simp [asAddr, Result.andThen, run_loadVar_row w g t ty cs fr d hg hu hd hi]

theorem results_row_tmp2 {fn : Func} {p u u2 : Tmp} {ty : TypeId} (h : fn.results = #[.cell p ty, .tmp u, .tmp u2]) (tmps : Array Value) (g : Nat) (t : TypeId) (cs : Array Value) (fr : Nat × Nat) (d : TypeDesc)
    (hp : tmps.getD p undef = .pointer (some ⟨g, 0, none⟩)) (hg : w.heap[g]? = some (.cells cs t fr))
    (hu : P.underlying ty = some d) (hd : (match d with | .struct _ | .array _ _ => true | _ => false) = true) (hi : (P.info? ty).map (·.size) = some cs.size) :
    (results fn tmps).run P w = .ok (.tuple #[.agg cs, tmps.getD u undef, tmps.getD u2 undef]) w := by
  have e := run_loadVar_row (P := P) w g t ty cs fr d hg hu hd hi
  have hp2 : tmps[p]?.getD undef = .pointer (some ⟨g, 0, none⟩) := by simpa using hp
  simp [results, h, hp2, asAddr, e]

/-! ### what is built of parts -/
theorem foldSet (off : Nat) : ∀ (l : List Value) (s : Nat) (cs : Array Value),
    ((l.zipIdx s).foldl (fun cs p => cs.setIfInBounds (off + p.2) p.1) cs).size = cs.size ∧
    ∀ k, ((l.zipIdx s).foldl (fun cs p => cs.setIfInBounds (off + p.2) p.1) cs)[k]? = if off + s ≤ k ∧ k < off + s + l.length ∧ k < cs.size then l[k - (off + s)]? else cs[k]?
  | [], s, cs => ⟨rfl, fun k => by rw [if_neg (by simp; omega)]; rfl⟩
  | x :: l, s, cs => by
    obtain ⟨h1, h2⟩ := foldSet off l (s + 1) (cs.setIfInBounds (off + s) x)
    rw [List.zipIdx_cons, List.foldl_cons]
    refine ⟨by rw [h1]; simp, fun k => ?_⟩
    rw [h2]
    simp only [Array.size_setIfInBounds, List.length_cons, Array.getElem?_setIfInBounds]
    by_cases c1 : k = off + s
    · subst c1
      rw [if_neg (by omega), if_pos rfl]
      by_cases c2 : off + s < cs.size
      · rw [if_pos c2, if_pos (by omega)]; simp
      · rw [if_neg c2, if_neg (by omega)]; simp; omega
    · rw [if_neg (by omega : ¬ off + s = k)]
      by_cases c2 : off + (s + 1) ≤ k ∧ k < off + (s + 1) + l.length ∧ k < cs.size
      · rw [if_pos c2, if_pos (by omega), show k - (off + s) = k - (off + (s + 1)) + 1 by omega, List.getElem?_cons_succ]
      · rw [if_neg c2, if_neg (by omega)]

theorem fold_part (v : Array Value) (off : Nat) (cs : Array Value) :
    (v.zipIdx.foldl (fun cs (c, j) => cs.setIfInBounds (off + j) c) cs).size = cs.size ∧
    ∀ k, (v.zipIdx.foldl (fun cs (c, j) => cs.setIfInBounds (off + j) c) cs)[k]? = if off ≤ k ∧ k < off + v.size ∧ k < cs.size then v[k - off]? else cs[k]? := by
  have e : v.zipIdx.foldl (fun cs (c, j) => cs.setIfInBounds (off + j) c) cs = (v.toList.zipIdx 0).foldl (fun cs p => cs.setIfInBounds (off + p.2) p.1) cs := by
    rw [← Array.foldl_toList, Array.toList_zipIdx]
  rw [e]
  have := foldSet off v.toList 0 cs
  simpa using this

theorem fill_step (place : Nat → Option (Nat × Nat)) (cells : Array Value) (i : Nat) (v : Value) (more : List (Nat × Value)) (off size : Nat) (hp : place i = some (off, size)) (hs : v.cells.size = size) (hfit : off + size ≤ cells.size) :
    ∃ cells', cells'.size = cells.size ∧ (∀ k : Nat, cells'[k]? = if off ≤ k ∧ k < off + size ∧ k < cells.size then v.cells[k - off]? else cells[k]?) ∧ Instr.fill place cells ((i, v) :: more) = Instr.fill place cells' more := by
  subst hs
  obtain ⟨h1, h2⟩ := fold_part v.cells off cells
  refine ⟨_, h1, h2, ?_⟩
  rw [Instr.fill]
  simp only [hp]
  rw [if_neg (by simp; omega)]

/-- a part that is all -/
theorem fill_all (place : Nat → Option (Nat × Nat)) (cells : Array Value) (i : Nat) (cs : Array Value) (hp : place i = some (0, cs.size)) (hs : cells.size = cs.size) : Instr.fill place cells [(i, .agg cs)] = some cs := by
  obtain ⟨c', h1, h2, h3⟩ := fill_step place cells i (.agg cs) [] 0 cs.size hp rfl (by omega)
  rw [h3, Instr.fill]
  congr 1
  apply Array.ext_getElem?
  intro k
  rw [h2 k]
  by_cases c : k < cs.size
  · rw [if_pos (by omega)]; rfl
  · rw [if_neg (by omega), Array.getElem?_eq_none (by omega), Array.getElem?_eq_none (by omega)]

/-- `[]T{x}`, x of many cells -/
theorem wpList_buildSlice1 (hg : o.guard = none) (t e : TypeId) (x : Operand) (ho : o.op = .buildSlice t 1 #[(0, x)]) (cs : Array Value) (hx : a.eval x = .agg cs) (hu : P.underlying t = some (.slice e))
    (z : Value) (hz : (P.info? e).map (fun i => (i.zero, i.size)) = some (some z, cs.size)) (h0 : 0 < cs.size) (hm : cs.size ≤ 10000)
    (h : wpList P ops Q rest (a.put o.dst (.slice (some ⟨w.heap.size, 0, none⟩) 1 1)) (w.alloc (.cells cs e))) : wpList P ops Q (o :: rest) a w := by
  obtain ⟨hz1, hz2⟩ := zero_of_info hz
  have hsz : ∀ w, (sizeOf e).run P w = .ok cs.size w := fun w => by
    obtain ⟨i, hi1, hi2⟩ := Option.map_eq_some_iff.1 hz2
    simp [sizeOf, typeInfo, hi1, hi2]
  refine wpList_plain hg fun K hK => ?_
  unfold Oper.wp execOp
  have hn : ¬ (1 * cs.size > 2 ^ 24) := by rw [Nat.one_mul, show 2 ^ 24 = 16777216 from rfl]; omega
  have hn0 : ¬ (1 * cs.size = 0) := by omega
  have hf := fill_all (fun i => some (i * cs.size, cs.size)) ((Array.range (1 * cs.size)).map (z.cells[· % z.cells.size]!)) 0 cs (by simp) (by simp)
  simp only [ho, Instr.buildSlice, Sem.run_bind, run_underlying hu, Result.andThen_ok, hsz, Sem.run_ite, hn, hn0, if_false, Sem.run_pure, hz1, newRow, run_newObj, List.map_toArray, List.map_cons, List.map_nil, hx, hf]
  exact hK _ _ h

/-- T{a, b}: a string and an array -/
theorem run_build2 (t e9 e39 : TypeId) (fs : Array Field) (hu : P.underlying t = some (.struct fs)) (f0 f1 : Field) (hf : fs = #[f0, f1]) (h0 : f0.offset = 0) (h1 : f1.offset = 1) (ht0 : f0.type = e9) (ht1 : f1.type = e39)
    (s : ByteArray) (cs : Array Value) (hs0 : (P.info? e9).map (·.size) = some 1) (hs1 : (P.info? e39).map (·.size) = some cs.size) (z : Value) (hz : (P.info? t).map (fun i => (i.zero, i.size)) = some (some z, cs.size + 1)) (hzs : z.cells.size = cs.size + 1) (w : World) :
    (Instr.build t #[(0, .string s), (1, .agg cs)]).run P w = .ok (.agg (#[.string s] ++ cs)) w := by
  obtain ⟨hz1, _⟩ := zero_of_info hz
  obtain ⟨i0, hi0, hj0⟩ := Option.map_eq_some_iff.1 hs0
  obtain ⟨i1, hi1, hj1⟩ := Option.map_eq_some_iff.1 hs1
  subst hf
  have hfill : Instr.fill (#[(0, 1), (1, cs.size)][·]?) z.cells [(0, .string s), (1, .agg cs)] = some (#[.string s] ++ cs) := by
    obtain ⟨c1, a1, a2, a3⟩ := fill_step (#[(0, 1), (1, cs.size)][·]?) z.cells 0 (.string s) [(1, .agg cs)] 0 1 rfl rfl (by omega)
    obtain ⟨c2, b1, b2, b3⟩ := fill_step (#[(0, 1), (1, cs.size)][·]?) c1 1 (.agg cs) [] 1 cs.size rfl rfl (by omega)
    rw [a3, b3, Instr.fill]
    congr 1
    apply Array.ext_getElem?
    intro k
    rw [b2 k, a2 k, a1, hzs]
    rcases Nat.eq_zero_or_pos k with rfl | hk
    · rw [if_neg (by omega), if_pos (by omega), Array.getElem?_append_left (by simp)]; rfl
    · by_cases c : k < 1 + cs.size
      · rw [if_pos (by omega), Array.getElem?_append_right (by simp; omega)]; rfl
      · rw [if_neg (by omega), if_neg (by omega), Array.getElem?_eq_none (by omega), Array.getElem?_eq_none (by simp; omega)]
  have hfill2 : Instr.fill (fun x => [(0, 1), (1, cs.size)][x]?) z.cells [(0, .string s), (1, .agg cs)] = some (#[.string s] ++ cs) := by
    rw [← hfill]; congr 1; funext x; simp
  simp [Instr.build, hz1, run_underlying hu, sizeOf, typeInfo, ht0, ht1, hi0, hi1, hj0, hj1, h0, h1, hfill2]
end

/-! ### ids and refs -/
structure Idb where
  l : List UInt8
  len : l.length = 32
deriving DecidableEq
structure Rf where
  nm : List UInt8
  id : Idb
deriving DecidableEq
def eId (i : Idb) : List Value := i.l.map Extern.Stop.cell
abbrev vId (i : Idb) : Value := .agg (eId i).toArray
def eRf (r : Rf) : List Value := .string (bstr r.nm) :: eId r.id
abbrev vRf (r : Rf) : Value := .agg (eRf r).toArray
def zId : Idb := ⟨List.replicate 32 0, by simp⟩
def zRf : Rf := ⟨[], zId⟩
theorem len_eId (i : Idb) : (eId i).length = 32 := by simp [eId, i.len]
theorem len_eRf (r : Rf) : (eRf r).length = 33 := by simp [eRf, len_eId]
theorem size_eId (i : Idb) : (eId i).toArray.size = 32 := by simp [len_eId]
theorem size_eRf (r : Rf) : (eRf r).toArray.size = 33 := by simp [len_eRf]
theorem one_eId (i : Idb) : ∀ u ∈ eId i, u.oneCell' = true := by
  intro u hu
  obtain ⟨b, _, rfl⟩ := List.mem_map.1 hu
  rfl
theorem one_eRf (r : Rf) : ∀ u ∈ eRf r, u.oneCell' = true := by
  intro u hu
  rcases List.mem_cons.1 hu with rfl | hu
  · rfl
  · exact one_eId _ u hu
theorem eRf_zero (r : Rf) : (eRf r)[0]? = some (.string (bstr r.nm)) := rfl
theorem range_id {w : World} {b o : Nat} {r : Rf} (h : w.rangeAt b o (eRf r)) : w.rangeAt b (o + 1) (eId r.id) := fun j v hv => by
  rw [Nat.add_assoc, Nat.add_comm 1 j]
  exact h (j + 1) v (by simpa [eRf] using hv)
theorem range_nm {w : World} {b o : Nat} {r : Rf} (h : w.rangeAt b o (eRf r)) : w.cell? ⟨b, o, none⟩ = some (.string (bstr r.nm)) := h 0 _ rfl
theorem vRf_build (s : List UInt8) (i : Idb) : Value.agg (#[.string (bstr s)] ++ (eId i).toArray) = vRf ⟨s, i⟩ := by simp [vRf, eRf]

/-- the element k of a slice of many-celled elements -/
theorem Sl.rangeB {α : Type} {en : α → List Value} {s : Nat} {w wr : World} {v : Value} {l : List α} {P : Program} {t e : TypeId} (h : Sl en s w v l) (hs0 : ∀ x, (en x).length = s) (hb : Below w.heap.size w wr) (ht : P.underlying t = some (.slice e)) (hs : P.cellsOf e = s) (hi : (P.info? e).isSome = true) {k : Nat} (hk : k < l.length) :
    ∃ b o, b < w.heap.size ∧ (∀ (ik : IntKind) (u : World), (Instr.indexAt t v (.int ik (k : Int))).run P u = .ok (.pointer (some ⟨b, o, none⟩)) u) ∧ wr.rangeAt b o (en l[k]) := by
  obtain ⟨b, o, h1, h2, h3⟩ := h.at ht hs hi hk
  exact ⟨b, o, h1, h2, fun j v hv => by
    have hj : j < s := by have := (List.getElem?_eq_some_iff.1 hv).1; rwa [hs0] at this
    rw [← hv]; exact (hb.cell (p := ⟨b, o + j, none⟩) h1).trans (h3 j hj)⟩

theorem rangeAt_below {w w' : World} {b o : Nat} {cs : List Value} {B : Nat} (h : w.rangeAt b o cs) (hb : Below B w w') (hlt : b < B) : w'.rangeAt b o cs := fun j v hv => by
  rw [hb.cell (p := ⟨b, o + j, none⟩) hlt]; exact h j v hv

/-! ### '==' -/
theorem idb_beq (i j : Idb) : (i.l == j.l) = decide (i = j) := by
  rw [Bool.eq_iff_iff, beq_iff_eq, decide_eq_true_eq]
  constructor
  · intro h; cases i; cases j; simp_all
  · rintro rfl; rfl
theorem rf_eq (a b : Rf) : decide (a = b) = (decide (a.nm = b.nm) && decide (a.id = b.id)) := by
  rw [Bool.eq_iff_iff]
  simp only [decide_eq_true_eq, Bool.and_eq_true]
  constructor
  · rintro rfl; exact ⟨rfl, rfl⟩
  · rintro ⟨h1, h2⟩; cases a; cases b; simp_all
section
variable {P : Program} {t43 t9 t39 t5 : TypeId}
theorem run_eqIn_id (w : World) (d : Nat) (h39 : P.underlying t39 = some (.array 32 t5)) (h5 : P.underlying t5 = some (.int .u8)) (hs5 : ∀ w, (sizeOf t5).run P w = .ok 1 w) (i j : Idb) :
    (Op.equalIn (d + 2) t39 (vId i) (vId j)).run P w = .ok (decide (i = j)) w := by
  rw [← idb_beq]
  exact run_equalIn_bytes w d t39 t5 32 h39 h5 hs5 i.l j.l i.len j.len
theorem run_eql_id (w : World) (h39 : P.underlying t39 = some (.array 32 t5)) (h5 : P.underlying t5 = some (.int .u8)) (hs5 : ∀ w, (sizeOf t5).run P w = .ok 1 w) (i j : Idb) :
    (binOp .eql t39 (vId i) (vId j)).run P w = .ok (.bool (decide (i = j))) w := by
  have := run_eqIn_id w 9998 h39 h5 hs5 i j
  unfold vId at this ⊢
  rw [run_eql_struct, this]; rfl
theorem run_neq_id (w : World) (h39 : P.underlying t39 = some (.array 32 t5)) (h5 : P.underlying t5 = some (.int .u8)) (hs5 : ∀ w, (sizeOf t5).run P w = .ok 1 w) (i j : Idb) :
    (binOp .neq t39 (vId i) (vId j)).run P w = .ok (.bool (!decide (i = j))) w := by
  have := run_eqIn_id w 9998 h39 h5 hs5 i j
  unfold vId at this ⊢
  rw [run_neq_struct, this]; rfl

theorem run_eqIn_rf (w : World) (h43 : P.underlying t43 = some (.struct (P.fieldsOf t43))) (hp : P.stoodInHeld t43 = false) (f0 f1 : Field) (hf : P.fieldsOf t43 = #[f0, f1]) (n0 : f0.name ≠ "_") (n1 : f1.name ≠ "_") (o0 : f0.offset = 0) (o1 : f1.offset = 1)
    (ht0 : f0.type = t9) (ht1 : f1.type = t39) (h9 : P.underlying t9 = some .string) (h39 : P.underlying t39 = some (.array 32 t5)) (h5 : P.underlying t5 = some (.int .u8)) (hs5 : ∀ w, (sizeOf t5).run P w = .ok 1 w) (hs39 : ∀ w, (sizeOf t39).run P w = .ok 32 w) (a b : Rf) :
    (Op.equalIn 10000 t43 (vRf a) (vRf b)).run P w = .ok (decide (a = b)) w := by
  have hpart : ∀ (r : Rf) (w : World), (part t9 (eRf r).toArray 0).run P w = .ok (.string (bstr r.nm)) w := fun r w => by
    simp [part, isAgg, run_underlying h9, eRf]
  have hext : ∀ r : Rf, List.take 32 (eRf r).tail = eId r.id := fun r => by
    show List.take 32 (eId r.id) = eId r.id
    rw [List.take_of_length_le (by rw [len_eId]; exact Nat.le_refl _)]
  have hpart2 : ∀ (r : Rf) (w : World), (part t39 (eRf r).toArray 1).run P w = .ok (vId r.id) w := fun r w => by
    simp [part, isAgg, run_underlying h39, hs39, hext, vId]
  have hst : ∀ (w : World), (Op.equalIn 9999 t9 (.string (bstr a.nm)) (.string (bstr b.nm))).run P w = .ok (decide (a.nm = b.nm)) w := fun w => by
    rw [run_equalIn_string w 9998 t9 _ _ h9, bstr_toList, bstr_toList]
    congr 1
    rw [Bool.eq_iff_iff]; simp
  have hid : ∀ (w : World), (Op.equalIn 9999 t39 (vId a.id) (vId b.id)).run P w = .ok (decide (a.id = b.id)) w := fun w => run_eqIn_id w 9997 h39 h5 hs5 a.id b.id
  unfold vRf
  rw [run_equalIn_struct w 9999 t43 _ _ h43 hp, hf, rf_eq]
  simp only [Op.eqFields, n0, n1, ne_eq, not_false_eq_true, if_true, ht0, ht1, o0, o1, Sem.run_bind, hpart, hpart2, Result.andThen_ok, hst, hid, Sem.run_ite, Sem.run_pure]
  cases decide (a.nm = b.nm) <;> cases decide (a.id = b.id) <;> rfl
end
end Go.Sl
