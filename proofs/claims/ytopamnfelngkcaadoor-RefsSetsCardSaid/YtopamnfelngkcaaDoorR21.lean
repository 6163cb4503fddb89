/-
  Layer 12: laws on rows of many cells: copy, clear, a cut slice, cells written into a row. No program's function is walked here.
-/
import Derived.Test.YtopamnfelngkcaaDoorR10
import Derived.Laws.CopyRow
import Derived.Lib.Overlaps
import Derived.Lib.SliceRun
import Derived.Lib.AppendZerosOnto
namespace Go.Refs
open Go.Sl Go.Route
/-- vs written over c from o on -/
def over {α : Type} (c : List α) (o : Nat) (vs : List α) : List α := c.take o ++ vs ++ c.drop (o + vs.length)
section
variable {α : Type} {c vs : List α} {o k : Nat}
theorem over_len (h : o + vs.length ≤ c.length) : (over c o vs).length = c.length := by unfold over; simp only [List.length_append, List.length_take, List.length_drop]; omega
theorem over_take (h : o + vs.length ≤ c.length) (hk : k ≤ o) : (over c o vs).take k = c.take k := by
  unfold over
  rw [List.append_assoc, List.take_append_of_le_length (by rw [List.length_take]; omega), List.take_take, show min k o = k by omega]
theorem over_drop (h : o + vs.length ≤ c.length) (hk : o + vs.length ≤ k) : (over c o vs).drop k = c.drop k := by
  unfold over
  rw [List.drop_append, List.drop_of_length_le (by rw [List.length_append, List.length_take]; omega), List.nil_append, List.drop_drop, List.length_append, List.length_take]
  congr 1; omega
theorem over_mid (h : o + vs.length ≤ c.length) : ((over c o vs).drop o).take vs.length = vs := by
  unfold over
  have e : (c.take o).length = o := by rw [List.length_take]; omega
  rw [List.append_assoc, List.drop_append, List.drop_of_length_le (by omega), List.nil_append, e, Nat.sub_self, List.drop_zero, List.take_left]
theorem take_two (c : List α) (a b : Nat) : c.take (a + b) = c.take a ++ (c.drop a).take b := List.take_add ..
end
section
variable {α β : Type} {en : α → List β} {s : Nat}
theorem flat_len (hs : ∀ x, (en x).length = s) (l : List α) : (l.flatMap en).length = l.length * s := by
  induction l with
  | nil => simp
  | cons x l ih => rw [List.flatMap_cons, List.length_append, ih, hs, List.length_cons, Nat.succ_mul]; omega
theorem flat_take (hs : ∀ x, (en x).length = s) (l : List α) (k : Nat) : (l.flatMap en).take (k * s) = (l.take k).flatMap en := by
  induction l generalizing k with
  | nil => simp
  | cons x l ih =>
    cases k with
    | zero => simp
    | succ k => rw [List.flatMap_cons, List.take_succ_cons, List.flatMap_cons, Nat.succ_mul, Nat.add_comm, take_two, List.take_left' (hs x), List.drop_left' (hs x), ih]
theorem flat_drop (hs : ∀ x, (en x).length = s) (l : List α) (k : Nat) : (l.flatMap en).drop (k * s) = (l.drop k).flatMap en := by
  induction l generalizing k with
  | nil => simp
  | cons x l ih =>
    cases k with
    | zero => simp
    | succ k => rw [List.flatMap_cons, List.drop_succ_cons, Nat.succ_mul, Nat.add_comm, ← List.drop_drop, List.drop_left' (hs x), ih]
end
end Go.Refs

namespace Go.Proofs.YtopamnfelngkcaaDoor.Rf
open Go.Proofs Go.RowKit Go.Shelf Go.Sl Go.Route Go.Refs
set_option linter.unusedVariables false

theorem setCells_row (g : Nat) (t : TypeId) : ∀ (vs : List Value) (o : Nat) (cur : Array Value) (w : World), w.heap[g]? = some (.cells cur t (0, 0)) → o + vs.length ≤ cur.size →
    w.setCells g o vs = w.setRow g (over cur.toList o vs).toArray
  | [], o, cur, w, hg, _ => by
    unfold over World.setCells
    simp only [List.append_nil, List.length_nil, Nat.add_zero, List.take_append_drop, Array.toArray_toList]
    exact (setRow_self w g cur t (0, 0) hg).symm
  | v :: rest, o, cur, w, hg, hl => by
    rw [World.setCells, setCell_eq_setRow w g o cur t (0, 0) v hg]
    rw [setCells_row g t rest (o + 1) (cur.setIfInBounds o v) _ (setRow_heap w g cur _ t _ hg) (by simp at hl ⊢; omega), setRow_setRow]
    congr 2
    unfold over
    have e := list_seg_step cur.toList o v rest (by simp at hl ⊢; omega)
    simpa [Array.toList_setIfInBounds, Nat.add_assoc] using e

section
variable {P : Program} {w : World} {dT sT elem : TypeId} {g o s : Nat} {cur : Array Value}
theorem run_copyS (ty : TypeId) (dLen dCap : Nat) (a : Addr) (sLen sCap : Nat) (t : TypeId) (cs : List Value)
    (hu : P.underlying dT = some (.slice elem)) (hs : (P.info? elem).map (·.size) = some s)
    (hg : w.heap[g]? = some (.cells cur t (0, 0))) (hn : cs.length = Nat.min sLen dLen * s)
    (hsrc : ∀ j v, cs[j]? = some v → w.cell? (a.add j) = some v) (hfit : o + cs.length ≤ cur.size) (h1 : ∀ v ∈ cs, v.oneCell' = true) :
    (Builtin.copy_ #[dT, sT] ty #[.slice (some ⟨g, o, none⟩) dLen dCap, .slice (some a) sLen sCap]).run P w =
      .ok (goInt (Nat.min sLen dLen)) (w.setRow g (over cur.toList o cs).toArray) := by
  have hl := run_loadCells_list (P := P) w a cs hsrc
  have hst := run_storeCells_at P g o t cs 0 cur w hg (by simpa using hfit) h1
  cases hq : P.info? elem with
  | none => simp [hq] at hs
  | some i =>
    have hi : i.size = s := by simpa [hq] using hs
    simp [Builtin.copy_, run_underlying hu, Builtin.lenOf, Builtin.firstCells, sizeOf, typeInfo, hq, hi, ← hn, hl, hst, over]
theorem run_clearS (ty : TypeId) (n c : Nat) (z : Value) (t : TypeId) (cs : List Value) (hu : P.underlying dT = some (.slice elem)) (hv : ∀ w, (zeroValue elem).run P w = .ok z w) (hn : 0 < n)
    (hg : w.heap[g]? = some (.cells cur t (0, 0))) (hz : (Builtin.zeroCells z.cells n).toList = cs) (hfit : o + cs.length ≤ cur.size) (h1 : ∀ v ∈ cs, v.oneCell' = true) :
    (Builtin.clear_ #[dT] ty #[.slice (some ⟨g, o, none⟩) n c]).run P w = .ok (.tuple #[]) (w.setRow g (over cur.toList o cs).toArray) := by
  have hst := run_storeCells_at P g o t cs 0 cur w hg (by simpa using hfit) h1
  obtain ⟨m, rfl⟩ : ∃ m, n = m + 1 := ⟨n - 1, by omega⟩
  simp [Builtin.clear_, run_underlying hu, hv, hz, hst, over]
end

/-- the operation copy where its run is known -/
theorem wp_copyR {P : Program} (w : World) {o : Oper} {a : Act} {K : Act → World → Prop} {Q : Exit → Act → World → Prop} (d s : Operand) (t t' : TypeId)
    (ho : o.op = .call { callee := .builtin .copy, args := #[d, s], argTypes := #[t, t'] }) (v u : Value) (hd : a.eval d = v) (hs : a.eval s = u) {v' : Value} {w' : World}
    (hr : (Builtin.copy_ #[t, t'] o.type #[v, u]).run P w = .ok v' w') (h : K (a.put o.dst v') w') : o.wp P a w K Q := by
  unfold Oper.wp execOp
  simp only [ho, resolve, invoke, builtin, Sem.run_bind, Sem.run_pure, Result.andThen_ok, List.map_toArray, List.map_cons, List.map_nil, hd, hs, hr]
  exact h
theorem wpList_copyR {P : Program} (w : World) {ops : Array Oper} {rest : List Oper} {o : Oper} {a : Act} {Q : Exit → Act → World → Prop} (hgd : o.guard = none) (d s : Operand) (t t' : TypeId)
    (ho : o.op = .call { callee := .builtin .copy, args := #[d, s], argTypes := #[t, t'] }) (v u : Value) (hd : a.eval d = v) (hs : a.eval s = u) {v' : Value} {w' : World}
    (hr : (Builtin.copy_ #[t, t'] o.type #[v, u]).run P w = .ok v' w') (h : wpList P ops Q rest (a.put o.dst v') w') : wpList P ops Q (o :: rest) a w :=
  wpList_plain hgd fun _ hK => wp_copyR w d s t t' ho v u hd hs hr (hK _ _ h)
theorem wpList_clearR {P : Program} (w : World) {ops : Array Oper} {rest : List Oper} {o : Oper} {a : Act} {Q : Exit → Act → World → Prop} (hgd : o.guard = none) (d : Operand) (t : TypeId)
    (ho : o.op = .call { callee := .builtin .clear, args := #[d], argTypes := #[t] }) (v : Value) (hd : a.eval d = v) {v' : Value} {w' : World}
    (hr : (Builtin.clear_ #[t] o.type #[v]).run P w = .ok v' w') (h : wpList P ops Q rest (a.put o.dst v') w') : wpList P ops Q (o :: rest) a w :=
  wpList_plain hgd fun _ hK => by
    unfold Oper.wp execOp
    simp only [ho, resolve, invoke, builtin, Sem.run_bind, Sem.run_pure, Result.andThen_ok, List.map_toArray, List.map_cons, List.map_nil, hd, hr]
    exact hK _ _ h

theorem elem37 : Tryd.prog.elem 37 = 43 := by kernel_rfl
theorem sz43 (w : World) : (sizeOf 43).run Tryd.prog w = .ok 33 w := by
  have h : (Tryd.prog.info? 43).map (·.size) = some 33 := by have := zero43; cases hq : Tryd.prog.info? 43 with
    | none => rw [hq] at this; simp at this
    | some i => rw [hq] at this; simp at this; simp [this.2]
  obtain ⟨i, hi1, hi2⟩ := Option.map_eq_some_iff.1 h
  simp [sizeOf, typeInfo, hi1, hi2]
theorem cut_from {g o n cap lo : Nat} (h : lo ≤ n) (hc : cap ≠ lo) (ik : IntKind) (u : World) : (Instr.slice 37 (.slice (some ⟨g, o, none⟩) n cap) (some (.int ik (lo : Int))) none none).run Tryd.prog u = .ok (.slice (some ⟨g, o + lo * 33, none⟩) (n - lo) (cap - lo)) u := by
  rw [run_slice_l u 37 _ n cap (by rw [elem37]; exact Tryd.underlying37) ik lo (by omega) (by omega), elem37, sz43]
  simp [sliced, hc, Addr.add_lit]
theorem cut_upto {g o n cap hi : Nat} (h : hi ≤ cap) (ik : IntKind) (u : World) : (Instr.slice 37 (.slice (some ⟨g, o, none⟩) n cap) none (some (.int ik (hi : Int))) none).run Tryd.prog u = .ok (.slice (some ⟨g, o, none⟩) hi cap) u := by
  rw [run_slice_h u 37 _ n cap (by rw [elem37]; exact Tryd.underlying37) ik hi (by omega) (by omega), elem37, sz43]
  simp [sliced, Addr.add_lit]

/-- an own row, its parts named -/
theorem own_row {base g cap n : Nat} {cur : Array Value} {w : World} {l : List Go.Sl.Rf} (hb : base ≤ g) (hg : w.heap[g]? = some (.cells cur 43 (0, 0))) (hn : l.length = n) (hc : n ≤ cap) (hm : cap ≤ maxLen) (hs : cur.size = cap * 33) (ht : cur.toList.take (n * 33) = l.flatMap eRf) :
    Sl.Own eRf 33 base 43 w (.slice (some ⟨g, 0, none⟩) n cap) l := by
  subst hn
  exact ⟨flat_len len_eRf l, .inr ⟨g, cap, cur, rfl, hb, hg, hc, hm, hs, ht⟩⟩
theorem cells_in {w : World} {g k : Nat} {cur : Array Value} {t : TypeId} {fr : Nat × Nat} {cs : List Value} (hg : w.heap[g]? = some (.cells cur t fr)) (h : (cur.toList.drop k).take cs.length = cs) : ∀ j v, cs[j]? = some v → w.cell? ((⟨g, k, none⟩ : Addr).add j) = some v := fun j v hj => by
  have hjl : j < cs.length := (List.getElem?_eq_some_iff.1 hj).1
  rw [Addr.add_lit, ← hj, ← h, List.getElem?_take, if_pos hjl, List.getElem?_drop]
  simp [World.cell?, hg]
theorem one_flat (l : List Go.Sl.Rf) : ∀ v ∈ l.flatMap eRf, v.oneCell' = true := fun v hv => by
  obtain ⟨x, _, h⟩ := List.mem_flatMap.1 hv
  exact one_eRf x v h
end Go.Proofs.YtopamnfelngkcaaDoor.Rf
