/-
  Layer 12: laws on rows of many cells: copy, clear, a cut slice, cells written into a row. No program's function is walked here.
  Layer 12: slices.Clone and slices.Insert at the table's type. No condition besides what the arguments are.
  Layer 12: slices.Insert at the table's type. No condition besides what the arguments are.
  Layer 12: slices.Delete of one ref of an own table. No condition besides what the arguments are.
-/
import Derived.Test.YtopamnfelngkcaaDoorR10
import Derived.Laws.CopyRow
import Derived.Lib.Overlaps
import Derived.Lib.SliceRun
import Derived.Lib.AppendZerosOnto
import Derived.Shelf.RegionOpenPlain
import Derived.Deep.RegionLaw
import Derived.Laws.Externs
namespace Go.Refs
open Go.Sl Go.Route
/-- vs written over c from o on -/
def over {α : Type} (c : List α) (o : Nat) (vs : List α) : List α := c.take o ++ vs ++ c.drop (o + vs.length)
section
variable {α : Type} {c vs : List α} {o k : Nat}
theorem over_len (h : o + vs.length ≤ c.length) : (over c o vs).length = c.length := by unfold over; simp only [List.length_append, List.length_take, List.length_drop]; omega
theorem over_take (h : o + vs.length ≤ c.length) (hk : k ≤ o) : (over c o vs).take k = c.take k := by
  unfold over
  rw [List.append_assoc, List.take_append_of_le_length (by rw [List.length_take]; omega), List.take_take, show min k o = k by omega]
theorem over_drop (h : o + vs.length ≤ c.length) (hk : o + vs.length ≤ k) : (over c o vs).drop k = c.drop k := by
  unfold over
  rw [List.drop_append, List.drop_of_length_le (by rw [List.length_append, List.length_take]; omega), List.nil_append, List.drop_drop, List.length_append, List.length_take]
  congr 1; omega
theorem over_mid (h : o + vs.length ≤ c.length) : ((over c o vs).drop o).take vs.length = vs := by
  unfold over
  have e : (c.take o).length = o := by rw [List.length_take]; omega
  rw [List.append_assoc, List.drop_append, List.drop_of_length_le (by omega), List.nil_append, e, Nat.sub_self, List.drop_zero, List.take_left]
theorem take_two (c : List α) (a b : Nat) : c.take (a + b) = c.take a ++ (c.drop a).take b := List.take_add ..
end
section
variable {α β : Type} {en : α → List β} {s : Nat}
theorem flat_len (hs : ∀ x, (en x).length = s) (l : List α) : (l.flatMap en).length = l.length * s := by
  induction l with
  | nil => simp
  | cons x l ih => rw [List.flatMap_cons, List.length_append, ih, hs, List.length_cons, Nat.succ_mul]; omega
theorem flat_take (hs : ∀ x, (en x).length = s) (l : List α) (k : Nat) : (l.flatMap en).take (k * s) = (l.take k).flatMap en := by
  induction l generalizing k with
  | nil => simp
  | cons x l ih =>
    cases k with
    | zero => simp
    | succ k => rw [List.flatMap_cons, List.take_succ_cons, List.flatMap_cons, Nat.succ_mul, Nat.add_comm, take_two, List.take_left' (hs x), List.drop_left' (hs x), ih]
theorem flat_drop (hs : ∀ x, (en x).length = s) (l : List α) (k : Nat) : (l.flatMap en).drop (k * s) = (l.drop k).flatMap en := by
  induction l generalizing k with
  | nil => simp
  | cons x l ih =>
    cases k with
    | zero => simp
    | succ k => rw [List.flatMap_cons, List.drop_succ_cons, Nat.succ_mul, Nat.add_comm, ← List.drop_drop, List.drop_left' (hs x), ih]
end
end Go.Refs

namespace Go.Proofs.YtopamnfelngkcaaDoor.Rf
open Go.Proofs Go.RowKit Go.Shelf Go.Sl Go.Route Go.Refs
set_option linter.unusedVariables false

theorem setCells_row (g : Nat) (t : TypeId) : ∀ (vs : List Value) (o : Nat) (cur : Array Value) (w : World), w.heap[g]? = some (.cells cur t (0, 0)) → o + vs.length ≤ cur.size →
    w.setCells g o vs = w.setRow g (over cur.toList o vs).toArray
  | [], o, cur, w, hg, _ => by
    unfold over World.setCells
    simp only [List.append_nil, List.length_nil, Nat.add_zero, List.take_append_drop, Array.toArray_toList]
    exact (setRow_self w g cur t (0, 0) hg).symm
  | v :: rest, o, cur, w, hg, hl => by
    rw [World.setCells, setCell_eq_setRow w g o cur t (0, 0) v hg]
    rw [setCells_row g t rest (o + 1) (cur.setIfInBounds o v) _ (setRow_heap w g cur _ t _ hg) (by simp at hl ⊢; omega), setRow_setRow]
    congr 2
    unfold over
    have e := list_seg_step cur.toList o v rest (by simp at hl ⊢; omega)
    simpa [Array.toList_setIfInBounds, Nat.add_assoc] using e

section
variable {P : Program} {w : World} {dT sT elem : TypeId} {g o s : Nat} {cur : Array Value}
theorem run_copyS (ty : TypeId) (dLen dCap : Nat) (a : Addr) (sLen sCap : Nat) (t : TypeId) (cs : List Value)
    (hu : P.underlying dT = some (.slice elem)) (hs : (P.info? elem).map (·.size) = some s)
    (hg : w.heap[g]? = some (.cells cur t (0, 0))) (hn : cs.length = Nat.min sLen dLen * s)
    (hsrc : ∀ j v, cs[j]? = some v → w.cell? (a.add j) = some v) (hfit : o + cs.length ≤ cur.size) (h1 : ∀ v ∈ cs, v.oneCell' = true) :
    (Builtin.copy_ #[dT, sT] ty #[.slice (some ⟨g, o, none⟩) dLen dCap, .slice (some a) sLen sCap]).run P w =
      .ok (goInt (Nat.min sLen dLen)) (w.setRow g (over cur.toList o cs).toArray) := by
  have hl := run_loadCells_list (P := P) w a cs hsrc
  have hst := run_storeCells_at P g o t cs 0 cur w hg (by simpa using hfit) h1
  cases hq : P.info? elem with
  | none => simp [hq] at hs
  | some i =>
    have hi : i.size = s := by simpa [hq] using hs
    simp [Builtin.copy_, run_underlying hu, Builtin.lenOf, Builtin.firstCells, sizeOf, typeInfo, hq, hi, ← hn, hl, hst, over]
theorem run_clearS (ty : TypeId) (n c : Nat) (z : Value) (t : TypeId) (cs : List Value) (hu : P.underlying dT = some (.slice elem)) (hv : ∀ w, (zeroValue elem).run P w = .ok z w) (hn : 0 < n)
    (hg : w.heap[g]? = some (.cells cur t (0, 0))) (hz : (Builtin.zeroCells z.cells n).toList = cs) (hfit : o + cs.length ≤ cur.size) (h1 : ∀ v ∈ cs, v.oneCell' = true) :
    (Builtin.clear_ #[dT] ty #[.slice (some ⟨g, o, none⟩) n c]).run P w = .ok (.tuple #[]) (w.setRow g (over cur.toList o cs).toArray) := by
  have hst := run_storeCells_at P g o t cs 0 cur w hg (by simpa using hfit) h1
  obtain ⟨m, rfl⟩ : ∃ m, n = m + 1 := ⟨n - 1, by omega⟩
  simp [Builtin.clear_, run_underlying hu, hv, hz, hst, over]
end

/-- the operation copy where its run is known -/
theorem wp_copyR {P : Program} (w : World) {o : Oper} {a : Act} {K : Act → World → Prop} {Q : Exit → Act → World → Prop} (d s : Operand) (t t' : TypeId)
    (ho : o.op = .call { callee := .builtin .copy, args := #[d, s], argTypes := #[t, t'] }) (v u : Value) (hd : a.eval d = v) (hs : a.eval s = u) {v' : Value} {w' : World}
    (hr : (Builtin.copy_ #[t, t'] o.type #[v, u]).run P w = .ok v' w') (h : K (a.put o.dst v') w') : o.wp P a w K Q := by
  unfold Oper.wp execOp
  simp only [ho, resolve, invoke, builtin, Sem.run_bind, Sem.run_pure, Result.andThen_ok, List.map_toArray, List.map_cons, List.map_nil, hd, hs, hr]
  exact h
theorem wpList_copyR {P : Program} (w : World) {ops : Array Oper} {rest : List Oper} {o : Oper} {a : Act} {Q : Exit → Act → World → Prop} (hgd : o.guard = none) (d s : Operand) (t t' : TypeId)
    (ho : o.op = .call { callee := .builtin .copy, args := #[d, s], argTypes := #[t, t'] }) (v u : Value) (hd : a.eval d = v) (hs : a.eval s = u) {v' : Value} {w' : World}
    (hr : (Builtin.copy_ #[t, t'] o.type #[v, u]).run P w = .ok v' w') (h : wpList P ops Q rest (a.put o.dst v') w') : wpList P ops Q (o :: rest) a w :=
  wpList_plain hgd fun _ hK => wp_copyR w d s t t' ho v u hd hs hr (hK _ _ h)
theorem wpList_clearR {P : Program} (w : World) {ops : Array Oper} {rest : List Oper} {o : Oper} {a : Act} {Q : Exit → Act → World → Prop} (hgd : o.guard = none) (d : Operand) (t : TypeId)
    (ho : o.op = .call { callee := .builtin .clear, args := #[d], argTypes := #[t] }) (v : Value) (hd : a.eval d = v) {v' : Value} {w' : World}
    (hr : (Builtin.clear_ #[t] o.type #[v]).run P w = .ok v' w') (h : wpList P ops Q rest (a.put o.dst v') w') : wpList P ops Q (o :: rest) a w :=
  wpList_plain hgd fun _ hK => by
    unfold Oper.wp execOp
    simp only [ho, resolve, invoke, builtin, Sem.run_bind, Sem.run_pure, Result.andThen_ok, List.map_toArray, List.map_cons, List.map_nil, hd, hr]
    exact hK _ _ h

theorem elem37 : Tryd.prog.elem 37 = 43 := by kernel_rfl
theorem sz43 (w : World) : (sizeOf 43).run Tryd.prog w = .ok 33 w := by
  have h : (Tryd.prog.info? 43).map (·.size) = some 33 := by have := zero43; cases hq : Tryd.prog.info? 43 with
    | none => rw [hq] at this; simp at this
    | some i => rw [hq] at this; simp at this; simp [this.2]
  obtain ⟨i, hi1, hi2⟩ := Option.map_eq_some_iff.1 h
  simp [sizeOf, typeInfo, hi1, hi2]
theorem cut_from {g o n cap lo : Nat} (h : lo ≤ n) (hc : cap ≠ lo) (ik : IntKind) (u : World) : (Instr.slice 37 (.slice (some ⟨g, o, none⟩) n cap) (some (.int ik (lo : Int))) none none).run Tryd.prog u = .ok (.slice (some ⟨g, o + lo * 33, none⟩) (n - lo) (cap - lo)) u := by
  rw [run_slice_l u 37 _ n cap (by rw [elem37]; exact Tryd.underlying37) ik lo (by omega) (by omega), elem37, sz43]
  simp [sliced, hc, Addr.add_lit]
theorem cut_upto {g o n cap hi : Nat} (h : hi ≤ cap) (ik : IntKind) (u : World) : (Instr.slice 37 (.slice (some ⟨g, o, none⟩) n cap) none (some (.int ik (hi : Int))) none).run Tryd.prog u = .ok (.slice (some ⟨g, o, none⟩) hi cap) u := by
  rw [run_slice_h u 37 _ n cap (by rw [elem37]; exact Tryd.underlying37) ik hi (by omega) (by omega), elem37, sz43]
  simp [sliced, Addr.add_lit]

/-- an own row, its parts named -/
theorem own_row {base g cap n : Nat} {cur : Array Value} {w : World} {l : List Go.Sl.Rf} (hb : base ≤ g) (hg : w.heap[g]? = some (.cells cur 43 (0, 0))) (hn : l.length = n) (hc : n ≤ cap) (hm : cap ≤ maxLen) (hs : cur.size = cap * 33) (ht : cur.toList.take (n * 33) = l.flatMap eRf) :
    Sl.Own eRf 33 base 43 w (.slice (some ⟨g, 0, none⟩) n cap) l := by
  subst hn
  exact ⟨flat_len len_eRf l, .inr ⟨g, cap, cur, rfl, hb, hg, hc, hm, hs, ht⟩⟩
theorem cells_in {w : World} {g k : Nat} {cur : Array Value} {t : TypeId} {fr : Nat × Nat} {cs : List Value} (hg : w.heap[g]? = some (.cells cur t fr)) (h : (cur.toList.drop k).take cs.length = cs) : ∀ j v, cs[j]? = some v → w.cell? ((⟨g, k, none⟩ : Addr).add j) = some v := fun j v hj => by
  have hjl : j < cs.length := (List.getElem?_eq_some_iff.1 hj).1
  rw [Addr.add_lit, ← hj, ← h, List.getElem?_take, if_pos hjl, List.getElem?_drop]
  simp [World.cell?, hg]
theorem one_flat (l : List Go.Sl.Rf) : ∀ v ∈ l.flatMap eRf, v.oneCell' = true := fun v hv => by
  obtain ⟨x, _, h⟩ := List.mem_flatMap.1 hv
  exact one_eRf x v h
end Go.Proofs.YtopamnfelngkcaaDoor.Rf

namespace Go.Proofs.YtopamnfelngkcaaDoor.Rf
open Go.Proofs Go.RowKit Go.Shelf Go.Sl Go.Route Go.Refs
set_option linter.unusedVariables false

theorem step_copyR {P : Program} {ops : Array Oper} {o : Oper} {a : Act} {w : World} {K : Act → World → Prop} {Q : Exit → Act → World → Prop} {E : Prop}
    (hg : o.guard = none) (d x : Operand) (dT sT : TypeId) (hop : o.op = Op.call { callee := Callee.builtin Builtin.copy, args := #[d, x], argTypes := #[dT, sT] })
    (v u : Value) (hd : a.eval d = v) (hx : a.eval x = u) {v' : Value} {w' : World} (hr : (Builtin.copy_ #[dT, sT] o.type #[v, u]).run P w = .ok v' w') (hK : K (a.put o.dst v') w') :
    if Region.wanted o (yielded ops a.tmps) = true then Oper.wp P o a w K Q else E := by
  rw [if_pos (by simp [Region.wanted, hg])]
  exact wp_copyR w d x dT sT hop v u hd hx hr hK

theorem made0 (w : World) : Sl.Own eRf 33 w.heap.size 43 (w.alloc (.cells #[] 43)) (.slice (some ⟨w.heap.size, 0, none⟩) 0 0) [] := World.ownsRow_made w #[] 0 (Nat.le_refl _) (Nat.zero_le _) (by simp)

set_option maxRecDepth 100000 in
set_option maxHeartbeats 1000000 in
theorem clone_any (v : Value) (l : List Go.Sl.Rf) (w : World) (hv : Sl eRf 33 w v l) (hL : l.length ≤ 100000) :
    Calls Tryd.prog 89 #[v] w fun e w' => ∃ ov, e = .returned ov ∧ Sl.Own eRf 33 w.heap.size 43 w' ov l ∧ Below w.heap.size w w' := by
  obtain ⟨ao, cap, rfl, h1, h2, h3, _⟩ := hv.shp
  have q37 : ∀ (w : World) (a : Option Addr) (n c n' c' : Nat), (binOp .eql 37 (.slice a n c) (.slice none n' c')).run Tryd.prog w = .ok (.bool a.isNone) w := fun w a n c n' c' => Lib.run_eql_slice_nil w _ _ a n c n' c' Tryd.underlying37
  have s43 := sz43
  have HV := Lib.hid hv
  clear hv
  cases ao with
  | none =>
    obtain rfl := h3 rfl
    obtain rfl : l = [] := List.length_eq_zero_iff.1 (by omega)
    go_enter Tryd.func89, Tryd.ntmps89
    go_wp2_with fail
    go_ret
    exact ⟨_, rfl, Sl.Own.nil _ _ _ _ _, Below.refl _ _⟩
  | some a =>
    obtain ⟨b, o, sp⟩ := a
    go_enter Tryd.func89, Tryd.ntmps89
    go_wp2_with (at_builtin; go_must (refine wpList_append rfl (en := eRf) (s := 33) (base := w.heap.size) (e := 43) _ _ 37 rfl (vRf zRf) 48 Tryd.underlying37 info43 (size_eRf _) (by decide) len_eRf one_eRf _ _ [] l rfl (made0 w) rfl (HV.out.ext ((Below.refl _ _).alloc (Nat.le_refl _) _)) (by simp only [maxLen, List.length_nil]; omega) (by simp only [List.length_nil]; omega) (by simp) ?_; intro ov' w6 hown hgr hbel; have HO := Lib.hid hown; have HW := Lib.hid (((Below.refl _ w).alloc (Nat.le_refl _) (.cells #[] 43)).trans hbel); clear hown hgr hbel))
    go_ret
    exact ⟨_, rfl, HO.out, HW.out⟩
end Go.Proofs.YtopamnfelngkcaaDoor.Rf

namespace Go.Refs
open Go.Sl Go.Route
theorem over_over {α : Type} {c D v : List α} {i n s : Nat} (hv : v.length = s) (hD : D.length = (n - i) * s) (hi : i < n) (hc : (n + 1) * s ≤ c.length) :
    (over (over c ((i + 1) * s) D) (i * s) v).take ((n + 1) * s) = c.take (i * s) ++ v ++ D := by
  have e1 : (i + 1) * s + (n - i) * s = (n + 1) * s := by rw [← Nat.add_mul]; congr 1; omega
  have e2 : (i + 1) * s = i * s + s := Nat.succ_mul _ _
  have hA : (i + 1) * s + D.length ≤ c.length := by omega
  have hB : i * s + v.length ≤ (over c ((i + 1) * s) D).length := by rw [over_len hA]; omega
  have h6 : (over c ((i + 1) * s) D).take (i * s) = c.take (i * s) := over_take hA (by omega)
  rw [← e1, take_two, ← hD, over_drop hB (by omega), over_mid hA]
  congr 1
  generalize over c ((i + 1) * s) D = c1 at hB h6 ⊢
  rw [e2, take_two, over_take hB (Nat.le_refl _), h6]
  congr 1
  have := over_mid hB
  rw [hv] at this
  rw [this]
theorem over_over' {α : Type} {c D v : List α} {i n s : Nat} (hv : v.length = s) (hD : D.length = (n - i) * s) (hi : i < n) (hc : (n + 1) * s ≤ c.length) :
    (over (over c (i * s) v) ((i + 1) * s) D).take ((n + 1) * s) = c.take (i * s) ++ v ++ D := by
  have e1 : (i + 1) * s + (n - i) * s = (n + 1) * s := by rw [← Nat.add_mul]; congr 1; omega
  have e2 : (i + 1) * s = i * s + s := Nat.succ_mul _ _
  have hA : i * s + v.length ≤ c.length := by omega
  have hB : (i + 1) * s + D.length ≤ (over c (i * s) v).length := by rw [over_len hA]; omega
  rw [← e1, take_two, ← hD, over_mid hB, e2]
  rw [e2] at hB
  rw [take_two, over_take hB (by omega), over_take hA (Nat.le_refl _)]
  congr 1
  have h3 : ((over (over c (i * s) v) (i * s + s) D).drop (i * s)).take s = ((over (over c (i * s) v) (i * s + s) D).take (i * s + s)).drop (i * s) := by rw [List.drop_take]; congr 1; omega
  rw [h3, over_take hB (Nat.le_refl _), List.drop_take, show i * s + s - i * s = s by omega]
  have := over_mid hA
  rw [hv] at this
  rw [this]
end Go.Refs
namespace Go.Proofs.YtopamnfelngkcaaDoor.Rf
open Go.Proofs Go.RowKit Go.Shelf Go.Sl Go.Route Go.Refs
set_option linter.unusedVariables false

theorem info33 : (Tryd.prog.info? 43).map (·.size) = some 33 := by kernel_rfl
theorem flat_mid {l : List Go.Sl.Rf} {x : Go.Sl.Rf} {i : Nat} : (l.take i ++ x :: l.drop i).flatMap eRf = (l.take i).flatMap eRf ++ eRf x ++ (l.drop i).flatMap eRf := by
  rw [List.flatMap_append, List.flatMap_cons, List.append_assoc]

set_option maxRecDepth 100000 in
set_option maxHeartbeats 2000000 in
theorem insert_room (g cap n i xb : Nat) (cur : Array Value) (l : List Go.Sl.Rf) (x : Go.Sl.Rf) (w : World) (base : Nat) (hb : base ≤ g) (hg : w.heap[g]? = some (.cells cur 43 (0, 0))) (hn : l.length = n) (hroom : n + 1 ≤ cap) (hm : cap ≤ maxLen) (hs : cur.size = cap * 33) (ht : cur.toList.take (n * 33) = l.flatMap eRf)
    (hi : i < n) (hx : w.heap[xb]? = some (.cells (eRf x).toArray 43 (0, 0))) (hne : xb ≠ g) :
    Calls Tryd.prog 90 #[.slice (some ⟨g, 0, none⟩) n cap, .int .i64 i, .slice (some ⟨xb, 0, none⟩) 1 1] w fun e w' => ∃ ov, e = .returned ov ∧ Sl.Own eRf 33 base 43 w' ov (l.take i ++ x :: l.drop i) ∧ Below base w w' := by
  have hm2 : cap ≤ 9223372036854775807 := by simpa [maxLen] using hm
  have hxl : (eRf x).length = 33 := len_eRf x
  obtain ⟨D, hD⟩ : ∃ D, Hid ((l.drop i).flatMap eRf = D) := ⟨_, Lib.hid rfl⟩
  have hDl : D.length = (n - i) * 33 := by rw [← hD.out, flat_len len_eRf, List.length_drop, hn]
  have hDc : (cur.toList.drop (i * 33)).take D.length = D := by
    rw [hDl, Nat.sub_mul, ← hD.out, ← flat_drop len_eRf, ← ht, List.drop_take]
  have hcl : cur.toList.length = cap * 33 := by simpa using hs
  have hfit : (i + 1) * 33 + D.length ≤ cur.size := by rw [hDl, hs]; omega
  obtain ⟨C1, hC1⟩ : ∃ C, Hid ((over cur.toList ((i + 1) * 33) D).toArray = C) := ⟨_, Lib.hid rfl⟩
  have hC1s : C1.size = cap * 33 := by rw [← hC1.out]; simp only [List.size_toArray]; rw [over_len (by rw [hcl]; omega), hcl]
  obtain ⟨C2, hC2⟩ : ∃ C, Hid ((over C1.toList (i * 33) (eRf x)).toArray = C) := ⟨_, Lib.hid rfl⟩
  have hC2s : C2.size = cap * 33 := by rw [← hC2.out]; simp only [List.size_toArray]; rw [over_len (by simp only [Array.length_toList]; omega)]; simpa using hC1s
  have HT : Hid (C2.toList.take ((n + 1) * 33) = (l.take i ++ x :: l.drop i).flatMap eRf) := Lib.hid (by
    rw [← hC2.out, ← hC1.out]
    simp only []
    rw [over_over hxl hDl hi (by rw [hcl]; omega), flat_mid, hD.out]
    congr 2
    rw [← flat_take len_eRf, ← ht, List.take_take]; congr 1; omega)
  have cp1 : Hid (∀ W : World, W.heap[g]? = some (.cells cur 43 (0, 0)) → ∀ ty dc sc, (Builtin.copy_ #[37, 37] ty #[.slice (some ⟨g, (i + 1) * 33, none⟩) (n - i) dc, .slice (some ⟨g, i * 33, none⟩) (n + 1 - i) sc]).run Tryd.prog W = .ok (goInt (n - i : Nat)) (W.setRow g C1)) := Lib.hid (fun W hW ty dc sc => by
    rw [run_copyS ty _ dc _ _ sc 43 D Tryd.underlying37 info33 hW (by rw [hDl]; congr 1; simp only [Nat.min_def]; split <;> omega) (cells_in hW hDc) hfit (by rw [← hD.out]; exact one_flat _), hC1.out]
    congr 2; simp only [Nat.min_def]; split <;> omega)
  have cp2 : Hid (∀ W : World, W.heap[g]? = some (.cells C1 43 (0, 0)) → W.heap[xb]? = some (.cells (eRf x).toArray 43 (0, 0)) → ∀ ty dc, (Builtin.copy_ #[37, 37] ty #[.slice (some ⟨g, i * 33, none⟩) (n + 1 - i) dc, .slice (some ⟨xb, 0, none⟩) 1 1]).run Tryd.prog W = .ok (goInt (1 : Nat)) (W.setRow g C2)) := Lib.hid (fun W hW hX ty dc => by
    rw [run_copyS ty _ dc _ _ _ 43 (eRf x) Tryd.underlying37 info33 hW (by rw [hxl]; simp only [Nat.min_def]; split <;> omega) (cells_in hX (by simp)) (by rw [hxl, hC1s]; omega) (fun v hv => one_eRf x v hv), hC2.out]
    congr 2; simp only [Nat.min_def]; split <;> omega)
  have hov : ∀ (lb cb : Nat), (callFunc 109 #[.slice (some ⟨xb, 0, none⟩) 1 1, .slice (some ⟨g, (i + 1) * 33, none⟩) lb cb]).run Tryd.prog w = .ok (.value (.bool false)) w := fun lb cb => by
    rw [run_callFunc_extern Tryd.func109 (by kernel_rfl) (by kernel_rfl) (by kernel_rfl) (e := Extern.SlicesOverlaps.overlaps #[37, 37] #[4]) (by kernel_rfl),
      Lib.run_overlaps_apart w 37 4 43 Tryd.underlying37 33 sz43 ⟨xb, 0, none⟩ ⟨g, (i + 1) * 33, none⟩ 1 1 lb cb hne 43 43 33 (cap * 33) (by simp [World.shape?, hx, hxl]) (by simp [World.shape?, hg, hs]) (by omega) (by simp [World.frozen?, hx]) (by simp [World.frozen?, hx])]
    rfl
  have u37 := run_underlying (P := Tryd.prog) Tryd.underlying37
  have sA : ∀ (ik : IntKind) (u : World), (Instr.slice 37 (.slice (some ⟨g, 0, none⟩) n cap) (some (.int ik (i : Int))) none none).run Tryd.prog u = .ok (.slice (some ⟨g, i * 33, none⟩) (n - i) (cap - i)) u := fun ik u => by
    have := cut_from (g := g) (o := 0) (n := n) (cap := cap) (lo := i) (by omega) (by omega) ik u; rwa [Nat.zero_add] at this
  have sB : ∀ (ik : IntKind) (u : World), (Instr.slice 37 (.slice (some ⟨g, 0, none⟩) n cap) none (some (.int ik ((n : Int) + 1))) none).run Tryd.prog u = .ok (.slice (some ⟨g, 0, none⟩) (n + 1) cap) u := fun ik u => by
    have := cut_upto (g := g) (o := 0) (n := n) (cap := cap) (hi := n + 1) (by omega) ik u; exact this
  have sC : ∀ (ik : IntKind) (u : World), (Instr.slice 37 (.slice (some ⟨g, 0, none⟩) (n + 1) cap) (some (.int ik ((i : Int) + 1))) none none).run Tryd.prog u = .ok (.slice (some ⟨g, (i + 1) * 33, none⟩) (n - i) (cap - (i + 1))) u := fun ik u => by
    have := cut_from (g := g) (o := 0) (n := n + 1) (cap := cap) (lo := i + 1) (by omega) (by omega) ik u; rw [Nat.zero_add, show n + 1 - (i + 1) = n - i by omega] at this; exact this
  have sD : ∀ (ik : IntKind) (u : World), (Instr.slice 37 (.slice (some ⟨g, 0, none⟩) (n + 1) cap) (some (.int ik (i : Int))) none none).run Tryd.prog u = .ok (.slice (some ⟨g, i * 33, none⟩) (n + 1 - i) (cap - i)) u := fun ik u => by
    have := cut_from (g := g) (o := 0) (n := n + 1) (cap := cap) (lo := i) (by omega) (by omega) ik u; rwa [Nat.zero_add] at this
  have dn : ((i : Int) == (n : Int)) = false := by rw [beq_eq_false_iff_ne]; omega
  have dn2 : ¬ (i : Int) = (n : Int) := by omega
  have dc : decide ((cap : Int) < (n : Int) + 1) = false := decide_eq_false (by omega)
  have w1 : IntKind.i64.wrap ((n : Int) + 1) = (n : Int) + 1 := by rw [IntKind.wrap_i64]; omega
  have w2 : IntKind.i64.wrap ((i : Int) + 1) = (i : Int) + 1 := by rw [IntKind.wrap_i64]; omega
  have HG := Lib.hid hg
  have HX := Lib.hid hx
  clear hg hx ht hfit hDc hD hcl hC1 hC2 hDl
  go_enter Tryd.func90, Tryd.ntmps90
  go_wp2_with (simp only [hov])
  have HG1 := Lib.hid (setRow_heap w.drew g cur C1 43 (0, 0) HG.out)
  have HX1 : Hid ((w.drew.setRow g C1).heap[xb]? = some (.cells (eRf x).toArray 43 (0, 0))) := Lib.hid ((setRow_other w.drew g xb C1 hne).trans HX.out)
  have mixed : Tryd.prog.follows Departure.mixedOrders = true := by kernel_rfl
  go_region_law_o (refine step_copyR rfl _ _ 37 37 rfl (.slice (some ⟨g, (i + 1) * 33, none⟩) (n - i) (cap - (i + 1))) (.slice (some ⟨g, i * 33, none⟩) (n + 1 - i) (cap - i)) (by simp [Act.eval, Act.put]) (by simp [Act.eval, Act.put]) (cp1.out w.drew HG.out _ _ _) ?_)
  go_wp2_with (refine wpList_copyR (w.drew.setRow g C1) rfl _ _ 37 37 rfl _ _ rfl rfl (cp2.out (w.drew.setRow g C1) HG1.out HX1.out _ _) ?_)
  go_ret
  exact ⟨_, rfl, own_row hb (setRow_heap _ _ _ _ _ _ HG1.out) (by simp; omega) hroom hm hC2s HT.out, below_setRow (below_setRow (Below.refl base w).drew hb _) hb _⟩

set_option maxRecDepth 100000 in
set_option maxHeartbeats 2000000 in
theorem insert_grow (g cap n i xb : Nat) (cur : Array Value) (l : List Go.Sl.Rf) (x : Go.Sl.Rf) (w : World) (base : Nat) (hb : base ≤ w.heap.size) (hg : w.heap[g]? = some (.cells cur 43 (0, 0))) (hn : l.length = n) (hnc : n ≤ cap) (hroom : cap < n + 1) (hL : n ≤ 100000) (hs : cur.size = cap * 33) (ht : cur.toList.take (n * 33) = l.flatMap eRf)
    (hi : i < n) (hx : w.heap[xb]? = some (.cells (eRf x).toArray 43 (0, 0))) :
    Calls Tryd.prog 90 #[.slice (some ⟨g, 0, none⟩) n cap, .int .i64 i, .slice (some ⟨xb, 0, none⟩) 1 1] w fun e w' => ∃ ov, e = .returned ov ∧ Sl.Own eRf 33 base 43 w' ov (l.take i ++ x :: l.drop i) ∧ Below base w w' := by
  have hxl : (eRf x).length = 33 := len_eRf x
  have hgs : g < w.heap.size := (Array.getElem?_eq_some_iff.1 hg).1
  have hxs : xb < w.heap.size := (Array.getElem?_eq_some_iff.1 hx).1
  obtain ⟨D, hD⟩ : ∃ D, Hid ((l.drop i).flatMap eRf = D) := ⟨_, Lib.hid rfl⟩
  have hDl : D.length = (n - i) * 33 := by rw [← hD.out, flat_len len_eRf, List.length_drop, hn]
  have hDc : (cur.toList.drop (i * 33)).take D.length = D := by
    rw [hDl, Nat.sub_mul, ← hD.out, ← flat_drop len_eRf, ← ht, List.drop_take]
  have hcl : cur.toList.length = cap * 33 := by simpa using hs
  obtain ⟨T, hT⟩ : ∃ T, Hid ((l.take i).flatMap eRf = T) := ⟨_, Lib.hid rfl⟩
  have hTl : T.length = i * 33 := by rw [← hT.out, flat_len len_eRf, List.length_take, hn]; congr 1; omega
  have hTc : (cur.toList.drop 0).take T.length = T := by
    rw [hTl, List.drop_zero, ← hT.out, ← flat_take len_eRf, ← ht, List.take_take]; congr 1; omega
  obtain ⟨i0, hi0, h0⟩ : ∃ i0, Tryd.prog.info? 43 = some i0 ∧ (i0.zero, i0.size, i0.bytes) = (some (vRf zRf), 33, 48) := by
    have := info43
    cases hq : Tryd.prog.info? 43 with
    | none => rw [hq] at this; simp at this
    | some i0 => rw [hq] at this; exact ⟨i0, rfl, by simpa using this⟩
  obtain ⟨hz0, hzs, hzb⟩ : i0.zero = some (vRf zRf) ∧ i0.size = 33 ∧ i0.bytes = 48 := by simpa using h0
  have hzc : ((vRf zRf).cells).size = 33 := size_eRf zRf
  have hold : (Builtin.firstCells i0.size i (.slice (some ⟨g, 0, none⟩) i cap)).run Tryd.prog w.drew = .ok T.toArray w.drew := by
    rw [hzs]
    exact run_firstCells_some w.drew 33 i ⟨g, 0, none⟩ i cap T hTl (cells_in (w := w.drew) hg hTc)
  obtain ⟨G, hG⟩ : ∃ G, Hid (grownCap w (n + 1) cap 43 = G) := ⟨_, Lib.hid rfl⟩
  have hGn : n + 1 ≤ G := by rw [← hG.out]; exact grownCap_ge w _ _ _
  have hG63 : G ≤ maxLen := by rw [← hG.out]; exact grownCap_le_maxLen w (n + 1) cap 43 (by unfold maxLen; omega)
  have hG64 : G ≤ 9223372036854775807 := by simpa [maxLen] using hG63
  obtain ⟨R, hR⟩ : ∃ R : Array Value, Hid (T.toArray ++ Builtin.zeroCells (vRf zRf).cells (n + 1 - i) ++ Builtin.zeroCells (vRf zRf).cells (G - (n + 1)) = R) := ⟨_, Lib.hid rfl⟩
  have hRs : R.size = G * 33 := by
    rw [← hR.out]
    simp only [Array.size_append, List.size_toArray, Builtin.zeroCells, Array.size_map, Array.size_range, hzc, hTl]
    omega
  have hRl : R.toList.length = G * 33 := by simpa using hRs
  have hRt : R.toList.take (i * 33) = T := by
    rw [← hR.out, Array.toList_append, Array.toList_append, List.append_assoc, List.take_left' hTl]
  have hrz : Hid (∀ ty, (Builtin.append_ #[37, 3] ty #[.slice (some ⟨g, 0, none⟩) i cap, .int .i64 ((n : Int) + 1 - (i : Int))]).run Tryd.prog w =
      .ok (.slice (some ⟨w.heap.size, 0, none⟩) (n + 1) G) (w.drew.alloc (.cells R 43))) := Lib.hid (fun ty => by
    have h := Lib.run_append_grow_zeros w 37 3 ty 43 i0 _ .i64 .i64 Tryd.underlying37 Tryd.underlying3 hi0 hz0 (some ⟨g, 0, none⟩) i cap T hold (n + 1 - i) (by omega) (by rw [hzs]; omega) (by omega) (by omega) (by rw [hzb]; omega) (by rw [hzb, show i + (n + 1 - i) = n + 1 by omega]; exact growslice_fits hroom (by omega))
    rw [show i + (n + 1 - i) = n + 1 by omega, hG.out, hR.out] at h
    rw [show (n : Int) + 1 - (i : Int) = ((n + 1 - i : Nat) : Int) by omega]
    exact h)
  obtain ⟨W1, hW1⟩ : ∃ W1, Hid (w.drew.alloc (.cells R 43) = W1) := ⟨_, Lib.hid rfl⟩
  rw [hW1.out] at hrz
  obtain ⟨N, hN⟩ : ∃ N, w.heap.size = N := ⟨_, rfl⟩
  have HR1 : Hid (W1.heap[N]? = some (.cells R 43 (0, 0))) := Lib.hid (by rw [← hW1.out, ← hN]; exact heap_alloc_new w.drew _)
  have HX1 : Hid (W1.heap[xb]? = some (.cells (eRf x).toArray 43 (0, 0))) := Lib.hid (by rw [← hW1.out]; exact heap_keep (w := w.drew) hx)
  have HG1 : Hid (W1.heap[g]? = some (.cells cur 43 (0, 0))) := Lib.hid (by rw [← hW1.out]; exact heap_keep (w := w.drew) hg)
  have HB1 : Hid (Below base w W1) := Lib.hid (by rw [← hW1.out]; exact (Below.refl base w).drew.alloc (by exact hb) _)
  obtain ⟨C1, hC1⟩ : ∃ C, Hid ((over R.toList (i * 33) (eRf x)).toArray = C) := ⟨_, Lib.hid rfl⟩
  have hC1s : C1.size = G * 33 := by rw [← hC1.out]; simp only [List.size_toArray]; rw [over_len (by rw [hRl]; omega), hRl]
  obtain ⟨C2, hC2⟩ : ∃ C, Hid ((over C1.toList ((i + 1) * 33) D).toArray = C) := ⟨_, Lib.hid rfl⟩
  have hC2s : C2.size = G * 33 := by rw [← hC2.out]; simp only [List.size_toArray]; rw [over_len (by simp only [Array.length_toList]; omega)]; simpa using hC1s
  have HT : Hid (C2.toList.take ((n + 1) * 33) = (l.take i ++ x :: l.drop i).flatMap eRf) := Lib.hid (by
    rw [← hC2.out, ← hC1.out]
    simp only []
    rw [over_over' hxl hDl hi (by rw [hRl]; omega), flat_mid, hD.out, hRt, hT.out])
  have cp1 : Hid (∀ ty dc, (Builtin.copy_ #[37, 37] ty #[.slice (some ⟨N, i * 33, none⟩) (n + 1 - i) dc, .slice (some ⟨xb, 0, none⟩) 1 1]).run Tryd.prog W1 = .ok (goInt (1 : Nat)) (W1.setRow N C1)) := Lib.hid (fun ty dc => by
    rw [run_copyS ty _ dc _ _ _ 43 (eRf x) Tryd.underlying37 info33 HR1.out (by rw [hxl]; simp only [Nat.min_def]; split <;> omega) (cells_in HX1.out (by simp)) (by rw [hxl, hRs]; omega) (fun v hv => one_eRf x v hv), hC1.out]
    congr 2; simp only [Nat.min_def]; split <;> omega)
  have cp2 : Hid (∀ W : World, W.heap[N]? = some (.cells C1 43 (0, 0)) → W.heap[g]? = some (.cells cur 43 (0, 0)) → ∀ ty dc sc, (Builtin.copy_ #[37, 37] ty #[.slice (some ⟨N, (i + 1) * 33, none⟩) (n - i) dc, .slice (some ⟨g, i * 33, none⟩) (n - i) sc]).run Tryd.prog W = .ok (goInt (n - i : Nat)) (W.setRow N C2)) := Lib.hid (fun W hW hWg ty dc sc => by
    rw [run_copyS ty _ dc _ _ sc 43 D Tryd.underlying37 info33 hW (by rw [hDl]; congr 1; simp only [Nat.min_def]; split <;> omega) (cells_in hWg hDc) (by rw [hDl, hC1s]; omega) (by rw [← hD.out]; exact one_flat _), hC2.out]
    congr 2; simp only [Nat.min_def]; split <;> omega)
  have hgN : g ≠ N := by omega
  have HCg : Hid ((W1.setRow N C1).heap[g]? = some (.cells cur 43 (0, 0))) := Lib.hid ((setRow_other W1 N g C1 hgN).trans HG1.out)
  have HCN : Hid ((W1.setRow N C1).heap[N]? = some (.cells C1 43 (0, 0))) := Lib.hid (setRow_heap _ _ _ _ _ _ HR1.out)
  rw [hN] at hrz hb
  have u37 := run_underlying (P := Tryd.prog) Tryd.underlying37
  have sA : ∀ (ik : IntKind) (u : World), (Instr.slice 37 (.slice (some ⟨g, 0, none⟩) n cap) (some (.int ik (i : Int))) none none).run Tryd.prog u = .ok (.slice (some ⟨g, i * 33, none⟩) (n - i) (cap - i)) u := fun ik u => by
    have := cut_from (g := g) (o := 0) (n := n) (cap := cap) (lo := i) (by omega) (by omega) ik u; rwa [Nat.zero_add] at this
  have sB : ∀ (ik : IntKind) (u : World), (Instr.slice 37 (.slice (some ⟨g, 0, none⟩) n cap) none (some (.int ik (i : Int))) none).run Tryd.prog u = .ok (.slice (some ⟨g, 0, none⟩) i cap) u := fun ik u => by
    have := cut_upto (g := g) (o := 0) (n := n) (cap := cap) (hi := i) (by omega) ik u; exact this
  have sC : ∀ (ik : IntKind) (u : World), (Instr.slice 37 (.slice (some ⟨N, 0, none⟩) (n + 1) G) (some (.int ik ((i : Int) + 1))) none none).run Tryd.prog u = .ok (.slice (some ⟨N, (i + 1) * 33, none⟩) (n - i) (G - (i + 1))) u := fun ik u => by
    have := cut_from (g := N) (o := 0) (n := n + 1) (cap := G) (lo := i + 1) (by omega) (by omega) ik u; rw [Nat.zero_add, show n + 1 - (i + 1) = n - i by omega] at this; exact this
  have sD : ∀ (ik : IntKind) (u : World), (Instr.slice 37 (.slice (some ⟨N, 0, none⟩) (n + 1) G) (some (.int ik (i : Int))) none none).run Tryd.prog u = .ok (.slice (some ⟨N, i * 33, none⟩) (n + 1 - i) (G - i)) u := fun ik u => by
    have := cut_from (g := N) (o := 0) (n := n + 1) (cap := G) (lo := i) (by omega) (by omega) ik u; rwa [Nat.zero_add] at this
  have dn : ((i : Int) == (n : Int)) = false := by rw [beq_eq_false_iff_ne]; omega
  have dn2 : ¬ (i : Int) = (n : Int) := by omega
  have dc : decide ((cap : Int) < (n : Int) + 1) = true := decide_eq_true (by omega)
  have dc2 : (cap : Int) < (n : Int) + 1 := by omega
  have w1 : IntKind.i64.wrap ((n : Int) + 1) = (n : Int) + 1 := by rw [IntKind.wrap_i64]; omega
  have w2 : IntKind.i64.wrap ((i : Int) + 1) = (i : Int) + 1 := by rw [IntKind.wrap_i64]; omega
  have w3 : IntKind.i64.wrap ((n : Int) + 1 - (i : Int)) = (n : Int) + 1 - (i : Int) := by rw [IntKind.wrap_i64]; omega
  clear hg hx ht hDc hD hcl hC1 hC2 hDl hi0 h0 hold hR hRs hRl hRt hT hTl hTc hG hW1 hz0 hzs hzb
  have mixed : Tryd.prog.follows Departure.mixedOrders = true := by kernel_rfl
  go_enter Tryd.func90, Tryd.ntmps90
  go_wp2_with (first
    | (at_builtin; go_must (refine Lib.wpList_append_run _ rfl _ _ _ _ rfl _ _ rfl rfl _ _ (hrz.out _) ?_))
    | refine wpList_copyR W1 rfl _ _ 37 37 rfl _ _ rfl rfl (cp1.out _ _) ?_)
  go_region_law_o (refine step_copyR rfl _ _ 37 37 rfl (.slice (some ⟨N, (i + 1) * 33, none⟩) (n - i) (G - (i + 1))) (.slice (some ⟨g, i * 33, none⟩) (n - i) (cap - i)) (by simp [Act.eval, Act.put]) (by simp [Act.eval, Act.put]) (cp2.out (W1.setRow N C1).drew HCN.out HCg.out _ _ _) ?_)
  go_wp2
  go_ret
  exact ⟨_, rfl, own_row hb (setRow_heap _ _ _ _ _ _ HCN.out) (by simp; omega) hGn hG63 hC2s HT.out, below_setRow (below_setRow HB1.out hb _).drew hb _⟩

set_option maxRecDepth 100000 in
set_option maxHeartbeats 2000000 in
theorem insert_end (v : Value) (xb : Nat) (l : List Go.Sl.Rf) (x : Go.Sl.Rf) (w : World) (base : Nat) (hb : base ≤ w.heap.size) (hv : Sl.Own eRf 33 base 43 w v l) (hL : l.length ≤ 100000) (hx : w.heap[xb]? = some (.cells (eRf x).toArray 43 (0, 0))) :
    Calls Tryd.prog 90 #[v, .int .i64 l.length, .slice (some ⟨xb, 0, none⟩) 1 1] w fun e w' => ∃ ov, e = .returned ov ∧ Sl.Own eRf 33 base 43 w' ov (l ++ [x]) ∧ Below base w w' := by
  have hs := hv.sl len_eRf
  have hlen := hs.run_len (P := Tryd.prog) Tryd.underlying37
  obtain ⟨v2, hs2, -, -⟩ := hs.from (P := Tryd.prog) Tryd.underlying37 elem37 cells43 some43 (lo := l.length) (Nat.le_refl _)
  have HX : Hid (Sl eRf 33 w (.slice (some ⟨xb, 0, none⟩) 1 1) [x]) := Lib.hid (Sl.of_block len_eRf hx (by simp; exact List.take_of_length_le (Nat.le_of_eq (len_eRf x))) rfl (Nat.le_refl _) (by simp [maxLen]))
  have HV := Lib.hid hv
  clear hs hx hv
  go_enter Tryd.func90, Tryd.ntmps90
  go_wp2_with (at_builtin; go_must (refine wpList_append1 rfl (en := eRf) (s := 33) (base := base) (e := 43) _ _ 37 rfl (vRf zRf) 48 Tryd.underlying37 info43 (size_eRf _) (by decide) len_eRf one_eRf _ _ l x rfl HV.out rfl HX.out (by simp only [maxLen]; omega) (by omega) hb ?_; intro ov' w6 hown hgr hbel hblk; have HO5 := Lib.hid hown; have HW5 := Lib.hid hbel; clear hown hgr hbel hblk))
  go_ret
  exact ⟨_, rfl, HO5.out, HW5.out⟩

/-- slices.Insert of one ref into an own table -/
theorem insert_any (v : Value) (i xb : Nat) (l : List Go.Sl.Rf) (x : Go.Sl.Rf) (w : World) (base : Nat) (hb : base ≤ w.heap.size) (hv : Sl.Own eRf 33 base 43 w v l) (hL : l.length ≤ 100000) (hi : i ≤ l.length) (hx : w.heap[xb]? = some (.cells (eRf x).toArray 43 (0, 0))) (hne : v.ownBlock ≠ some xb) :
    Calls Tryd.prog 90 #[v, .int .i64 i, .slice (some ⟨xb, 0, none⟩) 1 1] w fun e w' => ∃ ov, e = .returned ov ∧ Sl.Own eRf 33 base 43 w' ov (l.take i ++ x :: l.drop i) ∧ Below base w w' := by
  by_cases h : i = l.length
  · subst h
    have := insert_end v xb l x w base hb hv hL hx
    rwa [List.take_length, List.drop_length]
  · have hlt : i < l.length := by omega
    rcases hv.2 with ⟨_, h0⟩ | ⟨g, cap, cur, rfl, h1, h2, h3, h4, h5, h6⟩
    · omega
    · by_cases hr : l.length + 1 ≤ cap
      · exact insert_room g cap l.length i xb cur l x w base h1 h2 rfl hr h4 h5 h6 hlt hx (fun e => hne (by rw [e]; rfl))
      · exact insert_grow g cap l.length i xb cur l x w base hb h2 rfl h3 (by omega) hL h5 h6 hlt hx
end Go.Proofs.YtopamnfelngkcaaDoor.Rf

namespace Go.Proofs.YtopamnfelngkcaaDoor.Rf
open Go.Proofs Go.RowKit Go.Shelf Go.Sl Go.Route Go.Refs
set_option linter.unusedVariables false

theorem zeroV43 (w : World) : (zeroValue 43).run Tryd.prog w = .ok (vRf zRf) w := (zero_of_info zero43).1 w
theorem zeros1 : (Builtin.zeroCells (vRf zRf).cells 1).toList = eRf zRf := by kernel_rfl
theorem flat_cut {l : List Go.Sl.Rf} {i : Nat} : (l.take i ++ l.drop (i + 1)).flatMap eRf = (l.take i).flatMap eRf ++ (l.drop (i + 1)).flatMap eRf := List.flatMap_append

set_option maxRecDepth 100000 in
set_option maxHeartbeats 2000000 in
theorem delete_row (g cap p i : Nat) (cur : Array Value) (l : List Go.Sl.Rf) (w : World) (base : Nat) (hb : base ≤ g) (hg : w.heap[g]? = some (.cells cur 43 (0, 0))) (hn : l.length = p + 1) (hnc : p + 1 ≤ cap) (hm : cap ≤ maxLen) (hs : cur.size = cap * 33) (ht : cur.toList.take ((p + 1) * 33) = l.flatMap eRf) (hi : i ≤ p) :
    Calls Tryd.prog 92 #[.slice (some ⟨g, 0, none⟩) (p + 1) cap, .int .i64 i, .int .i64 ((i : Int) + 1)] w fun e w' => ∃ ov, e = .returned ov ∧ Sl.Own eRf 33 base 43 w' ov (l.take i ++ l.drop (i + 1)) ∧ Below base w w' := by
  have hm2 : cap ≤ 9223372036854775807 := by simpa [maxLen] using hm
  obtain ⟨D, hD⟩ : ∃ D, Hid ((l.drop (i + 1)).flatMap eRf = D) := ⟨_, Lib.hid rfl⟩
  have hDl : D.length = (p - i) * 33 := by rw [← hD.out, flat_len len_eRf, List.length_drop, hn]; congr 1; omega
  have hDc : (cur.toList.drop ((i + 1) * 33)).take D.length = D := by
    rw [hDl, show (p - i) * 33 = (p + 1) * 33 - (i + 1) * 33 by omega, ← hD.out, ← flat_drop len_eRf, ← ht, List.drop_take]
  have hcl : cur.toList.length = cap * 33 := by simpa using hs
  have hfit : i * 33 + D.length ≤ cur.size := by rw [hDl, hs]; omega
  obtain ⟨C1, hC1⟩ : ∃ C, Hid ((over cur.toList (i * 33) D).toArray = C) := ⟨_, Lib.hid rfl⟩
  have hC1s : C1.size = cap * 33 := by rw [← hC1.out]; simp only [List.size_toArray]; rw [over_len (by rw [hcl]; omega), hcl]
  have hzl : (eRf zRf).length = 33 := len_eRf zRf
  obtain ⟨C2, hC2⟩ : ∃ C, Hid ((over C1.toList (p * 33) (eRf zRf)).toArray = C) := ⟨_, Lib.hid rfl⟩
  have hfit2 : p * 33 + (eRf zRf).length ≤ C1.toList.length := by rw [hzl, Array.length_toList, hC1s]; omega
  have hC2s : C2.size = cap * 33 := by rw [← hC2.out]; simp only [List.size_toArray]; rw [over_len hfit2]; simpa using hC1s
  have HT : Hid (C2.toList.take (p * 33) = (l.take i ++ l.drop (i + 1)).flatMap eRf) := Lib.hid (by
    rw [← hC2.out]
    simp only []
    rw [over_take hfit2 (Nat.le_refl _), ← hC1.out]
    simp only []
    rw [show p * 33 = i * 33 + D.length by rw [hDl]; omega, take_two, over_mid (by rw [hcl]; omega), over_take (by rw [hcl]; omega) (Nat.le_refl _), flat_cut, hD.out]
    congr 1
    rw [← flat_take len_eRf, ← ht, List.take_take]; congr 1; omega)
  obtain ⟨A, hA, hsrc⟩ : ∃ A : Addr, (∀ (ik : IntKind) (u : World), (Instr.slice 37 (.slice (some ⟨g, 0, none⟩) (p + 1) cap) (some (.int ik ((i : Int) + 1))) none none).run Tryd.prog u = .ok (.slice (some A) (p - i) (cap - (i + 1))) u) ∧ Hid (∀ t u, D[t]? = some u → w.drew.cell? (A.add t) = some u) := by
    by_cases h : cap = i + 1
    · refine ⟨⟨g, 0, none⟩, fun ik u => ?_, Lib.hid (fun t u hu => ?_)⟩
      · have := run_slice_l u 37 (some ⟨g, 0, none⟩) (p + 1) cap (P := Tryd.prog) (by rw [elem37]; exact Tryd.underlying37) ik ((i : Int) + 1) (by omega) (by omega)
        rw [this, elem37, sz43]
        have e1 : ((i : Int) + 1).toNat = i + 1 := by omega
        simp [sliced, e1, h, show p + 1 - (i + 1) = p - i by omega]
      · have : D.length = 0 := by rw [hDl]; omega
        rw [List.length_eq_zero_iff.1 this] at hu; simp at hu
    · refine ⟨⟨g, (i + 1) * 33, none⟩, fun ik u => ?_, Lib.hid (cells_in (w := w.drew) hg hDc)⟩
      have := cut_from (g := g) (o := 0) (n := p + 1) (cap := cap) (lo := i + 1) (by omega) h ik u
      rw [Nat.zero_add, show p + 1 - (i + 1) = p - i by omega] at this; exact this
  have hone : Hid (∀ u ∈ D, u.oneCell' = true) := Lib.hid (by rw [← hD.out]; exact one_flat _)
  have hsp : Hid (∀ j, j < D.length → (w.drew.cell? ⟨g, 0 + i * 33 + j, none⟩).isSome = true ∧ w.drew.frozen? ⟨g, 0 + i * 33 + j, none⟩ = false) := Lib.hid (fun j hj => by
    have hk : 0 + i * 33 + j < cur.size := by omega
    have hgd : w.drew.heap[g]? = some (.cells cur 43 (0, 0)) := hg
    have hk2 : i * 33 + j < cur.size := by omega
    exact ⟨by simp [World.cell?, hgd, hk2], by simp [World.frozen?, hgd]⟩)
  obtain ⟨W1, hW1⟩ : ∃ W1, Hid (w.drew.setCells g (0 + i * 33) D = W1) := ⟨_, Lib.hid rfl⟩
  have hW1' : W1 = w.drew.setRow g C1 := by
    rw [← hW1.out, Nat.zero_add, setCells_row g 43 D (i * 33) cur w.drew hg hfit, hC1.out]
  have HC1 : Hid (W1.heap[g]? = some (.cells C1 43 (0, 0))) := Lib.hid (by rw [hW1']; exact setRow_heap w.drew g cur C1 43 (0, 0) hg)
  have HB1 : Hid (Below base w W1) := Lib.hid (by rw [hW1']; exact below_setRow (Below.refl base w).drew hb _)
  obtain ⟨i0, hi0, hzs⟩ : ∃ i0, Tryd.prog.info? 43 = some i0 ∧ i0.size = 33 := by
    have := info33
    cases hq : Tryd.prog.info? 43 with
    | none => rw [hq] at this; simp at this
    | some i0 => rw [hq] at this; exact ⟨i0, rfl, by simpa using this⟩
  have hcl2 : ∀ ty, (Builtin.clear_ #[37] ty #[.slice (some ⟨g, p * 33, none⟩) 1 (cap - p)]).run Tryd.prog W1 = .ok (.tuple #[]) (W1.setRow g C2) := fun ty => by
    rw [run_clearS ty 1 (cap - p) (vRf zRf) 43 (eRf zRf) Tryd.underlying37 zeroV43 (by omega) HC1.out zeros1 (by simpa using hfit2) (fun v hv => one_eRf zRf v hv), hC2.out]
  have u37 := run_underlying (P := Tryd.prog) Tryd.underlying37
  have hip : i + (p - i) = p := by omega
  have sM : ∀ (ik ik' ik'' : IntKind) (u : World), ∃ q, (Instr.slice 37 (.slice (some ⟨g, 0, none⟩) (p + 1) cap) (some (.int ik (i : Int))) (some (.int ik' ((i : Int) + 1))) (some (.int ik'' ((p : Int) + 1)))).run Tryd.prog u = .ok q u := fun ik ik' ik'' u => ⟨_, by
    rw [run_slice_lhm u 37 (some ⟨g, 0, none⟩) (p + 1) cap (P := Tryd.prog) (by rw [elem37]; exact Tryd.underlying37) ik ik' ik'' _ _ _ (by omega) (by omega) (by omega) (by omega), elem37, sz43]; rfl⟩
  have s43 := sz43
  have e37 := elem37
  have sB : ∀ (ik : IntKind) (u : World), (Instr.slice 37 (.slice (some ⟨g, 0, none⟩) (p + 1) cap) none (some (.int ik (i : Int))) none).run Tryd.prog u = .ok (.slice (some ⟨g, 0, none⟩) i cap) u := fun ik u => cut_upto (g := g) (o := 0) (n := p + 1) (cap := cap) (hi := i) (by omega) ik u
  have sE : ∀ (ik ik' : IntKind) (u : World), (Instr.slice 37 (.slice (some ⟨g, 0, none⟩) p cap) (some (.int ik (p : Int))) (some (.int ik' ((p : Int) + 1))) none).run Tryd.prog u = .ok (.slice (some ⟨g, p * 33, none⟩) 1 (cap - p)) u := fun ik ik' u => by
    rw [run_slice_lh u 37 (some ⟨g, 0, none⟩) p cap (P := Tryd.prog) (by rw [elem37]; exact Tryd.underlying37) ik ik' _ _ (by omega) (by omega) (by omega), elem37, sz43]
    have e1 : ((p : Int) + 1).toNat = p + 1 := by omega
    have e2 : ¬ cap = p := by omega
    simp [sliced, e1, e2, Addr.add_lit]
  have dn : ((i : Int) == (i : Int) + 1) = false := by rw [beq_eq_false_iff_ne]; omega
  have dn2 : ¬ (i : Int) = (i : Int) + 1 := by omega
  have mixed : Tryd.prog.follows Departure.mixedOrders = true := by kernel_rfl
  have HG := Lib.hid hg
  clear hg ht hfit hDc hD hcl hC1 hC2 hW1' hfit2
  go_enter Tryd.func92, Tryd.ntmps92
  go_wp2_with fail
  go_region_law_o (refine step_append_room rfl (.tmp 22) (.tmp 25) 37 rfl 43 i0 33 Tryd.underlying37 hi0 hzs g 0 i cap (by simp [Act.eval, Act.put]) A (p - i) (cap - (i + 1)) D (by simp [Act.eval, Act.put]) hDl hsrc.out hone.out (by omega) hsp.out ?_; rw [hW1.out, hip])
  go_wp2_with (refine wpList_clearR W1 rfl _ 37 rfl _ rfl (hcl2 _) ?_)
  go_ret
  exact ⟨_, rfl, own_row hb (setRow_heap _ _ _ _ _ _ HC1.out) (by simp; omega) (by omega) hm hC2s HT.out, below_setRow HB1.out hb _⟩

/-- slices.Delete of one ref of an own table -/
theorem delete_any (v : Value) (i : Nat) (l : List Go.Sl.Rf) (w : World) (base : Nat) (hv : Sl.Own eRf 33 base 43 w v l) (hi : i < l.length) :
    Calls Tryd.prog 92 #[v, .int .i64 i, .int .i64 ((i : Int) + 1)] w fun e w' => ∃ ov, e = .returned ov ∧ Sl.Own eRf 33 base 43 w' ov (l.take i ++ l.drop (i + 1)) ∧ Below base w w' := by
  rcases hv.2 with ⟨_, h0⟩ | ⟨g, cap, cur, rfl, h1, h2, h3, h4, h5, h6⟩
  · omega
  · obtain ⟨p, hp⟩ : ∃ p, l.length = p + 1 := ⟨l.length - 1, by omega⟩
    rw [hp] at h3 h6 ⊢
    exact delete_row g cap p i cur l w base h1 h2 hp h3 h4 h5 h6 (by omega)
end Go.Proofs.YtopamnfelngkcaaDoor.Rf
