/-
  A slice that is read as a list of data, whatever its address: its length, its elements' addresses and cells, its parts. No program is named here.
-/
import Derived.WalkKit
import Derived.WalkSpells
import Derived.WalkLawsBesides
import Derived.Lib.Hide
namespace Go.Sl
open Go.RowKit

/-- the place of the element k of s cells -/
def At (v : Value) (s k : Nat) : Addr := match v with | .slice (some a) _ _ => a.add (k * s) | _ => ⟨0, 0, none⟩

/-- v reads in w as the list l, each element as the cells 'en x' -/
structure Sl {α : Type} (en : α → List Value) (s : Nat) (w : World) (v : Value) (l : List α) : Prop where
  shp : ∃ ao cap, v = .slice ao l.length cap ∧ l.length ≤ cap ∧ cap ≤ maxLen ∧ (ao = none → cap = 0) ∧
    (l = [] ∨ ∃ b off, ao = some ⟨b, off, none⟩ ∧ b < w.heap.size ∧ ∀ k (h : k < l.length) j, j < s → w.cell? ⟨b, off + k * s + j, none⟩ = (en l[k])[j]?)

def eInt (n : Int) : List Value := [.int .i64 n]
def eByte (b : UInt8) : List Value := [.int .u8 (b.toNat : Int)]
def eStr (s : ByteArray) : List Value := [.string s]
def eVal (v : Value) : List Value := [v]
def eBool (b : Bool) : List Value := [.bool b]

section
variable {α : Type} {en : α → List Value} {s : Nat} {w w' : World} {v : Value} {l : List α}

theorem Sl.nil (en : α → List Value) (s : Nat) (w : World) : Sl en s w (.slice none 0 0) [] := ⟨_, _, rfl, Nat.le_refl _, by simp [maxLen], fun _ => rfl, .inl rfl⟩

theorem Sl.len_le (h : Sl en s w v l) : l.length ≤ 9223372036854775807 := by
  obtain ⟨ao, cap, _, h1, h2, _, _⟩ := h.shp
  unfold maxLen at h2; omega

theorem Sl.ext (h : Sl en s w v l) (hb : Below w.heap.size w w') : Sl en s w' v l := by
  obtain ⟨ao, cap, rfl, h1, h2, h0, h3⟩ := h.shp
  refine ⟨ao, cap, rfl, h1, h2, h0, ?_⟩
  rcases h3 with h3 | ⟨b, off, rfl, h4, h5⟩
  · exact .inl h3
  · exact .inr ⟨b, off, rfl, by have := hb.size; omega, fun k hk j hj => (hb.cell (p := ⟨b, _, none⟩) h4).trans (h5 k hk j hj)⟩

/-- as long as its own block stays -/
theorem Sl.kept {B : Nat} (h : Sl en s w v l) (hb : Below B w w') (hB : ∀ b, v.ownBlock = some b → b < B) : Sl en s w' v l := by
  obtain ⟨ao, cap, rfl, h1, h2, h0, h3⟩ := h.shp
  refine ⟨ao, cap, rfl, h1, h2, h0, ?_⟩
  rcases h3 with h3 | ⟨b, off, rfl, h4, h5⟩
  · exact .inl h3
  · have hb' : b < B := hB b rfl
    exact .inr ⟨b, off, rfl, by have := hb.size; omega, fun k hk j hj => (hb.cell (p := ⟨b, _, none⟩) hb').trans (h5 k hk j hj)⟩

theorem Sl.block_lt (h : Sl en s w v l) (hl : l ≠ []) : ∃ b, v.ownBlock = some b ∧ b < w.heap.size := by
  obtain ⟨ao, cap, rfl, h1, h2, h0, h3⟩ := h.shp
  rcases h3 with h3 | ⟨b, off, rfl, h4, h5⟩
  · exact absurd h3 hl
  · exact ⟨b, rfl, h4⟩

theorem Sl.drew (h : Sl en s w v l) : Sl en s w.drew v l := ⟨h.shp⟩

/-! ### what the walk is told -/
theorem Sl.run_len {P : Program} {t e : TypeId} (h : Sl en s w v l) (ht : P.underlying t = some (.slice e)) :
    ∀ (ty : TypeId) (u : World), (Builtin.len_ #[t] ty #[v]).run P u = .ok (.int .i64 (l.length : Int)) u := by
  intro ty u
  obtain ⟨ao, cap, rfl, -⟩ := h.shp
  simp [Builtin.len_, run_underlying ht, goInt]

theorem Sl.run_index {P : Program} {t e : TypeId} (h : Sl en s w v l) (ht : P.underlying t = some (.slice e)) (hs : P.cellsOf e = s) (hi : (P.info? e).isSome = true) {k : Nat} (hk : k < l.length) :
    ∀ (ik : IntKind) (u : World), (Instr.indexAt t v (.int ik (k : Int))).run P u = .ok (.pointer (some (At v s k))) u := by
  intro ik u
  obtain ⟨ao, cap, rfl, h1, h2, h0, h3⟩ := h.shp
  rcases h3 with rfl | ⟨b, off, rfl, h4, h5⟩
  · simp at hk
  · obtain ⟨i, hi'⟩ := Option.isSome_iff_exists.1 hi
    have hs' : i.size = s := by simpa [Program.cellsOf, hi'] using hs
    simp [Instr.indexAt, run_underlying ht, asIntOf, sizeOf, typeInfo, hi', hs', At]
    intro hk'
    omega

theorem At_eq (h : Sl en s w v l) {k : Nat} (hk : k < l.length) : ∃ b off, At v s k = ⟨b, off + k * s, none⟩ ∧ b < w.heap.size ∧ v.ownBlock = some b ∧ ∀ j, j < s → w.cell? ⟨b, off + k * s + j, none⟩ = (en l[k])[j]? := by
  obtain ⟨ao, cap, rfl, h1, h2, h0, h3⟩ := h.shp
  rcases h3 with rfl | ⟨b, off, rfl, h4, h5⟩
  · simp at hk
  · exact ⟨b, off, by simp [At, Addr.add], h4, rfl, fun j hj => h5 k hk j hj⟩

theorem Sl.cell (h : Sl en s w v l) (hs : 0 < s) {k : Nat} (hk : k < l.length) : w.cell? (At v s k) = (en l[k])[0]? := by
  obtain ⟨b, off, e, h4, _, h5⟩ := At_eq h hk
  rw [e]; exact h5 0 hs

end

/-! ### a slice of slices -/
structure Sls {α : Type} (en : α → List Value) (s : Nat) (w : World) (v : Value) (vs : List Value) (ls : List (List α)) : Prop where
  outer : Sl eVal 1 w v vs
  len : vs.length = ls.length
  inner : ∀ k (h : k < vs.length) (h' : k < ls.length), Sl en s w vs[k] ls[k]

theorem Sls.ext {α : Type} {en : α → List Value} {s : Nat} {w w' : World} {v : Value} {vs : List Value} {ls : List (List α)} (h : Sls en s w v vs ls) (hb : Below w.heap.size w w') : Sls en s w' v vs ls :=
  ⟨h.outer.ext hb, h.len, fun k h1 h2 => (h.inner k h1 h2).ext hb⟩

/-! ### a slice at the head of a block -/
theorem flatMap_at {α : Type} {en : α → List Value} {s : Nat} (hs : ∀ x, (en x).length = s) (l : List α) : ∀ (k : Nat) (h : k < l.length) (j : Nat), j < s → (l.flatMap en)[k * s + j]? = (en l[k])[j]? := by
  induction l with
  | nil => intro k h; simp at h
  | cons x l ih =>
    intro k h j hj
    cases k with
    | zero => simp [List.getElem?_append, hs, hj]
    | succ k =>
      simp only [List.flatMap_cons, List.getElem_cons_succ]
      rw [List.getElem?_append_right (by rw [hs, Nat.succ_mul]; omega), hs, Nat.succ_mul, show k * s + s + j - s = k * s + j by omega]
      exact ih k (by simpa using h) j hj

theorem flatMap_len {α : Type} {en : α → List Value} {s : Nat} (hs : ∀ x, (en x).length = s) (l : List α) : (l.flatMap en).length = l.length * s := by
  induction l with
  | nil => simp
  | cons x l ih => simp only [List.flatMap_cons, List.length_append, hs, ih, List.length_cons, Nat.succ_mul]; omega

section
variable {α : Type} {en : α → List Value} {s : Nat} {w w' : World} {v : Value} {l : List α}

theorem Sl.of_block (hs : ∀ x, (en x).length = s) {b cap n : Nat} {cs : Array Value} {e : TypeId} {fr : Nat × Nat} (h : w.heap[b]? = some (.cells cs e fr)) (hl : cs.toList.take (n * s) = l.flatMap en)
    (hn : l.length = n) (hc : n ≤ cap) (hm : cap ≤ maxLen) : Sl en s w (.slice (some ⟨b, 0, none⟩) n cap) l := by
  subst hn
  refine ⟨_, cap, rfl, hc, hm, fun h => by (cases h), .inr ⟨b, 0, rfl, (Array.getElem?_eq_some_iff.1 h).1, ?_⟩⟩
  intro k hk j hj
  rw [cell_of_row w b _ cs e fr h, Nat.zero_add, ← flatMap_at hs l k hk j hj, ← hl, List.getElem?_take]
  have : k * s + j < l.length * s := by
    have : (k + 1) * s ≤ l.length * s := Nat.mul_le_mul_right _ hk
    rw [Nat.succ_mul] at this; omega
  rw [if_pos this]; simp

theorem Sl.of_owns (hs : ∀ x, (en x).length = s) {base : Nat} {e : TypeId} {n : Nat} {xs : List Value} (h : w.ownsRow base e s v n xs) (hx : xs = l.flatMap en) (hn : l.length = n) : Sl en s w v l := by
  subst hn hx
  rcases h.2 with ⟨rfl, h0⟩ | ⟨g, cap, cur, rfl, _, hg, hc, hm, hsz, htake⟩
  · have : l = [] := List.eq_nil_of_length_eq_zero h0
    subst this; exact Sl.nil _ _ _
  · exact Sl.of_block hs hg htake rfl hc hm

theorem len_eInt (x : Int) : (eInt x).length = 1 := rfl
theorem len_eByte (x : UInt8) : (eByte x).length = 1 := rfl
theorem len_eStr (x : ByteArray) : (eStr x).length = 1 := rfl
theorem len_eVal (x : Value) : (eVal x).length = 1 := rfl
theorem len_eBool (x : Bool) : (eBool x).length = 1 := rfl
end

/-! ### what the call has made itself -/
/-- v's elements are l, in a block of its own from 'base' on (or v is nil) -/
def Own {α : Type} (en : α → List Value) (s base : Nat) (e : TypeId) (w : World) (v : Value) (l : List α) : Prop :=
  w.ownsRow base e s v l.length (l.flatMap en)

section
variable {α : Type} {en : α → List Value} {s base : Nat} {e : TypeId} {w w' : World} {v : Value} {l : List α}
theorem Own.nil (en : α → List Value) (s base : Nat) (e : TypeId) (w : World) : Own en s base e w (.slice none 0 0) [] := World.ownsRow_nil _ _ _ _
theorem Own.sl (h : Own en s base e w v l) (hs : ∀ x, (en x).length = s) : Sl en s w v l := Sl.of_owns hs h rfl rfl
theorem Own.lt (h : Own en s base e w v l) : ∀ k, v.ownBlock = some k → base ≤ k ∧ k < w.heap.size := World.ownsRow.lt h
theorem Own.kept (h : Own en s base e w v l) {row : Option Nat} (hg : w.grownBy w' row) (hne : v.ownBlock = none ∨ v.ownBlock ≠ row) : Own en s base e w' v l := World.ownsRow.kept h hg hne
theorem Own.alloc (h : Own en s base e w v l) (o : Obj) : Own en s base e (w.alloc o) v l := World.ownsRow.alloc h o
theorem Own.drew (h : Own en s base e w v l) : Own en s base e w.drew v l := World.ownsRow.drew h
theorem Own.ext (h : Own en s base e w v l) (hb : Below w.heap.size w w') : Own en s base e w' v l :=
  World.ownsRow.kept (row := none) h ⟨hb.os, hb.tape, hb.output, hb.size, fun k hk _ => hb.block k hk⟩ (by cases v.ownBlock <;> simp)
theorem Own.mono {base' : Nat} (h : Own en s base e w v l) (hb : base' ≤ base) : Own en s base' e w v l := by
  refine ⟨h.1, ?_⟩
  rcases h.2 with h2 | ⟨g, cap, cur, hv, hg, r⟩
  · exact .inl h2
  · exact .inr ⟨g, cap, cur, hv, by omega, r⟩
theorem below_grown {row : Option Nat} (hg : w.grownBy w' row) (hB : base ≤ w.heap.size) (hr : ∀ k, row = some k → base ≤ k) : Below base w w' :=
  (Below.refl base w).grown hg hB hr

/-- append(s, x...): s of the call's own, x whatever -/
theorem wp_append {P : Program} {o : Oper} {a : Act} {K : Act → World → Prop} {Q : Exit → Act → World → Prop} (so xo : Operand) (t : TypeId)
    (ho : o.op = .call { callee := .builtin .append, args := #[so, xo], argTypes := #[t, t] })
    (z : Value) (bytes : Nat) (ht : P.underlying t = some (.slice e)) (hinfo : (P.info? e).map (fun i => (i.zero, i.size, i.bytes)) = some (some z, s, bytes)) (hzs : z.cells.size = s) (hsz : 0 < s)
    (hs : ∀ x, (en x).length = s) (h1 : ∀ x, ∀ u ∈ en x, u.oneCell' = true)
    (v x : Value) (l m : List α) (hv : a.eval so = v) (hown : Own en s base e w v l) (hx : a.eval xo = x) (hsl : Sl en s w x m)
    (h63 : l.length + m.length ≤ maxLen) (hbytes : (l.length + m.length) * bytes ≤ 140737488355328) (hbase : base ≤ w.heap.size)
    (h : ∀ v' w', Own en s base e w' v' (l ++ m) → w.grownBy w' v.ownBlock → Below base w w' → K (a.put o.dst v') w') : o.wp P a w K Q := by
  obtain ⟨i, hi, hz, hsize, hby⟩ := info_parts hinfo
  have hlt := hown.lt
  obtain ⟨ao, cap, rfl, hlc, hm, hn0, hc⟩ := hsl.shp
  cases ao with
  | none =>
    have hm0 : m = [] := by
      rcases hc with hc | ⟨b, off, hb, _⟩
      · exact hc
      · cases hb
    subst hm0
    obtain rfl := hn0 rfl
    have hrun := run_append_owned_none (P := P) w base t o.type e i s ht hi _ l.length _ hown
    unfold Oper.wp
    simp [execOp, ho, resolve, invoke, builtin, hv, hx, hrun, Result.andThen]
    exact (h v w (by simpa using hown) (World.grownBy.refl _ _) (Below.refl _ _))
  | some ad =>
    refine wp_append_own w so xo t ho base e i z s bytes ht hi hz hsize hby hzs hsz v l.length (l.flatMap en) hv hown ad m.length cap (m.flatMap en) hx (flatMap_len hs m) ?_ ?_ h63 hbytes hbase ?_
    · intro j u hu
      rcases hc with rfl | ⟨b, off, hb, hb1, hb2⟩
      · simp at hu
      · obtain rfl := Option.some.inj hb
        have hj : j < m.length * s := by
          have := (List.getElem?_eq_some_iff.1 hu).1
          rwa [flatMap_len hs] at this
        have hk : j / s < m.length := by rw [Nat.div_lt_iff_lt_mul hsz]; exact hj
        have e1 : j / s * s + j % s = j := by rw [Nat.mul_comm]; exact Nat.div_add_mod j s
        have h2 := hb2 (j / s) hk (j % s) (Nat.mod_lt _ hsz)
        have h3 := flatMap_at hs m (j / s) hk (j % s) (Nat.mod_lt _ hsz)
        rw [e1] at h3
        rw [Nat.add_assoc, e1, ← h3, hu] at h2
        rw [Addr.add_lit]; exact h2
    · intro u hu
      obtain ⟨x, _, hx⟩ := List.mem_flatMap.1 hu
      exact h1 x u hx
    · intro v' w' hown' hgr _
      refine h v' w' ?_ hgr (below_grown hgr hbase fun k hk => (hlt k hk).1)
      unfold Own
      rw [List.length_append, List.flatMap_append]; exact hown'

theorem wpList_append {P : Program} {ops : Array Oper} {rest : List Oper} {o : Oper} {a : Act} {Q : Exit → Act → World → Prop} (hg : o.guard = none) (so xo : Operand) (t : TypeId)
    (ho : o.op = .call { callee := .builtin .append, args := #[so, xo], argTypes := #[t, t] })
    (z : Value) (bytes : Nat) (ht : P.underlying t = some (.slice e)) (hinfo : (P.info? e).map (fun i => (i.zero, i.size, i.bytes)) = some (some z, s, bytes)) (hzs : z.cells.size = s) (hsz : 0 < s)
    (hs : ∀ x, (en x).length = s) (h1 : ∀ x, ∀ u ∈ en x, u.oneCell' = true)
    (v x : Value) (l m : List α) (hv : a.eval so = v) (hown : Own en s base e w v l) (hx : a.eval xo = x) (hsl : Sl en s w x m)
    (h63 : l.length + m.length ≤ maxLen) (hbytes : (l.length + m.length) * bytes ≤ 140737488355328) (hbase : base ≤ w.heap.size)
    (h : ∀ v' w', Own en s base e w' v' (l ++ m) → w.grownBy w' v.ownBlock → Below base w w' → wpList P ops Q rest (a.put o.dst v') w') : wpList P ops Q (o :: rest) a w :=
  wpList_plain hg fun _ hK => wp_append so xo t ho z bytes ht hinfo hzs hsz hs h1 v x l m hv hown hx hsl h63 hbytes hbase fun v' w' e1 e2 e3 => hK _ _ (h v' w' e1 e2 e3)

/-- the same in a region that draws its order -/
theorem step_append {P : Program} {ops : Array Oper} {o : Oper} {a : Act} {K : Act → World → Prop} {E : Prop} {Q : Exit → Act → World → Prop} (hg : o.guard = none) (so xo : Operand) (t : TypeId)
    (ho : o.op = .call { callee := .builtin .append, args := #[so, xo], argTypes := #[t, t] })
    (z : Value) (bytes : Nat) (ht : P.underlying t = some (.slice e)) (hinfo : (P.info? e).map (fun i => (i.zero, i.size, i.bytes)) = some (some z, s, bytes)) (hzs : z.cells.size = s) (hsz : 0 < s)
    (hs : ∀ x, (en x).length = s) (h1 : ∀ x, ∀ u ∈ en x, u.oneCell' = true)
    (v x : Value) (l m : List α) (hv : a.eval so = v) (hown : Own en s base e w v l) (hx : a.eval xo = x) (hsl : Sl en s w x m)
    (h63 : l.length + m.length ≤ maxLen) (hbytes : (l.length + m.length) * bytes ≤ 140737488355328) (hbase : base ≤ w.heap.size)
    (h : ∀ v' w', Own en s base e w' v' (l ++ m) → w.grownBy w' v.ownBlock → Below base w w' → K (a.put o.dst v') w') :
    if Region.wanted o (yielded ops a.tmps) = true then Oper.wp P o a w K Q else E := by
  rw [if_pos (by simp [Region.wanted, hg])]
  exact wp_append so xo t ho z bytes ht hinfo hzs hsz hs h1 v x l m hv hown hx hsl h63 hbytes hbase h
end

theorem one_eInt (x : Int) : ∀ u ∈ eInt x, u.oneCell' = true := by simp [eInt, Value.oneCell']
theorem one_eByte (x : UInt8) : ∀ u ∈ eByte x, u.oneCell' = true := by simp [eByte, Value.oneCell']
theorem one_eStr (x : ByteArray) : ∀ u ∈ eStr x, u.oneCell' = true := by simp [eStr, Value.oneCell']
theorem one_eBool (x : Bool) : ∀ u ∈ eBool x, u.oneCell' = true := by simp [eBool, Value.oneCell']

/-! ### operations by hand -/
theorem wpList_xor {P : Program} {ops : Array Oper} {rest : List Oper} {o : Oper} {a : Act} {w : World} {Q : Exit → Act → World → Prop} (hg : o.guard = none) (t yt : TypeId) (x y : Operand)
    (ho : o.op = .binOp .xor t x y yt) (k : IntKind) (m n r : Int) (hx : a.eval x = .int k m) (hy : a.eval y = .int k n) (hr : bits .xor k m n = r)
    (h : wpList P ops Q rest (a.put o.dst (.int k r)) w) : wpList P ops Q (o :: rest) a w := by
  refine wpList_plain hg fun K hK => ?_
  unfold Oper.wp
  subst hr
  simp [execOp, ho, hx, hy, binOp, Op.intBits, Result.andThen]
  exact hK _ _ h

/-- a whole aggregate stored into a block of its own size -/
theorem wpList_storeRow {P : Program} {ops : Array Oper} {rest : List Oper} {o : Oper} {a : Act} {w : World} {Q : Exit → Act → World → Prop} (hg : o.guard = none) (hd : o.dst = none) (t : TypeId) (x y : Operand)
    (ho : o.op = .store t x y) (g : Nat) (hx : a.eval x = .pointer (some ⟨g, 0, none⟩)) (cs : Array Value) (hy : a.eval y = .agg cs) (e : TypeId) (cur : Array Value) (hb : w.heap[g]? = some (.cells cur e (0, 0)))
    (hsz : cur.size = cs.size) (hi : (P.info? t).map (·.size) = some cs.size) (h1 : ∀ u ∈ cs.toList, u.oneCell' = true)
    (h : wpList P ops Q rest a (w.setRow g cs)) : wpList P ops Q (o :: rest) a w := by
  refine wpList_plain hg fun K hK => ?_
  obtain ⟨i, hi1, hi2⟩ := Option.map_eq_some_iff.1 hi
  have hst := run_storeCells_at P g 0 e cs.toList 0 cur w hb (by simp [hsz]) h1
  have hst' : (storeCells ⟨g, 0, none⟩ cs.toList).run P w = .ok () (w.setRow g cs) := by
    have hdr : cur.toList.drop cur.size = [] := by simp
    rw [hst]
    congr 2
    simp [← hsz, hdr]
  unfold Oper.wp
  simp [execOp, ho, hx, hy, Instr.storeAt, Instr.sureAddr, storeVar, Value.cells, sizeOf, typeInfo, hi1, hi2, hst', Result.andThen]
  rw [Oper.upon_skip, hd]
  exact hK _ _ h

theorem below_setRow {B : Nat} {w w' : World} (h : Below B w w') {g : Nat} (hg : B ≤ g) (cs : Array Value) : Below B w (w'.setRow g cs) :=
  h.trans ⟨rfl, rfl, rfl, by simp, fun k hk => setRow_other w' g k cs (by omega)⟩

/-- what a cell holds now -/
def cellNow (u : World) (a : Addr) : Value := (u.cell? a).getD undef
theorem now_of {u : World} {a : Addr} (h : (u.cell? a).isSome = true) : u.cell? a = some (cellNow u a) := by
  obtain ⟨y, hy⟩ := Option.isSome_iff_exists.1 h
  unfold cellNow; rw [hy]; rfl
theorem now_set {u : World} {a : Addr} {v x : Value} (h : u.cell? a = some x) : (u.setCell a v).cell? a = some (cellNow (u.setCell a v) a) :=
  now_of (by rw [World.cell?_setCell_same _ _ _ h]; rfl)
theorem now_kept {u u' : World} {a : Addr} {x : Value} (h : u.cell? a = some x) (hb : Below u.heap.size u u') (ha : a.block < u.heap.size) : u'.cell? a = some (cellNow u' a) :=
  now_of (by rw [hb.cell ha, h]; rfl)

theorem below_undrew {B : Nat} {w w' : World} (h : Below B w.drew w') : Below B w w' := ⟨h.os, h.tape, h.output, h.size, h.block⟩
theorem heap3_0 (w : World) (a b c : Obj) : (((w.alloc a).alloc b).alloc c).heap[w.heap.size]? = some a := by
  rw [Below.heap_alloc _ _ _ (by simp; omega)]; exact heap_alloc2_old _ _ _
theorem heap3_1 (w : World) (a b c : Obj) : (((w.alloc a).alloc b).alloc c).heap[w.heap.size + 1]? = some b := by
  rw [Below.heap_alloc _ _ _ (by simp)]; exact heap_alloc2_new _ _ _
theorem heap3_2 (w : World) (a b c : Obj) : (((w.alloc a).alloc b).alloc c).heap[w.heap.size + 2]? = some c := by
  have := heap_alloc_new ((w.alloc a).alloc b) c
  simpa using this

theorem heap_new_at {w : World} {o : Obj} {n : Nat} (h : n = w.heap.size) : (w.alloc o).heap[n]? = some o := by subst h; exact heap_alloc_new _ _

theorem flat_eVal (l : List Value) : l.flatMap eVal = l := by
  induction l with
  | nil => rfl
  | cons x l ih => rw [List.flatMap_cons, ih]; rfl

/-- a slice of slices that has just been laid -/
theorem Sls.fresh {α : Type} {en : α → List Value} {s : Nat} {w : World} {vs : List Value} {ls : List (List α)} {n : Nat} {e : TypeId} {fr : Nat × Nat} (hn : n = w.heap.size) (hl : vs.length = ls.length) (hm : vs.length ≤ maxLen)
    (h : ∀ k (h : k < vs.length) (h' : k < ls.length), Sl en s w vs[k] ls[k]) : Sls en s (w.alloc (.cells vs.toArray e fr)) (.slice (some ⟨n, 0, none⟩) vs.length vs.length) vs ls := by
  subst hn
  refine ⟨Sl.of_block len_eVal (heap_alloc_new _ _) (by simp [flat_eVal]) rfl (Nat.le_refl _) hm, hl, fun k h1 h2 => (h k h1 h2).ext ((Below.refl _ _).alloc (Nat.le_refl _) _)⟩

/-- the place of element k, its address written out -/
theorem Sl.at {α : Type} {en : α → List Value} {s : Nat} {w : World} {v : Value} {l : List α} {P : Program} {t e : TypeId} (h : Sl en s w v l) (ht : P.underlying t = some (.slice e)) (hs : P.cellsOf e = s) (hi : (P.info? e).isSome = true) {k : Nat} (hk : k < l.length) :
    ∃ b o, b < w.heap.size ∧ (∀ (ik : IntKind) (u : World), (Instr.indexAt t v (.int ik (k : Int))).run P u = .ok (.pointer (some ⟨b, o, none⟩)) u) ∧ ∀ j, j < s → w.cell? ⟨b, o + j, none⟩ = (en l[k])[j]? := by
  obtain ⟨b, off, e1, h1, _, h2⟩ := At_eq h hk
  refine ⟨b, off + k * s, h1, fun ik u => ?_, fun j hj => h2 j hj⟩
  rw [h.run_index ht hs hi hk, e1]

theorem drop_at {α : Type} (l : List α) {k : Nat} (h : k < l.length) : l.drop k = l[k] :: l.drop (k + 1) := (List.drop_eq_getElem_cons h)

theorem Sl.isSlice {α : Type} {en : α → List Value} {s : Nat} {w : World} {v : Value} {l : List α} (h : Sl en s w v l) : ∃ a n c, v = .slice a n c := let ⟨_, _, h, _⟩ := h.shp; ⟨_, _, _, h⟩
theorem Own.isSlice {α : Type} {en : α → List Value} {s base : Nat} {e : TypeId} {w : World} {v : Value} {l : List α} (h : Own en s base e w v l) : ∃ a n c, v = .slice a n c := by
  rcases h.2 with ⟨rfl, _⟩ | ⟨g, cap, cur, rfl, _⟩ <;> exact ⟨_, _, _, rfl⟩
/-- a slice whose elements have just been laid -/
theorem Sl.fresh {α : Type} {en : α → List Value} {s : Nat} (hs : ∀ x, (en x).length = s) {w : World} {cs : Array Value} {l : List α} {m n : Nat} {e : TypeId} {fr : Nat × Nat} (hn : n = w.heap.size) (hl : cs.toList = l.flatMap en) (hm : m = l.length) (hx : l.length ≤ maxLen) :
    Sl en s (w.alloc (.cells cs e fr)) (.slice (some ⟨n, 0, none⟩) m m) l := by
  subst hn hm
  refine Sl.of_block hs (heap_alloc_new _ _) ?_ rfl (Nat.le_refl _) hx
  rw [hl, ← flatMap_len hs l, List.take_length]
/-- what stays while a row of the call's own is written -/
theorem grown_heap {w w' : World} {row : Option Nat} (hg : w.grownBy w' row) {k : Nat} {o : Obj} (h : w.heap[k]? = some o) (hne : row ≠ some k) : w'.heap[k]? = some o :=
  (hg.block k (Array.getElem?_eq_some_iff.1 h).1 (fun e => hne e.symm)).trans h

theorem two_cells {w : World} {g : Nat} {a b : Value} {e : TypeId} (h : w.heap[g]? = some (.cells #[a, b] e (0, 0))) :
    g < w.heap.size ∧ w.cell? ⟨g, 0, none⟩ = some a ∧ w.cell? ⟨g, 1, none⟩ = some b ∧ w.frozen? ⟨g, 0, none⟩ = false ∧ w.frozen? ⟨g, 1, none⟩ = false :=
  ⟨(Array.getElem?_eq_some_iff.1 h).1, by simp [World.cell?, h], by simp [World.cell?, h], by simp [World.frozen?, h], by simp [World.frozen?, h]⟩
theorem one_cells {w : World} {g : Nat} {a : Value} {e : TypeId} (h : w.heap[g]? = some (.cells #[a] e (0, 0))) :
    g < w.heap.size ∧ w.cell? ⟨g, 0, none⟩ = some a ∧ w.frozen? ⟨g, 0, none⟩ = false :=
  ⟨(Array.getElem?_eq_some_iff.1 h).1, by simp [World.cell?, h], by simp [World.frozen?, h]⟩
/-- an old block behind a new one -/
theorem heap_keep {w : World} {k : Nat} {o p : Obj} (h : w.heap[k]? = some o) : (w.alloc p).heap[k]? = some o :=
  (Below.heap_alloc _ _ _ (Array.getElem?_eq_some_iff.1 h).1).trans h
/-- an old block behind a store elsewhere -/
theorem heap_set_keep {w : World} {k : Nat} {o : Obj} {a : Addr} {v : Value} (h : w.heap[k]? = some o) (hne : k ≠ a.block) : (w.setCell a v).heap[k]? = some o :=
  (Below.heap_setCell _ _ _ _ hne).trans h
theorem one_set {w : World} {g : Nat} {a x : Value} {e : TypeId} (h : w.heap[g]? = some (.cells #[a] e (0, 0))) : (w.setCell ⟨g, 0, none⟩ x).heap[g]? = some (.cells #[x] e (0, 0)) :=
  heap_setCell_same _ _ _ _ _ _ h
theorem two_set {w : World} {g : Nat} {a b x y : Value} {e : TypeId} (h : w.heap[g]? = some (.cells #[a, b] e (0, 0))) : ((w.setCell ⟨g, 0, none⟩ x).setCell ⟨g, 1, none⟩ y).heap[g]? = some (.cells #[x, y] e (0, 0)) :=
  heap_setCell_same _ _ _ _ _ _ (heap_setCell_same _ _ _ _ _ _ h)
/-- own elements behind a store into another block -/
theorem Own.set_other {α : Type} {en : α → List Value} {s base : Nat} {e : TypeId} {w : World} {v : Value} {l : List α} (h : Own en s base e w v l) {a : Addr} (ha : v.ownBlock ≠ some a.block) (u : Value) : Own en s base e (w.setCell a u) v l :=
  ownsRow_setCell_other h ha u
theorem Own.ne {α : Type} {en : α → List Value} {s base : Nat} {e : TypeId} {w : World} {v : Value} {l : List α} (h : Own en s base e w v l) {g : Nat} (hg : g < base ∨ w.heap.size ≤ g) : v.ownBlock ≠ some g := fun e => by
  have := h.lt _ e
  omega

/-- own elements lie in no block of another type -/
theorem Own.ne_elem {α : Type} {en : α → List Value} {s base : Nat} {e e' : TypeId} {w : World} {v : Value} {l : List α} (h : Own en s base e w v l) {g : Nat} {c : Array Value} {fr : Nat × Nat} (hg : w.heap[g]? = some (.cells c e' fr)) (he : e' ≠ e) : v.ownBlock ≠ some g := fun hv => by
  rcases h.2 with ⟨rfl, _⟩ | ⟨g', cap, cur, rfl, _, hg', _⟩
  · cases hv
  · have : g' = g := by simpa [Value.ownBlock] using hv
    subst this
    rw [hg] at hg'
    simp only [Option.some.injEq, Obj.cells.injEq] at hg'
    exact he hg'.2.1
theorem four_cells {w : World} {g : Nat} {a b c d : Value} {e : TypeId} (h : w.heap[g]? = some (.cells #[a, b, c, d] e (0, 0))) :
    g < w.heap.size ∧ w.cell? ⟨g, 0, none⟩ = some a ∧ w.cell? ⟨g, 1, none⟩ = some b ∧ w.cell? ⟨g, 2, none⟩ = some c ∧ w.cell? ⟨g, 3, none⟩ = some d :=
  ⟨(Array.getElem?_eq_some_iff.1 h).1, by simp [World.cell?, h], by simp [World.cell?, h], by simp [World.cell?, h], by simp [World.cell?, h]⟩
end Go.Sl
