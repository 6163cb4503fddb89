/-
  Own slices beside each other: what an append leaves of the others. No program is named here.
-/
import Derived.Test.YtopamnfelngkcaaDoorSl
namespace Go.Sl
open Go.RowKit

theorem append_block {P : Program} {w : World} {base : Nat} {t ty e : TypeId} {i : TypeInfo} {z : Value} {size : Nat} (ht : P.underlying t = some (.slice e)) (hi : P.info? e = some i) (hz : i.zero = some z)
    (hsize : i.size = size) {v : Value} {n : Nat} {xs : List Value} (hown : w.ownsRow base e size v n xs)
    {a : Addr} {m c : Nat} {news : List Value} (hl : news.length = m * size) (hnews : ∀ j u, news[j]? = some u → w.cell? (a.add j) = some u) (h1 : ∀ u ∈ news, u.oneCell' = true)
    (h63 : n + m ≤ maxLen) (hbytes : (n + m) * i.bytes ≤ 140737488355328) (hm : 0 < m) {v' : Value} {w' : World}
    (hr : (Builtin.append_ #[t, t] ty #[v, .slice (some a) m c]).run P w = .ok v' w') : v'.ownBlock = v.ownBlock ∨ v'.ownBlock = some w.heap.size := by
  subst hsize
  have hm9 : n + m ≤ 9223372036854775807 := by simp only [maxLen] at h63; omega
  rcases hown.2 with ⟨rfl, rfl⟩ | ⟨g, cap, cur, rfl, _, hg, hnc, _, hcs, _⟩
  · have := run_append_nil (P := P) w t ty e i z ht hi hz a m c news hl hnews (by omega) (by omega) (by have hb := hbytes; simp only [Nat.zero_add] at hb; omega)
    rw [this] at hr
    cases hr
    exact .inr rfl
  · by_cases hroom : n + m ≤ cap
    · have hfit : n * i.size + news.length ≤ cur.size := by rw [hl, hcs, ← Nat.add_mul]; exact Nat.mul_le_mul_right _ hroom
      have := run_append_room (P := P) w t ty e i ht hi g n cap cur hg a m c news hl hnews h1 hroom hfit
      rw [this] at hr
      cases hr
      exact .inl rfl
    · have := run_append_grow (P := P) w t ty e i z ht hi hz ⟨g, 0, none⟩ n cap xs hown.1 (hown.cells (g := g) rfl) a m c news hl hnews (by omega) (by omega) (growslice_fits (by omega) hbytes)
      rw [this] at hr
      cases hr
      exact .inr rfl

section
variable {α : Type} {en : α → List Value} {s base : Nat} {e : TypeId} {w w' : World}
/-- append(s, x): s of the call's own, x one element in a block just laid; where the result may lie -/
theorem wp_append1 {P : Program} {o : Oper} {a : Act} {K : Act → World → Prop} {Q : Exit → Act → World → Prop} (so xo : Operand) (t : TypeId)
    (ho : o.op = .call { callee := .builtin .append, args := #[so, xo], argTypes := #[t, t] })
    (z : Value) (bytes : Nat) (ht : P.underlying t = some (.slice e)) (hinfo : (P.info? e).map (fun i => (i.zero, i.size, i.bytes)) = some (some z, s, bytes)) (hzs : z.cells.size = s) (hsz : 0 < s)
    (hs : ∀ x, (en x).length = s) (h1 : ∀ x, ∀ u ∈ en x, u.oneCell' = true)
    (v xv : Value) (l : List α) (x : α) (hv : a.eval so = v) (hown : Own en s base e w v l) (hx : a.eval xo = xv) (hsl : Sl en s w xv [x])
    (h63 : l.length + 1 ≤ maxLen) (hbytes : (l.length + 1) * bytes ≤ 140737488355328) (hbase : base ≤ w.heap.size)
    (h : ∀ v' w', Own en s base e w' v' (l ++ [x]) → w.grownBy w' v.ownBlock → Below base w w' → (v'.ownBlock = v.ownBlock ∨ v'.ownBlock = some w.heap.size) → K (a.put o.dst v') w') : o.wp P a w K Q := by
  obtain ⟨i, hi, hz, hsize, hby⟩ := info_parts hinfo
  have hlt := hown.lt
  obtain ⟨ao, cap, rfl, hlc, hm, hn0, hc⟩ := hsl.shp
  obtain ⟨b, off, rfl, hb1, hb2⟩ := hc.resolve_left (by simp)
  have hnews : ∀ j u, (en x)[j]? = some u → w.cell? ((⟨b, off, none⟩ : Addr).add j) = some u := by
    intro j u hu
    have hj : j < s := by
      have := (List.getElem?_eq_some_iff.1 hu).1
      rwa [hs] at this
    have h2 := hb2 0 (by simp) j hj
    rw [Addr.add_lit]
    rw [show off + 0 * s + j = off + j by omega] at h2
    rw [h2]; exact hu
  obtain ⟨v', w2, hr, h2, h3, _⟩ := run_append_own (P := P) w base t o.type e i z s bytes ht hi hz hsize hby hzs hsz v l.length (l.flatMap en) hown ⟨b, off, none⟩ 1 cap (en x) (by rw [hs]; omega) hnews (h1 x) h63 hbytes hbase
  have hblk := append_block ht hi hz hsize hown (m := 1) (c := cap) (by rw [hs]; omega) hnews (h1 x) h63 (by rw [hby]; exact hbytes) (by omega) hr
  unfold Oper.wp execOp
  simp only [ho, resolve, invoke, builtin, Sem.run_bind, Sem.run_pure, Result.andThen_ok, List.map_toArray, List.map_cons, List.map_nil, hv, hx, List.length_singleton, hr]
  refine h v' w2 ?_ h3 (below_grown h3 hbase fun k hk => (hlt k hk).1) hblk
  unfold Own
  rw [List.length_append, List.flatMap_append]
  simpa using h2

theorem wpList_append1 {P : Program} {ops : Array Oper} {rest : List Oper} {o : Oper} {a : Act} {Q : Exit → Act → World → Prop} (hg : o.guard = none) (so xo : Operand) (t : TypeId)
    (ho : o.op = .call { callee := .builtin .append, args := #[so, xo], argTypes := #[t, t] })
    (z : Value) (bytes : Nat) (ht : P.underlying t = some (.slice e)) (hinfo : (P.info? e).map (fun i => (i.zero, i.size, i.bytes)) = some (some z, s, bytes)) (hzs : z.cells.size = s) (hsz : 0 < s)
    (hs : ∀ x, (en x).length = s) (h1 : ∀ x, ∀ u ∈ en x, u.oneCell' = true)
    (v xv : Value) (l : List α) (x : α) (hv : a.eval so = v) (hown : Own en s base e w v l) (hx : a.eval xo = xv) (hsl : Sl en s w xv [x])
    (h63 : l.length + 1 ≤ maxLen) (hbytes : (l.length + 1) * bytes ≤ 140737488355328) (hbase : base ≤ w.heap.size)
    (h : ∀ v' w', Own en s base e w' v' (l ++ [x]) → w.grownBy w' v.ownBlock → Below base w w' → (v'.ownBlock = v.ownBlock ∨ v'.ownBlock = some w.heap.size) → wpList P ops Q rest (a.put o.dst v') w') : wpList P ops Q (o :: rest) a w :=
  wpList_plain hg fun _ hK => wp_append1 so xo t ho z bytes ht hinfo hzs hsz hs h1 v xv l x hv hown hx hsl h63 hbytes hbase fun v' w' e1 e2 e3 e4 => hK _ _ (h v' w' e1 e2 e3 e4)

/-! ### own slices beside a moving one -/
/-- v lies in no block of q -/
def Apart (v q : Value) : Prop := v.ownBlock = none ∨ v.ownBlock ≠ q.ownBlock
/-- own slices apart from q stay, apart from q' -/
def Mv (en : α → List Value) (s base : Nat) (e : TypeId) (q q' : Value) (w w' : World) : Prop := ∀ v l, Own en s base e w v l → Apart v q → Own en s base e w' v l ∧ Apart v q'
theorem Mv.refl (q : Value) (w : World) : Mv en s base e q q w w := fun _ _ h1 h2 => ⟨h1, h2⟩
theorem Mv.trans {q q' q'' : Value} {w w' w'' : World} (h : Mv en s base e q q' w w') (h2 : Mv en s base e q' q'' w' w'') : Mv en s base e q q'' w w'' := fun v l a b => by
  obtain ⟨c, d⟩ := h v l a b
  exact h2 v l c d
theorem Mv.append {q q' : Value} (hg : w.grownBy w' q.ownBlock) (hb : q'.ownBlock = q.ownBlock ∨ q'.ownBlock = some w.heap.size) : Mv en s base e q q' w w' := fun v l h1 h2 => by
  refine ⟨h1.kept hg h2, ?_⟩
  rcases hb with hb | hb
  · unfold Apart; rw [hb]; exact h2
  · right; rw [hb]
    intro e1
    have := (h1.lt _ e1).2
    omega
theorem Mv.below {q : Value} (hb : Below w.heap.size w w') : Mv en s base e q q w w' := fun _ _ h1 h2 => ⟨h1.ext hb, h2⟩
theorem Mv.set {q : Value} {w : World} {a : Addr} {x : Value} (ha : q.ownBlock = some a.block) : Mv en s base e q q w (w.setCell a x) := fun v l h1 h2 => by
  refine ⟨h1.set_other ?_ x, h2⟩
  intro e1
  rcases h2 with h2 | h2
  · rw [h2] at e1; cases e1
  · exact h2 (e1.trans ha.symm)
theorem Mv.set_elem {q : Value} {w : World} {a : Addr} {x : Value} {c : Array Value} {e' : TypeId} {fr : Nat × Nat} (hg : w.heap[a.block]? = some (.cells c e' fr)) (he : e' ≠ e) : Mv en s base e q q w (w.setCell a x) := fun _ _ h1 h2 =>
  ⟨h1.set_other (h1.ne_elem hg he) x, h2⟩
end

/-- blocks whose elements are of none of two types stay -/
def Kt (e1 e2 : TypeId) (w w' : World) : Prop := ∀ (k : Nat) (c : Array Value) (e : TypeId), e ≠ e1 → e ≠ e2 → w.heap[k]? = some (.cells c e (0, 0)) → w'.heap[k]? = some (.cells c e (0, 0))
theorem Kt.refl (e1 e2 : TypeId) (w : World) : Kt e1 e2 w w := fun _ _ _ _ _ h => h
theorem Kt.trans {e1 e2 : TypeId} {w w' w'' : World} (h : Kt e1 e2 w w') (h2 : Kt e1 e2 w' w'') : Kt e1 e2 w w'' := fun k c e a b h0 => h2 k c e a b (h k c e a b h0)
theorem Kt.below {e1 e2 : TypeId} {w w' : World} (hb : Below w.heap.size w w') : Kt e1 e2 w w' := fun k _ _ _ _ h => (hb.block k (Array.getElem?_eq_some_iff.1 h).1).trans h
theorem Kt.append {α : Type} {en : α → List Value} {s base : Nat} {e1 e2 : TypeId} {w w' : World} {q : Value} {l : List α} (ho : Own en s base e1 w q l) (hg : w.grownBy w' q.ownBlock) : Kt e1 e2 w w' := fun k _ _ a _ h =>
  (hg.block k (Array.getElem?_eq_some_iff.1 h).1 (fun e3 => ho.ne_elem h a e3.symm)).trans h
theorem Kt.set {e1 e2 : TypeId} {w : World} {a : Addr} {x : Value} {c0 : Array Value} {e0 : TypeId} {fr : Nat × Nat} (hg : w.heap[a.block]? = some (.cells c0 e0 fr)) (he : e0 = e1 ∨ e0 = e2) : Kt e1 e2 w (w.setCell a x) := fun k c e b1 b2 h =>
  (Below.heap_setCell _ _ _ _ (by
    rintro rfl
    rw [hg] at h
    simp only [Option.some.injEq, Obj.cells.injEq] at h
    rcases he with rfl | rfl
    · exact b1 h.2.1.symm
    · exact b2 h.2.1.symm)).trans h

/-- an own slice that is not nil lies in a block -/
theorem Own.block {α : Type} {en : α → List Value} {s base : Nat} {e : TypeId} {w : World} {v : Value} {l : List α} (h : Own en s base e w v l) (hl : l ≠ []) :
    ∃ g cap cur, v = .slice (some ⟨g, 0, none⟩) l.length cap ∧ base ≤ g ∧ w.heap[g]? = some (.cells cur e (0, 0)) ∧ l.length ≤ cap ∧ cur.size = cap * s ∧ cur.toList.take (l.length * s) = l.flatMap en := by
  rcases h.2 with ⟨_, h0⟩ | ⟨g, cap, cur, hv, h1, h2, h3, _, h4, h5⟩
  · exact absurd (List.length_eq_zero_iff.1 h0) hl
  · exact ⟨g, cap, cur, hv, h1, h2, h3, h4, h5⟩

theorem flat_set {α : Type} {f : α → Value} (l : List α) (k : Nat) (x : α) : (l.set k x).flatMap (fun y => [f y]) = (l.flatMap (fun y => [f y])).set k (f x) := by
  have e : ∀ l : List α, l.flatMap (fun y => [f y]) = l.map f := fun l => by
    induction l with
    | nil => rfl
    | cons y l ih => rw [List.flatMap_cons, ih]; rfl
  rw [e, e, List.map_set]
/-- a store into an own slice of one-cell elements -/
theorem Own.set1 {α : Type} {f : α → Value} {base : Nat} {e : TypeId} {w : World} {g n cap : Nat} {l : List α} (h : Own (fun y => [f y]) 1 base e w (.slice (some ⟨g, 0, none⟩) n cap) l) {k : Nat} (hk : k < l.length) (x : α) :
    Own (fun y => [f y]) 1 base e (w.setCell ⟨g, k, none⟩ (f x)) (.slice (some ⟨g, 0, none⟩) n cap) (l.set k x) := by
  rcases h.2 with ⟨hv, _⟩ | ⟨g', cap', cur, hv, h1, h2, h3, h4, h5, h6⟩
  · cases hv
  · simp only [Value.slice.injEq, Option.some.injEq, Addr.mk.injEq, and_true] at hv
    obtain ⟨rfl, rfl, rfl⟩ := hv
    have hcs : k < cur.size := by omega
    refine ⟨by rw [flat_set, List.length_set, List.length_set]; exact h.1, .inr ⟨g, cap, cur.set! k (f x), by simp, h1, ?_, by simpa using h3, h4, by simpa using h5, ?_⟩⟩
    · exact heap_setCell_same _ _ _ _ _ _ h2
    · rw [flat_set, List.length_set, ← h6]
      simp [List.take_set]
end Go.Sl
