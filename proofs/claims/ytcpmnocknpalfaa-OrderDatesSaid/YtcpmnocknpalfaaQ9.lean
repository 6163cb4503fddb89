/-
  Layer 15: what stands while a walk runs with a queue; marks at a return. No condition besides what the arguments are.
-/
import Derived.Test.YtcpmnocknpalfaaQ6
import Derived.Test.YtcpmnocknpalfaaKB
namespace Go.Proofs.Ytcpmnocknpalfaa
open Go.Proofs Go.RowKit Go.Shelf Go.Sl
set_option linter.unusedVariables false

/-- the marks that loops over functions have left -/
def marks (Ds : List Nat) : List Deferred := Ds.map fun D => { target := .collected D, args := #[] }
def putAll (w : World) (Ds : List Nat) : World := Ds.foldl (fun w D => w.putObj D (.deferred none)) w
theorem leaves_marks {F : Fence} {n : Nat} {P : Program} {fn : Func} {tmps : Array Value} {R : Ending → World → Prop} : ∀ (Ds : List Nat) (w : World), (∀ D ∈ Ds, w.heap[D]? = some (.deferred (some []))) → Ds.Nodup →
    LeavesIn F n P fn tmps R [] .returning (putAll w Ds) → LeavesInM F n P fn tmps R (marks Ds) .returning w
  | [], w, _, _, h => h
  | D :: Ds, w, h1, h2, h => by
    refine ⟨by simp, .inl ⟨D, _, rfl, run_takeDeferred (h1 D (by simp)), ?_⟩⟩
    obtain ⟨h3, h4⟩ := List.nodup_cons.1 h2
    exact leaves_marks Ds _ (fun D' hD' => (World.putObj_heap_other (fun e => h3 (by rw [← e]; exact hD'))).trans (h1 D' (List.mem_cons_of_mem _ hD'))) h4 h
theorem putAll_own {base : Nat} {v : Value} {l : List Int} : ∀ (Ds : List Nat) (w : World), (∀ D ∈ Ds, w.heap[D]? = some (.deferred (some []))) → Ds.Nodup → Sl.Own eInt 1 base 3 w v l → Sl.Own eInt 1 base 3 (putAll w Ds) v l
  | [], w, _, _, h => h
  | D :: Ds, w, h1, h2, h => by
    obtain ⟨h3, h4⟩ := List.nodup_cons.1 h2
    refine putAll_own Ds _ (fun D' hD' => (World.putObj_heap_other (fun e => h3 (by rw [← e]; exact hD'))).trans (h1 D' (List.mem_cons_of_mem _ hD'))) h4 (Sl.Own.kept h (grownBy_putObj' w D _) (.inr fun e => ?_))
    rcases h.2 with ⟨rfl, _⟩ | ⟨g', cap, cur, rfl, _, hg', _⟩
    · cases e
    · have e2 : g' = D := by simpa [Value.ownBlock] using e
      rw [e2, h1 D (by simp)] at hg'
      cases hg'
theorem putAll_below {base : Nat} {w0 : World} : ∀ (Ds : List Nat) (w : World), (∀ D ∈ Ds, base ≤ D) → (∀ D ∈ Ds, D < w.heap.size) → Below base w0 w → Below base w0 (putAll w Ds)
  | [], w, _, _, h => h
  | D :: Ds, w, h1, h2, h => by
    have hD := h2 D (by simp)
    have hb := h1 D (by simp)
    refine putAll_below Ds _ (fun D' hD' => h1 D' (List.mem_cons_of_mem _ hD')) (fun D' hD' => by have := h2 D' (List.mem_cons_of_mem _ hD'); simpa using this) (h.trans ((Below.refl base w).grown (grownBy_putObj' w D _) (by omega) (fun k e => by cases e; exact hb)))

/-- what stands while a walk runs with a queue -/
structure RQ (w0 : World) (wb ib ob : Nat) (gv : Value) (N : Nat) (inl : Nat → Bool) (op : Nat → Int) (qb : Nat) (fv : Value) (cb : Nat) (bx : Value) (eb : TypeId) (B3 B4 : Nat) (v : Value) (q : List Int) (W : World) : Prop where
  wk : WK w0.heap.size wb ib ob gv N inl op W
  hqb : w0.heap.size ≤ qb
  blk : W.heap[qb]? = some (.cells #[v, fv] 117 (0, 0))
  own : Sl.Own eInt 1 w0.heap.size 3 W v q
  ap : Apart (.slice (some ⟨ob, 0, none⟩) N N) v
  b3 : W.heap[B3]? = some (.cells #[.pointer (some ⟨wb, 0, none⟩)] 111 (0, 0))
  b4 : W.heap[B4]? = some (.cells #[.iface 115 (.pointer (some ⟨qb, 0, none⟩))] 133 (0, 0))
  bc : W.heap[cb]? = some (.cells #[bx] eb (0, 0))
  bel : Below w0.heap.size w0 W
section
variable {w0 : World} {wb ib ob : Nat} {gv : Value} {N : Nat} {inl : Nat → Bool} {op : Nat → Int} {qb : Nat} {fv : Value} {cb : Nat} {bx : Value} {eb : TypeId} {B3 B4 : Nat} {v : Value} {q : List Int} {W W' : World}
/-- the queue has been at work -/
theorem RQ.queue (h : RQ w0 wb ib ob gv N inl op qb fv cb bx eb B3 B4 v q W) (he : eb ≠ 3 ∧ eb ≠ 117) {K : Int → Int} {l : List Int} (hQ : QueueX w0.heap.size qb fv v K l W W') :
    ∃ v' q', RQ w0 wb ib ob gv N inl op qb fv cb bx eb B3 B4 v' q' W' ∧ Hp.hp (Ord.leI K) q' ∧ q'.Perm l ∧ Mv eInt 1 w0.heap.size 3 v v' W W' ∧ Kt 3 117 W W' ∧ Below w0.heap.size W W' ∧ Ko W W' := by
  obtain ⟨v', q', h1, h2, h3⟩ := hQ
  obtain ⟨m1, m2⟩ := h1.mv _ _ h.wk.opn h.ap
  exact ⟨v', q', ⟨⟨h.wk.hwb, h1.kt _ _ _ (by decide) (by decide) h.wk.blk, ⟨h.wk.inB.hb, h1.kt _ _ _ (by decide) (by decide) h.wk.inB.blk⟩, m1⟩, h.hqb, h1.blk, h1.own, m2,
    h1.kt _ _ _ (by decide) (by decide) h.b3, h1.kt _ _ _ (by decide) (by decide) h.b4, h1.kt _ _ _ he.1 he.2 h.bc, h.bel.trans h1.bel⟩, h2, h3, h1.mv, h1.kt, h1.bel, h1.ko⟩
/-- new blocks -/
theorem RQ.ext (h : RQ w0 wb ib ob gv N inl op qb fv cb bx eb B3 B4 v q W) (hb : Below W.heap.size W W') : RQ w0 wb ib ob gv N inl op qb fv cb bx eb B3 B4 v q W' :=
  have k : ∀ {k : Nat} {o : Obj}, W.heap[k]? = some o → W'.heap[k]? = some o := fun {_ _} h => (hb.block _ (Array.getElem?_eq_some_iff.1 h).1).trans h
  ⟨h.wk.ext hb, h.hqb, k h.blk, h.own.ext hb, h.ap, k h.b3, k h.b4, k h.bc, h.bel.trans (hb.mono h.bel.size)⟩
/-- a block that is no cells turned, or an own row of integers apart from the queue's and the walk's grown -/
theorem RQ.grown (h : RQ w0 wb ib ob gv N inl op qb fv cb bx eb B3 B4 v q W) (heb : eb ≠ 3) {row : Option Nat} (hg : W.grownBy W' row) (hr : ∀ r, row = some r → w0.heap.size ≤ r ∧ r < W.heap.size ∧ (∀ c e fr, W.heap[r]? = some (.cells c e fr) → e = 3 ∧ v.ownBlock ≠ some r ∧ r ≠ ob)) :
    RQ w0 wb ib ob gv N inl op qb fv cb bx eb B3 B4 v q W' := by
  have k : ∀ {k : Nat} {c : Array Value} {e : TypeId} {fr : Nat × Nat}, e ≠ 3 → W.heap[k]? = some (.cells c e fr) → W'.heap[k]? = some (.cells c e fr) := fun {k c e fr} he hk => grown_heap hg hk (fun e1 => he ((hr k e1).2.2 c e fr hk).1)
  have hv : v.ownBlock = none ∨ v.ownBlock ≠ row := by
    rcases h.own.2 with ⟨e1, _⟩ | ⟨g', cap, cur, e1, _, hg', _⟩
    · left; rw [e1]; rfl
    · right; intro e2
      have e3 : v.ownBlock = some g' := by rw [e1]; rfl
      exact ((hr g' (e2.symm.trans e3)).2.2 _ _ _ hg').2.1 e3
  have hob : ob < W.heap.size := by
    rcases h.wk.opn.2 with ⟨e1, _⟩ | ⟨g', cap, cur, e1, _, hg', _⟩
    · cases e1
    · have := (Array.getElem?_eq_some_iff.1 hg').1
      simp only [Value.slice.injEq, Option.some.injEq, Addr.mk.injEq, and_true] at e1
      omega
  have ho : (Value.slice (some ⟨ob, 0, none⟩) N N).ownBlock = none ∨ (Value.slice (some ⟨ob, 0, none⟩) N N).ownBlock ≠ row := by
    right; intro e2
    rcases h.wk.opn.2 with ⟨e1, _⟩ | ⟨g', cap, cur, e1, _, hg', _⟩
    · cases e1
    · simp only [Value.slice.injEq, Option.some.injEq, Addr.mk.injEq, and_true] at e1
      obtain ⟨rfl, _, _⟩ := e1
      exact ((hr ob e2.symm).2.2 _ _ _ hg').2.2 rfl
  exact ⟨⟨h.wk.hwb, k (by decide) h.wk.blk, ⟨h.wk.inB.hb, k (by decide) h.wk.inB.blk⟩, Sl.Own.kept h.wk.opn hg ho⟩, h.hqb, k (by decide) h.blk, h.own.kept hg hv, h.ap, k (by decide) h.b3, k (by decide) h.b4, k heb h.bc,
    h.bel.grown hg h.bel.size (fun r e => (hr r e).1)⟩
end
end Go.Proofs.Ytcpmnocknpalfaa
