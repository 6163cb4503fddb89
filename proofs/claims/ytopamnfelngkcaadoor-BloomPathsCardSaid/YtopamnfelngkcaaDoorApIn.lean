/-
  An append to an own slice inside a fence. No program is named here.
-/
import Derived.OwnWalkIn
import Derived.Test.YtopamnfelngkcaaDoorAp
namespace Go.Sl
open Go.RowKit
section
variable {α : Type} {en : α → List Value} {s base : Nat} {e : TypeId} {w w' : World}
theorem wpListIn_append1 {F : Fence} {n : Nat} {P : Program} {ops : Array Oper} {rest : List Oper} {o : Oper} {a : Act} {Q : Exit → Act → World → Prop} (hg : o.guard = none) (so xo : Operand) (t : TypeId)
    (ho : o.op = .call { callee := .builtin .append, args := #[so, xo], argTypes := #[t, t] })
    (z : Value) (bytes : Nat) (ht : P.underlying t = some (.slice e)) (hinfo : (P.info? e).map (fun i => (i.zero, i.size, i.bytes)) = some (some z, s, bytes)) (hzs : z.cells.size = s) (hsz : 0 < s)
    (hs : ∀ x, (en x).length = s) (h1 : ∀ x, ∀ u ∈ en x, u.oneCell' = true)
    (v xv : Value) (l : List α) (x : α) (hv : a.eval so = v) (hown : Own en s base e w v l) (hx : a.eval xo = xv) (hsl : Sl en s w xv [x])
    (h63 : l.length + 1 ≤ maxLen) (hbytes : (l.length + 1) * bytes ≤ 140737488355328) (hbase : base ≤ w.heap.size)
    (h : ∀ v' w', Own en s base e w' v' (l ++ [x]) → w.grownBy w' v.ownBlock → Below base w w' → (v'.ownBlock = v.ownBlock ∨ v'.ownBlock = some w.heap.size) → wpListIn F n P ops Q rest (a.put o.dst v') w') : wpListIn F n P ops Q (o :: rest) a w := by
  refine wpListIn_plain hg fun K hK' => ?_
  obtain ⟨i, hi, hz, hsize, hby⟩ := info_parts hinfo
  have hlt := hown.lt
  obtain ⟨ao, cap, rfl, hlc, hm, hn0, hc⟩ := hsl.shp
  obtain ⟨b, off, rfl, hb1, hb2⟩ := hc.resolve_left (by simp)
  have hnews : ∀ j u, (en x)[j]? = some u → w.cell? ((⟨b, off, none⟩ : Addr).add j) = some u := by
    intro j u hu
    have hj : j < s := by
      have := (List.getElem?_eq_some_iff.1 hu).1
      rwa [hs] at this
    have h2 := hb2 0 (by simp) j hj
    rw [Addr.add_lit]
    rw [show off + 0 * s + j = off + j by omega] at h2
    rw [h2]; exact hu
  obtain ⟨v', w2, hr, h2, h3, _⟩ := run_append_own (P := P) w base t o.type e i z s bytes ht hi hz hsize hby hzs hsz v l.length (l.flatMap en) hown ⟨b, off, none⟩ 1 cap (en x) (by rw [hs]; omega) hnews (h1 x) h63 hbytes hbase
  have hblk := append_block ht hi hz hsize hown (m := 1) (c := cap) (by rw [hs]; omega) hnews (h1 x) h63 (by rw [hby]; exact hbytes) (by omega) hr
  unfold Oper.wpIn
  refine ⟨?_, ?_⟩
  · simp [Oper.about, ho, resolve, Target.leads, Sem.run_pure]
  · rw [Oper.semAt_plain F _ _ (by rw [ho]; intro c hc'; cases hc')]
    simp only [execOp, ho, resolve, invoke, builtin, Sem.run_bind, Sem.run_pure, Result.andThen_ok, List.map_toArray, List.map_cons, List.map_nil, hv, hx, List.length_singleton, hr]
    refine hK' _ _ (h v' w2 ?_ h3 (below_grown h3 hbase fun k hk => (hlt k hk).1) hblk)
    unfold Own
    rw [List.length_append, List.flatMap_append]
    simpa using h2
end
end Go.Sl
