/-
  Arguments of layer 14 opened: a graph. No condition.
-/
import Derived.Test.YtcpmnocknpalfaaD1
import Derived.Test.YtcpmnocknpalfaaOpn2
namespace Go.Proofs.Ytcpmnocknpalfaa
open Go.RowKit Go.ChangeShapes Go.WideShapes Go.ChangeAt Go.Deep Go.Joins Go.Sl
set_option linter.unusedVariables false

section
variable {H : Type} {enc : TypeId × Value → H} {w : World} {base : Nat} {spare : Nat → Bool} {held : Bool}

theorem len2 {α : Type} {l : List α} (h : l.length = 2) : ∃ a b, l = [a, b] := by
  match l, h with
  | [a, b], _ => exact ⟨a, b, rfl⟩
theorem int_cell {t : TypeId} (ht : Try.prog.underlying t = some (.int .i64)) {n : Nat} {cs : List Value} {y : DataW H × List MemPlace} (h : DataW.trod enc Try.prog w base spare held n t cs = some y) : ∃ a : Int, cs = [.int .i64 a] ∧ (Lit.int .i64 a).wf = true := by
  obtain ⟨a, e0, _, wa⟩ := DataW.trod_int ht h
  exact ⟨a, e0, wa⟩
theorem slv_of {α : Type} {en : α → List Value} {s : Nat} {w : World} {v : Value} {l : List α} (h : Sl en s w v l) : ∃ x : SlV, v = x.val := by
  obtain ⟨a, n, c, rfl⟩ := h.isSlice; exact ⟨⟨a, n, c⟩, rfl⟩

theorem opn_graph {fuel : Nat} {cs : List Value} {x : DataW H × List MemPlace} (h : DataW.trod enc Try.prog w base spare held fuel 22 cs = some x) : ∃ v g, cs = [v] ∧ ∃ es, Gr w v es g := by
  have k3 : Try.prog.cellsOf 3 = 1 := by kernel_rfl
  have k23 : Try.prog.cellsOf 23 = 1 := by kernel_rfl
  obtain ⟨v, l, h1, h2, h4⟩ := opn_elems (α := (SlV × Int) × Nd) (en := fun x => eNd x.1) (R := fun x => x.1.2 = x.2.2 ∧ Sl eInt 1 w x.1.1.val x.2.1) (by omega) (fun x => len_eNd x.1) Try.underlying22 cells90 (fun n cs' y hy hl => by
      obtain ⟨y0, y1, m, hy', _, h0, h1⟩ := trod_struct2 Try.underlying90 hy
      obtain ⟨c0, c1, rfl⟩ := len2 hl
      obtain ⟨v1, l1, e1, s1, _⟩ := opn_ints Try.underlying23 (by kernel_rfl) (by kernel_rfl) h0
      obtain ⟨a, ea, wa⟩ := int_cell (by kernel_rfl) h1
      have e1' : c0 = v1 := by simpa [k23] using e1
      have ea' : c1 = .int .i64 a := by simpa [k3] using ea
      obtain ⟨z1, rfl⟩ := slv_of s1
      exact ⟨((z1, a), (l1, a)), ⟨rfl, s1⟩, by rw [ea', e1']; rfl⟩) h
  refine ⟨v, l.map (·.2), h1, l.map (·.1), ?_, by simp, ?_⟩
  · obtain ⟨ao, cap, hv, g1, g2, g3, g4⟩ := h2.shp
    refine ⟨ao, cap, by simpa using hv, by simpa using g1, g2, g3, ?_⟩
    rcases g4 with rfl | ⟨b, off, g5, g6, g7⟩
    · exact .inl rfl
    · exact .inr ⟨b, off, g5, g6, fun k hk j hj => by
        have hk' : k < l.length := by simpa using hk
        rw [g7 k hk' j hj]; simp⟩
  · intro k g1 g2
    have hk : k < l.length := by simpa using g1
    have := h4 _ (List.getElem_mem hk)
    simpa using this
end
end Go.Proofs.Ytcpmnocknpalfaa
