/-
  Arguments of layer 21 opened: texts, and edits, with what they read as. No condition.
-/
import Derived.Test.YtdlmdjhnigbfpaaE2
import Derived.Test.YtdlmdjhnigbfpaaO
import Derived.Test.YtdlmdjhnigbfpaaOpn3
namespace Go.Proofs.Ytdlmdjhnigbfpaa
open Go.RowKit Go.ChangeShapes Go.WideShapes Go.ChangeAt Go.Deep Go.Joins Go.Sl Go.Scr

section
variable {H : Type} {enc : TypeId × Value → H} {w : World} {base : Nat} {spare : Nat → Bool} {held : Bool}

/-- a datum that lists so many elements -/
def Lists (d : DataW H) (ds : List (DataW H)) : Prop := (d = .nil ∧ ds = []) ∨ ∃ sp, d = .slice ds sp

theorem opn_text {fuel : Nat} {cs : List Value} {x : DataW H × List MemPlace} (h : DataW.trod enc Try.prog w base spare held fuel 47 cs = some x) :
    ∃ v l ds, cs = [v] ∧ Sl eStr 1 w v l ∧ ds.length = l.length ∧ Lists x.1 ds := by
  obtain ⟨v, l, ds, h1, h2, h3, _, h5⟩ := opn_elems_d (R := fun (_ : ByteArray) (_ : DataW H) => True) (by omega) len_eStr Try.underlying47 cells9 (fun n cs' y hy hl => by
    obtain ⟨s, hs, _⟩ := DataW.trod_string Try.underlying9 hy
    exact ⟨s, trivial, hs⟩) h
  exact ⟨v, l, ds, h1, h2, h3, h5⟩

/-- an edit, and what it reads as -/
def EdOf (w : World) (x : (Int × SlV × SlV) × Ed ByteArray) (d : DataW H) : Prop :=
  x.1.1 = x.2.1 ∧ x.2.1 ≤ 9223372036854775807 ∧ Sl eStr 1 w x.1.2.1.val x.2.2.1 ∧ Sl eStr 1 w x.1.2.2.val x.2.2.2 ∧ ∃ d0 d1 d2 ds, d = .agg [d0, d1, d2] ∧ Lists d2 ds ∧ ds.length = x.2.2.2.length

theorem slv_of {α : Type} {en : α → List Value} {s : Nat} {w : World} {v : Value} {l : List α} (h : Sl en s w v l) : ∃ x : SlV, v = x.val := by
  obtain ⟨a, n, c, rfl⟩ := h.isSlice; exact ⟨⟨a, n, c⟩, rfl⟩

theorem opn_edits {fuel : Nat} {cs : List Value} {x : DataW H × List MemPlace} (h : DataW.trod enc Try.prog w base spare held fuel 48 cs = some x) :
    ∃ v es xs ds, cs = [v] ∧ Eds w v es xs ∧ ds.length = xs.length ∧ (∀ k (h1 : k < xs.length) (h2 : k < ds.length), ∃ d0 d1 d2 es', ds[k] = .agg [d0, d1, d2] ∧ Lists d2 es' ∧ es'.length = xs[k].2.2.length) ∧ Lists x.1 ds := by
  have k3 : Try.prog.cellsOf 3 = 1 := by kernel_rfl
  have k47 : Try.prog.cellsOf 47 = 1 := by kernel_rfl
  obtain ⟨v, l, ds, h1, h2, h3, h4, h5⟩ := opn_elems_d (α := (Int × SlV × SlV) × Ed ByteArray) (en := fun x => eEd x.1) (R := EdOf w) (by omega) (fun x => len_eEd x.1) Try.underlying48 cells52 (fun n cs' y hy hl => by
    obtain ⟨y0, y1, y2, m, hy', _, h0, h1, h2⟩ := trod_struct3 Try.underlying52 hy
    match cs', hl with
    | [c0, c1, c2], _ =>
      obtain ⟨a, ea, wa⟩ := int_cell (by kernel_rfl) h0
      obtain ⟨v1, l1, ds1, e1, s1, q1, t1⟩ := opn_text h1
      obtain ⟨v2, l2, ds2, e2, s2, q2, t2⟩ := opn_text h2
      have ea' : c0 = .int .i64 a := by simpa [k3] using ea
      have e1' : c1 = v1 := by simpa [k47] using e1
      have e2' : c2 = v2 := by simpa [k47] using e2
      obtain ⟨z1, rfl⟩ := slv_of s1
      obtain ⟨z2, rfl⟩ := slv_of s2
      have wl : a ≤ 9223372036854775807 := (bounds_i64 wa).2
      exact ⟨((a, z1, z2), (a, l1, l2)), ⟨rfl, wl, s1, s2, y0.1, y1.1, y2.1, ds2, by rw [hy'], t2, q2⟩, by rw [ea', e1', e2']; rfl⟩) h
  refine ⟨v, l.map (·.1), l.map (·.2), ds, h1, ⟨?_, by simp, ?_, ?_⟩, by simp [h3], ?_, h5⟩
  · obtain ⟨ao, cap, hv, g1, g2, g3, g4⟩ := h2.shp
    refine ⟨ao, cap, by simpa using hv, by simpa using g1, g2, g3, ?_⟩
    rcases g4 with rfl | ⟨b, off, g5, g6, g7⟩
    · exact .inl rfl
    · exact .inr ⟨b, off, g5, g6, fun k hk j hj => by
        have hk' : k < l.length := by simpa using hk
        rw [g7 k hk' j hj]; simp⟩
  · intro x hx
    obtain ⟨y, hy, rfl⟩ := List.mem_map.1 hx
    obtain ⟨k, hk, rfl⟩ := List.getElem_of_mem hy
    exact (h4 k hk (by omega)).2.1
  · intro k g1 g2
    have hk : k < l.length := by simpa using g1
    have := h4 k hk (by omega)
    simp only [List.getElem_map]
    exact ⟨this.1, this.2.2.1, this.2.2.2.1⟩
  · intro k g1 g2
    have hk : k < l.length := by simpa using g1
    obtain ⟨d0, d1, d2, es', e1, e2, e3⟩ := (h4 k hk g2).2.2.2.2
    simp only [List.getElem_map]
    exact ⟨d0, d1, d2, es', e1, e2, e3⟩
end
end Go.Proofs.Ytdlmdjhnigbfpaa
