/-
  Layer 14: a graph as a list; lists compared and looked through. No condition.
-/
import Derived.Test.YtcpmnocknpalfaaProg
import Derived.Test.YtcpmnocknpalfaaSl
import Derived.Test.YtcpmnocknpalfaaRow
import Derived.Test.YtcpmnocknpalfaaSub
import Derived.Deep.DeepCutAuto
import Derived.Deep.QuietTactic
import Derived.BigQuiet
import Derived.IntWalk
namespace Go.Proofs.Ytcpmnocknpalfaa
open Go.RowKit Go.Sl

theorem ret_bool {a b : Bool} (h : a = b) : Ending.returned (.bool a) = .returned (.bool b) := by rw [h]
theorem ret_int {a b : Int} (h : a = b) : Ending.returned (.int .i64 a) = .returned (.int .i64 b) := by rw [h]

/-- a node: its parents, its time -/
abbrev Nd := List Int × Int
/-- a slice's value -/
structure SlV where
  a : Option Addr
  n : Nat
  c : Nat
def SlV.val (x : SlV) : Value := .slice x.a x.n x.c
def eNd (x : SlV × Int) : List Value := [x.1.val, .int .i64 x.2]
theorem len_eNd (x : SlV × Int) : (eNd x).length = 2 := rfl
theorem one_eNd (x : SlV × Int) : ∀ u ∈ eNd x, u.oneCell' = true := by simp [eNd, Value.oneCell', SlV.val]

/-- a slice of nodes -/
structure Gr (w : World) (v : Value) (es : List (SlV × Int)) (g : List Nd) : Prop where
  outer : Sl eNd 2 w v es
  len : es.length = g.length
  inner : ∀ k (h : k < es.length) (h' : k < g.length), es[k].2 = g[k].2 ∧ Sl eInt 1 w es[k].1.val g[k].1
theorem Gr.ext {w w' : World} {v : Value} {es : List (SlV × Int)} {g : List Nd} (h : Gr w v es g) (hb : Below w.heap.size w w') : Gr w' v es g :=
  ⟨h.outer.ext hb, h.len, fun k h1 h2 => ⟨(h.inner k h1 h2).1, (h.inner k h1 h2).2.ext hb⟩⟩
theorem Gr.run_len {w : World} {v : Value} {es : List (SlV × Int)} {g : List Nd} (h : Gr w v es g) : ∀ (ty : TypeId) (u : World), (Builtin.len_ #[22] ty #[v]).run Try.prog u = .ok (.int .i64 (g.length : Int)) u := by
  rw [← h.len]; exact h.outer.run_len Try.underlying22
theorem Gr.len_le {w : World} {v : Value} {es : List (SlV × Int)} {g : List Nd} (h : Gr w v es g) : g.length ≤ 9223372036854775807 := by
  rw [← h.len]; exact h.outer.len_le

theorem cells90 : Try.prog.cellsOf 90 = 2 := by kernel_rfl
theorem some90 : (Try.prog.info? 90).isSome = true := by kernel_rfl
theorem cells3 : Try.prog.cellsOf 3 = 1 := by kernel_rfl
theorem some3 : (Try.prog.info? 3).isSome = true := by kernel_rfl

/-- a node's cells, and its parents -/
theorem Gr.at {w wr : World} {v : Value} {es : List (SlV × Int)} {g : List Nd} (h : Gr w v es g) (hb : Below w.heap.size w wr) {k : Nat} (hk : k < g.length) :
    ∃ b o, b < w.heap.size ∧ (∀ (ik : IntKind) (u : World), (Instr.indexAt 22 v (.int ik (k : Int))).run Try.prog u = .ok (.pointer (some ⟨b, o, none⟩)) u) ∧
      ∃ (P : List Int) (T : Int) (a1 : Option Addr) (n1 c1 : Nat), Hid (g[k] = (P, T)) ∧ Hid (P.length = n1) ∧ wr.cell? ⟨b, o, none⟩ = some (.slice a1 n1 c1) ∧ wr.cell? ⟨b, o + 1, none⟩ = some (.int .i64 T) ∧
        Sl eInt 1 w (.slice a1 n1 c1) P ∧ n1 ≤ 9223372036854775807 := by
  have hk' : k < es.length := by rw [h.len]; exact hk
  obtain ⟨b, o, h1, h2, h3⟩ := h.outer.atB hb (P := Try.prog) Try.underlying22 cells90 some90 hk'
  obtain ⟨i1, i2⟩ := h.inner k hk' hk
  rcases hes : es[k] with ⟨s1, T⟩
  rw [hes] at h3 i1 i2
  rcases hxs : g[k] with ⟨P, T'⟩
  rw [hxs] at i1 i2
  obtain rfl : T = T' := i1
  have m1 := i2.len_le
  obtain ⟨q1, k1, hv1, _⟩ := i2.shp
  simp only at hv1 m1
  simp only [hv1] at i2
  refine ⟨b, o, h1, h2, P, T, q1, _, k1, Lib.hid rfl, Lib.hid rfl, ?_, ?_, i2, m1⟩
  · have := h3 0 (by omega); simpa [eNd, hv1] using this
  · have := h3 1 (by omega); simpa [eNd] using this
end Go.Proofs.Ytcpmnocknpalfaa
