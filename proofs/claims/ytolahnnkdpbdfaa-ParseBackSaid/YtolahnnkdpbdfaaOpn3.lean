/-
  A slice opened as a list, element by element, with what each element reads as. No program is named here.
-/
import Derived.Test.YtolahnnkdpbdfaaOpn2
import Derived.Deep.Strs
namespace Go.Sl
open Go.RowKit Go.ChangeShapes Go.WideShapes Go.ChangeAt Go.Deep Go.Joins
section
variable {H : Type} {enc : TypeId × Value → H} {P : Program} {w : World} {base : Nat} {spare : Nat → Bool} {held : Bool}

/-- a slice whose elements open by themselves; the data stand beside them -/
theorem opn_elems_d {α : Type} {en : α → List Value} {R : α → DataW H → Prop} {s : Nat} (hs : 0 < s) (hen : ∀ x, (en x).length = s) {t e : TypeId} {fuel : Nat} {cs : List Value} {x : DataW H × List MemPlace} (ht : P.underlying t = some (.slice e)) (hc : P.cellsOf e = s)
    (he : ∀ n cs' y, DataW.trod enc P w base spare held n e cs' = some y → cs'.length = s → ∃ x : α, R x y.1 ∧ cs' = en x)
    (h : DataW.trod enc P w base spare held fuel t cs = some x) :
    ∃ v l ds, cs = [v] ∧ Sl en s w v l ∧ ds.length = l.length ∧ (∀ k (h1 : k < l.length) (h2 : k < ds.length), R l[k] ds[k]) ∧ ((x.1 = .nil ∧ ds = []) ∨ ∃ sp, x.1 = .slice ds sp) := by
  rcases open_slice ht h with ⟨hcs, hx⟩ | ⟨a, len, cap, m, n, D, Pl, hcs, _, hl, hm, hmm, hx, hV⟩
  · exact ⟨_, [], [], hcs, Sl.nil _ _ _, rfl, by simp, .inl ⟨by rw [hx], rfl⟩⟩
  · have hlm : len ≤ m := by rw [hmm]; split <;> omega
    obtain ⟨l, hll, hp⟩ := choose_list (p := fun k (x : α) => R x (D k) ∧ ∀ j, j < s → w.cell? (a.add (k * s + j)) = (en x)[j]?) len (fun k hk => by
      obtain ⟨cs', h1, h2⟩ := hV k (by omega)
      obtain ⟨_, h3, h4⟩ := World.cells?_some h1
      rw [hc] at h3 h4
      obtain ⟨x, hr, rfl⟩ := he _ _ _ h2 h3
      refine ⟨x, hr, fun j hj => ?_⟩
      rw [← h4 j hj]
      congr 1
      by_cases hk0 : k * s = 0 <;> by_cases hj0 : j = 0 <;> simp [Addr.add, hk0, hj0] <;> omega)
    refine ⟨_, l, (List.range len).map D, hcs, ?_, by simp [hll], fun k h1 h2 => ?_, .inr ⟨_, by rw [hx]⟩⟩
    · have hn : (some a : Option Addr) = none → cap = 0 := fun h => by cases h
      have := Sl.of_cells (w := w) (en := en) (s := s) (ao := some a) (cap := cap) (l := l) (by omega) hm hn hs hen (by
        intro a' ha k hk j hj
        obtain rfl := Option.some.inj ha
        exact (hp k hk).2 j hj)
      rw [hll] at this
      exact this
    · have := (hp k h1).1
      simpa using this

/-- a value that is one cell reads as what its cell reads as; the datum named -/
theorem one_cell_d {t : TypeId} {v : Value} {d : DataW H} {ps : List MemPlace} (h : DataW.Trod enc P w base spare held t v d ps) {a : Option Addr} {n c : Nat} (hv : v = .slice a n c) : ∃ fuel, DataW.trod enc P w base spare held fuel t [v] = some (d, ps) := by
  subst hv
  obtain ⟨fuel, hf⟩ := h
  exact ⟨fuel, by simpa [Value.cells] using hf⟩
end
end Go.Sl
