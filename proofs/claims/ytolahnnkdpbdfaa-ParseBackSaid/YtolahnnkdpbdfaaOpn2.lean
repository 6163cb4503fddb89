/-
  A slice of structs, opened as a list, element by element. No program is named here.
-/
import Derived.Test.YtolahnnkdpbdfaaOpn
import Derived.ChangeSame
namespace Go.Sl
open Go.RowKit Go.ChangeShapes Go.WideShapes Go.ChangeAt Go.Deep Go.Joins
section
variable {H : Type} {enc : TypeId × Value → H} {P : Program} {w : World} {base : Nat} {spare : Nat → Bool} {held : Bool}

/-- a slice whose elements open by themselves -/
theorem opn_elems {α : Type} {en : α → List Value} {R : α → Prop} {s : Nat} (hs : 0 < s) (hen : ∀ x, (en x).length = s) {t e : TypeId} {fuel : Nat} {cs : List Value} {x : DataW H × List MemPlace} (ht : P.underlying t = some (.slice e)) (hc : P.cellsOf e = s)
    (he : ∀ n cs' y, DataW.trod enc P w base spare held n e cs' = some y → cs'.length = s → ∃ x : α, R x ∧ cs' = en x)
    (h : DataW.trod enc P w base spare held fuel t cs = some x) : ∃ v l, cs = [v] ∧ Sl en s w v l ∧ ∀ x ∈ l, R x := by
  rcases open_slice ht h with ⟨hcs, hx⟩ | ⟨a, len, cap, m, n, D, Pl, hcs, _, hl, hm, hmm, hx, hV⟩
  · exact ⟨_, [], hcs, Sl.nil _ _ _, by simp⟩
  · have hlm : len ≤ m := by rw [hmm]; split <;> omega
    obtain ⟨l, hll, hp⟩ := choose_list (p := fun k (x : α) => R x ∧ ∀ j, j < s → w.cell? (a.add (k * s + j)) = (en x)[j]?) len (fun k hk => by
      obtain ⟨cs', h1, h2⟩ := hV k (by omega)
      obtain ⟨_, h3, h4⟩ := World.cells?_some h1
      rw [hc] at h3 h4
      obtain ⟨x, hr, rfl⟩ := he _ _ _ h2 h3
      refine ⟨x, hr, fun j hj => ?_⟩
      rw [← h4 j hj]
      congr 1
      by_cases hk0 : k * s = 0 <;> by_cases hj0 : j = 0 <;> simp [Addr.add, hk0, hj0] <;> omega)
    refine ⟨_, l, hcs, ?_, fun x hx => ?_⟩
    · have hn : (some a : Option Addr) = none → cap = 0 := fun h => by cases h
      have := Sl.of_cells (w := w) (en := en) (s := s) (ao := some a) (cap := cap) (l := l) (by omega) hm hn hs hen (by
        intro a' ha k hk j hj
        obtain rfl := Option.some.inj ha
        exact (hp k hk).2 j hj)
      rw [hll] at this
      exact this
    · obtain ⟨k, hk, rfl⟩ := List.getElem_of_mem hx
      exact (hp k hk).1
end
end Go.Sl
