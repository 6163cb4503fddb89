/-
  Layer 15, plain: the order of the queue. No program is named here, no condition.
-/
import Derived.Test.YtcpmnocknpalfaaK2
import Derived.Test.YtcpmnocknpalfaaG2
namespace Go.Ord
open Go.Dag
set_option linter.unusedVariables false
def ltB (K : Int → Int) (x y : Int) : Bool := decide (K x < K y ∨ (K x = K y ∧ x < y))
def leI (K : Int → Int) (x y : Int) : Prop := K x < K y ∨ (K x = K y ∧ x ≤ y)
theorem leI_tr (K : Int → Int) : ∀ a b c : Int, leI K a b → leI K b c → leI K a c := fun a b c h1 h2 => by unfold leI at h1 h2 ⊢; omega
theorem leI_to (K : Int → Int) : ∀ a b : Int, leI K a b ∨ leI K b a := fun a b => by unfold leI; omega
theorem not_leI {K : Int → Int} {x y : Int} : ¬ leI K x y ↔ ltB K y x = true := by unfold leI ltB; rw [decide_eq_true_iff]; omega
theorem leI_of {K : Int → Int} {x y : Int} (h : ltB K x y = false) : leI K y x := by
  unfold ltB at h; rw [decide_eq_false_iff_not] at h; unfold leI; omega
theorem leI_lt {K : Int → Int} {x y : Int} (h : ltB K x y = true) : leI K x y := by
  unfold ltB at h; rw [decide_eq_true_iff] at h; unfold leI; omega
/-- the numbers of some list, by an integer -/
def keyI (by_ : List Int) (x : Int) : Int := by_.getD x.toNat 0
end Go.Ord
