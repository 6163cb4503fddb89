/-
  Plain mathematics of pairs and hunks: the pairs that hunks stand between. No program is named.
-/
import Derived.Test.YtdlmdjhnigbfpaaP1
namespace Go.Scr
/-- g pairs in a row -/
def run (a b : Int) (g : Nat) : List (Int × Int) := (List.range g).map fun (k : Nat) => (a + (k : Int), b + (k : Int))
theorem run_zero (a b : Int) : run a b 0 = [] := rfl
theorem run_succ (a b : Int) (g : Nat) : run a b (g + 1) = run a b g ++ [(a + (g : Int), b + (g : Int))] := by simp [run, List.range_succ]
theorem run_len (a b : Int) (g : Nat) : (run a b g).length = g := by simp [run]
/-- may a hunk not stand behind a place? -/
def bad (n m a b : Int) (x : Int × Int × Int × Int) : Prop :=
  x.2.1 < 0 ∨ x.2.2.2 < 0 ∨ (x.2.1 = 0 ∧ x.2.2.2 = 0) ∨ n < x.2.1 ∨ m < x.2.2.2 ∨ x.1 < a ∨ x.2.2.1 < b ∨ n - x.2.1 < x.1 ∨ m - x.2.2.2 < x.2.2.1
instance (n m a b : Int) (x : Int × Int × Int × Int) : Decidable (bad n m a b x) := by unfold bad; infer_instance
/-- the pairs that hunks stand between, from a place on -/
def prs (n m : Int) : Bool → Int → Int → List (Int × Int × Int × Int) → Option (List (Int × Int))
  | _, a, b, [] => if n - a ≠ m - b then none else some (run a b (n - a).toNat)
  | first, a, b, x :: h => if bad n m a b x ∨ x.1 - a ≠ x.2.2.1 - b ∨ (first = false ∧ x.1 - a = 0) then none else (prs n m false (x.1 + x.2.1) (x.2.2.1 + x.2.2.2) h).map (run a b (x.1 - a).toNat ++ ·)
def pairs (n m : Int) (h : List (Int × Int × Int × Int)) : Option (List (Int × Int)) := if sz n m then prs n m true 0 0 h else none
end Go.Scr
