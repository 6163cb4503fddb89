/-
  Layer 14, plain: where two nodes of a small graph meet. No program is named here, no condition.
-/
import Derived.Test.YtcpmnocknpalfaaG4
namespace Go.Dag
theorem anc_iff {pr : Nat → List Nat} {m n : Nat} : Anc pr m n ↔ m = n ∨ ∃ p, p ∈ pr m ∧ Anc pr p n := by
  constructor
  · exact fun h => h.first
  · rintro (rfl | ⟨p, h1, h2⟩)
    · exact .refl _
    · exact .step h1 h2
def wg : List Nd := [([], 0), ([0], 0), ([0], 0), ([1, 2], 0)]
theorem wg_ok : okG wg := by
  unfold okG nodeOk parOk
  decide
theorem wg0 (n : Nat) : Anc (par wg) 0 n ↔ n = 0 := by
  rw [anc_iff, show par wg 0 = [] from rfl]; simp [eq_comm]
theorem wg1 (n : Nat) : Anc (par wg) 1 n ↔ n = 1 ∨ n = 0 := by
  rw [anc_iff, show par wg 1 = [0] from rfl]; simp [wg0, eq_comm]
theorem wg2 (n : Nat) : Anc (par wg) 2 n ↔ n = 2 ∨ n = 0 := by
  rw [anc_iff, show par wg 2 = [0] from rfl]; simp [wg0, eq_comm]
theorem wg3 (n : Nat) : Anc (par wg) 3 n ↔ n = 3 ∨ n = 1 ∨ n = 2 ∨ n = 0 := by
  rw [anc_iff, show par wg 3 = [1, 2] from rfl]
  simp only [List.mem_cons, List.not_mem_nil, or_false, exists_eq_or_imp, exists_eq_left, wg1, wg2]
  omega
theorem wg_a : baseL wg 1 2 = [0] := by
  unfold baseL
  rw [filtN_congr (q := fun x => decide (x = 0))]
  · rfl
  · intro x _
    rw [Bool.eq_iff_iff, tt_iff, decide_eq_true_iff]
    unfold baseP
    simp only [wg1, wg2]
    constructor
    · rintro ⟨h1, _⟩; omega
    · rintro rfl
      refine ⟨by omega, ?_⟩
      rintro ⟨m, h1, h2, _⟩
      omega
theorem wg_b : baseL wg 3 2 = [2] := by
  unfold baseL
  rw [filtN_congr (q := fun x => decide (x = 2))]
  · rfl
  · intro x hx
    rw [Bool.eq_iff_iff, tt_iff, decide_eq_true_iff]
    unfold baseP
    simp only [wg3, wg2]
    constructor
    · rintro ⟨h1, h2⟩
      apply Classical.byContradiction
      intro hc
      obtain rfl : x = 0 := by omega
      exact h2 ⟨2, by omega, by omega, (wg2 0).2 (by omega)⟩
    · rintro rfl
      refine ⟨by omega, ?_⟩
      rintro ⟨m, h1, h2, h3⟩
      obtain rfl : m = 0 := by omega
      rw [wg0] at h3; omega
end Go.Dag
