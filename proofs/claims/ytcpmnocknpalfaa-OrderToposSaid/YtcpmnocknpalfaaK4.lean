/-
  Layer 15, plain: how the walk counts. No program is named here, no condition.
-/
import Derived.Test.YtcpmnocknpalfaaK3
namespace Go.Ord
open Go.Dag
set_option linter.unusedVariables false
def cntP (g : List Nd) (inl : Nat → Bool) (n x : Nat) : Nat := (List.range n).countP (fun c => inl c && (par g c).contains x)
theorem cntP_zero (g : List Nd) (inl : Nat → Bool) (x : Nat) : cntP g inl 0 x = 0 := rfl
theorem cntP_succ (g : List Nd) (inl : Nat → Bool) (n x : Nat) : cntP g inl (n + 1) x = cntP g inl n x + if inl n = true ∧ x ∈ par g n then 1 else 0 := by
  unfold cntP
  rw [List.range_succ, List.countP_append]
  simp [List.countP_cons]
theorem cntP_le (g : List Nd) (inl : Nat → Bool) (n x : Nat) : cntP g inl n x ≤ n := by
  unfold cntP
  have := List.countP_le_length (p := fun c => inl c && (par g c).contains x) (l := List.range n)
  simpa using this
theorem cntP_all (g : List Nd) (inl : Nat → Bool) (x : Nat) : cntP g inl g.length x = opn g inl x := rfl
def tk (g : List Nd) (n k x : Nat) : Nat := if x ∈ (par g n).take k then 1 else 0
theorem tk_zero (g : List Nd) (n x : Nat) : tk g n 0 x = 0 := by simp [tk]
theorem tk_le (g : List Nd) (n k x : Nat) : tk g n k x ≤ 1 := by unfold tk; split <;> omega
theorem take_nd {α : Type} {l : List α} (h : l.Nodup) {k : Nat} (hk : k < l.length) : l[k] ∉ l.take k := by
  intro hm
  obtain ⟨i, hi, e⟩ := List.mem_take_iff_getElem.1 hm
  unfold List.Nodup at h
  rw [List.pairwise_iff_getElem] at h
  exact h i k (by omega) hk (by omega) e
theorem tk_same {g : List Nd} (hg : okG g) {n k : Nat} (hk : k < (par g n).length) : tk g n k (par g n)[k] = 0 := by
  unfold tk; rw [if_neg (take_nd (par_nodup hg n) hk)]
theorem tk_succ {g : List Nd} (hg : okG g) {n k x : Nat} (hk : k < (par g n).length) : tk g n (k + 1) x = if x = (par g n)[k] then 1 else tk g n k x := by
  unfold tk
  rw [List.take_succ_eq_append_getElem hk]
  simp only [List.mem_append, List.mem_singleton]
  by_cases e : x = (par g n)[k]
  · simp [e]
  · simp [e]
theorem tk_all {g : List Nd} {n k x : Nat} (hk : (par g n).length ≤ k) : tk g n k x = if x ∈ par g n then 1 else 0 := by
  unfold tk; rw [List.take_of_length_le hk]
end Go.Ord
