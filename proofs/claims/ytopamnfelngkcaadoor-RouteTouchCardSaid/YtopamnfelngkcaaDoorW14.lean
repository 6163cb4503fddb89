/-
  Layer 5: the document's table of a word's ends. No condition besides what the arguments are.
-/
import Derived.Test.YtopamnfelngkcaaDoorW9
namespace Go.Proofs.YtopamnfelngkcaaDoor
open Go.RowKit Go.Sl Go.Route
set_option linter.unusedVariables false

/-- row m of the table -/
def gl (wd s : Wd) (m : Nat) : Nat → Bool := fun k => glob (wd.drop m) (s.drop k)
theorem gl_last (wd s : Wd) {k : Nat} (hk : k ≤ s.length) : gl wd s wd.length k = decide (k = s.length) := by
  unfold gl
  rw [List.drop_eq_nil_of_le (Nat.le_refl _)]
  by_cases h : k = s.length
  · subst h; rw [List.drop_eq_nil_of_le (Nat.le_refl _)]; simp [glob]
  · have hk2 : k < s.length := by omega
    rw [List.drop_eq_getElem_cons hk2]; simp [glob, h, hk2]
theorem gl_star {wd s : Wd} {m k : Nat} (hm : m < wd.length) (h : wd[m] = 42) (hk : k < s.length) : gl wd s m k = (gl wd s (m + 1) k || gl wd s m (k + 1)) := by
  unfold gl
  rw [List.drop_eq_getElem_cons hm, h, List.drop_eq_getElem_cons hk, glob_star_cons]
theorem gl_star_end {wd s : Wd} {m : Nat} (hm : m < wd.length) (h : wd[m] = 42) : gl wd s m s.length = gl wd s (m + 1) s.length := by
  unfold gl
  rw [List.drop_eq_getElem_cons hm, h, List.drop_eq_nil_of_le (Nat.le_refl s.length), glob_star_nil]
theorem gl_lit {wd s : Wd} {m k : Nat} (hm : m < wd.length) (h : wd[m] ≠ 42) (hk : k < s.length) (he : wd[m] = 63 ∨ wd[m] = s[k]) : gl wd s m k = gl wd s (m + 1) (k + 1) := by
  unfold gl
  rw [List.drop_eq_getElem_cons hm, List.drop_eq_getElem_cons hk, glob_lit h, decide_eq_true he, Bool.true_and]
theorem gl_no {wd s : Wd} {m k : Nat} (hm : m < wd.length) (h : wd[m] ≠ 42) (hk : k < s.length) (he : ¬ (wd[m] = 63 ∨ wd[m] = s[k])) : gl wd s m k = false := by
  unfold gl
  rw [List.drop_eq_getElem_cons hm, List.drop_eq_getElem_cons hk, glob_lit h, decide_eq_false he, Bool.false_and]
theorem gl_no_end {wd s : Wd} {m : Nat} (hm : m < wd.length) (h : wd[m] ≠ 42) : gl wd s m s.length = false := by
  unfold gl
  rw [List.drop_eq_getElem_cons hm, List.drop_eq_nil_of_le (Nat.le_refl s.length), glob_lit_nil h]

/-- row m, from j on -/
def gj (wd s : Wd) (m j : Nat) : Nat → Bool := fun x => decide (j ≤ x) && gl wd s m x
theorem gj_set {wd s : Wd} {m k : Nat} {v : Bool} (hv : v = gl wd s m k) (x : Nat) : (fun y => if y = k then v else gj wd s m (k + 1) y) x = gj wd s m k x := by
  unfold gj
  by_cases e : x = k
  · subst e; simp [hv]
  · simp only [e, if_false]
    congr 1
    rw [Bool.eq_iff_iff, decide_eq_true_iff, decide_eq_true_iff]; omega
theorem gj_skip {wd s : Wd} {m k : Nat} (hv : gl wd s m k = false) (x : Nat) : gj wd s m (k + 1) x = gj wd s m k x := by
  unfold gj
  by_cases e : x = k
  · subst e; simp [hv]
  · congr 1
    rw [Bool.eq_iff_iff, decide_eq_true_iff, decide_eq_true_iff]; omega
theorem gj_zero (wd s : Wd) (m x : Nat) : gj wd s m 0 x = gl wd s m x := by simp [gj]
theorem gj_at (wd s : Wd) (m k : Nat) : gj wd s m k k = gl wd s m k := by simp [gj]
theorem gj_start (wd s : Wd) (m : Nat) {n x : Nat} (h : x < n + 1) : false = gj wd s m (n + 1) x := by
  unfold gj; rw [decide_eq_false (by omega), Bool.false_and]

theorem rw_made (w : World) (n : Nat) : Rw w.heap.size n (fun _ => false) (w.alloc (.cells (madeCells #[.bool false] n) 4)) := World.rowIs_made w (.bool false) n 4
theorem Rw.lt {b n : Nat} {f : Nat → Bool} {w : World} (h : Rw b n f w) : b < w.heap.size := by
  obtain ⟨c, h1, _⟩ := h; exact (Array.getElem?_eq_some_iff.1 h1).1
theorem Rw.alloc {b n : Nat} {f : Nat → Bool} {w : World} (h : Rw b n f w) (n2 : Nat) : Rw b n f (w.alloc (.cells (madeCells #[.bool false] n2) 4)) := World.rowIs.alloc h _
end Go.Proofs.YtopamnfelngkcaaDoor
