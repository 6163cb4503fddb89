/-
  Layer 5, plain: a path is its directory and its name; the directories above. No program in sight.
-/
import Derived.Test.YtopamnfelngkcaaDoorP1
namespace Go.Route
set_option linter.unusedVariables false
theorem spl_at (u v : List UInt8) : ∀ (now : List UInt8), spl now (u ++ 47 :: v) = spl now u ++ spl [] v := by
  induction u with
  | nil => intro now; simp [spl]
  | cons c u ih =>
    intro now
    by_cases h : c = 47
    · subst h; simp [spl, ih]
    · simp [spl, h, ih]
theorem parts_at {u : List UInt8} (hu : u ≠ []) (v : List UInt8) : parts (u ++ 47 :: v) = parts u ++ spl [] v := by
  have h1 : u ++ 47 :: v ≠ [] := by simp
  simp only [parts, if_neg h1, if_neg hu]
  exact spl_at u v []
theorem dir_cases (s : List UInt8) : (dirOf s = [] ∧ baseOf s = s ∧ ¬ (47 : UInt8) ∈ s) ∨ (s = dirOf s ++ 47 :: baseOf s ∧ ¬ (47 : UInt8) ∈ baseOf s) := by
  rcases lastB_spec s with ⟨h, hn⟩ | ⟨i, h, hi, hc, hn⟩
  · refine Or.inl ⟨by simp [dirOf, h], by simp [baseOf, h], fun hm => ?_⟩
    obtain ⟨k, hk, e⟩ := List.mem_iff_getElem.1 hm
    exact hn k hk e
  · refine Or.inr ⟨?_, ?_⟩
    · have e : s.drop i = 47 :: s.drop (i + 1) := by rw [List.drop_eq_getElem_cons hi, hc]
      have := (List.take_append_drop i s).symm
      rw [e] at this
      simpa [dirOf, baseOf, h] using this
    · intro hm
      rw [baseOf, h] at hm
      obtain ⟨k, hk, e⟩ := List.mem_iff_getElem.1 hm
      rw [List.getElem_drop] at e
      exact hn (i + 1 + k) (by simp at hk; omega) (by omega) e
theorem nam_nil : nam [] = false := by decide
theorem rgt_ne {s : List UInt8} (h : rgt s = true) : s ≠ [] := by
  intro e; subst e; simp [rgt] at h
theorem rgt_cases {s : List UInt8} (h : rgt s = true) : (dirOf s = [] ∧ baseOf s = s ∧ nam s = true) ∨ (s = dirOf s ++ 47 :: baseOf s ∧ rgt (dirOf s) = true ∧ nam (baseOf s) = true) := by
  have hs := rgt_ne h
  have hr := h
  simp only [rgt, Bool.and_eq_true, decide_eq_true_eq] at hr
  obtain ⟨⟨⟨h1, h2⟩, h3⟩, h4⟩ := hr
  rcases dir_cases s with ⟨e1, e2, hn⟩ | ⟨e, hn⟩
  · refine Or.inl ⟨e1, e2, ?_⟩
    have : parts s = [s] := by
      unfold parts; rw [if_neg hs]; rw [spl_none hn]; simp
    rw [this] at h3
    simpa using h3
  · have hd : dirOf s ≠ [] := by
      intro he
      have hp : parts s = [] :: spl [] (baseOf s) := by
        have e' := e
        rw [he] at e'
        have : parts ([] ++ 47 :: baseOf s) = [] :: spl [] (baseOf s) := by simp [parts, spl]
        rw [← e'] at this
        exact this
      rw [hp] at h3
      simp [nam_nil] at h3
    have hp : parts s = parts (dirOf s) ++ [baseOf s] := by
      have := parts_at hd (baseOf s)
      rw [← e] at this
      rw [this, spl_none hn]
      simp
    have hl : s.length = (dirOf s).length + (baseOf s).length + 1 := by
      have := congrArg List.length e
      simp at this
      omega
    have hdl : 1 ≤ (dirOf s).length := List.length_pos_iff.2 hd
    rw [hp] at h3 h4
    rw [List.all_append, Bool.and_eq_true] at h3
    refine Or.inr ⟨e, ?_, by simpa using h3.2⟩
    simp only [rgt, Bool.and_eq_true, decide_eq_true_eq]
    refine ⟨⟨⟨hdl, by omega⟩, h3.1⟩, ?_⟩
    simp at h4
    omega
theorem jn_back {s : List UInt8} (h : rgt s = true) : jn (dirOf s) (baseOf s) = s := by
  rcases rgt_cases h with ⟨e1, e2, _⟩ | ⟨e, hd, _⟩
  · rw [jn, if_pos e1, e2]
  · rw [jn, if_neg (rgt_ne hd)]; exact e.symm
theorem nam_base {s : List UInt8} (h : rgt s = true) : nam (baseOf s) = true := by
  rcases rgt_cases h with ⟨e1, e2, h3⟩ | ⟨e, hd, h3⟩
  · rw [e2]; exact h3
  · exact h3
/-- a directory above -/
def Above (s d : List UInt8) : Prop := d = [] ∨ (rgt d = true ∧ ∃ v, s = d ++ 47 :: v)
theorem above_start {s : List UInt8} (h : rgt s = true) : Above s (dirOf s) := by
  rcases rgt_cases h with ⟨e1, e2, h3⟩ | ⟨e, hd, h3⟩
  · exact Or.inl e1
  · exact Or.inr ⟨hd, _, e⟩
theorem above_step {s d : List UInt8} (h : rgt d = true) {v : List UInt8} (hv : s = d ++ 47 :: v) : Above s (dirOf d) := by
  rcases rgt_cases h with ⟨e1, e2, h3⟩ | ⟨e, hd, h3⟩
  · exact Or.inl e1
  · refine Or.inr ⟨hd, baseOf d ++ 47 :: v, ?_⟩
    conv => lhs; rw [hv]; rw [e]
    simp
theorem above_und {s d v : List UInt8} (hv : s = d ++ 47 :: v) : und s d = true ∧ d.length < s.length := by
  subst hv
  have : d.length < (d ++ 47 :: v).length := by simp
  refine ⟨?_, this⟩
  simp [und]
theorem und_self (s : List UInt8) : und s s = true := by simp [und]
theorem und_nil (s : List UInt8) : und s [] = true := by simp [und]
theorem dir_lt {d : List UInt8} (h : d ≠ []) : (dirOf d).length < d.length := by
  have := List.length_pos_iff.2 h
  have h2 := lastB_le d
  simp only [dirOf, List.length_take]
  omega
end Go.Route
