/-
  Layer 5, plain: what is in patterns. No program in sight.
-/
import Derived.Test.YtopamnfelngkcaaDoorW12
import Derived.Test.YtopamnfelngkcaaDoorP6
namespace Go.Proofs.YtopamnfelngkcaaDoor
open Go.Route
set_option linter.unusedVariables false
theorem fits_rgt {p s : Wd} (h : fits p s = true) : pat p = true ∧ rgt s = true ∧ fitsP (parts p) (parts s) = true := by
  simp only [fits, Bool.and_eq_true] at h
  exact ⟨h.1.1, h.1.2, h.2⟩
theorem in_cases {ps : List Wd} {s : Wd} (h : inP ps s = true) : (ps = [] ∧ rgt s = true) ∨ (ps ≠ [] ∧ ∃ p ∈ ps, fits p s = true) := by
  by_cases h0 : ps = []
  · subst h0; exact Or.inl ⟨rfl, h⟩
  · rw [inP, if_neg h0, List.any_eq_true] at h
    exact Or.inr ⟨h0, h⟩
theorem in_rgt {ps : List Wd} {s : Wd} (h : inP ps s = true) : rgt s = true := by
  rcases in_cases h with ⟨_, h⟩ | ⟨_, p, _, h⟩
  · exact h
  · exact (fits_rgt h).2.1
theorem in_more {ps : List Wd} {s m : Wd} (h : inP ps s = true) (ht : rgt (jn s m) = true) : inP ps (jn s m) = true := by
  rcases in_cases h with ⟨h0, _⟩ | ⟨h0, p, hp, hf⟩
  · subst h0; exact ht
  · obtain ⟨h1, h2, h3⟩ := fits_rgt hf
    rw [inP, if_neg h0, List.any_eq_true]
    refine ⟨p, hp, ?_⟩
    have hs := rgt_ne h2
    simp only [fits, Bool.and_eq_true]
    refine ⟨⟨h1, ht⟩, ?_⟩
    rw [jn, if_neg hs, parts_at hs]
    exact fitsP_more _ h3
theorem in_touch {ps : List Wd} {s d : Wd} (h : inP ps s = true) (ha : Above s d) : touchB ps d = true := by
  rcases in_cases h with ⟨h0, _⟩ | ⟨h0, p, hp, hf⟩
  · subst h0; exact if_pos rfl
  · obtain ⟨h1, h2, h3⟩ := fits_rgt hf
    rw [touchB, if_neg h0, List.any_eq_true]
    refine ⟨p, hp, ?_⟩
    simp only [tch, Bool.and_eq_true]
    refine ⟨h1, ?_⟩
    rcases ha with rfl | ⟨hd, v, hv⟩
    · exact touch_of_fits (r := parts s) (by rw [show parts [] = [] from rfl]; exact h3)
    · subst hv
      rw [parts_at (rgt_ne hd)] at h3
      exact touch_of_fits h3
end Go.Proofs.YtopamnfelngkcaaDoor
