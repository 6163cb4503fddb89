/-
  Layer 5, plain: what a pattern fits it fits with more behind it; what is in patterns is touched above. No program in sight.
-/
import Derived.Test.YtopamnfelngkcaaDoorP4
import Derived.Test.YtopamnfelngkcaaDoorP5
namespace Go.Route
set_option linter.unusedVariables false
theorem fitsP_more {P l : List Wd} (r : List Wd) (h : fitsP P l = true) : fitsP P (l ++ r) = true := by
  rw [fitsP_iff] at h ⊢
  obtain ⟨n, h1, h2, h3⟩ := h
  refine ⟨n, h1, by simp; omega, ?_⟩
  rwa [List.take_append_of_le_length h2]
theorem touch_of_fits {P m r : List Wd} (h : fitsP P (m ++ r) = true) : touchP P m = true := by
  rw [fitsP_iff] at h
  obtain ⟨n, h1, h2, h3⟩ := h
  unfold touchP
  rw [Bool.or_eq_true, List.any_eq_true, List.any_eq_true]
  rcases Nat.lt_or_ge m.length n with hn | hn
  · refine Or.inr ?_
    have e : (m ++ r).take n = m ++ r.take (n - m.length) := by rw [List.take_append, List.take_of_length_le (by omega)]
    rw [e] at h3
    obtain ⟨i, hi, ht⟩ := alive_pre (alive_of h3)
    rcases ht with hs | ⟨hm, hs⟩
    · exact ⟨i, List.mem_range.2 (by omega), hs⟩
    · have hlt : i < P.length := by
        obtain ⟨h, _⟩ := List.getElem?_eq_some_iff.1 hm
        exact h
      exact ⟨i + 1, List.mem_range.2 (by omega), hs⟩
  · refine Or.inl ⟨n, List.mem_range.2 (by omega), ?_⟩
    rw [List.take_append_of_le_length hn] at h3
    unfold S at h3
    rwa [List.take_length] at h3
end Go.Route
