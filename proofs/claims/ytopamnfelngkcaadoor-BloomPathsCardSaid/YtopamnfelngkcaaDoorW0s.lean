/-
  A list of strings, told by their bytes.
-/
import Derived.Test.YtopamnfelngkcaaDoorW1
namespace Go.Proofs.YtopamnfelngkcaaDoor
open Go.RowKit Go.Sl Go.Route
theorem sl_map {α β : Type} {en : α → List Value} {en' : β → List Value} {s : Nat} {w : World} {v : Value} {l : List α} (f : α → β) (he : ∀ x, en x = en' (f x)) (h : Sl en s w v l) : Sl en' s w v (l.map f) := by
  obtain ⟨ao, cap, hv, h1, h2, h0, h3⟩ := h.shp
  refine ⟨ao, cap, by rw [List.length_map]; exact hv, by rw [List.length_map]; exact h1, h2, h0, ?_⟩
  rcases h3 with rfl | ⟨b, off, h4, h5, h6⟩
  · exact .inl rfl
  · refine .inr ⟨b, off, h4, h5, fun k hk j hj => ?_⟩
    rw [List.length_map] at hk
    rw [h6 k hk j hj, List.getElem_map, he]
theorem strs_lines {w : World} {v : Value} {l : List ByteArray} (h : Sl eStr 1 w v l) (hs : ∀ s ∈ l, s.size ≤ maxLen) : Sl eL 1 w v (l.map fun s => s.data.toList) ∧ ∀ s ∈ l.map (fun s => s.data.toList), s.length ≤ 9223372036854775807 := by
  have hb : ∀ s : ByteArray, bstr s.data.toList = s := fun s => by cases s; simp [bstr]
  refine ⟨sl_map _ (fun s => by simp [eStr, eL, hb]) h, fun s hs' => ?_⟩
  obtain ⟨t, ht, rfl⟩ := List.mem_map.1 hs'
  have h := hs t ht
  rw [← hb t, bstr_size] at h
  exact h
end Go.Proofs.YtopamnfelngkcaaDoor
