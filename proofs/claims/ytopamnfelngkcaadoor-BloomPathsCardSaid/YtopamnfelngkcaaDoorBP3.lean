/-
  Layer 16, plain: texts, each once, by their bytes. No program is named here, no condition.
-/
import Derived.Sort.KeysCollected
import Derived.Sort.OwnSorted
import Derived.Test.YtopamnfelngkcaaDoorBP2
namespace Go.Bl
set_option linter.unusedVariables false

abbrev Str := List UInt8
/-- T is L's texts, each once, rising -/
def Un (L T : List Str) : Prop := T.Pairwise (fun a b => a < b) ∧ ∀ x, x ∈ T ↔ x ∈ L
theorem Un.nodup {L T : List Str} (h : Un L T) : T.Nodup := h.1.imp (fun {a b} hab e => by subst e; exact List.lt_irrefl _ hab)
theorem Un.uniq {L T T' : List Str} (h : Un L T) (h' : Un L T') : T = T' := by
  refine List.Perm.eq_of_pairwise (le := fun a b => a < b) (fun a b _ _ h1 h2 => ?_) h.1 h'.1 ((List.perm_ext_iff_of_nodup h.nodup h'.nodup).2 fun x => by rw [h.2 x, h'.2 x])
  exact absurd h2 (List.lt_asymm h1)
theorem Un.congr {L L' T : List Str} (h : Un L T) (he : ∀ x, x ∈ L ↔ x ∈ L') : Un L' T := ⟨h.1, fun x => by rw [h.2 x, he x]⟩
theorem Un.nil : Un [] [] := ⟨List.Pairwise.nil, fun x => Iff.rfl⟩
theorem lt_or_eq {a b : Str} (h : a ≤ b) (hne : a ≠ b) : a < b := by
  by_cases hlt : a < b
  · exact hlt
  · exact absurd (List.le_antisymm h (List.not_lt.1 hlt)) hne
theorem Un.of_sorted {L ss : List Str} (hnd : ss.Nodup) (hm : ∀ x, x ∈ ss ↔ x ∈ L) : Un L (ss.mergeSort (fun x y => decide (x ≤ y))) := by
  have tr : ∀ a b c : Str, decide (a ≤ b) = true → decide (b ≤ c) = true → decide (a ≤ c) = true := fun a b c h1 h2 => by simp only [decide_eq_true_eq] at *; exact List.le_trans h1 h2
  have to : ∀ a b : Str, (decide (a ≤ b) || decide (b ≤ a)) = true := fun a b => by simp only [Bool.or_eq_true, decide_eq_true_eq]; exact List.le_total a b
  have hp := List.mergeSort_perm ss (fun x y => decide (x ≤ y))
  refine ⟨?_, fun x => by rw [hp.mem_iff, hm x]⟩
  have h1 := List.pairwise_mergeSort tr to ss
  have h2 : (ss.mergeSort (fun x y => decide (x ≤ y))).Nodup := hp.nodup_iff.2 hnd
  refine (h1.and h2).imp fun {a b} h => ?_
  exact lt_or_eq (of_decide_eq_true h.1) h.2
theorem Un.same {L T : List Str} {x : Str} (h : Un L T) (hx : x ∈ T) : Un (L ++ [x]) T := ⟨h.1, fun y => by
  rw [h.2 y, List.mem_append, List.mem_singleton]
  exact ⟨.inl, fun hy => hy.elim id (fun e => by subst e; exact (h.2 _).1 hx)⟩⟩
theorem Un.ins {L T : List Str} {x : Str} {k : Nat} (h : Un L T) (hk : k ≤ T.length) (hlo : ∀ i (hi : i < k), T[i]'(by omega) < x) (hhi : ∀ (hk2 : k < T.length), x < T[k]) : Un (L ++ [x]) (T.take k ++ [x] ++ T.drop k) := by
  have hpw := h.1
  rw [← List.take_append_drop k T, List.pairwise_append] at hpw
  obtain ⟨p1, p2, p3⟩ := hpw
  have hd : ∀ b ∈ T.drop k, x < b := fun b hb => by
    by_cases hk2 : k < T.length
    · have h0 := hhi hk2
      rw [List.drop_eq_getElem_cons hk2, List.mem_cons] at hb
      rcases hb with rfl | hb
      · exact h0
      · rw [List.drop_eq_getElem_cons hk2, List.pairwise_cons] at p2
        exact List.lt_trans h0 (p2.1 b hb)
    · rw [List.drop_eq_nil_of_le (by omega)] at hb; cases hb
  have ht : ∀ a ∈ T.take k, a < x := fun a ha => by
    obtain ⟨i, hi, rfl⟩ := List.getElem_of_mem ha
    rw [List.length_take] at hi
    rw [List.getElem_take]
    exact hlo i (by omega)
  refine ⟨?_, fun y => ?_⟩
  · rw [List.append_assoc, List.pairwise_append]
    refine ⟨p1, ?_, fun a ha b hb => ?_⟩
    · rw [List.singleton_append, List.pairwise_cons]; exact ⟨hd, p2⟩
    · rw [List.singleton_append, List.mem_cons] at hb
      rcases hb with rfl | hb
      · exact ht a ha
      · exact p3 a ha b hb
  · have : y ∈ T ↔ y ∈ T.take k ∨ y ∈ T.drop k := by rw [← List.mem_append, List.take_append_drop]
    rw [List.mem_append, List.mem_append, List.mem_append, List.mem_singleton, ← h.2 y, this]
    constructor
    · rintro ((h | h) | h)
      · exact .inl (.inl h)
      · exact .inr h
      · exact .inl (.inr h)
    · rintro ((h | h) | h)
      · exact .inl (.inl h)
      · exact .inr h
      · exact .inl (.inr h)
theorem nodup_le : ∀ (T L : List Str), T.Nodup → (∀ x ∈ T, x ∈ L) → T.length ≤ L.length
  | [], L, _, _ => by simp
  | x :: T, L, hn, hs => by
    obtain ⟨h1, h2⟩ := List.nodup_cons.1 hn
    have hx : x ∈ L := hs x (by simp)
    have ih := nodup_le T (L.erase x) h2 (fun y hy => (List.mem_erase_of_ne (fun e => h1 (by rw [← e]; exact hy))).2 (hs y (by simp [hy])))
    rw [List.length_erase_of_mem hx] at ih
    have := List.length_pos_of_mem hx
    rw [List.length_cons]; omega
theorem Un.len {L T : List Str} (h : Un L T) : T.length ≤ L.length := nodup_le T L h.nodup (fun x hx => (h.2 x).1 hx)
end Go.Bl
