/-
  A heap in a list, plain: what a place goes up and down by. No program is named here, no condition.
-/
namespace Go.Hp
def ge (l : List Int) (k : Nat) : Int := l.getD k 0
def swap (l : List Int) (i j : Nat) : List Int := (l.set i (ge l j)).set j (ge l i)

theorem swap_len (l : List Int) (i j : Nat) : (swap l i j).length = l.length := by simp [swap]
theorem ge_swap {l : List Int} {i j : Nat} (hi : i < l.length) (hj : j < l.length) (k : Nat) : ge (swap l i j) k = if k = j then ge l i else if k = i then ge l j else ge l k := by
  unfold swap ge
  simp only [List.getD_eq_getElem?_getD, List.getElem?_set, List.length_set]
  by_cases h1 : j = k
  · subst h1; simp [hj]
  · by_cases h2 : i = k
    · subst h2; simp [h1, hi, Ne.symm h1]
    · simp [h1, h2, Ne.symm h1, Ne.symm h2]
theorem swap_perm {l : List Int} {i j : Nat} (hi : i < l.length) (hj : j < l.length) : (swap l i j).Perm l := by
  rw [List.perm_iff_count]
  intro a
  unfold swap
  by_cases hij : i = j
  · subst hij
    congr 1
    apply List.ext_getElem (by simp)
    intro n h1 h2
    simp only [List.getElem_set]
    split
    · next h => subst h; simp [ge, List.getD_eq_getElem?_getD, hi]
    · rfl
  · rw [List.count_set (by simpa using hj), List.count_set hi]
    have e1 : ge l i = l[i] := by simp [ge, List.getD_eq_getElem?_getD, hi]
    have e2 : ge l j = l[j] := by simp [ge, List.getD_eq_getElem?_getD, hj]
    rw [List.getElem_set_ne hij]
    simp only [e1, e2]
    have h1 : (if l[i] == a then 1 else 0) ≤ l.count a := by
      split
      · next h => have := List.count_pos_iff.2 (List.getElem_mem hi); rw [beq_iff_eq] at h; rw [h] at this; omega
      · omega
    have h2 : (if l[j] == a then 1 else 0) ≤ l.count a - (if l[i] == a then 1 else 0) + (if l[j] == a then 1 else 0) := by omega
    omega

section
variable (le : Int → Int → Prop)
def hp (l : List Int) : Prop := ∀ j, 0 < j → j < l.length → le (ge l j) (ge l ((j - 1) / 2))
structure Up (l : List Int) (i : Nat) : Prop where
  lt : i < l.length
  other : ∀ j, 0 < j → j < l.length → j ≠ i → le (ge l j) (ge l ((j - 1) / 2))
  below : ∀ j, 0 < j → j < l.length → (j - 1) / 2 = i → 0 < i → le (ge l j) (ge l ((i - 1) / 2))
structure Down (l : List Int) (i : Nat) : Prop where
  other : ∀ j, 0 < j → j < l.length → (j - 1) / 2 ≠ i → le (ge l j) (ge l ((j - 1) / 2))
  below : ∀ j, 0 < j → j < l.length → (j - 1) / 2 = i → 0 < i → le (ge l j) (ge l ((i - 1) / 2))
variable {le}
variable (htr : ∀ a b c, le a b → le b c → le a c) (hto : ∀ a b, le a b ∨ le b a)

theorem hp_nil : hp le [] := fun j _ h => by simp at h
theorem Up.start {l : List Int} (h : hp le l) (x : Int) : Up le (l ++ [x]) l.length := by
  refine ⟨by simp, fun j h0 h1 h2 => ?_, fun j h0 h1 h2 _ => ?_⟩
  · simp at h1
    have e1 : ge (l ++ [x]) j = ge l j := by simp [ge, List.getD_eq_getElem?_getD, List.getElem?_append_left (show j < l.length by omega)]
    have e2 : ge (l ++ [x]) ((j - 1) / 2) = ge l ((j - 1) / 2) := by simp [ge, List.getD_eq_getElem?_getD, List.getElem?_append_left (show (j - 1) / 2 < l.length by omega)]
    rw [e1, e2]; exact h j h0 (by omega)
  · simp at h1; omega
theorem Up.top {l : List Int} (h : Up le l 0) : hp le l := fun j h0 h1 => h.other j h0 h1 (by omega)
theorem Up.stop {l : List Int} {i : Nat} (h : Up le l i) (hs : le (ge l i) (ge l ((i - 1) / 2))) : hp le l := fun j h0 h1 => by
  by_cases e : j = i
  · subst e; exact hs
  · exact h.other j h0 h1 e
include htr hto in
theorem Up.step {l : List Int} {i : Nat} (h : Up le l i) (hi : 0 < i) (hs : ¬ le (ge l i) (ge l ((i - 1) / 2))) : Up le (swap l ((i - 1) / 2) i) ((i - 1) / 2) := by
  have hlt := h.lt
  have hu : (i - 1) / 2 < l.length := by omega
  have hne : (i - 1) / 2 ≠ i := by omega
  have hle : le (ge l ((i - 1) / 2)) (ge l i) := (hto (ge l i) (ge l ((i - 1) / 2))).resolve_left hs
  refine ⟨by rw [swap_len]; exact hu, fun j h0 h1 h2 => ?_, fun j h0 h1 h2 h3 => ?_⟩
  · rw [swap_len] at h1
    rw [ge_swap hu hlt, ge_swap hu hlt]
    by_cases e : j = i
    · subst e; rw [if_pos rfl, if_neg hne, if_pos rfl]; exact hle
    · rw [if_neg e, if_neg h2]
      by_cases e2 : (j - 1) / 2 = i
      · rw [if_pos e2]; exact h.below j h0 h1 e2 hi
      · rw [if_neg e2]
        by_cases e3 : (j - 1) / 2 = (i - 1) / 2
        · rw [if_pos e3]
          have := h.other j h0 h1 e
          rw [e3] at this
          exact htr _ _ _ this hle
        · rw [if_neg e3]; exact h.other j h0 h1 e
  · rw [swap_len] at h1
    rw [ge_swap hu hlt, ge_swap hu hlt]
    have e5 : ((i - 1) / 2 - 1) / 2 ≠ i := by omega
    have e6 : ((i - 1) / 2 - 1) / 2 ≠ (i - 1) / 2 := by omega
    rw [if_neg e5, if_neg e6]
    have hup := h.other ((i - 1) / 2) h3 hu hne
    by_cases e : j = i
    · rw [if_pos e]; exact hup
    · have e7 : j ≠ (i - 1) / 2 := by omega
      rw [if_neg e, if_neg e7]
      have := h.other j h0 h1 e
      rw [h2] at this
      exact htr _ _ _ this hup

include htr in
theorem hp_max (hre : ∀ a, le a a) {l : List Int} (h : hp le l) : ∀ j, j < l.length → le (ge l j) (ge l 0) := by
  intro j
  induction j using Nat.strongRecOn with
  | _ j ih =>
    intro hj
    by_cases h0 : j = 0
    · subst h0; exact hre _
    · exact htr _ _ _ (h j (by omega) hj) (ih ((j - 1) / 2) (by omega) (by omega))

/-- what is left behind the first: the last one in its place -/
def cut (l : List Int) : List Int := (l.set 0 (ge l (l.length - 1))).take (l.length - 1)
theorem cut_len (l : List Int) : (cut l).length = l.length - 1 := by simp [cut]
theorem ge_cut {l : List Int} {j : Nat} (hj : j < l.length - 1) : ge (cut l) j = if j = 0 then ge l (l.length - 1) else ge l j := by
  unfold cut ge
  simp only [List.getD_eq_getElem?_getD, List.getElem?_take, hj, if_true, List.getElem?_set]
  by_cases h : 0 = j
  · subst h; simp [show 0 < l.length by omega]
  · simp [h, Ne.symm h]
theorem cut_perm {l : List Int} (h : l ≠ []) : (ge l 0 :: cut l).Perm l := by
  cases l with
  | nil => exact absurd rfl h
  | cons x l =>
    rcases List.eq_nil_or_concat l with rfl | ⟨m, y, rfl⟩
    · simp [cut, ge]
    · have hy : ge (x :: (m ++ [y])) (m.length + 1) = y := by simp [ge, List.getD_eq_getElem?_getD]
      have : cut (x :: (m ++ [y])) = y :: m := by
        simp only [cut, List.length_cons, List.length_append, List.length_nil, Nat.add_sub_cancel, List.set_cons_zero]
        rw [show m.length + (0 + 1) = m.length + 1 from rfl, hy]
        simp
      rw [List.concat_eq_append, this]
      refine List.Perm.cons _ ?_
      have := @List.perm_append_comm _ [y] m
      simpa using this
theorem Down.start {l : List Int} (h : hp le l) : Down le (cut l) 0 := by
  refine ⟨fun j h0 h1 h2 => ?_, fun j _ _ _ h => absurd h (by omega)⟩
  rw [cut_len] at h1
  rw [ge_cut h1, ge_cut (by omega), if_neg (by omega), if_neg (by omega)]
  exact h j h0 (by omega)
theorem Down.stop {l : List Int} {i : Nat} (h : Down le l i) (hs : ∀ j, 0 < j → j < l.length → (j - 1) / 2 = i → le (ge l j) (ge l i)) : hp le l := fun j h0 h1 => by
  by_cases e : (j - 1) / 2 = i
  · rw [e]; exact hs j h0 h1 e
  · exact h.other j h0 h1 e
theorem Down.step {l : List Int} {i b : Nat} (h : Down le l i) (hi : i < l.length) (hb : b < l.length) (hb0 : 0 < b) (hbi : (b - 1) / 2 = i) (hlt : le (ge l i) (ge l b)) (hmax : ∀ j, 0 < j → j < l.length → (j - 1) / 2 = i → le (ge l j) (ge l b)) :
    Down le (swap l b i) b := by
  have hne : b ≠ i := by omega
  refine ⟨fun j h0 h1 h2 => ?_, fun j h0 h1 h2 h3 => ?_⟩
  · rw [swap_len] at h1
    rw [ge_swap hb hi, ge_swap hb hi]
    by_cases e : (j - 1) / 2 = i
    · rw [if_pos e]
      have hji : j ≠ i := by omega
      rw [if_neg hji]
      by_cases e2 : j = b
      · rw [if_pos e2]; exact hlt
      · rw [if_neg e2]; exact hmax j h0 h1 e
    · rw [if_neg e, if_neg h2]
      by_cases e2 : j = i
      · rw [if_pos e2]; subst e2; exact h.below b hb0 hb hbi h0
      · rw [if_neg e2]
        by_cases e3 : j = b
        · subst e3; exact absurd hbi e
        · rw [if_neg e3]; exact h.other j h0 h1 e
  · rw [swap_len] at h1
    rw [ge_swap hb hi, ge_swap hb hi]
    have e1 : j ≠ i := by omega
    have e2 : j ≠ b := by omega
    rw [if_neg e1, if_neg e2, hbi, if_pos rfl]
    have := h.other j h0 h1 (by omega)
    rwa [h2] at this
end
end Go.Hp
