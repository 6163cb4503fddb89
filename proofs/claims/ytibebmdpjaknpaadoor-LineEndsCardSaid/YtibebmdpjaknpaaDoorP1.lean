/-
  A text as lines, in plain words: the lines by what has come of one, and by the place of its end. No program is named here.
-/
import Derived.Lib.Bytealg
namespace Go.Line

/-- the lines of l, 'now' having come of the first -/
def spl (now : List UInt8) : List UInt8 → List (List UInt8)
  | [] => if now = [] then [] else [now]
  | c :: l => if c = 10 then (now ++ [c]) :: spl [] l else spl (now ++ [c]) l
def lines (l : List UInt8) : List (List UInt8) := spl [] l
/-- how long the first line is -/
def en : List UInt8 → Nat
  | [] => 0
  | c :: l => if c = 10 then 1 else en l + 1

theorem en_le : ∀ l : List UInt8, en l ≤ l.length
  | [] => Nat.le_refl _
  | c :: l => by
    have := en_le l
    unfold en; split <;> simp; omega
theorem en_pos {l : List UInt8} (h : l ≠ []) : 0 < en l := by
  cases l with
  | nil => exact absurd rfl h
  | cons c l => unfold en; split <;> omega
theorem spl_cut : ∀ (l now : List UInt8), l ≠ [] → spl now l = (now ++ l.take (en l)) :: lines (l.drop (en l))
  | [], _, h => absurd rfl h
  | c :: l, now, _ => by
    unfold spl en
    by_cases hc : c = 10
    · simp [hc, lines]
    · simp only [hc, if_false]
      cases l with
      | nil => simp [spl, en, lines]
      | cons d l =>
        rw [spl_cut (d :: l) _ (by simp)]
        simp
theorem lines_cut {l : List UInt8} (h : l ≠ []) : lines l = l.take (en l) :: lines (l.drop (en l)) := by
  have := spl_cut l [] h
  simpa [lines] using this
theorem lines_nil : lines [] = [] := rfl
theorem lines_ne {l : List UInt8} (h : l ≠ []) : lines l ≠ [] := by rw [lines_cut h]; simp
theorem lines_len : ∀ (n : Nat) (l : List UInt8), l.length ≤ n → (lines l).length ≤ l.length := by
  intro n
  induction n with
  | zero =>
    intro l h
    have : l = [] := List.eq_nil_of_length_eq_zero (by omega)
    subst this; simp [lines, spl]
  | succ n ih =>
    intro l h
    by_cases h0 : l = []
    · subst h0; simp [lines, spl]
    · rw [lines_cut h0, List.length_cons]
      have := ih (l.drop (en l)) (by have := en_pos h0; rw [List.length_drop]; omega)
      have := en_pos h0
      rw [List.length_drop] at *
      have := en_le l
      omega
theorem lines_flat : ∀ (n : Nat) (l : List UInt8), l.length ≤ n → (lines l).flatten = l := by
  intro n
  induction n with
  | zero =>
    intro l h
    have : l = [] := List.eq_nil_of_length_eq_zero (by omega)
    subst this; rfl
  | succ n ih =>
    intro l h
    by_cases h0 : l = []
    · subst h0; rfl
    · rw [lines_cut h0, List.flatten_cons, ih _ (by have := en_pos h0; rw [List.length_drop]; omega), List.take_append_drop]
theorem flat_lines (l : List UInt8) : (lines l).flatten = l := lines_flat _ l (Nat.le_refl _)
theorem len_lines (l : List UInt8) : (lines l).length ≤ l.length := lines_len _ l (Nat.le_refl _)

theorem index_en (l : List UInt8) : (Lib.indexByte l 10 = -1 ∧ en l = l.length) ∨ (0 ≤ Lib.indexByte l 10 ∧ Lib.indexByte l 10 + 1 = (en l : Int)) := by
  induction l with
  | nil => left; exact ⟨rfl, rfl⟩
  | cons c l ih =>
    unfold Lib.indexByte en
    by_cases hc : c = 10
    · right; simp [hc]
    · have hb : (c == 10) = false := by simpa using hc
      simp only [hb, hc, if_false]
      rcases ih with ⟨h1, h2⟩ | ⟨h1, h2⟩
      · left; simp [h1, h2]
      · right
        have : (Lib.indexByte l 10 == -1) = false := by simp; omega
        simp only [this, Bool.false_eq_true, if_false]
        omega
theorem index_ge (l : List UInt8) (c : UInt8) : (0 ≤ Lib.indexByte l c) ↔ c ∈ l := by
  induction l with
  | nil => simp [Lib.indexByte]
  | cons d l ih =>
    unfold Lib.indexByte
    by_cases hc : d = c
    · simp [hc]
    · have hb : (d == c) = false := by simpa using hc
      simp only [hb, Bool.false_eq_true, if_false, List.mem_cons]
      by_cases h1 : Lib.indexByte l c = -1
      · simp only [h1, beq_self_eq_true, if_true]
        have : ¬ c ∈ l := fun h => by have := ih.2 h; omega
        simp [this, Ne.symm hc]
      · have : (Lib.indexByte l c == -1) = false := by simpa using h1
        simp only [this, Bool.false_eq_true, if_false]
        constructor
        · intro h; exact .inr (ih.1 (by omega))
        · rintro (h | h)
          · exact absurd h.symm hc
          · have := ih.2 h; omega

/-! ### numbers -/
/-- the place of the first -/
def fst {α : Type} [DecidableEq α] (l : List α) (s : α) : Nat := l.idxOf s
/-- the lines that are known when those of l have come -/
def kn {α : Type} [DecidableEq α] (ks : List α) : List α → List α
  | [] => ks
  | s :: l => kn (if s ∈ ks then ks else ks ++ [s]) l
/-- their numbers -/
def nums {α : Type} [DecidableEq α] (ks : List α) : List α → List Nat
  | [] => []
  | s :: l => (if s ∈ ks then ks.idxOf s else ks.length) :: nums (if s ∈ ks then ks else ks ++ [s]) l
section
variable {α : Type} [DecidableEq α]
theorem kn_append (ks l m : List α) : kn ks (l ++ m) = kn (kn ks l) m := by
  induction l generalizing ks with
  | nil => rfl
  | cons s l ih => simp only [List.cons_append, kn]; exact ih _
theorem nums_append (ks l m : List α) : nums ks (l ++ m) = nums ks l ++ nums (kn ks l) m := by
  induction l generalizing ks with
  | nil => rfl
  | cons s l ih => simp only [List.cons_append, nums, kn, ih]
theorem nums_len (ks l : List α) : (nums ks l).length = l.length := by
  induction l generalizing ks with
  | nil => rfl
  | cons s l ih => simp [nums, ih]
theorem kn_len (ks l : List α) : (kn ks l).length ≤ ks.length + l.length := by
  induction l generalizing ks with
  | nil => simp [kn]
  | cons s l ih =>
    simp only [kn, List.length_cons]
    have := ih (if s ∈ ks then ks else ks ++ [s])
    split at this
    · split
      · omega
      · contradiction
    · rw [if_neg (by assumption)]
      simp only [List.length_append, List.length_singleton] at this
      omega
theorem kn_pre (ks l : List α) : ks <+: kn ks l := by
  induction l generalizing ks with
  | nil => exact List.prefix_refl _
  | cons s l ih =>
    simp only [kn]
    refine List.IsPrefix.trans ?_ (ih _)
    split
    · exact List.prefix_refl _
    · exact List.prefix_append _ _
theorem kn_nodup {ks : List α} (h : ks.Nodup) (l : List α) : (kn ks l).Nodup := by
  induction l generalizing ks with
  | nil => exact h
  | cons s l ih =>
    simp only [kn]
    refine ih ?_
    split
    · exact h
    · next hs =>
      rw [List.nodup_append]
      exact ⟨h, by simp, fun a ha b hb => by simp at hb; subst hb; rintro rfl; exact hs ha⟩
theorem idx_snoc {ks : List α} {s : α} (h : ¬ s ∈ ks) : (ks ++ [s]).idxOf s = ks.length := by
  rw [List.idxOf_append, if_neg h]; simp
/-- a number is the place in whatever is known in the end -/
theorem nums_get {ks : List α} : ∀ {l : List α} {k : Nat} (h : k < l.length), (nums ks l)[k]'(by rw [nums_len]; exact h) = (kn ks l).idxOf l[k] ∧ l[k] ∈ kn ks l := by
  intro l
  induction l generalizing ks with
  | nil => intro k h; simp at h
  | cons s l ih =>
    intro k h
    cases k with
    | succ k =>
      have := ih (ks := if s ∈ ks then ks else ks ++ [s]) (k := k) (by simpa using h)
      simpa [nums, kn] using this
    | zero =>
      simp only [nums, kn, List.getElem_cons_zero]
      obtain ⟨t, ht⟩ := kn_pre (if s ∈ ks then ks else ks ++ [s]) l
      rw [← ht]
      by_cases hs : s ∈ ks
      · simp only [hs, if_true]
        refine ⟨?_, by simp [hs]⟩
        rw [List.idxOf_append, if_pos hs]
      · simp only [hs, if_false]
        refine ⟨?_, by simp⟩
        rw [List.idxOf_append, if_pos (by simp), idx_snoc hs]
theorem fst_snoc {ks : List α} {s : α} (h : ¬ s ∈ ks) : fst (ks ++ [s]) s = ks.length := idx_snoc h
theorem fst_app {ks m : List α} {s : α} (h : s ∈ ks) : fst (ks ++ m) s = fst ks s := by unfold fst; rw [List.idxOf_append, if_pos h]
theorem fst_at {l : List α} {k : Nat} (h : k < l.length) (hn : ¬ l[k] ∈ l.take k) : fst l l[k] = k := by
  have h1 := List.take_append_drop k l
  have h2 := List.drop_eq_getElem_cons h
  have h3 : fst (l.take k ++ l[k] :: l.drop (k + 1)) l[k] = k := by
    unfold fst
    rw [List.idxOf_append, if_neg hn, List.idxOf_cons_self, List.length_take]
    omega
  rw [← h2, h1] at h3
  exact h3
theorem fst_lt {ks : List α} {s : α} (h : s ∈ ks) : fst ks s < ks.length := List.idxOf_lt_length_iff.2 h
theorem take_in {ks l : List α} {k : Nat} (h : k < l.length) (hs : l[k] ∈ kn ks (l.take k)) : nums ks (l.take (k + 1)) = nums ks (l.take k) ++ [fst (kn ks (l.take k)) l[k]] ∧ kn ks (l.take (k + 1)) = kn ks (l.take k) := by
  rw [List.take_succ_eq_append_getElem h, nums_append, kn_append]
  simp only [nums, kn, if_pos hs]
  exact ⟨rfl, trivial⟩
theorem take_out {ks l : List α} {k : Nat} (h : k < l.length) (hs : ¬ l[k] ∈ kn ks (l.take k)) : nums ks (l.take (k + 1)) = nums ks (l.take k) ++ [(kn ks (l.take k)).length] ∧ kn ks (l.take (k + 1)) = kn ks (l.take k) ++ [l[k]] := by
  rw [List.take_succ_eq_append_getElem h, nums_append, kn_append]
  simp only [nums, kn, if_neg hs]
  exact ⟨trivial, trivial⟩
theorem nums_fst {ks : List α} {l : List α} {k : Nat} (h : k < l.length) : (nums ks l)[k]'(by rw [nums_len]; exact h) = fst (kn ks l) l[k] ∧ l[k] ∈ kn ks l := nums_get h
theorem fst_inj {ks : List α} {s t : α} (hs : s ∈ ks) (ht : t ∈ ks) : fst ks s = fst ks t ↔ s = t := by
  constructor
  · intro h
    have h1 := List.getElem_idxOf (List.idxOf_lt_length_iff.2 hs)
    have h2 := List.getElem_idxOf (List.idxOf_lt_length_iff.2 ht)
    rw [← h1, ← h2]
    unfold fst at h
    simp only [h]
  · rintro rfl; rfl
theorem idx_inj {ks : List α} {s t : α} (hs : s ∈ ks) (ht : t ∈ ks) : ks.idxOf s = ks.idxOf t ↔ s = t := by
  constructor
  · intro h
    have h1 := List.getElem_idxOf (List.idxOf_lt_length_iff.2 hs)
    have h2 := List.getElem_idxOf (List.idxOf_lt_length_iff.2 ht)
    rw [← h1, ← h2]
    simp only [h]
  · rintro rfl; rfl
end
end Go.Line
