/-
  A pattern that stands for parts, in plain words: by its ends, and place by place. No program is named here.
-/
import Derived.Test.YtopamnfelngkcaaDoorP2
namespace Go.Route
abbrev Wd := List UInt8

/-- does a pattern stand for just these parts? -/
def stands : List Wd → List Wd → Bool
  | [], l => l.isEmpty
  | p :: ps, l => if p = [42, 42] then star (stands ps) l else match l with
    | [] => false
    | x :: l => glob p x && stands ps l
theorem stands_many (ps l : List Wd) : stands ([42, 42] :: ps) l = star (stands ps) l := by cases l <;> simp [stands]
theorem stands_one {p : Wd} (h : p ≠ [42, 42]) (ps l : List Wd) (x : Wd) : stands (p :: ps) (x :: l) = (glob p x && stands ps l) := by rw [stands, if_neg h]
theorem stands_one_nil {p : Wd} (h : p ≠ [42, 42]) (ps : List Wd) : stands (p :: ps) [] = false := by rw [stands, if_neg h]
theorem stands_nil (l : List Wd) : stands [] l = true ↔ l = [] := by cases l <;> simp [stands]

theorem snoc_many : ∀ (q l : List Wd), stands (q ++ [[42, 42]]) l = true ↔ ∃ j, j ≤ l.length ∧ stands q (l.take j) = true
  | [], l => by
    rw [List.nil_append, stands_many, star_iff]
    constructor
    · intro _; exact ⟨0, Nat.zero_le _, by simp [stands]⟩
    · intro _; exact ⟨l.length, Nat.le_refl _, by simp [stands]⟩
  | p :: q, l => by
    by_cases hp : p = [42, 42]
    · subst hp
      rw [List.cons_append, stands_many, star_iff]
      constructor
      · rintro ⟨k, hk, h⟩
        obtain ⟨j, hj, h⟩ := (snoc_many q _).1 h
        rw [List.length_drop] at hj
        refine ⟨k + j, by omega, ?_⟩
        rw [stands_many, star_iff]
        refine ⟨k, by rw [List.length_take]; omega, ?_⟩
        rw [List.drop_take, Nat.add_sub_cancel_left]; exact h
      · rintro ⟨j, hj, h⟩
        rw [stands_many, star_iff] at h
        obtain ⟨k, hk, h⟩ := h
        rw [List.length_take] at hk
        refine ⟨k, by omega, (snoc_many q _).2 ⟨j - k, by rw [List.length_drop]; omega, ?_⟩⟩
        rw [List.drop_take] at h; exact h
    · cases l with
      | nil =>
        rw [List.cons_append, stands_one_nil hp]
        constructor
        · intro h; cases h
        · rintro ⟨j, hj, h⟩; rw [List.take_nil, stands_one_nil hp] at h; cases h
      | cons x l =>
        rw [List.cons_append, stands_one hp, Bool.and_eq_true, snoc_many q l]
        constructor
        · rintro ⟨h1, j, hj, h2⟩
          exact ⟨j + 1, by simpa using hj, by rw [List.take_succ_cons, stands_one hp, h1, h2]; rfl⟩
        · rintro ⟨j, hj, h⟩
          cases j with
          | zero => rw [List.take_zero, stands_one_nil hp] at h; cases h
          | succ j =>
            rw [List.take_succ_cons, stands_one hp, Bool.and_eq_true] at h
            exact ⟨h.1, j, by simpa using hj, h.2⟩
theorem snoc_one {c : Wd} (hc : c ≠ [42, 42]) : ∀ (q l : List Wd) (x : Wd), stands (q ++ [c]) (l ++ [x]) = true ↔ (stands q l = true ∧ glob c x = true)
  | [], l, x => by
    rw [List.nil_append]
    cases l with
    | nil => rw [List.nil_append, stands_one hc]; simp [stands]
    | cons y l => rw [List.cons_append, stands_one hc]; simp [stands]
  | p :: q, l, x => by
    by_cases hp : p = [42, 42]
    · subst hp
      rw [List.cons_append, stands_many, stands_many, star_iff, star_iff]
      constructor
      · rintro ⟨k, hk, h⟩
        rw [List.length_append, List.length_singleton] at hk
        by_cases hkl : k ≤ l.length
        · rw [List.drop_append_of_le_length hkl] at h
          obtain ⟨h1, h2⟩ := (snoc_one hc q _ x).1 h
          exact ⟨⟨k, hkl, h1⟩, h2⟩
        · rw [List.drop_eq_nil_of_le (by simp; omega)] at h
          have : stands (q ++ [c]) [] = false := by
            cases q with
            | nil => exact stands_one_nil hc _
            | cons p q =>
              clear h
              have key : ∀ q : List Wd, stands (q ++ [c]) [] = false := by
                intro q
                induction q with
                | nil => exact stands_one_nil hc _
                | cons p q ih =>
                  by_cases hp : p = [42, 42]
                  · subst hp; rw [List.cons_append, stands_many]; exact ih
                  · exact stands_one_nil hp _
              exact key _
          rw [this] at h; cases h
      · rintro ⟨⟨k, hk, h1⟩, h2⟩
        refine ⟨k, by simp; omega, ?_⟩
        rw [List.drop_append_of_le_length hk]
        exact (snoc_one hc q _ x).2 ⟨h1, h2⟩
    · cases l with
      | nil =>
        rw [List.cons_append, List.nil_append, stands_one hp, stands_one_nil hp]
        constructor
        · intro h
          rw [Bool.and_eq_true] at h
          have key : ∀ q : List Wd, stands (q ++ [c]) [] = false := by
            intro q
            induction q with
            | nil => exact stands_one_nil hc _
            | cons p q ih =>
              by_cases hp : p = [42, 42]
              · subst hp; rw [List.cons_append, stands_many]; exact ih
              · exact stands_one_nil hp _
          rw [key] at h; cases h.2
        · rintro ⟨h, _⟩; cases h
      | cons y l =>
        rw [List.cons_append, List.cons_append, stands_one hp, stands_one hp, Bool.and_eq_true, Bool.and_eq_true, snoc_one hc q l x, and_assoc]
theorem snoc_one_nil {c : Wd} (hc : c ≠ [42, 42]) (q : List Wd) : stands (q ++ [c]) [] = false := by
  induction q with
  | nil => exact stands_one_nil hc _
  | cons p q ih =>
    by_cases hp : p = [42, 42]
    · subst hp; rw [List.cons_append, stands_many]; exact ih
    · exact stands_one_nil hp _

/-! ### place by place -/
/-- the pattern's first i parts stand for l -/
def S (P : List Wd) (i : Nat) (l : List Wd) : Prop := stands (P.take i) l = true
/-- a place may be i behind l -/
def T (P : List Wd) (i : Nat) (l : List Wd) : Prop := S P i l ∨ (P[i]? = some [42, 42] ∧ S P (i + 1) l)
theorem take_succ {P : List Wd} {i : Nat} {c : Wd} (h : P[i]? = some c) : P.take (i + 1) = P.take i ++ [c] := by
  rw [List.take_add_one, h]; rfl
theorem S_many {P : List Wd} {i : Nat} (h : P[i]? = some [42, 42]) (l : List Wd) : S P (i + 1) l ↔ ∃ j, j ≤ l.length ∧ S P i (l.take j) := by
  unfold S; rw [take_succ h]; exact snoc_many _ _
theorem S_many_nil {P : List Wd} {i : Nat} (h : P[i]? = some [42, 42]) : S P (i + 1) [] ↔ S P i [] := by
  rw [S_many h]
  constructor
  · rintro ⟨j, _, h⟩; simpa using h
  · intro h; exact ⟨0, Nat.zero_le _, by simpa using h⟩
theorem S_many_of {P : List Wd} {i : Nat} (h : P[i]? = some [42, 42]) {l : List Wd} (hs : S P i l) : S P (i + 1) l := (S_many h l).2 ⟨l.length, Nat.le_refl _, by rwa [List.take_length]⟩
theorem S_many_snoc {P : List Wd} {i : Nat} (h : P[i]? = some [42, 42]) (l : List Wd) (x : Wd) : S P (i + 1) (l ++ [x]) ↔ (S P (i + 1) l ∨ S P i (l ++ [x])) := by
  rw [S_many h, S_many h]
  constructor
  · rintro ⟨j, hj, h1⟩
    rw [List.length_append, List.length_singleton] at hj
    by_cases hjl : j ≤ l.length
    · exact .inl ⟨j, hjl, by rwa [List.take_append_of_le_length hjl] at h1⟩
    · right; rwa [List.take_of_length_le (by simp; omega)] at h1
  · rintro (⟨j, hj, h1⟩ | h1)
    · exact ⟨j, by simp; omega, by rwa [List.take_append_of_le_length hj]⟩
    · exact ⟨l.length + 1, by simp, by rwa [List.take_of_length_le (by simp)]⟩
theorem S_one {P : List Wd} {i : Nat} {c : Wd} (h : P[i]? = some c) (hc : c ≠ [42, 42]) (l : List Wd) (x : Wd) : S P (i + 1) (l ++ [x]) ↔ (S P i l ∧ glob c x = true) := by
  unfold S; rw [take_succ h]; exact snoc_one hc _ _ _
theorem S_one_nil {P : List Wd} {i : Nat} {c : Wd} (h : P[i]? = some c) (hc : c ≠ [42, 42]) : ¬ S P (i + 1) [] := by
  unfold S; rw [take_succ h, snoc_one_nil hc]; simp
theorem S_zero (P l : List Wd) : S P 0 l ↔ l = [] := by unfold S; rw [List.take_zero]; exact stands_nil l
theorem T_over {P : List Wd} (l : List Wd) : T P P.length l ↔ S P P.length l := by
  unfold T
  constructor
  · rintro (h | ⟨h, _⟩)
    · exact h
    · rw [List.getElem?_eq_none (Nat.le_refl _)] at h; cases h
  · exact .inl
theorem T_nil {P : List Wd} (i : Nat) : T P i [] ↔ S P i [] := by
  unfold T
  constructor
  · rintro (h | ⟨h, h1⟩)
    · exact h
    · exact (S_many_nil h).1 h1
  · exact .inl
theorem T_many {P : List Wd} {i : Nat} (h : P[i]? = some [42, 42]) (l : List Wd) : T P i l ↔ S P (i + 1) l := by
  unfold T
  constructor
  · rintro (h1 | ⟨_, h1⟩)
    · exact S_many_of h h1
    · exact h1
  · intro h1; exact .inr ⟨h, h1⟩
theorem T_one {P : List Wd} {i : Nat} {c : Wd} (h : P[i]? = some c) (hc : c ≠ [42, 42]) (l : List Wd) : T P i l ↔ S P i l := by
  unfold T
  constructor
  · rintro (h1 | ⟨h2, _⟩)
    · exact h1
    · rw [h] at h2; exact absurd (Option.some.inj h2) hc
  · exact .inl

/-! ### rows of truths -/
/-- a row, spread over parts that may stand for none -/
def spr (P : List Wd) (g : Nat → Bool) : Nat → Bool
  | 0 => g 0
  | i + 1 => g (i + 1) || (spr P g i && decide (P[i]? = some [42, 42]))
/-- a row behind one part, ahead of the spreading -/
def stp (P : List Wd) (f : Nat → Bool) (x : Wd) : Nat → Bool
  | 0 => f 0 && decide (P[0]? = some [42, 42])
  | i + 1 => (f (i + 1) && decide (P[i + 1]? = some [42, 42])) || (f i && (match P[i]? with | some c => decide (c ≠ [42, 42]) && glob c x | none => false))
/-- a row holds the places behind l -/
def Row (P : List Wd) (l : List Wd) (f : Nat → Bool) : Prop := ∀ i, i ≤ P.length → (f i = true ↔ T P i l)
theorem row_start (P : List Wd) : Row P [] (spr P (fun i => decide (i = 0))) := by
  intro i
  induction i with
  | zero => intro _; rw [T_nil]; simp [spr, S_zero]
  | succ i ih =>
    intro hi
    have h1 := ih (by omega)
    rw [T_nil] at h1
    obtain ⟨c, hc⟩ : ∃ c, P[i]? = some c := ⟨P[i], List.getElem?_eq_getElem (by omega)⟩
    rw [T_nil, spr, Bool.or_eq_true, Bool.and_eq_true, h1]
    by_cases hm : c = [42, 42]
    · subst hm
      rw [S_many_nil hc]; simp [hc]
    · have := S_one_nil hc hm
      simp [hc, hm, this]
theorem row_step {P : List Wd} {l : List Wd} {f : Nat → Bool} (h : Row P l f) (x : Wd) : Row P (l ++ [x]) (spr P (stp P f x)) := by
  intro i
  induction i with
  | zero =>
    intro _
    unfold spr stp
    have h0 := h 0 (Nat.zero_le _)
    rw [Bool.and_eq_true, h0, decide_eq_true_iff]
    constructor
    · rintro ⟨_, h2⟩
      rw [T_many h2, S_many h2]
      exact ⟨0, Nat.zero_le _, by simp [S_zero]⟩
    · rintro (h2 | ⟨h2, _⟩)
      · rw [S_zero] at h2; simp at h2
      · exact ⟨(T_many h2 l).2 ((S_many h2 l).2 ⟨0, Nat.zero_le _, by simp [S_zero]⟩), h2⟩
  | succ i ih =>
    intro hi
    have h1 := ih (by omega)
    have hf := h i (by omega)
    have hf1 := h (i + 1) hi
    obtain ⟨c, hc⟩ : ∃ c, P[i]? = some c := ⟨P[i], List.getElem?_eq_getElem (by omega)⟩
    have key : T P (i + 1) (l ++ [x]) ↔ (S P (i + 1) (l ++ [x]) ∨ (P[i + 1]? = some [42, 42] ∧ S P (i + 1 + 1) l)) := by
      unfold T
      constructor
      · rintro (h2 | ⟨h2, h3⟩)
        · exact .inl h2
        · rcases (S_many_snoc h2 l x).1 h3 with h3 | h3
          · exact .inr ⟨h2, h3⟩
          · exact .inl h3
      · rintro (h2 | ⟨h2, h3⟩)
        · exact .inl h2
        · exact .inr ⟨h2, (S_many_snoc h2 l x).2 (.inl h3)⟩
    have hA : (f (i + 1) = true ∧ P[i + 1]? = some [42, 42]) ↔ (P[i + 1]? = some [42, 42] ∧ S P (i + 1 + 1) l) := by
      constructor
      · rintro ⟨h2, h3⟩; exact ⟨h3, (T_many h3 l).1 (hf1.1 h2)⟩
      · rintro ⟨h2, h3⟩; exact ⟨hf1.2 ((T_many h2 l).2 h3), h2⟩
    rw [key, spr, Bool.or_eq_true, Bool.and_eq_true, h1, stp, Bool.or_eq_true, Bool.and_eq_true, Bool.and_eq_true, decide_eq_true_iff, decide_eq_true_iff, hA, hc]
    by_cases hm : c = [42, 42]
    · subst hm
      simp only [ne_eq, not_true_eq_false, decide_false, Bool.false_and, Bool.false_eq_true, and_false, or_false, and_true]
      rw [T_many hc]
      exact Or.comm
    · have e1 : ¬ some c = some [42, 42] := fun e => hm (Option.some.inj e)
      simp only [ne_eq, hm, not_false_eq_true, decide_true, Bool.true_and, e1, and_false, or_false]
      rw [S_one hc hm, hf, T_one hc hm]
      exact Or.comm
end Go.Route
