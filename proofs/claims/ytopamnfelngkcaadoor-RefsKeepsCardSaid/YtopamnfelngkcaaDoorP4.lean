/-
  A pattern run over parts, in plain words: what it answers. No program is named here.
-/
import Derived.Test.YtopamnfelngkcaaDoorP1
import Derived.Test.YtopamnfelngkcaaDoorP3
namespace Go.Route

/-- is a place left? -/
def anyB (P : List Wd) (f : Nat → Bool) (x : Wd) : Bool := (List.range (P.length + 1)).any (stp P f x)
/-- a run from a row on -/
def runM (P : List Wd) (f : Nat → Bool) : List Wd → Bool × Bool
  | [] => (false, true)
  | x :: r => if anyB P f x = false then (false, false) else if spr P (stp P f x) P.length = true then (true, true) else runM P (spr P (stp P f x)) r
def row0 (P : List Wd) : Nat → Bool := spr P (fun i => decide (i = 0))
def runP (P l : List Wd) : Bool × Bool := runM P (row0 P) l

theorem anyB_iff {P : List Wd} {f : Nat → Bool} {x : Wd} : anyB P f x = true ↔ ∃ i, i ≤ P.length ∧ stp P f x i = true := by
  unfold anyB
  rw [List.any_eq_true]
  constructor
  · rintro ⟨i, hi, h⟩; exact ⟨i, by have := List.mem_range.1 hi; omega, h⟩
  · rintro ⟨i, hi, h⟩; exact ⟨i, List.mem_range.2 (by omega), h⟩
theorem spr_some {P : List Wd} {g : Nat → Bool} : ∀ {i : Nat}, spr P g i = true → ∃ j, j ≤ i ∧ g j = true
  | 0, h => ⟨0, Nat.le_refl _, h⟩
  | i + 1, h => by
    rw [spr, Bool.or_eq_true, Bool.and_eq_true] at h
    rcases h with h | ⟨h, _⟩
    · exact ⟨i + 1, Nat.le_refl _, h⟩
    · obtain ⟨j, hj, h⟩ := spr_some h; exact ⟨j, by omega, h⟩
theorem spr_of {P : List Wd} {g : Nat → Bool} {i : Nat} (h : g i = true) : spr P g i = true := by
  cases i with
  | zero => exact h
  | succ i => rw [spr, h]; rfl
/-- is some place left behind l? -/
def Alive (P l : List Wd) : Prop := ∃ i, i ≤ P.length ∧ T P i l
theorem alive_iff {P l : List Wd} {f : Nat → Bool} (h : Row P l f) (x : Wd) : anyB P f x = true ↔ Alive P (l ++ [x]) := by
  have hs := row_step h x
  rw [anyB_iff]
  constructor
  · rintro ⟨i, hi, h1⟩; exact ⟨i, hi, (hs i hi).1 (spr_of h1)⟩
  · rintro ⟨i, hi, h1⟩
    obtain ⟨j, hj, h2⟩ := spr_some ((hs i hi).2 h1)
    exact ⟨j, by omega, h2⟩
theorem alive_less {P l : List Wd} {x : Wd} (h : Alive P (l ++ [x])) : Alive P l := by
  obtain ⟨i, hi, h⟩ := h
  rcases h with h | ⟨hm, h⟩
  · cases i with
    | zero => rw [S_zero] at h; simp at h
    | succ i =>
      obtain ⟨c, hc⟩ : ∃ c, P[i]? = some c := ⟨P[i], List.getElem?_eq_getElem (by omega)⟩
      by_cases hcm : c = [42, 42]
      · subst hcm
        obtain ⟨j, hj, h1⟩ := (S_many hc _).1 h
        rcases (S_many_snoc hc l x).1 h with h2 | h2
        · exact ⟨i + 1, hi, .inl h2⟩
        · have : ∀ (n : Nat) (i : Nat), i ≤ n → i ≤ P.length → S P i (l ++ [x]) → Alive P l := by
            intro n
            induction n with
            | zero =>
              intro i h0 _ h3
              obtain rfl : i = 0 := by omega
              rw [S_zero] at h3; simp at h3
            | succ n ih =>
              intro i h0 hi2 h3
              cases i with
              | zero => rw [S_zero] at h3; simp at h3
              | succ i =>
                obtain ⟨c, hc⟩ : ∃ c, P[i]? = some c := ⟨P[i], List.getElem?_eq_getElem (by omega)⟩
                by_cases hcm : c = [42, 42]
                · subst hcm
                  rcases (S_many_snoc hc l x).1 h3 with h4 | h4
                  · exact ⟨i + 1, hi2, .inl h4⟩
                  · exact ih i (by omega) (by omega) h4
                · exact ⟨i, by omega, .inl ((S_one hc hcm l x).1 h3).1⟩
          exact this i i (Nat.le_refl _) (by omega) h2
      · exact ⟨i, by omega, .inl ((S_one hc hcm l x).1 h).1⟩
  · rcases (S_many_snoc hm l x).1 h with h2 | h2
    · exact ⟨i, hi, (T_many hm l).2 h2⟩
    · have : ∀ (n : Nat) (i : Nat), i ≤ n → i ≤ P.length → S P i (l ++ [x]) → Alive P l := by
        intro n
        induction n with
        | zero =>
          intro i h0 _ h3
          obtain rfl : i = 0 := by omega
          rw [S_zero] at h3; simp at h3
        | succ n ih =>
          intro i h0 hi2 h3
          cases i with
          | zero => rw [S_zero] at h3; simp at h3
          | succ i =>
            obtain ⟨c, hc⟩ : ∃ c, P[i]? = some c := ⟨P[i], List.getElem?_eq_getElem (by omega)⟩
            by_cases hcm : c = [42, 42]
            · subst hcm
              rcases (S_many_snoc hc l x).1 h3 with h4 | h4
              · exact ⟨i + 1, hi2, .inl h4⟩
              · exact ih i (by omega) (by omega) h4
            · exact ⟨i, by omega, .inl ((S_one hc hcm l x).1 h3).1⟩
      exact this i i (Nat.le_refl _) hi h2
theorem alive_pre {P l : List Wd} : ∀ {r : List Wd}, Alive P (l ++ r) → Alive P l := by
  intro r
  induction r generalizing l with
  | nil => intro h; simpa using h
  | cons x r ih =>
    intro h
    have h2 : Alive P ((l ++ [x]) ++ r) := by simpa using h
    exact alive_less (ih h2)
theorem alive_of {P l : List Wd} (h : S P P.length l) : Alive P l := ⟨P.length, Nat.le_refl _, .inl h⟩

theorem runM_spec {P : List Wd} : ∀ {r l : List Wd} {f : Nat → Bool}, Row P l f →
    ((runM P f r).1 = true ↔ ∃ n, 1 ≤ n ∧ n ≤ r.length ∧ S P P.length (l ++ r.take n)) ∧
    ((runM P f r).2 = true ↔ (r = [] ∨ (∃ n, 1 ≤ n ∧ n ≤ r.length ∧ S P P.length (l ++ r.take n)) ∨ Alive P (l ++ r)))
  | [], l, f, h => by
    refine ⟨⟨fun h => (by cases h), fun ⟨n, h1, h2, _⟩ => (by simp at h2; omega)⟩, ⟨fun _ => .inl rfl, fun _ => rfl⟩⟩
  | x :: r, l, f, h => by
    have hs := row_step h x
    have ha := alive_iff h x
    have hx : ∀ n, l ++ (x :: r).take (n + 1) = (l ++ [x]) ++ r.take n := fun n => by simp
    have hxx : l ++ x :: r = (l ++ [x]) ++ r := by simp
    rw [runM]
    by_cases hA : anyB P f x = false
    · rw [if_pos hA]
      have hd : ¬ Alive P (l ++ [x]) := fun e => by rw [ha.2 e] at hA; cases hA
      have hno : ¬ ∃ n, 1 ≤ n ∧ n ≤ (x :: r).length ∧ S P P.length (l ++ (x :: r).take n) := by
        rintro ⟨n, h1, _, h2⟩
        obtain ⟨n, rfl⟩ : ∃ q, n = q + 1 := ⟨n - 1, by omega⟩
        rw [hx] at h2
        exact hd (alive_pre (alive_of h2))
      refine ⟨⟨fun h => (by cases h), fun h => absurd h hno⟩, ⟨fun h => (by cases h), ?_⟩⟩
      rintro (h1 | h1 | h1)
      · cases h1
      · exact absurd h1 hno
      · rw [hxx] at h1; exact absurd (alive_pre h1) hd
    · rw [if_neg hA]
      by_cases hE : spr P (stp P f x) P.length = true
      · rw [if_pos hE]
        have hS := (T_over _).1 ((hs P.length (Nat.le_refl _)).1 hE)
        have hyes : ∃ n, 1 ≤ n ∧ n ≤ (x :: r).length ∧ S P P.length (l ++ (x :: r).take n) := ⟨1, Nat.le_refl _, by simp, by rw [show (1 : Nat) = 0 + 1 from rfl, hx]; simpa using hS⟩
        exact ⟨⟨fun _ => hyes, fun _ => rfl⟩, ⟨fun _ => .inr (.inl hyes), fun _ => rfl⟩⟩
      · rw [if_neg hE]
        obtain ⟨i1, i2⟩ := runM_spec (r := r) hs
        have hn0 : ¬ S P P.length (l ++ [x]) := fun e => hE ((hs P.length (Nat.le_refl _)).2 ((T_over _).2 e))
        have hiff : (∃ n, 1 ≤ n ∧ n ≤ r.length ∧ S P P.length ((l ++ [x]) ++ r.take n)) ↔ ∃ n, 1 ≤ n ∧ n ≤ (x :: r).length ∧ S P P.length (l ++ (x :: r).take n) := by
          constructor
          · rintro ⟨n, h1, h2, h3⟩; exact ⟨n + 1, by omega, by simpa using h2, by rw [hx]; exact h3⟩
          · rintro ⟨n, h1, h2, h3⟩
            obtain ⟨n, rfl⟩ : ∃ q, n = q + 1 := ⟨n - 1, by omega⟩
            rw [hx] at h3
            cases n with
            | zero => simp at h3; exact absurd h3 hn0
            | succ n => exact ⟨n + 1, by omega, by simpa using h2, h3⟩
        refine ⟨i1.trans hiff, i2.trans ?_⟩
        rw [hiff, hxx]
        constructor
        · rintro (h1 | h1)
          · subst h1
            have hal : Alive P (l ++ [x]) := ha.1 (by cases e : anyB P f x with | true => rfl | false => exact absurd e hA)
            right; right; simpa using hal
          · exact .inr h1
        · rintro (h1 | h1)
          · cases h1
          · exact .inr h1

/-- does a pattern stand for some first parts? -/
def fitsP (P l : List Wd) : Bool := (List.range l.length).any fun n => stands P (l.take (n + 1))
/-- does it stand for some first parts, none too, or begin for all of them? -/
def touchP (P l : List Wd) : Bool := (List.range (l.length + 1)).any (fun n => stands P (l.take n)) || (List.range (P.length + 1)).any (fun n => stands (P.take n) l)
theorem fitsP_iff {P l : List Wd} : fitsP P l = true ↔ ∃ n, 1 ≤ n ∧ n ≤ l.length ∧ S P P.length (l.take n) := by
  unfold fitsP S
  rw [List.any_eq_true, List.take_length]
  constructor
  · rintro ⟨n, h1, h2⟩; exact ⟨n + 1, by omega, by have := List.mem_range.1 h1; omega, h2⟩
  · rintro ⟨n, h1, h2, h3⟩
    obtain ⟨n, rfl⟩ : ∃ q, n = q + 1 := ⟨n - 1, by omega⟩
    exact ⟨n, List.mem_range.2 (by omega), h3⟩
theorem run_fits (P l : List Wd) : (runP P l).1 = fitsP P l := by
  rw [Bool.eq_iff_iff, fitsP_iff]
  have := (runM_spec (r := l) (row_start P)).1
  simp only [List.nil_append] at this
  exact this
theorem run_touch {P : List Wd} (hP : P ≠ []) (l : List Wd) : (runP P l).2 = touchP P l := by
  rw [Bool.eq_iff_iff]
  refine (runM_spec (r := l) (row_start P)).2.trans ?_
  simp only [List.nil_append]
  unfold touchP
  rw [Bool.or_eq_true, List.any_eq_true, List.any_eq_true]
  constructor
  · rintro (rfl | ⟨n, h1, h2, h3⟩ | ⟨i, hi, h | ⟨hm, h⟩⟩)
    · right; exact ⟨0, List.mem_range.2 (by omega), by simp [stands]⟩
    · left; exact ⟨n, List.mem_range.2 (by omega), by unfold S at h3; rwa [List.take_length] at h3⟩
    · right; exact ⟨i, List.mem_range.2 (by omega), h⟩
    · right
      have : i < P.length := (List.getElem?_eq_some_iff.1 hm).1
      exact ⟨i + 1, List.mem_range.2 (by omega), h⟩
  · rintro (⟨n, h1, h2⟩ | ⟨n, h1, h2⟩)
    · have hn := List.mem_range.1 h1
      have hS : S P P.length (l.take n) := by unfold S; rwa [List.take_length]
      cases n with
      | succ n => exact .inr (.inl ⟨n + 1, by omega, by omega, hS⟩)
      | zero =>
        cases l with
        | nil => exact .inl rfl
        | cons x l =>
          rw [List.take_zero] at hS
          obtain ⟨m, hm⟩ : ∃ m, P.length = m + 1 := ⟨P.length - 1, by have := List.length_pos_iff.2 hP; omega⟩
          obtain ⟨c, hc⟩ : ∃ c, P[m]? = some c := ⟨P[m], List.getElem?_eq_getElem (by omega)⟩
          rw [hm] at hS
          by_cases hcm : c = [42, 42]
          · subst hcm
            refine .inr (.inl ⟨1, Nat.le_refl _, by simp, ?_⟩)
            rw [hm, S_many hc]
            exact ⟨0, Nat.zero_le _, by rw [List.take_zero]; exact (S_many_nil hc).1 hS⟩
          · exact absurd hS (S_one_nil hc hcm)
    · have hn := List.mem_range.1 h1
      exact .inr (.inr ⟨n, by omega, .inl h2⟩)
end Go.Route
