/-
  Both find the same token at a text's beginning. Plain: no program in sight.
-/
import Derived.Test.YtolahnnkdpbdfaaR2
namespace Go.Lex

theorem first_word {c : UInt8} {r : List UInt8} (h32 : c.toNat ≠ 32) (h94 : c.toNat ≠ 94) (h126 : c.toNat ≠ 126) (h123 : c.toNat ≠ 123) (h45 : c.toNat ≠ 45) (h2 : (c :: r).take 2 ≠ [46, 46]) :
    (word (c :: r) = 0 ∧ (first (c :: r)).2 = 0) ∨ first (c :: r) = (1, word (c :: r)) := by
  have hw : word (c :: r) = wordG (c :: r) := by
    unfold word
    rw [if_neg]
    rintro (h | ⟨d, h, e⟩)
    · cases h
    · simp only [List.head?_cons, Option.some.injEq] at h; subst h; exact h45 e
  have hk : ∀ n, kind ((c :: r).take (n + 1)) = if rwG ((c :: r).take (n + 1)) then 1 else 0 := by
    intro n
    have e2 : (c :: r).take (n + 1) ≠ [46, 46] := fun h => h2 (by
      have := congrArg (List.take 2) h
      have hn : 1 ≤ n := by have := congrArg List.length h; simp at this; omega
      rw [List.take_take, Nat.min_eq_left (by omega)] at this
      exact this)
    have e3 : (c :: r).take (n + 1) ≠ [46, 46, 46] := fun h => h2 (by
      have := congrArg (List.take 2) h
      have hn : 2 ≤ n := by have := congrArg List.length h; simp at this; omega
      rw [List.take_take, Nat.min_eq_left (by omega)] at this
      exact this)
    rw [take_cons] at e2 e3 ⊢
    rw [kind_cons _ _ (by intro h; simp at h; exact h94 (by rw [h.1]; rfl)) (by intro h; simp at h; exact h126 (by rw [h.1]; rfl)) e2 e3, gap_no h32, flag_no h45, brace_no h123]
    simp [rword, h45]
  have hs : ∀ n, 1 ≤ n → n ≤ (c :: r).length → (skip (c :: r) n = false ↔ n ≤ wordG (c :: r)) := by
    intro n h1 hn
    rw [← wordG_ok (c :: r) n h1 hn]
    obtain ⟨m, rfl⟩ : ∃ m, n = m + 1 := ⟨n - 1, by omega⟩
    unfold skip
    rw [hk, decide_eq_false_iff_not]
    cases rwG ((c :: r).take (m + 1)) <;> simp
  have h3 : (c :: r).take 3 ≠ [46, 46, 46] := fun h => h2 (by
    have := congrArg (List.take 2) h
    rw [List.take_take, Nat.min_eq_left (by omega)] at this
    exact this)
  have hle := wordG_le (c :: r)
  rw [hw]
  rw [first_max (m := wordG (c :: r)) (K := 1) h3 h2 hle ?_ ?_]
  · by_cases h0 : wordG (c :: r) = 0
    · left; rw [if_pos h0]; exact ⟨h0, rfl⟩
    · right; rw [if_neg h0]
  · intro n g1 g2
    cases e : skip (c :: r) n
    · have := (hs n (by omega) g2).1 e; omega
    · rfl
  · intro h0
    have e := (hs _ (by omega) hle).2 (Nat.le_refl _)
    refine ⟨e, ?_⟩
    obtain ⟨m, hm⟩ : ∃ m, wordG (c :: r) = m + 1 := ⟨wordG (c :: r) - 1, by omega⟩
    rw [hm] at e ⊢
    rw [hk]
    cases hh : rwG ((c :: r).take (m + 1))
    · rw [skip_of (by rw [hk, hh]; rfl)] at e; cases e
    · rfl

/-! ### flags -/
theorem rfS_iff : ∀ (s a : List UInt8), rfS a s = true ↔ a.all letter = true ∧ (s.all letter = true ∨ (s[whileN letter s]? = some 61 ∧ whileN letter s + 1 < s.length ∧ (s.drop (whileN letter s + 1)).all digit = true)) := by
  intro s
  induction s with
  | nil => intro a; simp [rfS]
  | cons c s ih =>
    intro a
    by_cases h61 : c.toNat = 61
    · have hl := letter_not c (.inl h61)
      have hc : c = 61 := UInt8.toNat_inj.1 h61
      rw [rfS, if_pos h61]
      simp only [whileN, hl, Bool.and_eq_true, decide_eq_true_eq, List.all_cons, Bool.false_and]
      subst hc
      have : (0 < s.length) ↔ s ≠ [] := List.length_pos_iff
      simp [this]
    · rw [rfS, if_neg h61, ih]
      cases hl : letter c
      · have hc : c ≠ 61 := fun e => h61 (by rw [e]; rfl)
        simp [whileN, hl, hc]
      · simp only [List.all_append, List.all_cons, hl, List.all_nil, Bool.true_and, Bool.and_true, whileN, if_true, List.getElem?_cons_succ, List.length_cons, List.drop_succ_cons, Nat.add_lt_add_iff_right]
theorem whileN_take {p : UInt8 → Bool} : ∀ (l : List UInt8) (j : Nat), whileN p (l.take j) = min j (whileN p l) := by
  intro l
  induction l with
  | nil => intro j; simp [whileN]
  | cons c l ih =>
    intro j
    cases j with
    | zero => simp [whileN]
    | succ j =>
      rw [List.take_succ_cons, whileN, whileN, ih]
      split <;> omega

theorem first_45 (r : List UInt8) : (flag (45 :: r) = 0 ∧ (first (45 :: r)).2 = 0) ∨ first (45 :: r) = (2, flag (45 :: r)) := by
  have hk : ∀ n, kind ((45 :: r).take (n + 1)) = if rflag ((45 :: r).take (n + 1)) then 2 else 0 := by
    intro n
    rw [take_cons, kind_cons _ _ (by simp) (by simp) (by simp) (by simp), gap_no (by decide), brace_no (by decide), word_no45 (by decide)]
    rfl
  have hnone : (∀ n, 1 ≤ n → n ≤ (45 :: r).length → rflag ((45 :: r).take n) = false) → (first (45 :: r)).2 = 0 := by
    intro h
    rw [first_max (m := 0) (K := 0) (by simp) (by simp) (by omega) ?_ (fun h => absurd rfl h), if_pos rfl]
    intro n h1 h2
    obtain ⟨m, rfl⟩ : ∃ m, n = m + 1 := ⟨n - 1, by omega⟩
    refine skip_of ?_
    rw [hk, h _ (by omega) h2]; rfl
  match r with
  | [] => left; exact ⟨by rfl, hnone fun n h1 h2 => by
      obtain rfl : n = 1 := by simp at h2; omega
      rfl⟩
  | y :: t =>
    by_cases hy : y.toNat = 45
    · have hy' : y = 45 := UInt8.toNat_inj.1 hy
      subst hy'
      match t with
      | [] => left; exact ⟨by decide, hnone fun n h1 h2 => by
          match n, h1, h2 with
          | 1, _, _ => rfl
          | 2, _, _ => rfl⟩
      | z :: s =>
        have hfl : flag (45 :: 45 :: z :: s) = if whileN letter (z :: s) = 0 then 0 else if (z :: s)[whileN letter (z :: s)]? = some 61 ∧ 0 < whileN digit ((z :: s).drop (whileN letter (z :: s) + 1)) then 2 + (whileN letter (z :: s) + (1 + whileN digit ((z :: s).drop (whileN letter (z :: s) + 1)))) else 2 + whileN letter (z :: s) := by
          unfold flag; rw [if_pos (by rfl)]; rfl
        have hr : ∀ j, rflag ((45 :: 45 :: z :: s).take (j + 3)) = rfS [z] (s.take j) := by
          intro j; simp [rflag]
        have hsmall : ∀ n, 1 ≤ n → n < 3 → rflag ((45 :: 45 :: z :: s).take n) = false := by
          intro n h1 h2
          match n, h1, h2 with
          | 1, _, _ => rfl
          | 2, _, _ => rfl
        cases hz : letter z
        · left
          have hw0 : whileN letter (z :: s) = 0 := by rw [whileN, if_neg (by rw [hz]; simp)]
          refine ⟨by rw [hfl, if_pos hw0], hnone fun n h1 h2 => ?_⟩
          by_cases h3 : n < 3
          · exact hsmall n h1 h3
          · obtain ⟨j, rfl⟩ : ∃ j, n = j + 3 := ⟨n - 3, by omega⟩
            rw [hr]
            cases e : rfS [z] (s.take j)
            · rfl
            · have := ((rfS_iff _ _).1 e).1; simp [hz] at this
        · right
          have hw0 : whileN letter (z :: s) = whileN letter s + 1 := by rw [whileN, if_pos hz]
          rw [hw0] at hfl
          simp only [List.getElem?_cons_succ, List.drop_succ_cons] at hfl
          rw [if_neg (by omega)] at hfl
          -- which prefixes are flags
          have hj : ∀ j, j ≤ s.length → (rfS [z] (s.take j) = true ↔ j ≤ whileN letter s ∨ (s[whileN letter s]? = some 61 ∧ whileN letter s + 1 < j ∧ j ≤ whileN letter s + 1 + whileN digit (s.drop (whileN letter s + 1)))) := by
            intro j hjl
            rw [rfS_iff]
            simp only [List.all_cons, hz, List.all_nil, Bool.and_self, true_and]
            rw [all_iff hjl, whileN_take]
            by_cases hk' : j ≤ whileN letter s
            · simp [hk']
            · rw [Nat.min_eq_right (by omega)]
              simp only [hk', false_or, List.getElem?_take, if_pos (show whileN letter s < j by omega), List.length_take, Nat.min_eq_left hjl]
              constructor
              · rintro ⟨e1, e2, e3⟩
                refine ⟨e1, e2, ?_⟩
                rw [List.drop_take] at e3
                have := (all_iff (l := s.drop (whileN letter s + 1)) (n := j - (whileN letter s + 1)) (by simp; omega)).1 e3
                omega
              · rintro ⟨e1, e2, e3⟩
                refine ⟨e1, e2, ?_⟩
                rw [List.drop_take]
                exact (all_iff (l := s.drop (whileN letter s + 1)) (n := j - (whileN letter s + 1)) (by simp; omega)).2 (by omega)
          have hwl := whileN_le letter s
          have hdl := whileN_le digit (s.drop (whileN letter s + 1))
          rw [List.length_drop] at hdl
          have hmain : ∀ m, m ≤ s.length → flag (45 :: 45 :: z :: s) = m + 3 → rfS [z] (s.take m) = true → (∀ j, m < j → j ≤ s.length → rfS [z] (s.take j) = false) → first (45 :: 45 :: z :: s) = (2, flag (45 :: 45 :: z :: s)) := by
            intro m hm hf ht hn
            have h2' : kind ((45 :: 45 :: z :: s).take (m + 3)) = 2 := by rw [show m + 3 = m + 2 + 1 from rfl, hk, show m + 2 + 1 = m + 3 from rfl, hr, ht]; rfl
            rw [first_max (m := m + 3) (K := 2) (by simp) (by simp) (by simp; omega) ?_ (fun _ => ⟨noskip_of (by rw [h2']; decide) (by rw [h2']; decide), h2'⟩), if_neg (by omega), hf]
            intro n g1 g2
            obtain ⟨j, rfl⟩ : ∃ j, n = j + 3 := ⟨n - 3, by omega⟩
            refine skip_of ?_
            rw [show j + 3 = j + 2 + 1 from rfl, hk, show j + 2 + 1 = j + 3 from rfl, hr, hn j (by omega) (by simp at g2; omega)]; rfl
          by_cases hc : s[whileN letter s]? = some 61 ∧ 0 < whileN digit (s.drop (whileN letter s + 1))
          · have hlt : whileN letter s < s.length := (List.getElem?_eq_some_iff.1 hc.1).1
            refine hmain (whileN letter s + 1 + whileN digit (s.drop (whileN letter s + 1))) (by omega) (by rw [hfl, if_pos hc]; omega) ((hj _ (by omega)).2 (.inr ⟨hc.1, by omega, by omega⟩)) ?_
            intro j g1 g2
            cases e : rfS [z] (s.take j)
            · rfl
            · rcases (hj j g2).1 e with h | ⟨_, _, h⟩ <;> omega
          · refine hmain (whileN letter s) hwl (by rw [hfl, if_neg hc]; omega) ((hj _ hwl).2 (.inl (Nat.le_refl _))) ?_
            intro j g1 g2
            cases e : rfS [z] (s.take j)
            · rfl
            · rcases (hj j g2).1 e with h | ⟨h, h5, h6⟩
              · omega
              · exact absurd ⟨h, by omega⟩ hc
    · left
      refine ⟨by unfold flag; rw [if_neg]; intro h; simp at h; exact hy (by rw [h]; rfl), hnone fun n h1 h2 => ?_⟩
      match n, h1 with
      | 1, _ => rfl
      | 2, _ => cases t <;> rfl
      | m + 3, _ => cases t with
        | nil => rfl
        | cons z s => simp [rflag, hy]

theorem dots_two (r : List UInt8) (c : UInt8) : 2 ≤ whileN isDot (c :: r) ↔ (c :: r).take 2 = [46, 46] := by
  cases r with
  | nil => simp [whileN]; split <;> omega
  | cons d s =>
    simp only [whileN, List.take_succ_cons, List.take_zero, List.cons.injEq, and_true]
    rw [b46, b46, ← isDot_iff, ← isDot_iff]
    cases isDot c <;> cases isDot d <;> simp
theorem dots_three (r : List UInt8) (c : UInt8) : 3 ≤ whileN isDot (c :: r) ↔ (c :: r).take 3 = [46, 46, 46] := by
  match r with
  | [] => simp [whileN]; split <;> omega
  | [d] => simp only [whileN]; cases isDot c <;> cases isDot d <;> simp
  | d :: e :: s =>
    simp only [whileN, List.take_succ_cons, List.take_zero, List.cons.injEq, and_true]
    rw [b46, b46, b46, ← isDot_iff, ← isDot_iff, ← isDot_iff]
    cases isDot c <;> cases isDot d <;> cases isDot e <;> simp

/-- both find the same -/
theorem one_first (l : List UInt8) (h : l ≠ []) : ((one l).2 = 0 ∧ (first l).2 = 0) ∨ one l = first l := by
  obtain ⟨c, r, rfl⟩ : ∃ c r, l = c :: r := by cases l with
    | nil => exact absurd rfl h
    | cons c r => exact ⟨c, r, rfl⟩
  unfold one
  simp only
  by_cases h32 : c.toNat = 32
  · rw [if_pos h32]; obtain rfl : c = 32 := UInt8.toNat_inj.1 h32; rw [first_32]; exact .inr rfl
  rw [if_neg h32]
  by_cases h94 : c.toNat = 94
  · rw [if_pos h94]; obtain rfl : c = 94 := UInt8.toNat_inj.1 h94; rw [first_94]; exact .inr rfl
  rw [if_neg h94]
  by_cases h126 : c.toNat = 126
  · rw [if_pos h126]; obtain rfl : c = 126 := UInt8.toNat_inj.1 h126; rw [first_126]; exact .inr rfl
  rw [if_neg h126]
  by_cases h123 : c.toNat = 123
  · rw [if_pos h123]; obtain rfl : c = 123 := UInt8.toNat_inj.1 h123
    rcases first_123 r with ⟨e1, e2⟩ | e
    · exact .inl ⟨e1, e2⟩
    · exact .inr e.symm
  rw [if_neg h123]
  by_cases h45 : c.toNat = 45
  · rw [if_pos h45]; obtain rfl : c = 45 := UInt8.toNat_inj.1 h45
    rcases first_45 r with ⟨e1, e2⟩ | e
    · exact .inl ⟨e1, e2⟩
    · exact .inr e.symm
  rw [if_neg h45]
  by_cases h3 : 3 ≤ whileN isDot (c :: r)
  · rw [if_pos h3]; unfold first; rw [if_pos ((dots_three r c).1 h3)]; exact .inr rfl
  rw [if_neg h3]
  by_cases h2 : whileN isDot (c :: r) = 2
  · rw [if_pos h2]; unfold first; rw [if_neg (fun e => h3 ((dots_three r c).2 e)), if_pos ((dots_two r c).1 (by omega))]; exact .inr rfl
  rw [if_neg h2]
  rcases first_word (c := c) (r := r) h32 h94 h126 h123 h45 (fun e => by have := (dots_two r c).2 e; omega) with ⟨e1, e2⟩ | e
  · exact .inl ⟨e1, e2⟩
  · exact .inr e.symm
end Go.Lex
