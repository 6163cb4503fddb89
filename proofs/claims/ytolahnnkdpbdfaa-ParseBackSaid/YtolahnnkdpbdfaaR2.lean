/-
  Flags, braces and words: both tell the same. Plain: no program in sight.
-/
import Derived.Test.YtolahnnkdpbdfaaR1
namespace Go.Lex

/-- with a greatest prefix that is a token -/
theorem first_max {l : List UInt8} {m K : Nat} (h3 : l.take 3 ≠ [46, 46, 46]) (h2 : l.take 2 ≠ [46, 46]) (hm : m ≤ l.length) (hs : ∀ n, m < n → n ≤ l.length → skip l n = true) (hk : m ≠ 0 → skip l m = false ∧ kind (l.take m) = K) :
    first l = if m = 0 then (0, 0) else (K, m) := by
  unfold first
  rw [if_neg h3, if_neg h2, down_to hm hs]
  cases m with
  | zero => rfl
  | succ m =>
    obtain ⟨h, e⟩ := hk (by omega)
    rw [down_at h, e, if_neg (by omega)]

/-! ### braces -/
theorem whileN_get {p : UInt8 → Bool} : ∀ {l : List UInt8} {k : Nat}, k < whileN p l → ∃ c, l[k]? = some c ∧ p c = true := by
  intro l
  induction l with
  | nil => intro k h; simp [whileN] at h
  | cons x l ih =>
    intro k h
    rw [whileN] at h
    cases hp : p x
    · simp [hp] at h
    · rw [if_pos hp] at h
      cases k with
      | zero => exact ⟨x, rfl, hp⟩
      | succ k => simpa using ih (by omega)
theorem whileN_at {p : UInt8 → Bool} : ∀ {l : List UInt8} {c : UInt8}, l[whileN p l]? = some c → p c = false := by
  intro l
  induction l with
  | nil => intro c h; simp at h
  | cons x l ih =>
    intro c h
    rw [whileN] at h
    cases hp : p x
    · simp [hp] at h; rw [← h]; exact hp
    · rw [if_pos hp] at h
      exact ih (by simpa using h)
theorem all_iff {p : UInt8 → Bool} {l : List UInt8} {n : Nat} (h : n ≤ l.length) : (l.take n).all p = true ↔ n ≤ whileN p l := all_take_while p l n h

theorem first_123 (r : List UInt8) : ((brace (123 :: r)) = 0 ∧ (first (123 :: r)).2 = 0) ∨ first (123 :: r) = (7, brace (123 :: r)) := by
  have hk : ∀ n, kind ((123 :: r).take (n + 1)) = if rbrace ((123 :: r).take (n + 1)) then 7 else 0 := by
    intro n
    rw [take_cons, kind_cons _ _ (by simp) (by simp) (by simp) (by simp), gap_no (by decide), flag_no (by decide), word_no (by decide)]
    rfl
  -- a prefix is a brace just at one place
  have hb : ∀ n, n + 1 ≤ (123 :: r).length → (rbrace ((123 :: r).take (n + 1)) = true ↔ n + 1 = whileN letter r + 2 ∧ r[whileN letter r]? = some 125) := by
    intro n hn
    have hnr : n ≤ r.length := by simpa using hn
    unfold rbrace
    rw [decide_eq_true_eq, take_cons]
    simp only [List.length_cons, List.length_take, List.head?_cons, List.drop_succ_cons, List.drop_zero, true_and]
    rw [Nat.min_eq_left hnr]
    cases n with
    | zero => simp
    | succ m =>
      have hlast : (123 :: r.take (m + 1)).getLast? = r[m]? := by
        rw [List.getLast?_eq_getElem?]
        simp only [List.length_cons, List.length_take]
        rw [Nat.min_eq_left hnr, show m + 1 + 1 - 1 = m + 1 by omega, List.getElem?_cons_succ, List.getElem?_take, if_pos (by omega)]
      rw [hlast, show m + 1 + 1 - 2 = m by omega, List.take_take, Nat.min_eq_left (by omega)]
      constructor
      · rintro ⟨_, h2, h3⟩
        have h4 := (all_iff (by omega)).1 h3
        have h5 : whileN letter r = m := by
          by_cases e : m < whileN letter r
          · obtain ⟨c, hc, hp⟩ := whileN_get e
            rw [h2] at hc; cases hc
            rw [letter_not 125 (by decide)] at hp; cases hp
          · omega
        exact ⟨by omega, by rw [h5]; exact h2⟩
      · rintro ⟨h1, h2⟩
        obtain rfl : whileN letter r = m := by omega
        exact ⟨by omega, h2, (all_iff (by omega)).2 (Nat.le_refl _)⟩
  have hbr : brace (123 :: r) = if r[whileN letter r]? = some 125 then whileN letter r + 2 else 0 := by simp [brace]
  by_cases h : r[whileN letter r]? = some 125
  · right
    have hl : whileN letter r < r.length := (List.getElem?_eq_some_iff.1 h).1
    rw [hbr, if_pos h]
    have h7 : kind ((123 :: r).take (whileN letter r + 2)) = 7 := by rw [hk (whileN letter r + 1), if_pos ((hb _ (by simp; omega)).2 ⟨rfl, h⟩)]
    rw [first_max (m := whileN letter r + 2) (K := 7) (by simp) (by simp) (by simp; omega) ?_ (fun _ => ⟨noskip_of (by rw [h7]; decide) (by rw [h7]; decide), h7⟩), if_neg (by omega)]
    intro n h1 h2
    obtain ⟨m, rfl⟩ : ∃ m, n = m + 1 := ⟨n - 1, by omega⟩
    refine skip_of ?_
    rw [hk, if_neg]
    intro e
    have := ((hb m h2).1 e).1
    omega
  · left
    rw [hbr, if_neg h]
    refine ⟨rfl, ?_⟩
    rw [first_max (m := 0) (K := 0) (by simp) (by simp) (by omega) ?_ (fun h => absurd rfl h), if_pos rfl]
    intro n h1 h2
    obtain ⟨m, rfl⟩ : ∃ m, n = m + 1 := ⟨n - 1, by omega⟩
    refine skip_of ?_
    rw [hk, if_neg]
    intro e
    exact h ((hb m h2).1 e).2

/-! ### words -/
theorem wordG_ok : ∀ (l : List UInt8) (n : Nat), 1 ≤ n → n ≤ l.length → ((rwG (l.take n) = true ∧ ¬ (l[n - 1]? = some 46 ∧ l[n]? = some 46)) ↔ n ≤ wordG l) := by
  intro l
  induction l with
  | nil => intro n h1 h2; simp at h2; omega
  | cons c l ih =>
    intro n h1 h2
    obtain ⟨m, rfl⟩ : ∃ m, n = m + 1 := ⟨n - 1, by omega⟩
    have hm : m ≤ l.length := by simpa using h2
    rw [take_cons, rwG, wordG]
    -- the byte behind
    cases m with
    | zero =>
      simp only [List.take_zero, rwG, nextDot, Nat.zero_add, Nat.sub_self, List.getElem?_cons_zero, Option.some.injEq, List.getElem?_cons_succ, Bool.and_true, Bool.and_false, Bool.not_false]
      have hh : l.head? = l[0]? := by cases l <;> rfl
      by_cases hi : inW c = true
      · rw [if_pos (.inr hi)]
        refine ⟨fun _ => by omega, fun _ => ⟨by simp [hi], fun h => ?_⟩⟩
        rw [b46] at h
        rw [inW_not c (by omega)] at hi; cases hi
      · by_cases hd : isDot c = true
        · by_cases hn : l[0]? = some 46
          · rw [if_neg]
            · refine ⟨fun h => absurd ⟨b46.2 ((isDot_iff c).1 hd), hn⟩ h.2, fun h => by omega⟩
            · rintro (⟨_, h⟩ | h)
              · have := h 46 (by rw [hh]; exact hn); simp [isDot] at this
              · exact hi h
          · rw [if_pos (.inl ⟨hd, fun d h => by
              cases hdd : isDot d
              · rfl
              · exact absurd (by rw [← hh, h, b46.2 ((isDot_iff d).1 hdd)]) hn⟩)]
            exact ⟨fun _ => by omega, fun _ => ⟨by simp [hd], fun h => hn h.2⟩⟩
        · rw [if_neg (by rintro (⟨h, _⟩ | h); exact hd h; exact hi h)]
          exact ⟨fun h => by simp [hi, hd] at h, fun h => by omega⟩
    | succ k =>
      obtain ⟨d, r, rfl⟩ : ∃ d r, l = d :: r := by cases l with
        | nil => simp at hm
        | cons d r => exact ⟨d, r, rfl⟩
      have hih := ih (k + 1) (by omega) hm
      simp only [Nat.add_sub_cancel, List.getElem?_cons_succ] at hih ⊢
      rw [take_cons] at hih ⊢
      rw [show nextDot (d :: r.take k) = isDot d from rfl]
      have key : ((inW c || isDot c) && !(isDot c && isDot d)) = true ↔ ((isDot c = true ∧ ∀ e, (d :: r).head? = some e → isDot e = false) ∨ inW c = true) := by
        have hx : inW c = true → isDot c = false := fun h => by
          cases hd : isDot c
          · rfl
          · rw [inW_not c (by have := (isDot_iff c).1 hd; omega)] at h; cases h
        cases hi : inW c <;> cases hd : isDot c <;> cases he : isDot d <;> simp_all
      by_cases hq : (isDot c = true ∧ ∀ e, (d :: r).head? = some e → isDot e = false) ∨ inW c = true
      · rw [if_pos hq]
        have hq2 := key.2 hq
        rw [show (((inW c || isDot c) && !(isDot c && isDot d)) && rwG (d :: r.take k)) = rwG (d :: r.take k) by rw [hq2]; rfl]
        rw [show (d :: r)[k]? = (d :: r)[k]? from rfl] at hih
        constructor
        · intro h; have := hih.1 h; omega
        · intro h; exact hih.2 (by omega)
      · rw [if_neg hq]
        have hq2 : ((inW c || isDot c) && !(isDot c && isDot d)) = false := by
          cases h : ((inW c || isDot c) && !(isDot c && isDot d))
          · rfl
          · exact absurd (key.1 h) hq
        rw [hq2]
        exact ⟨fun h => by simp at h, fun h => by omega⟩
end Go.Lex
