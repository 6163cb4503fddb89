/-
  A text's tokens, by whatever tells the first one. Plain: no program in sight.
-/
import Derived.Test.YtolahnnkdpbdfaaL1
namespace Go.Lex
abbrev Tok := Nat × List UInt8 × Nat
/-- the tokens of what is left, from a place on, c of them known; or the place and the error -/
def tkG (o : List UInt8 → Nat × Nat) : Nat → List UInt8 → Nat → Nat → Except (Nat × Nat) (List Tok)
  | 0, _, p, _ => .error (p, 0)
  | f + 1, r, p, c =>
    if r = [] then (if c = 60 then .error (p, 5) else .ok [(9, [], p)]) else
    if (o r).2 = 0 then .error (p, 40) else
    if c = 60 then .error (p, 5) else
    match tkG o f (r.drop (o r).2) (p + (o r).2) (c + 1) with
    | .ok l => .ok (((o r).1, r.take (o r).2, p) :: l)
    | .error e => .error e
def tokens (o : List UInt8 → Nat × Nat) (l : List UInt8) : Except (Nat × Nat) (List Tok) := if 200 < l.length then .error (0, 3) else tkG o (l.length + 1) l 0 0
def pre (out : List Tok) : Except (Nat × Nat) (List Tok) → Except (Nat × Nat) (List Tok)
  | .ok l => .ok (out ++ l)
  | .error e => .error e
theorem pre_nil (x : Except (Nat × Nat) (List Tok)) : pre [] x = x := by cases x <;> rfl
theorem tkG_end (o : List UInt8 → Nat × Nat) (f p c : Nat) : tkG o (f + 1) [] p c = if c = 60 then .error (p, 5) else .ok [(9, [], p)] := by
  rw [tkG, if_pos rfl]
theorem tkG_bad {o : List UInt8 → Nat × Nat} {f p c : Nat} {r : List UInt8} (hr : r ≠ []) {kd : Nat} (h : o r = (kd, 0)) : tkG o (f + 1) r p c = .error (p, 40) := by
  rw [tkG, if_neg hr, if_pos (by rw [h])]
theorem tkG_full {o : List UInt8 → Nat × Nat} {f p : Nat} {r : List UInt8} (hr : r ≠ []) {kd n : Nat} (h : o r = (kd, n)) (hn : n ≠ 0) : tkG o (f + 1) r p 60 = .error (p, 5) := by
  rw [tkG, if_neg hr, if_neg (by rw [h]; exact hn), if_pos rfl]
theorem tkG_go {o : List UInt8 → Nat × Nat} {f p c : Nat} {r : List UInt8} (hr : r ≠ []) {kd n : Nat} (h : o r = (kd, n)) (hn : n ≠ 0) (hc : c ≠ 60) (out : List Tok) :
    pre out (tkG o (f + 1) r p c) = pre (out ++ [(kd, r.take n, p)]) (tkG o f (r.drop n) (p + n) (c + 1)) := by
  rw [tkG, if_neg hr, if_neg (by rw [h]; exact hn), if_neg hc, h]
  simp only
  cases tkG o f (List.drop n r) (p + n) (c + 1) <;> simp [pre]
theorem tkG_fuel (o : List UInt8 → Nat × Nat) : ∀ f f' r p c, r.length < f → r.length < f' → tkG o f r p c = tkG o f' r p c := by
  intro f
  induction f with
  | zero => intro f' r p c h; omega
  | succ f ih =>
    intro f' r p c h h'
    obtain ⟨g, rfl⟩ : ∃ g, f' = g + 1 := ⟨f' - 1, by omega⟩
    rw [tkG, tkG]
    by_cases hr : r = []
    · rw [if_pos hr, if_pos hr]
    · rw [if_neg hr, if_neg hr]
      by_cases h0 : (o r).2 = 0
      · rw [if_pos h0, if_pos h0]
      · have hl : 0 < r.length := List.length_pos_iff.2 hr
        rw [if_neg h0, if_neg h0, ih g (r.drop (o r).2) _ _ (by simp; omega) (by simp; omega)]
/-- two that tell the same tokens -/
theorem tkG_same {o o' : List UInt8 → Nat × Nat} (h : ∀ r, r ≠ [] → ((o r).2 = 0 ∧ (o' r).2 = 0) ∨ o r = o' r) : ∀ f r p c, tkG o f r p c = tkG o' f r p c := by
  intro f
  induction f with
  | zero => intro r p c; rfl
  | succ f ih =>
    intro r p c
    rw [tkG, tkG]
    by_cases hr : r = []
    · rw [if_pos hr, if_pos hr]
    · rw [if_neg hr, if_neg hr]
      rcases h r hr with ⟨h1, h2⟩ | h1
      · rw [if_pos h1, if_pos h2]
      · rw [h1, ih]
theorem tokens_same {o o' : List UInt8 → Nat × Nat} (h : ∀ r, r ≠ [] → ((o r).2 = 0 ∧ (o' r).2 = 0) ∨ o r = o' r) (l : List UInt8) : tokens o l = tokens o' l := by
  unfold tokens; rw [tkG_same h]
/-! ### no token is longer than what is left -/
theorem wordG_le (l : List UInt8) : wordG l ≤ l.length := by
  induction l with
  | nil => simp [wordG]
  | cons c l ih => simp only [wordG, List.length_cons]; split <;> omega
theorem word_le (l : List UInt8) : word l ≤ l.length := by
  unfold word; split
  · omega
  · exact wordG_le l
theorem brace_le (l : List UInt8) : brace l ≤ l.length := by
  unfold brace
  simp only
  split
  · rename_i h
    have := (List.getElem?_eq_some_iff.1 h).1
    omega
  · omega
theorem flag_le (l : List UInt8) : flag l ≤ l.length := by
  unfold flag
  split
  · rename_i h
    have h2 : 2 ≤ l.length := by have := congrArg List.length h; simp at this; omega
    have h1 := whileN_le letter (l.drop 2)
    rw [List.length_drop] at h1
    simp only
    split
    · omega
    · split
      · rename_i h3
        have h4 := (List.getElem?_eq_some_iff.1 h3.1).1
        have h5 := whileN_le digit ((l.drop 2).drop (whileN letter (l.drop 2) + 1))
        simp only [List.length_drop] at h4 h5
        omega
      · omega
  · omega
theorem one_le (l : List UInt8) : (one l).2 ≤ l.length := by
  cases l with
  | nil => simp [one]
  | cons c r =>
    have h1 := whileN_le isGap (c :: r)
    have h2 := brace_le (c :: r)
    have h3 := flag_le (c :: r)
    have h4 := whileN_le isDot (c :: r)
    have h5 := word_le (c :: r)
    unfold one
    simp only
    repeat' split
    all_goals simp only [List.length_cons] at *
    all_goals omega
theorem one_kind (l : List UInt8) : 1 ≤ (one l).1 ∧ (one l).1 ≤ 8 := by
  cases l with
  | nil => simp [one]
  | cons c r =>
    unfold one
    simp only
    repeat' split
    all_goals simp only
    all_goals omega
end Go.Lex
