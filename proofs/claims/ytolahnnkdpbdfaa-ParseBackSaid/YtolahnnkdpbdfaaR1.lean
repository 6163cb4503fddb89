/-
  Words of a question, as the document defines them; and that both tell the same. Plain: no program in sight.
-/
import Derived.Test.YtolahnnkdpbdfaaL7
namespace Go.Lex
/-- does a text begin with a dot? -/
def nextDot : List UInt8 → Bool
  | [] => false
  | d :: _ => isDot d
/-- is a text a word, but for its first byte? -/
def rwG : List UInt8 → Bool
  | [] => true
  | c :: r => (inW c || isDot c) && !(isDot c && nextDot r) && rwG r
def rword (l : List UInt8) : Bool := match l with
  | [] => false
  | c :: _ => !decide (c.toNat = 45) && rwG l
/-- a flag behind its strokes: a: what was looked at, b: what is left -/
def rfS (a : List UInt8) : List UInt8 → Bool
  | [] => a.all letter
  | c :: r => if c.toNat = 61 then a.all letter && (decide (r ≠ []) && r.all digit) else rfS (a ++ [c]) r
def rflag (l : List UInt8) : Bool := match l with
  | x :: y :: z :: r => decide (x.toNat = 45) && decide (y.toNat = 45) && rfS [z] r
  | _ => false
def rbrace (l : List UInt8) : Bool := decide (2 ≤ l.length ∧ l.head? = some 123 ∧ l.getLast? = some 125 ∧ ((l.drop 1).take (l.length - 2)).all letter = true)
def kind (l : List UInt8) : Nat :=
  if l = [] then 9 else if l = [94] then 3 else if l = [126] then 4 else if l = [46, 46] then 5 else if l = [46, 46, 46] then 6 else
  if l.all isGap then 8 else if rflag l then 2 else if rbrace l then 7 else if rword l then 1 else 0
/-- may a prefix not be taken? -/
def skip (l : List UInt8) (n : Nat) : Bool := decide (kind (l.take n) = 0 ∨ (kind (l.take n) = 1 ∧ l[n - 1]? = some 46 ∧ l[n]? = some 46))
def down (l : List UInt8) : Nat → Nat × Nat
  | 0 => (0, 0)
  | n + 1 => if skip l (n + 1) then down l n else (kind (l.take (n + 1)), n + 1)
def first (l : List UInt8) : Nat × Nat :=
  if l.take 3 = [46, 46, 46] then (6, 3) else if l.take 2 = [46, 46] then (5, 2) else down l l.length

theorem down_to {l : List UInt8} {m : Nat} : ∀ {N : Nat}, m ≤ N → (∀ n, m < n → n ≤ N → skip l n = true) → down l N = down l m := by
  intro N
  induction N with
  | zero => intro h _; rw [Nat.le_zero.1 h]
  | succ N ih =>
    intro h hs
    by_cases e : m = N + 1
    · rw [e]
    · rw [down, if_pos (hs (N + 1) (by omega) (Nat.le_refl _))]
      exact ih (by omega) fun n h1 h2 => hs n h1 (by omega)
theorem down_at {l : List UInt8} {m : Nat} (h : skip l (m + 1) = false) : down l (m + 1) = (kind (l.take (m + 1)), m + 1) := by
  rw [down, if_neg (by rw [h]; simp)]
theorem skip_of {l : List UInt8} {n : Nat} (h : kind (l.take n) = 0) : skip l n = true := by unfold skip; simp [h]
theorem noskip_of {l : List UInt8} {n : Nat} (h : kind (l.take n) ≠ 0) (h1 : kind (l.take n) ≠ 1) : skip l n = false := by unfold skip; simp [h, h1]

/-! ### bytes -/
theorem letter_not (c : UInt8) (h : c.toNat = 61 ∨ c.toNat = 125 ∨ c.toNat = 46) : letter c = false := by unfold letter; simp; omega
theorem digit_not (c : UInt8) (h : c.toNat = 61) : digit c = false := by unfold digit; simp; omega
theorem inW_not (c : UInt8) (h : c.toNat = 32 ∨ c.toNat = 94 ∨ c.toNat = 126 ∨ c.toNat = 123 ∨ c.toNat = 46) : inW c = false := by
  unfold inW letter digit; simp; omega
theorem isDot_iff (c : UInt8) : isDot c = true ↔ c.toNat = 46 := by unfold isDot; simp
theorem b46 {c : UInt8} : c = 46 ↔ c.toNat = 46 := ⟨fun h => by subst h; rfl, fun h => UInt8.toNat_inj.1 h⟩

/-- how the kind is found, where the first byte is none of a mark -/
theorem kind_cons (c : UInt8) (r : List UInt8) (h1 : c :: r ≠ [94]) (h2 : c :: r ≠ [126]) (h3 : c :: r ≠ [46, 46]) (h4 : c :: r ≠ [46, 46, 46]) :
    kind (c :: r) = if (c :: r).all isGap then 8 else if rflag (c :: r) then 2 else if rbrace (c :: r) then 7 else if rword (c :: r) then 1 else 0 := by
  unfold kind
  rw [if_neg (by simp), if_neg h1, if_neg h2, if_neg h3, if_neg h4]
theorem gap_no {c : UInt8} {r : List UInt8} (h : c.toNat ≠ 32) : (c :: r).all isGap = false := by
  have : isGap c = false := by unfold isGap; simpa using h
  rw [List.all_cons, this]; rfl
theorem flag_no {c : UInt8} {r : List UInt8} (h : c.toNat ≠ 45) : rflag (c :: r) = false := by
  match r with
  | [] => rfl
  | [_] => rfl
  | _ :: _ :: _ => simp [rflag, h]
theorem brace_no {c : UInt8} {r : List UInt8} (h : c.toNat ≠ 123) : rbrace (c :: r) = false := by
  unfold rbrace
  refine decide_eq_false ?_
  rintro ⟨_, h1, _⟩
  simp only [List.head?_cons, Option.some.injEq] at h1
  subst h1; exact h rfl
theorem word_no {c : UInt8} {r : List UInt8} (h : c.toNat = 32 ∨ c.toNat = 94 ∨ c.toNat = 126 ∨ c.toNat = 123) : rword (c :: r) = false := by
  have h1 := inW_not c (by omega)
  have h2 : isDot c = false := by unfold isDot; simp; omega
  simp [rword, rwG, h1, h2]
theorem word_no45 {c : UInt8} {r : List UInt8} (h : c.toNat = 45) : rword (c :: r) = false := by simp [rword, h]

theorem take_cons (c : UInt8) (r : List UInt8) (n : Nat) : (c :: r).take (n + 1) = c :: r.take n := rfl

/-! ### one byte -/
theorem first_94 (r : List UInt8) : first (94 :: r) = (3, 1) := by
  unfold first
  rw [if_neg (by simp), if_neg (by simp), down_to (m := 1) (by simp)]
  · rw [down_at (m := 0) (noskip_of (by rw [take_cons, List.take_zero]; decide) (by rw [take_cons, List.take_zero]; decide)), take_cons, List.take_zero]; rfl
  · intro n h1 h2
    obtain ⟨m, rfl⟩ : ∃ m, n = m + 2 := ⟨n - 2, by omega⟩
    refine skip_of ?_
    have hl : m + 1 ≤ r.length := by simpa using h2
    rw [take_cons, kind_cons _ _ (by intro h; have := congrArg List.length h; simp only [List.length_cons, List.length_take, List.length_nil] at this; omega) (by simp) (by simp) (by simp),
      gap_no (by decide), flag_no (by decide), brace_no (by decide), word_no (by decide)]
    rfl
theorem first_126 (r : List UInt8) : first (126 :: r) = (4, 1) := by
  unfold first
  rw [if_neg (by simp), if_neg (by simp), down_to (m := 1) (by simp)]
  · rw [down_at (m := 0) (noskip_of (by rw [take_cons, List.take_zero]; decide) (by rw [take_cons, List.take_zero]; decide)), take_cons, List.take_zero]; rfl
  · intro n h1 h2
    obtain ⟨m, rfl⟩ : ∃ m, n = m + 2 := ⟨n - 2, by omega⟩
    refine skip_of ?_
    have hl : m + 1 ≤ r.length := by simpa using h2
    rw [take_cons, kind_cons _ _ (by simp) (by intro h; have := congrArg List.length h; simp only [List.length_cons, List.length_take, List.length_nil] at this; omega) (by simp) (by simp),
      gap_no (by decide), flag_no (by decide), brace_no (by decide), word_no (by decide)]
    rfl

/-! ### blanks -/
theorem all_take_while (p : UInt8 → Bool) : ∀ (l : List UInt8) (n : Nat), n ≤ l.length → ((l.take n).all p = true ↔ n ≤ whileN p l) := by
  intro l
  induction l with
  | nil => intro n h; simp at h; simp [h]
  | cons c l ih =>
    intro n h
    cases n with
    | zero => simp
    | succ n =>
      rw [List.take_succ_cons, List.all_cons, whileN]
      cases hp : p c
      · simp
      · simp only [Bool.true_and, if_true]
        rw [ih n (by simpa using h)]; omega
theorem first_32 (r : List UInt8) : first (32 :: r) = (8, whileN isGap (32 :: r)) := by
  have hg : 1 ≤ whileN isGap (32 :: r) := by rw [whileN, if_pos (by decide)]; omega
  have hle := whileN_le isGap (32 :: r)
  have hk : ∀ n, kind ((32 :: r).take (n + 1)) = if ((32 :: r).take (n + 1)).all isGap then 8 else 0 := by
    intro n
    rw [take_cons, kind_cons _ _ (by simp) (by simp) (by simp) (by simp), flag_no (by decide), brace_no (by decide), word_no (by decide)]
    rfl
  unfold first
  rw [if_neg (by simp), if_neg (by simp), down_to (m := whileN isGap (32 :: r)) hle]
  · obtain ⟨m, hm⟩ : ∃ m, whileN isGap (32 :: r) = m + 1 := ⟨whileN isGap (32 :: r) - 1, by omega⟩
    have h8 : kind ((32 :: r).take (m + 1)) = 8 := by rw [hk, if_pos ((all_take_while isGap (32 :: r) (m + 1) (by rw [← hm]; exact hle)).2 (by rw [hm]; exact Nat.le_refl _))]
    rw [hm, down_at (noskip_of (by rw [h8]; decide) (by rw [h8]; decide)), h8]
  · intro n h1 h2
    obtain ⟨m, rfl⟩ : ∃ m, n = m + 1 := ⟨n - 1, by omega⟩
    refine skip_of ?_
    rw [hk, if_neg]
    intro h
    have := (all_take_while _ _ _ h2).1 h
    omega
end Go.Lex
