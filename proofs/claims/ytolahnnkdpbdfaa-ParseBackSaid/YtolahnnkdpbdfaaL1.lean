/-
  Words of a question, as the program finds them. Plain: no program in sight.
-/
namespace Go.Lex
def letter (c : UInt8) : Bool := decide ((97 ≤ c.toNat ∧ c.toNat ≤ 122) ∨ (65 ≤ c.toNat ∧ c.toNat ≤ 90))
def digit (c : UInt8) : Bool := decide (48 ≤ c.toNat ∧ c.toNat ≤ 57)
def inW (c : UInt8) : Bool := decide (letter c = true ∨ digit c = true ∨ c.toNat = 47 ∨ c.toNat = 95 ∨ c.toNat = 45 ∨ c.toNat = 64)
def isDot (c : UInt8) : Bool := decide (c.toNat = 46)
def isGap (c : UInt8) : Bool := decide (c.toNat = 32)
/-- how many bytes a text begins with for which something holds -/
def whileN (p : UInt8 → Bool) : List UInt8 → Nat
  | [] => 0
  | c :: l => if p c then whileN p l + 1 else 0
theorem whileN_le (p : UInt8 → Bool) (l : List UInt8) : whileN p l ≤ l.length := by
  induction l with
  | nil => simp [whileN]
  | cons c l ih => simp only [whileN, List.length_cons]; split <;> omega
theorem whileN_step {p : UInt8 → Bool} {l : List UInt8} {k : Nat} (hk : k < l.length) (hp : p l[k] = true) : whileN p (l.drop k) = whileN p (l.drop (k + 1)) + 1 := by
  rw [List.drop_eq_getElem_cons hk, whileN, if_pos hp]
theorem whileN_stop {p : UInt8 → Bool} {l : List UInt8} {k : Nat} (hk : k < l.length) (hp : p l[k] = false) : whileN p (l.drop k) = 0 := by
  rw [List.drop_eq_getElem_cons hk, whileN, if_neg (by rw [hp]; simp)]
/-- the bytes of a word -/
def wordG : List UInt8 → Nat
  | [] => 0
  | c :: l => if (isDot c = true ∧ ∀ d, l.head? = some d → isDot d = false) ∨ inW c = true then wordG l + 1 else 0
def word (l : List UInt8) : Nat := if l = [] ∨ ∃ c, l.head? = some c ∧ c.toNat = 45 then 0 else wordG l
def flag (l : List UInt8) : Nat :=
  if l.take 2 = [45, 45] then
    (let r := l.drop 2
     let n := whileN letter r
     if n = 0 then 0 else
     if r[n]? = some 61 ∧ 0 < whileN digit (r.drop (n + 1)) then 2 + (n + (1 + whileN digit (r.drop (n + 1)))) else 2 + n)
  else 0
def brace (l : List UInt8) : Nat :=
  let n := whileN letter (l.drop 1)
  if l[n + 1]? = some 125 then n + 2 else 0
/-- the kind of the token with which a text begins, and how many bytes it has; 0: none begins -/
def one (l : List UInt8) : Nat × Nat :=
  match l with
  | [] => (1, 0)
  | c :: _ =>
    if c.toNat = 32 then (8, whileN isGap l) else
    if c.toNat = 94 then (3, 1) else
    if c.toNat = 126 then (4, 1) else
    if c.toNat = 123 then (7, brace l) else
    if c.toNat = 45 then (2, flag l) else
    if 3 ≤ whileN isDot l then (6, 3) else
    if whileN isDot l = 2 then (5, 2) else (1, word l)
end Go.Lex
