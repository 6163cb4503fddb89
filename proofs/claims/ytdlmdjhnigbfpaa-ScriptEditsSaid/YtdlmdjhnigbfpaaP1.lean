/-
  Plain mathematics of pairs and hunks: which pairs are right. No program is named.
-/
namespace Go.Scr

/-- may two lists be as long? -/
def sz (n m : Int) : Bool := decide (0 ≤ n ∧ n ≤ 800 ∧ 0 ≤ m ∧ m ≤ 800)
/-- do pairs ascend behind a pair, and lie within? -/
def okF (n m : Int) : Int → Int → List (Int × Int) → Bool
  | _, _, [] => true
  | a, b, p :: l => if p.1 ≤ a ∨ p.2 ≤ b ∨ n ≤ p.1 ∨ m ≤ p.2 then false else okF n m p.1 p.2 l
/-- the error's number -/
def chk (n m : Int) (l : List (Int × Int)) : Int := if sz n m then (if okF n m (-1) (-1) l then 0 else 12) else 12
end Go.Scr
namespace Go.Scr
/-- the hunks ahead of pairs, from a place on -/
def hk : Int → Int → List (Int × Int) → List (Int × Int × Int × Int)
  | _, _, [] => []
  | a, b, p :: l => (if a < p.1 ∨ b < p.2 then [(a, p.1 - a, b, p.2 - b)] else []) ++ hk (p.1 + 1) (p.2 + 1) l
/-- the hunks between pairs -/
def hunks (n m : Int) (l : List (Int × Int)) : List (Int × Int × Int × Int) := hk 0 0 (l ++ [(n, m)])
/-- what right pairs lie within -/
theorem okF_bound {n m : Int} : ∀ {l : List (Int × Int)} {a b : Int}, okF n m a b l = true → ∀ p ∈ l, a < p.1 ∧ b < p.2 ∧ p.1 < n ∧ p.2 < m := by
  intro l
  induction l with
  | nil => intro a b _ p hp; cases hp
  | cons x l ih =>
    intro a b h p hp
    unfold okF at h
    split at h
    · cases h
    · rename_i hx
      cases hp with
      | head => omega
      | tail _ hp =>
        have := ih h p hp
        omega
end Go.Scr
namespace Go.Scr
theorem okF_len {n m : Int} : ∀ {l : List (Int × Int)} {a b : Int}, a < n → okF n m a b l = true → (l.length : Int) ≤ n - a - 1 := by
  intro l
  induction l with
  | nil => intro a b h _; simp; omega
  | cons x l ih =>
    intro a b h0 h
    unfold okF at h
    split at h
    · cases h
    · rename_i hx
      have := ih (by omega) h
      simp only [List.length_cons]
      omega
theorem chk_zero {n m : Int} {l : List (Int × Int)} (h : chk n m l = 0) : sz n m = true ∧ okF n m (-1) (-1) l = true := by
  unfold chk at h
  cases h1 : sz n m <;> cases h2 : okF n m (-1) (-1) l <;> simp_all
theorem chk_cases (n m : Int) (l : List (Int × Int)) : chk n m l = 0 ∨ chk n m l = 12 := by
  unfold chk
  cases sz n m <;> cases okF n m (-1) (-1) l <;> simp
theorem sz_bound {n m : Int} (h : sz n m = true) : 0 ≤ n ∧ n ≤ 800 ∧ 0 ≤ m ∧ m ≤ 800 := by simpa [sz] using h
end Go.Scr
