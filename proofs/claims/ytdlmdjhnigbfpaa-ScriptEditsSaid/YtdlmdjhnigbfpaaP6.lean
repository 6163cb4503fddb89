/-
  Edits of a text: what they make of it. Plain: no program in sight.
-/
namespace Go.Scr
variable {α : Type}

/-- an edit: a place, lines out, lines in -/
abbrev Ed (α : Type) := Int × List α × List α
/-- do edits stand behind a place, one behind the other? -/
def ordF : Int → List (Ed α) → Bool
  | _, [] => true
  | e, x :: l => if x.1 < e then false else ordF (x.1 + x.2.1.length) l
/-- may an edit not be done? -/
def unfit [DecidableEq α] (a : List α) (x : Ed α) : Bool := decide ((a.length : Int) < x.1 ∨ (a.length : Int) - x.1 < x.2.1.length ∨ (a.drop x.1.toNat).take x.2.1.length ≠ x.2.1)
/-- a text with edits done, from a place on -/
def doE [DecidableEq α] (a : List α) : Nat → List α → List (Ed α) → Option (List α)
  | p, out, [] => some (out ++ a.drop p)
  | p, out, x :: l => if unfit a x then none else doE a (x.1.toNat + x.2.1.length) (out ++ (a.drop p).take (x.1.toNat - p) ++ x.2.2) l
/-- the text, or the error's number -/
def applyF [DecidableEq α] (a : List α) (l : List (Ed α)) : Except Int (List α) :=
  if ordF 0 l then (match doE a 0 [] l with | some r => .ok r | none => .error 2) else .error 18
def insum (l : List (Ed α)) : Nat := (l.map fun x => x.2.2.length).sum
theorem insum_take (l : List (Ed α)) (k : Nat) : insum (l.take k) ≤ insum l := by
  unfold insum
  conv => rhs; rw [← List.take_append_drop k l]
  rw [List.map_append, List.sum_append]; omega
theorem insum_snoc (l : List (Ed α)) (k : Nat) (h : k < l.length) : insum (l.take (k + 1)) = insum (l.take k) + l[k].2.2.length := by
  unfold insum
  rw [List.take_succ_eq_append_getElem h, List.map_append, List.sum_append]; simp
/-- the place behind the first k edits -/
def endF : Int → List (Ed α) → Int
  | e, [] => e
  | _, x :: l => endF (x.1 + x.2.1.length) l
theorem ordF_append (e : Int) (l m : List (Ed α)) : ordF e (l ++ m) = (ordF e l && ordF (endF e l) m) := by
  induction l generalizing e with
  | nil => simp [ordF, endF]
  | cons x l ih =>
    simp only [List.cons_append, ordF, endF, ih]
    split <;> simp
theorem endF_snoc (e : Int) (l : List (Ed α)) (x : Ed α) : endF e (l ++ [x]) = x.1 + x.2.1.length := by
  induction l generalizing e with
  | nil => rfl
  | cons y l ih => simp only [List.cons_append, endF, ih]
theorem ordF_snoc (e : Int) (l : List (Ed α)) (k : Nat) (h : k < l.length) : ordF e (l.take (k + 1)) = (ordF e (l.take k) && !decide (l[k].1 < endF e (l.take k))) := by
  rw [List.take_succ_eq_append_getElem h, ordF_append]
  congr 1
  simp only [ordF]
  by_cases h1 : l[k].1 < endF e (List.take k l) <;> simp [h1]
theorem ordF_bad (e : Int) (l : List (Ed α)) (k : Nat) (h : k < l.length) (h1 : l[k].1 < endF e (l.take k)) : ordF e l = false := by
  have h2 := ordF_snoc e l k h
  rw [show decide (l[k].1 < endF e (l.take k)) = true by simpa using h1] at h2
  have h3 := ordF_append e (l.take (k + 1)) (l.drop (k + 1))
  rw [List.take_append_drop, h2] at h3
  rw [h3]; simp
theorem endF_le (e : Int) (l : List (Ed α)) (he : 0 ≤ e) (h : ordF e l = true) : e ≤ endF e l := by
  induction l generalizing e with
  | nil => exact Int.le_refl _
  | cons x l ih =>
    simp only [ordF] at h
    split at h
    · cases h
    · have := ih (x.1 + x.2.1.length) (by omega) h
      simp only [endF]; omega
theorem ord_at {l : List (Ed α)} {k p : Nat} (h : ordF 0 (l.take k) = true) (hp : p < k) (hk : p < l.length) : 0 ≤ l[p].1 := by
  have h1 : ordF 0 ((l.take k).take (p + 1)) = true := by
    have := ordF_append 0 ((l.take k).take (p + 1)) ((l.take k).drop (p + 1))
    rw [List.take_append_drop, h] at this
    revert this; cases ordF 0 ((l.take k).take (p + 1)) <;> simp
  rw [List.take_take, Nat.min_eq_left (by omega), ordF_snoc 0 l p hk] at h1
  have h2 := endF_le 0 (l.take p) (Int.le_refl _) (by revert h1; cases ordF 0 (l.take p) <;> simp)
  have h3 : ¬ l[p].1 < endF 0 (l.take p) := by
    intro hh
    rw [show decide (l[p].1 < endF 0 (List.take p l)) = true by simpa using hh] at h1
    simp at h1
  omega
end Go.Scr
