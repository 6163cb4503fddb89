/-
  How much two lists have in common, in order: by prefixes, by suffixes, and as the longest common sublist. Plain: no program in sight.
-/
namespace Go.Scr

/-- by suffixes -/
def lcs : List Int → List Int → Nat
  | [], _ => 0
  | x :: a, b => go x a b
where
  go (x : Int) (a : List Int) : List Int → Nat
  | [] => 0
  | y :: b => if x = y then lcs a b + 1 else max (lcs a (y :: b)) (go x a b)

theorem lcs_nil (b : List Int) : lcs [] b = 0 := by unfold lcs; rfl
theorem lcs_nil' (a : List Int) : lcs a [] = 0 := by cases a <;> simp [lcs, lcs.go]
theorem lcs_cons (x y : Int) (a b : List Int) : lcs (x :: a) (y :: b) = if x = y then lcs a b + 1 else max (lcs a (y :: b)) (lcs (x :: a) b) := by
  conv => lhs; unfold lcs lcs.go
  conv => rhs; rw [show lcs (x :: a) b = lcs.go x a b by unfold lcs; rfl]

theorem lcs_has (a b : List Int) : ∃ c : List Int, c.Sublist a ∧ c.Sublist b ∧ c.length = lcs a b := by
  induction a generalizing b with
  | nil => exact ⟨[], by simp, by simp, by simp [lcs_nil]⟩
  | cons x a ih =>
    induction b with
    | nil => exact ⟨[], by simp, by simp, by simp [lcs_nil']⟩
    | cons y b ihb =>
      rw [lcs_cons]
      split
      · rename_i h
        obtain ⟨c, h1, h2, h3⟩ := ih b
        exact ⟨x :: c, h1.cons_cons x, by rw [h]; exact h2.cons_cons y, by simp [h3]⟩
      · obtain ⟨c, h1, h2, h3⟩ := ih (y :: b)
        obtain ⟨d, g1, g2, g3⟩ := ihb
        by_cases hm : lcs (x :: a) b ≤ lcs a (y :: b)
        · exact ⟨c, h1.cons x, h2, by omega⟩
        · exact ⟨d, g1, g2.cons y, by omega⟩

theorem lcs_most (a : List Int) : ∀ b c : List Int, c.Sublist a → c.Sublist b → c.length ≤ lcs a b := by
  induction a with
  | nil => intro b c h _; simp at h; simp [h]
  | cons x a ih =>
    intro b
    induction b with
    | nil => intro c _ h; simp at h; simp [h]
    | cons y b ihb =>
      intro c h1 h2
      rw [lcs_cons]
      by_cases hxy : x = y
      · subst hxy
        rw [if_pos rfl]
        cases c with
        | nil => simp
        | cons z c =>
          have e1 : c.Sublist a := by
            cases h1 with
            | cons _ h => exact (List.sublist_cons_self z c).trans h
            | cons_cons _ h => exact h
          have e2 : c.Sublist b := by
            cases h2 with
            | cons _ h => exact (List.sublist_cons_self z c).trans h
            | cons_cons _ h => exact h
          have := ih b c e1 e2
          simp; omega
      · rw [if_neg hxy]
        cases h1 with
        | cons _ h => have := ih (y :: b) c h h2; omega
        | cons_cons _ h =>
          rename_i c
          cases h2 with
          | cons _ h' => have := ihb (x :: c) (h.cons_cons x) h'; omega
          | cons_cons _ h' => exact absurd rfl hxy

theorem lcs_le_of {a b a' b' : List Int} (h : ∀ c : List Int, c.Sublist a → c.Sublist b → ∃ d : List Int, d.Sublist a' ∧ d.Sublist b' ∧ d.length = c.length) : lcs a b ≤ lcs a' b' := by
  obtain ⟨c, h1, h2, h3⟩ := lcs_has a b
  obtain ⟨d, g1, g2, g3⟩ := h c h1 h2
  have := lcs_most a' b' d g1 g2
  omega

theorem lcs_comm (a b : List Int) : lcs a b = lcs b a :=
  Nat.le_antisymm (lcs_le_of fun c h1 h2 => ⟨c, h2, h1, rfl⟩) (lcs_le_of fun c h1 h2 => ⟨c, h2, h1, rfl⟩)
theorem lcs_reverse (a b : List Int) : lcs a.reverse b.reverse = lcs a b := by
  refine Nat.le_antisymm (lcs_le_of fun c h1 h2 => ⟨c.reverse, ?_, ?_, by simp⟩) (lcs_le_of fun c h1 h2 => ⟨c.reverse, ?_, ?_, by simp⟩)
  · have := List.reverse_sublist.2 h1; simpa using this
  · have := List.reverse_sublist.2 h2; simpa using this
  · exact List.reverse_sublist.2 h1
  · exact List.reverse_sublist.2 h2
theorem lcs_len (a b : List Int) : lcs a b ≤ b.length := by
  obtain ⟨c, _, h2, h3⟩ := lcs_has a b
  have := h2.length_le; omega
theorem lcs_len' (a b : List Int) : lcs a b ≤ a.length := by
  obtain ⟨c, h2, _, h3⟩ := lcs_has a b
  have := h2.length_le; omega
theorem lcs_mono_r (a b : List Int) (y : Int) : lcs a b ≤ lcs a (y :: b) := lcs_le_of fun c h1 h2 => ⟨c, h1, h2.cons y, rfl⟩
theorem lcs_mono_l (a b : List Int) (x : Int) : lcs a b ≤ lcs (x :: a) b := lcs_le_of fun c h1 h2 => ⟨c, h1.cons x, h2, rfl⟩
theorem lcs_cons_r (a b : List Int) (y : Int) : lcs a (y :: b) ≤ lcs a b + 1 := by
  obtain ⟨c, h1, h2, h3⟩ := lcs_has a (y :: b)
  cases h2 with
  | cons _ h => have := lcs_most a b c h1 h; omega
  | cons_cons _ h => rename_i c; have := lcs_most a b c ((List.sublist_cons_self _ _).trans h1) h; simp at h3; omega
theorem lcs_cons_l (a b : List Int) (x : Int) : lcs (x :: a) b ≤ lcs a b + 1 := by
  rw [lcs_comm (x :: a), lcs_comm a]; exact lcs_cons_r b a x

/-- the reference's row -/
theorem lcs_ref (x y : Int) (a b : List Int) : lcs (x :: a) (y :: b) = max (max (lcs a (y :: b)) (lcs (x :: a) b)) (if x = y then lcs a b + 1 else 0) := by
  rw [lcs_cons]
  have h1 := lcs_cons_r a b y
  have h2 := lcs_cons_l a b x
  split <;> omega

/-- by prefixes: the program's row -/
def lcp (a b : List Int) : Nat := lcs a.reverse b.reverse
theorem lcp_eq (a b : List Int) : lcp a b = lcs a b := lcs_reverse a b
theorem lcp_snoc (a b : List Int) (x y : Int) : lcp (a ++ [x]) (b ++ [y]) = if x = y then lcp a b + 1 else max (lcp a (b ++ [y])) (lcp (a ++ [x]) b) := by
  unfold lcp
  simp only [List.reverse_append, List.reverse_cons, List.reverse_nil, List.nil_append, List.singleton_append]
  rw [lcs_cons]
theorem lcp_nil (b : List Int) : lcp [] b = 0 := by simp [lcp, lcs_nil]
theorem lcp_nil' (a : List Int) : lcp a [] = 0 := by simp [lcp, lcs_nil']

end Go.Scr
