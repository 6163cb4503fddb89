/-
  Plain mathematics of pairs and hunks: hunks and pairs undo each other. No program is named.
-/
import Derived.Test.YtdlmdjhnigbfpaaP2
namespace Go.Scr
theorem run_succ' (a b : Int) (g : Nat) : run a b (g + 1) = (a, b) :: run (a + 1) (b + 1) g := by
  unfold run
  rw [List.range_succ_eq_map, List.map_cons, List.map_map]
  congr 1
  · simp
  · apply List.map_congr_left
    intro k _
    simp only [Function.comp_apply, Prod.mk.injEq]
    omega
theorem hk_run (g : Nat) : ∀ (a b : Int) (r : List (Int × Int)), hk a b (run a b g ++ r) = hk (a + g) (b + g) r := by
  induction g with
  | zero => intro a b r; simp [run_zero]
  | succ g ih =>
    intro a b r
    rw [run_succ', List.cons_append, hk, if_neg (by simp), List.nil_append, ih]
    congr 1 <;> omega
theorem okF_run {n m : Int} (g : Nat) : ∀ (a b : Int) (r : List (Int × Int)), a + g ≤ n → b + g ≤ m → okF n m (a - 1) (b - 1) (run a b g ++ r) = okF n m (a + g - 1) (b + g - 1) r := by
  induction g with
  | zero => intro a b r _ _; simp [run_zero]
  | succ g ih =>
    intro a b r h1 h2
    rw [run_succ', List.cons_append, okF, if_neg (by simp only; omega)]
    have := ih (a + 1) (b + 1) r (by omega) (by omega)
    rw [show (a + 1 - 1 : Int) = a by omega, show (b + 1 - 1 : Int) = b by omega] at this
    rw [this]
    congr 1 <;> omega
theorem okF_mono {n m : Int} {a b a' b' : Int} (h1 : a' ≤ a) (h2 : b' ≤ b) : ∀ {l : List (Int × Int)}, okF n m a b l = true → okF n m a' b' l = true := by
  intro l h
  cases l with
  | nil => rfl
  | cons p l =>
    unfold okF at h ⊢
    split at h
    · cases h
    · rename_i hp
      rw [if_neg (by omega)]; exact h

theorem prs_hk {n m : Int} : ∀ (l : List (Int × Int)) (first : Bool) (a b : Int) (j : Nat), 0 ≤ a → 0 ≤ b → a + j ≤ n → b + j ≤ m → (first = true ∨ 1 ≤ j) → okF n m (a + j - 1) (b + j - 1) l = true →
    prs n m first a b (hk (a + j) (b + j) (l ++ [(n, m)])) = some (run a b j ++ l) := by
  intro l
  induction l with
  | nil =>
    intro first a b j h1 h2 h3 h4 h5 _
    rw [List.nil_append, hk, hk, List.append_nil, List.append_nil]
    by_cases h : a + j < n ∨ b + j < m
    · rw [if_pos h, prs, if_neg, prs, if_neg (by simp only; omega)]
      · simp only [Option.map_some]
        rw [show (n - (a + ↑j + (n - (a + ↑j)))).toNat = 0 by omega, run_zero, List.append_nil, show (a + ↑j - a).toNat = j by omega]
      · simp only [bad]
        rcases h5 with rfl | h5
        · simp; omega
        · cases first <;> simp <;> omega
    · rw [if_neg h, prs, if_neg (by omega), show (n - a).toNat = j by omega]
  | cons p l ih =>
    intro first a b j h1 h2 h3 h4 h5 hok
    unfold okF at hok
    split at hok
    · cases hok
    · rename_i hp
      rw [List.cons_append, hk]
      by_cases h : a + j < p.1 ∨ b + j < p.2
      · have := ih false p.1 p.2 1 (by omega) (by omega) (by omega) (by omega) (.inr (Nat.le_refl _)) (by
          rw [show p.1 + ((1 : Nat) : Int) - 1 = p.1 by omega, show p.2 + ((1 : Nat) : Int) - 1 = p.2 by omega]; exact hok)
        rw [if_pos h, List.singleton_append, prs, if_neg]
        · simp only
          rw [show a + ↑j + (p.1 - (a + ↑j)) = p.1 by omega, show b + ↑j + (p.2 - (b + ↑j)) = p.2 by omega, show (a + ↑j - a).toNat = j by omega]
          rw [show p.1 + 1 = p.1 + ((1 : Nat) : Int) by omega, show p.2 + 1 = p.2 + ((1 : Nat) : Int) by omega, this]
          simp [run]
        · simp only [bad]
          rcases h5 with rfl | h5
          · simp; omega
          · cases first <;> simp <;> omega
      · have e1 : p.1 = a + j := by omega
        have e2 : p.2 = b + j := by omega
        rw [if_neg h, List.nil_append]
        have := ih first a b (j + 1) h1 h2 (by omega) (by omega) (.inr (by omega)) (by
          rw [show a + ((j + 1 : Nat) : Int) - 1 = p.1 by omega, show b + ((j + 1 : Nat) : Int) - 1 = p.2 by omega]; exact hok)
        rw [show p.1 + 1 = a + ((j + 1 : Nat) : Int) by omega, show p.2 + 1 = b + ((j + 1 : Nat) : Int) by omega, this, run_succ, ← e1, ← e2]
        simp

/-- the hunks between right pairs are between just these pairs -/
theorem pairs_hunks {n m : Int} {l : List (Int × Int)} (h : chk n m l = 0) : pairs n m (hunks n m l) = some l := by
  have h1 : sz n m = true ∧ okF n m (-1) (-1) l = true := by
    unfold chk at h
    cases h1 : sz n m <;> cases h2 : okF n m (-1) (-1) l <;> simp_all
  have hb : 0 ≤ n ∧ n ≤ 800 ∧ 0 ≤ m ∧ m ≤ 800 := by simpa [sz] using h1.1
  have := prs_hk (n := n) (m := m) l true 0 0 0 (by omega) (by omega) (by omega) (by omega) (.inl rfl) (by simpa using h1.2)
  rw [pairs, if_pos h1.1, hunks]
  simpa [run_zero] using this

theorem hk_prs {n m : Int} : ∀ (h : List (Int × Int × Int × Int)) (first : Bool) (a b : Int) (l : List (Int × Int)), 0 ≤ a → a ≤ n → 0 ≤ b → b ≤ m → prs n m first a b h = some l →
    hk a b (l ++ [(n, m)]) = h ∧ okF n m (a - 1) (b - 1) l = true ∧ (first = false → ∃ tl, l ++ [(n, m)] = (a, b) :: tl) := by
  intro h
  induction h with
  | nil =>
    intro first a b l h1 h2 h3 h4 hp
    unfold prs at hp
    split at hp
    · cases hp
    · rename_i hg
      obtain rfl := Option.some.inj hp
      obtain ⟨g, hg2⟩ : ∃ g : Nat, (n - a) = g := ⟨(n - a).toNat, by omega⟩
      rw [hg2, Int.toNat_natCast]
      refine ⟨?_, ?_, fun _ => ?_⟩
      · rw [hk_run, hk, if_neg (by simp only; omega), hk]; rfl
      · have := okF_run (n := n) (m := m) g a b [] (by omega) (by omega)
        rw [List.append_nil] at this
        rw [this]; rfl
      · cases g with
        | zero => exact ⟨[], by rw [run_zero]; simp; omega⟩
        | succ g => exact ⟨_, by rw [run_succ', List.cons_append]⟩
  | cons x h ih =>
    intro first a b l h1 h2 h3 h4 hp
    unfold prs at hp
    split at hp
    · cases hp
    · rename_i hc
      obtain ⟨l', hl', rfl⟩ := Option.map_eq_some_iff.1 hp
      obtain ⟨A, An, B, Bn⟩ := x
      simp only at hc hl'
      have hb : ¬ bad n m a b (A, An, B, Bn) := fun e => hc (.inl e)
      have hg1 : A - a = B - b := by
        by_cases e : A - a = B - b
        · exact e
        · exact absurd (.inr (.inl e)) hc
      have hg2 : first = false → A - a ≠ 0 := fun e1 e2 => hc (.inr (.inr ⟨e1, e2⟩))
      simp only [bad] at hb
      obtain ⟨g, hg3⟩ : ∃ g : Nat, (A - a) = g := ⟨(A - a).toNat, by omega⟩
      obtain ⟨i1, i2, i3⟩ := ih false (A + An) (B + Bn) l' (by omega) (by omega) (by omega) (by omega) hl'
      obtain ⟨tl, htl⟩ := i3 rfl
      simp only [hg3, Int.toNat_natCast]
      refine ⟨?_, ?_, fun hf => ?_⟩
      · rw [List.append_assoc, hk_run, show a + (g : Int) = A by omega, show b + (g : Int) = B by omega, htl, hk, if_pos (by simp only; omega)]
        rw [htl, hk, if_neg (by simp)] at i1
        simp only [List.nil_append, List.singleton_append] at i1 ⊢
        rw [i1]
        congr 2 <;> simp <;> omega
      · rw [okF_run g a b l' (by omega) (by omega)]
        exact okF_mono (by omega) (by omega) i2
      · cases g with
        | zero => exact absurd hg3 (hg2 hf)
        | succ g => exact ⟨_, by rw [run_succ', List.cons_append, List.cons_append]⟩

/-- the pairs that hunks are between are right, and have just these hunks -/
theorem hunks_pairs {n m : Int} {h : List (Int × Int × Int × Int)} {l : List (Int × Int)} (hp : pairs n m h = some l) : chk n m l = 0 ∧ hunks n m l = h := by
  unfold pairs at hp
  split at hp
  · rename_i hs
    have hb : 0 ≤ n ∧ n ≤ 800 ∧ 0 ≤ m ∧ m ≤ 800 := by simpa [sz] using hs
    obtain ⟨i1, i2, _⟩ := hk_prs h true 0 0 l (by omega) (by omega) (by omega) (by omega) hp
    refine ⟨?_, i1⟩
    rw [chk, if_pos hs, show okF n m (-1) (-1) l = true from by simpa using i2]; rfl
  · cases hp
end Go.Scr
