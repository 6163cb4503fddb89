/-
  Layer 15, plain: in which order commits are told. No program is named here, no condition.
-/
import Derived.Test.YtcpmnocknpalfaaG4
namespace Go.Ord
open Go.Dag
set_option linter.unusedVariables false

/-- the youngest, by some numbers, of those below n; -1: there is none -/
def yng (is : Nat → Bool) (k : Nat → Int) : Nat → Int
  | 0 => -1
  | n + 1 => if is n = true ∧ (yng is k n < 0 ∨ k (yng is k n).toNat ≤ k n) then (n : Int) else yng is k n
/-- x comes behind y -/
def le (k : Nat → Int) (x y : Nat) : Prop := k x < k y ∨ (k x = k y ∧ x ≤ y)
theorem yng_spec (is : Nat → Bool) (k : Nat → Int) : ∀ n, (yng is k n = -1 ∧ ∀ m, m < n → is m = false) ∨ ∃ y : Nat, yng is k n = y ∧ y < n ∧ is y = true ∧ ∀ m, m < n → is m = true → le k m y
  | 0 => .inl ⟨rfl, fun m h => by omega⟩
  | n + 1 => by
    have ih := yng_spec is k n
    show (ite _ _ _ = _ ∧ _) ∨ ∃ y : Nat, ite _ _ _ = _ ∧ _
    rcases ih with ⟨h1, h2⟩ | ⟨y, h1, h2, h3, h4⟩
    · by_cases hn : is n = true
      · rw [if_pos ⟨hn, .inl (by omega)⟩]
        refine .inr ⟨n, rfl, by omega, hn, fun m hm hi => ?_⟩
        by_cases e : m = n
        · subst e; exact .inr ⟨rfl, Nat.le_refl _⟩
        · rw [h2 m (by omega)] at hi; cases hi
      · rw [if_neg (fun h => hn h.1)]
        refine .inl ⟨h1, fun m hm => ?_⟩
        by_cases e : m = n
        · subst e; simpa using hn
        · exact h2 m (by omega)
    · rw [h1]
      by_cases hn : is n = true ∧ k y ≤ k n
      · rw [if_pos ⟨hn.1, .inr (by simpa using hn.2)⟩]
        refine .inr ⟨n, rfl, by omega, hn.1, fun m hm hi => ?_⟩
        by_cases e : m = n
        · subst e; exact .inr ⟨rfl, Nat.le_refl _⟩
        · have h5 := h4 m (by omega) hi
          unfold le at h5 ⊢
          omega
      · rw [if_neg (by
          rintro ⟨h5, h6 | h6⟩
          · omega
          · exact hn ⟨h5, by simpa using h6⟩)]
        refine .inr ⟨y, rfl, by omega, h3, fun m hm hi => ?_⟩
        by_cases e : m = n
        · subst e
          have h5 : ¬ k y ≤ k m := fun h => hn ⟨hi, h⟩
          unfold le; omega
        · exact h4 m (by omega) hi
theorem le_antisymm {k : Nat → Int} {x y : Nat} (h1 : le k x y) (h2 : le k y x) : x = y := by unfold le at h1 h2; omega
theorem yng_none {is : Nat → Bool} {k : Nat → Int} {N : Nat} (h : ∀ m, m < N → is m = false) : yng is k N = -1 := by
  rcases yng_spec is k N with ⟨h1, _⟩ | ⟨y, _, h2, h3, _⟩
  · exact h1
  · rw [h y h2] at h3; cases h3
theorem yng_some {is : Nat → Bool} {k : Nat → Int} {N x : Nat} (hx : x < N) (hi : is x = true) (h : ∀ m, m < N → is m = true → le k m x) : yng is k N = x := by
  rcases yng_spec is k N with ⟨_, h2⟩ | ⟨y, h1, h2, h3, h4⟩
  · rw [h2 x hx] at hi; cases hi
  · rw [h1]
    have := le_antisymm (h4 x hx hi) (h y h2 h3)
    omega

/-- left, and no child left -/
def rdy (g : List Nd) (left : Nat → Bool) (x : Nat) : Bool := left x && (List.range g.length).all (fun c => !(left c && (par g c).contains x))
theorem rdy_iff {g : List Nd} {left : Nat → Bool} {x : Nat} : rdy g left x = true ↔ left x = true ∧ ∀ c, c < g.length → left c = true → x ∉ par g c := by
  unfold rdy
  simp only [Bool.and_eq_true, List.all_eq_true, List.mem_range, Bool.not_eq_true', Bool.and_eq_false_iff]
  refine and_congr_right fun _ => forall_congr' fun c => forall_congr' fun _ => ?_
  cases hl : left c
  · simp
  · simp

/-- by numbers, children ahead (rd: which of those that are left may be told) -/
def seqL (rd : (Nat → Bool) → Nat → Bool) (k : Nat → Int) (N : Nat) : Nat → (Nat → Bool) → List Int
  | 0, _ => []
  | f + 1, left => if yng (rd left) k N < 0 then [] else yng (rd left) k N :: seqL rd k N f (upd left (yng (rd left) k N).toNat false)
/-- how many are left -/
def cnt (left : Nat → Bool) (N : Nat) : Nat := (List.range N).countP left
theorem cnt_le (left : Nat → Bool) (N : Nat) : cnt left N ≤ N := by
  unfold cnt
  have := List.countP_le_length (p := left) (l := List.range N)
  simpa using this
theorem cnt_upd {left : Nat → Bool} : ∀ {N x : Nat}, x < N → left x = true → cnt left N = cnt (upd left x false) N + 1
  | 0, x, h, _ => by omega
  | N + 1, x, h, hl => by
    have e : ∀ f : Nat → Bool, cnt f (N + 1) = cnt f N + (if f N then 1 else 0) := fun f => by
      unfold cnt; rw [List.range_succ, List.countP_append]; simp [List.countP_cons]
    rw [e, e]
    by_cases hx : x = N
    · subst hx
      have : cnt (upd left x false) x = cnt left x := by
        unfold cnt
        refine List.countP_congr fun y hy => ?_
        rw [upd_ne _ _ (by have := List.mem_range.1 hy; omega)]
      rw [this, upd_same, hl]; simp
    · rw [cnt_upd (x := x) (by omega) hl, upd_ne _ _ (fun h => hx h.symm)]
      omega
theorem seqL_none {rd : (Nat → Bool) → Nat → Bool} {k : Nat → Int} {N f : Nat} {left : Nat → Bool} (h : ∀ m, m < N → rd left m = false) : seqL rd k N f left = [] := by
  cases f with
  | zero => rfl
  | succ f => show ite _ _ _ = _; rw [yng_none h]; simp
theorem seqL_some {rd : (Nat → Bool) → Nat → Bool} {k : Nat → Int} {N f x : Nat} {left : Nat → Bool} (hx : x < N) (hi : rd left x = true) (h : ∀ m, m < N → rd left m = true → le k m x) : seqL rd k N (f + 1) left = (x : Int) :: seqL rd k N f (upd left x false) := by
  show ite _ _ _ = _
  rw [yng_some hx hi h, if_neg (by omega)]; simp

/-- line by line, from a pile -/
def topoL (g : List Nd) : Nat → (Nat → Bool) → List Nat → List Int
  | 0, _, _ => []
  | f + 1, left, pile => match pile.getLast? with
    | none => []
    | some n => (n : Int) :: topoL g f (upd left n false) (pile.dropLast ++ ((par g n).reverse.filter (rdy g (upd left n false))))
theorem topoL_nil (g : List Nd) (f : Nat) (left : Nat → Bool) : topoL g f left [] = [] := by cases f <;> rfl
theorem topoL_snoc (g : List Nd) (f : Nat) (left : Nat → Bool) (pile : List Nat) (n : Nat) : topoL g (f + 1) left (pile ++ [n]) = (n : Int) :: topoL g f (upd left n false) (pile ++ ((par g n).reverse.filter (rdy g (upd left n false)))) := by
  show (match (pile ++ [n]).getLast? with | none => [] | some n => _) = _
  simp

/-! ### open children -/
/-- how many children that are left a node has -/
def opn (g : List Nd) (left : Nat → Bool) (x : Nat) : Nat := (List.range g.length).countP (fun c => left c && (par g c).contains x)
theorem opn_zero {g : List Nd} {left : Nat → Bool} {x : Nat} : opn g left x = 0 ↔ ∀ c, c < g.length → left c = true → x ∉ par g c := by
  unfold opn
  rw [List.countP_eq_zero]
  simp only [List.mem_range, Bool.and_eq_true, List.contains_iff_mem, not_and]
theorem rdy_opn {g : List Nd} {left : Nat → Bool} {x : Nat} : rdy g left x = true ↔ left x = true ∧ opn g left x = 0 := by
  rw [rdy_iff, opn_zero]
theorem opn_le (g : List Nd) (left : Nat → Bool) (x : Nat) : opn g left x ≤ g.length := by
  unfold opn
  have := List.countP_le_length (p := fun c => left c && (par g c).contains x) (l := List.range g.length)
  simpa using this
theorem countP_upd {N n : Nat} (hn : n < N) (p q : Nat → Bool) (hpq : ∀ c, c ≠ n → p c = q c) (hp : p n = true) (hq : q n = false) : (List.range N).countP p = (List.range N).countP q + 1 := by
  induction N with
  | zero => omega
  | succ N ih =>
    rw [List.range_succ, List.countP_append, List.countP_append]
    by_cases e : n = N
    · subst e
      have : (List.range n).countP p = (List.range n).countP q := List.countP_congr fun c hc => by rw [hpq c (by have := List.mem_range.1 hc; omega)]
      rw [this]
      simp [hp, hq]
    · rw [ih (by omega)]
      have : p N = q N := hpq N (fun h => e h.symm)
      simp [List.countP_cons, this]; omega
/-- a node told: its parents have a child less -/
theorem opn_upd {g : List Nd} {left : Nat → Bool} {n x : Nat} (hn : n < g.length) (hl : left n = true) : opn g left x = opn g (upd left n false) x + (if x ∈ par g n then 1 else 0) := by
  unfold opn
  by_cases h : x ∈ par g n
  · rw [if_pos h]
    exact countP_upd hn _ _ (fun c hc => by rw [upd_ne _ _ hc]) (by simp [hl, h]) (by simp [upd_same])
  · rw [if_neg h, Nat.add_zero]
    refine List.countP_congr fun c _ => ?_
    by_cases e : c = n
    · subst e; simp [upd_same, h]
    · rw [upd_ne _ _ e]
end Go.Ord
