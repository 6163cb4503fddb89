/-
  Layer 14, plain: what the bases are. No program is named here, no condition.
-/
import Derived.Test.YtcpmnocknpalfaaG7
import Derived.Test.YtcpmnocknpalfaaG5
namespace Go.Dag
theorem mem_base {g : List Nd} {a b : Nat} {x : Int} : x ∈ baseL g a b ↔ ∃ n : Nat, n < g.length ∧ baseP g a b n ∧ x = n := by
  unfold baseL
  rw [mem_filtN]
  simp only [tt_iff]
theorem filtN_single {a : Nat} : ∀ {N : Nat}, a < N → filtN (fun x => decide (x = a)) N = [(a : Int)]
  | 0, h => by omega
  | N + 1, h => by
    show filtN _ N ++ _ = _
    by_cases e : a = N
    · subst e
      rw [filtN_none (fun n hn => by simp; omega)]
      simp
    · rw [filtN_single (by omega)]
      have : ¬ N = a := fun h => e h.symm
      simp [this]
theorem base_is {g : List Nd} (hg : okG g) {a b : Nat} (ha : a < g.length) (h : Anc (par g) b a) : baseL g a b = [(a : Int)] := by
  unfold baseL
  rw [filtN_congr (q := fun x => decide (x = a)), filtN_single ha]
  intro x _
  rw [Bool.eq_iff_iff, tt_iff, decide_eq_true_iff]
  constructor
  · rintro ⟨⟨h1, h2⟩, h3⟩
    apply Classical.byContradiction
    intro hc
    exact h3 ⟨a, fun e => hc e.symm, ⟨.refl _, h⟩, h1⟩
  · rintro rfl
    exact ⟨⟨.refl _, h⟩, fun ⟨m, h1, ⟨h2, _⟩, h4⟩ => h1 (h2.antisymm (par_lt hg) h4).symm⟩
theorem base_cover {g : List Nd} (hg : okG g) {a b n : Nat} (ha : a < g.length) : (∃ m : Nat, (m : Int) ∈ baseL g a b ∧ Anc (par g) m n) ↔ Anc (par g) a n ∧ Anc (par g) b n := by
  constructor
  · rintro ⟨m, h1, h2⟩
    obtain ⟨k, _, h4, h5⟩ := mem_base.1 h1
    obtain rfl : m = k := by omega
    exact ⟨h4.1.1.trans h2, h4.1.2.trans h2⟩
  · have key : ∀ d n, g.length - n ≤ d → Anc (par g) a n → Anc (par g) b n → ∃ m : Nat, (m : Int) ∈ baseL g a b ∧ Anc (par g) m n := by
      intro d
      induction d with
      | zero =>
        intro n hd h1 _
        have := h1.le (par_lt hg)
        omega
      | succ d ih =>
        intro n hd h1 h2
        have hn := h1.le (par_lt hg)
        by_cases hb : ∃ m, m ≠ n ∧ (Anc (par g) a m ∧ Anc (par g) b m) ∧ Anc (par g) m n
        · obtain ⟨m, h3, ⟨h4, h5⟩, h6⟩ := hb
          have := h6.le (par_lt hg)
          obtain ⟨m', h7, h8⟩ := ih m (by omega) h4 h5
          exact ⟨m', h7, h8.trans h6⟩
        · exact ⟨n, mem_base.2 ⟨n, by omega, ⟨⟨h1, h2⟩, hb⟩, rfl⟩, .refl _⟩
    rintro ⟨h1, h2⟩
    exact key _ n (Nat.le_refl _) h1 h2
theorem base_anti {g : List Nd} {a b n m : Nat} (hn : (n : Int) ∈ baseL g a b) (hm : (m : Int) ∈ baseL g a b) (hne : m ≠ n) : ¬ Anc (par g) m n := fun h => by
  obtain ⟨k, _, h4, h5⟩ := mem_base.1 hn
  obtain rfl : n = k := by omega
  obtain ⟨k', _, h6, h7⟩ := mem_base.1 hm
  obtain rfl : m = k' := by omega
  exact h4.2 ⟨m, hne, h6.1, h⟩
end Go.Dag
