/-
  Layer 14, plain: is a node another one's ancestor, where nothing below it is gone into? No program is named here, no condition.
-/
import Derived.Test.YtcpmnocknpalfaaG6
namespace Go.Dag
theorem Fix.sound {pr : Nat → List Nat} (hlt : ∀ m x, x ∈ pr m → x < m) {hd : Nat → Nat → Nat} {seed : Nat → Nat → Prop} {N B : Nat} {ms : List Nat} (h : Fix pr hd seed N B ms) :
    ∀ d x, x < N → N - x ≤ d → bit ms x 3 = true → ∃ s, seed s 3 ∧ Anc pr s x := by
  intro d
  induction d with
  | zero => intro x hx hd; omega
  | succ d ih =>
    intro x hx hd hb
    rcases (h.eq x 3 hx).1 hb with h1 | ⟨m, _, h2, h3, h4, _⟩
    · exact ⟨x, h1, .refl _⟩
    · have := hlt _ _ h4
      obtain ⟨s, h5, h6⟩ := ih m h2 (by omega) h3
      exact ⟨s, h5, h6.snoc h4⟩
/-- parents of what is gone into -/
def prI (g : List Nd) (a m : Nat) : List Nat := if a < m ∧ gen g a < gen g m then par g m else []
theorem prI_lt {g : List Nd} (hg : okG g) (a : Nat) : ∀ m x, x ∈ prI g a m → x < m := fun m x h => by
  unfold prI at h; split at h
  · exact par_lt hg m x h
  · simp at h
theorem prI_sub {g : List Nd} {a m n : Nat} (h : Anc (prI g a) m n) : Anc (par g) m n := by
  induction h with
  | refl => exact .refl _
  | step hp _ ih =>
    unfold prI at hp; split at hp
    · exact .step hp ih
    · simp at hp
theorem prI_of {g : List Nd} (hg : okG g) {a m : Nat} (hm : m < g.length) (h : Anc (par g) m a) : Anc (prI g a) m a := by
  induction h with
  | refl => exact .refl _
  | step hp h ih =>
    have h1 := par_lt hg _ _ hp
    have h2 := h.le (par_lt hg)
    have h3 := gen_lt hg hm hp
    refine .step ?_ (ih (by omega))
    unfold prI
    rw [if_pos]
    · exact hp
    · refine ⟨by omega, ?_⟩
      rcases gen_anc hg (by omega) h with rfl | h4 <;> omega
/-- the marks at first: one node's -/
theorem seedI {N b : Nat} (hb : b < N) (x i : Nat) : bit (mk (List.replicate N 0) b 1) x i = true ↔ x = b ∧ (i = 3 ∨ i = 0) := by
  rw [bit_mk (by rw [List.length_replicate]; exact hb)]
  have h0 : bit (List.replicate N 0) x i = false := by
    unfold bit
    by_cases h : x < N <;> simp [List.getD_eq_getElem?_getD, h]
  have h1 : (1 : Nat).testBit i = decide (i = 0) := by rw [show (1 : Nat) = 2 ^ 0 from rfl, Nat.testBit_two_pow]; simp [eq_comm]
  rw [h0, h1]; simp
abbrev SeedI (N b : Nat) : Nat → Nat → Prop := fun x i => bit (mk (List.replicate N 0) b 1) x i = true
theorem is_yes {g : List Nd} (hg : okG g) {a b B : Nat} {ms : List Nat} (hb : b < g.length) (ha : a < g.length) (h : Fix (prI g a) (fun _ _ => 1) (SeedI g.length b) g.length B ms) (hq : bit ms a 3 = true) : Anc (par g) b a := by
  obtain ⟨s, h1, h2⟩ := h.sound (prI_lt hg a) _ a ha (Nat.le_refl _) hq
  obtain ⟨rfl, _⟩ := (seedI hb s 3).1 h1
  exact prI_sub h2
theorem is_no {g : List Nd} (hg : okG g) {a b : Nat} {ms : List Nat} (hb : b < g.length) (ha : a < g.length) (h : Fix (prI g a) (fun _ _ => 1) (SeedI g.length b) g.length 0 ms) (hq : bit ms a 3 = false) : ¬ Anc (par g) b a := fun hA => by
  have := (h.qd (prI_lt hg a) (fun x i hx => by have := (seedI hb x i).1 hx; omega) a ha).2 ⟨b, (seedI hb b 3).2 ⟨rfl, .inl rfl⟩, prI_of hg hb hA⟩
  rw [hq] at this; cases this
end Go.Dag
