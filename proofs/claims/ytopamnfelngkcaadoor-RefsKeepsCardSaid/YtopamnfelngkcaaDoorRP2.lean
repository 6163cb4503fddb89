/-
  Layer 12: where a name stands in a table, in plain Lean. No program is named here.
-/
import Derived.Test.YtopamnfelngkcaaDoorRP1
namespace Go.Refs
open Go.Sl Go.Route

/-- how many stand below a name, from the first one on -/
def pos : List Rf → List UInt8 → Nat
  | [], _ => 0
  | r :: l, n => if r.nm < n then pos l n + 1 else 0
/-- does the one there bear the name? -/
def hit (l : List Rf) (n : List UInt8) : Bool := match l[pos l n]? with | some r => decide (r.nm = n) | none => false
theorem pos_le (l : List Rf) (n : List UInt8) : pos l n ≤ l.length := by
  induction l with
  | nil => simp [pos]
  | cons r l ih => unfold pos; split <;> simp; omega
theorem pos_eq : ∀ (l : List Rf) (n : List UInt8) (k : Nat), k ≤ l.length → (∀ t, t < k → ∀ h : t < l.length, l[t].nm < n) → (∀ h : k < l.length, ¬ l[k].nm < n) → pos l n = k
  | [], n, k, hk, _, _ => by simp at hk; simp [pos, hk]
  | r :: l, n, 0, _, _, h2 => by
    have := h2 (by simp)
    unfold pos; rw [if_neg (by simpa using this)]
  | r :: l, n, k + 1, hk, h1, h2 => by
    have h0 := h1 0 (by omega) (by simp)
    unfold pos; rw [if_pos (by simpa using h0), pos_eq l n k (by simpa using hk) (fun t ht h => h1 (t + 1) (by omega) (by simpa using h)) (fun h => h2 (by simpa using h))]
theorem below_pos : ∀ (l : List Rf) (n : List UInt8) (t : Nat) (_ : t < pos l n) (h : t < l.length), l[t].nm < n
  | [], n, t, ht, h => by simp at h
  | r :: l, n, 0, ht, h => by
    unfold pos at ht
    split at ht
    · assumption
    · omega
  | r :: l, n, t + 1, ht, h => by
    unfold pos at ht
    split at ht
    · exact below_pos l n t (by omega) (by simpa using h)
    · omega
theorem at_pos : ∀ (l : List Rf) (n : List UInt8) (h : pos l n < l.length), ¬ l[pos l n].nm < n
  | [], n, h => by simp at h
  | r :: l, n, h => by
    by_cases c : r.nm < n
    · have e : pos (r :: l) n = pos l n + 1 := by rw [pos, if_pos c]
      have h2 := h
      rw [e] at h2
      have := at_pos l n (by simpa using h2)
      simp only [e, List.getElem_cons_succ]
      exact this
    · have e : pos (r :: l) n = 0 := by rw [pos, if_neg c]
      simp only [e, List.getElem_cons_zero]
      exact c
theorem rise_lt {l : List Rf} (h : (nms l).Pairwise (· < ·)) {i j : Nat} (hij : i < j) (hj : j < l.length) : (l[i]'(by omega)).nm < l[j].nm := by
  have := (List.pairwise_iff_getElem.1 h) i j (by rw [nms_len]; omega) (by rw [nms_len]; exact hj) hij
  simpa [nms] using this
theorem hit_of {l : List Rf} {n : List UInt8} {k : Nat} (hk : pos l n = k) (h : k < l.length) : hit l n = decide (l[k].nm = n) := by
  unfold hit; rw [hk, List.getElem?_eq_getElem h]
theorem hit_none {l : List Rf} {n : List UInt8} (h : pos l n = l.length) : hit l n = false := by
  unfold hit; rw [h, List.getElem?_eq_none (Nat.le_refl _)]
end Go.Refs
