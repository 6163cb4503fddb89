/-
  Layer 12: tables of refs, in plain Lean. No program is named here.
-/
import Derived.Test.YtopamnfelngkcaaDoorAr
import Derived.Test.YtopamnfelngkcaaDoorP1
import Derived.Lib.Bytealg
namespace Go.Refs
open Go.Sl Go.Route

theorem cmp_both : ∀ (a b : List UInt8), (Lib.compareBytes a b < 0 ↔ a < b) ∧ (Lib.compareBytes a b = 0 ↔ a = b)
  | [], [] => by simp [Lib.compareBytes]
  | [], _ :: _ => by simp [Lib.compareBytes]
  | _ :: _, [] => by simp [Lib.compareBytes]
  | a :: as, b :: bs => by
    have ih := cmp_both as bs
    unfold Lib.compareBytes
    rw [List.cons_lt_cons_iff]
    by_cases h1 : a < b
    · have : a ≠ b := by rintro rfl; exact absurd h1 (by simp)
      simp [h1, this]
    · by_cases h2 : b < a
      · have : a ≠ b := by rintro rfl; exact absurd h2 (by simp)
        simp [h1, h2, this]
      · have : a = b := UInt8.le_antisymm (UInt8.not_lt.1 h2) (UInt8.not_lt.1 h1)
        subst this
        simp [ih.1, ih.2]
theorem cmp_neg (a b : List UInt8) : Lib.compareBytes a b < 0 ↔ a < b := (cmp_both a b).1
theorem cmp_zero (a b : List UInt8) : Lib.compareBytes a b = 0 ↔ a = b := (cmp_both a b).2
theorem lt_trich (a b : List UInt8) (h1 : ¬ a < b) (h2 : a ≠ b) : b < a := by
  rcases List.le_iff_lt_or_eq.1 (List.not_lt.1 h1) with h | h
  · exact h
  · exact absurd h.symm h2
theorem lt_ne {a b : List UInt8} (h : a < b) : a ≠ b := by rintro rfl; exact List.lt_irrefl _ h

def nms (l : List Rf) : List (List UInt8) := l.map (·.nm)
theorem nms_len (l : List Rf) : (nms l).length = l.length := by simp [nms]
theorem nms_take (l : List Rf) (k : Nat) : nms (l.take k) = (nms l).take k := by simp [nms, List.map_take]

/-- do they rise? -/
def rises (l : List Rf) : Bool := decide ((nms l).Pairwise (· < ·))
/-- may it be a table? the first error's number -/
def chk (l : List Rf) : Int := if 64 < l.length then 5 else if l.all (fun r => rgt r.nm) = false then 15 else if ¬ (nms l).Nodup then 17 else if rises l = false then 18 else 0

theorem chk_ok {l : List Rf} (h : chk l = 0) : l.length ≤ 64 ∧ (∀ r ∈ l, rgt r.nm = true) ∧ (nms l).Pairwise (· < ·) := by
  unfold chk at h
  by_cases h1 : 64 < l.length
  · rw [if_pos h1] at h; omega
  rw [if_neg h1] at h
  by_cases h2 : l.all (fun r => rgt r.nm) = false
  · rw [if_pos h2] at h; omega
  rw [if_neg h2] at h
  by_cases h3 : ¬ (nms l).Nodup
  · rw [if_pos h3] at h; omega
  rw [if_neg h3] at h
  by_cases h4 : rises l = false
  · rw [if_pos h4] at h; omega
  refine ⟨by omega, ?_, ?_⟩
  · intro r hr
    rw [Bool.not_eq_false, List.all_eq_true] at h2
    exact h2 r hr
  · rw [Bool.not_eq_false] at h4
    exact of_decide_eq_true h4
theorem nodup_of_lt {l : List (List UInt8)} (h : l.Pairwise (· < ·)) : l.Nodup := h.imp fun {a b} hab e => by subst e; exact List.lt_irrefl _ hab
theorem chk_mk {l : List Rf} (h1 : l.length ≤ 64) (h2 : ∀ r ∈ l, rgt r.nm = true) (h3 : (nms l).Pairwise (· < ·)) : chk l = 0 := by
  unfold chk
  rw [if_neg (by omega), if_neg (by rw [Bool.not_eq_false, List.all_eq_true]; exact h2), if_neg (by rw [Classical.not_not]; exact nodup_of_lt h3), if_neg (by rw [Bool.not_eq_false]; exact decide_eq_true h3)]

/-- neighbours tell whether all rise -/
theorem pairwise_of_next : ∀ (l : List (List UInt8)), (∀ k (h : k + 1 < l.length), l[k] < l[k + 1]) → l.Pairwise (· < ·)
  | [], _ => List.Pairwise.nil
  | [a], _ => by simp
  | a :: b :: l, h => by
    have hp := pairwise_of_next (b :: l) (fun k hk => h (k + 1) (by simpa using hk))
    rw [List.pairwise_cons]
    refine ⟨fun x hx => ?_, hp⟩
    have hab : a < b := by simpa using h 0 (by simp)
    rcases List.mem_cons.1 hx with rfl | hx
    · exact hab
    · exact List.lt_trans hab ((List.pairwise_cons.1 hp).1 x hx)
theorem next_of_pairwise {l : List (List UInt8)} (h : l.Pairwise (· < ·)) (k : Nat) (hk : k + 1 < l.length) : l[k] < l[k + 1] :=
  (List.pairwise_iff_getElem.1 h) k (k + 1) (by omega) hk (by omega)

theorem rises_false {l : List Rf} {k : Nat} (hk : k + 1 < l.length) (h : ¬ l[k].nm < l[k + 1].nm) : rises l = false := by
  refine decide_eq_false fun hp => h ?_
  have := next_of_pairwise hp k (by rw [nms_len]; exact hk)
  simpa [nms] using this
theorem rises_true {l : List Rf} (h : ∀ k (h : k + 1 < l.length), l[k].nm < l[k + 1].nm) : rises l = true :=
  decide_eq_true (pairwise_of_next _ fun k hk => by
    have := h k (by rw [nms_len] at hk; exact hk)
    simpa [nms] using this)

/-- none lies below the one ahead of it -/
def down : List Rf → Bool
  | a :: b :: l => !decide (b.nm < a.nm) && down (b :: l)
  | _ => true
theorem down_iff : ∀ (l : List Rf), down l = true ↔ ∀ k, ∀ (h : k + 1 < l.length), ¬ l[k + 1].nm < l[k].nm
  | [] => by simp [down]
  | [a] => by simp [down]
  | a :: b :: l => by
    have ih := down_iff (b :: l)
    simp only [down, Bool.and_eq_true, Bool.not_eq_true', decide_eq_false_iff_not]
    rw [ih]
    constructor
    · rintro ⟨h1, h2⟩ k hk
      cases k with
      | zero => exact h1
      | succ k => exact h2 k (by simpa using hk)
    · intro h
      exact ⟨h 0 (by simp), fun k hk => h (k + 1) (by simpa using hk)⟩
theorem down_true {l : List Rf} (h : ∀ k, ∀ (h : k + 1 < l.length), ¬ l[k + 1].nm < l[k].nm) : down l = true := (down_iff l).2 h
theorem down_false {l : List Rf} {k : Nat} (h : k + 1 < l.length) (hx : l[k + 1].nm < l[k].nm) : down l = false := by
  rw [← Bool.not_eq_true, down_iff]
  exact fun hd => hd k h hx
theorem down_rises {l : List Rf} (h : (nms l).Nodup) : down l = rises l := by
  cases hr : rises l with
  | true =>
    refine down_true fun k hk => ?_
    have := next_of_pairwise (of_decide_eq_true hr) k (by rw [nms_len]; exact hk)
    have h2 : l[k].nm < l[k + 1].nm := by simpa [nms] using this
    exact List.lt_asymm h2
  | false =>
    rw [← Bool.not_eq_true, down_iff]
    intro hd
    have : rises l = true := rises_true fun k hk => by
      have h1 := hd k hk
      refine lt_trich _ _ h1 fun e => ?_
      have := (List.pairwise_iff_getElem.1 h) k (k + 1) (by rw [nms_len]; omega) (by rw [nms_len]; exact hk) (by omega)
      apply this
      simp [nms, e]
    rw [hr] at this
    exact absurd this (by simp)
end Go.Refs
