/-
  Layer 16, plain: a path and what lies above it. No program is named here, no condition.
-/
import Derived.Test.YtopamnfelngkcaaDoorP5
import Derived.Test.YtopamnfelngkcaaDoorBP4
namespace Go.Bl
open Go.Route
set_option linter.unusedVariables false

def upsN : Nat → Str → List Str
  | 0, _ => []
  | n + 1, l => if l = [] then [] else l :: upsN n (dirOf l)
/-- a path, its directory, that one's directory, .. -/
def ups (l : Str) : List Str := upsN l.length l
theorem upsN_more : ∀ (n m : Nat) (l : Str), l.length ≤ n → l.length ≤ m → upsN n l = upsN m l
  | 0, 0, _, _, _ => rfl
  | 0, m + 1, l, h, _ => by
    have : l = [] := List.length_eq_zero_iff.1 (by omega)
    subst this; simp [upsN]
  | n + 1, 0, l, _, h => by
    have : l = [] := List.length_eq_zero_iff.1 (by omega)
    subst this; simp [upsN]
  | n + 1, m + 1, l, h1, h2 => by
    unfold upsN
    by_cases e : l = []
    · rw [if_pos e, if_pos e]
    · have := dir_lt e
      rw [if_neg e, if_neg e, upsN_more n m (dirOf l) (by omega) (by omega)]
theorem ups_nil : ups [] = [] := rfl
theorem ups_cons {l : Str} (h : l ≠ []) : ups l = l :: ups (dirOf l) := by
  have hp := List.length_pos_iff.2 h
  have hd := dir_lt h
  have e : ups l = upsN (l.length - 1 + 1) l := by unfold ups; rw [Nat.sub_add_cancel hp]
  rw [e]
  show (if l = [] then [] else l :: upsN (l.length - 1) (dirOf l)) = _
  rw [if_neg h]
  unfold ups
  rw [upsN_more _ (dirOf l).length (dirOf l) (by omega) (by omega)]
theorem upsN_len : ∀ (n : Nat) (l : Str), (upsN n l).length ≤ n
  | 0, _ => by simp [upsN]
  | n + 1, l => by
    unfold upsN
    split
    · simp
    · have := upsN_len n (dirOf l); simp only [List.length_cons]; omega
theorem upsN_mem : ∀ (n : Nat) (l x : Str), x ∈ upsN n l → x.length ≤ l.length
  | 0, _, _, h => by simp [upsN] at h
  | n + 1, l, x, h => by
    unfold upsN at h
    split at h
    · simp at h
    · next e =>
      rcases List.mem_cons.1 h with rfl | h
      · omega
      · have := upsN_mem n (dirOf l) x h
        have := dir_lt e
        omega
theorem ups_len (l : Str) : (ups l).length ≤ l.length := upsN_len _ _
theorem ups_mem {l x : Str} (h : x ∈ ups l) : x.length ≤ l.length := upsN_mem _ _ _ h
/-- every right path, and what lies above it -/
def pths (L : List Str) : List Str := L.flatMap fun l => if rgt l then ups l else []
theorem pths_snoc (L : List Str) (l : Str) : pths (L ++ [l]) = pths L ++ (if rgt l then ups l else []) := by simp [pths, List.flatMap_append]
theorem pths_len {L : List Str} (h : ∀ x ∈ L, x.length ≤ 200) : (pths L).length ≤ 200 * L.length := by
  induction L with
  | nil => simp [pths]
  | cons a r ih =>
    have h1 := ih (fun x hx => h x (by simp [hx]))
    have h2 := h a (by simp)
    have h3 := ups_len a
    unfold pths at h1 ⊢
    rw [List.flatMap_cons, List.length_append, List.length_cons]
    split
    · omega
    · simp only [List.length_nil]; omega
theorem pths_mem {L : List Str} (h : ∀ x ∈ L, x.length ≤ 200) {x : Str} (hx : x ∈ pths L) : x.length ≤ 200 := by
  unfold pths at hx
  obtain ⟨l, hl, hx⟩ := List.mem_flatMap.1 hx
  split at hx
  · have := ups_mem hx; have := h l hl; omega
  · simp at hx
theorem mem_pths {L : List Str} {l x : Str} (hl : l ∈ L) (hr : rgt l = true) (hx : x ∈ ups l) : x ∈ pths L := by
  unfold pths
  exact List.mem_flatMap.2 ⟨l, hl, by rw [if_pos hr]; exact hx⟩
end Go.Bl
