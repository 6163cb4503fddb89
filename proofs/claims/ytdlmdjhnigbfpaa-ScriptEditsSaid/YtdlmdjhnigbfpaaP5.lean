/-
  Right pairs of things that are one are at most as many as two lists have in common, in order. Plain: no program in sight.
-/
import Derived.Test.YtdlmdjhnigbfpaaP1
import Derived.Test.YtdlmdjhnigbfpaaP4
namespace Go.Scr

def atI (a : List Int) (x : Int) : Int := a[x.toNat]?.getD 0
theorem atI_eq (a : List Int) (k : Nat) (h : k < a.length) : atI a k = a[k] := by simp [atI, h]

theorem pick_sub (a : List Int) {n m : Int} (hn : n ≤ a.length) : ∀ (l : List (Int × Int)) (x y : Int), -1 ≤ x → okF n m x y l = true → (l.map fun p => atI a p.1).Sublist (a.drop (x + 1).toNat) := by
  intro l
  induction l with
  | nil => intro x y _ _; simp
  | cons p l ih =>
    intro x y hx h
    unfold okF at h
    split at h
    · cases h
    · rename_i hp
      have h1 := ih p.1 p.2 (by omega) h
      obtain ⟨q, hq⟩ := Int.eq_ofNat_of_zero_le (show 0 ≤ p.1 by omega)
      have hlt : q < a.length := by omega
      rw [List.map_cons, hq, atI_eq a q hlt]
      rw [hq, show ((q : Int) + 1).toNat = q + 1 by omega] at h1
      have h2 : a.drop (x + 1).toNat = (a.drop (x + 1).toNat).take (q - (x + 1).toNat) ++ a.drop q := by
        conv => lhs; rw [← List.take_append_drop (q - (x + 1).toNat) (a.drop (x + 1).toNat)]
        rw [List.drop_drop, show (x + 1).toNat + (q - (x + 1).toNat) = q by omega]
      rw [h2, List.drop_eq_getElem_cons hlt]
      exact (h1.cons_cons _).trans (List.sublist_append_right _ _)
theorem pick_sub2 (b : List Int) {n m : Int} (hm : m ≤ b.length) : ∀ (l : List (Int × Int)) (x y : Int), -1 ≤ y → okF n m x y l = true → (l.map fun p => atI b p.2).Sublist (b.drop (y + 1).toNat) := by
  intro l
  induction l with
  | nil => intro x y _ _; simp
  | cons p l ih =>
    intro x y hx h
    unfold okF at h
    split at h
    · cases h
    · rename_i hp
      have h1 := ih p.1 p.2 (by omega) h
      obtain ⟨q, hq⟩ := Int.eq_ofNat_of_zero_le (show 0 ≤ p.2 by omega)
      have hlt : q < b.length := by omega
      rw [List.map_cons, hq, atI_eq b q hlt]
      rw [hq, show ((q : Int) + 1).toNat = q + 1 by omega] at h1
      have h2 : b.drop (y + 1).toNat = (b.drop (y + 1).toNat).take (q - (y + 1).toNat) ++ b.drop q := by
        conv => lhs; rw [← List.take_append_drop (q - (y + 1).toNat) (b.drop (y + 1).toNat)]
        rw [List.drop_drop, show (y + 1).toNat + (q - (y + 1).toNat) = q by omega]
      rw [h2, List.drop_eq_getElem_cons hlt]
      exact (h1.cons_cons _).trans (List.sublist_append_right _ _)

/-- are the first k pairs of things that are one? -/
def Alike (a b : List Int) (l : List (Int × Int)) (k : Nat) : Prop := ∀ p ∈ l.take k, atI a p.1 = atI b p.2
theorem Alike.zero (a b : List Int) (l : List (Int × Int)) : Alike a b l 0 := by intro p hp; simp at hp
theorem Alike.succ {a b : List Int} {l : List (Int × Int)} {k : Nat} (h : Alike a b l k) (hk : k < l.length) (e : atI a l[k].1 = atI b l[k].2) : Alike a b l (k + 1) := by
  intro p hp
  rw [List.take_succ_eq_append_getElem hk] at hp
  rcases List.mem_append.1 hp with hp | hp
  · exact h p hp
  · obtain rfl : p = l[k] := by simpa using hp
    exact e
theorem alike_len {a b : List Int} {l : List (Int × Int)} (hc : chk a.length b.length l = 0) (h : Alike a b l l.length) : l.length ≤ lcs a b := by
  obtain ⟨_, h0⟩ := chk_zero hc
  have h1 := pick_sub a (Int.le_refl _) l (-1) (-1) (by omega) h0
  have h2 := pick_sub2 b (Int.le_refl _) l (-1) (-1) (by omega) h0
  have e : l.map (fun p => atI b p.2) = l.map fun p => atI a p.1 := List.map_congr_left fun p hp => (h p (by rwa [List.take_length])).symm
  rw [e] at h2
  have := lcs_most a b _ (by simpa using h1) (by simpa using h2)
  simpa using this
theorem chk_at {n m : Int} {l : List (Int × Int)} (hc : chk n m l = 0) {k : Nat} (hk : k < l.length) : 0 ≤ l[k].1 ∧ l[k].1 < n ∧ 0 ≤ l[k].2 ∧ l[k].2 < m := by
  have := okF_bound (chk_zero hc).2 l[k] (List.getElem_mem hk)
  omega
end Go.Scr
