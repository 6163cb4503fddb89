/-
  Layer 14, plain: generations while they are reckoned. No program is named here, no condition.
-/
import Derived.Test.YtcpmnocknpalfaaG4
namespace Go.Dag
def mxk (out : List Int) (ps : List Int) (k : Nat) : Int := (ps.take k).foldl (fun m p => max m (out.getD p.toNat 0 + 1)) 1
theorem mxk_zero (out ps : List Int) : mxk out ps 0 = 1 := by simp [mxk]
theorem mxk_succ (out : List Int) {ps : List Int} {k : Nat} (h : k < ps.length) : mxk out ps (k + 1) = max (mxk out ps k) (out.getD ps[k].toNat 0 + 1) := by
  unfold mxk; rw [List.take_succ_eq_append_getElem h, List.foldl_append]; rfl
theorem mxk_all (out ps : List Int) : mxk out ps ps.length = mx out ps := by unfold mxk mx; rw [List.take_length]
theorem mxk_bd (out ps : List Int) (B : Int) (hB : 1 ≤ B) (h : ∀ p ∈ ps, out.getD p.toNat 0 + 1 ≤ B) : ∀ k, 1 ≤ mxk out ps k ∧ mxk out ps k ≤ B := by
  have key : ∀ (ps : List Int) (a : Int), 1 ≤ a → a ≤ B → (∀ p ∈ ps, out.getD p.toNat 0 + 1 ≤ B) → 1 ≤ ps.foldl (fun m p => max m (out.getD p.toNat 0 + 1)) a ∧ ps.foldl (fun m p => max m (out.getD p.toNat 0 + 1)) a ≤ B := by
    intro ps
    induction ps with
    | nil => intro a h1 h2 _; exact ⟨h1, h2⟩
    | cons p ps ih =>
      intro a h1 h2 h3
      simp only [List.foldl_cons]
      have := h3 p (by simp)
      exact ih _ (by omega) (by omega) (fun q hq => h3 q (by simp [hq]))
  intro k
  exact key _ 1 (by omega) hB (fun p hp => h p (List.mem_of_mem_take hp))
theorem gensTo_bd {g : List Nd} (hg : okG g) : ∀ k, k ≤ g.length → ∀ j, j < k → 1 ≤ (gensTo g k).getD j 0 ∧ (gensTo g k).getD j 0 ≤ (j : Int) + 1 := by
  intro k
  induction k with
  | zero => intro _ j hj; omega
  | succ k ih =>
    intro hk j hj
    have ih' := ih (by omega)
    by_cases e : j = k
    · subst e
      rw [gensTo_get g (by omega)]
      have hn : j < g.length := by omega
      simp only [List.getElem?_eq_getElem hn, Option.map_some, Option.getD_some]
      rw [← mxk_all]
      refine mxk_bd _ _ _ (by omega) (fun p hp => ?_) _
      obtain ⟨i, hi, rfl⟩ := List.mem_iff_getElem.1 hp
      have h3 := (hg.2 j hn).2.2.2 i hi
      have h4 := (ih' g[j].1[i].toNat (by have := h3.1; have := h3.2.1; omega)).2
      have := h3.1; have := h3.2.1
      omega
    · have := ih' j (by omega)
      rw [gensTo_get g (by omega)]
      rwa [gensTo_get g (by omega)] at this
/-- the list while node n is reckoned: k of its parents have been looked at -/
def GnD (g : List Nd) (l : List Int) (n : Nat) (P : List Int) (k : Nat) : Prop := l.length = g.length ∧ (∀ j, j < n → l.getD j 0 = (gensTo g n).getD j 0) ∧ l.getD n 0 = mxk (gensTo g n) P k
def GnC (g : List Nd) (l : List Int) (n : Nat) : Prop := l.length = g.length ∧ ∀ j, j < n → l.getD j 0 = (gensTo g n).getD j 0
theorem GnC.start {g : List Nd} {l : List Int} (h : l.length = g.length) : GnC g l 0 := ⟨h, fun j h => by omega⟩
theorem getD_set_same {l : List Int} {n : Nat} (h : n < l.length) (x : Int) : (l.set n x).getD n 0 = x := by simp [List.getD_eq_getElem?_getD, h]
theorem getD_set_ne {l : List Int} {n j : Nat} (h : j ≠ n) (x : Int) : (l.set n x).getD j 0 = l.getD j 0 := by simp [List.getD_eq_getElem?_getD, List.getElem?_set_ne (fun e => h e.symm)]
theorem GnC.one {g : List Nd} {l : List Int} {n : Nat} (h : GnC g l n) (hn : n < g.length) (P : List Int) : GnD g (l.set n 1) n P 0 :=
  ⟨by rw [List.length_set]; exact h.1, fun j hj => by rw [getD_set_ne (by omega)]; exact h.2 j hj, by rw [getD_set_same (by rw [h.1]; exact hn), mxk_zero]⟩
theorem GnD.step {g : List Nd} {l : List Int} {n k : Nat} {P : List Int} (h : GnD g l n P k) (hn : n < g.length) (hk : k < P.length) (hp : P[k].toNat < n) : GnD g (l.set n (max (l.getD n 0) (l.getD P[k].toNat 0 + 1))) n P (k + 1) :=
  ⟨by rw [List.length_set]; exact h.1, fun j hj => by rw [getD_set_ne (by omega)]; exact h.2.1 j hj, by rw [getD_set_same (by rw [h.1]; exact hn), mxk_succ _ hk, h.2.2, h.2.1 _ hp]⟩
theorem GnD.done {g : List Nd} {l : List Int} {n : Nat} {P : List Int} (h : GnD g l n P P.length) (hn : n < g.length) (hP : g[n].1 = P) : GnC g l (n + 1) := by
  refine ⟨h.1, fun j hj => ?_⟩
  by_cases e : j = n
  · subst e
    rw [h.2.2, mxk_all, gensTo_get g (by omega)]
    simp [hn, hP]
  · rw [h.2.1 j (by omega), gensTo_get g (by omega), gensTo_get g (by omega)]
theorem GnC.fin {g : List Nd} {l : List Int} (h : GnC g l g.length) : l = gensL g := by
  apply List.ext_getElem (by rw [h.1]; exact (gensTo_len g _).symm)
  intro k h1 h2
  have := h.2 k (by rw [← h.1]; exact h1)
  have e1 : l.getD k 0 = l[k] := by simp [List.getD_eq_getElem?_getD, h1]
  have e2 : (gensTo g g.length).getD k 0 = (gensL g)[k] := by unfold gensL at h2 ⊢; simp [List.getD_eq_getElem?_getD, h2]
  rw [← e1, ← e2, this]
/-- what stands while node n is reckoned is small -/
theorem GnD.bd {g : List Nd} (hg : okG g) {l : List Int} {n k : Nat} {P : List Int} (h : GnD g l n P k) (hn : n < g.length) (hP : g[n].1 = P) : (1 ≤ l.getD n 0 ∧ l.getD n 0 ≤ 128) ∧ ∀ j, j < n → 1 ≤ l.getD j 0 ∧ l.getD j 0 ≤ 128 := by
  have hl := hg.1
  have h1 := gensTo_bd hg n (by omega)
  refine ⟨?_, fun j hj => ?_⟩
  · rw [h.2.2]
    have := mxk_bd (gensTo g n) P (n + 1) (by omega) (fun p hp => by
      subst hP
      obtain ⟨i, hi, rfl⟩ := List.mem_iff_getElem.1 hp
      have h3 := (hg.2 n hn).2.2.2 i hi
      have := h3.1; have := h3.2.1
      have := (h1 g[n].1[i].toNat (by omega)).2
      omega) k
    omega
  · rw [h.2.1 j hj]
    have := h1 j hj
    omega
end Go.Dag
