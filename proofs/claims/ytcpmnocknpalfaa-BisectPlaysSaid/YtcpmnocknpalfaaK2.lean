/-
  Layer 15, plain: what lies on the pile; what is told is told once. No program is named here, no condition.
-/
import Derived.Test.YtcpmnocknpalfaaK1
namespace Go.Ord
open Go.Dag
set_option linter.unusedVariables false

theorem nodup_rev {α : Type} {l : List α} : l.reverse.Nodup ↔ l.Nodup := by
  unfold List.Nodup
  rw [List.pairwise_reverse]
  exact ⟨fun h => h.imp fun h => h.symm, fun h => h.imp fun h => h.symm⟩
theorem par_nodup {g : List Nd} (hg : okG g) (n : Nat) : (par g n).Nodup := by
  by_cases h : n < g.length
  · rw [par_eq h]
    unfold List.Nodup
    rw [List.pairwise_iff_getElem]
    intro i j hi hj hij
    simp only [List.length_map] at hi hj
    simp only [List.getElem_map]
    have h1 := (hg.2 n h).2.2.2 i (by omega)
    have h2 := (hg.2 n h).2.2.2 j hj
    intro e
    have : g[n].1[i] = g[n].1[j] := by have := h1.1; have := h2.1; omega
    exact h2.2.2 (by rw [← this]; exact List.mem_take_iff_getElem.2 ⟨i, by omega, rfl⟩)
  · have : g[n]? = none := by simp; omega
    simp [par, this]
def PileOk (g : List Nd) (left : Nat → Bool) (pile : List Nat) : Prop := pile.Nodup ∧ ∀ x ∈ pile, x < g.length ∧ rdy g left x = true
theorem rdy_mono {g : List Nd} {left : Nat → Bool} {n x : Nat} (h : rdy g left x = true) (hne : x ≠ n) : rdy g (upd left n false) x = true := by
  rw [rdy_iff] at h ⊢
  refine ⟨by rw [upd_ne _ _ hne]; exact h.1, fun c hc hl => h.2 c hc ?_⟩
  by_cases e : c = n
  · subst e; rw [upd_same] at hl; cases hl
  · rwa [upd_ne _ _ e] at hl
theorem PileOk.step {g : List Nd} (hg : okG g) {left : Nat → Bool} {p : List Nat} {n : Nat} (h : PileOk g left (p ++ [n])) : PileOk g (upd left n false) (p ++ (par g n).reverse.filter (rdy g (upd left n false))) := by
  have hn := h.2 n (by simp)
  obtain ⟨h1, h2, h3⟩ := List.nodup_append.1 h.1
  refine ⟨List.nodup_append.2 ⟨h1, (nodup_rev.2 (par_nodup hg n)).filter _, fun a ha b hb e => ?_⟩, fun x hx => ?_⟩
  · subst e
    have h4 := List.mem_reverse.1 (List.mem_filter.1 hb).1
    exact (rdy_iff.1 (h.2 a (by simp [ha])).2).2 n hn.1 (rdy_iff.1 hn.2).1 h4
  · rcases List.mem_append.1 hx with hx | hx
    · have h5 := h.2 x (by simp [hx])
      refine ⟨h5.1, rdy_mono h5.2 (fun e => ?_)⟩
      exact h3 x hx n (by simp) e
    · have h4 := List.mem_filter.1 hx
      have h6 := par_lt hg n x (List.mem_reverse.1 h4.1)
      exact ⟨by omega, h4.2⟩
/-- what is told was left -/
theorem seqL_mem {rd : (Nat → Bool) → Nat → Bool} (hrd : ∀ left x, rd left x = true → left x = true) {k : Nat → Int} {N : Nat} : ∀ (f : Nat) (left : Nat → Bool) (x : Int), x ∈ seqL rd k N f left → ∃ m : Nat, x = m ∧ m < N ∧ left m = true
  | 0, left, x, h => by simp [seqL] at h
  | f + 1, left, x, h => by
    have e : seqL rd k N (f + 1) left = if yng (rd left) k N < 0 then [] else yng (rd left) k N :: seqL rd k N f (upd left (yng (rd left) k N).toNat false) := rfl
    rw [e] at h
    rcases yng_spec (rd left) k N with ⟨h1, _⟩ | ⟨y, h1, h2, h3, _⟩
    · rw [h1] at h; simp at h
    · rw [h1, if_neg (by omega)] at h
      rcases List.mem_cons.1 h with rfl | h
      · exact ⟨y, rfl, h2, hrd _ _ h3⟩
      · obtain ⟨m, rfl, h4, h5⟩ := seqL_mem hrd f _ x h
        refine ⟨m, rfl, h4, ?_⟩
        rw [Int.toNat_natCast] at h5
        by_cases e : m = y
        · subst e; rw [upd_same] at h5; cases h5
        · rwa [upd_ne _ _ e] at h5
theorem seqL_nodup {rd : (Nat → Bool) → Nat → Bool} (hrd : ∀ left x, rd left x = true → left x = true) {k : Nat → Int} {N : Nat} : ∀ (f : Nat) (left : Nat → Bool), (seqL rd k N f left).Nodup
  | 0, left => by simp [seqL]
  | f + 1, left => by
    have e : seqL rd k N (f + 1) left = if yng (rd left) k N < 0 then [] else yng (rd left) k N :: seqL rd k N f (upd left (yng (rd left) k N).toNat false) := rfl
    rw [e]
    rcases yng_spec (rd left) k N with ⟨h1, _⟩ | ⟨y, h1, h2, h3, _⟩
    · rw [h1]; simp
    · rw [h1, if_neg (by omega)]
      refine List.nodup_cons.2 ⟨fun h => ?_, seqL_nodup hrd f _⟩
      obtain ⟨m, h4, _, h5⟩ := seqL_mem hrd f _ _ h
      obtain rfl : y = m := by omega
      rw [Int.toNat_natCast, upd_same] at h5
      cases h5
theorem id_rd : ∀ (left : Nat → Bool) (x : Nat), id left x = true → left x = true := fun _ _ h => h
theorem rdy_rd (g : List Nd) : ∀ (left : Nat → Bool) (x : Nat), rdy g left x = true → left x = true := fun _ _ h => (rdy_iff.1 h).1
theorem nn_nodup {l : List Int} (h : l.Nodup) (hp : ∀ x ∈ l, 0 ≤ x) : (nn l).Nodup := by
  unfold nn
  induction l with
  | nil => simp
  | cons a l ih =>
    obtain ⟨h1, h2⟩ := List.nodup_cons.1 h
    refine List.nodup_cons.2 ⟨fun hm => ?_, ih h2 (fun x hx => hp x (by simp [hx]))⟩
    obtain ⟨b, hb, e⟩ := List.mem_map.1 hm
    have := hp a (by simp)
    have := hp b (by simp [hb])
    exact h1 (by rwa [show a = b by omega])
/-- those that are ready at first, the oldest first -/
def first (g : List Nd) (k : Nat → Int) (left : Nat → Bool) : List Int := (seqL id k g.length g.length (rdy g left)).reverse
theorem first_mem {g : List Nd} {k : Nat → Int} {left : Nat → Bool} {x : Int} (h : x ∈ first g k left) : ∃ m : Nat, x = m ∧ m < g.length ∧ rdy g left m = true := seqL_mem id_rd _ _ _ (List.mem_reverse.1 h)
theorem first_ok (g : List Nd) (k : Nat → Int) (left : Nat → Bool) : PileOk g left (nn (first g k left)) := by
  refine ⟨nn_nodup (nodup_rev.2 (seqL_nodup id_rd _ _)) (fun x hx => ?_), fun x hx => ?_⟩
  · obtain ⟨m, rfl, _⟩ := first_mem hx; omega
  · obtain ⟨y, hy, rfl⟩ := List.mem_map.1 hx
    obtain ⟨m, rfl, h1, h2⟩ := first_mem hy
    rw [Int.toNat_natCast]; exact ⟨h1, h2⟩
theorem first_in (g : List Nd) (k : Nat → Int) (left : Nat → Bool) : inN g.length (first g k left) := fun x hx => by
  obtain ⟨m, rfl, h1, _⟩ := first_mem hx; omega
theorem first_len (g : List Nd) (k : Nat → Int) (left : Nat → Bool) : (first g k left).length ≤ g.length := by
  unfold first
  rw [List.length_reverse]
  have : ∀ (f : Nat) (left : Nat → Bool), (seqL id k g.length f left).length ≤ f := by
    intro f
    induction f with
    | zero => intro left; simp [seqL]
    | succ f ih =>
      intro left
      show (ite _ _ _ : List Int).length ≤ _
      split
      · simp
      · simp; exact ih _
  exact this _ _
theorem nn_cast (l : List Nat) : nn (l.map fun (x : Nat) => (x : Int)) = l := by
  unfold nn
  rw [List.map_map]
  exact (List.map_congr_left fun x _ => by simp).trans (List.map_id l)
/-- what is told from a pile that is right, a step -/
theorem topo_go {g : List Nd} (hg : okG g) {left : Nat → Bool} {p : List Nat} {n f : Nat} (h : PileOk g left (p ++ [n])) (hc : cnt left g.length ≤ f) : ∃ f', f = f' + 1 ∧ cnt (upd left n false) g.length ≤ f' ∧
    topoL g f left (p ++ [n]) = (n : Int) :: topoL g f' (upd left n false) (p ++ (par g n).reverse.filter (rdy g (upd left n false))) := by
  have h0 := h.2 n (by simp)
  have h1 := cnt_upd h0.1 (rdy_iff.1 h0.2).1
  obtain ⟨f', rfl⟩ : ∃ f', f = f' + 1 := ⟨f - 1, by omega⟩
  exact ⟨f', rfl, by omega, topoL_snoc _ _ _ _ _⟩
theorem nodup_len : ∀ {N : Nat} {l : List Nat}, l.Nodup → (∀ x ∈ l, x < N) → l.length ≤ N
  | 0, l, _, h => by cases l with
    | nil => simp
    | cons a l => exact absurd (h a (by simp)) (by omega)
  | N + 1, l, hd, h => by
    by_cases hm : N ∈ l
    · have h1 := nodup_len (N := N) (hd.erase N) (fun x hx => by
        have h2 := (List.Nodup.mem_erase_iff hd).1 hx
        have := h x h2.2
        omega)
      rw [List.length_erase_of_mem hm] at h1
      omega
    · have := nodup_len (N := N) hd (fun x hx => by
        have := h x hx
        have : x ≠ N := fun e => hm (e ▸ hx)
        omega)
      omega
theorem PileOk.len {g : List Nd} {left : Nat → Bool} {p : List Nat} (h : PileOk g left p) : p.length ≤ g.length := nodup_len h.1 (fun x hx => (h.2 x hx).1)
def cs (l : List Nat) : List Int := l.map fun (x : Nat) => (x : Int)
theorem cs_len (l : List Nat) : (cs l).length = l.length := by simp [cs]
theorem cs_append (l m : List Nat) : cs (l ++ m) = cs l ++ cs m := by simp [cs]
theorem cs_nn {l : List Int} (h : ∀ x ∈ l, 0 ≤ x) : cs (nn l) = l := by
  unfold cs nn
  rw [List.map_map]
  exact (List.map_congr_left fun x hx => by have := h x hx; simp; omega).trans (List.map_id l)
end Go.Ord
