/-
  Layer 12: a ref set, a ref dropped, in plain Lean. No program is named here.
-/
import Derived.Test.YtopamnfelngkcaaDoorR24
import Derived.Test.YtopamnfelngkcaaDoorR3
namespace Go.Refs
open Go.Sl Go.Route
/-- what Set gives: the table and an error's number -/
def setF (l : List Rf) (n : List UInt8) (i : Idb) : List Rf × Int :=
  if chk l ≠ 0 then ([], chk l) else if rgt n = false then ([], 15) else
  if hit l n then (l.set (pos l n) ⟨n, i⟩, 0) else if l.length = 64 then ([], 5) else (l.take (pos l n) ++ ⟨n, i⟩ :: l.drop (pos l n), 0)
/-- what Drop gives -/
def dropF (l : List Rf) (n : List UInt8) : List Rf × Int :=
  if chk l ≠ 0 then ([], chk l) else if hit l n then (l.take (pos l n) ++ l.drop (pos l n + 1), 0) else ([], 35)
/-- the table without a name -/
def woF (l : List Rf) (n : List UInt8) : List Rf := l.filter (fun r => decide (r.nm ≠ n))

theorem hit_at {l : List Rf} {n : List UInt8} (h : hit l n = true) : ∃ hp : pos l n < l.length, l[pos l n].nm = n := by
  unfold hit at h
  cases e : l[pos l n]? with
  | none => rw [e] at h; cases h
  | some r =>
    rw [e] at h
    obtain ⟨hp, er⟩ := List.getElem?_eq_some_iff.1 e
    exact ⟨hp, by rw [er]; exact of_decide_eq_true h⟩
theorem hit_no {l : List Rf} {n : List UInt8} (h : hit l n = false) (hp : pos l n < l.length) : l[pos l n].nm ≠ n := by
  rw [hit_of rfl hp] at h
  exact of_decide_eq_false h
theorem above_pos {l : List Rf} (hs : (nms l).Pairwise (· < ·)) {n : List UInt8} {t : Nat} (h : pos l n < t) (ht : t < l.length) : n < l[t].nm := by
  have h1 := rise_lt hs h ht
  have h2 := at_pos l n (by omega)
  rcases List.le_iff_lt_or_eq.1 (List.not_lt.1 h2) with h3 | h3
  · exact List.lt_trans h3 h1
  · rw [h3]; exact h1
theorem take_pos {l : List Rf} {n : List UInt8} : ∀ r ∈ l.take (pos l n), r.nm < n := fun r hr => by
  obtain ⟨k, hk, rfl⟩ := List.getElem_of_mem hr
  rw [List.getElem_take]
  rw [List.length_take] at hk
  exact below_pos l n k (by omega) (by omega)
theorem drop_pos {l : List Rf} (hs : (nms l).Pairwise (· < ·)) {n : List UInt8} : ∀ r ∈ l.drop (pos l n + 1), n < r.nm := fun r hr => by
  obtain ⟨k, hk, rfl⟩ := List.getElem_of_mem hr
  rw [List.getElem_drop]
  rw [List.length_drop] at hk
  exact above_pos hs (by omega) (by omega)
theorem drop_pos' {l : List Rf} (hs : (nms l).Pairwise (· < ·)) {n : List UInt8} (hn : hit l n = false) : ∀ r ∈ l.drop (pos l n), n < r.nm := fun r hr => by
  by_cases hp : pos l n < l.length
  · rw [List.drop_eq_getElem_cons hp] at hr
    rcases List.mem_cons.1 hr with rfl | hr
    · rcases List.le_iff_lt_or_eq.1 (List.not_lt.1 (at_pos l n hp)) with h3 | h3
      · exact h3
      · exact absurd h3.symm (hit_no hn hp)
    · exact drop_pos hs r hr
  · rw [List.drop_of_length_le (by omega)] at hr; cases hr
theorem nm_ne_lt {a b : List UInt8} (h : a < b) : decide (a ≠ b) = true := decide_eq_true (lt_ne h)
theorem nm_ne_gt {a b : List UInt8} (h : b < a) : decide (a ≠ b) = true := decide_eq_true (fun e => lt_ne h e.symm)
theorem wo_hit {l : List Rf} (hs : (nms l).Pairwise (· < ·)) {n : List UInt8} (h : hit l n = true) : woF l n = l.take (pos l n) ++ l.drop (pos l n + 1) := by
  obtain ⟨hp, he⟩ := hit_at h
  unfold woF
  conv => lhs; rw [← List.take_append_drop (pos l n) l]
  rw [List.filter_append, List.drop_eq_getElem_cons hp, List.filter_cons, if_neg (by rw [he]; simp), List.filter_eq_self.2 (fun r hr => nm_ne_lt (take_pos r hr)), List.filter_eq_self.2 (fun r hr => nm_ne_gt (drop_pos hs r hr))]
theorem wo_no {l : List Rf} (hs : (nms l).Pairwise (· < ·)) {n : List UInt8} (h : hit l n = false) : woF l n = l := by
  unfold woF
  refine List.filter_eq_self.2 (fun r hr => ?_)
  rw [← List.take_append_drop (pos l n) l] at hr
  rcases List.mem_append.1 hr with hr | hr
  · exact nm_ne_lt (take_pos r hr)
  · exact nm_ne_gt (drop_pos' hs h r hr)
theorem pos_app {a b : List Rf} {n : List UInt8} (h1 : ∀ r ∈ a, r.nm < n) (h2 : ∀ r ∈ b, n < r.nm) : pos (a ++ b) n = a.length := by
  refine pos_eq _ _ _ (by simp) (fun t ht h => ?_) (fun h hlt => ?_)
  · rw [List.getElem_append_left ht]; exact h1 _ (List.getElem_mem ht)
  · rw [List.getElem_append_right (Nat.le_refl _)] at hlt
    exact List.lt_asymm hlt (h2 _ (List.getElem_mem _))
/-- where a name stands in the table without it -/
theorem pos_wo {l : List Rf} (hs : (nms l).Pairwise (· < ·)) {n : List UInt8} : pos (woF l n) n = pos l n := by
  cases h : hit l n with
  | true =>
    rw [wo_hit hs h, pos_app take_pos (drop_pos hs), List.length_take]
    have := pos_le l n; omega
  | false => rw [wo_no hs h]
theorem wo_len (l : List Rf) (n : List UInt8) : (woF l n).length ≤ l.length := List.length_filter_le _ _
theorem wo_parts {l : List Rf} (hs : (nms l).Pairwise (· < ·)) {n : List UInt8} : (woF l n).take (pos l n) = l.take (pos l n) ∧ (woF l n).drop (pos l n) = if hit l n then l.drop (pos l n + 1) else l.drop (pos l n) := by
  have hp := pos_le l n
  have e : (l.take (pos l n)).length = pos l n := by rw [List.length_take]; omega
  cases h : hit l n with
  | true =>
    rw [wo_hit hs h]
    exact ⟨by rw [List.take_left' e], by rw [List.drop_left' e]; rfl⟩
  | false =>
    rw [wo_no hs h]
    exact ⟨rfl, rfl⟩
/-- Set as the document has it -/
theorem set_doc {l : List Rf} {n : List UInt8} {i : Idb} (h0 : chk l = 0) (hr : rgt n = true) : setF l n i = if (woF l n).length = 64 then ([], 5) else ((woF l n).take (pos l n) ++ ⟨n, i⟩ :: (woF l n).drop (pos l n), 0) := by
  obtain ⟨hl, _, hs⟩ := chk_ok h0
  obtain ⟨e1, e2⟩ := wo_parts hs (n := n)
  unfold setF
  rw [if_neg (by rw [h0]; simp), if_neg (by rw [hr]; simp)]
  cases h : hit l n with
  | true =>
    obtain ⟨hp, he⟩ := hit_at h
    have hw : (woF l n).length = l.length - 1 := by rw [wo_hit hs h, List.length_append, List.length_take, List.length_drop]; omega
    rw [if_pos rfl, if_neg (by omega), e1, e2, h, if_pos rfl]
    rw [List.set_eq_take_append_cons_drop, if_pos hp]
  | false =>
    rw [e1, e2, h, wo_no hs h]
    simp
/-- Drop as the document has it -/
theorem drop_doc {l : List Rf} {n : List UInt8} (h0 : chk l = 0) : dropF l n = if hit l n then (woF l n, 0) else ([], 35) := by
  obtain ⟨hl, _, hs⟩ := chk_ok h0
  unfold dropF
  rw [if_neg (by rw [h0]; simp)]
  cases h : hit l n with
  | true => rw [if_pos rfl, if_pos rfl, wo_hit hs h]
  | false => rfl
end Go.Refs
