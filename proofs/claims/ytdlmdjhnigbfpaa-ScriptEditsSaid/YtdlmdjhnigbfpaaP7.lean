/-
  The edits of right pairs make one text of the other; undone they lead back. Plain: no program in sight.
-/
import Derived.Test.YtdlmdjhnigbfpaaP3
import Derived.Test.YtdlmdjhnigbfpaaP6
namespace Go.Scr
variable {α : Type}

/-- the edit of a hunk -/
def edOf (a b : List α) (h : Int × Int × Int × Int) : Ed α := (h.1, (a.drop h.1.toNat).take h.2.1.toNat, (b.drop h.2.2.1.toNat).take h.2.2.2.toNat)
def edits (a b : List α) (l : List (Int × Int)) : List (Ed α) := (hunks a.length b.length l).map (edOf a b)
/-- are pairs' things one? -/
def One (a b : List α) (l : List (Int × Int)) : Prop := ∀ p ∈ l, a[p.1.toNat]? = b[p.2.toNat]?

def Within (n m : Int) (h : Int × Int × Int × Int) : Prop := 0 ≤ h.1 ∧ 0 ≤ h.2.1 ∧ h.1 + h.2.1 ≤ n ∧ 0 ≤ h.2.2.1 ∧ 0 ≤ h.2.2.2 ∧ h.2.2.1 + h.2.2.2 ≤ m

theorem hk_within {n m : Int} : ∀ (l : List (Int × Int)) (x y : Int), 0 ≤ x → 0 ≤ y → x ≤ n → y ≤ m → okF n m (x - 1) (y - 1) l = true → ∀ h ∈ hk x y (l ++ [(n, m)]), Within n m h := by
  intro l
  induction l with
  | nil =>
    intro x y hx hy hxn hym _ h hh
    simp only [List.nil_append, hk] at hh
    split at hh
    · simp only [List.append_nil, List.mem_singleton] at hh
      subst hh
      refine ⟨hx, ?_, ?_, hy, ?_, ?_⟩ <;> simp only <;> omega
    · simp at hh
  | cons p l ih =>
    intro x y hx hy hxn hym hok h hh
    unfold okF at hok
    split at hok
    · cases hok
    · rename_i hp
      simp only [List.cons_append, hk] at hh
      rcases List.mem_append.1 hh with hh | hh
      · split at hh
        · simp only [List.mem_singleton] at hh
          subst hh
          refine ⟨hx, ?_, ?_, hy, ?_, ?_⟩ <;> simp only <;> omega
        · simp at hh
      · exact ih (p.1 + 1) (p.2 + 1) (by omega) (by omega) (by omega) (by omega) (by rw [show p.1 + 1 - 1 = p.1 by omega, show p.2 + 1 - 1 = p.2 by omega]; exact hok) h hh
theorem hunks_within {n m : Int} {l : List (Int × Int)} (h : chk n m l = 0) : ∀ x ∈ hunks n m l, Within n m x := by
  obtain ⟨h1, h2⟩ := chk_zero h
  obtain ⟨a1, a2, a3, a4⟩ := sz_bound h1
  exact hk_within l 0 0 (by omega) (by omega) (by omega) (by omega) (by simpa using h2)

theorem take_drop_take (a : List α) {p x : Nat} (h : p ≤ x) : a.take p ++ (a.drop p).take (x - p) = a.take x := by
  rw [← List.take_append_drop p (a.take x), List.take_take, Nat.min_eq_left h, List.drop_take]

theorem fit_edOf [DecidableEq α] (a b : List α) {x A y B : Nat} (h : x + A ≤ a.length) : unfit a (edOf a b ((x : Int), (A : Int), (y : Int), (B : Int))) = false := by
  unfold unfit edOf
  refine decide_eq_false ?_
  simp only [Int.toNat_natCast, List.length_take, List.length_drop]
  rintro (e | e | e)
  · omega
  · omega
  · exact e (by rw [Nat.min_eq_left (by omega)])

theorem doE_edits [DecidableEq α] (a b : List α) : ∀ (l : List (Int × Int)) (x y p : Nat) (out : List α), x ≤ a.length → y ≤ b.length → p ≤ x → out ++ (a.drop p).take (x - p) = b.take y →
    okF a.length b.length ((x : Int) - 1) ((y : Int) - 1) l = true → One a b l → doE a p out ((hk x y (l ++ [((a.length : Int), (b.length : Int))])).map (edOf a b)) = some b := by
  intro l
  induction l with
  | nil =>
    intro x y p out hx hy hp ho _ _
    simp only [List.nil_append, hk]
    split
    · have e1 : ((a.length : Int) - x) = ((a.length - x : Nat) : Int) := by omega
      have e2 : ((b.length : Int) - y) = ((b.length - y : Nat) : Int) := by omega
      rw [e1, e2]
      simp only [List.append_nil, List.map_cons, List.map_nil, doE]
      rw [if_neg (by rw [fit_edOf a b (by omega)]; simp)]
      simp only [edOf, Int.toNat_natCast]
      rw [ho, take_drop_take b (by omega), List.length_take, List.length_drop, Nat.min_self, List.drop_eq_nil_of_le (by omega)]
      simp
    · have hxn : x = a.length := by omega
      have hyn : y = b.length := by omega
      simp only [List.append_nil, List.map_nil, doE]
      subst hxn hyn
      rw [List.take_of_length_le (by simp), List.take_length] at ho
      rw [ho]
  | cons q l ih =>
    intro x y p out hx hy hp ho hok hone
    unfold okF at hok
    split at hok
    · cases hok
    · rename_i hq
      obtain ⟨q1, h1⟩ := Int.eq_ofNat_of_zero_le (show 0 ≤ q.1 by omega)
      obtain ⟨q2, h2⟩ := Int.eq_ofNat_of_zero_le (show 0 ≤ q.2 by omega)
      have hq1 : q1 < a.length := by omega
      have hq2 : q2 < b.length := by omega
      have hab : a[q1] = b[q2] := by
        have := hone q (by simp)
        rw [h1, h2] at this
        simpa [hq1, hq2] using this
      have hone' : One a b l := fun z hz => hone z (by simp [hz])
      have hnext : ∀ (p' : Nat) (out' : List α), p' ≤ q1 → out' ++ (a.drop p').take (q1 - p') = b.take q2 →
          doE a p' out' ((hk (q.1 + 1) (q.2 + 1) (l ++ [((a.length : Int), (b.length : Int))])).map (edOf a b)) = some b := by
        intro p' out' hp' ho'
        have := ih (q1 + 1) (q2 + 1) p' out' (by omega) (by omega) (by omega) (by
          rw [show q1 + 1 - p' = (q1 - p') + 1 by omega, List.take_succ_eq_append_getElem (by simp; omega), ← List.append_assoc, ho', List.take_succ_eq_append_getElem hq2, ← hab]
          congr 2
          rw [List.getElem_drop]
          congr 1; omega) (by rw [show ((q1 + 1 : Nat) : Int) - 1 = q.1 by omega, show ((q2 + 1 : Nat) : Int) - 1 = q.2 by omega]; exact hok) hone'
        rw [show ((q1 + 1 : Nat) : Int) = q.1 + 1 by omega, show ((q2 + 1 : Nat) : Int) = q.2 + 1 by omega] at this
        exact this
      simp only [List.cons_append, hk]
      split
      · have e1 : (q.1 - (x : Int)) = ((q1 - x : Nat) : Int) := by omega
        have e2 : (q.2 - (y : Int)) = ((q2 - y : Nat) : Int) := by omega
        rw [e1, e2]
        simp only [List.singleton_append, List.map_cons, doE]
        rw [if_neg (by rw [fit_edOf a b (by omega)]; simp)]
        have hlen : (edOf a b ((x : Int), ((q1 - x : Nat) : Int), (y : Int), ((q2 - y : Nat) : Int))).2.1.length = q1 - x := by simp [edOf]; omega
        rw [hlen]
        simp only [edOf, Int.toNat_natCast]
        rw [ho, take_drop_take b (by omega), show x + (q1 - x) = q1 by omega]
        exact hnext q1 (b.take q2) (Nat.le_refl _) (by simp)
      · have hx1 : q1 = x := by omega
        have hy1 : q2 = y := by omega
        rw [List.nil_append]
        exact hnext p out (by omega) (by rw [hx1, hy1]; exact ho)

theorem ord_edits (a b : List α) : ∀ (l : List (Int × Int)) (x y e : Int), e ≤ x → 0 ≤ x → x ≤ a.length → okF a.length b.length (x - 1) (y - 1) l = true → ordF e ((hk x y (l ++ [((a.length : Int), (b.length : Int))])).map (edOf a b)) = true := by
  intro l
  induction l with
  | nil =>
    intro x y e he hx hxn _
    simp only [List.nil_append, hk]
    split
    · simp only [List.append_nil, List.map_cons, List.map_nil, ordF, edOf]
      rw [if_neg (by omega)]
    · rfl
  | cons q l ih =>
    intro x y e he hx hxn hok
    unfold okF at hok
    split at hok
    · cases hok
    · rename_i hq
      have hr : ∀ e', e' ≤ q.1 + 1 → ordF e' ((hk (q.1 + 1) (q.2 + 1) (l ++ [((a.length : Int), (b.length : Int))])).map (edOf a b)) = true := fun e' he' =>
        ih (q.1 + 1) (q.2 + 1) e' he' (by omega) (by omega) (by rw [show q.1 + 1 - 1 = q.1 by omega, show q.2 + 1 - 1 = q.2 by omega]; exact hok)
      simp only [List.cons_append, hk]
      split
      · simp only [List.singleton_append, List.map_cons, ordF, edOf]
        rw [if_neg (by omega)]
        refine hr _ ?_
        simp only [List.length_take, List.length_drop]
        omega
      · rw [List.nil_append]; exact hr e (by omega)

theorem apply_edits [DecidableEq α] {a b : List α} {l : List (Int × Int)} (hc : chk a.length b.length l = 0) (h : One a b l) : applyF a (edits a b l) = .ok b := by
  obtain ⟨h1, h2⟩ := chk_zero hc
  have h3 := ord_edits a b l 0 0 0 (by omega) (by omega) (by omega) (by simpa using h2)
  have h4 := doE_edits a b l 0 0 0 [] (by omega) (by omega) (by omega) (by simp) (by simpa using h2) h
  unfold applyF edits hunks
  rw [h3, if_pos rfl]
  simp only [Int.ofNat_zero] at h4
  rw [h4]

/-! ### undone -/
def undoF : Int → List (Ed α) → List (Ed α)
  | _, [] => []
  | m, x :: l => (x.1 + m, x.2.2, x.2.1) :: undoF (m + ((x.2.2.length : Int) - x.2.1.length)) l
def swap (p : Int × Int) : Int × Int := (p.2, p.1)
def swapH (h : Int × Int × Int × Int) : Int × Int × Int × Int := (h.2.2.1, h.2.2.2, h.1, h.2.1)
theorem hk_swap : ∀ (l : List (Int × Int)) (x y : Int), hk y x (l.map swap) = (hk x y l).map swapH := by
  intro l
  induction l with
  | nil => intro x y; rfl
  | cons p l ih =>
    intro x y
    simp only [List.map_cons, hk, List.map_append, swap, ih]
    congr 1
    by_cases h : x < p.1 ∨ y < p.2
    · rw [if_pos h, if_pos (by omega)]; rfl
    · rw [if_neg h, if_neg (by omega)]; rfl
theorem okF_swap {n m : Int} : ∀ (l : List (Int × Int)) (x y : Int), okF m n y x (l.map swap) = okF n m x y l := by
  intro l
  induction l with
  | nil => intro x y; rfl
  | cons p l ih =>
    intro x y
    simp only [List.map_cons, okF, swap, ih]
    by_cases h : p.1 ≤ x ∨ p.2 ≤ y ∨ n ≤ p.1 ∨ m ≤ p.2
    · rw [if_pos h, if_pos (by omega)]
    · rw [if_neg h, if_neg (by omega)]
theorem chk_swap {n m : Int} (l : List (Int × Int)) : chk m n (l.map swap) = chk n m l := by
  unfold chk
  rw [okF_swap]
  have : sz m n = sz n m := by unfold sz; rw [decide_eq_decide]; omega
  rw [this]
theorem undo_hk (a b : List α) : ∀ (l : List (Int × Int)) (x y : Int), 0 ≤ x → 0 ≤ y → x ≤ a.length → y ≤ b.length → okF a.length b.length (x - 1) (y - 1) l = true →
    undoF (y - x) ((hk x y (l ++ [((a.length : Int), (b.length : Int))])).map (edOf a b)) = ((hk x y (l ++ [((a.length : Int), (b.length : Int))])).map swapH).map (edOf b a) := by
  intro l
  induction l with
  | nil =>
    intro x y hx hy hxn hyn _
    simp only [List.nil_append, hk]
    split
    · simp only [List.append_nil, List.map_cons, List.map_nil, undoF, edOf, swapH]
      rw [show x + (y - x) = y by omega]
    · rfl
  | cons q l ih =>
    intro x y hx hy hxn hyn hok
    unfold okF at hok
    split at hok
    · cases hok
    · rename_i hq
      have hr := ih (q.1 + 1) (q.2 + 1) (by omega) (by omega) (by omega) (by omega) (by rw [show q.1 + 1 - 1 = q.1 by omega, show q.2 + 1 - 1 = q.2 by omega]; exact hok)
      simp only [List.cons_append, hk]
      split
      · simp only [List.singleton_append, List.map_cons, undoF]
        congr 1
        · simp only [edOf, swapH]
          rw [show x + (y - x) = y by omega]
        · rw [← hr]
          congr 1
          simp only [edOf, List.length_take, List.length_drop]
          omega
      · rw [List.nil_append, ← hr]
        congr 1
        omega
theorem undo_edits [DecidableEq α] {a b : List α} {l : List (Int × Int)} (hc : chk a.length b.length l = 0) (h : One a b l) : applyF b (undoF 0 (edits a b l)) = .ok a := by
  obtain ⟨h1, h2⟩ := chk_zero hc
  have e : undoF 0 (edits a b l) = edits b a (l.map swap) := by
    have := undo_hk a b l 0 0 (by omega) (by omega) (by omega) (by omega) (by simpa using h2)
    unfold edits hunks
    rw [show (0 : Int) - 0 = 0 by omega] at this
    rw [this, ← hk_swap]
    simp [swap]
  rw [e]
  refine apply_edits (by rw [chk_swap]; exact hc) ?_
  intro p hp
  obtain ⟨q, hq, rfl⟩ := List.mem_map.1 hp
  exact (h q hq).symm
end Go.Scr
namespace Go.Scr
variable {α : Type}
/-- the error of edits -/
noncomputable def alk [DecidableEq α] (a b : List α) (l : List (Int × Int)) : Int := open Classical in if chk a.length b.length l = 0 then (if One a b l then 0 else 2) else 12
theorem alk_bad [DecidableEq α] {a b : List α} {l : List (Int × Int)} (h : chk a.length b.length l ≠ 0) : alk a b l = 12 := by unfold alk; rw [if_neg h]
theorem alk_zero [DecidableEq α] {a b : List α} {l : List (Int × Int)} (h : chk a.length b.length l = 0) (h1 : One a b l) : alk a b l = 0 := by unfold alk; rw [if_pos h, if_pos h1]
theorem alk_two [DecidableEq α] {a b : List α} {l : List (Int × Int)} (h : chk a.length b.length l = 0) (h1 : ¬ One a b l) : alk a b l = 2 := by unfold alk; rw [if_pos h, if_neg h1]
theorem alk_cases [DecidableEq α] (a b : List α) (l : List (Int × Int)) : (alk a b l = 0 ∧ chk a.length b.length l = 0 ∧ One a b l) ∨ (alk a b l = 2) ∨ (alk a b l = 12) := by
  unfold alk
  split
  · split
    · exact .inl ⟨rfl, by assumption, by assumption⟩
    · exact .inr (.inl rfl)
  · exact .inr (.inr rfl)
theorem One.nil (a b : List α) : One a b [] := by intro p hp; cases hp
theorem One.snoc {a b : List α} {l : List (Int × Int)} {k : Nat} (h : One a b (l.take k)) (hk : k < l.length) (e : a[l[k].1.toNat]? = b[l[k].2.toNat]?) : One a b (l.take (k + 1)) := by
  intro p hp
  rw [List.take_succ_eq_append_getElem hk] at hp
  rcases List.mem_append.1 hp with hp | hp
  · exact h p hp
  · obtain rfl : p = l[k] := by simpa using hp
    exact e
theorem edits_len_take (a b : List α) (h : List (Int × Int × Int × Int)) (k : Nat) : ((h.take k).map (edOf a b)).length = min k h.length := by simp
end Go.Scr
