/-
  Layer 5 in plain words: a path's parts, names, directories. No program is named here.
-/
import Derived.Lib.SplitLaws
import Derived.Lib.Split
import Derived.Lib.LastIndexByte
namespace Go.Route

/-- what stands between strokes, 'now' having come of the first -/
def spl (now : List UInt8) : List UInt8 → List (List UInt8)
  | [] => [now]
  | c :: l => if c = 47 then now :: spl [] l else spl (now ++ [c]) l
def parts (l : List UInt8) : List (List UInt8) := if l = [] then [] else spl [] l

theorem spl_ne (now l : List UInt8) : spl now l ≠ [] := by
  induction l generalizing now with
  | nil => simp [spl]
  | cons c l ih => unfold spl; split <;> simp [ih]
theorem spl_len (now l : List UInt8) : (spl now l).length = l.count 47 + 1 := by
  induction l generalizing now with
  | nil => simp [spl]
  | cons c l ih =>
    unfold spl
    by_cases h : c = 47
    · subst h; simp [ih]
    · simp [h, ih]
theorem parts_len_le (l : List UInt8) : (parts l).length ≤ l.length + 1 := by
  unfold parts
  split
  · simp
  · rw [spl_len]; have := List.count_le_length (a := (47 : UInt8)) (l := l); omega
theorem spl_none {l : List UInt8} (h : ¬ (47 : UInt8) ∈ l) (now : List UInt8) : spl now l = [now ++ l] := by
  induction l generalizing now with
  | nil => simp [spl]
  | cons c l ih =>
    simp only [List.mem_cons, not_or] at h
    unfold spl
    rw [if_neg (Ne.symm h.1), ih h.2]; simp
theorem spl_hit {u : List UInt8} (h : ¬ (47 : UInt8) ∈ u) (v now : List UInt8) : spl now (u ++ 47 :: v) = (now ++ u) :: spl [] v := by
  induction u generalizing now with
  | nil => simp [spl]
  | cons c u ih =>
    simp only [List.mem_cons, not_or] at h
    rw [List.cons_append, spl, if_neg (Ne.symm h.1), ih h.2]; simp
theorem cut_at {s : List UInt8} {i : Nat} (h : s[i]? = some 47) (hn : ∀ k, k < i → s[k]? ≠ some 47) : s = s.take i ++ 47 :: s.drop (i + 1) ∧ ¬ (47 : UInt8) ∈ s.take i := by
  obtain ⟨hi, hx⟩ := List.getElem?_eq_some_iff.1 h
  refine ⟨?_, fun hm => ?_⟩
  · conv => lhs; rw [← List.take_append_drop i s, List.drop_eq_getElem_cons hi, hx]
  · obtain ⟨k, hk, hx⟩ := List.mem_iff_getElem.1 hm
    rw [List.length_take] at hk
    rw [List.getElem_take] at hx
    exact hn k (by omega) (by rw [List.getElem?_eq_getElem (by omega), hx])
theorem splitK_spl : ∀ (n : Nat) (s : List UInt8), s.length ≤ n → Lib.splitK [47] 0 (s.count 47) s = spl [] s := by
  intro n
  induction n with
  | zero =>
    intro s h
    have : s = [] := List.eq_nil_of_length_eq_zero (by omega)
    subst this; rfl
  | succ n ih =>
    intro s h
    by_cases hi : Lib.indexByte s 47 = -1
    · have hn : ¬ (47 : UInt8) ∈ s := fun hm => by
        obtain ⟨k, hk, hx⟩ := List.mem_iff_getElem.1 hm
        exact Lib.indexByte_none hi k (by rw [List.getElem?_eq_getElem hk, hx])
      rw [List.count_eq_zero.2 hn, spl_none hn]; rfl
    · obtain ⟨i, hi'⟩ : ∃ i : Nat, Lib.indexByte s 47 = i := ⟨(Lib.indexByte s 47).toNat, by have := Lib.indexByte_ge s 47; omega⟩
      obtain ⟨h1, h2⟩ := Lib.indexByte_some hi'
      obtain ⟨h3, h4⟩ := cut_at h1 h2
      have hc : s.count 47 = (s.drop (i + 1)).count 47 + 1 := by
        conv => lhs; rw [h3]
        rw [List.count_append, List.count_eq_zero.2 h4]; simp
      have hlt := (List.getElem?_eq_some_iff.1 h1).1
      rw [hc]
      have hb : (Lib.index s [47] == -1) = false := by rw [Lib.index_one, hi']; simp
      rw [Lib.splitK, hb]
      simp only [Bool.false_eq_true, if_false, Lib.index_one, hi', Int.toNat_natCast, Nat.add_zero, List.length_singleton]
      rw [ih _ (by rw [List.length_drop]; omega)]
      conv => rhs; rw [h3]
      rw [spl_hit h4]; simp
theorem split_spl (s : List UInt8) : Lib.split s [47] = spl [] s := by
  unfold Lib.split
  rw [Lib.count_one]; exact splitK_spl _ s (Nat.le_refl _)

/-- may all bytes be seen? -/
def vis (l : List UInt8) : Bool := l.all fun c => decide (33 ≤ c.toNat) && decide (c.toNat ≤ 126)
/-- is a text a name? -/
def nam (l : List UInt8) : Bool := decide (1 ≤ l.length) && decide (l.length ≤ 32) && vis l && decide (¬ (47 : UInt8) ∈ l) && decide (l ≠ [46]) && decide (l ≠ [46, 46])
/-- is it a path? -/
def rgt (l : List UInt8) : Bool := decide (1 ≤ l.length) && decide (l.length ≤ 120) && (parts l).all nam && decide ((parts l).length ≤ 6)
/-- is it a pattern? -/
def pat (l : List UInt8) : Bool := decide (1 ≤ l.length) && decide (l.length ≤ 120) && vis l && (parts l).all (fun p => decide (p ≠ [])) && decide ((parts l).length ≤ 8)
def jn (d n : List UInt8) : List UInt8 := if d = [] then n else d ++ 47 :: n
theorem parts_one {l : List UInt8} (h : l ≠ []) : (parts l).length = 1 ↔ ¬ (47 : UInt8) ∈ l := by
  unfold parts
  rw [if_neg h, spl_len]
  constructor
  · intro h1; exact List.count_eq_zero.1 (by omega)
  · intro h1; rw [List.count_eq_zero.2 h1]
theorem parts_pos {l : List UInt8} (h : l ≠ []) : 1 ≤ (parts l).length := by
  unfold parts; rw [if_neg h, spl_len]; omega

/-! ### the last stroke -/
/-- the place behind the last stroke; 0: there is none -/
def lastB : List UInt8 → Nat
  | [] => 0
  | c :: l => if lastB l = 0 then (if c = 47 then 1 else 0) else lastB l + 1
theorem lastB_le (l : List UInt8) : lastB l ≤ l.length := by
  induction l with
  | nil => exact Nat.le_refl _
  | cons c l ih => unfold lastB; split <;> (try split) <;> simp <;> omega
theorem lastB_none {l : List UInt8} (h : ∀ k (h : k < l.length), l[k] ≠ 47) : lastB l = 0 := by
  induction l with
  | nil => rfl
  | cons c l ih =>
    have h0 := h 0 (by simp)
    have h1 := ih (fun k hk => by have := h (k + 1) (by simpa using hk); simpa using this)
    unfold lastB
    rw [if_pos h1, if_neg (by simpa using h0)]
theorem lastB_at {l : List UInt8} : ∀ {i : Nat} (hi : i < l.length), l[i] = 47 → (∀ k (h : k < l.length), i < k → l[k] ≠ 47) → lastB l = i + 1 := by
  induction l with
  | nil => intro i hi; simp at hi
  | cons c l ih =>
    intro i hi h1 h2
    cases i with
    | zero =>
      have : lastB l = 0 := lastB_none (fun k hk => by have := h2 (k + 1) (by simpa using hk) (by omega); simpa using this)
      unfold lastB
      rw [if_pos this, if_pos (by simpa using h1)]
    | succ i =>
      have := ih (i := i) (by simpa using hi) (by simpa using h1) (fun k hk hik => by have := h2 (k + 1) (by simpa using hk) (by omega); simpa using this)
      unfold lastB
      rw [this, if_neg (by omega)]
theorem lastB_spec (l : List UInt8) : (lastB l = 0 ∧ ∀ k (h : k < l.length), l[k] ≠ 47) ∨ (∃ i, lastB l = i + 1 ∧ ∃ hi : i < l.length, l[i] = 47 ∧ ∀ k (h : k < l.length), i < k → l[k] ≠ 47) := by
  induction l with
  | nil => left; exact ⟨rfl, fun k h => by simp at h⟩
  | cons c l ih =>
    rcases ih with ⟨h1, h2⟩ | ⟨i, h1, hi, h2, h3⟩
    · by_cases hc : c = 47
      · right
        refine ⟨0, by unfold lastB; rw [if_pos h1, if_pos hc], by simp, by simpa using hc, fun k hk hk0 => ?_⟩
        obtain ⟨k, rfl⟩ : ∃ q, k = q + 1 := ⟨k - 1, by omega⟩
        have := h2 k (by simpa using hk); simpa using this
      · left
        refine ⟨by unfold lastB; rw [if_pos h1, if_neg hc], fun k hk => ?_⟩
        cases k with
        | zero => simpa using hc
        | succ k => have := h2 k (by simpa using hk); simpa using this
    · right
      refine ⟨i + 1, by unfold lastB; rw [h1, if_neg (by omega)], by simpa using hi, by simpa using h2, fun k hk hik => ?_⟩
      obtain ⟨k, rfl⟩ : ∃ q, k = q + 1 := ⟨k - 1, by omega⟩
      have := h3 k (by simpa using hk) (by omega); simpa using this
/-- what stands ahead of the last stroke -/
def dirOf (l : List UInt8) : List UInt8 := l.take (lastB l - 1)
/-- what stands behind it -/
def baseOf (l : List UInt8) : List UInt8 := l.drop (lastB l)
def und (s d : List UInt8) : Bool := decide (d = []) || decide (s = d) || (decide (d.length < s.length) && decide (s.take d.length = d) && decide (s[d.length]? = some 47))
end Go.Route
