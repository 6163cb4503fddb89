/-
  A word that stands for a part, in plain words: by its ends, and greedily from star to star. No program is named here.
-/
namespace Go.Route

/-- f of some end of l -/
def star {α : Type} (f : List α → Bool) : List α → Bool
  | [] => f []
  | d :: s => f (d :: s) || star f s
theorem star_iff {α : Type} {f : List α → Bool} {l : List α} : star f l = true ↔ ∃ k, k ≤ l.length ∧ f (l.drop k) = true := by
  induction l with
  | nil =>
    unfold star
    constructor
    · intro h; exact ⟨0, Nat.le_refl _, h⟩
    · rintro ⟨k, _, h⟩; simpa using h
  | cons d s ih =>
    unfold star
    rw [Bool.or_eq_true, ih]
    constructor
    · rintro (h | ⟨k, hk, h⟩)
      · exact ⟨0, Nat.zero_le _, h⟩
      · exact ⟨k + 1, by simpa using hk, by simpa using h⟩
    · rintro ⟨k, hk, h⟩
      cases k with
      | zero => exact .inl h
      | succ k => exact .inr ⟨k, by simpa using hk, by simpa using h⟩
/-- does a word stand for a part? -/
def glob : List UInt8 → List UInt8 → Bool
  | [], s => s.isEmpty
  | c :: w, s => if c = 42 then star (glob w) s else match s with
    | [] => false
    | d :: s => decide (c = 63 ∨ c = d) && glob w s
theorem glob_star (w s : List UInt8) : glob (42 :: w) s = star (glob w) s := by cases s <;> simp [glob]
theorem glob_star_nil (w : List UInt8) : glob (42 :: w) [] = glob w [] := by rw [glob_star]; rfl
theorem glob_star_cons (w s : List UInt8) (d : UInt8) : glob (42 :: w) (d :: s) = (glob w (d :: s) || glob (42 :: w) s) := by rw [glob_star, glob_star]; rfl
theorem glob_lit {c : UInt8} (hc : c ≠ 42) (w s : List UInt8) (d : UInt8) : glob (c :: w) (d :: s) = (decide (c = 63 ∨ c = d) && glob w s) := by rw [glob, if_neg hc]
theorem glob_lit_nil {c : UInt8} (hc : c ≠ 42) (w : List UInt8) : glob (c :: w) [] = false := by rw [glob, if_neg hc]
theorem glob_nil_cons (d : UInt8) (s : List UInt8) : glob [] (d :: s) = false := rfl

/-- a word without stars against as many bytes -/
def mt : List UInt8 → List UInt8 → Bool
  | [], [] => true
  | c :: b, d :: x => decide (c ≠ 42) && decide (c = 63 ∨ c = d) && mt b x
  | _, _ => false
theorem mt_len : ∀ {b x : List UInt8}, mt b x = true → b.length = x.length
  | [], [], _ => rfl
  | [], _ :: _, h => by simp [mt] at h
  | _ :: _, [], h => by simp [mt] at h
  | c :: b, d :: x, h => by
    simp only [mt, Bool.and_eq_true] at h
    simp [mt_len h.2]
theorem mt_snoc : ∀ {b x : List UInt8} {c d : UInt8}, mt b x = true → c ≠ 42 → (c = 63 ∨ c = d) → mt (b ++ [c]) (x ++ [d]) = true
  | [], [], c, d, _, h1, h2 => by simp [mt, h1, h2]
  | [], _ :: _, _, _, h, _, _ => by simp [mt] at h
  | _ :: _, [], _, _, h, _, _ => by simp [mt] at h
  | e :: b, f :: x, c, d, h, h1, h2 => by
    simp only [mt, Bool.and_eq_true] at h
    simp only [List.cons_append, mt, Bool.and_eq_true]
    exact ⟨h.1, mt_snoc h.2 h1 h2⟩
theorem glob_block : ∀ {b x : List UInt8}, mt b x = true → ∀ w s, glob (b ++ w) (x ++ s) = glob w s
  | [], [], _, w, s => rfl
  | [], _ :: _, h, _, _ => by simp [mt] at h
  | _ :: _, [], h, _, _ => by simp [mt] at h
  | c :: b, d :: x, h, w, s => by
    simp only [mt, Bool.and_eq_true, decide_eq_true_eq] at h
    rw [List.cons_append, List.cons_append, glob_lit h.1.1, glob_block h.2, decide_eq_true h.1.2, Bool.true_and]
/-- b bears no star -/
def noStar (b : List UInt8) : Prop := ∀ c ∈ b, c ≠ 42
theorem mt_noStar : ∀ {b x : List UInt8}, mt b x = true → noStar b
  | [], [], _ => fun _ h => by simp at h
  | [], _ :: _, h => by simp [mt] at h
  | _ :: _, [], h => by simp [mt] at h
  | c :: b, d :: x, h => by
    simp only [mt, Bool.and_eq_true, decide_eq_true_eq] at h
    intro e he
    rcases List.mem_cons.1 he with rfl | he
    · exact h.1.1
    · exact mt_noStar h.2 e he
theorem glob_take : ∀ {b : List UInt8}, noStar b → ∀ {w t : List UInt8}, glob (b ++ w) t = true → ∃ x s, t = x ++ s ∧ mt b x = true ∧ glob w s = true
  | [], _, w, t, h => ⟨[], t, rfl, rfl, h⟩
  | c :: b, hb, w, t, h => by
    have hc := hb c (by simp)
    cases t with
    | nil => rw [List.cons_append, glob_lit_nil hc] at h; cases h
    | cons d t =>
      rw [List.cons_append, glob_lit hc, Bool.and_eq_true, decide_eq_true_eq] at h
      obtain ⟨x, s, rfl, h1, h2⟩ := glob_take (fun e he => hb e (by simp [he])) h.2
      exact ⟨d :: x, s, rfl, by simp [mt, hc, h.1, h1], h2⟩
theorem star_mono {w t : List UInt8} (y : List UInt8) (h : glob (42 :: w) t = true) : glob (42 :: w) (y ++ t) = true := by
  rw [glob_star, star_iff] at h ⊢
  obtain ⟨k, hk, h⟩ := h
  refine ⟨y.length + k, by simp; omega, ?_⟩
  rw [List.drop_append, List.drop_eq_nil_of_le (by omega), List.nil_append, Nat.add_sub_cancel_left]
  exact h
/-- behind a block that has matched, the next star alone counts -/
theorem glob_next {b x : List UInt8} (h : mt b x = true) (w s : List UInt8) : glob (42 :: (b ++ 42 :: w)) (x ++ s) = glob (42 :: w) s := by
  rw [Bool.eq_iff_iff]
  constructor
  · intro h1
    rw [glob_star, star_iff] at h1
    obtain ⟨k, hk, h1⟩ := h1
    obtain ⟨x', t', h2, h3, h4⟩ := glob_take (mt_noStar h) h1
    have hl := (mt_len h3).symm.trans (mt_len h)
    have ht : t' = s.drop k := by
      have h5 := congrArg (List.drop x'.length) h2
      rw [List.drop_left, List.drop_drop, hl, List.drop_append, List.drop_eq_nil_of_le (by omega), List.nil_append] at h5
      rw [← h5]; congr 1; omega
    rw [ht] at h4
    have := star_mono (s.take k) h4
    rwa [List.take_append_drop] at this
  · intro h1
    rw [glob_star, star_iff]
    exact ⟨0, Nat.zero_le _, by rw [List.drop_zero, glob_block h]; exact h1⟩
/-- where what stands behind a block fails, the star takes one byte more -/
theorem glob_more {b x : List UInt8} (h : mt b x = true) {w s : List UInt8} (hf : glob w s = false) {d : UInt8} {t : List UInt8} (ht : x ++ s = d :: t) : glob (42 :: (b ++ w)) (x ++ s) = glob (42 :: (b ++ w)) t := by
  rw [ht, glob_star_cons, ← ht, glob_block h, hf, Bool.false_or]
theorem glob_end {b x : List UInt8} (h : mt b x = true) (w : List UInt8) : glob (42 :: (b ++ w)) x = glob w [] := by
  have hb := glob_block h w []
  rw [List.append_nil] at hb
  rw [Bool.eq_iff_iff]
  constructor
  · intro h1
    rw [glob_star, star_iff] at h1
    obtain ⟨k, hk, h1⟩ := h1
    obtain ⟨x', t', h2, h3, h4⟩ := glob_take (mt_noStar h) h1
    have hl := (mt_len h3).symm.trans (mt_len h)
    have h5 := congrArg List.length h2
    rw [List.length_drop, List.length_append, hl] at h5
    have : t' = [] := List.eq_nil_of_length_eq_zero (by omega)
    rwa [this] at h4
  · intro h1
    rw [glob_star, star_iff]
    exact ⟨0, Nat.zero_le _, by rw [List.drop_zero, hb]; exact h1⟩
theorem glob_stars (w : List UInt8) : glob w [] = w.all (fun c => decide (c = 42)) := by
  induction w with
  | nil => rfl
  | cons c w ih =>
    by_cases h : c = 42
    · subst h; rw [glob_star_nil, ih]; simp
    · rw [glob_lit_nil h]; simp [h]

/-! ### the greedy walk -/
structure WInv (w s : List UInt8) (i k : Nat) (st : Int) (fr : Nat) : Prop where
  hi : i ≤ w.length
  hk : k ≤ s.length
  or : (st = -1 ∧ glob w s = glob (w.drop i) (s.drop k)) ∨ ∃ (p : Nat) (b x : List UInt8), st = p ∧ p < i ∧ fr ≤ k ∧ w.drop p = 42 :: (b ++ w.drop i) ∧ s.drop fr = x ++ s.drop k ∧ mt b x = true ∧ glob w s = glob (w.drop p) (s.drop fr)
theorem WInv.start (w s : List UInt8) : WInv w s 0 0 (-1) 0 := ⟨Nat.zero_le _, Nat.zero_le _, .inl ⟨rfl, by simp⟩⟩
theorem drop_cons {α : Type} {l : List α} {i : Nat} (h : i < l.length) : l.drop i = l[i] :: l.drop (i + 1) := List.drop_eq_getElem_cons h
theorem WInv.star {w s : List UInt8} {i k : Nat} {st : Int} {fr : Nat} (h : WInv w s i k st fr) (hi : i < w.length) (hc : w[i] = 42) : WInv w s (i + 1) k i k := by
  have hd := drop_cons hi
  rw [hc] at hd
  refine ⟨hi, h.hk, .inr ⟨i, [], [], rfl, by omega, Nat.le_refl _, by simpa using hd, by simp, rfl, ?_⟩⟩
  rcases h.or with ⟨_, h1⟩ | ⟨p, b, x, _, hp, hf, h1, h2, h3, h4⟩
  · exact h1
  · rw [h4, h1, h2, hd]; exact glob_next h3 _ _
theorem WInv.lit {w s : List UInt8} {i k : Nat} {st : Int} {fr : Nat} (h : WInv w s i k st fr) (hi : i < w.length) (hk : k < s.length) (hc : w[i] ≠ 42) (hm : w[i] = 63 ∨ w[i] = s[k]) : WInv w s (i + 1) (k + 1) st fr := by
  have hd := drop_cons hi
  have he := drop_cons hk
  refine ⟨hi, hk, ?_⟩
  rcases h.or with ⟨h0, h1⟩ | ⟨p, b, x, h0, hp, hf, h1, h2, h3, h4⟩
  · left
    refine ⟨h0, ?_⟩
    rw [h1, hd, he, glob_lit hc, decide_eq_true hm, Bool.true_and]
  · right
    refine ⟨p, b ++ [w[i]], x ++ [s[k]], h0, by omega, by omega, by rw [h1, hd]; simp, by rw [h2, he]; simp, mt_snoc h3 hc hm, h4⟩
theorem WInv.fails {w s : List UInt8} {i k : Nat} (hk : k < s.length) (h1 : ∀ h : i < w.length, w[i] ≠ 42) (h2 : ∀ h : i < w.length, ¬ (w[i] = 63 ∨ w[i] = s[k])) : glob (w.drop i) (s.drop k) = false := by
  rw [drop_cons hk]
  by_cases hi : i < w.length
  · rw [drop_cons hi, glob_lit (h1 hi), decide_eq_false (h2 hi), Bool.false_and]
  · rw [List.drop_eq_nil_of_le (by omega)]; rfl
theorem WInv.back {w s : List UInt8} {i k : Nat} {p : Nat} {fr : Nat} (h : WInv w s i k p fr) (hk : k < s.length) (h1 : ∀ h : i < w.length, w[i] ≠ 42) (h2 : ∀ h : i < w.length, ¬ (w[i] = 63 ∨ w[i] = s[k])) : fr < s.length ∧ fr ≤ k ∧ p < w.length ∧ WInv w s (p + 1) (fr + 1) p (fr + 1) := by
  have hf := WInv.fails hk h1 h2
  rcases h.or with ⟨h0, _⟩ | ⟨p', b, x, h0, hp, hfk, h3, h4, h5, h6⟩
  · omega
  · obtain rfl : p' = p := by omega
    have hpl : p' < w.length := by
      have := congrArg List.length h3
      rw [List.length_drop, List.length_cons] at this
      omega
    have hfl : fr < s.length := by omega
    have hd := drop_cons hpl
    have he := drop_cons hfl
    have hw : w.drop (p' + 1) = b ++ w.drop i := by
      rw [h3] at hd
      exact (List.cons.inj hd).2.symm
    refine ⟨hfl, hfk, hpl, ⟨hpl, hfl, .inr ⟨p', [], [], rfl, by omega, Nat.le_refl _, by rw [h3, hw]; rfl, by simp, rfl, ?_⟩⟩⟩
    rw [h6, h3, h4]
    exact glob_more h5 hf (h4.symm.trans he)
theorem WInv.none {w s : List UInt8} {i k : Nat} {fr : Nat} (h : WInv w s i k (-1) fr) (hk : k < s.length) (h1 : ∀ h : i < w.length, w[i] ≠ 42) (h2 : ∀ h : i < w.length, ¬ (w[i] = 63 ∨ w[i] = s[k])) : glob w s = false := by
  rcases h.or with ⟨_, h3⟩ | ⟨p', _, _, h0, _⟩
  · rw [h3]; exact WInv.fails hk h1 h2
  · omega
theorem WInv.over {w s : List UInt8} {i k : Nat} {st : Int} {fr : Nat} (h : WInv w s i k st fr) (hk : k = s.length) : glob w s = (w.drop i).all (fun c => decide (c = 42)) := by
  rw [← glob_stars]
  have hs : s.drop k = [] := List.drop_eq_nil_of_le (by omega)
  rcases h.or with ⟨_, h3⟩ | ⟨p', b, x, _, _, _, h3, h4, h5, h6⟩
  · rw [h3, hs]
  · rw [hs, List.append_nil] at h4
    rw [h6, h3, h4]; exact glob_end h5 _
theorem WInv.st_lt {w s : List UInt8} {i k : Nat} {st : Int} {fr : Nat} (h : WInv w s i k st fr) : -1 ≤ st ∧ st < i := by
  rcases h.or with ⟨h0, _⟩ | ⟨p', _, _, h0, hp, _⟩ <;> omega
end Go.Route
