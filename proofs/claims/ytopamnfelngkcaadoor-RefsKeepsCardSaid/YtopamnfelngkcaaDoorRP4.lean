/-
  Layer 12: a text read as a table, in plain Lean. No program is named here.
-/
import Derived.Test.YtopamnfelngkcaaDoorR17
import Derived.Lib.IndexMore
namespace Go.Refs
open Go.Sl Go.Route

/-- what stands ahead of the first c -/
def upto (c : UInt8) (l : List UInt8) : List UInt8 := l.takeWhile (fun x => x != c)
theorem upto_le (c : UInt8) (l : List UInt8) : (upto c l).length ≤ l.length := by
  exact (List.takeWhile_prefix _).length_le
theorem upto_take (c : UInt8) (l : List UInt8) : upto c l = l.take (upto c l).length := (List.prefix_iff_eq_take.1 (List.takeWhile_prefix _))
theorem upto_ne {c : UInt8} {l : List UInt8} {x : UInt8} (h : x ∈ upto c l) : x ≠ c := by
  induction l with
  | nil => simp [upto] at h
  | cons b l ih =>
    unfold upto at h ih
    rw [List.takeWhile_cons] at h
    split at h
    · next hb =>
      rcases List.mem_cons.1 h with rfl | h
      · simpa using hb
      · exact ih h
    · simp at h
theorem upto_at {c : UInt8} {l : List UInt8} (h : (upto c l).length < l.length) : l[(upto c l).length] = c := by
  induction l with
  | nil => simp at h
  | cons b l ih =>
    unfold upto at h ih ⊢
    rw [List.takeWhile_cons] at h
    by_cases hb : b = c
    · subst hb; simp
    · have e : (b != c) = true := by simpa using hb
      simp only [List.takeWhile_cons, e, if_true, List.length_cons, List.getElem_cons_succ] at h ⊢
      exact ih (by simpa using h)
theorem upto_eq {c : UInt8} {a l : List UInt8} (h : ∀ x ∈ a, x ≠ c) : upto c (a ++ c :: l) = a := by
  unfold upto
  rw [List.takeWhile_append_of_pos (by simpa using h)]
  simp
theorem upto_all {c : UInt8} {l : List UInt8} (h : ¬ (upto c l).length < l.length) : upto c l = l := by
  rw [upto_take, List.take_of_length_le (by omega)]
theorem index_upto (c : UInt8) (l : List UInt8) : Lib.index l [c] = if (upto c l).length < l.length then ((upto c l).length : Int) else -1 := by
  induction l with
  | nil => rfl
  | cons b l ih =>
    unfold Lib.index
    by_cases hb : b = c
    · subst hb
      rw [if_pos (by simp [List.isPrefixOf])]
      simp [upto]
    · have e : (b != c) = true := by simpa using hb
      have e2 : ([c].isPrefixOf (b :: l)) = false := by simp [List.isPrefixOf, Ne.symm hb]
      have e3 : upto c (b :: l) = b :: upto c l := by unfold upto; rw [List.takeWhile_cons, if_pos e]
      rw [e2, ih, e3]
      simp only [Bool.false_eq_true, if_false, List.length_cons, Nat.add_lt_add_iff_right]
      by_cases h : (upto c l).length < l.length
      · rw [if_pos h, if_pos h]
        rw [if_neg (by rw [beq_iff_eq]; omega)]; omega
      · rw [if_neg h, if_neg h]; rfl
theorem cut_hit {c : UInt8} {l : List UInt8} (h : (upto c l).length < l.length) : Lib.cut l [c] = (upto c l, l.drop ((upto c l).length + 1), true) := by
  unfold Lib.cut
  rw [index_upto, if_pos h, if_pos (by omega)]
  simp only [Int.toNat_natCast, List.length_singleton]
  rw [← upto_take]
theorem cut_miss {c : UInt8} {l : List UInt8} (h : ¬ (upto c l).length < l.length) : Lib.cut l [c] = (l, [], false) := by
  unfold Lib.cut
  rw [index_upto, if_neg h, if_neg (by omega)]

/-- a line as a ref -/
def lineR (L : List UInt8) : Option Rf := if L[64]? = some 32 ∧ (readF (L.take 64)).2 = 0 then some ⟨L.drop 65, (readF (L.take 64)).1⟩ else none
theorem readF_zero {s : List UInt8} (h : (readF s).2 = 0) : s.length = 64 ∧ allHex s = true ∧ (readF s).1.l = unhex s := by
  unfold readF at h ⊢
  by_cases h1 : s.length = 64
  · rw [dif_pos h1] at h ⊢
    by_cases h2 : allHex s = true
    · rw [if_pos h2]; exact ⟨h1, h2, rfl⟩
    · rw [if_neg h2] at h; simp at h
  · rw [dif_neg h1] at h; simp at h
theorem hex_ne {s : List UInt8} (h : allHex s = true) {x : UInt8} (hx : x ∈ s) : x ≠ 32 ∧ x ≠ 10 := by
  unfold allHex at h
  rw [List.all_eq_true] at h
  exact wth_ne (by simpa using h x hx)
theorem drop_cons {l : List UInt8} {n : Nat} {c : UInt8} (h : l[n]? = some c) : l = l.take n ++ c :: l.drop (n + 1) := by
  obtain ⟨hn, e⟩ := List.getElem?_eq_some_iff.1 h
  rw [← e, ← List.drop_eq_getElem_cons hn, List.take_append_drop]
theorem line_prog (L : List UInt8) : lineR L = if (upto 32 L).length < L.length ∧ (readF (upto 32 L)).2 = 0 then some ⟨L.drop ((upto 32 L).length + 1), (readF (upto 32 L)).1⟩ else none := by
  by_cases h : (upto 32 L).length < L.length ∧ (readF (upto 32 L)).2 = 0
  · obtain ⟨h1, h2⟩ := h
    rw [if_pos ⟨h1, h2⟩]
    have h3 := (readF_zero h2).1
    have h4 : L.take 64 = upto 32 L := by rw [← h3]; exact (upto_take 32 L).symm
    have h5 : L[64]? = some 32 := by
      have := upto_at h1
      rw [List.getElem?_eq_some_iff]
      refine ⟨by omega, ?_⟩
      have e : L[64]'(by omega) = L[(upto 32 L).length] := by congr 1; exact h3.symm
      rw [e, this]
    unfold lineR
    rw [h4, if_pos ⟨h5, h2⟩, h3]
  · rw [if_neg h]
    unfold lineR
    rw [if_neg]
    rintro ⟨h5, h2⟩
    obtain ⟨h3, h4, _⟩ := readF_zero h2
    have e : upto 32 L = L.take 64 := by
      have := drop_cons h5
      rw [this, upto_eq (fun x hx => (hex_ne h4 hx).1)]
      rw [← this]
    obtain ⟨hn, _⟩ := List.getElem?_eq_some_iff.1 h5
    exact h ⟨by rw [e, h3]; exact hn, by rw [e]; exact h2⟩
theorem lineR_text {L : List UInt8} {r : Rf} (h : lineR L = some r) : lineF r = L ++ [10] := by
  unfold lineR at h
  split at h
  · next h1 =>
    obtain ⟨h5, h2⟩ := h1
    obtain ⟨h3, h4, h6⟩ := readF_zero h2
    obtain rfl := Option.some.inj h
    have e := drop_cons h5
    unfold lineF hexF
    simp only
    rw [h6, hexs_unhex _ h4 (by rw [h3]), List.append_assoc (L.take 64), List.singleton_append, ← e]
  · cases h
theorem lineR_line (r : Rf) : lineR (hexF r.id ++ [32] ++ r.nm) = some r := by
  have hl := hexF_len r.id
  have e1 : (hexF r.id ++ [32] ++ r.nm).take 64 = hexF r.id := by rw [List.append_assoc, ← hl, List.take_left]
  have e2 : (hexF r.id ++ [32] ++ r.nm)[64]? = some 32 := by
    rw [List.append_assoc, List.getElem?_append_right (by omega), hl]; rfl
  have e3 : (hexF r.id ++ [32] ++ r.nm).drop 65 = r.nm := by
    have : 65 = (hexF r.id ++ [32]).length := by rw [List.length_append, hl]; rfl
    rw [this, List.drop_left]
  unfold lineR
  rw [e1, e3, readF_hex, if_pos ⟨e2, rfl⟩]

/-- the refs of a text, if it has the form -/
def getG (s : List UInt8) : Option (List Rf) :=
  if h : s = [] then some [] else
  if h2 : (upto 10 s).length < s.length then
    match lineR (upto 10 s) with
    | some r => (getG (s.drop ((upto 10 s).length + 1))).map (r :: ·)
    | none => none
  else none
termination_by s.length
decreasing_by rw [List.length_drop]; omega
theorem getG_nil : getG [] = some [] := by rw [getG]; rfl
theorem getG_cons {s : List UInt8} {r : Rf} (h : s ≠ []) (h2 : (upto 10 s).length < s.length) (h3 : lineR (upto 10 s) = some r) : getG s = (getG (s.drop ((upto 10 s).length + 1))).map (r :: ·) := by
  rw [getG, dif_neg h, dif_pos h2, h3]
theorem getG_open {s : List UInt8} (h : s ≠ []) (h2 : ¬ (upto 10 s).length < s.length) : getG s = none := by
  rw [getG, dif_neg h, dif_neg h2]
theorem getG_bad {s : List UInt8} (h : s ≠ []) (h3 : lineR (upto 10 s) = none) : getG s = none := by
  rw [getG, dif_neg h]
  split
  · rw [h3]
  · rfl
/-- the table of a text; an error's number -/
def getF (b : List UInt8) : List Rf × Int := match getG b with
  | none => ([], 12)
  | some l => if chk l = 0 then (l, 0) else ([], chk l)
theorem getG_text : ∀ (n : Nat) (s : List UInt8) (l : List Rf), s.length ≤ n → getG s = some l → textF l = s := by
  intro n
  induction n with
  | zero =>
    intro s l hs h
    have : s = [] := List.eq_nil_of_length_eq_zero (by omega)
    subst this
    rw [getG_nil] at h
    obtain rfl := Option.some.inj h
    rfl
  | succ n ih =>
    intro s l hs h
    by_cases h0 : s = []
    · subst h0
      rw [getG_nil] at h
      obtain rfl := Option.some.inj h
      rfl
    by_cases h2 : (upto 10 s).length < s.length
    · cases h3 : lineR (upto 10 s) with
      | none => rw [getG_bad h0 h3] at h; cases h
      | some r =>
        rw [getG_cons h0 h2 h3] at h
        obtain ⟨l', h4, rfl⟩ := Option.map_eq_some_iff.1 h
        have h5 := ih _ _ (by rw [List.length_drop]; omega) h4
        unfold textF at h5 ⊢
        rw [List.flatMap_cons, lineR_text h3, h5]
        have e := drop_cons (l := s) (n := (upto 10 s).length) (c := 10) (by rw [List.getElem?_eq_getElem h2, upto_at h2])
        rw [← upto_take] at e
        rw [List.append_assoc, List.singleton_append, ← e]
    · rw [getG_open h0 h2] at h; cases h
theorem getG_len : ∀ (n : Nat) (s : List UInt8) (l : List Rf), s.length ≤ n → getG s = some l → l.length ≤ s.length ∧ ∀ r ∈ l, r.nm.length ≤ s.length := by
  intro n s l hs h
  have ht := getG_text n s l hs h
  subst ht
  clear h hs
  induction l with
  | nil => simp
  | cons r l ih =>
    have e : textF (r :: l) = lineF r ++ textF l := by unfold textF; rw [List.flatMap_cons]
    have hl := lineF_len r
    rw [e, List.length_append]
    refine ⟨by rw [List.length_cons]; omega, fun x hx => ?_⟩
    rcases List.mem_cons.1 hx with rfl | hx
    · omega
    · have := ih.2 x hx; omega
theorem getG_of : ∀ (l : List Rf), (∀ r ∈ l, ∀ x ∈ r.nm, x ≠ 10) → getG (textF l) = some l
  | [], _ => getG_nil
  | r :: l, h => by
    have e : textF (r :: l) = (hexF r.id ++ [32] ++ r.nm) ++ 10 :: textF l := by
      unfold textF; rw [List.flatMap_cons]; unfold lineF; rw [List.append_assoc (hexF r.id ++ [32] ++ r.nm), List.singleton_append]
    have hu : upto 10 (textF (r :: l)) = hexF r.id ++ [32] ++ r.nm := by
      rw [e]
      refine upto_eq fun x hx => ?_
      rcases List.mem_append.1 hx with hx | hx
      · rcases List.mem_append.1 hx with hx | hx
        · exact (hex_ne (s := hexF r.id) (hexs_all r.id.l) hx).2
        · rw [List.mem_singleton.1 hx]; decide
      · exact h r List.mem_cons_self x hx
    have hne : textF (r :: l) ≠ [] := by rw [e]; simp
    have h2 : (upto 10 (textF (r :: l))).length < (textF (r :: l)).length := by
      rw [hu]; conv => rhs; rw [e]
      simp only [List.length_append, List.length_cons]; omega
    rw [getG_cons hne h2 (by rw [hu]; exact lineR_line r), hu]
    have hd : (textF (r :: l)).drop ((hexF r.id ++ [32] ++ r.nm).length + 1) = textF l := by
      rw [e, List.drop_append]
      simp
    rw [hd, getG_of l (fun x hx => h x (List.mem_cons_of_mem _ hx))]
    rfl
end Go.Refs
