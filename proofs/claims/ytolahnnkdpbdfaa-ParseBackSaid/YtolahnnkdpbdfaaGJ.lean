/-
  Layer 28: more blanks change nothing, in plain Lean: the first token of a text ends ahead of the first blank.
  Layer 28: more blanks change nothing, in plain Lean: the tokens.
  Layer 28: more blanks change nothing, in plain Lean: the parser on tokens that mean the same.
  Layer 28: more blanks change nothing, in plain Lean: the whole.
  Layer 28: ParseGaps, the law's walk. No condition besides MaxLen.
-/
import Derived.Test.YtolahnnkdpbdfaaGI
namespace Go.Gap
open Go.Lex
/-- nothing, or a blank ahead -/
def Bl (x : List UInt8) : Prop := x = [] ∨ ∃ y, x = 32 :: y
/-- no blank -/
def Nb (a : List UInt8) : Prop := ∀ c ∈ a, c ≠ (32 : UInt8)
theorem Nb.tail {c : UInt8} {a : List UInt8} (h : Nb (c :: a)) : Nb a := fun d hd => h d (List.mem_cons_of_mem _ hd)
theorem Nb.drop {a : List UInt8} (h : Nb a) (n : Nat) : Nb (a.drop n) := fun d hd => h d (List.mem_of_mem_drop hd)
theorem while_app {p : UInt8 → Bool} (hp : p 32 = false) {x : List UInt8} (hx : Bl x) : ∀ a : List UInt8, whileN p (a ++ x) = whileN p a
  | [] => by
    rcases hx with rfl | ⟨y, rfl⟩
    · rfl
    · simp [whileN, hp]
  | c :: a => by simp only [List.cons_append, whileN, while_app hp hx a]
theorem head_app {x : List UInt8} (hx : Bl x) (a : List UInt8) : (∀ d, (a ++ x).head? = some d → isDot d = false) ↔ (∀ d, a.head? = some d → isDot d = false) := by
  cases a with
  | nil =>
    rcases hx with rfl | ⟨y, rfl⟩
    · exact Iff.rfl
    · constructor
      · intro _ d hd; cases hd
      · intro _ d hd; simp at hd; subst hd; decide
  | cons c a => simp
theorem wordG_app {x : List UInt8} (hx : Bl x) : ∀ a : List UInt8, wordG (a ++ x) = wordG a
  | [] => by
    rcases hx with rfl | ⟨y, rfl⟩
    · rfl
    · simp [wordG, show isDot 32 = false by decide, show inW 32 = false by decide]
  | c :: a => by
    simp only [List.cons_append, wordG, wordG_app hx a, head_app hx a]
theorem word_app {x : List UInt8} (hx : Bl x) {a : List UInt8} (ha : a ≠ []) : word (a ++ x) = word a := by
  cases a with
  | nil => exact absurd rfl ha
  | cons c a =>
    unfold word
    rw [wordG_app hx]
    simp
theorem get_app {x : List UInt8} (hx : Bl x) (a : List UInt8) {n : Nat} (hn : n ≤ a.length) {v : UInt8} (hv : v ≠ 32) : (a ++ x)[n]? = some v ↔ a[n]? = some v := by
  by_cases h : n < a.length
  · rw [List.getElem?_append_left h]
  · have : n = a.length := by omega
    subst this
    rw [List.getElem?_append_right (Nat.le_refl _), Nat.sub_self]
    rcases hx with rfl | ⟨y, rfl⟩
    · simp
    · simp [Ne.symm hv]
theorem brace_app {x : List UInt8} (hx : Bl x) {a : List UInt8} (ha : a ≠ []) : brace (a ++ x) = brace a := by
  have hl : 1 ≤ a.length := List.length_pos_iff.2 ha
  have h1 : (a ++ x).drop 1 = a.drop 1 ++ x := by rw [List.drop_append_of_le_length hl]
  have hw := whileN_le letter (a.drop 1)
  rw [List.length_drop] at hw
  have hg := get_app hx a (n := whileN letter (a.drop 1) + 1) (by omega) (v := 125) (by decide)
  unfold brace
  simp only [h1, while_app (show letter 32 = false by decide) hx]
  by_cases h : a[whileN letter (a.drop 1) + 1]? = some 125
  · rw [if_pos h, if_pos (hg.2 h)]
  · rw [if_neg h, if_neg (fun h2 => h (hg.1 h2))]
theorem take2_app {x : List UInt8} (hx : Bl x) (a : List UInt8) : (a ++ x).take 2 = [45, 45] ↔ a.take 2 = [45, 45] := by
  rcases a with _ | ⟨c, _ | ⟨d, a⟩⟩
  · rcases hx with rfl | ⟨y, rfl⟩
    · exact Iff.rfl
    · simp
  · rcases hx with rfl | ⟨y, rfl⟩
    · exact Iff.rfl
    · simp
  · simp
theorem flag_app {x : List UInt8} (hx : Bl x) (a : List UInt8) : flag (a ++ x) = flag a := by
  unfold flag
  by_cases h : a.take 2 = [45, 45]
  · rw [if_pos h, if_pos ((take2_app hx a).2 h)]
    have hl : 2 ≤ a.length := by have := congrArg List.length h; simp at this; omega
    have h1 : (a ++ x).drop 2 = a.drop 2 ++ x := by rw [List.drop_append_of_le_length hl]
    generalize hb : a.drop 2 = b at h1
    simp only [h1, while_app (show letter 32 = false by decide) hx]
    have hw := whileN_le letter b
    have hg := get_app hx b (n := whileN letter b) hw (v := 61) (by decide)
    by_cases h0 : whileN letter b = 0
    · rw [if_pos h0, if_pos h0]
    · rw [if_neg h0, if_neg h0]
      by_cases he : b[whileN letter b]? = some 61
      · have hlt := (List.getElem?_eq_some_iff.1 he).1
        have h2 : (b ++ x).drop (whileN letter b + 1) = b.drop (whileN letter b + 1) ++ x := by rw [List.drop_append_of_le_length (by omega)]
        rw [h2, while_app (show digit 32 = false by decide) hx]
        simp only [hg]
      · rw [if_neg (fun h => he (hg.1 h.1)), if_neg (fun h => he h.1)]
  · rw [if_neg h, if_neg (fun h2 => h ((take2_app hx a).1 h2))]
/-- the first token of a text is that of what stands ahead of the first blank -/
theorem one_app {x : List UInt8} (hx : Bl x) {a : List UInt8} (ha : a ≠ []) (hn : Nb a) : one (a ++ x) = one a := by
  cases a with
  | nil => exact absurd rfl ha
  | cons c a =>
    have hc : c.toNat ≠ 32 := by
      intro h
      exact hn c (by simp) (UInt8.toNat_inj.1 (by simpa using h))
    have h1 := brace_app hx (a := c :: a) (by simp)
    have h2 := flag_app hx (c :: a)
    have h3 := word_app hx (a := c :: a) (by simp)
    have h4 := while_app (show isDot 32 = false by decide) hx (c :: a)
    simp only [List.cons_append] at h1 h2 h3 h4
    unfold one
    simp only [List.cons_append]
    rw [if_neg hc, if_neg hc, h1, h2, h3, h4]
end Go.Gap

namespace Go.Gap
open Go.Lex Go.Prs
/-- the blanks that are added -/
def gp (m : Nat) : List UInt8 := List.replicate m 32
/-- a text with blanks added behind each blank -/
def ins (m : Nat) : List UInt8 → List UInt8
  | [] => []
  | c :: l => if c = 32 then 32 :: (gp m ++ ins m l) else c :: ins m l
theorem ins_nb (m : Nat) : ∀ {a : List UInt8}, Nb a → ∀ x, ins m (a ++ x) = a ++ ins m x
  | [], _, x => rfl
  | c :: a, h, x => by rw [List.cons_append, ins, if_neg (h c (by simp)), ins_nb m h.tail x]; rfl
/-- the part ahead of the first blank, and the rest -/
theorem split_nb : ∀ r : List UInt8, ∃ a x, r = a ++ x ∧ Nb a ∧ Bl x
  | [] => ⟨[], [], rfl, (by intro c hc; cases hc), .inl rfl⟩
  | c :: r => by
    by_cases h : c = 32
    · exact ⟨[], c :: r, rfl, (by intro d hd; cases hd), .inr ⟨r, by rw [h]⟩⟩
    · obtain ⟨a, x, h1, h2, h3⟩ := split_nb r
      exact ⟨c :: a, x, by rw [h1]; rfl, (by intro d hd; rcases List.mem_cons.1 hd with rfl | hd; exact h; exact h2 d hd), h3⟩
theorem bl_ins {m : Nat} {x : List UInt8} (h : Bl x) : Bl (ins m x ++ gp m) := by
  rcases h with rfl | ⟨y, rfl⟩
  · cases m with
    | zero => exact .inl rfl
    | succ m => exact .inr ⟨gp m, rfl⟩
  · exact .inr ⟨gp m ++ ins m y ++ gp m, by simp [ins]⟩
/-- blanks, and what does not begin with one -/
theorem split_gap : ∀ r : List UInt8, ∃ k y, r = gp k ++ y ∧ (∀ c, y.head? = some c → c ≠ 32)
  | [] => ⟨0, [], rfl, by intro c hc; cases hc⟩
  | c :: r => by
    by_cases h : c = 32
    · obtain ⟨k, y, h1, h2⟩ := split_gap r
      exact ⟨k + 1, y, by rw [h1, h]; rfl, h2⟩
    · exact ⟨0, c :: r, rfl, by intro d hd; simp at hd; rw [← hd]; exact h⟩
theorem gap_while {y : List UInt8} (hy : ∀ c, y.head? = some c → c ≠ 32) : ∀ k, whileN isGap (gp k ++ y) = k
  | 0 => by
    cases y with
    | nil => rfl
    | cons c y =>
      have hc : c ≠ 32 := hy c rfl
      have : isGap c = false := by
        unfold isGap
        refine decide_eq_false (fun h => hc (UInt8.toNat_inj.1 (by simpa using h)))
      simp [gp, whileN, this]
  | k + 1 => by
    show whileN isGap (32 :: (gp k ++ y)) = k + 1
    rw [whileN, if_pos (by decide), gap_while hy k]
theorem gp_add (a b : Nat) : gp a ++ gp b = gp (a + b) := by simp [gp, List.replicate_append_replicate]
theorem ins_gp (m : Nat) (y : List UInt8) : ∀ k, ins m (gp k ++ y) = gp (k * (m + 1)) ++ ins m y
  | 0 => by simp [gp]
  | k + 1 => by
    show ins m (32 :: (gp k ++ y)) = _
    rw [ins, if_pos rfl, ins_gp m y k, ← List.append_assoc, gp_add]
    show gp (m + k * (m + 1) + 1) ++ ins m y = _
    rw [Nat.add_mul, Nat.one_mul]; congr 2; omega
theorem one_gap {k : Nat} (hk : 0 < k) {y : List UInt8} (hy : ∀ c, y.head? = some c → c ≠ 32) : one (gp k ++ y) = (8, k) := by
  obtain ⟨j, rfl⟩ : ∃ j, k = j + 1 := ⟨k - 1, by omega⟩
  have := gap_while hy (j + 1)
  show one (32 :: (gp j ++ y)) = _
  unfold one
  simp only
  rw [if_pos (by decide)]
  exact congrArg (Prod.mk 8) this
theorem ins_head {m : Nat} {y : List UInt8} (hy : ∀ c, y.head? = some c → c ≠ 32) (hn : y ≠ []) (g : List UInt8) : ∀ c, (ins m y ++ g).head? = some c → c ≠ 32 := by
  cases y with
  | nil => exact absurd rfl hn
  | cons d y =>
    have hd : d ≠ 32 := hy d rfl
    intro c hc
    rw [ins, if_neg hd] at hc
    simp at hc; rw [← hc]; exact hd
/-- tokens that mean the same -/
inductive Sim : List Tok → List Tok → Prop
  | nil : Sim [] []
  | last (t t' u : Tok) : t.1 = 9 → t'.1 = 8 → u.1 = 9 → t.2.1 = u.2.1 → Sim [t] [t', u]
  | cons (t t' : Tok) {l l' : List Tok} : t.1 = t'.1 → (t.1 = 8 ∨ t.2.1 = t'.2.1) → (t.1 = 8 → kd l' ≠ 8) → Sim l l' → Sim (t :: l) (t' :: l')
/-- outcomes that mean the same, but where there are too many -/
def Out : Except (Nat × Nat) (List Tok) → Except (Nat × Nat) (List Tok) → Prop
  | .ok l, .ok l' => Sim l l'
  | .error e, .error e' => e.2 = e'.2 ∨ e.2 = 5 ∨ e'.2 = 5
  | .error e, .ok _ => e.2 = 5
  | .ok _, .error e' => e'.2 = 5
theorem out_l (p : Nat) (x : Except (Nat × Nat) (List Tok)) : Out (.error (p, 5)) x := by
  cases x with
  | error e => exact .inr (.inl rfl)
  | ok l => exact rfl
theorem out_r (p : Nat) (x : Except (Nat × Nat) (List Tok)) : Out x (.error (p, 5)) := by
  cases x with
  | error e => exact .inr (.inr rfl)
  | ok l => exact rfl
def push (t : Tok) : Except (Nat × Nat) (List Tok) → Except (Nat × Nat) (List Tok)
  | .ok l => .ok (t :: l)
  | .error e => .error e
theorem out_push {x x' : Except (Nat × Nat) (List Tok)} (h : Out x x') (t t' : Tok) (h1 : t.1 = t'.1) (h2 : t.1 = 8 ∨ t.2.1 = t'.2.1) (h3 : t.1 = 8 → ∀ l', x' = .ok l' → kd l' ≠ 8) : Out (push t x) (push t' x') := by
  cases x with
  | error e => cases x' with
    | error e' => exact h
    | ok l => exact h
  | ok l => cases x' with
    | error e' => exact h
    | ok l' => exact .cons t t' h1 h2 (fun e => h3 e _ rfl) h
theorem tk_step {f p c kd n : Nat} {r : List UInt8} (hr : r ≠ []) (h : one r = (kd, n)) :
    tkG one (f + 1) r p c = if n = 0 then .error (p, 40) else if c = 60 then .error (p, 5) else push (kd, r.take n, p) (tkG one f (r.drop n) (p + n) (c + 1)) := by
  rw [tkG, if_neg hr, h]
  simp only
  split
  · rfl
  · split
    · rfl
    · cases tkG one f (r.drop n) (p + n) (c + 1) <;> rfl
theorem tk_end {f p c : Nat} (hf : 0 < f) : tkG one f [] p c = if c = 60 then .error (p, 5) else .ok [(9, [], p)] := by
  obtain ⟨g, rfl⟩ : ∃ g, f = g + 1 := ⟨f - 1, by omega⟩
  exact tkG_end one g p c
theorem out_end (p p' c c' : Nat) : Out (if c = 60 then .error (p, 5) else .ok [(9, [], p)]) (if c' = 60 then .error (p', 5) else .ok [(9, [], p')]) := by
  split
  · exact out_l _ _
  · split
    · exact out_r _ _
    · exact .cons _ _ rfl (.inr rfl) (fun e => by cases e) .nil
theorem gp_ne {k : Nat} (hk : 0 < k) (y : List UInt8) : gp k ++ y ≠ [] := by
  obtain ⟨j, rfl⟩ : ∃ j, k = j + 1 := ⟨k - 1, by omega⟩
  show 32 :: (gp j ++ y) ≠ []
  simp
theorem gp_len (k : Nat) : (gp k).length = k := by simp [gp]
theorem gp_drop (k : Nat) (y : List UInt8) : (gp k ++ y).drop k = y := by rw [List.drop_append_of_le_length (by rw [gp_len]; exact Nat.le_refl _), List.drop_of_length_le (by rw [gp_len]; exact Nat.le_refl _)]; rfl
theorem one_ne8 {r : List UInt8} (hr : ∀ c, r.head? = some c → c ≠ 32) : (one r).1 ≠ 8 := by
  cases r with
  | nil => decide
  | cons c r =>
    have hc : c.toNat ≠ 32 := fun h => hr c rfl (UInt8.toNat_inj.1 (by simpa using h))
    unfold one
    simp only
    rw [if_neg hc]
    repeat' split
    all_goals simp only
    all_goals decide
theorem tk_kd {f p c : Nat} {r : List UInt8} {l : List Tok} (hr : ∀ c, r.head? = some c → c ≠ 32) (h : tkG one f r p c = .ok l) : kd l ≠ 8 := by
  cases f with
  | zero => cases h
  | succ f =>
    by_cases h0 : r = []
    · subst h0
      rw [tkG_end] at h
      split at h
      · cases h
      · cases h; show (9 : Nat) ≠ 8; decide
    · obtain ⟨K, n, hK⟩ : ∃ K n, one r = (K, n) := ⟨_, _, rfl⟩
      have h8 := one_ne8 hr
      rw [hK] at h8
      rw [tk_step h0 hK] at h
      split at h
      · cases h
      · split at h
        · cases h
        · cases hx : tkG one f (r.drop n) (p + n) (c + 1) with
          | error e => rw [hx] at h; cases h
          | ok l2 => rw [hx] at h; cases h; exact h8
/-- one step on both sides -/
theorem out_step {f f' p p' c c' kd n n' : Nat} {r r' : List UInt8} (hr : r ≠ []) (hr' : r' ≠ []) (h : one r = (kd, n)) (h' : one r' = (kd, n')) (hn : n = 0 ↔ n' = 0) (ht : kd = 8 ∨ r.take n = r'.take n') (hg : kd = 8 → ∀ l', tkG one f' (r'.drop n') (p' + n') (c' + 1) = .ok l' → Prs.kd l' ≠ 8)
    (hk : Out (tkG one f (r.drop n) (p + n) (c + 1)) (tkG one f' (r'.drop n') (p' + n') (c' + 1))) : Out (tkG one (f + 1) r p c) (tkG one (f' + 1) r' p' c') := by
  rw [tk_step hr h, tk_step hr' h']
  by_cases h0 : n = 0
  · rw [if_pos h0, if_pos (hn.1 h0)]; exact .inl rfl
  · rw [if_neg h0, if_neg (fun e => h0 (hn.2 e))]
    split
    · exact out_l _ _
    · split
      · exact out_r _ _
      · exact out_push hk _ _ rfl ht hg
theorem out_gap (m : Nat) : ∀ (f f' : Nat) (r : List UInt8) (p p' c c' : Nat), r.length < f → (ins m r ++ gp m).length < f' →
    Out (tkG one f r p c) (tkG one f' (ins m r ++ gp m) p' c') := by
  intro f
  induction f with
  | zero => intro f' r p p' c c' h; omega
  | succ f ih =>
    intro f' r p p' c c' h h'
    obtain ⟨f', rfl⟩ : ∃ g, f' = g + 1 := ⟨f' - 1, by omega⟩
    by_cases hr : r = []
    · subst hr
      rw [tkG_end]
      show Out _ (tkG one (f' + 1) (gp m) p' c')
      cases m with
      | zero => rw [show gp 0 = [] from rfl, tkG_end]; exact out_end _ _ _ _
      | succ m =>
        have h1 : one (gp (m + 1) ++ []) = (8, m + 1) := one_gap (by omega) (by intro c hc; cases hc)
        rw [List.append_nil] at h1
        have hl : (gp (m + 1)).length < f' + 1 := h'
        rw [gp_len] at hl
        have hd := gp_drop (m + 1) []
        rw [List.append_nil] at hd
        rw [tk_step (by simp [gp]) h1, if_neg (show ¬ (m + 1 = 0) by omega), hd, tk_end (f := f') (by omega)]
        split
        · exact out_l _ _
        · split
          · exact out_r _ _
          · split
            · exact out_r _ _
            · exact .last _ _ _ rfl rfl rfl rfl
    · obtain ⟨k, y, rfl, hy⟩ := split_gap r
      by_cases hk : 0 < k
      · have hL : (gp k ++ y).length = k + y.length := by rw [List.length_append, gp_len]
        by_cases hy0 : y = []
        · subst hy0
          have e : ins m (gp k ++ []) ++ gp m = gp (k * (m + 1) + m) ++ [] := by rw [ins_gp, List.append_assoc, List.append_nil]; show gp _ ++ gp m = _; rw [gp_add]
          rw [e] at h' ⊢
          have hk2 : 0 < k * (m + 1) + m := by have := Nat.mul_pos hk (show 0 < m + 1 by omega); omega
          rw [List.append_nil, gp_len] at h'
          refine out_step hr (gp_ne hk2 []) (one_gap hk hy) (one_gap hk2 hy) (by omega) (.inl rfl) (fun _ l' hl' => tk_kd (r := []) (by intro c hc; cases hc) (by rw [gp_drop] at hl'; exact hl')) ?_
          rw [gp_drop, gp_drop, tk_end (f := f) (by rw [hL] at h; omega), tk_end (f := f') (by omega)]
          exact out_end _ _ _ _
        · have e : ins m (gp k ++ y) ++ gp m = gp (k * (m + 1)) ++ (ins m y ++ gp m) := by rw [ins_gp, List.append_assoc]
          rw [e] at h' ⊢
          have hk2 : 0 < k * (m + 1) := Nat.mul_pos hk (show 0 < m + 1 by omega)
          rw [List.length_append, gp_len] at h'
          refine out_step hr (gp_ne hk2 _) (one_gap hk hy) (one_gap hk2 (ins_head hy hy0 _)) (by omega) (.inl rfl) (fun _ l' hl' => tk_kd (ins_head hy hy0 (gp m)) (by rw [gp_drop] at hl'; exact hl')) ?_
          rw [gp_drop, gp_drop]
          exact ih _ _ _ _ _ _ (by omega) (by omega)
      · obtain rfl : k = 0 := by omega
        have hy' : ∀ c, y.head? = some c → c ≠ 32 := hy
        have hr' : y ≠ [] := hr
        have h2 : y.length < f + 1 := h
        show Out (tkG one (f + 1) y p c) (tkG one (f' + 1) (ins m y ++ gp m) p' c')
        have h3 : (ins m y ++ gp m).length < f' + 1 := h'
        clear hr h h' hy
        obtain ⟨a, x, rfl, ha, hx⟩ := split_nb y
        have ha0 : a ≠ [] := by
          rintro rfl
          rcases hx with rfl | ⟨z, rfl⟩
          · exact hr' rfl
          · exact hy' 32 rfl rfl
        obtain ⟨kd, n, hn⟩ : ∃ kd n, one a = (kd, n) := ⟨_, _, rfl⟩
        have hle : n ≤ a.length := by have := one_le a; rw [hn] at this; exact this
        have e : ins m (a ++ x) ++ gp m = a ++ (ins m x ++ gp m) := by rw [ins_nb m ha, List.append_assoc]
        have e2 : a.drop n ++ (ins m x ++ gp m) = ins m (a.drop n ++ x) ++ gp m := by rw [ins_nb m (ha.drop n), List.append_assoc]
        rw [e] at h3 ⊢
        have H1 : one (a ++ x) = (kd, n) := (one_app hx ha0 ha).trans hn
        have H2 : one (a ++ (ins m x ++ gp m)) = (kd, n) := (one_app (bl_ins hx) ha0 ha).trans hn
        by_cases h0 : n = 0
        · rw [tk_step hr' H1, tk_step (by simp [ha0]) H2, if_pos h0, if_pos h0]
          exact .inl rfl
        · refine out_step hr' (by simp [ha0]) H1 H2 Iff.rfl (.inr ?_) (fun e8 => absurd e8 (by have := one_ne8 hy'; rw [H1] at this; exact this)) ?_
          · rw [List.take_append_of_le_length hle, List.take_append_of_le_length hle]
          · rw [List.drop_append_of_le_length hle, List.drop_append_of_le_length hle, e2]
            have l1 : (a ++ x).length = a.length + x.length := List.length_append
            have l2 : (a.drop n ++ x).length = a.length - n + x.length := by rw [List.length_append, List.length_drop]
            have l3 : (ins m (a.drop n ++ x) ++ gp m).length + n = (a ++ (ins m x ++ gp m)).length := by rw [← e2, List.length_append, List.length_drop]; have := @List.length_append _ a (ins m x ++ gp m); omega
            exact ih _ _ _ _ _ _ (by omega) (by omega)
end Go.Gap

namespace Go.Gap
open Go.Lex Go.Prs
theorem sim_kd {l l' : List Tok} (h : Sim l l') {K : Nat} (h8 : K ≠ 8) (h9 : K ≠ 9) : kd l = K ↔ kd l' = K := by
  cases h with
  | nil => exact Iff.rfl
  | last t t' u h1 h2 h3 h4 => simp only [kd]; omega
  | cons t t' h1 h2 hg h3 => simp only [kd]; omega
theorem sim_tail {l l' : List Tok} (h : Sim l l') (h9 : kd l ≠ 9) : Sim l.tail l'.tail := by
  cases h with
  | nil => exact .nil
  | last t t' u h1 h2 h3 h4 => exact absurd h1 h9
  | cons t t' h1 h2 hg h3 => exact h3
theorem sim_tx {l l' : List Tok} (h : Sim l l') (h8 : kd l ≠ 8) (h9 : kd l ≠ 9) : tx l = tx l' := by
  cases h with
  | nil => rfl
  | last t t' u h1 h2 h3 h4 => exact absurd h1 h9
  | cons t t' h1 h2 hg h3 =>
    rcases h2 with h2 | h2
    · exact absurd h2 h8
    · exact h2
/-- results that mean the same -/
inductive RS {α : Type} : Except Nat (α × List Tok) → Except Nat (α × List Tok) → Prop
  | ok (a : α) {r r' : List Tok} : Sim r r' → RS (.ok (a, r)) (.ok (a, r'))
  | error (e e' : Nat) : RS (.error e) (.error e')
theorem cnt_sim {l l' : List Tok} (h : Sim l l') : RS (cnt l) (cnt l') := by
  unfold cnt
  by_cases h1 : kd l = 1
  · rw [if_pos h1, if_pos ((sim_kd h (by decide) (by decide)).1 h1), ← sim_tx h (by omega) (by omega)]
    split
    · exact .ok _ (sim_tail h (by omega))
    · exact .error _ _
  · rw [if_neg h1, if_neg (fun e => h1 ((sim_kd h (by decide) (by decide)).2 e))]
    exact .ok _ h
theorem cons_sim {x : St} {y y' : Except Nat (List St × List Tok)} (h : RS y y') : RS (Prs.cons x y) (Prs.cons x y') := by
  cases h with
  | ok a h => exact .ok _ h
  | error e e' => exact .error _ _
theorem steps_nil : ∀ f, steps f [] = .ok ([], [])
  | 0 => rfl
  | _ + 1 => rfl
theorem steps_sim : ∀ (f f' : Nat) (l l' : List Tok), Sim l l' → l.length ≤ f → l'.length ≤ f' → RS (steps f l) (steps f' l') := by
  intro f
  induction f with
  | zero =>
    intro f' l l' h hf hf'
    obtain rfl : l = [] := List.length_eq_zero_iff.1 (by omega)
    cases h
    rw [steps_nil, steps_nil]; exact .ok _ .nil
  | succ f ih =>
    intro f' l l' h hf hf'
    cases f' with
    | zero =>
      obtain rfl : l' = [] := List.length_eq_zero_iff.1 (by omega)
      cases h
      rw [steps_nil, steps_nil]; exact .ok _ .nil
    | succ f' =>
      rw [steps, steps]
      by_cases h3 : kd l = 3
      · have h3' := (sim_kd h (K := 3) (by decide) (by decide)).1 h3
        have ht := sim_tail h (by omega)
        have e1 := kd_posF (l := l) (by omega)
        have e2 := kd_posF (l := l') (by omega)
        rw [if_pos h3, if_pos h3']
        by_cases h7 : kd l.tail = 7
        · have h7' := (sim_kd ht (K := 7) (by decide) (by decide)).1 h7
          have e3 := kd_posF (l := l.tail) (by omega)
          have e4 := kd_posF (l := l'.tail) (by omega)
          rw [if_pos h7, if_pos h7', sim_tx ht (by omega) (by omega)]
          exact cons_sim (ih _ _ _ (sim_tail ht (by omega)) (by omega) (by omega))
        · rw [if_neg h7, if_neg (fun e => h7 ((sim_kd ht (by decide) (by decide)).2 e))]
          have hc := cnt_sim ht
          have c1 := @cnt_lenF l.tail
          have c2 := @cnt_lenF l'.tail
          revert hc c1 c2
          generalize cnt l.tail = a
          generalize cnt l'.tail = a'
          intro hc c1 c2
          cases hc with
          | error e e' => exact .error _ _
          | ok n hs => exact cons_sim (ih _ _ _ hs (by have := c1 rfl; omega) (by have := c2 rfl; omega))
      · rw [if_neg h3, if_neg (fun e => h3 ((sim_kd h (by decide) (by decide)).2 e))]
        by_cases h4 : kd l = 4
        · have h4' := (sim_kd h (K := 4) (by decide) (by decide)).1 h4
          have ht := sim_tail h (by omega)
          have e1 := kd_posF (l := l) (by omega)
          have e2 := kd_posF (l := l') (by omega)
          rw [if_pos h4, if_pos h4']
          have hc := cnt_sim ht
          have c1 := @cnt_lenF l.tail
          have c2 := @cnt_lenF l'.tail
          revert hc c1 c2
          generalize cnt l.tail = a
          generalize cnt l'.tail = a'
          intro hc c1 c2
          cases hc with
          | error e e' => exact .error _ _
          | ok n hs => exact cons_sim (ih _ _ _ hs (by have := c1 rfl; omega) (by have := c2 rfl; omega))
        · rw [if_neg h4, if_neg (fun e => h4 ((sim_kd h (by decide) (by decide)).2 e))]
          exact .ok _ h
theorem rev_sim {l l' : List Tok} (h : Sim l l') : RS (rev l) (rev l') := by
  unfold rev
  by_cases h1 : kd l = 1
  · have h1' := (sim_kd h (K := 1) (by decide) (by decide)).1 h1
    have ht := sim_tail h (by omega)
    rw [← sim_tx h (by omega) (by omega)]
    by_cases hb : base (tx l) = true
    · rw [if_pos ⟨h1, hb⟩, if_pos ⟨h1', hb⟩]
      have hs := steps_sim l.length l'.length l.tail l'.tail ht (by simp) (by simp)
      revert hs
      generalize steps l.length l.tail = a
      generalize steps l'.length l'.tail = a'
      intro hs
      cases hs with
      | error e e' => exact .error _ _
      | ok x hs => exact .ok _ hs
    · rw [if_neg (fun e => hb e.2), if_neg (fun e => hb e.2)]
      exact .error _ _
  · rw [if_neg (fun e => h1 e.1), if_neg (fun e => h1 ((sim_kd h (by decide) (by decide)).2 e.1))]
    exact .error _ _
theorem dots_sim {l l' : List Tok} (h : Sim l l') : dots l = dots l' := by
  have h5 := sim_kd h (K := 5) (by decide) (by decide)
  have h6 := sim_kd h (K := 6) (by decide) (by decide)
  unfold dots
  simp only [h5, h6]
theorem dots_kd {l : List Tok} (h : dots l ≠ 0) : kd l ≠ 9 := by
  intro h9
  unfold dots at h
  rw [if_neg (by omega), if_neg (by omega)] at h
  exact h rfl
theorem item_sim {nt : Bool} {l l' : List Tok} (h : Sim l l') : RS (item nt l) (item nt l') := by
  unfold item
  by_cases h3 : kd l = 3
  · rw [if_pos h3, if_pos ((sim_kd h (by decide) (by decide)).1 h3)]
    have hr := rev_sim (sim_tail h (by omega))
    revert hr
    generalize rev l.tail = a
    generalize rev l'.tail = a'
    intro hr
    cases hr with
    | error e e' => exact .error _ _
    | ok x hs => exact .ok _ hs
  · rw [if_neg h3, if_neg (fun e => h3 ((sim_kd h (by decide) (by decide)).2 e)), ← dots_sim h]
    by_cases hd : dots l = 0
    · rw [if_pos hd, if_pos hd]
      have hr := rev_sim h
      revert hr
      generalize rev l = a
      generalize rev l' = a'
      intro hr
      cases hr with
      | error e e' => exact .error _ _
      | ok x hs =>
        rename_i r r'
        simp only
        rw [← dots_sim hs]
        by_cases hd2 : dots r = 0
        · rw [if_pos hd2, if_pos hd2]; exact .ok _ hs
        · rw [if_neg hd2, if_neg hd2]
          have ht := sim_tail hs (dots_kd hd2)
          by_cases h1 : kd r.tail = 1
          · rw [if_pos h1, if_pos ((sim_kd ht (by decide) (by decide)).1 h1)]
            have hr := rev_sim ht
            revert hr
            generalize rev r.tail = a
            generalize rev r'.tail = a'
            intro hr
            cases hr with
            | error e e' => exact .error _ _
            | ok x hs => exact .ok _ hs
          · rw [if_neg h1, if_neg (fun e => h1 ((sim_kd ht (by decide) (by decide)).2 e))]
            exact .ok _ ht
    · rw [if_neg hd, if_neg hd]
      have hr := rev_sim (sim_tail h (dots_kd hd))
      revert hr
      generalize rev l.tail = a
      generalize rev l'.tail = a'
      intro hr
      cases hr with
      | error e e' => exact .error _ _
      | ok x hs => exact .ok _ hs
/-- rounds that mean the same -/
inductive RR : Except Nat (Qy × Bool × List Tok) → Except Nat (Qy × Bool × List Tok) → Prop
  | ok (q : Qy) (n : Bool) {r r' : List Tok} : Sim r r' → RR (.ok (q, n, r)) (.ok (q, n, r'))
  | error (e e' : Nat) : RR (.error e) (.error e')
theorem round_sim {q : Qy} {nt : Bool} {l l' : List Tok} (h : Sim l l') : RR (round l q nt) (round l' q nt) := by
  unfold round
  by_cases h2 : kd l = 2
  · rw [if_pos h2, if_pos ((sim_kd h (by decide) (by decide)).1 h2), ← sim_tx h (by omega) (by omega)]
    cases flg (tx l) q nt with
    | none => exact .error _ _
    | some p => exact .ok _ _ (sim_tail h (by omega))
  · rw [if_neg h2, if_neg (fun e => h2 ((sim_kd h (by decide) (by decide)).2 e))]
    have hr := item_sim (nt := nt) h
    revert hr
    generalize item nt l = a
    generalize item nt l' = a'
    intro hr
    cases hr with
    | error e e' => exact .error _ _
    | ok x hs => exact .ok _ _ hs
theorem sim_skip {l l' : List Tok} (h : Sim l l') : Sim (skipGap l) (skipGap l') ∧ kd (skipGap l') ≠ 8 := by
  cases h with
  | nil => exact ⟨.nil, by decide⟩
  | last t t' u h1 h2 h3 h4 =>
    have e1 : skipGap [t] = [t] := if_neg (by show t.1 ≠ 8; omega)
    have e2 : skipGap [t', u] = [u] := if_pos h2
    rw [e1, e2]
    exact ⟨.cons _ _ (by omega) (.inr h4) (by omega) .nil, by show u.1 ≠ 8; omega⟩
  | cons t t' h1 h2 hg h3 =>
    rename_i l l'
    by_cases h8 : t.1 = 8
    · have e1 : skipGap (t :: l) = l := if_pos h8
      have e2 : skipGap (t' :: l') = l' := if_pos (show t'.1 = 8 by omega)
      rw [e1, e2]
      exact ⟨h3, hg h8⟩
    · have e1 : skipGap (t :: l) = t :: l := if_neg h8
      have e2 : skipGap (t' :: l') = t' :: l' := if_neg (show t'.1 ≠ 8 by omega)
      rw [e1, e2]
      exact ⟨.cons _ _ h1 h2 hg h3, by show t'.1 ≠ 8; omega⟩
theorem sim_kd9 {l l' : List Tok} (h : Sim l l') (h8 : kd l' ≠ 8) : kd l = kd l' := by
  cases h with
  | nil => rfl
  | last t t' u h1 h2 h3 h4 => exact absurd h2 h8
  | cons t t' h1 h2 hg h3 => exact h1
theorem sim_end {l l' : List Tok} (h : Sim l l') : (kd l = 8 ∨ kd l = 9) ↔ (kd l' = 8 ∨ kd l' = 9) := by
  cases h with
  | nil => exact Iff.rfl
  | last t t' u h1 h2 h3 h4 => simp only [kd]; omega
  | cons t t' h1 h2 hg h3 => simp only [kd]; omega
/-- questions that are one, or errors -/
inductive RQ : Except Nat Qy → Except Nat Qy → Prop
  | ok (q : Qy) : RQ (.ok q) (.ok q)
  | error (e e' : Nat) : RQ (.error e) (.error e')
theorem skip_len (l : List Tok) : (skipGap l).length ≤ l.length := by unfold skipGap; split <;> simp
theorem round_lt {l r : List Tok} {q q' : Qy} {nt nt' : Bool} (h : round l q nt = .ok (q', nt', r)) : r.length < l.length := by
  unfold round at h
  split at h
  · have e := kd_posF (l := l) (by omega)
    cases hf : flg (tx l) q nt with
    | none => rw [hf] at h; cases h
    | some p => rw [hf] at h; cases h; omega
  · cases hi : item nt l with
    | error e => rw [hi] at h; cases h
    | ok p => obtain ⟨x, r'⟩ := p; rw [hi] at h; have := item_lenF hi; cases h; omega
theorem quest_sim : ∀ (f f' : Nat) (l l' : List Tok) (q : Qy) (nt : Bool), Sim l l' → l.length < f → l'.length < f' → RQ (quest f l q nt) (quest f' l' q nt) := by
  intro f
  induction f with
  | zero => intro f' l l' q nt h hf; omega
  | succ f ih =>
    intro f' l l' q nt h hf hf'
    obtain ⟨f', rfl⟩ : ∃ g, f' = g + 1 := ⟨f' - 1, by omega⟩
    obtain ⟨hs, h8⟩ := sim_skip h
    have l1 := skip_len l
    have l2 := skip_len l'
    rw [quest, quest, sim_kd9 hs h8]
    by_cases h9 : kd (skipGap l') = 9
    · rw [if_pos h9, if_pos h9]; exact .ok _
    · rw [if_neg h9, if_neg h9]
      have hr := round_sim (q := q) (nt := nt) hs
      have c1 := @round_lt (skipGap l)
      have c2 := @round_lt (skipGap l')
      have d1 := fun r q' nt' => @c1 r q q' nt nt'
      have d2 := fun r q' nt' => @c2 r q q' nt nt'
      clear c1 c2
      revert hr d1 d2
      generalize round (skipGap l) q nt = a
      generalize round (skipGap l') q nt = a'
      intro hr d1 d2
      cases hr with
      | error e e' => exact .error _ _
      | ok q2 n2 hs2 =>
        rename_i r r'
        have := d1 _ _ _ rfl
        have := d2 _ _ _ rfl
        simp only
        by_cases he : kd r = 8 ∨ kd r = 9
        · rw [if_pos he, if_pos ((sim_end hs2).1 he)]
          exact ih _ _ _ _ _ hs2 (by omega) (by omega)
        · rw [if_neg he, if_neg (fun e => he ((sim_end hs2).2 e))]
          exact .error _ _
end Go.Gap

namespace Go.Gap
open Go.Lex Go.Prs
/-- the text with its blanks -/
def wide (m : Nat) (s : List UInt8) : List UInt8 := gp m ++ (ins m s ++ gp m)
/-- tokens that mean the same, a blank ahead perhaps -/
def Sil (l l' : List Tok) : Prop := Sim l l' ∨ ∃ u l2, l' = u :: l2 ∧ u.1 = 8 ∧ kd l ≠ 8 ∧ kd l2 ≠ 8 ∧ Sim l l2
def OuL : Except (Nat × Nat) (List Tok) → Except (Nat × Nat) (List Tok) → Prop
  | .ok l, .ok l' => Sil l l'
  | .error e, .error e' => e.2 = e'.2 ∨ e.2 = 5 ∨ e'.2 = 5
  | .error e, .ok _ => e.2 = 5
  | .ok _, .error e' => e'.2 = 5
theorem Out.ouL {x x' : Except (Nat × Nat) (List Tok)} (h : Out x x') : OuL x x' := by
  cases x with
  | error e => cases x' with
    | error e' => exact h
    | ok l => exact h
  | ok l => cases x' with
    | error e' => exact h
    | ok l' => exact .inl h
theorem ouL_r (p : Nat) (x : Except (Nat × Nat) (List Tok)) : OuL x (.error (p, 5)) := (out_r p x).ouL
theorem tokens_gap (m : Nat) (s : List UInt8) (h1 : s.length ≤ 200) (h2 : (wide m s).length ≤ 200) : OuL (tokens one s) (tokens one (wide m s)) := by
  unfold tokens
  rw [if_neg (by omega), if_neg (by omega)]
  have hw : (wide m s).length = m + (ins m s ++ gp m).length := by unfold wide; rw [List.length_append, gp_len]
  obtain ⟨k, y, rfl, hy⟩ := split_gap s
  by_cases hm : m = 0
  · subst hm
    have e : wide 0 (gp k ++ y) = ins 0 (gp k ++ y) ++ gp 0 := rfl
    rw [e]
    exact (out_gap 0 _ _ _ _ _ _ _ (by omega) (by omega)).ouL
  · by_cases hk : k = 0
    · subst hk
      have hy' : ∀ c, y.head? = some c → c ≠ 32 := hy
      show OuL (tkG one (y.length + 1) y 0 0) (tkG one ((wide m y).length + 1) (wide m y) 0 0)
      have hw' : (wide m y).length = m + (ins m y ++ gp m).length := hw
      by_cases hy0 : y = []
      · subst hy0
        have e : wide m [] = gp (m + m) ++ [] := by unfold wide; rw [List.append_nil, ← gp_add]; rfl
        have hl : (wide m []).length = m + m := by rw [e, List.append_nil, gp_len]
        rw [hl, e, tk_end (f := ([] : List UInt8).length + 1) (by omega), tk_step (gp_ne (by omega) []) (one_gap (by omega) hy), if_neg (show ¬ m + m = 0 by omega), if_neg (show ¬ (0 : Nat) = 60 by omega), gp_drop, tk_end (f := m + m) (by omega), if_neg (show ¬ (0 : Nat) = 60 by omega), if_neg (show ¬ (0 + 1 : Nat) = 60 by omega)]
        exact .inr ⟨_, _, rfl, rfl, by show (9 : Nat) ≠ 8; decide, by show (9 : Nat) ≠ 8; decide, .cons _ _ rfl (.inr rfl) (fun e => by cases e) .nil⟩
      · have hh := ins_head (m := m) hy' hy0 (gp m)
        rw [hw']
        unfold wide
        rw [tk_step (gp_ne (by omega) _) (one_gap (by omega) hh), if_neg hm, if_neg (show ¬ (0 : Nat) = 60 by omega), gp_drop]
        have ho := out_gap m (y.length + 1) (m + (ins m y ++ gp m).length) y 0 (0 + m) 0 (0 + 1) (by omega) (by omega)
        have k1 := @tk_kd (y.length + 1) 0 0 y
        have k2 := @tk_kd (m + (ins m y ++ gp m).length) (0 + m) (0 + 1) (ins m y ++ gp m)
        have k1 := fun l => @k1 l hy'
        have k2 := fun l => @k2 l hh
        revert ho k1 k2
        generalize tkG one (y.length + 1) y 0 0 = a
        generalize tkG one (m + (ins m y ++ gp m).length) (ins m y ++ gp m) (0 + m) (0 + 1) = a'
        intro ho k1 k2
        cases a with
        | error e => cases a' with
          | error e' => exact ho
          | ok l => exact ho
        | ok l => cases a' with
          | error e' => exact ho
          | ok l' => exact .inr ⟨_, _, rfl, rfl, k1 _ rfl, k2 _ rfl, ho⟩
    · have hkp : 0 < k := by omega
      have hL : (gp k ++ y).length = k + y.length := by rw [List.length_append, gp_len]
      by_cases hy0 : y = []
      · subst hy0
        have e : wide m (gp k ++ []) = gp (m + (k * (m + 1) + m)) ++ [] := by
          unfold wide
          rw [ins_gp, ← gp_add m, ← gp_add (k * (m + 1)), List.append_nil]
          show gp m ++ ((gp (k * (m + 1)) ++ []) ++ gp m) = _
          rw [List.append_nil]
        have hl : (wide m (gp k ++ [])).length = m + (k * (m + 1) + m) := by rw [e, List.append_nil, gp_len]
        rw [hl, e]
        refine (out_step (gp_ne hkp []) (gp_ne (by omega) []) (one_gap hkp hy) (one_gap (by omega) hy) (by omega) (.inl rfl) (fun _ l' hl' => tk_kd (r := []) (by intro c hc; cases hc) (by rw [gp_drop] at hl'; exact hl')) ?_).ouL
        have a1 : ∀ f p c, 0 < f → tkG one f [] p c = if c = 60 then .error (p, 5) else .ok [(9, [], p)] := fun f p c h => tk_end h
        rw [gp_drop, gp_drop, a1 _ _ _ (by omega), a1 _ _ _ (by omega)]
        exact out_end _ _ _ _
      · have e : wide m (gp k ++ y) = gp (m + k * (m + 1)) ++ (ins m y ++ gp m) := by
          unfold wide
          rw [ins_gp, ← gp_add, List.append_assoc, List.append_assoc]
        have hl : (wide m (gp k ++ y)).length = m + k * (m + 1) + (ins m y ++ gp m).length := by rw [e, List.length_append, gp_len]
        have hh := ins_head (m := m) hy hy0 (gp m)
        rw [hl, e]
        refine (out_step (gp_ne hkp y) (gp_ne (by omega) _) (one_gap hkp hy) (one_gap (by omega) hh) (by omega) (.inl rfl) (fun _ l' hl' => tk_kd hh (by rw [gp_drop] at hl'; exact hl')) ?_).ouL
        rw [gp_drop, gp_drop]
        exact out_gap m _ _ _ _ _ _ _ (by omega) (by omega)
/-- the law: what is read is one, where there are not too many tokens -/
theorem parse_gap (m : Nat) (s : List UInt8) (h1 : s.length ≤ 200) (h2 : (wide m s).length ≤ 200) (e1 : (parse s).2.2 ≠ 5) (e2 : (parse (wide m s)).2.2 ≠ 5) :
    (parse s).2.2 = (parse (wide m s)).2.2 ∧ (parse s).1 = (parse (wide m s)).1 := by
  have ho := tokens_gap m s h1 h2
  unfold parse at *
  revert ho e1 e2
  generalize tokens one s = a
  generalize tokens one (wide m s) = a'
  intro e1 e2 ho
  cases a with
  | error e => cases a' with
    | error e' =>
      obtain ⟨p, c⟩ := e; obtain ⟨p', c'⟩ := e'
      rcases ho with ho | ho | ho
      · exact ⟨ho, rfl⟩
      · exact absurd ho e1
      · exact absurd ho e2
    | ok l => exact absurd ho e1
  | ok l => cases a' with
    | error e' => exact absurd ho e2
    | ok l' =>
      have hq : RQ (quest (l.length + 1) l nQy false) (quest (l'.length + 1) l' nQy false) := by
        rcases ho with ho | ⟨u, l2, rfl, hu, k1, k2, ho⟩
        · exact quest_sim _ _ _ _ _ _ ho (by omega) (by omega)
        · have s1 : skipGap (u :: l2) = skipGap l2 := by
            rw [show skipGap (u :: l2) = l2 from if_pos hu, show skipGap l2 = l2 from if_neg k2]
          have : quest ((u :: l2).length + 1) (u :: l2) nQy false = quest ((u :: l2).length + 1) l2 nQy false := by
            rw [quest, quest, s1]
          rw [this]
          exact quest_sim _ _ _ _ _ _ ho (by omega) (by simp; omega)
      revert hq
      simp only
      generalize quest (l.length + 1) l nQy false = b
      generalize quest (l'.length + 1) l' nQy false = b'
      intro hq
      cases hq with
      | ok q => exact ⟨rfl, rfl⟩
      | error e e' => exact ⟨rfl, rfl⟩
end Go.Gap

namespace Go.Gap
theorem ins_len (m : Nat) : ∀ a : List UInt8, (ins m a).length ≤ (m + 1) * a.length
  | [] => by simp [ins]
  | c :: a => by
    have := ins_len m a
    rw [ins, List.length_cons, Nat.mul_add]
    split
    · rw [List.length_cons, List.length_append, gp_len]; omega
    · rw [List.length_cons]; omega
theorem ins_snoc (m : Nat) (c : UInt8) : ∀ a : List UInt8, ins m (a ++ [c]) = ins m a ++ (if c = 32 then 32 :: gp m else [c])
  | [] => by
    simp only [List.nil_append, ins]
    split
    · rw [List.append_nil]
    · rfl
  | d :: a => by
    rw [List.cons_append, ins, ins_snoc m c a, ins]
    split
    · rw [List.cons_append, List.append_assoc]
    · rw [List.cons_append]
theorem ins_take (m : Nat) {s : List UInt8} {j : Nat} (h : j < s.length) : ins m (s.take (j + 1)) = ins m (s.take j) ++ (if s[j] = 32 then 32 :: gp m else [s[j]]) := by
  rw [List.take_succ_eq_append_getElem h, ins_snoc]
theorem take1 {s : List UInt8} {j : Nat} (h : j < s.length) : (s.drop j).take 1 = [s[j]] := by rw [List.drop_eq_getElem_cons h]; rfl
end Go.Gap
namespace Go.Proofs.Ytolahnnkdpbdfaa
open Go.Proofs Go.RowKit Go.Shelf Go.Sl Go.Prs
set_option maxRecDepth 100000 in
set_option maxHeartbeats 8000000 in
theorem parseGaps_any (s : List UInt8) (n : Nat) (hn : n < 256) (w : World) (hm : Ml w) : Calls Try.prog 8 #[.string (bstr s), .int .u8 (n : Nat)] w fun e w' => e = .returned (.bool true) ∧ Below w.heap.size w w' := by
  have HM := Lib.hid hm
  have HW := Lib.hid (fun u (hu : Below w.heap.size w u) => works28_any u (HM.out.ext hu))
  clear hm
  by_cases hlong : 100 < s.length
  · have hl : decide ((100 : Int) < (s.length : Int)) = true := decide_eq_true (by omega)
    go_enter Try.func8, Try.ntmps8
    go_wp2_with fail
    refine (HW.out _ (Below.refl _ _)).mono ?_
    rintro e w1 ⟨rfl, hb⟩
    go_wp2_with fail
    go_ret
    exact ⟨rfl, hb⟩
  · have hl : decide ((100 : Int) < (s.length : Int)) = false := decide_eq_false (by omega)
    have HP := Lib.hid (parse1_any s w (by omega) HM.out)
    have HF := Lib.hid (parse_few s)
    obtain ⟨⟨q, p, c⟩, ho⟩ : ∃ o, Hid (Prs.parse s = o) := ⟨_, Lib.hid rfl⟩
    rw [ho.out] at HP HF
    have Hn := Lib.hid hn
    clear hn
    go_enter Try.func8, Try.ntmps8
    go_wp2_with fail
    refine HP.out.mono ?_
    rintro e w1 ⟨hb, iv, rfl, hq⟩
    have HQ := Lib.hid hq.is
    have HB := Lib.hid hb
    obtain ⟨a0, n0, c0, rfl⟩ := hq.isSlice
    unfold qv
    dsimp only
    clear HP hb hq
    go_wp2_with fail
    have hBW : Below w.heap.size w (w1.alloc (.cells #[.slice a0 n0 c0, .int .i64 q.mx, .int .i64 q.sk, .int .i64 q.od, .bool q.fi, .bool q.rv] 47)) := HB.out.alloc HB.out.size _
    have hQ1 : IS (w1.alloc (.cells #[.slice a0 n0 c0, .int .i64 q.mx, .int .i64 q.sk, .int .i64 q.od, .bool q.fi, .bool q.rv] 47)) (.slice a0 n0 c0) q.its := HQ.out.ext ((Below.refl _ _).alloc (Nat.le_refl _) _)
    have hr0 := heap_alloc_new w1 (.cells #[.slice a0 n0 c0, .int .i64 q.mx, .int .i64 q.sk, .int .i64 q.od, .bool q.fi, .bool q.rv] 47)
    have hsz : w1.heap.size < (w1.alloc (.cells #[.slice a0 n0 c0, .int .i64 q.mx, .int .i64 q.sk, .int .i64 q.od, .bool q.fi, .bool q.rv] 47)).heap.size := by simp
    generalize w1.alloc (.cells #[.slice a0 n0 c0, .int .i64 q.mx, .int .i64 q.sk, .int .i64 q.od, .bool q.fi, .bool q.rv] 47) = W at hBW hQ1 hr0 hsz ⊢
    have HBW := Lib.hid hBW
    have HQ1 := Lib.hid hQ1
    have HR0 := Lib.hid (fun u (hu : Below W.heap.size W u) => (hu.block _ hsz).trans hr0)
    have HS1 := Lib.hid hsz
    generalize w1.heap.size = B at *
    clear hBW hQ1 hr0 hsz HB HQ hlong w1
    obtain ⟨m, hm⟩ : ∃ m, Hid (n % 5 = m) := ⟨_, Lib.hid rfl⟩
    have hmn : ((n : Int).tmod 5) = (m : Int) := by rw [← hm.out, Int.tmod_eq_emod_of_nonneg (by omega)]; omega
    have Hm5 := Lib.hid (show m < 5 by rw [← hm.out]; omega)
    have hmw : wrap64 (m : Int) = (m : Int) := by have := Hm5.out; unfold wrap64; omega
    go_loopw [8, 9] (fun g i wr => ∃ k : Nat, k ≤ m ∧ i = .int .i64 k ∧ g = .string (bstr (Gap.gp k)) ∧ wr = W) (fun _ i _ => m - (intOf i).toNat)
    case atStart => exact ⟨0, by omega, rfl, rfl, rfl⟩
    case round =>
      obtain ⟨k, hk, rfl, rfl, rfl⟩ := hrel
      by_cases hlt : k < m
      · have hd : decide ((k : Int) < (m : Int)) = true := decide_eq_true (by omega)
        have hg : (Gap.gp k).length + 1 ≤ 9223372036854775807 := by rw [Gap.gp_len]; have := Hm5.out; omega
        have hk1 : wrap64 ((k : Int) + 1) = (k : Int) + 1 := by have := Hm5.out; unfold wrap64; omega
        go_wp2_with fail
        refine ⟨⟨k + 1, by omega, by rw [hk1]; rfl, ?_, trivial⟩, ?_⟩
        · show Value.string (bstr (Gap.gp k) ++ bstr (Gap.gp 1)) = _
          rw [bstr_append, Gap.gp_add]
        · rw [hk1]; simp only [intOf]; omega
      · have hd : decide ((k : Int) < (m : Int)) = false := decide_eq_false (by omega)
        obtain rfl : k = m := by omega
        have Hl := Lib.hid (show s.length ≤ 100 by simp at hl; omega)
        clear hk hlt hl
        go_wp2_with fail
        clear hd hmn hmw
        go_loopw [10, 11] (fun g i wx => ∃ j : Nat, j ≤ s.length ∧ i = .int .i64 j ∧ g = .string (bstr (Gap.gp k ++ Gap.ins k (s.take j))) ∧ wx = wr) (fun _ i _ => s.length - (intOf i).toNat)
        case atStart => exact ⟨0, by omega, rfl, by simp [Gap.ins], rfl⟩
        case round =>
          obtain ⟨j, hj, rfl, rfl, rfl⟩ := hrel
          by_cases hlt : j < s.length
          · have hd : decide ((j : Int) < (s.length : Int)) = true := decide_eq_true (by omega)
            have hj1 : wrap64 ((j : Int) + 1) = (j : Int) + 1 := by have := Hl.out; unfold wrap64; omega
            have hI := Gap.ins_len k (s.take j)
            have hI2 : (k + 1) * (s.take j).length ≤ 5 * 100 := Nat.mul_le_mul (by have := Hm5.out; omega) (by have := Hl.out; rw [List.length_take]; omega)
            have hG := Gap.gp_len k
            have hk5 := Hm5.out
            go_wp2_with fail
            · rename_i hb
              have h32 : s[j] = 32 := UInt8.toNat_inj.1 (by have := eq_of_beq hb; show s[j].toNat = 32; omega)
              refine ⟨⟨j + 1, by omega, by rw [hj1]; rfl, ?_, trivial⟩, by rw [hj1]; simp only [intOf]; omega⟩
              rw [Gap.ins_take k hlt, Gap.take1 hlt, if_pos h32, h32]; rfl
            · rename_i _ hb
              have h32 : s[j] ≠ 32 := by intro e; rw [e] at hb; exact absurd hb (by decide)
              refine ⟨⟨j + 1, by omega, by rw [hj1]; rfl, ?_, trivial⟩, by rw [hj1]; simp only [intOf]; omega⟩
              rw [Gap.ins_take k hlt, Gap.take1 hlt, if_neg h32]
          · have hd : decide ((j : Int) < (s.length : Int)) = false := decide_eq_false (by omega)
            obtain rfl : j = s.length := by omega
            have hI := Gap.ins_len k s
            have hI2 : (k + 1) * s.length ≤ 5 * 100 := Nat.mul_le_mul (by have := Hm5.out; omega) Hl.out
            have hG := Gap.gp_len k
            have hk5 := Hm5.out
            rw [List.take_length] 
            go_wp2_with fail
            · refine (HW.out _ HBW.out).mono ?_
              rintro e w2 ⟨rfl, hb⟩
              go_wp2_with fail
              go_ret
              exact ⟨rfl, HBW.out.trans (hb.mono HBW.out.size)⟩
            · have Hw2 : Hid ((Gap.wide k s).length ≤ 200) := Lib.hid (by unfold Gap.wide; simp only [List.length_append]; omega)
              have HE := Lib.hid (Gap.parse_gap k s (by have := Hl.out; omega) Hw2.out)
              have HP2 := Lib.hid (parse1_any (Gap.wide k s) wr (by have := Hw2.out; omega) (HM.out.ext HBW.out))
              obtain ⟨⟨q2, p2, c2⟩, ho2⟩ : ∃ o, Hid (Prs.parse (Gap.wide k s) = o) := ⟨_, Lib.hid rfl⟩
              rw [ho.out, ho2.out] at HE
              rw [ho2.out] at HP2
              clear hI hI2 hG hk5 hd
              refine HP2.out.mono ?_
              rintro e w2 ⟨hb2, iv2, rfl, hq2⟩
              have HQ2 := Lib.hid hq2.is
              have HB2 := Lib.hid hb2
              obtain ⟨a2, n2, c4, rfl⟩ := hq2.isSlice
              unfold qv
              dsimp only
              clear HP2 hb2 hq2
              have HB2w := Lib.hid (HBW.out.trans (HB2.out.mono HBW.out.size))
              by_cases h5 : c = 5
              · have hc5 : ((c : Int) == 5) = true := by rw [h5]; rfl
                clear h5
                go_wp2_with fail
                refine (HW.out _ (HB2w.out.alloc HB2w.out.size _)).mono ?_
                rintro e w5 ⟨rfl, hb⟩
                go_wp2_with fail
                go_ret
                exact ⟨rfl, (HB2w.out.alloc HB2w.out.size _).trans (hb.mono (HB2w.out.alloc HB2w.out.size _).size)⟩
              · have hc5 : ((c : Int) == 5) = false := by rw [beq_eq_false_iff_ne]; omega
                by_cases h52 : c2 = 5
                · have hc6 : ((c2 : Int) == 5) = true := by rw [h52]; rfl
                  clear h5 h52
                  go_wp2_with fail
                  refine (HW.out _ (HB2w.out.alloc HB2w.out.size _)).mono ?_
                  rintro e w5 ⟨rfl, hb⟩
                  go_wp2_with fail
                  go_ret
                  exact ⟨rfl, (HB2w.out.alloc HB2w.out.size _).trans (hb.mono (HB2w.out.alloc HB2w.out.size _).size)⟩
                · have hc6 : ((c2 : Int) == 5) = false := by rw [beq_eq_false_iff_ne]; omega
                  obtain ⟨rfl, rfl⟩ := HE.out h5 h52
                  clear h5 h52 HE
                  have hcc : ((c : Int) == (c : Int)) = true := by simp
                  have HPl := Lib.hid (fun u (hu : IS u (.slice a0 n0 c0) q.its) => plain_any (.slice a0 n0 c0) q u hu HF.out)
                  have HPl2 := Lib.hid (fun u (hu : IS u (.slice a2 n2 c4) q.its) => plain_any (.slice a2 n2 c4) q u hu HF.out)
                  have HSm : Hid (∀ u v1 v2, IS u v1 q.its → IS u v2 q.its → Calls Try.prog 25 #[.agg #[v1, .int .i64 q.mx, .int .i64 q.sk, .int .i64 q.od, .bool q.fi, .bool q.rv], .agg #[v2, .int .i64 q.mx, .int .i64 q.sk, .int .i64 q.od, .bool q.fi, .bool q.rv]] u fun e w' => e = .returned (.bool true) ∧ Below u.heap.size u w') :=
                    Lib.hid (fun u v1 v2 h1 h2 => (dsame_any v1 v2 q q u h1 h2).mono (fun e w' ⟨he, hb⟩ => ⟨by rw [he, decide_eq_true rfl], hb⟩))
                  unfold qv at HPl HPl2
                  have hBx : Below wr.heap.size wr (w2.alloc (.cells #[.slice a2 n2 c4, .int .i64 q.mx, .int .i64 q.sk, .int .i64 q.od, .bool q.fi, .bool q.rv] 47)) := HB2.out.alloc HB2.out.size _
                  have hQ2 : IS (w2.alloc (.cells #[.slice a2 n2 c4, .int .i64 q.mx, .int .i64 q.sk, .int .i64 q.od, .bool q.fi, .bool q.rv] 47)) (.slice a2 n2 c4) q.its := HQ2.out.ext ((Below.refl _ _).alloc (Nat.le_refl _) _)
                  have hr0 := heap_alloc_new w2 (.cells #[.slice a2 n2 c4, .int .i64 q.mx, .int .i64 q.sk, .int .i64 q.od, .bool q.fi, .bool q.rv] 47)
                  have hsz : w2.heap.size < (w2.alloc (.cells #[.slice a2 n2 c4, .int .i64 q.mx, .int .i64 q.sk, .int .i64 q.od, .bool q.fi, .bool q.rv] 47)).heap.size := by simp
                  go_wp2_with fail
                  generalize w2.alloc (.cells #[.slice a2 n2 c4, .int .i64 q.mx, .int .i64 q.sk, .int .i64 q.od, .bool q.fi, .bool q.rv] 47) = X at hBx hQ2 hr0 hsz ⊢
                  have HBX := Lib.hid (HBW.out.trans (hBx.mono HBW.out.size))
                  have HQX := Lib.hid (HQ1.out.ext hBx)
                  have HQY := Lib.hid hQ2
                  have HRX := Lib.hid (fun u (hu : Below X.heap.size X u) => (hu.block _ hsz).trans hr0)
                  have hl0 := HR0.out X hBx
                  clear hQ2 HQ2 HB2 HB2w HM HR0 HS1 hBx HQ1
                  obtain ⟨-, y0, y1, y2, y3, y4, y5⟩ := six_cells hl0
                  have yf := bk_frozen ⟨_, hl0⟩
                  obtain ⟨-, z0, z1, z2, z3, z4, z5⟩ := six_cells hr0
                  have zf := bk_frozen ⟨_, hr0⟩
                  clear hl0 hr0 hsz
                  go_region_law (first
                    | (go_simp; go_at_call 25; refine (HSm.out _ _ _ (HQ3.out.ext HB34.out) HQ4.out).mono ?_; rintro e w5 ⟨rfl, hb5⟩; have HB5 := Lib.hid (HBX.out.trans ((HB4.out.trans (hb5.mono HB4.out.size)).mono HBX.out.size)); clear hb5; dsimp only)
                    | (go_simp; go_at_call 26; have _g := HQ3.out; refine (HPl2.out _ (HQY.out.ext HB3.out)).mono ?_; rintro e w4 ⟨iv4, rfl, hq4, hb4⟩; obtain ⟨a4, n4, c44, rfl⟩ := hq4.isSlice; have HQ4 := Lib.hid hq4.is; have HB34 := Lib.hid hb4; have HB4 := Lib.hid (HB3.out.trans (hb4.mono HB3.out.size)); clear hq4 hb4; dsimp only)
                    | (go_simp; go_at_call 26; refine (HPl.out _ (HQX.out.ext (Below.refl _ _).drew)).mono ?_; rintro e w3 ⟨iv3, rfl, hq3, hb3⟩; obtain ⟨a3, n3, c3, rfl⟩ := hq3.isSlice; have HQ3 := Lib.hid hq3.is; have HB3 := Lib.hid (below_undrew hb3); obtain ⟨-, t0, t1, t2, t3, t4, t5⟩ := six_cells (HRX.out _ HB3.out); have tf := bk_frozen ⟨_, HRX.out _ HB3.out⟩; clear hq3 hb3; dsimp only)
                    | (go_simp; go_at_call 22; refine (HW.out _ HB5.out).mono ?_; rintro e w6 ⟨rfl, hb6⟩; have HB6 := Lib.hid (HB5.out.trans (hb6.mono HB5.out.size)); clear hb6; dsimp only))
                  all_goals
                    go_wp2_with fail
                    go_ret
                    exact ⟨rfl, HB6.out⟩
end Go.Proofs.Ytolahnnkdpbdfaa
namespace Go.Proofs.Ytolahnnkdpbdfaa
theorem wf_u8 {a : Int} (h : (Lit.int .u8 a).wf = true) : ∃ n : Nat, n < 256 ∧ a = (n : Int) := by
  have h2 : 0 ≤ a ∧ a < 256 := by
    simp only [Lit.wf, Bool.and_eq_true, decide_eq_true_eq] at h
    have h1 : IntKind.u8.min = 0 := by rfl
    have h2 : IntKind.u8.max = 255 := by rfl
    omega
  exact ⟨a.toNat, by omega, by omega⟩
end Go.Proofs.Ytolahnnkdpbdfaa
