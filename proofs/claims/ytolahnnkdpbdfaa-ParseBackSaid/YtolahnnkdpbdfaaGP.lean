/-
  Layer 28: the tokens of a printed question, in plain Lean: each part is cut where it ends. No program is named here.
  Layer 28: a printed question is cut into the tokens of its parts, in plain Lean. No program is named here.
  Layer 28: a printed question is read back, in plain Lean. No program is named here.
  Layer 28: a question that was read may be, and is not too large, in plain Lean. No program is named here.
-/
import Derived.Test.YtolahnnkdpbdfaaGJ
import Derived.Test.YtolahnnkdpbdfaaGM
import Derived.Test.YtolahnnkdpbdfaaB1
namespace Go.Prs
open Go.Lex Go.Gap
/-- what may follow a word -/
def En (y : List UInt8) : Prop := y = [] ∨ ∃ c z, y = c :: z ∧ (c = 32 ∨ c = 94 ∨ c = 126 ∨ (c = 46 ∧ z.head? = some 46))
theorem En.of_bl {y : List UInt8} (h : Bl y) : En y := by
  rcases h with rfl | ⟨z, rfl⟩
  · exact .inl rfl
  · exact .inr ⟨32, z, rfl, .inl rfl⟩
theorem wordG_En {y : List UInt8} (h : En y) : wordG y = 0 := by
  rcases h with rfl | ⟨c, z, rfl, h⟩
  · rfl
  · unfold wordG
    rw [if_neg]
    rintro (⟨h1, h2⟩ | h3)
    · rcases h with rfl | rfl | rfl | ⟨rfl, hz⟩
      · exact absurd h1 (by decide)
      · exact absurd h1 (by decide)
      · exact absurd h1 (by decide)
      · exact absurd (h2 46 hz) (by decide)
    · rcases h with rfl | rfl | rfl | ⟨rfl, hz⟩ <;> exact absurd h3 (by decide)
theorem wordG_all : ∀ s : List UInt8, rwG s = true → s.getLast? ≠ some 46 → ∀ y, En y → wordG (s ++ y) = s.length
  | [], _, _, y, hy => wordG_En hy
  | c :: s, h, hl, y, hy => by
    simp only [rwG, Bool.and_eq_true, Bool.or_eq_true, Bool.not_eq_true'] at h
    obtain ⟨⟨h1, h2⟩, h3⟩ := h
    have hls : s.getLast? ≠ some 46 := by
      cases s with
      | nil => simp
      | cons d s => simpa using hl
    have ih := wordG_all s h3 hls y hy
    simp only [List.cons_append, wordG, List.length_cons]
    rw [if_pos, ih]
    rcases h1 with h1 | h1
    · exact .inr h1
    · refine .inl ⟨h1, fun d hd => ?_⟩
      cases s with
      | nil =>
        exfalso; apply hl
        have : c = 46 := b46.2 ((isDot_iff c).1 h1)
        rw [this]; rfl
      | cons e s =>
        simp only [List.cons_append, List.head?_cons, Option.some.injEq] at hd
        subst hd
        rw [h1, Bool.true_and] at h2
        exact h2
/-- a word: its first byte tells that it is one -/
def Wd (s : List UInt8) : Prop := ∃ c r, s = c :: r ∧ c.toNat ≠ 32 ∧ c.toNat ≠ 94 ∧ c.toNat ≠ 126 ∧ c.toNat ≠ 123 ∧ c.toNat ≠ 45 ∧ c.toNat ≠ 46 ∧ rwG s = true ∧ s.getLast? ≠ some 46
theorem word_tok {s : List UInt8} (hw : Wd s) {y : List UInt8} (hy : En y) : one (s ++ y) = (1, s.length) := by
  obtain ⟨c, r, rfl, h1, h2, h3, h4, h5, h6, h7, h8⟩ := hw
  have hg := wordG_all _ h7 h8 y hy
  have hd : whileN isDot (c :: (r ++ y)) = 0 := by
    rw [whileN, if_neg]; intro h; exact h6 ((isDot_iff c).1 h)
  have hwd : word (c :: (r ++ y)) = (c :: r).length := by
    unfold word
    rw [if_neg]
    · exact hg
    · rintro (h | ⟨d, hd, hd2⟩)
      · cases h
      · simp only [List.head?_cons, Option.some.injEq] at hd
        subst hd; exact h5 hd2
  show one (c :: (r ++ y)) = _
  unfold one
  simp only
  rw [if_neg h1, if_neg h2, if_neg h3, if_neg h4, if_neg h5, hd, if_neg (by omega), if_neg (by omega), hwd]
theorem base_wd {s : List UInt8} (h : base s = true) : Wd s := by
  unfold base at h
  simp only [Bool.and_eq_true, decide_eq_true_eq] at h
  obtain ⟨⟨⟨h0, hk⟩, h1⟩, h2⟩ := h
  cases s with
  | nil => exact absurd rfl h0
  | cons c r =>
    have hw : rword (c :: r) = true := by
      unfold kind at hk
      by_cases hw : rword (c :: r) = true
      · exact hw
      · exfalso
        rw [Bool.not_eq_true] at hw
        rw [hw] at hk
        repeat' split at hk
        all_goals first | exact absurd hk (by decide) | contradiction | (simp_all; done)
    have n1 : ∀ k, (k = 32 ∨ k = 94 ∨ k = 126 ∨ k = 123) → c.toNat ≠ k := fun k hk he => by
      have := word_no (c := c) (r := r) (by omega)
      rw [hw] at this; cases this
    have n2 : c.toNat ≠ 45 := fun he => by
      have := word_no45 (c := c) (r := r) he
      rw [hw] at this; cases this
    refine ⟨c, r, rfl, n1 32 (by simp), n1 94 (by simp), n1 126 (by simp), n1 123 (by simp), n2, ?_, ?_, ?_⟩
    · intro he
      apply h1
      rw [List.getElem?_cons_zero]
      rw [b46.2 he]
    · simp only [rword, Bool.and_eq_true] at hw
      exact hw.2
    · rw [List.getLast?_eq_getElem?]; exact h2
theorem digit_rw : ∀ s : List UInt8, s.all digit = true → rwG s = true ∧ s.getLast? ≠ some 46
  | [], _ => ⟨rfl, by simp⟩
  | c :: s, h => by
    rw [List.all_cons, Bool.and_eq_true] at h
    obtain ⟨i1, i2⟩ := digit_rw s h.2
    have hc : 48 ≤ c.toNat ∧ c.toNat ≤ 57 := by have := h.1; unfold digit at this; simpa using this
    have hd : isDot c = false := by unfold isDot; simp; omega
    have hi : inW c = true := by unfold inW; simp [h.1]
    refine ⟨by simp only [rwG, hi, hd, i1]; rfl, ?_⟩
    cases s with
    | nil =>
      simp only [List.getLast?_singleton, ne_eq, Option.some.injEq]
      intro e; rw [e] at hc; exact absurd hc.1 (by decide)
    | cons d s => simpa using i2
theorem digit_wd {s : List UInt8} (h : s.all digit = true) (h0 : s ≠ []) : Wd s := by
  obtain ⟨i1, i2⟩ := digit_rw s h
  cases s with
  | nil => exact absurd rfl h0
  | cons c r =>
    rw [List.all_cons, Bool.and_eq_true] at h
    have hc : 48 ≤ c.toNat ∧ c.toNat ≤ 57 := by have := h.1; unfold digit at this; simpa using this
    exact ⟨c, r, rfl, by omega, by omega, by omega, by omega, by omega, by omega, i1, i2⟩
theorem ud_nat {d : Nat} (h : d < 10) : (ud d).toNat = 48 + d := by unfold ud; rw [UInt8.toNat_ofNat']; omega
theorem ud_digit {d : Nat} (h : d < 10) : digit (ud d) = true := by unfold digit; rw [ud_nat h]; simp; omega
theorem dgN_digit {m : Nat} (h : m ≤ 9999) : (dgN m).all digit = true ∧ dgN m ≠ [] := by
  unfold dgN
  repeat' split
  all_goals simp only [List.all_cons, List.all_nil, Bool.and_true, Bool.and_eq_true, ne_eq, reduceCtorEq, not_false_eq_true, and_true]
  · exact ud_digit (by omega)
  · exact ⟨ud_digit (by omega), ud_digit (by omega)⟩
  · exact ⟨ud_digit (by omega), ud_digit (by omega), ud_digit (by omega)⟩
  · exact ⟨ud_digit (by omega), ud_digit (by omega), ud_digit (by omega), ud_digit (by omega)⟩
theorem while_stop {p : UInt8 → Bool} {c : UInt8} (hc : p c = false) (y : List UInt8) : ∀ w : List UInt8, w.all p = true → whileN p (w ++ c :: y) = w.length
  | [], _ => by simp [whileN, hc]
  | d :: w, h => by
    rw [List.all_cons, Bool.and_eq_true] at h
    simp only [List.cons_append, whileN, h.1, if_true, while_stop hc y w h.2, List.length_cons]
theorem brace_tok {w : List UInt8} (h : w.all letter = true) (y : List UInt8) : one ((123 :: (w ++ [125])) ++ y) = (7, (123 :: (w ++ [125])).length) := by
  have hw := while_stop (p := letter) (c := 125) (by decide) y w h
  have hb : brace (123 :: (w ++ 125 :: y)) = w.length + 2 := by
    unfold brace
    simp only [List.drop_succ_cons, List.drop_zero, hw, List.getElem?_cons_succ]
    rw [if_pos]
    rw [List.getElem?_append_right (Nat.le_refl _), Nat.sub_self]; rfl
  have e : (123 :: (w ++ [125])) ++ y = 123 :: (w ++ 125 :: y) := by simp
  rw [e]
  have : one (123 :: (w ++ 125 :: y)) = (7, brace (123 :: (w ++ 125 :: y))) := rfl
  rw [this, hb]; simp
theorem two_tok {c : UInt8} {z : List UInt8} (hc : c ≠ 46) : one ([46, 46] ++ c :: z) = (5, 2) := by
  have h : whileN isDot (46 :: 46 :: c :: z) = 2 := by
    have : isDot c = false := by rw [Bool.eq_false_iff]; intro h; exact hc (b46.2 ((isDot_iff c).1 h))
    simp [whileN, this, show isDot 46 = true by decide]
  show one (46 :: 46 :: c :: z) = _
  unfold one
  simp only
  rw [h]; rfl
theorem three_tok (z : List UInt8) : one ([46, 46, 46] ++ z) = (6, 3) := by
  have h : 3 ≤ whileN isDot (46 :: 46 :: 46 :: z) := by
    simp [whileN, show isDot 46 = true by decide]
  show one (46 :: 46 :: 46 :: z) = _
  unfold one
  simp only
  rw [if_pos h]; rfl
/-! ### kinds and texts -/
abbrev Wk := Nat × List UInt8
def cat (l : List Wk) : List UInt8 := (l.map (·.2)).flatten
theorem cat_app (l m : List Wk) : cat (l ++ m) = cat l ++ cat m := by unfold cat; simp
theorem cat_cons (t : Wk) (l : List Wk) : cat (t :: l) = t.2 ++ cat l := by unfold cat; simp
/-- each is cut where it ends -/
def Cut : List Wk → Prop
  | [] => True
  | t :: r => t.2 ≠ [] ∧ one (t.2 ++ cat r) = (t.1, t.2.length) ∧ Cut r
def kt (l : List Tok) : List Wk := l.map (fun t => (t.1, t.2.1))
theorem tk_cut : ∀ (r : List Wk) (f p c : Nat), Cut r → (cat r).length < f → (∃ q, tkG one f (cat r) p c = .error (q, 5)) ∨ (∃ l, tkG one f (cat r) p c = .ok l ∧ kt l = r ++ [(9, [])])
  | [], f, p, c, _, hf => by
    show (∃ q, tkG one f [] p c = .error (q, 5)) ∨ _
    rw [tk_end (by simp [cat] at hf; omega)]
    show _ ∨ (∃ l, tkG one f [] p c = .ok l ∧ _)
    rw [tk_end (by simp [cat] at hf; omega)]
    by_cases h : c = 60
    · rw [if_pos h]; exact .inl ⟨p, rfl⟩
    · rw [if_neg h]; exact .inr ⟨_, rfl, rfl⟩
  | t :: r, f, p, c, h, hf => by
    obtain ⟨h1, h2, h3⟩ := h
    have hlen : 0 < t.2.length := List.length_pos_iff.2 h1
    rw [cat_cons] at hf ⊢
    rw [List.length_append] at hf
    obtain ⟨f, rfl⟩ : ∃ g, f = g + 1 := ⟨f - 1, by omega⟩
    have hne : t.2 ++ cat r ≠ [] := by simp [h1]
    rw [tk_step hne h2, if_neg (by omega)]
    by_cases hc : c = 60
    · rw [if_pos hc]; exact .inl ⟨p, rfl⟩
    · rw [if_neg hc]
      have e1 : (t.2 ++ cat r).drop t.2.length = cat r := by simp
      have e2 : (t.2 ++ cat r).take t.2.length = t.2 := by simp
      rw [e1, e2]
      rcases tk_cut r f (p + t.2.length) (c + 1) h3 (by omega) with ⟨q, hq⟩ | ⟨l, hq, hk⟩
      · rw [hq]; exact .inl ⟨q, rfl⟩
      · rw [hq]; exact .inr ⟨_, rfl, by simp only [kt, List.map_cons, List.cons_append]; rw [← hk]; rfl⟩
end Go.Prs

namespace Go.Prs
open Go.Lex Go.Gap
def numW (n : Int) : List Wk := if n = 1 then [] else [(1, dg n)]
def stWk (s : St) : List Wk := if s.k = 1 then (3, [94]) :: numW s.n else if s.k = 2 then (4, [126]) :: numW s.n else [(3, [94]), (7, 123 :: (s.w ++ [125]))]
def stW (l : List St) : List Wk := l.flatMap stWk
def rvW (r : Rv) : List Wk := (1, r.b) :: stW r.st
def itW (x : It) : List Wk :=
  if x.k = 1 then (if x.nt then (3, [94]) :: rvW x.a else rvW x.a) else
  rvW x.a ++ ((if x.k = 3 then (6, [46, 46, 46]) else (5, [46, 46])) :: rvW x.b)
def itPW (x : It) : List (List Wk) := if x.k = 1 then [itW x] else if x.nt then [[(2, bNot)], itW x, [(2, bNot)]] else [itW x]
def addW (b : Bool) (s : List UInt8) (l : List (List Wk)) : List (List Wk) := if b = true then l ++ [[(2, s)]] else l
def flW (q : Qy) : List (List Wk) :=
  addW q.rv bRev (addW q.fi bFirst (addW (decide (0 < q.sk)) (bSkip ++ dg q.sk) (addW (decide (0 ≤ q.mx)) (bMax ++ dg (max q.mx 0)) (addW (q.od == 2) bTime (addW (q.od == 1) bTopo [])))))
def ptsW (q : Qy) : List (List Wk) := flW q ++ q.its.flatMap itPW
def bW (ps : List (List Wk)) : List Wk := ps.flatMap (fun p => (8, [32]) :: p)
/-! ### the texts -/
theorem cat_stWk {s : St} (h : okSt s = true) : cat (stWk s) = stT s := by
  have hk := okSt_n h
  unfold stWk stT numW num
  split
  · split <;> simp [cat]
  · split
    · split <;> simp [cat]
    · rw [if_pos (by omega)]; simp [cat]
theorem cat_stW : ∀ l : List St, l.all okSt = true → cat (stW l) = (l.map stT).flatten
  | [], _ => rfl
  | s :: l, h => by
    rw [List.all_cons, Bool.and_eq_true] at h
    unfold stW
    rw [List.flatMap_cons, cat_app, cat_stWk h.1]
    have := cat_stW l h.2
    unfold stW at this
    rw [this]; simp
theorem cat_rvW {r : Rv} (h : r.st.all okSt = true) : cat (rvW r) = rvT r := by
  unfold rvW rvT; rw [cat_cons, cat_stW _ h]
theorem okIt_parts {x : It} (h : okIt x = true) : (x.k = 1 ∨ x.k = 2 ∨ x.k = 3) ∧ okRv x.a = true ∧ (x.k ≠ 1 → okRv x.b = true) ∧ (x.k = 1 → x.b = zRv) := by
  unfold okIt at h
  rw [Bool.and_eq_true, Bool.and_eq_true, decide_eq_true_iff] at h
  refine ⟨by omega, h.1.2, fun hk => ?_, fun hk => ?_⟩
  · have := h.2; rw [if_neg hk] at this; exact this
  · have := h.2; rw [if_pos hk] at this; exact of_decide_eq_true this
theorem okRv_parts {r : Rv} (h : okRv r = true) : base r.b = true ∧ r.st.all okSt = true := by
  unfold okRv at h; rwa [Bool.and_eq_true] at h
theorem cat_itPW {x : It} (h : okIt x = true) : (itPW x).map cat = itP x := by
  obtain ⟨hk, ha, hb, _⟩ := okIt_parts h
  have e1 := cat_rvW (okRv_parts ha).2
  have c2 : ∀ s, cat [((2 : Nat), s)] = s := fun s => by simp [cat]
  unfold itPW itP itS itW
  by_cases h1 : x.k = 1
  · rw [if_pos h1, if_pos h1, if_pos h1]
    cases x.nt
    · simp [e1]
    · simp [cat_cons, e1]
  · have e2 := cat_rvW (okRv_parts (hb h1)).2
    rw [if_neg h1, if_neg h1, if_neg h1]
    by_cases h3 : x.k = 3
    · rw [if_pos h3, if_pos h3]
      cases x.nt <;> simp [cat_app, cat_cons, e1, e2, c2]
    · rw [if_neg h3, if_neg h3]
      cases x.nt <;> simp [cat_app, cat_cons, e1, e2, c2]
theorem map_addW (b : Bool) (s : List UInt8) (l : List (List Wk)) : (addW b s l).map cat = add b s (l.map cat) := by
  unfold addW add
  cases b <;> simp [cat]
theorem map_flW (q : Qy) : (flW q).map cat = fl q := by
  unfold flW fl
  rw [map_addW, map_addW, map_addW, map_addW, map_addW, map_addW]; rfl
theorem map_its : ∀ l : List It, l.all okIt = true → (l.flatMap itPW).map cat = l.flatMap itP
  | [], _ => rfl
  | x :: l, h => by
    rw [List.all_cons, Bool.and_eq_true] at h
    rw [List.flatMap_cons, List.map_append, cat_itPW h.1, map_its l h.2, List.flatMap_cons]
theorem map_ptsW {q : Qy} (h : okQy q = true) : (ptsW q).map cat = pts q q.its.length := by
  unfold okQy at h
  rw [Bool.and_eq_true] at h
  unfold ptsW pts
  rw [List.map_append, map_flW, map_its _ h.1, List.take_length]
theorem cat_bW : ∀ ps : List (List Wk), cat (bW ps) = bl (ps.map cat)
  | [] => rfl
  | p :: ps => by
    have := cat_bW ps
    unfold bW at this ⊢
    rw [List.flatMap_cons, cat_app, this, cat_cons]
    simp [bl]
/-! ### the cuts -/
theorem cut_numW {n : Int} (h : n.toNat ≤ 9999) {X : List Wk} (he : En (cat X)) (hc : Cut X) : Cut (numW n ++ X) ∧ En (cat (numW n ++ X)) ∨ Cut (numW n ++ X) := by
  right
  unfold numW
  split
  · exact hc
  · have hd := dgN_digit h
    exact ⟨hd.2, word_tok (digit_wd hd.1 hd.2) he, hc⟩
theorem cut_steps : ∀ l : List St, l.all okSt = true → ∀ X, En (cat X) → Cut X → Cut (stW l ++ X) ∧ En (cat (stW l ++ X))
  | [], _, X, he, hc => ⟨hc, he⟩
  | s :: l, h, X, he, hc => by
    rw [List.all_cons, Bool.and_eq_true] at h
    obtain ⟨i1, i2⟩ := cut_steps l h.2 X he hc
    have hs := okSt_n h.1
    have hnum : Cut (numW s.n ++ (stW l ++ X)) := (cut_numW hs.2.2.1 i2 i1).elim (fun h => h.1) id
    have e : stW (s :: l) ++ X = stWk s ++ (stW l ++ X) := by unfold stW; rw [List.flatMap_cons, List.append_assoc]
    rw [e]
    unfold stWk
    split
    · exact ⟨⟨by simp, rfl, hnum⟩, .inr ⟨94, _, rfl, .inr (.inl rfl)⟩⟩
    · split
      · exact ⟨⟨by simp, rfl, hnum⟩, .inr ⟨126, _, rfl, .inr (.inr (.inl rfl))⟩⟩
      · have hw : s.w.all letter = true := by
          have := h.1
          unfold okSt at this; rw [Bool.and_eq_true] at this; exact this.2
        exact ⟨⟨by simp, rfl, by simp, brace_tok hw _, i1⟩, .inr ⟨94, _, rfl, .inr (.inl rfl)⟩⟩
theorem cut_rev {r : Rv} (h : okRv r = true) {X : List Wk} (he : En (cat X)) (hc : Cut X) : Cut (rvW r ++ X) ∧ ∃ c z, cat (rvW r ++ X) = c :: z ∧ c ≠ 32 ∧ c ≠ 46 := by
  obtain ⟨hb, hs⟩ := okRv_parts h
  obtain ⟨i1, i2⟩ := cut_steps r.st hs X he hc
  have hw := base_wd hb
  have hn : r.b ≠ [] := by obtain ⟨c, z, e, _⟩ := hw; rw [e]; simp
  have hone := word_tok hw i2
  refine ⟨⟨hn, hone, i1⟩, ?_⟩
  obtain ⟨c, z, e, h1, _, _, _, _, h6, _⟩ := hw
  refine ⟨c, z ++ cat (stW r.st ++ X), ?_, fun e => h1 (by rw [e]; rfl), fun e => h6 (by rw [e]; rfl)⟩
  unfold rvW
  rw [List.cons_append, cat_cons]
  show r.b ++ _ = _
  rw [e]; rfl
theorem cut_it {x : It} (h : okIt x = true) {X : List Wk} (he : Bl (cat X)) (hc : Cut X) : Cut (itW x ++ X) ∧ ∃ c z, cat (itW x ++ X) = c :: z ∧ c ≠ 32 := by
  obtain ⟨hk, ha, hb, _⟩ := okIt_parts h
  unfold itW
  by_cases h1 : x.k = 1
  · rw [if_pos h1]
    obtain ⟨i1, c, z, i2, i3, _⟩ := cut_rev ha (En.of_bl he) hc
    cases x.nt
    · exact ⟨i1, c, z, i2, i3⟩
    · exact ⟨⟨by simp, rfl, i1⟩, 94, _, rfl, by decide⟩
  · rw [if_neg h1]
    obtain ⟨i1, c, z, i2, i3, i4⟩ := cut_rev (hb h1) (En.of_bl he) hc
    by_cases h3 : x.k = 3
    · rw [if_pos h3, List.append_assoc, List.cons_append]
      have hcut : Cut ((6, [46, 46, 46]) :: (rvW x.b ++ X)) := ⟨by simp, three_tok _, i1⟩
      obtain ⟨j1, d, y, j2, j3, _⟩ := cut_rev ha (X := (6, [46, 46, 46]) :: (rvW x.b ++ X)) (.inr ⟨46, _, rfl, .inr (.inr (.inr ⟨rfl, rfl⟩))⟩) hcut
      exact ⟨j1, d, y, j2, j3⟩
    · rw [if_neg h3, List.append_assoc, List.cons_append]
      have hcut : Cut ((5, [46, 46]) :: (rvW x.b ++ X)) := ⟨by simp, by rw [i2]; exact two_tok i4, i1⟩
      obtain ⟨j1, d, y, j2, j3, _⟩ := cut_rev ha (X := (5, [46, 46]) :: (rvW x.b ++ X)) (.inr ⟨46, _, rfl, .inr (.inr (.inr ⟨rfl, rfl⟩))⟩) hcut
      exact ⟨j1, d, y, j2, j3⟩
/-- a part: cut where it ends, ahead of a blank or the end -/
def Gp (p : List Wk) : Prop := ∀ X, Bl (cat X) → Cut X → Cut (p ++ X) ∧ ∃ c z, cat (p ++ X) = c :: z ∧ c ≠ 32
/-- a flag as it stands -/
def Fg (s : List UInt8) : Prop := Nb s ∧ one s = (2, s.length) ∧ s ≠ []
theorem gp_flag {s : List UInt8} (h : Fg s) : Gp [(2, s)] := by
  obtain ⟨h1, h2, h3⟩ := h
  intro X hb hc
  refine ⟨⟨h3, by show one (s ++ cat X) = _; rw [one_app hb h3 h1, h2], hc⟩, ?_⟩
  cases s with
  | nil => exact absurd rfl h3
  | cons c s => exact ⟨c, s ++ cat X, by simp [cat], h1 c (by simp)⟩
theorem nb_app {a b : List UInt8} (h1 : Nb a) (h2 : Nb b) : Nb (a ++ b) := fun c hc => by
  rcases List.mem_append.1 hc with h | h
  · exact h1 c h
  · exact h2 c h
theorem nb_digit {s : List UInt8} (h : s.all digit = true) : Nb s := fun c hc e => by
  have := List.all_eq_true.1 h c hc
  rw [e] at this; exact absurd this (by decide)
theorem while_dig {s : List UInt8} (h : s.all digit = true) : whileN digit s = s.length := by
  induction s with
  | nil => rfl
  | cons c s ih =>
    rw [List.all_cons, Bool.and_eq_true] at h
    simp only [whileN, h.1, if_true, ih h.2, List.length_cons]
theorem fg_max {m : Nat} (h : m ≤ 9999) : Fg (bMax ++ dgN m) := by
  obtain ⟨h1, h2⟩ := dgN_digit h
  have hl : 0 < (dgN m).length := List.length_pos_iff.2 h2
  refine ⟨nb_app (show ∀ c ∈ bMax, c ≠ (32 : UInt8) by decide) (nb_digit h1), ?_, by simp [bMax]⟩
  have hf : flag (bMax ++ dgN m) = 6 + (dgN m).length := by
    unfold flag
    rw [if_pos (by rfl)]
    have e : (bMax ++ dgN m).drop 2 = 109 :: 97 :: 120 :: 61 :: dgN m := rfl
    have w : whileN letter (109 :: 97 :: 120 :: 61 :: dgN m) = 3 := by simp [whileN, show letter 109 = true by decide, show letter 97 = true by decide, show letter 120 = true by decide, show letter 61 = false by decide]
    simp only [e, w]
    rw [if_neg (by omega), if_pos]
    · show 2 + (3 + (1 + whileN digit (dgN m))) = _
      rw [while_dig h1]; omega
    · exact ⟨rfl, by show 0 < whileN digit (dgN m); rw [while_dig h1]; exact hl⟩
  show (2, flag (bMax ++ dgN m)) = _
  rw [hf]; simp [bMax]; omega
theorem fg_skip {m : Nat} (h : m ≤ 9999) : Fg (bSkip ++ dgN m) := by
  obtain ⟨h1, h2⟩ := dgN_digit h
  have hl : 0 < (dgN m).length := List.length_pos_iff.2 h2
  refine ⟨nb_app (show ∀ c ∈ bSkip, c ≠ (32 : UInt8) by decide) (nb_digit h1), ?_, by simp [bSkip]⟩
  have hf : flag (bSkip ++ dgN m) = 7 + (dgN m).length := by
    unfold flag
    rw [if_pos (by rfl)]
    have e : (bSkip ++ dgN m).drop 2 = 115 :: 107 :: 105 :: 112 :: 61 :: dgN m := rfl
    have w : whileN letter (115 :: 107 :: 105 :: 112 :: 61 :: dgN m) = 4 := by simp [whileN, show letter 115 = true by decide, show letter 107 = true by decide, show letter 105 = true by decide, show letter 112 = true by decide, show letter 61 = false by decide]
    simp only [e, w]
    rw [if_neg (by omega), if_pos]
    · show 2 + (4 + (1 + whileN digit (dgN m))) = _
      rw [while_dig h1]; omega
    · exact ⟨rfl, by show 0 < whileN digit (dgN m); rw [while_dig h1]; exact hl⟩
  show (2, flag (bSkip ++ dgN m)) = _
  rw [hf]; simp [bSkip]; omega
theorem gp_addW {b : Bool} {s : List UInt8} {l : List (List Wk)} (hs : Fg s) (hl : ∀ p ∈ l, Gp p) : ∀ p ∈ addW b s l, Gp p := by
  unfold addW
  split
  · intro p hp
    rcases List.mem_append.1 hp with h | h
    · exact hl p h
    · rw [List.mem_singleton] at h; rw [h]; exact gp_flag hs
  · exact hl
theorem gp_pts {q : Qy} (h : okQy q = true) : ∀ p ∈ ptsW q, Gp p := by
  unfold okQy at h
  rw [Bool.and_eq_true, decide_eq_true_iff] at h
  intro p hp
  rcases List.mem_append.1 hp with hp | hp
  · refine gp_addW ⟨show ∀ c ∈ bRev, c ≠ (32 : UInt8) by decide, by decide +kernel, by simp [bRev]⟩ (gp_addW ⟨show ∀ c ∈ bFirst, c ≠ (32 : UInt8) by decide, by decide +kernel, by simp [bFirst]⟩ (gp_addW (fg_skip (by omega)) (gp_addW (fg_max (by omega)) (gp_addW ⟨show ∀ c ∈ bTime, c ≠ (32 : UInt8) by decide, by decide +kernel, by simp [bTime]⟩ (gp_addW ⟨show ∀ c ∈ bTopo, c ≠ (32 : UInt8) by decide, by decide +kernel, by simp [bTopo]⟩ (by simp)))))) p hp
  · obtain ⟨x, hx, hp⟩ := List.mem_flatMap.1 hp
    have ho := List.all_eq_true.1 h.1 x hx
    have hN : Gp [(2, bNot)] := gp_flag ⟨show ∀ c ∈ bNot, c ≠ (32 : UInt8) by decide, by decide +kernel, by simp [bNot]⟩
    have hI : Gp (itW x) := fun X hb hc => cut_it ho hb hc
    unfold itPW at hp
    split at hp
    · rw [List.mem_singleton] at hp; rw [hp]; exact hI
    · split at hp
      · simp only [List.mem_cons, List.not_mem_nil, or_false] at hp
        rcases hp with rfl | rfl | rfl
        · exact hN
        · exact hI
        · exact hN
      · rw [List.mem_singleton] at hp; rw [hp]; exact hI
theorem cut_parts : ∀ ps : List (List Wk), (∀ p ∈ ps, Gp p) → Cut (bW ps) ∧ Bl (cat (bW ps))
  | [], _ => ⟨trivial, .inl rfl⟩
  | p :: ps, h => by
    obtain ⟨i1, i2⟩ := cut_parts ps (fun p hp => h p (by simp [hp]))
    obtain ⟨j1, c, z, j2, j3⟩ := h p (by simp) (bW ps) i2 i1
    have e : bW (p :: ps) = (8, [32]) :: (p ++ bW ps) := by unfold bW; rw [List.flatMap_cons]; rfl
    rw [e]
    refine ⟨⟨by simp, ?_, j1⟩, .inr ⟨_, rfl⟩⟩
    rw [j2]
    exact one_gap (k := 1) (by omega) (y := c :: z) (by intro d hd; simp at hd; rw [← hd]; exact j3)
end Go.Prs

namespace Go.Prs
open Go.Lex Go.Gap
theorem kd_of {l : List Tok} {k : Nat} {x : List UInt8} {X : List Wk} (h : kt l = (k, x) :: X) : kd l = k ∧ tx l = x ∧ kt l.tail = X ∧ l ≠ [] := by
  cases l with
  | nil => cases h
  | cons t l =>
    simp only [kt, List.map_cons, List.cons.injEq, Prod.mk.injEq] at h
    exact ⟨h.1.1, h.1.2, h.2, by simp⟩
/-- what may follow steps -/
def Hd (R : List Wk) : Prop := ∃ k x X, R = (k, x) :: X ∧ (k = 5 ∨ k = 6 ∨ k = 8 ∨ k = 9)
/-- what may follow a part -/
def He (R : List Wk) : Prop := ∃ k x X, R = (k, x) :: X ∧ (k = 8 ∨ k = 9)
theorem He.hd {R : List Wk} (h : He R) : Hd R := by obtain ⟨k, x, X, e, h⟩ := h; exact ⟨k, x, X, e, by omega⟩
theorem count_dg {m : Nat} (h : m ≤ 9999) : count (dgN m) = (m, true) := by
  obtain ⟨h1, h2⟩ := dgN_digit h
  unfold count
  rw [if_pos ⟨h2, dgN_len m, h1⟩]
  congr 1
  unfold dgN
  repeat' split
  all_goals simp only [dec, List.foldl_cons, List.foldl_nil]
  · rw [ud_nat (by omega)]; omega
  · rw [ud_nat (by omega), ud_nat (by omega)]; omega
  · rw [ud_nat (by omega), ud_nat (by omega), ud_nat (by omega)]; omega
  · rw [ud_nat (by omega), ud_nat (by omega), ud_nat (by omega), ud_nat (by omega)]; omega
theorem head_steps {l : List St} {R : List Wk} (hR : Hd R) : ∃ k x X, stW l ++ R = (k, x) :: X ∧ (k = 3 ∨ k = 4 ∨ k = 5 ∨ k = 6 ∨ k = 8 ∨ k = 9) := by
  cases l with
  | nil => obtain ⟨k, x, X, e, h⟩ := hR; exact ⟨k, x, X, e, by omega⟩
  | cons s l =>
    unfold stW
    rw [List.flatMap_cons]
    unfold stWk
    split
    · exact ⟨3, _, _, rfl, by simp⟩
    · split
      · exact ⟨4, _, _, rfl, by simp⟩
      · exact ⟨3, _, _, rfl, by simp⟩
theorem inner_brace (w : List UInt8) : inner (123 :: (w ++ [125])) = w := by unfold inner; simp
theorem steps_of : ∀ (st : List St), st.all okSt = true → ∀ (l : List Tok) (R : List Wk), Hd R → kt l = stW st ++ R → ∃ l', kt l' = R ∧ ∀ f, l.length ≤ f → steps f l = .ok (st, l')
  | [], _, l, R, hR, h => by
    refine ⟨l, h, fun f _ => ?_⟩
    obtain ⟨k, x, X, e, hk⟩ := hR
    have := (kd_of (h.trans e)).1
    exact steps_end (by omega) (by omega)
  | s :: st, ho, l, R, hR, h => by
    rw [List.all_cons, Bool.and_eq_true] at ho
    have hs := okSt_n ho.1
    have hw : s.k < 3 → s.w = [] := by
      have := ho.1
      unfold okSt at this
      rw [Bool.and_eq_true, decide_eq_true_iff] at this
      exact this.1.2.2.2.2.2
    have h3n : s.k = 3 → s.n = 0 := by
      have := ho.1
      unfold okSt at this
      rw [Bool.and_eq_true, decide_eq_true_iff] at this
      exact this.1.2.2.2.2.1
    have e : kt l = stWk s ++ (stW st ++ R) := by rw [h]; unfold stW; rw [List.flatMap_cons, List.append_assoc]
    obtain ⟨yk, yx, Y, hY, hyk⟩ := head_steps (l := st) hR
    obtain ⟨sk, sn, sw⟩ := s
    simp only at hs hw h3n
    unfold stWk at e
    simp only at e
    -- the count behind a mark
    have hcnt : ∀ m : List Tok, kt m = numW sn ++ (stW st ++ R) → kd m ≠ 7 ∧ ∃ m', cnt m = .ok (sn.toNat, m') ∧ kt m' = stW st ++ R ∧ m'.length ≤ m.length := by
      intro m hm
      unfold numW at hm
      by_cases h1 : sn = 1
      · rw [if_pos h1, List.nil_append] at hm
        have hk := (kd_of (hm.trans hY)).1
        refine ⟨by omega, m, ?_, hm, Nat.le_refl _⟩
        unfold cnt
        rw [if_neg (by omega), h1]; rfl
      · rw [if_neg h1] at hm
        obtain ⟨i1, i2, i3, i4⟩ := kd_of hm
        refine ⟨by omega, m.tail, ?_, i3, by rw [List.length_tail]; omega⟩
        unfold cnt
        rw [if_pos i1, i2]
        unfold dg
        rw [count_dg hs.2.2.1]
        rfl
    by_cases k1 : sk = 1
    · rw [if_pos k1] at e
      obtain ⟨i1, i2, i3, i4⟩ := kd_of e
      obtain ⟨j1, m', j2, j3, j4⟩ := hcnt _ i3
      obtain ⟨l', q1, q2⟩ := steps_of st ho.2 m' R hR j3
      have hlt : l.tail.length + 1 = l.length := by rw [List.length_tail]; have := List.length_pos_iff.2 i4; omega
      refine ⟨l', q1, fun f hf => ?_⟩
      rw [steps_up hf i4 i1 j1 j2, q2 (f - 1) (by omega)]
      have : sw = [] := hw (by omega)
      subst this k1
      rw [← hs.2.2.2]; rfl
    · rw [if_neg k1] at e
      by_cases k2 : sk = 2
      · rw [if_pos k2] at e
        obtain ⟨i1, i2, i3, i4⟩ := kd_of e
        obtain ⟨j1, m', j2, j3, j4⟩ := hcnt _ i3
        obtain ⟨l', q1, q2⟩ := steps_of st ho.2 m' R hR j3
        have hlt : l.tail.length + 1 = l.length := by rw [List.length_tail]; have := List.length_pos_iff.2 i4; omega
        refine ⟨l', q1, fun f hf => ?_⟩
        rw [steps_back hf i4 i1 j2, q2 (f - 1) (by omega)]
        have : sw = [] := hw (by omega)
        subst this k2
        rw [← hs.2.2.2]; rfl
      · rw [if_neg k2] at e
        obtain ⟨i1, i2, i3, i4⟩ := kd_of e
        obtain ⟨j1, j2, j3, j4⟩ := kd_of i3
        obtain ⟨l', q1, q2⟩ := steps_of st ho.2 _ R hR j3
        have hlt : l.tail.length + 1 = l.length := by rw [List.length_tail]; have := List.length_pos_iff.2 i4; omega
        refine ⟨l', q1, fun f hf => ?_⟩
        rw [steps_peel hf i4 i1 j1, q2 (f - 1) (by rw [List.length_tail]; omega), j2, inner_brace]
        have k3 : sk = 3 := by omega
        have := h3n k3
        subst this k3
        rfl
theorem rev_of {r : Rv} (ho : okRv r = true) {l : List Tok} {R : List Wk} (hR : Hd R) (h : kt l = rvW r ++ R) : ∃ l', kt l' = R ∧ rev l = .ok (r, l') := by
  obtain ⟨hb, hs⟩ := okRv_parts ho
  obtain ⟨i1, i2, i3, i4⟩ := kd_of h
  obtain ⟨l', q1, q2⟩ := steps_of r.st hs l.tail R hR i3
  refine ⟨l', q1, ?_⟩
  unfold rev
  rw [if_pos ⟨i1, by rw [i2]; exact hb⟩, q2 l.length (by rw [List.length_tail]; omega), i2]
theorem itm_one {x : It} (ho : okIt x = true) (h1 : x.k = 1) {l : List Tok} {R : List Wk} (hR : He R) (h : kt l = itW x ++ R) : (kd l = 1 ∨ kd l = 3) ∧ ∃ l', kt l' = R ∧ item false l = .ok (x, l') := by
  obtain ⟨_, ha, _, hz'⟩ := okIt_parts ho
  have hz := hz' h1
  clear hz'
  obtain ⟨xk, xa, xb, xn⟩ := x
  simp only at h1 hz ha
  subst h1 hz
  unfold itW at h
  rw [if_pos rfl] at h
  obtain ⟨rk, rx, RX, re, rh⟩ := hR
  cases xn
  · simp only [Bool.false_eq_true, if_false] at h
    obtain ⟨l', q1, q2⟩ := rev_of ha (He.hd ⟨rk, rx, RX, re, rh⟩) h
    have i1 := (kd_of h).1
    have j1 := (kd_of (q1.trans re)).1
    refine ⟨.inl i1, l', q1, ?_⟩
    have d0 : dots l = 0 := by unfold dots; rw [if_neg (by omega), if_neg (by omega)]
    have d1 : dots l' = 0 := by unfold dots; rw [if_neg (by omega), if_neg (by omega)]
    unfold item
    rw [if_neg (by omega), if_pos d0, q2]
    simp only [d1, if_true]
  · simp only [if_true] at h
    obtain ⟨i1, i2, i3, i4⟩ := kd_of h
    obtain ⟨l', q1, q2⟩ := rev_of ha (He.hd ⟨rk, rx, RX, re, rh⟩) i3
    refine ⟨.inr i1, l', q1, ?_⟩
    unfold item
    rw [if_pos i1, q2]; rfl
theorem itm_two {x : It} (ho : okIt x = true) (h1 : x.k ≠ 1) {l : List Tok} {R : List Wk} (hR : He R) (h : kt l = itW x ++ R) : kd l = 1 ∧ ∃ l', kt l' = R ∧ item x.nt l = .ok (x, l') := by
  obtain ⟨hk, ha, hb, _⟩ := okIt_parts ho
  have hb := hb h1
  obtain ⟨xk, xa, xb, xn⟩ := x
  simp only at h1 ha hb hk ⊢
  unfold itW at h
  simp only at h
  rw [if_neg h1, List.append_assoc, List.cons_append] at h
  have hD : Hd ((if xk = 3 then ((6 : Nat), [46, 46, 46]) else (5, [46, 46])) :: (rvW xb ++ R)) := by
    split
    · exact ⟨6, _, _, rfl, by simp⟩
    · exact ⟨5, _, _, rfl, by simp⟩
  obtain ⟨r, q1, q2⟩ := rev_of ha hD h
  have i1 := (kd_of h).1
  have hr : ∃ x0, kt r = ((if xk = 3 then 6 else 5 : Nat), x0) :: (rvW xb ++ R) := by
    rw [q1]; split
    · exact ⟨_, rfl⟩
    · exact ⟨_, rfl⟩
  obtain ⟨x0, hr⟩ := hr
  obtain ⟨j1, _, j3, _⟩ := kd_of hr
  obtain ⟨l', p1, p2⟩ := rev_of hb hR.hd j3
  have m1 := (kd_of j3).1
  refine ⟨i1, l', p1, ?_⟩
  have d0 : dots l = 0 := by unfold dots; rw [if_neg (by omega), if_neg (by omega)]
  have d1 : (dots r : Int) = xk ∧ dots r ≠ 0 := by
    unfold dots
    rcases hk with hk | hk | hk
    · exact absurd hk h1
    · subst hk
      rw [if_neg (by decide)] at j1
      rw [if_pos j1]; exact ⟨rfl, by decide⟩
    · subst hk
      rw [if_pos rfl] at j1
      rw [if_neg (by omega), if_pos j1]; exact ⟨rfl, by decide⟩
  unfold item
  rw [if_neg (by omega), if_pos d0, q2]
  simp only [if_neg d1.2, if_pos m1, p2]
  rw [d1.1]
/-! ### rounds -/
def Rd (p : List Wk) (q : Qy) (nt : Bool) (q' : Qy) (nt' : Bool) : Prop :=
  ∀ (l : List Tok) (R : List Wk), He R → kt l = p ++ R → kd l ≠ 8 ∧ kd l ≠ 9 ∧ ∃ l', kt l' = R ∧ round l q nt = .ok (q', nt', l')
theorem rd_flag {s : List UInt8} {q q' : Qy} {nt nt' : Bool} (h : flg s q nt = some (q', nt')) : Rd [(2, s)] q nt q' nt' := by
  intro l R hR hl
  obtain ⟨i1, i2, i3, i4⟩ := kd_of hl
  refine ⟨by omega, by omega, l.tail, i3, ?_⟩
  unfold round
  rw [if_pos i1, i2, h]
theorem rd_one {x : It} (ho : okIt x = true) (h1 : x.k = 1) (q : Qy) : Rd (itW x) q false { q with its := q.its ++ [x] } false := by
  intro l R hR hl
  obtain ⟨hk, l', q1, q2⟩ := itm_one ho h1 hR hl
  refine ⟨by omega, by omega, l', q1, ?_⟩
  unfold round
  rw [if_neg (by omega), q2]
theorem rd_two {x : It} (ho : okIt x = true) (h1 : x.k ≠ 1) (q : Qy) : Rd (itW x) q x.nt { q with its := q.its ++ [x] } x.nt := by
  intro l R hR hl
  obtain ⟨hk, l', q1, q2⟩ := itm_two ho h1 hR hl
  refine ⟨by omega, by omega, l', q1, ?_⟩
  unfold round
  rw [if_neg (by omega), q2]
inductive Run : List (List Wk) → Qy → Bool → Qy → Bool → Prop
  | nil (q : Qy) (nt : Bool) : Run [] q nt q nt
  | cons {p : List Wk} {ps : List (List Wk)} {q q1 q2 : Qy} {n n1 n2 : Bool} : Rd p q n q1 n1 → Run ps q1 n1 q2 n2 → Run (p :: ps) q n q2 n2
theorem Run.app {ps qs : List (List Wk)} {q q1 q2 : Qy} {n n1 n2 : Bool} (h1 : Run ps q n q1 n1) (h2 : Run qs q1 n1 q2 n2) : Run (ps ++ qs) q n q2 n2 := by
  induction h1 with
  | nil => exact h2
  | cons h _ ih => exact .cons h (ih h2)
theorem he_bW (ps : List (List Wk)) : He (bW ps ++ [(9, [])]) := by
  cases ps with
  | nil => exact ⟨9, _, _, rfl, .inr rfl⟩
  | cons p ps => exact ⟨8, _, _, rfl, .inl rfl⟩
theorem bW_cons (p : List Wk) (ps : List (List Wk)) : bW (p :: ps) = (8, [32]) :: (p ++ bW ps) := by unfold bW; rw [List.flatMap_cons]; rfl
theorem quest_run {ps : List (List Wk)} {q q' : Qy} {n n' : Bool} (h : Run ps q n q' n') : ∀ (f : Nat) (l : List Tok), l.length < f → (kt l = bW ps ++ [(9, [])] ∨ kt l = (bW ps).tail ++ [(9, [])]) → quest f l q n = .ok q' := by
  induction h with
  | nil q nt =>
    intro f l hf hl
    obtain ⟨f, rfl⟩ : ∃ g, f = g + 1 := ⟨f - 1, by omega⟩
    have hl : kt l = [(9, [])] := by rcases hl with hl | hl <;> exact hl
    have hk := (kd_of hl).1
    unfold quest
    have hs : skipGap l = l := by unfold skipGap; rw [if_neg (by omega)]
    rw [hs, if_pos hk]
  | @cons p ps q q1 q2 n n1 n2 hr _ ih =>
    intro f l hf hl
    obtain ⟨f, rfl⟩ : ∃ g, f = g + 1 := ⟨f - 1, by omega⟩
    have hm : kt (skipGap l) = p ++ (bW ps ++ [(9, [])]) ∧ (skipGap l).length ≤ l.length := by
      rcases hl with hl | hl
      · rw [bW_cons, List.cons_append, List.append_assoc] at hl
        obtain ⟨i1, _, i3, _⟩ := kd_of hl
        unfold skipGap
        rw [if_pos i1]
        exact ⟨i3, by rw [List.length_tail]; omega⟩
      · rw [bW_cons, List.tail_cons, List.append_assoc] at hl
        have := (hr l _ (he_bW ps) hl).1
        unfold skipGap
        rw [if_neg this]
        exact ⟨hl, Nat.le_refl _⟩
    obtain ⟨_, h9, l', hl', hround⟩ := hr _ _ (he_bW ps) hm.1
    have hlt := Go.Gap.round_lt hround
    obtain ⟨k, x, X, e, hk⟩ := he_bW ps
    have hkd := (kd_of (hl'.trans e)).1
    unfold quest
    rw [if_neg h9, hround]
    simp only
    rw [if_pos (by omega)]
    exact ih f l' (by omega) (.inl hl')
/-! ### the flags -/
theorem run_add {b : Bool} {s : List UInt8} {l : List (List Wk)} {q0 q1 q2 : Qy} (h : Run l q0 false q1 false) (ht : b = true → flg s q1 false = some (q2, false)) (hf : b = false → q2 = q1) : Run (addW b s l) q0 false q2 false := by
  unfold addW
  cases b
  · rw [hf rfl]; exact h
  · exact h.app (.cons (rd_flag (ht rfl)) (.nil _ _))
theorem flg_max {m : Nat} (h : m ≤ 9999) (q : Qy) (nt : Bool) : flg (bMax ++ dgN m) q nt = some ({ q with mx := (m : Nat) }, nt) := by
  have e : upto61 (bMax ++ dgN m) = [45, 45, 109, 97, 120] := rfl
  have e2 : (bMax ++ dgN m).drop (([45, 45, 109, 97, 120] : List UInt8).length + 1) = dgN m := rfl
  unfold flg
  rw [e, if_pos (by simp [bMax]), e2, count_dg h, if_pos ⟨rfl, by decide +kernel⟩]
theorem flg_skip {m : Nat} (h : m ≤ 9999) (q : Qy) (nt : Bool) : flg (bSkip ++ dgN m) q nt = some ({ q with sk := (m : Nat) }, nt) := by
  have e : upto61 (bSkip ++ dgN m) = [45, 45, 115, 107, 105, 112] := rfl
  have e2 : (bSkip ++ dgN m).drop (([45, 45, 115, 107, 105, 112] : List UInt8).length + 1) = dgN m := rfl
  unfold flg
  rw [e, if_pos (by simp [bSkip]), e2, count_dg h, if_neg (by rintro ⟨_, h2⟩; exact absurd h2 (by decide +kernel)), if_pos ⟨rfl, by decide +kernel⟩]
theorem flg_not (q : Qy) (nt : Bool) : flg bNot q nt = some (q, !nt) := by
  unfold flg; rw [if_neg (by decide +kernel), if_pos (by decide +kernel)]
theorem flg_topo (q : Qy) (nt : Bool) : flg bTopo q nt = some ({ q with od := 1 }, nt) := by
  unfold flg; rw [if_neg (by decide +kernel), if_neg (by decide +kernel), if_neg (by decide +kernel), if_pos (by decide +kernel)]
theorem flg_time (q : Qy) (nt : Bool) : flg bTime q nt = some ({ q with od := 2 }, nt) := by
  unfold flg; rw [if_neg (by decide +kernel), if_neg (by decide +kernel), if_neg (by decide +kernel), if_neg (by decide +kernel), if_pos (by decide +kernel)]
theorem flg_first (q : Qy) (nt : Bool) : flg bFirst q nt = some ({ q with fi := true }, nt) := by
  unfold flg; rw [if_neg (by decide +kernel), if_neg (by decide +kernel), if_neg (by decide +kernel), if_neg (by decide +kernel), if_neg (by decide +kernel), if_pos (by decide +kernel)]
theorem flg_rev (q : Qy) (nt : Bool) : flg bRev q nt = some ({ q with rv := true }, nt) := by
  unfold flg; rw [if_neg (by decide +kernel), if_neg (by decide +kernel), if_neg (by decide +kernel), if_neg (by decide +kernel), if_neg (by decide +kernel), if_neg (by decide +kernel), if_pos (by decide +kernel)]
theorem run_fl {q : Qy} (h : okQy q = true) : Run (flW q) nQy false ⟨[], q.mx, q.sk, q.od, q.fi, q.rv⟩ false := by
  unfold okQy at h
  rw [Bool.and_eq_true, decide_eq_true_iff] at h
  obtain ⟨_, h1, h2, h3, h4, h5, h6⟩ := h
  unfold flW
  refine run_add (q1 := ⟨[], q.mx, q.sk, q.od, q.fi, false⟩) (run_add (q1 := ⟨[], q.mx, q.sk, q.od, false, false⟩) (run_add (q1 := ⟨[], q.mx, 0, q.od, false, false⟩) (run_add (q1 := ⟨[], -1, 0, q.od, false, false⟩) (run_add (q1 := ⟨[], -1, 0, if q.od = 1 then 1 else 0, false, false⟩) (run_add (.nil nQy false) ?_ ?_) ?_ ?_) ?_ ?_) ?_ ?_) ?_ ?_) ?_ ?_
  · intro hb; rw [flg_topo, if_pos (by simpa using hb)]; rfl
  · intro hb; rw [if_neg (by simpa using hb)]; rfl
  · intro hb
    have : q.od = 2 := by simpa using hb
    rw [flg_time, this]
  · intro hb
    have : q.od ≠ 2 := by simpa using hb
    split
    · rename_i h; rw [h]
    · have : q.od = 0 := by omega
      rw [this]
  · intro hb
    have : 0 ≤ q.mx := by simpa using hb
    unfold dg
    rw [max0 this, flg_max (by omega), show ((q.mx.toNat : Nat) : Int) = q.mx by omega]
  · intro hb
    have : ¬ 0 ≤ q.mx := by simpa using hb
    rw [show q.mx = -1 by omega]
  · intro hb
    have : 0 < q.sk := by simpa using hb
    unfold dg
    rw [flg_skip (by omega), show ((q.sk.toNat : Nat) : Int) = q.sk by omega]
  · intro hb
    have : ¬ 0 < q.sk := by simpa using hb
    rw [show q.sk = 0 by omega]
  · intro hb; rw [flg_first, hb]
  · intro hb; rw [hb]
  · intro hb; rw [flg_rev, hb]
  · intro hb; rw [hb]
theorem run_its : ∀ (its : List It), its.all okIt = true → ∀ q : Qy, Run (its.flatMap itPW) q false { q with its := q.its ++ its } false
  | [], _, q => by rw [List.append_nil]; exact .nil _ _
  | x :: its, h, q => by
    rw [List.all_cons, Bool.and_eq_true] at h
    have ih := run_its its h.2 { q with its := q.its ++ [x] }
    simp only [List.append_assoc, List.singleton_append] at ih
    rw [List.flatMap_cons]
    refine Run.app ?_ ih
    unfold itPW
    by_cases h1 : x.k = 1
    · rw [if_pos h1]
      exact .cons (rd_one h.1 h1 q) (.nil _ _)
    · rw [if_neg h1]
      have hr := rd_two h.1 h1 q
      cases hn : x.nt
      · rw [hn] at hr
        exact .cons hr (.nil _ _)
      · rw [hn] at hr
        exact .cons (rd_flag (flg_not q false)) (.cons hr (.cons (rd_flag (flg_not _ true)) (.nil _ _)))
theorem run_q {q : Qy} (h : okQy q = true) : Run (ptsW q) nQy false q false := by
  have h1 := run_fl h
  unfold okQy at h
  rw [Bool.and_eq_true] at h
  have h2 := run_its q.its h.1 ⟨[], q.mx, q.sk, q.od, q.fi, q.rv⟩
  exact h1.app h2
/-- a printed question comes back, or has too many tokens -/
theorem print_back {q : Qy} (h : okQy q = true) (hl : (qyT q).length ≤ 201) : parse (qyT q).tail = (q, 0, 0) ∨ ∃ p, tokens one (qyT q).tail = .error (p, 5) := by
  have hc := (cut_parts _ (gp_pts h)).1
  have hcat : cat (bW (ptsW q)) = qyT q := by rw [cat_bW, map_ptsW h, qyT_bl h]
  have hct : Cut (bW (ptsW q)).tail ∧ cat (bW (ptsW q)).tail = (qyT q).tail := by
    rw [← hcat]
    cases hp : ptsW q with
    | nil => exact ⟨trivial, rfl⟩
    | cons p ps =>
      rw [hp] at hc
      rw [bW_cons] at hc ⊢
      exact ⟨hc.2.2, rfl⟩
  have hlen : (qyT q).tail.length ≤ 200 := by rw [List.length_tail]; omega
  have htk : tokens one (qyT q).tail = tkG one ((qyT q).tail.length + 1) (qyT q).tail 0 0 := by unfold tokens; rw [if_neg (by omega)]
  rcases tk_cut (bW (ptsW q)).tail ((qyT q).tail.length + 1) 0 0 hct.1 (by rw [hct.2]; omega) with ⟨p, hp⟩ | ⟨l, hp, hk⟩
  · rw [hct.2] at hp
    exact .inr ⟨p, by rw [htk, hp]⟩
  · rw [hct.2] at hp
    refine .inl (parse_ok (by rw [htk]; exact hp) ?_)
    exact quest_run (run_q h) _ _ (by omega) (.inr hk)
end Go.Prs

namespace Go.Prs
open Go.Lex Go.Gap
/-- tokens as a text of at most 200 bytes gives them -/
def Tg (l : List Tok) : Prop := ∀ t ∈ l, t.2.1.length ≤ 200 ∧ (t.1 = 7 → (inner t.2.1).all letter = true)
theorem Tg.sub {l r : List Tok} (h : Tg l) (hs : ∀ t ∈ r, t ∈ l) : Tg r := fun t ht => h t (hs t ht)
theorem kind7 {l : List UInt8} (h : kind l = 7) : (inner l).all letter = true := by
  unfold kind at h
  by_cases hb : rbrace l = true
  · unfold rbrace at hb
    rw [decide_eq_true_iff] at hb
    exact hb.2.2.2
  · exfalso
    rw [Bool.not_eq_true] at hb
    rw [hb] at h
    repeat' split at h
    all_goals first | exact absurd h (by decide) | contradiction | (simp_all; done)
theorem tk_tg : ∀ (f : Nat) (r : List UInt8) (p c : Nat) (m : List Tok), tkG one f r p c = .ok m → r.length ≤ 200 → Tg m
  | 0, _, _, _, _, h, _ => by cases h
  | f + 1, r, p, c, m, h, hl => by
    by_cases h0 : r = []
    · subst h0
      rw [tkG_end] at h
      split at h
      · cases h
      · cases h; intro t ht; rw [List.mem_singleton] at ht; subst ht; exact ⟨by simp, by simp⟩
    · obtain ⟨K, n, hK⟩ : ∃ K n, one r = (K, n) := ⟨_, _, rfl⟩
      rw [tk_step h0 hK] at h
      split at h
      · cases h
      · rename_i hn
        split at h
        · cases h
        · cases hx : tkG one f (r.drop n) (p + n) (c + 1) with
          | error e => rw [hx] at h; cases h
          | ok l2 =>
            rw [hx] at h; cases h
            have ih := tk_tg f _ _ _ _ hx (by rw [List.length_drop]; omega)
            intro t ht
            rcases List.mem_cons.1 ht with rfl | ht
            · refine ⟨by simp only [List.length_take]; omega, fun h7 => ?_⟩
              simp only at h7
              rcases one_first r h0 with ⟨h1, _⟩ | h1
              · rw [hK] at h1; exact absurd h1 hn
              · rw [hK] at h1
                exact kind7 (((first_kind h1.symm hn).1).trans h7)
            · exact ih t ht
theorem tokens_tg {s : List UInt8} {l : List Tok} (h : tokens one s = .ok l) : Tg l := by
  unfold tokens at h
  split at h
  · cases h
  · exact tk_tg _ _ _ _ _ h (by omega)
theorem count_le {t : List UInt8} (h : (count t).2 = true) : (count t).1 ≤ 9999 := by
  unfold count at h ⊢
  split at h
  · rename_i hc
    rw [if_pos hc]
    have := dec_bound t hc.2.2 t.length (Nat.le_refl _)
    rw [List.take_length] at this
    have : 10 ^ t.length ≤ 10 ^ 4 := Nat.pow_le_pow_right (by omega) hc.2.1
    show dec t ≤ 9999
    omega
  · cases h
theorem tail_sub {l r : List Tok} (h : ∀ t ∈ r, t ∈ l.tail) : ∀ t ∈ r, t ∈ l := fun t ht => List.mem_of_mem_tail (h t ht)
theorem cnt_good {l r : List Tok} {n : Nat} (h : cnt l = .ok (n, r)) : n ≤ 9999 ∧ ∀ t ∈ r, t ∈ l := by
  unfold cnt at h
  split at h
  · split at h
    · rename_i hc
      cases h
      exact ⟨count_le hc, fun t ht => List.mem_of_mem_tail ht⟩
    · cases h
  · cases h; exact ⟨by omega, fun t ht => ht⟩
theorem head_mem {l : List Tok} {k : Nat} (h : kd l = k) (hk : k ≠ 0) : ∃ t ∈ l, t.1 = k ∧ tx l = t.2.1 := by
  cases l with
  | nil => exact absurd h.symm hk
  | cons t l => exact ⟨t, by simp, h, rfl⟩
def Sg (x : List St) : Prop := x.all okSt = true ∧ ∀ s ∈ x, s.w.length ≤ 200
theorem Sg.cons {s : St} {x : List St} (h1 : okSt s = true) (h2 : s.w.length ≤ 200) (h : Sg x) : Sg (s :: x) := by
  refine ⟨by rw [List.all_cons, h1, h.1]; rfl, fun t ht => ?_⟩
  rcases List.mem_cons.1 ht with rfl | ht
  · exact h2
  · exact h.2 t ht
theorem ok_n {k n : Nat} (hk : k = 1 ∨ k = 2) (hn : n ≤ 9999) : okSt ⟨(k : Int), (n : Int), []⟩ = true := by
  unfold okSt
  rw [decide_eq_true]
  · rfl
  · refine ⟨by simp only; omega, by simp only; omega, by simp only; omega, by simp only; omega, fun h => ?_, fun _ => rfl⟩
    simp only at h; omega
theorem steps_good : ∀ (f : Nat) (l : List Tok) (x : List St) (r : List Tok), Tg l → steps f l = .ok (x, r) → Sg x ∧ ∀ t ∈ r, t ∈ l
  | 0, l, x, r, _, h => by cases h; exact ⟨⟨rfl, by simp⟩, fun t ht => ht⟩
  | f + 1, l, x, r, hg, h => by
    unfold steps at h
    split at h
    · split at h
      · rename_i h3 h7
        obtain ⟨z, rfl, hz⟩ := cons_okF h
        have hgt : Tg l.tail := hg.sub (fun t ht => List.mem_of_mem_tail ht)
        have hgt2 : Tg l.tail.tail := hgt.sub (fun t ht => List.mem_of_mem_tail ht)
        obtain ⟨i1, i2⟩ := steps_good f _ _ _ hgt2 hz
        obtain ⟨t, ht, ht1, ht2⟩ := head_mem h7 (by decide)
        obtain ⟨g1, g2⟩ := hgt t ht
        have hw := g2 ht1
        refine ⟨.cons ?_ ?_ i1, tail_sub (tail_sub i2)⟩
        · unfold okSt
          rw [ht2]
          simp only
          rw [hw, decide_eq_true (by simp)]; rfl
        · rw [ht2]
          unfold inner
          rw [List.length_take, List.length_drop]; omega
      · split at h
        · cases h
        · rename_i n r2 hc
          obtain ⟨z, rfl, hz⟩ := cons_okF h
          obtain ⟨c1, c2⟩ := cnt_good hc
          have hgt : Tg r2 := hg.sub (tail_sub c2)
          obtain ⟨i1, i2⟩ := steps_good f _ _ _ hgt hz
          exact ⟨.cons (ok_n (k := 1) (.inl rfl) c1) (by simp) i1, fun t ht => tail_sub c2 t (i2 t ht)⟩
    · split at h
      · split at h
        · cases h
        · rename_i n r2 hc
          obtain ⟨z, rfl, hz⟩ := cons_okF h
          obtain ⟨c1, c2⟩ := cnt_good hc
          have hgt : Tg r2 := hg.sub (tail_sub c2)
          obtain ⟨i1, i2⟩ := steps_good f _ _ _ hgt hz
          exact ⟨.cons (ok_n (k := 2) (.inr rfl) c1) (by simp) i1, fun t ht => tail_sub c2 t (i2 t ht)⟩
      · cases h; exact ⟨⟨rfl, by simp⟩, fun t ht => ht⟩
def Rg (x : Rv) : Prop := okRv x = true ∧ LgR x
theorem rev_good {l r : List Tok} {x : Rv} (hg : Tg l) (hl : l.length ≤ 61) (h : rev l = .ok (x, r)) : Rg x ∧ ∀ t ∈ r, t ∈ l := by
  have hlen := rev_lenF h
  unfold rev at h
  split at h
  · rename_i hc
    split at h
    · cases h
    · rename_i y r2 hs
      cases h
      obtain ⟨i1, i2⟩ := steps_good _ _ _ _ (hg.sub (fun t ht => List.mem_of_mem_tail ht)) hs
      obtain ⟨t, ht, ht1, ht2⟩ := head_mem hc.1 (by decide)
      have g1 := (hg t ht).1
      refine ⟨⟨by unfold okRv; rw [hc.2, i1.1]; rfl, ?_, by simp only at hlen; simp only; omega, fun s hs => by have := i1.2 s hs; omega⟩, tail_sub i2⟩
      simp only
      rw [ht2]; omega
  · cases h
theorem rg_here : Rg here := ⟨by decide +kernel, by unfold here; simp, by unfold here; simp, by unfold here; simp⟩
theorem lgR_z : LgR zRv := ⟨by simp [zRv], by simp [zRv], by simp [zRv]⟩
def Ig (x : It) : Prop := okIt x = true ∧ LgR x.a ∧ LgR x.b
theorem ig_one {a : Rv} (h : Rg a) (nt : Bool) : Ig ⟨1, a, zRv, nt⟩ := ⟨by unfold okIt; simp [h.1], h.2, lgR_z⟩
theorem ig_two {a b : Rv} {d : Nat} (h1 : Rg a) (h2 : Rg b) (hd : d = 2 ∨ d = 3) (nt : Bool) : Ig ⟨(d : Int), a, b, nt⟩ := by
  refine ⟨?_, h1.2, h2.2⟩
  unfold okIt
  simp only
  rw [if_neg (by omega), h1.1, h2.1, decide_eq_true (by omega)]; rfl
theorem dots_is {l : List Tok} (h : dots l ≠ 0) : dots l = 2 ∨ dots l = 3 := by
  unfold dots at h ⊢
  split
  · exact .inl rfl
  · split
    · exact .inr rfl
    · rename_i h5 h6; rw [if_neg h5, if_neg h6] at h; exact absurd rfl h
theorem item_good {nt : Bool} {l r : List Tok} {x : It} (hg : Tg l) (hl : l.length ≤ 61) (h : item nt l = .ok (x, r)) : Ig x ∧ ∀ t ∈ r, t ∈ l := by
  have hgt : Tg l.tail := hg.sub (fun t ht => List.mem_of_mem_tail ht)
  have hlt : l.tail.length ≤ 61 := by rw [List.length_tail]; omega
  unfold item at h
  split at h
  · split at h
    · cases h
    · rename_i a r2 hr
      cases h
      obtain ⟨i1, i2⟩ := rev_good hgt hlt hr
      exact ⟨ig_one i1 _, tail_sub i2⟩
  · split at h
    · split at h
      · cases h
      · rename_i a r2 hr
        obtain ⟨i1, i2⟩ := rev_good hg hl hr
        have hlr := rev_lenF hr
        split at h
        · cases h; exact ⟨ig_one i1 _, i2⟩
        · rename_i hd
          have hg2 : Tg r2.tail := hg.sub (fun t ht => i2 t (List.mem_of_mem_tail ht))
          split at h
          · split at h
            · cases h
            · rename_i b r3 hr3
              cases h
              obtain ⟨j1, j2⟩ := rev_good hg2 (by rw [List.length_tail]; omega) hr3
              exact ⟨ig_two i1 j1 (dots_is hd) _, fun t ht => i2 t (List.mem_of_mem_tail (j2 t ht))⟩
          · cases h
            exact ⟨ig_two i1 rg_here (dots_is hd) _, fun t ht => i2 t (List.mem_of_mem_tail ht)⟩
    · rename_i hd
      split at h
      · cases h
      · rename_i b r2 hr
        cases h
        obtain ⟨i1, i2⟩ := rev_good hgt hlt hr
        exact ⟨ig_two rg_here i1 (dots_is hd) _, tail_sub i2⟩
def Ng (q : Qy) : Prop := -1 ≤ q.mx ∧ q.mx ≤ 9999 ∧ 0 ≤ q.sk ∧ q.sk ≤ 9999 ∧ 0 ≤ q.od ∧ q.od ≤ 2
theorem flg_good {s : List UInt8} {q q' : Qy} {nt nt' : Bool} (h : flg s q nt = some (q', nt')) (hn : Ng q) : Ng q' := by
  obtain ⟨n1, n2, n3, n4, n5, n6⟩ := hn
  unfold flg at h
  split at h
  · split at h
    · rename_i hc; cases h
      have := count_le hc.1
      exact ⟨by simp only; omega, by simp only; omega, n3, n4, n5, n6⟩
    · split at h
      · rename_i hc; cases h
        have := count_le hc.1
        exact ⟨n1, n2, by simp only; omega, by simp only; omega, n5, n6⟩
      · cases h
  · repeat' split at h
    all_goals first | (cases h; done) | (cases h; exact ⟨n1, n2, n3, n4, by first | exact n5 | (simp only; omega), by first | exact n6 | (simp only; omega)⟩)
theorem quest_good : ∀ (f : Nat) (l : List Tok) (q q' : Qy) (nt : Bool), quest f l q nt = .ok q' → Tg l → q.its.length + l.length ≤ 61 → Ng q → (∀ x ∈ q.its, Ig x) → Ng q' ∧ q'.its.length ≤ 61 ∧ ∀ x ∈ q'.its, Ig x
  | 0, l, q, q', nt, h, _, hl, hn, hi => by cases h; exact ⟨hn, by omega, hi⟩
  | f + 1, l, q, q', nt, h, hg, hl, hn, hi => by
    have hs : Tg (skipGap l) ∧ (skipGap l).length ≤ l.length := by
      unfold skipGap
      split
      · exact ⟨hg.sub (fun t ht => List.mem_of_mem_tail ht), by rw [List.length_tail]; omega⟩
      · exact ⟨hg, Nat.le_refl _⟩
    unfold quest at h
    split at h
    · cases h; exact ⟨hn, by omega, hi⟩
    · split at h
      · cases h
      · rename_i q2 nt2 r hr
        have hlt := Go.Gap.round_lt hr
        split at h
        · unfold round at hr
          split at hr
          · split at hr
            · rename_i q3 nt3 hf
              cases hr
              have e := flg_itsF hf
              exact quest_good f _ _ _ _ h (hs.1.sub (fun t ht => List.mem_of_mem_tail ht)) (by rw [e]; omega) (flg_good hf hn) (by rw [e]; exact hi)
            · cases hr
          · split at hr
            · cases hr
            · rename_i x r2 hx
              cases hr
              obtain ⟨i1, i2⟩ := item_good hs.1 (by omega) hx
              refine quest_good f _ _ _ _ h (hs.1.sub i2) (by simp; omega) hn ?_
              intro y hy
              rcases List.mem_append.1 hy with hy | hy
              · exact hi y hy
              · rw [List.mem_singleton] at hy; rw [hy]; exact i1
        · cases h
/-- what was read may be, and is not too large -/
theorem parse_good {s : List UInt8} {q : Qy} {p : Nat} (h : parse s = (q, p, 0)) : okQy q = true ∧ Lg q := by
  unfold parse at h
  split at h
  · rename_i p2 c hk
    have := (Go.Lex.tokens_err hk).1
    simp only [Prod.mk.injEq] at h
    exact absurd h.2.2 this
  · rename_i l hk
    split at h
    · simp only [Prod.mk.injEq] at h; exact absurd h.2.2 (by decide)
    · rename_i q2 hq
      simp only [Prod.mk.injEq] at h
      obtain ⟨rfl, _, _⟩ := h
      obtain ⟨i1, i2, i3⟩ := quest_good _ _ _ _ _ hq (tokens_tg hk) (by have := tokens_lenF hk; simp [nQy]; omega) (by unfold Ng nQy; simp) (by simp [nQy])
      refine ⟨?_, by omega, fun x hx => (i3 x hx).2⟩
      unfold okQy
      rw [Bool.and_eq_true, decide_eq_true_iff]
      exact ⟨List.all_eq_true.2 (fun x hx => (i3 x hx).1), i1⟩
end Go.Prs
